import Derived.Test.YtifbnniijibfgaaPxN
set_option linter.all false
set_option maxRecDepth 10000
namespace Go.PX
open Go.Proofs

theorem gaugesL_iff {set : Int} : ∀ {l : List Gauge} {last : Int}, gaugesL set last l = 0 ↔ (∀ g ∈ l, ((set ≤ g.day ∧ g.day ≤ 40000) ∧ (0 ≤ g.shown ∧ g.shown ≤ 60000)) ∧ last ≤ g.day) ∧ l.Pairwise (fun a b => a.day ≤ b.day)
  | [], last => by simp [gaugesL]
  | g :: r, last => by
    simp only [gaugesL, List.forall_mem_cons, List.pairwise_cons]
    split
    · rename_i hin
      simp only [Bool.and_eq_true, inB_iff] at hin
      split
      · rename_i hlt
        exact ⟨fun h => absurd h (by decide), fun h => by have := h.1.1.2; omega⟩
      · rename_i hlt
        rw [gaugesL_iff (l := r)]
        constructor
        · rintro ⟨h1, h2⟩
          exact ⟨⟨⟨hin, by omega⟩, fun x hx => ⟨(h1 x hx).1, by have := (h1 x hx).2; omega⟩⟩, fun x hx => (h1 x hx).2, h2⟩
        · rintro ⟨⟨_, h1⟩, h2, h3⟩
          exact ⟨fun x hx => ⟨(h1 x hx).1, h2 x hx⟩, h3⟩
    · rename_i hin
      refine ⟨fun h => absurd h (by decide), fun h => absurd ?_ hin⟩
      simp only [Bool.and_eq_true, inB_iff]
      exact h.1.1.1

theorem gaugesL_sub {set last : Int} {l l' : List Gauge} (hs : l'.Sublist l) (h : gaugesL set last l = 0) : gaugesL set last l' = 0 := by
  rw [gaugesL_iff] at h ⊢
  exact ⟨fun g hg => h.1 g (hs.subset hg), h.2.sublist hs⟩

theorem withoutF_sub {α : Type} {q : List Int} : ∀ (l : List α) (i : Int), (withoutF q l i).Sublist l
  | [], _ => List.Sublist.refl _
  | x :: r, i => by
    simp only [withoutF]
    split
    · exact (withoutF_sub r (i + 1)).cons _
    · exact (withoutF_sub r (i + 1)).cons₂ _

theorem with_ok {c : Case} (h : (checkC c).2.2 = 0) {i : Nat} {s : Shot} (hs : c.chain.shots[i]? = some s) {g : List Gauge} (hl : g.length ≤ 6) (hg : gaugesL s.set s.set g = 0) : (checkC (withC c i g)).2.2 = 0 := by
  have hG := (check_iff c).1 h
  have hi := (List.getElem?_eq_some_iff.1 hs).1
  have hlen : (withC c i g).chain.shots.length = c.chain.shots.length := by simp [withC]
  refine (check_iff _).2 ⟨?_, ?_, ?_, hG.rows, hG.ship, hG.day, hG.wlen, hG.weathers⟩
  · have hp := plain_iff.1 hG.plain
    refine plain_iff.2 ⟨?_, hp.2⟩
    rw [hlen]; exact hp.1
  · intro x hx
    obtain ⟨j, hj⟩ := List.mem_iff_getElem?.1 hx
    simp only [withC, List.getElem?_modify] at hj
    obtain ⟨y, hy, rfl⟩ := Option.map_eq_some_iff.1 hj
    have := hG.shots y (List.mem_of_getElem? hy)
    by_cases hij : i = j
    · subst hij
      rw [hs] at hy; cases hy
      simp only [if_true]
      exact ⟨⟨this.1.1, checkF_iff.2 ⟨(checkF_iff.1 this.1.2).1, hl, hg⟩⟩, this.2⟩
    · simp only [if_neg hij]
      exact this
  · have hn := hG.names
    rw [List.pairwise_iff_getElem] at hn ⊢
    intro j k hj hk hjk
    have hj' : j < c.chain.shots.length := by rw [← hlen]; exact hj
    have hk' : k < c.chain.shots.length := by rw [← hlen]; exact hk
    have := hn j k hj' hk' hjk
    have e : ∀ (m : Nat) (hm : m < (withC c i g).chain.shots.length) (hm' : m < c.chain.shots.length), ((withC c i g).chain.shots[m]).name = (c.chain.shots[m]).name := by
      intro m hm hm'
      simp only [withC, List.getElem_modify]
      split <;> rfl
    rw [e j hj hj', e k hk hk']
    exact this

/-! Ascending lists. -/

def AscB (below : Int) : Int → List Int → Prop
  | _, [] => True
  | start, x :: r => start ≤ x ∧ x < below ∧ AscB below (x + 1) r

theorem AscB.len {below : Int} : ∀ {r : List Int} {start : Int}, AscB below start r → start ≤ below → (r.length : Int) ≤ below - start
  | [], start, _, h => by simp; omega
  | x :: r, start, ⟨h1, h2, h3⟩, h => by
    have := AscB.len h3 (by omega)
    simp only [List.length_cons]
    omega

theorem AscB.mem {below : Int} : ∀ {r : List Int} {start : Int}, AscB below start r → ∀ x ∈ r, start ≤ x ∧ x < below
  | x :: r, start, ⟨h1, h2, h3⟩, y, hy => by
    rcases List.mem_cons.1 hy with rfl | hy
    · exact ⟨h1, h2⟩
    · have := AscB.mem h3 y hy
      omega

theorem lists_mem {below : Nat} : ∀ {n : Nat} {p : List Int} {start : Nat} {q : List Int}, q ∈ listsF below n p start ↔ ∃ r, q = p ++ r ∧ r.length = n ∧ AscB below start r
  | 0, p, start, q => by
    simp only [listsF, List.mem_singleton]
    constructor
    · rintro rfl; exact ⟨[], by simp, rfl, trivial⟩
    · rintro ⟨r, rfl, hr, _⟩
      have : r = [] := List.length_eq_zero_iff.1 hr
      subst this; simp
  | n + 1, p, start, q => by
    simp only [listsF, List.mem_flatMap, List.mem_range'_1]
    constructor
    · rintro ⟨i, hi, hq⟩
      obtain ⟨r, rfl, hr, ha⟩ := lists_mem.1 hq
      exact ⟨(i : Int) :: r, by simp, by simp [hr], by omega, by omega, by simpa using ha⟩
    · rintro ⟨r, rfl, hr, ha⟩
      cases r with
      | nil => simp at hr
      | cons x r =>
        obtain ⟨h1, h2, h3⟩ := ha
        refine ⟨x.toNat, by omega, lists_mem.2 ⟨r, ?_, by simpa using hr, ?_⟩⟩
        · rw [show ((x.toNat : Nat) : Int) = x by omega]; simp
        · rw [show ((x.toNat + 1 : Nat) : Int) = x + 1 by omega]; exact h3

theorem first_some {w : List Int → Bool} {many : Nat} {q : List Int} (h : firstL w many = some q) : AscB many 0 q ∧ w q = true ∧ ∀ r, AscB many 0 r → w r = true → q.length ≤ r.length := by
  unfold firstL at h
  have main : ∀ (k n : Nat), (List.range' n k).findSome? (fun n => (listsF many n [] 0).find? w) = some q → AscB many 0 q ∧ w q = true ∧ n ≤ q.length ∧ ∀ r, AscB many 0 r → w r = true → n ≤ r.length → q.length ≤ r.length := by
    intro k
    induction k with
    | zero => intro n h; cases h
    | succ k ih =>
      intro n h
      rw [List.range'_succ, List.findSome?_cons] at h
      cases hf : (listsF many n [] 0).find? w with
      | some q' =>
        rw [hf] at h
        cases h
        obtain ⟨r, hr, hl, ha⟩ := lists_mem.1 (List.mem_of_find?_eq_some hf)
        rw [List.nil_append] at hr
        subst hr
        exact ⟨ha, List.find?_some hf, by omega, fun r _ _ hr => by omega⟩
      | none =>
        rw [hf] at h
        obtain ⟨h1, h2, h3, h4⟩ := ih (n + 1) h
        refine ⟨h1, h2, by omega, fun r ha hw hr => ?_⟩
        by_cases he : r.length = n
        · have hm := List.find?_eq_none.1 hf r (lists_mem.2 ⟨r, by simp, he, ha⟩)
          exact absurd hw hm
        · exact h4 r ha hw (by omega)
  obtain ⟨h1, h2, _, h4⟩ := main _ _ h
  exact ⟨h1, h2, fun r ha hw => h4 r ha hw (Nat.zero_le _)⟩

theorem first_none {w : List Int → Bool} {many : Nat} (h : firstL w many = none) : ∀ r, AscB many 0 r → w r = false := by
  intro r ha
  unfold firstL at h
  rw [List.findSome?_eq_none_iff] at h
  have hl := ha.len (by omega)
  have h1 := h r.length (by rw [List.mem_range'_1]; omega)
  have := List.find?_eq_none.1 h1 r (lists_mem.2 ⟨r, by simp, rfl, ha⟩)
  simpa using this

theorem withoutF_all {α : Type} {q : List Int} : ∀ {l : List α} {i : Int}, (∀ k : Nat, k < l.length → i + (k : Int) ∈ q) → withoutF q l i = []
  | [], _, _ => rfl
  | x :: r, i, h => by
    have h0 := h 0 (by simp)
    simp only [withoutF]
    rw [if_pos (by simpa using h0)]
    refine withoutF_all fun k hk => ?_
    have := h (k + 1) (by simp; omega)
    rwa [show i + ((k + 1 : Nat) : Int) = i + 1 + (k : Int) by omega] at this

theorem ascB_range (below : Nat) : ∀ (n start : Nat), start + n ≤ below → AscB below start ((List.range' start n).map fun (k : Nat) => (k : Int))
  | 0, _, _ => trivial
  | n + 1, start, h => by
    rw [List.range'_succ, List.map_cons]
    refine ⟨Int.le_refl _, by omega, ?_⟩
    have := ascB_range below n (start + 1) (by omega)
    rwa [show ((start + 1 : Nat) : Int) = (start : Int) + 1 by omega] at this

theorem doubts_spec {s : Shot} {off : Int} (hn : s.new.lo ≤ s.new.hi) (hw : s.wear.lo ≤ s.wear.hi) :
    AscB s.gauges.length 0 (doubtsQ s off) ∧ doubtR s off (doubtsQ s off) = true ∧ ∀ r, AscB s.gauges.length 0 r → doubtR s off r = true → (doubtsQ s off).length ≤ r.length := by
  rw [doubtsQ_eq]
  cases hf : firstL (doubtR s off) s.gauges.length with
  | some q => exact first_some hf
  | none =>
    exfalso
    have h1 := first_none hf _ (ascB_range s.gauges.length s.gauges.length 0 (by omega))
    unfold doubtR at h1
    rw [withoutF_all (fun k hk => by simp [List.mem_range'_1]; exact ⟨k, by omega, rfl⟩), rangeS_some] at h1
    have : (s.wear.lo, (s.new.lo, s.new.hi)) ∈ truthsS s off [] := truths_fit.2 ⟨Int.le_refl _, by simp only; omega, rfl⟩
    have hne := List.ne_nil_of_mem this
    simp at h1
    exact hne h1

/-- Whether gaugings agree does not depend on the day. -/
theorem range_day (s : Shot) (off : Int) (gs : List Gauge) (d d' : Int) : (rangeS s off gs d).2 = (rangeS s off gs d').2 := by rw [rangeS_some, rangeS_some]

/-- The indices that bits name. -/
def bitsL (b : Int) : Nat → List Int
  | 0 => []
  | n + 1 => bitsL b n ++ (if (b.fdiv (2 ^ n)).tmod 2 = 1 then [(n : Int)] else [])

theorem ascB_snoc {below : Int} : ∀ {r : List Int} {start x : Int}, AscB x start r → start ≤ x → x < below → AscB below start (r ++ [x])
  | [], start, x, _, h1, h2 => ⟨h1, h2, trivial⟩
  | y :: r, start, x, ⟨h1, h2, h3⟩, h4, h5 => ⟨h1, by omega, ascB_snoc h3 (by omega) h5⟩

theorem AscB.mono {b b' : Int} (h : b ≤ b') : ∀ {r : List Int} {start : Int}, AscB b start r → AscB b' start r
  | [], _, _ => trivial
  | x :: r, start, ⟨h1, h2, h3⟩ => ⟨h1, by omega, AscB.mono h h3⟩

theorem bitsL_asc (b : Int) : ∀ n : Nat, AscB n 0 (bitsL b n)
  | 0 => trivial
  | n + 1 => by
    unfold bitsL
    have ih := bitsL_asc b n
    split
    · exact ascB_snoc ih (by omega) (by omega)
    · rw [List.append_nil]
      exact ih.mono (by omega)

theorem bitsL_len (b : Int) : ∀ n : Nat, (bitsL b n).length ≤ n
  | 0 => by simp [bitsL]
  | n + 1 => by
    have := bitsL_len b n
    unfold bitsL
    split <;> simp <;> omega
end Go.PX

namespace Go.PX
open Go.Proofs

theorem sliced {α β : Type} (f : α → β) (l : List α) (a b : Nat) : (((l.map f).take b).drop a) = ((l.take b).drop a).map f := by rw [List.map_drop, List.map_take]

theorem el_ok {T : Tys} {el : TypeId} {ei : TyI} (hT : T.get el = some ei) {α : Type} {f : α → List D} (hf : ∀ x, Nat.beq (f x).length ei.size = true) (l : List α) : elSize T el (l.map f) = true := by
  unfold elSize
  rw [hT]
  cases l with
  | nil => rfl
  | cons x r => exact hf x

def moreG (gs : List Gauge) (k : Nat) (g : Gauge) : List Gauge := gs.take k ++ g :: gs.drop k

theorem fn7 (c : Case) (g : Gauge) (p0 p1 : Int) (h0 : 0 ≤ p0 ∧ p0 ≤ 65535) (h1 : 0 ≤ p1 ∧ p1 ≤ 65535) : FnV Try.prog 7 [c.d, g.d, q2 p0 p1] (.bool true) := by
  refine fnV_of mixed tysOk Try.func7 rfl (ft := ft7) 3 (by decide +kernel) (by rfl) fun {σ} Y st => ?_
  conv => whnf
  refine CallA_v (ds := [c.d]) (fn14 c) rfl rfl ?_
  conv => whnf
  by_cases hc : (checkC c).2.2 = 0
  · refine brk_i (fun h => absurd h (by simp [hc])) (fun _ => ?_)
    have hR := case_ok hc
    have hlen := hR.lens
    have hday := hR.day
    have hnp : (0 : Int) < (c.chain.shots.length : Int) := by omega
    obtain ⟨i, hi⟩ : ∃ i : Nat, p0.tmod (c.chain.shots.length : Int) = i := ⟨(p0.tmod (c.chain.shots.length : Int)).toNat, by
      have := Int.tmod_nonneg (c.chain.shots.length : Int) h0.1
      omega⟩
    have hil : i < c.chain.shots.length := by
      have := Int.tmod_lt_of_pos p0 hnp
      omega
    obtain ⟨s, hs⟩ : ∃ s, c.chain.shots[i]? = some s := ⟨_, List.getElem?_eq_getElem hil⟩
    have hsR := (hR.shots s (List.mem_of_getElem? hs)).1
    have hset := hsR.set
    have hgl := hsR.len
    have hdy := dayOn_in (s := s) (day := p1) hset h1.1
    have ed : s.set + p1.tmod (40000 - s.set + 1) = dayOn s p1 := rfl
    conv => whnf
    repeat' (first
      | (refine arith_in (wrap_i64 (by (try dsimp only); omega)) ?_; conv => whnf)
      | (refine elemK_nat (by assumption) ?_; conv => whnf)
      | (refine ownK_whole (by first | rfl | assumption | (simp [Els.len]; done) | (simp [Els.len]; omega)) ?_; conv => whnf)
      | (refine chk_i (by first | (exact decide_eq_true (by (try simp only [List.length_map]); omega)) | (simp [Els.len, Els.cons, V.cells, Els.toV, injL]; done) | (simp [Els.len, Els.cons, V.cells, Els.toV, injL]; omega)) ?_; conv => whnf)
      | fail)
    rw [show p0.tmod ((c.chain.shots.map Shot.cells).length : Int) = (i : Int) by rw [List.length_map]; exact hi]
    conv => whnf
    refine elemK_nat hs ?_
    conv => whnf
    repeat' (first
      | (refine arith_in (wrap_i64 (by (try dsimp only); omega)) ?_; conv => whnf)
      | (refine elemK_nat (by assumption) ?_; conv => whnf)
      | (refine ownK_whole (by first | rfl | assumption | (simp [Els.len]; done) | (simp [Els.len]; omega)) ?_; conv => whnf)
      | (refine chk_i (by first | (exact decide_eq_true (by (try simp only [List.length_map]); omega)) | (simp [Els.len, Els.cons, V.cells, Els.toV, injL]; done) | (simp [Els.len, Els.cons, V.cells, Els.toV, injL]; omega)) ?_; conv => whnf)
      | fail)
    rw [ed]
    generalize dayOn s p1 = dn at *
    repeat' (first
      | (refine CallA_v (fn15 c i dn) rfl rfl ?_; conv => whnf)
      | (refine CallA_view (fn15 c i dn) rfl 1 rfl ?_; conv => whnf)
      | (refine DrawCall_v (fn15 c i dn) rfl rfl ?_; conv => whnf)
      | (refine DrawCall_view (fn15 c i dn) rfl 1 rfl ?_; conv => whnf)
      | (refine arith_in (wrap_i64 (by (try dsimp only); omega)) ?_; conv => whnf)
      | (refine elemK_nat (by assumption) ?_; conv => whnf)
      | (refine ownK_whole (by first | rfl | assumption | (simp [Els.len]; done) | (simp [Els.len]; omega)) ?_; conv => whnf)
      | (refine chk_i (by first | (exact decide_eq_true (by (try simp only [List.length_map]); omega)) | (simp [Els.len, Els.cons, V.cells, Els.toV, injL]; done) | (simp [Els.len, Els.cons, V.cells, Els.toV, injL]; omega)) ?_; conv => whnf)
      | fail)
    refine LoopA_p (T := tys) tysOk (by exact drawsB_spec mixed tysOk (by decide +kernel)) (α := Nat) (fun k => ⟨[(3, .ptr 3 0), (4, .ptr 4 0), (6, .d (.bool false)), (10, .d (i64 i)), (11, .ptr 11 0), (12, .d (i64 dn)), (13, .ptr 13 0), (14, .d (i64 (thickE c i dn).2)), (15, .d (i64 k))],
        [(3, .box (.dd c.cells)), (4, .box (.dd g.cells)), (11, .box (.dd s.cells)), (13, .box (.dd [i64 (thickE c i dn).1.lo, i64 (thickE c i dn).1.hi]))], st⟩)
      (fun k => k ≤ s.gauges.length) (fun k => s.gauges.length - k) 0 (Wk.sub ⟨rfl, rfl, rfl, rfl, rfl, rfl, rfl, rfl, rfl, trivial⟩ ⟨rfl, rfl, rfl, rfl, trivial⟩) (Nat.zero_le _) ?_
    intro k hk
    conv => whnf
    refine brk_i (fun h2 => ?_) (fun h2 => ?_)
    · have h2 : k < s.gauges.length := by simpa using h2
      obtain ⟨gk, hgk⟩ : ∃ gk, s.gauges[k]? = some gk := ⟨_, List.getElem?_eq_getElem h2⟩
      conv => whnf
      repeat' (first
        | (refine arith_in (wrap_i64 (by (try dsimp only); omega)) ?_; conv => whnf)
        | (refine elemK_nat (by assumption) ?_; conv => whnf)
        | (refine ownK_whole (by first | rfl | assumption | (simp [Els.len]; done) | (simp [Els.len]; omega)) ?_; conv => whnf)
        | (refine chk_i (by first | (exact decide_eq_true (by (try simp only [List.length_map]); omega)) | (simp [Els.len, Els.cons, V.cells, Els.toV, injL]; done) | (simp [Els.len, Els.cons, V.cells, Els.toV, injL]; omega)) ?_; conv => whnf)
        | fail)
      refine brk_i (fun h3 => ?_) (fun h3 => ?_)
      · conv => whnf
        repeat' (first
          | (refine arith_in (wrap_i64 (by (try dsimp only); omega)) ?_; conv => whnf)
          | (refine elemK_nat (by assumption) ?_; conv => whnf)
          | (refine ownK_whole (by first | rfl | assumption | (simp [Els.len]; done) | (simp [Els.len]; omega)) ?_; conv => whnf)
          | (refine chk_i (by first | (exact decide_eq_true (by (try simp only [List.length_map]); omega)) | (simp [Els.len, Els.cons, V.cells, Els.toV, injL]; done) | (simp [Els.len, Els.cons, V.cells, Els.toV, injL]; omega)) ?_; conv => whnf)
          | fail)
        exact ⟨k + 1, by omega, by omega, (Wk.sub ⟨rfl, rfl, rfl, rfl, rfl, rfl, rfl, rfl, rfl, trivial⟩ ⟨rfl, rfl, rfl, rfl, trivial⟩)⟩
      · conv => whnf
        repeat' (first
          | (refine chk_i (el_ok rfl (fun _ => rfl) _) ?_; conv => whnf)
          | (refine chk_i (by show (lenAllD _ (((s.gauges.map Gauge.cells).take _).drop _) && true) = true; rw [sliced, lenAllD_map (fun x => ⟨rfl, rfl⟩)]; rfl) ?_; conv => whnf)
          | (refine arith_in (wrap_i64 (by (try dsimp only); omega)) ?_; conv => whnf)
          | (refine elemK_nat (by assumption) ?_; conv => whnf)
          | (refine ownK_whole (by first | rfl | assumption | (simp [Els.len]; done) | (simp [Els.len]; omega)) ?_; conv => whnf)
          | (refine chk_i (by first | (exact decide_eq_true (by (try simp only [List.length_map]); omega)) | (simp [Els.len, Els.cons, V.cells, Els.toV, injL]; done) | (simp [Els.len, Els.cons, V.cells, Els.toV, injL]; omega)) ?_; conv => whnf)
          | fail)
        refine DrawCall_fz (ds := [c.d, i64 i, gaugesD (moreG s.gauges k g)]) (fn31 c i s (moreG s.gauges k g) hR hs) 2 (viewL_cons rfl (viewL_cons rfl (viewL_cons (viewV_sl' (es' := (moreG s.gauges k g).map Gauge.cells) rfl ?_ ?_) rfl))) rfl ?_
        · simp [moreG, Gauge.cells, Els.app, List.take_of_length_le]
        · simp [moreG, Els.len]; omega
        conv => whnf
        have hgw := withC_get hs (moreG s.gauges k g)
        have hsub : ∀ x ∈ s.gauges, x ∈ moreG s.gauges k g := fun x hx => by
          rw [← List.take_append_drop k s.gauges] at hx
          rcases List.mem_append.1 hx with hx | hx
          · exact List.mem_append_left _ hx
          · exact List.mem_append_right _ (List.mem_cons_of_mem _ hx)
        have hE : (withC c i (moreG s.gauges k g)).chain.err = c.chain.err := rfl
        have hD : (withC c i (moreG s.gauges k g)).day = c.day := rfl
        generalize moreG s.gauges k g = mg at *
        generalize withC c i mg = m at *
        refine CallA_v (ds := [m.d]) (fn14 m) rfl rfl ?_
        have ht := thick_in hc hs (day := dn) hdy.2
        conv => whnf
        by_cases hm : (checkC m).2.2 = 0
        · refine brk_i (fun h => absurd h (by simp [hm])) (fun _ => ?_)
          have htm := thick_in hm hgw (day := dn) hdy.2
          rw [hE] at htm
          conv => whnf
          refine CallA_v (ds := [m.d, i64 i, i64 dn]) (fn15 m i dn) rfl rfl ?_
          rw [htm, ht]
          cases hr : (rangeS { s with gauges := mg } c.chain.err mg dn).2 with
          | true =>
            obtain ⟨k1, k2, k3⟩ := range_sub (s := s) (s' := { s with gauges := mg }) (off := c.chain.err) (day := dn) (gs := s.gauges) (gs' := mg) rfl rfl rfl hsR.new.2.1 hsub hr
            rw [k1]
            simp only [if_true]
            generalize (rangeS { s with gauges := mg } c.chain.err mg dn).1 = bm at *
            generalize (rangeS s c.chain.err s.gauges dn).1 = bs at *
            conv => whnf
            rw [decide_eq_true (show bs.lo ≤ bm.lo from k2)]
            conv => whnf
            rw [decide_eq_true (show bm.hi ≤ bs.hi from k3)]
            conv => whnf
            refine CallA_v (fn22) rfl rfl ?_
            conv => whnf
            exact RetA_view 0 rfl ⟨⟨rfl, rfl⟩, rfl⟩
          | false =>
            simp only [Bool.false_eq_true, if_false]
            conv => whnf
            refine CallA_v (fn22) rfl rfl ?_
            conv => whnf
            exact RetA_view 0 rfl ⟨⟨rfl, rfl⟩, rfl⟩
        · refine brk_i (fun _ => ?_) (fun h => absurd h (by simpa using hm))
          rw [ht]
          cases hr : (rangeS s c.chain.err s.gauges dn).2 with
          | true =>
            simp only [if_true]
            conv => whnf
            refine CallA_v (fn22) rfl rfl ?_
            conv => whnf
            exact RetA_view 0 rfl ⟨⟨rfl, rfl⟩, rfl⟩
          | false =>
            simp only [Bool.false_eq_true, if_false]
            conv => whnf
            refine CallA_v (fn22) rfl rfl ?_
            conv => whnf
            exact RetA_view 0 rfl ⟨⟨rfl, rfl⟩, rfl⟩
    · conv => whnf
      repeat' (first
        | (refine chk_i (el_ok rfl (fun _ => rfl) _) ?_; conv => whnf)
        | (refine chk_i (by show (lenAllD _ (((s.gauges.map Gauge.cells).take _).drop _) && true) = true; rw [sliced, lenAllD_map (fun x => ⟨rfl, rfl⟩)]; rfl) ?_; conv => whnf)
        | (refine arith_in (wrap_i64 (by (try dsimp only); omega)) ?_; conv => whnf)
        | (refine elemK_nat (by assumption) ?_; conv => whnf)
        | (refine ownK_whole (by first | rfl | assumption | (simp [Els.len]; done) | (simp [Els.len]; omega)) ?_; conv => whnf)
        | (refine chk_i (by first | (exact decide_eq_true (by (try simp only [List.length_map]); omega)) | (simp [Els.len, Els.cons, V.cells, Els.toV, injL]; done) | (simp [Els.len, Els.cons, V.cells, Els.toV, injL]; omega)) ?_; conv => whnf)
        | fail)
      refine DrawCall_fz (ds := [c.d, i64 i, gaugesD (moreG s.gauges k g)]) (fn31 c i s (moreG s.gauges k g) hR hs) 2 (viewL_cons rfl (viewL_cons rfl (viewL_cons (viewV_sl' (es' := (moreG s.gauges k g).map Gauge.cells) rfl ?_ ?_) rfl))) rfl ?_
      · simp [moreG, Gauge.cells, Els.app, List.take_of_length_le]
      · simp [moreG, Els.len]; omega
      conv => whnf
      have hgw := withC_get hs (moreG s.gauges k g)
      have hsub : ∀ x ∈ s.gauges, x ∈ moreG s.gauges k g := fun x hx => by
        rw [← List.take_append_drop k s.gauges] at hx
        rcases List.mem_append.1 hx with hx | hx
        · exact List.mem_append_left _ hx
        · exact List.mem_append_right _ (List.mem_cons_of_mem _ hx)
      have hE : (withC c i (moreG s.gauges k g)).chain.err = c.chain.err := rfl
      have hD : (withC c i (moreG s.gauges k g)).day = c.day := rfl
      generalize moreG s.gauges k g = mg at *
      generalize withC c i mg = m at *
      refine CallA_v (ds := [m.d]) (fn14 m) rfl rfl ?_
      have ht := thick_in hc hs (day := dn) hdy.2
      conv => whnf
      by_cases hm : (checkC m).2.2 = 0
      · refine brk_i (fun h => absurd h (by simp [hm])) (fun _ => ?_)
        have htm := thick_in hm hgw (day := dn) hdy.2
        rw [hE] at htm
        conv => whnf
        refine CallA_v (ds := [m.d, i64 i, i64 dn]) (fn15 m i dn) rfl rfl ?_
        rw [htm, ht]
        cases hr : (rangeS { s with gauges := mg } c.chain.err mg dn).2 with
        | true =>
          obtain ⟨k1, k2, k3⟩ := range_sub (s := s) (s' := { s with gauges := mg }) (off := c.chain.err) (day := dn) (gs := s.gauges) (gs' := mg) rfl rfl rfl hsR.new.2.1 hsub hr
          rw [k1]
          simp only [if_true]
          generalize (rangeS { s with gauges := mg } c.chain.err mg dn).1 = bm at *
          generalize (rangeS s c.chain.err s.gauges dn).1 = bs at *
          conv => whnf
          rw [decide_eq_true (show bs.lo ≤ bm.lo from k2)]
          conv => whnf
          rw [decide_eq_true (show bm.hi ≤ bs.hi from k3)]
          conv => whnf
          refine CallA_v (fn22) rfl rfl ?_
          conv => whnf
          exact RetA_view 0 rfl ⟨⟨rfl, rfl⟩, rfl⟩
        | false =>
          simp only [Bool.false_eq_true, if_false]
          conv => whnf
          refine CallA_v (fn22) rfl rfl ?_
          conv => whnf
          exact RetA_view 0 rfl ⟨⟨rfl, rfl⟩, rfl⟩
      · refine brk_i (fun _ => ?_) (fun h => absurd h (by simpa using hm))
        rw [ht]
        cases hr : (rangeS s c.chain.err s.gauges dn).2 with
        | true =>
          simp only [if_true]
          conv => whnf
          refine CallA_v (fn22) rfl rfl ?_
          conv => whnf
          exact RetA_view 0 rfl ⟨⟨rfl, rfl⟩, rfl⟩
        | false =>
          simp only [Bool.false_eq_true, if_false]
          conv => whnf
          refine CallA_v (fn22) rfl rfl ?_
          conv => whnf
          exact RetA_view 0 rfl ⟨⟨rfl, rfl⟩, rfl⟩
  · refine brk_i (fun _ => ?_) (fun h => absurd h (by simpa using hc))
    conv => whnf
    refine CallA_v (fn22) rfl rfl ?_
    conv => whnf
    exact RetA_view 0 rfl ⟨⟨rfl, rfl⟩, rfl⟩
end Go.PX

namespace Go.PX
open Go.Proofs

theorem AscB.get {below : Int} : ∀ {r : List Int} {start : Int} {i : Nat} {x y : Int}, AscB below start r → r[i]? = some x → r[i + 1]? = some y → x < y
  | a :: r, start, 0, x, y, ⟨h1, h2, h3⟩, hx, hy => by
    simp only [List.getElem?_cons_zero, Option.some.injEq] at hx
    subst hx
    cases r with
    | nil => simp at hy
    | cons b r =>
      simp only [List.getElem?_cons_succ, List.getElem?_cons_zero, Option.some.injEq] at hy
      subst hy
      have := h3.1
      omega
  | a :: r, start, i + 1, x, y, ⟨h1, h2, h3⟩, hx, hy => AscB.get h3 (by simpa using hx) (by simpa using hy)

theorem fn6 (c : Case) (shot b : Int) (hb : 0 ≤ b ∧ b ≤ 255) : FnV Try.prog 6 [c.d, i64 shot, .int .u8 b] (.bool true) := by
  refine fnV_of mixed tysOk Try.func6 rfl (ft := ft6) 3 (by decide +kernel) (by rfl) fun {σ} Y st => ?_
  conv => whnf
  refine CallA_v (ds := [c.d, i64 shot]) (fn17 c shot) rfl rfl ?_
  conv => whnf
  refine CallA_v (ds := [c.d]) (fn14 c) rfl rfl ?_
  conv => whnf
  by_cases hc : (checkC c).2.2 = 0
  · have hR := case_ok hc
    have hlen := hR.lens
    have hday := hR.day
    rw [hc]
    conv => whnf
    by_cases hin : inB shot 0 ((c.chain.shots.length : Int) - 1) = true
    · have hin' := inB_iff.1 hin
      obtain ⟨i, hi⟩ : ∃ i : Nat, shot = i := ⟨shot.toNat, by omega⟩
      subst hi
      obtain ⟨s, hs⟩ : ∃ s, c.chain.shots[i]? = some s := ⟨_, List.getElem?_eq_getElem (by omega)⟩
      have hop := open_in hc hs
      have hsR := (hR.shots s (List.mem_of_getElem? hs))
      have hgl := hsR.1.len
      have hdE : doubtsE c i = doubtsQ s c.chain.err := by
        unfold doubtsE
        rw [if_pos hop]
        simp [hs]
      obtain ⟨a1, a2, a3⟩ := doubts_spec (s := s) (off := c.chain.err) hsR.1.new.2.1 hsR.1.wear.2.1
      rw [hdE, hop]
      generalize doubtsQ s c.chain.err = q at *
      have hql := a1.len (by omega)
      rw [decide_eq_false (show ¬ (i : Int) < 0 by omega)]
      conv => whnf
      rw [decide_eq_false (show ¬ ((c.chain.shots.map Shot.cells).length : Int) ≤ i by rw [List.length_map]; omega)]
      conv => whnf
      refine elemK_nat hs ?_
      conv => whnf
      repeat' (first
        | (refine arith_in (wrap_i64 (by (try dsimp only); omega)) ?_; conv => whnf)
        | (refine elemK_nat (by assumption) ?_; conv => whnf)
        | (refine ownK_whole (by first | rfl | assumption | (simp [Els.len]; done) | (simp [Els.len]; omega)) ?_; conv => whnf)
        | (refine chk_i (by first | (exact decide_eq_true (by (try simp only [List.length_map]); omega)) | (simp [Els.len, Els.cons, V.cells, Els.toV, injL]; done) | (simp [Els.len, Els.cons, V.cells, Els.toV, injL]; omega)) ?_; conv => whnf)
        | fail)
      refine LoopA_i (T := tys) tysOk (by exact drawsB_spec mixed tysOk (by decide +kernel)) q (fun j (_ : Unit) => ⟨[(1, .d (i64 i)), (2, .d (.int .u8 b)), (3, .ptr 3 0), (6, .d (.bool false)), (7, .d (intsD q)), (8, .d (i64 0)), (12, .ptr 12 0), (13, .d (i64 j))],
          [(3, .box (.dd c.cells)), (12, .box (.dd s.cells))], st⟩) (fun j r _ => True) () (Wk.sub ⟨rfl, rfl, rfl, rfl, rfl, rfl, rfl, rfl, trivial⟩ ⟨rfl, rfl, trivial⟩) trivial ?_ ?_
      · intro j x r _ hx hj hr _
        have hm := a1.mem x (List.mem_of_getElem? hx)
        conv => whnf
        refine brk_i (fun _ => ?_) (fun h => absurd hj (by simpa using h))
        conv => whnf
        refine elemK_nat hx ?_
        conv => whnf
        rw [decide_eq_false (show ¬ x < 0 by omega)]
        conv => whnf
        refine elemK_nat hx ?_
        conv => whnf
        rw [decide_eq_false (show ¬ ((s.gauges.map Gauge.cells).length : Int) ≤ x by rw [List.length_map]; omega)]
        conv => whnf
        rcases Nat.eq_zero_or_pos j with h0 | h0
        · subst h0
          conv => whnf
          repeat' (first
            | (refine arith_in (wrap_i64 (by (try dsimp only); omega)) ?_; conv => whnf)
            | (refine elemK_nat (by assumption) ?_; conv => whnf)
            | (refine ownK_whole (by first | rfl | assumption | (simp [Els.len]; done) | (simp [Els.len]; omega)) ?_; conv => whnf)
            | (refine chk_i (by first | (exact decide_eq_true (by (try simp only [List.length_map]); omega)) | (simp [Els.len, Els.cons, V.cells, Els.toV, injL]; done) | (simp [Els.len, Els.cons, V.cells, Els.toV, injL]; omega)) ?_; conv => whnf)
            | fail)
          exact ⟨(), trivial, (Wk.sub ⟨rfl, rfl, rfl, rfl, rfl, rfl, rfl, rfl, trivial⟩ ⟨rfl, rfl, trivial⟩)⟩
        · obtain ⟨y, hy⟩ : ∃ y, q[j - 1]? = some y := ⟨q[j - 1], List.getElem?_eq_getElem (by omega)⟩
          have hxy := a1.get hy (by rw [show j - 1 + 1 = j by omega]; exact hx)
          rw [decide_eq_true (show (0 : Int) < (j : Int) by omega)]
          conv => whnf
          refine elemK_nat hx ?_
          conv => whnf
          refine arith_to (((j - 1 : Nat) : Int)) (by (try dsimp only); omega) (wrap_i64 (by (try dsimp only); omega)) ?_
          conv => whnf
          refine elemK_nat hy ?_
          conv => whnf
          rw [decide_eq_false (show ¬ x ≤ y by omega)]
          conv => whnf
          repeat' (first
            | (refine arith_in (wrap_i64 (by (try dsimp only); omega)) ?_; conv => whnf)
            | (refine elemK_nat (by assumption) ?_; conv => whnf)
            | (refine ownK_whole (by first | rfl | assumption | (simp [Els.len]; done) | (simp [Els.len]; omega)) ?_; conv => whnf)
            | (refine chk_i (by first | (exact decide_eq_true (by (try simp only [List.length_map]); omega)) | (simp [Els.len, Els.cons, V.cells, Els.toV, injL]; done) | (simp [Els.len, Els.cons, V.cells, Els.toV, injL]; omega)) ?_; conv => whnf)
            | fail)
          exact ⟨(), trivial, (Wk.sub ⟨rfl, rfl, rfl, rfl, rfl, rfl, rfl, rfl, trivial⟩ ⟨rfl, rfl, trivial⟩)⟩
      · intro _ _
        conv => whnf
        refine brk_i (fun h => absurd h (by simp)) (fun _ => ?_)
        conv => whnf
        have g1 := withoutF_sub (q := q) s.gauges 0
        have w1 := with_ok hc hs (g := withoutF q s.gauges 0) (by have := g1.length_le; omega) (gaugesL_sub g1 (checkF_iff.1 (((check_iff c).1 hc).shots s (List.mem_of_getElem? hs)).1.2).2.2)
        have t1 := thick_in w1 (withC_get hs (withoutF q s.gauges 0)) (day := c.day) ⟨hsR.2, hday.2⟩
        have r1 : (rangeS { s with gauges := withoutF q s.gauges 0 } c.chain.err (withoutF q s.gauges 0) c.day).2 = true := by
          rw [range_day _ _ _ _ s.set]; exact a2
        rw [show (withC c i (withoutF q s.gauges 0)).chain.err = c.chain.err from rfl, r1, if_pos rfl] at t1
        generalize (rangeS { s with gauges := withoutF q s.gauges 0 } c.chain.err (withoutF q s.gauges 0) c.day).1 = b1 at *
        repeat' (first
          | (refine CallA_v (fn32 s.gauges q (by omega) (by omega)) rfl rfl ?_; conv => whnf)
          | (refine CallA_view (fn32 s.gauges q (by omega) (by omega)) rfl 1 rfl ?_; conv => whnf)
          | (refine DrawCall_v (fn32 s.gauges q (by omega) (by omega)) rfl rfl ?_; conv => whnf)
          | (refine DrawCall_view (fn32 s.gauges q (by omega) (by omega)) rfl 1 rfl ?_; conv => whnf)
          | (refine CallA_v (fn31 c i s (withoutF q s.gauges 0) hR hs) rfl rfl ?_; conv => whnf)
          | (refine CallA_view (fn31 c i s (withoutF q s.gauges 0) hR hs) rfl 1 rfl ?_; conv => whnf)
          | (refine DrawCall_v (fn31 c i s (withoutF q s.gauges 0) hR hs) rfl rfl ?_; conv => whnf)
          | (refine DrawCall_view (fn31 c i s (withoutF q s.gauges 0) hR hs) rfl 1 rfl ?_; conv => whnf)
          | (refine CallA_v (fn15 (withC c i (withoutF q s.gauges 0)) i c.day) rfl rfl ?_; conv => whnf)
          | (refine CallA_view (fn15 (withC c i (withoutF q s.gauges 0)) i c.day) rfl 1 rfl ?_; conv => whnf)
          | (refine DrawCall_v (fn15 (withC c i (withoutF q s.gauges 0)) i c.day) rfl rfl ?_; conv => whnf)
          | (refine DrawCall_view (fn15 (withC c i (withoutF q s.gauges 0)) i c.day) rfl 1 rfl ?_; conv => whnf)
          | (rw [t1]; conv => whnf)
          | (refine arith_in (wrap_i64 (by (try dsimp only); omega)) ?_; conv => whnf)
          | (refine elemK_nat (by assumption) ?_; conv => whnf)
          | (refine ownK_whole (by first | rfl | assumption | (simp [Els.len]; done) | (simp [Els.len]; omega)) ?_; conv => whnf)
          | (refine chk_i (by first | (exact decide_eq_true (by (try simp only [List.length_map]); omega)) | (simp [Els.len, Els.cons, V.cells, Els.toV, injL]; done) | (simp [Els.len, Els.cons, V.cells, Els.toV, injL]; omega)) ?_; conv => whnf)
          | fail)
        refine LoopA_i (T := tys) tysOk (by exact drawsB_spec mixed tysOk (by decide +kernel)) s.gauges (fun k (g : List (List D) × Nat) => ⟨[(1, .d (i64 i)), (2, .d (.int .u8 b)), (3, .ptr 3 0), (6, .d (.bool false)), (7, .d (intsD q)), (8, .d (i64 0)), (12, .ptr 12 0), (15, .d (i64 0)), (16, .sl 128 1 0 g.2), (17, .d (i64 k))],
            [(3, .box (.dd c.cells)), (12, .box (.dd s.cells)), (128, .arr 1 (.dd g.1))], st⟩) (fun k r g => g.1 = (bitsL b k).map (fun n => [i64 n]) ∧ (bitsL b k).length = g.2) ([], 0)
          ((Wk.born 16 128 1 rfl rfl rfl).trans (Wk.sub ⟨rfl, rfl, rfl, rfl, rfl, rfl, rfl, rfl, rfl, rfl, trivial⟩ ⟨rfl, rfl, rfl, trivial⟩)) ⟨rfl, rfl⟩ ?_ ?_
        · rintro k gg r ⟨es, m⟩ hg hk hr ⟨h1, h2⟩
          replace h1 : es = _ := h1
          replace h2 : _ = m := h2
          subst h1 h2
          have hbl := bitsL_len b k
          conv => whnf
          refine brk_i (fun _ => ?_) (fun h => absurd hk (by simpa using h))
          conv => whnf
          have hsh : min (k : Int).toNat IntKind.u8.bits = k := by
            show min (k : Int).toNat 8 = k
            omega
          rw [hsh]
          by_cases hbit : (b.fdiv (2 ^ k)).tmod 2 = 1
          · rw [decide_eq_true hbit]
            have hE : bitsL b (k + 1) = bitsL b k ++ [(k : Int)] := by rw [bitsL, if_pos hbit]
            conv => whnf
            repeat' (first
              | (refine arith_in (wrap_i64 (by (try dsimp only); omega)) ?_; conv => whnf)
              | (refine elemK_nat (by assumption) ?_; conv => whnf)
              | (refine ownK_whole (by first | rfl | assumption | (simp [Els.len]; done) | (simp [Els.len]; omega)) ?_; conv => whnf)
              | (refine chk_i (by first | (exact decide_eq_true (by (try simp only [List.length_map]); omega)) | (simp [Els.len, Els.cons, V.cells, Els.toV, injL]; done) | (simp [Els.len, Els.cons, V.cells, Els.toV, injL]; omega)) ?_; conv => whnf)
              | fail)
            refine ⟨(_, _), ⟨?_, ?_⟩, (Wk.sub ⟨rfl, rfl, rfl, rfl, rfl, rfl, rfl, rfl, rfl, rfl, trivial⟩ ⟨rfl, rfl, rfl, trivial⟩)⟩
            · rw [hE]; simp
            · rw [hE]; simp [Els.len]
          · rw [decide_eq_false hbit]
            have hE : bitsL b (k + 1) = bitsL b k := by rw [bitsL, if_neg hbit, List.append_nil]
            conv => whnf
            repeat' (first
              | (refine arith_in (wrap_i64 (by (try dsimp only); omega)) ?_; conv => whnf)
              | (refine elemK_nat (by assumption) ?_; conv => whnf)
              | (refine ownK_whole (by first | rfl | assumption | (simp [Els.len]; done) | (simp [Els.len]; omega)) ?_; conv => whnf)
              | (refine chk_i (by first | (exact decide_eq_true (by (try simp only [List.length_map]); omega)) | (simp [Els.len, Els.cons, V.cells, Els.toV, injL]; done) | (simp [Els.len, Els.cons, V.cells, Els.toV, injL]; omega)) ?_; conv => whnf)
              | fail)
            refine ⟨(_, _), ⟨?_, ?_⟩, (Wk.sub ⟨rfl, rfl, rfl, rfl, rfl, rfl, rfl, rfl, rfl, rfl, trivial⟩ ⟨rfl, rfl, rfl, trivial⟩)⟩
            · rw [hE]
            · rw [hE]
        · rintro ⟨es, m⟩ ⟨h1, h2⟩
          replace h1 : es = _ := h1
          replace h2 : _ = m := h2
          subst h1 h2
          have hba := bitsL_asc b s.gauges.length
          have hbl := bitsL_len b s.gauges.length
          generalize bitsL b s.gauges.length = o at *
          have g2 := withoutF_sub (q := o) s.gauges 0
          have w2 := with_ok hc hs (g := withoutF o s.gauges 0) (by have := g2.length_le; omega) (gaugesL_sub g2 (checkF_iff.1 (((check_iff c).1 hc).shots s (List.mem_of_getElem? hs)).1.2).2.2)
          have t2 := thick_in w2 (withC_get hs (withoutF o s.gauges 0)) (day := c.day) ⟨hsR.2, hday.2⟩
          have r2 : (rangeS { s with gauges := withoutF o s.gauges 0 } c.chain.err (withoutF o s.gauges 0) c.day).2 = doubtR s c.chain.err o := by
            rw [range_day _ _ _ _ s.set]; rfl
          rw [show (withC c i (withoutF o s.gauges 0)).chain.err = c.chain.err from rfl, r2] at t2
          have h3 := a3 o hba
          generalize (rangeS { s with gauges := withoutF o s.gauges 0 } c.chain.err (withoutF o s.gauges 0) c.day).1 = b2 at *
          conv => whnf
          refine brk_i (fun h => absurd h (by simp)) (fun _ => ?_)
          conv => whnf
          repeat' (first
            | (refine arith_in (wrap_i64 (by (try dsimp only); omega)) ?_; conv => whnf)
            | (refine elemK_nat (by assumption) ?_; conv => whnf)
            | (refine ownK_whole (by first | rfl | assumption | (simp [Els.len]; done) | (simp [Els.len]; omega)) ?_; conv => whnf)
            | (refine chk_i (by first | (exact decide_eq_true (by (try simp only [List.length_map]); omega)) | (simp [Els.len, Els.cons, V.cells, Els.toV, injL]; done) | (simp [Els.len, Els.cons, V.cells, Els.toV, injL]; omega)) ?_; conv => whnf)
            | fail)
          refine DrawCall_fz (ds := [gaugesD s.gauges, intsD o]) (fn32 s.gauges o (by omega) (by omega)) 1 (viewL_cons rfl (viewL_cons (viewV_sl rfl (by simp)) rfl)) rfl ?_
          conv => whnf
          repeat' (first
            | (refine CallA_v (fn31 c i s (withoutF o s.gauges 0) hR hs) rfl rfl ?_; conv => whnf)
            | (refine CallA_view (fn31 c i s (withoutF o s.gauges 0) hR hs) rfl 1 rfl ?_; conv => whnf)
            | (refine DrawCall_v (fn31 c i s (withoutF o s.gauges 0) hR hs) rfl rfl ?_; conv => whnf)
            | (refine DrawCall_view (fn31 c i s (withoutF o s.gauges 0) hR hs) rfl 1 rfl ?_; conv => whnf)
            | (refine CallA_v (fn15 (withC c i (withoutF o s.gauges 0)) i c.day) rfl rfl ?_; conv => whnf)
            | (refine CallA_view (fn15 (withC c i (withoutF o s.gauges 0)) i c.day) rfl 1 rfl ?_; conv => whnf)
            | (refine DrawCall_v (fn15 (withC c i (withoutF o s.gauges 0)) i c.day) rfl rfl ?_; conv => whnf)
            | (refine DrawCall_view (fn15 (withC c i (withoutF o s.gauges 0)) i c.day) rfl 1 rfl ?_; conv => whnf)
            | (refine arith_in (wrap_i64 (by (try dsimp only); omega)) ?_; conv => whnf)
            | (refine elemK_nat (by assumption) ?_; conv => whnf)
            | (refine ownK_whole (by first | rfl | assumption | (simp [Els.len]; done) | (simp [Els.len]; omega)) ?_; conv => whnf)
            | (refine chk_i (by first | (exact decide_eq_true (by (try simp only [List.length_map]); omega)) | (simp [Els.len, Els.cons, V.cells, Els.toV, injL]; done) | (simp [Els.len, Els.cons, V.cells, Els.toV, injL]; omega)) ?_; conv => whnf)
            | fail)
          rw [t2]
          cases hd : doubtR s c.chain.err o with
          | true =>
            have hle := h3 hd
            simp only [if_true]
            conv => whnf
            rw [decide_eq_true (show (((q.map fun n => [i64 n]).length : Nat) : Int) ≤ ((o.length : Nat) : Int) by rw [List.length_map]; omega)]
            conv => whnf
            refine CallA_v (fn22) rfl rfl ?_
            conv => whnf
            exact RetA_view 0 rfl ⟨⟨rfl, rfl⟩, rfl⟩
          | false =>
            simp only [Bool.false_eq_true, if_false]
            conv => whnf
            refine CallA_v (fn22) rfl rfl ?_
            conv => whnf
            exact RetA_view 0 rfl ⟨⟨rfl, rfl⟩, rfl⟩
    · have hop : openE c shot = 4 := by
        unfold openE
        rw [if_pos hc, if_neg hin]
      have hdE : doubtsE c shot = [] := by
        unfold doubtsE
        rw [hop]; rfl
      rw [hdE, hop]
      by_cases hneg : shot < 0
      · rw [decide_eq_true hneg]
        conv => whnf
        refine CallA_v (fn22) rfl rfl ?_
        conv => whnf
        exact RetA_view 0 rfl ⟨⟨rfl, rfl⟩, rfl⟩
      · rw [decide_eq_false hneg]
        conv => whnf
        rw [decide_eq_true (show ((c.chain.shots.map Shot.cells).length : Int) ≤ shot by rw [List.length_map]; rw [inB_iff] at hin; omega)]
        conv => whnf
        refine CallA_v (fn22) rfl rfl ?_
        conv => whnf
        exact RetA_view 0 rfl ⟨⟨rfl, rfl⟩, rfl⟩
  · have hop : openE c shot = (checkC c).2.2 := by
      unfold openE
      rw [if_neg hc]
    have hdE : doubtsE c shot = [] := by
      unfold doubtsE
      rw [hop, if_neg hc]
    rw [hdE, hop, decide_eq_false hc]
    conv => whnf
    rw [decide_eq_false hc]
    conv => whnf
    refine CallA_v (fn22) rfl rfl ?_
    conv => whnf
    exact RetA_view 0 rfl ⟨⟨rfl, rfl⟩, rfl⟩
end Go.PX

namespace Go.PX
open Go.Proofs

/-! A renewed chain. -/

def renewS (c : Case) (w : List Int) (i : Nat) (s : Shot) : Shot := if (i : Int) ∈ w then { s with set := c.day, gauges := [] } else s
def renewC (c : Case) (w : List Int) : Case := { c with chain := { c.chain with shots := c.chain.shots.mapIdx (renewS c w) } }
def refC (c : Case) (w : List Int) (rev : Bool) : Case := turnC (renewC c w) rev

theorem turn_turn (c : Case) (a b : Bool) : turnC (turnC c a) b = turnC c (a != b) := by
  cases a <;> cases b <;> simp [turnC]

theorem renew_nil (c : Case) : renewC c [] = c := by
  have : c.chain.shots.mapIdx (renewS c []) = c.chain.shots := by
    refine List.ext_getElem? fun k => ?_
    rw [List.getElem?_mapIdx]
    cases c.chain.shots[k]? <;> simp [renewS]
  unfold renewC
  rw [this]

theorem turn_check {c : Case} (h : (checkC c).2.2 = 0) (rev : Bool) : (checkC (turnC c rev)).2.2 = 0 := by
  cases rev with
  | false => exact h
  | true =>
    have hG := (check_iff c).1 h
    refine (check_iff _).2 ⟨?_, ?_, ?_, hG.rows, hG.ship, hG.day, hG.wlen, hG.weathers⟩
    · have hp := plain_iff.1 hG.plain
      refine plain_iff.2 ⟨?_, hp.2⟩
      show 1 ≤ c.chain.shots.reverse.length ∧ c.chain.shots.reverse.length ≤ 7
      rw [List.length_reverse]; exact hp.1
    · intro x hx
      exact hG.shots x (List.mem_reverse.1 hx)
    · show c.chain.shots.reverse.Pairwise _
      rw [List.pairwise_reverse]
      exact hG.names.imp fun h => h.symm

theorem turn_sound {c : Case} (h : soundE c = 0) (rev : Bool) : soundE (turnC c rev) = 0 := by
  cases rev with
  | false => exact h
  | true => exact soundL_all fun s hs => (soundL_zero h).2 s (List.mem_reverse.1 hs)

theorem turn_all {c : Case} (h : soundAll c = 0) (rev : Bool) : soundAll (turnC c rev) = 0 := by
  obtain ⟨h0, hs⟩ := lookE_zero (show lookE c (checkC c).2.2 = 0 from h)
  show lookE _ _ = 0
  rw [turn_check h0]
  simp [lookE, turn_sound hs]

theorem thick_turn (c : Case) (rev : Bool) : thickL (turnC c rev) = turnT (thickL c) rev := by
  cases rev with
  | false => rfl
  | true => simp [thickL, turnC, turnT, List.map_reverse]

/-- A renewed shot is as thick as a new one. -/
theorem range_new {s : Shot} {off day : Int} (hn : 1 ≤ s.new.lo ∧ s.new.lo ≤ s.new.hi) (hw : s.wear.lo ≤ s.wear.hi) : rangeS { s with set := day, gauges := [] } off [] day = (s.new, true) := by
  have hm : (s.wear.lo, (s.new.lo, s.new.hi)) ∈ truthsS { s with set := day, gauges := [] } off [] := truths_fit.2 ⟨Int.le_refl _, by simp only; omega, rfl⟩
  obtain ⟨h1, h2, ⟨t, ht, hl⟩, ⟨u, hu, hh⟩⟩ := range_spec { s with set := day, gauges := [] } off [] day (List.ne_nil_of_mem hm)
  obtain ⟨_, _, ft⟩ := truths_fit.1 ht
  obtain ⟨_, _, fu⟩ := truths_fit.1 hu
  simp only [fitsF, Option.some.injEq] at ft fu
  rw [← ft] at hl
  rw [← fu] at hh
  simp only [onF, Int.sub_self, Int.mul_zero, Int.sub_zero] at hl hh
  refine Prod.ext (span_eq.2 ⟨?_, ?_⟩) h1
  · rw [hl]; show max 0 s.new.lo = s.new.lo; omega
  · rw [hh]; show max 0 s.new.hi = s.new.hi; omega

theorem renew_get {c : Case} {w : List Int} {i : Nat} {s : Shot} (h : c.chain.shots[i]? = some s) : (renewC c w).chain.shots[i]? = some (renewS c w i s) := by
  simp [renewC, h]

theorem renew_check {c : Case} (h : (checkC c).2.2 = 0) (w : List Int) : (checkC (renewC c w)).2.2 = 0 := by
  have hG := (check_iff c).1 h
  have hd := inB_iff.1 hG.day
  have hlen : (renewC c w).chain.shots.length = c.chain.shots.length := by simp [renewC]
  have hname : ∀ (i : Nat) (s : Shot), (renewS c w i s).name = s.name := fun i s => by unfold renewS; split <;> rfl
  refine (check_iff _).2 ⟨?_, ?_, ?_, hG.rows, hG.ship, hG.day, hG.wlen, hG.weathers⟩
  · have hp := plain_iff.1 hG.plain
    refine plain_iff.2 ⟨?_, hp.2⟩
    rw [hlen]; exact hp.1
  · intro x hx
    obtain ⟨i, hi, rfl⟩ := List.mem_mapIdx.1 hx
    have hs := hG.shots c.chain.shots[i] (List.getElem_mem ..)
    refine ⟨⟨by rw [hname]; exact hs.1.1, ?_⟩, ?_⟩
    · unfold renewS
      split
      · have := checkF_iff.1 hs.1.2
        exact checkF_iff.2 ⟨⟨this.1.1, ⟨hd.1, hd.2⟩, this.1.2.2⟩, by simp, rfl⟩
      · exact hs.1.2
    · unfold renewS
      split
      · exact Int.le_refl _
      · exact hs.2
  · have hn := hG.names
    rw [List.pairwise_iff_getElem] at hn ⊢
    intro i j hi hj hij
    have := hn i j (by rw [← hlen]; exact hi) (by rw [← hlen]; exact hj) hij
    simpa [renewC, hname] using this

theorem renew_range {c : Case} (hR : CaseR c) (hs : soundE c = 0) (w : List Int) {i : Nat} {s : Shot} (h : c.chain.shots[i]? = some s) :
    rangeS (renewS c w i s) c.chain.err (renewS c w i s).gauges c.day = if (i : Int) ∈ w then (s.new, true) else rangeS s c.chain.err s.gauges c.day := by
  have hm := List.mem_of_getElem? h
  have hsR := (hR.shots s hm).1
  unfold renewS
  by_cases hi : (i : Int) ∈ w
  · rw [if_pos hi, if_pos hi]
    exact range_new ⟨hsR.new.1, hsR.new.2.1⟩ hsR.wear.2.1
  · rw [if_neg hi, if_neg hi]

theorem renew_sound {c : Case} (hR : CaseR c) (hs : soundE c = 0) (w : List Int) : soundE (renewC c w) = 0 :=
  soundL_all fun x hx => by
    obtain ⟨i, hi, rfl⟩ := List.mem_mapIdx.1 hx
    have hg : c.chain.shots[i]? = some c.chain.shots[i] := List.getElem?_eq_getElem hi
    have := renew_range hR hs w hg
    show (rangeS (renewS c w i c.chain.shots[i]) c.chain.err (renewS c w i c.chain.shots[i]).gauges c.day).2 = true
    rw [this]
    split
    · rfl
    · exact (soundL_zero hs).2 _ (List.getElem_mem ..)

theorem ref_all {c : Case} (h : soundAll c = 0) (w : List Int) (rev : Bool) : soundAll (refC c w rev) = 0 := by
  obtain ⟨h0, hs⟩ := lookE_zero (show lookE c (checkC c).2.2 = 0 from h)
  refine turn_all ?_ rev
  show lookE _ _ = 0
  rw [renew_check h0]
  simp [lookE, renew_sound (case_ok h0) hs w]

/-- What is renewed, shot by shot. -/
theorem renewT_get {c : Case} : ∀ {w : List Int} {th : List Span} (hw : ∀ i ∈ w, 0 ≤ i ∧ i < c.chain.shots.length) (hl : th.length = c.chain.shots.length) (k : Nat),
    (renewT c th w)[k]? = if (k : Int) ∈ w then (c.chain.shots[k]?).map (·.new) else th[k]?
  | [], th, _, _, k => by simp [renewT]
  | i :: r, th, hw, hl, k => by
    have hi := hw i (by simp)
    have : renewT c th (i :: r) = renewT c (th.set i.toNat (newAt c i)) r := rfl
    rw [this, renewT_get (fun x hx => hw x (by simp [hx])) (by simpa using hl)]
    by_cases hr : (k : Int) ∈ r
    · rw [if_pos hr, if_pos (by simp [hr])]
    · rw [if_neg hr]
      by_cases hk : (k : Int) = i
      · rw [if_pos (by simp [hk])]
        subst hk
        have hlt : k < c.chain.shots.length := by omega
        rw [Int.toNat_natCast, List.getElem?_set_self (by omega), List.getElem?_eq_getElem hlt]
        simp [newAt, List.getElem?_eq_getElem hlt]
      · rw [if_neg (by simp [hk, hr]), List.getElem?_set_ne (by omega)]

theorem renewT_len {c : Case} : ∀ {w : List Int} {th : List Span}, (renewT c th w).length = th.length
  | [], _ => rfl
  | i :: r, th => by
    show (renewT c (th.set i.toNat (newAt c i)) r).length = _
    rw [renewT_len, List.length_set]

theorem thick_renew {c : Case} (hR : CaseR c) (hs : soundE c = 0) {w : List Int} (hw : ∀ i ∈ w, 0 ≤ i ∧ i < c.chain.shots.length) : thickL (renewC c w) = renewT c (thickL c) w := by
  refine List.ext_getElem? fun k => ?_
  rw [renewT_get hw (by simp [thickL])]
  cases hk : c.chain.shots[k]? with
  | none =>
    have hlt := List.getElem?_eq_none_iff.1 hk
    rw [List.getElem?_eq_none (by simp [thickL, renewC]; exact hlt)]
    split
    · rfl
    · rw [List.getElem?_eq_none (by simp [thickL]; exact hlt)]
  | some s =>
    rw [thick_get (renew_get hk)]
    have := renew_range hR hs w hk
    show some (rangeS (renewS c w k s) c.chain.err (renewS c w k s).gauges c.day).1 = _
    rw [this]
    split
    · rfl
    · rw [thick_get hk]

/-! What is judged depends on the links of the shots alone. -/

theorem judgeL_links {heavy pull out : Int} : ∀ {l l' : List Shot} {ts : List Int} {n i : Int}, l.map (·.links) = l'.map (·.links) → judgeL heavy pull out l ts n i = judgeL heavy pull out l' ts n i
  | [], [], _, _, _, _ => rfl
  | [], _ :: _, _, _, _, h => by simp at h
  | _ :: _, [], _, _, _, h => by simp at h
  | s :: r, s' :: r', [], _, _, _ => rfl
  | s :: r, s' :: r', t :: ts, n, i, h => by
    simp only [List.map_cons, List.cons.injEq] at h
    simp only [judgeL, h.1]
    rw [judgeL_links h.2]

theorem linksF_map : ∀ {l l' : List Shot}, l.map (·.links) = l'.map (·.links) → linksF l = linksF l'
  | [], [], _ => rfl
  | [], _ :: _, h => by simp at h
  | _ :: _, [], h => by simp at h
  | s :: r, s' :: r', h => by
    simp only [List.map_cons, List.cons.injEq] at h
    simp only [linksF, h.1, linksF_map h.2]

/-- Two cases with the same links. -/
structure SameL (c c' : Case) : Prop where
  links : c.chain.shots.map (·.links) = c'.chain.shots.map (·.links)
  rows : c.chain.rows = c'.chain.rows
  long : c.chain.long = c'.chain.long
  heavy : c.chain.heavy = c'.chain.heavy
  hold : c.chain.hold = c'.chain.hold
  ship : c.ship = c'.ship
  weathers : c.weathers = c'.weathers

theorem breakF_links {c c' : Case} (h : SameL c c') (th : List Span) (out : Int) : breakF c th out = breakF c' th out := by
  have hj : ∀ w, judgeW c th out w = judgeW c' th out w := fun w => by
    unfold judgeW judgeF worstT
    rw [h.ship, h.heavy, h.hold, judgeL_links h.links]
    unfold rowF
    have : ∀ t r, rowOk c t out r = rowOk c' t out r := fun t r => by unfold rowOk; rw [h.long]
    simp only [this, h.rows]
  unfold breakF
  rw [h.weathers]
  have : ∀ (l : List Weather) (i : Int), breakL c th out l i = breakL c' th out l i := by
    intro l
    induction l with
    | nil => intro i; rfl
    | cons w r ih => intro i; simp only [breakL, hj, ih]
  exact this _ _

theorem runs_links {c c' : Case} (h : SameL c c') (th : List Span) : allRuns c th = allRuns c' th := by
  unfold allRuns
  have e1 := linksF_map h.links
  have e2 : holdsAt c th = holdsAt c' th := by
    funext k
    unfold holdsAt
    rw [e1, breakF_links h]
  rw [e1, e2]

theorem ref_same (c : Case) (w : List Int) (rev : Bool) : SameL (refC c w rev) (turnC c rev) := by
  have hl : (c.chain.shots.mapIdx (renewS c w)).map (·.links) = c.chain.shots.map (·.links) := by
    refine List.ext_getElem? fun k => ?_
    rw [List.getElem?_map, List.getElem?_map, List.getElem?_mapIdx]
    cases c.chain.shots[k]? with
    | none => rfl
    | some s => simp only [Option.map_some]; unfold renewS; split <;> rfl
  cases rev with
  | false => exact ⟨hl, rfl, rfl, rfl, rfl, rfl, rfl⟩
  | true => exact ⟨by show (c.chain.shots.mapIdx (renewS c w)).reverse.map (·.links) = c.chain.shots.reverse.map (·.links); rw [List.map_reverse, List.map_reverse, hl], rfl, rfl, rfl, rfl, rfl, rfl⟩

/-- Whether a renewed chain holds with some scope. -/
def okRun (c : Case) (th : List Span) (w : List Int) (rev : Bool) : Bool := !(allRuns (turnC c rev) (turnT (renewT c th w) rev)).isEmpty

theorem scopes_ok (c : Case) (th : List Span) : ((scopesF c th 1).length > 0) ↔ (!(allRuns c th).isEmpty) = true := by
  rw [scopesF_take c th (by omega)]
  cases allRuns c th <;> simp

theorem renewW_eq (c : Case) (th : List Span) (q : List Int) : renewW c th q = if okRun c th q false then (false, true) else if okRun c th q true then (true, true) else (false, false) := by
  unfold renewW okRun
  simp only [scopes_ok]

theorem short_ref {c : Case} (h : soundAll c = 0) {w : List Int} (hw : ∀ i ∈ w, 0 ≤ i ∧ i < c.chain.shots.length) (rev : Bool) : (shortE (refC c w rev)).2 = if okRun c (thickL c) w rev then 0 else 9 := by
  obtain ⟨h0, hs⟩ := lookE_zero (show lookE c (checkC c).2.2 = 0 from h)
  have hR := case_ok h0
  have e : allRuns (refC c w rev) (thickL (refC c w rev)) = allRuns (turnC c rev) (turnT (renewT c (thickL c) w) rev) := by
    rw [runs_links (ref_same c w rev)]
    unfold refC
    rw [thick_turn, thick_renew hR hs hw]
  rw [shortE_all (ref_all h w rev), e]
  unfold okRun
  cases allRuns (turnC c rev) (turnT (renewT c (thickL c) w) rev) <;> rfl

theorem renew_find {c : Case} (h : soundAll c = 0) : renewE c = match firstL (fun q => (renewW c (thickL c) q).2) c.chain.shots.length with
    | some q => ((q, (renewW c (thickL c) q).1), 0)
    | none => (([], false), 9) := by
  unfold renewE
  rw [if_pos (show lookE c (checkC c).2.2 = 0 from h), choose_first]
  cases firstL (fun q => (renewW c (thickL c) q).2) c.chain.shots.length <;> rfl
end Go.PX

namespace Go.PX
open Go.Proofs

theorem relaxE_map {α : Type} (f : α → List D) (g : α → List D) (h : ∀ x, relaxL (f x) = g x) : ∀ l : List α, relaxE (l.map f) = l.map g
  | [] => rfl
  | x :: r => by
    show relaxL (f x) :: relaxE (r.map f) = _
    rw [h, relaxE_map f g h r]; rfl

theorem relaxE_eq : ∀ (l : List (List D)), relaxE l = l.map relaxL
  | [] => rfl
  | x :: r => by
    show relaxL x :: relaxE r = _
    rw [relaxE_eq r]; rfl

theorem relax_gauges (l : List Gauge) : relax (gaugesD l) = gaugesD l := by
  show D.vs (relaxE (l.map Gauge.cells)) = _
  rw [relaxE_map Gauge.cells Gauge.cells fun x => rfl]; rfl

theorem relax_shot (s : Shot) : relaxL s.cells = s.cells := by
  show [_, _, _, _, _, _, _, relax (gaugesD s.gauges)] = _
  rw [relax_gauges]; rfl

theorem relax_tail (c : Case) : relaxL c.cells.tail = c.cells.tail := by
  show [_, _, _, _, _, D.vs (relaxE (c.chain.rows.map Row.cells)), _, _, _, _, _, D.vs (relaxE (c.weathers.map Weather.cells))] = _
  rw [relaxE_map Row.cells Row.cells fun x => rfl, relaxE_map Weather.cells Weather.cells fun x => rfl]; rfl

def renewN (c : Case) (w : List Int) (i : Nat) (s : Shot) : List D := if (i : Int) ∈ w then [.str s.name, i64 s.links, i64 c.day, i64 s.new.lo, i64 s.new.hi, i64 s.wear.lo, i64 s.wear.hi, .nils] else s.cells

theorem relax_new (c : Case) (w : List Int) (i : Nat) (s : Shot) : relaxL (renewN c w i s) = (renewS c w i s).cells := by
  unfold renewN renewS
  split
  · rfl
  · exact relax_shot s

theorem new_len (c : Case) (w : List Int) (i : Nat) (s : Shot) : (renewN c w i s).length = 8 ∧ allScalarD (renewN c w i s) = true := by
  unfold renewN
  split <;> exact ⟨rfl, rfl⟩

def refN (c : Case) (w : List Int) (rev : Bool) : List (List D) := if rev then (c.chain.shots.mapIdx (renewN c w)).reverse else c.chain.shots.mapIdx (renewN c w)

theorem relax_ref (c : Case) (w : List Int) (rev : Bool) : relax (.agg (.vs (refN c w rev) :: c.cells.tail)) = (refC c w rev).d := by
  show D.agg (D.vs (relaxE (refN c w rev)) :: relaxL c.cells.tail) = _
  rw [relax_tail, relaxE_eq]
  have h : (c.chain.shots.mapIdx (renewN c w)).map relaxL = (c.chain.shots.mapIdx (renewS c w)).map Shot.cells := by
    refine List.ext_getElem? fun k => ?_
    simp only [List.getElem?_map, List.getElem?_mapIdx]
    cases c.chain.shots[k]? with
    | none => rfl
    | some s => simp only [Option.map_some, relax_new]
  cases rev with
  | false => show D.agg (D.vs ((c.chain.shots.mapIdx (renewN c w)).map relaxL) :: _) = _; rw [h]; rfl
  | true => show D.agg (D.vs ((c.chain.shots.mapIdx (renewN c w)).reverse.map relaxL) :: _) = _; rw [List.map_reverse, h, ← List.map_reverse]; rfl

theorem fn42n (c : Case) (w : List Int) (rev : Bool) (hw : w.length < 1000000) (hl : (c.chain.shots.length + 1) * 88 ≤ 140737488355328) : FnV Try.prog 42 [c.d, intsD w, .bool rev] (.agg (.vs (refN c w rev) :: c.cells.tail)) := by
  cases rev with
  | false =>
    refine fnV_of mixed tysOk Try.func42 rfl (ft := ft42) 3 (by decide +kernel) (by rfl) fun {σ} Y st => ?_
    conv => whnf
    refine LoopA_i (T := tys) tysOk (by exact drawsB_spec mixed tysOk (by decide +kernel)) c.chain.shots (fun i (g : List (List D) × Nat) => ⟨[(1, .d (intsD w)), (2, .d (.bool false)), (3, .ptr 3 0), (6, .ptr 6 0), (7, .sl 39 8 0 g.2), (8, .d (i64 i))],
        [(3, .box (.dd c.cells)), (6, .box (.dd caseZ0)), (39, .arr 8 (.dd g.1))], st⟩)
      (fun i r g => g.1 = (c.chain.shots.mapIdx (renewN c w)).take i ∧ i = g.2) ([], 0) ((Wk.born 7 39 8 rfl rfl rfl).trans (Wk.sub ⟨rfl, rfl, rfl, rfl, rfl, rfl, trivial⟩ ⟨rfl, rfl, rfl, trivial⟩)) ⟨rfl, rfl⟩ ?_ ?_
    · rintro i x r ⟨es, k⟩ hx hi hr ⟨h1, h2⟩
      replace h1 : es = _ := h1
      replace h2 : i = k := h2
      subst h1 h2
      conv => whnf
      refine brk_i (fun _ => ?_) (fun h => absurd hi (by simpa using h))
      conv => whnf
      refine elemK_nat hx ?_
      conv => whnf
      refine CallA_v (ds := [intsD w, i64 i]) (fn79 w i (by omega)) rfl rfl ?_
      by_cases hiw : (i : Int) ∈ w
      · have hE : renewN c w i x = [.str x.name, i64 x.links, i64 c.day, i64 x.new.lo, i64 x.new.hi, i64 x.wear.lo, i64 x.wear.hi, .nils] := by unfold renewN; rw [if_pos hiw]
        rw [decide_eq_true hiw]
        conv => whnf
        repeat' (first
          | (refine arith_in (wrap_i64 (by (try dsimp only); omega)) ?_; conv => whnf)
          | (refine elemK_nat (by assumption) ?_; conv => whnf)
          | (refine ownK_whole (by first | rfl | assumption | (simp [Els.len]; done) | (simp [Els.len]; omega)) ?_; conv => whnf)
          | (refine chk_i (by first | (exact decide_eq_true (by (try simp only [List.length_map]); omega)) | (simp [Els.len, Els.cons, V.cells, Els.toV, injL]; done) | (simp [Els.len, Els.cons, V.cells, Els.toV, injL]; omega)) ?_; conv => whnf)
          | fail)
        refine ⟨(_, _), ⟨?_, ?_⟩, (Wk.sub ⟨rfl, rfl, rfl, rfl, rfl, rfl, trivial⟩ ⟨rfl, rfl, rfl, trivial⟩)⟩
        · simp only [List.take_succ]
          simp [hx, hE]
          try rfl
        · simp [Els.len]; omega
      · have hE : renewN c w i x = x.cells := by unfold renewN; rw [if_neg hiw]
        rw [decide_eq_false hiw]
        conv => whnf
        repeat' (first
          | (refine arith_in (wrap_i64 (by (try dsimp only); omega)) ?_; conv => whnf)
          | (refine elemK_nat (by assumption) ?_; conv => whnf)
          | (refine ownK_whole (by first | rfl | assumption | (simp [Els.len]; done) | (simp [Els.len]; omega)) ?_; conv => whnf)
          | (refine chk_i (by first | (exact decide_eq_true (by (try simp only [List.length_map]); omega)) | (simp [Els.len, Els.cons, V.cells, Els.toV, injL]; done) | (simp [Els.len, Els.cons, V.cells, Els.toV, injL]; omega)) ?_; conv => whnf)
          | fail)
        refine ⟨(_, _), ⟨?_, ?_⟩, (Wk.sub ⟨rfl, rfl, rfl, rfl, rfl, rfl, trivial⟩ ⟨rfl, rfl, rfl, trivial⟩)⟩
        · simp only [List.take_succ]
          simp [hx, hE]
          try rfl
        · simp [Els.len]; omega
    · rintro ⟨es, k⟩ ⟨h1, h2⟩
      replace h1 : es = _ := h1
      replace h2 : _ = k := h2
      rw [List.take_of_length_le (by simp)] at h1
      subst h1 h2
      conv => whnf
      refine brk_i (fun h => absurd h (by simp)) (fun _ => ?_)
      conv => whnf
      exact RetA_view 3 (ds := [.agg (.vs (refN c w false) :: c.cells.tail)]) (viewL_cons (viewV_agg (viewL_cons (viewV_sl' rfl (by simp [refN]) (by simp [refN])) (viewL_app (a := c.cells.tail) (r := []) rfl))) rfl) ⟨⟨rfl, rfl⟩, rfl⟩
  | true =>
    refine fnV_of mixed tysOk Try.func42 rfl (ft := ft42) 3 (by decide +kernel) (by rfl) fun {σ} Y st => ?_
    conv => whnf
    refine LoopA_i (T := tys) tysOk (by exact drawsB_spec mixed tysOk (by decide +kernel)) c.chain.shots (fun i (g : List (List D) × Nat) => ⟨[(1, .d (intsD w)), (2, .d (.bool true)), (3, .ptr 3 0), (6, .ptr 6 0), (7, .sl 35 8 0 g.2), (8, .d (i64 i))],
        [(3, .box (.dd c.cells)), (6, .box (.dd caseZ0)), (35, .arr 8 (.dd g.1))], st⟩)
      (fun i r g => g.1 = ((c.chain.shots.mapIdx (renewN c w)).take i).reverse ∧ i = g.2 ∧ lenAllD 8 g.1 = true) ([], 0) ((Wk.born 7 35 8 rfl rfl rfl).trans (Wk.sub ⟨rfl, rfl, rfl, rfl, rfl, rfl, trivial⟩ ⟨rfl, rfl, rfl, trivial⟩)) ⟨rfl, rfl, rfl⟩ ?_ ?_
    · rintro i x r ⟨es, k⟩ hx hi hr ⟨h1, h2, h3⟩
      replace h1 : es = _ := h1
      replace h2 : i = k := h2
      replace h3 : lenAllD 8 es = true := h3
      subst h2
      have hel : es.length = i := by rw [h1]; simp; omega
      conv => whnf
      refine brk_i (fun _ => ?_) (fun h => absurd hi (by simpa using h))
      conv => whnf
      refine elemK_nat hx ?_
      conv => whnf
      refine CallA_v (ds := [intsD w, i64 i]) (fn79 w i (by omega)) rfl rfl ?_
      by_cases hiw : (i : Int) ∈ w
      · have hE : renewN c w i x = [.str x.name, i64 x.links, i64 c.day, i64 x.new.lo, i64 x.new.hi, i64 x.wear.lo, i64 x.wear.hi, .nils] := by unfold renewN; rw [if_pos hiw]
        rw [decide_eq_true hiw]
        conv => whnf
        repeat' (first
          | (refine arith_in (wrap_i64 (by (try dsimp only); omega)) ?_; conv => whnf)
          | (refine elemK_nat (by assumption) ?_; conv => whnf)
          | (refine ownK_whole (by first | rfl | assumption | (simp [Els.len]; done) | (simp [Els.len]; omega)) ?_; conv => whnf)
          | (refine chk_i (by first | (exact decide_eq_true (by (try simp only [List.length_map]); omega)) | (simp [Els.len, Els.cons, V.cells, Els.toV, injL]; done) | (simp [Els.len, Els.cons, V.cells, Els.toV, injL]; omega)) ?_; conv => whnf)
          | fail)
        refine chk_i (by
          show (lenAllD 8 es && true) = true
          rw [h3]; rfl) ?_
        conv => whnf
        repeat' (first
          | (refine arith_in (wrap_i64 (by (try dsimp only); omega)) ?_; conv => whnf)
          | (refine elemK_nat (by assumption) ?_; conv => whnf)
          | (refine ownK_whole (by first | rfl | assumption | (simp [Els.len]; done) | (simp [Els.len]; omega)) ?_; conv => whnf)
          | (refine chk_i (by first | (exact decide_eq_true (by (try simp only [List.length_map]); omega)) | (simp [Els.len, Els.cons, V.cells, Els.toV, injL]; done) | (simp [Els.len, Els.cons, V.cells, Els.toV, injL]; omega)) ?_; conv => whnf)
          | fail)
        refine ⟨(_, _), ⟨?_, ?_, ?_⟩, (Wk.sub ⟨rfl, rfl, rfl, rfl, rfl, rfl, trivial⟩ ⟨rfl, rfl, rfl, trivial⟩)⟩
        · rw [h1]
          simp only [List.take_succ]
          simp [hx, hE]
          try rfl
        · simp [Els.len, hel]; omega
        · exact h3
      · have hE : renewN c w i x = x.cells := by unfold renewN; rw [if_neg hiw]
        rw [decide_eq_false hiw]
        conv => whnf
        repeat' (first
          | (refine arith_in (wrap_i64 (by (try dsimp only); omega)) ?_; conv => whnf)
          | (refine elemK_nat (by assumption) ?_; conv => whnf)
          | (refine ownK_whole (by first | rfl | assumption | (simp [Els.len]; done) | (simp [Els.len]; omega)) ?_; conv => whnf)
          | (refine chk_i (by first | (exact decide_eq_true (by (try simp only [List.length_map]); omega)) | (simp [Els.len, Els.cons, V.cells, Els.toV, injL]; done) | (simp [Els.len, Els.cons, V.cells, Els.toV, injL]; omega)) ?_; conv => whnf)
          | fail)
        refine chk_i (by
          show (lenAllD 8 es && true) = true
          rw [h3]; rfl) ?_
        conv => whnf
        repeat' (first
          | (refine arith_in (wrap_i64 (by (try dsimp only); omega)) ?_; conv => whnf)
          | (refine elemK_nat (by assumption) ?_; conv => whnf)
          | (refine ownK_whole (by first | rfl | assumption | (simp [Els.len]; done) | (simp [Els.len]; omega)) ?_; conv => whnf)
          | (refine chk_i (by first | (exact decide_eq_true (by (try simp only [List.length_map]); omega)) | (simp [Els.len, Els.cons, V.cells, Els.toV, injL]; done) | (simp [Els.len, Els.cons, V.cells, Els.toV, injL]; omega)) ?_; conv => whnf)
          | fail)
        refine ⟨(_, _), ⟨?_, ?_, ?_⟩, (Wk.sub ⟨rfl, rfl, rfl, rfl, rfl, rfl, trivial⟩ ⟨rfl, rfl, rfl, trivial⟩)⟩
        · rw [h1]
          simp only [List.take_succ]
          simp [hx, hE]
          try rfl
        · simp [Els.len, hel]; omega
        · exact h3
    · rintro ⟨es, k⟩ ⟨h1, h2, _⟩
      replace h1 : es = _ := h1
      replace h2 : _ = k := h2
      rw [List.take_of_length_le (by simp)] at h1
      subst h1 h2
      conv => whnf
      refine brk_i (fun h => absurd h (by simp)) (fun _ => ?_)
      conv => whnf
      exact RetA_view 3 (ds := [.agg (.vs (refN c w true) :: c.cells.tail)]) (viewL_cons (viewV_agg (viewL_cons (viewV_sl' rfl (by simp [refN]) (by simp [refN])) (viewL_app (a := c.cells.tail) (r := []) rfl))) rfl) ⟨⟨rfl, rfl⟩, rfl⟩

theorem fn42 (c : Case) (w : List Int) (rev : Bool) (hw : w.length < 1000000) (hl : (c.chain.shots.length + 1) * 88 ≤ 140737488355328) : FnV Try.prog 42 [c.d, intsD w, .bool rev] (refC c w rev).d :=
  FnV.relax (fn42n c w rev hw hl) (relax_ref c w rev)
end Go.PX

namespace Go.PX
open Go.Proofs

theorem renewW_true {c : Case} {th : List Span} {q : List Int} (h : (renewW c th q).2 = true) : okRun c th q (renewW c th q).1 = true := by
  rw [renewW_eq] at h ⊢
  by_cases h1 : okRun c th q false = true
  · rw [if_pos h1]; exact h1
  · rw [if_neg h1] at h ⊢
    by_cases h2 : okRun c th q true = true
    · rw [if_pos h2]; exact h2
    · rw [if_neg h2] at h; exact absurd h (by decide)

theorem renewW_any {c : Case} {th : List Span} {q : List Int} {rev : Bool} (h : okRun c th q rev = true) : (renewW c th q).2 = true := by
  rw [renewW_eq]
  cases rev with
  | false => rw [if_pos h]
  | true =>
    split
    · rfl
    · first | rfl | rw [if_pos h]

theorem renew_err {c : Case} (h : soundAll c ≠ 0) : renewE c = (([], false), soundAll c) := by
  unfold renewE
  rw [if_neg (show ¬ lookE c (checkC c).2.2 = 0 from h)]; rfl

theorem fn10 (c : Case) (b : Int) (other : Bool) (hb : 0 ≤ b ∧ b ≤ 255) : FnV Try.prog 10 [c.d, .int .u8 b, .bool other] (.bool true) := by
  refine fnV_of mixed tysOk Try.func10 rfl (ft := ft10) 3 (by decide +kernel) (by rfl) fun {σ} Y st => ?_
  conv => whnf
  refine CallA_v (ds := [c.d]) (fn27 c) rfl rfl ?_
  conv => whnf
  refine CallA_v (ds := [c.d]) (fn33 c) rfl rfl ?_
  conv => whnf
  by_cases he : soundAll c = 0
  · refine brk_i (fun h => absurd h (by simp [he])) (fun _ => ?_)
    have h' : lookE c (checkC c).2.2 = 0 := he
    have h0 := (lookE_zero h').1
    have hR := case_ok h0
    have hlen := hR.lens
    conv => whnf
    refine LoopA_i (T := tys) tysOk (by exact drawsB_spec mixed tysOk (by decide +kernel)) c.chain.shots (fun k (g : List (List D) × Nat) => ⟨[(2, .d (.bool other)), (1, .d (.int .u8 b)), (3, .ptr 3 0), (6, .d (.bool false)), (7, .d (intsD (renewE c).1.1)), (8, .d (.bool (renewE c).1.2)), (9, .d (i64 (renewE c).2)), (11, .sl 59 1 0 g.2), (12, .d (i64 k))],
        [(3, .box (.dd c.cells)), (59, .arr 1 (.dd g.1))], st⟩) (fun k r g => g.1 = (bitsL b k).map (fun n => [i64 n]) ∧ (bitsL b k).length = g.2) ([], 0)
      ((Wk.born 11 59 1 rfl rfl rfl).trans (Wk.sub ⟨rfl, rfl, rfl, rfl, rfl, rfl, rfl, rfl, rfl, trivial⟩ ⟨rfl, rfl, trivial⟩)) ⟨rfl, rfl⟩ ?_ ?_
    · rintro k gg r ⟨es, m⟩ hg hk hr ⟨h1, h2⟩
      replace h1 : es = _ := h1
      replace h2 : _ = m := h2
      subst h1 h2
      have hbl := bitsL_len b k
      conv => whnf
      refine brk_i (fun _ => ?_) (fun h => absurd hk (by simpa using h))
      conv => whnf
      have hsh : min (k : Int).toNat IntKind.u8.bits = k := by
        show min (k : Int).toNat 8 = k
        omega
      rw [hsh]
      by_cases hbit : (b.fdiv (2 ^ k)).tmod 2 = 1
      · rw [decide_eq_true hbit]
        have hE : bitsL b (k + 1) = bitsL b k ++ [(k : Int)] := by rw [bitsL, if_pos hbit]
        conv => whnf
        repeat' (first
          | (refine arith_in (wrap_i64 (by (try dsimp only); omega)) ?_; conv => whnf)
          | (refine elemK_nat (by assumption) ?_; conv => whnf)
          | (refine ownK_whole (by first | rfl | assumption | (simp [Els.len]; done) | (simp [Els.len]; omega)) ?_; conv => whnf)
          | (refine chk_i (by first | (exact decide_eq_true (by (try simp only [List.length_map]); omega)) | (simp [Els.len, Els.cons, V.cells, Els.toV, injL]; done) | (simp [Els.len, Els.cons, V.cells, Els.toV, injL]; omega)) ?_; conv => whnf)
          | fail)
        refine ⟨(_, _), ⟨?_, ?_⟩, (Wk.sub ⟨rfl, rfl, rfl, rfl, rfl, rfl, rfl, rfl, rfl, trivial⟩ ⟨rfl, rfl, trivial⟩)⟩
        · rw [hE]; simp
        · rw [hE]; simp [Els.len]
      · rw [decide_eq_false hbit]
        have hE : bitsL b (k + 1) = bitsL b k := by rw [bitsL, if_neg hbit, List.append_nil]
        conv => whnf
        repeat' (first
          | (refine arith_in (wrap_i64 (by (try dsimp only); omega)) ?_; conv => whnf)
          | (refine elemK_nat (by assumption) ?_; conv => whnf)
          | (refine ownK_whole (by first | rfl | assumption | (simp [Els.len]; done) | (simp [Els.len]; omega)) ?_; conv => whnf)
          | (refine chk_i (by first | (exact decide_eq_true (by (try simp only [List.length_map]); omega)) | (simp [Els.len, Els.cons, V.cells, Els.toV, injL]; done) | (simp [Els.len, Els.cons, V.cells, Els.toV, injL]; omega)) ?_; conv => whnf)
          | fail)
        refine ⟨(_, _), ⟨?_, ?_⟩, (Wk.sub ⟨rfl, rfl, rfl, rfl, rfl, rfl, rfl, rfl, rfl, trivial⟩ ⟨rfl, rfl, trivial⟩)⟩
        · rw [hE]
        · rw [hE]
    · rintro ⟨es, m⟩ ⟨h1, h2⟩
      replace h1 : es = _ := h1
      replace h2 : _ = m := h2
      subst h1 h2
      have hba := bitsL_asc b c.chain.shots.length
      have hbl := bitsL_len b c.chain.shots.length
      have hF := short_ref he (w := bitsL b c.chain.shots.length) (fun i hi => hba.mem i hi) other
      generalize bitsL b c.chain.shots.length = o at *
      conv => whnf
      refine brk_i (fun h => absurd h (by simp)) (fun _ => ?_)
      conv => whnf
      refine CallA_fz (ds := [c.d, intsD o, .bool other]) (fn42 c o other (by omega) (by omega)) 1 [59] (viewL_cons rfl (viewL_cons (viewV_sl rfl (by simp)) (viewL_cons rfl rfl))) rfl ?_
      conv => whnf
      refine CallA_v (ds := [(refC c o other).d]) (fn40 (refC c o other)) rfl rfl ?_
      rw [hF, renew_find he]
      cases hf : firstL (fun q => (renewW c (thickL c) q).2) c.chain.shots.length with
      | none =>
        have hn := first_none hf o hba
        have hk : okRun c (thickL c) o other = false := by
          cases h : okRun c (thickL c) o other with
          | false => rfl
          | true => rw [renewW_any h] at hn; cases hn
        rw [hk]
        simp only [Bool.false_eq_true, if_false]
        conv => whnf
        refine CallA_v (fn22) rfl rfl ?_
        conv => whnf
        exact RetA_view 0 rfl ⟨⟨rfl, rfl⟩, rfl⟩
      | some q =>
        obtain ⟨a1, a2, a3⟩ := first_some hf
        have a4 := a3 o hba
        have hql := a1.len (by omega)
        have hok := renewW_true a2
        have hG := short_ref he (w := q) (fun i hi => a1.mem i hi) (renewW c (thickL c) q).1
        rw [hok, if_pos rfl] at hG
        simp only
        generalize (renewW c (thickL c) q).1 = y at *
        conv => whnf
        refine LoopA_i (T := tys) tysOk (by exact drawsB_spec mixed tysOk (by decide +kernel)) q (fun j (_ : Unit) => ⟨[(3, .ptr 3 0), (6, .d (.bool false)), (7, .d (intsD q)), (8, .d (.bool y)), (9, .d (i64 0)), (11, .sl 59 1 0 o.length), (14, .d (i64 (if okRun c (thickL c) o other then 0 else 9))), (15, .d (i64 j))],
            [(3, .box (.dd c.cells))], st⟩) (fun j r _ => True) () (Wk.sub ⟨rfl, rfl, rfl, rfl, rfl, rfl, rfl, rfl, trivial⟩ ⟨rfl, trivial⟩) trivial ?_ ?_
        · intro j x r _ hx hj hr _
          have hm := a1.mem x (List.mem_of_getElem? hx)
          conv => whnf
          refine brk_i (fun _ => ?_) (fun h => absurd hj (by simpa using h))
          conv => whnf
          refine elemK_nat hx ?_
          conv => whnf
          rw [decide_eq_false (show ¬ x < 0 by omega)]
          conv => whnf
          refine elemK_nat hx ?_
          conv => whnf
          rw [decide_eq_false (show ¬ ((c.chain.shots.map Shot.cells).length : Int) ≤ x by rw [List.length_map]; omega)]
          conv => whnf
          rcases Nat.eq_zero_or_pos j with h0 | h0
          · subst h0
            conv => whnf
            repeat' (first
              | (refine arith_in (wrap_i64 (by (try dsimp only); omega)) ?_; conv => whnf)
              | (refine elemK_nat (by assumption) ?_; conv => whnf)
              | (refine ownK_whole (by first | rfl | assumption | (simp [Els.len]; done) | (simp [Els.len]; omega)) ?_; conv => whnf)
              | (refine chk_i (by first | (exact decide_eq_true (by (try simp only [List.length_map]); omega)) | (simp [Els.len, Els.cons, V.cells, Els.toV, injL]; done) | (simp [Els.len, Els.cons, V.cells, Els.toV, injL]; omega)) ?_; conv => whnf)
              | fail)
            exact ⟨(), trivial, (Wk.sub ⟨rfl, rfl, rfl, rfl, rfl, rfl, rfl, rfl, trivial⟩ ⟨rfl, trivial⟩)⟩
          · obtain ⟨y, hy⟩ : ∃ y, q[j - 1]? = some y := ⟨q[j - 1], List.getElem?_eq_getElem (by omega)⟩
            have hxy := a1.get hy (by rw [show j - 1 + 1 = j by omega]; exact hx)
            rw [decide_eq_true (show (0 : Int) < (j : Int) by omega)]
            conv => whnf
            refine elemK_nat hx ?_
            conv => whnf
            refine arith_to (((j - 1 : Nat) : Int)) (by (try dsimp only); omega) (wrap_i64 (by (try dsimp only); omega)) ?_
            conv => whnf
            refine elemK_nat hy ?_
            conv => whnf
            rw [decide_eq_false (show ¬ x ≤ y by omega)]
            conv => whnf
            repeat' (first
              | (refine arith_in (wrap_i64 (by (try dsimp only); omega)) ?_; conv => whnf)
              | (refine elemK_nat (by assumption) ?_; conv => whnf)
              | (refine ownK_whole (by first | rfl | assumption | (simp [Els.len]; done) | (simp [Els.len]; omega)) ?_; conv => whnf)
              | (refine chk_i (by first | (exact decide_eq_true (by (try simp only [List.length_map]); omega)) | (simp [Els.len, Els.cons, V.cells, Els.toV, injL]; done) | (simp [Els.len, Els.cons, V.cells, Els.toV, injL]; omega)) ?_; conv => whnf)
              | fail)
            exact ⟨(), trivial, (Wk.sub ⟨rfl, rfl, rfl, rfl, rfl, rfl, rfl, rfl, trivial⟩ ⟨rfl, trivial⟩)⟩
        · intro _ _
          conv => whnf
          refine brk_i (fun h => absurd h (by simp)) (fun _ => ?_)
          conv => whnf
          refine CallA_v (ds := [c.d, intsD q, .bool y]) (fn42 c q y (by omega) (by omega)) rfl rfl ?_
          conv => whnf
          refine CallA_v (ds := [(refC c q y).d]) (fn40 (refC c q y)) rfl rfl ?_
          rw [hG]
          cases hk : okRun c (thickL c) o other with
          | false =>
            simp only [Bool.false_eq_true, if_false]
            conv => whnf
            refine CallA_v (fn22) rfl rfl ?_
            conv => whnf
            exact RetA_view 0 rfl ⟨⟨rfl, rfl⟩, rfl⟩
          | true =>
            have hle := a4 (renewW_any hk)
            simp only [if_true]
            conv => whnf
            rw [decide_eq_true (show (((q.map fun n => [i64 n]).length : Nat) : Int) ≤ ((o.length : Nat) : Int) by rw [List.length_map]; omega)]
            conv => whnf
            refine CallA_v (fn22) rfl rfl ?_
            conv => whnf
            exact RetA_view 0 rfl ⟨⟨rfl, rfl⟩, rfl⟩
  · refine brk_i (fun _ => ?_) (fun h => absurd h (by simpa using he))
    rw [renew_err he]
    conv => whnf
    rw [self_t]
    conv => whnf
    refine CallA_v (fn22) rfl rfl ?_
    conv => whnf
    exact RetA_view 0 rfl ⟨⟨rfl, rfl⟩, rfl⟩
end Go.PX

namespace Go.PX
open Go.Proofs

theorem ascB_iff {below start : Int} : ∀ {r : List Int} {start : Int}, AscB below start r ↔ r.Pairwise (· < ·) ∧ ∀ x ∈ r, start ≤ x ∧ x < below
  | [], _ => by simp [AscB]
  | a :: r, start => by
    simp only [AscB, List.pairwise_cons, List.forall_mem_cons]
    rw [ascB_iff (start := start) (r := r)]
    constructor
    · rintro ⟨h1, h2, h3, h4⟩
      exact ⟨⟨fun x hx => by have := h4 x hx; omega, h3⟩, ⟨h1, h2⟩, fun x hx => by have := h4 x hx; omega⟩
    · rintro ⟨⟨h1, h2⟩, ⟨h3, h4⟩, h5⟩
      exact ⟨h3, h4, h2, fun x hx => by have := h1 x hx; have := h5 x hx; omega⟩

/-- Indices, counted from the other end. -/
def mirror (n : Int) (q : List Int) : List Int := (q.map fun x => n - 1 - x).reverse

theorem mirror_mem {n k : Int} {q : List Int} : k ∈ mirror n q ↔ n - 1 - k ∈ q := by
  unfold mirror
  rw [List.mem_reverse, List.mem_map]
  constructor
  · rintro ⟨x, hx, rfl⟩
    rwa [show n - 1 - (n - 1 - x) = x by omega]
  · intro h
    exact ⟨n - 1 - k, h, by omega⟩

theorem mirror_asc {n : Int} {q : List Int} (h : AscB n 0 q) : AscB n 0 (mirror n q) := by
  rw [ascB_iff (start := 0)] at h ⊢
  refine ⟨?_, fun x hx => ?_⟩
  · unfold mirror
    rw [List.pairwise_reverse, List.pairwise_map]
    exact h.1.imp fun hab => by omega
  · have := h.2 _ (mirror_mem.1 hx)
    omega

theorem mirror_len (n : Int) (q : List Int) : (mirror n q).length = q.length := by simp [mirror]

theorem turnT_rev (x : List Span) (rev : Bool) : turnT x.reverse rev = turnT x (!rev) := by
  cases rev <;> simp [turnT]

theorem ok_back {c : Case} {q : List Int} (h : AscB c.chain.shots.length 0 q) (rev : Bool) : okRun (turnC c true) (thickL (turnC c true)) q rev = okRun c (thickL c) (mirror c.chain.shots.length q) (!rev) := by
  have hq : ∀ i ∈ q, 0 ≤ i ∧ i < c.chain.shots.length := fun i hi => h.mem i hi
  have hm : ∀ i ∈ mirror c.chain.shots.length q, 0 ≤ i ∧ i < c.chain.shots.length := fun i hi => (mirror_asc h).mem i hi
  have hlb : (turnC c true).chain.shots.length = c.chain.shots.length := by simp [turnC]
  have e : renewT (turnC c true) (thickL (turnC c true)) q = (renewT c (thickL c) (mirror c.chain.shots.length q)).reverse := by
    refine List.ext_getElem? fun k => ?_
    rw [renewT_get (c := turnC c true) (by rw [hlb]; exact hq) (by simp [thickL])]
    by_cases hk : k < c.chain.shots.length
    · rw [List.getElem?_reverse (by rw [renewT_len]; simpa [thickL] using hk), renewT_len, show (thickL c).length = c.chain.shots.length by simp [thickL], renewT_get hm (by simp [thickL])]
      have hmem : (((c.chain.shots.length - 1 - k : Nat) : Int) ∈ mirror c.chain.shots.length q) ↔ (k : Int) ∈ q := by
        rw [mirror_mem, show (c.chain.shots.length : Int) - 1 - ((c.chain.shots.length - 1 - k : Nat) : Int) = k by omega]
      have hs : (turnC c true).chain.shots[k]? = c.chain.shots[c.chain.shots.length - 1 - k]? := by
        show c.chain.shots.reverse[k]? = _
        rw [List.getElem?_reverse hk]
      have ht : (thickL (turnC c true))[k]? = (thickL c)[c.chain.shots.length - 1 - k]? := by
        rw [thick_turn]
        show (thickL c).reverse[k]? = _
        rw [List.getElem?_reverse (by simpa [thickL] using hk)]
        simp [thickL]
      rw [hs, ht]
      by_cases hkq : (k : Int) ∈ q
      · rw [if_pos hkq, if_pos (hmem.2 hkq)]
      · rw [if_neg hkq, if_neg fun h => hkq (hmem.1 h)]
    · rw [if_neg (fun h => by have := hq _ h; omega), List.getElem?_eq_none (by simp [thickL, turnC]; omega), List.getElem?_eq_none (by rw [List.length_reverse, renewT_len]; simp [thickL]; omega)]
  unfold okRun
  rw [e, turnT_rev, turn_turn]
  cases rev <;> rfl

theorem any_back {c : Case} {q : List Int} (h : AscB c.chain.shots.length 0 q) (hw : (renewW c (thickL c) q).2 = true) : (renewW (turnC c true) (thickL (turnC c true)) (mirror c.chain.shots.length q)).2 = true := by
  have h1 := renewW_true hw
  generalize (renewW c (thickL c) q).1 = rev at h1
  refine renewW_any (rev := !rev) ?_
  rw [ok_back (mirror_asc h)]
  have e : mirror c.chain.shots.length (mirror c.chain.shots.length q) = q := by
    unfold mirror
    rw [List.map_reverse, List.reverse_reverse, List.map_map]
    conv => rhs; rw [← List.map_id q]
    refine List.map_congr_left fun x _ => ?_
    simp only [Function.comp_apply, id_eq]
    omega
  rw [e, Bool.not_not]
  exact h1

theorem turn_self (c : Case) : turnC (turnC c true) true = c := by
  rw [turn_turn]; rfl

/-- Whichever way a chain lies, as many shots are renewed. -/
theorem back_len {c : Case} (h : soundAll c = 0) : (renewE (turnC c true)).2 = (renewE c).2 ∧ (renewE (turnC c true)).1.1.length = (renewE c).1.1.length ∧ (renewE c).1.1.length ≤ c.chain.shots.length := by
  have hb := turn_all h true
  rw [renew_find h, renew_find hb]
  have hl : (turnC c true).chain.shots.length = c.chain.shots.length := by simp [turnC]
  rw [hl]
  cases h1 : firstL (fun q => (renewW c (thickL c) q).2) c.chain.shots.length with
  | none =>
    cases h2 : firstL (fun q => (renewW (turnC c true) (thickL (turnC c true)) q).2) c.chain.shots.length with
    | none => exact ⟨rfl, rfl, Nat.zero_le _⟩
    | some q =>
      exfalso
      obtain ⟨a1, a2, _⟩ := first_some h2
      have hw := any_back (c := turnC c true) (by rw [hl]; exact a1) a2
      rw [turn_self, hl] at hw
      have := first_none h1 _ (mirror_asc a1)
      rw [hw] at this; cases this
  | some p =>
    obtain ⟨p1, p2, p3⟩ := first_some h1
    cases h2 : firstL (fun q => (renewW (turnC c true) (thickL (turnC c true)) q).2) c.chain.shots.length with
    | none =>
      exfalso
      have := first_none h2 _ (mirror_asc p1)
      rw [any_back p1 p2] at this; cases this
    | some q =>
      obtain ⟨a1, a2, a3⟩ := first_some h2
      have hw := any_back (c := turnC c true) (by rw [hl]; exact a1) a2
      rw [turn_self, hl] at hw
      have k1 := p3 _ (mirror_asc a1) hw
      have k2 := a3 _ (mirror_asc p1) (any_back p1 p2)
      rw [mirror_len] at k1 k2
      have := p1.len (by omega)
      exact ⟨rfl, by simp only; omega, by simp only; omega⟩

theorem back_err {c : Case} (h : soundAll c ≠ 0) : (renewE (turnC c true)).2 ≠ 0 := by
  have hb : soundAll (turnC c true) ≠ 0 := fun hb => by
    have := turn_all hb true
    rw [turn_self] at this
    exact h this
  rw [renew_err hb]
  exact hb
end Go.PX

namespace Go.PX
open Go.Proofs

theorem CallA_rep {P : Program} {σ : Type} {Y : Hd σ} {st : St σ} {d : Option Nat} {f : FuncId} {args args' : List V} {K : St σ → Prop} (h : ∀ (yv : Option Nat) (L : Loc) (F : Nat → Nat) (w : World) (l : List Value), RepVL yv L F w args l → RepVL yv L F w args' l) (hc : CallA P Y st d f args' K) : CallA P Y st d f args K := by
  obtain ⟨h1, h2⟩ := hc
  exact ⟨h1, fun cx hY r m L F a w vals hg hd hr => h2 cx hY r m L F a w vals hg hd (h _ _ _ _ _ hr)⟩

/-- A nil slice that is handed over second is an empty list. -/
theorem CallA_nil1 {P : Program} {σ : Type} {Y : Hd σ} {st : St σ} {d : Option Nat} {f : FuncId} {a : V} {r : List V} {K : St σ → Prop} (hc : CallA P Y st d f (a :: .d (.vs []) :: r) K) : CallA P Y st d f (a :: .d .nils :: r) K := by
  refine CallA_rep (fun yv L F w l h => ?_) hc
  obtain ⟨x, l', rfl, h1, y, l'', rfl, h2, h3⟩ := h
  exact ⟨x, _, rfl, h1, y, _, rfl, RepD.relax .nils y h2, h3⟩

theorem fn12 (c : Case) (hl : (c.chain.shots.length + 1) * 88 ≤ 140737488355328) : FnV Try.prog 12 [c.d] (.bool true) := by
  refine fnV_of mixed tysOk Try.func12 rfl (ft := ft12) 1 (by decide +kernel) (by rfl) fun {σ} Y st => ?_
  conv => whnf
  have e1 : refC c [] true = turnC c true := by unfold refC; rw [renew_nil]
  have e2 : refC (turnC c true) [] true = c := by unfold refC; rw [renew_nil, turn_self]
  have hlb : (turnC c true).chain.shots.length = c.chain.shots.length := by simp [turnC]
  refine CallA_nil1 ?_
  refine CallA_v (ds := [c.d, intsD [], .bool true]) (fn42 c [] true (by simp) hl) rfl rfl ?_
  rw [e1]
  conv => whnf
  refine CallA_nil1 ?_
  refine CallA_v (ds := [(turnC c true).d, intsD [], .bool true]) (fn42 (turnC c true) [] true (by simp) (by rw [hlb]; exact hl)) rfl rfl ?_
  rw [e2]
  conv => whnf
  refine CallA_v (ds := [c.d]) (fn27 c) rfl rfl ?_
  conv => whnf
  refine CallA_v (ds := [(turnC c true).d]) (fn27 (turnC c true)) rfl rfl ?_
  conv => whnf
  refine CallA_v (ds := [c.d]) (fn27 c) rfl rfl ?_
  conv => whnf
  refine CallA_v (ds := [c.d]) (fn33 c) rfl rfl ?_
  conv => whnf
  by_cases he : soundAll c = 0
  · refine brk_i (fun h => absurd h (by simp [he])) (fun _ => ?_)
    obtain ⟨b1, b2, b3⟩ := back_len he
    have hR := case_ok (lookE_zero (show lookE c (checkC c).2.2 = 0 from he)).1
    have hlen := hR.lens
    rw [b1]
    have b2' : ((((renewE c).1.1.map fun n => [i64 n]).length : Nat) : Int) = ((((renewE (turnC c true)).1.1.map fun n => [i64 n]).length : Nat) : Int) := by rw [List.length_map, List.length_map, b2]
    generalize (renewE (turnC c true)).1.1 = m at *
    generalize renewE c = R at *
    conv => whnf
    rw [self_t]
    conv => whnf
    rw [show (R.1.2 == R.1.2) = true from beq_self_eq_true _]
    conv => whnf
    refine CallA_v (ds := [intsD R.1.1, intsD R.1.1]) (fn19 R.1.1 R.1.1 (by omega)) rfl rfl ?_
    rw [show decide (R.1.1 = R.1.1) = true from decide_eq_true rfl]
    conv => whnf
    rw [self_t]
    conv => whnf
    rw [b2', self_t]
    conv => whnf
    have hsl : (scopesE c).1.length < 1000000 := by
      have hs := (scopesE_all he).2
      rw [hs]
      have ha := (allRuns_asc c (thickL c)).len (N := linksF c.chain.shots) fun s hs => by
        obtain ⟨i, hi⟩ := List.mem_iff_getElem?.1 hs
        have h2 := (allRuns_asc c (thickL c)).get hi
        exact ((allRuns_cov hR (thickL c) s.hi).1 ⟨s, hs, h2.2, Int.le_refl _⟩).2.1
      have hlk := links_ok hR
      cases hr : allRuns c (thickL c) with
      | nil => simp
      | cons s r =>
        rw [hr] at ha
        rcases ha with h | h
        · cases h
        · show (s :: r).length < 1000000
          omega
    refine CallA_v (ds := [c.d]) (fn41 c) rfl rfl ?_
    conv => whnf
    refine CallA_v (ds := [c.d]) (fn41 c) rfl rfl ?_
    conv => whnf
    refine CallA_v (ds := [spansD (scopesE c).1, spansD (scopesE c).1]) (fn45 (scopesE c).1 (scopesE c).1 hsl) rfl rfl ?_
    rw [show decide ((scopesE c).1 = (scopesE c).1) = true from decide_eq_true rfl]
    conv => whnf
    rw [self_t]
    conv => whnf
    refine CallA_v (fn22) rfl rfl ?_
    conv => whnf
    exact RetA_view 0 rfl ⟨⟨rfl, rfl⟩, rfl⟩
  · have hbe := back_err he
    refine brk_i (fun _ => ?_) (fun h => absurd h (by simpa using he))
    rw [renew_err he]
    conv => whnf
    rw [self_t]
    conv => whnf
    rw [decide_eq_false hbe]
    conv => whnf
    rw [self_t]
    conv => whnf
    refine CallA_v (fn22) rfl rfl ?_
    conv => whnf
    exact RetA_view 0 rfl ⟨⟨rfl, rfl⟩, rfl⟩
end Go.PX
