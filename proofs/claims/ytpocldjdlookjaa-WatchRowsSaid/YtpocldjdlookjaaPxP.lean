import Derived.Test.YtpocldjdlookjaaPxO
set_option linter.all false
set_option maxRecDepth 10000
namespace Go.PX.KN
def openC (l P : List Nat) : Nat := l.countP fun v => decide (v ∉ P)
theorem openC_snoc {l P : List Nat} {i : Nat} (hi : i ∉ P) : openC l (P ++ [i]) + l.count i = openC l P := by
 induction l with
 | nil => rfl
 | cons a r ih =>
  unfold openC at ih ⊢
  rw [List.countP_cons, List.countP_cons, List.count_cons]
  by_cases h : a = i
  ·subst h
   have h1 : decide (a ∉ P ++ [a]) = false := by simp
   have h2 : decide (a ∉ P) = true := by simp [hi]
   rw [h1, h2]
   simp only [if_true, Bool.false_eq_true, if_false, beq_self_eq_true]
   omega
  ·have h1 : decide (a ∉ P ++ [i]) = decide (a ∉ P) := by
    congr 1
    simp [h]
   have h3 : (a == i) = false := by simpa using h
   rw [h1, h3]
   simp only [Bool.false_eq_true, if_false]
   omega
theorem openC_zero {l P : List Nat} : openC l P = 0 ↔ ∀ v ∈ l, v ∈ P := by
 unfold openC
 rw [List.countP_eq_zero]
 simp
structure KInv (n : Nat) (B bf : List (List Nat)) (p : Nat) (H : List Int) (s : KS) : Prop where
 inn : Inner n s []
 hp : p ≤ s.line.length
 hH : H.length = n
 left : ∀ j, j < n → atI s.left j = openC (atL B j) (s.line.take p)
 fore : ∀ (q i : Nat), q < p → s.line[q]? = some i → ∀ v ∈ atL B i, ∃ r, r < q ∧ s.line[r]? = some v
 val : ∀ i ∈ s.line.take p, atI H i = highF H (atL B i)
 no : ∀ i, i < n → i ∉ s.line.take p → atI H i = -1
 bd : ∀ i, i < n → -1 ≤ atI H i ∧ atI H i < p
theorem nodup_sub : ∀ {l m : List Nat}, l.Nodup → (∀ x ∈ l, x ∈ m) → l.length ≤ m.length
 | [], m, _, _ => Nat.zero_le _
 | a :: r, m, h, hs => by
  obtain ⟨h1, h2⟩ := List.nodup_cons.1 h
  have ha := hs a (by simp)
  have := nodup_sub (l := r) (m := m.erase a) h2 fun x hx => (List.mem_erase_of_ne (fun e => h1 (by rw [← e]; exact hx))).2 (hs x (by simp [hx]))
  rw [List.length_erase_of_mem ha] at this
  have := List.length_pos_of_mem ha
  simp only [List.length_cons]
  omega
theorem nodup_len {n : Nat} {l : List Nat} (h : l.Nodup) (hl : ∀ j ∈ l, j < n) : l.length ≤ n := by
 have := nodup_sub (m := List.range n) h fun x hx => List.mem_range.2 (hl x hx)
 simpa using this
theorem nodup_ne {l : List Nat} (h : l.Nodup) {r p : Nat} {i : Nat} (hrp : r < p) (hr : l[r]? = some i) (hp : l[p]? = some i) : False := by
 obtain ⟨h1, h2⟩ := List.getElem?_eq_some_iff.1 hr
 obtain ⟨h3, h4⟩ := List.getElem?_eq_some_iff.1 hp
 exact List.pairwise_iff_getElem.1 h r p h1 h3 hrp (by rw [h2, h4])
theorem highF_congr {H K : List Int} : ∀ {l : List Nat} {h : Int}, (∀ v ∈ l, atI H v = atI K v) → l.foldl (fun h j => max h (atI H j + 1)) h = l.foldl (fun h j => max h (atI K j + 1)) h
 | [], h, _ => rfl
 | a :: r, h, hh => by
  rw [List.foldl_cons, List.foldl_cons, hh a (by simp)]
  exact highF_congr fun v hv => hh v (by simp [hv])
theorem highF_bd {H : List Int} {b : Int} : ∀ {l : List Nat} {h : Int}, 0 ≤ h → h ≤ b → (∀ v ∈ l, atI H v < b) → 0 ≤ l.foldl (fun h j => max h (atI H j + 1)) h ∧ l.foldl (fun h j => max h (atI H j + 1)) h ≤ b
 | [], h, h0, h1, _ => ⟨h0, h1⟩
 | a :: r, h, h0, h1, hh => by
  rw [List.foldl_cons]
  have := hh a (by simp)
  exact highF_bd (by omega) (by omega) fun v hv => hh v (by simp [hv])
theorem take_snoc {α : Type} {l : List α} {p : Nat} {i : α} (h : l[p]? = some i) : l.take (p + 1) = l.take p ++ [i] := by
 rw [List.take_add_one, h]; rfl
theorem mem_take {α : Type} {l : List α} {p : Nat} {v : α} : v ∈ l.take p ↔ ∃ r, r < p ∧ l[r]? = some v := by
 rw [List.mem_iff_getElem?]
 constructor
 ·rintro ⟨r, hr⟩
  rw [List.getElem?_take] at hr
  split at hr
  ·exact ⟨r, by assumption, hr⟩
  ·cases hr
 ·rintro ⟨r, h1, h2⟩
  exact ⟨r, by rw [List.getElem?_take, if_pos h1]; exact h2⟩
theorem kstep {n : Nat} {B bf : List (List Nat)} (hbf : ∀ i j, i < n → j < n → (atL bf i).count j = (atL B j).count i) (hbl : ∀ i, i < n → ∀ j ∈ atL bf i, j < n) {p : Nat} {H : List Int} {s : KS} {i : Nat} (h : KInv n B bf p H s) (hi : s.line[p]? = some i) :
  KInv n B bf (p + 1) (H.set i (highF H (atL B i))) ((atL bf i).foldl lessK s) ∧ Inner n s (atL bf i ++ []) := by
 have hm : i ∈ s.line := List.mem_of_getElem? hi
 have hin := h.inn.low i hm
 have hz : openC (atL B i) (s.line.take p) = 0 := by
  have h1 := (h.inn.zero i hin).1 hm
  have h2 := h.left i hin
  omega
 have hall := openC_zero.1 hz
 have hplt : p < s.line.length := (List.getElem?_eq_some_iff.1 hi).1
 have hnp : i ∉ s.line.take p := by
  intro hm2
  obtain ⟨r, hr1, hr2⟩ := mem_take.1 hm2
  exact nodup_ne h.inn.nodup hr1 hr2 hi
 have hmore : Inner n s (atL bf i ++ []) := by
  refine ⟨h.inn.len, h.inn.nodup, h.inn.low, h.inn.zero, fun j hj => ?_⟩
  rw [List.append_nil, hbf i j hin hj, h.left j hj]
  have := openC_snoc (l := atL B j) hnp
  omega
 obtain ⟨h1, h2, t, h3⟩ := inner_fold (atL bf i) s [] (hbl i hin) hmore
 have htk : ((atL bf i).foldl lessK s).line.take (p + 1) = s.line.take p ++ [i] := by
  rw [h3, List.take_append_of_le_length (by omega), take_snoc hi]
 have hget : ∀ q, q < p + 1 → ((atL bf i).foldl lessK s).line[q]? = s.line[q]? := fun q hq => by
  rw [h3, List.getElem?_append_left (by omega)]
 have hset : ∀ j, atI (H.set i (highF H (atL B i))) j = if i = j then highF H (atL B i) else atI H j := fun j => atI_set (by rw [h.hH]; exact hin)
 have hhigh : 0 ≤ highF H (atL B i) ∧ highF H (atL B i) ≤ p := highF_bd (Int.le_refl 0) (by omega) fun v hv => by
  obtain ⟨r, hr1, hr2⟩ := mem_take.1 (hall v hv)
  exact (h.bd v (h.inn.low v (List.mem_of_getElem? hr2))).2
 have hcong : ∀ l : List Nat, (∀ v ∈ l, v ∈ s.line.take p) → highF (H.set i (highF H (atL B i))) l = highF H l := fun l hl => highF_congr fun v hv => by
  rw [hset v, if_neg (fun e => hnp (by rw [e]; exact hl v hv))]
 refine ⟨⟨h1, ?_, by rw [List.length_set]; exact h.hH, ?_, ?_, ?_, ?_, ?_⟩, hmore⟩
 ·rw [h3, List.length_append]; omega
 ·intro j hj
  rw [h2 j hj, htk, h.left j hj, hbf i j hin hj]
  have := openC_snoc (l := atL B j) hnp
  omega
 ·intro q k hq hk v hv
  rw [hget q hq] at hk
  by_cases hqp : q < p
  ·obtain ⟨r, hr1, hr2⟩ := h.fore q k hqp hk v hv
   exact ⟨r, hr1, by rw [hget r (by omega)]; exact hr2⟩
  ·have : q = p := by omega
   subst this
   rw [hi] at hk
   cases hk
   obtain ⟨r, hr1, hr2⟩ := mem_take.1 (hall v hv)
   exact ⟨r, hr1, by rw [hget r (by omega)]; exact hr2⟩
 ·intro k hk
  rw [htk] at hk
  rcases List.mem_append.1 hk with hk | hk
  ·have hke : i ≠ k := fun e => hnp (by rw [e]; exact hk)
   obtain ⟨q, hq1, hq2⟩ := mem_take.1 hk
   rw [hset k, if_neg hke, h.val k hk, hcong]
   intro v hv
   obtain ⟨r, hr1, hr2⟩ := h.fore q k hq1 hq2 v hv
   exact mem_take.2 ⟨r, by omega, hr2⟩
  ·rw [List.mem_singleton] at hk
   subst hk
   rw [hset k, if_pos rfl, hcong _ hall]
 ·intro k hk1 hk2
  rw [htk] at hk2
  rw [hset k, if_neg (fun e => hk2 (by simp [e]))]
  exact h.no k hk1 (fun hm => hk2 (by simp [hm]))
 ·intro k hk
  rw [hset k]
  split
  ·omega
  ·have := h.bd k hk
   omega
structure Kahn (n : Nat) (B : List (List Nat)) (H : List Int) (line : List Nat) : Prop where
 nodup : line.Nodup
 low : ∀ j ∈ line, j < n
 hH : H.length = n
 fore : ∀ (q i : Nat), line[q]? = some i → ∀ v ∈ atL B i, ∃ r, r < q ∧ line[r]? = some v
 val : ∀ i ∈ line, atI H i = highF H (atL B i)
 no : ∀ i, i < n → i ∉ line → atI H i = -1 ∧ ∃ v ∈ atL B i, v ∉ line
theorem KInv.done {n : Nat} {B bf : List (List Nat)} {p : Nat} {H : List Int} {s : KS} (h : KInv n B bf p H s) (hp : p = s.line.length) : Kahn n B H s.line := by
 have ht : s.line.take p = s.line := by rw [hp, List.take_length]
 refine ⟨h.inn.nodup, h.inn.low, h.hH, fun q i hq => h.fore q i ?_ hq, fun i hi => h.val i (by rw [ht]; exact hi), fun i hi hn => ⟨h.no i hi (by rw [ht]; exact hn), ?_⟩⟩
 ·rw [hp]; exact (List.getElem?_eq_some_iff.1 hq).1
 ·have h1 : atI s.left i ≠ 0 := fun e => hn ((h.inn.zero i hi).2 e)
  have h2 := h.left i hi
  rw [ht] at h2
  have h3 : ¬ openC (atL B i) s.line = 0 := by omega
  rw [openC_zero] at h3
  simpa using h3
def line0 (B : List (List Nat)) (n : Nat) : List Nat := (List.range n).filter fun i => decide ((atL B i).length = 0)
def left0 (B : List (List Nat)) : List Int := B.map fun l => (l.length : Int)
theorem kfirst {n : Nat} {B bf : List (List Nat)} (hn : B.length = n) : KInv n B bf 0 (List.replicate n (-1)) ⟨left0 B, line0 B n⟩ := by
 have ha : ∀ j, j < n → atI (left0 B) j = (atL B j).length := fun j hj => by
  unfold atI left0 atL
  rw [List.getElem?_map, List.getElem?_eq_getElem (by omega)]
  rfl
 have hr : ∀ j, j < n → atI (List.replicate n (-1)) j = -1 := fun j hj => by
  unfold atI
  rw [List.getElem?_replicate, if_pos hj]
  rfl
 refine ⟨⟨by simp [left0, hn], List.Pairwise.filter _ List.nodup_range, fun j hj => List.mem_range.1 (List.mem_filter.1 hj).1, fun j hj => ?_, fun j hj => ?_⟩, Nat.zero_le _, by simp, fun j hj => ?_, fun q i hq => by omega, fun i hi => by simp at hi, fun i hi _ => hr i hi, fun i hi => by rw [hr i hi]; omega⟩
 ·rw [ha j hj]
  unfold line0
  rw [List.mem_filter, List.mem_range]
  simp [hj]
 ·rw [ha j hj]; simp
 ·rw [ha j hj]
  unfold openC
  rw [List.take_zero]
  congr 1
  symm
  rw [List.countP_eq_length]
  simp
def deadM (B : List (List Nat)) : Nat → Nat → Prop
 | 0, _ => False
 | m + 1, i => ∀ v ∈ atL B i, deadM B m v
def hgtM (B : List (List Nat)) : Nat → Nat → Int
 | 0, _ => 0
 | m + 1, i => (atL B i).foldl (fun h v => max h (hgtM B m v + 1)) 0
theorem deadM_le {B : List (List Nat)} : ∀ {m i : Nat}, deadM B m i → ∀ {k : Nat}, m ≤ k → deadM B k i
 | 0, i, h, _, _ => h.elim
 | m + 1, i, h, 0, hk => by omega
 | m + 1, i, h, k + 1, hk => fun v hv => deadM_le (h v hv) (by omega)
theorem foldl_eq {f g : Nat → Int} : ∀ {l : List Nat} {h : Int}, (∀ v ∈ l, f v = g v) → l.foldl (fun h v => max h (f v + 1)) h = l.foldl (fun h v => max h (g v + 1)) h
 | [], h, _ => rfl
 | a :: r, h, hh => by
  rw [List.foldl_cons, List.foldl_cons, hh a (by simp)]
  exact foldl_eq fun v hv => hh v (by simp [hv])
theorem hgtM_le {B : List (List Nat)} : ∀ {m i : Nat}, deadM B m i → ∀ {k : Nat}, m ≤ k → hgtM B k i = hgtM B m i
 | 0, i, h, _, _ => h.elim
 | m + 1, i, h, 0, hk => by omega
 | m + 1, i, h, k + 1, hk => by
  rw [hgtM, hgtM]
  exact foldl_eq fun v hv => hgtM_le (h v hv) (by omega)
theorem Kahn.law {n : Nat} {B : List (List Nat)} {H : List Int} {line : List Nat} (h : Kahn n B H line) (hB : ∀ i, i < n → ∀ v ∈ atL B i, v < n) :
  (∀ i ∈ line, deadM B line.length i ∧ atI H i = hgtM B line.length i) ∧ ∀ i, i < n → i ∉ line → atI H i = -1 ∧ ∀ m, ¬ deadM B m i := by
 refine ⟨?_, fun i hi hn => ⟨(h.no i hi hn).1, fun m => ?_⟩⟩
 ·have key : ∀ q, q < line.length → ∀ i, line[q]? = some i → deadM B (q + 1) i ∧ atI H i = hgtM B (q + 1) i := by
   intro q
   induction q using Nat.strongRecOn with
   | _ q ih =>
    intro hq i hi
    have hd : ∀ v ∈ atL B i, deadM B q v ∧ atI H v = hgtM B q v := by
     intro v hv
     obtain ⟨r, hr1, hr2⟩ := h.fore q i hi v hv
     obtain ⟨h1, h2⟩ := ih r hr1 (by omega) v hr2
     exact ⟨deadM_le h1 (by omega), h2.trans (hgtM_le h1 (by omega)).symm⟩
    refine ⟨fun v hv => (hd v hv).1, ?_⟩
    rw [h.val i (List.mem_of_getElem? hi), hgtM]
    exact foldl_eq fun v hv => (hd v hv).2
  intro i hi
  obtain ⟨q, hq, he⟩ := List.mem_iff_getElem.1 hi
  obtain ⟨h1, h2⟩ := key q hq i (by rw [List.getElem?_eq_getElem hq, he])
  exact ⟨deadM_le h1 (by omega), h2.trans (hgtM_le h1 (by omega)).symm⟩
 ·induction m generalizing i with
  | zero => exact fun h => h
  | succ m ih =>
   intro hd
   obtain ⟨v, hv, hvn⟩ := (h.no i hi hn).2
   exact ih v (hB i hi v hv) hvn (hd v hv)
end Go.PX.KN
namespace Go.PX.KN
structure WS (S : Type) where
 ix : List Int
 sts : List S
variable {S : Type}
def entW (code : S → Nat) (w : WS S) (u : S) : WS S := if atI w.ix (code u) = 0 then ⟨w.ix.set (code u) ((w.sts.length + 1 : Nat) : Int), w.sts ++ [u]⟩ else w
def rowW (code : S → Nat) : List S → WS S → List Nat → WS S × List Nat
 | [], w, l => (w, l)
 | u :: r, w, l => rowW code r (entW code w u) (l ++ [(atI (entW code w u).ix (code u) - 1).toNat])
def webW (succ : S → List S) (code : S → Nat) : Nat → WS S → List (List Nat) → WS S × List (List Nat)
 | 0, w, b => (w, b)
 | f + 1, w, b => match w.sts[b.length]? with
  | none => (w, b)
  | some s => webW succ code f (rowW code (succ s) w []).1 (b ++ [(rowW code (succ s) w []).2])
structure WOk (code : S → Nat) (N : Nat) (U : S → Prop) (w : WS S) : Prop where
 len : w.ix.length = N
 nodup : w.sts.Nodup
 inU : ∀ s ∈ w.sts, U s
 at' : ∀ (q : Nat) s, w.sts[q]? = some s → atI w.ix (code s) = (q : Int) + 1
 of : ∀ u, U u → atI w.ix (code u) ≠ 0 → ∃ q : Nat, atI w.ix (code u) = (q : Int) + 1 ∧ w.sts[q]? = some u
theorem ent_ok {code : S → Nat} {N : Nat} {U : S → Prop} (hc : ∀ s, U s → code s < N) (hinj : ∀ s t, U s → U t → code s = code t → s = t) {w : WS S} (h : WOk code N U w) {u : S} (hu : U u) :
  WOk code N U (entW code w u) ∧ (∃ t, (entW code w u).sts = w.sts ++ t) ∧ ∃ q : Nat, atI (entW code w u).ix (code u) = (q : Int) + 1 ∧ (entW code w u).sts[q]? = some u := by
 unfold entW
 by_cases h0 : atI w.ix (code u) = 0
 ·rw [if_pos h0]
  have hlt : code u < w.ix.length := by rw [h.len]; exact hc u hu
  have hset : ∀ c, atI (w.ix.set (code u) ((w.sts.length + 1 : Nat) : Int)) c = if code u = c then ((w.sts.length + 1 : Nat) : Int) else atI w.ix c := fun c => atI_set hlt
  have hnm : u ∉ w.sts := fun hm => by
   obtain ⟨q, hq⟩ := List.mem_iff_getElem?.1 hm
   have := h.at' q u hq
   omega
  have hne : ∀ s ∈ w.sts, code u ≠ code s := fun s hs e => hnm (by rw [hinj u s hu (h.inU s hs) e]; exact hs)
  refine ⟨⟨by simp [h.len], ?_, ?_, ?_, ?_⟩, ⟨[u], rfl⟩, w.sts.length, ?_, ?_⟩
  ·rw [List.nodup_append]
   exact ⟨h.nodup, by simp, fun a ha b hb => by
    rw [List.mem_singleton] at hb
    subst hb
    rintro rfl
    exact hnm ha⟩
  ·intro s hs
   rcases List.mem_append.1 hs with hs | hs
   ·exact h.inU s hs
   ·rw [List.mem_singleton] at hs; subst hs; exact hu
  ·intro q s hq
   simp only at hq ⊢
   rw [hset]
   by_cases hql : q < w.sts.length
   ·rw [List.getElem?_append_left hql] at hq
    rw [if_neg (hne s (List.mem_of_getElem? hq))]
    exact h.at' q s hq
   ·have hqe : q = w.sts.length := by
     have := (List.getElem?_eq_some_iff.1 hq).1
     simp at this; omega
    subst hqe
    rw [List.getElem?_append_right (Nat.le_refl _), Nat.sub_self] at hq
    cases hq
    rw [if_pos rfl]; omega
  ·intro v hv hv0
   simp only at hv0 ⊢
   rw [hset] at hv0 ⊢
   by_cases he : code u = code v
   ·have : u = v := hinj u v hu hv he
    subst this
    rw [if_pos rfl]
    exact ⟨w.sts.length, by omega, by rw [List.getElem?_append_right (Nat.le_refl _), Nat.sub_self]; rfl⟩
   ·rw [if_neg he] at hv0 ⊢
    obtain ⟨q, h1, h2⟩ := h.of v hv hv0
    exact ⟨q, h1, by rw [List.getElem?_append_left (List.getElem?_eq_some_iff.1 h2).1]; exact h2⟩
  ·simp only
   rw [hset, if_pos rfl]; omega
  ·simp only
   rw [List.getElem?_append_right (Nat.le_refl _), Nat.sub_self]; rfl
 ·rw [if_neg h0]
  exact ⟨h, ⟨[], by simp⟩, h.of u hu h0⟩
theorem get_pre {α : Type} {a t : List α} {q : Nat} {x : α} (h : a[q]? = some x) : (a ++ t)[q]? = some x := by
 rw [List.getElem?_append_left (List.getElem?_eq_some_iff.1 h).1]; exact h
theorem row_ok {code : S → Nat} {N : Nat} {U : S → Prop} (hc : ∀ s, U s → code s < N) (hinj : ∀ s t, U s → U t → code s = code t → s = t) : ∀ {us : List S} {w : WS S} {l : List Nat} {vs : List S}, (∀ u ∈ us, U u) → WOk code N U w → l.map (fun q => w.sts[q]?) = vs.map some →
  WOk code N U (rowW code us w l).1 ∧ (∃ t, (rowW code us w l).1.sts = w.sts ++ t) ∧ (rowW code us w l).2.map (fun q => (rowW code us w l).1.sts[q]?) = (vs ++ us).map some
 | [], w, l, vs, _, h, hl => ⟨h, ⟨[], by simp [rowW]⟩, by simpa [rowW] using hl⟩
 | u :: r, w, l, vs, hu, h, hl => by
  obtain ⟨h1, ⟨t, ht⟩, q, hq1, hq2⟩ := ent_ok hc hinj h (hu u (by simp))
  have hl2 : (l ++ [(atI (entW code w u).ix (code u) - 1).toNat]).map (fun q => (entW code w u).sts[q]?) = (vs ++ [u]).map some := by
   rw [List.map_append, List.map_append, ← hl]
   congr 1
   ·refine List.map_congr_left fun k hk => ?_
    have : w.sts[k]? ∈ vs.map some := by rw [← hl]; exact List.mem_map_of_mem hk
    obtain ⟨v, _, hv⟩ := List.mem_map.1 this
    rw [ht, ← hv, get_pre hv.symm]
   ·rw [hq1, show ((q : Int) + 1 - 1).toNat = q by omega]
    simp [hq2]
  obtain ⟨h2, ⟨t2, ht2⟩, h3⟩ := row_ok hc hinj (us := r) (fun v hv => hu v (by simp [hv])) h1 hl2
  rw [rowW]
  exact ⟨h2, ⟨t ++ t2, by rw [ht2, ht, List.append_assoc]⟩, by rw [h3]; simp⟩
structure WDone (succ : S → List S) (code : S → Nat) (N : Nat) (U : S → Prop) (w : WS S) (b : List (List Nat)) : Prop where
 ok : WOk code N U w
 le : b.length ≤ w.sts.length
 row : ∀ (k : Nat) l, b[k]? = some l → ∃ s, w.sts[k]? = some s ∧ l.map (fun q => w.sts[q]?) = (succ s).map some
theorem wstep {succ : S → List S} {code : S → Nat} {N : Nat} {U : S → Prop} (hc : ∀ s, U s → code s < N) (hinj : ∀ s t, U s → U t → code s = code t → s = t) (hs : ∀ s, U s → ∀ u ∈ succ s, U u) {w : WS S} {b : List (List Nat)} {s : S} (h : WDone succ code N U w b) (hb : w.sts[b.length]? = some s) :
  WDone succ code N U (rowW code (succ s) w []).1 (b ++ [(rowW code (succ s) w []).2]) ∧ ∃ t, (rowW code (succ s) w []).1.sts = w.sts ++ t := by
 have hU := h.ok.inU s (List.mem_of_getElem? hb)
 obtain ⟨h1, ⟨t, ht⟩, h3⟩ := row_ok hc hinj (us := succ s) (w := w) (l := []) (vs := []) (hs s hU) h.ok rfl
 have hlt := (List.getElem?_eq_some_iff.1 hb).1
 refine ⟨⟨h1, by rw [ht]; simp; omega, ?_⟩, t, ht⟩
 intro k l hk
 by_cases hkl : k < b.length
 ·rw [List.getElem?_append_left hkl] at hk
  obtain ⟨s', hs1, hs2⟩ := h.row k l hk
  refine ⟨s', by rw [ht]; exact get_pre hs1, ?_⟩
  rw [← hs2]
  refine List.map_congr_left fun q hq => ?_
  have : w.sts[q]? ∈ (succ s').map some := by rw [← hs2]; exact List.mem_map_of_mem hq
  obtain ⟨v, _, hv⟩ := List.mem_map.1 this
  rw [ht, ← hv, get_pre hv.symm]
 ·have hke : k = b.length := by
   have := (List.getElem?_eq_some_iff.1 hk).1
   simp at this; omega
  subst hke
  rw [List.getElem?_append_right (Nat.le_refl _), Nat.sub_self] at hk
  cases hk
  exact ⟨s, by rw [ht]; exact get_pre hb, by simpa using h3⟩
def deadS (succ : S → List S) : Nat → S → Prop
 | 0, _ => False
 | m + 1, s => ∀ u ∈ succ s, deadS succ m u
def hgtS (succ : S → List S) : Nat → S → Int
 | 0, _ => 0
 | m + 1, s => (succ s).foldl (fun h v => max h (hgtS succ m v + 1)) 0
theorem WDone.rowAt {succ : S → List S} {code : S → Nat} {N : Nat} {U : S → Prop} {w : WS S} {b : List (List Nat)} (h : WDone succ code N U w b) (hb : b.length = w.sts.length) {i : Nat} {s : S} (hi : w.sts[i]? = some s) : (atL b i).map (fun q => w.sts[q]?) = (succ s).map some := by
 have hlt := (List.getElem?_eq_some_iff.1 hi).1
 have he : b[i]? = some (b[i]'(by omega)) := List.getElem?_eq_getElem _
 obtain ⟨s', h1, h2⟩ := h.row i _ he
 rw [hi] at h1
 cases h1
 unfold atL
 rw [he]
 exact h2
theorem WDone.low {succ : S → List S} {code : S → Nat} {N : Nat} {U : S → Prop} {w : WS S} {b : List (List Nat)} (h : WDone succ code N U w b) : ∀ i, ∀ v ∈ atL b i, v < w.sts.length := by
 intro i v hv
 unfold atL at hv
 cases he : b[i]? with
 | none => rw [he] at hv; cases hv
 | some l =>
  rw [he] at hv
  obtain ⟨s, h1, h2⟩ := h.row i l he
  have : w.sts[v]? ∈ (succ s).map some := by rw [← h2]; exact List.mem_map_of_mem hv
  obtain ⟨u, _, hu⟩ := List.mem_map.1 this
  exact (List.getElem?_eq_some_iff.1 hu.symm).1
theorem WDone.dead {succ : S → List S} {code : S → Nat} {N : Nat} {U : S → Prop} {w : WS S} {b : List (List Nat)} (h : WDone succ code N U w b) (hb : b.length = w.sts.length) : ∀ (m i : Nat) (s : S), w.sts[i]? = some s → (deadM b m i ↔ deadS succ m s)
 | 0, _, _, _ => Iff.rfl
 | m + 1, i, s, hi => by
  have hr := h.rowAt hb hi
  rw [deadM, deadS]
  constructor
  ·intro hd u hu
   have : some u ∈ (atL b i).map (fun q => w.sts[q]?) := by rw [hr]; exact List.mem_map_of_mem hu
   obtain ⟨v, hv, he⟩ := List.mem_map.1 this
   exact (h.dead hb m v u he).1 (hd v hv)
  ·intro hd v hv
   have : w.sts[v]? ∈ (succ s).map some := by rw [← hr]; exact List.mem_map_of_mem hv
   obtain ⟨u, hu, he⟩ := List.mem_map.1 this
   exact (h.dead hb m v u he.symm).2 (hd u hu)
theorem fold_two {sts : List S} {f : Nat → Int} {g : S → Int} (hfg : ∀ i s, sts[i]? = some s → f i = g s) : ∀ {l : List Nat} {us : List S} {h : Int}, l.map (fun q => sts[q]?) = us.map some → l.foldl (fun h v => max h (f v + 1)) h = us.foldl (fun h v => max h (g v + 1)) h
 | [], [], _, _ => rfl
 | [], _ :: _, _, h => by cases h
 | _ :: _, [], _, h => by cases h
 | a :: l, u :: us, h, hl => by
  rw [List.map_cons, List.map_cons] at hl
  injection hl with h1 h2
  rw [List.foldl_cons, List.foldl_cons, hfg a u h1]
  exact fold_two hfg h2
theorem WDone.hgt {succ : S → List S} {code : S → Nat} {N : Nat} {U : S → Prop} {w : WS S} {b : List (List Nat)} (h : WDone succ code N U w b) (hb : b.length = w.sts.length) : ∀ (m i : Nat) (s : S), w.sts[i]? = some s → hgtM b m i = hgtS succ m s
 | 0, _, _, _ => rfl
 | m + 1, i, s, hi => by
  rw [hgtM, hgtS]
  exact fold_two (fun i s hi => h.hgt hb m i s hi) (h.rowAt hb hi)
theorem WDone.law {succ : S → List S} {code : S → Nat} {N : Nat} {U : S → Prop} {w : WS S} {b : List (List Nat)} (h : WDone succ code N U w b) (hb : b.length = w.sts.length) {H : List Int} {line : List Nat} (hk : Kahn w.sts.length b H line) {i : Nat} {s : S} (hi : w.sts[i]? = some s) :
  (∃ m, m ≤ w.sts.length ∧ deadS succ m s ∧ atI H i = hgtS succ m s) ∨ (atI H i = -1 ∧ ∀ m, ¬ deadS succ m s) := by
 obtain ⟨h1, h2⟩ := hk.law (fun i _ => h.low i)
 have hlt := (List.getElem?_eq_some_iff.1 hi).1
 by_cases hm : i ∈ line
 ·obtain ⟨h3, h4⟩ := h1 i hm
  exact .inl ⟨line.length, nodup_len hk.nodup hk.low, (h.dead hb _ i s hi).1 h3, by rw [h4, h.hgt hb _ i s hi]⟩
 ·obtain ⟨h3, h4⟩ := h2 i hlt hm
  exact .inr ⟨h3, fun m hd => h4 m ((h.dead hb _ i s hi).2 hd)⟩
theorem WDone.find {succ : S → List S} {code : S → Nat} {N : Nat} {U : S → Prop} {w : WS S} {b : List (List Nat)} (h : WDone succ code N U w b) (hb : b.length = w.sts.length) {s u : S} (hs : s ∈ w.sts) (hu : u ∈ succ s) : u ∈ w.sts ∧ ∃ q : Nat, atI w.ix (code u) = (q : Int) + 1 ∧ w.sts[q]? = some u := by
 obtain ⟨i, hi⟩ := List.mem_iff_getElem?.1 hs
 have : some u ∈ (atL b i).map (fun q => w.sts[q]?) := by rw [h.rowAt hb hi]; exact List.mem_map_of_mem hu
 obtain ⟨v, hv, he⟩ := List.mem_map.1 this
 exact ⟨List.mem_of_getElem? he, v, h.ok.at' v u he, he⟩
end Go.PX.KN
namespace Go.PX
open Go.Proofs
def InZ (c : WCase) (t : Tired) : Prop := ∀ j : Nat, c.men.length ≤ j → j < 5 → t.get j = 0
structure InV (c : WCase) (t : Tired) : Prop where
 u : InU c t
 z : InZ c t
theorem InV.zero {c : WCase} (hR : WR c) : InV c .zero := ⟨InU.zero hR, fun j _ hj => by
 have h2 : j = 0 ∨ j = 1 ∨ j = 2 ∨ j = 3 ∨ j = 4 := by omega
 rcases h2 with rfl | rfl | rfl | rfl | rfl <;> rfl⟩
theorem Tired.ext_get {t u : Tired} (hs : t.slot = u.slot) (h : ∀ j, j < 5 → t.get j = u.get j) : t = u := by
 have h0 := h 0 (by decide); have h1 := h 1 (by decide); have h2 := h 2 (by decide); have h3 := h 3 (by decide); have h4 := h 4 (by decide)
 cases t; cases u
 simp only [Tired.get] at h0 h1 h2 h3 h4
 simp only at hs
 subst hs h0 h1 h2 h3 h4
 rfl
def behT (c : WCase) (t : Tired) (g : List Int) (n : Nat) : Tired :=
 let f := fun (j : Nat) => if j < n then tireF c.rest (decide ((j : Int) ∈ g)) (t.get j) else 0
 ⟨(t.slot + 1).tmod c.slots.length, f 0, f 1, f 2, f 3, f 4⟩
theorem behT_get {c : WCase} {t : Tired} {g : List Int} {n j : Nat} (hj : j < 5) : (behT c t g n).get j = if j < n then tireF c.rest (decide ((j : Int) ∈ g)) (t.get j) else 0 := by
 have h2 : j = 0 ∨ j = 1 ∨ j = 2 ∨ j = 3 ∨ j = 4 := by omega
 rcases h2 with rfl | rfl | rfl | rfl | rfl <;> rfl
theorem behT_succ {c : WCase} {t : Tired} {g : List Int} {n : Nat} (hn : n < 5) : behT c t g (n + 1) = (behT c t g n).set n (tireF c.rest (decide ((n : Int) ∈ g)) (t.get n)) := by
 refine Tired.ext_get ?_ fun j hj => ?_
 ·rw [set_slot]; rfl
 ·rw [set_get _ _ hn hj, behT_get hj, behT_get hj]
  by_cases h : j = n
  ·subst h
   rw [if_pos (by omega), if_pos rfl]
  ·rw [if_neg h]
   by_cases h2 : j < n
   ·rw [if_pos h2, if_pos (by omega)]
   ·rw [if_neg h2, if_neg (by omega)]
theorem behT_eq {c : WCase} (hR : WR c) {t : Tired} (hz : InZ c t) {g : List Int} : behT c t g c.men.length = behindF c t g := by
 refine Tired.ext_get ?_ fun j hj => ?_
 ·unfold behindF
  rw [tireTo_slot]; rfl
 ·rw [behT_get hj, behind_get hR hj]
  by_cases h : j < c.men.length
  ·rw [if_pos h, if_pos h]
  ·rw [if_neg h, if_neg h, hz j (by omega) hj]
theorem InZ.behind {c : WCase} (hR : WR c) {t : Tired} (hz : InZ c t) (g : List Int) : InZ c (behindF c t g) := fun j h1 h2 => by
 rw [behind_get hR h2, if_neg (by omega)]
 exact hz j h1 h2
def mayR (c : WCase) (men : List Int) (t : Tired) (m : Int) : Bool := decide (m ∈ men) && !decide (t.slot ∈ (manAt c m).no) && decide (t.get m.toNat ≥ 0) && decide (t.get m.toNat < c.run)
def knowR (c : WCase) (t : Tired) (m : Int) : Bool := decide ((manAt c m).kind ≥ (slotAt c t).least)
def canS (c : WCase) (men : List Int) (t : Tired) : List (List Int) := (listsF c.men.length (slotAt c t).men.toNat []).filter fun g => g.any (knowR c t) && g.all (mayR c men t)
def SameSet (c : WCase) (men : List Int) (set : Int) : Prop := ∀ m : Int, 0 ≤ m → m < c.men.length → (m ∈ men ↔ inSet set m = true)
theorem slotAt_men {c : WCase} (hR : WR c) {t : Tired} (ht : InU c t) : c.slots[t.slot.toNat]? = some (slotAt c t) ∧ 1 ≤ (slotAt c t).men ∧ (slotAt c t).men ≤ 2 := by
 have h0 := ht.slot
 have h1 : c.slots[t.slot.toNat]? = some (c.slots[t.slot.toNat]'(by omega)) := List.getElem?_eq_getElem _
 have h2 : slotAt c t = c.slots[t.slot.toNat]'(by omega) := by unfold slotAt; rw [h1]; rfl
 rw [h2]
 have := (hR.slot _ (List.mem_of_getElem? h1)).1
 exact ⟨h1, this.1, this.2⟩
theorem canS_eq {c : WCase} (hR : WR c) {men : List Int} {set : Int} (hs : SameSet c men set) {t : Tired} (ht : InU c t) : canS c men t = (groupsF c set t).map (·.1) := by
 unfold canS groupsF
 rw [groups_lists (p := []) (start := 0) rfl, List.map_map]
 rw [show (List.map ((fun (x : List Int × Tired) => x.1) ∘ fun g => (g, behindF c t g))) = List.map id from rfl, List.map_id]
 refine List.filter_congr fun g hg => ?_
 obtain ⟨h1, h2⟩ := lists_ok (p := []) (fun x hx => by cases hx) g hg
 obtain ⟨_, hm1, _⟩ := slotAt_men hR ht
 have hlen : (g.length : Int) = (slotAt c t).men := by
  rw [h1]; simp; omega
 rw [Bool.eq_iff_iff, decide_eq_true_iff]
 constructor
 ·intro h
  rw [Bool.and_eq_true, List.any_eq_true, List.all_eq_true] at h
  obtain ⟨⟨x, hx, hk⟩, ha⟩ := h
  have hmay : ∀ m ∈ g, m ∈ men ∧ t.slot ∉ (manAt c m).no ∧ 0 ≤ t.get m.toNat ∧ t.get m.toNat < c.run := fun m hm => by
   have := ha m hm
   unfold mayR at this
   simp only [Bool.and_eq_true, decide_eq_true_eq, Bool.not_eq_true', decide_eq_false_iff_not] at this
   exact ⟨this.1.1.1, this.1.1.2, this.1.2, this.2⟩
  exact why_of hlen ⟨x, hx, of_decide_eq_true hk⟩ (fun m hm => ⟨(hs m (h2 m hm).1 (h2 m hm).2).1 (hmay m hm).1, (hmay m hm).2.1⟩) (fun m hm => (hmay m hm).2.2.2) (fun m hm => (hmay m hm).2.2.1)
 ·intro h
  obtain ⟨_, ⟨x, hx, hk⟩, h3, h4, h5⟩ := why_zero h
  rw [Bool.and_eq_true, List.any_eq_true, List.all_eq_true]
  refine ⟨⟨x, hx, decide_eq_true hk⟩, fun m hm => ?_⟩
  unfold mayR
  simp only [Bool.and_eq_true, decide_eq_true_eq, Bool.not_eq_true', decide_eq_false_iff_not]
  exact ⟨⟨⟨(hs m (h2 m hm).1 (h2 m hm).2).2 (h3 m hm).1, (h3 m hm).2⟩, h5 m hm⟩, h4 m hm⟩
def sucS (c : WCase) (men : List Int) (t : Tired) : List Tired := (canS c men t).map (behindF c t)
theorem sucS_eq {c : WCase} (hR : WR c) {men : List Int} {set : Int} (hs : SameSet c men set) {t : Tired} (ht : InU c t) : sucS c men t = succF c set t := by
 unfold sucS succF
 rw [canS_eq hR hs ht, List.map_map]
 refine List.map_congr_left fun x hx => ?_
 exact (groupsL_ok hx).2.symm
def codT (t : Tired) : Int := 8 * (8 * (8 * (8 * (8 * t.slot + t.m0 + 3) + t.m1 + 3) + t.m2 + 3) + t.m3 + 3) + t.m4 + 3
def codN (t : Tired) : Nat := (codT t).toNat
def manyN : Nat := 196608
theorem codT_bd {c : WCase} (hR : WR c) {t : Tired} (ht : InU c t) : 0 ≤ codT t ∧ codT t < 196608 := by
 have hs := hR.slots
 have h0 := ht.m 0 (by decide); have h1 := ht.m 1 (by decide); have h2 := ht.m 2 (by decide); have h3 := ht.m 3 (by decide); have h4 := ht.m 4 (by decide)
 have h5 := ht.slot
 simp only [Tired.get] at h0 h1 h2 h3 h4
 unfold codT
 omega
theorem codN_lt {c : WCase} (hR : WR c) (t : Tired) (ht : InV c t) : codN t < manyN := by
 have := codT_bd hR ht.u
 unfold codN manyN; omega
theorem split8 {x y a b : Int} (ha : -2 ≤ a ∧ a ≤ 3) (hb : -2 ≤ b ∧ b ≤ 3) (h : 8 * x + a + 3 = 8 * y + b + 3) : x = y ∧ a = b := by omega
theorem codN_inj {c : WCase} (hR : WR c) (t u : Tired) (ht : InV c t) (hu : InV c u) (h : codN t = codN u) : t = u := by
 have e : codT t = codT u := by
  have h1 := codT_bd hR ht.u
  have h2 := codT_bd hR hu.u
  unfold codN at h; omega
 have t0 := ht.u.m 0 (by decide); have t1 := ht.u.m 1 (by decide); have t2 := ht.u.m 2 (by decide); have t3 := ht.u.m 3 (by decide); have t4 := ht.u.m 4 (by decide)
 have u0 := hu.u.m 0 (by decide); have u1 := hu.u.m 1 (by decide); have u2 := hu.u.m 2 (by decide); have u3 := hu.u.m 3 (by decide); have u4 := hu.u.m 4 (by decide)
 unfold codT at e
 obtain ⟨e, e4⟩ := split8 t4 u4 e
 obtain ⟨e, e3⟩ := split8 t3 u3 e
 obtain ⟨e, e2⟩ := split8 t2 u2 e
 obtain ⟨e, e1⟩ := split8 t1 u1 e
 obtain ⟨e, e0⟩ := split8 t0 u0 e
 refine Tired.ext_get e fun j hj => ?_
 have h2 : j = 0 ∨ j = 1 ∨ j = 2 ∨ j = 3 ∨ j = 4 := by omega
 rcases h2 with rfl | rfl | rfl | rfl | rfl
 ·exact e0
 ·exact e1
 ·exact e2
 ·exact e3
 ·exact e4
theorem suc_InV {c : WCase} (hR : WR c) {men : List Int} {set : Int} (hs : SameSet c men set) (t : Tired) (ht : InV c t) : ∀ u ∈ sucS c men t, InV c u := by
 intro u hu
 rw [sucS_eq hR hs ht.u] at hu
 obtain ⟨x, hx, rfl⟩ := List.mem_map.1 hu
 refine ⟨groups_InU hR ht.u hx, ?_⟩
 rw [(groupsL_ok hx).2]
 exact ht.z.behind hR _
theorem dead_eq {c : WCase} (hR : WR c) {men : List Int} {set : Int} (hs : SameSet c men set) : ∀ (m : Nat) (t : Tired), InV c t → (KN.deadS (sucS c men) m t ↔ deadN c set m t)
 | 0, _, _ => Iff.rfl
 | m + 1, t, ht => by
  rw [KN.deadS, deadN, ← sucS_eq hR hs ht.u]
  exact ⟨fun h u hu => (dead_eq hR hs m u (suc_InV hR hs t ht u hu)).1 (h u hu), fun h u hu => (dead_eq hR hs m u (suc_InV hR hs t ht u hu)).2 (h u hu)⟩
theorem hgt_same {c : WCase} (hR : WR c) {men : List Int} {set : Int} (hs : SameSet c men set) : ∀ (m : Nat) (t : Tired), InV c t → KN.hgtS (sucS c men) m t = hgtN c set m t
 | 0, _, _ => rfl
 | m + 1, t, ht => by
  rw [KN.hgtS, hgtN, ← sucS_eq hR hs ht.u]
  refine foldl_congr fun u hu y => ?_
  rw [hgt_same hR hs m u (suc_InV hR hs t ht u hu), Int.add_comm]
structure WebR (c : WCase) (men : List Int) where
 w : KN.WS Tired
 b : List (List Nat)
 line : List Nat
 H : List Int
 done : KN.WDone (sucS c men) codN manyN (InV c) w b
 full : b.length = w.sts.length
 kahn : KN.Kahn w.sts.length b H line
 zero : w.sts[0]? = some .zero
 few : w.sts.length ≤ 46656
theorem WebR.height {c : WCase} (hR : WR c) {men : List Int} {set : Int} (hs : SameSet c men set) (W : WebR c men) {i : Nat} {t : Tired} (hi : W.w.sts[i]? = some t) :
  (endB c set t = false ∧ KN.atI W.H i = hgtN c set fuelW t) ∨ (endB c set t = true ∧ KN.atI W.H i = -1) := by
 have ht := W.done.ok.inU t (List.mem_of_getElem? hi)
 rcases W.done.law W.full W.kahn hi with ⟨m, hm, h1, h2⟩ | ⟨h1, h2⟩
 ·have h3 := (dead_eq hR hs m t ht).1 h1
  refine .inl ⟨?_, ?_⟩
  ·cases hb : endB c set t with
   | false => rfl
   | true => exact absurd h3 ((endB_iff hR ht.u).1 hb m)
  ·rw [h2, hgt_same hR hs m t ht]
   have := W.few
   exact (hgt_le h3 (by unfold fuelW; omega)).symm
 ·refine .inr ⟨(endB_iff hR ht.u).2 fun m hd => h2 m ((dead_eq hR hs m t ht).2 hd), h1⟩
theorem WebR.neg {c : WCase} (hR : WR c) {men : List Int} {set : Int} (hs : SameSet c men set) (W : WebR c men) {i : Nat} {t : Tired} (hi : W.w.sts[i]? = some t) : KN.atI W.H i < 0 ↔ endB c set t = true := by
 rcases W.height hR hs hi with ⟨h1, h2⟩ | ⟨h1, h2⟩
 ·rw [h1, h2]
  have := hgt_bd (c := c) (set := set) fuelW t
  constructor
  ·intro h; omega
  ·intro h; cases h
 ·rw [h1, h2]; simp
theorem WebR.walk {c : WCase} (hR : WR c) {men : List Int} (hs : SameSet c men (allMen c)) (W : WebR c men) : ∀ {rota : List (List Int)} {t : Tired} {i : Int}, 0 ≤ i → t ∈ W.w.sts → (walkF c (allMen c) t rota i).1.1 = -1 → (∀ r ∈ rota, ascF c.men.length (-1) r = 0) → (walkF c (allMen c) t rota i).2 ∈ W.w.sts
 | [], t, i, _, ht, _, _ => ht
 | r :: rest, t, i, hi, ht, hw, ha => by
  rw [walkF] at hw ⊢
  split at hw
  ·rename_i h1
   rw [if_pos h1]
   have hp := group_mem' (ha r (by simp)) h1
   have hu : behindF c t r ∈ sucS c men t := by
    rw [sucS_eq hR hs (W.done.ok.inU t ht).u]
    exact List.mem_map.2 ⟨_, hp, rfl⟩
   exact W.walk hR hs (by omega) (W.done.find W.full ht hu).1 hw fun r hr => ha r (by simp [hr])
  ·simp only at hw; omega
end Go.PX
namespace Go.PX
open Go.Proofs
def codP (t : Tired) : Nat → Int
 | 0 => t.slot
 | n + 1 => 8 * codP t n + t.get n + 3
theorem codP_5 (t : Tired) : codP t 5 = codT t := by
 simp only [codP, codT, Tired.get]
theorem wa98 (t : Tired) (ht : TOk t) : FnV Try.prog 98 [t.d] (i64 (codT t)) := by
 refine fnV_of mixed tysOk Try.func98 rfl (ft := ft98) 1 (by decide +kernel) (by rfl) fun {σ} Y st => ?_
 conv=>whnf
 obtain ⟨hts, ht0, ht1, ht2, ht3, ht4⟩ := ht
 refine LoopA_p (T := tys) tysOk (by exact drawsB_spec mixed tysOk (by decide +kernel)) (α := Nat × Int) (fun x => ⟨[(1, .ptr 1 0), (2, .d (i64 0)), (3, .d (i64 x.2)), (4, .d (i64 x.1))], [(1, .box (.dd t.cells))], st⟩) (fun x => x.1 ≤ 5 ∧ x.2 = codP t x.1 ∧ (-1000000000 + 100000000 * (x.1 : Int) ≤ 0 ∧ x.2 ≤ 2000 * 10 ^ x.1 ∧ -(2000 * 10 ^ x.1) ≤ x.2)) (fun x => 5 - x.1) (0, t.slot) (Wk.sub ⟨(by first | rfl | (simp only [List.length_map]; rfl) | simp [PX.get]), (by first | rfl | (simp only [List.length_map]; rfl) | simp [PX.get]), (by first | rfl | (simp only [List.length_map]; rfl) | simp [PX.get]), (by first | rfl | (simp only [List.length_map]; rfl) | simp [PX.get]), trivial⟩ ⟨(by first | rfl | (simp only [List.length_map]; rfl) | simp [PX.get]), trivial⟩) ⟨by simp, rfl, by simp; omega⟩ ?_
 rintro ⟨i, n⟩ ⟨hi, hn, hb⟩
 simp only at hi hn hb
 have h6 : i = 0 ∨ i = 1 ∨ i = 2 ∨ i = 3 ∨ i = 4 ∨ i = 5 := by omega
 rcases h6 with rfl | rfl | rfl | rfl | rfl | rfl
 ·have hn2 : 8 * n + t.m0 + 3 = codP t 1 := by rw [hn]; rfl
  clear hn
  conv=>whnf
  refine arith_in (wrap_i64 (by (try dsimp only); omega)) ?_
  conv=>whnf
  refine arith_in (wrap_i64 (by (try dsimp only); omega)) ?_
  conv=>whnf
  refine arith_in (wrap_i64 (by (try dsimp only); omega)) ?_
  conv=>whnf
  exact ⟨(1, 8 * n + t.m0 + 3), by simp only; omega, ⟨by simp only; omega, hn2, by simp only; omega⟩, (Wk.sub ⟨(by first | rfl | (simp only [List.length_map]; rfl) | simp [PX.get]), (by first | rfl | (simp only [List.length_map]; rfl) | simp [PX.get]), (by first | rfl | (simp only [List.length_map]; rfl) | simp [PX.get]), (by first | rfl | (simp only [List.length_map]; rfl) | simp [PX.get]), trivial⟩ ⟨(by first | rfl | (simp only [List.length_map]; rfl) | simp [PX.get]), trivial⟩)⟩
 ·have hn2 : 8 * n + t.m1 + 3 = codP t 2 := by rw [hn]; rfl
  clear hn
  conv=>whnf
  refine arith_in (wrap_i64 (by (try dsimp only); omega)) ?_
  conv=>whnf
  refine arith_in (wrap_i64 (by (try dsimp only); omega)) ?_
  conv=>whnf
  refine arith_in (wrap_i64 (by (try dsimp only); omega)) ?_
  conv=>whnf
  exact ⟨(2, 8 * n + t.m1 + 3), by simp only; omega, ⟨by simp only; omega, hn2, by simp only; omega⟩, (Wk.sub ⟨(by first | rfl | (simp only [List.length_map]; rfl) | simp [PX.get]), (by first | rfl | (simp only [List.length_map]; rfl) | simp [PX.get]), (by first | rfl | (simp only [List.length_map]; rfl) | simp [PX.get]), (by first | rfl | (simp only [List.length_map]; rfl) | simp [PX.get]), trivial⟩ ⟨(by first | rfl | (simp only [List.length_map]; rfl) | simp [PX.get]), trivial⟩)⟩
 ·have hn2 : 8 * n + t.m2 + 3 = codP t 3 := by rw [hn]; rfl
  clear hn
  conv=>whnf
  refine arith_in (wrap_i64 (by (try dsimp only); omega)) ?_
  conv=>whnf
  refine arith_in (wrap_i64 (by (try dsimp only); omega)) ?_
  conv=>whnf
  refine arith_in (wrap_i64 (by (try dsimp only); omega)) ?_
  conv=>whnf
  exact ⟨(3, 8 * n + t.m2 + 3), by simp only; omega, ⟨by simp only; omega, hn2, by simp only; omega⟩, (Wk.sub ⟨(by first | rfl | (simp only [List.length_map]; rfl) | simp [PX.get]), (by first | rfl | (simp only [List.length_map]; rfl) | simp [PX.get]), (by first | rfl | (simp only [List.length_map]; rfl) | simp [PX.get]), (by first | rfl | (simp only [List.length_map]; rfl) | simp [PX.get]), trivial⟩ ⟨(by first | rfl | (simp only [List.length_map]; rfl) | simp [PX.get]), trivial⟩)⟩
 ·have hn2 : 8 * n + t.m3 + 3 = codP t 4 := by rw [hn]; rfl
  clear hn
  conv=>whnf
  refine arith_in (wrap_i64 (by (try dsimp only); omega)) ?_
  conv=>whnf
  refine arith_in (wrap_i64 (by (try dsimp only); omega)) ?_
  conv=>whnf
  refine arith_in (wrap_i64 (by (try dsimp only); omega)) ?_
  conv=>whnf
  exact ⟨(4, 8 * n + t.m3 + 3), by simp only; omega, ⟨by simp only; omega, hn2, by simp only; omega⟩, (Wk.sub ⟨(by first | rfl | (simp only [List.length_map]; rfl) | simp [PX.get]), (by first | rfl | (simp only [List.length_map]; rfl) | simp [PX.get]), (by first | rfl | (simp only [List.length_map]; rfl) | simp [PX.get]), (by first | rfl | (simp only [List.length_map]; rfl) | simp [PX.get]), trivial⟩ ⟨(by first | rfl | (simp only [List.length_map]; rfl) | simp [PX.get]), trivial⟩)⟩
 ·have hn2 : 8 * n + t.m4 + 3 = codP t 5 := by rw [hn]; rfl
  clear hn
  conv=>whnf
  refine arith_in (wrap_i64 (by (try dsimp only); omega)) ?_
  conv=>whnf
  refine arith_in (wrap_i64 (by (try dsimp only); omega)) ?_
  conv=>whnf
  refine arith_in (wrap_i64 (by (try dsimp only); omega)) ?_
  conv=>whnf
  exact ⟨(5, 8 * n + t.m4 + 3), by simp only; omega, ⟨by simp only; omega, hn2, by simp only; omega⟩, (Wk.sub ⟨(by first | rfl | (simp only [List.length_map]; rfl) | simp [PX.get]), (by first | rfl | (simp only [List.length_map]; rfl) | simp [PX.get]), (by first | rfl | (simp only [List.length_map]; rfl) | simp [PX.get]), (by first | rfl | (simp only [List.length_map]; rfl) | simp [PX.get]), trivial⟩ ⟨(by first | rfl | (simp only [List.length_map]; rfl) | simp [PX.get]), trivial⟩)⟩
 ·conv=>whnf
  rw [← codP_5, ← hn]
  exact RetA_view 0 rfl ⟨⟨rfl, rfl⟩, rfl⟩
theorem wa78 (c : WCase) (hR : WR c) (t : Tired) (ht : TOk t) (hz : InZ c t) (group : List Int) (hg : group.length < 4000000000000000000) : FnV Try.prog 78 [c.d, t.d, intsD group] (behindF c t group).d := by
 refine fnV_of mixed tysOk Try.func78 rfl (ft := ft78) 3 (by decide +kernel) (by rfl) fun {σ} Y st => ?_
 conv=>whnf
 rw [← behT_eq hR hz]
 obtain ⟨hts, ht0, ht1, ht2, ht3, ht4⟩ := ht
 have hm := hR.men
 have hs := hR.slots
 have hr := hR.rest
 refine arith_in (wrap_i64 (by (try dsimp only); omega)) ?_
 conv=>whnf
 refine chk_i (decide_eq_true (by rw [List.length_map]; omega)) ?_
 conv=>whnf
 rw [List.length_map]
 refine LoopA_i (T := tys) tysOk (by exact drawsB_spec mixed tysOk (by decide +kernel)) c.men (fun i (_ : Unit) => ⟨[(2, .d (intsD group)), (3, .ptr 3 0), (4, .ptr 4 0), (6, .ptr 6 0), (7, .ptr 7 0), (8, .d (i64 i))], [(3, .box (.dd c.cells)), (4, .box (.dd t.cells)), (7, .box (.dd (behT c t group i).cells)), (6, .box (.dd Tired.zero.cells))], st⟩) (fun i r _ => True) () (Wk.sub ⟨(by first | rfl | (simp only [List.length_map]; rfl) | simp [PX.get]), (by first | rfl | (simp only [List.length_map]; rfl) | simp [PX.get]), (by first | rfl | (simp only [List.length_map]; rfl) | simp [PX.get]), (by first | rfl | (simp only [List.length_map]; rfl) | simp [PX.get]), (by first | rfl | (simp only [List.length_map]; rfl) | simp [PX.get]), (by first | rfl | (simp only [List.length_map]; rfl) | simp [PX.get]), trivial⟩ ⟨(by first | rfl | (simp only [List.length_map]; rfl) | simp [PX.get]), (by first | rfl | (simp only [List.length_map]; rfl) | simp [PX.get]), (by first | rfl | (simp only [List.length_map]; rfl) | simp [PX.get]), (by first | rfl | (simp only [List.length_map]; rfl) | simp [PX.get]), trivial⟩) trivial ?_ ?_
 ·intro i x r _ hx hi hr' _
  have h5 : i = 0 ∨ i = 1 ∨ i = 2 ∨ i = 3 ∨ i = 4 := by omega
  have hnx : behT c t group (i + 1) = (behT c t group i).set i (tireF c.rest (decide ((i : Int) ∈ group)) (t.get i)) := behT_succ (by omega)
  rcases h5 with rfl | rfl | rfl | rfl | rfl
  ·conv=>whnf
   refine brk_i (fun _ => ?_) (fun h => absurd hi (by have := of_decide_eq_false h; rw [List.length_map] at this; omega))
   conv=>whnf
   refine CallA_v (wa49 group _ hg) rfl rfl ?_
   conv=>whnf
   refine brk_i (fun h1 => ?_) (fun h1 => ?_)
   ·rw [h1] at hnx
    conv=>whnf
    repeat' (first
     | (refine arith_in (wrap_i64 (by (try dsimp only); omega)) ?_; conv=>whnf)
     | (refine elemK_nat (by assumption) ?_; conv=>whnf)
     | (refine ownK_whole (by first | rfl | assumption | (simp [Els.len]; done) | (simp [Els.len]; omega)) ?_; conv=>whnf)
     | (refine chk_i (by first | (exact decide_eq_true (by (try simp only [List.length_map]); omega)) | (simp [Els.len, Els.cons, V.cells, Els.toV, injL]; done) | (simp [Els.len, Els.cons, V.cells, Els.toV, injL]; omega)) ?_; conv=>whnf)
     | fail)
    exact ⟨(), trivial, Wk.sub ⟨rfl, rfl, rfl, rfl, rfl, rfl, trivial⟩ ⟨rfl, rfl, by rw [hnx]; rfl, rfl, trivial⟩⟩
   rw [h1] at hnx
   conv=>whnf
   refine brk_i (fun h2 => ?_) (fun h2 => ?_)
   ·have h2 : t.get 0 > 0 := of_decide_eq_true h2
    have hv : tireF c.rest false (t.get 0) = 1 - c.rest := by simp [tireF, h2]
    rw [hv] at hnx
    conv=>whnf
    repeat' (first
     | (refine arith_in (wrap_i64 (by (try dsimp only); omega)) ?_; conv=>whnf)
     | (refine elemK_nat (by assumption) ?_; conv=>whnf)
     | (refine ownK_whole (by first | rfl | assumption | (simp [Els.len]; done) | (simp [Els.len]; omega)) ?_; conv=>whnf)
     | (refine chk_i (by first | (exact decide_eq_true (by (try simp only [List.length_map]); omega)) | (simp [Els.len, Els.cons, V.cells, Els.toV, injL]; done) | (simp [Els.len, Els.cons, V.cells, Els.toV, injL]; omega)) ?_; conv=>whnf)
     | fail)
    exact ⟨(), trivial, Wk.sub ⟨rfl, rfl, rfl, rfl, rfl, rfl, trivial⟩ ⟨rfl, rfl, by rw [hnx]; rfl, rfl, trivial⟩⟩
   have h2 : ¬ t.get 0 > 0 := of_decide_eq_false h2
   conv=>whnf
   refine brk_i (fun h3 => ?_) (fun h3 => ?_)
   ·have h3 : t.get 0 < 0 := of_decide_eq_true h3
    have hv : tireF c.rest false (t.get 0) = t.get 0 + 1 := by simp [tireF, h2, h3]
    rw [hv] at hnx
    conv=>whnf
    repeat' (first
     | (refine arith_in (wrap_i64 (by (try dsimp only); omega)) ?_; conv=>whnf)
     | (refine elemK_nat (by assumption) ?_; conv=>whnf)
     | (refine ownK_whole (by first | rfl | assumption | (simp [Els.len]; done) | (simp [Els.len]; omega)) ?_; conv=>whnf)
     | (refine chk_i (by first | (exact decide_eq_true (by (try simp only [List.length_map]); omega)) | (simp [Els.len, Els.cons, V.cells, Els.toV, injL]; done) | (simp [Els.len, Els.cons, V.cells, Els.toV, injL]; omega)) ?_; conv=>whnf)
     | fail)
    exact ⟨(), trivial, Wk.sub ⟨rfl, rfl, rfl, rfl, rfl, rfl, trivial⟩ ⟨rfl, rfl, by rw [hnx]; rfl, rfl, trivial⟩⟩
   have h3 : ¬ t.get 0 < 0 := of_decide_eq_false h3
   have hv : tireF c.rest false (t.get 0) = t.get 0 := by simp [tireF, h2, h3]
   rw [hv] at hnx
   conv=>whnf
   repeat' (first
    | (refine arith_in (wrap_i64 (by (try dsimp only); omega)) ?_; conv=>whnf)
    | (refine elemK_nat (by assumption) ?_; conv=>whnf)
    | (refine ownK_whole (by first | rfl | assumption | (simp [Els.len]; done) | (simp [Els.len]; omega)) ?_; conv=>whnf)
    | (refine chk_i (by first | (exact decide_eq_true (by (try simp only [List.length_map]); omega)) | (simp [Els.len, Els.cons, V.cells, Els.toV, injL]; done) | (simp [Els.len, Els.cons, V.cells, Els.toV, injL]; omega)) ?_; conv=>whnf)
    | fail)
   exact ⟨(), trivial, Wk.sub ⟨rfl, rfl, rfl, rfl, rfl, rfl, trivial⟩ ⟨rfl, rfl, by rw [hnx]; rfl, rfl, trivial⟩⟩
  ·conv=>whnf
   refine brk_i (fun _ => ?_) (fun h => absurd hi (by have := of_decide_eq_false h; rw [List.length_map] at this; omega))
   conv=>whnf
   refine CallA_v (wa49 group _ hg) rfl rfl ?_
   conv=>whnf
   refine brk_i (fun h1 => ?_) (fun h1 => ?_)
   ·rw [h1] at hnx
    conv=>whnf
    repeat' (first
     | (refine arith_in (wrap_i64 (by (try dsimp only); omega)) ?_; conv=>whnf)
     | (refine elemK_nat (by assumption) ?_; conv=>whnf)
     | (refine ownK_whole (by first | rfl | assumption | (simp [Els.len]; done) | (simp [Els.len]; omega)) ?_; conv=>whnf)
     | (refine chk_i (by first | (exact decide_eq_true (by (try simp only [List.length_map]); omega)) | (simp [Els.len, Els.cons, V.cells, Els.toV, injL]; done) | (simp [Els.len, Els.cons, V.cells, Els.toV, injL]; omega)) ?_; conv=>whnf)
     | fail)
    exact ⟨(), trivial, Wk.sub ⟨rfl, rfl, rfl, rfl, rfl, rfl, trivial⟩ ⟨rfl, rfl, by rw [hnx]; rfl, rfl, trivial⟩⟩
   rw [h1] at hnx
   conv=>whnf
   refine brk_i (fun h2 => ?_) (fun h2 => ?_)
   ·have h2 : t.get 1 > 0 := of_decide_eq_true h2
    have hv : tireF c.rest false (t.get 1) = 1 - c.rest := by simp [tireF, h2]
    rw [hv] at hnx
    conv=>whnf
    repeat' (first
     | (refine arith_in (wrap_i64 (by (try dsimp only); omega)) ?_; conv=>whnf)
     | (refine elemK_nat (by assumption) ?_; conv=>whnf)
     | (refine ownK_whole (by first | rfl | assumption | (simp [Els.len]; done) | (simp [Els.len]; omega)) ?_; conv=>whnf)
     | (refine chk_i (by first | (exact decide_eq_true (by (try simp only [List.length_map]); omega)) | (simp [Els.len, Els.cons, V.cells, Els.toV, injL]; done) | (simp [Els.len, Els.cons, V.cells, Els.toV, injL]; omega)) ?_; conv=>whnf)
     | fail)
    exact ⟨(), trivial, Wk.sub ⟨rfl, rfl, rfl, rfl, rfl, rfl, trivial⟩ ⟨rfl, rfl, by rw [hnx]; rfl, rfl, trivial⟩⟩
   have h2 : ¬ t.get 1 > 0 := of_decide_eq_false h2
   conv=>whnf
   refine brk_i (fun h3 => ?_) (fun h3 => ?_)
   ·have h3 : t.get 1 < 0 := of_decide_eq_true h3
    have hv : tireF c.rest false (t.get 1) = t.get 1 + 1 := by simp [tireF, h2, h3]
    rw [hv] at hnx
    conv=>whnf
    repeat' (first
     | (refine arith_in (wrap_i64 (by (try dsimp only); omega)) ?_; conv=>whnf)
     | (refine elemK_nat (by assumption) ?_; conv=>whnf)
     | (refine ownK_whole (by first | rfl | assumption | (simp [Els.len]; done) | (simp [Els.len]; omega)) ?_; conv=>whnf)
     | (refine chk_i (by first | (exact decide_eq_true (by (try simp only [List.length_map]); omega)) | (simp [Els.len, Els.cons, V.cells, Els.toV, injL]; done) | (simp [Els.len, Els.cons, V.cells, Els.toV, injL]; omega)) ?_; conv=>whnf)
     | fail)
    exact ⟨(), trivial, Wk.sub ⟨rfl, rfl, rfl, rfl, rfl, rfl, trivial⟩ ⟨rfl, rfl, by rw [hnx]; rfl, rfl, trivial⟩⟩
   have h3 : ¬ t.get 1 < 0 := of_decide_eq_false h3
   have hv : tireF c.rest false (t.get 1) = t.get 1 := by simp [tireF, h2, h3]
   rw [hv] at hnx
   conv=>whnf
   repeat' (first
    | (refine arith_in (wrap_i64 (by (try dsimp only); omega)) ?_; conv=>whnf)
    | (refine elemK_nat (by assumption) ?_; conv=>whnf)
    | (refine ownK_whole (by first | rfl | assumption | (simp [Els.len]; done) | (simp [Els.len]; omega)) ?_; conv=>whnf)
    | (refine chk_i (by first | (exact decide_eq_true (by (try simp only [List.length_map]); omega)) | (simp [Els.len, Els.cons, V.cells, Els.toV, injL]; done) | (simp [Els.len, Els.cons, V.cells, Els.toV, injL]; omega)) ?_; conv=>whnf)
    | fail)
   exact ⟨(), trivial, Wk.sub ⟨rfl, rfl, rfl, rfl, rfl, rfl, trivial⟩ ⟨rfl, rfl, by rw [hnx]; rfl, rfl, trivial⟩⟩
  ·conv=>whnf
   refine brk_i (fun _ => ?_) (fun h => absurd hi (by have := of_decide_eq_false h; rw [List.length_map] at this; omega))
   conv=>whnf
   refine CallA_v (wa49 group _ hg) rfl rfl ?_
   conv=>whnf
   refine brk_i (fun h1 => ?_) (fun h1 => ?_)
   ·rw [h1] at hnx
    conv=>whnf
    repeat' (first
     | (refine arith_in (wrap_i64 (by (try dsimp only); omega)) ?_; conv=>whnf)
     | (refine elemK_nat (by assumption) ?_; conv=>whnf)
     | (refine ownK_whole (by first | rfl | assumption | (simp [Els.len]; done) | (simp [Els.len]; omega)) ?_; conv=>whnf)
     | (refine chk_i (by first | (exact decide_eq_true (by (try simp only [List.length_map]); omega)) | (simp [Els.len, Els.cons, V.cells, Els.toV, injL]; done) | (simp [Els.len, Els.cons, V.cells, Els.toV, injL]; omega)) ?_; conv=>whnf)
     | fail)
    exact ⟨(), trivial, Wk.sub ⟨rfl, rfl, rfl, rfl, rfl, rfl, trivial⟩ ⟨rfl, rfl, by rw [hnx]; rfl, rfl, trivial⟩⟩
   rw [h1] at hnx
   conv=>whnf
   refine brk_i (fun h2 => ?_) (fun h2 => ?_)
   ·have h2 : t.get 2 > 0 := of_decide_eq_true h2
    have hv : tireF c.rest false (t.get 2) = 1 - c.rest := by simp [tireF, h2]
    rw [hv] at hnx
    conv=>whnf
    repeat' (first
     | (refine arith_in (wrap_i64 (by (try dsimp only); omega)) ?_; conv=>whnf)
     | (refine elemK_nat (by assumption) ?_; conv=>whnf)
     | (refine ownK_whole (by first | rfl | assumption | (simp [Els.len]; done) | (simp [Els.len]; omega)) ?_; conv=>whnf)
     | (refine chk_i (by first | (exact decide_eq_true (by (try simp only [List.length_map]); omega)) | (simp [Els.len, Els.cons, V.cells, Els.toV, injL]; done) | (simp [Els.len, Els.cons, V.cells, Els.toV, injL]; omega)) ?_; conv=>whnf)
     | fail)
    exact ⟨(), trivial, Wk.sub ⟨rfl, rfl, rfl, rfl, rfl, rfl, trivial⟩ ⟨rfl, rfl, by rw [hnx]; rfl, rfl, trivial⟩⟩
   have h2 : ¬ t.get 2 > 0 := of_decide_eq_false h2
   conv=>whnf
   refine brk_i (fun h3 => ?_) (fun h3 => ?_)
   ·have h3 : t.get 2 < 0 := of_decide_eq_true h3
    have hv : tireF c.rest false (t.get 2) = t.get 2 + 1 := by simp [tireF, h2, h3]
    rw [hv] at hnx
    conv=>whnf
    repeat' (first
     | (refine arith_in (wrap_i64 (by (try dsimp only); omega)) ?_; conv=>whnf)
     | (refine elemK_nat (by assumption) ?_; conv=>whnf)
     | (refine ownK_whole (by first | rfl | assumption | (simp [Els.len]; done) | (simp [Els.len]; omega)) ?_; conv=>whnf)
     | (refine chk_i (by first | (exact decide_eq_true (by (try simp only [List.length_map]); omega)) | (simp [Els.len, Els.cons, V.cells, Els.toV, injL]; done) | (simp [Els.len, Els.cons, V.cells, Els.toV, injL]; omega)) ?_; conv=>whnf)
     | fail)
    exact ⟨(), trivial, Wk.sub ⟨rfl, rfl, rfl, rfl, rfl, rfl, trivial⟩ ⟨rfl, rfl, by rw [hnx]; rfl, rfl, trivial⟩⟩
   have h3 : ¬ t.get 2 < 0 := of_decide_eq_false h3
   have hv : tireF c.rest false (t.get 2) = t.get 2 := by simp [tireF, h2, h3]
   rw [hv] at hnx
   conv=>whnf
   repeat' (first
    | (refine arith_in (wrap_i64 (by (try dsimp only); omega)) ?_; conv=>whnf)
    | (refine elemK_nat (by assumption) ?_; conv=>whnf)
    | (refine ownK_whole (by first | rfl | assumption | (simp [Els.len]; done) | (simp [Els.len]; omega)) ?_; conv=>whnf)
    | (refine chk_i (by first | (exact decide_eq_true (by (try simp only [List.length_map]); omega)) | (simp [Els.len, Els.cons, V.cells, Els.toV, injL]; done) | (simp [Els.len, Els.cons, V.cells, Els.toV, injL]; omega)) ?_; conv=>whnf)
    | fail)
   exact ⟨(), trivial, Wk.sub ⟨rfl, rfl, rfl, rfl, rfl, rfl, trivial⟩ ⟨rfl, rfl, by rw [hnx]; rfl, rfl, trivial⟩⟩
  ·conv=>whnf
   refine brk_i (fun _ => ?_) (fun h => absurd hi (by have := of_decide_eq_false h; rw [List.length_map] at this; omega))
   conv=>whnf
   refine CallA_v (wa49 group _ hg) rfl rfl ?_
   conv=>whnf
   refine brk_i (fun h1 => ?_) (fun h1 => ?_)
   ·rw [h1] at hnx
    conv=>whnf
    repeat' (first
     | (refine arith_in (wrap_i64 (by (try dsimp only); omega)) ?_; conv=>whnf)
     | (refine elemK_nat (by assumption) ?_; conv=>whnf)
     | (refine ownK_whole (by first | rfl | assumption | (simp [Els.len]; done) | (simp [Els.len]; omega)) ?_; conv=>whnf)
     | (refine chk_i (by first | (exact decide_eq_true (by (try simp only [List.length_map]); omega)) | (simp [Els.len, Els.cons, V.cells, Els.toV, injL]; done) | (simp [Els.len, Els.cons, V.cells, Els.toV, injL]; omega)) ?_; conv=>whnf)
     | fail)
    exact ⟨(), trivial, Wk.sub ⟨rfl, rfl, rfl, rfl, rfl, rfl, trivial⟩ ⟨rfl, rfl, by rw [hnx]; rfl, rfl, trivial⟩⟩
   rw [h1] at hnx
   conv=>whnf
   refine brk_i (fun h2 => ?_) (fun h2 => ?_)
   ·have h2 : t.get 3 > 0 := of_decide_eq_true h2
    have hv : tireF c.rest false (t.get 3) = 1 - c.rest := by simp [tireF, h2]
    rw [hv] at hnx
    conv=>whnf
    repeat' (first
     | (refine arith_in (wrap_i64 (by (try dsimp only); omega)) ?_; conv=>whnf)
     | (refine elemK_nat (by assumption) ?_; conv=>whnf)
     | (refine ownK_whole (by first | rfl | assumption | (simp [Els.len]; done) | (simp [Els.len]; omega)) ?_; conv=>whnf)
     | (refine chk_i (by first | (exact decide_eq_true (by (try simp only [List.length_map]); omega)) | (simp [Els.len, Els.cons, V.cells, Els.toV, injL]; done) | (simp [Els.len, Els.cons, V.cells, Els.toV, injL]; omega)) ?_; conv=>whnf)
     | fail)
    exact ⟨(), trivial, Wk.sub ⟨rfl, rfl, rfl, rfl, rfl, rfl, trivial⟩ ⟨rfl, rfl, by rw [hnx]; rfl, rfl, trivial⟩⟩
   have h2 : ¬ t.get 3 > 0 := of_decide_eq_false h2
   conv=>whnf
   refine brk_i (fun h3 => ?_) (fun h3 => ?_)
   ·have h3 : t.get 3 < 0 := of_decide_eq_true h3
    have hv : tireF c.rest false (t.get 3) = t.get 3 + 1 := by simp [tireF, h2, h3]
    rw [hv] at hnx
    conv=>whnf
    repeat' (first
     | (refine arith_in (wrap_i64 (by (try dsimp only); omega)) ?_; conv=>whnf)
     | (refine elemK_nat (by assumption) ?_; conv=>whnf)
     | (refine ownK_whole (by first | rfl | assumption | (simp [Els.len]; done) | (simp [Els.len]; omega)) ?_; conv=>whnf)
     | (refine chk_i (by first | (exact decide_eq_true (by (try simp only [List.length_map]); omega)) | (simp [Els.len, Els.cons, V.cells, Els.toV, injL]; done) | (simp [Els.len, Els.cons, V.cells, Els.toV, injL]; omega)) ?_; conv=>whnf)
     | fail)
    exact ⟨(), trivial, Wk.sub ⟨rfl, rfl, rfl, rfl, rfl, rfl, trivial⟩ ⟨rfl, rfl, by rw [hnx]; rfl, rfl, trivial⟩⟩
   have h3 : ¬ t.get 3 < 0 := of_decide_eq_false h3
   have hv : tireF c.rest false (t.get 3) = t.get 3 := by simp [tireF, h2, h3]
   rw [hv] at hnx
   conv=>whnf
   repeat' (first
    | (refine arith_in (wrap_i64 (by (try dsimp only); omega)) ?_; conv=>whnf)
    | (refine elemK_nat (by assumption) ?_; conv=>whnf)
    | (refine ownK_whole (by first | rfl | assumption | (simp [Els.len]; done) | (simp [Els.len]; omega)) ?_; conv=>whnf)
    | (refine chk_i (by first | (exact decide_eq_true (by (try simp only [List.length_map]); omega)) | (simp [Els.len, Els.cons, V.cells, Els.toV, injL]; done) | (simp [Els.len, Els.cons, V.cells, Els.toV, injL]; omega)) ?_; conv=>whnf)
    | fail)
   exact ⟨(), trivial, Wk.sub ⟨rfl, rfl, rfl, rfl, rfl, rfl, trivial⟩ ⟨rfl, rfl, by rw [hnx]; rfl, rfl, trivial⟩⟩
  ·conv=>whnf
   refine brk_i (fun _ => ?_) (fun h => absurd hi (by have := of_decide_eq_false h; rw [List.length_map] at this; omega))
   conv=>whnf
   refine CallA_v (wa49 group _ hg) rfl rfl ?_
   conv=>whnf
   refine brk_i (fun h1 => ?_) (fun h1 => ?_)
   ·rw [h1] at hnx
    conv=>whnf
    repeat' (first
     | (refine arith_in (wrap_i64 (by (try dsimp only); omega)) ?_; conv=>whnf)
     | (refine elemK_nat (by assumption) ?_; conv=>whnf)
     | (refine ownK_whole (by first | rfl | assumption | (simp [Els.len]; done) | (simp [Els.len]; omega)) ?_; conv=>whnf)
     | (refine chk_i (by first | (exact decide_eq_true (by (try simp only [List.length_map]); omega)) | (simp [Els.len, Els.cons, V.cells, Els.toV, injL]; done) | (simp [Els.len, Els.cons, V.cells, Els.toV, injL]; omega)) ?_; conv=>whnf)
     | fail)
    exact ⟨(), trivial, Wk.sub ⟨rfl, rfl, rfl, rfl, rfl, rfl, trivial⟩ ⟨rfl, rfl, by rw [hnx]; rfl, rfl, trivial⟩⟩
   rw [h1] at hnx
   conv=>whnf
   refine brk_i (fun h2 => ?_) (fun h2 => ?_)
   ·have h2 : t.get 4 > 0 := of_decide_eq_true h2
    have hv : tireF c.rest false (t.get 4) = 1 - c.rest := by simp [tireF, h2]
    rw [hv] at hnx
    conv=>whnf
    repeat' (first
     | (refine arith_in (wrap_i64 (by (try dsimp only); omega)) ?_; conv=>whnf)
     | (refine elemK_nat (by assumption) ?_; conv=>whnf)
     | (refine ownK_whole (by first | rfl | assumption | (simp [Els.len]; done) | (simp [Els.len]; omega)) ?_; conv=>whnf)
     | (refine chk_i (by first | (exact decide_eq_true (by (try simp only [List.length_map]); omega)) | (simp [Els.len, Els.cons, V.cells, Els.toV, injL]; done) | (simp [Els.len, Els.cons, V.cells, Els.toV, injL]; omega)) ?_; conv=>whnf)
     | fail)
    exact ⟨(), trivial, Wk.sub ⟨rfl, rfl, rfl, rfl, rfl, rfl, trivial⟩ ⟨rfl, rfl, by rw [hnx]; rfl, rfl, trivial⟩⟩
   have h2 : ¬ t.get 4 > 0 := of_decide_eq_false h2
   conv=>whnf
   refine brk_i (fun h3 => ?_) (fun h3 => ?_)
   ·have h3 : t.get 4 < 0 := of_decide_eq_true h3
    have hv : tireF c.rest false (t.get 4) = t.get 4 + 1 := by simp [tireF, h2, h3]
    rw [hv] at hnx
    conv=>whnf
    repeat' (first
     | (refine arith_in (wrap_i64 (by (try dsimp only); omega)) ?_; conv=>whnf)
     | (refine elemK_nat (by assumption) ?_; conv=>whnf)
     | (refine ownK_whole (by first | rfl | assumption | (simp [Els.len]; done) | (simp [Els.len]; omega)) ?_; conv=>whnf)
     | (refine chk_i (by first | (exact decide_eq_true (by (try simp only [List.length_map]); omega)) | (simp [Els.len, Els.cons, V.cells, Els.toV, injL]; done) | (simp [Els.len, Els.cons, V.cells, Els.toV, injL]; omega)) ?_; conv=>whnf)
     | fail)
    exact ⟨(), trivial, Wk.sub ⟨rfl, rfl, rfl, rfl, rfl, rfl, trivial⟩ ⟨rfl, rfl, by rw [hnx]; rfl, rfl, trivial⟩⟩
   have h3 : ¬ t.get 4 < 0 := of_decide_eq_false h3
   have hv : tireF c.rest false (t.get 4) = t.get 4 := by simp [tireF, h2, h3]
   rw [hv] at hnx
   conv=>whnf
   repeat' (first
    | (refine arith_in (wrap_i64 (by (try dsimp only); omega)) ?_; conv=>whnf)
    | (refine elemK_nat (by assumption) ?_; conv=>whnf)
    | (refine ownK_whole (by first | rfl | assumption | (simp [Els.len]; done) | (simp [Els.len]; omega)) ?_; conv=>whnf)
    | (refine chk_i (by first | (exact decide_eq_true (by (try simp only [List.length_map]); omega)) | (simp [Els.len, Els.cons, V.cells, Els.toV, injL]; done) | (simp [Els.len, Els.cons, V.cells, Els.toV, injL]; omega)) ?_; conv=>whnf)
    | fail)
   exact ⟨(), trivial, Wk.sub ⟨rfl, rfl, rfl, rfl, rfl, rfl, trivial⟩ ⟨rfl, rfl, by rw [hnx]; rfl, rfl, trivial⟩⟩
 ·intro _ _
  conv=>whnf
  refine brk_i (fun h => absurd h (by simp)) (fun _ => ?_)
  conv=>whnf
  exact RetA_view 0 rfl ⟨⟨rfl, rfl⟩, rfl⟩
def othersR (c : WCase) (but : Int) : List Int := ((List.range c.men.length).filter fun (m : Nat) => decide ((m : Int) ≠ but)).map fun (m : Nat) => (m : Int)
theorem othersR_set {c : WCase} (hR : WR c) : SameSet c (othersR c (-1)) (allMen c) := by
 intro m h0 h1
 rw [inSet_all hR ⟨h0, h1⟩]
 unfold othersR
 simp only [List.mem_map, List.mem_filter, List.mem_range, iff_true]
 exact ⟨m.toNat, ⟨by omega, by simp; omega⟩, by omega⟩
theorem wa50 (c : WCase) (hm : c.men.length ≤ 5) (but : Int) : FnV Try.prog 50 [c.d, i64 but] (intsD (othersR c but)) := by
 refine fnV_of mixed tysOk Try.func50 rfl (ft := ft50) 2 (by decide +kernel) (by rfl) fun {σ} Y st => ?_
 conv=>whnf
 have hM : ∃ M, othersR c but = M := ⟨_, rfl⟩
 obtain ⟨M, hM⟩ := hM
 rw [hM]
 unfold othersR at hM
 refine LoopA_i (T := tys) tysOk (by exact drawsB_spec mixed tysOk (by decide +kernel)) (List.range c.men.length) (fun i (acc : List Int) => ⟨[(1, .d (i64 but)), (2, .ptr 2 0), (5, .sl 20 1 0 acc.length), (6, .d (i64 i))], [(2, .box (.dd c.cells)), (20, .arr 1 (.dd (intsC acc)))], st⟩)
  (fun i r acc => acc.length ≤ i ∧ M = acc ++ (r.filter fun (m : Nat) => decide ((m : Int) ≠ but)).map fun (m : Nat) => (m : Int)) [] ((Wk.born 5 20 1 rfl rfl rfl).trans (Wk.sub ⟨(by first | rfl | (simp only [List.length_map]; rfl) | simp [PX.get]), (by first | rfl | (simp only [List.length_map]; rfl) | simp [PX.get]), (by first | rfl | (simp only [List.length_map]; rfl) | simp [PX.get]), (by first | rfl | (simp only [List.length_map]; rfl) | simp [PX.get]), trivial⟩ ⟨(by first | rfl | (simp only [List.length_map]; rfl) | simp [PX.get]), (by first | rfl | (simp only [List.length_map]; rfl) | simp [PX.get]), trivial⟩)) ⟨by simp, hM.symm⟩ ?_ ?_
 ·rintro i m r acc hx hi hr ⟨hal, he⟩
  have hme : m = i := by
   rw [List.getElem?_range (by simpa using hi)] at hx
   exact (Option.some.inj hx).symm
  subst hme
  have hi2 : m < c.men.length := by simpa using hi
  rw [List.filter_cons] at he
  conv=>whnf
  refine brk_i (fun _ => ?_) (fun h => absurd hi2 (by have := of_decide_eq_false h; simp at this; omega))
  conv=>whnf
  refine brk_i (fun h1 => ?_) (fun h1 => ?_)
  ·have h1 : (m : Int) ≠ but := by simpa using h1
   rw [if_pos (by simpa using h1)] at he
   conv=>whnf
   refine ownK_whole rfl ?_
   conv=>whnf
   refine ownK_whole (by simp [Els.len, intsC]) ?_
   conv=>whnf
   refine chk_i (decide_eq_true (by
    show ((intsC acc).length + 1) * 8 ≤ 140737488355328
    simp [intsC]; omega)) ?_
   conv=>whnf
   refine arith_in (wrap_i64 (by (try dsimp only); omega)) ?_
   conv=>whnf
   refine ⟨acc ++ [(m : Int)], ⟨by simp; omega, by rw [he]; simp⟩, Wk.sub ⟨rfl, rfl, ?_, rfl, trivial⟩ ⟨rfl, ?_, trivial⟩⟩
   ·show some (V.sl 20 1 0 ((intsC acc).length + 1)) = _
    simp [intsC]
   ·show some (Obj.arr 1 (Els.dd (intsC acc ++ [[i64 (m : Int)]]))) = _
    simp [intsC]
  ·have h1 : ¬ (m : Int) ≠ but := by simpa using h1
   rw [if_neg (by simpa using h1)] at he
   conv=>whnf
   refine arith_in (wrap_i64 (by (try dsimp only); omega)) ?_
   conv=>whnf
   exact ⟨acc, ⟨by omega, he⟩, (Wk.sub ⟨(by first | rfl | (simp only [List.length_map]; rfl) | simp [PX.get]), (by first | rfl | (simp only [List.length_map]; rfl) | simp [PX.get]), (by first | rfl | (simp only [List.length_map]; rfl) | simp [PX.get]), (by first | rfl | (simp only [List.length_map]; rfl) | simp [PX.get]), trivial⟩ ⟨(by first | rfl | (simp only [List.length_map]; rfl) | simp [PX.get]), (by first | rfl | (simp only [List.length_map]; rfl) | simp [PX.get]), trivial⟩)⟩
 ·rintro acc ⟨_, he⟩
  have he : M = acc := by simpa using he
  rw [he]
  conv=>whnf
  refine brk_i (fun h => absurd h (by simp)) (fun _ => ?_)
  conv=>whnf
  refine RetA_view 1 (ds := [intsD acc]) ?_ ⟨⟨rfl, rfl⟩, rfl⟩
  exact viewL_cons (viewV_sl (es := intsC acc) rfl (by simp [intsC])) rfl
end Go.PX
