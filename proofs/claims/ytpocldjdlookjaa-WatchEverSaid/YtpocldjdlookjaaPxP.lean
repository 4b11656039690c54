import Derived.Test.YtpocldjdlookjaaPxO
set_option linter.all false
set_option maxRecDepth 10000
namespace Go.PX
def outO (B sz : Nat) (rows : List Rw) : Obj := .arr 1 (.vv (hdrs B sz 0 rows))
structure FamAt (B sz O K : Nat) (rows : List Rw) (h : Heap) : Prop where
 base : 3000000 ≤ B
 arr : get h O = some (outO B sz rows)
 tail : ∀ k, B ≤ k → get h k = get (famR B sz 0 rows) k
 low : O < 3000000
 foc : focOk K rows
theorem ren_outer {B sz K a b i : Nat} {rows : List Rw} {r' : Rw} (hB : 3000000 ≤ B) (hK : K < 3000000) (hf : ∀ j r, rows[j]? = some r → j ≠ i → ∀ K' n, r = .foc K' n → K' < 3000000 ∧ K' ≠ K) (hab : (a = K ∧ b = B + i) ∨ (a = B + i ∧ b = K)) (hi : i < rows.length)
  (hnew : ∀ r, rows[i]? = some r → mapId (moveF a b) (mapId (killF b) (hdrV B sz i r)) = hdrV B sz i r') :
  outO B sz (rows.set i r') = Obj.mapId (moveF a b) (Obj.mapId (killF b) (outO B sz rows)) := by
 show Obj.arr 1 (.vv (hdrs B sz 0 (rows.set i r'))) = Obj.arr 1 (.vv (mapIdLL (moveF a b) (mapIdLL (killF b) (hdrs B sz 0 rows))))
 rw [hdrs_ren hi (fun j r hr hj => hdr_low hB hab hj (hf j r hr hj) hK) hnew]
theorem Wk.openF {σ : Type} {e : Env} {h : Heap} {s : σ} {B sz O : Nat} {rows : List Rw} (K i : Nat) {l : List (List D)} (F : Heap) (hA : FamAt B sz O K rows h) (hK : K < 1000000) (hOK : O ≠ K) (hi : rows[i]? = some (.at' l))
  (he : okNE (lowB K) e = true) (hF : okNH (lowB K) F = true) (hFs : subHeap h F) :
  Wk (⟨e, h, s⟩ : St σ) ⟨e, (O, outO B sz (rows.set i (.foc K l.length))) :: (K, .arr sz (.dd l)) :: (F ++ famR B sz 0 (rows.set i (.foc K l.length))), s⟩ := by
 obtain ⟨hB, hO, hT, hOl, hfo⟩ := hA
 have hil : i < rows.length := (List.getElem?_eq_some_iff.1 hi).1
 have hrow : get h (B + i) = some (.arr sz (.dd l)) := by
  rw [hT _ (by omega), get_famR, if_pos (by omega), show B + i - (B + 0) = i by omega, hi]
 have hout : outO B sz (rows.set i (.foc K l.length)) = Obj.mapId (moveF (B + i) K) (Obj.mapId (killF K) (outO B sz rows)) := by
  refine ren_outer hB (by omega) (fun j r hr _ K' n e => hfo K' n (by rw [← e]; exact List.mem_of_getElem? hr)) (.inr ⟨rfl, rfl⟩) hil fun r hr => ?_
  rw [hi] at hr
  cases hr
  show mapId _ (mapId _ (.sl (B + i) sz 0 l.length)) = .sl K sz 0 l.length
  have e1 : mapId (killF K) (.sl (B + i) sz 0 l.length) = .sl (B + i) sz 0 l.length := by
   rw [mapId, killF]; simp only [idOf, beq_no (show B + i ≠ K by omega)]
  rw [e1, mapId, moveF]
  simp only [Nat.beq_refl]
 refine Wk.ren (K := K) (B + i) K (by unfold pinned; omega) (by omega) (.inr (by omega)) (.inl rfl) he fun k v hv => ?_
 rw [get_one] at hv
 split at hv
 ·rename_i hk
  subst hk
  cases hv
  exact .inr ⟨hOK, by omega, _, hO, hout⟩
 ·rename_i hkO
  rw [get_one] at hv
  split at hv
  ·rename_i hk
   subst hk
   cases hv
   exact .inl ⟨rfl, _, hrow, rfl⟩
  ·rename_i hkK
   rw [get_appM] at hv
   cases hg : get F k with
   | some o =>
    rw [hg] at hv
    cases hv
    obtain ⟨h1, h2⟩ := okNH_get hF hg
    have h3 := lowB_t h1
    refine .inr ⟨hkK, by omega, v, subHeap_t hFs k v hg, ?_⟩
    rw [mapIdO_same (kill_low (.inl rfl)) v h2, mapIdO_same (move_low (.inr (by omega))) v h2]
   | none =>
    rw [hg] at hv
    simp only at hv
    rw [get_famR] at hv
    split at hv
    ·rename_i hBk
     rw [List.getElem?_set] at hv
     by_cases hik : i = k - (B + 0)
     ·rw [if_pos hik] at hv
      split at hv <;> simp_all
     ·rw [if_neg hik] at hv
      refine .inr ⟨hkK, by omega, v, ?_, ?_⟩
      ·rw [hT k (by omega), get_famR, if_pos hBk]; exact hv
      ·split at hv
       ·cases hv; rfl
       ·cases hv
    ·cases hv
theorem Wk.closeF {σ : Type} {e : Env} {h : Heap} {s : σ} {B sz O : Nat} {rows : List Rw} (K i : Nat) {n : Nat} {l : List (List D)} (F : Heap) (hB : 3000000 ≤ B) (hO : get h O = some (outO B sz rows)) (hT : ∀ k, B ≤ k → get h k = get (famR B sz 0 rows) k) (hOl : O < 3000000)
  (hfo : focOk K (rows.set i (.at' l))) (hK : K < 1000000) (hOK : O ≠ K) (hi : rows[i]? = some (.foc K n)) (hn : n = l.length) (hrow : get h K = some (.arr sz (.dd l)))
  (he : okNE (lowB K) e = true) (hF : okNH (lowB K) F = true) (hFs : subHeap h F) :
  Wk (⟨e, h, s⟩ : St σ) ⟨e, (O, outO B sz (rows.set i (.at' l))) :: (F ++ famR B sz 0 (rows.set i (.at' l))), s⟩ := by
 have hil : i < rows.length := (List.getElem?_eq_some_iff.1 hi).1
 have hout : outO B sz (rows.set i (.at' l)) = Obj.mapId (moveF K (B + i)) (Obj.mapId (killF (B + i)) (outO B sz rows)) := by
  refine ren_outer hB (by omega) (fun j r hr hj K' m e => hfo K' m ?_) (.inl ⟨rfl, rfl⟩) hil fun r hr => ?_
  ·rw [← e]
   refine List.mem_of_getElem? (i := j) ?_
   rw [List.getElem?_set, if_neg (fun h => hj h.symm)]; exact hr
  rw [hi] at hr
  cases hr
  subst hn
  show mapId _ (mapId _ (.sl K sz 0 l.length)) = .sl (B + i) sz 0 l.length
  have e1 : mapId (killF (B + i)) (.sl K sz 0 l.length) = .sl K sz 0 l.length := by
   rw [mapId, killF]; simp only [idOf, beq_no (show K ≠ B + i by omega)]
  rw [e1, mapId, moveF]
  simp only [Nat.beq_refl]
 refine Wk.ren (K := K) K (B + i) (by unfold pinned; omega) (by omega) (.inl rfl) (.inr (by omega)) he fun k v hv => ?_
 rw [get_one] at hv
 split at hv
 ·rename_i hk
  subst hk
  cases hv
  exact .inr ⟨by omega, hOK, _, hO, hout⟩
 ·rename_i hkO
  rw [get_appM] at hv
  cases hg : get F k with
  | some o =>
   rw [hg] at hv
   cases hv
   obtain ⟨h1, h2⟩ := okNH_get hF hg
   have h3 := lowB_t h1
   refine .inr ⟨by omega, h3.2, v, subHeap_t hFs k v hg, ?_⟩
   rw [mapIdO_same (kill_low (K := K) (.inr (by omega))) v h2, mapIdO_same (move_low (.inl rfl)) v h2]
  | none =>
   rw [hg] at hv
   simp only at hv
   rw [get_famR] at hv
   split at hv
   ·rename_i hBk
    rw [List.getElem?_set] at hv
    by_cases hik : i = k - (B + 0)
    ·rw [if_pos hik, if_pos hil] at hv
     have hk : k = B + i := by omega
     refine .inl ⟨hk, _, hrow, ?_⟩
     cases hv; rfl
    ·rw [if_neg hik] at hv
     refine .inr ⟨by omega, by omega, v, ?_, ?_⟩
     ·rw [hT k (by omega), get_famR, if_pos hBk]; exact hv
     ·split at hv
      ·cases hv; rfl
      ·cases hv
   ·cases hv
end Go.PX
namespace Go.PX
theorem inL_mem : ∀ {l : List Nat} {k : Nat}, inL l k = true ↔ k ∈ l
 | [], k => by simp [inL]
 | i :: r, k => by
  rw [inL]
  by_cases h : k = i
  ·subst h; simp
  ·rw [List.mem_cons, ← inL_mem (l := r)]
   split
   ·rename_i h1
    have := Nat.eq_of_beq_eq_true h1
    omega
   ·simp [h]
theorem keysOf_in : ∀ {ids : List Nat} {t : Heap} {k : Nat}, k ∈ keysOf (keepT ids t) → k ∈ ids
 | ids, [], k, h => by simp [keepT, keysOf] at h
 | ids, (i, o) :: r, k, h => by
  rw [keepT] at h
  split at h
  ·rename_i h1
   rw [keysOf] at h
   rcases List.mem_cons.1 h with rfl | h
   ·exact inL_mem.1 h1
   ·exact keysOf_in h
  ·exact keysOf_in h
theorem mapcut_famR {B sz k i : Nat} {rows : List Rw} (f : V → V) (h : k < B) : mapT (Obj.mapId f) (cut (famR B sz i rows) k) = famR B sz i rows := by rw [cut_famR h, map_famR]
def idsF (B n : Nat) : List Nat := (List.range n).map fun i => B + i
theorem view_hdrs {B sz : Nat} {g : Nat → Option DO} : ∀ (ls : List (List (List D))) (i : Nat), (∀ j l, ls[j]? = some l → g (B + (i + j)) = some (.arr sz l)) → viewLL g (hdrs B sz i (ls.map Rw.at')) = some (ls.map fun l => [.vs l])
 | [], i, _ => rfl
 | l :: ls, i, h => by
  have h0 : viewV g (.sl (B + i) sz 0 l.length) = some (.vs l) := by
   have h1 := h 0 l rfl
   rw [Nat.add_zero] at h1
   have h2 : Nat.beq sz sz = true := Nat.beq_refl sz
   have h3 : Nat.ble (0 + l.length) l.length = true := Nat.ble_eq_true_of_le (by omega)
   simp only [viewV, h1, h2, h3, List.drop_zero, List.take_length]
  have h1 : viewL g [V.sl (B + i) sz 0 l.length] = some [.vs l] := by rw [viewL, h0]; rfl
  have ih := view_hdrs ls (i + 1) fun j m hm => by
   have := h (j + 1) m (by simpa using hm)
   rw [show i + (j + 1) = i + 1 + j by omega] at this
   exact this
  rw [List.map_cons, hdrs, viewLL]
  show (match viewL g [V.sl (B + i) sz 0 l.length], viewLL g (hdrs B sz (i + 1) (ls.map Rw.at')) with | some a, some b => some (a :: b) | _, _ => none) = _
  rw [h1, ih]; rfl
theorem Wk.frzF {σ : Type} {e : Env} {h : Heap} {s : σ} {B sz O : Nat} {ls : List (List (List D))} (F : Heap) (hA : FamAt B sz O 0 (ls.map Rw.at') h) (hF : okNH (lowB O) F = true) (hFs : subHeap h F) :
  Wk (⟨e, h, s⟩ : St σ) ⟨e, (O, .arr 1 (.dd (ls.map fun l => [.vs l]))) :: F, s⟩ := by
 obtain ⟨hB, hO, hT, hOl, _⟩ := hA
 have hno : ∀ k, k < 3000000 → k ∉ keysOf (keepT (idsF B ls.length) h) := by
  intro k hk hm
  have := keysOf_in hm
  obtain ⟨i, _, rfl⟩ := List.mem_map.1 this
  omega
 have hk : get (cutL h (keysOf (keepT (idsF B ls.length) h))) O = some (.arr 1 (.vv (hdrs B sz 0 (ls.map Rw.at')))) := by
  rw [get_cutL, if_neg (hno O hOl)]; exact hO
 have hv : viewLL (objD (keepT (idsF B ls.length) h) 1) (hdrs B sz 0 (ls.map Rw.at')) = some (ls.map fun l => [.vs l]) := by
  refine view_hdrs ls 0 fun j l hl => ?_
  have hj : j < ls.length := (List.getElem?_eq_some_iff.1 hl).1
  have hg : get (keepT (idsF B ls.length) h) (B + (0 + j)) = some (.arr sz (.dd l)) := by
   have hin : inL (idsF B ls.length) (B + (0 + j)) = true := inL_mem.2 (List.mem_map.2 ⟨j, List.mem_range.2 hj, by omega⟩)
   rw [get_keepT, if_pos hin, hT _ (by omega), get_famR, if_pos (by omega), show B + (0 + j) - (B + 0) = j by omega, List.getElem?_map, hl]
   rfl
  rw [objD, hg]
 refine (Wk.frzArr 1 (idsF B ls.length) O hk hv).trans (Wk.subT (fun _ _ h => h) fun k v hv => ?_)
 rw [get_put]
 rw [get_one] at hv
 split at hv
 ·rename_i e
  rw [if_pos e]; exact hv
 ·rename_i e
  have h1 := (okNH_get hF hv).1
  have h2 := lowB_t h1
  rw [if_neg e, get_cutL, if_neg (hno k h2.1)]
  exact subHeap_t hFs k v hv
theorem Wk.bornF {σ : Type} {e : Env} {h : Heap} {s : σ} {B sz : Nat} (hB : 3000000 ≤ B) (hs : 0 < sz) (he : okNE (lowB 0) e = true) (hH : okNH (lowB 0) h = true) : ∀ (m i : Nat), Wk (⟨e, h, s⟩ : St σ) ⟨e, h ++ famR B sz i (List.replicate m (.at' [])), s⟩
 | 0, i => Wk.subT (fun _ _ h => h) (by rw [List.replicate_zero, famR, List.append_nil]; exact fun _ _ h => h)
 | m + 1, i => by
  refine (Wk.bornF hB hs he hH m (i + 1)).trans ?_
  have h1 : Wk (⟨e, h ++ famR B sz (i + 1) (List.replicate m (.at' [])), s⟩ : St σ) ⟨mapT (mapId (killF (B + i))) e, (B + i, .arr sz (.dd [])) :: mapT (Obj.mapId (killF (B + i))) (cut (h ++ famR B sz (i + 1) (List.replicate m (.at' []))) (B + i)), s⟩ := by
   intro cx r mm L F a w hg
   exact ⟨_, F, hg.newEmpty (B + i) sz (by unfold pinned; omega) hs (.dd []) rfl, Tr.refl F w⟩
  refine h1.trans (Wk.subT ?_ ?_)
  ·intro k v hv
   rw [get_mapT, hv]
   simp only [Option.map_some]
   rw [mapId_same (kill_low (K := 0) (.inr (by omega))) v (okNE_get he hv)]
  ·intro k v hv
   rw [List.replicate_succ, famR, get_appM] at hv
   rw [get_one]
   cases hg : get h k with
   | some o =>
    rw [hg] at hv
    cases hv
    obtain ⟨k1, k2⟩ := okNH_get hH hg
    have k3 := lowB_t k1
    rw [if_neg (by omega), get_mapT, get_cut, if_neg (by omega), get_appM, hg]
    simp only [Option.map_some]
    rw [mapIdO_same (kill_low (K := 0) (.inr (by omega))) v k2]
   | none =>
    rw [hg] at hv
    simp only at hv
    rw [get_one] at hv
    split at hv
    ·rename_i e1
     rw [if_pos e1]; exact hv
    ·rename_i e1
     rw [if_neg e1, get_mapT, get_cut, if_neg e1, get_appM, hg]
     simp only
     rw [hv]
     rw [get_famR] at hv
     split at hv
     ·split at hv
      ·cases hv; rfl
      ·cases hv
     ·cases hv
theorem repVL_nils {yv : Option Nat} {L : Loc} {F : Nat → Nat} {w : World} {B sz : Nat} (hs : 0 < sz) : ∀ (n i : Nat) (vals : List Value), RepVL yv L F w (injL (List.replicate n [D.nils])).flatten vals → RepVL yv L F w (hdrs B sz i (List.replicate n (.at' []))).flatten vals
 | 0, i, vals, h => h
 | n + 1, i, vals, h => by
  obtain ⟨x, l', rfl, hx, hl⟩ := h
  have hx : x = .slice none 0 0 := hx
  subst hx
  exact ⟨_, l', rfl, ⟨none, 0, rfl, Nat.le_refl _, hs, .inl ⟨rfl, rfl⟩⟩, repVL_nils hs n (i + 1) l' hl⟩
theorem Wk.makeF {σ : Type} {e : Env} {s : σ} {B sz O n : Nat} {F : Heap} (hB : 3000000 ≤ B) (hs : 0 < sz) (he : okNE (lowB 0) e = true) (hH : okNH (lowB 0) ((O, .arr 1 (.dd (List.replicate n [D.nils]))) :: F) = true) :
  Wk (⟨e, (O, .arr 1 (.dd (List.replicate n [D.nils]))) :: F, s⟩ : St σ) ⟨e, (O, outO B sz (List.replicate n (.at' []))) :: (F ++ famR B sz 0 (List.replicate n (.at' []))), s⟩ := by
 refine (Wk.bornF hB hs he hH n 0).trans ((Wk.reobj O (o := .arr 1 (.dd (List.replicate n [D.nils]))) (outO B sz (List.replicate n (.at' []))) (by rw [List.cons_append, get_one, if_pos rfl]) (fun yv L F w h => ?_) fun L hb => hb).trans (Wk.subT (fun _ _ h => h) fun k v hv => ?_))
 ·obtain ⟨c1, c2, c3⟩ := h
  have hl1 : ∀ m : Nat, (injL (List.replicate m [D.nils])).length = m := by
   intro m
   induction m with
   | zero => rfl
   | succ m ih => rw [List.replicate_succ, injL, List.length_cons, ih]
  have hl2 : (hdrs B sz 0 (List.replicate n (Rw.at' []))).length = n := by rw [hdrs_len, List.length_replicate]
  have c3 : (injL (List.replicate n [D.nils]) = [] ∧ L.κ O = 0) ∨ ∃ (c : Array Value) (T : TypeId), w.heap[L.ρ O]? = some (.cells c T (0, 0)) ∧ c.size = L.κ O ∧ (injL (List.replicate n [D.nils])).length * 1 ≤ c.size ∧ RepVL yv L F w (injL (List.replicate n [D.nils])).flatten (c.toList.take ((injL (List.replicate n [D.nils])).length * 1)) := c3
  refine ⟨c1, fun x hx => ?_, ?_⟩
  ·have hx : x ∈ hdrs B sz 0 (List.replicate n (Rw.at' [])) := hx
   obtain ⟨j, hj⟩ := List.getElem?_of_mem hx
   rw [hdrs_at] at hj
   cases hr : (List.replicate n (Rw.at' []))[j]? with
   | none => rw [hr] at hj; cases hj
   | some r => rw [hr] at hj; cases hj; rfl
  ·show (hdrs B sz 0 (List.replicate n (Rw.at' [])) = [] ∧ L.κ O = 0) ∨ ∃ (c : Array Value) (T : TypeId), w.heap[L.ρ O]? = some (.cells c T (0, 0)) ∧ c.size = L.κ O ∧ (hdrs B sz 0 (List.replicate n (Rw.at' []))).length * 1 ≤ c.size ∧ RepVL yv L F w (hdrs B sz 0 (List.replicate n (Rw.at' []))).flatten (c.toList.take ((hdrs B sz 0 (List.replicate n (Rw.at' []))).length * 1))
   rw [hl1] at c3
   rw [hl2]
   rcases c3 with ⟨h1, h2⟩ | ⟨c, T, h1, h2, h3, h4⟩
   ·refine .inl ⟨?_, h2⟩
    have := congrArg List.length h1
    rw [hl1] at this
    have hn : n = 0 := this
    subst hn; rfl
   ·exact .inr ⟨c, T, h1, h2, h3, repVL_nils hs n 0 _ h4⟩
 ·rw [get_put]
  rw [get_one] at hv
  split at hv
  ·rename_i e1; rw [if_pos e1]; exact hv
  ·rename_i e1
   rw [if_neg e1, List.cons_append, get_one, if_neg e1]; exact hv
end Go.PX
namespace Go.PX
section
variable {P : Program} {T : Tys} {σ : Type} {Y : Hd σ}
theorem LoopA_o (hT : TysOk P T) {ft : FT} {c : Code} (hD : drawsOk P T ft c) {α β : Type} (l : List α) (I : Nat → β → St σ) (J : Nat → List α → β → Prop) (x0 : β) {st : St σ} {K : AExit → St σ → Prop} (h0 : Wk st (I 0 x0)) (j0 : J 0 l x0)
  (round : ∀ (i : Nat) (x : α) (r : List α) (acc : β), l[i]? = some x → i < l.length → i + 1 + r.length = l.length → J i (x :: r) acc → ∃ st0, Wk (I i acc) st0 ∧ wpA P T ft Y c st0 fun e st' => match e with
   | .normal => ∃ acc', J (i + 1) r acc' ∧ Wk st' (I (i + 1) acc')
   | e => K e st')
  (fin : ∀ acc, J l.length [] acc → wpA P T ft Y c (I l.length acc) fun e st' => match e with
   | .normal => False
   | e => K e st') : LoopA P ft Y c st K := by
 refine LoopA_w (α := Nat × β) (fun p => I p.1 p.2) (fun p => p.1 ≤ l.length ∧ J p.1 (l.drop p.1) p.2) (fun p => l.length + 1 - p.1) (0, x0) h0 ⟨Nat.zero_le _, by simpa using j0⟩ ?_
 rintro ⟨i, acc⟩ ⟨hi, hj⟩
 simp only at hi hj ⊢
 by_cases hlt : i < l.length
 ·have hd : l.drop i = l[i] :: l.drop (i + 1) := List.drop_eq_getElem_cons hlt
  rw [hd] at hj
  obtain ⟨st0, hw0, hr0⟩ := round i l[i] (l.drop (i + 1)) acc (List.getElem?_eq_getElem hlt) hlt (by simp; omega) hj
  refine WPC.wk hw0 (WPC.mono (wpA_sound hT c hD _ _ hr0) fun e st' hk => ?_)
  cases e with
  | normal =>
   obtain ⟨acc', h1, h2⟩ := hk
   exact ⟨(i + 1, acc'), by simp only; omega, ⟨hlt, h1⟩, h2⟩
  | exit i => exact hk
  | ret => exact hk
 ·have he : i = l.length := by omega
  subst he
  rw [List.drop_length] at hj
  refine WPC.mono (wpA_sound hT c hD _ _ (fin acc hj)) fun e st' hk => ?_
  cases e with
  | normal => exact hk.elim
  | exit i => exact hk
  | ret => exact hk
end
theorem Wk.subG {σ : Type} {e e' : Env} {s : σ} {B sz : Nat} {rows : List Rw} {h : Heap} (F' : Heap) (hB : 3000000 ≤ B) (he : subEnv e e') (hT : ∀ k, 3000000 ≤ k → get h k = get (famR B sz 0 rows) k) (hs : subHeap h F') : Wk (⟨e, h, s⟩ : St σ) ⟨e', F' ++ famR B sz 0 rows, s⟩ := by
 refine Wk.subT (subEnv_t he) fun k v hv => ?_
 rw [get_appM] at hv
 cases hg : get F' k with
 | some o =>
  rw [hg] at hv
  have hv : some o = some v := hv
  rw [← hv]
  exact subHeap_t hs k o hg
 | none =>
  rw [hg] at hv
  have hv : get (famR B sz 0 rows) k = some v := hv
  have hk : B ≤ k := Nat.le_of_not_lt fun h => by rw [get_famR_lt h] at hv; cases hv
  rw [hT k (by omega)]
  exact hv
theorem kill_hdrs {B sz k : Nat} (hk : k < B) : ∀ (ls : List (List (List D))) (i : Nat), mapIdLL (killF k) (hdrs B sz i (ls.map Rw.at')) = hdrs B sz i (ls.map Rw.at')
 | [], i => rfl
 | l :: r, i => by
  have e1 : mapId (killF k) (.sl (B + i) sz 0 l.length) = .sl (B + i) sz 0 l.length := by
   rw [mapId, killF]; simp only [idOf, beq_no (show B + i ≠ k by omega)]
  have ih := kill_hdrs (sz := sz) hk r (i + 1)
  show [mapId (killF k) (.sl (B + i) sz 0 l.length)] :: mapIdLL (killF k) (hdrs B sz (i + 1) (r.map Rw.at')) = _
  rw [e1, ih]
  rfl
theorem get2_none {B sz i a b k : Nat} {o1 o2 : Obj} {F : Heap} {rows : List Rw} (ha : k ≠ a) (hb : k ≠ b) (hF : get F k = none) (hk : k < B) : get ((a, o1) :: (b, o2) :: (F ++ famR B sz i rows)) k = none := by
 rw [get_one, if_neg ha, get_one, if_neg hb, get_appM, hF]
 exact get_famR_lt hk
def idsLow : List Nat → Bool
 | [] => true
 | i :: r => Nat.blt i 3000000 && idsLow r
theorem inL_low : ∀ {ids : List Nat} {k : Nat}, idsLow ids = true → 3000000 ≤ k → inL ids k = false := by
 intro ids k h hk
 cases hc : inL ids k with
 | false => rfl
 | true =>
  exfalso
  have hm := inL_mem.1 hc
  clear hc
  induction ids with
  | nil => cases hm
  | cons i r ih =>
   simp only [idsLow, Bool.and_eq_true] at h
   have h1 : i < 3000000 := Nat.le_of_ble_eq_true h.1
   rcases List.mem_cons.1 hm with e | hm
   ·omega
   ·exact ih h.2 hm
theorem keepT_famR {B sz : Nat} {ids : List Nat} (hB : 3000000 ≤ B) (h : idsLow ids = true) : ∀ {rows : List Rw} {i : Nat}, keepT ids (famR B sz i rows) = []
 | [], _ => rfl
 | .at' l :: rs, i => by
  rw [famR, keepT, inL_low h (by omega)]
  exact keepT_famR hB h
 | .foc K n :: rs, i => by rw [famR]; exact keepT_famR hB h
theorem kill_foc {B sz k : Nat} (hk : k < B) : ∀ {rows : List Rw} {i : Nat}, (∀ K n, Rw.foc K n ∈ rows → K ≠ k) → mapIdLL (killF k) (hdrs B sz i rows) = hdrs B sz i rows
 | [], i, _ => rfl
 | .at' l :: r, i, h => by
  have e1 : mapId (killF k) (.sl (B + i) sz 0 l.length) = .sl (B + i) sz 0 l.length := by
   rw [mapId, killF]; simp only [idOf, beq_no (show B + i ≠ k by omega)]
  have ih := kill_foc (sz := sz) hk (rows := r) (i := i + 1) fun K n hm => h K n (by simp [hm])
  show [mapId (killF k) (.sl (B + i) sz 0 l.length)] :: mapIdLL (killF k) (hdrs B sz (i + 1) r) = _
  rw [e1, ih]
  rfl
 | .foc K n :: r, i, h => by
  have e1 : mapId (killF k) (.sl K sz 0 n) = .sl K sz 0 n := by
   rw [mapId, killF]; simp only [idOf, beq_no (h K n (by simp))]
  have ih := kill_foc (sz := sz) hk (rows := r) (i := i + 1) fun K n hm => h K n (by simp [hm])
  show [mapId (killF k) (.sl K sz 0 n)] :: mapIdLL (killF k) (hdrs B sz (i + 1) r) = _
  rw [e1, ih]
  rfl
theorem get10_no {B sz i k a0 a1 a2 a3 a4 a5 a6 a7 a8 a9 : Nat} {o0 o1 o2 o3 o4 o5 o6 o7 o8 o9 : Obj} {rows : List Rw} (ha : inL [a0, a1, a2, a3, a4, a5, a6, a7, a8, a9] k = false) (hk : k < B) : get ((a0, o0) :: (a1, o1) :: (a2, o2) :: (a3, o3) :: (a4, o4) :: (a5, o5) :: (a6, o6) :: (a7, o7) :: (a8, o8) :: (a9, o9) :: famR B sz i rows) k = none := by
 have h : ∀ a ∈ [a0, a1, a2, a3, a4, a5, a6, a7, a8, a9], k ≠ a := fun a hm e => by rw [e, inL_mem.2 hm] at ha; cases ha
 rw [get_one, if_neg (h _ (by simp)), get_one, if_neg (h _ (by simp)), get_one, if_neg (h _ (by simp)), get_one, if_neg (h _ (by simp)), get_one, if_neg (h _ (by simp)), get_one, if_neg (h _ (by simp)), get_one, if_neg (h _ (by simp)), get_one, if_neg (h _ (by simp)), get_one, if_neg (h _ (by simp)), get_one, if_neg (h _ (by simp))]
 exact get_famR_lt hk
theorem forceN_any {l : List Nat} {K : List Nat → Prop} (h : K l) : forceN l K := by
 induction l generalizing K with
 | nil => exact h
 | cons n r ih => exact ih (K := fun r => K (n :: r)) h
end Go.PX
namespace Go.PX
open Go.Proofs
theorem nodup_in {α : Type} [DecidableEq α] : ∀ {l m : List α}, l.Nodup → (∀ x ∈ l, x ∈ m) → l.length ≤ m.length
 | [], m, _, _ => Nat.zero_le _
 | a :: r, m, h, hs => by
  obtain ⟨h1, h2⟩ := List.nodup_cons.1 h
  have ha := hs a (by simp)
  have := nodup_in (l := r) (m := m.erase a) h2 fun x hx => (List.mem_erase_of_ne (fun e => h1 (by rw [← e]; exact hx))).2 (hs x (by simp [hx]))
  rw [List.length_erase_of_mem ha] at this
  have := List.length_pos_of_mem ha
  simp only [List.length_cons]
  omega
abbrev WebOk (c : WCase) (men : List Int) (w : KN.WS Tired) (b : List (List Nat)) : Prop := KN.WDone (sucS c men) codN manyN (InV c) w b
theorem sts_few {c : WCase} (hR : WR c) {w : KN.WS Tired} (h : KN.WOk codN manyN (InV c) w) : w.sts.length ≤ 46656 := by
 have h1 := nodup_in (m := univ c) h.nodup fun t ht => (h.inU t ht).u.mem
 have h2 := univ_len c
 have h3 := hR.slots
 omega
theorem web_start {c : WCase} (hR : WR c) {men : List Int} {ix : List Int} (hl : ix.length = manyN) (hz : ∀ n, KN.atI ix n = 0) : WebOk c men ⟨ix.set (codN .zero) 1, [.zero]⟩ [] := by
 have h0 : KN.WOk codN manyN (InV c) ⟨ix, []⟩ := by
  refine ⟨hl, List.nodup_nil, ?_, ?_, ?_⟩
  ·intro s hs; cases hs
  ·intro q s hq; simp at hq
  ·exact fun u _ hn => absurd (hz _) hn
 have h1 := (KN.ent_ok (fun s hs => codN_lt hR s hs) (fun s t hs ht e => codN_inj hR s t hs ht e) h0 (InV.zero hR)).1
 have e : KN.entW codN ⟨ix, []⟩ .zero = ⟨ix.set (codN .zero) 1, [.zero]⟩ := by
  unfold KN.entW
  rw [if_pos (hz _)]; rfl
 rw [e] at h1
 exact ⟨h1, by simp, fun k l hk => by simp at hk⟩
theorem intsC_get {l : List Int} {k : Nat} (h : k < l.length) : (intsC l)[0 + ((k : Nat) : Int).toNat]? = some [i64 (KN.atI l k)] := by
 unfold intsC KN.atI
 rw [Int.toNat_natCast, Nat.zero_add, List.getElem?_map, List.getElem?_eq_getElem h]
 rfl
theorem intsC_set {l : List Int} {k : Nat} {v : Int} : (intsC l).set (0 + ((k : Nat) : Int).toNat) [i64 v] = intsC (l.set k v) := by
 unfold intsC
 rw [Int.toNat_natCast, Nat.zero_add, List.map_set]
theorem statesC_get {l : List Tired} {k : Nat} {t : Tired} (h : l[k]? = some t) : (statesC l)[0 + ((k : Nat) : Int).toNat]? = some t.cells := by
 unfold statesC
 rw [Int.toNat_natCast, Nat.zero_add, List.getElem?_map, h]
 rfl
theorem canS_facts {c : WCase} (hR : WR c) {men : List Int} {set : Int} (hs : SameSet c men set) {t : Tired} (ht : InV c t) : (canS c men t).length ≤ 25 ∧ (∀ g ∈ canS c men t, g.length ≤ 2) ∧ ∀ u ∈ (canS c men t).map (behindF c t), InV c u := by
 refine ⟨?_, ?_, suc_InV hR hs t ht⟩
 ·rw [canS_eq hR hs ht.u, List.length_map]
  exact groups_many hR
 ·intro g hg
  rw [canS_eq hR hs ht.u] at hg
  obtain ⟨x, hx, rfl⟩ := List.mem_map.1 hg
  exact groups_len hR hx
def natC (l : List Nat) : List Int := l.map fun (i : Nat) => (i : Int)
def rowsN (bf : List (List Nat)) : List Rw := bf.map fun l => Rw.at' (intsC (natC l))
theorem rowsI_get {b : List (List Nat)} {i : Nat} {l : List Nat} (h : b[i]? = some l) : ((rowsI b).map fun r => [intsD r])[0 + ((i : Nat) : Int).toNat]? = some [intsD (natC l)] := by
 unfold rowsI natC
 rw [Int.toNat_natCast, Nat.zero_add, List.getElem?_map, List.getElem?_map, h]
 rfl
theorem kill_rowsN {B k : Nat} (hk : k < B) (bf : List (List Nat)) (i : Nat) : mapIdLL (killF k) (hdrs B 1 i (rowsN bf)) = hdrs B 1 i (rowsN bf) := by
 have : rowsN bf = (bf.map fun l => intsC (natC l)).map Rw.at' := by unfold rowsN; rw [List.map_map]; rfl
 rw [this]
 exact kill_hdrs hk _ i
theorem natC_get {l : List Nat} {k v : Nat} (h : l[k]? = some v) : ((natC l).map fun n => [i64 n])[0 + ((k : Nat) : Int).toNat]? = some [i64 (v : Nat)] := by
 unfold natC
 rw [Int.toNat_natCast, Nat.zero_add, List.getElem?_map, List.getElem?_map, h]
 rfl
end Go.PX
namespace Go.PX
open Go.Proofs
def webW0 (c : WCase) (men : List Int) : KN.WS Tired × List (List Nat) := KN.webW (sucS c men) codN 46656 ⟨(List.replicate manyN 0).set (codN .zero) 1, [.zero]⟩ []
def heiW (b : List (List Nat)) (n : Nat) : List Int := KN.loopK b (KN.befF 0 b (List.replicate n [])) n 0 (List.replicate n (-1)) ⟨KN.left0 b, KN.line0 b n⟩
def webDW (w : KN.WS Tired) (b : List (List Nat)) : D := .agg [intsD w.ix, statesD w.sts, rotaD (rowsI b), intsD (heiW b w.sts.length)]
def webD (c : WCase) (men : List Int) : D := webDW (webW0 c men).1 (webW0 c men).2
theorem web_done {c : WCase} (hR : WR c) {men : List Int} {set : Int} (hs : SameSet c men set) : ∀ (f : Nat) (w : KN.WS Tired) (b : List (List Nat)), WebOk c men w b → 46656 ≤ f + b.length → w.sts[0]? = some .zero →
  WebOk c men (KN.webW (sucS c men) codN f w b).1 (KN.webW (sucS c men) codN f w b).2 ∧ (KN.webW (sucS c men) codN f w b).2.length = (KN.webW (sucS c men) codN f w b).1.sts.length ∧ (KN.webW (sucS c men) codN f w b).1.sts[0]? = some .zero
 | 0, w, b, h, hf, hz => by
  have := sts_few hR h.ok
  have := h.le
  exact ⟨h, by show b.length = w.sts.length; omega, hz⟩
 | f + 1, w, b, h, hf, hz => by
  rw [KN.webW]
  cases hb : w.sts[b.length]? with
  | none =>
   have h1 := List.getElem?_eq_none_iff.1 hb
   have := h.le
   exact ⟨h, by show b.length = w.sts.length; omega, hz⟩
  | some s =>
   obtain ⟨h1, t, ht⟩ := KN.wstep (fun s hs => codN_lt hR s hs) (fun s t hs ht e => codN_inj hR s t hs ht e) (fun s hs' => suc_InV hR hs s hs') h hb
   exact web_done hR hs f _ _ h1 (by rw [List.length_append, List.length_singleton]; omega) (by rw [ht]; exact KN.get_pre hz)
theorem atL_rep (n j : Nat) : KN.atL (List.replicate n []) j = [] := by
 unfold KN.atL
 rw [List.getElem?_replicate]
 split <;> rfl
theorem bef_ok {n : Nat} {b : List (List Nat)} (hn : b.length = n) (hb : ∀ i, ∀ v ∈ KN.atL b i, v < n) : (∀ i j, i < n → j < n → (KN.atL (KN.befF 0 b (List.replicate n [])) i).count j = (KN.atL b j).count i) ∧ ∀ i, i < n → ∀ j ∈ KN.atL (KN.befF 0 b (List.replicate n [])) i, j < n := by
 have hl : ∀ l ∈ b, ∀ v ∈ l, v < (List.replicate n ([] : List Nat)).length := by
  intro l hl v hv
  obtain ⟨i, hi⟩ := List.getElem?_of_mem hl
  rw [List.length_replicate]
  refine hb i v ?_
  unfold KN.atL
  rw [hi]; exact hv
 have hc : ∀ i j, (KN.atL (KN.befF 0 b (List.replicate n [])) i).count j = (KN.atL b j).count i := by
  intro i j
  rw [KN.befF_count i j b 0 _ hl, atL_rep, if_pos (Nat.zero_le _), Nat.sub_zero]
  simp
 refine ⟨fun i j _ _ => hc i j, fun i _ j hj => ?_⟩
 have h1 : 0 < (KN.atL b j).count i := by rw [← hc i j]; exact List.count_pos_iff.2 hj
 have h2 : i ∈ KN.atL b j := List.count_pos_iff.1 h1
 unfold KN.atL at h2
 cases hbj : b[j]? with
 | none => rw [hbj] at h2; cases h2
 | some x => have := (List.getElem?_eq_some_iff.1 hbj).1; omega
theorem hei_kahn {n : Nat} {b bf : List (List Nat)} (hbf : ∀ i j, i < n → j < n → (KN.atL bf i).count j = (KN.atL b j).count i) (hbl : ∀ i, i < n → ∀ j ∈ KN.atL bf i, j < n) : ∀ (f p : Nat) (H : List Int) (s : KN.KS), KN.KInv n b bf p H s → n ≤ f + p → ∃ line, KN.Kahn n b (KN.loopK b bf f p H s) line
 | 0, p, H, s, h, hf => by
  have := KN.nodup_len h.inn.nodup h.inn.low
  have := h.hp
  exact ⟨_, h.done (by omega)⟩
 | f + 1, p, H, s, h, hf => by
  rw [KN.loopK]
  cases hb : s.line[p]? with
  | none =>
   have h1 := List.getElem?_eq_none_iff.1 hb
   have := h.hp
   exact ⟨_, h.done (by omega)⟩
  | some i => exact hei_kahn hbf hbl f (p + 1) _ _ (KN.kstep hbf hbl h hb).1 (by omega)
theorem webR_ex {c : WCase} (hR : WR c) {men : List Int} {set : Int} (hs : SameSet c men set) : ∃ W : WebR c men, W.d = webD c men := by
 have h0 := web_start hR (men := men) (ix := List.replicate manyN 0) List.length_replicate fun n => by
  unfold KN.atI
  rw [List.getElem?_replicate]
  split <;> rfl
 obtain ⟨h1, h2, h3⟩ := web_done hR hs 46656 _ _ h0 (Nat.le_add_right _ _) rfl
 obtain ⟨h4, h5⟩ := bef_ok (n := (webW0 c men).1.sts.length) h2 fun i => h1.low i
 obtain ⟨line, hk⟩ := hei_kahn (n := (webW0 c men).1.sts.length) h4 h5 (webW0 c men).1.sts.length 0 _ _ (KN.kfirst h2) (by omega)
 exact ⟨⟨(webW0 c men).1, (webW0 c men).2, line, _, h1, h2, hk, h3, sts_few hR h1.ok⟩, rfl⟩
theorem row_few {c : WCase} (hR : WR c) {men : List Int} {set : Int} (hs : SameSet c men set) {w : KN.WS Tired} {b : List (List Nat)} (h : WebOk c men w b) {i : Nat} {l : List Nat} (hi : b[i]? = some l) : l.length ≤ 25 := by
 obtain ⟨s, hs1, hs2⟩ := h.row i l hi
 have h1 := (canS_facts hR hs (h.ok.inU s (List.mem_of_getElem? hs1))).1
 have h2 := congrArg List.length hs2
 simp only [List.length_map] at h2
 unfold sucS at h2
 rw [List.length_map] at h2
 omega
theorem line0_succ {b : List (List Nat)} {i : Nat} {l : List Nat} (h : b[i]? = some l) : KN.line0 b (i + 1) = if (l.length : Int) = 0 then KN.line0 b i ++ [i] else KN.line0 b i := by
 unfold KN.line0
 rw [List.range_succ, List.filter_append]
 have e : KN.atL b i = l := by unfold KN.atL; rw [h]; rfl
 by_cases hl : l.length = 0
 ·rw [if_pos (by omega)]
  rw [List.filter_cons, e, if_pos (by simp [hl])]; rfl
 ·rw [if_neg (by omega)]
  rw [List.filter_cons, e, if_neg (by simpa using hl)]; simp
theorem addB_len {bf : List (List Nat)} {m v i : Nat} (hv : v < bf.length) (h : ∀ j, (KN.atL bf j).length ≤ m) (j : Nat) : (KN.atL (KN.addB bf v i) j).length ≤ m + 1 := by
 unfold KN.addB
 rw [KN.atL_set hv]
 have h1 := h v
 have h2 := h j
 split
 ·rw [List.length_append, List.length_singleton]; omega
 ·omega
theorem rowsN_set {bf : List (List Nat)} {v i : Nat} : (rowsN bf).set v (.at' (intsC (natC (KN.atL bf v ++ [i])))) = rowsN (KN.addB bf v i) := by
 unfold rowsN KN.addB
 rw [List.map_set]
theorem left_done {left : List Int} {b : List (List Nat)} (hl : left.length = b.length) (h : ∀ j, j < b.length → KN.atI left j = (KN.atL b j).length) : left = KN.left0 b := by
 have hl0 : (KN.left0 b).length = b.length := by unfold KN.left0; rw [List.length_map]
 refine List.ext_getElem? fun j => ?_
 by_cases hj : j < b.length
 ·have h3 := h j hj
  unfold KN.atI KN.atL at h3
  rw [List.getElem?_eq_getElem (show j < left.length by omega), List.getElem?_eq_getElem hj] at h3
  rw [List.getElem?_eq_getElem (show j < left.length by omega)]
  unfold KN.left0
  rw [List.getElem?_map, List.getElem?_eq_getElem hj]
  exact congrArg some h3
 ·rw [List.getElem?_eq_none (by omega), List.getElem?_eq_none (by omega)]
theorem foc_rows {bf : List (List Nat)} {v K : Nat} {l : List (List D)} : focOk K ((rowsN bf).set v (.at' l)) := by
 intro K' n hm
 obtain ⟨j, hj⟩ := List.getElem?_of_mem hm
 rw [List.getElem?_set] at hj
 split at hj
 ·split at hj
  ·cases hj
  ·cases hj
 ·unfold rowsN at hj
  rw [List.getElem?_map] at hj
  cases hb : bf[j]? with
  | none => rw [hb] at hj; cases hj
  | some x => rw [hb] at hj; cases hj
theorem famR_refoc {B sz : Nat} {rows : List Rw} {v K n K' n' : Nat} (k : Nat) : get (famR B sz 0 (rows.set v (.foc K n))) k = get (famR B sz 0 ((rows.set v (.foc K n)).set v (.foc K' n'))) k := by
 rw [get_famR, get_famR, List.set_set]
 split
 ·rw [List.getElem?_set, List.getElem?_set]
  by_cases h : v = k - (B + 0)
  ·rw [if_pos h, if_pos h]
   by_cases h2 : v < rows.length
   ·rw [if_pos h2, if_pos h2]
   ·rw [if_neg h2, if_neg h2]
  ·rw [if_neg h, if_neg h]
 ·rfl
theorem hdrs_store {B sz v K n : Nat} {rows : List Rw} {x : List V} (hx : x = [V.sl K sz 0 n]) : (hdrs B sz 0 rows).set v x = hdrs B sz 0 (rows.set v (.foc K n)) := by
 refine List.ext_getElem? fun j => ?_
 rw [hdrs_at, List.getElem?_set, List.getElem?_set, hdrs_len, hdrs_at]
 split
 ·split
  ·rw [hx]; rfl
  ·rfl
 ·rfl
theorem webW_end {c : WCase} {men : List Int} {w : KN.WS Tired} {b : List (List Nat)} (h : w.sts.length ≤ b.length) : ∀ f, KN.webW (sucS c men) codN f w b = (w, b)
 | 0 => rfl
 | f + 1 => by rw [KN.webW, List.getElem?_eq_none h]
theorem loopK_end {b bf : List (List Nat)} {p : Nat} {H : List Int} {s : KN.KS} (h : s.line.length ≤ p) : ∀ f, KN.loopK b bf f p H s = H
 | 0 => rfl
 | f + 1 => by rw [KN.loopK, List.getElem?_eq_none h]
theorem less_bd {s : KN.KS} {v n : Nat} (hn : s.left.length = n) (hv : v < n) (h : ∀ j, KN.atI s.left j ≤ 25) : ∀ j, KN.atI (KN.lessK s v).left j ≤ 25 := fun j => by
 have h1 := h v
 have h2 := h j
 show KN.atI (s.left.set v (KN.atI s.left v - 1)) j ≤ 25
 rw [KN.atI_set (by omega)]
 split <;> omega
end Go.PX
