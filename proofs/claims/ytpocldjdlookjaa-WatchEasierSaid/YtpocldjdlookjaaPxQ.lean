import Derived.Test.YtpocldjdlookjaaPxP
set_option linter.all false
set_option maxRecDepth 10000
namespace Go.PX
open Go.Proofs

/- Watch: WatchEasier, walked. -/

theorem viewV_agg {g : Nat → Option DO} {cs : List V} {l : List D} (h : viewL g cs = some l) : viewV g (.agg cs) = some (.agg l) := by simp [viewV, h]

/-- A box of data with a nil slice in it holds one without elements. -/
theorem Wk.bornAtD {σ : Type} {e : Env} {h : Heap} {s : σ} (b k sz : Nat) (A B : List D) {l : List D} (hk : Nat.blt k 1000000 = true) (hs : Nat.blt 0 sz = true) (hb : get h b = some (.box (.dd l))) (hl : l = A ++ .nils :: B) (hbk : Nat.beq b k = false) :
    Wk (⟨e, h, s⟩ : St σ) ⟨mapT (mapId (killF k)) e, put (put (mapT (Obj.mapId (killF k)) (cut h k)) k (.arr sz (.dd []))) b (.box (.vv (inj A ++ .sl k sz 0 0 :: inj B))), s⟩ := by
  have hk := Nat.le_of_ble_eq_true hk
  have hs := Nat.le_of_ble_eq_true hs
  have hne : b ≠ k := by rintro rfl; simp at hbk
  have h1 : Wk (⟨e, h, s⟩ : St σ) ⟨mapT (mapId (killF k)) e, put (mapT (Obj.mapId (killF k)) (cut h k)) k (.arr sz (.dd [])), s⟩ := by
    intro cx r m L F a w hg
    exact ⟨_, F, hg.newEmpty k sz (by unfold pinned; omega) hs (.dd []) rfl, Tr.refl F w⟩
  refine h1.trans (Wk.reobj b (o := .box (.dd l)) _ (by rw [get_put, if_neg hne, get_mapT, get_cut, if_neg hne, hb]; rfl) (fun yv L F w h => ?_) fun L hb => hb)
  obtain ⟨c, T, hc, hr⟩ := h
  have hr : RepVL yv L F w (inj l) c.toList := hr
  rw [hl, inj_append] at hr
  exact ⟨c, T, hc, RepVL.nil_at k sz hs hr⟩

theorem wrap_u8 {n : Int} (h : 0 ≤ n ∧ n ≤ 255) : IntKind.u8.wrap n = n := by
  show (n.emod 256) = n
  exact Int.emod_eq_of_lt h.1 (by omega)

theorem wa13 (c : WCase) (x : GapX) (hx : x.Ok) (n : Int) (hn : 0 ≤ n ∧ n ≤ 255) : FnV Try.prog 13 [c.d, x.d, .int .u8 n] (.bool true) := by
  refine fnV_of mixed tysOk Try.func13 rfl (ft := ft13) 3 (by decide +kernel) (by rfl) fun {σ} Y st => ?_
  conv => whnf
  refine CallA_v (wa43 c) rfl rfl ?_
  conv => whnf
  cases hv : valW c with
  | false =>
    conv => whnf
    refine CallA_v (wa27) rfl rfl ?_
    conv => whnf
    exact RetA_view 0 rfl ⟨⟨rfl, rfl⟩, rfl⟩
  | true =>
    have hR := val_WR hv
    have hm := hR.men
    have hsl := hR.slots
    have hru := hR.run
    have hre := hR.rest
    conv => whnf
    have hq : ∀ k : Int, 0 < k → 0 ≤ n.tdiv k ∧ n.tdiv k ≤ 255 := fun k hk => by
      rw [Int.tdiv_eq_ediv_of_nonneg hn.1]
      have := Int.ediv_nonneg hn.1 (by omega : 0 ≤ k)
      have h2 : n / k ≤ n := Int.ediv_le_self k hn.1
      omega
    have hq2 := hq 2 (by omega)
    have hq4 := hq 4 (by omega)
    have hq8 := hq 8 (by omega)
    obtain ⟨b3, hb3⟩ : ∃ b, decide ((n.tdiv 4).tmod 2 = 1) = b := ⟨_, rfl⟩
    obtain ⟨b4, hb4⟩ : ∃ b, decide ((n.tdiv 8).tmod 2 = 1) = b := ⟨_, rfl⟩
    refine brk_i (fun h1 => ?_) (fun h1 => ?_)
    · conv => whnf
      refine arith_in (wrap_i64 (by omega)) ?_
      conv => whnf
      refine arith_in (wrap_u8 (by omega)) ?_
      conv => whnf
      refine brk_i (fun h2 => ?_) (fun h2 => ?_)
      · conv => whnf
        refine arith_in (wrap_i64 (by omega)) ?_
        conv => whnf
        refine LoopA_i (T := tys) tysOk (by exact drawsB_spec mixed tysOk (by decide +kernel)) c.slots (fun i (acc : List Slot) => ⟨[(2, .d (.int .u8 n)), (3, .ptr 3 0), (4, .ptr 4 0), (6, .d (.bool false)), (7, .ptr 7 0), (8, .d (i64 i))], [(3, .box (.dd c.cells)), (4, .box (.dd x.cells)), (7, .box (.vv [.d .nils, .sl 71 2 0 acc.length, .d (i64 (easeRun true c.run)), .d (i64 (easeRest true c.rest))])), (71, .arr 2 (.dd (acc.map Slot.cells)))], st⟩)
          (fun i r acc => acc.length ≤ i ∧ c.slots.map (easeSlot b3) = acc ++ r.map (easeSlot b3)) [] ((Wk.bornAtD 7 71 2 [.nils] [i64 (easeRun true c.run), i64 (easeRest true c.rest)] rfl rfl rfl rfl rfl).trans (Wk.sub ⟨(by first | rfl | (simp only [List.length_map]; rfl) | simp [PX.get]), (by first | rfl | (simp only [List.length_map]; rfl) | simp [PX.get]), (by first | rfl | (simp only [List.length_map]; rfl) | simp [PX.get]), (by first | rfl | (simp only [List.length_map]; rfl) | simp [PX.get]), (by first | rfl | (simp only [List.length_map]; rfl) | simp [PX.get]), (by first | rfl | (simp only [List.length_map]; rfl) | simp [PX.get]), trivial⟩ ⟨(by first | rfl | (simp only [List.length_map]; rfl) | simp [PX.get]), (by first | rfl | (simp only [List.length_map]; rfl) | simp [PX.get]), (by first | rfl | (simp only [List.length_map]; rfl) | simp [PX.get]), (by first | rfl | (simp only [List.length_map]; rfl) | simp [PX.get]), trivial⟩)) ⟨by simp, rfl⟩ ?_ ?_
        · rintro i y r acc hy hi hr2 ⟨hal, he⟩
          rw [List.map_cons] at he
          have hso := (hR.slot y (List.mem_of_getElem? hy)).2
          conv => whnf
          refine brk_i (fun _ => ?_) (fun h => absurd hi (by have := of_decide_eq_false h; simp at this; omega))
          conv => whnf
          refine elemK_nat hy ?_
          conv => whnf
          refine arith_in (wrap_u8 (by omega)) ?_
          conv => whnf
          refine brk_i (fun h3 => ?_) (fun h3 => ?_)
          · have h3 : b3 = true := hb3.symm.trans h3
            rw [h3] at he ⊢
            conv => whnf
            refine arith_in (wrap_i64 (by omega)) ?_
            conv => whnf
            refine ownK_whole rfl ?_
            conv => whnf
            refine ownK_whole (by simp [Els.len]) ?_
            conv => whnf
            refine chk_i (decide_eq_true (by
              show ((acc.map Slot.cells).length + 1) * 16 ≤ 140737488355328
              rw [List.length_map]; omega)) ?_
            conv => whnf
            refine arith_in (wrap_i64 (by (try dsimp only); omega)) ?_
            conv => whnf
            refine ⟨acc ++ [easeSlot true y], ⟨by simp; omega, by simpa using he⟩, Wk.sub ⟨rfl, rfl, rfl, rfl, rfl, rfl, trivial⟩ ⟨rfl, rfl, ?_, ?_, trivial⟩⟩
            · show some (Obj.box (.vv [.d .nils, .sl 71 2 0 ((acc.map Slot.cells).length + 1), .d (i64 (easeRun true c.run)), .d (i64 (easeRest true c.rest))])) = _
              simp
            · show some (Obj.arr 2 (Els.dd (acc.map Slot.cells ++ [(easeSlot true y).cells]))) = _
              simp
          · have h3 : b3 = false := hb3.symm.trans h3
            rw [h3] at he ⊢
            conv => whnf
            refine ownK_whole rfl ?_
            conv => whnf
            refine ownK_whole (by simp [Els.len]) ?_
            conv => whnf
            refine chk_i (decide_eq_true (by
              show ((acc.map Slot.cells).length + 1) * 16 ≤ 140737488355328
              rw [List.length_map]; omega)) ?_
            conv => whnf
            refine arith_in (wrap_i64 (by (try dsimp only); omega)) ?_
            conv => whnf
            refine ⟨acc ++ [easeSlot false y], ⟨by simp; omega, by simpa using he⟩, Wk.sub ⟨rfl, rfl, rfl, rfl, rfl, rfl, trivial⟩ ⟨rfl, rfl, ?_, ?_, trivial⟩⟩
            · show some (Obj.box (.vv [.d .nils, .sl 71 2 0 ((acc.map Slot.cells).length + 1), .d (i64 (easeRun true c.run)), .d (i64 (easeRest true c.rest))])) = _
              simp
            · show some (Obj.arr 2 (Els.dd (acc.map Slot.cells ++ [(easeSlot false y).cells]))) = _
              simp
        · rintro acc ⟨_, hf⟩
          have hf : acc = c.slots.map (easeSlot b3) := by simpa using hf.symm
          rw [hf]
          conv => whnf
          refine brk_i (fun h => absurd h (by simp)) (fun _ => ?_)
          conv => whnf
          refine LoopA_i (T := tys) tysOk (by exact drawsB_spec mixed tysOk (by decide +kernel)) c.men (fun i (acc : List Man) => ⟨[(2, .d (.int .u8 n)), (3, .ptr 3 0), (4, .ptr 4 0), (6, .d (.bool false)), (7, .ptr 7 0), (10, .d (i64 i))], [(3, .box (.dd c.cells)), (4, .box (.dd x.cells)), (7, .box (.vv [.sl 103 3 0 acc.length, .sl 71 2 0 (c.slots.map (easeSlot b3)).length, .d (i64 (easeRun true c.run)), .d (i64 (easeRest true c.rest))])), (71, .arr 2 (.dd ((c.slots.map (easeSlot b3)).map Slot.cells))), (103, .arr 3 (.dd (acc.map Man.cells)))], st⟩)
            (fun i r acc => acc.length ≤ i ∧ c.men.map (easeMan b4) = acc ++ r.map (easeMan b4)) [] ((Wk.bornAt 7 103 3 [] [.sl 71 2 0 (c.slots.map (easeSlot b3)).length, .d (i64 (easeRun true c.run)), .d (i64 (easeRest true c.rest))] rfl rfl rfl rfl).trans (Wk.sub ⟨rfl, rfl, rfl, rfl, rfl, rfl, trivial⟩ ⟨rfl, rfl, rfl, rfl, rfl, trivial⟩)) ⟨by simp, rfl⟩ ?_ ?_
          · rintro i y r acc hy hi hr2 ⟨hal, he⟩
            rw [List.map_cons] at he
            conv => whnf
            refine brk_i (fun _ => ?_) (fun h => absurd hi (by have := of_decide_eq_false h; simp at this; omega))
            conv => whnf
            refine elemK_nat hy ?_
            conv => whnf
            refine arith_in (wrap_u8 (by omega)) ?_
            conv => whnf
            refine brk_i (fun h3 => ?_) (fun h3 => ?_)
            · have h3 : b4 = true := hb4.symm.trans h3
              conv => whnf
              refine brk_i (fun h4 => ?_) (fun h4 => ?_)
              · have h4 : 0 < y.no.length := by have := of_decide_eq_true h4; simp at this; omega
                have hem : easeMan b4 y = ⟨y.name, y.kind, y.no.tail⟩ := by
                  unfold easeMan; rw [h3, decide_eq_true h4]; rfl
                conv => whnf
                refine chk_i (by simp; omega) ?_
                conv => whnf
                refine chk_i (by cases y.no <;> rfl) ?_
                conv => whnf
                have htl : List.drop (Int.toNat 1) (List.take (List.map (fun n => [i64 n]) y.no).length (List.map (fun n => [i64 n]) y.no)) = y.no.tail.map fun n => [i64 n] := by
                  rw [List.take_length, show Int.toNat 1 = 1 from rfl, List.drop_one, List.map_tail]
                rw [htl]
                refine ownK_whole rfl ?_
                conv => whnf
                refine ownK_whole (by simp [Els.len]) ?_
                conv => whnf
                refine chk_i (decide_eq_true (by
                  show ((acc.map Man.cells).length + 1) * 48 ≤ 140737488355328
                  rw [List.length_map]; omega)) ?_
                conv => whnf
                refine arith_in (wrap_i64 (by (try dsimp only); omega)) ?_
                conv => whnf
                refine ⟨acc ++ [easeMan b4 y], ⟨by simp; omega, by simpa using he⟩, Wk.sub ⟨rfl, rfl, rfl, rfl, rfl, rfl, trivial⟩ ⟨rfl, rfl, ?_, rfl, ?_, trivial⟩⟩
                · show some (Obj.box (.vv [.sl 103 3 0 ((acc.map Man.cells).length + 1), .sl 71 2 0 (c.slots.map (easeSlot b3)).length, .d (i64 (easeRun true c.run)), .d (i64 (easeRest true c.rest))])) = _
                  simp
                · rw [hem]
                  show some (Obj.arr 3 (Els.dd (acc.map Man.cells ++ [(⟨y.name, y.kind, y.no.tail⟩ : Man).cells]))) = _
                  simp [Man.cells]
              · have hem : easeMan b4 y = y := by
                  unfold easeMan
                  rw [if_neg]
                  rw [decide_eq_false (by intro h; have := of_decide_eq_false h4; simp at this; rw [this] at h; simp at h)]
                  simp
                conv => whnf
                refine ownK_whole rfl ?_
                conv => whnf
                refine ownK_whole (by simp [Els.len]) ?_
                conv => whnf
                refine chk_i (decide_eq_true (by
                  show ((acc.map Man.cells).length + 1) * 48 ≤ 140737488355328
                  rw [List.length_map]; omega)) ?_
                conv => whnf
                refine arith_in (wrap_i64 (by (try dsimp only); omega)) ?_
                conv => whnf
                refine ⟨acc ++ [easeMan b4 y], ⟨by simp; omega, by simpa using he⟩, Wk.sub ⟨rfl, rfl, rfl, rfl, rfl, rfl, trivial⟩ ⟨rfl, rfl, ?_, rfl, ?_, trivial⟩⟩
                · show some (Obj.box (.vv [.sl 103 3 0 ((acc.map Man.cells).length + 1), .sl 71 2 0 (c.slots.map (easeSlot b3)).length, .d (i64 (easeRun true c.run)), .d (i64 (easeRest true c.rest))])) = _
                  simp
                · rw [hem]
                  show some (Obj.arr 3 (Els.dd (acc.map Man.cells ++ [y.cells]))) = _
                  simp [Man.cells]
            · have h3 : b4 = false := hb4.symm.trans h3
              have hem : easeMan b4 y = y := by
                unfold easeMan
                rw [h3]; rfl
              conv => whnf
              refine ownK_whole rfl ?_
              conv => whnf
              refine ownK_whole (by simp [Els.len]) ?_
              conv => whnf
              refine chk_i (decide_eq_true (by
                show ((acc.map Man.cells).length + 1) * 48 ≤ 140737488355328
                rw [List.length_map]; omega)) ?_
              conv => whnf
              refine arith_in (wrap_i64 (by (try dsimp only); omega)) ?_
              conv => whnf
              refine ⟨acc ++ [easeMan b4 y], ⟨by simp; omega, by simpa using he⟩, Wk.sub ⟨rfl, rfl, rfl, rfl, rfl, rfl, trivial⟩ ⟨rfl, rfl, ?_, rfl, ?_, trivial⟩⟩
              · show some (Obj.box (.vv [.sl 103 3 0 ((acc.map Man.cells).length + 1), .sl 71 2 0 (c.slots.map (easeSlot b3)).length, .d (i64 (easeRun true c.run)), .d (i64 (easeRest true c.rest))])) = _
                simp
              · rw [hem]
                show some (Obj.arr 3 (Els.dd (acc.map Man.cells ++ [y.cells]))) = _
                simp [Man.cells]
          · rintro acc ⟨_, hf⟩
            have hf : acc = c.men.map (easeMan b4) := by simpa using hf.symm
            rw [hf]
            conv => whnf
            refine brk_i (fun h => absurd h (by simp)) (fun _ => ?_)
            conv => whnf
            have hve : (checkW (easeF c true true b3 b4)).2.2 = 0 := ease_valid (val_chk hv) _ _ _ _
            have hE : WR (easeF c true true b3 b4) := wR hve
            have hsame := easier_same hR hE (ease_easier hR _ _ b3 b4)
            have hlone := lon_easier hR hE hsame
            have hent : entE c [] = 0 := by rw [ent_nil, val_chk hv]
            have hente : entE (easeF c true true b3 b4) [] = 0 := by rw [ent_nil, hve]
            refine CallA_v (ds := [c.d, x.d]) (wa51 c hR x hx) rfl rfl ?_
            obtain ⟨hg, hlen, _⟩ := any_good hR (x := x.rota) (k := x.rows.toNat % 13) (GoodR.nil c)
            have hg : GoodR c (fullF c x) := hg
            have hlen : (fullF c x).length ≤ 12 := by
              have : (fullF c x).length ≤ 0 + x.rows.toNat % 13 := hlen
              omega
            generalize fullF c x = full at hg hlen ⊢
            have h00 : LessTired c.men.length .zero .zero := ⟨rfl, fun j _ => .inl rfl⟩
            obtain ⟨hg2, _⟩ := hsame.rota h00 hg
            have hB : badF (easeF c true true b3 b4) full = (-1, 0, 0, 0) := by
              obtain ⟨a, _, _⟩ := hsame.walk (Int.le_refl 0) h00 hg.good hg.asc
              unfold badF
              rw [if_pos (hg2.ent hve (by omega)), a]
            conv => whnf
            refine CallA_view (ds := [(easeF c true true b3 b4).d, rotaD full]) (wa17 (easeF c true true b3 b4) full) rfl 2 (viewL_cons (viewV_agg (viewL_cons (viewV_sl rfl (by simp [easeF])) (viewL_cons (viewV_sl rfl (by simp [easeF])) rfl))) rfl) ?_
            rw [hB]
            conv => whnf
            refine CallA_v (ds := [c.d]) (wa28 c) rfl rfl ?_
            rw [hent, if_pos rfl]
            conv => whnf
            refine CallA_view (ds := [(easeF c true true b3 b4).d]) (wa28 (easeF c true true b3 b4)) rfl 2 (viewL_cons (viewV_agg (viewL_cons (viewV_sl rfl (by simp [easeF])) (viewL_cons (viewV_sl rfl (by simp [easeF])) rfl))) rfl) ?_
            rw [hente, if_pos rfl]
            generalize lonW (easeF c true true b3 b4) = lb at hlone ⊢
            generalize lonW c = la at hlone ⊢
            conv => whnf
            refine brk_i (fun h1 => ?_) (fun h1 => ?_)
            · conv => whnf
              refine CallA_v (wa27) rfl rfl ?_
              conv => whnf
              exact RetA_view 0 rfl ⟨⟨rfl, rfl⟩, rfl⟩
            · have h1 : lb ≠ -1 := of_decide_eq_false h1
              have hlo : la ≠ -1 ∧ la ≤ lb := hlone.resolve_left h1
              conv => whnf
              refine brk_i (fun _ => ?_) (fun h => absurd h (by simp [hlo.1]))
              conv => whnf
              refine brk_i (fun _ => ?_) (fun h => absurd h (by simp [hlo.2]))
              conv => whnf
              refine CallA_v (wa27) rfl rfl ?_
              conv => whnf
              exact RetA_view 0 rfl ⟨⟨rfl, rfl⟩, rfl⟩
      · conv => whnf
        refine LoopA_i (T := tys) tysOk (by exact drawsB_spec mixed tysOk (by decide +kernel)) c.slots (fun i (acc : List Slot) => ⟨[(2, .d (.int .u8 n)), (3, .ptr 3 0), (4, .ptr 4 0), (6, .d (.bool false)), (7, .ptr 7 0), (8, .d (i64 i))], [(3, .box (.dd c.cells)), (4, .box (.dd x.cells)), (7, .box (.vv [.d .nils, .sl 71 2 0 acc.length, .d (i64 (easeRun true c.run)), .d (i64 (easeRest false c.rest))])), (71, .arr 2 (.dd (acc.map Slot.cells)))], st⟩)
          (fun i r acc => acc.length ≤ i ∧ c.slots.map (easeSlot b3) = acc ++ r.map (easeSlot b3)) [] ((Wk.bornAtD 7 71 2 [.nils] [i64 (easeRun true c.run), i64 (easeRest false c.rest)] rfl rfl rfl rfl rfl).trans (Wk.sub ⟨(by first | rfl | (simp only [List.length_map]; rfl) | simp [PX.get]), (by first | rfl | (simp only [List.length_map]; rfl) | simp [PX.get]), (by first | rfl | (simp only [List.length_map]; rfl) | simp [PX.get]), (by first | rfl | (simp only [List.length_map]; rfl) | simp [PX.get]), (by first | rfl | (simp only [List.length_map]; rfl) | simp [PX.get]), (by first | rfl | (simp only [List.length_map]; rfl) | simp [PX.get]), trivial⟩ ⟨(by first | rfl | (simp only [List.length_map]; rfl) | simp [PX.get]), (by first | rfl | (simp only [List.length_map]; rfl) | simp [PX.get]), (by first | rfl | (simp only [List.length_map]; rfl) | simp [PX.get]), (by first | rfl | (simp only [List.length_map]; rfl) | simp [PX.get]), trivial⟩)) ⟨by simp, rfl⟩ ?_ ?_
        · rintro i y r acc hy hi hr2 ⟨hal, he⟩
          rw [List.map_cons] at he
          have hso := (hR.slot y (List.mem_of_getElem? hy)).2
          conv => whnf
          refine brk_i (fun _ => ?_) (fun h => absurd hi (by have := of_decide_eq_false h; simp at this; omega))
          conv => whnf
          refine elemK_nat hy ?_
          conv => whnf
          refine arith_in (wrap_u8 (by omega)) ?_
          conv => whnf
          refine brk_i (fun h3 => ?_) (fun h3 => ?_)
          · have h3 : b3 = true := hb3.symm.trans h3
            rw [h3] at he ⊢
            conv => whnf
            refine arith_in (wrap_i64 (by omega)) ?_
            conv => whnf
            refine ownK_whole rfl ?_
            conv => whnf
            refine ownK_whole (by simp [Els.len]) ?_
            conv => whnf
            refine chk_i (decide_eq_true (by
              show ((acc.map Slot.cells).length + 1) * 16 ≤ 140737488355328
              rw [List.length_map]; omega)) ?_
            conv => whnf
            refine arith_in (wrap_i64 (by (try dsimp only); omega)) ?_
            conv => whnf
            refine ⟨acc ++ [easeSlot true y], ⟨by simp; omega, by simpa using he⟩, Wk.sub ⟨rfl, rfl, rfl, rfl, rfl, rfl, trivial⟩ ⟨rfl, rfl, ?_, ?_, trivial⟩⟩
            · show some (Obj.box (.vv [.d .nils, .sl 71 2 0 ((acc.map Slot.cells).length + 1), .d (i64 (easeRun true c.run)), .d (i64 (easeRest false c.rest))])) = _
              simp
            · show some (Obj.arr 2 (Els.dd (acc.map Slot.cells ++ [(easeSlot true y).cells]))) = _
              simp
          · have h3 : b3 = false := hb3.symm.trans h3
            rw [h3] at he ⊢
            conv => whnf
            refine ownK_whole rfl ?_
            conv => whnf
            refine ownK_whole (by simp [Els.len]) ?_
            conv => whnf
            refine chk_i (decide_eq_true (by
              show ((acc.map Slot.cells).length + 1) * 16 ≤ 140737488355328
              rw [List.length_map]; omega)) ?_
            conv => whnf
            refine arith_in (wrap_i64 (by (try dsimp only); omega)) ?_
            conv => whnf
            refine ⟨acc ++ [easeSlot false y], ⟨by simp; omega, by simpa using he⟩, Wk.sub ⟨rfl, rfl, rfl, rfl, rfl, rfl, trivial⟩ ⟨rfl, rfl, ?_, ?_, trivial⟩⟩
            · show some (Obj.box (.vv [.d .nils, .sl 71 2 0 ((acc.map Slot.cells).length + 1), .d (i64 (easeRun true c.run)), .d (i64 (easeRest false c.rest))])) = _
              simp
            · show some (Obj.arr 2 (Els.dd (acc.map Slot.cells ++ [(easeSlot false y).cells]))) = _
              simp
        · rintro acc ⟨_, hf⟩
          have hf : acc = c.slots.map (easeSlot b3) := by simpa using hf.symm
          rw [hf]
          conv => whnf
          refine brk_i (fun h => absurd h (by simp)) (fun _ => ?_)
          conv => whnf
          refine LoopA_i (T := tys) tysOk (by exact drawsB_spec mixed tysOk (by decide +kernel)) c.men (fun i (acc : List Man) => ⟨[(2, .d (.int .u8 n)), (3, .ptr 3 0), (4, .ptr 4 0), (6, .d (.bool false)), (7, .ptr 7 0), (10, .d (i64 i))], [(3, .box (.dd c.cells)), (4, .box (.dd x.cells)), (7, .box (.vv [.sl 103 3 0 acc.length, .sl 71 2 0 (c.slots.map (easeSlot b3)).length, .d (i64 (easeRun true c.run)), .d (i64 (easeRest false c.rest))])), (71, .arr 2 (.dd ((c.slots.map (easeSlot b3)).map Slot.cells))), (103, .arr 3 (.dd (acc.map Man.cells)))], st⟩)
            (fun i r acc => acc.length ≤ i ∧ c.men.map (easeMan b4) = acc ++ r.map (easeMan b4)) [] ((Wk.bornAt 7 103 3 [] [.sl 71 2 0 (c.slots.map (easeSlot b3)).length, .d (i64 (easeRun true c.run)), .d (i64 (easeRest false c.rest))] rfl rfl rfl rfl).trans (Wk.sub ⟨rfl, rfl, rfl, rfl, rfl, rfl, trivial⟩ ⟨rfl, rfl, rfl, rfl, rfl, trivial⟩)) ⟨by simp, rfl⟩ ?_ ?_
          · rintro i y r acc hy hi hr2 ⟨hal, he⟩
            rw [List.map_cons] at he
            conv => whnf
            refine brk_i (fun _ => ?_) (fun h => absurd hi (by have := of_decide_eq_false h; simp at this; omega))
            conv => whnf
            refine elemK_nat hy ?_
            conv => whnf
            refine arith_in (wrap_u8 (by omega)) ?_
            conv => whnf
            refine brk_i (fun h3 => ?_) (fun h3 => ?_)
            · have h3 : b4 = true := hb4.symm.trans h3
              conv => whnf
              refine brk_i (fun h4 => ?_) (fun h4 => ?_)
              · have h4 : 0 < y.no.length := by have := of_decide_eq_true h4; simp at this; omega
                have hem : easeMan b4 y = ⟨y.name, y.kind, y.no.tail⟩ := by
                  unfold easeMan; rw [h3, decide_eq_true h4]; rfl
                conv => whnf
                refine chk_i (by simp; omega) ?_
                conv => whnf
                refine chk_i (by cases y.no <;> rfl) ?_
                conv => whnf
                have htl : List.drop (Int.toNat 1) (List.take (List.map (fun n => [i64 n]) y.no).length (List.map (fun n => [i64 n]) y.no)) = y.no.tail.map fun n => [i64 n] := by
                  rw [List.take_length, show Int.toNat 1 = 1 from rfl, List.drop_one, List.map_tail]
                rw [htl]
                refine ownK_whole rfl ?_
                conv => whnf
                refine ownK_whole (by simp [Els.len]) ?_
                conv => whnf
                refine chk_i (decide_eq_true (by
                  show ((acc.map Man.cells).length + 1) * 48 ≤ 140737488355328
                  rw [List.length_map]; omega)) ?_
                conv => whnf
                refine arith_in (wrap_i64 (by (try dsimp only); omega)) ?_
                conv => whnf
                refine ⟨acc ++ [easeMan b4 y], ⟨by simp; omega, by simpa using he⟩, Wk.sub ⟨rfl, rfl, rfl, rfl, rfl, rfl, trivial⟩ ⟨rfl, rfl, ?_, rfl, ?_, trivial⟩⟩
                · show some (Obj.box (.vv [.sl 103 3 0 ((acc.map Man.cells).length + 1), .sl 71 2 0 (c.slots.map (easeSlot b3)).length, .d (i64 (easeRun true c.run)), .d (i64 (easeRest false c.rest))])) = _
                  simp
                · rw [hem]
                  show some (Obj.arr 3 (Els.dd (acc.map Man.cells ++ [(⟨y.name, y.kind, y.no.tail⟩ : Man).cells]))) = _
                  simp [Man.cells]
              · have hem : easeMan b4 y = y := by
                  unfold easeMan
                  rw [if_neg]
                  rw [decide_eq_false (by intro h; have := of_decide_eq_false h4; simp at this; rw [this] at h; simp at h)]
                  simp
                conv => whnf
                refine ownK_whole rfl ?_
                conv => whnf
                refine ownK_whole (by simp [Els.len]) ?_
                conv => whnf
                refine chk_i (decide_eq_true (by
                  show ((acc.map Man.cells).length + 1) * 48 ≤ 140737488355328
                  rw [List.length_map]; omega)) ?_
                conv => whnf
                refine arith_in (wrap_i64 (by (try dsimp only); omega)) ?_
                conv => whnf
                refine ⟨acc ++ [easeMan b4 y], ⟨by simp; omega, by simpa using he⟩, Wk.sub ⟨rfl, rfl, rfl, rfl, rfl, rfl, trivial⟩ ⟨rfl, rfl, ?_, rfl, ?_, trivial⟩⟩
                · show some (Obj.box (.vv [.sl 103 3 0 ((acc.map Man.cells).length + 1), .sl 71 2 0 (c.slots.map (easeSlot b3)).length, .d (i64 (easeRun true c.run)), .d (i64 (easeRest false c.rest))])) = _
                  simp
                · rw [hem]
                  show some (Obj.arr 3 (Els.dd (acc.map Man.cells ++ [y.cells]))) = _
                  simp [Man.cells]
            · have h3 : b4 = false := hb4.symm.trans h3
              have hem : easeMan b4 y = y := by
                unfold easeMan
                rw [h3]; rfl
              conv => whnf
              refine ownK_whole rfl ?_
              conv => whnf
              refine ownK_whole (by simp [Els.len]) ?_
              conv => whnf
              refine chk_i (decide_eq_true (by
                show ((acc.map Man.cells).length + 1) * 48 ≤ 140737488355328
                rw [List.length_map]; omega)) ?_
              conv => whnf
              refine arith_in (wrap_i64 (by (try dsimp only); omega)) ?_
              conv => whnf
              refine ⟨acc ++ [easeMan b4 y], ⟨by simp; omega, by simpa using he⟩, Wk.sub ⟨rfl, rfl, rfl, rfl, rfl, rfl, trivial⟩ ⟨rfl, rfl, ?_, rfl, ?_, trivial⟩⟩
              · show some (Obj.box (.vv [.sl 103 3 0 ((acc.map Man.cells).length + 1), .sl 71 2 0 (c.slots.map (easeSlot b3)).length, .d (i64 (easeRun true c.run)), .d (i64 (easeRest false c.rest))])) = _
                simp
              · rw [hem]
                show some (Obj.arr 3 (Els.dd (acc.map Man.cells ++ [y.cells]))) = _
                simp [Man.cells]
          · rintro acc ⟨_, hf⟩
            have hf : acc = c.men.map (easeMan b4) := by simpa using hf.symm
            rw [hf]
            conv => whnf
            refine brk_i (fun h => absurd h (by simp)) (fun _ => ?_)
            conv => whnf
            have hve : (checkW (easeF c true false b3 b4)).2.2 = 0 := ease_valid (val_chk hv) _ _ _ _
            have hE : WR (easeF c true false b3 b4) := wR hve
            have hsame := easier_same hR hE (ease_easier hR _ _ b3 b4)
            have hlone := lon_easier hR hE hsame
            have hent : entE c [] = 0 := by rw [ent_nil, val_chk hv]
            have hente : entE (easeF c true false b3 b4) [] = 0 := by rw [ent_nil, hve]
            refine CallA_v (ds := [c.d, x.d]) (wa51 c hR x hx) rfl rfl ?_
            obtain ⟨hg, hlen, _⟩ := any_good hR (x := x.rota) (k := x.rows.toNat % 13) (GoodR.nil c)
            have hg : GoodR c (fullF c x) := hg
            have hlen : (fullF c x).length ≤ 12 := by
              have : (fullF c x).length ≤ 0 + x.rows.toNat % 13 := hlen
              omega
            generalize fullF c x = full at hg hlen ⊢
            have h00 : LessTired c.men.length .zero .zero := ⟨rfl, fun j _ => .inl rfl⟩
            obtain ⟨hg2, _⟩ := hsame.rota h00 hg
            have hB : badF (easeF c true false b3 b4) full = (-1, 0, 0, 0) := by
              obtain ⟨a, _, _⟩ := hsame.walk (Int.le_refl 0) h00 hg.good hg.asc
              unfold badF
              rw [if_pos (hg2.ent hve (by omega)), a]
            conv => whnf
            refine CallA_view (ds := [(easeF c true false b3 b4).d, rotaD full]) (wa17 (easeF c true false b3 b4) full) rfl 2 (viewL_cons (viewV_agg (viewL_cons (viewV_sl rfl (by simp [easeF])) (viewL_cons (viewV_sl rfl (by simp [easeF])) rfl))) rfl) ?_
            rw [hB]
            conv => whnf
            refine CallA_v (ds := [c.d]) (wa28 c) rfl rfl ?_
            rw [hent, if_pos rfl]
            conv => whnf
            refine CallA_view (ds := [(easeF c true false b3 b4).d]) (wa28 (easeF c true false b3 b4)) rfl 2 (viewL_cons (viewV_agg (viewL_cons (viewV_sl rfl (by simp [easeF])) (viewL_cons (viewV_sl rfl (by simp [easeF])) rfl))) rfl) ?_
            rw [hente, if_pos rfl]
            generalize lonW (easeF c true false b3 b4) = lb at hlone ⊢
            generalize lonW c = la at hlone ⊢
            conv => whnf
            refine brk_i (fun h1 => ?_) (fun h1 => ?_)
            · conv => whnf
              refine CallA_v (wa27) rfl rfl ?_
              conv => whnf
              exact RetA_view 0 rfl ⟨⟨rfl, rfl⟩, rfl⟩
            · have h1 : lb ≠ -1 := of_decide_eq_false h1
              have hlo : la ≠ -1 ∧ la ≤ lb := hlone.resolve_left h1
              conv => whnf
              refine brk_i (fun _ => ?_) (fun h => absurd h (by simp [hlo.1]))
              conv => whnf
              refine brk_i (fun _ => ?_) (fun h => absurd h (by simp [hlo.2]))
              conv => whnf
              refine CallA_v (wa27) rfl rfl ?_
              conv => whnf
              exact RetA_view 0 rfl ⟨⟨rfl, rfl⟩, rfl⟩
    · conv => whnf
      refine arith_in (wrap_u8 (by omega)) ?_
      conv => whnf
      refine brk_i (fun h2 => ?_) (fun h2 => ?_)
      · conv => whnf
        refine arith_in (wrap_i64 (by omega)) ?_
        conv => whnf
        refine LoopA_i (T := tys) tysOk (by exact drawsB_spec mixed tysOk (by decide +kernel)) c.slots (fun i (acc : List Slot) => ⟨[(2, .d (.int .u8 n)), (3, .ptr 3 0), (4, .ptr 4 0), (6, .d (.bool false)), (7, .ptr 7 0), (8, .d (i64 i))], [(3, .box (.dd c.cells)), (4, .box (.dd x.cells)), (7, .box (.vv [.d .nils, .sl 71 2 0 acc.length, .d (i64 (easeRun false c.run)), .d (i64 (easeRest true c.rest))])), (71, .arr 2 (.dd (acc.map Slot.cells)))], st⟩)
          (fun i r acc => acc.length ≤ i ∧ c.slots.map (easeSlot b3) = acc ++ r.map (easeSlot b3)) [] ((Wk.bornAtD 7 71 2 [.nils] [i64 (easeRun false c.run), i64 (easeRest true c.rest)] rfl rfl rfl rfl rfl).trans (Wk.sub ⟨(by first | rfl | (simp only [List.length_map]; rfl) | simp [PX.get]), (by first | rfl | (simp only [List.length_map]; rfl) | simp [PX.get]), (by first | rfl | (simp only [List.length_map]; rfl) | simp [PX.get]), (by first | rfl | (simp only [List.length_map]; rfl) | simp [PX.get]), (by first | rfl | (simp only [List.length_map]; rfl) | simp [PX.get]), (by first | rfl | (simp only [List.length_map]; rfl) | simp [PX.get]), trivial⟩ ⟨(by first | rfl | (simp only [List.length_map]; rfl) | simp [PX.get]), (by first | rfl | (simp only [List.length_map]; rfl) | simp [PX.get]), (by first | rfl | (simp only [List.length_map]; rfl) | simp [PX.get]), (by first | rfl | (simp only [List.length_map]; rfl) | simp [PX.get]), trivial⟩)) ⟨by simp, rfl⟩ ?_ ?_
        · rintro i y r acc hy hi hr2 ⟨hal, he⟩
          rw [List.map_cons] at he
          have hso := (hR.slot y (List.mem_of_getElem? hy)).2
          conv => whnf
          refine brk_i (fun _ => ?_) (fun h => absurd hi (by have := of_decide_eq_false h; simp at this; omega))
          conv => whnf
          refine elemK_nat hy ?_
          conv => whnf
          refine arith_in (wrap_u8 (by omega)) ?_
          conv => whnf
          refine brk_i (fun h3 => ?_) (fun h3 => ?_)
          · have h3 : b3 = true := hb3.symm.trans h3
            rw [h3] at he ⊢
            conv => whnf
            refine arith_in (wrap_i64 (by omega)) ?_
            conv => whnf
            refine ownK_whole rfl ?_
            conv => whnf
            refine ownK_whole (by simp [Els.len]) ?_
            conv => whnf
            refine chk_i (decide_eq_true (by
              show ((acc.map Slot.cells).length + 1) * 16 ≤ 140737488355328
              rw [List.length_map]; omega)) ?_
            conv => whnf
            refine arith_in (wrap_i64 (by (try dsimp only); omega)) ?_
            conv => whnf
            refine ⟨acc ++ [easeSlot true y], ⟨by simp; omega, by simpa using he⟩, Wk.sub ⟨rfl, rfl, rfl, rfl, rfl, rfl, trivial⟩ ⟨rfl, rfl, ?_, ?_, trivial⟩⟩
            · show some (Obj.box (.vv [.d .nils, .sl 71 2 0 ((acc.map Slot.cells).length + 1), .d (i64 (easeRun false c.run)), .d (i64 (easeRest true c.rest))])) = _
              simp
            · show some (Obj.arr 2 (Els.dd (acc.map Slot.cells ++ [(easeSlot true y).cells]))) = _
              simp
          · have h3 : b3 = false := hb3.symm.trans h3
            rw [h3] at he ⊢
            conv => whnf
            refine ownK_whole rfl ?_
            conv => whnf
            refine ownK_whole (by simp [Els.len]) ?_
            conv => whnf
            refine chk_i (decide_eq_true (by
              show ((acc.map Slot.cells).length + 1) * 16 ≤ 140737488355328
              rw [List.length_map]; omega)) ?_
            conv => whnf
            refine arith_in (wrap_i64 (by (try dsimp only); omega)) ?_
            conv => whnf
            refine ⟨acc ++ [easeSlot false y], ⟨by simp; omega, by simpa using he⟩, Wk.sub ⟨rfl, rfl, rfl, rfl, rfl, rfl, trivial⟩ ⟨rfl, rfl, ?_, ?_, trivial⟩⟩
            · show some (Obj.box (.vv [.d .nils, .sl 71 2 0 ((acc.map Slot.cells).length + 1), .d (i64 (easeRun false c.run)), .d (i64 (easeRest true c.rest))])) = _
              simp
            · show some (Obj.arr 2 (Els.dd (acc.map Slot.cells ++ [(easeSlot false y).cells]))) = _
              simp
        · rintro acc ⟨_, hf⟩
          have hf : acc = c.slots.map (easeSlot b3) := by simpa using hf.symm
          rw [hf]
          conv => whnf
          refine brk_i (fun h => absurd h (by simp)) (fun _ => ?_)
          conv => whnf
          refine LoopA_i (T := tys) tysOk (by exact drawsB_spec mixed tysOk (by decide +kernel)) c.men (fun i (acc : List Man) => ⟨[(2, .d (.int .u8 n)), (3, .ptr 3 0), (4, .ptr 4 0), (6, .d (.bool false)), (7, .ptr 7 0), (10, .d (i64 i))], [(3, .box (.dd c.cells)), (4, .box (.dd x.cells)), (7, .box (.vv [.sl 103 3 0 acc.length, .sl 71 2 0 (c.slots.map (easeSlot b3)).length, .d (i64 (easeRun false c.run)), .d (i64 (easeRest true c.rest))])), (71, .arr 2 (.dd ((c.slots.map (easeSlot b3)).map Slot.cells))), (103, .arr 3 (.dd (acc.map Man.cells)))], st⟩)
            (fun i r acc => acc.length ≤ i ∧ c.men.map (easeMan b4) = acc ++ r.map (easeMan b4)) [] ((Wk.bornAt 7 103 3 [] [.sl 71 2 0 (c.slots.map (easeSlot b3)).length, .d (i64 (easeRun false c.run)), .d (i64 (easeRest true c.rest))] rfl rfl rfl rfl).trans (Wk.sub ⟨rfl, rfl, rfl, rfl, rfl, rfl, trivial⟩ ⟨rfl, rfl, rfl, rfl, rfl, trivial⟩)) ⟨by simp, rfl⟩ ?_ ?_
          · rintro i y r acc hy hi hr2 ⟨hal, he⟩
            rw [List.map_cons] at he
            conv => whnf
            refine brk_i (fun _ => ?_) (fun h => absurd hi (by have := of_decide_eq_false h; simp at this; omega))
            conv => whnf
            refine elemK_nat hy ?_
            conv => whnf
            refine arith_in (wrap_u8 (by omega)) ?_
            conv => whnf
            refine brk_i (fun h3 => ?_) (fun h3 => ?_)
            · have h3 : b4 = true := hb4.symm.trans h3
              conv => whnf
              refine brk_i (fun h4 => ?_) (fun h4 => ?_)
              · have h4 : 0 < y.no.length := by have := of_decide_eq_true h4; simp at this; omega
                have hem : easeMan b4 y = ⟨y.name, y.kind, y.no.tail⟩ := by
                  unfold easeMan; rw [h3, decide_eq_true h4]; rfl
                conv => whnf
                refine chk_i (by simp; omega) ?_
                conv => whnf
                refine chk_i (by cases y.no <;> rfl) ?_
                conv => whnf
                have htl : List.drop (Int.toNat 1) (List.take (List.map (fun n => [i64 n]) y.no).length (List.map (fun n => [i64 n]) y.no)) = y.no.tail.map fun n => [i64 n] := by
                  rw [List.take_length, show Int.toNat 1 = 1 from rfl, List.drop_one, List.map_tail]
                rw [htl]
                refine ownK_whole rfl ?_
                conv => whnf
                refine ownK_whole (by simp [Els.len]) ?_
                conv => whnf
                refine chk_i (decide_eq_true (by
                  show ((acc.map Man.cells).length + 1) * 48 ≤ 140737488355328
                  rw [List.length_map]; omega)) ?_
                conv => whnf
                refine arith_in (wrap_i64 (by (try dsimp only); omega)) ?_
                conv => whnf
                refine ⟨acc ++ [easeMan b4 y], ⟨by simp; omega, by simpa using he⟩, Wk.sub ⟨rfl, rfl, rfl, rfl, rfl, rfl, trivial⟩ ⟨rfl, rfl, ?_, rfl, ?_, trivial⟩⟩
                · show some (Obj.box (.vv [.sl 103 3 0 ((acc.map Man.cells).length + 1), .sl 71 2 0 (c.slots.map (easeSlot b3)).length, .d (i64 (easeRun false c.run)), .d (i64 (easeRest true c.rest))])) = _
                  simp
                · rw [hem]
                  show some (Obj.arr 3 (Els.dd (acc.map Man.cells ++ [(⟨y.name, y.kind, y.no.tail⟩ : Man).cells]))) = _
                  simp [Man.cells]
              · have hem : easeMan b4 y = y := by
                  unfold easeMan
                  rw [if_neg]
                  rw [decide_eq_false (by intro h; have := of_decide_eq_false h4; simp at this; rw [this] at h; simp at h)]
                  simp
                conv => whnf
                refine ownK_whole rfl ?_
                conv => whnf
                refine ownK_whole (by simp [Els.len]) ?_
                conv => whnf
                refine chk_i (decide_eq_true (by
                  show ((acc.map Man.cells).length + 1) * 48 ≤ 140737488355328
                  rw [List.length_map]; omega)) ?_
                conv => whnf
                refine arith_in (wrap_i64 (by (try dsimp only); omega)) ?_
                conv => whnf
                refine ⟨acc ++ [easeMan b4 y], ⟨by simp; omega, by simpa using he⟩, Wk.sub ⟨rfl, rfl, rfl, rfl, rfl, rfl, trivial⟩ ⟨rfl, rfl, ?_, rfl, ?_, trivial⟩⟩
                · show some (Obj.box (.vv [.sl 103 3 0 ((acc.map Man.cells).length + 1), .sl 71 2 0 (c.slots.map (easeSlot b3)).length, .d (i64 (easeRun false c.run)), .d (i64 (easeRest true c.rest))])) = _
                  simp
                · rw [hem]
                  show some (Obj.arr 3 (Els.dd (acc.map Man.cells ++ [y.cells]))) = _
                  simp [Man.cells]
            · have h3 : b4 = false := hb4.symm.trans h3
              have hem : easeMan b4 y = y := by
                unfold easeMan
                rw [h3]; rfl
              conv => whnf
              refine ownK_whole rfl ?_
              conv => whnf
              refine ownK_whole (by simp [Els.len]) ?_
              conv => whnf
              refine chk_i (decide_eq_true (by
                show ((acc.map Man.cells).length + 1) * 48 ≤ 140737488355328
                rw [List.length_map]; omega)) ?_
              conv => whnf
              refine arith_in (wrap_i64 (by (try dsimp only); omega)) ?_
              conv => whnf
              refine ⟨acc ++ [easeMan b4 y], ⟨by simp; omega, by simpa using he⟩, Wk.sub ⟨rfl, rfl, rfl, rfl, rfl, rfl, trivial⟩ ⟨rfl, rfl, ?_, rfl, ?_, trivial⟩⟩
              · show some (Obj.box (.vv [.sl 103 3 0 ((acc.map Man.cells).length + 1), .sl 71 2 0 (c.slots.map (easeSlot b3)).length, .d (i64 (easeRun false c.run)), .d (i64 (easeRest true c.rest))])) = _
                simp
              · rw [hem]
                show some (Obj.arr 3 (Els.dd (acc.map Man.cells ++ [y.cells]))) = _
                simp [Man.cells]
          · rintro acc ⟨_, hf⟩
            have hf : acc = c.men.map (easeMan b4) := by simpa using hf.symm
            rw [hf]
            conv => whnf
            refine brk_i (fun h => absurd h (by simp)) (fun _ => ?_)
            conv => whnf
            have hve : (checkW (easeF c false true b3 b4)).2.2 = 0 := ease_valid (val_chk hv) _ _ _ _
            have hE : WR (easeF c false true b3 b4) := wR hve
            have hsame := easier_same hR hE (ease_easier hR _ _ b3 b4)
            have hlone := lon_easier hR hE hsame
            have hent : entE c [] = 0 := by rw [ent_nil, val_chk hv]
            have hente : entE (easeF c false true b3 b4) [] = 0 := by rw [ent_nil, hve]
            refine CallA_v (ds := [c.d, x.d]) (wa51 c hR x hx) rfl rfl ?_
            obtain ⟨hg, hlen, _⟩ := any_good hR (x := x.rota) (k := x.rows.toNat % 13) (GoodR.nil c)
            have hg : GoodR c (fullF c x) := hg
            have hlen : (fullF c x).length ≤ 12 := by
              have : (fullF c x).length ≤ 0 + x.rows.toNat % 13 := hlen
              omega
            generalize fullF c x = full at hg hlen ⊢
            have h00 : LessTired c.men.length .zero .zero := ⟨rfl, fun j _ => .inl rfl⟩
            obtain ⟨hg2, _⟩ := hsame.rota h00 hg
            have hB : badF (easeF c false true b3 b4) full = (-1, 0, 0, 0) := by
              obtain ⟨a, _, _⟩ := hsame.walk (Int.le_refl 0) h00 hg.good hg.asc
              unfold badF
              rw [if_pos (hg2.ent hve (by omega)), a]
            conv => whnf
            refine CallA_view (ds := [(easeF c false true b3 b4).d, rotaD full]) (wa17 (easeF c false true b3 b4) full) rfl 2 (viewL_cons (viewV_agg (viewL_cons (viewV_sl rfl (by simp [easeF])) (viewL_cons (viewV_sl rfl (by simp [easeF])) rfl))) rfl) ?_
            rw [hB]
            conv => whnf
            refine CallA_v (ds := [c.d]) (wa28 c) rfl rfl ?_
            rw [hent, if_pos rfl]
            conv => whnf
            refine CallA_view (ds := [(easeF c false true b3 b4).d]) (wa28 (easeF c false true b3 b4)) rfl 2 (viewL_cons (viewV_agg (viewL_cons (viewV_sl rfl (by simp [easeF])) (viewL_cons (viewV_sl rfl (by simp [easeF])) rfl))) rfl) ?_
            rw [hente, if_pos rfl]
            generalize lonW (easeF c false true b3 b4) = lb at hlone ⊢
            generalize lonW c = la at hlone ⊢
            conv => whnf
            refine brk_i (fun h1 => ?_) (fun h1 => ?_)
            · conv => whnf
              refine CallA_v (wa27) rfl rfl ?_
              conv => whnf
              exact RetA_view 0 rfl ⟨⟨rfl, rfl⟩, rfl⟩
            · have h1 : lb ≠ -1 := of_decide_eq_false h1
              have hlo : la ≠ -1 ∧ la ≤ lb := hlone.resolve_left h1
              conv => whnf
              refine brk_i (fun _ => ?_) (fun h => absurd h (by simp [hlo.1]))
              conv => whnf
              refine brk_i (fun _ => ?_) (fun h => absurd h (by simp [hlo.2]))
              conv => whnf
              refine CallA_v (wa27) rfl rfl ?_
              conv => whnf
              exact RetA_view 0 rfl ⟨⟨rfl, rfl⟩, rfl⟩
      · conv => whnf
        refine LoopA_i (T := tys) tysOk (by exact drawsB_spec mixed tysOk (by decide +kernel)) c.slots (fun i (acc : List Slot) => ⟨[(2, .d (.int .u8 n)), (3, .ptr 3 0), (4, .ptr 4 0), (6, .d (.bool false)), (7, .ptr 7 0), (8, .d (i64 i))], [(3, .box (.dd c.cells)), (4, .box (.dd x.cells)), (7, .box (.vv [.d .nils, .sl 71 2 0 acc.length, .d (i64 (easeRun false c.run)), .d (i64 (easeRest false c.rest))])), (71, .arr 2 (.dd (acc.map Slot.cells)))], st⟩)
          (fun i r acc => acc.length ≤ i ∧ c.slots.map (easeSlot b3) = acc ++ r.map (easeSlot b3)) [] ((Wk.bornAtD 7 71 2 [.nils] [i64 (easeRun false c.run), i64 (easeRest false c.rest)] rfl rfl rfl rfl rfl).trans (Wk.sub ⟨(by first | rfl | (simp only [List.length_map]; rfl) | simp [PX.get]), (by first | rfl | (simp only [List.length_map]; rfl) | simp [PX.get]), (by first | rfl | (simp only [List.length_map]; rfl) | simp [PX.get]), (by first | rfl | (simp only [List.length_map]; rfl) | simp [PX.get]), (by first | rfl | (simp only [List.length_map]; rfl) | simp [PX.get]), (by first | rfl | (simp only [List.length_map]; rfl) | simp [PX.get]), trivial⟩ ⟨(by first | rfl | (simp only [List.length_map]; rfl) | simp [PX.get]), (by first | rfl | (simp only [List.length_map]; rfl) | simp [PX.get]), (by first | rfl | (simp only [List.length_map]; rfl) | simp [PX.get]), (by first | rfl | (simp only [List.length_map]; rfl) | simp [PX.get]), trivial⟩)) ⟨by simp, rfl⟩ ?_ ?_
        · rintro i y r acc hy hi hr2 ⟨hal, he⟩
          rw [List.map_cons] at he
          have hso := (hR.slot y (List.mem_of_getElem? hy)).2
          conv => whnf
          refine brk_i (fun _ => ?_) (fun h => absurd hi (by have := of_decide_eq_false h; simp at this; omega))
          conv => whnf
          refine elemK_nat hy ?_
          conv => whnf
          refine arith_in (wrap_u8 (by omega)) ?_
          conv => whnf
          refine brk_i (fun h3 => ?_) (fun h3 => ?_)
          · have h3 : b3 = true := hb3.symm.trans h3
            rw [h3] at he ⊢
            conv => whnf
            refine arith_in (wrap_i64 (by omega)) ?_
            conv => whnf
            refine ownK_whole rfl ?_
            conv => whnf
            refine ownK_whole (by simp [Els.len]) ?_
            conv => whnf
            refine chk_i (decide_eq_true (by
              show ((acc.map Slot.cells).length + 1) * 16 ≤ 140737488355328
              rw [List.length_map]; omega)) ?_
            conv => whnf
            refine arith_in (wrap_i64 (by (try dsimp only); omega)) ?_
            conv => whnf
            refine ⟨acc ++ [easeSlot true y], ⟨by simp; omega, by simpa using he⟩, Wk.sub ⟨rfl, rfl, rfl, rfl, rfl, rfl, trivial⟩ ⟨rfl, rfl, ?_, ?_, trivial⟩⟩
            · show some (Obj.box (.vv [.d .nils, .sl 71 2 0 ((acc.map Slot.cells).length + 1), .d (i64 (easeRun false c.run)), .d (i64 (easeRest false c.rest))])) = _
              simp
            · show some (Obj.arr 2 (Els.dd (acc.map Slot.cells ++ [(easeSlot true y).cells]))) = _
              simp
          · have h3 : b3 = false := hb3.symm.trans h3
            rw [h3] at he ⊢
            conv => whnf
            refine ownK_whole rfl ?_
            conv => whnf
            refine ownK_whole (by simp [Els.len]) ?_
            conv => whnf
            refine chk_i (decide_eq_true (by
              show ((acc.map Slot.cells).length + 1) * 16 ≤ 140737488355328
              rw [List.length_map]; omega)) ?_
            conv => whnf
            refine arith_in (wrap_i64 (by (try dsimp only); omega)) ?_
            conv => whnf
            refine ⟨acc ++ [easeSlot false y], ⟨by simp; omega, by simpa using he⟩, Wk.sub ⟨rfl, rfl, rfl, rfl, rfl, rfl, trivial⟩ ⟨rfl, rfl, ?_, ?_, trivial⟩⟩
            · show some (Obj.box (.vv [.d .nils, .sl 71 2 0 ((acc.map Slot.cells).length + 1), .d (i64 (easeRun false c.run)), .d (i64 (easeRest false c.rest))])) = _
              simp
            · show some (Obj.arr 2 (Els.dd (acc.map Slot.cells ++ [(easeSlot false y).cells]))) = _
              simp
        · rintro acc ⟨_, hf⟩
          have hf : acc = c.slots.map (easeSlot b3) := by simpa using hf.symm
          rw [hf]
          conv => whnf
          refine brk_i (fun h => absurd h (by simp)) (fun _ => ?_)
          conv => whnf
          refine LoopA_i (T := tys) tysOk (by exact drawsB_spec mixed tysOk (by decide +kernel)) c.men (fun i (acc : List Man) => ⟨[(2, .d (.int .u8 n)), (3, .ptr 3 0), (4, .ptr 4 0), (6, .d (.bool false)), (7, .ptr 7 0), (10, .d (i64 i))], [(3, .box (.dd c.cells)), (4, .box (.dd x.cells)), (7, .box (.vv [.sl 103 3 0 acc.length, .sl 71 2 0 (c.slots.map (easeSlot b3)).length, .d (i64 (easeRun false c.run)), .d (i64 (easeRest false c.rest))])), (71, .arr 2 (.dd ((c.slots.map (easeSlot b3)).map Slot.cells))), (103, .arr 3 (.dd (acc.map Man.cells)))], st⟩)
            (fun i r acc => acc.length ≤ i ∧ c.men.map (easeMan b4) = acc ++ r.map (easeMan b4)) [] ((Wk.bornAt 7 103 3 [] [.sl 71 2 0 (c.slots.map (easeSlot b3)).length, .d (i64 (easeRun false c.run)), .d (i64 (easeRest false c.rest))] rfl rfl rfl rfl).trans (Wk.sub ⟨rfl, rfl, rfl, rfl, rfl, rfl, trivial⟩ ⟨rfl, rfl, rfl, rfl, rfl, trivial⟩)) ⟨by simp, rfl⟩ ?_ ?_
          · rintro i y r acc hy hi hr2 ⟨hal, he⟩
            rw [List.map_cons] at he
            conv => whnf
            refine brk_i (fun _ => ?_) (fun h => absurd hi (by have := of_decide_eq_false h; simp at this; omega))
            conv => whnf
            refine elemK_nat hy ?_
            conv => whnf
            refine arith_in (wrap_u8 (by omega)) ?_
            conv => whnf
            refine brk_i (fun h3 => ?_) (fun h3 => ?_)
            · have h3 : b4 = true := hb4.symm.trans h3
              conv => whnf
              refine brk_i (fun h4 => ?_) (fun h4 => ?_)
              · have h4 : 0 < y.no.length := by have := of_decide_eq_true h4; simp at this; omega
                have hem : easeMan b4 y = ⟨y.name, y.kind, y.no.tail⟩ := by
                  unfold easeMan; rw [h3, decide_eq_true h4]; rfl
                conv => whnf
                refine chk_i (by simp; omega) ?_
                conv => whnf
                refine chk_i (by cases y.no <;> rfl) ?_
                conv => whnf
                have htl : List.drop (Int.toNat 1) (List.take (List.map (fun n => [i64 n]) y.no).length (List.map (fun n => [i64 n]) y.no)) = y.no.tail.map fun n => [i64 n] := by
                  rw [List.take_length, show Int.toNat 1 = 1 from rfl, List.drop_one, List.map_tail]
                rw [htl]
                refine ownK_whole rfl ?_
                conv => whnf
                refine ownK_whole (by simp [Els.len]) ?_
                conv => whnf
                refine chk_i (decide_eq_true (by
                  show ((acc.map Man.cells).length + 1) * 48 ≤ 140737488355328
                  rw [List.length_map]; omega)) ?_
                conv => whnf
                refine arith_in (wrap_i64 (by (try dsimp only); omega)) ?_
                conv => whnf
                refine ⟨acc ++ [easeMan b4 y], ⟨by simp; omega, by simpa using he⟩, Wk.sub ⟨rfl, rfl, rfl, rfl, rfl, rfl, trivial⟩ ⟨rfl, rfl, ?_, rfl, ?_, trivial⟩⟩
                · show some (Obj.box (.vv [.sl 103 3 0 ((acc.map Man.cells).length + 1), .sl 71 2 0 (c.slots.map (easeSlot b3)).length, .d (i64 (easeRun false c.run)), .d (i64 (easeRest false c.rest))])) = _
                  simp
                · rw [hem]
                  show some (Obj.arr 3 (Els.dd (acc.map Man.cells ++ [(⟨y.name, y.kind, y.no.tail⟩ : Man).cells]))) = _
                  simp [Man.cells]
              · have hem : easeMan b4 y = y := by
                  unfold easeMan
                  rw [if_neg]
                  rw [decide_eq_false (by intro h; have := of_decide_eq_false h4; simp at this; rw [this] at h; simp at h)]
                  simp
                conv => whnf
                refine ownK_whole rfl ?_
                conv => whnf
                refine ownK_whole (by simp [Els.len]) ?_
                conv => whnf
                refine chk_i (decide_eq_true (by
                  show ((acc.map Man.cells).length + 1) * 48 ≤ 140737488355328
                  rw [List.length_map]; omega)) ?_
                conv => whnf
                refine arith_in (wrap_i64 (by (try dsimp only); omega)) ?_
                conv => whnf
                refine ⟨acc ++ [easeMan b4 y], ⟨by simp; omega, by simpa using he⟩, Wk.sub ⟨rfl, rfl, rfl, rfl, rfl, rfl, trivial⟩ ⟨rfl, rfl, ?_, rfl, ?_, trivial⟩⟩
                · show some (Obj.box (.vv [.sl 103 3 0 ((acc.map Man.cells).length + 1), .sl 71 2 0 (c.slots.map (easeSlot b3)).length, .d (i64 (easeRun false c.run)), .d (i64 (easeRest false c.rest))])) = _
                  simp
                · rw [hem]
                  show some (Obj.arr 3 (Els.dd (acc.map Man.cells ++ [y.cells]))) = _
                  simp [Man.cells]
            · have h3 : b4 = false := hb4.symm.trans h3
              have hem : easeMan b4 y = y := by
                unfold easeMan
                rw [h3]; rfl
              conv => whnf
              refine ownK_whole rfl ?_
              conv => whnf
              refine ownK_whole (by simp [Els.len]) ?_
              conv => whnf
              refine chk_i (decide_eq_true (by
                show ((acc.map Man.cells).length + 1) * 48 ≤ 140737488355328
                rw [List.length_map]; omega)) ?_
              conv => whnf
              refine arith_in (wrap_i64 (by (try dsimp only); omega)) ?_
              conv => whnf
              refine ⟨acc ++ [easeMan b4 y], ⟨by simp; omega, by simpa using he⟩, Wk.sub ⟨rfl, rfl, rfl, rfl, rfl, rfl, trivial⟩ ⟨rfl, rfl, ?_, rfl, ?_, trivial⟩⟩
              · show some (Obj.box (.vv [.sl 103 3 0 ((acc.map Man.cells).length + 1), .sl 71 2 0 (c.slots.map (easeSlot b3)).length, .d (i64 (easeRun false c.run)), .d (i64 (easeRest false c.rest))])) = _
                simp
              · rw [hem]
                show some (Obj.arr 3 (Els.dd (acc.map Man.cells ++ [y.cells]))) = _
                simp [Man.cells]
          · rintro acc ⟨_, hf⟩
            have hf : acc = c.men.map (easeMan b4) := by simpa using hf.symm
            rw [hf]
            conv => whnf
            refine brk_i (fun h => absurd h (by simp)) (fun _ => ?_)
            conv => whnf
            have hve : (checkW (easeF c false false b3 b4)).2.2 = 0 := ease_valid (val_chk hv) _ _ _ _
            have hE : WR (easeF c false false b3 b4) := wR hve
            have hsame := easier_same hR hE (ease_easier hR _ _ b3 b4)
            have hlone := lon_easier hR hE hsame
            have hent : entE c [] = 0 := by rw [ent_nil, val_chk hv]
            have hente : entE (easeF c false false b3 b4) [] = 0 := by rw [ent_nil, hve]
            refine CallA_v (ds := [c.d, x.d]) (wa51 c hR x hx) rfl rfl ?_
            obtain ⟨hg, hlen, _⟩ := any_good hR (x := x.rota) (k := x.rows.toNat % 13) (GoodR.nil c)
            have hg : GoodR c (fullF c x) := hg
            have hlen : (fullF c x).length ≤ 12 := by
              have : (fullF c x).length ≤ 0 + x.rows.toNat % 13 := hlen
              omega
            generalize fullF c x = full at hg hlen ⊢
            have h00 : LessTired c.men.length .zero .zero := ⟨rfl, fun j _ => .inl rfl⟩
            obtain ⟨hg2, _⟩ := hsame.rota h00 hg
            have hB : badF (easeF c false false b3 b4) full = (-1, 0, 0, 0) := by
              obtain ⟨a, _, _⟩ := hsame.walk (Int.le_refl 0) h00 hg.good hg.asc
              unfold badF
              rw [if_pos (hg2.ent hve (by omega)), a]
            conv => whnf
            refine CallA_view (ds := [(easeF c false false b3 b4).d, rotaD full]) (wa17 (easeF c false false b3 b4) full) rfl 2 (viewL_cons (viewV_agg (viewL_cons (viewV_sl rfl (by simp [easeF])) (viewL_cons (viewV_sl rfl (by simp [easeF])) rfl))) rfl) ?_
            rw [hB]
            conv => whnf
            refine CallA_v (ds := [c.d]) (wa28 c) rfl rfl ?_
            rw [hent, if_pos rfl]
            conv => whnf
            refine CallA_view (ds := [(easeF c false false b3 b4).d]) (wa28 (easeF c false false b3 b4)) rfl 2 (viewL_cons (viewV_agg (viewL_cons (viewV_sl rfl (by simp [easeF])) (viewL_cons (viewV_sl rfl (by simp [easeF])) rfl))) rfl) ?_
            rw [hente, if_pos rfl]
            generalize lonW (easeF c false false b3 b4) = lb at hlone ⊢
            generalize lonW c = la at hlone ⊢
            conv => whnf
            refine brk_i (fun h1 => ?_) (fun h1 => ?_)
            · conv => whnf
              refine CallA_v (wa27) rfl rfl ?_
              conv => whnf
              exact RetA_view 0 rfl ⟨⟨rfl, rfl⟩, rfl⟩
            · have h1 : lb ≠ -1 := of_decide_eq_false h1
              have hlo : la ≠ -1 ∧ la ≤ lb := hlone.resolve_left h1
              conv => whnf
              refine brk_i (fun _ => ?_) (fun h => absurd h (by simp [hlo.1]))
              conv => whnf
              refine brk_i (fun _ => ?_) (fun h => absurd h (by simp [hlo.2]))
              conv => whnf
              refine CallA_v (wa27) rfl rfl ?_
              conv => whnf
              exact RetA_view 0 rfl ⟨⟨rfl, rfl⟩, rfl⟩
end Go.PX
