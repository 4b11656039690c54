import Derived.Test.YtpocldjdlookjaaPxP
set_option linter.all false
set_option maxRecDepth 10000
namespace Go.PX
open Go.Proofs

/- Watch: WatchEasier, walked. -/

theorem viewV_agg {g : Nat → Option DO} {cs : List V} {l : List D} (h : viewL g cs = some l) : viewV g (.agg cs) = some (.agg l) := by simp [viewV, h]

/-- A box of data with a nil slice in it holds one without elements. -/
theorem Wk.bornAtD {σ : Type} {e : Env} {h : Heap} {s : σ} (b k sz : Nat) (A B : List D) {l : List D} (hk : Nat.blt k 1000000 = true) (hs : Nat.blt 0 sz = true) (hb : get h b = some (.box (.dd l))) (hl : l = A ++ .nils :: B) (hbk : Nat.beq b k = false) :
    Wk (⟨e, h, s⟩ : St σ) ⟨mapT (mapId (killF k)) e, put (put (mapT (Obj.mapId (killF k)) (cut h k)) k (.arr sz (.dd []))) b (.box (.vv (inj A ++ .sl k sz 0 0 :: inj B))), s⟩ := by
  have hk := Nat.le_of_ble_eq_true hk
  have hs := Nat.le_of_ble_eq_true hs
  have hne : b ≠ k := by rintro rfl; simp at hbk
  have h1 : Wk (⟨e, h, s⟩ : St σ) ⟨mapT (mapId (killF k)) e, put (mapT (Obj.mapId (killF k)) (cut h k)) k (.arr sz (.dd [])), s⟩ := by
    intro cx r m L F a w hg
    exact ⟨_, F, hg.newEmpty k sz (by unfold pinned; omega) hs (.dd []) rfl, Tr.refl F w⟩
  refine h1.trans (Wk.reobj b (o := .box (.dd l)) _ (by rw [get_put, if_neg hne, get_mapT, get_cut, if_neg hne, hb]; rfl) (fun yv L F w h => ?_) fun L hb => hb)
  obtain ⟨c, T, hc, hr⟩ := h
  have hr : RepVL yv L F w (inj l) c.toList := hr
  rw [hl, inj_append] at hr
  exact ⟨c, T, hc, RepVL.nil_at k sz hs hr⟩

theorem wrap_u8 {n : Int} (h : 0 ≤ n ∧ n ≤ 255) : IntKind.u8.wrap n = n := by
  show (n.emod 256) = n
  exact Int.emod_eq_of_lt h.1 (by omega)

theorem wa13 (c : WCase) (x : GapX) (hx : x.Ok) (n : Int) (hn : 0 ≤ n ∧ n ≤ 255) : FnV Try.prog 13 [c.d, x.d, .int .u8 n] (.bool true) := by
  refine fnV_of mixed tysOk Try.func13 rfl (ft := ft13) 3 (by decide +kernel) (by rfl) fun {σ} Y st => ?_
  conv => whnf
  refine CallA_v (wa43 c) rfl rfl ?_
  conv => whnf
  cases hv : valW c with
  | false =>
    conv => whnf
    refine CallA_v (wa27) rfl rfl ?_
    conv => whnf
    exact RetA_view 0 rfl ⟨⟨rfl, rfl⟩, rfl⟩
  | true =>
    have hR := val_WR hv
    have hm := hR.men
    have hsl := hR.slots
    have hru := hR.run
    have hre := hR.rest
    conv => whnf
    have hq : ∀ k : Int, 0 < k → 0 ≤ n.tdiv k ∧ n.tdiv k ≤ 255 := fun k hk => by
      rw [Int.tdiv_eq_ediv_of_nonneg hn.1]
      have := Int.ediv_nonneg hn.1 (by omega : 0 ≤ k)
      have h2 : n / k ≤ n := Int.ediv_le_self k hn.1
      omega
    have hq2 := hq 2 (by omega)
    have hq4 := hq 4 (by omega)
    have hq8 := hq 8 (by omega)
    obtain ⟨b3, hb3⟩ : ∃ b, decide ((n.tdiv 4).tmod 2 = 1) = b := ⟨_, rfl⟩
    obtain ⟨b4, hb4⟩ : ∃ b, decide ((n.tdiv 8).tmod 2 = 1) = b := ⟨_, rfl⟩
    refine brk_i (fun h1 => ?_) (fun h1 => ?_)
    · conv => whnf
      refine arith_in (wrap_i64 (by omega)) ?_
      conv => whnf
      refine arith_in (wrap_u8 (by omega)) ?_
      conv => whnf
      refine brk_i (fun h2 => ?_) (fun h2 => ?_)
      · conv => whnf
        refine arith_in (wrap_i64 (by omega)) ?_
        conv => whnf
        refine LoopA_i (T := tys) tysOk (by exact drawsB_spec mixed tysOk (by decide +kernel)) c.slots (fun i (acc : List Slot) => ⟨[(2, .d (.int .u8 n)), (3, .ptr 3 0), (4, .ptr 4 0), (6, .d (.bool false)), (7, .ptr 7 0), (8, .d (i64 i))], [(3, .box (.dd c.cells)), (4, .box (.dd x.cells)), (7, .box (.vv [.d .nils, .sl 71 2 0 acc.length, .d (i64 (easeRun true c.run)), .d (i64 (easeRest true c.rest))])), (71, .arr 2 (.dd (acc.map Slot.cells)))], st⟩)
          (fun i r acc => acc.length ≤ i ∧ c.slots.map (easeSlot b3) = acc ++ r.map (easeSlot b3)) [] ((Wk.bornAtD 7 71 2 [.nils] [i64 (easeRun true c.run), i64 (easeRest true c.rest)] rfl rfl rfl rfl rfl).trans (Wk.sub ⟨(by first | rfl | (simp only [List.length_map]; rfl) | simp [PX.get]), (by first | rfl | (simp only [List.length_map]; rfl) | simp [PX.get]), (by first | rfl | (simp only [List.length_map]; rfl) | simp [PX.get]), (by first | rfl | (simp only [List.length_map]; rfl) | simp [PX.get]), (by first | rfl | (simp only [List.length_map]; rfl) | simp [PX.get]), (by first | rfl | (simp only [List.length_map]; rfl) | simp [PX.get]), trivial⟩ ⟨(by first | rfl | (simp only [List.length_map]; rfl) | simp [PX.get]), (by first | rfl | (simp only [List.length_map]; rfl) | simp [PX.get]), (by first | rfl | (simp only [List.length_map]; rfl) | simp [PX.get]), (by first | rfl | (simp only [List.length_map]; rfl) | simp [PX.get]), trivial⟩)) ⟨by simp, rfl⟩ ?_ ?_
        · rintro i y r acc hy hi hr2 ⟨hal, he⟩
          rw [List.map_cons] at he
          have hso := (hR.slot y (List.mem_of_getElem? hy)).2
          conv => whnf
          refine brk_i (fun _ => ?_) (fun h => absurd hi (by have := of_decide_eq_false h; simp at this; omega))
          conv => whnf
          refine elemK_nat hy ?_
          conv => whnf
          refine arith_in (wrap_u8 (by omega)) ?_
          conv => whnf
          refine brk_i (fun h3 => ?_) (fun h3 => ?_)
          · have h3 : b3 = true := hb3.symm.trans h3
            rw [h3] at he ⊢
            conv => whnf
            refine arith_in (wrap_i64 (by omega)) ?_
            conv => whnf
            refine ownK_whole rfl ?_
            conv => whnf
            refine ownK_whole (by simp [Els.len]) ?_
            conv => whnf
            refine chk_i (decide_eq_true (by
              show ((acc.map Slot.cells).length + 1) * 16 ≤ 140737488355328
              rw [List.length_map]; omega)) ?_
            conv => whnf
            refine arith_in (wrap_i64 (by (try dsimp only); omega)) ?_
            conv => whnf
            refine ⟨acc ++ [easeSlot true y], ⟨by simp; omega, by simpa using he⟩, Wk.sub ⟨rfl, rfl, rfl, rfl, rfl, rfl, trivial⟩ ⟨rfl, rfl, ?_, ?_, trivial⟩⟩
            · show some (Obj.box (.vv [.d .nils, .sl 71 2 0 ((acc.map Slot.cells).length + 1), .d (i64 (easeRun true c.run)), .d (i64 (easeRest true c.rest))])) = _
              simp
            · show some (Obj.arr 2 (Els.dd (acc.map Slot.cells ++ [(easeSlot true y).cells]))) = _
              simp
          · have h3 : b3 = false := hb3.symm.trans h3
            rw [h3] at he ⊢
            conv => whnf
            refine ownK_whole rfl ?_
            conv => whnf
            refine ownK_whole (by simp [Els.len]) ?_
            conv => whnf
            refine chk_i (decide_eq_true (by
              show ((acc.map Slot.cells).length + 1) * 16 ≤ 140737488355328
              rw [List.length_map]; omega)) ?_
            conv => whnf
            refine arith_in (wrap_i64 (by (try dsimp only); omega)) ?_
            conv => whnf
            refine ⟨acc ++ [easeSlot false y], ⟨by simp; omega, by simpa using he⟩, Wk.sub ⟨rfl, rfl, rfl, rfl, rfl, rfl, trivial⟩ ⟨rfl, rfl, ?_, ?_, trivial⟩⟩
            · show some (Obj.box (.vv [.d .nils, .sl 71 2 0 ((acc.map Slot.cells).length + 1), .d (i64 (easeRun true c.run)), .d (i64 (easeRest true c.rest))])) = _
              simp
            · show some (Obj.arr 2 (Els.dd (acc.map Slot.cells ++ [(easeSlot false y).cells]))) = _
              simp
        · rintro acc ⟨_, hf⟩
          have hf : acc = c.slots.map (easeSlot b3) := by simpa using hf.symm
          rw [hf]
          conv => whnf
          refine brk_i (fun h => absurd h (by simp)) (fun _ => ?_)
          conv => whnf
          refine LoopA_i (T := tys) tysOk (by exact drawsB_spec mixed tysOk (by decide +kernel)) c.men (fun i (acc : List Man) => ⟨[(2, .d (.int .u8 n)), (3, .ptr 3 0), (4, .ptr 4 0), (6, .d (.bool false)), (7, .ptr 7 0), (10, .d (i64 i))], [(3, .box (.dd c.cells)), (4, .box (.dd x.cells)), (7, .box (.vv [.sl 103 3 0 acc.length, .sl 71 2 0 (c.slots.map (easeSlot b3)).length, .d (i64 (easeRun true c.run)), .d (i64 (easeRest true c.rest))])), (71, .arr 2 (.dd ((c.slots.map (easeSlot b3)).map Slot.cells))), (103, .arr 3 (.dd (acc.map Man.cells)))], st⟩)
            (fun i r acc => acc.length ≤ i ∧ c.men.map (easeMan b4) = acc ++ r.map (easeMan b4)) [] ((Wk.bornAt 7 103 3 [] [.sl 71 2 0 (c.slots.map (easeSlot b3)).length, .d (i64 (easeRun true c.run)), .d (i64 (easeRest true c.rest))] rfl rfl rfl rfl).trans (Wk.sub ⟨rfl, rfl, rfl, rfl, rfl, rfl, trivial⟩ ⟨rfl, rfl, rfl, rfl, rfl, trivial⟩)) ⟨by simp, rfl⟩ ?_ ?_
          · rintro i y r acc hy hi hr2 ⟨hal, he⟩
            rw [List.map_cons] at he
            conv => whnf
            refine brk_i (fun _ => ?_) (fun h => absurd hi (by have := of_decide_eq_false h; simp at this; omega))
            conv => whnf
            refine elemK_nat hy ?_
            conv => whnf
            refine arith_in (wrap_u8 (by omega)) ?_
            conv => whnf
            refine brk_i (fun h3 => ?_) (fun h3 => ?_)
            · have h3 : b4 = true := hb4.symm.trans h3
              conv => whnf
              refine brk_i (fun h4 => ?_) (fun h4 => ?_)
              · have h4 : 0 < y.no.length := by have := of_decide_eq_true h4; simp at this; omega
                have hem : easeMan b4 y = ⟨y.name, y.kind, y.no.tail⟩ := by
                  unfold easeMan; rw [h3, decide_eq_true h4]; rfl
                conv => whnf
                refine chk_i (by simp; omega) ?_
                conv => whnf
                refine chk_i (by cases y.no <;> rfl) ?_
                conv => whnf
                have htl : List.drop (Int.toNat 1) (List.take (List.map (fun n => [i64 n]) y.no).length (List.map (fun n => [i64 n]) y.no)) = y.no.tail.map fun n => [i64 n] := by
                  rw [List.take_length, show Int.toNat 1 = 1 from rfl, List.drop_one, List.map_tail]
                rw [htl]
                refine ownK_whole rfl ?_
                conv => whnf
                refine ownK_whole (by simp [Els.len]) ?_
                conv => whnf
                refine chk_i (decide_eq_true (by
                  show ((acc.map Man.cells).length + 1) * 48 ≤ 140737488355328
                  rw [List.length_map]; omega)) ?_
                conv => whnf
                refine arith_in (wrap_i64 (by (try dsimp only); omega)) ?_
                conv => whnf
                refine ⟨acc ++ [easeMan b4 y], ⟨by simp; omega, by simpa using he⟩, Wk.sub ⟨rfl, rfl, rfl, rfl, rfl, rfl, trivial⟩ ⟨rfl, rfl, ?_, rfl, ?_, trivial⟩⟩
                · show some (Obj.box (.vv [.sl 103 3 0 ((acc.map Man.cells).length + 1), .sl 71 2 0 (c.slots.map (easeSlot b3)).length, .d (i64 (easeRun true c.run)), .d (i64 (easeRest true c.rest))])) = _
                  simp
                · rw [hem]
                  show some (Obj.arr 3 (Els.dd (acc.map Man.cells ++ [(⟨y.name, y.kind, y.no.tail⟩ : Man).cells]))) = _
                  simp [Man.cells]
              · have hem : easeMan b4 y = y := by
                  unfold easeMan
                  rw [if_neg]
                  rw [decide_eq_false (by intro h; have := of_decide_eq_false h4; simp at this; rw [this] at h; simp at h)]
                  simp
                conv => whnf
                refine ownK_whole rfl ?_
                conv => whnf
                refine ownK_whole (by simp [Els.len]) ?_
                conv => whnf
                refine chk_i (decide_eq_true (by
                  show ((acc.map Man.cells).length + 1) * 48 ≤ 140737488355328
                  rw [List.length_map]; omega)) ?_
                conv => whnf
                refine arith_in (wrap_i64 (by (try dsimp only); omega)) ?_
                conv => whnf
                refine ⟨acc ++ [easeMan b4 y], ⟨by simp; omega, by simpa using he⟩, Wk.sub ⟨rfl, rfl, rfl, rfl, rfl, rfl, trivial⟩ ⟨rfl, rfl, ?_, rfl, ?_, trivial⟩⟩
                · show some (Obj.box (.vv [.sl 103 3 0 ((acc.map Man.cells).length + 1), .sl 71 2 0 (c.slots.map (easeSlot b3)).length, .d (i64 (easeRun true c.run)), .d (i64 (easeRest true c.rest))])) = _
                  simp
                · rw [hem]
                  show some (Obj.arr 3 (Els.dd (acc.map Man.cells ++ [y.cells]))) = _
                  simp [Man.cells]
            · have h3 : b4 = false := hb4.symm.trans h3
              have hem : easeMan b4 y = y := by
                unfold easeMan
                rw [h3]; rfl
              conv => whnf
              refine ownK_whole rfl ?_
              conv => whnf
              refine ownK_whole (by simp [Els.len]) ?_
              conv => whnf
              refine chk_i (decide_eq_true (by
                show ((acc.map Man.cells).length + 1) * 48 ≤ 140737488355328
                rw [List.length_map]; omega)) ?_
              conv => whnf
              refine arith_in (wrap_i64 (by (try dsimp only); omega)) ?_
              conv => whnf
              refine ⟨acc ++ [easeMan b4 y], ⟨by simp; omega, by simpa using he⟩, Wk.sub ⟨rfl, rfl, rfl, rfl, rfl, rfl, trivial⟩ ⟨rfl, rfl, ?_, rfl, ?_, trivial⟩⟩
              · show some (Obj.box (.vv [.sl 103 3 0 ((acc.map Man.cells).length + 1), .sl 71 2 0 (c.slots.map (easeSlot b3)).length, .d (i64 (easeRun true c.run)), .d (i64 (easeRest true c.rest))])) = _
                simp
              · rw [hem]
                show some (Obj.arr 3 (Els.dd (acc.map Man.cells ++ [y.cells]))) = _
                simp [Man.cells]
          · rintro acc ⟨_, hf⟩
            have hf : acc = c.men.map (easeMan b4) := by simpa using hf.symm
            rw [hf]
            conv => whnf
            refine brk_i (fun h => absurd h (by simp)) (fun _ => ?_)
            conv => whnf
            have hve : (checkW (easeF c true true b3 b4)).2.2 = 0 := ease_valid (val_chk hv) _ _ _ _
            have hE : WR (easeF c true true b3 b4) := wR hve
            have hsame := easier_same hR hE (ease_easier hR _ _ b3 b4)
            have hlone := lon_easier hR hE hsame
            have hent : entE c [] = 0 := by rw [ent_nil, val_chk hv]
            have hente : entE (easeF c true true b3 b4) [] = 0 := by rw [ent_nil, hve]
            refine CallA_v (ds := [c.d, x.d]) (wa51 c hR x hx) rfl rfl ?_
            obtain ⟨hg, hlen, _⟩ := any_good hR (x := x.rota) (k := x.rows.toNat % 13) (GoodR.nil c)
            have hg : GoodR c (fullF c x) := hg
            have hlen : (fullF c x).length ≤ 12 := by
              have : (fullF c x).length ≤ 0 + x.rows.toNat % 13 := hlen
              omega
            generalize fullF c x = full at hg hlen ⊢
            have h00 : LessTired c.men.length .zero .zero := ⟨rfl, fun j _ => .inl rfl⟩
            obtain ⟨hg2, _⟩ := hsame.rota h00 hg
            have hB : badF (easeF c true true b3 b4) full = (-1, 0, 0, 0) := by
              obtain ⟨a, _, _⟩ := hsame.walk (Int.le_refl 0) h00 hg.good hg.asc
              unfold badF
              rw [if_pos (hg2.ent hve (by omega)), a]
            conv => whnf
            refine CallA_view (ds := [(easeF c true true b3 b4).d, rotaD full]) (wa17 (easeF c true true b3 b4) full) rfl 2 (viewL_cons (viewV_agg (viewL_cons (viewV_sl rfl (by simp [easeF])) (viewL_cons (viewV_sl rfl (by simp [easeF])) rfl))) rfl) ?_
            rw [hB]
            conv => whnf
            refine CallA_v (ds := [c.d]) (wa28 c) rfl rfl ?_
            rw [hent, if_pos rfl]
            conv => whnf
            refine CallA_view (ds := [(easeF c true true b3 b4).d]) (wa28 (easeF c true true b3 b4)) rfl 2 (viewL_cons (viewV_agg (viewL_cons (viewV_sl rfl (by simp [easeF])) (viewL_cons (viewV_sl rfl (by simp [easeF])) rfl))) rfl) ?_
            rw [hente, if_pos rfl]
            generalize lonW (easeF c true true b3 b4) = lb at hlone ⊢
            generalize lonW c = la at hlone ⊢
            conv => whnf
            refine brk_i (fun h1 => ?_) (fun h1 => ?_)
            · conv => whnf
              refine CallA_v (wa27) rfl rfl ?_
              conv => whnf
              exact RetA_view 0 rfl ⟨⟨rfl, rfl⟩, rfl⟩
            · have h1 : lb ≠ -1 := of_decide_eq_false h1
              have hlo : la ≠ -1 ∧ la ≤ lb := hlone.resolve_left h1
              conv => whnf
              refine brk_i (fun _ => ?_) (fun h => absurd h (by simp [hlo.1]))
              conv => whnf
              refine brk_i (fun _ => ?_) (fun h => absurd h (by simp [hlo.2]))
              conv => whnf
              refine CallA_v (wa27) rfl rfl ?_
              conv => whnf
              exact RetA_view 0 rfl ⟨⟨rfl, rfl⟩, rfl⟩
      · conv => whnf
        refine LoopA_i (T := tys) tysOk (by exact drawsB_spec mixed tysOk (by decide +kernel)) c.slots (fun i (acc : List Slot) => ⟨[(2, .d (.int .u8 n)), (3, .ptr 3 0), (4, .ptr 4 0), (6, .d (.bool false)), (7, .ptr 7 0), (8, .d (i64 i))], [(3, .box (.dd c.cells)), (4, .box (.dd x.cells)), (7, .box (.vv [.d .nils, .sl 71 2 0 acc.length, .d (i64 (easeRun true c.run)), .d (i64 (easeRest false c.rest))])), (71, .arr 2 (.dd (acc.map Slot.cells)))], st⟩)
          (fun i r acc => acc.length ≤ i ∧ c.slots.map (easeSlot b3) = acc ++ r.map (easeSlot b3)) [] ((Wk.bornAtD 7 71 2 [.nils] [i64 (easeRun true c.run), i64 (easeRest false c.rest)] rfl rfl rfl rfl rfl).trans (Wk.sub ⟨(by first | rfl | (simp only [List.length_map]; rfl) | simp [PX.get]), (by first | rfl | (simp only [List.length_map]; rfl) | simp [PX.get]), (by first | rfl | (simp only [List.length_map]; rfl) | simp [PX.get]), (by first | rfl | (simp only [List.length_map]; rfl) | simp [PX.get]), (by first | rfl | (simp only [List.length_map]; rfl) | simp [PX.get]), (by first | rfl | (simp only [List.length_map]; rfl) | simp [PX.get]), trivial⟩ ⟨(by first | rfl | (simp only [List.length_map]; rfl) | simp [PX.get]), (by first | rfl | (simp only [List.length_map]; rfl) | simp [PX.get]), (by first | rfl | (simp only [List.length_map]; rfl) | simp [PX.get]), (by first | rfl | (simp only [List.length_map]; rfl) | simp [PX.get]), trivial⟩)) ⟨by simp, rfl⟩ ?_ ?_
        · rintro i y r acc hy hi hr2 ⟨hal, he⟩
          rw [List.map_cons] at he
          have hso := (hR.slot y (List.mem_of_getElem? hy)).2
          conv => whnf
          refine brk_i (fun _ => ?_) (fun h => absurd hi (by have := of_decide_eq_false h; simp at this; omega))
          conv => whnf
          refine elemK_nat hy ?_
          conv => whnf
          refine arith_in (wrap_u8 (by omega)) ?_
          conv => whnf
          refine brk_i (fun h3 => ?_) (fun h3 => ?_)
          · have h3 : b3 = true := hb3.symm.trans h3
            rw [h3] at he ⊢
            conv => whnf
            refine arith_in (wrap_i64 (by omega)) ?_
            conv => whnf
            refine ownK_whole rfl ?_
            conv => whnf
            refine ownK_whole (by simp [Els.len]) ?_
            conv => whnf
            refine chk_i (decide_eq_true (by
              show ((acc.map Slot.cells).length + 1) * 16 ≤ 140737488355328
              rw [List.length_map]; omega)) ?_
            conv => whnf
            refine arith_in (wrap_i64 (by (try dsimp only); omega)) ?_
            conv => whnf
            refine ⟨acc ++ [easeSlot true y], ⟨by simp; omega, by simpa using he⟩, Wk.sub ⟨rfl, rfl, rfl, rfl, rfl, rfl, trivial⟩ ⟨rfl, rfl, ?_, ?_, trivial⟩⟩
            · show some (Obj.box (.vv [.d .nils, .sl 71 2 0 ((acc.map Slot.cells).length + 1), .d (i64 (easeRun true c.run)), .d (i64 (easeRest false c.rest))])) = _
              simp
            · show some (Obj.arr 2 (Els.dd (acc.map Slot.cells ++ [(easeSlot true y).cells]))) = _
              simp
          · have h3 : b3 = false := hb3.symm.trans h3
            rw [h3] at he ⊢
            conv => whnf
            refine ownK_whole rfl ?_
            conv => whnf
            refine ownK_whole (by simp [Els.len]) ?_
            conv => whnf
            refine chk_i (decide_eq_true (by
              show ((acc.map Slot.cells).length + 1) * 16 ≤ 140737488355328
              rw [List.length_map]; omega)) ?_
            conv => whnf
            refine arith_in (wrap_i64 (by (try dsimp only); omega)) ?_
            conv => whnf
            refine ⟨acc ++ [easeSlot false y], ⟨by simp; omega, by simpa using he⟩, Wk.sub ⟨rfl, rfl, rfl, rfl, rfl, rfl, trivial⟩ ⟨rfl, rfl, ?_, ?_, trivial⟩⟩
            · show some (Obj.box (.vv [.d .nils, .sl 71 2 0 ((acc.map Slot.cells).length + 1), .d (i64 (easeRun true c.run)), .d (i64 (easeRest false c.rest))])) = _
              simp
            · show some (Obj.arr 2 (Els.dd (acc.map Slot.cells ++ [(easeSlot false y).cells]))) = _
              simp
        · rintro acc ⟨_, hf⟩
          have hf : acc = c.slots.map (easeSlot b3) := by simpa using hf.symm
          rw [hf]
          conv => whnf
          refine brk_i (fun h => absurd h (by simp)) (fun _ => ?_)
          conv => whnf
          refine LoopA_i (T := tys) tysOk (by exact drawsB_spec mixed tysOk (by decide +kernel)) c.men (fun i (acc : List Man) => ⟨[(2, .d (.int .u8 n)), (3, .ptr 3 0), (4, .ptr 4 0), (6, .d (.bool false)), (7, .ptr 7 0), (10, .d (i64 i))], [(3, .box (.dd c.cells)), (4, .box (.dd x.cells)), (7, .box (.vv [.sl 103 3 0 acc.length, .sl 71 2 0 (c.slots.map (easeSlot b3)).length, .d (i64 (easeRun true c.run)), .d (i64 (easeRest false c.rest))])), (71, .arr 2 (.dd ((c.slots.map (easeSlot b3)).map Slot.cells))), (103, .arr 3 (.dd (acc.map Man.cells)))], st⟩)
            (fun i r acc => acc.length ≤ i ∧ c.men.map (easeMan b4) = acc ++ r.map (easeMan b4)) [] ((Wk.bornAt 7 103 3 [] [.sl 71 2 0 (c.slots.map (easeSlot b3)).length, .d (i64 (easeRun true c.run)), .d (i64 (easeRest false c.rest))] rfl rfl rfl rfl).trans (Wk.sub ⟨rfl, rfl, rfl, rfl, rfl, rfl, trivial⟩ ⟨rfl, rfl, rfl, rfl, rfl, trivial⟩)) ⟨by simp, rfl⟩ ?_ ?_
          · rintro i y r acc hy hi hr2 ⟨hal, he⟩
            rw [List.map_cons] at he
            conv => whnf
            refine brk_i (fun _ => ?_) (fun h => absurd hi (by have := of_decide_eq_false h; simp at this; omega))
            conv => whnf
            refine elemK_nat hy ?_
            conv => whnf
            refine arith_in (wrap_u8 (by omega)) ?_
            conv => whnf
            refine brk_i (fun h3 => ?_) (fun h3 => ?_)
            · have h3 : b4 = true := hb4.symm.trans h3
              conv => whnf
              refine brk_i (fun h4 => ?_) (fun h4 => ?_)
              · have h4 : 0 < y.no.length := by have := of_decide_eq_true h4; simp at this; omega
                have hem : easeMan b4 y = ⟨y.name, y.kind, y.no.tail⟩ := by
                  unfold easeMan; rw [h3, decide_eq_true h4]; rfl
                conv => whnf
                refine chk_i (by simp; omega) ?_
                conv => whnf
                refine chk_i (by cases y.no <;> rfl) ?_
                conv => whnf
                have htl : List.drop (Int.toNat 1) (List.take (List.map (fun n => [i64 n]) y.no).length (List.map (fun n => [i64 n]) y.no)) = y.no.tail.map fun n => [i64 n] := by
                  rw [List.take_length, show Int.toNat 1 = 1 from rfl, List.drop_one, List.map_tail]
                rw [htl]
                refine ownK_whole rfl ?_
                conv => whnf
                refine ownK_whole (by simp [Els.len]) ?_
                conv => whnf
                refine chk_i (decide_eq_true (by
                  show ((acc.map Man.cells).length + 1) * 48 ≤ 140737488355328
                  rw [List.length_map]; omega)) ?_
                conv => whnf
                refine arith_in (wrap_i64 (by (try dsimp only); omega)) ?_
                conv => whnf
                refine ⟨acc ++ [easeMan b4 y], ⟨by simp; omega, by simpa using he⟩, Wk.sub ⟨rfl, rfl, rfl, rfl, rfl, rfl, trivial⟩ ⟨rfl, rfl, ?_, rfl, ?_, trivial⟩⟩
                · show some (Obj.box (.vv [.sl 103 3 0 ((acc.map Man.cells).length + 1), .sl 71 2 0 (c.slots.map (easeSlot b3)).length, .d (i64 (easeRun true c.run)), .d (i64 (easeRest false c.rest))])) = _
                  simp
                · rw [hem]
                  show some (Obj.arr 3 (Els.dd (acc.map Man.cells ++ [(⟨y.name, y.kind, y.no.tail⟩ : Man).cells]))) = _
                  simp [Man.cells]
              · have hem : easeMan b4 y = y := by
                  unfold easeMan
                  rw [if_neg]
                  rw [decide_eq_false (by intro h; have := of_decide_eq_false h4; simp at this; rw [this] at h; simp at h)]
                  simp
                conv => whnf
                refine ownK_whole rfl ?_
                conv => whnf
                refine ownK_whole (by simp [Els.len]) ?_
                conv => whnf
                refine chk_i (decide_eq_true (by
                  show ((acc.map Man.cells).length + 1) * 48 ≤ 140737488355328
                  rw [List.length_map]; omega)) ?_
                conv => whnf
                refine arith_in (wrap_i64 (by (try dsimp only); omega)) ?_
                conv => whnf
                refine ⟨acc ++ [easeMan b4 y], ⟨by simp; omega, by simpa using he⟩, Wk.sub ⟨rfl, rfl, rfl, rfl, rfl, rfl, trivial⟩ ⟨rfl, rfl, ?_, rfl, ?_, trivial⟩⟩
                · show some (Obj.box (.vv [.sl 103 3 0 ((acc.map Man.cells).length + 1), .sl 71 2 0 (c.slots.map (easeSlot b3)).length, .d (i64 (easeRun true c.run)), .d (i64 (easeRest false c.rest))])) = _
                  simp
                · rw [hem]
                  show some (Obj.arr 3 (Els.dd (acc.map Man.cells ++ [y.cells]))) = _
                  simp [Man.cells]
            · have h3 : b4 = false := hb4.symm.trans h3
              have hem : easeMan b4 y = y := by
                unfold easeMan
                rw [h3]; rfl
              conv => whnf
              refine ownK_whole rfl ?_
              conv => whnf
              refine ownK_whole (by simp [Els.len]) ?_
              conv => whnf
              refine chk_i (decide_eq_true (by
                show ((acc.map Man.cells).length + 1) * 48 ≤ 140737488355328
                rw [List.length_map]; omega)) ?_
              conv => whnf
              refine arith_in (wrap_i64 (by (try dsimp only); omega)) ?_
              conv => whnf
              refine ⟨acc ++ [easeMan b4 y], ⟨by simp; omega, by simpa using he⟩, Wk.sub ⟨rfl, rfl, rfl, rfl, rfl, rfl, trivial⟩ ⟨rfl, rfl, ?_, rfl, ?_, trivial⟩⟩
              · show some (Obj.box (.vv [.sl 103 3 0 ((acc.map Man.cells).length + 1), .sl 71 2 0 (c.slots.map (easeSlot b3)).length, .d (i64 (easeRun true c.run)), .d (i64 (easeRest false c.rest))])) = _
                simp
              · rw [hem]
                show some (Obj.arr 3 (Els.dd (acc.map Man.cells ++ [y.cells]))) = _
                simp [Man.cells]
          · rintro acc ⟨_, hf⟩
            have hf : acc = c.men.map (easeMan b4) := by simpa using hf.symm
            rw [hf]
            conv => whnf
            refine brk_i (fun h => absurd h (by simp)) (fun _ => ?_)
            conv => whnf
            have hve : (checkW (easeF c true false b3 b4)).2.2 = 0 := ease_valid (val_chk hv) _ _ _ _
            have hE : WR (easeF c true false b3 b4) := wR hve
            have hsame := easier_same hR hE (ease_easier hR _ _ b3 b4)
            have hlone := lon_easier hR hE hsame
            have hent : entE c [] = 0 := by rw [ent_nil, val_chk hv]
            have hente : entE (easeF c true false b3 b4) [] = 0 := by rw [ent_nil, hve]
            refine CallA_v (ds := [c.d, x.d]) (wa51 c hR x hx) rfl rfl ?_
            obtain ⟨hg, hlen, _⟩ := any_good hR (x := x.rota) (k := x.rows.toNat % 13) (GoodR.nil c)
            have hg : GoodR c (fullF c x) := hg
            have hlen : (fullF c x).length ≤ 12 := by
              have : (fullF c x).length ≤ 0 + x.rows.toNat % 13 := hlen
              omega
            generalize fullF c x = full at hg hlen ⊢
            have h00 : LessTired c.men.length .zero .zero := ⟨rfl, fun j _ => .inl rfl⟩
            obtain ⟨hg2, _⟩ := hsame.rota h00 hg
            have hB : badF (easeF c true false b3 b4) full = (-1, 0, 0, 0) := by
              obtain ⟨a, _, _⟩ := hsame.walk (Int.le_refl 0) h00 hg.good hg.asc
              unfold badF
              rw [if_pos (hg2.ent hve (by omega)), a]
            conv => whnf
            refine CallA_view (ds := [(easeF c true false b3 b4).d, rotaD full]) (wa17 (easeF c true false b3 b4) full) rfl 2 (viewL_cons (viewV_agg (viewL_cons (viewV_sl rfl (by simp [easeF])) (viewL_cons (viewV_sl rfl (by simp [easeF])) rfl))) rfl) ?_
            rw [hB]
            conv => whnf
            refine CallA_v (ds := [c.d]) (wa28 c) rfl rfl ?_
            rw [hent, if_pos rfl]
            conv => whnf
            refine CallA_view (ds := [(easeF c true false b3 b4).d]) (wa28 (easeF c true false b3 b4)) rfl 2 (viewL_cons (viewV_agg (viewL_cons (viewV_sl rfl (by simp [easeF])) (viewL_cons (viewV_sl rfl (by simp [easeF])) rfl))) rfl) ?_
            rw [hente, if_pos rfl]
            generalize lonW (easeF c true false b3 b4) = lb at hlone ⊢
            generalize lonW c = la at hlone ⊢
            conv => whnf
            refine brk_i (fun h1 => ?_) (fun h1 => ?_)
            · conv => whnf
              refine CallA_v (wa27) rfl rfl ?_
              conv => whnf
              exact RetA_view 0 rfl ⟨⟨rfl, rfl⟩, rfl⟩
            · have h1 : lb ≠ -1 := of_decide_eq_false h1
              have hlo : la ≠ -1 ∧ la ≤ lb := hlone.resolve_left h1
              conv => whnf
              refine brk_i (fun _ => ?_) (fun h => absurd h (by simp [hlo.1]))
              conv => whnf
              refine brk_i (fun _ => ?_) (fun h => absurd h (by simp [hlo.2]))
              conv => whnf
              refine CallA_v (wa27) rfl rfl ?_
              conv => whnf
              exact RetA_view 0 rfl ⟨⟨rfl, rfl⟩, rfl⟩
    · conv => whnf
      refine arith_in (wrap_u8 (by omega)) ?_
      conv => whnf
      refine brk_i (fun h2 => ?_) (fun h2 => ?_)
      · conv => whnf
        refine arith_in (wrap_i64 (by omega)) ?_
        conv => whnf
        refine LoopA_i (T := tys) tysOk (by exact drawsB_spec mixed tysOk (by decide +kernel)) c.slots (fun i (acc : List Slot) => ⟨[(2, .d (.int .u8 n)), (3, .ptr 3 0), (4, .ptr 4 0), (6, .d (.bool false)), (7, .ptr 7 0), (8, .d (i64 i))], [(3, .box (.dd c.cells)), (4, .box (.dd x.cells)), (7, .box (.vv [.d .nils, .sl 71 2 0 acc.length, .d (i64 (easeRun false c.run)), .d (i64 (easeRest true c.rest))])), (71, .arr 2 (.dd (acc.map Slot.cells)))], st⟩)
          (fun i r acc => acc.length ≤ i ∧ c.slots.map (easeSlot b3) = acc ++ r.map (easeSlot b3)) [] ((Wk.bornAtD 7 71 2 [.nils] [i64 (easeRun false c.run), i64 (easeRest true c.rest)] rfl rfl rfl rfl rfl).trans (Wk.sub ⟨(by first | rfl | (simp only [List.length_map]; rfl) | simp [PX.get]), (by first | rfl | (simp only [List.length_map]; rfl) | simp [PX.get]), (by first | rfl | (simp only [List.length_map]; rfl) | simp [PX.get]), (by first | rfl | (simp only [List.length_map]; rfl) | simp [PX.get]), (by first | rfl | (simp only [List.length_map]; rfl) | simp [PX.get]), (by first | rfl | (simp only [List.length_map]; rfl) | simp [PX.get]), trivial⟩ ⟨(by first | rfl | (simp only [List.length_map]; rfl) | simp [PX.get]), (by first | rfl | (simp only [List.length_map]; rfl) | simp [PX.get]), (by first | rfl | (simp only [List.length_map]; rfl) | simp [PX.get]), (by first | rfl | (simp only [List.length_map]; rfl) | simp [PX.get]), trivial⟩)) ⟨by simp, rfl⟩ ?_ ?_
        · rintro i y r acc hy hi hr2 ⟨hal, he⟩
          rw [List.map_cons] at he
          have hso := (hR.slot y (List.mem_of_getElem? hy)).2
          conv => whnf
          refine brk_i (fun _ => ?_) (fun h => absurd hi (by have := of_decide_eq_false h; simp at this; omega))
          conv => whnf
          refine elemK_nat hy ?_
          conv => whnf
          refine arith_in (wrap_u8 (by omega)) ?_
          conv => whnf
          refine brk_i (fun h3 => ?_) (fun h3 => ?_)
          · have h3 : b3 = true := hb3.symm.trans h3
            rw [h3] at he ⊢
            conv => whnf
            refine arith_in (wrap_i64 (by omega)) ?_
            conv => whnf
            refine ownK_whole rfl ?_
            conv => whnf
            refine ownK_whole (by simp [Els.len]) ?_
            conv => whnf
            refine chk_i (decide_eq_true (by
              show ((acc.map Slot.cells).length + 1) * 16 ≤ 140737488355328
              rw [List.length_map]; omega)) ?_
            conv => whnf
            refine arith_in (wrap_i64 (by (try dsimp only); omega)) ?_
            conv => whnf
            refine ⟨acc ++ [easeSlot true y], ⟨by simp; omega, by simpa using he⟩, Wk.sub ⟨rfl, rfl, rfl, rfl, rfl, rfl, trivial⟩ ⟨rfl, rfl, ?_, ?_, trivial⟩⟩
            · show some (Obj.box (.vv [.d .nils, .sl 71 2 0 ((acc.map Slot.cells).length + 1), .d (i64 (easeRun false c.run)), .d (i64 (easeRest true c.rest))])) = _
              simp
            · show some (Obj.arr 2 (Els.dd (acc.map Slot.cells ++ [(easeSlot true y).cells]))) = _
              simp
          · have h3 : b3 = false := hb3.symm.trans h3
            rw [h3] at he ⊢
            conv => whnf
            refine ownK_whole rfl ?_
            conv => whnf
            refine ownK_whole (by simp [Els.len]) ?_
            conv => whnf
            refine chk_i (decide_eq_true (by
              show ((acc.map Slot.cells).length + 1) * 16 ≤ 140737488355328
              rw [List.length_map]; omega)) ?_
            conv => whnf
            refine arith_in (wrap_i64 (by (try dsimp only); omega)) ?_
            conv => whnf
            refine ⟨acc ++ [easeSlot false y], ⟨by simp; omega, by simpa using he⟩, Wk.sub ⟨rfl, rfl, rfl, rfl, rfl, rfl, trivial⟩ ⟨rfl, rfl, ?_, ?_, trivial⟩⟩
            · show some (Obj.box (.vv [.d .nils, .sl 71 2 0 ((acc.map Slot.cells).length + 1), .d (i64 (easeRun false c.run)), .d (i64 (easeRest true c.rest))])) = _
              simp
            · show some (Obj.arr 2 (Els.dd (acc.map Slot.cells ++ [(easeSlot false y).cells]))) = _
              simp
        · rintro acc ⟨_, hf⟩
          have hf : acc = c.slots.map (easeSlot b3) := by simpa using hf.symm
          rw [hf]
          conv => whnf
          refine brk_i (fun h => absurd h (by simp)) (fun _ => ?_)
          conv => whnf
          refine LoopA_i (T := tys) tysOk (by exact drawsB_spec mixed tysOk (by decide +kernel)) c.men (fun i (acc : List Man) => ⟨[(2, .d (.int .u8 n)), (3, .ptr 3 0), (4, .ptr 4 0), (6, .d (.bool false)), (7, .ptr 7 0), (10, .d (i64 i))], [(3, .box (.dd c.cells)), (4, .box (.dd x.cells)), (7, .box (.vv [.sl 103 3 0 acc.length, .sl 71 2 0 (c.slots.map (easeSlot b3)).length, .d (i64 (easeRun false c.run)), .d (i64 (easeRest true c.rest))])), (71, .arr 2 (.dd ((c.slots.map (easeSlot b3)).map Slot.cells))), (103, .arr 3 (.dd (acc.map Man.cells)))], st⟩)
            (fun i r acc => acc.length ≤ i ∧ c.men.map (easeMan b4) = acc ++ r.map (easeMan b4)) [] ((Wk.bornAt 7 103 3 [] [.sl 71 2 0 (c.slots.map (easeSlot b3)).length, .d (i64 (easeRun false c.run)), .d (i64 (easeRest true c.rest))] rfl rfl rfl rfl).trans (Wk.sub ⟨rfl, rfl, rfl, rfl, rfl, rfl, trivial⟩ ⟨rfl, rfl, rfl, rfl, rfl, trivial⟩)) ⟨by simp, rfl⟩ ?_ ?_
          · rintro i y r acc hy hi hr2 ⟨hal, he⟩
            rw [List.map_cons] at he
            conv => whnf
            refine brk_i (fun _ => ?_) (fun h => absurd hi (by have := of_decide_eq_false h; simp at this; omega))
            conv => whnf
            refine elemK_nat hy ?_
            conv => whnf
            refine arith_in (wrap_u8 (by omega)) ?_
            conv => whnf
            refine brk_i (fun h3 => ?_) (fun h3 => ?_)
            · have h3 : b4 = true := hb4.symm.trans h3
              conv => whnf
              refine brk_i (fun h4 => ?_) (fun h4 => ?_)
              · have h4 : 0 < y.no.length := by have := of_decide_eq_true h4; simp at this; omega
                have hem : easeMan b4 y = ⟨y.name, y.kind, y.no.tail⟩ := by
                  unfold easeMan; rw [h3, decide_eq_true h4]; rfl
                conv => whnf
                refine chk_i (by simp; omega) ?_
                conv => whnf
                refine chk_i (by cases y.no <;> rfl) ?_
                conv => whnf
                have htl : List.drop (Int.toNat 1) (List.take (List.map (fun n => [i64 n]) y.no).length (List.map (fun n => [i64 n]) y.no)) = y.no.tail.map fun n => [i64 n] := by
                  rw [List.take_length, show Int.toNat 1 = 1 from rfl, List.drop_one, List.map_tail]
                rw [htl]
                refine ownK_whole rfl ?_
                conv => whnf
                refine ownK_whole (by simp [Els.len]) ?_
                conv => whnf
                refine chk_i (decide_eq_true (by
                  show ((acc.map Man.cells).length + 1) * 48 ≤ 140737488355328
                  rw [List.length_map]; omega)) ?_
                conv => whnf
                refine arith_in (wrap_i64 (by (try dsimp only); omega)) ?_
                conv => whnf
                refine ⟨acc ++ [easeMan b4 y], ⟨by simp; omega, by simpa using he⟩, Wk.sub ⟨rfl, rfl, rfl, rfl, rfl, rfl, trivial⟩ ⟨rfl, rfl, ?_, rfl, ?_, trivial⟩⟩
                · show some (Obj.box (.vv [.sl 103 3 0 ((acc.map Man.cells).length + 1), .sl 71 2 0 (c.slots.map (easeSlot b3)).length, .d (i64 (easeRun false c.run)), .d (i64 (easeRest true c.rest))])) = _
                  simp
                · rw [hem]
                  show some (Obj.arr 3 (Els.dd (acc.map Man.cells ++ [(⟨y.name, y.kind, y.no.tail⟩ : Man).cells]))) = _
                  simp [Man.cells]
              · have hem : easeMan b4 y = y := by
                  unfold easeMan
                  rw [if_neg]
                  rw [decide_eq_false (by intro h; have := of_decide_eq_false h4; simp at this; rw [this] at h; simp at h)]
                  simp
                conv => whnf
                refine ownK_whole rfl ?_
                conv => whnf
                refine ownK_whole (by simp [Els.len]) ?_
                conv => whnf
                refine chk_i (decide_eq_true (by
                  show ((acc.map Man.cells).length + 1) * 48 ≤ 140737488355328
                  rw [List.length_map]; omega)) ?_
                conv => whnf
                refine arith_in (wrap_i64 (by (try dsimp only); omega)) ?_
                conv => whnf
                refine ⟨acc ++ [easeMan b4 y], ⟨by simp; omega, by simpa using he⟩, Wk.sub ⟨rfl, rfl, rfl, rfl, rfl, rfl, trivial⟩ ⟨rfl, rfl, ?_, rfl, ?_, trivial⟩⟩
                · show some (Obj.box (.vv [.sl 103 3 0 ((acc.map Man.cells).length + 1), .sl 71 2 0 (c.slots.map (easeSlot b3)).length, .d (i64 (easeRun false c.run)), .d (i64 (easeRest true c.rest))])) = _
                  simp
                · rw [hem]
                  show some (Obj.arr 3 (Els.dd (acc.map Man.cells ++ [y.cells]))) = _
                  simp [Man.cells]
            · have h3 : b4 = false := hb4.symm.trans h3
              have hem : easeMan b4 y = y := by
                unfold easeMan
                rw [h3]; rfl
              conv => whnf
              refine ownK_whole rfl ?_
              conv => whnf
              refine ownK_whole (by simp [Els.len]) ?_
              conv => whnf
              refine chk_i (decide_eq_true (by
                show ((acc.map Man.cells).length + 1) * 48 ≤ 140737488355328
                rw [List.length_map]; omega)) ?_
              conv => whnf
              refine arith_in (wrap_i64 (by (try dsimp only); omega)) ?_
              conv => whnf
              refine ⟨acc ++ [easeMan b4 y], ⟨by simp; omega, by simpa using he⟩, Wk.sub ⟨rfl, rfl, rfl, rfl, rfl, rfl, trivial⟩ ⟨rfl, rfl, ?_, rfl, ?_, trivial⟩⟩
              · show some (Obj.box (.vv [.sl 103 3 0 ((acc.map Man.cells).length + 1), .sl 71 2 0 (c.slots.map (easeSlot b3)).length, .d (i64 (easeRun false c.run)), .d (i64 (easeRest true c.rest))])) = _
                simp
              · rw [hem]
                show some (Obj.arr 3 (Els.dd (acc.map Man.cells ++ [y.cells]))) = _
                simp [Man.cells]
          · rintro acc ⟨_, hf⟩
            have hf : acc = c.men.map (easeMan b4) := by simpa using hf.symm
            rw [hf]
            conv => whnf
            refine brk_i (fun h => absurd h (by simp)) (fun _ => ?_)
            conv => whnf
            have hve : (checkW (easeF c false true b3 b4)).2.2 = 0 := ease_valid (val_chk hv) _ _ _ _
            have hE : WR (easeF c false true b3 b4) := wR hve
            have hsame := easier_same hR hE (ease_easier hR _ _ b3 b4)
            have hlone := lon_easier hR hE hsame
            have hent : entE c [] = 0 := by rw [ent_nil, val_chk hv]
            have hente : entE (easeF c false true b3 b4) [] = 0 := by rw [ent_nil, hve]
            refine CallA_v (ds := [c.d, x.d]) (wa51 c hR x hx) rfl rfl ?_
            obtain ⟨hg, hlen, _⟩ := any_good hR (x := x.rota) (k := x.rows.toNat % 13) (GoodR.nil c)
            have hg : GoodR c (fullF c x) := hg
            have hlen : (fullF c x).length ≤ 12 := by
              have : (fullF c x).length ≤ 0 + x.rows.toNat % 13 := hlen
              omega
            generalize fullF c x = full at hg hlen ⊢
            have h00 : LessTired c.men.length .zero .zero := ⟨rfl, fun j _ => .inl rfl⟩
            obtain ⟨hg2, _⟩ := hsame.rota h00 hg
            have hB : badF (easeF c false true b3 b4) full = (-1, 0, 0, 0) := by
              obtain ⟨a, _, _⟩ := hsame.walk (Int.le_refl 0) h00 hg.good hg.asc
              unfold badF
              rw [if_pos (hg2.ent hve (by omega)), a]
            conv => whnf
            refine CallA_view (ds := [(easeF c false true b3 b4).d, rotaD full]) (wa17 (easeF c false true b3 b4) full) rfl 2 (viewL_cons (viewV_agg (viewL_cons (viewV_sl rfl (by simp [easeF])) (viewL_cons (viewV_sl rfl (by simp [easeF])) rfl))) rfl) ?_
            rw [hB]
            conv => whnf
            refine CallA_v (ds := [c.d]) (wa28 c) rfl rfl ?_
            rw [hent, if_pos rfl]
            conv => whnf
            refine CallA_view (ds := [(easeF c false true b3 b4).d]) (wa28 (easeF c false true b3 b4)) rfl 2 (viewL_cons (viewV_agg (viewL_cons (viewV_sl rfl (by simp [easeF])) (viewL_cons (viewV_sl rfl (by simp [easeF])) rfl))) rfl) ?_
            rw [hente, if_pos rfl]
            generalize lonW (easeF c false true b3 b4) = lb at hlone ⊢
            generalize lonW c = la at hlone ⊢
            conv => whnf
            refine brk_i (fun h1 => ?_) (fun h1 => ?_)
            · conv => whnf
              refine CallA_v (wa27) rfl rfl ?_
              conv => whnf
              exact RetA_view 0 rfl ⟨⟨rfl, rfl⟩, rfl⟩
            · have h1 : lb ≠ -1 := of_decide_eq_false h1
              have hlo : la ≠ -1 ∧ la ≤ lb := hlone.resolve_left h1
              conv => whnf
              refine brk_i (fun _ => ?_) (fun h => absurd h (by simp [hlo.1]))
              conv => whnf
              refine brk_i (fun _ => ?_) (fun h => absurd h (by simp [hlo.2]))
              conv => whnf
              refine CallA_v (wa27) rfl rfl ?_
              conv => whnf
              exact RetA_view 0 rfl ⟨⟨rfl, rfl⟩, rfl⟩
      · conv => whnf
        refine LoopA_i (T := tys) tysOk (by exact drawsB_spec mixed tysOk (by decide +kernel)) c.slots (fun i (acc : List Slot) => ⟨[(2, .d (.int .u8 n)), (3, .ptr 3 0), (4, .ptr 4 0), (6, .d (.bool false)), (7, .ptr 7 0), (8, .d (i64 i))], [(3, .box (.dd c.cells)), (4, .box (.dd x.cells)), (7, .box (.vv [.d .nils, .sl 71 2 0 acc.length, .d (i64 (easeRun false c.run)), .d (i64 (easeRest false c.rest))])), (71, .arr 2 (.dd (acc.map Slot.cells)))], st⟩)
          (fun i r acc => acc.length ≤ i ∧ c.slots.map (easeSlot b3) = acc ++ r.map (easeSlot b3)) [] ((Wk.bornAtD 7 71 2 [.nils] [i64 (easeRun false c.run), i64 (easeRest false c.rest)] rfl rfl rfl rfl rfl).trans (Wk.sub ⟨(by first | rfl | (simp only [List.length_map]; rfl) | simp [PX.get]), (by first | rfl | (simp only [List.length_map]; rfl) | simp [PX.get]), (by first | rfl | (simp only [List.length_map]; rfl) | simp [PX.get]), (by first | rfl | (simp only [List.length_map]; rfl) | simp [PX.get]), (by first | rfl | (simp only [List.length_map]; rfl) | simp [PX.get]), (by first | rfl | (simp only [List.length_map]; rfl) | simp [PX.get]), trivial⟩ ⟨(by first | rfl | (simp only [List.length_map]; rfl) | simp [PX.get]), (by first | rfl | (simp only [List.length_map]; rfl) | simp [PX.get]), (by first | rfl | (simp only [List.length_map]; rfl) | simp [PX.get]), (by first | rfl | (simp only [List.length_map]; rfl) | simp [PX.get]), trivial⟩)) ⟨by simp, rfl⟩ ?_ ?_
        · rintro i y r acc hy hi hr2 ⟨hal, he⟩
          rw [List.map_cons] at he
          have hso := (hR.slot y (List.mem_of_getElem? hy)).2
          conv => whnf
          refine brk_i (fun _ => ?_) (fun h => absurd hi (by have := of_decide_eq_false h; simp at this; omega))
          conv => whnf
          refine elemK_nat hy ?_
          conv => whnf
          refine arith_in (wrap_u8 (by omega)) ?_
          conv => whnf
          refine brk_i (fun h3 => ?_) (fun h3 => ?_)
          · have h3 : b3 = true := hb3.symm.trans h3
            rw [h3] at he ⊢
            conv => whnf
            refine arith_in (wrap_i64 (by omega)) ?_
            conv => whnf
            refine ownK_whole rfl ?_
            conv => whnf
            refine ownK_whole (by simp [Els.len]) ?_
            conv => whnf
            refine chk_i (decide_eq_true (by
              show ((acc.map Slot.cells).length + 1) * 16 ≤ 140737488355328
              rw [List.length_map]; omega)) ?_
            conv => whnf
            refine arith_in (wrap_i64 (by (try dsimp only); omega)) ?_
            conv => whnf
            refine ⟨acc ++ [easeSlot true y], ⟨by simp; omega, by simpa using he⟩, Wk.sub ⟨rfl, rfl, rfl, rfl, rfl, rfl, trivial⟩ ⟨rfl, rfl, ?_, ?_, trivial⟩⟩
            · show some (Obj.box (.vv [.d .nils, .sl 71 2 0 ((acc.map Slot.cells).length + 1), .d (i64 (easeRun false c.run)), .d (i64 (easeRest false c.rest))])) = _
              simp
            · show some (Obj.arr 2 (Els.dd (acc.map Slot.cells ++ [(easeSlot true y).cells]))) = _
              simp
          · have h3 : b3 = false := hb3.symm.trans h3
            rw [h3] at he ⊢
            conv => whnf
            refine ownK_whole rfl ?_
            conv => whnf
            refine ownK_whole (by simp [Els.len]) ?_
            conv => whnf
            refine chk_i (decide_eq_true (by
              show ((acc.map Slot.cells).length + 1) * 16 ≤ 140737488355328
              rw [List.length_map]; omega)) ?_
            conv => whnf
            refine arith_in (wrap_i64 (by (try dsimp only); omega)) ?_
            conv => whnf
            refine ⟨acc ++ [easeSlot false y], ⟨by simp; omega, by simpa using he⟩, Wk.sub ⟨rfl, rfl, rfl, rfl, rfl, rfl, trivial⟩ ⟨rfl, rfl, ?_, ?_, trivial⟩⟩
            · show some (Obj.box (.vv [.d .nils, .sl 71 2 0 ((acc.map Slot.cells).length + 1), .d (i64 (easeRun false c.run)), .d (i64 (easeRest false c.rest))])) = _
              simp
            · show some (Obj.arr 2 (Els.dd (acc.map Slot.cells ++ [(easeSlot false y).cells]))) = _
              simp
        · rintro acc ⟨_, hf⟩
          have hf : acc = c.slots.map (easeSlot b3) := by simpa using hf.symm
          rw [hf]
          conv => whnf
          refine brk_i (fun h => absurd h (by simp)) (fun _ => ?_)
          conv => whnf
          refine LoopA_i (T := tys) tysOk (by exact drawsB_spec mixed tysOk (by decide +kernel)) c.men (fun i (acc : List Man) => ⟨[(2, .d (.int .u8 n)), (3, .ptr 3 0), (4, .ptr 4 0), (6, .d (.bool false)), (7, .ptr 7 0), (10, .d (i64 i))], [(3, .box (.dd c.cells)), (4, .box (.dd x.cells)), (7, .box (.vv [.sl 103 3 0 acc.length, .sl 71 2 0 (c.slots.map (easeSlot b3)).length, .d (i64 (easeRun false c.run)), .d (i64 (easeRest false c.rest))])), (71, .arr 2 (.dd ((c.slots.map (easeSlot b3)).map Slot.cells))), (103, .arr 3 (.dd (acc.map Man.cells)))], st⟩)
            (fun i r acc => acc.length ≤ i ∧ c.men.map (easeMan b4) = acc ++ r.map (easeMan b4)) [] ((Wk.bornAt 7 103 3 [] [.sl 71 2 0 (c.slots.map (easeSlot b3)).length, .d (i64 (easeRun false c.run)), .d (i64 (easeRest false c.rest))] rfl rfl rfl rfl).trans (Wk.sub ⟨rfl, rfl, rfl, rfl, rfl, rfl, trivial⟩ ⟨rfl, rfl, rfl, rfl, rfl, trivial⟩)) ⟨by simp, rfl⟩ ?_ ?_
          · rintro i y r acc hy hi hr2 ⟨hal, he⟩
            rw [List.map_cons] at he
            conv => whnf
            refine brk_i (fun _ => ?_) (fun h => absurd hi (by have := of_decide_eq_false h; simp at this; omega))
            conv => whnf
            refine elemK_nat hy ?_
            conv => whnf
            refine arith_in (wrap_u8 (by omega)) ?_
            conv => whnf
            refine brk_i (fun h3 => ?_) (fun h3 => ?_)
            · have h3 : b4 = true := hb4.symm.trans h3
              conv => whnf
              refine brk_i (fun h4 => ?_) (fun h4 => ?_)
              · have h4 : 0 < y.no.length := by have := of_decide_eq_true h4; simp at this; omega
                have hem : easeMan b4 y = ⟨y.name, y.kind, y.no.tail⟩ := by
                  unfold easeMan; rw [h3, decide_eq_true h4]; rfl
                conv => whnf
                refine chk_i (by simp; omega) ?_
                conv => whnf
                refine chk_i (by cases y.no <;> rfl) ?_
                conv => whnf
                have htl : List.drop (Int.toNat 1) (List.take (List.map (fun n => [i64 n]) y.no).length (List.map (fun n => [i64 n]) y.no)) = y.no.tail.map fun n => [i64 n] := by
                  rw [List.take_length, show Int.toNat 1 = 1 from rfl, List.drop_one, List.map_tail]
                rw [htl]
                refine ownK_whole rfl ?_
                conv => whnf
                refine ownK_whole (by simp [Els.len]) ?_
                conv => whnf
                refine chk_i (decide_eq_true (by
                  show ((acc.map Man.cells).length + 1) * 48 ≤ 140737488355328
                  rw [List.length_map]; omega)) ?_
                conv => whnf
                refine arith_in (wrap_i64 (by (try dsimp only); omega)) ?_
                conv => whnf
                refine ⟨acc ++ [easeMan b4 y], ⟨by simp; omega, by simpa using he⟩, Wk.sub ⟨rfl, rfl, rfl, rfl, rfl, rfl, trivial⟩ ⟨rfl, rfl, ?_, rfl, ?_, trivial⟩⟩
                · show some (Obj.box (.vv [.sl 103 3 0 ((acc.map Man.cells).length + 1), .sl 71 2 0 (c.slots.map (easeSlot b3)).length, .d (i64 (easeRun false c.run)), .d (i64 (easeRest false c.rest))])) = _
                  simp
                · rw [hem]
                  show some (Obj.arr 3 (Els.dd (acc.map Man.cells ++ [(⟨y.name, y.kind, y.no.tail⟩ : Man).cells]))) = _
                  simp [Man.cells]
              · have hem : easeMan b4 y = y := by
                  unfold easeMan
                  rw [if_neg]
                  rw [decide_eq_false (by intro h; have := of_decide_eq_false h4; simp at this; rw [this] at h; simp at h)]
                  simp
                conv => whnf
                refine ownK_whole rfl ?_
                conv => whnf
                refine ownK_whole (by simp [Els.len]) ?_
                conv => whnf
                refine chk_i (decide_eq_true (by
                  show ((acc.map Man.cells).length + 1) * 48 ≤ 140737488355328
                  rw [List.length_map]; omega)) ?_
                conv => whnf
                refine arith_in (wrap_i64 (by (try dsimp only); omega)) ?_
                conv => whnf
                refine ⟨acc ++ [easeMan b4 y], ⟨by simp; omega, by simpa using he⟩, Wk.sub ⟨rfl, rfl, rfl, rfl, rfl, rfl, trivial⟩ ⟨rfl, rfl, ?_, rfl, ?_, trivial⟩⟩
                · show some (Obj.box (.vv [.sl 103 3 0 ((acc.map Man.cells).length + 1), .sl 71 2 0 (c.slots.map (easeSlot b3)).length, .d (i64 (easeRun false c.run)), .d (i64 (easeRest false c.rest))])) = _
                  simp
                · rw [hem]
                  show some (Obj.arr 3 (Els.dd (acc.map Man.cells ++ [y.cells]))) = _
                  simp [Man.cells]
            · have h3 : b4 = false := hb4.symm.trans h3
              have hem : easeMan b4 y = y := by
                unfold easeMan
                rw [h3]; rfl
              conv => whnf
              refine ownK_whole rfl ?_
              conv => whnf
              refine ownK_whole (by simp [Els.len]) ?_
              conv => whnf
              refine chk_i (decide_eq_true (by
                show ((acc.map Man.cells).length + 1) * 48 ≤ 140737488355328
                rw [List.length_map]; omega)) ?_
              conv => whnf
              refine arith_in (wrap_i64 (by (try dsimp only); omega)) ?_
              conv => whnf
              refine ⟨acc ++ [easeMan b4 y], ⟨by simp; omega, by simpa using he⟩, Wk.sub ⟨rfl, rfl, rfl, rfl, rfl, rfl, trivial⟩ ⟨rfl, rfl, ?_, rfl, ?_, trivial⟩⟩
              · show some (Obj.box (.vv [.sl 103 3 0 ((acc.map Man.cells).length + 1), .sl 71 2 0 (c.slots.map (easeSlot b3)).length, .d (i64 (easeRun false c.run)), .d (i64 (easeRest false c.rest))])) = _
                simp
              · rw [hem]
                show some (Obj.arr 3 (Els.dd (acc.map Man.cells ++ [y.cells]))) = _
                simp [Man.cells]
          · rintro acc ⟨_, hf⟩
            have hf : acc = c.men.map (easeMan b4) := by simpa using hf.symm
            rw [hf]
            conv => whnf
            refine brk_i (fun h => absurd h (by simp)) (fun _ => ?_)
            conv => whnf
            have hve : (checkW (easeF c false false b3 b4)).2.2 = 0 := ease_valid (val_chk hv) _ _ _ _
            have hE : WR (easeF c false false b3 b4) := wR hve
            have hsame := easier_same hR hE (ease_easier hR _ _ b3 b4)
            have hlone := lon_easier hR hE hsame
            have hent : entE c [] = 0 := by rw [ent_nil, val_chk hv]
            have hente : entE (easeF c false false b3 b4) [] = 0 := by rw [ent_nil, hve]
            refine CallA_v (ds := [c.d, x.d]) (wa51 c hR x hx) rfl rfl ?_
            obtain ⟨hg, hlen, _⟩ := any_good hR (x := x.rota) (k := x.rows.toNat % 13) (GoodR.nil c)
            have hg : GoodR c (fullF c x) := hg
            have hlen : (fullF c x).length ≤ 12 := by
              have : (fullF c x).length ≤ 0 + x.rows.toNat % 13 := hlen
              omega
            generalize fullF c x = full at hg hlen ⊢
            have h00 : LessTired c.men.length .zero .zero := ⟨rfl, fun j _ => .inl rfl⟩
            obtain ⟨hg2, _⟩ := hsame.rota h00 hg
            have hB : badF (easeF c false false b3 b4) full = (-1, 0, 0, 0) := by
              obtain ⟨a, _, _⟩ := hsame.walk (Int.le_refl 0) h00 hg.good hg.asc
              unfold badF
              rw [if_pos (hg2.ent hve (by omega)), a]
            conv => whnf
            refine CallA_view (ds := [(easeF c false false b3 b4).d, rotaD full]) (wa17 (easeF c false false b3 b4) full) rfl 2 (viewL_cons (viewV_agg (viewL_cons (viewV_sl rfl (by simp [easeF])) (viewL_cons (viewV_sl rfl (by simp [easeF])) rfl))) rfl) ?_
            rw [hB]
            conv => whnf
            refine CallA_v (ds := [c.d]) (wa28 c) rfl rfl ?_
            rw [hent, if_pos rfl]
            conv => whnf
            refine CallA_view (ds := [(easeF c false false b3 b4).d]) (wa28 (easeF c false false b3 b4)) rfl 2 (viewL_cons (viewV_agg (viewL_cons (viewV_sl rfl (by simp [easeF])) (viewL_cons (viewV_sl rfl (by simp [easeF])) rfl))) rfl) ?_
            rw [hente, if_pos rfl]
            generalize lonW (easeF c false false b3 b4) = lb at hlone ⊢
            generalize lonW c = la at hlone ⊢
            conv => whnf
            refine brk_i (fun h1 => ?_) (fun h1 => ?_)
            · conv => whnf
              refine CallA_v (wa27) rfl rfl ?_
              conv => whnf
              exact RetA_view 0 rfl ⟨⟨rfl, rfl⟩, rfl⟩
            · have h1 : lb ≠ -1 := of_decide_eq_false h1
              have hlo : la ≠ -1 ∧ la ≤ lb := hlone.resolve_left h1
              conv => whnf
              refine brk_i (fun _ => ?_) (fun h => absurd h (by simp [hlo.1]))
              conv => whnf
              refine brk_i (fun _ => ?_) (fun h => absurd h (by simp [hlo.2]))
              conv => whnf
              refine CallA_v (wa27) rfl rfl ?_
              conv => whnf
              exact RetA_view 0 rfl ⟨⟨rfl, rfl⟩, rfl⟩
end Go.PX

namespace Go.PX
open Go.Proofs

/- Watch: some, alone, All. -/

def bit8 (set : Int) (m : Nat) : Bool := decide ((set.fdiv (2 ^ min (m : Int).toNat IntKind.u8.bits)).tmod 2 = 1)

theorem wa45 (c : WCase) (hm : c.men.length ≤ 5) (set : Int) : FnV Try.prog 45 [c.d, .int .u8 set] (intsD (natI (idxL c.men.length (bit8 set)))) := by
  refine fnV_of mixed tysOk Try.func45 rfl (ft := ft45) 2 (by decide +kernel) (by rfl) fun {σ} Y st => ?_
  conv => whnf
  generalize hM : natI (idxL c.men.length (bit8 set)) = M
  refine LoopA_i (T := tys) tysOk (by exact drawsB_spec mixed tysOk (by decide +kernel)) (List.range c.men.length) (fun j (acc : List Int) => ⟨[(1, .d (.int .u8 set)), (2, .ptr 2 0), (5, .sl 22 1 0 acc.length), (6, .d (i64 j))], [(2, .box (.dd c.cells)), (22, .arr 1 (.dd (intsC acc)))], st⟩)
    (fun j r acc => acc.length ≤ j ∧ M = acc ++ natI (r.filter (bit8 set))) [] ((Wk.born 5 22 1 rfl rfl rfl).trans (Wk.sub ⟨(by first | rfl | (simp only [List.length_map]; rfl) | simp [PX.get]), (by first | rfl | (simp only [List.length_map]; rfl) | simp [PX.get]), (by first | rfl | (simp only [List.length_map]; rfl) | simp [PX.get]), (by first | rfl | (simp only [List.length_map]; rfl) | simp [PX.get]), trivial⟩ ⟨(by first | rfl | (simp only [List.length_map]; rfl) | simp [PX.get]), (by first | rfl | (simp only [List.length_map]; rfl) | simp [PX.get]), trivial⟩)) ⟨by simp, hM.symm⟩ ?_ ?_
  · rintro j y r acc hy hj hr2 ⟨hal, he⟩
    have hxj : j = y := by
      rw [List.getElem?_range (by simpa using hj)] at hy
      exact Option.some.inj hy
    subst hxj
    have hjm : j < c.men.length := by simpa using hj
    conv => whnf
    refine brk_i (fun _ => ?_) (fun h => absurd hjm (by have := of_decide_eq_false h; simp at this; omega))
    conv => whnf
    skip
    refine brk_i (fun h1 => ?_) (fun h1 => ?_)
    · have h1 : (bit8 set) j = true := h1
      rw [List.filter_cons, if_pos h1] at he
      conv => whnf
      refine ownK_whole rfl ?_
      conv => whnf
      refine ownK_whole (by simp [Els.len, intsC]) ?_
      conv => whnf
      refine chk_i (decide_eq_true (by
        show ((intsC acc).length + 1) * 8 ≤ 140737488355328
        simp [intsC]; omega)) ?_
      conv => whnf
      refine arith_in (wrap_i64 (by (try dsimp only); omega)) ?_
      conv => whnf
      refine ⟨acc ++ [(j : Int)], ⟨by simp; omega, by simpa [natI] using he⟩, Wk.sub ⟨rfl, rfl, ?_, rfl, trivial⟩ ⟨rfl, ?_, trivial⟩⟩
      · show some (V.sl 22 1 0 ((intsC acc).length + 1)) = _
        simp [intsC]
      · show some (Obj.arr 1 (Els.dd (intsC acc ++ [[i64 (j : Int)]]))) = _
        simp [intsC]
    · have h1 : (bit8 set) j = false := h1
      rw [List.filter_cons, if_neg (by simpa using h1)] at he
      conv => whnf
      refine arith_in (wrap_i64 (by (try dsimp only); omega)) ?_
      conv => whnf
      exact ⟨acc, ⟨by omega, he⟩, (Wk.sub ⟨(by first | rfl | (simp only [List.length_map]; rfl) | simp [PX.get]), (by first | rfl | (simp only [List.length_map]; rfl) | simp [PX.get]), (by first | rfl | (simp only [List.length_map]; rfl) | simp [PX.get]), (by first | rfl | (simp only [List.length_map]; rfl) | simp [PX.get]), trivial⟩ ⟨(by first | rfl | (simp only [List.length_map]; rfl) | simp [PX.get]), (by first | rfl | (simp only [List.length_map]; rfl) | simp [PX.get]), trivial⟩)⟩
  · rintro acc ⟨_, he⟩
    have he : M = acc := by simpa [natI] using he
    rw [he]
    conv => whnf
    refine brk_i (fun h => absurd h (by simp)) (fun _ => ?_)
    conv => whnf
    refine RetA_view 1 (ds := [intsD acc]) ?_ ⟨⟨rfl, rfl⟩, rfl⟩
    exact viewL_cons (viewV_sl (es := intsC acc) rfl (by simp [intsC])) rfl

theorem wa50 (c : WCase) (hm : c.men.length ≤ 5) (man : Int) : FnV Try.prog 50 [c.d, i64 man] (intsD (natI (idxL c.men.length fun m => decide ((m : Int) ≠ man)))) := by
  refine fnV_of mixed tysOk Try.func50 rfl (ft := ft50) 2 (by decide +kernel) (by rfl) fun {σ} Y st => ?_
  conv => whnf
  generalize hM : natI (idxL c.men.length (fun m => decide ((m : Int) ≠ man))) = M
  refine LoopA_i (T := tys) tysOk (by exact drawsB_spec mixed tysOk (by decide +kernel)) (List.range c.men.length) (fun j (acc : List Int) => ⟨[(1, .d (i64 man)), (2, .ptr 2 0), (5, .sl 20 1 0 acc.length), (6, .d (i64 j))], [(2, .box (.dd c.cells)), (20, .arr 1 (.dd (intsC acc)))], st⟩)
    (fun j r acc => acc.length ≤ j ∧ M = acc ++ natI (r.filter (fun m => decide ((m : Int) ≠ man)))) [] ((Wk.born 5 20 1 rfl rfl rfl).trans (Wk.sub ⟨(by first | rfl | (simp only [List.length_map]; rfl) | simp [PX.get]), (by first | rfl | (simp only [List.length_map]; rfl) | simp [PX.get]), (by first | rfl | (simp only [List.length_map]; rfl) | simp [PX.get]), (by first | rfl | (simp only [List.length_map]; rfl) | simp [PX.get]), trivial⟩ ⟨(by first | rfl | (simp only [List.length_map]; rfl) | simp [PX.get]), (by first | rfl | (simp only [List.length_map]; rfl) | simp [PX.get]), trivial⟩)) ⟨by simp, hM.symm⟩ ?_ ?_
  · rintro j y r acc hy hj hr2 ⟨hal, he⟩
    have hxj : j = y := by
      rw [List.getElem?_range (by simpa using hj)] at hy
      exact Option.some.inj hy
    subst hxj
    have hjm : j < c.men.length := by simpa using hj
    conv => whnf
    refine brk_i (fun _ => ?_) (fun h => absurd hjm (by have := of_decide_eq_false h; simp at this; omega))
    conv => whnf
    skip
    refine brk_i (fun h1 => ?_) (fun h1 => ?_)
    · have h1 : (fun m => decide ((m : Int) ≠ man)) j = true := by simpa using h1
      rw [List.filter_cons, if_pos h1] at he
      conv => whnf
      refine ownK_whole rfl ?_
      conv => whnf
      refine ownK_whole (by simp [Els.len, intsC]) ?_
      conv => whnf
      refine chk_i (decide_eq_true (by
        show ((intsC acc).length + 1) * 8 ≤ 140737488355328
        simp [intsC]; omega)) ?_
      conv => whnf
      refine arith_in (wrap_i64 (by (try dsimp only); omega)) ?_
      conv => whnf
      refine ⟨acc ++ [(j : Int)], ⟨by simp; omega, by simpa [natI] using he⟩, Wk.sub ⟨rfl, rfl, ?_, rfl, trivial⟩ ⟨rfl, ?_, trivial⟩⟩
      · show some (V.sl 20 1 0 ((intsC acc).length + 1)) = _
        simp [intsC]
      · show some (Obj.arr 1 (Els.dd (intsC acc ++ [[i64 (j : Int)]]))) = _
        simp [intsC]
    · have h1 : (fun m => decide ((m : Int) ≠ man)) j = false := by simpa using h1
      rw [List.filter_cons, if_neg (by simpa using h1)] at he
      conv => whnf
      refine arith_in (wrap_i64 (by (try dsimp only); omega)) ?_
      conv => whnf
      exact ⟨acc, ⟨by omega, he⟩, (Wk.sub ⟨(by first | rfl | (simp only [List.length_map]; rfl) | simp [PX.get]), (by first | rfl | (simp only [List.length_map]; rfl) | simp [PX.get]), (by first | rfl | (simp only [List.length_map]; rfl) | simp [PX.get]), (by first | rfl | (simp only [List.length_map]; rfl) | simp [PX.get]), trivial⟩ ⟨(by first | rfl | (simp only [List.length_map]; rfl) | simp [PX.get]), (by first | rfl | (simp only [List.length_map]; rfl) | simp [PX.get]), trivial⟩)⟩
  · rintro acc ⟨_, he⟩
    have he : M = acc := by simpa [natI] using he
    rw [he]
    conv => whnf
    refine brk_i (fun h => absurd h (by simp)) (fun _ => ?_)
    conv => whnf
    refine RetA_view 1 (ds := [intsD acc]) ?_ ⟨⟨rfl, rfl⟩, rfl⟩
    exact viewL_cons (viewV_sl (es := intsC acc) rfl (by simp [intsC])) rfl

theorem wa46 (c : WCase) (hm : c.men.length ≤ 5) (L : List Nat) (hL : SubL c.men.length L) (hl : L.length ≤ 5) : FnV Try.prog 46 [c.d, intsD (natI L)] (subF c L).d := by
  refine fnV_of mixed tysOk Try.func46 rfl (ft := ft46) 2 (by decide +kernel) (by rfl) fun {σ} Y st => ?_
  conv => whnf
  have hsub : (subF c L).men = (natI L).map (manAt c) := by simp [subF, natI]
  refine LoopA_i (T := tys) tysOk (by exact drawsB_spec mixed tysOk (by decide +kernel)) (natI L) (fun i (acc : List Man) => ⟨[(1, .d (intsD (natI L))), (2, .ptr 2 0), (4, .ptr 4 0), (5, .ptr 5 0), (6, .d (i64 i))], [(2, .box (.dd c.cells)), (4, .box (.dd [.nils, .nils, i64 0, i64 0])), (5, .box (.vv [.sl 26 3 0 acc.length, .d (slotsD c.slots), .d (i64 c.run), .d (i64 c.rest)])), (26, .arr 3 (.dd (acc.map Man.cells)))], st⟩)
    (fun i r acc => acc.length ≤ i ∧ (natI L).map (manAt c) = acc ++ r.map (manAt c)) [] ((Wk.bornAtD 5 26 3 [] [slotsD c.slots, i64 c.run, i64 c.rest] rfl rfl rfl rfl rfl).trans (Wk.sub ⟨(by first | rfl | (simp only [List.length_map]; rfl) | simp [PX.get]), (by first | rfl | (simp only [List.length_map]; rfl) | simp [PX.get]), (by first | rfl | (simp only [List.length_map]; rfl) | simp [PX.get]), (by first | rfl | (simp only [List.length_map]; rfl) | simp [PX.get]), (by first | rfl | (simp only [List.length_map]; rfl) | simp [PX.get]), trivial⟩ ⟨(by first | rfl | (simp only [List.length_map]; rfl) | simp [PX.get]), (by first | rfl | (simp only [List.length_map]; rfl) | simp [PX.get]), (by first | rfl | (simp only [List.length_map]; rfl) | simp [PX.get]), (by first | rfl | (simp only [List.length_map]; rfl) | simp [PX.get]), trivial⟩)) ⟨by simp, rfl⟩ ?_ ?_
  · rintro i y r acc hy hi hr2 ⟨hal, he⟩
    rw [List.map_cons] at he
    have hnl : (natI L).length ≤ 5 := by simpa [natI] using hl
    obtain ⟨m, hmL, rfl⟩ := List.mem_map.1 (List.mem_of_getElem? hy)
    have hmn := hL.lt m hmL
    have hman : (c.men.map Man.cells)[((m : Nat) : Int).toNat]? = some (manAt c (m : Int)).cells := by
      rw [Int.toNat_natCast, List.getElem?_map, List.getElem?_eq_getElem hmn]
      unfold manAt
      rw [Int.toNat_natCast, List.getElem?_eq_getElem hmn]; rfl
    conv => whnf
    refine brk_i (fun _ => ?_) (fun h => absurd hi (by have := of_decide_eq_false h; simp at this; omega))
    conv => whnf
    refine elemK_nat hy ?_
    conv => whnf
    refine elemK_i (manAt c (m : Int)).cells ⟨by omega, hman⟩ ?_
    conv => whnf
    refine ownK_whole rfl ?_
    conv => whnf
    refine ownK_whole (by simp [Els.len]) ?_
    conv => whnf
    refine chk_i (decide_eq_true (by
      show ((acc.map Man.cells).length + 1) * 48 ≤ 140737488355328
      rw [List.length_map]; omega)) ?_
    conv => whnf
    refine arith_in (wrap_i64 (by (try dsimp only); omega)) ?_
    conv => whnf
    refine ⟨acc ++ [manAt c (m : Int)], ⟨by simp; omega, by simpa using he⟩, Wk.sub ⟨rfl, rfl, rfl, rfl, rfl, trivial⟩ ⟨rfl, rfl, ?_, ?_, trivial⟩⟩
    · show some (Obj.box (.vv [.sl 26 3 0 ((acc.map Man.cells).length + 1), .d (slotsD c.slots), .d (i64 c.run), .d (i64 c.rest)])) = _
      simp
    · show some (Obj.arr 3 (Els.dd (acc.map Man.cells ++ [(manAt c (m : Int)).cells]))) = _
      simp
  · rintro acc ⟨_, he⟩
    have he : (natI L).map (manAt c) = acc := by simpa using he
    rw [he] at hsub
    conv => whnf
    refine brk_i (fun h => absurd h (by simp)) (fun _ => ?_)
    conv => whnf
    have hd : (subF c L).d = .agg [.vs (acc.map Man.cells), slotsD c.slots, i64 c.run, i64 c.rest] := by
      show D.agg [mansD (subF c L).men, _, _, _] = _
      rw [hsub]; rfl
    rw [hd]
    refine RetA_view 2 (ds := [.agg [.vs (acc.map Man.cells), slotsD c.slots, i64 c.run, i64 c.rest]]) ?_ ⟨⟨rfl, rfl⟩, rfl⟩
    exact viewL_cons (viewV_agg (viewL_cons (viewV_sl rfl (by simp)) rfl)) rfl
end Go.PX

namespace Go.PX
open Go.Proofs

/- Watch: what fill finds is the first good filling. -/

def first0 (R : List Int) (f : Tired → Option (List (List Int))) : List (List Int × Tired) → Option (List (List Int))
  | [] => none
  | p :: r => if fitsG R p.1 then
      match f p.2 with
      | some l => some (p.1 :: l)
      | none => first0 R f r
    else first0 R f r

def fill0 (c : WCase) (set : Int) : List (List Int) → Tired → Option (List (List Int))
  | [], _ => some []
  | R :: rest, t => first0 R (fill0 c set rest) (groupsF c set t)

def KgTrue (c : WCase) (set : Int) (all : List (List Int)) (kg : Kg) : Prop := ∀ g v, getG kg g = some v → ∃ k : Nat, g.row = k ∧ fill0 c set (all.drop k) g.t = none

theorem tryG_true {c : WCase} {set : Int} {all : List (List Int)} {R : List Int} {f : Kg → Tired → Option (List (List Int)) × Kg} {f0 : Tired → Option (List (List Int))} (hf : ∀ kg u, KgTrue c set all kg → (f kg u).1 = f0 u ∧ KgTrue c set all (f kg u).2) :
    ∀ (l : List (List Int × Tired)) (kg : Kg), KgTrue c set all kg → (tryG R f kg l).1 = first0 R f0 l ∧ KgTrue c set all (tryG R f kg l).2
  | [], kg, h => ⟨rfl, h⟩
  | p :: r, kg, h => by
    obtain ⟨h1, h2⟩ := hf kg p.2 h
    rw [tryG, first0]
    by_cases hfit : fitsG R p.1 = true
    · rw [if_pos hfit, if_pos hfit, ← h1]
      cases hq : (f kg p.2).1 with
      | some l => exact ⟨rfl, h2⟩
      | none => exact tryG_true hf r (f kg p.2).2 h2
    · rw [if_neg hfit, if_neg hfit]
      exact tryG_true hf r kg h

theorem fillW_true {c : WCase} {set : Int} {all : List (List Int)} : ∀ (rows : List (List Int)) (row : Int) (k : Nat) (t : Tired) (kg : Kg), row = k → all.drop k = rows → KgTrue c set all kg → (fillW c set rows row t kg).1 = fill0 c set rows t ∧ KgTrue c set all (fillW c set rows row t kg).2
  | [], row, k, t, kg, _, _, h => ⟨rfl, h⟩
  | R :: rest, row, k, t, kg, hk, hd, h => by
    have hd2 : all.drop (k + 1) = rest := by
      rw [← List.tail_drop, hd]; rfl
    obtain ⟨h1, h2⟩ := tryG_true (R := R) (f := fun kg u => fillW c set rest (row + 1) u kg) (f0 := fill0 c set rest) (fun kg u hkg => fillW_true rest (row + 1) (k + 1) u kg (by omega) hd2 hkg) (groupsF c set t) kg h
    rw [fillW, fill0]
    split
    · rename_i hs
      cases hg : getG kg ⟨row, t⟩ with
      | none => rw [hg] at hs; cases hs
      | some v =>
        obtain ⟨k', hk', hn⟩ := h ⟨row, t⟩ v hg
        have : k' = k := by simp only at hk'; omega
        subst this
        rw [hd] at hn
        exact ⟨hn.symm, h⟩
    · cases hq : (tryG R (fun kg u => fillW c set rest (row + 1) u kg) kg (groupsF c set t)).1 with
      | some l =>
        rw [hq] at h1
        exact ⟨h1, h2⟩
      | none =>
        rw [hq] at h1
        refine ⟨h1, fun g v hv => ?_⟩
        simp only at hv
        rw [get_put_kg] at hv
        split at hv
        · rename_i e
          subst e
          exact ⟨k, hk, by rw [hd, fill0]; exact h1.symm⟩
        · exact h2 g v hv

theorem fillW_0 {c : WCase} {set : Int} {rows : List (List Int)} {t : Tired} : (fillW c set rows 0 t []).1 = fill0 c set rows t :=
  (fillW_true (all := rows) rows 0 0 t [] rfl rfl (fun g v h => by cases h)).1

/-- The one row comes before the other. -/
def rowLt : List Int → List Int → Prop
  | a :: r, b :: s => a < b ∨ (a = b ∧ rowLt r s)
  | _, _ => False

def leR : List (List Int) → List (List Int) → Prop
  | a :: r, b :: s => rowLt a b ∨ (a = b ∧ leR r s)
  | _, _ => True

def fitsL : List (List Int) → List (List Int) → Bool
  | [], [] => true
  | R :: rs, g :: gs => fitsG R g && fitsL rs gs
  | _, _ => false

theorem rowLt_app : ∀ (p : List Int) {a b : List Int}, rowLt a b → rowLt (p ++ a) (p ++ b)
  | [], _, _, h => h
  | x :: p, _, _, h => Or.inr ⟨rfl, rowLt_app p h⟩

theorem lists_pre {below : Nat} : ∀ {many : Nat} {p g : List Int}, g ∈ listsF below many p → ∃ r, g = p ++ r
  | 0, p, g, h => by
    rw [listsF, List.mem_singleton] at h
    exact ⟨[], by simp [h]⟩
  | many + 1, p, g, h => by
    rw [listsF, List.mem_flatMap] at h
    obtain ⟨i, _, hg⟩ := h
    obtain ⟨r, hr⟩ := lists_pre hg
    exact ⟨(i : Int) :: r, by rw [hr]; simp⟩

theorem lists_sorted {below : Nat} : ∀ {many : Nat} {p : List Int}, (listsF below many p).Pairwise rowLt
  | 0, p => by rw [listsF]; exact List.pairwise_singleton ..
  | many + 1, p => by
    rw [listsF]
    rw [List.pairwise_flatMap]
    refine ⟨fun i _ => lists_sorted, ?_⟩
    refine List.Pairwise.imp ?_ (List.pairwise_lt_range' ..)
    intro a b hab x hx y hy
    obtain ⟨r, rfl⟩ := lists_pre hx
    obtain ⟨s, rfl⟩ := lists_pre hy
    rw [List.append_assoc, List.append_assoc]
    exact rowLt_app p (Or.inl (by omega))

theorem groups_sorted {c : WCase} {set : Int} {t : Tired} : (groupsF c set t).Pairwise fun a b => rowLt a.1 b.1 := by
  unfold groupsF
  rw [groups_lists (p := []) (start := 0) rfl]
  rw [List.pairwise_map]
  exact List.Pairwise.filter _ lists_sorted

theorem first0_some {R : List Int} {f : Tired → Option (List (List Int))} {p : List Int × Tired} {tl : List (List Int)} (hfit : fitsG R p.1 = true) (hf : f p.2 = some tl) : ∀ {gs : List (List Int × Tired)}, gs.Pairwise (fun a b => rowLt a.1 b.1) → p ∈ gs → ∃ q l, first0 R f gs = some (q :: l) ∧ (rowLt q p.1 ∨ (q = p.1 ∧ l = tl))
  | [], _, h => by cases h
  | q :: r, hs, h => by
    rw [List.pairwise_cons] at hs
    rw [first0]
    rcases List.mem_cons.1 h with rfl | h
    · rw [if_pos hfit, hf]
      exact ⟨p.1, tl, rfl, .inr ⟨rfl, rfl⟩⟩
    · by_cases hq : fitsG R q.1 = true
      · rw [if_pos hq]
        cases hfq : f q.2 with
        | some l => exact ⟨q.1, l, rfl, .inl (hs.1 p h)⟩
        | none => exact first0_some hfit hf hs.2 h
      · rw [if_neg hq]
        exact first0_some hfit hf hs.2 h

/-- Each good filling has the first one before it. -/
theorem fill0_some {c : WCase} {set : Int} : ∀ {rows l : List (List Int)} {t : Tired} {i : Int}, 0 ≤ i → fitsL rows l = true → (walkF c set t l i).1.1 = -1 → (∀ r ∈ l, ascF c.men.length (-1) r = 0) → ∃ l', fill0 c set rows t = some l' ∧ leR l' l
  | [], [], t, i, _, _, _, _ => ⟨[], rfl, trivial⟩
  | [], _ :: _, t, i, _, h, _, _ => by cases h
  | _ :: _, [], t, i, _, h, _, _ => by cases h
  | R :: rest, g :: l, t, i, hi, hf, hw, ha => by
    rw [fitsL, Bool.and_eq_true] at hf
    rw [walkF] at hw
    split at hw
    · rename_i h1
      have hp := group_mem' (ha g (by simp)) h1
      obtain ⟨tl, ht, hle⟩ := fill0_some (rows := rest) (l := l) (by omega) hf.2 hw fun r hr => ha r (by simp [hr])
      obtain ⟨q, l', h2, h3⟩ := first0_some (R := R) (f := fill0 c set rest) (p := (g, behindF c t g)) hf.1 ht groups_sorted hp
      refine ⟨q :: l', by rw [fill0]; exact h2, ?_⟩
      rcases h3 with h3 | ⟨h3, h4⟩
      · exact Or.inl h3
      · exact Or.inr ⟨h3, by rw [h4]; exact hle⟩
    · simp only at hw; omega

theorem first0_ok {R : List Int} {f : Tired → Option (List (List Int))} : ∀ {gs : List (List Int × Tired)} {l : List (List Int)}, first0 R f gs = some l → ∃ p ∈ gs, ∃ tl, fitsG R p.1 = true ∧ f p.2 = some tl ∧ l = p.1 :: tl
  | [], l, h => by cases h
  | q :: r, l, h => by
    rw [first0] at h
    split at h
    · rename_i hq
      split at h
      · rename_i tl ht
        cases h
        exact ⟨q, by simp, tl, hq, ht, rfl⟩
      · obtain ⟨p, hp, h2⟩ := first0_ok h
        exact ⟨p, by simp [hp], h2⟩
    · obtain ⟨p, hp, h2⟩ := first0_ok h
      exact ⟨p, by simp [hp], h2⟩

theorem fill0_ok {c : WCase} {set : Int} : ∀ {rows l : List (List Int)} {t : Tired} {i : Int}, fill0 c set rows t = some l → fitsL rows l = true ∧ (walkF c set t l i).1.1 = -1 ∧ ∀ r ∈ l, ascF c.men.length (-1) r = 0
  | [], l, t, i, h => by cases h; exact ⟨rfl, rfl, fun r h => by cases h⟩
  | R :: rest, l, t, i, h => by
    rw [fill0] at h
    obtain ⟨p, hp, tl, h1, h2, rfl⟩ := first0_ok h
    obtain ⟨h3, h4, h5⟩ := fill0_ok (i := i + 1) h2
    obtain ⟨hw, hu⟩ := group_why hp
    rw [hu] at h4
    refine ⟨by rw [fitsL, h1, h3]; rfl, by rw [walkF, if_pos hw]; exact h4, fun r hr => ?_⟩
    rcases List.mem_cons.1 hr with rfl | hr
    · exact group_asc hp
    · exact h5 r hr

theorem fits_nil : ∀ {n : Nat} {l : List (List Int)}, l.length = n → fitsL (List.replicate n []) l = true
  | 0, [], _ => rfl
  | n + 1, g :: l, h => by
    rw [List.replicate_succ, fitsL, fits_nil (n := n) (by simpa using h)]
    rfl
  | 0, _ :: _, h => by cases h
  | n + 1, [], h => by cases h

theorem inSet_but {c : WCase} (hR : WR c) {j : Nat} (hj : j < c.men.length) {m : Int} (h : 0 ≤ m ∧ m < c.men.length) : inSet (butSet c j) m = decide (m ≠ j) := by
  have hm := hR.men
  obtain ⟨k, rfl⟩ : ∃ k : Nat, m = k := ⟨m.toNat, by omega⟩
  unfold butSet allMen
  generalize hn : c.men.length = n at *
  have h1 : n = 1 ∨ n = 2 ∨ n = 3 ∨ n = 4 ∨ n = 5 := by omega
  have h2 : j = 0 ∨ j = 1 ∨ j = 2 ∨ j = 3 ∨ j = 4 := by omega
  have h3 : k = 0 ∨ k = 1 ∨ k = 2 ∨ k = 3 ∨ k = 4 := by omega
  rcases h1 with rfl | rfl | rfl | rfl | rfl <;> rcases h2 with rfl | rfl | rfl | rfl | rfl <;> first
    | (exact absurd hj (by decide))
    | (rcases h3 with rfl | rfl | rfl | rfl | rfl <;> first | (exact absurd h.2 (by decide)) | decide)

/-- Rows without a man stand with all men but this one. -/
theorem but_same {c : WCase} (hR : WR c) {j : Nat} (hj : j < c.men.length) : ∀ {l : List (List Int)} {t : Tired} {i : Int}, 0 ≤ i → (walkF c (allMen c) t l i).1.1 = -1 → (∀ r ∈ l, ascF c.men.length (-1) r = 0 ∧ (j : Int) ∉ r) → (walkF c (butSet c j) t l i).1.1 = -1
  | [], t, i, _, _, _ => rfl
  | g :: l, t, i, hi, hw, ha => by
    rw [walkF] at hw
    split at hw
    · rename_i h1
      obtain ⟨ha1, ha2⟩ := ha g (by simp)
      have hin := asc_in ha1
      obtain ⟨b1, b2, b3, b4, b5⟩ := why_zero h1
      have h2 : (whyT c (butSet c j) t g).1 = 0 := why_of b1 b2 (fun m hm => ⟨by
        rw [inSet_but hR hj (hin m hm)]
        exact decide_eq_true fun e => ha2 (e ▸ hm), (b3 m hm).2⟩) b4 b5
      rw [walkF, if_pos h2]
      exact but_same hR hj (by omega) hw fun r hr => ha r (by simp [hr])
    · simp only at hw; omega
end Go.PX
