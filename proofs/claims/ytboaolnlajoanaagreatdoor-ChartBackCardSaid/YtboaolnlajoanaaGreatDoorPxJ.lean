import Derived.Test.YtboaolnlajoanaaGreatDoorPxI
import Derived.HandedShaped
import Derived.LaidMore
import Derived.Lay
import Derived.Lib.LaidU8
import Derived.Shelf.Vars
import Derived.Stop.Joined
import Derived.Test.YtboaolnlajoanaaGreatDoorRows
import Derived.Test.YtboaolnlajoanaaGreatDoorPxA
import Derived.Test.YtboaolnlajoanaaGreatDoorPxH
import Derived.Test.YtboaolnlajoanaaGreatDoorProg
import Derived.Laws.RangeString
set_option linter.all false
set_option maxRecDepth 10000
namespace Go.PX
theorem returnsInHanded_laid {H : Type} {enc : TypeId × Value → H} {a : Assume} {C : Checked} {os : Os} {f : FuncId} {fn : Func} {s : ChangeSpec} {conds : List PathCond} {apart fresh handsOn again : Bool} {X : World → Array Value → Prop}
  (hX : ∀ (w w' : World) (args : Array Value), w.heap = w'.heap → X w args → X w' args)
  (own : ownKnob C.prog.godebug = none) (started : os.Started) (noInit : C.prog.inits.idxOf? f = none) (hfn : C.prog.funcs[f]? = some fn)
  (witness : ∃ (w : World) (tape : Tape) (i : Input), w.os = os ∧ (w.forCall tape i).Shaped C.prog ∧ i.vars = [] ∧ Input.okWide C.prog (w.forCall tape i) .any w.heap.size f i ∧
   ((s.pre enc C.prog fn conds apart (w.forCall tape i).memory i.args ∧ X (w.forCall tape i).memory i.args) ∧ sizedMet enc C.prog fn (OpenSpec.ofChange s) apart (w.forCall tape i).memory i.args) ∧ a.holds C.prog (lone (Frame.enter C.prog f i.args .normal) [] (w.forCall tape i)))
  (contract : ∀ (W : World) (base : Nat) (args : Array Value) (ds gs : List (DataW H)) (before : List MemPlace),
   (∀ (j : Nat) t v, fn.params[j]? = some t → args[j]? = some v → Value.okWide C.prog W .any base t v) →
   DataW.Whole enc C.prog fn.params.toList s.vars apart W args.toList ds gs before →
   conds.all (PathCond.test C.prog ⟨fn.params.toList, ds, s.plain.varTypes C.prog, gs⟩) = true →
   (DataW.weightsEach C.prog (fn.params.toList ++ s.plain.varTypes C.prog) (ds ++ gs)).all (· ≤ reachBytes) = true → X W args → W.ShapedOpen C.prog →
   Calls C.prog f args W fun e W' => ∃ v, e = .returned v ∧ s.post enc C.prog fn apart fresh handsOn again W args v W') :
  ReturnsInHanded a C os f .any (fun w args => (s.pre enc C.prog fn conds apart w args ∧ X w args) ∧ sizedMet enc C.prog fn (OpenSpec.ofChange s) apart w args) (s.post enc C.prog fn apart fresh handsOn again) := by
 refine returnsInHanded_of_calls own started noInit witness ?_
 intro w tape i _ hsh _ hok hpre hholds
 obtain ⟨_, _, _, fn', hfn', _, _, _, _, hval⟩ := hok
 have e : fn' = fn := Option.some.inj (hfn'.symm.trans hfn)
 subst e
 obtain ⟨⟨⟨ds, gs, before, hw, hc⟩, hx⟩, hz⟩ := hpre
 have hw' := DataW.Whole.of_heap (w' := w.forCall tape i) (by rfl) hw
 refine (contract (w.forCall tape i) w.heap.size i.args ds gs before hval hw' hc (hz.weights hw) (hX _ _ _ (by rfl) hx) hsh).mono fun e W' ⟨v, he, hp⟩ => ?_
 subst he
 exact ChangeSpec.post_blind hp
theorem iface_of_reads {P : Program} {w : World} {n nm : String} {d : DataW Unit} {g t : Nat} {ms : Array (String × TypeId)} (h : Lib.VarReads P w n (.iface nm d)) (hg : P.globalNamed n = some g) (ht : (P.globals[g]?).map (·.type) = some t) (hi : P.underlying t = some (.interface ms)) :
  ∃ u v, w.cell? ⟨g, 0, none⟩ = some (.iface u v) := by
 obtain ⟨g0, t0, cs, fuel, p, h1, h2, h3, h4⟩ := h
 obtain rfl := Option.some.inj (hg.symm.trans h1)
 obtain rfl := Option.some.inj (ht.symm.trans h2)
 have hc := World.var?_cell hg h3 0
 cases fuel with
 | zero => simp [DataW.trod] at h4
 | succ fuel =>
  simp only [DataW.trod, hi] at h4
  obtain ⟨l⟩ := cs
  rcases l with _ | ⟨x, _ | ⟨y, r⟩⟩
  ·cases h4
  ·cases x with
   | iface u v => exact ⟨u, v, by simpa using hc⟩
   | nilIface => cases h4
   | _ => cases h4
  ·cases x <;> cases h4
end Go.PX
namespace Go.Proofs.YtboaolnlajoanaaGreatDoor
open Go.ChangeShapes Go.WideShapes Go.ChangeAt Go.RowKit Go.PX
noncomputable def laidX : List (String × DataW Unit) := Rows.chartKnownRow.laid
theorem own : ownKnob Tryz.prog.godebug = none := by kernel_rfl
theorem kids : Kids Tryz.prog (· < Tryz.prog.types.size) := kids_rows (by kernel_rfl) (by kernel_rfl)
theorem full : ∀ t e, t < Tryz.prog.types.size → Tryz.prog.underlying t = some (.slice e) → 0 < Tryz.prog.cellsOf e := slices_full_of Tryz.prog (by kernel_rfl)
theorem gPow : Tryz.prog.globalNamed "internal/strconv.uint64pow10" = some 1 := by kernel_rfl
theorem gLen : Tryz.prog.globalNamed "internal/bytealg.MaxLen" = some 0 := by kernel_rfl
theorem gSyn : Tryz.prog.globalNamed "strconv.ErrSyntax" = some 4 := by kernel_rfl
theorem gRng : Tryz.prog.globalNamed "strconv.ErrRange" = some 5 := by kernel_rfl
theorem tPow : (Tryz.prog.globals[1]?).map (·.type) = some 213 := by kernel_rfl
theorem tSyn : (Tryz.prog.globals[4]?).map (·.type) = some 172 := by kernel_rfl
theorem tRng : (Tryz.prog.globals[5]?).map (·.type) = some 172 := by kernel_rfl
theorem someLen {W : World} (h : W.ShapedOpen Tryz.prog) : ∃ m, W.cell? ⟨0, 0, none⟩ = some (.int .i64 m) :=
 Go.Proofs.cell_of_shapedOpen_int (zero := #[.int .i64 0]) (t := 3) h (of_decide_eq_true (by kernel_rfl)) (by kernel_rfl) rfl (by kernel_rfl) (by kernel_rfl) Tryz.underlying3
set_option maxRecDepth 100000 in
theorem chart_laid {W : World} (hL : laidMetH Tryz.prog laidX W) (hsh : W.ShapedOpen Tryz.prog) : Laid Tryz.prog W := by
 rw [MakeChecks.laidMetH_plain _ _ _ (by kernel_rfl)] at hL
 refine ⟨fun g hg => ?_, fun g hg => ?_, fun g hg => ?_, fun g hg => ?_⟩
 ·have hr : Lib.VarReads Tryz.prog W "internal/strconv.uint64pow10" Rows.laid_internal_strconv_uint64pow10 := Lib.laidMet.reads hL (.tail _ (.tail _ (.head _)))
  obtain ⟨g0, t0, cs, fuel, p, h1, h2, h3, h4⟩ := hr
  obtain rfl := Option.some.inj (gPow.symm.trans h1)
  obtain rfl := Option.some.inj (tPow.symm.trans h2)
  unfold Lib.TabIs
  rw [h3, ← Lib.cells_of_tab (k := .u64) (zs := Lib.pow10Tab) Tryz.underlying213 Tryz.underlying201 (by kernel_rfl) (by kernel_rfl) h4]
 ·obtain rfl := Option.some.inj (gLen.symm.trans hg)
  exact someLen hsh
 ·obtain rfl := Option.some.inj (gSyn.symm.trans hg)
  exact iface_of_reads (Lib.laidMet.reads hL (.tail _ (.tail _ (.tail _ (.tail _ (.tail _ (.head _))))))) gSyn tSyn Tryz.underlying172
 ·obtain rfl := Option.some.inj (gRng.symm.trans hg)
  exact iface_of_reads (Lib.laidMet.reads hL (.tail _ (.tail _ (.tail _ (.tail _ (.head _)))))) gRng tRng Tryz.underlying172
theorem witness_laid (os : Os) (args : Array Value) : laidMetH Tryz.prog laidX ((World.laidAll Tryz.prog os laidX).forCall (fun _ _ => 0) ⟨#[], args, []⟩).memory := by
 rw [MakeChecks.laidMetH_plain _ _ _ (by kernel_rfl)]
 exact laidMet_laidAll _ (by kernel_rfl) (by kernel_rfl)
theorem witness_shape (os : Os) (args : Array Value) : ((World.laidAll Tryz.prog os laidX).forCall (fun _ _ => 0) ⟨#[], args, []⟩).Shaped Tryz.prog :=
 World.shaped_of_ZipB (by kernel_rfl) (by kernel_rfl)
end Go.Proofs.YtboaolnlajoanaaGreatDoor
namespace Go.PX
def tys : Tys := (.nd (.nd (.nd (.nd (.nd (.nd (.nd .lf 1
 { size := 1, bytes := 8, kd := .other, isAgg := false, held := false, zero := some [.nilf] }
 .lf) 2
 { size := 1, bytes := 8, kd := (.int .i64), isAgg := false, held := false, zero := some [.int .i64 0] }
 .lf) 3
 { size := 1, bytes := 8, kd := (.int .i64), isAgg := false, held := false, zero := some [.int .i64 0] }
 (.nd .lf 4
 { size := 1, bytes := 1, kd := .bool, isAgg := false, held := false, zero := some [.bool false] }
 .lf)) 5
 { size := 1, bytes := 1, kd := (.int .u8), isAgg := false, held := false, zero := some [.int .u8 0] }
 (.nd (.nd (.nd .lf 9
 { size := 1, bytes := 16, kd := .str, isAgg := false, held := false, zero := some [.str ⟨#[]⟩] }
 .lf) 20
 { size := 1, bytes := 16, kd := .iface, isAgg := false, held := false, zero := some [.nili] }
 .lf) 21
 { size := 1, bytes := 4, kd := (.int .i32), isAgg := false, held := false, zero := some [.int .i32 0] }
 (.nd .lf 22
 { size := 1, bytes := 24, kd := (.slice 95), isAgg := false, held := false, zero := some [.nils] }
 .lf))) 23
 { size := 1, bytes := 24, kd := (.slice 70), isAgg := false, held := false, zero := some [.nils] }
 (.nd (.nd (.nd (.nd .lf 25
 { size := 2, bytes := 48, kd := (.struct [(0, 22), (1, 23)]), isAgg := true, held := false, zero := some [.nils, .nils] }
 .lf) 27
 { size := 2, bytes := 16, kd := (.struct [(0, 3), (1, 3)]), isAgg := true, held := false, zero := some [.int .i64 0, .int .i64 0] }
 .lf) 28
 { size := 1, bytes := 8, kd := (.int .i64), isAgg := false, held := false, zero := some [.int .i64 0] }
 (.nd .lf 36
 { size := 1, bytes := 24, kd := (.slice 3), isAgg := false, held := false, zero := some [.nils] }
 .lf)) 46
 { size := 2, bytes := 16, kd := (.struct [(0, 3), (1, 3)]), isAgg := true, held := false, zero := some [.int .i64 0, .int .i64 0] }
 (.nd (.nd .lf 48
 { size := 4, bytes := 32, kd := (.struct [(0, 46), (2, 46)]), isAgg := true, held := false, zero := some [.int .i64 0, .int .i64 0, .int .i64 0, .int .i64 0] }
 .lf) 50
 { size := 8, bytes := 64, kd := (.struct [(0, 3), (1, 3), (2, 27), (4, 48)]), isAgg := true, held := false, zero := some [.int .i64 0, .int .i64 0, .int .i64 0, .int .i64 0, .int .i64 0, .int .i64 0, .int .i64 0, .int .i64 0] }
 (.nd .lf 64
 { size := 1, bytes := 24, kd := (.slice 82), isAgg := false, held := false, zero := some [.nils] }
 .lf)))) 68
 { size := 1, bytes := 24, kd := (.slice 27), isAgg := false, held := false, zero := some [.nils] }
 (.nd (.nd (.nd (.nd (.nd .lf 70
 { size := 6, bytes := 72, kd := (.struct [(0, 9), (1, 68), (2, 48)]), isAgg := true, held := false, zero := some [.str ⟨#[]⟩, .nils, .int .i64 0, .int .i64 0, .int .i64 0, .int .i64 0] }
 .lf) 74
 { size := 2, bytes := 48, kd := (.array 2 64), isAgg := true, held := false, zero := some [.nils, .nils] }
 .lf) 79
 { size := 4, bytes := 4, kd := (.array 4 5), isAgg := true, held := false, zero := some [.int .u8 0, .int .u8 0, .int .u8 0, .int .u8 0] }
 (.nd .lf 82
 { size := 1, bytes := 2, kd := (.int .u16), isAgg := false, held := false, zero := some [.int .u16 0] }
 .lf)) 83
 { size := 1, bytes := 2, kd := (.int .i16), isAgg := false, held := false, zero := some [.int .i16 0] }
 (.nd (.nd (.nd .lf 84
 { size := 2, bytes := 4, kd := (.array 2 83), isAgg := true, held := false, zero := some [.int .i16 0, .int .i16 0] }
 .lf) 86
 { size := 4, bytes := 8, kd := (.struct [(0, 82), (1, 5), (2, 84)]), isAgg := true, held := false, zero := some [.int .u16 0, .int .u8 0, .int .i16 0, .int .i16 0] }
 .lf) 89
 { size := 1, bytes := 1, kd := (.int .i8), isAgg := false, held := false, zero := some [.int .i8 0] }
 (.nd .lf 90
 { size := 2, bytes := 2, kd := (.array 2 89), isAgg := true, held := false, zero := some [.int .i8 0, .int .i8 0] }
 .lf))) 92
 { size := 5, bytes := 32, kd := (.struct [(0, 86), (4, 64)]), isAgg := true, held := false, zero := some [.int .u16 0, .int .u8 0, .int .i16 0, .int .i16 0, .nils] }
 (.nd (.nd (.nd (.nd .lf 93
 { size := 1, bytes := 24, kd := (.slice 103), isAgg := false, held := false, zero := some [.nils] }
 .lf) 95
 { size := 4, bytes := 56, kd := (.struct [(0, 9), (1, 27), (3, 93)]), isAgg := true, held := false, zero := some [.str ⟨#[]⟩, .int .i64 0, .int .i64 0, .nils] }
 .lf) 103
 { size := 2, bytes := 16, kd := (.struct [(0, 3), (1, 3)]), isAgg := true, held := false, zero := some [.int .i64 0, .int .i64 0] }
 (.nd .lf 106
 { size := 16, bytes := 128, kd := (.array 8 27), isAgg := true, held := false, zero := some [.int .i64 0, .int .i64 0, .int .i64 0, .int .i64 0, .int .i64 0, .int .i64 0, .int .i64 0, .int .i64 0, .int .i64 0, .int .i64 0, .int .i64 0, .int .i64 0, .int .i64 0, .int .i64 0, .int .i64 0, .int .i64 0] }
 .lf)) 110
 { size := 1, bytes := 8, kd := (.map 9 3), isAgg := false, held := false, zero := some [.nilm] }
 (.nd (.nd .lf 111
 { size := 1, bytes := 8, kd := .other, isAgg := false, held := false, zero := some [.nilf] }
 .lf) 115
 { size := 6, bytes := 72, kd := (.struct [(0, 70)]), isAgg := true, held := false, zero := some [.str ⟨#[]⟩, .nils, .int .i64 0, .int .i64 0, .int .i64 0, .int .i64 0] }
 (.nd .lf 117
 { size := 1, bytes := 24, kd := (.slice 9), isAgg := false, held := false, zero := some [.nils] }
 .lf))))) 123
 { size := 2, bytes := 16, kd := (.struct [(0, 3), (1, 3)]), isAgg := true, held := false, zero := some [.int .i64 0, .int .i64 0] }
 (.nd (.nd (.nd (.nd (.nd (.nd .lf 136
 { size := 32, bytes := 256, kd := (.array 32 3), isAgg := true, held := false, zero := some [.int .i64 0, .int .i64 0, .int .i64 0, .int .i64 0, .int .i64 0, .int .i64 0, .int .i64 0, .int .i64 0, .int .i64 0, .int .i64 0, .int .i64 0, .int .i64 0, .int .i64 0, .int .i64 0, .int .i64 0, .int .i64 0, .int .i64 0, .int .i64 0, .int .i64 0, .int .i64 0, .int .i64 0, .int .i64 0, .int .i64 0, .int .i64 0, .int .i64 0, .int .i64 0, .int .i64 0, .int .i64 0, .int .i64 0, .int .i64 0, .int .i64 0, .int .i64 0] }
 .lf) 137
 { size := 1, bytes := 24, kd := (.slice 4), isAgg := false, held := false, zero := some [.nils] }
 .lf) 143
 { size := 1, bytes := 8, kd := .other, isAgg := false, held := false, zero := some [.nilp] }
 (.nd .lf 150
 { size := 1, bytes := 24, kd := (.slice 46), isAgg := false, held := false, zero := some [.nils] }
 .lf)) 152
 { size := 1, bytes := 8, kd := .other, isAgg := false, held := false, zero := some [.nilf] }
 (.nd (.nd (.nd .lf 155
 { size := 1, bytes := 8, kd := .other, isAgg := false, held := false, zero := some [.nilf] }
 .lf) 156
 { size := 1, bytes := 8, kd := .other, isAgg := false, held := false, zero := some [.nilf] }
 .lf) 157
 { size := 1, bytes := 8, kd := .other, isAgg := false, held := false, zero := some [.nilf] }
 (.nd .lf 160
 { size := 4, bytes := 32, kd := (.struct [(0, 27), (2, 27)]), isAgg := true, held := false, zero := some [.int .i64 0, .int .i64 0, .int .i64 0, .int .i64 0] }
 .lf))) 164
 { size := 1, bytes := 8, kd := .other, isAgg := false, held := false, zero := some [.nilf] }
 (.nd (.nd (.nd (.nd .lf 165
 { size := 1, bytes := 8, kd := .other, isAgg := false, held := false, zero := some [.nilf] }
 .lf) 167
 { size := 1, bytes := 8, kd := .other, isAgg := false, held := false, zero := some [.nilp] }
 .lf) 168
 { size := 1, bytes := 24, kd := (.slice 5), isAgg := false, held := false, zero := some [.nils] }
 (.nd .lf 170
 { size := 2, bytes := 32, kd := (.struct [(0, 167), (1, 168)]), isAgg := true, held := false, zero := some [.nilp, .nils] }
 .lf)) 172
 { size := 1, bytes := 16, kd := .iface, isAgg := false, held := false, zero := some [.nili] }
 (.nd (.nd .lf 177
 { size := 1, bytes := 8, kd := .other, isAgg := false, held := false, zero := some [.nilf] }
 .lf) 179
 { size := 1, bytes := 24, kd := (.slice 9), isAgg := false, held := false, zero := some [.nils] }
 (.nd .lf 185
 { size := 1, bytes := 8, kd := .other, isAgg := false, held := false, zero := some [.nilf] }
 .lf)))) 187
 { size := 1, bytes := 8, kd := .other, isAgg := false, held := false, zero := some [.nilf] }
 (.nd (.nd (.nd (.nd (.nd .lf 188
 { size := 1, bytes := 8, kd := .other, isAgg := false, held := false, zero := some [.nilp] }
 .lf) 191
 { size := 1, bytes := 8, kd := .other, isAgg := false, held := false, zero := some [.nilp] }
 .lf) 198
 { size := 1, bytes := 8, kd := (.int .u64), isAgg := false, held := false, zero := some [.int .u64 0] }
 (.nd .lf 200
 { size := 24, bytes := 24, kd := (.array 24 5), isAgg := true, held := false, zero := some [.int .u8 0, .int .u8 0, .int .u8 0, .int .u8 0, .int .u8 0, .int .u8 0, .int .u8 0, .int .u8 0, .int .u8 0, .int .u8 0, .int .u8 0, .int .u8 0, .int .u8 0, .int .u8 0, .int .u8 0, .int .u8 0, .int .u8 0, .int .u8 0, .int .u8 0, .int .u8 0, .int .u8 0, .int .u8 0, .int .u8 0, .int .u8 0] }
 .lf)) 201
 { size := 1, bytes := 8, kd := (.int .u64), isAgg := false, held := false, zero := some [.int .u64 0] }
 (.nd (.nd (.nd .lf 206
 { size := 1, bytes := 4, kd := (.int .u32), isAgg := false, held := false, zero := some [.int .u32 0] }
 .lf) 213
 { size := 20, bytes := 160, kd := (.array 20 201), isAgg := true, held := false, zero := some [.int .u64 0, .int .u64 0, .int .u64 0, .int .u64 0, .int .u64 0, .int .u64 0, .int .u64 0, .int .u64 0, .int .u64 0, .int .u64 0, .int .u64 0, .int .u64 0, .int .u64 0, .int .u64 0, .int .u64 0, .int .u64 0, .int .u64 0, .int .u64 0, .int .u64 0, .int .u64 0] }
 .lf) 214
 { size := 65, bytes := 65, kd := (.array 65 5), isAgg := true, held := false, zero := some [.int .u8 0, .int .u8 0, .int .u8 0, .int .u8 0, .int .u8 0, .int .u8 0, .int .u8 0, .int .u8 0, .int .u8 0, .int .u8 0, .int .u8 0, .int .u8 0, .int .u8 0, .int .u8 0, .int .u8 0, .int .u8 0, .int .u8 0, .int .u8 0, .int .u8 0, .int .u8 0, .int .u8 0, .int .u8 0, .int .u8 0, .int .u8 0, .int .u8 0, .int .u8 0, .int .u8 0, .int .u8 0, .int .u8 0, .int .u8 0, .int .u8 0, .int .u8 0, .int .u8 0, .int .u8 0, .int .u8 0, .int .u8 0, .int .u8 0, .int .u8 0, .int .u8 0, .int .u8 0, .int .u8 0, .int .u8 0, .int .u8 0, .int .u8 0, .int .u8 0, .int .u8 0, .int .u8 0, .int .u8 0, .int .u8 0, .int .u8 0, .int .u8 0, .int .u8 0, .int .u8 0, .int .u8 0, .int .u8 0, .int .u8 0, .int .u8 0, .int .u8 0, .int .u8 0, .int .u8 0, .int .u8 0, .int .u8 0, .int .u8 0, .int .u8 0, .int .u8 0] }
 (.nd .lf 216
 { size := 1, bytes := 8, kd := (.int .i64), isAgg := false, held := false, zero := some [.int .i64 0] }
 .lf))) 219
 { size := 1, bytes := 8, kd := .other, isAgg := false, held := false, zero := some [.nilp] }
 (.nd (.nd (.nd (.nd .lf 223
 { size := 256, bytes := 256, kd := (.array 256 5), isAgg := true, held := false, zero := some [.int .u8 0, .int .u8 0, .int .u8 0, .int .u8 0, .int .u8 0, .int .u8 0, .int .u8 0, .int .u8 0, .int .u8 0, .int .u8 0, .int .u8 0, .int .u8 0, .int .u8 0, .int .u8 0, .int .u8 0, .int .u8 0, .int .u8 0, .int .u8 0, .int .u8 0, .int .u8 0, .int .u8 0, .int .u8 0, .int .u8 0, .int .u8 0, .int .u8 0, .int .u8 0, .int .u8 0, .int .u8 0, .int .u8 0, .int .u8 0, .int .u8 0, .int .u8 0, .int .u8 0, .int .u8 0, .int .u8 0, .int .u8 0, .int .u8 0, .int .u8 0, .int .u8 0, .int .u8 0, .int .u8 0, .int .u8 0, .int .u8 0, .int .u8 0, .int .u8 0, .int .u8 0, .int .u8 0, .int .u8 0, .int .u8 0, .int .u8 0, .int .u8 0, .int .u8 0, .int .u8 0, .int .u8 0, .int .u8 0, .int .u8 0, .int .u8 0, .int .u8 0, .int .u8 0, .int .u8 0, .int .u8 0, .int .u8 0, .int .u8 0, .int .u8 0, .int .u8 0, .int .u8 0, .int .u8 0, .int .u8 0, .int .u8 0, .int .u8 0, .int .u8 0, .int .u8 0, .int .u8 0, .int .u8 0, .int .u8 0, .int .u8 0, .int .u8 0, .int .u8 0, .int .u8 0, .int .u8 0, .int .u8 0, .int .u8 0, .int .u8 0, .int .u8 0, .int .u8 0, .int .u8 0, .int .u8 0, .int .u8 0, .int .u8 0, .int .u8 0, .int .u8 0, .int .u8 0, .int .u8 0, .int .u8 0, .int .u8 0, .int .u8 0, .int .u8 0, .int .u8 0, .int .u8 0, .int .u8 0, .int .u8 0, .int .u8 0, .int .u8 0, .int .u8 0, .int .u8 0, .int .u8 0, .int .u8 0, .int .u8 0, .int .u8 0, .int .u8 0, .int .u8 0, .int .u8 0, .int .u8 0, .int .u8 0, .int .u8 0, .int .u8 0, .int .u8 0, .int .u8 0, .int .u8 0, .int .u8 0, .int .u8 0, .int .u8 0, .int .u8 0, .int .u8 0, .int .u8 0, .int .u8 0, .int .u8 0, .int .u8 0, .int .u8 0, .int .u8 0, .int .u8 0, .int .u8 0, .int .u8 0, .int .u8 0, .int .u8 0, .int .u8 0, .int .u8 0, .int .u8 0, .int .u8 0, .int .u8 0, .int .u8 0, .int .u8 0, .int .u8 0, .int .u8 0, .int .u8 0, .int .u8 0, .int .u8 0, .int .u8 0, .int .u8 0, .int .u8 0, .int .u8 0, .int .u8 0, .int .u8 0, .int .u8 0, .int .u8 0, .int .u8 0, .int .u8 0, .int .u8 0, .int .u8 0, .int .u8 0, .int .u8 0, .int .u8 0, .int .u8 0, .int .u8 0, .int .u8 0, .int .u8 0, .int .u8 0, .int .u8 0, .int .u8 0, .int .u8 0, .int .u8 0, .int .u8 0, .int .u8 0, .int .u8 0, .int .u8 0, .int .u8 0, .int .u8 0, .int .u8 0, .int .u8 0, .int .u8 0, .int .u8 0, .int .u8 0, .int .u8 0, .int .u8 0, .int .u8 0, .int .u8 0, .int .u8 0, .int .u8 0, .int .u8 0, .int .u8 0, .int .u8 0, .int .u8 0, .int .u8 0, .int .u8 0, .int .u8 0, .int .u8 0, .int .u8 0, .int .u8 0, .int .u8 0, .int .u8 0, .int .u8 0, .int .u8 0, .int .u8 0, .int .u8 0, .int .u8 0, .int .u8 0, .int .u8 0, .int .u8 0, .int .u8 0, .int .u8 0, .int .u8 0, .int .u8 0, .int .u8 0, .int .u8 0, .int .u8 0, .int .u8 0, .int .u8 0, .int .u8 0, .int .u8 0, .int .u8 0, .int .u8 0, .int .u8 0, .int .u8 0, .int .u8 0, .int .u8 0, .int .u8 0, .int .u8 0, .int .u8 0, .int .u8 0, .int .u8 0, .int .u8 0, .int .u8 0, .int .u8 0, .int .u8 0, .int .u8 0, .int .u8 0, .int .u8 0, .int .u8 0, .int .u8 0, .int .u8 0, .int .u8 0, .int .u8 0, .int .u8 0, .int .u8 0, .int .u8 0, .int .u8 0, .int .u8 0, .int .u8 0, .int .u8 0, .int .u8 0, .int .u8 0, .int .u8 0, .int .u8 0, .int .u8 0, .int .u8 0, .int .u8 0] }
 .lf) 225
 { size := 2, bytes := 2, kd := (.struct [(0, 5), (1, 5)]), isAgg := true, held := false, zero := some [.int .u8 0, .int .u8 0] }
 .lf) 226
 { size := 32, bytes := 32, kd := (.array 16 225), isAgg := true, held := false, zero := some [.int .u8 0, .int .u8 0, .int .u8 0, .int .u8 0, .int .u8 0, .int .u8 0, .int .u8 0, .int .u8 0, .int .u8 0, .int .u8 0, .int .u8 0, .int .u8 0, .int .u8 0, .int .u8 0, .int .u8 0, .int .u8 0, .int .u8 0, .int .u8 0, .int .u8 0, .int .u8 0, .int .u8 0, .int .u8 0, .int .u8 0, .int .u8 0, .int .u8 0, .int .u8 0, .int .u8 0, .int .u8 0, .int .u8 0, .int .u8 0, .int .u8 0, .int .u8 0] }
 (.nd .lf 231
 { size := 3, bytes := 48, kd := (.struct [(0, 9), (1, 9), (2, 172)]), isAgg := true, held := false, zero := some [.str ⟨#[]⟩, .str ⟨#[]⟩, .nili] }
 .lf)) 233
 { size := 32, bytes := 32, kd := (.array 32 5), isAgg := true, held := false, zero := some [.int .u8 0, .int .u8 0, .int .u8 0, .int .u8 0, .int .u8 0, .int .u8 0, .int .u8 0, .int .u8 0, .int .u8 0, .int .u8 0, .int .u8 0, .int .u8 0, .int .u8 0, .int .u8 0, .int .u8 0, .int .u8 0, .int .u8 0, .int .u8 0, .int .u8 0, .int .u8 0, .int .u8 0, .int .u8 0, .int .u8 0, .int .u8 0, .int .u8 0, .int .u8 0, .int .u8 0, .int .u8 0, .int .u8 0, .int .u8 0, .int .u8 0, .int .u8 0] }
 (.nd (.nd .lf 234
 { size := 64, bytes := 64, kd := (.array 64 5), isAgg := true, held := false, zero := some [.int .u8 0, .int .u8 0, .int .u8 0, .int .u8 0, .int .u8 0, .int .u8 0, .int .u8 0, .int .u8 0, .int .u8 0, .int .u8 0, .int .u8 0, .int .u8 0, .int .u8 0, .int .u8 0, .int .u8 0, .int .u8 0, .int .u8 0, .int .u8 0, .int .u8 0, .int .u8 0, .int .u8 0, .int .u8 0, .int .u8 0, .int .u8 0, .int .u8 0, .int .u8 0, .int .u8 0, .int .u8 0, .int .u8 0, .int .u8 0, .int .u8 0, .int .u8 0, .int .u8 0, .int .u8 0, .int .u8 0, .int .u8 0, .int .u8 0, .int .u8 0, .int .u8 0, .int .u8 0, .int .u8 0, .int .u8 0, .int .u8 0, .int .u8 0, .int .u8 0, .int .u8 0, .int .u8 0, .int .u8 0, .int .u8 0, .int .u8 0, .int .u8 0, .int .u8 0, .int .u8 0, .int .u8 0, .int .u8 0, .int .u8 0, .int .u8 0, .int .u8 0, .int .u8 0, .int .u8 0, .int .u8 0, .int .u8 0, .int .u8 0, .int .u8 0] }
 .lf) 236
 { size := 1, bytes := 8, kd := .other, isAgg := false, held := false, zero := some [.nilp] }
 (.nd .lf 238
 { size := 1, bytes := 16, kd := (.struct [(0, 9)]), isAgg := true, held := false, zero := some [.str ⟨#[]⟩] }
 .lf))))))
end Go.PX
namespace Go.PX
open Go.Proofs
theorem tysOk : TysOk Tryz.prog tys := tysB_spec (by decide +kernel)
theorem mixed : Tryz.prog.follows .mixedOrders = true := by decide +kernel
end Go.PX
namespace Go.PX
def ft14 : FT := ⟨[0, 1, 2, 3, 4, 5, 6, 7, 8, 9, 10, 11, 12, 27, 65, 91, 99], [(3, ⟨[], [⟨[3], []⟩, ⟨[29], []⟩, ⟨[30], []⟩, ⟨[31], []⟩, ⟨[3], [0, 1, 2, 3]⟩, ⟨[33], [0, 1, 2, 3]⟩, ⟨[34], [0, 1, 2, 3]⟩, ⟨[2], [0, 1, 2, 3, 4, 5, 6]⟩, ⟨[36], [0, 1, 2, 3, 4, 5, 6]⟩, ⟨[37], [0, 1, 2, 3, 4, 5, 6]⟩, ⟨[35, 38], [0, 1, 2, 3]⟩, ⟨[32], [4, 5, 6, 7, 8, 9, 10]⟩, ⟨[39], []⟩]⟩), (6, ⟨[52, 55, 58, 60, 61], [⟨[], []⟩, ⟨[2], [0]⟩, ⟨[53], [0]⟩, ⟨[52, 54], []⟩, ⟨[7], [0, 1, 2, 3]⟩, ⟨[], [0, 1, 2, 3, 4]⟩, ⟨[57], [0, 1, 2, 3, 4]⟩, ⟨[56, 58], [0, 1, 2, 3]⟩, ⟨[59], [0, 1, 2, 3]⟩, ⟨[55, 60], []⟩, ⟨[8], []⟩, ⟨[61, 62], []⟩]⟩), (10, ⟨[], [⟨[8], []⟩, ⟨[5], [0]⟩, ⟨[2], [0, 1]⟩, ⟨[78], [0, 1]⟩, ⟨[79], [0, 1]⟩, ⟨[2], [0, 1, 2, 3, 4]⟩, ⟨[81], [0, 1, 2, 3, 4]⟩, ⟨[6], [0, 1, 2, 3, 4, 5, 6]⟩, ⟨[82, 83], [0, 1, 2, 3, 4]⟩, ⟨[84], [0, 1, 2, 3, 4]⟩, ⟨[85], [0, 1, 2, 3, 4]⟩, ⟨[76, 77, 80, 86], []⟩, ⟨[87], []⟩, ⟨[75], []⟩, ⟨[75], [13]⟩, ⟨[88], [14]⟩, ⟨[89], []⟩]⟩)]⟩
def ft16 : FT := ⟨[0, 2, 3, 4, 7, 14, 15, 16], []⟩
def ft18 : FT := ⟨[0, 2, 3, 5, 7, 8, 9, 11, 18], []⟩
def ft19 : FT := ⟨[0, 2, 3, 7, 11, 23, 45], []⟩
def ft20 : FT := ⟨[0, 1, 2, 3, 4, 5, 6, 7, 8, 9, 10, 16, 18, 19, 20, 21, 36, 38, 43, 50, 52, 53, 54, 55, 64, 69], []⟩
def ft21 : FT := ⟨[0, 1, 2, 3, 4, 5, 6, 7, 8, 9, 10, 14, 19, 43, 45, 50, 56, 61, 82, 90], []⟩
def ft22 : FT := ⟨[0, 1, 2, 3, 4, 5, 6, 7, 8, 9, 10, 11, 14, 15, 16, 17, 18, 19, 20, 21, 22, 23, 24, 25, 26, 28], [(13, ⟨[160, 165, 175, 201], [⟨[2], []⟩, ⟨[100], []⟩, ⟨[101], []⟩, ⟨[5, 102], []⟩, ⟨[102, 103], []⟩, ⟨[102, 104], []⟩, ⟨[105], []⟩, ⟨[8, 106], []⟩, ⟨[106, 107], []⟩, ⟨[106, 108], []⟩, ⟨[109], []⟩, ⟨[11, 110], []⟩, ⟨[110, 111], []⟩, ⟨[110, 112], []⟩, ⟨[113], []⟩, ⟨[16, 114], []⟩, ⟨[114, 115], []⟩, ⟨[114, 116], []⟩, ⟨[117], []⟩, ⟨[18, 118], []⟩, ⟨[118, 119], []⟩, ⟨[118, 120], []⟩, ⟨[121], []⟩, ⟨[20, 122], []⟩, ⟨[122, 123], []⟩, ⟨[122, 124], []⟩, ⟨[125], []⟩, ⟨[22, 126], []⟩, ⟨[126, 127], []⟩, ⟨[126, 128], []⟩, ⟨[129], []⟩, ⟨[24, 130], []⟩, ⟨[130, 131], []⟩, ⟨[130, 132], []⟩, ⟨[133], []⟩, ⟨[26, 134], []⟩, ⟨[134, 135], []⟩, ⟨[134, 136], []⟩, ⟨[137], []⟩, ⟨[14, 138], []⟩, ⟨[138, 139], []⟩, ⟨[138, 140], []⟩, ⟨[141], []⟩, ⟨[28, 142], []⟩, ⟨[142, 143], []⟩, ⟨[142, 144], []⟩, ⟨[145], []⟩, ⟨[146], []⟩, ⟨[146, 147], []⟩, ⟨[148], []⟩, ⟨[149], []⟩, ⟨[149, 150], []⟩, ⟨[149, 151], []⟩, ⟨[152], []⟩, ⟨[1, 153], []⟩, ⟨[153], [54]⟩, ⟨[153, 154, 155], []⟩, ⟨[153, 156], []⟩, ⟨[157], []⟩, ⟨[3, 158], []⟩, ⟨[158], [59]⟩, ⟨[158, 159, 160], []⟩, ⟨[158, 161], []⟩, ⟨[162], []⟩, ⟨[4, 163], []⟩, ⟨[163], [64]⟩, ⟨[163, 164, 165], []⟩, ⟨[163, 166], []⟩, ⟨[167], []⟩, ⟨[6, 168], []⟩, ⟨[168, 169], []⟩, ⟨[168, 170], []⟩, ⟨[168, 171], []⟩, ⟨[172], []⟩, ⟨[7, 173], []⟩, ⟨[173], [74]⟩, ⟨[173, 174, 175], []⟩, ⟨[173, 176], []⟩, ⟨[177], []⟩, ⟨[9, 178], []⟩, ⟨[178, 179], []⟩, ⟨[178, 180], []⟩, ⟨[181], []⟩, ⟨[10, 182], []⟩, ⟨[182], [83]⟩, ⟨[182, 183, 184], []⟩, ⟨[182, 185], []⟩, ⟨[186], []⟩, ⟨[15, 187], []⟩, ⟨[187, 188], []⟩, ⟨[187, 189], []⟩, ⟨[190], []⟩, ⟨[17, 191], []⟩, ⟨[191, 192], []⟩, ⟨[191, 193], []⟩, ⟨[194], []⟩, ⟨[19, 195], []⟩, ⟨[195, 196], []⟩, ⟨[195, 197], []⟩, ⟨[198], []⟩, ⟨[21, 199], []⟩, ⟨[199], [100]⟩, ⟨[199, 200, 201], []⟩, ⟨[199, 202], []⟩, ⟨[203], []⟩, ⟨[23, 204], []⟩, ⟨[204], [105]⟩, ⟨[204, 205, 206], []⟩, ⟨[204, 207], []⟩, ⟨[208], []⟩, ⟨[25, 209], []⟩, ⟨[209], [110]⟩, ⟨[209, 210, 211], []⟩, ⟨[209, 212], []⟩, ⟨[213], []⟩]⟩)]⟩
def ft23 : FT := ⟨[0, 1, 2, 3, 4, 5, 6, 7, 8, 9, 10, 11, 12, 13, 18, 21, 22, 23, 24, 41, 42, 43, 80, 85], []⟩
def ft25 : FT := ⟨[0, 1, 4, 5, 10, 14, 25], [(6, ⟨[], [⟨[0], []⟩, ⟨[5], [0]⟩, ⟨[17, 18], []⟩, ⟨[19], []⟩, ⟨[1], [0, 1, 2, 3]⟩, ⟨[5], [0, 1, 2, 3, 4]⟩, ⟨[21, 22], [0, 1, 2, 3]⟩, ⟨[23], [0, 1, 2, 3]⟩, ⟨[20, 24], []⟩]⟩)]⟩
def ft26 : FT := ⟨[0, 1, 2, 3, 4, 6, 7, 8, 9, 10, 11, 12, 17, 22, 33], [(9, ⟨[], [⟨[10], []⟩, ⟨[11], [0]⟩, ⟨[35], [1]⟩, ⟨[7, 36], []⟩, ⟨[], []⟩]⟩)]⟩
def ft28 : FT := ⟨[0, 1, 2, 3, 4, 5, 6, 7, 8, 9, 12, 17, 22, 35], []⟩
def ft30 : FT := ⟨[0, 1, 2, 3, 6, 7, 9, 10], []⟩
def ft32 : FT := ⟨[0, 1, 2, 3, 4, 7, 8, 9, 10, 11, 19, 23, 27], []⟩
def ft34 : FT := ⟨[0, 1, 2, 3, 4, 7, 8, 9, 10, 11, 12, 13, 14, 15, 16, 25, 29, 38, 48, 57, 67, 68, 69, 73], []⟩
def ft36 : FT := ⟨[0, 1, 2, 3, 6, 14], []⟩
def ft38 : FT := ⟨[0, 2, 3, 4, 5, 6, 7, 10, 13, 18], []⟩
def ft40 : FT := ⟨[0, 1, 2, 3, 4, 5, 6, 7, 8, 9, 10, 11, 27, 32, 65, 70, 83, 88, 120], [(6, ⟨[6, 7], [⟨[2], []⟩, ⟨[35], []⟩, ⟨[5], [0, 1]⟩, ⟨[36, 37], []⟩, ⟨[38], []⟩, ⟨[3], [0, 1, 2, 3, 4]⟩, ⟨[40], [0, 1, 2, 3, 4]⟩, ⟨[5], [0, 1, 2, 3, 4, 5, 6]⟩, ⟨[41, 42], [0, 1, 2, 3, 4]⟩, ⟨[43], [0, 1, 2, 3, 4]⟩, ⟨[], [0, 1, 2, 3, 4, 5, 6, 7, 8, 9]⟩, ⟨[], [0, 1, 2, 3, 4, 5, 6, 7, 8, 9, 10]⟩, ⟨[6, 39], [5, 6, 7, 8, 9]⟩, ⟨[7, 44], []⟩]⟩), (12, ⟨[], [⟨[6], []⟩, ⟨[73], []⟩, ⟨[8], [0, 1]⟩, ⟨[74, 75], []⟩, ⟨[76], []⟩, ⟨[7], [0, 1, 2, 3, 4]⟩, ⟨[78], [0, 1, 2, 3, 4]⟩, ⟨[8], [0, 1, 2, 3, 4, 5, 6]⟩, ⟨[79, 80], [0, 1, 2, 3, 4]⟩, ⟨[81], [0, 1, 2, 3, 4]⟩, ⟨[77, 82], []⟩]⟩), (17, ⟨[10, 11], [⟨[2], []⟩, ⟨[91], []⟩, ⟨[9], [0, 1]⟩, ⟨[92, 93], []⟩, ⟨[94], []⟩, ⟨[3], [0, 1, 2, 3, 4]⟩, ⟨[96], [0, 1, 2, 3, 4]⟩, ⟨[9], [0, 1, 2, 3, 4, 5, 6]⟩, ⟨[97, 98], [0, 1, 2, 3, 4]⟩, ⟨[99], [0, 1, 2, 3, 4]⟩, ⟨[], [0, 1, 2, 3, 4, 5, 6, 7, 8, 9]⟩, ⟨[], [0, 1, 2, 3, 4, 5, 6, 7, 8, 9, 10]⟩, ⟨[10, 95], [5, 6, 7, 8, 9]⟩, ⟨[11, 100], []⟩]⟩)]⟩
def ft41 : FT := ⟨[0], []⟩
def ft42 : FT := ⟨[0, 1, 4], []⟩
def ft43 : FT := ⟨[0, 1, 2, 5], []⟩
def ft52 : FT := ⟨[0, 1, 2, 3, 8], []⟩
def ft55 : FT := ⟨[0, 1, 2, 4], []⟩
def ft56 : FT := ⟨[0, 1, 2, 3, 6, 7, 37], []⟩
def ft58 : FT := ⟨[0, 1, 2, 3, 4, 6], []⟩
def ft59 : FT := ⟨[0], []⟩
def ft60 : FT := ⟨[0, 1, 2, 6], []⟩
def ft62 : FT := ⟨[0, 1, 3, 8, 12], []⟩
def ft63 : FT := ⟨[0, 1, 2, 4], []⟩
def ft64 : FT := ⟨[0, 2, 3, 5, 9, 10, 11, 12, 13, 16, 27], []⟩
def ft65 : FT := ⟨[0, 1, 2, 3, 4, 5, 7, 8, 15, 25, 28, 29, 32, 33, 34, 35, 45, 56], [(14, ⟨[], [⟨[4], []⟩, ⟨[38], []⟩, ⟨[4], [0, 1]⟩, ⟨[40], [0, 1]⟩, ⟨[7], [0, 1, 2, 3]⟩, ⟨[41, 42], [0, 1]⟩, ⟨[39, 43], []⟩, ⟨[44], []⟩]⟩)]⟩
def ft66 : FT := ⟨[0, 1, 4, 7, 11], []⟩
def ft67 : FT := ⟨[0, 2, 3, 7, 11, 29, 45], [(8, ⟨[], [⟨[3], []⟩, ⟨[30], []⟩, ⟨[31], []⟩, ⟨[0, 32], []⟩, ⟨[3, 32], [3]⟩, ⟨[32, 33, 34], []⟩, ⟨[32, 35], []⟩, ⟨[32, 36], []⟩, ⟨[0, 32], [3, 4, 5, 6, 7]⟩, ⟨[3, 32], [3, 4, 5, 6, 7, 8]⟩, ⟨[32, 39], [3, 4, 5, 6, 7, 8]⟩, ⟨[32, 38, 40], [3, 4, 5, 6, 7]⟩, ⟨[32, 41], [3, 4, 5, 6, 7]⟩, ⟨[32, 42], [3, 4, 5, 6, 7]⟩, ⟨[32, 37, 43], []⟩, ⟨[32, 44], []⟩]⟩)]⟩
def ft68 : FT := ⟨[0, 1, 2, 3, 4, 9, 14, 23, 34], []⟩
def ft69 : FT := ⟨[0], []⟩
def ft70 : FT := ⟨[0, 1, 2, 3, 4, 17], []⟩
def ft71 : FT := ⟨[0, 1, 2, 3, 4, 5, 6, 7, 8, 9, 22, 23], []⟩
def ft74 : FT := ⟨[0, 1, 2, 3, 4, 6, 7, 8, 9, 10, 11, 12, 13, 15, 18, 19, 20, 21, 38, 52, 64], [(2, ⟨[], [⟨[7], []⟩, ⟨[], [0]⟩, ⟨[7, 16], []⟩, ⟨[], []⟩]⟩), (14, ⟨[], [⟨[11], []⟩, ⟨[7], [0]⟩, ⟨[4], [0, 1]⟩, ⟨[59, 60], [0]⟩, ⟨[2], [0, 1, 2, 3]⟩, ⟨[58, 61, 62], []⟩, ⟨[63], []⟩]⟩), (15, ⟨[], [⟨[9], []⟩, ⟨[7], [0]⟩, ⟨[65], [1]⟩, ⟨[7, 66], []⟩, ⟨[], []⟩]⟩)]⟩
def ft76 : FT := ⟨[0, 1, 2, 3, 4, 6, 7, 8, 10, 17, 22, 27, 43, 45, 49], [(3, ⟨[], [⟨[6], []⟩, ⟨[8], [0]⟩, ⟨[6, 20], [1]⟩, ⟨[7], [1]⟩, ⟨[8, 21], []⟩]⟩), (12, ⟨[], [⟨[6], []⟩, ⟨[10], [0]⟩, ⟨[51], [0]⟩, ⟨[6, 50], [1, 2]⟩, ⟨[7, 52], []⟩, ⟨[8], []⟩]⟩)]⟩
def ft79 : FT := ⟨[0, 1, 2, 3, 6, 7, 8, 9, 10, 24], []⟩
def ft80 : FT := ⟨[0, 1, 2, 4, 12, 21, 22, 23, 28], []⟩
def ft81 : FT := ⟨[0, 1, 2, 3, 4], []⟩
def ft84 : FT := ⟨[0, 1, 2, 3, 4], []⟩
def ft85 : FT := ⟨[0, 1, 2, 4, 5, 23], []⟩
def ft86 : FT := ⟨[0, 1, 2, 3, 4, 6, 7, 9, 11, 12, 14, 17, 18, 19, 20, 31, 32, 33, 34, 52, 53, 54, 55, 76, 77, 78, 79], []⟩
def ft88 : FT := ⟨[0, 1, 2, 5], [(2, ⟨[], [⟨[], []⟩, ⟨[2], [0]⟩, ⟨[7], [0]⟩, ⟨[0, 6], [1, 2]⟩, ⟨[1, 8], []⟩]⟩)]⟩
def ft90 : FT := ⟨[0, 3], []⟩
def ft91 : FT := ⟨[0, 1, 4, 5, 6, 7, 8, 9, 23, 25, 32, 54, 66], [(2, ⟨[6], [⟨[4], []⟩, ⟨[16], []⟩, ⟨[17], []⟩, ⟨[4], [0, 1, 2]⟩, ⟨[19], [0, 1, 2]⟩, ⟨[], [0, 1, 2, 3, 4]⟩, ⟨[18], [3, 4]⟩, ⟨[6, 20], []⟩]⟩), (10, ⟨[50, 51], [⟨[0], []⟩, ⟨[0], [0]⟩, ⟨[45], [0]⟩, ⟨[46], [0]⟩, ⟨[47], [0]⟩, ⟨[7], [0, 1, 2, 3, 4]⟩, ⟨[49], [0, 1, 2, 3, 4]⟩, ⟨[48, 50], [0]⟩, ⟨[44], []⟩, ⟨[52], []⟩, ⟨[51, 53], []⟩]⟩), (16, ⟨[70, 71], [⟨[9], []⟩, ⟨[67], []⟩, ⟨[6], [0, 1]⟩, ⟨[69], [0, 1]⟩, ⟨[68, 70], []⟩, ⟨[9], []⟩, ⟨[71, 72], []⟩]⟩), (17, ⟨[79, 80], [⟨[0], []⟩, ⟨[0], [0]⟩, ⟨[74], [0]⟩, ⟨[75], [0]⟩, ⟨[76], [0]⟩, ⟨[9], [0, 1, 2, 3, 4]⟩, ⟨[78], [0, 1, 2, 3, 4]⟩, ⟨[77, 79], [0]⟩, ⟨[73], []⟩, ⟨[81], []⟩, ⟨[80, 82], []⟩]⟩)]⟩
def ft94 : FT := ⟨[0, 1, 4, 5, 10, 14, 25], [(6, ⟨[], [⟨[0], []⟩, ⟨[5], [0]⟩, ⟨[17, 18], []⟩, ⟨[19], []⟩, ⟨[1], [0, 1, 2, 3]⟩, ⟨[5], [0, 1, 2, 3, 4]⟩, ⟨[21, 22], [0, 1, 2, 3]⟩, ⟨[23], [0, 1, 2, 3]⟩, ⟨[20, 24], []⟩]⟩)]⟩
def ft95 : FT := ⟨[0, 1, 2, 3, 4], []⟩
def ft97 : FT := ⟨[0, 1, 2, 6, 7, 8, 12, 34, 45], [(7, ⟨[], [⟨[0], []⟩, ⟨[8], [0]⟩, ⟨[35, 36], []⟩, ⟨[37], []⟩, ⟨[38], []⟩, ⟨[0], [0, 1, 2, 3, 4]⟩, ⟨[8], [0, 1, 2, 3, 4, 5]⟩, ⟨[40, 41], [0, 1, 2, 3, 4]⟩, ⟨[42], [0, 1, 2, 3, 4]⟩, ⟨[43], [0, 1, 2, 3, 4]⟩, ⟨[39, 44], []⟩]⟩)]⟩
def ft98 : FT := ⟨[0, 1, 4], []⟩
def ft99 : FT := ⟨[0, 1, 2, 4], []⟩
def ft101 : FT := ⟨[0, 1, 4], []⟩
def ft102 : FT := ⟨[0, 1, 2, 3], []⟩
def ft103 : FT := ⟨[0, 1, 2], []⟩
def ft104 : FT := ⟨[0, 1, 2, 3, 4], []⟩
def ft105 : FT := ⟨[0, 1, 4, 5, 9, 17], []⟩
def ft106 : FT := ⟨[0, 2, 3, 4, 5, 9, 20, 52], [(8, ⟨[], [⟨[5], []⟩, ⟨[3], [0]⟩, ⟨[23, 24], []⟩, ⟨[25], []⟩, ⟨[5, 26], []⟩, ⟨[4, 26], [4]⟩, ⟨[26, 27, 28], []⟩, ⟨[26, 29], []⟩, ⟨[30], []⟩, ⟨[0, 31], []⟩, ⟨[4, 31], [9]⟩, ⟨[31, 32, 33], []⟩, ⟨[31, 34], []⟩, ⟨[0, 31], [9, 10, 11, 12]⟩, ⟨[3, 31], [9, 10, 11, 12, 13]⟩, ⟨[31, 36, 37], [9, 10, 11, 12]⟩, ⟨[31, 38], [9, 10, 11, 12]⟩, ⟨[31, 35, 39], []⟩, ⟨[0, 31], [9, 10, 11, 12, 13, 14, 15, 16, 17]⟩, ⟨[5, 31], [9, 10, 11, 12, 13, 14, 15, 16, 17, 18]⟩, ⟨[31, 41, 42], [9, 10, 11, 12, 13, 14, 15, 16, 17]⟩, ⟨[31, 43], [9, 10, 11, 12, 13, 14, 15, 16, 17]⟩, ⟨[0, 31], [9, 10, 11, 12, 13, 14, 15, 16, 17, 18, 19, 20, 21]⟩, ⟨[3, 31], [9, 10, 11, 12, 13, 14, 15, 16, 17, 18, 19, 20, 21, 22]⟩, ⟨[31, 45, 46], [9, 10, 11, 12, 13, 14, 15, 16, 17, 18, 19, 20, 21]⟩, ⟨[31, 47], [9, 10, 11, 12, 13, 14, 15, 16, 17, 18, 19, 20, 21]⟩, ⟨[31, 44, 48], []⟩, ⟨[31, 40, 49], []⟩, ⟨[31, 50], []⟩, ⟨[31, 51], []⟩]⟩)]⟩
def ft107 : FT := ⟨[0, 1, 2, 3, 6, 7, 19, 31], [(2, ⟨[], [⟨[3], []⟩, ⟨[10], []⟩, ⟨[2], [0, 1]⟩, ⟨[12], [0, 1]⟩, ⟨[1], [0, 1, 2, 3]⟩, ⟨[13, 14], [0, 1]⟩, ⟨[15], [0, 1]⟩, ⟨[11, 16], []⟩, ⟨[3], []⟩, ⟨[17, 18], []⟩]⟩), (4, ⟨[], [⟨[3], []⟩, ⟨[22], []⟩, ⟨[2], [0, 1]⟩, ⟨[24], [0, 1]⟩, ⟨[1], [0, 1, 2, 3]⟩, ⟨[26], [0, 1, 2, 3]⟩, ⟨[25, 27], [0, 1]⟩, ⟨[23, 28], []⟩, ⟨[3], []⟩, ⟨[29, 30], []⟩]⟩)]⟩
def ft108 : FT := ⟨[0, 1, 2, 3, 4, 5, 6, 7, 8, 9, 10, 11, 12, 13, 15, 16, 26, 39, 45, 62], [(8, ⟨[], [⟨[8], []⟩, ⟨[27], []⟩, ⟨[8], [0, 1]⟩, ⟨[29], [0, 1]⟩, ⟨[28, 30], []⟩, ⟨[8], [0, 1, 2, 3, 4]⟩, ⟨[32], [0, 1, 2, 3, 4]⟩, ⟨[9], [0, 1, 2, 3, 4, 5, 6]⟩, ⟨[33, 34], []⟩, ⟨[31], []⟩, ⟨[35], []⟩]⟩)]⟩
def ft109 : FT := ⟨[0, 1, 2], []⟩
def ft110 : FT := ⟨[0, 1, 2, 3, 8, 14, 15, 16, 17], []⟩
def ft111 : FT := ⟨[0, 1, 4, 5], []⟩
def ft113 : FT := ⟨[0, 1, 4], []⟩
def ft118 : FT := ⟨[0, 2], []⟩
def ft119 : FT := ⟨[0, 2], []⟩
def ft122 : FT := ⟨[0, 1, 4, 5, 7, 8, 9, 16], []⟩
def ft123 : FT := ⟨[0, 1, 4, 5, 7, 8, 9, 16], []⟩
def ft124 : FT := ⟨[0, 1, 3, 5, 18, 19, 20, 21, 31], [(4, ⟨[], [⟨[0], []⟩, ⟨[3], [0]⟩, ⟨[3], [0, 1]⟩, ⟨[5], [0, 1, 2]⟩, ⟨[26, 27], [0, 1]⟩, ⟨[25, 28], [0]⟩, ⟨[24, 29], []⟩, ⟨[30], []⟩]⟩)]⟩
def ft125 : FT := ⟨[0, 1, 4, 5, 12], []⟩
def ft126 : FT := ⟨[0, 1, 2, 3, 4], []⟩
def ft127 : FT := ⟨[0, 1, 3, 8, 18], []⟩
def ft132 : FT := ⟨[0, 2, 3, 4], []⟩
end Go.PX
namespace Go.PX
open Go.Proofs
end Go.PX
namespace Go.PX
open Go.Proofs
def intsD (l : List Int) : D := .vs (l.map fun n => [i64 n])
end Go.PX
namespace Go.PX
open Go.Proofs
def inB (n lo hi : Int) : Bool := decide (lo ≤ n) && decide (n ≤ hi)
theorem fn118 (n lo hi : Int) : FnV Tryz.prog 60 [i64 n, i64 lo, i64 hi] (.bool (inB n lo hi)) := by
 refine fnV_of mixed tysOk Tryz.func60 rfl (ft := ft60) 3 (by decide +kernel) rfl fun {σ} Y s => ?_
 conv=>whnf
 refine brk_i (fun hb => ?_) (fun hb => ?_)
 ·conv=>whnf
  refine RetA_view 0 rfl ⟨⟨?_, rfl⟩, rfl⟩
  simp [packD, inB] at hb ⊢; simp [hb]
 ·conv=>whnf
  refine RetA_view 0 rfl ⟨⟨?_, rfl⟩, rfl⟩
  simp [packD, inB] at hb ⊢; omega
structure Span where
 lo : Int
 hi : Int
 deriving DecidableEq
def Span.cells (s : Span) : List D := [i64 s.lo, i64 s.hi]
def spansD (l : List Span) : D := .vs (l.map Span.cells)
def spread (lo hi : Int) : List Span → Int → Int
 | [], e => e
 | s :: r, e => if inB s.lo lo hi && inB s.hi lo hi then spread lo hi r (if s.lo > s.hi then 2 else e) else 7
theorem fn111 (l : List Span) (lo hi : Int) (hl : l.length < 4000000000000000000) : FnV Tryz.prog 97 [spansD l, i64 lo, i64 hi] (i64 (spread lo hi l 0)) := by
 refine fnV_of mixed tysOk Tryz.func97 rfl (ft := ft97) 3 (by decide +kernel) rfl fun {σ} Y s => ?_
 conv=>whnf
 refine LoopA_p (T := tys) tysOk (by exact drawsB_spec mixed tysOk (by decide +kernel)) (α := Nat × Int)
  (fun x => ⟨[(0, .d (spansD l)), (1, .d (i64 lo)), (2, .d (i64 hi)), (7, .d (i64 x.2)), (8, .d (i64 x.1))], [], s⟩) (fun x => x.1 ≤ l.length ∧ spread lo hi l 0 = spread lo hi (l.drop x.1) x.2) (fun x => l.length - x.1) (0, 0)
  (Wk.sub ⟨rfl, rfl, rfl, rfl, rfl, trivial⟩ trivial) (by simp) ?_
 rintro ⟨i, e⟩ ⟨hi', he⟩
 simp only at hi' he
 conv=>whnf
 refine brk_i (fun hb => ?_) (fun hb => ?_)
 ·have hb : i < l.length := by simpa using hb
  have hd : l.drop i = l[i] :: l.drop (i + 1) := List.drop_eq_getElem_cons hb
  rw [hd, spread] at he
  have step : ∀ {st' : St σ} {e' : Int}, (inB l[i].lo lo hi && inB l[i].hi lo hi) = true → e' = (if l[i].lo > l[i].hi then 2 else e) → Wk st' ⟨[(0, .d (spansD l)), (1, .d (i64 lo)), (2, .d (i64 hi)), (7, .d (i64 e')), (8, .d (i64 ((i : Int) + 1)))], [], s⟩ →
    ∃ y : Nat × Int, l.length - y.1 < l.length - i ∧ (y.1 ≤ l.length ∧ spread lo hi l 0 = spread lo hi (l.drop y.1) y.2) ∧ Wk st' ⟨[(0, .d (spansD l)), (1, .d (i64 lo)), (2, .d (i64 hi)), (7, .d (i64 y.2)), (8, .d (i64 y.1))], [], s⟩ := by
   intro st' e' h1 h2 h3
   rw [if_pos h1] at he
   exact ⟨(i + 1, e'), by simp only; omega, ⟨hb, by rw [he, h2]⟩, by simpa using h3⟩
  conv=>whnf
  refine elemK_i l[i].cells (by simp [hb]) ?_
  conv=>whnf
  refine CallA_v (fn118 _ _ _) rfl rfl ?_
  conv=>whnf
  refine brk_i (fun h1 => ?_) (fun h1 => ?_)
  ·-- the lower end is wrong
   conv=>whnf
   rw [if_neg (by simp at h1; simp [h1])] at he
   rw [he]
   exact RetA_view 0 rfl ⟨⟨rfl, rfl⟩, rfl⟩
  ·conv=>whnf
   refine elemK_i l[i].cells (by simp [hb]) ?_
   conv=>whnf
   refine CallA_v (fn118 _ _ _) rfl rfl ?_
   conv=>whnf
   refine brk_i (fun h2 => ?_) (fun h2 => ?_)
   ·conv=>whnf
    rw [if_neg (by simp at h2; simp [h2])] at he
    rw [he]
    exact RetA_view 0 rfl ⟨⟨rfl, rfl⟩, rfl⟩
   ·conv=>whnf
    refine elemK_i l[i].cells (by simp [hb]) ?_
    conv=>whnf
    refine elemK_i l[i].cells (by simp [hb]) ?_
    conv=>whnf
    have hin : (inB l[i].lo lo hi && inB l[i].hi lo hi) = true := by simp at h1 h2; simp [h1, h2]
    refine brk_i (fun h3 => ?_) (fun h3 => ?_)
    ·conv=>whnf
     refine arith_in (wrap_i64 (by omega)) ?_
     conv=>whnf
     exact step hin (by simp at h3; rw [if_pos h3]) (Wk.sub ⟨rfl, rfl, rfl, rfl, rfl, trivial⟩ trivial)
    ·conv=>whnf
     refine arith_in (wrap_i64 (by omega)) ?_
     conv=>whnf
     exact step hin (by simp at h3; rw [if_neg (by omega)]) (Wk.sub ⟨rfl, rfl, rfl, rfl, rfl, trivial⟩ trivial)
 ·have hb : ¬ i < l.length := by simpa using hb
  conv=>whnf
  rw [List.drop_of_length_le (by omega)] at he
  simp only [spread] at he
  rw [he]
  exact RetA_view 0 rfl ⟨⟨rfl, rfl⟩, rfl⟩
end Go.PX
namespace Go.PX
open Go.Proofs
theorem fn87 (n lo hi : Int) : FnV Tryz.prog 99 [i64 n, .ref [i64 lo], .ref [i64 hi]] (.bool (decide (n < lo) || decide (n > hi))) := by
 refine fnV_of mixed tysOk Tryz.func99 rfl (ft := ft99) 3 (by decide +kernel) rfl fun {σ} Y s => ?_
 conv=>whnf
 refine brk_i (fun hb => ?_) (fun hb => ?_)
 ·conv=>whnf
  refine RetA_view 0 rfl ⟨⟨?_, rfl⟩, rfl⟩
  have hb : n < lo := by simpa using hb
  simp [packD, hb]
 ·conv=>whnf
  refine RetA_view 0 rfl ⟨⟨?_, rfl⟩, rfl⟩
  have hb : ¬ n < lo := by simpa using hb
  simp [packD, hb]
def indexOf {α : Type} (p : α → Bool) : List α → Int → Int
 | [], _ => -1
 | x :: r, i => if p x then i else indexOf p r (i + 1)
theorem indexOf_any {α : Type} (p : α → Bool) : ∀ (l : List α) (i : Int), 0 ≤ i → decide (indexOf p l i ≥ 0) = l.any p
 | [], i, _ => by simp [indexOf]
 | x :: r, i, h => by
  simp only [indexOf, List.any_cons]
  split
  ·rename_i hp; simp [hp, h]
  ·rename_i hp
   rw [indexOf_any p r (i + 1) (by omega)]
   simp [hp]
theorem fn109 (l : List Int) (g : FuncId) (caps : List D) (p : Int → Bool) (hl : l.length < 4000000000000000000) (hp : ∀ x ∈ l, FnV Tryz.prog g (i64 x :: caps) (.bool (p x))) :
  FnV Tryz.prog 122 [intsD l, .clo g caps] (i64 (indexOf p l 0)) := by
 refine fnV_of mixed tysOk Tryz.func122 rfl (ft := ft122) 2 (by decide +kernel) rfl fun {σ} Y s => ?_
 conv=>whnf
 refine LoopA_p (T := tys) tysOk (by exact drawsB_spec mixed tysOk (by decide +kernel)) (α := Nat)
  (fun i => ⟨[(0, .d (intsD l)), (1, .d (.clo g caps)), (7, .d (i64 l.length)), (8, .d (i64 i))], [], s⟩) (fun i => i ≤ l.length ∧ indexOf p l 0 = indexOf p (l.drop i) i) (fun i => l.length - i) 0
  (Wk.sub ⟨rfl, rfl, by simp [PX.get], rfl, trivial⟩ trivial) (by simp) ?_
 rintro i ⟨hi, he⟩
 conv=>whnf
 refine brk_i (fun hb => ?_) (fun hb => ?_)
 ·have hb : i < l.length := by simpa using hb
  have hd : l.drop i = l[i] :: l.drop (i + 1) := List.drop_eq_getElem_cons hb
  rw [hd, indexOf] at he
  conv=>whnf
  refine elemK_i [i64 l[i]] (by simp [hb]) ?_
  conv=>whnf
  refine CallA_v (ds := i64 l[i] :: caps) (hp _ (List.getElem_mem hb)) rfl rfl ?_
  conv=>whnf
  refine brk_i (fun h1 => ?_) (fun h1 => ?_)
  ·conv=>whnf
   rw [if_pos h1] at he
   rw [he]
   exact RetA_view 0 rfl ⟨⟨rfl, rfl⟩, rfl⟩
  ·conv=>whnf
   rw [if_neg (by simp [h1])] at he
   refine arith_in (wrap_i64 (by omega)) ?_
   conv=>whnf
   exact ⟨i + 1, by omega, ⟨hb, by rw [he]; rfl⟩, Wk.sub ⟨rfl, rfl, rfl, rfl, trivial⟩ trivial⟩
 ·have hb : ¬ i < l.length := by simpa using hb
  conv=>whnf
  rw [List.drop_of_length_le (by omega)] at he
  rw [he]
  exact RetA_view 0 rfl ⟨⟨rfl, rfl⟩, rfl⟩
theorem fn86 (l : List Int) (g : FuncId) (caps : List D) (p : Int → Bool) (hl : l.length < 4000000000000000000) (hp : ∀ x ∈ l, FnV Tryz.prog g (i64 x :: caps) (.bool (p x))) :
  FnV Tryz.prog 98 [intsD l, .clo g caps] (.bool (l.any p)) := by
 refine fnV_of mixed tysOk Tryz.func98 rfl (ft := ft98) 2 (by decide +kernel) rfl fun {σ} Y s => ?_
 conv=>whnf
 refine CallA_v (fn109 l g caps p hl hp) rfl rfl ?_
 conv=>whnf
 refine RetA_view 0 rfl ⟨⟨?_, rfl⟩, rfl⟩
 rw [← indexOf_any p l 0 (by omega)]; rfl
theorem fn51 (lo hi : Int) (l : List Int) (hl : l.length < 4000000000000000000) : FnV Tryz.prog 58 [i64 lo, i64 hi, intsD l] (.bool (l.any fun n => decide (n < lo) || decide (n > hi))) := by
 refine fnV_of mixed tysOk Tryz.func58 rfl (ft := ft58) 3 (by decide +kernel) rfl fun {σ} Y s => ?_
 conv=>whnf
 refine CallA_view (fn86 l 99 [.ref [i64 lo], .ref [i64 hi]] (fun n => decide (n < lo) || decide (n > hi)) hl fun x _ => fn87 x lo hi) rfl 1 rfl ?_
 conv=>whnf
 exact RetA_view 0 rfl ⟨⟨rfl, rfl⟩, rfl⟩
end Go.PX
namespace Go.PX
open Go.Proofs
end Go.PX
namespace Go.PX
open Go.Proofs
theorem mul_bd {a b : Int} (A B : Nat) (ha : -(A : Int) ≤ a ∧ a ≤ A) (hb : -(B : Int) ≤ b ∧ b ≤ B) : -((A * B : Nat) : Int) ≤ a * b ∧ a * b ≤ ((A * B : Nat) : Int) := by
 have h1 : a.natAbs ≤ A := by omega
 have h2 : b.natAbs ≤ B := by omega
 have h3 : (a * b).natAbs ≤ A * B := by rw [Int.natAbs_mul]; exact Nat.mul_le_mul h1 h2
 omega
end Go.PX
namespace Go.PX
open Go.Proofs
end Go.PX
namespace Go.PX
open Go.Proofs
end Go.PX
namespace Go.PX
open Go.Proofs
theorem fn19 (a b : List Int) (ha : a.length < 1000000) : FnV Tryz.prog 25 [intsD a, intsD b] (.bool (decide (a = b))) := by
 refine fnV_of mixed tysOk Tryz.func25 rfl (ft := ft25) 2 (by decide +kernel) (by rfl) fun {σ} Y st => ?_
 conv=>whnf
 refine brk_i (fun h0 => ?_) (fun h0 => ?_)
 ·have h0 : a.length ≠ b.length := by
   intro e; simp [e] at h0
  conv=>whnf
  rw [decide_eq_false (by rintro rfl; exact h0 rfl)]
  exact RetA_view 0 rfl ⟨⟨rfl, rfl⟩, rfl⟩
 ·have h0 : a.length = b.length := by
   have := h0
   simp at this; omega
  conv=>whnf
  refine LoopA_p (T := tys) tysOk (by exact drawsB_spec mixed tysOk (by decide +kernel)) (α := Nat)
   (fun i => ⟨[(0, .d (intsD a)), (1, .d (intsD b)), (5, .d (i64 i))], [], st⟩) (fun i => i ≤ a.length ∧ a.take i = b.take i) (fun i => a.length - i) 0
   (Wk.sub ⟨rfl, rfl, rfl, trivial⟩ trivial) (by simp) ?_
  rintro i ⟨hi, he⟩
  conv=>whnf
  refine brk_i (fun hc => ?_) (fun hc => ?_)
  ·have hc : i < a.length := by simpa using hc
   have hc' : i < b.length := by omega
   conv=>whnf
   refine elemK_i [i64 a[i]] (by simp [hc]) ?_
   conv=>whnf
   refine elemK_i [i64 b[i]] (by simp [hc']) ?_
   conv=>whnf
   refine brk_i (fun h1 => ?_) (fun h1 => ?_)
   ·conv=>whnf
    have h1 : a[i] ≠ b[i] := by simpa using h1
    rw [decide_eq_false (by rintro rfl; exact h1 rfl)]
    exact RetA_view 0 rfl ⟨⟨rfl, rfl⟩, rfl⟩
   ·have h1 : a[i] = b[i] := by simpa using h1
    conv=>whnf
    refine arith_in (wrap_i64 (by (try dsimp only); omega)) ?_
    conv=>whnf
    exact ⟨i + 1, by omega, ⟨hc, by rw [List.take_succ_eq_append_getElem hc, List.take_succ_eq_append_getElem hc', he, h1]⟩, Wk.sub ⟨rfl, rfl, rfl, trivial⟩ trivial⟩
  ·have hc : ¬ i < a.length := by simpa using hc
   conv=>whnf
   rw [List.take_of_length_le (by omega), List.take_of_length_le (by omega)] at he
   rw [decide_eq_true he]
   exact RetA_view 0 rfl ⟨⟨rfl, rfl⟩, rfl⟩
end Go.PX
namespace Go.PX
open Go.Proofs
end Go.PX
namespace Go.PX
open Go.Proofs
end Go.PX
namespace Go.PX
open Go.Proofs
def strsD (l : List ByteArray) : D := .vs (l.map fun s => [.str s])
theorem fn113 (l : List ByteArray) (x : ByteArray) (hl : l.length < 1000000) : FnV Tryz.prog 105 [strsD l, .str x] (i64 (indexOf (fun y => decide (y = x)) l 0)) := by
 refine fnV_of mixed tysOk Tryz.func105 rfl (ft := ft105) 2 (by decide +kernel) (by rfl) fun {σ} Y st => ?_
 conv=>whnf
 refine LoopA_p (T := tys) tysOk (by exact drawsB_spec mixed tysOk (by decide +kernel)) (α := Nat)
  (fun i => ⟨[(0, .d (strsD l)), (1, .d (.str x)), (5, .d (i64 i))], [], st⟩) (fun i => i ≤ l.length ∧ indexOf (fun y => decide (y = x)) l 0 = indexOf (fun y => decide (y = x)) (l.drop i) i) (fun i => l.length - i) 0
  (Wk.sub ⟨rfl, rfl, rfl, trivial⟩ trivial) (by simp) ?_
 rintro i ⟨hi, he⟩
 conv=>whnf
 refine brk_i (fun hb => ?_) (fun hb => ?_)
 ·have hb : i < l.length := by simpa using hb
  have hd : l.drop i = l[i] :: l.drop (i + 1) := List.drop_eq_getElem_cons hb
  rw [hd, indexOf] at he
  conv=>whnf
  refine elemK_i [.str l[i]] (by simp [hb]) ?_
  conv=>whnf
  refine brk_i (fun h1 => ?_) (fun h1 => ?_)
  ·conv=>whnf
   rw [if_pos h1] at he
   rw [he]
   exact RetA_view 0 rfl ⟨⟨rfl, rfl⟩, rfl⟩
  ·conv=>whnf
   rw [if_neg (by rw [h1]; simp)] at he
   refine arith_in (wrap_i64 (by (try dsimp only); omega)) ?_
   conv=>whnf
   exact ⟨i + 1, by omega, ⟨hb, by rw [he]; rfl⟩, Wk.sub ⟨rfl, rfl, rfl, trivial⟩ trivial⟩
 ·have hb : ¬ i < l.length := by simpa using hb
  conv=>whnf
  rw [List.drop_of_length_le (by omega)] at he
  rw [he]
  exact RetA_view 0 rfl ⟨⟨rfl, rfl⟩, rfl⟩
end Go.PX
namespace Go.PX
open Go.Proofs
def okAt (b : List UInt8) (i : Nat) (c : UInt8) : Bool :=
 (decide (97 ≤ c.toNat) && decide (c.toNat ≤ 122)) || (decide (c.toNat = 45) && decide (i ≠ 0) && decide (i + 1 ≠ b.length) && (match b[i - 1]? with
  | some p => decide (p.toNat ≠ 45)
  | none => false))
def nameL (b : List UInt8) : Nat → List UInt8 → Bool
 | _, [] => true
 | i, c :: r => okAt b i c && nameL b (i + 1) r
def nameF (s : ByteArray) : Bool := inB s.size 1 14 && nameL s.data.toList 0 s.data.toList
theorem fn112 (s : ByteArray) : FnV Tryz.prog 19 [.str s] (.bool (nameF s)) := by
 refine fnV_of mixed tysOk Tryz.func19 rfl (ft := ft19) 1 (by decide +kernel) (by rfl) fun {σ} Y st => ?_
 have hsz : s.size = s.data.toList.length := by simp
 conv=>whnf
 refine CallA_v (ds := [i64 s.size, i64 1, i64 14]) (fn118 _ _ _) rfl rfl ?_
 conv=>whnf
 refine brk_i (fun h0 => ?_) (fun h0 => ?_)
 ·conv=>whnf
  have : nameF s = false := by simp at h0; simp [nameF, h0]
  rw [this]
  exact RetA_view 0 rfl ⟨⟨rfl, rfl⟩, rfl⟩
 ·have h0 : inB s.size 1 14 = true := by simpa using h0
  have hlen : s.data.toList.length ≤ 14 := by
   simp only [inB, Bool.and_eq_true, decide_eq_true_eq] at h0; omega
  have hn : nameF s = nameL s.data.toList 0 s.data.toList := by simp [nameF, h0]
  rw [hn]
  conv=>whnf
  refine LoopA_p (T := tys) tysOk (by exact drawsB_spec mixed tysOk (by decide +kernel)) (α := Nat)
   (fun i => ⟨[(0, .d (.str s)), (3, .d (i64 i))], [], st⟩) (fun i => i ≤ s.data.toList.length ∧ nameL s.data.toList 0 s.data.toList = nameL s.data.toList i (s.data.toList.drop i)) (fun i => s.data.toList.length - i) 0
   (Wk.sub ⟨rfl, rfl, trivial⟩ trivial) (by simp) ?_
  rintro i ⟨hi, he⟩
  conv=>whnf
  refine brk_i (fun hc => ?_) (fun hc => ?_)
  ·have hc : i < s.data.toList.length := by
    have := of_decide_eq_true hc
    omega
   obtain ⟨c, hcc⟩ : ∃ c, s.data.toList[i]? = some c := ⟨_, List.getElem?_eq_getElem hc⟩
   have hd : s.data.toList.drop i = c :: s.data.toList.drop (i + 1) := by
    rw [List.drop_eq_getElem_cons hc]
    rw [List.getElem?_eq_getElem hc] at hcc
    rw [Option.some.inj hcc]
   rw [hd, nameL] at he
   have bad : okAt s.data.toList i c = false → RetA [V.d (.bool false)] [] st fun v h' s' => (v = V.d (.bool (nameL s.data.toList 0 s.data.toList)) ∧ h' = []) ∧ s' = st := by
    intro hb
    rw [he, hb]
    exact RetA_view 0 rfl ⟨⟨rfl, rfl⟩, rfl⟩
   have good : okAt s.data.toList i c = true → ∀ {st' : St σ}, Wk st' ⟨[(0, .d (.str s)), (3, .d (i64 ((i : Int) + 1)))], [], st⟩ → ∃ y, s.data.toList.length - y < s.data.toList.length - i ∧ (y ≤ s.data.toList.length ∧ nameL s.data.toList 0 s.data.toList = nameL s.data.toList y (s.data.toList.drop y)) ∧
     Wk st' ⟨[(0, .d (.str s)), (3, .d (i64 (y : Nat)))], [], st⟩ := by
    intro hb st' hw
    exact ⟨i + 1, by omega, ⟨hc, by rw [he, hb]; rfl⟩, by simpa using hw⟩
   conv=>whnf
   refine cellK_i c (by simpa using hcc) ?_
   conv=>whnf
   refine brk_i (fun h1 => ?_) (fun h1 => ?_)
   ·have h1 : 97 ≤ c.toNat := by
     have := of_decide_eq_true h1
     omega
    conv=>whnf
    refine cellK_i c (by simpa using hcc) ?_
    conv=>whnf
    refine brk_i (fun h2 => ?_) (fun h2 => ?_)
    ·have h2 : c.toNat ≤ 122 := by
      have := of_decide_eq_true h2
      omega
     conv=>whnf
     refine arith_in (wrap_i64 (by (try dsimp only); omega)) ?_
     conv=>whnf
     exact good (by simp [okAt, h1, h2]) (Wk.sub ⟨rfl, rfl, trivial⟩ trivial)
    ·have h2 : ¬ c.toNat ≤ 122 := by
      have := of_decide_eq_false h2
      omega
     conv=>whnf
     refine cellK_i c (by simpa using hcc) ?_
     conv=>whnf
     refine brk_i (fun k1 => ?_) (fun k1 => ?_)
     ·have k1 : c.toNat ≠ 45 := by
       have := k1
       simp at this; omega
      conv=>whnf
      exact bad (by simp [okAt, k1]; omega)
     ·have k1 : c.toNat = 45 := by
       have := k1
       simp at this; omega
      conv=>whnf
      refine brk_i (fun k2 => ?_) (fun k2 => ?_)
      ·have k2 : i = 0 := by
        have := of_decide_eq_true k2
        omega
       conv=>whnf
       exact bad (by simp [okAt, k1, k2])
      ·have k2 : i ≠ 0 := by
        have := of_decide_eq_false k2
        omega
       conv=>whnf
       refine arith_in (wrap_i64 (by (try dsimp only); omega)) ?_
       conv=>whnf
       refine brk_i (fun k3 => ?_) (fun k3 => ?_)
       ·have k3 : i + 1 = s.data.toList.length := by
         have := of_decide_eq_true k3
         omega
        conv=>whnf
        exact bad (by simp only [okAt, k1, k3]; simp)
       ·have k3 : i + 1 ≠ s.data.toList.length := by
         have := of_decide_eq_false k3
         omega
        obtain ⟨p, hp⟩ : ∃ p, s.data.toList[i - 1]? = some p := ⟨_, List.getElem?_eq_getElem (by omega)⟩
        conv=>whnf
        refine arith_in (wrap_i64 (by (try dsimp only); omega)) ?_
        conv=>whnf
        refine chk_i (by simp; omega) ?_
        conv=>whnf
        refine cellK_i p (by rw [show ((i : Int) - 1).toNat = i - 1 by omega]; exact hp) ?_
        conv=>whnf
        refine brk_i (fun k4 => ?_) (fun k4 => ?_)
        ·have k4 : p.toNat = 45 := by
          have := of_decide_eq_true k4
          omega
         conv=>whnf
         exact bad (by simp only [okAt, hp, k4, k1]; simp)
        ·have k4 : p.toNat ≠ 45 := by
          have := of_decide_eq_false k4
          omega
         conv=>whnf
         refine arith_in (wrap_i64 (by (try dsimp only); omega)) ?_
         conv=>whnf
         exact good (by simp only [okAt, hp, k1]; simp [k2, k4]; omega) (Wk.sub ⟨rfl, rfl, trivial⟩ trivial)
   ·have h1 : ¬ 97 ≤ c.toNat := by
     have := of_decide_eq_false h1
     omega
    conv=>whnf
    refine cellK_i c (by simpa using hcc) ?_
    conv=>whnf
    refine brk_i (fun k1 => ?_) (fun k1 => ?_)
    ·have k1 : c.toNat ≠ 45 := by
      have := k1
      simp at this; omega
     conv=>whnf
     exact bad (by simp [okAt, k1]; omega)
    ·have k1 : c.toNat = 45 := by
      have := k1
      simp at this; omega
     conv=>whnf
     refine brk_i (fun k2 => ?_) (fun k2 => ?_)
     ·have k2 : i = 0 := by
       have := of_decide_eq_true k2
       omega
      conv=>whnf
      exact bad (by simp [okAt, k1, k2])
     ·have k2 : i ≠ 0 := by
       have := of_decide_eq_false k2
       omega
      conv=>whnf
      refine arith_in (wrap_i64 (by (try dsimp only); omega)) ?_
      conv=>whnf
      refine brk_i (fun k3 => ?_) (fun k3 => ?_)
      ·have k3 : i + 1 = s.data.toList.length := by
        have := of_decide_eq_true k3
        omega
       conv=>whnf
       exact bad (by simp only [okAt, k1, k3]; simp)
      ·have k3 : i + 1 ≠ s.data.toList.length := by
        have := of_decide_eq_false k3
        omega
       obtain ⟨p, hp⟩ : ∃ p, s.data.toList[i - 1]? = some p := ⟨_, List.getElem?_eq_getElem (by omega)⟩
       conv=>whnf
       refine arith_in (wrap_i64 (by (try dsimp only); omega)) ?_
       conv=>whnf
       refine chk_i (by simp; omega) ?_
       conv=>whnf
       refine cellK_i p (by rw [show ((i : Int) - 1).toNat = i - 1 by omega]; exact hp) ?_
       conv=>whnf
       refine brk_i (fun k4 => ?_) (fun k4 => ?_)
       ·have k4 : p.toNat = 45 := by
         have := of_decide_eq_true k4
         omega
        conv=>whnf
        exact bad (by simp only [okAt, hp, k4, k1]; simp)
       ·have k4 : p.toNat ≠ 45 := by
         have := of_decide_eq_false k4
         omega
        conv=>whnf
        refine arith_in (wrap_i64 (by (try dsimp only); omega)) ?_
        conv=>whnf
        exact good (by simp only [okAt, hp, k1]; simp [k2, k4]; omega) (Wk.sub ⟨rfl, rfl, trivial⟩ trivial)
  ·have hc : ¬ i < s.data.toList.length := by
    have := of_decide_eq_false hc
    omega
   conv=>whnf
   rw [List.drop_of_length_le (by omega)] at he
   rw [he]
   exact RetA_view 0 rfl ⟨⟨rfl, rfl⟩, rfl⟩
end Go.PX
namespace Go.PX
open Go.Proofs
def freshF (x : ByteArray) (before : List ByteArray) : Int :=
 if nameF x then (if before.any fun y => decide (y = x) then 5 else 0) else 6
theorem fn91 (x : ByteArray) (l : List ByteArray) (hl : l.length < 1000000) : FnV Tryz.prog 66 [.str x, strsD l] (i64 (freshF x l)) := by
 refine fnV_of mixed tysOk Tryz.func66 rfl (ft := ft66) 2 (by decide +kernel) (by rfl) fun {σ} Y st => ?_
 conv=>whnf
 refine CallA_v (ds := [.str x]) (fn112 x) rfl rfl ?_
 conv=>whnf
 refine brk_i (fun h1 => ?_) (fun h1 => ?_)
 ·have h1 : nameF x = false := by simpa using h1
  conv=>whnf
  simp only [freshF, h1]
  exact RetA_view 0 rfl ⟨⟨rfl, rfl⟩, rfl⟩
 ·have h1 : nameF x = true := by simpa using h1
  conv=>whnf
  refine CallA_v (ds := [strsD l, .str x]) (fn113 l x hl) rfl rfl ?_
  conv=>whnf
  have hany := indexOf_any (fun y => decide (y = x)) l 0 (by omega)
  refine brk_i (fun h2 => ?_) (fun h2 => ?_)
  ·have h2 : (l.any fun y => decide (y = x)) = true := by rw [← hany]; exact h2
   conv=>whnf
   simp only [freshF, h1, h2]
   exact RetA_view 0 rfl ⟨⟨rfl, rfl⟩, rfl⟩
  ·have h2 : (l.any fun y => decide (y = x)) = false := by rw [← hany]; exact h2
   conv=>whnf
   simp only [freshF, h1, h2]
   exact RetA_view 0 rfl ⟨⟨rfl, rfl⟩, rfl⟩
end Go.PX
namespace Go.PX
open Go.Proofs
end Go.PX
namespace Go.PX
open Go.Proofs
end Go.PX
namespace Go.PX
open Go.Proofs
theorem out_eq (lo hi n : Int) : (decide (n < lo) || decide (n > hi)) = !inB n lo hi := by
 simp only [inB]
 by_cases h1 : lo ≤ n <;> by_cases h2 : n ≤ hi <;> simp [h1, h2] <;> omega
theorem FnV.cast {P : Program} {f : FuncId} {ds : List D} {r r' : D} (h : FnV P f ds r) (e : r = r') : FnV P f ds r' := by subst e; exact h
theorem fn51_1 (lo hi a : Int) : FnV Tryz.prog 58 [i64 lo, i64 hi, .vs [[i64 a]]] (.bool (!inB a lo hi)) := by
 exact FnV.cast (fn51 lo hi [a] (by simp)) (by simp [out_eq])
theorem fn51_2 (lo hi a b : Int) : FnV Tryz.prog 58 [i64 lo, i64 hi, .vs [[i64 a], [i64 b]]] (.bool (!(inB a lo hi && inB b lo hi))) := by
 exact FnV.cast (fn51 lo hi [a, b] (by simp)) (by simp [out_eq])
end Go.PX
namespace Go.PX
open Go.Proofs
end Go.PX
namespace Go.PX
open Go.Proofs
open Go
def nameGo : Nat → List UInt8 → Bool
 | last, [] => decide (last ≠ 45)
 | last, c :: r => if 97 ≤ c.toNat ∧ c.toNat ≤ 122 then nameGo c.toNat r else if c.toNat = 45 ∧ last ≠ 45 then nameGo 45 r else false
theorem nameGo_eq (b : List UInt8) : ∀ (r : List UInt8) (i last : Nat), r ≠ [] → r = b.drop i → (i = 0 → last = 45) → (∀ p, i ≠ 0 → b[i - 1]? = some p → last = p.toNat) → nameGo last r = nameL b i r
 | [], i, last, h, _, _, _ => absurd rfl h
 | c :: r, i, last, _, hd, h0, h1 => by
  have hlen : i + 1 + r.length = b.length := by
   have := congrArg List.length hd
   simp at this; omega
  have hget : b[i]? = some c := by
   have := congrArg (fun l => l[0]?) hd
   simpa using this.symm
  have hr : r = b.drop (i + 1) := by
   have := congrArg List.tail hd
   simpa using this
  have ih : ∀ last', last' = c.toNat → r ≠ [] → nameGo last' r = nameL b (i + 1) r := fun last' hl hne =>
   nameGo_eq b r (i + 1) last' hne hr (fun h => by omega) (fun p _ hp => by simp at hp; rw [hget] at hp; cases hp; exact hl)
  have hprev : i ≠ 0 → ∃ p, b[i - 1]? = some p ∧ last = p.toNat := fun hi => by
   have : i - 1 < b.length := by omega
   exact ⟨_, List.getElem?_eq_getElem this, h1 _ hi (List.getElem?_eq_getElem this)⟩
  simp only [nameGo, nameL, okAt]
  by_cases ha : 97 ≤ c.toNat ∧ c.toNat ≤ 122
  ·rw [if_pos ha]
   simp only [ha.1, ha.2, decide_true, Bool.and_self, Bool.true_or, Bool.true_and]
   by_cases hne : r = []
   ·subst hne
    simp [nameGo, nameL]; omega
   ·exact ih _ rfl hne
  ·rw [if_neg ha]
   have hf : (decide (97 ≤ c.toNat) && decide (c.toNat ≤ 122)) = false := by
    simp only [Bool.and_eq_false_iff, decide_eq_false_iff_not]; omega
   rw [hf, Bool.false_or]
   by_cases hc : c.toNat = 45
   ·by_cases hi : i = 0
    ·have := h0 hi
     simp [hc, hi, this]
    ·obtain ⟨p, hp, hl⟩ := hprev hi
     rw [hp]
     by_cases hpl : p.toNat = 45
     ·simp [hc, hl, hpl]
     ·by_cases hne : r = []
      ·have : i + 1 = b.length := by subst hne; simpa using hlen
       subst hne
       simp [hc, hl, hpl, nameGo, this]
      ·have : i + 1 ≠ b.length := by
        have := List.length_pos_iff.2 hne; omega
       rw [if_pos ⟨hc, by rw [hl]; exact hpl⟩, ih 45 hc.symm hne]
       simp [hc, hi, hpl, this]
   ·simp [hc]
theorem nameF_go (s : ByteArray) : nameF s = (decide (s.size ≤ 14) && nameGo 45 s.data.toList) := by
 have hsz : s.size = s.data.toList.length := by simp
 unfold nameF inB
 cases hb : s.data.toList with
 | nil =>
  have : s.size = 0 := by rw [hsz, hb]; rfl
  simp [this, nameGo]
 | cons c r =>
  rw [← hb, nameGo_eq s.data.toList s.data.toList 0 45 (by rw [hb]; simp) rfl (fun _ => rfl) (fun p h => absurd rfl h)]
  have h1 : 1 ≤ s.size := by rw [hsz, hb]; simp
  have e1 : decide ((1 : Int) ≤ (s.size : Int)) = true := by simp; omega
  have e2 : decide ((s.size : Int) ≤ 14) = decide (s.size ≤ 14) := by simp; omega
  rw [e1, e2]; simp
theorem decode_big (s : ByteArray) (i : Nat) (h : ¬ (s.get! (i + 0)).toNat < 128) : 128 ≤ (Utf8.decode s i).1 := by
 unfold Utf8.decode
 simp only [h, if_false]
 split
 ·split
  ·simp only; omega
  ·simp [Utf8.runeError]
 ·split
  ·split
   ·rename_i h1
    simp only [Bool.and_eq_true, decide_eq_true_eq] at h1
    simp only; omega
   ·simp [Utf8.runeError]
  ·split
   ·split
    ·rename_i h1
     simp only [Bool.and_eq_true, decide_eq_true_eq] at h1
     simp only; omega
    ·simp [Utf8.runeError]
   ·simp [Utf8.runeError]
end Go.PX
namespace Go.PX
open Go.Proofs
open Go
theorem fn47 (s : ByteArray) : FnV Tryz.prog 18 [.str s] (.bool (nameF s)) := by
 refine fnV_of mixed tysOk Tryz.func18 rfl (ft := ft18) 1 (by decide +kernel) (by rfl) fun {σ} Y st => ?_
 conv=>whnf
 refine LoopA_p (T := tys) tysOk (by exact drawsB_spec mixed tysOk (by decide +kernel)) (α := Nat × Nat)
  (fun x => ⟨[(0, .d (.str s)), (3, .d (.int .i32 x.2)), (7, .it 7)], [(7, .iter s x.1)], st⟩) (fun x => x.1 ≤ s.size ∧ nameF s = (decide (s.size ≤ 14) && nameGo x.2 (s.data.toList.drop x.1))) (fun x => s.size - x.1) (0, 45)
  (Wk.sub ⟨(by first | rfl | (simp only [List.length_map]; rfl) | simp [PX.get]), (by first | rfl | (simp only [List.length_map]; rfl) | simp [PX.get]), (by first | rfl | (simp only [List.length_map]; rfl) | simp [PX.get]), trivial⟩ ⟨(by first | rfl | (simp only [List.length_map]; rfl) | simp [PX.get]), trivial⟩) ⟨by simp, by rw [nameF_go]; rfl⟩ ?_
 rintro ⟨p, last⟩ ⟨hp, he⟩
 simp only at hp he
 have hsz : s.size = s.data.toList.length := by simp
 conv=>whnf
 refine brk_i (fun h1 => ?_) (fun h1 => ?_)
 ·have h1 : p < s.size := of_decide_eq_true h1
  have hd : s.data.toList.drop p = s[p] :: s.data.toList.drop (p + 1) := by
   rw [List.drop_eq_getElem_cons (by omega)]; rfl
  rw [hd, nameGo] at he
  refine ⟨?_⟩
  by_cases hb : s[p].toNat < 128
  ·rw [decode_ascii s p h1 hb]
   conv=>whnf
   refine brk_i (fun h2 => ?_) (fun h2 => ?_)
   ·have h2 : 97 ≤ s[p].toNat := by have := of_decide_eq_true h2; omega
    conv=>whnf
    refine brk_i (fun h3 => ?_) (fun h3 => ?_)
    ·have h3 : s[p].toNat ≤ 122 := by have := of_decide_eq_true h3; omega
     conv=>whnf
     rw [if_pos ⟨h2, h3⟩] at he
     exact ⟨(p + 1, s[p].toNat), by simp only; omega, ⟨h1, he⟩, (Wk.sub ⟨(by first | rfl | (simp only [List.length_map]; rfl) | simp [PX.get]), (by first | rfl | (simp only [List.length_map]; rfl) | simp [PX.get]), (by first | rfl | (simp only [List.length_map]; rfl) | simp [PX.get]), trivial⟩ ⟨(by first | rfl | (simp only [List.length_map]; rfl) | simp [PX.get]), trivial⟩)⟩
    ·have h3 : ¬ s[p].toNat ≤ 122 := by have := of_decide_eq_false h3; omega
     conv=>whnf
     rw [if_neg (by omega), if_neg (by omega)] at he
     refine brk_i (fun h4 => ?_) (fun h4 => ?_)
     ·conv=>whnf
      rw [he, Bool.and_false]
      exact RetA_view 0 rfl ⟨⟨rfl, rfl⟩, rfl⟩
     ·exact absurd h4 (by simp; omega)
   ·have h2 : ¬ 97 ≤ s[p].toNat := by have := of_decide_eq_false h2; omega
    conv=>whnf
    rw [if_neg (by omega)] at he
    refine brk_i (fun h4 => ?_) (fun h4 => ?_)
    ·have h4 : s[p].toNat ≠ 45 := by simp at h4; omega
     conv=>whnf
     rw [if_neg (by omega)] at he
     rw [he, Bool.and_false]
     exact RetA_view 0 rfl ⟨⟨rfl, rfl⟩, rfl⟩
    ·have h4 : s[p].toNat = 45 := by simp at h4; omega
     conv=>whnf
     refine brk_i (fun h5 => ?_) (fun h5 => ?_)
     ·have h5 : last = 45 := by have := of_decide_eq_true h5; omega
      conv=>whnf
      rw [if_neg (by omega)] at he
      rw [he, Bool.and_false]
      exact RetA_view 0 rfl ⟨⟨rfl, rfl⟩, rfl⟩
     ·have h5 : last ≠ 45 := by have := of_decide_eq_false h5; omega
      conv=>whnf
      rw [if_pos ⟨h4, h5⟩] at he
      exact ⟨(p + 1, 45), by simp only; omega, ⟨h1, he⟩, by rw [← h4]; exact (Wk.sub ⟨(by first | rfl | (simp only [List.length_map]; rfl) | simp [PX.get]), (by first | rfl | (simp only [List.length_map]; rfl) | simp [PX.get]), (by first | rfl | (simp only [List.length_map]; rfl) | simp [PX.get]), trivial⟩ ⟨(by first | rfl | (simp only [List.length_map]; rfl) | simp [PX.get]), trivial⟩)⟩
  ·have hbig := decode_big s p (by
    have e : s.get! (p + 0) = s[p]'h1 := by
     show s.get! p = _
     simp [ByteArray.get!, getElem!_pos, h1]
     rfl
    rw [e]; exact hb)
   generalize (Utf8.decode s p).1 = c at hbig
   generalize (Utf8.decode s p).2 = n
   rw [if_neg (by omega), if_neg (by omega)] at he
   conv=>whnf
   refine brk_i (fun h2 => ?_) (fun h2 => ?_)
   ·conv=>whnf
    refine brk_i (fun h3 => ?_) (fun h3 => ?_)
    ·have := of_decide_eq_true h3; omega
    ·conv=>whnf
     refine brk_i (fun h4 => ?_) (fun h4 => ?_)
     ·conv=>whnf
      rw [he, Bool.and_false]
      exact RetA_view 0 rfl ⟨⟨rfl, rfl⟩, rfl⟩
     ·exact absurd h4 (by simp; omega)
   ·have := of_decide_eq_false h2; omega
 ·have h1 : ¬ p < s.size := of_decide_eq_false h1
  conv=>whnf
  have hnil : s.data.toList.drop p = [] := List.drop_of_length_le (by omega)
  rw [hnil, nameGo] at he
  refine brk_i (fun h2 => ?_) (fun h2 => ?_)
  ·conv=>whnf
   refine RetA_view 0 rfl ⟨⟨?_, rfl⟩, rfl⟩
   have h2 : s.size ≤ 14 := by have := of_decide_eq_true h2; omega
   rw [he]
   show V.d (.bool (!decide ((last : Int) = 45))) = _
   simp [h2]; omega
  ·conv=>whnf
   refine RetA_view 0 rfl ⟨⟨?_, rfl⟩, rfl⟩
   have h2 : ¬ s.size ≤ 14 := by have := of_decide_eq_false h2; omega
   rw [he]
   simp [h2, packD]
end Go.PX
namespace Go.PX
open Go.Proofs
end Go.PX
namespace Go.PX
open Go.Proofs
end Go.PX
namespace Go.PX
open Go.Proofs
end Go.PX
namespace Go.PX
open Go.Proofs
end Go.PX
namespace Go.PX
open Go.Proofs
end Go.PX
namespace Go.PX
open Go.Proofs
end Go.PX
namespace Go.PX
open Go.Proofs
theorem inB_iff {n lo hi : Int} : inB n lo hi = true ↔ lo ≤ n ∧ n ≤ hi := by
 simp [inB]
end Go.PX
namespace Go.PX
def delL : List Nat → List Wr
 | [] => []
 | i :: r => .del i :: delL r
theorem applyWs_delL {σ : Type} : ∀ (l : List Nat) (st : St σ), applyWs st (delL l) = ⟨st.env, cutL st.heap l, st.s⟩
 | [], st => rfl
 | i :: r, st => by
  show applyWs (applyW st (.del i)) (delL r) = _
  rw [applyWs_delL r]; rfl
section
variable {P : Program} {σ : Type}
theorem Good.frzPart {cx : Cx σ} {r : Option Nat} {m : List Nat} {L : Loc} {F : Nat → Nat} {st : St σ} {a : Act} {w : World} (hg : Good cx r m L F st a w) {h : Heap} (hsub : SubT h st.heap) (n : Nat) :
  ∃ F1, Good cx r m L F1 (applyWs st (delL (keysOf h))) a w ∧ Tr F w F1 w ∧ ∀ args vals ds, viewL (objD h n) args = some ds → RepVL cx.yv L F w args vals → RepDL F1 w ds vals := by
 have hok : HeapOk cx L F h st.s w := (hg.sub (e := st.env) (h := h) (fun _ _ h => h) hsub).heap
 have tr := frzAll_tr hok
 have hF1C : ∀ b, cx.C st.s b → frzAll L F h w b = F b := fun b hb => frzAll_C hok hb
 have hF1o : ∀ id o, get st.heap id = some o → id ∉ keysOf h → Backed L id o → frzAll L F h w (L.ρ id) = F (L.ρ id) := by
  intro id o hi hn hb
  refine frzAll_other ?_
  rintro ⟨j, p, hj, hbj, hij⟩
  have := hg.heap.inj j id p o (hsub j p hj) hi hbj hb hij
  subst this
  exact hn (keysOf_mem hj)
 have hfr := frzAll_fresh hok
 have hobj := objD_t hok n
 generalize frzAll L F h w = F1 at tr hF1C hF1o hfr hobj
 rw [applyWs_delL]
 have hget : ∀ i o, get (cutL st.heap (keysOf h)) i = some o → i ∉ keysOf h ∧ get st.heap i = some o := by
  intro i o hi
  rw [get_cutL] at hi
  split at hi
  ·cases hi
  ·rename_i hn; exact ⟨hn, hi⟩
 refine ⟨F1, ⟨⟨cx.stable hg.heap.hg tr hfr fun b hb => ⟨rfl, hF1C b hb⟩, hg.heap.csz, hfr, ?_, ?_, ?_⟩, ?_, hg.dfr, hg.mks, hg.mnd, hg.lk, hg.pin, hg.tsz⟩, tr, fun args vals ds hv hr => viewL_t tr hobj args vals ds hv hr⟩
 ·intro i o hi
  exact RepO.mono tr i o (fun _ _ => ⟨rfl, rfl⟩) ⟨rfl, rfl⟩ (fun _ => rfl) (hg.heap.obj i o (hget i o hi).2)
 ·intro i o hi hb
  obtain ⟨hn, h0⟩ := hget i o hi
  rw [hF1o i o h0 hn hb]
  exact hg.heap.own i o h0 hb
 ·intro i j o p hi hj hbi hbj he
  exact hg.heap.inj i j o p (hget i o hi).2 (hget j p hj).2 hbi hbj he
 ·intro t v ht
  obtain ⟨x, hx, hr⟩ := hg.env t v ht
  exact ⟨x, hx, RepV.mono tr v x (fun _ _ => ⟨rfl, rfl⟩) hr⟩
end
end Go.PX
namespace Go.PX
theorem viewLL_app {g : Nat → Option DO} {vs : List (List V)} {ds : List (List D)} (h : viewLL g vs = some ds) : ∀ (es : List (List D)), viewLL g (injL es ++ vs) = some (es ++ ds)
 | [] => h
 | e :: r => by
  show viewLL g (inj e :: (injL r ++ vs)) = _
  rw [viewLL, viewLL_app h r]
  have : viewL g (inj e) = some e := by
   have := viewL_app (g := g) (a := e) (r := []) (r' := []) rfl
   simpa using this
  rw [this]; rfl
theorem viewLL_one {g : Nat → Option DO} {v : List V} {d : List D} (h : viewL g v = some d) : viewLL g [v] = some [d] := by
 rw [viewLL, h]; rfl
theorem nameBL_inj (i : Nat) : ∀ l : List D, nameBL i (inj l) = false
 | [] => rfl
 | d :: r => by
  show (nameB i (.d d) || nameBL i (inj r)) = false
  rw [nameBL_inj i r]; rfl
theorem nameBL_append (i : Nat) : ∀ a b : List V, nameBL i (a ++ b) = (nameBL i a || nameBL i b)
 | [], b => rfl
 | v :: a, b => by
  show (nameB i v || nameBL i (a ++ b)) = ((nameB i v || nameBL i a) || nameBL i b)
  rw [nameBL_append i a b, Bool.or_assoc]
theorem nameBL_injL (i : Nat) (vs : List (List V)) : ∀ es : List (List D), nameBL i ((injL es ++ vs).flatten) = nameBL i vs.flatten
 | [] => rfl
 | e :: r => by
  show nameBL i (inj e ++ (injL r ++ vs).flatten) = _
  rw [nameBL_append, nameBL_inj, nameBL_injL i vs r]; rfl
section
variable {σ : Type}
theorem delL_heap {e : Env} {h : Heap} {s : σ} (l : List Nat) : applyWs (⟨e, h, s⟩ : St σ) (delL l) = ⟨e, cutL h l, s⟩ := applyWs_delL l _
theorem Wk.frzArr {e : Env} {h : Heap} {s : σ} (n : Nat) (ids : List Nat) (k : Nat) {sz : Nat} {vs : List (List V)} {ds : List (List D)} (hk : get (cutL h (keysOf (keepT ids h))) k = some (.arr sz (.vv vs))) (hv : viewLL (objD (keepT ids h) n) vs = some ds) :
  Wk (⟨e, h, s⟩ : St σ) ⟨e, put (cutL h (keysOf (keepT ids h))) k (.arr sz (.dd ds)), s⟩ := by
 intro cx r m L F a w hg
 obtain ⟨F1, hg1, tr, hvw⟩ := hg.frzPart (h := keepT ids h) (sub_keepT ids h) n
 rw [delL_heap] at hg1
 have h0 : RepO cx.yv L F w k (.arr sz (.vv vs)) := by
  rw [get_cutL] at hk
  split at hk
  ·cases hk
  ·exact hg.heap.obj k _ hk
 obtain ⟨f1, f2, f3⟩ := viewLL_flat hv
 have hnew : RepO cx.yv L F1 w k (.arr sz (.dd ds)) := by
  obtain ⟨c1, c2, c3⟩ := h0
  have hl : (Els.dd ds).toV.length = ds.length := by rw [← Els.len_eq]; rfl
  have hflat : (Els.dd ds).toV.flatten = inj ds.flatten := by
   show (injL ds).flatten = _
   clear hl f1 f2 f3 hv
   induction ds with
   | nil => rfl
   | cons d r ih =>
    show inj d ++ (injL r).flatten = _
    rw [ih, List.flatten_cons, inj_append]
  refine ⟨c1, ?_, ?_⟩
  ·have h3 := f3 sz c2
   intro x hx
   show x.length = sz
   have : ∀ (l : List (List D)), (∀ d ∈ l, d.length = sz) → ∀ x ∈ injL l, x.length = sz := by
    intro l
    induction l with
    | nil => intro _ x hx; cases hx
    | cons d r ih =>
     intro hd x hx
     rcases List.mem_cons.1 hx with rfl | hx
     ·rw [inj_length]; exact hd d (by simp)
     ·exact ih (fun d hd' => hd d (by simp [hd'])) x hx
   exact this ds h3 x hx
  ·rcases c3 with ⟨c4, c5⟩ | ⟨c, T, c4, c5, c6, c7⟩
   ·left
    refine ⟨?_, c5⟩
    have hvs : vs = [] := c4
    have : ds = [] := by
     have : ds.length = 0 := by rw [f2, hvs]; rfl
     exact List.length_eq_zero_iff.1 this
    rw [this]; rfl
   ·right
    have e1 : (Els.vv vs).toV = vs := rfl
    rw [e1] at c6 c7
    refine ⟨c, T, c4, c5, by rw [hl, f2]; exact c6, ?_⟩
    rw [hflat, hl, f2]
    exact RepVL.inj.2 (hvw _ _ _ f1 c7)
 have key : ∀ i q, get (put (cutL h (keysOf (keepT ids h))) k (.arr sz (.dd ds))) i = some q → (i = k ∧ q = .arr sz (.dd ds)) ∨ get (cutL h (keysOf (keepT ids h))) i = some q := by
  intro i q hi
  rw [get_put] at hi
  split at hi
  ·rename_i e1; cases hi; exact .inl ⟨e1, rfl⟩
  ·exact .inr hi
 refine ⟨L, F1, ⟨⟨hg1.heap.hg, hg1.heap.csz, hg1.heap.fresh, fun i q hi => ?_, fun i q hi hbk => ?_, fun i j q p hi hj hbi hbj e => ?_⟩, hg1.env, hg1.dfr, hg1.mks, hg1.mnd, hg1.lk, hg1.pin, hg1.tsz⟩, tr⟩
 ·rcases key i q hi with ⟨rfl, rfl⟩ | hi
  ·exact hnew
  ·exact hg1.heap.obj i q hi
 ·rcases key i q hi with ⟨rfl, rfl⟩ | hi
  ·exact hg1.heap.own i _ hk hbk
  ·exact hg1.heap.own i q hi hbk
 ·rcases key i q hi with ⟨e1, e2⟩ | hi1 <;> rcases key j p hj with ⟨e3, e4⟩ | hj1
  ·rw [e1, e3]
  ·subst e1; subst e2
   exact hg1.heap.inj _ _ _ _ hk hj1 hbi hbj e
  ·subst e3; subst e4
   exact hg1.heap.inj _ _ _ _ hi1 hk hbi hbj e
  ·exact hg1.heap.inj _ _ _ _ hi1 hj1 hbi hbj e
end
end Go.PX
namespace Go.PX
open Go.RowKit
theorem ahead_of {ops : Array Oper} {listed : Array Bool} (hcl : ∀ (j : Nat) (o : Oper), listed.getD j false = true → ops[j]? = some o → ∀ e ∈ o.after, Region.binds .any e = true → listed.getD e.on false = true) {ots : List OT} (hb : okBack 0 ops.toList = true) (hA : okAhead ots 0 ops.toList ots = true) (hlen : ops.toList.length = ots.length) :
  ∀ (n j : Nat) (o : Oper) (t : OT), j < n → ops[j]? = some o → ots[j]? = some t → (∀ e ∈ o.after, Region.binds .any e = true → listed.getD e.on false = true) → ∀ i, i < j → i ∉ t.prs → listed.getD i false = true
 | 0, _, _, _, hj, _, _, _, _, _, _ => by omega
 | n + 1, j, o, t, hj, ho, ht, hl, i, hi, hn => by
  rcases okAhead_spec hA j o t (by simpa using ho) ht i (by omega) with h1 | ⟨e, he, hbd, hor⟩
  ·exact absurd h1 hn
  have hlt := okBack_spec hb j o (by simpa using ho) e he hbd
  rcases hor with rfl | ⟨hlt', u, hu, hiu⟩
  ·exact hl e he hbd
  ·have hjs : j < ops.size := (Array.getElem?_eq_some_iff.1 ho).1
   have hes : ops[e.on]? = some ops[e.on] := Array.getElem?_eq_getElem (by omega)
   exact ahead_of hcl hb hA hlen n e.on _ u (by omega) hes hu (hcl e.on _ (hl e he hbd) hes) i hlt' hiu
structure TodoB (ops : Array Oper) (b : Nat) (l : List Rec) (listed : Array Bool) : Prop where
 mem : ∀ i, ((∃ q ∈ l, q.idx = i) ∨ (b ≤ i ∧ i < ops.size)) ↔ listed.getD i true = false
 size : listed.size = ops.size
 closed : ∀ (j : Nat) (o : Oper), listed.getD j false = true → ops[j]? = some o → ∀ e ∈ o.after, Region.binds .any e = true → listed.getD e.on false = true
def linB (ots : List OT) (b : Nat) : Bool := (ots.drop b).all fun t => t.prs.isEmpty
theorem linB_spec {ots : List OT} {b : Nat} (h : linB ots b = true) {j : Nat} {t : OT} (hj : b ≤ j) (ht : ots[j]? = some t) : t.prs = [] := by
 have h1 := List.all_eq_true.1 h t (by
  refine List.mem_of_getElem? (i := j - b) ?_
  rw [List.getElem?_drop, show b + (j - b) = j by omega]; exact ht)
 simpa using h1
section
variable {P : Program} {σ : Type} {cx : Cx σ} {r : Option Nat} {m : List Nat}
theorem wpAny_pre (hld : LaidCx P cx) {ops : Array Oper} {rt : RT} (hst : okDraw ops.toList rt = true) {b : Nat} (hbs : b ≤ ops.size) (hlin : linB rt.ots b = true) {Q : Exit → Act → World → Prop} {f' : Fs} {s : σ} {n0 : Nat} {F0 : Nat → Nat} {w0 : World} {k : Nat}
  (hd : ∀ o ∈ ops.toList, ∀ d, o.dst = some d → d < n0)
  (hfin : ∀ a w L F (st : St σ) listed, fsOf st = f' → st.s = s → Good cx r m L F st a w → Tr F0 w0 F w → a.tmps.size = n0 → TodoB ops b [] listed → wpAnyIn (fr r) 0 P .any ops Q k listed a w) :
  ∀ (n : Nat) {l : List Rec} {listed : Array Bool} {st : St σ} {a : Act} {w : World} {L : Loc} {F : Nat → Nat}, l.length = n → (∀ q ∈ l, q.idx < b) →
  Rs P ops rt.ots l → Good cx r m L F st a w → st.s = s → Tr F0 w0 F w → a.tmps.size = n0 → (∀ q ∈ l, ∀ id ∈ wNews q.ws, Unn (fsOf st) id) → RunR l (fsOf st) f' → TodoB ops b l listed →
  wpAnyIn (fr r) 0 P .any ops Q (k + n) listed a w := by
 simp only [okDraw, Bool.and_eq_true] at hst
 obtain ⟨⟨⟨⟨hlen, hback⟩, hahead⟩, hpairs⟩, hmade⟩ := hst
 have hlen := Nat.eq_of_beq_eq_true hlen
 intro n
 induction n with
 | zero =>
  intro l listed st a w L F hn0 hlb hrs hg hs tr hn hu hrun ht
  have hl : l = [] := List.length_eq_zero_iff.1 hn0
  subst hl
  have hrun : f' = fsOf st := hrun
  exact hfin a w L F st listed hrun.symm hs hg tr hn ht
 | succ n ih =>
  intro l listed st a w L F hn0 hlb hrs hg hs tr hn hu hrun ht
  have hfirst : ∃ q l', l = q :: l' := by
   cases l with
   | nil => simp at hn0
   | cons q l' => exact ⟨q, l', rfl⟩
  refine ⟨fun hr => ?_, fun j hj => ?_⟩
  ·exfalso
   obtain ⟨q, l', rfl⟩ := hfirst
   have hqb := hlb q (List.mem_cons_self ..)
   have hi := (ht.mem q.idx).1 (.inl ⟨q, List.mem_cons_self .., rfl⟩)
   have hmem : q.idx ∈ Region.ready .any ops listed := by
    rw [mem_ready]
    refine ⟨hi, ops[q.idx]'(by omega), Array.getElem?_eq_getElem (by omega), fun e he hb => ?_⟩
    have hlt := okBack_spec hback q.idx (ops[q.idx]'(by omega)) (by simp) e he hb
    refine getD_false_of (by rw [ht.size]; omega) fun hf => ?_
    rcases (ht.mem e.on).2 hf with ⟨q', hq', he'⟩ | ⟨h1, _⟩
    ·rcases List.mem_cons.1 hq' with h | h
     ·subst h; omega
     ·have := ((List.pairwise_cons.1 hrs.pw).1 _ h).lt
      omega
    ·omega
   rw [hr] at hmem
   cases hmem
  ·obtain ⟨hjl, oj, hoj, hedges⟩ := mem_ready.1 hj
   have hjs : j < ops.size := (Array.getElem?_eq_some_iff.1 hoj).1
   have hq0 : ∃ q ∈ l, q.idx = j := by
    rcases (ht.mem j).2 hjl with h | ⟨h, _⟩
    ·exact h
    ·exfalso
     obtain ⟨q, l', rfl⟩ := hfirst
     have hqb := hlb q (List.mem_cons_self ..)
     have hot : rt.ots[j]? = some (rt.ots[j]'(by rw [← hlen]; simpa using hjs)) := List.getElem?_eq_getElem _
     have h1 := ahead_of ht.closed hback hahead hlen (j + 1) j oj _ (by omega) hoj hot hedges q.idx (by omega) (by rw [linB_spec hlin h hot]; simp)
     have h2 := getD_true_of h1
     rw [(ht.mem q.idx).1 (.inl ⟨q, List.mem_cons_self .., rfl⟩)] at h2
     cases h2
   obtain ⟨q, hq, rfl⟩ := hq0
   obtain ⟨l1, l2, rfl⟩ := List.append_of_mem hq
   have hpw := List.pairwise_append.1 hrs.pw
   obtain ⟨t, hqt, hqp⟩ := hrs.prs q hq
   have hfree : ∀ p ∈ l1, Free p q := by
    intro p hp
    have hpr := hpw.2.2 p hp q (List.mem_cons_self ..)
    refine hpr.free (Classical.byContradiction fun hn' => ?_)
    rw [hqp] at hn'
    have := ahead_of ht.closed hback hahead hlen (q.idx + 1) q.idx oj t (by omega) hoj hqt hedges p.idx hpr.lt hn'
    have h3 := getD_true_of this
    rw [(ht.mem p.idx).1 (.inl ⟨p, List.mem_append_left _ hp, rfl⟩)] at h3
    cases h3
   obtain ⟨hsub, hrest⟩ := RunR.front hfree hrun
   have hns := hrs.news q hq
   have hreal : fsOf (applyWs st q.ws) = appFs (fsOf st) q.ws := fs_real q.ws st hns (hu q hq)
   refine hrs.snd q hq cx hld r m L F st a w hsub.1 hsub.2 hg (fun o ho k hk => ?_) _ _ fun a' L' F' w' hsz hg' tr' => ?_
   ·rw [hn]
    exact hd o (by simpa using Array.mem_of_getElem? ho) k hk
   ·have hmem : ∀ p, p ∈ l1 ++ l2 → p ∈ l1 ++ q :: l2 := fun p hp => by
     rcases List.mem_append.1 hp with h | h
     ·exact List.mem_append_left _ h
     ·exact List.mem_append_right _ (List.mem_cons_of_mem _ h)
    have hne : ∀ p ∈ l1 ++ l2, p.idx ≠ q.idx := by
     intro p hp
     rcases List.mem_append.1 hp with h | h
     ·have := (hpw.2.2 p h q (List.mem_cons_self ..)).lt; omega
     ·have := ((List.pairwise_cons.1 hpw.2.1).1 p h).lt; omega
    refine ih (l := l1 ++ l2) (by simp at hn0 ⊢; omega) (fun p hp => hlb p (hmem p hp)) ⟨?_, fun p hp => hrs.snd p (hmem p hp), fun p hp => hrs.news p (hmem p hp), fun p hp => hrs.prs p (hmem p hp)⟩ hg' ((applyWs_s _ _).trans hs) (Tr.trans tr tr') (hsz.trans hn) ?_ (by rw [hreal]; exact hrest) ⟨fun i => ?_, ?_, ?_⟩
    ·exact List.pairwise_append.2 ⟨hpw.1, (List.pairwise_cons.1 hpw.2.1).2, fun x hx y hy => hpw.2.2 x hx y (List.mem_cons_of_mem _ hy)⟩
    ·intro p hp id hid
     rw [hreal]
     refine (hu p (hmem p hp) id hid).appFs ?_ ?_
     ·rcases List.mem_append.1 hp with h | h
      ·exact (hfree p h).l.news id hid
      ·exact ((List.pairwise_cons.1 hpw.2.1).1 p h).names id hid
     ·rcases List.mem_append.1 hp with h | h
      ·exact (hfree p h).l.objs id (wNews_objs hid)
      ·exact ((List.pairwise_cons.1 hpw.2.1).1 p h).objs id hid
    ·by_cases hij : q.idx = i
     ·subst hij
      have hlt : q.idx < listed.size := by rw [ht.size]; exact (Array.getElem?_eq_some_iff.1 hoj).1
      have hqb := hlb q hq
      constructor
      ·rintro (⟨p, hp, he⟩ | ⟨h, _⟩)
       ·exact absurd he (hne p hp)
       ·omega
      ·intro h; simp [hlt] at h
     ·rw [getD_set_ne true hij, ← ht.mem i]
      constructor
      ·rintro (⟨p, hp, he⟩ | h)
       ·exact .inl ⟨p, hmem p hp, he⟩
       ·exact .inr h
      ·rintro (⟨p, hp, he⟩ | h)
       ·refine .inl ⟨p, ?_, he⟩
        rcases List.mem_append.1 hp with h | h
        ·exact List.mem_append_left _ h
        ·rcases List.mem_cons.1 h with rfl | h
         ·exact absurd he hij
         ·exact List.mem_append_right _ h
       ·exact .inr h
    ·rw [Array.size_setIfInBounds]; exact ht.size
    ·intro k o' hk ho' e he hb
     by_cases hkj : q.idx = k
     ·subst hkj
      rw [hoj] at ho'
      cases ho'
      exact getD_set_true (hedges e he hb)
     ·rw [getD_set_ne false hkj] at hk
      exact getD_set_true (ht.closed k o' hk ho' e he hb)
theorem wpAny_lin {ops : Array Oper} {rt : RT} (hst : okDraw ops.toList rt = true) {b : Nat} (hlin : linB rt.ots b = true) {Q : Exit → Act → World → Prop} :
  ∀ (n i : Nat) {listed : Array Bool} {a : Act} {w : World}, i + n = ops.size → b ≤ i → TodoB ops i [] listed → wpOpsIn (fr r) 0 P ops Q (List.range' i n) a w → wpAnyIn (fr r) 0 P .any ops Q n listed a w := by
 simp only [okDraw, Bool.and_eq_true] at hst
 obtain ⟨⟨⟨⟨hlen, hback⟩, hahead⟩, hpairs⟩, hmade⟩ := hst
 have hlen := Nat.eq_of_beq_eq_true hlen
 intro n
 induction n with
 | zero =>
  intro i listed a w hi hb ht h
  refine ⟨?_, h⟩
  cases hr : Region.ready .any ops listed with
  | nil => rfl
  | cons j _ =>
   have hj : j ∈ Region.ready .any ops listed := by rw [hr]; exact List.mem_cons_self ..
   rcases (ht.mem j).2 (mem_ready.1 hj).1 with ⟨q, hq, _⟩ | ⟨h1, h2⟩
   ·cases hq
   ·omega
 | succ n ih =>
  intro i listed a w hi hb ht h
  rw [List.range'_succ, wpOpsIn_cons] at h
  refine ⟨fun hr => ?_, fun j hj => ?_⟩
  ·exfalso
   have hu := (ht.mem i).1 (.inr ⟨Nat.le_refl _, by omega⟩)
   have hmem : i ∈ Region.ready .any ops listed := by
    rw [mem_ready]
    refine ⟨hu, ops[i]'(by omega), Array.getElem?_eq_getElem (by omega), fun e he hbd => ?_⟩
    have hlt := okBack_spec hback i (ops[i]'(by omega)) (by simp) e he hbd
    refine getD_false_of (by rw [ht.size]; omega) fun hf => ?_
    rcases (ht.mem e.on).2 hf with ⟨q', hq', _⟩ | ⟨h1, _⟩
    ·cases hq'
    ·omega
   rw [hr] at hmem
   cases hmem
  ·obtain ⟨hjl, oj, hoj, hedges⟩ := mem_ready.1 hj
   have hjs : j < ops.size := (Array.getElem?_eq_some_iff.1 hoj).1
   have hji : j = i := by
    rcases (ht.mem j).2 hjl with ⟨q, hq, _⟩ | ⟨h1, _⟩
    ·cases hq
    rcases Nat.lt_or_ge i j with h2 | h2
    ·exfalso
     have hot : rt.ots[j]? = some (rt.ots[j]'(by rw [← hlen]; simpa using hjs)) := List.getElem?_eq_getElem _
     have h3 := ahead_of ht.closed hback hahead hlen (j + 1) j oj _ (by omega) hoj hot hedges i h2 (by rw [linB_spec hlin (by omega) hot]; simp)
     have h4 := getD_true_of h3
     rw [(ht.mem i).1 (.inr ⟨Nat.le_refl _, by omega⟩)] at h4
     cases h4
    ·omega
   subst hji
   refine wpOpIn_mono (fun a' w' h' => ih (j + 1) (by omega) (by omega) ⟨fun k => ?_, ?_, ?_⟩ h') h
   ·by_cases hkj : j = k
    ·subst hkj
     have : j < listed.size := by rw [ht.size]; exact hjs
     constructor
     ·rintro (⟨q, hq, _⟩ | ⟨h1, _⟩)
      ·cases hq
      ·omega
     ·intro h; simp [this] at h
    ·rw [getD_set_ne true hkj, ← ht.mem k]
     constructor
     ·rintro (⟨q, hq, _⟩ | ⟨h1, h2⟩)
      ·cases hq
      ·exact .inr ⟨by omega, h2⟩
     ·rintro (⟨q, hq, _⟩ | ⟨h1, h2⟩)
      ·cases hq
      ·exact .inr ⟨by omega, h2⟩
   ·rw [Array.size_setIfInBounds]; exact ht.size
   ·intro k o' hk ho' e he hb
    by_cases hkj : j = k
    ·subst hkj
     rw [hoj] at ho'
     cases ho'
     exact getD_set_true (hedges e he hb)
    ·rw [getD_set_ne false hkj] at hk
     exact getD_set_true (ht.closed k o' hk ho' e he hb)
end
section
variable {P : Program} {T : Tys} {ft : FT} {σ : Type} {Y : Hd σ}
theorem RegionA_seq (hm : P.follows .mixedOrders = true) (hT : TysOk P T) (rt : RT) (b : Nat) {id : Nat} {ops : Array Oper} (hst : okDraw ops.toList rt = true) (hlin : (Nat.ble b ops.toList.length && linB rt.ots b) = true) {e : Env} {h : Heap} {s : σ} {K : AExit → St σ → Prop}
  (hk : awayK rt.made e h fun e h => wpD P T rt.made ops.toList ((ops.toList.zip rt.ots).take b) [] e h fun e h => wpOps P T Y ops.toList (ops.toList.drop b) e h s fun e h s => forceE (keepT ft.ks e) fun e => K .normal ⟨e, h, s⟩) : RegionA P ft Y id ops ⟨e, h, s⟩ K := by
 refine ⟨fun cx hY r m L F a w hg hc => ?_⟩
 rw [Bool.and_eq_true] at hlin
 have hbs : b ≤ ops.size := by have := Nat.le_of_ble_eq_true hlin.1; simpa using this
 have hst' := hst
 simp only [okDraw, Bool.and_eq_true] at hst'
 obtain ⟨⟨⟨⟨hlen, hback⟩, hahead⟩, hpairs⟩, hmade⟩ := hst'
 have hlen := Nat.eq_of_beq_eq_true hlen
 have hd := opsOk_of hc
 obtain ⟨e1, h1, L1, hk, hg1, hu⟩ := awayK_t rt.made (fun d hd' => by
  have := List.all_eq_true.1 hmade d hd'
  exact Nat.le_of_ble_eq_true this) hg hk (fun _ => False) (fun _ h => h.elim)
 obtain ⟨R, eN, hN, k1, k2, k3, k4, k5, k6⟩ := wpD_t hT hpairs ((ops.toList.zip rt.ots).take b) [] (fun j p hp => by
  rw [List.getElem?_take] at hp
  split at hp
  ·have := List.getElem?_zip_eq_some.1 hp
   simpa using this
  ·cases hp) (fun k q hq => by simp at hq) List.Pairwise.nil hk
 simp only [List.nil_append] at k4 k5
 have hRl : R.length = b := by
  rw [k3, List.length_take, List.length_zip, hlen]
  have : ops.toList.length = ops.size := by simp
  omega
 have hidx : ∀ q ∈ R, q.idx < b := fun q hq => by
  obtain ⟨k, hk', hkq⟩ := List.mem_iff_getElem.1 hq
  have := (k4 k q (by rw [List.getElem?_eq_getElem hk', hkq])).1
  omega
 have tr0 : Tr F w F { w with drawn := w.drawn + 1 } := Tr.drew _
 refine wpIn_mono (wpIn_region_any (id := id) (Q := OpsPostP Y cx r m F w a.tmps.size (fun e h s => forceE (keepT ft.ks e) fun e => K .normal ⟨e, h, s⟩)) hm ?_) fun ex a' w' hq => ?_
 ·have hfu : ops.size = (ops.size - b) + b := by omega
  rw [hfu]
  refine wpAny_pre (cx := cx) hY.laid (r := r) (m := m) (s := s) (n0 := a.tmps.size) (F0 := F) (w0 := w) (f' := ⟨get eN, get hN⟩) hst hbs hlin.2 hd (fun a' w' L' F' st listed hf hs hg' tr hn ht => ?_) b (l := R) (st := ⟨e1, h1, s⟩) hRl hidx
   ⟨k5, fun q hq => ?_, fun q hq => ?_, fun q hq => ?_⟩ (hg1.same (w' := { w with drawn := w.drawn + 1 }) rfl rfl rfl rfl) rfl tr0 rfl (fun q hq x hx => hu x (.inl (k6 q hq x hx))) k2 ⟨fun i => ?_, by simp; omega, fun j o hj => ?_⟩
  ·have he : get st.env = get eN := congrArg Fs.env hf
   have hh : get st.heap = get hN := congrArg Fs.heap hf
   have hg2 := hg'.sub (e := eN) (h := hN) (fun x v hx => by rw [he]; exact hx) (fun x v hx => by rw [hh]; exact hx)
   rw [hs] at hg2
   refine wpAny_lin hst hlin.2 (ops.size - b) b (by omega) (Nat.le_refl _) ht ?_
   have := wpOps_sound hT hY (ops.toList.drop b) b (fun j => by simp) hg2 hn (fun o ho => hd o (List.mem_of_mem_drop ho)) tr k1
   simpa using this
  ·obtain ⟨k, hk', hkq⟩ := List.mem_iff_getElem.1 hq
   exact (k4 k q (by rw [List.getElem?_eq_getElem hk', hkq])).2.snd
  ·obtain ⟨k, hk', hkq⟩ := List.mem_iff_getElem.1 hq
   exact (k4 k q (by rw [List.getElem?_eq_getElem hk', hkq])).2.news
  ·obtain ⟨k, hk', hkq⟩ := List.mem_iff_getElem.1 hq
   obtain ⟨o, t, h1, h2, h3, _⟩ := (k4 k q (by rw [List.getElem?_eq_getElem hk', hkq])).2.op
   exact ⟨t, h2, h3⟩
  ·rw [← hfu, Array.getD_eq_getD_getElem?, Array.getElem?_replicate]
   constructor
   ·rintro (⟨q, hq, rfl⟩ | ⟨h1, h2⟩)
    ·have := hidx q hq
     rw [if_pos (by omega)]; rfl
    ·rw [if_pos h2]; rfl
   ·intro hi
    by_cases hi' : i < b
    ·exact .inl ⟨R[i], List.getElem_mem .., (k4 i R[i] (List.getElem?_eq_getElem (by omega))).1⟩
    ·by_cases hi2 : i < ops.size
     ·exact .inr ⟨by omega, hi2⟩
     ·rw [if_neg hi2] at hi; simp at hi
  ·rw [← hfu, Array.getD_eq_getD_getElem?, Array.getElem?_replicate] at hj
   split at hj <;> cases hj
 ·rcases hq with ⟨e', h', s', L', F', hex, hk, hg', tr, hs⟩ | hp
  case inr => exact .inr hp
  rw [forceE_eq] at hk
  exact .inl ⟨.normal, _, m, L', F', hex, hk, hg'.sub (sub_keepT ft.ks e') (fun _ _ h => h), tr, hs⟩
end
end Go.PX
