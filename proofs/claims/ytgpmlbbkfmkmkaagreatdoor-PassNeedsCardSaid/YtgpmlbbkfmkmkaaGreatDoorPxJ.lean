import Derived.Test.YtgpmlbbkfmkmkaaGreatDoorPxI
import Derived.HandedShaped
import Derived.LaidMore
import Derived.Lay
import Derived.Lib.LaidU8
import Derived.Shelf.Vars
import Derived.Stop.Joined
import Derived.Test.YtgpmlbbkfmkmkaaGreatDoorRows
import Derived.Test.YtgpmlbbkfmkmkaaGreatDoorPxA
import Derived.Test.YtgpmlbbkfmkmkaaGreatDoorPxH
import Derived.Test.YtgpmlbbkfmkmkaaGreatDoorProg
import Derived.Laws.RangeString
set_option linter.all false
set_option maxRecDepth 10000
namespace Go.PX
theorem qet{H:Type}{enc:TypeId×Value->H}{a:Assume}{C:Checked}{os:Os}{f:FuncId}{fn:Func}{s:ChangeSpec}{conds:List PathCond}{apart fresh handsOn again:Bool}{X:World->Array Value->Prop}
  (hX:∀ (w w':World) (args:Array Value),w.heap=w'.heap->X w args->X w' args)
  (own:ownKnob C.prog.godebug=none) (started:os.Started) (noInit:C.prog.inits.idxOf? f=none) (hfn:C.prog.funcs[f]?=some fn)
  (witness:∃ (w:World) (tape:Tape) (i:Input),w.os=os/\(w.forCall tape i).Shaped C.prog/\i.vars = []/\Input.okWide C.prog (w.forCall tape i) .any w.heap.size f i /\
   ((s.pre enc C.prog fn conds apart (w.forCall tape i).memory i.args/\X (w.forCall tape i).memory i.args)/\sizedMet enc C.prog fn (OpenSpec.ofChange s) apart (w.forCall tape i).memory i.args)/\a.holds C.prog (lone (Frame.enter C.prog f i.args .normal) [] (w.forCall tape i)))
  (contract:∀ (W:World) (base:Nat) (args:Array Value) (ds gs:List (DataW H)) (before:List MemPlace),
   (∀ (j:Nat) t v,fn.params[j]?=some t->args[j]?=some v->Value.okWide C.prog W .any base t v) ->
   DataW.Whole enc C.prog fn.params.toList s.vars apart W args.toList ds gs before ->
   conds.all (PathCond.test C.prog ⟨fn.params.toList,ds,s.plain.varTypes C.prog,gs⟩)=true ->
   (DataW.weightsEach C.prog (fn.params.toList++s.plain.varTypes C.prog) (ds++gs)).all (· <=reachBytes)=true->X W args->W.ShapedOpen C.prog ->
   Calls C.prog f args W fun e W'=>∃ v,e = .returned v/\s.post enc C.prog fn apart fresh handsOn again W args v W') :
  ReturnsInHanded a C os f .any (fun w args=>(s.pre enc C.prog fn conds apart w args/\X w args)/\sizedMet enc C.prog fn (OpenSpec.ofChange s) apart w args) (s.post enc C.prog fn apart fresh handsOn again):=by
 refine returnsInHanded_of_calls own started noInit witness ?_;intro w tape i _ hsh _ hok hpre hholds;obtain⟨_,_,_,fn',hfn',_,_,_,_,hval⟩:=hok;have e:fn'=fn:=Option.some.inj (hfn'.symm.trans hfn);subst e;obtain⟨⟨⟨ds,gs,before,hw,hc⟩,hx⟩,hz⟩:=hpre;have hw':=DataW.Whole.of_heap (w':=w.forCall tape i) (by rfl) hw;refine(contract (w.forCall tape i) w.heap.size i.args ds gs before hval hw' hc (hz.weights hw) (hX _ _ _ (by rfl) hx) hsh).mono fun e W' ⟨v,he,hp⟩=>?_;subst he;exact ChangeSpec.post_blind hp
theorem qez{P:Program}{w:World}{n nm:String}{d:DataW Unit}{g t:Nat}{ms:Array (String×TypeId)}(h:Lib.VarReads P w n (.iface nm d))(hg:P.globalNamed n=some g)(ht:(P.globals[g]?).map (·.type)=some t)(hi:P.underlying t=some (.interface ms)) :
  ∃ u v,w.cell? ⟨g,0,none⟩=some (.iface u v):=by
 obtain⟨g0,t0,cs,fuel,p,h1,h2,h3,h4⟩:=h;obtain rfl:=Option.some.inj (hg.symm.trans h1);obtain rfl:=Option.some.inj (ht.symm.trans h2);have hc:=World.var?_cell hg h3 0
 cases fuel with
 | zero=>simp[DataW.trod]at h4
 | succ fuel=>
  simp only[DataW.trod,hi]at h4;obtain⟨l⟩:=cs;rcases l with _|⟨x,_|⟨y,r⟩⟩
  ·cases h4
  ·cases x with
   | iface u v=>exact⟨u,v,by simpa using hc⟩
   | nilIface=>cases h4
   | _=>cases h4
  ·cases x<;>cases h4
end Go.PX
namespace Go.Proofs.YtgpmlbbkfmkmkaaGreatDoor
open Go.ChangeShapes Go.WideShapes Go.ChangeAt Go.RowKit Go.PX
noncomputable def qlV:List (String×DataW Unit):=Rows.passKnownRow.laid
theorem own:ownKnob Tryz.prog.godebug=none:=by kernel_rfl
theorem kids:Kids Tryz.prog (· < Tryz.prog.types.size):=kids_rows (by kernel_rfl) (by kernel_rfl)
theorem full:∀ t e,t<Tryz.prog.types.size->Tryz.prog.underlying t=some (.slice e)->0<Tryz.prog.cellsOf e:=slices_full_of Tryz.prog (by kernel_rfl)
theorem gPow : Tryz.prog.globalNamed "internal/strconv.uint64pow10" = some 3 := by kernel_rfl
theorem gLen : Tryz.prog.globalNamed "internal/bytealg.MaxLen" = some 0 := by kernel_rfl
theorem gSyn : Tryz.prog.globalNamed "strconv.ErrSyntax" = some 1 := by kernel_rfl
theorem gRng : Tryz.prog.globalNamed "strconv.ErrRange" = some 2 := by kernel_rfl
theorem tPow:(Tryz.prog.globals[3]?).map (·.type)=some 238:=by kernel_rfl
theorem qzt:(Tryz.prog.globals[1]?).map (·.type)=some 191:=by kernel_rfl
theorem qzu:(Tryz.prog.globals[2]?).map (·.type)=some 191:=by kernel_rfl
theorem qvw{W:World}(h:W.ShapedOpen Tryz.prog):∃ m,W.cell? ⟨0,0,none⟩=some (.int .i64 m):=
 Go.Proofs.cell_of_shapedOpen_int (zero:=#[.int .i64 0]) (t:=3) h (of_decide_eq_true (by kernel_rfl)) (by kernel_rfl) rfl (by kernel_rfl) (by kernel_rfl) Tryz.underlying3
set_option maxRecDepth 100000 in
theorem qrE{W:World}(hL:laidMetH Tryz.prog qlV W)(hsh:W.ShapedOpen Tryz.prog):Laid Tryz.prog W:=by
 rw[MakeChecks.laidMetH_plain _ _ _ (by kernel_rfl)]at hL;refine⟨fun g hg=>?_,fun g hg=>?_,fun g hg=>?_,fun g hg=>?_⟩
 ·have hr : Lib.VarReads Tryz.prog W "internal/strconv.uint64pow10" Rows.laid_internal_strconv_uint64pow10 := Lib.laidMet.reads hL (.tail _ (.tail _ (.head _)))
  obtain⟨g0,t0,cs,fuel,p,h1,h2,h3,h4⟩:=hr;obtain rfl:=Option.some.inj (gPow.symm.trans h1);obtain rfl:=Option.some.inj (tPow.symm.trans h2);unfold Lib.TabIs;rw[h3,<- Lib.cells_of_tab (k:=.u64) (zs:=Lib.pow10Tab) Tryz.underlying238 Tryz.underlying224 (by kernel_rfl) (by kernel_rfl) h4]
 ·obtain rfl:=Option.some.inj (gLen.symm.trans hg)
  exact qvw hsh
 ·obtain rfl:=Option.some.inj (gSyn.symm.trans hg)
  exact qez (Lib.laidMet.reads hL (.tail _ (.tail _ (.tail _ (.tail _ (.tail _ (.head _))))))) gSyn qzt Tryz.underlying191
 ·obtain rfl:=Option.some.inj (gRng.symm.trans hg)
  exact qez (Lib.laidMet.reads hL (.tail _ (.tail _ (.tail _ (.tail _ (.head _)))))) gRng qzu Tryz.underlying191
theorem qlW(os:Os)(args:Array Value):laidMetH Tryz.prog qlV ((World.laidAll Tryz.prog os qlV).forCall (fun _ _=>0) ⟨#[],args,[]⟩).memory:=by
 rw[MakeChecks.laidMetH_plain _ _ _ (by kernel_rfl)];exact laidMet_laidAll _ (by kernel_rfl) (by kernel_rfl)
theorem qkx(os:Os)(args:Array Value):((World.laidAll Tryz.prog os qlV).forCall (fun _ _=>0) ⟨#[],args,[]⟩).Shaped Tryz.prog:=
 World.shaped_of_ZipB (by kernel_rfl) (by kernel_rfl)
end Go.Proofs.YtgpmlbbkfmkmkaaGreatDoor
namespace Go.PX
def tys:Tys:=(.nd (.nd (.nd (.nd (.nd (.nd (.nd .lf 1
 { size:=1,bytes:=8,kd:=.other,isAgg:=false,held:=false,zero:=some [.nilf] }
 .lf) 2
 { size:=1,bytes:=8,kd:=(.int .i64),isAgg:=false,held:=false,zero:=some [.int .i64 0] }
 .lf) 3
 { size:=1,bytes:=8,kd:=(.int .i64),isAgg:=false,held:=false,zero:=some [.int .i64 0] }
 (.nd .lf 4
 { size:=1,bytes:=1,kd:=.bool,isAgg:=false,held:=false,zero:=some [.bool false] }
 .lf)) 5
 { size:=1,bytes:=1,kd:=(.int .u8),isAgg:=false,held:=false,zero:=some [.int .u8 0] }
 (.nd (.nd (.nd .lf 9
 { size:=1,bytes:=16,kd:=.str,isAgg:=false,held:=false,zero:=some [.str ⟨#[]⟩] }
 .lf) 20
 { size:=1,bytes:=16,kd:=.iface,isAgg:=false,held:=false,zero:=some [.nili] }
 .lf) 21
 { size:=1,bytes:=4,kd:=(.int .i32),isAgg:=false,held:=false,zero:=some [.int .i32 0] }
 (.nd .lf 22
 { size:=1,bytes:=24,kd:=(.slice 82),isAgg:=false,held:=false,zero:=some [.nils] }
 .lf))) 24
 { size:=2,bytes:=32,kd:=(.struct [(0,3),(1,22)]),isAgg:=true,held:=false,zero:=some [.int .i64 0,.nils] }
 (.nd (.nd (.nd (.nd .lf 26
 { size:=2,bytes:=16,kd:=(.struct [(0,3),(1,3)]),isAgg:=true,held:=false,zero:=some [.int .i64 0,.int .i64 0] }
 .lf) 27
 { size:=1,bytes:=8,kd:=(.int .i64),isAgg:=false,held:=false,zero:=some [.int .i64 0] }
 .lf) 32
 { size:=1,bytes:=24,kd:=(.slice 37),isAgg:=false,held:=false,zero:=some [.nils] }
 (.nd .lf 37
 { size:=2,bytes:=16,kd:=(.struct [(0,3),(1,3)]),isAgg:=true,held:=false,zero:=some [.int .i64 0,.int .i64 0] }
 .lf)) 44
 { size:=1,bytes:=24,kd:=(.slice 26),isAgg:=false,held:=false,zero:=some [.nils] }
 (.nd (.nd (.nd .lf 51
 { size:=1,bytes:=24,kd:=(.slice 3),isAgg:=false,held:=false,zero:=some [.nils] }
 .lf) 67
 { size:=1,bytes:=24,kd:=(.slice 78),isAgg:=false,held:=false,zero:=some [.nils] }
 .lf) 68
 { size:=2,bytes:=48,kd:=(.array 2 67),isAgg:=true,held:=false,zero:=some [.nils,.nils] }
 (.nd .lf 69
 { size:=2,bytes:=2,kd:=(.array 2 5),isAgg:=true,held:=false,zero:=some [.int .u8 0,.int .u8 0] }
 .lf)))) 70
 { size:=1,bytes:=24,kd:=(.slice 51),isAgg:=false,held:=false,zero:=some [.nils] }
 (.nd (.nd (.nd (.nd (.nd .lf 75
 { size:=4,bytes:=40,kd:=(.struct [(0,3),(1,3),(2,9),(3,3)]),isAgg:=true,held:=false,zero:=some [.int .i64 0,.int .i64 0,.str ⟨#[]⟩,.int .i64 0] }
 .lf) 78
 { size:=1,bytes:=2,kd:=(.int .u16),isAgg:=false,held:=false,zero:=some [.int .u16 0] }
 .lf) 80
 { size:=1,bytes:=24,kd:=(.slice 75),isAgg:=false,held:=false,zero:=some [.nils] }
 (.nd .lf 82
 { size:=6,bytes:=72,kd:=(.struct [(0,9),(1,37),(3,37),(5,80)]),isAgg:=true,held:=false,zero:=some [.str ⟨#[]⟩,.int .i64 0,.int .i64 0,.int .i64 0,.int .i64 0,.nils] }
 .lf)) 87
 { size:=6,bytes:=48,kd:=(.struct [(0,26),(2,26),(4,26)]),isAgg:=true,held:=false,zero:=some [.int .i64 0,.int .i64 0,.int .i64 0,.int .i64 0,.int .i64 0,.int .i64 0] }
 (.nd (.nd (.nd .lf 91
 { size:=1,bytes:=4,kd:=(.int .u32),isAgg:=false,held:=false,zero:=some [.int .u32 0] }
 .lf) 97
 { size:=3,bytes:=3,kd:=(.array 3 5),isAgg:=true,held:=false,zero:=some [.int .u8 0,.int .u8 0,.int .u8 0] }
 .lf) 99
 { size:=4,bytes:=32,kd:=(.array 2 26),isAgg:=true,held:=false,zero:=some [.int .i64 0,.int .i64 0,.int .i64 0,.int .i64 0] }
 (.nd .lf 105
 { size:=1,bytes:=8,kd:=.other,isAgg:=false,held:=false,zero:=some [.nilf] }
 .lf))) 108
 { size:=1,bytes:=24,kd:=(.slice 9),isAgg:=false,held:=false,zero:=some [.nils] }
 (.nd (.nd (.nd (.nd .lf 111
 { size:=1,bytes:=8,kd:=(.map 117 3),isAgg:=false,held:=false,zero:=some [.nilm] }
 .lf) 113
 { size:=1,bytes:=8,kd:=.other,isAgg:=false,held:=false,zero:=some [.nilp] }
 .lf) 117
 { size:=2,bytes:=16,kd:=(.struct [(0,3),(1,3)]),isAgg:=true,held:=false,zero:=some [.int .i64 0,.int .i64 0] }
 (.nd .lf 126
 { size:=1,bytes:=24,kd:=(.slice 117),isAgg:=false,held:=false,zero:=some [.nils] }
 .lf)) 127
 { size:=1,bytes:=24,kd:=(.slice 179),isAgg:=false,held:=false,zero:=some [.nils] }
 (.nd (.nd .lf 128
 { size:=1,bytes:=24,kd:=(.slice 126),isAgg:=false,held:=false,zero:=some [.nils] }
 .lf) 130
 { size:=5,bytes:=88,kd:=(.struct [(0,24),(2,127),(3,128),(4,3)]),isAgg:=true,held:=false,zero:=some [.int .i64 0,.nils,.nils,.nils,.int .i64 0] }
 (.nd .lf 138
 { size:=1,bytes:=16,kd:=(.struct [(0,9)]),isAgg:=true,held:=false,zero:=some [.str ⟨#[]⟩] }
 .lf))))) 141
 { size:=1,bytes:=16,kd:=.iface,isAgg:=false,held:=false,zero:=some [.nili] }
 (.nd (.nd (.nd (.nd (.nd (.nd .lf 145
 { size:=1,bytes:=8,kd:=.other,isAgg:=false,held:=false,zero:=some [.nilf] }
 .lf) 146
 { size:=1,bytes:=8,kd:=(.map 3 3),isAgg:=false,held:=false,zero:=some [.nilm] }
 .lf) 149
 { size:=1,bytes:=8,kd:=.other,isAgg:=false,held:=false,zero:=some [.nilf] }
 (.nd .lf 150
 { size:=1,bytes:=8,kd:=.other,isAgg:=false,held:=false,zero:=some [.nilf] }
 .lf)) 154
 { size:=1,bytes:=8,kd:=(.map 3 9),isAgg:=false,held:=false,zero:=some [.nilm] }
 (.nd (.nd (.nd .lf 156
 { size:=2,bytes:=24,kd:=(.struct [(0,9),(1,3)]),isAgg:=true,held:=false,zero:=some [.str ⟨#[]⟩,.int .i64 0] }
 .lf) 166
 { size:=1,bytes:=8,kd:=.other,isAgg:=false,held:=false,zero:=some [.nilp] }
 .lf) 175
 { size:=0,bytes:=0,kd:=(.struct []),isAgg:=true,held:=false,zero:=some [] }
 (.nd .lf 177
 { size:=1,bytes:=8,kd:=(.map 3 26),isAgg:=false,held:=false,zero:=some [.nilm] }
 .lf))) 179
 { size:=5,bytes:=40,kd:=(.struct [(0,117),(2,117),(4,3)]),isAgg:=true,held:=false,zero:=some [.int .i64 0,.int .i64 0,.int .i64 0,.int .i64 0,.int .i64 0] }
 (.nd (.nd (.nd (.nd .lf 180
 { size:=1,bytes:=8,kd:=.other,isAgg:=false,held:=false,zero:=some [.nilf] }
 .lf) 183
 { size:=1,bytes:=8,kd:=.other,isAgg:=false,held:=false,zero:=some [.nilf] }
 .lf) 184
 { size:=1,bytes:=8,kd:=.other,isAgg:=false,held:=false,zero:=some [.nilf] }
 (.nd .lf 185
 { size:=1,bytes:=8,kd:=.other,isAgg:=false,held:=false,zero:=some [.nilp] }
 .lf)) 186
 { size:=1,bytes:=24,kd:=(.slice 5),isAgg:=false,held:=false,zero:=some [.nils] }
 (.nd (.nd (.nd .lf 188
 { size:=2,bytes:=32,kd:=(.struct [(0,185),(1,186)]),isAgg:=true,held:=false,zero:=some [.nilp,.nils] }
 .lf) 189
 { size:=1,bytes:=24,kd:=(.slice 20),isAgg:=false,held:=false,zero:=some [.nils] }
 .lf) 191
 { size:=1,bytes:=16,kd:=.iface,isAgg:=false,held:=false,zero:=some [.nili] }
 (.nd .lf 196
 { size:=1,bytes:=8,kd:=.other,isAgg:=false,held:=false,zero:=some [.nilf] }
 .lf)))) 198
 { size:=1,bytes:=8,kd:=.other,isAgg:=false,held:=false,zero:=some [.nilp] }
 (.nd (.nd (.nd (.nd (.nd .lf 199
 { size:=1,bytes:=24,kd:=(.slice 198),isAgg:=false,held:=false,zero:=some [.nils] }
 .lf) 200
 { size:=1,bytes:=8,kd:=.other,isAgg:=false,held:=false,zero:=some [.nilp] }
 .lf) 204
 { size:=1,bytes:=8,kd:=.other,isAgg:=false,held:=false,zero:=some [.nilp] }
 (.nd .lf 214
 { size:=1,bytes:=8,kd:=(.int .u64),isAgg:=false,held:=false,zero:=some [.int .u64 0] }
 .lf)) 215
 { size:=1,bytes:=8,kd:=(.int .i64),isAgg:=false,held:=false,zero:=some [.int .i64 0] }
 (.nd (.nd (.nd .lf 218
 { size:=1,bytes:=8,kd:=.other,isAgg:=false,held:=false,zero:=some [.nilp] }
 .lf) 223
 { size:=24,bytes:=24,kd:=(.array 24 5),isAgg:=true,held:=false,zero:=some [.int .u8 0,.int .u8 0,.int .u8 0,.int .u8 0,.int .u8 0,.int .u8 0,.int .u8 0,.int .u8 0,.int .u8 0,.int .u8 0,.int .u8 0,.int .u8 0,.int .u8 0,.int .u8 0,.int .u8 0,.int .u8 0,.int .u8 0,.int .u8 0,.int .u8 0,.int .u8 0,.int .u8 0,.int .u8 0,.int .u8 0,.int .u8 0] }
 .lf) 224
 { size:=1,bytes:=8,kd:=(.int .u64),isAgg:=false,held:=false,zero:=some [.int .u64 0] }
 (.nd .lf 235
 { size:=3,bytes:=48,kd:=(.struct [(0,9),(1,9),(2,191)]),isAgg:=true,held:=false,zero:=some [.str ⟨#[]⟩,.str ⟨#[]⟩,.nili] }
 .lf))) 238
 { size:=20,bytes:=160,kd:=(.array 20 224),isAgg:=true,held:=false,zero:=some [.int .u64 0,.int .u64 0,.int .u64 0,.int .u64 0,.int .u64 0,.int .u64 0,.int .u64 0,.int .u64 0,.int .u64 0,.int .u64 0,.int .u64 0,.int .u64 0,.int .u64 0,.int .u64 0,.int .u64 0,.int .u64 0,.int .u64 0,.int .u64 0,.int .u64 0,.int .u64 0] }
 (.nd (.nd (.nd (.nd .lf 239
 { size:=65,bytes:=65,kd:=(.array 65 5),isAgg:=true,held:=false,zero:=some [.int .u8 0,.int .u8 0,.int .u8 0,.int .u8 0,.int .u8 0,.int .u8 0,.int .u8 0,.int .u8 0,.int .u8 0,.int .u8 0,.int .u8 0,.int .u8 0,.int .u8 0,.int .u8 0,.int .u8 0,.int .u8 0,.int .u8 0,.int .u8 0,.int .u8 0,.int .u8 0,.int .u8 0,.int .u8 0,.int .u8 0,.int .u8 0,.int .u8 0,.int .u8 0,.int .u8 0,.int .u8 0,.int .u8 0,.int .u8 0,.int .u8 0,.int .u8 0,.int .u8 0,.int .u8 0,.int .u8 0,.int .u8 0,.int .u8 0,.int .u8 0,.int .u8 0,.int .u8 0,.int .u8 0,.int .u8 0,.int .u8 0,.int .u8 0,.int .u8 0,.int .u8 0,.int .u8 0,.int .u8 0,.int .u8 0,.int .u8 0,.int .u8 0,.int .u8 0,.int .u8 0,.int .u8 0,.int .u8 0,.int .u8 0,.int .u8 0,.int .u8 0,.int .u8 0,.int .u8 0,.int .u8 0,.int .u8 0,.int .u8 0,.int .u8 0,.int .u8 0] }
 .lf) 242
 { size:=1,bytes:=8,kd:=.other,isAgg:=false,held:=false,zero:=some [.nilp] }
 .lf) 244
 { size:=1,bytes:=16,kd:=(.struct [(0,9)]),isAgg:=true,held:=false,zero:=some [.str ⟨#[]⟩] }
 (.nd .lf 245
 { size:=256,bytes:=256,kd:=(.array 256 5),isAgg:=true,held:=false,zero:=some [.int .u8 0,.int .u8 0,.int .u8 0,.int .u8 0,.int .u8 0,.int .u8 0,.int .u8 0,.int .u8 0,.int .u8 0,.int .u8 0,.int .u8 0,.int .u8 0,.int .u8 0,.int .u8 0,.int .u8 0,.int .u8 0,.int .u8 0,.int .u8 0,.int .u8 0,.int .u8 0,.int .u8 0,.int .u8 0,.int .u8 0,.int .u8 0,.int .u8 0,.int .u8 0,.int .u8 0,.int .u8 0,.int .u8 0,.int .u8 0,.int .u8 0,.int .u8 0,.int .u8 0,.int .u8 0,.int .u8 0,.int .u8 0,.int .u8 0,.int .u8 0,.int .u8 0,.int .u8 0,.int .u8 0,.int .u8 0,.int .u8 0,.int .u8 0,.int .u8 0,.int .u8 0,.int .u8 0,.int .u8 0,.int .u8 0,.int .u8 0,.int .u8 0,.int .u8 0,.int .u8 0,.int .u8 0,.int .u8 0,.int .u8 0,.int .u8 0,.int .u8 0,.int .u8 0,.int .u8 0,.int .u8 0,.int .u8 0,.int .u8 0,.int .u8 0,.int .u8 0,.int .u8 0,.int .u8 0,.int .u8 0,.int .u8 0,.int .u8 0,.int .u8 0,.int .u8 0,.int .u8 0,.int .u8 0,.int .u8 0,.int .u8 0,.int .u8 0,.int .u8 0,.int .u8 0,.int .u8 0,.int .u8 0,.int .u8 0,.int .u8 0,.int .u8 0,.int .u8 0,.int .u8 0,.int .u8 0,.int .u8 0,.int .u8 0,.int .u8 0,.int .u8 0,.int .u8 0,.int .u8 0,.int .u8 0,.int .u8 0,.int .u8 0,.int .u8 0,.int .u8 0,.int .u8 0,.int .u8 0,.int .u8 0,.int .u8 0,.int .u8 0,.int .u8 0,.int .u8 0,.int .u8 0,.int .u8 0,.int .u8 0,.int .u8 0,.int .u8 0,.int .u8 0,.int .u8 0,.int .u8 0,.int .u8 0,.int .u8 0,.int .u8 0,.int .u8 0,.int .u8 0,.int .u8 0,.int .u8 0,.int .u8 0,.int .u8 0,.int .u8 0,.int .u8 0,.int .u8 0,.int .u8 0,.int .u8 0,.int .u8 0,.int .u8 0,.int .u8 0,.int .u8 0,.int .u8 0,.int .u8 0,.int .u8 0,.int .u8 0,.int .u8 0,.int .u8 0,.int .u8 0,.int .u8 0,.int .u8 0,.int .u8 0,.int .u8 0,.int .u8 0,.int .u8 0,.int .u8 0,.int .u8 0,.int .u8 0,.int .u8 0,.int .u8 0,.int .u8 0,.int .u8 0,.int .u8 0,.int .u8 0,.int .u8 0,.int .u8 0,.int .u8 0,.int .u8 0,.int .u8 0,.int .u8 0,.int .u8 0,.int .u8 0,.int .u8 0,.int .u8 0,.int .u8 0,.int .u8 0,.int .u8 0,.int .u8 0,.int .u8 0,.int .u8 0,.int .u8 0,.int .u8 0,.int .u8 0,.int .u8 0,.int .u8 0,.int .u8 0,.int .u8 0,.int .u8 0,.int .u8 0,.int .u8 0,.int .u8 0,.int .u8 0,.int .u8 0,.int .u8 0,.int .u8 0,.int .u8 0,.int .u8 0,.int .u8 0,.int .u8 0,.int .u8 0,.int .u8 0,.int .u8 0,.int .u8 0,.int .u8 0,.int .u8 0,.int .u8 0,.int .u8 0,.int .u8 0,.int .u8 0,.int .u8 0,.int .u8 0,.int .u8 0,.int .u8 0,.int .u8 0,.int .u8 0,.int .u8 0,.int .u8 0,.int .u8 0,.int .u8 0,.int .u8 0,.int .u8 0,.int .u8 0,.int .u8 0,.int .u8 0,.int .u8 0,.int .u8 0,.int .u8 0,.int .u8 0,.int .u8 0,.int .u8 0,.int .u8 0,.int .u8 0,.int .u8 0,.int .u8 0,.int .u8 0,.int .u8 0,.int .u8 0,.int .u8 0,.int .u8 0,.int .u8 0,.int .u8 0,.int .u8 0,.int .u8 0,.int .u8 0,.int .u8 0,.int .u8 0,.int .u8 0,.int .u8 0,.int .u8 0,.int .u8 0,.int .u8 0,.int .u8 0,.int .u8 0,.int .u8 0,.int .u8 0,.int .u8 0,.int .u8 0,.int .u8 0,.int .u8 0,.int .u8 0,.int .u8 0,.int .u8 0,.int .u8 0,.int .u8 0,.int .u8 0,.int .u8 0,.int .u8 0] }
 .lf)) 247
 { size:=2,bytes:=2,kd:=(.struct [(0,5),(1,5)]),isAgg:=true,held:=false,zero:=some [.int .u8 0,.int .u8 0] }
 (.nd (.nd .lf 248
 { size:=32,bytes:=32,kd:=(.array 16 247),isAgg:=true,held:=false,zero:=some [.int .u8 0,.int .u8 0,.int .u8 0,.int .u8 0,.int .u8 0,.int .u8 0,.int .u8 0,.int .u8 0,.int .u8 0,.int .u8 0,.int .u8 0,.int .u8 0,.int .u8 0,.int .u8 0,.int .u8 0,.int .u8 0,.int .u8 0,.int .u8 0,.int .u8 0,.int .u8 0,.int .u8 0,.int .u8 0,.int .u8 0,.int .u8 0,.int .u8 0,.int .u8 0,.int .u8 0,.int .u8 0,.int .u8 0,.int .u8 0,.int .u8 0,.int .u8 0] }
 .lf) 250
 { size:=32,bytes:=32,kd:=(.array 32 5),isAgg:=true,held:=false,zero:=some [.int .u8 0,.int .u8 0,.int .u8 0,.int .u8 0,.int .u8 0,.int .u8 0,.int .u8 0,.int .u8 0,.int .u8 0,.int .u8 0,.int .u8 0,.int .u8 0,.int .u8 0,.int .u8 0,.int .u8 0,.int .u8 0,.int .u8 0,.int .u8 0,.int .u8 0,.int .u8 0,.int .u8 0,.int .u8 0,.int .u8 0,.int .u8 0,.int .u8 0,.int .u8 0,.int .u8 0,.int .u8 0,.int .u8 0,.int .u8 0,.int .u8 0,.int .u8 0] }
 (.nd .lf 251
 { size:=64,bytes:=64,kd:=(.array 64 5),isAgg:=true,held:=false,zero:=some [.int .u8 0,.int .u8 0,.int .u8 0,.int .u8 0,.int .u8 0,.int .u8 0,.int .u8 0,.int .u8 0,.int .u8 0,.int .u8 0,.int .u8 0,.int .u8 0,.int .u8 0,.int .u8 0,.int .u8 0,.int .u8 0,.int .u8 0,.int .u8 0,.int .u8 0,.int .u8 0,.int .u8 0,.int .u8 0,.int .u8 0,.int .u8 0,.int .u8 0,.int .u8 0,.int .u8 0,.int .u8 0,.int .u8 0,.int .u8 0,.int .u8 0,.int .u8 0,.int .u8 0,.int .u8 0,.int .u8 0,.int .u8 0,.int .u8 0,.int .u8 0,.int .u8 0,.int .u8 0,.int .u8 0,.int .u8 0,.int .u8 0,.int .u8 0,.int .u8 0,.int .u8 0,.int .u8 0,.int .u8 0,.int .u8 0,.int .u8 0,.int .u8 0,.int .u8 0,.int .u8 0,.int .u8 0,.int .u8 0,.int .u8 0,.int .u8 0,.int .u8 0,.int .u8 0,.int .u8 0,.int .u8 0,.int .u8 0,.int .u8 0,.int .u8 0] }
 .lf))))))
def ft5:FT:=⟨[0,1,2,3,4,5,6,7,8,9,10,28,47],[]⟩
def qzv:FT:=⟨[0,1,2,3,4,5,6,7,8,9,14,21,22,23,24,28,35,44,61,80,88,89,90,91,98],[]⟩
def qzw:FT:=⟨[0,1,2,3,4,5,6,7,8,9,10,14,19,24,42,56,58,66,76],[]⟩
def qzx:FT:=⟨[0,1,2,3,6,8,16],[]⟩
def qzy:FT:=⟨[0,1,2,4,5,6,8,9,11,12,19,23,40,46,47,48,49,54,59,60,61],[]⟩
def qzz:FT:=⟨[0,1,4,5,10,14,25],[(6,⟨[],[⟨[0],[]⟩,⟨[5],[0]⟩,⟨[17,18],[]⟩,⟨[19],[]⟩,⟨[1],[0,1,2,3]⟩,⟨[5],[0,1,2,3,4]⟩,⟨[21,22],[0,1,2,3]⟩,⟨[23],[0,1,2,3]⟩,⟨[20,24],[]⟩]⟩)]⟩
def qyP:FT:=⟨[0,1,2,3,4,5,6,7,8,9,18,22],[(6,⟨[8],[⟨[6],[]⟩,⟨[6],[0]⟩,⟨[26],[0]⟩,⟨[27],[0]⟩,⟨[28],[0]⟩,⟨[3],[0,1,2,3,4]⟩,⟨[30],[0,1,2,3,4]⟩,⟨[29,31],[0]⟩,⟨[32],[0]⟩,⟨[3],[0,1,2,3,4,5,6,7,8]⟩,⟨[34],[0,1,2,3,4,5,6,7,8]⟩,⟨[33,35],[0]⟩,⟨[36],[0]⟩,⟨[],[0,1,2,3,4,5,6,7,8,9,10,11,12]⟩,⟨[25,37,38],[]⟩,⟨[6],[0,1,2,3,4,5,6,7,8,9,10,11,12,13,14]⟩,⟨[3],[0,1,2,3,4,5,6,7,8,9,10,11,12,13,14,15]⟩,⟨[40,41],[]⟩,⟨[42],[]⟩,⟨[],[0,1,2,3,4,5,6,7,8,9,10,11,12,13,14,15,16,17,18]⟩,⟨[8,39],[18]⟩,⟨[43],[]⟩]⟩)]⟩
def qzA:FT:=⟨[0,1,2,3,4,5,6,7,8,9,10,11,12,13,14,15,16,17,18,19,20,21,22,23,24,25,26,27,29],[(14,⟨[165,194,203],[⟨[2],[]⟩,⟨[104],[]⟩,⟨[105],[]⟩,⟨[4,106],[]⟩,⟨[106,107],[]⟩,⟨[106,108],[]⟩,⟨[109],[]⟩,⟨[6,110],[]⟩,⟨[110,111],[]⟩,⟨[110,112],[]⟩,⟨[113],[]⟩,⟨[8,114],[]⟩,⟨[114,115],[]⟩,⟨[114,116],[]⟩,⟨[117],[]⟩,⟨[11,118],[]⟩,⟨[118,119],[]⟩,⟨[118,120],[]⟩,⟨[121],[]⟩,⟨[14,122],[]⟩,⟨[122,123],[]⟩,⟨[122,124],[]⟩,⟨[125],[]⟩,⟨[16,126],[]⟩,⟨[126,127],[]⟩,⟨[126,128],[]⟩,⟨[129],[]⟩,⟨[18,130],[]⟩,⟨[130,131],[]⟩,⟨[130,132],[]⟩,⟨[133],[]⟩,⟨[20,134],[]⟩,⟨[134,135],[]⟩,⟨[134,136],[]⟩,⟨[137],[]⟩,⟨[23,138],[]⟩,⟨[138,139],[]⟩,⟨[138,140],[]⟩,⟨[141],[]⟩,⟨[25,142],[]⟩,⟨[142,143],[]⟩,⟨[142,144],[]⟩,⟨[145],[]⟩,⟨[27,146],[]⟩,⟨[146,147],[]⟩,⟨[146,148],[]⟩,⟨[149],[]⟩,⟨[29,150],[]⟩,⟨[150,151],[]⟩,⟨[150,152],[]⟩,⟨[153],[]⟩,⟨[1,154],[]⟩,⟨[154,155],[]⟩,⟨[156],[]⟩,⟨[3,157],[]⟩,⟨[157,158],[]⟩,⟨[157,159],[]⟩,⟨[160],[]⟩,⟨[5,161],[]⟩,⟨[161],[58]⟩,⟨[161],[58]⟩,⟨[161,163,164],[58]⟩,⟨[161,162,165],[]⟩,⟨[161,166],[]⟩,⟨[167],[]⟩,⟨[7,168],[]⟩,⟨[168],[65]⟩,⟨[168,169,170],[]⟩,⟨[168,171],[]⟩,⟨[172],[]⟩,⟨[9,173],[]⟩,⟨[173],[70]⟩,⟨[173,174,175],[]⟩,⟨[173,176],[]⟩,⟨[177],[]⟩,⟨[10,178],[]⟩,⟨[178,179],[]⟩,⟨[178,180],[]⟩,⟨[181],[]⟩,⟨[12,182],[]⟩,⟨[182],[79]⟩,⟨[182,183,184],[]⟩,⟨[182,185],[]⟩,⟨[186],[]⟩,⟨[13,187],[]⟩,⟨[187,188],[]⟩,⟨[187,189],[]⟩,⟨[190],[]⟩,⟨[15,191],[]⟩,⟨[191],[88]⟩,⟨[191,193],[88]⟩,⟨[191,192,194],[]⟩,⟨[191,195],[]⟩,⟨[196],[]⟩,⟨[17,197],[]⟩,⟨[197,198],[]⟩,⟨[197,199],[]⟩,⟨[200],[]⟩,⟨[19,201],[]⟩,⟨[201],[98]⟩,⟨[201,202,203],[]⟩,⟨[201,204],[]⟩,⟨[205],[]⟩,⟨[21,206],[]⟩,⟨[206,207],[]⟩,⟨[206,208],[]⟩,⟨[206,209],[]⟩,⟨[210],[]⟩,⟨[22,211],[]⟩,⟨[211,212],[]⟩,⟨[211,213],[]⟩,⟨[211,214],[]⟩,⟨[215],[]⟩,⟨[24,216],[]⟩,⟨[216],[113]⟩,⟨[216,217,218],[]⟩,⟨[216,219],[]⟩,⟨[220],[]⟩,⟨[26,221],[]⟩,⟨[221],[118]⟩,⟨[221,222,223],[]⟩,⟨[221,224],[]⟩,⟨[225],[]⟩]⟩)]⟩
def qyQ:FT:=⟨[0,1,2,3,4,5,6,7,8,9,19,23,30,34,38],[]⟩
def qyR:FT:=⟨[0,1,2,3,4,5,6,7,8,9,10,11,12,13,14,15,16,25,36,40,43,44,45,46,51,52,53,54,76,96],[]⟩
def qzB:FT:=⟨[0,1,4,5,10,14,25],[(6,⟨[],[⟨[0],[]⟩,⟨[5],[0]⟩,⟨[17,18],[]⟩,⟨[19],[]⟩,⟨[1],[0,1,2,3]⟩,⟨[5],[0,1,2,3,4]⟩,⟨[21,22],[0,1,2,3]⟩,⟨[23],[0,1,2,3]⟩,⟨[20,24],[]⟩]⟩)]⟩
def qzC:FT:=⟨[0,1,2,3,6,7,8,16,24],[]⟩
def qxU:FT:=⟨[0,1,2,3,6,7,8,10,11,13,21,30,33,44],[]⟩
def qzD:FT:=⟨[0,1,2,3,6,7,9,10,11,13,21,28,29,34,41,42,51],[]⟩
def qyS:FT:=⟨[0,1,2,3,6,7,8,9,10,12,20,27,36,48],[(12,⟨[],[⟨[1],[]⟩,⟨[9],[0]⟩,⟨[10],[0,1]⟩,⟨[41,42],[0]⟩,⟨[43],[0]⟩,⟨[40,44],[]⟩,⟨[45],[]⟩,⟨[39],[]⟩,⟨[39],[7]⟩,⟨[46],[8]⟩,⟨[47],[]⟩]⟩)]⟩
def qzE:FT:=⟨[0,1,4,5,10,14,25],[(6,⟨[],[⟨[0],[]⟩,⟨[5],[0]⟩,⟨[17,18],[]⟩,⟨[19],[]⟩,⟨[1],[0,1,2,3]⟩,⟨[5],[0,1,2,3,4]⟩,⟨[21,22],[0,1,2,3]⟩,⟨[23],[0,1,2,3]⟩,⟨[20,24],[]⟩]⟩)]⟩
def qzF:FT:=⟨[0,1,2,3,4,5,6,8,10,11,12,13,14,15,16,17,25,29,30,31,32,36,37,38,39,49,63,82,85,94],[]⟩
def qyT:FT:=⟨[0,1,2,3,4,7,8,9,10,11,12,13,14,15,16,17,18,26,33,40,51,74,82,92,112,118],[(18,⟨[],[⟨[17],[]⟩,⟨[63],[]⟩,⟨[64],[]⟩,⟨[65],[]⟩,⟨[17,66],[]⟩,⟨[66,67],[]⟩,⟨[8,66],[4,5]⟩,⟨[11,66],[4,5,6]⟩,⟨[66,69,70],[4,5]⟩,⟨[66,71],[4,5]⟩,⟨[66,68,72],[]⟩,⟨[66,73],[]⟩]⟩)]⟩
def qzG:FT:=⟨[0,1,2,3,6,14],[]⟩
def qyU:FT:=⟨[0,2,3,4,5,6,7,8,9,10,11,14,17,40],[]⟩
def qzH:FT:=⟨[0,1,2,3,4,5,6,7,8,22,27,67,72,85],[(6,⟨[6,7],[⟨[2],[]⟩,⟨[30],[]⟩,⟨[5],[0,1]⟩,⟨[31,32],[]⟩,⟨[33],[]⟩,⟨[3],[0,1,2,3,4]⟩,⟨[35],[0,1,2,3,4]⟩,⟨[5],[0,1,2,3,4,5,6]⟩,⟨[36,37],[0,1,2,3,4]⟩,⟨[38],[0,1,2,3,4]⟩,⟨[],[0,1,2,3,4,5,6,7,8,9]⟩,⟨[],[0,1,2,3,4,5,6,7,8,9,10]⟩,⟨[6,34],[5,6,7,8,9]⟩,⟨[7,39],[]⟩]⟩),(12,⟨[],[⟨[6],[]⟩,⟨[75],[]⟩,⟨[8],[0,1]⟩,⟨[76,77],[]⟩,⟨[78],[]⟩,⟨[7],[0,1,2,3,4]⟩,⟨[80],[0,1,2,3,4]⟩,⟨[8],[0,1,2,3,4,5,6]⟩,⟨[81,82],[0,1,2,3,4]⟩,⟨[83],[0,1,2,3,4]⟩,⟨[79,84],[]⟩]⟩)]⟩
def qxV:FT:=⟨[0],[]⟩
def qzI:FT:=⟨[0,1,4],[]⟩
def qzJ:FT:=⟨[0,1,4],[]⟩
def qzK:FT:=⟨[0,1,2],[]⟩
def qzL:FT:=⟨[0,1,2,3,4,5,6,8,15,29],[]⟩
def qzM:FT:=⟨[0,1,4,5,9,17],[]⟩
def qzN:FT:=⟨[0,1,2,4,5,10,29],[]⟩
def qzO:FT:=⟨[0,1,2,3,4,6],[]⟩
def qzP:FT:=⟨[0,2,3,5,7,8,9,11,18],[]⟩
def qzQ:FT:=⟨[0,1,4],[]⟩
def qzR:FT:=⟨[0,1,2,3],[]⟩
def qzS:FT:=⟨[0,1,2,3,5,7,11,13,14,16,17,27,28,38,39,51],[]⟩
def qzT:FT:=⟨[0,1,2,6],[]⟩
def qzU:FT:=⟨[0,1,4,7,11],[]⟩
def qzV:FT:=⟨[0,1,2,6,7,8,12,34,45],[(7,⟨[],[⟨[0],[]⟩,⟨[8],[0]⟩,⟨[35,36],[]⟩,⟨[37],[]⟩,⟨[38],[]⟩,⟨[0],[0,1,2,3,4]⟩,⟨[8],[0,1,2,3,4,5]⟩,⟨[40,41],[0,1,2,3,4]⟩,⟨[42],[0,1,2,3,4]⟩,⟨[43],[0,1,2,3,4]⟩,⟨[39,44],[]⟩]⟩)]⟩
def qzW:FT:=⟨[0,1,2,3,7,11,22,33,43],[]⟩
def qxW:FT:=⟨[0,1,2,3,4,6,7,8,9,10,11,12,13,14,15,16,18,19,20,21,22,29,30,31,32,45,46,47,48,57,85,87,88,99,100,116,125],[(16,⟨[80,81],[⟨[7],[]⟩,⟨[7],[0]⟩,⟨[59],[0]⟩,⟨[60],[0]⟩,⟨[61],[0]⟩,⟨[13],[0,1,2,3,4]⟩,⟨[15],[0,1,2,3,4,5]⟩,⟨[64],[0,1,2,3,4,5]⟩,⟨[63,65],[0,1,2,3,4]⟩,⟨[66],[0,1,2,3,4]⟩,⟨[12],[0,1,2,3,4,5,6,7,8,9]⟩,⟨[16],[0,1,2,3,4,5,6,7,8,9,10]⟩,⟨[69],[0,1,2,3,4,5,6,7,8,9,10]⟩,⟨[11],[0,1,2,3,4,5,6,7,8,9,10,11,12]⟩,⟨[71],[0,1,2,3,4,5,6,7,8,9,10,11,12]⟩,⟨[15],[0,1,2,3,4,5,6,7,8,9,10,11,12,13,14]⟩,⟨[73],[0,1,2,3,4,5,6,7,8,9,10,11,12,13,14]⟩,⟨[72,74],[0,1,2,3,4,5,6,7,8,9,10,11,12]⟩,⟨[75],[0,1,2,3,4,5,6,7,8,9,10,11,12]⟩,⟨[76],[0,1,2,3,4,5,6,7,8,9,10,11,12]⟩,⟨[70,77],[0,1,2,3,4,5,6,7,8,9,10]⟩,⟨[67,68,78],[0,1,2,3,4]⟩,⟨[79],[0,1,2,3,4]⟩,⟨[62,80],[0]⟩,⟨[58],[]⟩,⟨[82],[]⟩,⟨[81,83],[]⟩]⟩),(29,⟨[],[⟨[16],[]⟩,⟨[132],[]⟩,⟨[3],[0,1]⟩,⟨[134],[0,1]⟩,⟨[19],[0,1,2,3]⟩,⟨[136],[0,1,2,3]⟩,⟨[135,137],[0,1]⟩,⟨[138],[0,1]⟩,⟨[139],[0,1]⟩,⟨[19],[0,1,2,3,4,5,6,7,8]⟩,⟨[141],[0,1,2,3,4,5,6,7,8]⟩,⟨[140,142],[0,1]⟩,⟨[143],[0,1]⟩,⟨[144],[0,1]⟩,⟨[133,145],[]⟩,⟨[146],[]⟩]⟩),(30,⟨[22],[⟨[7],[]⟩,⟨[147],[]⟩,⟨[148],[]⟩,⟨[149],[]⟩,⟨[19],[0,1,2,3]⟩,⟨[151],[0,1,2,3]⟩,⟨[150,152],[]⟩,⟨[153],[]⟩,⟨[19],[0,1,2,3,4,5,6,7]⟩,⟨[155],[0,1,2,3,4,5,6,7]⟩,⟨[154,156],[]⟩,⟨[157],[]⟩,⟨[],[0,1,2,3,4,5,6,7,8,9,10,11]⟩,⟨[22,158],[]⟩]⟩),(31,⟨[173,174],[⟨[7],[]⟩,⟨[7],[0]⟩,⟨[160],[0]⟩,⟨[161],[0]⟩,⟨[162],[0]⟩,⟨[22],[0,1,2,3,4]⟩,⟨[12],[0,1,2,3,4,5]⟩,⟨[21],[0,1,2,3,4,5,6]⟩,⟨[164,165,166],[0,1,2,3,4]⟩,⟨[12],[0,1,2,3,4,5,6,7,8]⟩,⟨[22],[0,1,2,3,4,5,6,7,8,9]⟩,⟨[21],[0,1,2,3,4,5,6,7,8,9,10]⟩,⟨[170],[0,1,2,3,4,5,6,7,8,9,10]⟩,⟨[168,169,171],[0,1,2,3,4,5,6,7,8]⟩,⟨[167,172],[0,1,2,3,4]⟩,⟨[163,173],[0]⟩,⟨[159],[]⟩,⟨[175],[]⟩,⟨[174,176],[]⟩]⟩),(33,⟨[184,185],[⟨[7],[]⟩,⟨[7],[0]⟩,⟨[179],[0]⟩,⟨[180],[0]⟩,⟨[181],[0]⟩,⟨[13],[0,1,2,3,4]⟩,⟨[183],[0,1,2,3,4]⟩,⟨[182,184],[0]⟩,⟨[178],[]⟩,⟨[186],[]⟩,⟨[185,187],[]⟩]⟩)]⟩
def qzX:FT:=⟨[0,1,3,4,5,6,7,9,10,11,12,13,15,23,24,25,29,30,31,32,43,60,70,75,76,77,78,92],[(20,⟨[],[⟨[6],[]⟩,⟨[15],[0]⟩,⟨[82],[0]⟩,⟨[81,83],[]⟩,⟨[15],[0,1,2,3]⟩,⟨[85],[0,1,2,3]⟩,⟨[84,86],[]⟩,⟨[6],[0,1,2,3,4,5,6]⟩,⟨[15],[0,1,2,3,4,5,6,7]⟩,⟨[89],[0,1,2,3,4,5,6,7]⟩,⟨[88,90],[0,1,2,3,4,5,6]⟩,⟨[87,91],[]⟩]⟩)]⟩
def qzY:FT:=⟨[0],[]⟩
def qzZ:FT:=⟨[0,1,2,3,6,7,8,9,10,11,12,13,14,15,16,17,18,19,20,21,22,23,24,25,26,27,28,29,30,40,45,67,78,84,127,175,184,203,245,250,255,275,307,317],[(22,⟨[],[⟨[9],[]⟩,⟨[91],[]⟩,⟨[92],[]⟩,⟨[16],[0,1,2]⟩,⟨[9],[0,1,2,3]⟩,⟨[95],[0,1,2,3]⟩,⟨[96],[0,1,2,3]⟩,⟨[16],[0,1,2,3,4,5,6]⟩,⟨[97,98],[0,1,2,3]⟩,⟨[99],[0,1,2,3]⟩,⟨[15],[0,1,2,3,4,5,6,7,8,9]⟩,⟨[101],[0,1,2,3,4,5,6,7,8,9]⟩,⟨[1],[0,1,2,3,4,5,6,7,8,9,10,11]⟩,⟨[102,103],[0,1,2,3,4,5,6,7,8,9]⟩,⟨[100,104],[0,1,2,3]⟩,⟨[93,94],[]⟩,⟨[105,106],[]⟩]⟩),(23,⟨[],[⟨[9],[]⟩,⟨[16],[0]⟩,⟨[107,108],[]⟩,⟨[109],[]⟩,⟨[9],[0,1,2,3]⟩,⟨[16],[0,1,2,3,4]⟩,⟨[111,112],[0,1,2,3]⟩,⟨[113],[0,1,2,3]⟩,⟨[114],[0,1,2,3]⟩,⟨[115],[0,1,2,3]⟩,⟨[1],[0,1,2,3,4,5,6,7,8,9]⟩,⟨[15],[0,1,2,3,4,5,6,7,8,9,10]⟩,⟨[118],[0,1,2,3,4,5,6,7,8,9,10]⟩,⟨[117,119],[0,1,2,3,4,5,6,7,8,9]⟩,⟨[116,120],[0,1,2,3]⟩,⟨[110],[]⟩,⟨[121,122],[]⟩]⟩),(27,⟨[],[⟨[3],[]⟩,⟨[12],[0]⟩,⟨[13],[0,1]⟩,⟨[17],[0,1,2]⟩,⟨[133],[0,1,2]⟩,⟨[132,134],[0,1]⟩,⟨[130,131,135],[]⟩,⟨[3],[0,1,2,3,4,5,6]⟩,⟨[12],[0,1,2,3,4,5,6,7]⟩,⟨[13],[0,1,2,3,4,5,6,7,8]⟩,⟨[17],[0,1,2,3,4,5,6,7,8,9]⟩,⟨[139,140],[7,8]⟩,⟨[137,138,141],[]⟩,⟨[136],[]⟩,⟨[142],[]⟩]⟩),(28,⟨[],[⟨[9],[]⟩,⟨[18],[0]⟩,⟨[143,144],[]⟩,⟨[145],[]⟩,⟨[19],[0,1,2,3]⟩,⟨[9],[0,1,2,3,4]⟩,⟨[18],[0,1,2,3,4,5]⟩,⟨[148,149],[0,1,2,3,4]⟩,⟨[150],[0,1,2,3,4]⟩,⟨[19],[0,1,2,3,4,5,6,7,8]⟩,⟨[151,152],[0,1,2,3,4]⟩,⟨[153],[0,1,2,3,4]⟩,⟨[13],[0,1,2,3,4,5,6,7,8,9,10,11]⟩,⟨[155],[0,1,2,3,4,5,6,7,8,9,10,11]⟩,⟨[17],[0,1,2,3,4,5,6,7,8,9,10,11,12,13]⟩,⟨[156,157],[0,1,2,3,4,5,6,7,8,9,10,11]⟩,⟨[158],[0,1,2,3,4,5,6,7,8,9,10,11]⟩,⟨[159],[0,1,2,3,4,5,6,7,8,9,10,11]⟩,⟨[13],[0,1,2,3,4,5,6,7,8,9,10,11,12,13,14,15,16,17]⟩,⟨[161],[0,1,2,3,4,5,6,7,8,9,10,11,12,13,14,15,16,17]⟩,⟨[17],[0,1,2,3,4,5,6,7,8,9,10,11,12,13,14,15,16,17,18,19]⟩,⟨[163],[0,1,2,3,4,5,6,7,8,9,10,11,12,13,14,15,16,17,18,19]⟩,⟨[162,164],[0,1,2,3,4,5,6,7,8,9,10,11,12,13,14,15,16,17]⟩,⟨[165],[0,1,2,3,4,5,6,7,8,9,10,11,12,13,14,15,16,17]⟩,⟨[166],[0,1,2,3,4,5,6,7,8,9,10,11,12,13,14,15,16,17]⟩,⟨[160,167],[0,1,2,3,4,5,6,7,8,9,10,11]⟩,⟨[154,168],[0,1,2,3,4]⟩,⟨[146,147],[]⟩,⟨[169,170],[]⟩]⟩),(36,⟨[],[⟨[13],[]⟩,⟨[22],[0]⟩,⟨[187,188],[]⟩,⟨[21],[0,1,2]⟩,⟨[22],[0,1,2,3]⟩,⟨[190,191],[]⟩,⟨[189],[]⟩,⟨[192],[]⟩]⟩),(38,⟨[],[⟨[3],[]⟩,⟨[12],[0]⟩,⟨[13],[0,1]⟩,⟨[23],[0,1,2]⟩,⟨[206,207],[0,1]⟩,⟨[204,205,208],[]⟩,⟨[3],[0,1,2,3,4,5]⟩,⟨[20],[0,1,2,3,4,5,6]⟩,⟨[21],[0,1,2,3,4,5,6,7]⟩,⟨[24],[0,1,2,3,4,5,6,7,8]⟩,⟨[212,213],[6,7]⟩,⟨[210,211,214],[]⟩,⟨[209],[]⟩,⟨[215],[]⟩]⟩),(39,⟨[],[⟨[9],[]⟩,⟨[25],[0]⟩,⟨[216,217],[]⟩,⟨[218],[]⟩,⟨[26],[0,1,2,3]⟩,⟨[9],[0,1,2,3,4]⟩,⟨[25],[0,1,2,3,4,5]⟩,⟨[221,222],[0,1,2,3,4]⟩,⟨[223],[0,1,2,3,4]⟩,⟨[26],[0,1,2,3,4,5,6,7,8]⟩,⟨[224,225],[0,1,2,3,4]⟩,⟨[226],[0,1,2,3,4]⟩,⟨[21],[0,1,2,3,4,5,6,7,8,9,10,11]⟩,⟨[228],[0,1,2,3,4,5,6,7,8,9,10,11]⟩,⟨[24],[0,1,2,3,4,5,6,7,8,9,10,11,12,13]⟩,⟨[229,230],[0,1,2,3,4,5,6,7,8,9,10,11]⟩,⟨[231],[0,1,2,3,4,5,6,7,8,9,10,11]⟩,⟨[232],[0,1,2,3,4,5,6,7,8,9,10,11]⟩,⟨[13],[0,1,2,3,4,5,6,7,8,9,10,11,12,13,14,15,16,17]⟩,⟨[234],[0,1,2,3,4,5,6,7,8,9,10,11,12,13,14,15,16,17]⟩,⟨[23],[0,1,2,3,4,5,6,7,8,9,10,11,12,13,14,15,16,17,18,19]⟩,⟨[235,236],[0,1,2,3,4,5,6,7,8,9,10,11,12,13,14,15,16,17]⟩,⟨[237],[0,1,2,3,4,5,6,7,8,9,10,11,12,13,14,15,16,17]⟩,⟨[238],[0,1,2,3,4,5,6,7,8,9,10,11,12,13,14,15,16,17]⟩,⟨[233,239],[0,1,2,3,4,5,6,7,8,9,10,11]⟩,⟨[227,240],[0,1,2,3,4]⟩,⟨[219,220],[]⟩,⟨[241,242],[]⟩]⟩),(50,⟨[],[⟨[9],[]⟩,⟨[28],[0]⟩,⟨[276,277],[]⟩,⟨[278],[]⟩,⟨[29],[0,1,2,3]⟩,⟨[9],[0,1,2,3,4]⟩,⟨[28],[0,1,2,3,4,5]⟩,⟨[281,282],[0,1,2,3,4]⟩,⟨[283],[0,1,2,3,4]⟩,⟨[29],[0,1,2,3,4,5,6,7,8]⟩,⟨[284,285],[0,1,2,3,4]⟩,⟨[286],[0,1,2,3,4]⟩,⟨[9],[0,1,2,3,4,5,6,7,8,9,10,11]⟩,⟨[28],[0,1,2,3,4,5,6,7,8,9,10,11,12]⟩,⟨[288,289],[0,1,2,3,4,5,6,7,8,9,10,11]⟩,⟨[290],[0,1,2,3,4,5,6,7,8,9,10,11]⟩,⟨[27],[0,1,2,3,4,5,6,7,8,9,10,11,12,13,14,15]⟩,⟨[291,292],[0,1,2,3,4,5,6,7,8,9,10,11]⟩,⟨[293],[0,1,2,3,4,5,6,7,8,9,10,11]⟩,⟨[9],[0,1,2,3,4,5,6,7,8,9,10,11,12,13,14,15,16,17,18]⟩,⟨[27],[0,1,2,3,4,5,6,7,8,9,10,11,12,13,14,15,16,17,18,19]⟩,⟨[295,296],[0,1,2,3,4,5,6,7,8,9,10,11,12,13,14,15,16,17,18]⟩,⟨[297],[0,1,2,3,4,5,6,7,8,9,10,11,12,13,14,15,16,17,18]⟩,⟨[29],[0,1,2,3,4,5,6,7,8,9,10,11,12,13,14,15,16,17,18,19,20,21,22]⟩,⟨[298,299],[0,1,2,3,4,5,6,7,8,9,10,11,12,13,14,15,16,17,18]⟩,⟨[300],[0,1,2,3,4,5,6,7,8,9,10,11,12,13,14,15,16,17,18]⟩,⟨[294,301],[0,1,2,3,4,5,6,7,8,9,10,11]⟩,⟨[287,302],[0,1,2,3,4]⟩,⟨[279,280],[]⟩,⟨[303,304],[]⟩]⟩)]⟩
def qAa:FT:=⟨[0,1,2,4,5,6,7,9],[(3,⟨[],[⟨[9],[]⟩,⟨[5],[0]⟩,⟨[23,24],[]⟩,⟨[25],[]⟩,⟨[7],[0,1,2,3]⟩,⟨[4],[0,1,2,3,4]⟩,⟨[27,28],[0,1,2,3]⟩,⟨[26,29],[]⟩,⟨[6,30],[]⟩]⟩)]⟩
def qAb:FT:=⟨[0,1,2,3,6,7,8,13],[]⟩
def qAc:FT:=⟨[0,1,2,4,5,8,10,18,20,21,22,23,48],[(7,⟨[32,46],[⟨[2],[]⟩,⟨[26],[]⟩,⟨[27],[]⟩,⟨[28],[]⟩,⟨[10],[0,1,2,3]⟩,⟨[30],[0,1,2,3]⟩,⟨[31],[0,1,2,3]⟩,⟨[29,32],[]⟩,⟨[33],[]⟩,⟨[2,34],[]⟩,⟨[34,35],[]⟩,⟨[10,34],[9,10]⟩,⟨[34,37],[9,10]⟩,⟨[34,36,38],[]⟩,⟨[34,39],[]⟩,⟨[34,40],[]⟩,⟨[34,41],[]⟩,⟨[34,42],[]⟩,⟨[10,34],[9,10,11,12,13,14,15,16,17]⟩,⟨[34,44],[9,10,11,12,13,14,15,16,17]⟩,⟨[34,45],[9,10,11,12,13,14,15,16,17]⟩,⟨[34,43,46],[]⟩,⟨[34,47],[]⟩]⟩)]⟩
def qAd:FT:=⟨[0,2,4,12],[]⟩
def qAe:FT:=⟨[0,1,3,4],[(1,⟨[],[⟨[0],[]⟩,⟨[5],[]⟩,⟨[6],[]⟩,⟨[7],[]⟩,⟨[8],[]⟩,⟨[3],[0,1,2,3,4]⟩,⟨[10],[0,1,2,3,4]⟩,⟨[9,11],[]⟩,⟨[12],[]⟩,⟨[13],[]⟩,⟨[3],[0,1,2,3,4,5,6,7,8,9]⟩,⟨[15],[0,1,2,3,4,5,6,7,8,9]⟩,⟨[14,16],[]⟩,⟨[17],[]⟩,⟨[4,18],[]⟩]⟩)]⟩
def qAf:FT:=⟨[0,1],[(2,⟨[],[⟨[1],[]⟩,⟨[3],[]⟩,⟨[1],[0,1]⟩,⟨[5],[0,1]⟩,⟨[],[0,1,2,3]⟩,⟨[],[0,1,2,3]⟩,⟨[4],[2,3]⟩,⟨[9],[2,3]⟩,⟨[7,10],[2,3]⟩,⟨[6],[]⟩,⟨[11],[]⟩,⟨[8,12],[]⟩]⟩)]⟩
def qAg:FT:=⟨[0],[]⟩
def qAh:FT:=⟨[0,1,2,4,5,6,7,8],[(1,⟨[7],[⟨[0],[]⟩,⟨[0],[0]⟩,⟨[10],[0]⟩,⟨[11],[0]⟩,⟨[12],[0]⟩,⟨[5],[0,1,2,3,4]⟩,⟨[14],[0,1,2,3,4]⟩,⟨[13,15],[0]⟩,⟨[16],[0]⟩,⟨[5],[0,1,2,3,4,5,6,7,8]⟩,⟨[18],[0,1,2,3,4,5,6,7,8]⟩,⟨[17,19],[0]⟩,⟨[20],[0]⟩,⟨[0],[0,1,2,3,4,5,6,7,8,9,10,11,12]⟩,⟨[22],[0,1,2,3,4,5,6,7,8,9,10,11,12]⟩,⟨[23],[0,1,2,3,4,5,6,7,8,9,10,11,12]⟩,⟨[24],[0,1,2,3,4,5,6,7,8,9,10,11,12]⟩,⟨[4],[0,1,2,3,4,5,6,7,8,9,10,11,12,13,14,15,16]⟩,⟨[26],[0,1,2,3,4,5,6,7,8,9,10,11,12,13,14,15,16]⟩,⟨[25,27],[0,1,2,3,4,5,6,7,8,9,10,11,12]⟩,⟨[28],[0,1,2,3,4,5,6,7,8,9,10,11,12]⟩,⟨[4],[0,1,2,3,4,5,6,7,8,9,10,11,12,13,14,15,16,17,18,19,20]⟩,⟨[30],[0,1,2,3,4,5,6,7,8,9,10,11,12,13,14,15,16,17,18,19,20]⟩,⟨[29,31],[0,1,2,3,4,5,6,7,8,9,10,11,12]⟩,⟨[32],[0,1,2,3,4,5,6,7,8,9,10,11,12]⟩,⟨[9,21,33],[]⟩,⟨[],[0,1,2,3,4,5,6,7,8,9,10,11,12,13,14,15,16,17,18,19,20,21,22,23,24,25]⟩,⟨[7,34],[]⟩]⟩),(2,⟨[],[⟨[0],[]⟩,⟨[5],[0]⟩,⟨[35,36],[]⟩,⟨[37],[]⟩,⟨[0],[0,1,2,3]⟩,⟨[4],[0,1,2,3,4]⟩,⟨[39,40],[3]⟩,⟨[41],[3]⟩,⟨[38,42],[]⟩,⟨[43],[]⟩]⟩)]⟩
def qAi:FT:=⟨[0,1,2,4,5,11,15],[]⟩
def qAj:FT:=⟨[0,1,4,5,6,7,8,12,18,25],[]⟩
def qAk:FT:=⟨[0,1,3,5],[]⟩
def qyV:FT:=⟨[0,1,2,3,5,6,8,9,10,11,12,16,17,18,19,24,25,26,27,36,44,46],[]⟩
def qAl:FT:=⟨[0,1,2],[]⟩
def qyW:FT:=⟨[0,2,4],[]⟩
def qAm:FT:=⟨[0,1,2,3,4,5,6,7,13,20,33,37],[(10,⟨[],[⟨[1],[]⟩,⟨[23],[]⟩,⟨[7],[0,1]⟩,⟨[24,25],[]⟩,⟨[26],[]⟩,⟨[3],[0,1,2,3,4]⟩,⟨[5],[0,1,2,3,4,5]⟩,⟨[28,29],[0,1,2,3,4]⟩,⟨[30],[0,1,2,3,4]⟩,⟨[27,31],[]⟩,⟨[32],[]⟩]⟩)]⟩
def qyX:FT:=⟨[0,1,2,6,7,8,10,16],[(7,⟨[20,22,27,28,36],[⟨[7],[]⟩,⟨[],[0]⟩,⟨[0],[0,1]⟩,⟨[20,21],[0]⟩,⟨[2],[0,1,2,3]⟩,⟨[8],[0,1,2,3,4]⟩,⟨[23,24],[0,1,2,3]⟩,⟨[25],[0,1,2,3]⟩,⟨[26],[0,1,2,3]⟩,⟨[22,27],[0]⟩,⟨[1],[0,1,2,3,4,5,6,7,8,9]⟩,⟨[29],[0,1,2,3,4,5,6,7,8,9]⟩,⟨[2],[0,1,2,3,4,5,6,7,8,9,10,11]⟩,⟨[8],[0,1,2,3,4,5,6,7,8,9,10,11,12]⟩,⟨[32],[0,1,2,3,4,5,6,7,8,9,10,11,12]⟩,⟨[31,33],[0,1,2,3,4,5,6,7,8,9,10,11]⟩,⟨[28,30,34],[0]⟩,⟨[19,35],[]⟩,⟨[36],[]⟩]⟩)]⟩
def qAn:FT:=⟨[0,1,2,3,4,6,8,9,19,20,21,22,49,50,51,52],[]⟩
def qxX:FT:=⟨[0,1,2,5],[(2,⟨[],[⟨[],[]⟩,⟨[2],[0]⟩,⟨[7],[0]⟩,⟨[0,6],[1,2]⟩,⟨[1,8],[]⟩]⟩)]⟩
def qAo:FT:=⟨[0,1,4,5],[]⟩
def qyY:FT:=⟨[0,3],[]⟩
def qyZ:FT:=⟨[0,2,3,4],[]⟩
def ft98:FT:=⟨[0,1,4,5,6,7,8,12,29,30,31,32,74,76,87,94],[(8,⟨[51,52],[⟨[0],[]⟩,⟨[0],[0]⟩,⟨[46],[0]⟩,⟨[47],[0]⟩,⟨[48],[0]⟩,⟨[4],[0,1,2,3,4]⟩,⟨[50],[0,1,2,3,4]⟩,⟨[49,51],[0]⟩,⟨[45],[]⟩,⟨[53],[]⟩,⟨[52,54],[]⟩]⟩),(15,⟨[],[⟨[1],[]⟩,⟨[82],[]⟩,⟨[83],[]⟩,⟨[7],[0,1,2]⟩,⟨[85],[0,1,2]⟩,⟨[7],[]⟩,⟨[84,86],[]⟩]⟩),(21,⟨[],[⟨[1],[]⟩,⟨[100],[]⟩,⟨[101],[]⟩,⟨[1],[0,1,2]⟩,⟨[103],[0,1,2]⟩,⟨[104],[0,1,2]⟩,⟨[105],[0,1,2]⟩,⟨[7],[0,1,2,3,4,5,6]⟩,⟨[107],[0,1,2]⟩,⟨[7],[]⟩,⟨[102,108],[]⟩,⟨[7],[]⟩,⟨[106,109],[]⟩]⟩),(22,⟨[],[⟨[0],[]⟩,⟨[110],[]⟩,⟨[111],[]⟩,⟨[112],[]⟩,⟨[0],[0,1,2,3]⟩,⟨[114],[0,1,2,3]⟩,⟨[115],[0,1,2,3]⟩,⟨[116],[0,1,2,3]⟩,⟨[117],[0,1,2,3]⟩,⟨[118],[0,1,2,3]⟩,⟨[113,119],[]⟩,⟨[120],[]⟩]⟩),(23,⟨[127,128],[⟨[8],[]⟩,⟨[8],[0]⟩,⟨[122],[0]⟩,⟨[123],[0]⟩,⟨[124],[0]⟩,⟨[7],[0,1,2,3,4]⟩,⟨[126],[0,1,2,3,4]⟩,⟨[125,127],[0]⟩,⟨[121],[]⟩,⟨[129],[]⟩,⟨[128,130],[]⟩]⟩)]⟩
def qxY:FT:=⟨[0,1,2,4,5,6,16,25],[]⟩
def qxZ:FT:=⟨[0,1,4],[]⟩
def qya:FT:=⟨[0,1,2,4],[]⟩
def qyb:FT:=⟨[0,1,4,5,7,8,9,16],[]⟩
def qyc:FT:=⟨[0,2,3,7,11,23,45],[]⟩
def qyd:FT:=⟨[0,1,4,5,9,17],[]⟩
def qye:FT:=⟨[0,1,2,6],[]⟩
def qwF:FT:=⟨[0,1,2,3,4,5],[(2,⟨[32,33],[⟨[2],[]⟩,⟨[2],[0]⟩,⟨[14],[0]⟩,⟨[15],[0]⟩,⟨[16],[0]⟩,⟨[],[0,1,2,3,4]⟩,⟨[4],[0,1,2,3,4,5]⟩,⟨[5],[0,1,2,3,4,5,6]⟩,⟨[20],[0,1,2,3,4,5,6]⟩,⟨[3],[0,1,2,3,4,5,6,7,8]⟩,⟨[21,22],[0,1,2,3,4,5,6]⟩,⟨[18,19,23],[0,1,2,3,4]⟩,⟨[4],[0,1,2,3,4,5,6,7,8,9,10,11]⟩,⟨[],[0,1,2,3,4,6,7,8,9,10,11,12]⟩,⟨[3],[0,1,2,3,4,5,6,7,8,9,10,11,12,13]⟩,⟨[5],[0,1,2,3,4,5,6,7,8,9,10,11,12,13,14]⟩,⟨[28],[0,1,2,3,4,5,6,7,8,9,10,11,12,13,14]⟩,⟨[27,29],[0,1,2,3,4,5,6,7,8,9,10,11,12,13]⟩,⟨[25,26,30],[0,1,2,3,4,6,7,8,9,10,11]⟩,⟨[24,31],[0,1,2,3,4]⟩,⟨[17,32],[0]⟩,⟨[13],[]⟩,⟨[34],[]⟩,⟨[33,35],[]⟩]⟩)]⟩
def qyf:FT:=⟨[0,1,4],[]⟩
def qwG:FT:=⟨[0,1,2,3,4,5,9,10,11,16],[]⟩
def qtB:FT:=⟨[0,1,2,3,4,5,8,9,11,21,37],[(6,⟨[29,30],[⟨[3],[]⟩,⟨[4],[0]⟩,⟨[9],[0,1]⟩,⟨[25,26],[0]⟩,⟨[27],[0]⟩,⟨[28],[0]⟩,⟨[24,29],[]⟩,⟨[3,30],[]⟩]⟩)]⟩
def qtC:FT:=⟨[0,1,3,4,5,6,7,8,9,10,15,17,19,20,24,25],[]⟩
def qtD:FT:=⟨[0,1,4],[]⟩
def qtE:FT:=⟨[0,1,4,5],[]⟩
def qyg:FT:=⟨[0,1,4,5,9],[]⟩
def qyh:FT:=⟨[0,1,4,5,7,8,9,16],[]⟩
def qyi:FT:=⟨[0,1,4,5,7,8,9,16],[]⟩
def qyj:FT:=⟨[0,1,4],[]⟩
def qwH:FT:=⟨[0,1,2],[]⟩
def qwI:FT:=⟨[0,1,2],[]⟩
def qwJ:FT:=⟨[0,2],[]⟩
end Go.PX
namespace Go.PX
open Go.Proofs
theorem qm:qU Tryz.prog tys:=qhX (by decide +kernel)
theorem mixed:Tryz.prog.follows .mixedOrders=true:=by decide +kernel
def qF(l:List Int):D:=.vs (l.map fun n=>[i64 n])
def inB(n lo hi:Int):Bool:=decide (lo<=n)&&decide (n<=hi)
theorem qvx(n lo hi:Int):FnV Tryz.prog 111 [i64 n,i64 lo,i64 hi] (.bool (inB n lo hi)):=by
 refine qJ mixed qm Tryz.func111 rfl (ft:=qye) 3 (by decide +kernel) rfl fun {σ} Y s=>?_;conv=>whnf
 refine qj (fun hb=>?_) (fun hb=>?_)
 ·conv=>whnf
  refine qc 0 rfl ⟨⟨?_,rfl⟩,rfl⟩;simp[qiR,inB]at hb ⊢;simp[hb]
 ·conv=>whnf
  refine qc 0 rfl ⟨⟨?_,rfl⟩,rfl⟩;simp[qiR,inB]at hb ⊢;omega
theorem qwn(n lo hi:Int):FnV Tryz.prog 64 [i64 n,i64 lo,i64 hi] (.bool (inB n lo hi)):=by
 refine qJ mixed qm Tryz.func64 rfl (ft:=qzT) 3 (by decide +kernel) rfl fun {σ} Y s=>?_;conv=>whnf
 refine qj (fun hb=>?_) (fun hb=>?_)
 ·conv=>whnf
  refine qc 0 rfl ⟨⟨?_,rfl⟩,rfl⟩;simp[qiR,inB]at hb ⊢;simp[hb]
 ·conv=>whnf
  refine qc 0 rfl ⟨⟨?_,rfl⟩,rfl⟩;simp[qiR,inB]at hb ⊢;omega
structure Span where
 lo:Int
 hi:Int
 deriving DecidableEq
def Span.cells(s:Span):List D:=[i64 s.lo,i64 s.hi]
def Span.d(s:Span):D:=.agg s.cells
def qbA(l:List Span):D:=.vs (l.map Span.cells)
def spread(lo hi:Int):List Span->Int->Int
 | [],e=>e
 | s::r,e=>if inB s.lo lo hi&&inB s.hi lo hi then spread lo hi r (if s.lo>s.hi then 2 else e) else 7
theorem qyk(l:List Span)(lo hi:Int)(hl:l.length<4000000000000000000):FnV Tryz.prog 66 [qbA l,i64 lo,i64 hi] (i64 (spread lo hi l 0)):=by
 refine qJ mixed qm Tryz.func66 rfl (ft:=qzV) 3 (by decide +kernel) rfl fun {σ} Y s=>?_;conv=>whnf
 refine zI (T:=tys) qm (by exact qg mixed qm (by decide +kernel)) (α:=Nat×Int)
  (fun x=>⟨[(0,.d (qbA l)),(1,.d (i64 lo)),(2,.d (i64 hi)),(7,.d (i64 x.2)),(8,.d (i64 x.1))],[],s⟩) (fun x=>x.1<=l.length/\spread lo hi l 0=spread lo hi (l.drop x.1) x.2) (fun x=>l.length-x.1) (0,0)
  (Wk.sub ⟨rfl,rfl,rfl,rfl,rfl,trivial⟩ trivial) (by simp) ?_
 rintro ⟨i,e⟩ ⟨hi',he⟩;simp only at hi' he;conv=>whnf
 refine qj (fun hb=>?_) (fun hb=>?_)
 ·have hb:i<l.length:=by simpa using hb
  have hd:l.drop i=l[i]::l.drop (i+1):=List.drop_eq_getElem_cons hb;rw[hd,spread]at he;have step:∀ {st':St σ} {e':Int},(inB l[i].lo lo hi&&inB l[i].hi lo hi)=true->e'=(if l[i].lo>l[i].hi then 2 else e)->Wk st' ⟨[(0,.d (qbA l)),(1,.d (i64 lo)),(2,.d (i64 hi)),(7,.d (i64 e')),(8,.d (i64 ((i:Int)+1)))],[],s⟩ ->
    ∃ y:Nat×Int,l.length-y.1<l.length-i/\(y.1<=l.length/\spread lo hi l 0=spread lo hi (l.drop y.1) y.2)/\Wk st' ⟨[(0,.d (qbA l)),(1,.d (i64 lo)),(2,.d (i64 hi)),(7,.d (i64 y.2)),(8,.d (i64 y.1))],[],s⟩:=by
   intro st' e' h1 h2 h3;rw[if_pos h1]at he;exact⟨(i+1,e'),by simp only;omega,⟨hb,by rw[he,h2]⟩,by simpa using h3⟩
  conv=>whnf
  refine qK l[i].cells (by simp[hb]) ?_;conv=>whnf
  refine qk (qvx _ _ _) rfl rfl ?_;conv=>whnf
  refine qj (fun h1=>?_) (fun h1=>?_)
  ·
   conv=>whnf
   rw[if_neg (by simp at h1;simp[h1])]at he;rw[he];exact qc 0 rfl ⟨⟨rfl,rfl⟩,rfl⟩
  ·conv=>whnf
   refine qK l[i].cells (by simp[hb]) ?_;conv=>whnf
   refine qk (qvx _ _ _) rfl rfl ?_;conv=>whnf
   refine qj (fun h2=>?_) (fun h2=>?_)
   ·conv=>whnf
    rw[if_neg (by simp at h2;simp[h2])]at he;rw[he];exact qc 0 rfl ⟨⟨rfl,rfl⟩,rfl⟩
   ·conv=>whnf
    refine qK l[i].cells (by simp[hb]) ?_;conv=>whnf
    refine qK l[i].cells (by simp[hb]) ?_;conv=>whnf
    have hin:(inB l[i].lo lo hi&&inB l[i].hi lo hi)=true:=by simp at h1 h2;simp[h1,h2]
    refine qj (fun h3=>?_) (fun h3=>?_)
    ·conv=>whnf
     refine qe (qb (by omega)) ?_;conv=>whnf
     exact step hin (by simp at h3;rw[if_pos h3]) (Wk.sub ⟨rfl,rfl,rfl,rfl,rfl,trivial⟩ trivial)
    ·conv=>whnf
     refine qe (qb (by omega)) ?_;conv=>whnf
     exact step hin (by simp at h3;rw[if_neg (by omega)]) (Wk.sub ⟨rfl,rfl,rfl,rfl,rfl,trivial⟩ trivial)
 ·have hb:¬ i<l.length:=by simpa using hb
  conv=>whnf
  rw[List.drop_of_length_le (by omega)]at he;simp only[spread]at he;rw[he];exact qc 0 rfl ⟨⟨rfl,rfl⟩,rfl⟩
theorem qAp(n lo hi:Int):FnV Tryz.prog 107 [i64 n,.ref [i64 lo],.ref [i64 hi]] (.bool (decide (n<lo)||decide (n>hi))):=by
 refine qJ mixed qm Tryz.func107 rfl (ft:=qya) 3 (by decide +kernel) rfl fun {σ} Y s=>?_;conv=>whnf
 refine qj (fun hb=>?_) (fun hb=>?_)
 ·conv=>whnf
  refine qc 0 rfl ⟨⟨?_,rfl⟩,rfl⟩;have hb:n<lo:=by simpa using hb
  simp[qiR,hb]
 ·conv=>whnf
  refine qc 0 rfl ⟨⟨?_,rfl⟩,rfl⟩;have hb:¬ n<lo:=by simpa using hb
  simp[qiR,hb]
def jw{α:Type}(p:α->Bool):List α->Int->Int
 | [],_=>-1
 | x::r,i=>if p x then i else jw p r (i+1)
theorem qbX{α:Type}(p:α->Bool):∀ (l:List α) (i:Int),0<=i->decide (jw p l i≥0)=l.any p
 | [],i,_=>by simp[jw]
 | x::r,i,h=>by
  simp only[jw,List.any_cons];split
  ·rename_i hp;simp[hp,h]
  ·rename_i hp
   rw[qbX p r (i+1) (by omega)];simp[hp]
theorem qyl(l:List Int)(g:FuncId)(caps:List D)(p:Int->Bool)(hl:l.length<4000000000000000000)(hp:∀ x∈l,FnV Tryz.prog g (i64 x::caps) (.bool (p x))) :
  FnV Tryz.prog 128 [qF l,.clo g caps] (i64 (jw p l 0)):=by
 refine qJ mixed qm Tryz.func128 rfl (ft:=qyh) 2 (by decide +kernel) rfl fun {σ} Y s=>?_;conv=>whnf
 refine zI (T:=tys) qm (by exact qg mixed qm (by decide +kernel)) (α:=Nat)
  (fun i=>⟨[(0,.d (qF l)),(1,.d (.clo g caps)),(7,.d (i64 l.length)),(8,.d (i64 i))],[],s⟩) (fun i=>i<=l.length/\jw p l 0=jw p (l.drop i) i) (fun i=>l.length-i) 0
  (Wk.sub ⟨rfl,rfl,by simp[PX.get],rfl,trivial⟩ trivial) (by simp) ?_
 rintro i ⟨hi,he⟩;conv=>whnf
 refine qj (fun hb=>?_) (fun hb=>?_)
 ·have hb:i<l.length:=by simpa using hb
  have hd:l.drop i=l[i]::l.drop (i+1):=List.drop_eq_getElem_cons hb;rw[hd,jw]at he;conv=>whnf
  refine qK [i64 l[i]] (by simp[hb]) ?_;conv=>whnf
  refine qk (ds:=i64 l[i]::caps) (hp _ (List.getElem_mem hb)) rfl rfl ?_;conv=>whnf
  refine qj (fun h1=>?_) (fun h1=>?_)
  ·conv=>whnf
   rw[if_pos h1]at he;rw[he];exact qc 0 rfl ⟨⟨rfl,rfl⟩,rfl⟩
  ·conv=>whnf
   rw[if_neg (by simp[h1])]at he;refine qe (qb (by omega)) ?_;conv=>whnf
   exact⟨i+1,by omega,⟨hb,by rw[he];rfl⟩,Wk.sub ⟨rfl,rfl,rfl,rfl,trivial⟩ trivial⟩
 ·have hb:¬ i<l.length:=by simpa using hb
  conv=>whnf
  rw[List.drop_of_length_le (by omega)]at he;rw[he];exact qc 0 rfl ⟨⟨rfl,rfl⟩,rfl⟩
theorem qAq(l:List Int)(g:FuncId)(caps:List D)(p:Int->Bool)(hl:l.length<4000000000000000000)(hp:∀ x∈l,FnV Tryz.prog g (i64 x::caps) (.bool (p x))) :
  FnV Tryz.prog 106 [qF l,.clo g caps] (.bool (l.any p)):=by
 refine qJ mixed qm Tryz.func106 rfl (ft:=qxZ) 2 (by decide +kernel) rfl fun {σ} Y s=>?_;conv=>whnf
 refine qk (qyl l g caps p hl hp) rfl rfl ?_;conv=>whnf
 refine qc 0 rfl ⟨⟨?_,rfl⟩,rfl⟩;rw[<- qbX p l 0 (by omega)];rfl
theorem qza(lo hi:Int)(l:List Int)(hl:l.length<4000000000000000000):FnV Tryz.prog 59 [i64 lo,i64 hi,qF l] (.bool (l.any fun n=>decide (n<lo)||decide (n>hi))):=by
 refine qJ mixed qm Tryz.func59 rfl (ft:=qzO) 3 (by decide +kernel) rfl fun {σ} Y s=>?_;conv=>whnf
 refine qw (qAq l 107 [.ref [i64 lo],.ref [i64 hi]] (fun n=>decide (n<lo)||decide (n>hi)) hl fun x _=>qAp x lo hi) rfl 1 rfl ?_;conv=>whnf
 exact qc 0 rfl ⟨⟨rfl,rfl⟩,rfl⟩
theorem qxv(a b:List Int)(ha:a.length<1000000):FnV Tryz.prog 36 [qF a,qF b] (.bool (decide (a=b))):=by
 refine qJ mixed qm Tryz.func36 rfl (ft:=qzE) 2 (by decide +kernel) (by rfl) fun {σ} Y st=>?_;conv=>whnf
 refine qj (fun h0=>?_) (fun h0=>?_)
 ·have h0:a.length≠b.length:=by
   intro e;simp[e]at h0
  conv=>whnf
  rw[decide_eq_false (by rintro rfl;exact h0 rfl)];exact qc 0 rfl ⟨⟨rfl,rfl⟩,rfl⟩
 ·have h0:a.length=b.length:=by
   have:=h0;simp at this;omega
  conv=>whnf
  refine zI (T:=tys) qm (by exact qg mixed qm (by decide +kernel)) (α:=Nat)
   (fun i=>⟨[(0,.d (qF a)),(1,.d (qF b)),(5,.d (i64 i))],[],st⟩) (fun i=>i<=a.length/\a.take i=b.take i) (fun i=>a.length-i) 0
   (Wk.sub ⟨rfl,rfl,rfl,trivial⟩ trivial) (by simp) ?_
  rintro i ⟨hi,he⟩;conv=>whnf
  refine qj (fun hc=>?_) (fun hc=>?_)
  ·have hc:i<a.length:=by simpa using hc
   have hc':i<b.length:=by omega
   conv=>whnf
   refine qK [i64 a[i]] (by simp[hc]) ?_;conv=>whnf
   refine qK [i64 b[i]] (by simp[hc']) ?_;conv=>whnf
   refine qj (fun h1=>?_) (fun h1=>?_)
   ·conv=>whnf
    have h1:a[i]≠b[i]:=by simpa using h1
    rw[decide_eq_false (by rintro rfl;exact h1 rfl)];exact qc 0 rfl ⟨⟨rfl,rfl⟩,rfl⟩
   ·have h1:a[i]=b[i]:=by simpa using h1
    conv=>whnf
    refine qe (qb (by(try dsimp only);omega)) ?_;conv=>whnf
    exact⟨i+1,by omega,⟨hc,by rw[List.take_succ_eq_append_getElem hc,List.take_succ_eq_append_getElem hc',he,h1]⟩,Wk.sub ⟨rfl,rfl,rfl,trivial⟩ trivial⟩
  ·have hc:¬ i<a.length:=by simpa using hc
   conv=>whnf
   rw[List.take_of_length_le (by omega),List.take_of_length_le (by omega)]at he;rw[decide_eq_true he];exact qc 0 rfl ⟨⟨rfl,rfl⟩,rfl⟩
theorem qvy{a b:Span}:a=b↔a.lo=b.lo/\a.hi=b.hi:=by cases a;cases b;simp
theorem qAr(a b:List Span)(ha:a.length<1000000):FnV Tryz.prog 23 [qbA a,qbA b] (.bool (decide (a=b))):=by
 refine qJ mixed qm Tryz.func23 rfl (ft:=qzz) 2 (by decide +kernel) (by rfl) fun {σ} Y st=>?_;conv=>whnf
 refine qj (fun h0=>?_) (fun h0=>?_)
 ·have h0:a.length≠b.length:=by
   intro e;simp[e]at h0
  conv=>whnf
  rw[decide_eq_false (by rintro rfl;exact h0 rfl)];exact qc 0 rfl ⟨⟨rfl,rfl⟩,rfl⟩
 ·have h0:a.length=b.length:=by
   have:=h0;simp at this;omega
  conv=>whnf
  refine zI (T:=tys) qm (by exact qg mixed qm (by decide +kernel)) (α:=Nat)
   (fun i=>⟨[(0,.d (qbA a)),(1,.d (qbA b)),(5,.d (i64 i))],[],st⟩) (fun i=>i<=a.length/\a.take i=b.take i) (fun i=>a.length-i) 0
   (Wk.sub ⟨rfl,rfl,rfl,trivial⟩ trivial) (by simp) ?_
  rintro i ⟨hi,he⟩;conv=>whnf
  refine qj (fun hc=>?_) (fun hc=>?_)
  ·have hc:i<a.length:=by simpa using hc
   have hc':i<b.length:=by omega
   conv=>whnf
   refine qK a[i].cells (by simp[hc]) ?_;conv=>whnf
   refine qK b[i].cells (by simp[hc']) ?_;conv=>whnf
   refine qj (fun h1=>?_) (fun h1=>?_)
   ·conv=>whnf
    have h1:a[i]≠b[i]:=by
     intro e;rw[e]at h1;simp at h1
    rw[decide_eq_false (by rintro rfl;exact h1 rfl)];exact qc 0 rfl ⟨⟨rfl,rfl⟩,rfl⟩
   ·have h1:a[i]=b[i]:=by
     rw[qvy];simp at h1;exact h1
    conv=>whnf
    refine qe (qb (by(try dsimp only);omega)) ?_;conv=>whnf
    exact⟨i+1,by omega,⟨hc,by rw[List.take_succ_eq_append_getElem hc,List.take_succ_eq_append_getElem hc',he,h1]⟩,Wk.sub ⟨rfl,rfl,rfl,trivial⟩ trivial⟩
  ·have hc:¬ i<a.length:=by simpa using hc
   conv=>whnf
   rw[List.take_of_length_le (by omega),List.take_of_length_le (by omega)]at he;rw[decide_eq_true he];exact qc 0 rfl ⟨⟨rfl,rfl⟩,rfl⟩
def qrF(l:List ByteArray):D:=.vs (l.map fun s=>[.str s])
theorem qym(l:List ByteArray)(x:ByteArray)(hl:l.length<1000000):FnV Tryz.prog 110 [qrF l,.str x] (i64 (jw (fun y=>decide (y=x)) l 0)):=by
 refine qJ mixed qm Tryz.func110 rfl (ft:=qyd) 2 (by decide +kernel) (by rfl) fun {σ} Y st=>?_;conv=>whnf
 refine zI (T:=tys) qm (by exact qg mixed qm (by decide +kernel)) (α:=Nat)
  (fun i=>⟨[(0,.d (qrF l)),(1,.d (.str x)),(5,.d (i64 i))],[],st⟩) (fun i=>i<=l.length/\jw (fun y=>decide (y=x)) l 0=jw (fun y=>decide (y=x)) (l.drop i) i) (fun i=>l.length-i) 0
  (Wk.sub ⟨rfl,rfl,rfl,trivial⟩ trivial) (by simp) ?_
 rintro i ⟨hi,he⟩;conv=>whnf
 refine qj (fun hb=>?_) (fun hb=>?_)
 ·have hb:i<l.length:=by simpa using hb
  have hd:l.drop i=l[i]::l.drop (i+1):=List.drop_eq_getElem_cons hb;rw[hd,jw]at he;conv=>whnf
  refine qK [.str l[i]] (by simp[hb]) ?_;conv=>whnf
  refine qj (fun h1=>?_) (fun h1=>?_)
  ·conv=>whnf
   rw[if_pos h1]at he;rw[he];exact qc 0 rfl ⟨⟨rfl,rfl⟩,rfl⟩
  ·conv=>whnf
   rw[if_neg (by rw[h1];simp)]at he;refine qe (qb (by(try dsimp only);omega)) ?_;conv=>whnf
   exact⟨i+1,by omega,⟨hb,by rw[he];rfl⟩,Wk.sub ⟨rfl,rfl,rfl,trivial⟩ trivial⟩
 ·have hb:¬ i<l.length:=by simpa using hb
  conv=>whnf
  rw[List.drop_of_length_le (by omega)]at he;rw[he];exact qc 0 rfl ⟨⟨rfl,rfl⟩,rfl⟩
def qnr(b:List UInt8)(i:Nat)(c:UInt8):Bool:=
 (decide (97<=c.toNat)&&decide (c.toNat<=122))||(decide (c.toNat=45)&&decide (i≠0)&&decide (i+1≠b.length)&&(match b[i-1]? with
  | some p=>decide (p.toNat≠45)
  | none=>false))
def qgj(b:List UInt8):Nat->List UInt8->Bool
 | _,[]=>true
 | i,c::r=>qnr b i c&&qgj b (i+1) r
def qaO(s:ByteArray):Bool:=inB s.size 1 14&&qgj s.data.toList 0 s.data.toList
theorem qrG(s:ByteArray):FnV Tryz.prog 109 [.str s] (.bool (qaO s)):=by
 refine qJ mixed qm Tryz.func109 rfl (ft:=qyc) 1 (by decide +kernel) (by rfl) fun {σ} Y st=>?_;have hsz:s.size=s.data.toList.length:=by simp
 conv=>whnf
 refine qk (ds:=[i64 s.size,i64 1,i64 14]) (qvx _ _ _) rfl rfl ?_;conv=>whnf
 refine qj (fun h0=>?_) (fun h0=>?_)
 ·conv=>whnf
  have:qaO s=false:=by simp at h0;simp[qaO,h0]
  rw[this];exact qc 0 rfl ⟨⟨rfl,rfl⟩,rfl⟩
 ·have h0:inB s.size 1 14=true:=by simpa using h0
  have hlen:s.data.toList.length<=14:=by
   simp only[inB,Bool.and_eq_true,decide_eq_true_eq]at h0;omega
  have hn:qaO s=qgj s.data.toList 0 s.data.toList:=by simp[qaO,h0]
  rw[hn];conv=>whnf
  refine zI (T:=tys) qm (by exact qg mixed qm (by decide +kernel)) (α:=Nat)
   (fun i=>⟨[(0,.d (.str s)),(3,.d (i64 i))],[],st⟩) (fun i=>i<=s.data.toList.length/\qgj s.data.toList 0 s.data.toList=qgj s.data.toList i (s.data.toList.drop i)) (fun i=>s.data.toList.length-i) 0
   (Wk.sub ⟨rfl,rfl,trivial⟩ trivial) (by simp) ?_
  rintro i ⟨hi,he⟩;conv=>whnf
  refine qj (fun hc=>?_) (fun hc=>?_)
  ·have hc:i<s.data.toList.length:=by
    have:=of_decide_eq_true hc;omega
   obtain⟨c,hcc⟩:∃ c,s.data.toList[i]?=some c:=⟨_,List.getElem?_eq_getElem hc⟩;have hd:s.data.toList.drop i=c::s.data.toList.drop (i+1):=by
    rw[List.drop_eq_getElem_cons hc];rw[List.getElem?_eq_getElem hc]at hcc;rw[Option.some.inj hcc]
   rw[hd,qgj]at he;have bad:qnr s.data.toList i c=false->RetA [V.d (.bool false)] [] st fun v h' s'=>(v=V.d (.bool (qgj s.data.toList 0 s.data.toList))/\h' = [])/\s'=st:=by
    intro hb;rw[he,hb];exact qc 0 rfl ⟨⟨rfl,rfl⟩,rfl⟩
   have good:qnr s.data.toList i c=true -> ∀ {st':St σ},Wk st' ⟨[(0,.d (.str s)),(3,.d (i64 ((i:Int)+1)))],[],st⟩ -> ∃ y,s.data.toList.length-y<s.data.toList.length-i/\(y<=s.data.toList.length/\qgj s.data.toList 0 s.data.toList=qgj s.data.toList y (s.data.toList.drop y)) /\
     Wk st' ⟨[(0,.d (.str s)),(3,.d (i64 (y:Nat)))],[],st⟩:=by
    intro hb st' hw;exact⟨i+1,by omega,⟨hc,by rw[he,hb];rfl⟩,by simpa using hw⟩
   conv=>whnf
   refine jd c (by simpa using hcc) ?_;conv=>whnf
   refine qj (fun h1=>?_) (fun h1=>?_)
   ·have h1:97<=c.toNat:=by
     have:=of_decide_eq_true h1;omega
    conv=>whnf
    refine jd c (by simpa using hcc) ?_;conv=>whnf
    refine qj (fun h2=>?_) (fun h2=>?_)
    ·have h2:c.toNat<=122:=by
      have:=of_decide_eq_true h2;omega
     conv=>whnf
     refine qe (qb (by(try dsimp only);omega)) ?_;conv=>whnf
     exact good (by simp[qnr,h1,h2]) (Wk.sub ⟨rfl,rfl,trivial⟩ trivial)
    ·have h2:¬ c.toNat<=122:=by
      have:=of_decide_eq_false h2;omega
     conv=>whnf
     refine jd c (by simpa using hcc) ?_;conv=>whnf
     refine qj (fun k1=>?_) (fun k1=>?_)
     ·have k1:c.toNat≠45:=by
       have:=k1;simp at this;omega
      conv=>whnf
      exact bad (by simp[qnr,k1];omega)
     ·have k1:c.toNat=45:=by
       have:=k1;simp at this;omega
      conv=>whnf
      refine qj (fun k2=>?_) (fun k2=>?_)
      ·have k2:i=0:=by
        have:=of_decide_eq_true k2;omega
       conv=>whnf
       exact bad (by simp[qnr,k1,k2])
      ·have k2:i≠0:=by
        have:=of_decide_eq_false k2;omega
       conv=>whnf
       refine qe (qb (by(try dsimp only);omega)) ?_;conv=>whnf
       refine qj (fun k3=>?_) (fun k3=>?_)
       ·have k3:i+1=s.data.toList.length:=by
         have:=of_decide_eq_true k3;omega
        conv=>whnf
        exact bad (by simp only[qnr,k1,k3];simp)
       ·have k3:i+1≠s.data.toList.length:=by
         have:=of_decide_eq_false k3;omega
        obtain⟨p,hp⟩:∃ p,s.data.toList[i-1]?=some p:=⟨_,List.getElem?_eq_getElem (by omega)⟩;conv=>whnf
        refine qe (qb (by(try dsimp only);omega)) ?_;conv=>whnf
        refine zx (by simp;omega) ?_;conv=>whnf
        refine jd p (by rw[show((i:Int)-1).toNat=i-1 by omega];exact hp) ?_;conv=>whnf
        refine qj (fun k4=>?_) (fun k4=>?_)
        ·have k4:p.toNat=45:=by
          have:=of_decide_eq_true k4;omega
         conv=>whnf
         exact bad (by simp only[qnr,hp,k4,k1];simp)
        ·have k4:p.toNat≠45:=by
          have:=of_decide_eq_false k4;omega
         conv=>whnf
         refine qe (qb (by(try dsimp only);omega)) ?_;conv=>whnf
         exact good (by simp only[qnr,hp,k1];simp[k2,k4];omega) (Wk.sub ⟨rfl,rfl,trivial⟩ trivial)
   ·have h1:¬ 97<=c.toNat:=by
     have:=of_decide_eq_false h1;omega
    conv=>whnf
    refine jd c (by simpa using hcc) ?_;conv=>whnf
    refine qj (fun k1=>?_) (fun k1=>?_)
    ·have k1:c.toNat≠45:=by
      have:=k1;simp at this;omega
     conv=>whnf
     exact bad (by simp[qnr,k1];omega)
    ·have k1:c.toNat=45:=by
      have:=k1;simp at this;omega
     conv=>whnf
     refine qj (fun k2=>?_) (fun k2=>?_)
     ·have k2:i=0:=by
       have:=of_decide_eq_true k2;omega
      conv=>whnf
      exact bad (by simp[qnr,k1,k2])
     ·have k2:i≠0:=by
       have:=of_decide_eq_false k2;omega
      conv=>whnf
      refine qe (qb (by(try dsimp only);omega)) ?_;conv=>whnf
      refine qj (fun k3=>?_) (fun k3=>?_)
      ·have k3:i+1=s.data.toList.length:=by
        have:=of_decide_eq_true k3;omega
       conv=>whnf
       exact bad (by simp only[qnr,k1,k3];simp)
      ·have k3:i+1≠s.data.toList.length:=by
        have:=of_decide_eq_false k3;omega
       obtain⟨p,hp⟩:∃ p,s.data.toList[i-1]?=some p:=⟨_,List.getElem?_eq_getElem (by omega)⟩;conv=>whnf
       refine qe (qb (by(try dsimp only);omega)) ?_;conv=>whnf
       refine zx (by simp;omega) ?_;conv=>whnf
       refine jd p (by rw[show((i:Int)-1).toNat=i-1 by omega];exact hp) ?_;conv=>whnf
       refine qj (fun k4=>?_) (fun k4=>?_)
       ·have k4:p.toNat=45:=by
         have:=of_decide_eq_true k4;omega
        conv=>whnf
        exact bad (by simp only[qnr,hp,k4,k1];simp)
       ·have k4:p.toNat≠45:=by
         have:=of_decide_eq_false k4;omega
        conv=>whnf
        refine qe (qb (by(try dsimp only);omega)) ?_;conv=>whnf
        exact good (by simp only[qnr,hp,k1];simp[k2,k4];omega) (Wk.sub ⟨rfl,rfl,trivial⟩ trivial)
  ·have hc:¬ i<s.data.toList.length:=by
    have:=of_decide_eq_false hc;omega
   conv=>whnf
   rw[List.drop_of_length_le (by omega)]at he;rw[he];exact qc 0 rfl ⟨⟨rfl,rfl⟩,rfl⟩
def qgI(x:ByteArray)(before:List ByteArray):Int:=
 if qaO x then (if before.any fun y=>decide (y=x) then 5 else 0) else 6
theorem qAs(x:ByteArray)(l:List ByteArray)(hl:l.length<1000000):FnV Tryz.prog 65 [.str x,qrF l] (i64 (qgI x l)):=by
 refine qJ mixed qm Tryz.func65 rfl (ft:=qzU) 2 (by decide +kernel) (by rfl) fun {σ} Y st=>?_;conv=>whnf
 refine qk (ds:=[.str x]) (qrG x) rfl rfl ?_;conv=>whnf
 refine qj (fun h1=>?_) (fun h1=>?_)
 ·have h1:qaO x=false:=by simpa using h1
  conv=>whnf
  simp only[qgI,h1];exact qc 0 rfl ⟨⟨rfl,rfl⟩,rfl⟩
 ·have h1:qaO x=true:=by simpa using h1
  conv=>whnf
  refine qk (ds:=[qrF l,.str x]) (qym l x hl) rfl rfl ?_;conv=>whnf
  have hany:=qbX (fun y=>decide (y=x)) l 0 (by omega);refine qj (fun h2=>?_) (fun h2=>?_)
  ·have h2:(l.any fun y=>decide (y=x))=true:=by rw[<- hany];exact h2
   conv=>whnf
   simp only[qgI,h1,h2];exact qc 0 rfl ⟨⟨rfl,rfl⟩,rfl⟩
  ·have h2:(l.any fun y=>decide (y=x))=false:=by rw[<- hany];exact h2
   conv=>whnf
   simp only[qgI,h1,h2];exact qc 0 rfl ⟨⟨rfl,rfl⟩,rfl⟩
theorem qwK(lo hi n:Int):(decide (n<lo)||decide (n>hi)) = !inB n lo hi:=by
 simp only[inB];by_cases h1:lo<=n<;>by_cases h2:n<=hi<;>simp[h1,h2]<;>omega
theorem FnV.cast{P:Program}{f:FuncId}{ds:List D}{r r':D}(h:FnV P f ds r)(e:r=r'):FnV P f ds r':=by subst e;exact h
theorem qwL(lo hi a:Int):FnV Tryz.prog 59 [i64 lo,i64 hi,.vs [[i64 a]]] (.bool (!inB a lo hi)):=by
 exact FnV.cast (qza lo hi [a] (by simp)) (by simp[qwK])
end Go.PX
namespace Go.PX
open Go.Proofs
open Go
def qdC:Nat->List UInt8->Bool
 | last,[]=>decide (last≠45)
 | last,c::r=>if 97<=c.toNat/\c.toNat<=122 then qdC c.toNat r else if c.toNat=45/\last≠45 then qdC 45 r else false
theorem qlX(b:List UInt8):∀ (r:List UInt8) (i last:Nat),r ≠ []->r=b.drop i->(i=0->last=45)->(∀ p,i≠0->b[i-1]?=some p->last=p.toNat)->qdC last r=qgj b i r
 | [],i,last,h,_,_,_=>absurd rfl h
 | c::r,i,last,_,hd,h0,h1=>by
  have hlen:i+1+r.length=b.length:=by
   have:=congrArg List.length hd;simp at this;omega
  have hget:b[i]?=some c:=by
   have:=congrArg (fun l=>l[0]?) hd;simpa using this.symm
  have hr:r=b.drop (i+1):=by
   have:=congrArg List.tail hd;simpa using this
  have ih:∀ last',last'=c.toNat->r ≠ []->qdC last' r=qgj b (i+1) r:=fun last' hl hne=>
   qlX b r (i+1) last' hne hr (fun h=>by omega) (fun p _ hp=>by simp at hp;rw[hget]at hp;cases hp;exact hl)
  have hprev:i≠0 -> ∃ p,b[i-1]?=some p/\last=p.toNat:=fun hi=>by
   have:i-1<b.length:=by omega
   exact⟨_,List.getElem?_eq_getElem this,h1 _ hi (List.getElem?_eq_getElem this)⟩
  simp only[qdC,qgj,qnr];by_cases ha:97<=c.toNat/\c.toNat<=122
  ·rw[if_pos ha]
   simp only[ha.1,ha.2,decide_true,Bool.and_self,Bool.true_or,Bool.true_and];by_cases hne:r = []
   ·subst hne
    simp[qdC,qgj];omega
   ·exact ih _ rfl hne
  ·rw[if_neg ha]
   have hf:(decide (97<=c.toNat)&&decide (c.toNat<=122))=false:=by
    simp only[Bool.and_eq_false_iff,decide_eq_false_iff_not];omega
   rw[hf,Bool.false_or];by_cases hc:c.toNat=45
   ·by_cases hi:i=0
    ·have:=h0 hi
     simp[hc,hi,this]
    ·obtain⟨p,hp,hl⟩:=hprev hi
     rw[hp];by_cases hpl:p.toNat=45
     ·simp[hc,hl,hpl]
     ·by_cases hne:r = []
      ·have:i+1=b.length:=by subst hne;simpa using hlen
       subst hne;simp[hc,hl,hpl,qdC,this]
      ·have:i+1≠b.length:=by
        have:=List.length_pos_iff.2 hne;omega
       rw[if_pos ⟨hc,by rw[hl];exact hpl⟩,ih 45 hc.symm hne];simp[hc,hi,hpl,this]
   ·simp[hc]
theorem qtF(s:ByteArray):qaO s=(decide (s.size<=14)&&qdC 45 s.data.toList):=by
 have hsz:s.size=s.data.toList.length:=by simp
 unfold qaO inB
 cases hb:s.data.toList with
 | nil=>
  have:s.size=0:=by rw[hsz,hb];rfl
  simp[this,qdC]
 | cons c r=>
  rw[<- hb,qlX s.data.toList s.data.toList 0 45 (by rw[hb];simp) rfl (fun _=>rfl) (fun p h=>absurd rfl h)];have h1:1<=s.size:=by rw[hsz,hb];simp
  have e1:decide ((1:Int)<=(s.size:Int))=true:=by simp;omega
  have e2:decide ((s.size:Int)<=14)=decide (s.size<=14):=by simp;omega
  rw[e1,e2];simp
theorem qpR(s:ByteArray)(i:Nat)(h:¬ (s.get! (i+0)).toNat<128):128<=(Utf8.decode s i).1:=by
 unfold Utf8.decode;simp only[h,if_false];split
 ·split
  ·simp only;omega
  ·simp[Utf8.runeError]
 ·split
  ·split
   ·rename_i h1
    simp only[Bool.and_eq_true,decide_eq_true_eq]at h1;simp only;omega
   ·simp[Utf8.runeError]
  ·split
   ·split
    ·rename_i h1
     simp only[Bool.and_eq_true,decide_eq_true_eq]at h1;simp only;omega
    ·simp[Utf8.runeError]
   ·simp[Utf8.runeError]
theorem qyn(s:ByteArray):FnV Tryz.prog 60 [.str s] (.bool (qaO s)):=by
 refine qJ mixed qm Tryz.func60 rfl (ft:=qzP) 1 (by decide +kernel) (by rfl) fun {σ} Y st=>?_;conv=>whnf
 refine zI (T:=tys) qm (by exact qg mixed qm (by decide +kernel)) (α:=Nat×Nat)
  (fun x=>⟨[(0,.d (.str s)),(3,.d (.int .i32 x.2)),(7,.it 7)],[(7,.iter s x.1)],st⟩) (fun x=>x.1<=s.size/\qaO s=(decide (s.size<=14)&&qdC x.2 (s.data.toList.drop x.1))) (fun x=>s.size-x.1) (0,45)
  (Wk.sub (by repeat' first|constructor|(simp only[List.length_map];rfl)|simp[PX.get]) ⟨(by first|rfl|(simp only[List.length_map];rfl)|simp[PX.get]),trivial⟩) ⟨by simp,by rw[qtF];rfl⟩ ?_
 rintro ⟨p,last⟩ ⟨hp,he⟩;simp only at hp he;have hsz:s.size=s.data.toList.length:=by simp
 conv=>whnf
 refine qj (fun h1=>?_) (fun h1=>?_)
 ·have h1:p<s.size:=of_decide_eq_true h1
  have hd:s.data.toList.drop p=s[p]::s.data.toList.drop (p+1):=by
   rw[List.drop_eq_getElem_cons (by omega)];rfl
  rw[hd,qdC]at he;refine⟨?_⟩;by_cases hb:s[p].toNat<128
  ·rw[decode_ascii s p h1 hb]
   conv=>whnf
   refine qj (fun h2=>?_) (fun h2=>?_)
   ·have h2:97<=s[p].toNat:=by have:=of_decide_eq_true h2;omega
    conv=>whnf
    refine qj (fun h3=>?_) (fun h3=>?_)
    ·have h3:s[p].toNat<=122:=by have:=of_decide_eq_true h3;omega
     conv=>whnf
     rw[if_pos ⟨h2,h3⟩]at he;exact⟨(p+1,s[p].toNat),by simp only;omega,⟨h1,he⟩,(Wk.sub (by repeat' first|constructor|(simp only[List.length_map];rfl)|simp[PX.get]) ⟨(by first|rfl|(simp only[List.length_map];rfl)|simp[PX.get]),trivial⟩)⟩
    ·have h3:¬ s[p].toNat<=122:=by have:=of_decide_eq_false h3;omega
     conv=>whnf
     rw[if_neg (by omega),if_neg (by omega)]at he;refine qj (fun h4=>?_) (fun h4=>?_)
     ·conv=>whnf
      rw[he,Bool.and_false];exact qc 0 rfl ⟨⟨rfl,rfl⟩,rfl⟩
     ·exact absurd h4 (by simp;omega)
   ·have h2:¬ 97<=s[p].toNat:=by have:=of_decide_eq_false h2;omega
    conv=>whnf
    rw[if_neg (by omega)]at he;refine qj (fun h4=>?_) (fun h4=>?_)
    ·have h4:s[p].toNat≠45:=by simp at h4;omega
     conv=>whnf
     rw[if_neg (by omega)]at he;rw[he,Bool.and_false];exact qc 0 rfl ⟨⟨rfl,rfl⟩,rfl⟩
    ·have h4:s[p].toNat=45:=by simp at h4;omega
     conv=>whnf
     refine qj (fun h5=>?_) (fun h5=>?_)
     ·have h5:last=45:=by have:=of_decide_eq_true h5;omega
      conv=>whnf
      rw[if_neg (by omega)]at he;rw[he,Bool.and_false];exact qc 0 rfl ⟨⟨rfl,rfl⟩,rfl⟩
     ·have h5:last≠45:=by have:=of_decide_eq_false h5;omega
      conv=>whnf
      rw[if_pos ⟨h4,h5⟩]at he;exact⟨(p+1,45),by simp only;omega,⟨h1,he⟩,by rw[<- h4];exact(Wk.sub (by repeat' first|constructor|(simp only[List.length_map];rfl)|simp[PX.get]) ⟨(by first|rfl|(simp only[List.length_map];rfl)|simp[PX.get]),trivial⟩)⟩
  ·have hbig:=qpR s p (by
    have e:s.get! (p+0)=s[p]'h1:=by
     show s.get! p=_;simp[ByteArray.get!,getElem!_pos,h1];rfl
    rw[e];exact hb)
   generalize (Utf8.decode s p).1=c at hbig;generalize (Utf8.decode s p).2=n;rw[if_neg (by omega),if_neg (by omega)]at he;conv=>whnf
   refine qj (fun h2=>?_) (fun h2=>?_)
   ·conv=>whnf
    refine qj (fun h3=>?_) (fun h3=>?_)
    ·have:=of_decide_eq_true h3;omega
    ·conv=>whnf
     refine qj (fun h4=>?_) (fun h4=>?_)
     ·conv=>whnf
      rw[he,Bool.and_false];exact qc 0 rfl ⟨⟨rfl,rfl⟩,rfl⟩
     ·exact absurd h4 (by simp;omega)
   ·have:=of_decide_eq_false h2;omega
 ·have h1:¬ p<s.size:=of_decide_eq_false h1
  conv=>whnf
  have hnil:s.data.toList.drop p = []:=List.drop_of_length_le (by omega);rw[hnil,qdC]at he;refine qj (fun h2=>?_) (fun h2=>?_)
  ·conv=>whnf
   refine qc 0 rfl ⟨⟨?_,rfl⟩,rfl⟩;have h2:s.size<=14:=by have:=of_decide_eq_true h2;omega
   rw[he];show V.d (.bool (!decide ((last:Int)=45)))=_;simp[h2];omega
  ·conv=>whnf
   refine qc 0 rfl ⟨⟨?_,rfl⟩,rfl⟩;have h2:¬ s.size<=14:=by have:=of_decide_eq_false h2;omega
   rw[he];simp[h2,qiR]
end Go.PX
namespace Go.PX
open Go.Proofs
theorem qAt(l:List Int)(v:Int)(hl:l.length<4000000000000000000):FnV Tryz.prog 129 [qF l,i64 v] (i64 (jw (fun x=>decide (v=x)) l 0)):=by
 refine qJ mixed qm Tryz.func129 rfl (ft:=qyi) 2 (by decide +kernel) (by rfl) fun {σ} Y st=>?_;conv=>whnf
 refine zd (T:=tys) qm (by exact qg mixed qm (by decide +kernel)) l (fun i (_:Unit)=>⟨[(0,.d (qF l)),(1,.d (i64 v)),(7,.d (i64 l.length)),(8,.d (i64 i))],[],st⟩) (fun i r _=>jw (fun x=>decide (v=x)) l 0=jw (fun x=>decide (v=x)) r i) ()
  (Wk.sub (by repeat' first|constructor|(simp only[List.length_map];rfl)|simp[PX.get]) trivial) rfl ?_ ?_
 ·intro i x r _ hx hi hr he
  rw[jw]at he;conv=>whnf
  refine qj (fun _=>?_) (fun h=>absurd hi (by simpa using h));conv=>whnf
  refine qt hx ?_;conv=>whnf
  refine qj (fun h1=>?_) (fun h1=>?_)
  ·conv=>whnf
   rw[if_pos h1]at he;rw[he];exact qc 0 rfl ⟨⟨rfl,rfl⟩,rfl⟩
  ·conv=>whnf
   rw[if_neg (by simp[h1])]at he;refine qe (qb (by(try dsimp only);omega)) ?_;conv=>whnf
   exact⟨(),he,(Wk.sub (by repeat' first|constructor|(simp only[List.length_map];rfl)|simp[PX.get]) trivial)⟩
 ·intro _ he
  conv=>whnf
  refine qj (fun h=>absurd h (by simp)) (fun _=>?_);conv=>whnf
  rw[he];exact qc 0 rfl ⟨⟨rfl,rfl⟩,rfl⟩
theorem quQ(l:List Int)(v:Int)(hl:l.length<4000000000000000000):FnV Tryz.prog 113 [qF l,i64 v] (.bool (decide (v∈l))):=by
 refine qJ mixed qm Tryz.func113 rfl (ft:=qyf) 2 (by decide +kernel) (by rfl) fun {σ} Y st=>?_;conv=>whnf
 refine qk (qAt l v hl) rfl rfl ?_;conv=>whnf
 refine qc 0 rfl ⟨⟨?_,rfl⟩,rfl⟩;have h1:=qbX (fun x=>decide (v=x)) l 0 (by omega);have h2:(l.any fun x=>decide (v=x))=decide (v∈l):=by
  rw[Bool.eq_iff_iff];simp
 rw[<- h2,<- h1];rfl
end Go.PX
namespace Go.PX
def qrH:List Nat->List Wr
 | []=>[]
 | i::r=>.del i::qrH r
theorem qbm{σ:Type}:∀ (l:List Nat) (st:St σ),qx st (qrH l)=⟨st.env,qmO st.heap l,st.s⟩
 | [],st=>rfl
 | i::r,st=>by
  show qx (zf st (.del i)) (qrH r)=_;rw[qbm r];rfl
theorem qeA{σ:Type}:∀ (a b:List Wr) (st:St σ),qx st (a++b)=qx (qx st a) b
 | [],b,st=>rfl
 | w::a,b,st=>qeA a b (zf st w)
section
variable {P : Program} {σ : Type}
theorem Good.frzPart{cx:Cx σ}{r:Option Nat}{m:List Nat}{L:Loc}{F:Nat->Nat}{st:St σ}{a:Act}{w:World}(hg:Good cx r m L F st a w){h:Heap}(hsub:qaF h st.heap)(n:Nat) :
  ∃ F1,Good cx r m L F1 (qx st (qrH (zX h))) a w/\Tr F w F1 w /\ ∀ args vals ds,zY (qcv h n) args=some ds->RepVL cx.yv L F w args vals->RepDL F1 w ds vals:=by
 have hok:HeapOk cx L F h st.s w:=(hg.sub (e:=st.env) (h:=h) (fun _ _ h=>h) hsub).heap;have tr:=qaL hok;have hF1C:∀ b,cx.C st.s b->qaB L F h w b=F b:=fun b hb=>qfq hok hb;have hF1o:∀ id o,get st.heap id=some o->id∉zX h->Backed L id o->qaB L F h w (L.ρ id)=F (L.ρ id):=by
  intro id o hi hn hb;refine qaC ?_;rintro ⟨j,p,hj,hbj,hij⟩;have:=hg.heap.inj j id p o (hsub j p hj) hi hbj hb hij;subst this;exact hn (qcG hj)
 have hfr:=qab hok;have hobj:=qgG hok n;generalize qaB L F h w=F1 at tr hF1C hF1o hfr hobj;rw[qbm];have hget:∀ i o,get (qmO st.heap (zX h)) i=some o->i∉zX h/\get st.heap i=some o:=by
  intro i o hi;rw[qdo]at hi;split at hi
  ·cases hi
  ·rename_i hn;exact⟨hn,hi⟩
 refine⟨F1,⟨⟨cx.stable hg.heap.hg tr hfr fun b hb=>⟨rfl,hF1C b hb⟩,hg.heap.csz,hfr,?_,?_,?_⟩,?_,hg.dfr,hg.mks,hg.mnd,hg.lk,hg.pin,hg.tsz⟩,tr,fun args vals ds hv hr=>qcw tr hobj args vals ds hv hr⟩
 ·intro i o hi
  exact RepO.mono tr i o (fun _ _=>⟨rfl,rfl⟩) ⟨rfl,rfl⟩ (fun _=>rfl) (hg.heap.obj i o (hget i o hi).2)
 ·intro i o hi hb
  obtain⟨hn,h0⟩:=hget i o hi;rw[hF1o i o h0 hn hb];exact hg.heap.own i o h0 hb
 ·intro i j o p hi hj hbi hbj he
  exact hg.heap.inj i j o p (hget i o hi).2 (hget j p hj).2 hbi hbj he
 ·intro t v ht
  obtain⟨x,hx,hr⟩:=hg.env t v ht;exact⟨x,hx,RepV.mono tr v x (fun _ _=>⟨rfl,rfl⟩) hr⟩
theorem qjo{f:FuncId}{ds:List D}{res:D}(hf:FnV P f ds res)(n:Nat){e:Env}{h:Heap}{d:Option Nat}{args:List V}(hv:zY (qcv h n) args=some ds)(hd:Nat.ble (d.getD 0) 10000=true) :
  qdH P e h d f args (qrH (zX h)++wset d (.d res)):=by
 have ho:=qhU (P:=P) hf (e:=[]) (h:=[]) (d:=d) (args:=inj ds) rfl hd;refine⟨ho.1,fun {σ} cx hld r m L F st a w vals he hh hg hdt hr=>?_⟩;obtain⟨F1,hg1,tr1,hvw⟩:=hg.frzPart hh n;rw[qeA];refine(ho.2 cx hld r m L F1 (qx st (qrH (zX h))) a w vals (fun _ _ h=>by cases h) (fun _ _ h=>by cases h) hg1 hdt (RepVL.inj.2 (hvw _ _ _ hv hr))).mono ?_;rintro en w' ⟨x,rfl,L',F',hg',tr'⟩;exact⟨x,rfl,L',F',hg',Tr.trans tr1 tr'⟩
theorem qdr{Y:Hd σ}{f:FuncId}{ds:List D}{res:D}(hf:FnV P f ds res)(n:Nat){e:Env}{h:Heap}{s:σ}{d:Option Nat}{args:List V}(ids:List Nat)(hv:zY (qcv (qM ids h) n) args=some ds)(hd:Nat.ble (d.getD 0) 10000=true)
  {K:St σ->Prop} (hk:qP (qrH (zX (qM ids h))++wset d (.d res)) e h fun e h=>K ⟨e,h,s⟩):CallA P Y ⟨e,h,s⟩ d f args K:=by
 have ho:=qjo (P:=P) hf n (e:=e) (h:=qM ids h) (d:=d) (args:=args) hv hd;refine qfp (ws:=qrH (zX (qM ids h))++wset d (.d res)) ⟨ho.1,fun {σ} cx hld r m L F st a w vals he hh hg hdt hr=>?_⟩ hk;exact ho.2 cx hld r m L F st a w vals he (fun i o hi=>hh i o (jZ ids h i o hi)) hg hdt hr
theorem qns{f:FuncId}{ds:List D}{res:D}(hf:FnV P f ds res)(n:Nat){e:Env}{h:Heap}{d:Option Nat}{args:List V}(hv:zY (qcv h n) args=some ds)(hd:Nat.ble (d.getD 0) 10000=true)
  {K:List Wr->Prop} (hk:K (qrH (zX h)++wset d (.d res))):DrawCall P e h d f args K:=⟨_,hk,qjo hf n hv hd⟩
end
theorem qcJ{g:Nat->Option DO}{vs:List (List V)}{ds:List (List D)}(h:qaA g vs=some ds):∀ (es:List (List D)),qaA g (ze es++vs)=some (es++ds)
 | []=>h
 | e::r=>by
  show qaA g (inj e::(ze r++vs))=_;rw[qaA,qcJ h r];have:zY g (inj e)=some e:=by
   have:=qcI (g:=g) (a:=e) (r:=[]) (r':=[]) rfl;simpa using this
  rw[this];rfl
theorem qeo{g:Nat->Option DO}{v:List V}{d:List D}(h:zY g v=some d):qaA g [v]=some [d]:=by
 rw[qaA,h];rfl
theorem qjp(i:Nat):∀ l:List D,qam i (inj l)=false
 | []=>rfl
 | d::r=>by
  show(qiM i (.d d)||qam i (inj r))=false;rw[qjp i r];rfl
theorem qfu(i:Nat):∀ a b:List V,qam i (a++b)=(qam i a||qam i b)
 | [],b=>rfl
 | v::a,b=>by
  show(qiM i v||qam i (a++b))=((qiM i v||qam i a)||qam i b);rw[qfu i a b,Bool.or_assoc]
theorem qds(i:Nat)(vs:List (List V)):∀ es:List (List D),qam i ((ze es++vs).flatten)=qam i vs.flatten
 | []=>rfl
 | e::r=>by
  show qam i (inj e++(ze r++vs).flatten)=_;rw[qfu,qjp,qds i vs r];rfl
theorem qp(f:V->V)(vs:List (List V)):∀ es:List (List D),qr f (ze es++vs)=ze es++qr f vs
 | []=>rfl
 | e::r=>by
  show zH f (inj e)::qr f (ze r++vs)=_;rw[qiV,qp f vs r];rfl
section
variable {σ : Type}
theorem qrI{e:Env}{h:Heap}{s:σ}(l:List Nat):qx (⟨e,h,s⟩:St σ) (qrH l)=⟨e,qmO h l,s⟩:=qbm l _
theorem Wk.frzArr{e:Env}{h:Heap}{s:σ}(n:Nat)(ids:List Nat)(k:Nat){sz:Nat}{vs:List (List V)}{ds:List (List D)}(hk:get (qmO h (zX (qM ids h))) k=some (.arr sz (.vv vs)))(hv:qaA (qcv (qM ids h) n) vs=some ds) :
  Wk (⟨e,h,s⟩:St σ) ⟨e,put (qmO h (zX (qM ids h))) k (.arr sz (.dd ds)),s⟩:=by
 intro cx r m L F a w hg;obtain⟨F1,hg1,tr,hvw⟩:=hg.frzPart (h:=qM ids h) (jZ ids h) n;rw[qrI]at hg1;have h0:RepO cx.yv L F w k (.arr sz (.vv vs)):=by
  rw[qdo]at hk;split at hk
  ·cases hk
  ·exact hg.heap.obj k _ hk
 obtain⟨f1,f2,f3⟩:=qeM hv;have hnew:RepO cx.yv L F1 w k (.arr sz (.dd ds)):=by
  obtain⟨c1,c2,c3⟩:=h0;have hl:(Els.dd ds).toV.length=ds.length:=by rw[<- Els.len_eq];rfl
  have hflat:(Els.dd ds).toV.flatten=inj ds.flatten:=by
   show(ze ds).flatten=_;clear hl f1 f2 f3 hv
   induction ds with
   | nil=>rfl
   | cons d r ih=>
    show inj d++(ze r).flatten=_;rw[ih,List.flatten_cons,qbH]
  refine⟨c1,?_,?_⟩
  ·have h3:=f3 sz c2
   intro x hx;show x.length=sz;have:∀ (l:List (List D)),(∀ d∈l,d.length=sz) -> ∀ x∈ze l,x.length=sz:=by
    intro l
    induction l with
    | nil=>intro _ x hx;cases hx
    | cons d r ih=>
     intro hd x hx;rcases List.mem_cons.1 hx with rfl|hx
     ·rw[jl];exact hd d (by simp)
     ·exact ih (fun d hd'=>hd d (by simp[hd'])) x hx
   exact this ds h3 x hx
  ·rcases c3 with⟨c4,c5⟩|⟨c,T,c4,c5,c6,c7⟩
   ·left
    refine⟨?_,c5⟩;have hvs:vs = []:=c4;have:ds = []:=by
     have:ds.length=0:=by rw[f2,hvs];rfl
     exact List.length_eq_zero_iff.1 this
    rw[this];rfl
   ·right
    have e1:(Els.vv vs).toV=vs:=rfl;rw[e1]at c6 c7;refine⟨c,T,c4,c5,by rw[hl,f2];exact c6,?_⟩;rw[hflat,hl,f2];exact RepVL.inj.2 (hvw _ _ _ f1 c7)
 have key:∀ i q,get (put (qmO h (zX (qM ids h))) k (.arr sz (.dd ds))) i=some q->(i=k/\q = .arr sz (.dd ds))\/get (qmO h (zX (qM ids h))) i=some q:=by
  intro i q hi;rw[jq]at hi;split at hi
  ·rename_i e1;cases hi;exact .inl ⟨e1,rfl⟩
  ·exact .inr hi
 refine⟨L,F1,⟨⟨hg1.heap.hg,hg1.heap.csz,hg1.heap.fresh,fun i q hi=>?_,fun i q hi hbk=>?_,fun i j q p hi hj hbi hbj e=>?_⟩,hg1.env,hg1.dfr,hg1.mks,hg1.mnd,hg1.lk,hg1.pin,hg1.tsz⟩,tr⟩
 ·rcases key i q hi with⟨rfl,rfl⟩|hi
  ·exact hnew
  ·exact hg1.heap.obj i q hi
 ·rcases key i q hi with⟨rfl,rfl⟩|hi
  ·exact hg1.heap.own i _ hk hbk
  ·exact hg1.heap.own i q hi hbk
 ·rcases key i q hi with⟨e1,e2⟩|hi1<;>rcases key j p hj with⟨e3,e4⟩|hj1
  ·rw[e1,e3]
  ·subst e1;subst e2
   exact hg1.heap.inj _ _ _ _ hk hj1 hbi hbj e
  ·subst e3;subst e4
   exact hg1.heap.inj _ _ _ _ hi1 hk hbi hbj e
  ·exact hg1.heap.inj _ _ _ _ hi1 hj1 hbi hbj e
end
end Go.PX
