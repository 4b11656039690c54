import Derived.Test.YtgpmlbbkfmkmkaaGreatDoorPxL
import Derived.Test.YtgpmlbbkfmkmkaaGreatDoorPxI
import Derived.Test.YtgpmlbbkfmkmkaaGreatDoorPxK
import Derived.Test.YtgpmlbbkfmkmkaaGreatDoorPxJ
import Derived.Shelf.Strings.Builder1
import Derived.Shelf.Strconv.Itoa3
import Derived.Shelf.Strconv.AtoiAll
import Derived.Shelf.Strings.Split
import Derived.Shelf.Strings.Cut
import Derived.Lib.ItoaNum
import Derived.Lib.SplitLaws
import Derived.Lib.IndexBytes
import Derived.Test.YtgpmlbbkfmkmkaaGreatDoorPxH
set_option linter.all false
set_option maxRecDepth 10000
namespace Go.PX
open Go.Proofs
structure TruthX(l:PLog)(w:Int)(conf:List Int)(t:Per->Int):Prop where
 right:t .right=0
 off:∀ (i:Nat) b,l.books[i]?=some b->b.off.lo-w<=t ⟨i,0⟩/\t ⟨i,0⟩<=b.off.hi+w
 set:∀ (i:Nat) b (n:Nat),l.books[i]?=some b->1<=n->n<=zn b.ents->b.set.lo-w<=t ⟨i,n⟩/\t ⟨i,n⟩<=b.set.hi+w
 ord:∀ (i k:Nat) b x y,At l i k b x->At l i (k+1) b y->x.shown-t ⟨i,qL b k⟩<=y.shown-t ⟨i,qL b (k+1)⟩
 rep:∀ (i j m n:Nat) b c x y num,Rep l conf i j m n b c x y num->x.shown-t ⟨i,qL b m⟩=y.shown-t ⟨j,qL c n⟩
theorem qkI{w:Int}{p:Per}{s:Span}{t:Per->Int}(h0:t .right=0):(∀ e∈jh w p s,t e.b<=t e.a+e.w)↔s.lo-w<=t p/\t p<=s.hi+w:=by
 unfold jh;constructor
 ·intro h
  have h1:=h _ (List.mem_cons_self ..);have h2:=h ⟨p,.right,w-s.lo⟩ (by simp);simp only at h1 h2;omega
 ·intro h e he
  simp only[List.mem_cons,List.not_mem_nil,or_false]at he;rcases he with rfl|rfl
  ·simp only;omega
  ·simp only;omega
theorem qcO{l:PLog}{w:Int}{conf:List Int}{t:Per->Int}:Truth l w conf t↔TruthX l w conf t:=by
 constructor
 ·intro h
  refine⟨h.right,fun i b hb=>(qkI h.right).1 fun e he=>h.ok e (.off i b hb e he),fun i b n hb h1 h2=>(qkI h.right).1 fun e he=>h.ok e (.set i b hb n h1 h2 e he),fun i k b x y hx hy=>?_,fun i j m n b c x y num hr=>?_⟩
  ·have:=h.ok _ (.ord i k b x y hx hy)
   unfold qcx at this;simp only at this;omega
  ·have h1:=h.ok _ (.rep i j m n b c x y num hr)
   have h2:=h.ok _ (.rep j i n m c b y x num ⟨hr.hb,hr.ha,hr.fb,hr.fa,hr.no⟩);unfold qcx at h1 h2;simp only at h1 h2;omega
 ·intro h
  refine⟨h.right,fun e he=>?_⟩
  cases he with
  | off i b hb e he=>exact(qkI h.right).2 (h.off i b hb) e he
  | set i b hb n h1 h2 e he=>exact(qkI h.right).2 (h.set i b n hb h1 h2) e he
  | ord i k b x y hx hy=>
   have:=h.ord i k b x y hx hy;unfold qcx;simp only;omega
  | rep i j m n b c x y num hr=>
   have:=h.rep i j m n b c x y num hr;unfold qcx;simp only;omega
theorem qbu{l:PLog}{w:Int}{conf:List Int}:jW l w conf=true ↔ ∃ t,TruthX l w conf t:=by
 rw[qtL];constructor
 ·rintro ⟨t,h⟩;exact⟨t,qcO.1 h⟩
 ·rintro ⟨t,h⟩;exact⟨t,qcO.2 h⟩
def qxx(l:PLog)(w:Int)(conf:List Int)(p q:Per):Int:=atM (qcY (qX l w conf) p) q
theorem qwR{l:PLog}{w:Int}{conf:List Int}{t:Per->Int}(ht:TruthX l w conf t){p q:Per}(hp:p∈qY l)(hq:q∈qY l):t q-t p<=qxx l w conf p q:=by
 have:=(qtM (qbu.2 ⟨t,ht⟩) (qcO.2 ht) hq hp).2;exact this
theorem qrY{l:PLog}{w:Int}{conf:List Int}(hf:jW l w conf=true){p q:Per}(hp:p∈qY l)(hq:q∈qY l):∃ t,TruthX l w conf t/\t q-t p=qxx l w conf p q:=by
 obtain⟨t,ht,he⟩:=(qnx hf hq hp).1;exact⟨t,qcO.1 ht,he⟩
theorem qrZ(a r:List PEnt):zn (a++r)=zn a+zn r:=by
 unfold zn;rw[List.filter_append,List.length_append]
end Go.PX
namespace Go.PX
open Go.Proofs Go.RowKit Go.ChangeShapes
theorem c3:Tryz.prog.cellsOf 3=1:=by kernel_rfl
theorem c9:Tryz.prog.cellsOf 9=1:=by kernel_rfl
theorem c22:Tryz.prog.cellsOf 22=1:=by kernel_rfl
theorem c24:Tryz.prog.cellsOf 24=2:=by kernel_rfl
theorem c37:Tryz.prog.cellsOf 37=2:=by kernel_rfl
theorem c75:Tryz.prog.cellsOf 75=4:=by kernel_rfl
theorem c80:Tryz.prog.cellsOf 80=1:=by kernel_rfl
theorem c82:Tryz.prog.cellsOf 82=6:=by kernel_rfl
section
variable (W : World)
theorem qpW:Rd Tryz.prog W 3 fun ds=>∃ n,ds = [i64 n]:=Rd.int Tryz.underlying3
theorem qwS:Rd Tryz.prog W 9 fun ds=>∃ s,ds = [.str s]:=Rd.str Tryz.underlying9
theorem quW:Rd Tryz.prog W 37 fun ds=>∃ p:Span,ds=p.cells:=
 (Rd.struct Tryz.underlying37 c37 (.cons rfl c3 (qpW W) (.cons rfl c3 (qpW W) (.nil _)))).mono fun ds h=>by
  obtain⟨_,_,rfl,⟨a,rfl⟩,_,_,rfl,⟨b,rfl⟩,rfl⟩:=h;exact⟨⟨a,b⟩,rfl⟩
theorem qys:Rd Tryz.prog W 75 fun ds=>∃ x:PEnt,ds=x.cells:=
 (Rd.struct Tryz.underlying75 c75 (.cons rfl c3 (qpW W) (.cons rfl c3 (qpW W) (.cons rfl c9 (qwS W) (.cons rfl c3 (qpW W) (.nil _)))))).mono fun ds h=>by
  obtain⟨_,_,rfl,⟨a,rfl⟩,_,_,rfl,⟨b,rfl⟩,_,_,rfl,⟨c,rfl⟩,_,_,rfl,⟨d,rfl⟩,rfl⟩:=h;exact⟨⟨a,b,c,d⟩,rfl⟩
theorem qwT:Rd Tryz.prog W 80 fun ds=>∃ l:List PEnt,ds = [qeS l]:=
 (Rd.slice Tryz.underlying80 c75 (by omega) (qys W)).mono fun ds h=>by
  obtain⟨es,rfl,he⟩:=h;obtain⟨l,rfl⟩:=qnq (f:=PEnt.cells) (fun _ h=>h) he;exact⟨l,rfl⟩
theorem qwU:Rd Tryz.prog W 82 fun ds=>∃ b:PBook,ds=b.cells:=
 (Rd.struct Tryz.underlying82 c82 (.cons rfl c9 (qwS W) (.cons rfl c37 (quW W) (.cons rfl c37 (quW W) (.cons rfl c80 (qwT W) (.nil _)))))).mono fun ds h=>by
  obtain⟨_,_,rfl,⟨a,rfl⟩,_,_,rfl,⟨b,rfl⟩,_,_,rfl,⟨c,rfl⟩,_,_,rfl,⟨d,rfl⟩,rfl⟩:=h;exact⟨⟨a,b,c,d⟩,rfl⟩
theorem qvH:Rd Tryz.prog W 22 fun ds=>∃ l:List PBook,ds = [qS l]:=
 (Rd.slice Tryz.underlying22 c82 (by omega) (qwU W)).mono fun ds h=>by
  obtain⟨es,rfl,he⟩:=h;obtain⟨l,rfl⟩:=qnq (f:=PBook.cells) (fun _ h=>h) he;exact⟨l,rfl⟩
theorem qyt:Rd Tryz.prog W 24 fun ds=>∃ c:PLog,ds=c.cells:=
 (Rd.struct Tryz.underlying24 c24 (.cons rfl c3 (qpW W) (.cons rfl c22 (qvH W) (.nil _)))).mono fun ds h=>by
  obtain⟨_,_,rfl,⟨a,rfl⟩,_,_,rfl,⟨b,rfl⟩,rfl⟩:=h;exact⟨⟨a,b⟩,rfl⟩
end
end Go.PX
namespace Go.PX
open Go.RowKit
structure Grown(w w':World):Prop where
 os:w'.os=w.os
 tape:w'.tape=w.tape
 output:w'.output=w.output
 size:w.heap.size<=w'.heap.size
 heap:∀ b,b<w.heap.size->w'.heap[b]?=w.heap[b]?
theorem Grown.refl(w:World):Grown w w:=⟨rfl,rfl,rfl,Nat.le_refl _,fun _ _=>rfl⟩
theorem Grown.tr{w w':World}(h:Grown w w'){F F':Nat->Nat}(hf:∀ b,w.heap.size<=b->F b=0)(hF:∀ b,b<w.heap.size->F' b=F b):Tr F w F' w':=by
 have lt:∀ b o,o<F b->b<w.heap.size:=fun b o ho=>by
  rcases Nat.lt_or_ge b w.heap.size with h|h
  ·exact h
  ·rw[hf b h]at ho;omega
 refine⟨h.os,h.tape,h.output,h.size,fun b=>?_,fun b o ho=>qbN (h.heap b (lt b o ho)),fun b e c hb hm=>by rw[h.heap b (lt b 0 hb)];exact hm⟩;rcases Nat.lt_or_ge b w.heap.size with h|h
 ·rw[hF b h];exact Nat.le_refl _
 ·rw[hf b h];exact Nat.zero_le _
theorem qec{P:Program}{f:FuncId}{ds:List D}{r:D}(he:∀ (vs:Array Value) (w:World),(callFunc f vs).run P w = .ok (.enter f vs) w)
  (h:∀ (vals:Array Value) (w:World) (F:Nat->Nat),Laid P w->(∀ b,w.heap.size<=b->F b=0)->RepDL F w ds vals.toList ->
   Calls P f vals w fun e w'=>∃ x,e = .returned x/\Grown w w' /\ ∃ F',(∀ b,b<w.heap.size->F' b=F b)/\(∀ b,w'.heap.size<=b->F' b=0)/\RepD F' w' r x):FnV P f ds r:=by
 intro σ Y s;refine⟨he,fun cx hY L F vals w hh hr=>?_⟩;refine(callsIn_wide.2 (h vals w F (hY.laid _ _ _ hh.hg) hh.fresh (RepVL.inj.1 hr))).mono ?_;rintro e w' ⟨x,rfl,hgr,F',hF,hf',hx⟩;have tr:=hgr.tr hh.fresh hF;refine⟨x,rfl,_,[],s,L,F',⟨⟨rfl,rfl⟩,rfl⟩,⟨cx.stable hh.hg tr hf' fun b hb=>⟨hgr.heap b (hh.csz b hb),hF b (hh.csz b hb)⟩,fun b hb=>Nat.lt_of_lt_of_le (hh.csz b hb) hgr.size,hf',(fun _ _ h=>by cases h),(fun _ _ h=>by cases h),(fun _ _ _ _ h=>by cases h)⟩,hx,tr,fun _ _=>⟨rfl,rfl⟩⟩
theorem enters {P : Program} {f : FuncId} {fn : Func} {c : Code} (hf : P.funcs[f]? = some fn) (hb : fn.body = some c) (hname : (fn.name != "runtime.NumGoroutine") = true) (vs : Array Value) (w : World) : (callFunc f vs).run P w = .ok (.enter f vs) w := by
 simp only[bne_iff_ne,ne_eq]at hname;simp[callFunc,hf,hname,hb,Go.mark]
end Go.PX
namespace Go.PX
open Go.Proofs
open Go.RowKit Go.Proofs
set_option maxHeartbeats 1000000 in
set_option maxRecDepth 100000 in
theorem qtT(b:Nat)(w:World)(h0:w.cell? ⟨b,0,none⟩=some (.pointer (some ⟨b,0,none⟩))) :
  Calls Tryz.prog 130 #[.pointer (some ⟨b,0,none⟩)] w fun e w'=>e = .returned (.tuple #[])/\w'=w:=by
 obtain⟨j,hj,hjs⟩:=Option.map_eq_some_iff.1 (show(Tryz.prog.info? 188).map (·.size)=some 2 by kernel_rfl)
 go_enter Tryz.func130,Tryz.ntmps130
 go_wp2
 rw[Lib.run_neq_ptr_same w _ Tryz.underlying185 hj]
 go_wp2
 go_end0
 exact⟨rfl,rfl⟩
set_option maxHeartbeats 1000000 in
set_option maxRecDepth 100000 in
theorem qsa(b:Nat)(w:World)(h0:w.cell? ⟨b,0,none⟩=some (.pointer none))(hsh:w.shape? b=some (188,2))(hfz:w.frozen? ⟨b,0,none⟩=false) :
  Calls Tryz.prog 130 #[.pointer (some ⟨b,0,none⟩)] w fun e w'=>e = .returned (.tuple #[])/\w'=w.setCell ⟨b,0,none⟩ (.pointer (some ⟨b,0,none⟩)):=by
 obtain⟨j,hj,hjs⟩:=Option.map_eq_some_iff.1 (show(Tryz.prog.info? 188).map (·.size)=some 2 by kernel_rfl)
 go_enter Tryz.func130,Tryz.ntmps130
 go_wp2
 rw[Lib.run_to_unsafe w ⟨b,0,none⟩ Tryz.underlying185 Tryz.underlying209 hj (by rw[hjs];decide) hsh (Nat.zero_lt_succ 1)];simp only[Result.andThen];rw[Oper.upon_value]
 go_wp2
 rw[run_callFunc_extern Tryz.func139 (by kernel_rfl) (by kernel_rfl) (by kernel_rfl) (e:=Extern.AbiNoEscape.same) (by kernel_rfl)];rw[Lib.run_noEscape];simp only[Result.andThen];rw[Oper.upon_value]
 go_wp2
 rw[Lib.run_from_unsafe w ⟨b,0,none⟩ Tryz.underlying209 Tryz.underlying185 hj hsh (by kernel_rfl)];simp only[Result.andThen];rw[Oper.upon_value]
 go_wp2
 go_end0
 exact⟨rfl,rfl⟩
set_option maxHeartbeats 1000000 in
set_option maxRecDepth 100000 in
theorem qpX(b g cap:Nat)(p:Value)(s:ByteArray)(c:Array Value)(w:World)(hb:w.heap[b]?=some (.cells #[p,.slice (some ⟨g,0,none⟩) s.size cap] 188 (0,0)))(hg:w.heap[g]?=some (.cells c 5 (0,0)))
  (h0:0<s.size) (hcap:s.size<=cap) (hc:s.size<=c.size) (hm:s.size<=140737488355328) (htake:c.toList.take s.size=qW s) :
  Calls Tryz.prog 121 #[.pointer (some ⟨b,0,none⟩)] w fun e w'=>e = .returned (.string s)/\w'=(w.drew).freeze ⟨g,0,none⟩ s.size:=by
 have c1:w.drew.cell? ⟨b,1,none⟩=some (.slice (some ⟨g,0,none⟩) s.size cap):=by
  have:w.drew.heap[b]?=some (.cells #[p,.slice (some ⟨g,0,none⟩) s.size cap] 188 (0,0)):=hb;rw[Lib.cell_of_heap this];rfl
 have hSD:(Builtin.unsafeSliceData_ #[186] 204 #[.slice (some ⟨g,0,none⟩) s.size cap]).run Tryz.prog w.drew = .ok (.pointer (some ⟨g,0,none⟩)) w.drew:=
  Lib.run_unsafeSliceData_row _ _ _ _ _ _ (by omega)
 have hsl:s.data.toList.length=s.size:=by rw[Array.length_toList];rfl
 have hUS:(Builtin.unsafeString_ #[204,3] 9 #[.pointer (some ⟨g,0,none⟩),.int .i64 s.size]).run Tryz.prog w.drew = .ok (.string s) (w.drew.freeze ⟨g,0,none⟩ s.size):=by
  have:=Lib.run_unsafeString_row (P:=Tryz.prog) w.drew 204 3 9 5 Tryz.underlying204 (by kernel_rfl) g c.size (by have hg':w.drew.heap[g]?=some (.cells c 5 (0,0)):=hg;simp[World.shape?,hg']) s.data.toList (by intro e;rw[e]at hsl;simp at hsl;omega) (by omega) (by omega) (by
   intro j x hx;have hj:j<s.size:=by rw[<- hsl];exact(List.getElem?_eq_some_iff.1 hx).1
   have hv:(qW s)[j]?=some (.int .u8 x.toNat):=by simp[qW,hx]
   rw[<- htake,List.getElem?_take_of_lt hj]at hv;have hg':w.drew.heap[g]?=some (.cells c 5 (0,0)):=hg;rw[jM,Nat.zero_add,Lib.cell_of_heap hg'];simpa using hv)
  rw[hsl]at this;exact this
 go_enter Tryz.func121,Tryz.ntmps121
 go_wp2
 go_region
 all_goals (go_wp2;go_ret;exact⟨rfl,rfl⟩)
end Go.PX
namespace Go.PX
open Go.RowKit
theorem HeapOk.turn{σ:Type}{cx:Cx σ}{L:Loc}{F:Nat->Nat}{h:Heap}{s:σ}{w w':World}(hh:HeapOk cx L F h s w)(g:Nat)(hF:F g=0)(hC:¬ cx.C s g)(hos:w'.os=w.os)(ht:w'.tape=w.tape)(hu:w'.output=w.output)
  (hsz:w'.heap.size=w.heap.size) (hk:∀ b,b≠g->w'.heap[b]?=w.heap[b]?) (hne:∀ id o,get h id=some o->Backed L id o->L.ρ id≠g):HeapOk cx L F h s w'/\Tr F w F w':=by
 have tr:Tr F w F w':=.of_keep hos ht hu (by omega) (fun _=>Nat.le_refl _) hh.fresh fun b _ hF'=>hk b (by rintro rfl;omega);exact⟨hh.keep tr (fun b hb=>hh.fresh b (by omega)) (fun b hb=>⟨hk b (by rintro rfl;exact hC hb),rfl⟩) fun id o hi hb=>⟨hk _ (hne id o hi hb),rfl⟩,tr⟩
theorem qiu{P:Program}{f:FuncId}{args:List V}{h0 h1:Heap}{v0:V}(he:∀ (vs:Array Value) (w:World),(callFunc f vs).run P w = .ok (.enter f vs) w)
  (h:∀ {σ:Type} (cx:Cx σ) (L:Loc) (F:Nat->Nat) (s:σ) (vals:Array Value) (w:World),HeapOk cx L F h0 s w->RepVL cx.yv L F w args vals.toList ->
   Calls P f vals w fun e w'=>∃ x,e = .returned x/\HeapOk cx L F h1 s w'/\RepV cx.yv L F w' v0 x/\Tr F w F w'):FnU P f args h0 fun v h'=>v=v0/\h'=h1:=by
 intro σ Y s;refine⟨he,fun cx hY L F vals w hh hr=>?_⟩;refine(callsIn_wide.2 (h cx L F s vals w hh hr)).mono ?_;rintro e w' ⟨x,rfl,hh',hx,tr⟩;exact⟨x,rfl,_,_,s,L,F,⟨⟨rfl,rfl⟩,rfl⟩,hh',hx,tr,fun _ _=>⟨rfl,rfl⟩⟩
section
variable {P : Program} {σ : Type} {Y : Hd σ}
theorem qcP(n:Nat)(ids:List Nat){e:Env}{h h':Heap}{s:σ}{d:Option Nat}{f:FuncId}{args args':List V}{K:St σ->Prop}(hv:qdn (qcv (qM ids h) n) args=args')(hh:qmO h (zX (qM ids h))=h')
  (hk:CallA P Y ⟨e,h',s⟩ d f args' K):CallA P Y ⟨e,h,s⟩ d f args K:=by
 obtain⟨he,hk⟩:=hk;subst hh hv;refine⟨he,fun cx hY r m L F a w vals hg hd hr=>?_⟩;obtain⟨F1,hg1,tr1,hvw⟩:=hg.frzPart2 (h:=qM ids h) (fun i o hi=>jZ ids h i o hi) n;rw[qbm]at hg1;refine(hk cx hY r m L F1 a w vals hg1 hd (hvw _ _ hr)).mono ?_;rintro en w' (⟨x,rfl,st',L',F',k1,k2,k3⟩|⟨pv,pe,ph,ps,L',F',he,hy,hgp,trp⟩)
 ·exact .inl ⟨x,rfl,st',L',F',k1,k2,Tr.trans tr1 k3⟩
 ·exact .inr ⟨pv,pe,ph,ps,L',F',he,hy,hgp,Tr.trans tr1 trp⟩
end
end Go.PX
namespace Go.PX
open Go.Proofs
open Go.RowKit
theorem qiv{yv:Option Nat}{L:Loc}{F:Nat->Nat}{w:World}{v:V}{vals:Array Value}(h:RepVL yv L F w [v] vals.toList):∃ x,vals = #[x]/\RepV yv L F w v x:=by
 obtain⟨x,l',h1,h2,h3⟩:=h;have h3:l' = []:=h3;subst h3;exact⟨x,Array.ext' h1,h2⟩
def qwV(i:Nat):Heap:=[(i,.tb 188 [.d .nilp,.d .nils])]
def qgT(i k:Nat)(b:ByteArray):Heap:=[(i,.tb 188 [.ptr i 0,.sl k 1 0 b.size]),(k,.buf 5 b)]
theorem qgn(b:ByteArray):FnU Tryz.prog 130 [.ptr 1000000 0] (qgT 1000000 1000001 b) fun v h'=>v = .d (.tup [])/\h'=qgT 1000000 1000001 b:=by
 refine qiu (enters Tryz.func130 rfl (by decide +kernel)) fun {σ} cx L F s vals w hh hr=>?_;obtain⟨x,rfl,hx⟩:=qiv hr;have hx:x = .pointer (some ⟨L.ρ 1000000,0,none⟩):=hx;subst hx;obtain⟨c,hc,hrc⟩:=hh.obj 1000000 _ rfl;obtain⟨x0,l',hl,h0,_⟩:=hrc;have h0:x0 = .pointer (some ⟨L.ρ 1000000,0,none⟩):=h0;subst h0;refine(qtT (L.ρ 1000000) w (by rw[cell_of_row _ _ _ _ _ _ hc,<- Array.getElem?_toList,hl];rfl)).mono ?_;rintro e w' ⟨rfl,rfl⟩;exact⟨_,rfl,hh,⟨#[],rfl,rfl⟩,Tr.refl F _⟩
theorem qnD:FnU Tryz.prog 130 [.ptr 1000000 0] (qwV 1000000) fun v h'=>v = .d (.tup [])/\h' = [(1000000,.tb 188 [.ptr 1000000 0,.d .nils])]:=by
 refine qiu (enters Tryz.func130 rfl (by decide +kernel)) fun {σ} cx L F s vals w hh hr=>?_;obtain⟨x,rfl,hx⟩:=qiv hr;have hx:x = .pointer (some ⟨L.ρ 1000000,0,none⟩):=hx;subst hx;obtain⟨c,hc,hrc⟩:=hh.obj 1000000 _ rfl;obtain⟨x0,l',hl,h0,x1,l'',hl',h1,hnil⟩:=hrc;have h0:x0 = .pointer none:=h0;have h1:x1 = .slice none 0 0:=h1;have hnil:l'' = []:=hnil;subst h0 h1 hnil hl';have hc':c = #[.pointer none,.slice none 0 0]:=Array.ext' hl;subst hc';refine(qsa (L.ρ 1000000) w (by rw[cell_of_row _ _ _ _ _ _ hc];rfl) (by simp[World.shape?,hc]) (by simp[World.frozen?,hc])).mono ?_;rintro e w' ⟨rfl,rfl⟩;have hg:Good { cx with pρ:=L.ρ,pκ:=L.κ,base:=[] } none [] L F (⟨[],qwV 1000000,s⟩:St σ) { tmps:=#[],defers:=[] } w:=
  ⟨⟨hh.hg,hh.csz,hh.fresh,hh.obj,hh.own,hh.inj⟩,fun t v ht=>(by cases ht),rfl,(fun b hb=>by cases hb),List.nodup_nil,(fun l hl=>by cases hl),fun _ _=>⟨rfl,rfl⟩,by simp⟩
 have hblk:(w.setCell ⟨L.ρ 1000000,0,none⟩ (.pointer (some ⟨L.ρ 1000000,0,none⟩))).heap[L.ρ 1000000]?=some (.cells #[.pointer (some ⟨L.ρ 1000000,0,none⟩),.slice none 0 0] 188 (0,0)):=by
  simp[World.setCell,Array.getElem?_modify,hc]
 obtain⟨g1,g2⟩:=hg.obj (id:=1000000) (o:=.tb 188 [.ptr 1000000 0,.d .nils]) rfl trivial (w':=w.setCell ⟨L.ρ 1000000,0,none⟩ (.pointer (some ⟨L.ρ 1000000,0,none⟩))) rfl rfl rfl (by simp[World.setCell]) (fun b hb=>by simp[World.setCell,Array.getElem?_modify,Ne.symm hb])
  (by rw[hc];intro ds e;cases e) (by rw[hc];intro lp e;cases e) ⟨_,hblk,_,_,rfl,rfl,_,_,rfl,rfl,rfl⟩
 have g3:=g1.heap;exact⟨_,rfl,⟨g3.hg,g3.csz,g3.fresh,g3.obj,g3.own,g3.inj⟩,⟨#[],rfl,rfl⟩,g2⟩
theorem qyu(b:ByteArray)(h0:0<b.size)(hm:b.size<=140737488355328):FnU Tryz.prog 121 [.ptr 1000000 0] (qgT 1000000 1000001 b) fun v h'=>v = .d (.str b)/\h' = [(1000000,.tb 188 [.ptr 1000000 0,.unk])]:=by
 refine qiu (enters Tryz.func121 rfl (by decide +kernel)) fun {σ} cx L F s vals w hh hr=>?_;obtain⟨x,rfl,hx⟩:=qiv hr;have hx:x = .pointer (some ⟨L.ρ 1000000,0,none⟩):=hx;subst hx;obtain⟨c,hc,hrc⟩:=hh.obj 1000000 _ rfl;obtain⟨x0,l',hl,h0',x1,l'',hl',h1,hnil⟩:=hrc;have h0':x0 = .pointer (some ⟨L.ρ 1000000,0,none⟩):=h0';have hnil:l'' = []:=hnil;subst h0' hnil hl';obtain⟨ad,cap,rfl,hcap,_,hb⟩:=h1;rcases hb with⟨e,_⟩|⟨rfl,hb⟩
 ·omega
 rw[Nat.zero_add,Nat.mul_one]at hb;have hc':c = #[.pointer (some ⟨L.ρ 1000000,0,none⟩),.slice (some ⟨L.ρ 1000001,0,none⟩) b.size cap]:=Array.ext' hl;subst hc';obtain⟨c2,hc2,hk2,hs2,ht2⟩:=hh.obj 1000001 _ rfl;refine(qpX (L.ρ 1000000) (L.ρ 1000001) cap _ b c2 w hc hc2 h0 hcap hs2 hm ht2).mono ?_;rintro e w' ⟨rfl,rfl⟩;obtain⟨q1,q2⟩:=hh.own 1000001 _ rfl trivial;have hne:L.ρ 1000000≠L.ρ 1000001:=fun e=>by
  have:=hh.inj 1000000 1000001 _ _ rfl rfl trivial trivial e;omega
 have hh2:HeapOk cx L F [(1000000,.tb 188 [.ptr 1000000 0,.unk])] s w:=by
  refine⟨hh.hg,hh.csz,hh.fresh,fun id o ho=>?_,fun id o ho hb=>?_,fun i j o p hi hj hbi hbj e=>?_⟩
  ·obtain⟨rfl,rfl⟩:id=1000000/\o = .tb 188 [.ptr 1000000 0,.unk]:=by
    simp only[get]at ho;split at ho
    ·rename_i he;cases ho;exact⟨(Nat.eq_of_beq_eq_true he).symm,rfl⟩
    ·cases ho
   exact⟨_,hc,_,_,rfl,rfl,_,_,rfl,rfl,rfl⟩
  ·obtain⟨rfl,rfl⟩:id=1000000/\o = .tb 188 [.ptr 1000000 0,.unk]:=by
    simp only[get]at ho;split at ho
    ·rename_i he;cases ho;exact⟨(Nat.eq_of_beq_eq_true he).symm,rfl⟩
    ·cases ho
   exact hh.own 1000000 _ rfl trivial
  ·simp only[get]at hi hj
   split at hi
   ·rename_i he
    split at hj
    ·rename_i he2
     rw[<- Nat.eq_of_beq_eq_true he,<- Nat.eq_of_beq_eq_true he2]
    ·cases hj
   ·cases hi
 obtain⟨r1,r2⟩:=hh2.turn (w':=w.drew.freeze ⟨L.ρ 1000001,0,none⟩ b.size) (L.ρ 1000001) q1 q2 (by simp[World.freeze];split<;>rfl) (by simp[World.freeze];split<;>rfl) (by simp[World.freeze];split<;>rfl) (by simp[World.freeze];split<;>simp)
  (fun x hx=>by
   simp only[World.freeze];split
   ·rfl
   ·simp[Array.getElem?_modify,Ne.symm hx];rfl) (fun id o ho hb e=>by
   simp only[get]at ho;split at ho
   ·rename_i he
    rw[<- Nat.eq_of_beq_eq_true he]at e;exact hne e
   ·cases ho)
 exact⟨_,rfl,r1,rfl,r2⟩
def qwW(s:ByteArray):D:=.tup [i64 s.size,.nili]
theorem qsb(s:ByteArray)(h0:0<s.size)(hm:s.size<=140737488355328):FnU Tryz.prog 119 [.ptr 1000000 0,.d (.str s)] (qwV 1000000) fun v h'=>v = .d (qwW s)/\h'=qgT 1000000 2000000 s:=by
 intro σ Y st;refine qaT mixed qm Tryz.func119 rfl (ft:=qtE) (args:=[.ptr 1000000 0,.d (.str s)]) (show fnB qtE Tryz.f119 2=true from by decide +kernel) ?_;conv=>whnf
 refine qT qnD [1000000] rfl ⟨_,_,rfl,rfl,rfl⟩ rfl ?_;conv=>whnf
 refine zx (by simp[h0,hm]) ?_;conv=>whnf
 exact qA [14] [.d (i64 s.size),.d .nili] (qgT 1000000 2000000 s) rfl ⟨rfl,rfl,trivial⟩ rfl ⟨⟨rfl,rfl⟩,rfl⟩
theorem qpY(b s:ByteArray)(h0:0<b.size)(hm:b.size+s.size<=140737488355328):FnU Tryz.prog 119 [.ptr 1000000 0,.d (.str s)] (qgT 1000000 1000001 b) fun v h'=>v = .d (qwW s)/\h'=qgT 1000000 2000000 (b++s):=by
 intro σ Y st;refine qaT mixed qm Tryz.func119 rfl (ft:=qtE) (args:=[.ptr 1000000 0,.d (.str s)]) (show fnB qtE Tryz.f119 2=true from by decide +kernel) ?_;conv=>whnf
 refine qT (qgn b) [1000000,1000001] rfl ⟨_,_,rfl,rfl,_,_,rfl,rfl,rfl⟩ rfl ?_;conv=>whnf
 refine zx (by simp[h0,hm]) ?_;conv=>whnf
 exact qA [14] [.d (i64 s.size),.d .nili] (qgT 1000000 2000000 (b++s)) rfl ⟨rfl,rfl,trivial⟩ rfl ⟨⟨rfl,rfl⟩,rfl⟩
theorem qwX(b:ByteArray)(h0:0<b.size)(hm:b.size+1<=140737488355328):FnU Tryz.prog 118 [.ptr 1000000 0,.d (.int .u8 10)] (qgT 1000000 1000001 b) fun v h'=>v = .d .nili/\h'=qgT 1000000 2000000 (b++⟨#[10]⟩):=by
 intro σ Y st;refine qaT mixed qm Tryz.func118 rfl (ft:=qtD) (args:=[.ptr 1000000 0,.d (.int .u8 10)]) (show fnB qtD Tryz.f118 2=true from by decide +kernel) ?_;conv=>whnf
 refine qT (qgn b) [1000000,1000001] rfl ⟨_,_,rfl,rfl,_,_,rfl,rfl,rfl⟩ rfl ?_;conv=>whnf
 refine zx (by simp[h0];exact hm) ?_;conv=>whnf
 exact qA [14] [.d .nili] (qgT 1000000 2000000 (b++⟨#[10]⟩)) rfl ⟨rfl,rfl,trivial⟩ rfl ⟨⟨rfl,rfl⟩,rfl⟩
end Go.PX
namespace Go.PX
open Go.Proofs
def qvI:Nat->Nat->List UInt8
 | 0,_=>[]
 | f+1,u=>if u<10 then [UInt8.ofNat (48+u)] else qvI f (u/10) ++ [UInt8.ofNat (48+u%10)]
theorem qnE:∀ (f u:Nat),u<10^f->0<f->qvI f u=Lib.decDigits u
 | 0,_,_,h=>absurd h (by omega)
 | f+1,u,hu,_=>by
  rw[qvI,Lib.decDigits];by_cases h:u<10
  ·rw[if_pos h,dif_pos h]
  ·rw[if_neg h,dif_neg h]
   have h2:u/10<10^f:=by
    rw[Nat.pow_succ]at hu;exact Nat.div_lt_of_lt_mul (by omega)
   have hf:0<f:=by
    rcases Nat.eq_zero_or_pos f with rfl|h3
    ·simp at h2;omega
    ·exact h3
   rw[qnE f (u/10) h2 hf]
theorem qkJ:∀ (f u:Nat),(qvI f u).length<=f
 | 0,_=>Nat.le_refl _
 | f+1,u=>by
  rw[qvI];split
  ·simp
  ·have:=qkJ f (u/10)
   simp;omega
def qwY(n:Int):List UInt8:=if n<0 then 45::qvI 19 n.natAbs else qvI 19 n.toNat
def qnF(n:Int):ByteArray:=⟨(qwY n).toArray⟩
theorem qvJ{n:Int}(h : -1000000000000000000<=n/\n<=1000000000000000000):qwY n=Lib.itoa n:=by
  unfold qwY Lib.itoa;split
  · rw[qnE 19 n.natAbs (by have:(10:Nat)^19=10000000000000000000:=(by decide);omega) (by omega)]
  · rw[qnE 19 n.toNat (by have:(10:Nat)^19=10000000000000000000:=(by decide);omega) (by omega)]
theorem qsc(n:Int):(qnF n).size<=20:=by
 show(qwY n).toArray.size<=20;rw[List.size_toArray];unfold qwY;split
 ·have:=qkJ 19 n.natAbs;simp;omega
 ·have:=qkJ 19 n.toNat;omega
end Go.PX
namespace Go.PX
open Go.Proofs
open Go.Shelf
def Tryz.laysM171_ren:Go.Shelf.Ren:=⟨fun|171=>120|243=>131|246=>140|283=>153|284=>154|285=>155|286=>156|129=>164|317=>163|318=>165|319=>166|320=>167|337=>170|338=>171|n=>n,fun|3=>3|9=>9|2=>2|4=>4|171=>223|0=>0|53=>224|37=>186|5=>5|173=>227|212=>238|51=>91|20=>20|213=>239|46=>214|232=>250|233=>251|n=>n,fun|17=>3|18=>6|19=>7|n=>n⟩
theorem Tryz.laysM171:Go.Proofs.LaysM.n171 Tryz.prog Tryz.laysM171_ren:={
 mixed:=by kernel_rfl
 f129:=Tryz.func164.trans (congrArg some (by kernel_rfl))
 f171:=Tryz.func120.trans (congrArg some (by kernel_rfl))
 f243:=Tryz.func131.trans (congrArg some (by kernel_rfl))
 f246:=Tryz.func140.trans (congrArg some (by kernel_rfl))
 f283:=Tryz.func153.trans (congrArg some (by kernel_rfl))
 f284:=Tryz.func154.trans (congrArg some (by kernel_rfl))
 f285:=Tryz.func155.trans (congrArg some (by kernel_rfl))
 f286:=Tryz.func156.trans (congrArg some (by kernel_rfl))
 f317:=Tryz.func163.trans (congrArg some (by kernel_rfl))
 f318:=Tryz.func165.trans (congrArg some (by kernel_rfl))
 f319:=Tryz.func166.trans (congrArg some (by kernel_rfl))
 f320:=Tryz.func167.trans (congrArg some (by kernel_rfl))
 f337:=Tryz.func170.trans (congrArg some (by kernel_rfl))
 f338:=Tryz.func171.trans (congrArg some (by kernel_rfl))
 t0:=Tryz.underlying0
 a0:=Tryz.isAgg0
 z0:=Tryz.sizeOf0
 v0:=Tryz.zeroValue0
 t2:=Tryz.underlying2
 a2:=Tryz.isAgg2
 z2:=Tryz.sizeOf2
 v2:=Tryz.zeroValue2
 t3:=Tryz.underlying3
 a3:=Tryz.isAgg3
 z3:=Tryz.sizeOf3
 v3:=Tryz.zeroValue3
 t4:=Tryz.underlying4
 a4:=Tryz.isAgg4
 z4:=Tryz.sizeOf4
 v4:=Tryz.zeroValue4
 t5:=Tryz.underlying5
 a5:=Tryz.isAgg5
 z5:=Tryz.sizeOf5
 v5:=Tryz.zeroValue5
 t9:=Tryz.underlying9
 a9:=Tryz.isAgg9
 z9:=Tryz.sizeOf9
 v9:=Tryz.zeroValue9
 t20:=Tryz.underlying20
 a20:=Tryz.isAgg20
 z20:=Tryz.sizeOf20
 v20:=Tryz.zeroValue20
 t37:=Tryz.underlying186
 a37:=Tryz.isAgg186
 z37:=Tryz.sizeOf186
 v37:=Tryz.zeroValue186
 t46:=Tryz.underlying214
 a46:=Tryz.isAgg214
 z46:=Tryz.sizeOf214
 v46:=Tryz.zeroValue214
 t51:=Tryz.underlying91
 a51:=Tryz.isAgg91
 z51:=Tryz.sizeOf91
 v51:=Tryz.zeroValue91
 t53:=Tryz.underlying224
 a53:=Tryz.isAgg224
 z53:=Tryz.sizeOf224
 v53:=Tryz.zeroValue224
 t171:=Tryz.underlying223
 a171:=Tryz.isAgg223
 z171:=Tryz.sizeOf223
 v171:=Tryz.zeroValue223
 t173:=Tryz.underlying227
 a173:=Tryz.isAgg227
 z173:=Tryz.sizeOf227
 v173:=Tryz.zeroValue227
 t212:=Tryz.underlying238
 a212:=Tryz.isAgg238
 z212:=Tryz.sizeOf238
 v212:=Tryz.zeroValue238
 t213:=Tryz.underlying239
 a213:=Tryz.isAgg239
 z213:=Tryz.sizeOf239
 t232:=Tryz.underlying250
 a232:=Tryz.isAgg250
 z232:=Tryz.sizeOf250
 v232:=Tryz.zeroValue250
 t233:=Tryz.underlying251
 a233:=Tryz.isAgg251
 z233:=Tryz.sizeOf251
 v233:=Tryz.zeroValue251
 g17:=by kernel_rfl
 g18:=by kernel_rfl
 g19:=by kernel_rfl
 i0:=by kernel_rfl
 i2:=by kernel_rfl
 i3:=by kernel_rfl
 i4:=by kernel_rfl
 i5:=by kernel_rfl
 i9:=by kernel_rfl
 i20:=by kernel_rfl
 i37:=by kernel_rfl
 i46:=by kernel_rfl
 i51:=by kernel_rfl
 i53:=by kernel_rfl
 i171:=by kernel_rfl
 i173:=by kernel_rfl
 i212:=by kernel_rfl
 i232:=by kernel_rfl
 i233:=by kernel_rfl
 m17:=by kernel_rfl
 m18:=by kernel_rfl
 m19:=by kernel_rfl }
open Go.RowKit Go.Sort Go.Lib in
theorem Tryz.strconv_Itoa (n : Int) (h0 : -9223372036854775808 <= n) (h1 : n <= 9223372036854775807) (w : World) (htab : Lib.TabIs Tryz.prog w "internal/strconv.uint64pow10" .u64 Lib.pow10Tab) :
  Calls Tryz.prog 120 #[.int .i64 n] w fun e w'=>e = .returned (.string ⟨(Lib.itoa n).toArray⟩) /\ ∃ k os,w'=grow (w.drewN k) os:=Any.strconv_Itoa Tryz.laysM171 n h0 h1 w htab
def Tryz.laysC172_ren:Go.Shelf.Ren:=⟨fun|172=>125|244=>134|245=>135|247=>145|279=>146|280=>147|281=>148|282=>149|287=>159|316=>160|171=>120|205=>161|321=>168|322=>169|243=>131|246=>140|283=>153|284=>154|285=>155|286=>156|129=>164|317=>163|318=>165|319=>166|320=>167|337=>170|338=>171|n=>n,fun|9=>9|3=>3|75=>191|76=>193|4=>4|5=>5|167=>215|37=>186|0=>0|85=>216|2=>2|168=>218|53=>224|175=>231|46=>214|210=>235|127=>204|145=>244|143=>242|21=>21|171=>223|173=>227|212=>238|51=>91|20=>20|213=>239|232=>250|233=>251|80=>134|n=>n,fun|15=>1|16=>2|17=>3|18=>6|19=>7|n=>n⟩
theorem Tryz.laysC172:Go.Proofs.LaysC.n172 Tryz.prog Tryz.laysC172_ren:={
 mixed:=by kernel_rfl
 f129:=Tryz.func164.trans (congrArg some (by kernel_rfl))
 f171:=Tryz.func120.trans (congrArg some (by kernel_rfl))
 f172:=Tryz.func125.trans (congrArg some (by kernel_rfl))
 f205:=Tryz.func161.trans (congrArg some (by kernel_rfl))
 f243:=Tryz.func131.trans (congrArg some (by kernel_rfl))
 f244:=Tryz.func134.trans (congrArg some (by kernel_rfl))
 f245:=Tryz.func135.trans (congrArg some (by kernel_rfl))
 f246:=Tryz.func140.trans (congrArg some (by kernel_rfl))
 f247:=Tryz.func145.trans (congrArg some (by kernel_rfl))
 f279:=Tryz.func146.trans (congrArg some (by kernel_rfl))
 f280:=Tryz.func147.trans (congrArg some (by kernel_rfl))
 f281:=Tryz.func148.trans (congrArg some (by kernel_rfl))
 f282:=Tryz.func149.trans (congrArg some (by kernel_rfl))
 f283:=Tryz.func153.trans (congrArg some (by kernel_rfl))
 f284:=Tryz.func154.trans (congrArg some (by kernel_rfl))
 f285:=Tryz.func155.trans (congrArg some (by kernel_rfl))
 f286:=Tryz.func156.trans (congrArg some (by kernel_rfl))
 f287:=Tryz.func159.trans (congrArg some (by kernel_rfl))
 f316:=Tryz.func160.trans (congrArg some (by kernel_rfl))
 f317:=Tryz.func163.trans (congrArg some (by kernel_rfl))
 f318:=Tryz.func165.trans (congrArg some (by kernel_rfl))
 f319:=Tryz.func166.trans (congrArg some (by kernel_rfl))
 f320:=Tryz.func167.trans (congrArg some (by kernel_rfl))
 f321:=Tryz.func168.trans (congrArg some (by kernel_rfl))
 f322:=Tryz.func169.trans (congrArg some (by kernel_rfl))
 f337:=Tryz.func170.trans (congrArg some (by kernel_rfl))
 f338:=Tryz.func171.trans (congrArg some (by kernel_rfl))
 t0:=Tryz.underlying0
 a0:=Tryz.isAgg0
 z0:=Tryz.sizeOf0
 v0:=Tryz.zeroValue0
 t2:=Tryz.underlying2
 a2:=Tryz.isAgg2
 z2:=Tryz.sizeOf2
 v2:=Tryz.zeroValue2
 t3:=Tryz.underlying3
 a3:=Tryz.isAgg3
 z3:=Tryz.sizeOf3
 v3:=Tryz.zeroValue3
 t4:=Tryz.underlying4
 a4:=Tryz.isAgg4
 z4:=Tryz.sizeOf4
 v4:=Tryz.zeroValue4
 t5:=Tryz.underlying5
 a5:=Tryz.isAgg5
 z5:=Tryz.sizeOf5
 v5:=Tryz.zeroValue5
 t9:=Tryz.underlying9
 a9:=Tryz.isAgg9
 z9:=Tryz.sizeOf9
 v9:=Tryz.zeroValue9
 t20:=Tryz.underlying20
 a20:=Tryz.isAgg20
 z20:=Tryz.sizeOf20
 v20:=Tryz.zeroValue20
 t21:=Tryz.underlying21
 a21:=Tryz.isAgg21
 z21:=Tryz.sizeOf21
 v21:=Tryz.zeroValue21
 t37:=Tryz.underlying186
 a37:=Tryz.isAgg186
 z37:=Tryz.sizeOf186
 v37:=Tryz.zeroValue186
 t46:=Tryz.underlying214
 a46:=Tryz.isAgg214
 z46:=Tryz.sizeOf214
 v46:=Tryz.zeroValue214
 t51:=Tryz.underlying91
 a51:=Tryz.isAgg91
 z51:=Tryz.sizeOf91
 v51:=Tryz.zeroValue91
 t53:=Tryz.underlying224
 a53:=Tryz.isAgg224
 z53:=Tryz.sizeOf224
 v53:=Tryz.zeroValue224
 t75:=Tryz.underlying191
 a75:=Tryz.isAgg191
 z75:=Tryz.sizeOf191
 v75:=Tryz.zeroValue191
 t76:=Tryz.underlying193
 a76:=Tryz.isAgg193
 z76:=Tryz.sizeOf193
 v76:=Tryz.zeroValue193
 t85:=Tryz.underlying216
 a85:=Tryz.isAgg216
 z85:=Tryz.sizeOf216
 v85:=Tryz.zeroValue216
 t127:=Tryz.underlying204
 a127:=Tryz.isAgg204
 z127:=Tryz.sizeOf204
 v127:=Tryz.zeroValue204
 t143:=Tryz.underlying242
 a143:=Tryz.isAgg242
 z143:=Tryz.sizeOf242
 v143:=Tryz.zeroValue242
 t145:=Tryz.underlying244
 a145:=Tryz.isAgg244
 z145:=Tryz.sizeOf244
 v145:=Tryz.zeroValue244
 t167:=Tryz.underlying215
 a167:=Tryz.isAgg215
 z167:=Tryz.sizeOf215
 v167:=Tryz.zeroValue215
 t168:=Tryz.underlying218
 a168:=Tryz.isAgg218
 z168:=Tryz.sizeOf218
 v168:=Tryz.zeroValue218
 t171:=Tryz.underlying223
 a171:=Tryz.isAgg223
 z171:=Tryz.sizeOf223
 v171:=Tryz.zeroValue223
 t173:=Tryz.underlying227
 a173:=Tryz.isAgg227
 z173:=Tryz.sizeOf227
 v173:=Tryz.zeroValue227
 t175:=Tryz.underlying231
 a175:=Tryz.isAgg231
 z175:=Tryz.sizeOf231
 v175:=Tryz.zeroValue231
 t210:=Tryz.underlying235
 a210:=Tryz.isAgg235
 z210:=Tryz.sizeOf235
 v210:=Tryz.zeroValue235
 t212:=Tryz.underlying238
 a212:=Tryz.isAgg238
 z212:=Tryz.sizeOf238
 v212:=Tryz.zeroValue238
 t213:=Tryz.underlying239
 a213:=Tryz.isAgg239
 z213:=Tryz.sizeOf239
 t232:=Tryz.underlying250
 a232:=Tryz.isAgg250
 z232:=Tryz.sizeOf250
 v232:=Tryz.zeroValue250
 t233:=Tryz.underlying251
 a233:=Tryz.isAgg251
 z233:=Tryz.sizeOf251
 v233:=Tryz.zeroValue251
 g15:=by kernel_rfl
 g16:=by kernel_rfl
 g17:=by kernel_rfl
 g18:=by kernel_rfl
 g19:=by kernel_rfl
 t80:=Tryz.underlying134
 a80:=Tryz.isAgg134
 z80:=Tryz.sizeOf134
 v80:=Tryz.zeroValue134
 i0:=by kernel_rfl
 i2:=by kernel_rfl
 i3:=by kernel_rfl
 i4:=by kernel_rfl
 i5:=by kernel_rfl
 i9:=by kernel_rfl
 i20:=by kernel_rfl
 i21:=by kernel_rfl
 i37:=by kernel_rfl
 i46:=by kernel_rfl
 i51:=by kernel_rfl
 i53:=by kernel_rfl
 i75:=by kernel_rfl
 i76:=by kernel_rfl
 i80:=by kernel_rfl
 i85:=by kernel_rfl
 i127:=by kernel_rfl
 i143:=by kernel_rfl
 i145:=by kernel_rfl
 i167:=by kernel_rfl
 i168:=by kernel_rfl
 i171:=by kernel_rfl
 i173:=by kernel_rfl
 i175:=by kernel_rfl
 i210:=by kernel_rfl
 i212:=by kernel_rfl
 i232:=by kernel_rfl
 i233:=by kernel_rfl
 m15:=by kernel_rfl
 m16:=by kernel_rfl
 m17:=by kernel_rfl
 m18:=by kernel_rfl
 m19:=by kernel_rfl
 c0:=by kernel_rfl
 c2:=by kernel_rfl
 c3:=by kernel_rfl
 c4:=by kernel_rfl
 c5:=by kernel_rfl
 c9:=by kernel_rfl
 c20:=by kernel_rfl
 c21:=by kernel_rfl
 c37:=by kernel_rfl
 c46:=by kernel_rfl
 c51:=by kernel_rfl
 c53:=by kernel_rfl
 c75:=by kernel_rfl
 c76:=by kernel_rfl
 c80:=by kernel_rfl
 c85:=by kernel_rfl
 c127:=by kernel_rfl
 c143:=by kernel_rfl
 c145:=by kernel_rfl
 c167:=by kernel_rfl
 c168:=by kernel_rfl
 c171:=by kernel_rfl
 c173:=by kernel_rfl
 c175:=by kernel_rfl
 c210:=by kernel_rfl
 c212:=by kernel_rfl
 c213:=by kernel_rfl
 c232:=by kernel_rfl
 c233:=by kernel_rfl }
open Go.RowKit in
theorem Tryz.strconv_Atoi_ok(s:ByteArray)(hmax:s.size<=9223372036854775806)(v:Int)(h:Lib.atoiAll s.data.toList = .ok v)(w:World) :
  Calls Tryz.prog 125 #[.string s] w fun e w'=>e = .returned (.tuple #[.int .i64 v,.nilIface])/\(w'=w \/ ∃ t,w'=Lib.bytesWorld w 5 t):=Any.strconv_Atoi_ok Tryz.laysC172 s hmax v h w
def Tryz.lays145_ren:Go.Shelf.Ren:=⟨fun|145=>94|220=>123|219=>132|217=>141|225=>142|224=>143|267=>144|266=>157|314=>158|n=>n,fun|9=>9|4=>4|59=>160|3=>3|5=>5|46=>214|146=>229|51=>91|n=>n,fun|1=>0|n=>n⟩
theorem Tryz.lays145:Go.Proofs.Lays.n145 Tryz.prog Tryz.lays145_ren:={
 mixed:=by kernel_rfl
 f145:=Tryz.func94.trans (congrArg some (by kernel_rfl))
 f217:=Tryz.func141.trans (congrArg some (by kernel_rfl))
 f219:=Tryz.func132.trans (congrArg some (by kernel_rfl))
 f220:=Tryz.func123.trans (congrArg some (by kernel_rfl))
 f224:=Tryz.func143.trans (congrArg some (by kernel_rfl))
 f225:=Tryz.func142.trans (congrArg some (by kernel_rfl))
 f266:=Tryz.func157.trans (congrArg some (by kernel_rfl))
 f267:=Tryz.func144.trans (congrArg some (by kernel_rfl))
 f314:=Tryz.func158.trans (congrArg some (by kernel_rfl))
 t3:=Tryz.underlying3
 a3:=Tryz.isAgg3
 z3:=Tryz.sizeOf3
 v3:=Tryz.zeroValue3
 t4:=Tryz.underlying4
 a4:=Tryz.isAgg4
 z4:=Tryz.sizeOf4
 v4:=Tryz.zeroValue4
 t5:=Tryz.underlying5
 a5:=Tryz.isAgg5
 z5:=Tryz.sizeOf5
 v5:=Tryz.zeroValue5
 t9:=Tryz.underlying9
 a9:=Tryz.isAgg9
 z9:=Tryz.sizeOf9
 v9:=Tryz.zeroValue9
 t46:=Tryz.underlying214
 a46:=Tryz.isAgg214
 z46:=Tryz.sizeOf214
 v46:=Tryz.zeroValue214
 t51:=Tryz.underlying91
 a51:=Tryz.isAgg91
 z51:=Tryz.sizeOf91
 v51:=Tryz.zeroValue91
 t59:=Tryz.underlying160
 a59:=Tryz.isAgg160
 z59:=Tryz.sizeOf160
 v59:=Tryz.zeroValue160
 t146:=Tryz.underlying229
 a146:=Tryz.isAgg229
 z146:=Tryz.sizeOf229
 v146:=Tryz.zeroValue229
 g1:=by kernel_rfl }
open Go.RowKit Go.Lib in
theorem Tryz.strings_Cut(s sep:ByteArray)(m:Int)(w:World)(hs:s.size<4294967281)(hm:w.cell? ⟨0,0,none⟩=some (.int .i64 m)) :
  Calls Tryz.prog 94 #[.string s,.string sep] w fun e w'=>e = .returned (.tuple #[.string ⟨(Lib.cut s.data.toList sep.data.toList).1.toArray⟩,.string ⟨(Lib.cut s.data.toList sep.data.toList).2.1.toArray⟩,.bool (Lib.cut s.data.toList sep.data.toList).2.2]) /\ ∃ n,w'=w.drewN n:=Any.strings_Cut Tryz.lays145 s sep m w hs hm
def Tryz.lays146_ren:Go.Shelf.Ren:=⟨fun|146=>99|221=>126|268=>136|138=>137|143=>138|195=>150|197=>151|218=>152|219=>132|260=>162|217=>141|225=>142|224=>143|267=>144|266=>157|314=>158|n=>n,fun|9=>9|31=>108|3=>3|4=>4|0=>0|105=>221|21=>21|5=>5|46=>214|119=>245|139=>248|138=>247|146=>229|51=>91|n=>n,fun|1=>0|3=>4|4=>5|n=>n⟩
theorem Tryz.lays146:Go.Proofs.Lays.n146 Tryz.prog Tryz.lays146_ren:={
 mixed:=by kernel_rfl
 f138:=Tryz.func137.trans (congrArg some (by kernel_rfl))
 f143:=Tryz.func138.trans (congrArg some (by kernel_rfl))
 f146:=Tryz.func99.trans (congrArg some (by kernel_rfl))
 f195:=Tryz.func150.trans (congrArg some (by kernel_rfl))
 f197:=Tryz.func151.trans (congrArg some (by kernel_rfl))
 f217:=Tryz.func141.trans (congrArg some (by kernel_rfl))
 f218:=Tryz.func152.trans (congrArg some (by kernel_rfl))
 f219:=Tryz.func132.trans (congrArg some (by kernel_rfl))
 f221:=Tryz.func126.trans (congrArg some (by kernel_rfl))
 f224:=Tryz.func143.trans (congrArg some (by kernel_rfl))
 f225:=Tryz.func142.trans (congrArg some (by kernel_rfl))
 f260:=Tryz.func162.trans (congrArg some (by kernel_rfl))
 f266:=Tryz.func157.trans (congrArg some (by kernel_rfl))
 f267:=Tryz.func144.trans (congrArg some (by kernel_rfl))
 f268:=Tryz.func136.trans (congrArg some (by kernel_rfl))
 f314:=Tryz.func158.trans (congrArg some (by kernel_rfl))
 t0:=Tryz.underlying0
 a0:=Tryz.isAgg0
 z0:=Tryz.sizeOf0
 v0:=Tryz.zeroValue0
 t3:=Tryz.underlying3
 a3:=Tryz.isAgg3
 z3:=Tryz.sizeOf3
 v3:=Tryz.zeroValue3
 t4:=Tryz.underlying4
 a4:=Tryz.isAgg4
 z4:=Tryz.sizeOf4
 v4:=Tryz.zeroValue4
 t5:=Tryz.underlying5
 a5:=Tryz.isAgg5
 z5:=Tryz.sizeOf5
 v5:=Tryz.zeroValue5
 t9:=Tryz.underlying9
 a9:=Tryz.isAgg9
 z9:=Tryz.sizeOf9
 v9:=Tryz.zeroValue9
 t21:=Tryz.underlying21
 a21:=Tryz.isAgg21
 z21:=Tryz.sizeOf21
 v21:=Tryz.zeroValue21
 t31:=Tryz.underlying108
 a31:=Tryz.isAgg108
 z31:=Tryz.sizeOf108
 v31:=Tryz.zeroValue108
 t46:=Tryz.underlying214
 a46:=Tryz.isAgg214
 z46:=Tryz.sizeOf214
 v46:=Tryz.zeroValue214
 t51:=Tryz.underlying91
 a51:=Tryz.isAgg91
 z51:=Tryz.sizeOf91
 v51:=Tryz.zeroValue91
 t105:=Tryz.underlying221
 a105:=Tryz.isAgg221
 z105:=Tryz.sizeOf221
 v105:=Tryz.zeroValue221
 t119:=Tryz.underlying245
 a119:=Tryz.isAgg245
 z119:=Tryz.sizeOf245
 t138:=Tryz.underlying247
 a138:=Tryz.isAgg247
 z138:=Tryz.sizeOf247
 v138:=Tryz.zeroValue247
 t139:=Tryz.underlying248
 a139:=Tryz.isAgg248
 z139:=Tryz.sizeOf248
 v139:=Tryz.zeroValue248
 t146:=Tryz.underlying229
 a146:=Tryz.isAgg229
 z146:=Tryz.sizeOf229
 v146:=Tryz.zeroValue229
 g1:=by kernel_rfl
 g3:=by kernel_rfl
 g4:=by kernel_rfl }
open Go.RowKit Go.Lib in
theorem Tryz.strings_Split(s sep:ByteArray)(m:Int)(w:World)(hs:s.size<4294967281)(hm:w.cell? ⟨0,0,none⟩=some (.int .i64 m))(h1:1<=sep.size) :
  Calls Tryz.prog 99 #[.string s,.string sep] w fun e w'=>
   e = .returned (.slice (some ⟨w.heap.size,0,none⟩) (Lib.countB s sep+1) (Lib.countB s sep+1))/\w'=w.alloc (.cells ((Lib.splitB sep 0 (Lib.countB s sep) s).map Value.string).toArray 9):=Any.strings_Split Tryz.lays146 (by kernel_rfl) s sep m w hs hm h1
theorem qvK(n:Int)(h : -1000000000000000000<=n/\n<=1000000000000000000):FnV Tryz.prog 120 [i64 n] (.str (qnF n)):=by
 refine qec (enters Tryz.func120 rfl (by decide +kernel)) fun vals w F hl hf hr=>?_;obtain⟨x,l',h1,h2,h3⟩:=hr;have h2:x = .int .i64 n:=h2;have h3:l' = []:=h3;subst h2 h3;have hv:vals = #[.int .i64 n]:=Array.ext' h1;subst hv;refine(Tryz.strconv_Itoa n (by omega) (by omega) w (hl.tab 3 (by kernel_rfl))).mono ?_;rintro e w' ⟨rfl,k,os,rfl⟩;have hx:(⟨(Lib.itoa n).toArray⟩:ByteArray)=qnF n:=by rw[qnF,qvJ h]
 rw[hx];have hsz:(Go.Sort.grow (w.drewN k) os).heap.size=w.heap.size+os.size:=by simp[Go.Sort.grow,World.drewN]
 refine⟨_,rfl,⟨rfl,rfl,rfl,by omega,fun b hb=>?_⟩,F,fun _ _=>rfl,fun b hb=>hf b (by omega),rfl⟩;show(w.heap++os)[b]?=_;rw[Array.getElem?_append_left hb]
end Go.PX
namespace Go.PX
open Go.Proofs
open Go.RowKit
def qcc(c:UInt8):List UInt8->List UInt8×List UInt8×Bool
 | []=>([],[],false)
 | x::r=>if x=c then ([],r,true) else (x::(qcc c r).1,(qcc c r).2.1,(qcc c r).2.2)
def qnG(x:UInt8):List (List UInt8)->List (List UInt8)
 | []=>[[x]]
 | a::t=>(x::a)::t
def qaR(c:UInt8):List UInt8->List (List UInt8)
 | []=>[[]]
 | x::r=>if x=c then []::qaR c r else qnG x (qaR c r)
theorem qvL(c:UInt8):Lib.index [] [c] = -1:=rfl
theorem quX(c:UInt8)(r:List UInt8):Lib.index (c::r) [c]=0:=by
 rw[Lib.index_one,Lib.indexByte];simp
theorem quY{c x:UInt8}(h:x≠c)(r:List UInt8):Lib.index (x::r) [c]=if Lib.index r [c] == -1 then -1 else Lib.index r [c]+1:=by
 rw[Lib.index_one,Lib.indexByte,Lib.index_one];simp[h]
theorem quZ(c:UInt8):∀ l:List UInt8,Lib.cut l [c]=qcc c l
 | []=>by simp[Lib.cut,qvL,qcc]
 | x::r=>by
  rw[qcc];by_cases h:x=c
  ·subst h
   rw[if_pos rfl,Lib.cut,quX];simp
  ·rw[if_neg h,<- quZ c r]
   have hge:=Lib.index_ge r [c];unfold Lib.cut;rw[quY h];by_cases h1:Lib.index r [c] = -1
   ·simp[h1]
   ·obtain⟨i,hi⟩:∃ i:Nat,Lib.index r [c]=i:=⟨(Lib.index r [c]).toNat,by omega⟩
    rw[hi];have h2:((i:Int) == -1)=false:=by first|(simp;done)|(simp;omega)
    rw[h2];have h3:(0:Int)<=(i:Int)+1:=by omega
    have h4:(0:Int)<=(i:Int):=by omega
    simp only[Bool.false_eq_true,if_false,if_pos h3,if_pos h4];have h5:((i:Int)+1).toNat=i+1:=by omega
    have h6:((i:Int)).toNat=i:=by omega
    rw[h5,h6];simp
theorem qsd(c:UInt8):∀ l,qaR c l ≠ []
 | []=>by simp[qaR]
 | x::r=>by
  rw[qaR];split
  ·simp
  ·cases qaR c r<;>simp[qnG]
theorem qmm(c:UInt8):∀ l:List UInt8,Lib.splitK [c] 0 (l.count c) l=qaR c l
 | []=>rfl
 | x::r=>by
  have ih:=qmm c r;rw[qaR];by_cases h:x=c
  ·subst h
   rw[if_pos rfl,List.count_cons_self,Lib.splitK,quX,<- ih];simp
  ·rw[if_neg h,List.count_cons_of_ne (by simpa using h)]
   cases hk:r.count c with
   | zero=>
    rw[hk]at ih;rw[<- ih];rfl
   | succ k=>
    rw[hk]at ih;rw[<- ih];have hge:=Lib.index_ge r [c];rw[Lib.splitK,Lib.splitK,quY h];by_cases h1:Lib.index r [c] = -1
    ·rw[h1];simp[qnG]
    ·obtain⟨i,hi⟩:∃ i:Nat,Lib.index r [c]=i:=⟨(Lib.index r [c]).toNat,by omega⟩
     rw[hi];have h2:((i:Int) == -1)=false:=by first|(simp;done)|(simp;omega)
     have h3:(((i:Int)+1) == -1)=false:=by first|(simp;done)|(simp;omega)
     rw[h2];simp only[Bool.false_eq_true,if_false];rw[h3];have h5:((i:Int)+1).toNat=i+1:=by omega
     have h6:((i:Int)).toNat=i:=by omega
     simp only[Bool.false_eq_true,if_false,h5,h6,qnG];simp
def qau(c:UInt8)(s:ByteArray):List ByteArray:=(qaR c s.data.toList).map fun l=>⟨l.toArray⟩
theorem qse(c:UInt8)(s:ByteArray):Lib.splitB ⟨#[c]⟩ 0 (Lib.countB s ⟨#[c]⟩) s=qau c s:=by
 have h:=Lib.splitB_data ⟨#[c]⟩ 0 (Lib.countB s ⟨#[c]⟩) s;have hc:Lib.countB s ⟨#[c]⟩=s.data.toList.count c:=Lib.count_one c s.data.toList;rw[hc]at h ⊢;have h2:(⟨#[c]⟩:ByteArray).data.toList = [c]:=rfl;rw[h2,qmm]at h;unfold qau;rw[<- h,List.map_map];conv=>lhs;rw[<- List.map_id (Lib.splitB ⟨#[c]⟩ 0 (s.data.toList.count c) s)]
 refine List.map_congr_left fun x _=>?_;cases x;simp
def jV(s:ByteArray):Option Int:=
 match Lib.atoiAll s.data.toList with
 | .ok v=>some v
 | _=>none
theorem qoX{F:Nat->Nat}{w:World}{s:ByteArray}{vals:Array Value}(hr:RepDL F w [.str s] vals.toList):vals = #[.string s]:=by
 obtain⟨x,l',h1,h2,h3⟩:=hr;have h2:x = .string s:=h2;have h3:l' = []:=h3;subst h2 h3;exact Array.ext' h1
theorem qmn{F:Nat->Nat}{w:World}{s t:ByteArray}{vals:Array Value}(hr:RepDL F w [.str s,.str t] vals.toList):vals = #[.string s,.string t]:=by
 obtain⟨x,l',h1,h2,y,l2,rfl,h3,h4⟩:=hr;have h2:x = .string s:=h2;have h3:y = .string t:=h3;have h4:l2 = []:=h4;subst h2 h3 h4;exact Array.ext' h1
theorem Grown.of{w w':World}(h:Below w.heap.size w w'):Grown w w':=⟨h.os,h.tape,h.output,h.size,h.block⟩
theorem qyv(s:ByteArray)(v:Int)(hs:s.size<=1000000000)(h:jV s=some v):FnV Tryz.prog 125 [.str s] (.tup [i64 v,.nili]):=by
 refine qec (enters Tryz.func125 rfl (by decide +kernel)) fun vals w F hl hf hr=>?_;have ha:Lib.atoiAll s.data.toList = .ok v:=by
  unfold jV at h;split at h
  ·rename_i u hu;cases h;exact hu
  ·cases h
 rw[qoX hr];refine(Tryz.strconv_Atoi_ok s (by omega) v ha w).mono ?_;rintro e w' ⟨rfl,rfl|⟨t,rfl⟩⟩
 ·exact⟨_,rfl,Grown.refl _,F,fun _ _=>rfl,hf,_,rfl,_,_,rfl,rfl,_,_,rfl,rfl,rfl⟩
 ·have h2:=Lib.bytesWorld_size w 5 t
  exact⟨_,rfl,Grown.of (Lib.bytesWorld_below w 5 t),F,fun _ _=>rfl,fun b hb=>hf b (by omega),_,rfl,_,_,rfl,rfl,_,_,rfl,rfl,rfl⟩
theorem qAy(s:ByteArray)(c:UInt8)(hs:s.size<=1000000000):FnV Tryz.prog 94 [.str s,.str ⟨#[c]⟩] (.tup [.str ⟨(qcc c s.data.toList).1.toArray⟩,.str ⟨(qcc c s.data.toList).2.1.toArray⟩,.bool (qcc c s.data.toList).2.2]):=by
 refine qec (enters Tryz.func94 rfl (by decide +kernel)) fun vals w F hl hf hr=>?_;rw[qmn hr];obtain⟨m,hm⟩:=hl.len 0 (by kernel_rfl);have hc:=quZ c s.data.toList;refine(Tryz.strings_Cut s ⟨#[c]⟩ m w (by omega) hm).mono ?_;rintro e w' ⟨rfl,n,rfl⟩;have h2:(⟨#[c]⟩:ByteArray).data.toList = [c]:=rfl;rw[h2,hc];exact⟨_,rfl,⟨rfl,rfl,rfl,Nat.le_refl _,fun _ _=>rfl⟩,F,fun _ _=>rfl,hf,_,rfl,_,_,rfl,rfl,_,_,rfl,rfl,_,_,rfl,rfl,rfl⟩
def qcQ(l:List ByteArray):D:=.vs (l.map fun x=>[.str x])
theorem qjF{F:Nat->Nat}{w:World}{b:Nat}:∀ (l:List ByteArray) (off:Nat),(∀ i x,l[i]?=some x->off+i<F b/\w.cell? ⟨b,off+i,none⟩=some (.string x))->RepEs F w b off 1 (l.map fun x=>[D.str x])
 | [],_,_=>trivial
 | x::r,off,h=>by
  obtain⟨h1,h2⟩:=h 0 x rfl;exact⟨rfl,⟨h1,⟨_,h2,rfl⟩,trivial⟩,qjF r (off+1) fun i y hy=>by
   have:=h (i+1) y hy
   rwa [show off+(i+1)=off+1+i by omega]at this⟩
theorem qAz(s:ByteArray)(c:UInt8)(hs:s.size<=1000000000):FnV Tryz.prog 99 [.str s,.str ⟨#[c]⟩] (qcQ (qau c s)):=by
 refine qec (enters Tryz.func99 rfl (by decide +kernel)) fun vals w F hl hf hr=>?_;rw[qmn hr];obtain⟨m,hm⟩:=hl.len 0 (by kernel_rfl);refine(Tryz.strings_Split s ⟨#[c]⟩ m w (by omega) hm (Nat.le_refl 1)).mono ?_;rintro e w' ⟨rfl,rfl⟩;have hlen:=Lib.splitB_all ⟨#[c]⟩ (Nat.le_refl 1) 0 _ s rfl;rw[qse]at hlen ⊢;rw[<- hlen];generalize qau c s=l at hlen ⊢;have hne:l ≠ []:=by rintro rfl;simp at hlen
 refine⟨_,rfl,⟨rfl,rfl,rfl,by simp,fun b hb=>by show(w.heap.push _)[b]?=_;rw[Array.getElem?_push_lt hb,Array.getElem?_eq_getElem hb]⟩,fun b=>if b=w.heap.size then l.length else F b,fun b hb=>if_neg (by omega),fun b hb=>?_,_,_,_,rfl,by simp,Nat.le_refl _,fun _=>⟨_,0,1,rfl,Nat.one_pos,qjF l 0 fun i x hx=>?_⟩⟩
 ·have:(w.alloc (.cells (l.map Value.string).toArray 9)).heap.size=w.heap.size+1:=by simp
  show(if b=w.heap.size then l.length else F b)=0;rw[if_neg (by omega)];exact hf b (by omega)
 ·have hi:i<l.length:=(List.getElem?_eq_some_iff.1 hx).1
  refine⟨by simp;exact hi,?_⟩;rw[cell_of_row _ _ _ _ _ _ (heap_alloc_new w _)];simp[hx]
end Go.PX
namespace Go.PX
open Go.RowKit
structure FnX{σ:Type}(P:Program)(Y:Hd σ)(f:FuncId)(args:List V)(h:Heap)(s:σ)(Q:V->Heap->σ->Prop)(X:Value->Heap->σ->Prop):Prop where
 enter:∀ (vs:Array Value) (w:World),(callFunc f vs).run P w = .ok (.enter f vs) w
 run:∀ (cx:Cx σ),Handles P Y cx -> ∀ (L:Loc) (F:Nat->Nat) (vals:Array Value) (w:World),HeapOk cx L F h s w->RepVL cx.yv L F w args vals.toList ->
  CallsIn Fence.wide 0 P f vals w fun e w'=>(∃ x,e = .returned x /\ ∃ v h' s' L' F',Q v h' s'/\HeapOk cx L' F' h' s' w'/\RepV cx.yv L' F' w' v x/\Tr F w F' w'/\qfb L L') \/
   ∃ pv h' s' L' F',e = .panicked [{ v:=pv,recovered:=false }]/\X pv h' s'/\HeapOk cx L' F' h' s' w'/\Tr F w F' w'/\qfb L L'
def qwo(P:Program)(f:FuncId)(args:List V)(h:Heap)(Q:V->Heap->Prop)(X:Value->Heap->Prop):Prop:=
 ∀ {σ:Type} (Y:Hd σ) (s:σ),FnX P Y f args h s (fun v h' s'=>Q v h'/\s'=s) fun pv h' s'=>X pv h'/\s'=s
def qzd{σ:Type}(Y:Hd σ)(X:Value->Heap->σ->Prop):Hd σ:={ y:=Y.y,p:=fun pv _ h s=>RetA [] h s fun _ h' s'=>X pv h' s' }
section
variable {P : Program} {T : Tys} {σ : Type}
theorem qeC{cx:Cx σ}{L:Loc}{F0:Nat->Nat}{w0:World}{h:Heap}{s:σ}{fn:Func}{tmps:Array Value}{R:Ending->World->Prop}{ch:List PanicEntry}:∀ (m:List Nat) {F:Nat->Nat} {w:World},HeapOk cx L F h s w->Tr F0 w0 F w ->
  (∀ b∈m,w.heap[b]?=some (.deferred (some []))/\¬ cx.C s b)->m.Nodup->(∀ w',HeapOk cx L F h s w'->Tr F w F w'->R (.panicked ch) w') ->
  LeavesInM Fence.wide 0 P fn tmps R (m.map mark) (.panicking ch) w
 | [],F,w,hh,tr,hm,hn,hR=>by
  simp only[List.map_nil,LeavesInM,LeavesIn];exact hR w hh (Tr.refl F w)
 | b::m,F,w,hh,tr,hm,hn,hR=>by
  obtain⟨hb,hC⟩:=hm b (List.mem_cons_self ..);obtain⟨hh',tr'⟩:=hh.unmark hb hC;simp only[List.map_cons,LeavesInM];refine⟨by simp,.inl ⟨b,w.putObj b (.deferred none),rfl,?_,?_⟩⟩
  ·simp[Instr.takeDeferred,Sem.run_bind,getObj,setObj,Sem.run,hb,Result.andThen,World.putObj]
  ·have hnd:=List.nodup_cons.1 hn
   refine qeC m hh' (Tr.trans tr tr') (fun x hx=>?_) hnd.2 fun w' h1 h2=>hR w' h1 (Tr.trans tr' h2);have hxb:x≠b:=by rintro rfl;exact hnd.1 hx
   refine⟨?_,(hm x (List.mem_cons_of_mem _ hx)).2⟩;rw[<- (hm x (List.mem_cons_of_mem _ hx)).1];simp[World.putObj,Array.getElem?_setIfInBounds_ne (Ne.symm hxb)]
theorem qmo(hm:P.follows .mixedOrders=true)(hT:qU P T){Y:Hd σ}{f:FuncId}{fn:Func}{c:Code}(hf:P.funcs[f]?=some fn)(hb:fn.body=some c){ft:FT}{args:List V}(hok:fnB ft fn args.length=true)
  {h:Heap} {s:σ} {Q:V->Heap->σ->Prop} {X:Value->Heap->σ->Prop} (hw:wpA P T ft (qzd Y X) c ⟨jn 0 args,h,s⟩ (fnK T fn.results.toList Q)):FnX P Y f args h s Q X:=by
 unfold fnB at hok;rw[hb]at hok;simp only[Bool.and_eq_true,bne_iff_ne,ne_eq]at hok;obtain⟨⟨⟨⟨hcode,hdraws⟩,hnt⟩,hname⟩,hlen⟩:=hok;have hnt:=Nat.le_of_ble_eq_true hnt;have hlen:=Nat.le_of_ble_eq_true hlen;refine⟨fun vs w=>by simp[callFunc,hf,hname,hb,Go.mark],fun cx hY L F vals w hh hr=>?_⟩;have hvl:vals.size=args.length:=by simpa using hr.length
 have hsz:(vals++Array.replicate (fn.ntmps-vals.size) undef).size=fn.ntmps:=by simp;omega
 refine callsIn_of_wp_marks hf hb trivial ?_;have hg:Good { cx with pρ:=L.ρ,pκ:=L.κ,base:=[] } none [] L F ⟨jn 0 args,h,s⟩ { tmps:=vals++Array.replicate (fn.ntmps-vals.size) undef,defers:=[] } w:=by
  refine⟨⟨hh.hg,hh.csz,hh.fresh,hh.obj,hh.own,hh.inj⟩,fun t v ht=>?_,rfl,(fun b hb=>by cases hb),List.nodup_nil,(fun l hl=>by cases hl),fun _ _=>⟨rfl,rfl⟩,by rw[hsz];exact hnt⟩;obtain⟨k,hk,hv⟩:=qcE ht;rw[Nat.zero_add]at hk;subst hk;obtain⟨x,hx,hrx⟩:=hr.get t hv;refine⟨x,?_,hrx⟩;have hlt:t<vals.size:=by
   have:=(List.getElem?_eq_some_iff.1 hx).1;simpa using this
  rw[Array.getElem?_append_left hlt];simpa using hx
 have hY':Handles P (qzd Y X) { cx with pρ:=L.ρ,pκ:=L.κ,base:=[] }:=by
  refine⟨?_,hY.laid⟩;intro l hl args h s Q hy L' F' vals w hh' hr;obtain⟨fn,tmps,asg,body,h1,h2⟩:=hY.yld l hl args h s Q hy L' F' vals w ⟨hh'.hg,hh'.csz,hh'.fresh,hh'.obj,hh'.own,hh'.inj⟩ hr;refine⟨fn,tmps,asg,body,h1,h2.mono ?_⟩;rintro e w' ⟨x,he,v,h',s',L'',F'',hq,hh'',rest⟩;exact⟨x,he,v,h',s',L'',F'',hq,⟨hh''.hg,hh''.csz,hh''.fresh,hh''.obj,hh''.own,hh''.inj⟩,rest⟩
 have hwp:=zM hT c (qg hm hT hdraws) ⟨jn 0 args,h,s⟩ _ hw _ hY' none [] L F _ w hg (by rw[hsz];exact hcode);have hwp:c.wpIn Fence.wide 0 P _ { tmps:=vals++Array.replicate (fn.ntmps-vals.size) undef,defers:=[] } w:=hwp;refine wpIn_mono hwp fun ex a' w' hq=>?_;rcases hq with⟨e',st',m',L',F',rfl,hk,hg',tr,hs⟩|⟨pv,e',h',s',m',L',F',rfl,hy,hg',tr,hs⟩
 case inr=>
  show LeavesInM Fence.wide 0 P fn a'.tmps _ a'.defers (.panicking [{ v:=pv,recovered:=false }]) w';rw[hg'.dfr,List.append_nil];refine qeC m' hg'.heap tr hg'.mks hg'.mnd fun w'' hh'' tr''=>?_;obtain⟨hy⟩:=(show RetA [] h' s' (fun _ h' s'=>X pv h' s') from hy);obtain⟨v,h2,L2,F2,hx,hh2,_,tr2,pin2⟩:=hy cx L' F' [] w'' ⟨hh''.hg,hh''.csz,hh''.fresh,hh''.obj,hh''.own,hh''.inj⟩ rfl;refine .inr ⟨pv,h2,s',L2,F2,rfl,hx,hh2,Tr.trans tr (Tr.trans tr'' tr2),fun i hi=>?_⟩;obtain⟨p1,p2⟩:=pin2 i hi;obtain⟨p3,p4⟩:=hg'.pin i hi;exact⟨p1.trans p3,p2.trans p4⟩
 have fin:fnK T fn.results.toList Q .normal st'->LeavesInM Fence.wide 0 P fn a'.tmps (fun e w'=>(∃ x,e = .returned x /\ ∃ v h' s' L' F',Q v h' s'/\HeapOk cx L' F' h' s' w'/\RepV cx.yv L' F' w' v x/\Tr F w F' w'/\qfb L L') \/
   ∃ pv h' s' L' F',e = .panicked [{ v:=pv,recovered:=false }]/\X pv h' s'/\HeapOk cx L' F' h' s' w'/\Tr F w F' w'/\qfb L L') a'.defers .returning w':=by
  intro hk;rw[hg'.dfr,List.append_nil];refine qcl m' hg'.heap tr hg'.mks hg'.mnd fun w'' hh'' tr''=>?_;obtain⟨e1,h1,s1⟩:=st';have hk:quJ T e1 h1 fn.results.toList fun l=>RetA l h1 s1 Q:=hk;obtain⟨l,⟨hret⟩,hrun⟩:=qjj (P:=P) hT hk;have hg'':Good { cx with pρ:=L.ρ,pκ:=L.κ,base:=[] } none [] L' F' ⟨e1,h1,s1⟩ { a' with defers:=[] } w'':=by
   refine⟨hh'',fun t v ht=>?_,rfl,(fun b hb=>by cases hb),List.nodup_nil,(fun l hl=>by cases hl),hg'.pin,hg'.tsz⟩;obtain⟨x,hx,hrx⟩:=hg'.env t v ht;exact⟨x,hx,RepV.mono tr'' v x (fun _ _=>⟨rfl,rfl⟩) hrx⟩
  obtain⟨vals',hres,hrep⟩:=hrun hg'';obtain⟨v,h',L2,F2,hq,hh2,hr2,tr2,pin2⟩:=hret cx L' F' vals' w'' ⟨hh''.hg,hh''.csz,hh''.fresh,hh''.obj,hh''.own,hh''.inj⟩ hrep;refine⟨_,qbT hres,.inl ⟨_,rfl,v,h',s1,L2,F2,hq,hh2,hr2,Tr.trans tr (Tr.trans tr'' tr2),fun i hi=>?_⟩⟩;obtain⟨p1,p2⟩:=pin2 i hi;obtain⟨p3,p4⟩:=hg'.pin i hi;exact⟨p1.trans p3,p2.trans p4⟩
 cases e' with
 | normal=>exact fin hk
 | ret=>exact fin hk
 | exit i=>exact hk.elim
def qwZ(d:Option Nat)(e:Env):Env:=
 match d with
 | some d=>cut e d
 | none=>e
theorem qkK:∀ {e:Env} {d s:Nat} {v:V},get (cut e d) s=some v->s≠d/\get e s=some v
 | [],_,_,_,h=>by cases h
 | (k,u)::r,d,s,v,h=>by
  simp only[cut]at h;split at h
  ·rename_i hk
   obtain⟨h1,h2⟩:=qkK h;refine⟨h1,?_⟩;simp only[get];split
   ·rename_i hs
    have:=Nat.eq_of_beq_eq_true hk;have:=Nat.eq_of_beq_eq_true hs;omega
   ·exact h2
  ·rename_i hk
   simp only[get]at h ⊢;split at h
   ·rename_i hs
    refine⟨fun e=>?_,h⟩;subst e;rw[hs]at hk;cases hk
   ·exact qkK h
theorem Good.unput{cx:Cx σ}{r:Option Nat}{m:List Nat}{L:Loc}{F:Nat->Nat}{e:Env}{h:Heap}{s:σ}{a:Act}{w:World}{d:Option Nat}{x:Value}(hg:Good cx r m L F ⟨e,h,s⟩ (a.put d x) w):Good cx r m L F ⟨qwZ d e,h,s⟩ a w:=by
 refine⟨hg.heap,fun t v ht=>?_,?_,hg.mks,hg.mnd,hg.lk,hg.pin,?_⟩
 ·cases d with
  | none=>exact hg.env t v ht
  | some d=>
   obtain⟨h1,h2⟩:=qkK ht;obtain⟨y,h3,h4⟩:=hg.env t v h2;refine⟨y,?_,h4⟩;rw[<- h3];simp[Act.put,Array.getElem?_setIfInBounds_ne (Ne.symm h1)]
 ·have:=hg.dfr
  cases d<;>exact this
 ·have:=hg.tsz
  cases d<;>simpa[Act.put]using this
theorem qiw{Y:Hd σ}{f:FuncId}{args0:List V}{h0:Heap}{s:σ}{Q:V->Heap->σ->Prop}{X:Value->Heap->σ->Prop}(hf:FnX P Y f args0 h0 s Q X)(tb:List Nat){e:Env}{h:Heap}{d:Option Nat}{args:List V}{K:St σ->Prop}
  (hargs:qpJ (qaE tb (d.getD 0)) args0=args) (hlent:qcF (qaE tb (d.getD 0)) h 1000000 tb h0) (htb:qcm tb=true) (hln:Nat.ble tb.length 1000=true)
  (hq:∀ v h1 s',Q v h1 s'->qbU tb d v h1=true/\qP (zN tb d v h1) e h fun e h=>K ⟨e,h,s'⟩)
  (hx:∀ pv h1 s',X pv h1 s'->qbU tb d (.d (.tup [])) h1=true/\qP (zN tb d (.d (.tup [])) h1) e h fun e h=>Y.p pv (qwZ d e) h s'):CallA P Y ⟨e,h,s⟩ d f args K:=by
 refine⟨hf.enter,fun cx hY r m L F a w vals hg hd hr=>?_⟩;have htb:=qas htb;have hln:=Nat.le_of_ble_eq_true hln;obtain⟨R,hR⟩:∃ R,R=qaE tb (d.getD 0):=⟨_,rfl⟩;have Rlent:∀ k id,tb[k]?=some id->R (1000000+k)=id:=fun k id hk=>by rw[hR];exact qei hk hln
 rw[<- hR]at hargs hlent;subst hargs;have hh:qaF h (St.mk e h s).heap:=fun _ _ h=>h;have hH:=qhS hh hlent Rlent htb hg;have hH0:HeapOk (qoy cx s w F (qnl R L h0)) ⟨fun i=>L.ρ (R i),fun i=>L.κ (R i)⟩ F h0 s w:=
  ⟨⟨hg.heap.hg,Nat.le_refl _,fun b hb hc=>hc,fun b hb hl hc=>⟨rfl,rfl⟩⟩,fun b hb=>hb.elim (hg.heap.csz b) (fun h=>h.1),hH.fresh,hH.obj,fun i o hi hbk=>⟨(hH.own i o hi hbk).1,fun hC=>hC.elim (hH.own i o hi hbk).2 fun hC=>hC.2 ⟨i,o,hi,hbk,rfl⟩⟩,hH.inj⟩
 have hargs':RepVL cx.yv ⟨fun i=>L.ρ (R i),fun i=>L.κ (R i)⟩ F w args0 vals.toList:=(RepVL.ren (R:=R) args0 _ fun _ _=>⟨rfl,rfl⟩).1 hr;have hcall:=hf.run _ (qcu hY) _ F vals w hH0 hargs';refine hcall.mono ?_;rintro en w' (⟨x,rfl,v,h',s',L',F',hq',hH',hv,tr,pin⟩|⟨pv,h',s',L',F',rfl,hx',hH',tr,pin⟩)
 ·obtain⟨hB,hk⟩:=hq _ _ _ hq'
  obtain⟨hHG,_,hCn,hkeep⟩:=hH'.hg;obtain⟨L2,hg2⟩:=qek hB hR.symm hh hlent hg hd hHG (fun b hb=>hH'.csz b (.inl hb)) (fun b hb hl hc=>hCn b hb hc) hkeep hH'.fresh hH'.obj
   (fun i o hi hb=>⟨(hH'.own i o hi hb).1,fun hC=>(hH'.own i o hi hb).2 (.inl hC),fun hlt=>Classical.byContradiction fun hl=>(hH'.own i o hi hb).2 (.inr ⟨hlt,hl⟩)⟩)
   hH'.inj hv tr pin
  rw[zy s']at hk;have hs2:(qx (⟨e,h,s'⟩:St σ) (zN tb d v h')).s=s':=jb _ _;refine .inl ⟨x,rfl,_,L2,F',?_,hg2,tr⟩;generalize qx (⟨e,h,s'⟩:St σ) (zN tb d v h')=st2 at hk hs2;obtain⟨e2,h2,s2⟩:=st2;simp only at hs2;subst hs2;exact hk
 ·obtain⟨hB,hk⟩:=hx _ _ _ hx'
  obtain⟨hHG,_,hCn,hkeep⟩:=hH'.hg;obtain⟨L2,hg2⟩:=qek (v:=.d (.tup [])) (x:=.tuple #[]) hB hR.symm hh hlent hg hd hHG (fun b hb=>hH'.csz b (.inl hb)) (fun b hb hl hc=>hCn b hb hc) hkeep hH'.fresh hH'.obj
   (fun i o hi hb=>⟨(hH'.own i o hi hb).1,fun hC=>(hH'.own i o hi hb).2 (.inl hC),fun hlt=>Classical.byContradiction fun hl=>(hH'.own i o hi hb).2 (.inr ⟨hlt,hl⟩)⟩)
   hH'.inj ⟨#[],rfl,rfl⟩ tr pin
  rw[zy s']at hk;have hs2:(qx (⟨e,h,s'⟩:St σ) (zN tb d (.d (.tup [])) h')).s=s':=jb _ _;generalize qx (⟨e,h,s'⟩:St σ) (zN tb d (.d (.tup [])) h')=st2 at hk hs2 hg2;obtain⟨e2,h2,s2⟩:=st2;simp only at hs2;subst hs2;exact .inr ⟨pv,qwZ d e2,h2,s2,L2,F',rfl,hk,hg2.unput,tr⟩
end
end Go.PX
namespace Go.PX
open Go.Proofs
open Go.RowKit
def qkL:Value:=.iface 27 (.int .i64 6)
theorem FnU.ofX{P:Program}{f:FuncId}{args:List V}{h:Heap}{Q:V->Heap->Prop}{X:Value->Heap->Prop}(hf:qwo P f args h Q X)(hx:∀ v h,¬ X v h):FnU P f args h Q:=by
 intro σ Y s;obtain⟨h1,h2⟩:=hf Y s;refine⟨h1,fun cx hY L F vals w hh hr=>(h2 cx hY L F vals w hh hr).mono ?_⟩;rintro e w' (h3|⟨pv,h',s',L',F',he,hx',_⟩)
 ·exact h3
 ·exact absurd hx'.1 (hx _ _)
theorem qAA(b:Bool):qwo Tryz.prog 96 [.d (.bool b)] [] (fun v h'=>b=true/\v = .d (.tup [])/\h' = []) (fun pv h'=>b=false/\pv=qkL/\h' = []):=by
 intro σ Y st;refine qmo mixed qm Tryz.func96 rfl (ft:=qyY) (args:=[.d (.bool b)]) (show fnB qyY Tryz.f96 1=true from by decide +kernel) ?_
 cases b with
 | true=>
  conv=>whnf
  exact qA [] [] [] rfl trivial rfl ⟨⟨rfl,rfl,rfl⟩,rfl⟩
 | false=>
  conv=>whnf
  exact qA [] [] [] rfl trivial rfl ⟨⟨rfl,rfl,rfl⟩,rfl⟩
theorem qan{σ:Type}{Y:Hd σ}{e:Env}{h:Heap}{s:σ}{d:Option Nat}{b:Bool}{K:St σ->Prop}(hd:qbU [] d (.d (.tup [])) []=true)
  (ht:b=true->qP (zN [] d (.d (.tup [])) []) e h fun e h=>K ⟨e,h,s⟩) (hf:b=false->qP (zN [] d (.d (.tup [])) []) e h fun e h=>Y.p qkL (qwZ d e) h s):CallA Tryz.prog Y ⟨e,h,s⟩ d 96 [.d (.bool b)] K:=by
 refine qiw (qAA b Y s) [] rfl rfl rfl rfl ?_ ?_
 ·rintro v h1 s' ⟨⟨hb,rfl,rfl⟩,rfl⟩
  exact⟨hd,ht hb⟩
 ·rintro pv h1 s' ⟨⟨hb,rfl,rfl⟩,rfl⟩
  exact⟨hd,hf hb⟩
def qxa(s:ByteArray):Int:=
 match Lib.atoiAll s.data.toList with
 | .range=>Lib.atoiSat s.data.toList
 | _=>0
theorem qsf(s:ByteArray)(hs:s.size<=1000000000)(h:jV s=none):FnV Tryz.prog 125 [.str s] (.tup [i64 (qxa s),.ifc 218 (.ref [])]):=by
 refine qec (enters Tryz.func125 rfl (by decide +kernel)) fun vals w F hl hf hr=>?_;rw[qoX hr];obtain⟨t1,v1,hs1⟩:=hl.syn 1 (by kernel_rfl);obtain⟨t2,v2,hs2⟩:=hl.rng 2 (by kernel_rfl);rcases hA:Lib.atoiAll s.data.toList with v|_|_
 ·unfold jV at h
  rw[hA]at h;cases h
 ·have hsat:qxa s=0:=by unfold qxa;rw[hA]
  rw[hsat];refine(Any.strconv_Atoi_syntax Tryz.laysC172 s (by omega) hA _ w hs1 (.inr ⟨_,_,rfl⟩)).mono ?_;rintro e w' ⟨N,rfl,hN,hblk,hb⟩;exact⟨_,rfl,Grown.of hb,F,fun _ _=>rfl,fun b hb'=>hf b (Nat.le_trans hb.size hb'),_,rfl,_,_,rfl,rfl,_,_,rfl,⟨_,rfl,_,_,rfl,trivial⟩,rfl⟩
 ·have hsat:qxa s=Lib.atoiSat s.data.toList:=by unfold qxa;rw[hA]
  rw[hsat];refine(Any.strconv_Atoi_range Tryz.laysC172 s (by omega) hA _ w hs2 (.inr ⟨_,_,rfl⟩)).mono ?_;rintro e w' ⟨N,rfl,hN,hblk,hb⟩;exact⟨_,rfl,Grown.of hb,F,fun _ _=>rfl,fun b hb'=>hf b (Nat.le_trans hb.size hb'),_,rfl,_,_,rfl,rfl,_,_,rfl,⟨_,rfl,_,_,rfl,trivial⟩,rfl⟩
theorem qze(s:ByteArray)(hs:s.size<=1000000000):qwo Tryz.prog 97 [.d (.str s)] [] (fun v h'=>∃ n,jV s=some n/\v = .d (i64 n)/\h' = []) (fun pv h'=>jV s=none/\pv=qkL/\h' = []):=by
 intro σ Y st;refine qmo mixed qm Tryz.func97 rfl (ft:=qyZ) (args:=[.d (.str s)]) (show fnB qyZ Tryz.f97 1=true from by decide +kernel) ?_;conv=>whnf
 cases hA:jV s with
 | some n=>
  refine qk (qyv s n hs hA) rfl rfl ?_;conv=>whnf
  refine qan rfl (fun _=>?_) (fun h=>by cases h);conv=>whnf
  exact qA [] [.d (i64 n)] [] rfl trivial rfl ⟨⟨n,rfl,rfl,rfl⟩,rfl⟩
 | none=>
  refine qk (qsf s hs hA) rfl rfl ?_;conv=>whnf
  refine qan rfl (fun h=>by cases h) (fun _=>?_);conv=>whnf
  exact qA [] [] [] rfl trivial rfl ⟨⟨rfl,rfl,rfl⟩,rfl⟩
end Go.PX
namespace Go.PX
open Go.Proofs
def spB:ByteArray:=⟨#[32]⟩
def nlB:ByteArray:=⟨#[10]⟩
inductive Wd where
 | s (b:ByteArray)
 | n (k:Int)
def Wd.d:Wd->D
 | .s b=>.ifc 9 (.str b)
 | .n k=>.ifc 3 (i64 k)
def Wd.b:Wd->ByteArray
 | .s b=>b
 | .n k=>qnF k
def qgU:List Wd->ByteArray
 | []=>.empty
 | w::r=>(spB++w.b)++qgU r
def qfF:List Wd->ByteArray
 | []=>.empty
 | w::r=>w.b++qgU r
def rowT(l:List Wd):ByteArray:=qfF l++nlB
def qpZ(l:List Wd):D:=.vs (l.map fun w=>[w.d])
def qmp:Wd->Prop
 | .s b=>b.size<=1000
 | .n k=>-1000000000000000000<=k/\k<=1000000000000000000
theorem qal(a b c:ByteArray):a++b++c=a++(b++c):=by simp[ByteArray.append_assoc]
theorem zj(a b:ByteArray):(a++b).size=a.size+b.size:=by simp
theorem qxb(a:ByteArray):a++ByteArray.empty=a:=by simp
theorem qeW{w:Wd}(h:qmp w):w.b.size<=1000:=by
 cases w with
 | s b=>exact h
 | n k=>have:=qsc k;show(qnF k).size<=1000;omega
theorem qfG:∀ {l:List Wd},(∀ w∈l,qmp w)->(qgU l).size<=1001*l.length
 | [],_=>Nat.zero_le _
 | w::r,h=>by
  have h1:=qfG (l:=r) fun x hx=>h x (List.mem_cons_of_mem _ hx);have h2:=qeW (h w (List.mem_cons_self ..));have h3:spB.size=1:=rfl;rw[qgU,zj,zj,List.length_cons];omega
theorem qoY(b:ByteArray)(h0:0<b.size)(hm:b.size+1<=140737488355328):FnU Tryz.prog 118 [.ptr 1000000 0,.d (.int .u8 32)] (qgT 1000000 1000001 b) fun v h'=>v = .d .nili/\h'=qgT 1000000 2000000 (b++⟨#[32]⟩):=by
 intro σ Y st;refine qaT mixed qm Tryz.func118 rfl (ft:=qtD) (args:=[.ptr 1000000 0,.d (.int .u8 32)]) (show fnB qtD Tryz.f118 2=true from by decide +kernel) ?_;conv=>whnf
 refine qT (qgn b) [1000000,1000001] rfl ⟨_,_,rfl,rfl,_,_,rfl,rfl,rfl⟩ rfl ?_;conv=>whnf
 refine zx (by simp[h0];exact hm) ?_;conv=>whnf
 exact qA [14] [.d .nili] (qgT 1000000 2000000 (b++⟨#[32]⟩)) rfl ⟨rfl,rfl,trivial⟩ rfl ⟨⟨rfl,rfl⟩,rfl⟩
theorem qtU(b:ByteArray)(h0:0<b.size)(l:List Wd)(hl:l.length<=10)(hw:∀ w∈l,qmp w)(hb:b.size<=1000000000)(hne:l ≠ []) :
  FnU Tryz.prog 117 [.d (qpZ l),.ptr 1000000 0] (qgT 1000000 1000001 b) fun v h'=>v = .d (.tup [])/\h'=qgT 1000000 2000000 (b++rowT l):=by
 intro σ Y st;refine qaT mixed qm Tryz.func117 rfl (ft:=qtC) (args:=[.d (qpZ l),.ptr 1000000 0]) (show fnB qtC Tryz.f117 2=true from by decide +kernel) ?_;conv=>whnf
 generalize hT:b++qfF l=tot;have hts:tot.size<=1000020000:=by
  rw[<- hT,zj]
  cases l with
  | nil=>exact absurd rfl hne
  | cons w r=>
   have h1:=qeW (hw w (List.mem_cons_self ..));have h2:=qfG fun x hx=>hw x (List.mem_cons_of_mem w hx);rw[qfF,zj];rw[List.length_cons]at hl;omega
 refine zd (T:=tys) qm (by exact qg mixed qm (by decide +kernel)) l (fun i (acc:ByteArray)=>⟨[(1,.ptr 1000000 0),(7,.d (qpZ l)),(8,.d (i64 l.length)),(9,.d (i64 i))],qgT 1000000 900000 acc,st⟩) (fun i r acc=>acc++(if i=0 then qfF r else qgU r)=tot/\0<acc.size) b ?_ ⟨hT,h0⟩ ?_ ?_
 ·exact(Wk.move 1000001 900000 rfl rfl).trans (Wk.sub (by repeat' first|constructor|(simp only[List.length_map];rfl)|simp[PX.get]) (by repeat' first|constructor|(simp only[List.length_map];rfl)|simp[PX.get]))
 ·rintro i w r acc hx hi hir ⟨hacc,ha⟩
  have hwo:=hw w (List.mem_of_getElem? hx);have hws:=qeW hwo;have hras:acc.size<=tot.size:=by rw[<- hacc,zj];omega
  conv=>whnf
  refine qj (fun _=>?_) (fun h=>absurd hi (by simpa using h));conv=>whnf
  refine qt hx ?_;conv=>whnf
  refine qj (fun h1=>?_) (fun h1=>?_)
  ·have h1:0<i:=by have:=of_decide_eq_true h1;omega
   rw[if_neg (by omega),qgU]at hacc;conv=>whnf
   refine CallA.wkK ?_;refine qT (qoY acc ha (by omega)) [1000000,900000] rfl ⟨_,_,rfl,rfl,_,_,rfl,rfl,rfl⟩ rfl ?_;refine⟨⟨[(1,.ptr 1000000 0),(7,.d (qpZ l)),(8,.d (i64 l.length)),(9,.d (i64 i)),(3,.d (i64 i)),(4,.d w.d)],qgT 1000000 900000 (acc++(⟨#[32]⟩:ByteArray)),st⟩,(Wk.move 101024 900000 rfl rfl).trans (Wk.sub (by repeat' first|constructor|(simp only[List.length_map];rfl)|simp[PX.get]) (by repeat' first|constructor|(simp only[List.length_map];rfl)|simp[PX.get])),?_⟩
   cases w with
   | s x=>
    have hws:x.size<=1000:=hws;conv=>whnf
    refine qT (qpY (acc++(⟨#[32]⟩:ByteArray)) x (by rw[zj];omega) (by have:(⟨#[32]⟩:ByteArray).size=1:=rfl;rw[zj];omega)) [1000000,900000] rfl ⟨_,_,rfl,rfl,_,_,rfl,rfl,rfl⟩ rfl ?_;conv=>whnf
    refine qn (((i+1:Nat):Int)) (by(try dsimp only);omega) (qb (by(try dsimp only);omega)) ?_;conv=>whnf
    exact⟨(acc++(⟨#[32]⟩:ByteArray))++x,⟨by rw[<- hacc,if_neg (by omega)];simp only[qal];rfl,by simp only[zj];omega⟩,(Wk.move 101408 900000 rfl rfl).trans (Wk.sub (by repeat' first|constructor|(simp only[List.length_map];rfl)|simp[PX.get]) (by repeat' first|constructor|(simp only[List.length_map];rfl)|simp[PX.get]))⟩
   | n k=>
    have hws:(qnF k).size<=1000:=hws;conv=>whnf
    refine qk (qvK k hwo) rfl rfl ?_;conv=>whnf
    refine qT (qpY (acc++(⟨#[32]⟩:ByteArray)) (qnF k) (by rw[zj];omega) (by have:(⟨#[32]⟩:ByteArray).size=1:=rfl;rw[zj];omega)) [1000000,900000] rfl ⟨_,_,rfl,rfl,_,_,rfl,rfl,rfl⟩ rfl ?_;conv=>whnf
    refine qn (((i+1:Nat):Int)) (by(try dsimp only);omega) (qb (by(try dsimp only);omega)) ?_;conv=>whnf
    exact⟨(acc++(⟨#[32]⟩:ByteArray))++qnF k,⟨by rw[<- hacc,if_neg (by omega)];simp only[qal];rfl,by simp only[zj];omega⟩,(Wk.move 101792 900000 rfl rfl).trans (Wk.sub (by repeat' first|constructor|(simp only[List.length_map];rfl)|simp[PX.get]) (by repeat' first|constructor|(simp only[List.length_map];rfl)|simp[PX.get]))⟩
  ·have h1:i=0:=by have:=of_decide_eq_false h1;omega
   subst h1;rw[if_pos rfl,qfF]at hacc
   cases w with
   | s x=>
    have hws:x.size<=1000:=hws;conv=>whnf
    refine qT (qpY acc x ha (by omega)) [1000000,900000] rfl ⟨_,_,rfl,rfl,_,_,rfl,rfl,rfl⟩ rfl ?_;conv=>whnf
    refine qn (((0+1:Nat):Int)) (by(try dsimp only);omega) (qb (by(try dsimp only);omega)) ?_;conv=>whnf
    exact⟨acc++x,⟨by rw[<- hacc,if_neg (by omega)];simp only[qal];rfl,by simp only[zj];omega⟩,(Wk.move 101408 900000 rfl rfl).trans (Wk.sub (by repeat' first|constructor|(simp only[List.length_map];rfl)|simp[PX.get]) (by repeat' first|constructor|(simp only[List.length_map];rfl)|simp[PX.get]))⟩
   | n k=>
    have hws:(qnF k).size<=1000:=hws;conv=>whnf
    refine qk (qvK k hwo) rfl rfl ?_;conv=>whnf
    refine qT (qpY acc (qnF k) ha (by omega)) [1000000,900000] rfl ⟨_,_,rfl,rfl,_,_,rfl,rfl,rfl⟩ rfl ?_;conv=>whnf
    refine qn (((0+1:Nat):Int)) (by(try dsimp only);omega) (qb (by(try dsimp only);omega)) ?_;conv=>whnf
    exact⟨acc++qnF k,⟨by rw[<- hacc,if_neg (by omega)];simp only[qal];rfl,by simp only[zj];omega⟩,(Wk.move 101792 900000 rfl rfl).trans (Wk.sub (by repeat' first|constructor|(simp only[List.length_map];rfl)|simp[PX.get]) (by repeat' first|constructor|(simp only[List.length_map];rfl)|simp[PX.get]))⟩
 ·rintro acc ⟨hacc,ha⟩
  have hacc:acc=tot:=by
   rw[<- hacc];split<;>simp[qfF,qgU]
  subst hacc;conv=>whnf
  refine qj (fun h=>absurd h (by simp)) (fun _=>?_);conv=>whnf
  refine qT (qwX acc ha (by omega)) [1000000,900000] rfl ⟨_,_,rfl,rfl,_,_,rfl,rfl,rfl⟩ rfl ?_;conv=>whnf
  have he:b++rowT l=acc++nlB:=by rw[rowT,<- qal,hT]
  rw[he];exact qA [101920] [] (qgT 1000000 2000000 (acc++nlB)) rfl ⟨rfl,rfl,trivial⟩ rfl ⟨⟨rfl,rfl⟩,rfl⟩
def qAB(acc:Option ByteArray):Heap:=match acc with
 | none=>qwV 1000000
 | some b=>qgT 1000000 900000 b
theorem qsg(x:ByteArray)(hx0:0<x.size)(l:List Wd)(hl:l.length<=9)(hw:∀ w∈Wd.s x::l,qmp w) :
  FnU Tryz.prog 117 [.d (qpZ (.s x::l)),.ptr 1000000 0] (qwV 1000000) fun v h'=>v = .d (.tup [])/\h'=qgT 1000000 2000000 (rowT (.s x::l)):=by
 intro σ Y st;refine qaT mixed qm Tryz.func117 rfl (ft:=qtC) (args:=[.d (qpZ (.s x::l)),.ptr 1000000 0]) (show fnB qtC Tryz.f117 2=true from by decide +kernel) ?_;conv=>whnf
 generalize hT:qfF (.s x::l)=tot;generalize hL:Wd.s x::l=L at hw;have hLl:L.length<=10:=by rw[<- hL,List.length_cons];omega
 have hL0:L[0]?=some (.s x):=by rw[<- hL];rfl
 have hts:tot.size<=1000020000:=by
  rw[<- hT];have h1:=qeW (hw (.s x) (by rw[<- hL];simp));have h2:=qfG (l:=l) fun y hy=>hw y (by rw[<- hL];simp[hy]);rw[qfF,zj];omega
 have hrow:rowT L=tot++nlB:=by rw[<- hL,rowT,hT]
 have hstart:x++qgU (L.drop 1)=tot:=by rw[<- hL,<- hT];rfl
 rw[hrow]
 refine zI (T:=tys) qm (by exact qg mixed qm (by decide +kernel)) (α:=Nat×Option ByteArray) (fun z=>⟨[(1,.ptr 1000000 0),(7,.d (qpZ L)),(8,.d (i64 L.length)),(9,.d (i64 z.1))],qAB z.2,st⟩) (fun z=>z.1<=L.length/\match z.2 with
  | none=>z.1=0
  | some acc=>0<z.1/\acc++qgU (L.drop z.1)=tot/\0<acc.size) (fun z=>L.length-z.1) (0,none) ?_ ⟨Nat.zero_le _,rfl⟩ ?_
 ·exact Wk.sub ⟨rfl,rfl,congrArg (fun z:Nat=>some (V.d (i64 z))) (by simp),rfl,trivial⟩ ⟨rfl,trivial⟩
 rintro ⟨i,o⟩ ⟨hi,hacc⟩
 cases o with
 | none=>
  have hi0:i=0:=hacc;have hLi:L[i]?=some (.s x):=by rw[hi0];exact hL0
  have hil:=(List.getElem?_eq_some_iff.1 hLi).1;have hws:x.size<=1000:=qeW (hw (.s x) (List.mem_of_getElem? hL0));have hstart2:x++qgU (L.drop (i+1))=tot:=by rw[hi0];exact hstart
  conv=>whnf
  refine qj (fun _=>?_) (fun h=>absurd hil (by simpa using h));conv=>whnf
  refine qt hLi ?_;conv=>whnf
  refine qj (fun h=>absurd h (by simp;omega)) (fun _=>?_);conv=>whnf
  refine qT (qsb x hx0 (by omega)) [1000000] rfl ⟨_,_,rfl,rfl,rfl⟩ rfl ?_;conv=>whnf
  refine qn (((i+1:Nat):Int)) (by(try dsimp only);omega) (qb (by(try dsimp only);omega)) ?_;conv=>whnf
  exact⟨(i+1,some x),by simp only;omega,⟨by simp only;omega,Nat.succ_pos i,hstart2,hx0⟩,(Wk.move 101408 900000 rfl rfl).trans (Wk.sub (by repeat' first|constructor|(simp only[List.length_map];rfl)|simp[PX.get]) (by repeat' first|constructor|(simp only[List.length_map];rfl)|simp[PX.get]))⟩
 | some acc=>
  obtain⟨h0,hacc,ha⟩:=hacc;simp only at h0 hacc ha hi;have hras:acc.size<=tot.size:=by rw[<- hacc,zj];omega
  conv=>whnf
  refine qj (fun h1=>?_) (fun h1=>?_)
  ·have h1:i<L.length:=by have:=of_decide_eq_true h1;omega
   obtain⟨w,hx⟩:∃ w,L[i]?=some w:=⟨_,List.getElem?_eq_getElem h1⟩;have hdr:L.drop i=w::L.drop (i+1):=by
    rw[List.drop_eq_getElem_cons h1];rw[List.getElem?_eq_getElem h1]at hx;rw[Option.some.inj hx]
   rw[hdr,qgU]at hacc;have hwo:=hw w (List.mem_of_getElem? hx);have hws:=qeW hwo;conv=>whnf
   refine qt hx ?_;conv=>whnf
   refine qj (fun _=>?_) (fun h=>absurd h (by simp;omega));conv=>whnf
   refine CallA.wkK ?_;refine qT (qoY acc ha (by omega)) [1000000,900000] rfl ⟨_,_,rfl,rfl,_,_,rfl,rfl,rfl⟩ rfl ?_;refine⟨⟨[(1,.ptr 1000000 0),(7,.d (qpZ L)),(8,.d (i64 L.length)),(9,.d (i64 i)),(3,.d (i64 i)),(4,.d w.d)],qgT 1000000 900000 (acc++(⟨#[32]⟩:ByteArray)),st⟩,(Wk.move 101024 900000 rfl rfl).trans (Wk.sub (by repeat' first|constructor|(simp only[List.length_map];rfl)|simp[PX.get]) (by repeat' first|constructor|(simp only[List.length_map];rfl)|simp[PX.get])),?_⟩
   cases w with
   | s y=>
    have hws:y.size<=1000:=hws;conv=>whnf
    refine qT (qpY (acc++(⟨#[32]⟩:ByteArray)) y (by rw[zj];omega) (by have:(⟨#[32]⟩:ByteArray).size=1:=rfl;rw[zj];omega)) [1000000,900000] rfl ⟨_,_,rfl,rfl,_,_,rfl,rfl,rfl⟩ rfl ?_;conv=>whnf
    refine qn (((i+1:Nat):Int)) (by(try dsimp only);omega) (qb (by(try dsimp only);omega)) ?_;conv=>whnf
    exact⟨(i+1,some ((acc++(⟨#[32]⟩:ByteArray))++y)),by simp only;omega,⟨by simp only;omega,by simp only;omega,by rw[<- hacc];simp only[qal];rfl,by simp only[zj];omega⟩,(Wk.move 101408 900000 rfl rfl).trans (Wk.sub (by repeat' first|constructor|(simp only[List.length_map];rfl)|simp[PX.get]) (by repeat' first|constructor|(simp only[List.length_map];rfl)|simp[PX.get]))⟩
   | n k=>
    have hws:(qnF k).size<=1000:=hws;conv=>whnf
    refine qk (qvK k hwo) rfl rfl ?_;conv=>whnf
    refine qT (qpY (acc++(⟨#[32]⟩:ByteArray)) (qnF k) (by rw[zj];omega) (by have:(⟨#[32]⟩:ByteArray).size=1:=rfl;rw[zj];omega)) [1000000,900000] rfl ⟨_,_,rfl,rfl,_,_,rfl,rfl,rfl⟩ rfl ?_;conv=>whnf
    refine qn (((i+1:Nat):Int)) (by(try dsimp only);omega) (qb (by(try dsimp only);omega)) ?_;conv=>whnf
    exact⟨(i+1,some ((acc++(⟨#[32]⟩:ByteArray))++qnF k)),by simp only;omega,⟨by simp only;omega,by simp only;omega,by rw[<- hacc];simp only[qal];rfl,by simp only[zj];omega⟩,(Wk.move 101792 900000 rfl rfl).trans (Wk.sub (by repeat' first|constructor|(simp only[List.length_map];rfl)|simp[PX.get]) (by repeat' first|constructor|(simp only[List.length_map];rfl)|simp[PX.get]))⟩
  ·have h1:¬ i<L.length:=by have:=of_decide_eq_false h1;omega
   rw[List.drop_eq_nil_of_le (by omega)]at hacc;have hacc:acc=tot:=by rw[<- hacc];simp[qgU]
   subst hacc;conv=>whnf
   refine qT (qwX acc ha (by omega)) [1000000,900000] rfl ⟨_,_,rfl,rfl,_,_,rfl,rfl,rfl⟩ rfl ?_;conv=>whnf
   exact qA [101920] [] (qgT 1000000 2000000 (acc++nlB)) rfl ⟨rfl,rfl,trivial⟩ rfl ⟨⟨rfl,rfl⟩,rfl⟩
theorem qcR{l:PLog}(h:qE l=0){b:PBook}(hb:b∈l.books):(-720<=b.off.lo/\b.off.lo<=b.off.hi/\b.off.hi<=720)/\(-720<=b.set.lo/\b.set.lo<=b.set.hi/\b.set.hi<=720)/\b.ents.length<=8 /\ ∀ x∈b.ents,EntR x:=by
 obtain⟨h1,h2,h3⟩:=qfE.1 h;obtain⟨k,hk⟩:=List.getElem?_of_mem hb;obtain⟨h4,h5⟩:=h3 k b hk;have h4:=qis.1 h4;exact⟨h4.off,h4.set,h4.ents,fun x hx=>qoV.1 (h5 x hx)⟩
theorem qtV{l:PLog}{w w':Int}(hw:w<=w'){conf:List Int}(h:jW l w conf=true):jW l w' conf=true:=by
 obtain⟨t,h⟩:=qbu.1 h;exact qbu.2 ⟨t,h.right,fun i b hb=>by have:=h.off i b hb;omega,fun i b n hb h1 h2=>by have:=h.set i b n hb h1 h2;omega,h.ord,h.rep⟩
theorem qkM{does:Int->Bool}(hm:∀ a b,a<=b->does a=true->does b=true):∀ (k:Nat) {lo hi:Int},lo<hi->hi-lo<=2^k->does hi=true->(∀ w,w<=lo->0<=w->does w=false) ->
  lo<jQ does k lo hi/\jQ does k lo hi<=hi/\does (jQ does k lo hi)=true /\ ∀ w,0<=w->w<jQ does k lo hi->does w=false
 | 0,lo,hi,h1,h2,h3,h4=>by
  rw[jQ];refine⟨h1,Int.le_refl _,h3,fun w hw0 hw=>h4 w ?_ hw0⟩;have:hi-lo<=1:=by simpa using h2
  omega
 | k+1,lo,hi,h1,h2,h3,h4=>by
  rw[jQ];have h5:(2:Int)^(k+1)=2^k*2:=Int.pow_succ 2 k;rw[h5]at h2;split
  ·rename_i h6
   split
   ·rename_i h7
    have:=qkM hm k (lo:=lo) (hi:=(lo+hi)/2) (by omega) (by omega) h7 h4;exact⟨this.1,by omega,this.2.2⟩
   ·rename_i h7
    have h7:does ((lo+hi)/2)=false:=by simpa using h7
    have:=qkM hm k (lo:=(lo+hi)/2) (hi:=hi) (by omega) (by omega) h3 (fun w hw hw0=>by
     cases hd:does w with
     | false=>rfl
     | true=>rw[hm w _ hw hd]at h7;cases h7)
    exact⟨by omega,this.2.1,this.2.2⟩
  ·rename_i h6
   exact⟨h1,Int.le_refl _,h3,fun w hw0 hw=>h4 w (by omega) hw0⟩
theorem qvM{l:PLog}(h:qE l=0)(hf:jW l 1048576 []=true):0<=(qca l).1/\(qca l).1<=1048576/\(qca l).2=0/\jW l (qca l).1 []=true /\ ∀ w,0<=w->w<(qca l).1->jW l w []=false:=by
 have e:qca l=(jQ (fun w=>jW l w []) 40 (-1) 1048576,0):=by
  unfold qca;rw[if_pos h,if_pos hf]
 have:=qkM (does:=fun w=>jW l w []) (fun a b hab ha=>qtV hab ha) 40 (lo:=-1) (hi:=1048576) (by omega) (by decide) hf (fun w hw hw0=>by omega);rw[e];exact⟨by simp only;omega,this.2.1,rfl,this.2.2⟩
def qu(l:List zu):List (List D):=l.map qwP
def zP(l:List (List Per)):List (List D):=l.map fun r=>[.vs (r.map Per.cells)]
def lkH(l:PLog)(wider:Int)(K:Nat)(steps:List zu)(pers:List (List Per))(many:Int):Heap:=
 [(1000000,.box (.vv [.ptr 1000002 0])),(1000001,.box (.dd [i64 wider])),(1000002,.box (.vv [.d (i64 l.near),.d (qS l.books),.sl K 5 0 steps.length,.sl 1000004 1 0 pers.length,.d (i64 many)])),(K,.arr 5 (.dd (qu steps))),(1000004,.arr 1 (.dd (zP pers)))]
theorem qqa(l:PLog)(wider:Int)(hw:0<=wider/\wider<=1048576)(steps:List zu)(hs:steps.length<=1000)(pers:List (List Per))(many:Int)(hm:0<=many/\many<=1000)(p:Per)(s:Span)(hsp : -720<=s.lo/\s.lo<=s.hi/\s.hi<=720) :
  FnU Tryz.prog 112 [.d p.d,.d s.d,.ptr 1000000 0,.ptr 1000001 0] (lkH l wider 1000003 steps pers many) fun v h'=>v = .d (.tup [])/\h'=lkH l wider 2000000 (steps++jh wider p s) pers (many+1):=by
 intro σ Y st;refine qaT mixed qm Tryz.func112 rfl (ft:=qwF) (args:=[.d p.d,.d s.d,.ptr 1000000 0,.ptr 1000001 0]) (show fnB qwF Tryz.f112 4=true from by decide +kernel) ?_;conv=>whnf
 refine qe (qb (by(try dsimp only);omega)) ?_;conv=>whnf
 refine qq (ds:=[]) qtP rfl rfl ?_;conv=>whnf
 refine qe (qb (by(try dsimp only);omega)) ?_;conv=>whnf
 refine qq (ds:=[]) qtP rfl rfl ?_;conv=>whnf
 refine qe (qb (by(try dsimp only);omega)) ?_;conv=>whnf
 refine ql rfl ?_;conv=>whnf
 refine ql (by simp[Els.len,qu]) ?_;conv=>whnf
 refine zx (decide_eq_true (by
  show((qu steps).length+2)*40<=140737488355328;simp[qu];omega)) ?_
 conv=>whnf
 have e1:qu (steps++jh wider p s)=qu steps ++ [[i64 (-1),i64 0,i64 p.book,i64 p.n,i64 (s.hi+wider)],[i64 p.book,i64 p.n,i64 (-1),i64 0,i64 (wider-s.lo)]]:=by
  unfold qu;rw[List.map_append];rfl
 have e2:(steps++jh wider p s).length=(qu steps).length+2:=by simp[qu,jh]
 refine qA [33] [] [(1000000,.box (.vv [.ptr 1000002 0])),(1000001,.box (.dd [i64 wider])),(1000002,.box (.vv [.d (i64 l.near),.d (qS l.books),.sl 2000000 5 0 ((qu steps).length+2),.sl 1000004 1 0 pers.length,.d (i64 (many+1))])),(2000000,.arr 5 (.dd (qu steps ++ [[i64 (-1),i64 0,i64 p.book,i64 p.n,i64 (s.hi+wider)],[i64 p.book,i64 p.n,i64 (-1),i64 0,i64 (wider-s.lo)]]))),(1000004,.arr 1 (.dd (zP pers)))] rfl ⟨zT rfl ⟨⟨rfl,rfl⟩,trivial⟩,rfl,zT rfl ⟨rfl,rfl,⟨rfl,rfl,rfl,rfl⟩,⟨rfl,rfl,rfl,rfl⟩,rfl,trivial⟩,rfl,rfl,trivial⟩ rfl ⟨⟨rfl,?_⟩,rfl⟩;unfold lkH;rw[e1,e2]
theorem Wk.bornAtD{σ:Type}{e:Env}{h:Heap}{s:σ}(b k sz:Nat)(A B:List D){l:List D}(hk:Nat.blt k 1000000=true)(hs:Nat.blt 0 sz=true)(hb:get h b=some (.box (.dd l)))(hl:l=A ++ .nils::B)(hbk:Nat.beq b k=false) :
  Wk (⟨e,h,s⟩:St σ) ⟨jT (mapId (qz k)) e,put (((k,.arr sz (.dd []))::jT (Obj.mapId (qz k)) (cut h k))) b (.box (.vv (inj A ++ .sl k sz 0 0::inj B))),s⟩:=by
 have hk:=Nat.le_of_ble_eq_true hk;have hs:=Nat.le_of_ble_eq_true hs;have hne:b≠k:=by rintro rfl;simp at hbk
 have h1:Wk (⟨e,h,s⟩:St σ) ⟨jT (mapId (qz k)) e,((k,.arr sz (.dd []))::jT (Obj.mapId (qz k)) (cut h k)),s⟩:=by
  intro cx r m L F a w hg;exact⟨_,F,hg.newEmpty k sz (by unfold pinned;omega) hs (.dd []) rfl,Tr.refl F w⟩
 refine h1.trans (Wk.reobj b (o:=.box (.dd l)) _ (by rw[qI,if_neg hne,qQ,zZ,if_neg hne,hb];rfl) (fun yv L F w h=>?_) fun L hb=>hb);obtain⟨c,T,hc,hr⟩:=h;have hr:RepVL yv L F w (inj l) c.toList:=hr;rw[hl,qbH]at hr;exact⟨c,T,hc,RepVL.nil_at k sz hs hr⟩
end Go.PX
