import Derived.Test.YtmbefpmbnhdbpaaGreatDoorPxM
import Derived.Test.YtmbefpmbnhdbpaaGreatDoorPxK
import Derived.Test.YtmbefpmbnhdbpaaGreatDoorPxJ
import Derived.Shelf.Strings.Builder1
import Derived.Shelf.Strconv.Itoa3
import Derived.Shelf.Strconv.AtoiAll
import Derived.Shelf.Strings.Split
import Derived.Shelf.Strings.Cut
import Derived.Test.YtmbefpmbnhdbpaaGreatDoorPxI
import Derived.Lib.ItoaNum
import Derived.Lib.SplitLaws
import Derived.Lib.IndexBytes
import Derived.Test.YtmbefpmbnhdbpaaGreatDoorPxL
import Derived.Test.YtmbefpmbnhdbpaaGreatDoorPxH
set_option linter.all false
set_option maxRecDepth 10000
namespace Go.PX
open Go.Proofs
theorem Kz{l l':aM}(h:bB l=0)(hn:l'.near=l.near)(hl:l'.aj.map au.name=l.aj.map au.name)
  (hb:∀ b∈l'.aj,(-720<=b.off.lo/\b.off.lo<=b.off.hi/\b.off.hi<=720)/\(-720<=b.set.lo/\b.set.lo<=b.set.hi/\b.set.hi<=720)/\b.ar.length<=8 /\ ∀ x∈b.ar,Bq x):bB l'=0:=by
 obtain⟨h1,h2,h3⟩:=la.1 h;have hlen:l'.aj.length=l.aj.length:=by have:=congrArg List.length hl;simpa using this
 refine la.2 ⟨by rw[hn];exact h1,by rw[hlen];exact h2,fun k b hk=>?_⟩;obtain⟨h4,h5,h6,h7⟩:=hb b (List.mem_of_getElem? hk);have ZG:=(List.getElem?_eq_some_iff.1 hk).1;obtain⟨c,hc⟩:∃ c,l.aj[k]?=some c:=⟨_,List.getElem?_eq_getElem (by omega)⟩;have pR:b.name=c.name:=by
  have e1:(l'.aj.map au.name)[k]?=some b.name:=by rw[List.getElem?_map,hk];rfl
  rw[hl,List.getElem?_map,hc]at e1;exact(Option.some.inj e1).symm
 have hh:=ns.1 (h3 k c hc).1;refine⟨ns.2 ⟨by rw[pR];exact hh.name,fun x hx=>?_,h4,h5,h6⟩,fun x hx=>xF.2 (h7 x hx)⟩;have:x.name∈(l'.aj.take k).map au.name:=List.mem_map.2 ⟨x,hx,rfl⟩;rw[List.map_take,hl,<- List.map_take]at this;obtain⟨y,hy,he⟩:=List.mem_map.1 this;rw[<- he,pR];exact hh.fresh y hy
theorem jK{l:aM}(h:bB l=0){b:au}(hb:b∈l.aj):(-720<=b.off.lo/\b.off.lo<=b.off.hi/\b.off.hi<=720)/\(-720<=b.set.lo/\b.set.lo<=b.set.hi/\b.set.hi<=720)/\b.ar.length<=8 /\ ∀ x∈b.ar,Bq x:=by
 obtain⟨h1,h2,h3⟩:=la.1 h;obtain⟨k,hk⟩:=List.getElem?_of_mem hb;obtain⟨h4,h5⟩:=h3 k b hk;have h4:=ns.1 h4;exact⟨h4.off,h4.set,h4.ar,fun x hx=>xF.1 (h5 x hx)⟩
theorem AS{of:List Int}:∀ {n:Nat} {p:List Int} {start:Nat} {q:List Int},q∈kB of n p start -> ∃ s,q=p++s/\s.Sublist (of.drop start)/\s.length=n
 | 0,p,start,q,h=>by
  rw[kB,List.mem_singleton]at h;exact⟨[],by rw[h,List.append_nil],List.nil_sublist _,rfl⟩
 | n+1,p,start,q,h=>by
  rw[kB,List.mem_flatMap]at h;obtain⟨i,hi,h⟩:=h;rw[List.mem_range'_1]at hi;obtain⟨s,rfl,h2,h3⟩:=AS h;have Hv:i<of.length:=by omega
  refine⟨of[i]::s,by rw[List.getElem?_eq_getElem Hv];simp,?_,by rw[List.length_cons,h3]⟩;have e:of.drop i=of[i]::of.drop (i+1):=List.drop_eq_getElem_cons Hv;have h4:(of[i]::s).Sublist (of.drop i):=by rw[e];exact h2.cons₂ _
  refine h4.trans ?_;rw[show i=start+(i-start) by omega,<- List.drop_drop];exact List.drop_sublist _ _
theorem I5{of:List Int}{n:Nat}{q:List Int}(h:q∈kB of n [] 0):q.length=n:=by
 obtain⟨s,rfl,_,h3⟩:=AS h;simpa using h3
structure oU(l:aM)(z:G0):Prop where
 R:q8 l.aj z
 check:bB ⟨l.near,z.aj⟩=0
 Qp:mG ⟨l.near,z.aj⟩ 0 [] (Gb z.kV)
theorem Sn{l:aM}(h:bB l=0){x y:List Int}(hy:∀ n∈y,0<=n):oU l (nO l x y):=by
 have hR:q8 l.aj (nO l x y):=Sm (fun bk jn=>by
  obtain⟨h1,h2,_,h4⟩:=jK h jn;exact⟨h1.2.1,h2.2.1,h4⟩) hy
 refine⟨hR,?_,GD hR rfl⟩;generalize nO l x y=z at hR;refine Kz h rfl ?_ fun b hb=>?_
 ·refine List.ext_getElem? fun i=>?_
  rw[List.getElem?_map,List.getElem?_map];show Option.map au.name z.aj[i]?=_
  cases hz:z.aj[i]? with
  | none=>
   rw[List.getElem?_eq_none_iff]at hz;have wF:=hR.bl;rw[List.getElem?_eq_none (by omega)]
  | some b=>
   obtain⟨b0,_,_,h1,h2,_⟩:=hR.book i b hz;rw[h1,Option.map_some,Option.map_some,h2]
 ·have hb:b∈z.aj:=hb
  obtain⟨i,hi⟩:=List.getElem?_of_mem hb;obtain⟨b0,T,O,h1,_,h3,h4,_,_,h5,h6⟩:=hR.book i b hi;obtain⟨k1,k2,k3,_⟩:=jK h (List.mem_of_getElem? h1);exact⟨by rw[h3];exact k1,by rw[h4];exact k2,by omega,h5.fG⟩
section
variable {l : aM} {z : G0}
theorem oU.fit(h:oU l z):gK ⟨l.near,z.aj⟩ 0 []=true:=Hf.2 ⟨_,h.Qp⟩
theorem oU.fG(h:oU l z){i k:Nat}{T:List Int}{u:Int}(hT:z.times[i]?=some T)(hu:T[k]?=some u):∃ b e,At ⟨l.near,z.aj⟩ i k b e/\ny ⟨l.near,z.aj⟩ (Gb z.kV) ⟨i,k⟩=u:=by
 have hl:=(List.getElem?_eq_some_iff.1 hT).1;have h1:=h.R.bl;have h2:=h.R.tl;obtain⟨b,hb⟩:∃ b,z.aj[i]?=some b:=⟨_,List.getElem?_eq_getElem (by omega)⟩;obtain⟨b0,T',O,_,_,_,_,h3,_,h5,_⟩:=h.R.book i b hb;rw[hT]at h3;cases h3;have hk:=(List.getElem?_eq_some_iff.1 hu).1;rw[h5.tl]at hk;obtain⟨e,he⟩:∃ e,b.ar[k]?=some e:=⟨_,List.getElem?_eq_getElem hk⟩;have hA:At ⟨l.near,z.aj⟩ i k b e:=⟨hb,he⟩;obtain⟨T',u',h6,h7,h8⟩:=JJ h.R rfl hA;rw[hT]at h6;cases h6;rw[hu]at h7;cases h7;exact⟨b,e,hA,h8⟩
theorem NI(h:oU l z){xs:List c8}(hx:∀ x∈xs,tk ⟨l.near,z.aj⟩ x=true):pG ⟨l.near,z.aj⟩ xs=0:=by
 unfold pG gN;rw[if_pos h.check,if_pos (List.all_eq_true.2 hx),if_pos rfl,if_pos h.fit]
theorem oU.inst(h:oU l z){i k:Nat}{T:List Int}{u:Int}(hT:z.times[i]?=some T)(hu:T[k]?=some u):pX ⟨l.near,z.aj⟩ ⟨i,k⟩=(iF ⟨l.near,z.aj⟩ ⟨i,k⟩,0)/\(iF ⟨l.near,z.aj⟩ ⟨i,k⟩).lo<=u/\u<=(iF ⟨l.near,z.aj⟩ ⟨i,k⟩).hi:=by
 obtain⟨b,e,hA,hi⟩:=h.fG hT hu;have hx:tk ⟨l.near,z.aj⟩ ⟨i,k⟩=true:=iG.2 ⟨i,k,b,e,rfl,hA⟩;have:=HK h.Qp hx;rw[hi]at this;refine⟨?_,this⟩;unfold pX;rw[if_pos (NI h fun x ub=>by rw[List.mem_singleton]at ub;rw[ub];exact hx)]
end
theorem LS{l:aM}(hc:bB l=0)(hf:gK l 0 []=true){x:c8}(hx:tk l x=true) : -720<=(iF l x).lo/\(iF l x).lo<=(iF l x).hi/\(iF l x).hi<=20720:=by
 have key:∀ t,mG l 0 [] t -> -720<=ny l t x/\ny l t x<=20720:=by
  intro t ht;obtain⟨i,k,b,y,rfl,hA⟩:=iG.1 hx;obtain⟨h1,h2,h3,h4⟩:=jK hc (List.mem_of_getElem? hA.book);have hy:=(h4 y (List.mem_of_getElem? hA.fG)).shown;unfold ny;rw[eg hA,kW hA];by_cases h0:bE b k=0
  ·have:=ht.off i b hA.book
   rw[h0];show -720<=y.shown-t ⟨(i:Nat),0⟩/\y.shown-t ⟨(i:Nat),0⟩<=20720;omega
  ·have:=ht.set i b (bE b k) hA.book (by omega) (l5 b k)
   omega
 obtain⟨t,ht,h1⟩:=On hf hx;obtain⟨u,hu,h2⟩:=Om hf hx;have a:=key t ht;have b:=key u hu;have c:=HK ht hx;omega
theorem oU.Xu{l:aM}{z:G0}(h:oU l z){i k:Nat}{T:List Int}{u:Int}(hT:z.times[i]?=some T)(hu:T[k]?=some u) : -720<=(iF ⟨l.near,z.aj⟩ ⟨i,k⟩).lo/\(iF ⟨l.near,z.aj⟩ ⟨i,k⟩).hi<=20720:=by
 obtain⟨b,e,hA,_⟩:=h.fG hT hu;have:=LS h.check h.fit (x:=⟨i,k⟩) (iG.2 ⟨i,k,b,e,rfl,hA⟩);omega
end Go.PX
namespace Go.PX
open Go.RowKit
structure Grown(w w':World):Prop where
 os:w'.os=w.os
 tape:w'.tape=w.tape
 output:w'.output=w.output
 size:w.heap.size<=w'.heap.size
 heap:∀ b,b<w.heap.size->w'.heap[b]?=w.heap[b]?
theorem Grown.refl(w:World):Grown w w:=⟨rfl,rfl,rfl,Nat.le_refl _,fun _ _=>rfl⟩
theorem Grown.tr{w w':World}(h:Grown w w'){F F':Nat->Nat}(hf:∀ b,w.heap.size<=b->F b=0)(hF:∀ b,b<w.heap.size->F' b=F b):Tr F w F' w':=by
 have lt:∀ b o,o<F b->b<w.heap.size:=fun b o ho=>by
  rcases Nat.lt_or_ge b w.heap.size with h|h
  ·exact h
  ·rw[hf b h]at ho;omega
 refine⟨h.os,h.tape,h.output,h.size,fun b=>?_,fun b o ho=>jH (h.heap b (lt b o ho)),fun b e c hb hm=>by rw[h.heap b (lt b 0 hb)];exact hm⟩;rcases Nat.lt_or_ge b w.heap.size with h|h
 ·rw[hF b h];exact Nat.le_refl _
 ·rw[hf b h];exact Nat.zero_le _
theorem ni{P:Program}{f:FuncId}{ds:List D}{r:D}(he:∀ (vs:Array Value) (w:World),(callFunc f vs).run P w = .ok (.enter f vs) w)
  (h:∀ (aT:Array Value) (w:World) (F:Nat->Nat),Laid P w->(∀ b,w.heap.size<=b->F b=0)->bc F w ds aT.toList ->
   Calls P f aT w fun e w'=>∃ x,e = .returned x/\Grown w w' /\ ∃ F',(∀ b,b<w.heap.size->F' b=F b)/\(∀ b,w'.heap.size<=b->F' b=0)/\bM F' w' r x):bq P f ds r:=by
 intro σ Y s;refine⟨he,fun cx hY L F aT w hh hr=>?_⟩;refine(callsIn_wide.2 (h aT w F (hY.laid _ _ _ hh.hg) hh.fresh (aq.inj.1 hr))).mono ?_;rintro e w' ⟨x,rfl,N3,F',hF,W5,hx⟩;have tr:=N3.tr hh.fresh hF;refine⟨x,rfl,_,[],s,L,F',⟨⟨rfl,rfl⟩,rfl⟩,⟨cx.fS hh.hg tr W5 fun b hb=>⟨N3.heap b (hh.iw b hb),hF b (hh.iw b hb)⟩,fun b hb=>Nat.lt_of_lt_of_le (hh.iw b hb) N3.size,W5,(fun _ _ h=>by cases h),(fun _ _ h=>by cases h),(fun _ _ _ _ h=>by cases h)⟩,hx,tr,fun _ _=>⟨rfl,rfl⟩⟩
theorem enters {P : Program} {f : FuncId} {fn : Func} {c : Code} (hf : P.funcs[f]? = some fn) (hb : fn.body = some c) (pR : (fn.name != "runtime.NumGoroutine") = true) (vs : Array Value) (w : World) : (callFunc f vs).run P w = .ok (.enter f vs) w := by
 simp only[bne_iff_ne,ne_eq]at pR;simp[callFunc,hf,pR,hb,Go.mark]
end Go.PX
namespace Go.PX
open Go.Proofs
open Go.RowKit Go.Proofs
set_option maxHeartbeats 1000000 in
set_option maxRecDepth 100000 in
theorem Kr(b:Nat)(w:World)(h0:w.cell? ⟨b,0,none⟩=some (.pointer (some ⟨b,0,none⟩))) :
  Calls Tryz.prog 204 #[.pointer (some ⟨b,0,none⟩)] w fun e w'=>e = .returned (.tuple #[])/\w'=w:=by
 obtain⟨j,hj,N7⟩:=Option.map_eq_some_iff.1 (show(Tryz.prog.info? 292).map (·.size)=some 2 by kernel_rfl)
 go_enter Tryz.func204,Tryz.ntmps204
 go_wp2
 rw[Lib.run_neq_ptr_same w _ Tryz.underlying290 hj]
 go_wp2
 go_end0
 exact⟨rfl,rfl⟩
set_option maxHeartbeats 1000000 in
set_option maxRecDepth 100000 in
theorem Ip(b:Nat)(w:World)(h0:w.cell? ⟨b,0,none⟩=some (.pointer none))(JZ:w.shape? b=some (292,2))(hfz:w.frozen? ⟨b,0,none⟩=false) :
  Calls Tryz.prog 204 #[.pointer (some ⟨b,0,none⟩)] w fun e w'=>e = .returned (.tuple #[])/\w'=w.setCell ⟨b,0,none⟩ (.pointer (some ⟨b,0,none⟩)):=by
 obtain⟨j,hj,N7⟩:=Option.map_eq_some_iff.1 (show(Tryz.prog.info? 292).map (·.size)=some 2 by kernel_rfl)
 go_enter Tryz.func204,Tryz.ntmps204
 go_wp2
 rw[Lib.run_to_unsafe w ⟨b,0,none⟩ Tryz.underlying290 Tryz.underlying346 hj (by rw[N7];decide) JZ (Nat.zero_lt_succ 1)];simp only[Result.andThen];rw[Oper.upon_value]
 go_wp2
 rw[run_callFunc_extern Tryz.func217 (by kernel_rfl) (by kernel_rfl) (by kernel_rfl) (e:=Extern.AbiNoEscape.same) (by kernel_rfl)];rw[Lib.run_noEscape];simp only[Result.andThen];rw[Oper.upon_value]
 go_wp2
 rw[Lib.run_from_unsafe w ⟨b,0,none⟩ Tryz.underlying346 Tryz.underlying290 hj JZ (by kernel_rfl)];simp only[Result.andThen];rw[Oper.upon_value]
 go_wp2
 go_end0
 exact⟨rfl,rfl⟩
set_option maxHeartbeats 1000000 in
set_option maxRecDepth 100000 in
theorem Fb(b g cap:Nat)(p:Value)(s:ByteArray)(c:Array Value)(w:World)(hb:w.heap[b]?=some (.cells #[p,.slice (some ⟨g,0,none⟩) s.size cap] 292 (0,0)))(hg:w.heap[g]?=some (.cells c 5 (0,0)))
  (h0:0<s.size) (j7:s.size<=cap) (hc:s.size<=c.size) (hm:s.size<=140737488355328) (Vc:c.toList.take s.size=bX s) :
  Calls Tryz.prog 177 #[.pointer (some ⟨b,0,none⟩)] w fun e w'=>e = .returned (.string s)/\w'=(w.drew).freeze ⟨g,0,none⟩ s.size:=by
 have c1:w.drew.cell? ⟨b,1,none⟩=some (.slice (some ⟨g,0,none⟩) s.size cap):=by
  have:w.drew.heap[b]?=some (.cells #[p,.slice (some ⟨g,0,none⟩) s.size cap] 292 (0,0)):=hb;rw[Lib.cell_of_heap this];rfl
 have hSD:(Builtin.unsafeSliceData_ #[62] 340 #[.slice (some ⟨g,0,none⟩) s.size cap]).run Tryz.prog w.drew = .ok (.pointer (some ⟨g,0,none⟩)) w.drew:=
  Lib.run_unsafeSliceData_row _ _ _ _ _ _ (by omega)
 have zz:s.data.toList.length=s.size:=by rw[Array.length_toList];rfl
 have hUS:(Builtin.unsafeString_ #[340,3] 9 #[.pointer (some ⟨g,0,none⟩),.int .i64 s.size]).run Tryz.prog w.drew = .ok (.string s) (w.drew.freeze ⟨g,0,none⟩ s.size):=by
  have:=Lib.run_unsafeString_row (P:=Tryz.prog) w.drew 340 3 9 5 Tryz.underlying340 (by kernel_rfl) g c.size (by have dp:w.drew.heap[g]?=some (.cells c 5 (0,0)):=hg;simp[World.shape?,dp]) s.data.toList (by intro e;rw[e]at zz;simp at zz;omega) (by omega) (by omega) (by
   intro j x hx;have hj:j<s.size:=by rw[<- zz];exact(List.getElem?_eq_some_iff.1 hx).1
   have hv:(bX s)[j]?=some (.int .u8 x.toNat):=by simp[bX,hx]
   rw[<- Vc,List.getElem?_take_of_lt hj]at hv;have dp:w.drew.heap[g]?=some (.cells c 5 (0,0)):=hg;rw[fh,Nat.zero_add,Lib.cell_of_heap dp];simpa using hv)
  rw[zz]at this;exact this
 go_enter Tryz.func177,Tryz.ntmps177
 go_wp2
 go_region
 all_goals (go_wp2;go_ret;exact⟨rfl,rfl⟩)
end Go.PX
namespace Go.PX
open Go.RowKit
theorem aZ.aaL{σ:Type}{cx:Cx σ}{L:Loc}{F:Nat->Nat}{h:Heap}{s:σ}{w w':World}(hh:aZ cx L F h s w)(g:Nat)(hF:F g=0)(hC:¬ cx.C s g)(SJ:w'.os=w.os)(ht:w'.tape=w.tape)(hu:w'.output=w.output)
  (dc:w'.heap.size=w.heap.size) (hk:∀ b,b≠g->w'.heap[b]?=w.heap[b]?) (eW:∀ id o,get h id=some o->aV L id o->L.ρ id≠g):aZ cx L F h s w'/\Tr F w F w':=by
 have tr:Tr F w F w':=.iI SJ ht hu (by omega) (fun _=>Nat.le_refl _) hh.fresh fun b _ YO=>hk b (by rintro rfl;omega);exact⟨hh.nA tr (fun b hb=>hh.fresh b (by omega)) (fun b hb=>⟨hk b (by rintro rfl;exact hC hb),rfl⟩) fun id o hi hb=>⟨hk _ (eW id o hi hb),rfl⟩,tr⟩
theorem ur{P:Program}{f:FuncId}{args:List V}{h0 h1:Heap}{v0:V}(he:∀ (vs:Array Value) (w:World),(callFunc f vs).run P w = .ok (.enter f vs) w)
  (h:∀ {σ:Type} (cx:Cx σ) (L:Loc) (F:Nat->Nat) (s:σ) (aT:Array Value) (w:World),aZ cx L F h0 s w->aq cx.yv L F w args aT.toList ->
   Calls P f aT w fun e w'=>∃ x,e = .returned x/\aZ cx L F h1 s w'/\bg cx.yv L F w' v0 x/\Tr F w F w'):o9 P f args h0 fun v h'=>v=v0/\h'=h1:=by
 intro σ Y s;refine⟨he,fun cx hY L F aT w hh hr=>?_⟩;refine(callsIn_wide.2 (h cx L F s aT w hh hr)).mono ?_;rintro e w' ⟨x,rfl,mc,hx,tr⟩;exact⟨x,rfl,_,_,s,L,F,⟨⟨rfl,rfl⟩,rfl⟩,mc,hx,tr,fun _ _=>⟨rfl,rfl⟩⟩
section
variable {P : Program} {σ : Type} {Y : Hd σ}
theorem lq(n:Nat)(ids:List Nat){e:Env}{h h':Heap}{s:σ}{d:Option Nat}{f:FuncId}{args args':List V}{K:St σ->Prop}(hv:ia (ek (aX ids h) n) args=args')(hh:mJ h (cY (aX ids h))=h')
  (hk:dO P Y ⟨e,h',s⟩ d f args' K):dO P Y ⟨e,h,s⟩ d f args K:=by
 obtain⟨he,hk⟩:=hk;subst hh hv;refine⟨he,fun cx hY r m L F a w aT hg hd hr=>?_⟩;obtain⟨F1,eo,sy,RP⟩:=hg.Dl (h:=aX ids h) (fun i o hi=>ez ids h i o hi) n;rw[ga]at eo;refine(hk cx hY r m L F1 a w aT eo hd (RP _ _ hr)).mono ?_;rintro en w' (⟨x,rfl,st',L',F',k1,k2,k3⟩|⟨pv,pe,ph,ps,L',F',he,hy,N2,Pb⟩)
 ·exact .inl ⟨x,rfl,st',L',F',k1,k2,Tr.trans sy k3⟩
 ·exact .inr ⟨pv,pe,ph,ps,L',F',he,hy,N2,Tr.trans sy Pb⟩
end
end Go.PX
namespace Go.PX
open Go.Proofs
open Go.RowKit
theorem uj{yv:Option Nat}{L:Loc}{F:Nat->Nat}{w:World}{v:V}{aT:Array Value}(h:aq yv L F w [v] aT.toList):∃ x,aT = #[x]/\bg yv L F w v x:=by
 obtain⟨x,l',h1,h2,h3⟩:=h;have h3:l' = []:=h3;subst h3;exact⟨x,Array.ext' h1,h2⟩
def Kq(i:Nat):Heap:=[(i,.tb 292 [.d .nilp,.d .nils])]
def ky(i k:Nat)(b:ByteArray):Heap:=[(i,.tb 292 [.ptr i 0,.sl k 1 0 b.size]),(k,.buf 5 b)]
theorem r9(b:ByteArray):o9 Tryz.prog 204 [.ptr 1000000 0] (ky 1000000 1000001 b) fun v h'=>v = .d (.tup [])/\h'=ky 1000000 1000001 b:=by
 refine ur (enters Tryz.func204 rfl (by decide +kernel)) fun {σ} cx L F s aT w hh hr=>?_;obtain⟨x,rfl,hx⟩:=uj hr;have hx:x = .pointer (some ⟨L.ρ 1000000,0,none⟩):=hx;subst hx;obtain⟨c,hc,U8⟩:=hh.obj 1000000 _ rfl;obtain⟨x0,l',hl,h0,_⟩:=U8;have h0:x0 = .pointer (some ⟨L.ρ 1000000,0,none⟩):=h0;subst h0;refine(Kr (L.ρ 1000000) w (by rw[cell_of_row _ _ _ _ _ _ hc,<- Array.getElem?_toList,hl];rfl)).mono ?_;rintro e w' ⟨rfl,rfl⟩;exact⟨_,rfl,hh,⟨#[],rfl,rfl⟩,Tr.refl F _⟩
theorem El:o9 Tryz.prog 204 [.ptr 1000000 0] (Kq 1000000) fun v h'=>v = .d (.tup [])/\h' = [(1000000,.tb 292 [.ptr 1000000 0,.d .nils])]:=by
 refine ur (enters Tryz.func204 rfl (by decide +kernel)) fun {σ} cx L F s aT w hh hr=>?_;obtain⟨x,rfl,hx⟩:=uj hr;have hx:x = .pointer (some ⟨L.ρ 1000000,0,none⟩):=hx;subst hx;obtain⟨c,hc,U8⟩:=hh.obj 1000000 _ rfl;obtain⟨x0,l',hl,h0,x1,Vs,kM,h1,pS⟩:=U8;have h0:x0 = .pointer none:=h0;have h1:x1 = .slice none 0 0:=h1;have pS:Vs = []:=pS;subst h0 h1 pS kM;have pb:c = #[.pointer none,.slice none 0 0]:=Array.ext' hl;subst pb;refine(Ip (L.ρ 1000000) w (by rw[cell_of_row _ _ _ _ _ _ hc];rfl) (by simp[World.shape?,hc]) (by simp[World.frozen?,hc])).mono ?_;rintro e w' ⟨rfl,rfl⟩;have hg:Good { cx with pρ:=L.ρ,pκ:=L.κ,base:=[] } none [] L F (⟨[],Kq 1000000,s⟩:St σ) { tmps:=#[],defers:=[] } w:=
  ⟨⟨hh.hg,hh.iw,hh.fresh,hh.obj,hh.own,hh.inj⟩,fun t v ht=>(by cases ht),rfl,(fun b hb=>by cases hb),List.nodup_nil,(fun l hl=>by cases hl),fun _ _=>⟨rfl,rfl⟩,by simp⟩
 have QY:(w.setCell ⟨L.ρ 1000000,0,none⟩ (.pointer (some ⟨L.ρ 1000000,0,none⟩))).heap[L.ρ 1000000]?=some (.cells #[.pointer (some ⟨L.ρ 1000000,0,none⟩),.slice none 0 0] 292 (0,0)):=by
  simp[World.setCell,Array.getElem?_modify,hc]
 obtain⟨g1,g2⟩:=hg.obj (id:=1000000) (o:=.tb 292 [.ptr 1000000 0,.d .nils]) rfl trivial (w':=w.setCell ⟨L.ρ 1000000,0,none⟩ (.pointer (some ⟨L.ρ 1000000,0,none⟩))) rfl rfl rfl (by simp[World.setCell]) (fun b hb=>by simp[World.setCell,Array.getElem?_modify,Ne.symm hb])
  (by rw[hc];intro ds e;cases e) (by rw[hc];intro lp e;cases e) ⟨_,QY,_,_,rfl,rfl,_,_,rfl,rfl,rfl⟩
 have g3:=g1.heap;exact⟨_,rfl,⟨g3.hg,g3.iw,g3.fresh,g3.obj,g3.own,g3.inj⟩,⟨#[],rfl,rfl⟩,g2⟩
theorem VE(b:ByteArray)(h0:0<b.size)(hm:b.size<=140737488355328):o9 Tryz.prog 177 [.ptr 1000000 0] (ky 1000000 1000001 b) fun v h'=>v = .d (.str b)/\h' = [(1000000,.tb 292 [.ptr 1000000 0,.unk])]:=by
 refine ur (enters Tryz.func177 rfl (by decide +kernel)) fun {σ} cx L F s aT w hh hr=>?_;obtain⟨x,rfl,hx⟩:=uj hr;have hx:x = .pointer (some ⟨L.ρ 1000000,0,none⟩):=hx;subst hx;obtain⟨c,hc,U8⟩:=hh.obj 1000000 _ rfl;obtain⟨x0,l',hl,YK,x1,Vs,kM,h1,pS⟩:=U8;have YK:x0 = .pointer (some ⟨L.ρ 1000000,0,none⟩):=YK;have pS:Vs = []:=pS;subst YK pS kM;obtain⟨ad,cap,rfl,j7,_,hb⟩:=h1;rcases hb with⟨e,_⟩|⟨rfl,hb⟩
 ·omega
 rw[Nat.zero_add,Nat.mul_one]at hb;have pb:c = #[.pointer (some ⟨L.ρ 1000000,0,none⟩),.slice (some ⟨L.ρ 1000001,0,none⟩) b.size cap]:=Array.ext' hl;subst pb;obtain⟨c2,nr,gu,mY,IX⟩:=hh.obj 1000001 _ rfl;refine(Fb (L.ρ 1000000) (L.ρ 1000001) cap _ b c2 w hc nr h0 j7 mY hm IX).mono ?_;rintro e w' ⟨rfl,rfl⟩;obtain⟨q1,q2⟩:=hh.own 1000001 _ rfl trivial;have eW:L.ρ 1000000≠L.ρ 1000001:=fun e=>by
  have:=hh.inj 1000000 1000001 _ _ rfl rfl trivial trivial e;omega
 have N4:aZ cx L F [(1000000,.tb 292 [.ptr 1000000 0,.unk])] s w:=by
  refine⟨hh.hg,hh.iw,hh.fresh,fun id o ho=>?_,fun id o ho hb=>?_,fun i j o p hi hj mq jx e=>?_⟩
  ·obtain⟨rfl,rfl⟩:id=1000000/\o = .tb 292 [.ptr 1000000 0,.unk]:=by
    simp only[get]at ho;split at ho
    ·rename_i he;cases ho;exact⟨(Nat.eq_of_beq_eq_true he).symm,rfl⟩
    ·cases ho
   exact⟨_,hc,_,_,rfl,rfl,_,_,rfl,rfl,rfl⟩
  ·obtain⟨rfl,rfl⟩:id=1000000/\o = .tb 292 [.ptr 1000000 0,.unk]:=by
    simp only[get]at ho;split at ho
    ·rename_i he;cases ho;exact⟨(Nat.eq_of_beq_eq_true he).symm,rfl⟩
    ·cases ho
   exact hh.own 1000000 _ rfl trivial
  ·simp only[get]at hi hj
   split at hi
   ·rename_i he
    split at hj
    ·rename_i kL
     rw[<- Nat.eq_of_beq_eq_true he,<- Nat.eq_of_beq_eq_true kL]
    ·cases hj
   ·cases hi
 obtain⟨r1,r2⟩:=N4.aaL (w':=w.drew.freeze ⟨L.ρ 1000001,0,none⟩ b.size) (L.ρ 1000001) q1 q2 (by simp[World.freeze];split<;>rfl) (by simp[World.freeze];split<;>rfl) (by simp[World.freeze];split<;>rfl) (by simp[World.freeze];split<;>simp)
  (fun x hx=>by
   simp only[World.freeze];split
   ·rfl
   ·simp[Array.getElem?_modify,Ne.symm hx];rfl) (fun id o ho hb e=>by
   simp only[get]at ho;split at ho
   ·rename_i he
    rw[<- Nat.eq_of_beq_eq_true he]at e;exact eW e
   ·cases ho)
 exact⟨_,rfl,r1,rfl,r2⟩
def Qs(s:ByteArray):D:=.tup [i64 s.size,.nili]
theorem Ju(s:ByteArray)(h0:0<s.size)(hm:s.size<=140737488355328):o9 Tryz.prog 175 [.ptr 1000000 0,.d (.str s)] (Kq 1000000) fun v h'=>v = .d (Qs s)/\h'=ky 1000000 2000000 s:=by
 intro σ Y st;refine dQ mixed ak Tryz.func175 rfl (ft:=Ho) (args:=[.ptr 1000000 0,.d (.str s)]) (show nS Ho Tryz.f175 2=true from by decide +kernel) ?_;conv=>whnf
 refine aY El [1000000] rfl ⟨_,_,rfl,rfl,rfl⟩ rfl ?_;conv=>whnf
 refine aQ (by simp[h0,hm]) ?_;conv=>whnf
 exact aC [14] [.d (i64 s.size),.d .nili] (ky 1000000 2000000 s) rfl ⟨rfl,rfl,trivial⟩ rfl ⟨⟨rfl,rfl⟩,rfl⟩
theorem AZ(b s:ByteArray)(h0:0<b.size)(hm:b.size+s.size<=140737488355328):o9 Tryz.prog 175 [.ptr 1000000 0,.d (.str s)] (ky 1000000 1000001 b) fun v h'=>v = .d (Qs s)/\h'=ky 1000000 2000000 (b++s):=by
 intro σ Y st;refine dQ mixed ak Tryz.func175 rfl (ft:=Ho) (args:=[.ptr 1000000 0,.d (.str s)]) (show nS Ho Tryz.f175 2=true from by decide +kernel) ?_;conv=>whnf
 refine aY (r9 b) [1000000,1000001] rfl ⟨_,_,rfl,rfl,_,_,rfl,rfl,rfl⟩ rfl ?_;conv=>whnf
 refine aQ (by simp[h0,hm]) ?_;conv=>whnf
 exact aC [14] [.d (i64 s.size),.d .nili] (ky 1000000 2000000 (b++s)) rfl ⟨rfl,rfl,trivial⟩ rfl ⟨⟨rfl,rfl⟩,rfl⟩
theorem Qh(b:ByteArray)(h0:0<b.size)(hm:b.size+1<=140737488355328):o9 Tryz.prog 174 [.ptr 1000000 0,.d (.int .u8 10)] (ky 1000000 1000001 b) fun v h'=>v = .d .nili/\h'=ky 1000000 2000000 (b++⟨#[10]⟩):=by
 intro σ Y st;refine dQ mixed ak Tryz.func174 rfl (ft:=Hn) (args:=[.ptr 1000000 0,.d (.int .u8 10)]) (show nS Hn Tryz.f174 2=true from by decide +kernel) ?_;conv=>whnf
 refine aY (r9 b) [1000000,1000001] rfl ⟨_,_,rfl,rfl,_,_,rfl,rfl,rfl⟩ rfl ?_;conv=>whnf
 refine aQ (by simp[h0];exact hm) ?_;conv=>whnf
 exact aC [14] [.d .nili] (ky 1000000 2000000 (b++⟨#[10]⟩)) rfl ⟨rfl,rfl,trivial⟩ rfl ⟨⟨rfl,rfl⟩,rfl⟩
end Go.PX
namespace Go.PX
open Go.Proofs
def Fh:Nat->Nat->List UInt8
 | 0,_=>[]
 | f+1,u=>if u<10 then [UInt8.ofNat (48+u)] else Fh f (u/10) ++ [UInt8.ofNat (48+u%10)]
theorem BC:∀ (f u:Nat),u<10^f->0<f->Fh f u=Lib.decDigits u
 | 0,_,_,h=>absurd h (by omega)
 | f+1,u,hu,_=>by
  rw[Fh,Lib.decDigits];by_cases h:u<10
  ·rw[if_pos h,dif_pos h]
  ·rw[if_neg h,dif_neg h]
   have h2:u/10<10^f:=by
    rw[Nat.pow_succ]at hu;exact Nat.div_lt_of_lt_mul (by omega)
   have hf:0<f:=by
    rcases Nat.eq_zero_or_pos f with rfl|h3
    ·simp at h2;omega
    ·exact h3
   rw[BC f (u/10) h2 hf]
theorem xD:∀ (f u:Nat),(Fh f u).length<=f
 | 0,_=>Nat.le_refl _
 | f+1,u=>by
  rw[Fh];split
  ·simp
  ·have:=xD f (u/10)
   simp;omega
def Mi(n:Int):List UInt8:=if n<0 then 45::Fh 19 n.natAbs else Fh 19 n.toNat
def r6(n:Int):ByteArray:=⟨(Mi n).toArray⟩
theorem OE{n:Int}(h : -1000000000000000000<=n/\n<=1000000000000000000):Mi n=Lib.itoa n:=by
  unfold Mi Lib.itoa;split
  · rw[BC 19 n.natAbs (by have:(10:Nat)^19=10000000000000000000:=(by decide);omega) (by omega)]
  · rw[BC 19 n.toNat (by have:(10:Nat)^19=10000000000000000000:=(by decide);omega) (by omega)]
theorem Je(n:Int):(r6 n).size<=20:=by
 show(Mi n).toArray.size<=20;rw[List.size_toArray];unfold Mi;split
 ·have:=xD 19 n.natAbs;simp;omega
 ·have:=xD 19 n.toNat;omega
end Go.PX
namespace Go.PX
open Go.Proofs
open Go.Shelf
def Tryz.B8:Go.Shelf.Ren:=⟨fun|171=>176|243=>205|246=>218|283=>231|284=>232|285=>233|286=>234|129=>242|317=>241|318=>243|319=>244|320=>245|337=>248|338=>249|n=>n,fun|3=>3|9=>9|2=>2|4=>4|171=>359|0=>0|53=>335|37=>62|5=>5|173=>361|212=>372|51=>333|20=>20|213=>373|46=>279|232=>382|233=>383|n=>n,fun|17=>3|18=>6|19=>7|n=>n⟩
theorem Tryz.LX:Go.Proofs.LaysM.n171 Tryz.prog Tryz.B8:={
 mixed:=by kernel_rfl
 f129:=Tryz.func242.trans (congrArg some (by kernel_rfl))
 f171:=Tryz.func176.trans (congrArg some (by kernel_rfl))
 f243:=Tryz.func205.trans (congrArg some (by kernel_rfl))
 f246:=Tryz.func218.trans (congrArg some (by kernel_rfl))
 f283:=Tryz.func231.trans (congrArg some (by kernel_rfl))
 f284:=Tryz.func232.trans (congrArg some (by kernel_rfl))
 f285:=Tryz.func233.trans (congrArg some (by kernel_rfl))
 f286:=Tryz.func234.trans (congrArg some (by kernel_rfl))
 f317:=Tryz.func241.trans (congrArg some (by kernel_rfl))
 f318:=Tryz.func243.trans (congrArg some (by kernel_rfl))
 f319:=Tryz.func244.trans (congrArg some (by kernel_rfl))
 f320:=Tryz.func245.trans (congrArg some (by kernel_rfl))
 f337:=Tryz.func248.trans (congrArg some (by kernel_rfl))
 f338:=Tryz.func249.trans (congrArg some (by kernel_rfl))
 t0:=Tryz.underlying0
 a0:=Tryz.isAgg0
 z0:=Tryz.sizeOf0
 v0:=Tryz.zeroValue0
 t2:=Tryz.underlying2
 a2:=Tryz.isAgg2
 z2:=Tryz.sizeOf2
 v2:=Tryz.zeroValue2
 t3:=Tryz.underlying3
 a3:=Tryz.isAgg3
 z3:=Tryz.sizeOf3
 v3:=Tryz.zeroValue3
 t4:=Tryz.underlying4
 a4:=Tryz.isAgg4
 z4:=Tryz.sizeOf4
 v4:=Tryz.zeroValue4
 t5:=Tryz.underlying5
 a5:=Tryz.isAgg5
 z5:=Tryz.sizeOf5
 v5:=Tryz.zeroValue5
 t9:=Tryz.underlying9
 a9:=Tryz.isAgg9
 z9:=Tryz.sizeOf9
 v9:=Tryz.zeroValue9
 t20:=Tryz.underlying20
 a20:=Tryz.isAgg20
 z20:=Tryz.sizeOf20
 v20:=Tryz.zeroValue20
 t37:=Tryz.underlying62
 a37:=Tryz.isAgg62
 z37:=Tryz.sizeOf62
 v37:=Tryz.zeroValue62
 t46:=Tryz.underlying279
 a46:=Tryz.isAgg279
 z46:=Tryz.sizeOf279
 v46:=Tryz.zeroValue279
 t51:=Tryz.underlying333
 a51:=Tryz.isAgg333
 z51:=Tryz.sizeOf333
 v51:=Tryz.zeroValue333
 t53:=Tryz.underlying335
 a53:=Tryz.isAgg335
 z53:=Tryz.sizeOf335
 v53:=Tryz.zeroValue335
 t171:=Tryz.underlying359
 a171:=Tryz.isAgg359
 z171:=Tryz.sizeOf359
 v171:=Tryz.zeroValue359
 t173:=Tryz.underlying361
 a173:=Tryz.isAgg361
 z173:=Tryz.sizeOf361
 v173:=Tryz.zeroValue361
 t212:=Tryz.underlying372
 a212:=Tryz.isAgg372
 z212:=Tryz.sizeOf372
 v212:=Tryz.zeroValue372
 t213:=Tryz.underlying373
 a213:=Tryz.isAgg373
 z213:=Tryz.sizeOf373
 t232:=Tryz.underlying382
 a232:=Tryz.isAgg382
 z232:=Tryz.sizeOf382
 v232:=Tryz.zeroValue382
 t233:=Tryz.underlying383
 a233:=Tryz.isAgg383
 z233:=Tryz.sizeOf383
 v233:=Tryz.zeroValue383
 g17:=by kernel_rfl
 g18:=by kernel_rfl
 g19:=by kernel_rfl
 i0:=by kernel_rfl
 i2:=by kernel_rfl
 i3:=by kernel_rfl
 i4:=by kernel_rfl
 i5:=by kernel_rfl
 i9:=by kernel_rfl
 i20:=by kernel_rfl
 i37:=by kernel_rfl
 i46:=by kernel_rfl
 i51:=by kernel_rfl
 i53:=by kernel_rfl
 i171:=by kernel_rfl
 i173:=by kernel_rfl
 i212:=by kernel_rfl
 i232:=by kernel_rfl
 i233:=by kernel_rfl
 m17:=by kernel_rfl
 m18:=by kernel_rfl
 m19:=by kernel_rfl }
open Go.RowKit Go.Sort Go.Lib in
theorem Tryz.strconv_Itoa (n : Int) (h0 : -9223372036854775808 <= n) (h1 : n <= 9223372036854775807) (w : World) (aab : Lib.TabIs Tryz.prog w "internal/strconv.uint64pow10" .u64 Lib.pow10Tab) :
  Calls Tryz.prog 176 #[.int .i64 n] w fun e w'=>e = .returned (.string ⟨(Lib.itoa n).toArray⟩) /\ ∃ k os,w'=grow (w.drewN k) os:=Any.strconv_Itoa Tryz.LX n h0 h1 w aab
def Tryz.B7:Go.Shelf.Ren:=⟨fun|172=>180|244=>208|245=>209|247=>223|279=>224|280=>225|281=>226|282=>227|287=>237|316=>238|171=>176|205=>239|321=>246|322=>247|243=>205|246=>218|283=>231|284=>232|285=>233|286=>234|129=>242|317=>241|318=>243|319=>244|320=>245|337=>248|338=>249|n=>n,fun|9=>9|3=>3|75=>295|76=>297|4=>4|5=>5|167=>351|37=>62|0=>0|85=>352|2=>2|168=>354|53=>335|175=>365|46=>279|210=>369|127=>340|145=>377|143=>375|21=>21|171=>359|173=>361|212=>372|51=>333|20=>20|213=>373|232=>382|233=>383|80=>122|n=>n,fun|15=>1|16=>2|17=>3|18=>6|19=>7|n=>n⟩
theorem Tryz.yz:Go.Proofs.LaysC.n172 Tryz.prog Tryz.B7:={
 mixed:=by kernel_rfl
 f129:=Tryz.func242.trans (congrArg some (by kernel_rfl))
 f171:=Tryz.func176.trans (congrArg some (by kernel_rfl))
 f172:=Tryz.func180.trans (congrArg some (by kernel_rfl))
 f205:=Tryz.func239.trans (congrArg some (by kernel_rfl))
 f243:=Tryz.func205.trans (congrArg some (by kernel_rfl))
 f244:=Tryz.func208.trans (congrArg some (by kernel_rfl))
 f245:=Tryz.func209.trans (congrArg some (by kernel_rfl))
 f246:=Tryz.func218.trans (congrArg some (by kernel_rfl))
 f247:=Tryz.func223.trans (congrArg some (by kernel_rfl))
 f279:=Tryz.func224.trans (congrArg some (by kernel_rfl))
 f280:=Tryz.func225.trans (congrArg some (by kernel_rfl))
 f281:=Tryz.func226.trans (congrArg some (by kernel_rfl))
 f282:=Tryz.func227.trans (congrArg some (by kernel_rfl))
 f283:=Tryz.func231.trans (congrArg some (by kernel_rfl))
 f284:=Tryz.func232.trans (congrArg some (by kernel_rfl))
 f285:=Tryz.func233.trans (congrArg some (by kernel_rfl))
 f286:=Tryz.func234.trans (congrArg some (by kernel_rfl))
 f287:=Tryz.func237.trans (congrArg some (by kernel_rfl))
 f316:=Tryz.func238.trans (congrArg some (by kernel_rfl))
 f317:=Tryz.func241.trans (congrArg some (by kernel_rfl))
 f318:=Tryz.func243.trans (congrArg some (by kernel_rfl))
 f319:=Tryz.func244.trans (congrArg some (by kernel_rfl))
 f320:=Tryz.func245.trans (congrArg some (by kernel_rfl))
 f321:=Tryz.func246.trans (congrArg some (by kernel_rfl))
 f322:=Tryz.func247.trans (congrArg some (by kernel_rfl))
 f337:=Tryz.func248.trans (congrArg some (by kernel_rfl))
 f338:=Tryz.func249.trans (congrArg some (by kernel_rfl))
 t0:=Tryz.underlying0
 a0:=Tryz.isAgg0
 z0:=Tryz.sizeOf0
 v0:=Tryz.zeroValue0
 t2:=Tryz.underlying2
 a2:=Tryz.isAgg2
 z2:=Tryz.sizeOf2
 v2:=Tryz.zeroValue2
 t3:=Tryz.underlying3
 a3:=Tryz.isAgg3
 z3:=Tryz.sizeOf3
 v3:=Tryz.zeroValue3
 t4:=Tryz.underlying4
 a4:=Tryz.isAgg4
 z4:=Tryz.sizeOf4
 v4:=Tryz.zeroValue4
 t5:=Tryz.underlying5
 a5:=Tryz.isAgg5
 z5:=Tryz.sizeOf5
 v5:=Tryz.zeroValue5
 t9:=Tryz.underlying9
 a9:=Tryz.isAgg9
 z9:=Tryz.sizeOf9
 v9:=Tryz.zeroValue9
 t20:=Tryz.underlying20
 a20:=Tryz.isAgg20
 z20:=Tryz.sizeOf20
 v20:=Tryz.zeroValue20
 t21:=Tryz.underlying21
 a21:=Tryz.isAgg21
 z21:=Tryz.sizeOf21
 v21:=Tryz.zeroValue21
 t37:=Tryz.underlying62
 a37:=Tryz.isAgg62
 z37:=Tryz.sizeOf62
 v37:=Tryz.zeroValue62
 t46:=Tryz.underlying279
 a46:=Tryz.isAgg279
 z46:=Tryz.sizeOf279
 v46:=Tryz.zeroValue279
 t51:=Tryz.underlying333
 a51:=Tryz.isAgg333
 z51:=Tryz.sizeOf333
 v51:=Tryz.zeroValue333
 t53:=Tryz.underlying335
 a53:=Tryz.isAgg335
 z53:=Tryz.sizeOf335
 v53:=Tryz.zeroValue335
 t75:=Tryz.underlying295
 a75:=Tryz.isAgg295
 z75:=Tryz.sizeOf295
 v75:=Tryz.zeroValue295
 t76:=Tryz.underlying297
 a76:=Tryz.isAgg297
 z76:=Tryz.sizeOf297
 v76:=Tryz.zeroValue297
 t85:=Tryz.underlying352
 a85:=Tryz.isAgg352
 z85:=Tryz.sizeOf352
 v85:=Tryz.zeroValue352
 t127:=Tryz.underlying340
 a127:=Tryz.isAgg340
 z127:=Tryz.sizeOf340
 v127:=Tryz.zeroValue340
 t143:=Tryz.underlying375
 a143:=Tryz.isAgg375
 z143:=Tryz.sizeOf375
 v143:=Tryz.zeroValue375
 t145:=Tryz.underlying377
 a145:=Tryz.isAgg377
 z145:=Tryz.sizeOf377
 v145:=Tryz.zeroValue377
 t167:=Tryz.underlying351
 a167:=Tryz.isAgg351
 z167:=Tryz.sizeOf351
 v167:=Tryz.zeroValue351
 t168:=Tryz.underlying354
 a168:=Tryz.isAgg354
 z168:=Tryz.sizeOf354
 v168:=Tryz.zeroValue354
 t171:=Tryz.underlying359
 a171:=Tryz.isAgg359
 z171:=Tryz.sizeOf359
 v171:=Tryz.zeroValue359
 t173:=Tryz.underlying361
 a173:=Tryz.isAgg361
 z173:=Tryz.sizeOf361
 v173:=Tryz.zeroValue361
 t175:=Tryz.underlying365
 a175:=Tryz.isAgg365
 z175:=Tryz.sizeOf365
 v175:=Tryz.zeroValue365
 t210:=Tryz.underlying369
 a210:=Tryz.isAgg369
 z210:=Tryz.sizeOf369
 v210:=Tryz.zeroValue369
 t212:=Tryz.underlying372
 a212:=Tryz.isAgg372
 z212:=Tryz.sizeOf372
 v212:=Tryz.zeroValue372
 t213:=Tryz.underlying373
 a213:=Tryz.isAgg373
 z213:=Tryz.sizeOf373
 t232:=Tryz.underlying382
 a232:=Tryz.isAgg382
 z232:=Tryz.sizeOf382
 v232:=Tryz.zeroValue382
 t233:=Tryz.underlying383
 a233:=Tryz.isAgg383
 z233:=Tryz.sizeOf383
 v233:=Tryz.zeroValue383
 g15:=by kernel_rfl
 g16:=by kernel_rfl
 g17:=by kernel_rfl
 g18:=by kernel_rfl
 g19:=by kernel_rfl
 t80:=Tryz.underlying122
 a80:=Tryz.isAgg122
 z80:=Tryz.sizeOf122
 v80:=Tryz.zeroValue122
 i0:=by kernel_rfl
 i2:=by kernel_rfl
 i3:=by kernel_rfl
 i4:=by kernel_rfl
 i5:=by kernel_rfl
 i9:=by kernel_rfl
 i20:=by kernel_rfl
 i21:=by kernel_rfl
 i37:=by kernel_rfl
 i46:=by kernel_rfl
 i51:=by kernel_rfl
 i53:=by kernel_rfl
 i75:=by kernel_rfl
 i76:=by kernel_rfl
 i80:=by kernel_rfl
 i85:=by kernel_rfl
 i127:=by kernel_rfl
 i143:=by kernel_rfl
 i145:=by kernel_rfl
 i167:=by kernel_rfl
 i168:=by kernel_rfl
 i171:=by kernel_rfl
 i173:=by kernel_rfl
 i175:=by kernel_rfl
 i210:=by kernel_rfl
 i212:=by kernel_rfl
 i232:=by kernel_rfl
 i233:=by kernel_rfl
 m15:=by kernel_rfl
 m16:=by kernel_rfl
 m17:=by kernel_rfl
 m18:=by kernel_rfl
 m19:=by kernel_rfl
 c0:=by kernel_rfl
 c2:=by kernel_rfl
 c3:=by kernel_rfl
 c4:=by kernel_rfl
 c5:=by kernel_rfl
 c9:=by kernel_rfl
 c20:=by kernel_rfl
 c21:=by kernel_rfl
 c37:=by kernel_rfl
 c46:=by kernel_rfl
 c51:=by kernel_rfl
 c53:=by kernel_rfl
 c75:=by kernel_rfl
 c76:=by kernel_rfl
 c80:=by kernel_rfl
 c85:=by kernel_rfl
 c127:=by kernel_rfl
 c143:=by kernel_rfl
 c145:=by kernel_rfl
 c167:=by kernel_rfl
 c168:=by kernel_rfl
 c171:=by kernel_rfl
 c173:=by kernel_rfl
 c175:=by kernel_rfl
 c210:=by kernel_rfl
 c212:=by kernel_rfl
 c213:=by kernel_rfl
 c232:=by kernel_rfl
 c233:=by kernel_rfl }
open Go.RowKit in
theorem Tryz.strconv_Atoi_ok(s:ByteArray)(Rk:s.size<=9223372036854775806)(v:Int)(h:Lib.atoiAll s.data.toList = .ok v)(w:World) :
  Calls Tryz.prog 180 #[.string s] w fun e w'=>e = .returned (.tuple #[.int .i64 v,.nilIface])/\(w'=w \/ ∃ t,w'=Lib.bytesWorld w 5 t):=Any.strconv_Atoi_ok Tryz.yz s Rk v h w
def Tryz.DW:Go.Shelf.Ren:=⟨fun|145=>119|220=>178|219=>206|217=>219|225=>220|224=>221|267=>222|266=>235|314=>236|n=>n,fun|9=>9|4=>4|59=>232|3=>3|5=>5|46=>279|146=>363|51=>333|n=>n,fun|1=>0|n=>n⟩
theorem Tryz.Ow:Go.Proofs.Lays.n145 Tryz.prog Tryz.DW:={
 mixed:=by kernel_rfl
 f145:=Tryz.func119.trans (congrArg some (by kernel_rfl))
 f217:=Tryz.func219.trans (congrArg some (by kernel_rfl))
 f219:=Tryz.func206.trans (congrArg some (by kernel_rfl))
 f220:=Tryz.func178.trans (congrArg some (by kernel_rfl))
 f224:=Tryz.func221.trans (congrArg some (by kernel_rfl))
 f225:=Tryz.func220.trans (congrArg some (by kernel_rfl))
 f266:=Tryz.func235.trans (congrArg some (by kernel_rfl))
 f267:=Tryz.func222.trans (congrArg some (by kernel_rfl))
 f314:=Tryz.func236.trans (congrArg some (by kernel_rfl))
 t3:=Tryz.underlying3
 a3:=Tryz.isAgg3
 z3:=Tryz.sizeOf3
 v3:=Tryz.zeroValue3
 t4:=Tryz.underlying4
 a4:=Tryz.isAgg4
 z4:=Tryz.sizeOf4
 v4:=Tryz.zeroValue4
 t5:=Tryz.underlying5
 a5:=Tryz.isAgg5
 z5:=Tryz.sizeOf5
 v5:=Tryz.zeroValue5
 t9:=Tryz.underlying9
 a9:=Tryz.isAgg9
 z9:=Tryz.sizeOf9
 v9:=Tryz.zeroValue9
 t46:=Tryz.underlying279
 a46:=Tryz.isAgg279
 z46:=Tryz.sizeOf279
 v46:=Tryz.zeroValue279
 t51:=Tryz.underlying333
 a51:=Tryz.isAgg333
 z51:=Tryz.sizeOf333
 v51:=Tryz.zeroValue333
 t59:=Tryz.underlying232
 a59:=Tryz.isAgg232
 z59:=Tryz.sizeOf232
 v59:=Tryz.zeroValue232
 t146:=Tryz.underlying363
 a146:=Tryz.isAgg363
 z146:=Tryz.sizeOf363
 v146:=Tryz.zeroValue363
 g1:=by kernel_rfl }
open Go.RowKit Go.Lib in
theorem Tryz.strings_Cut(s sep:ByteArray)(m:Int)(w:World)(hs:s.size<4294967281)(hm:w.cell? ⟨0,0,none⟩=some (.int .i64 m)) :
  Calls Tryz.prog 119 #[.string s,.string sep] w fun e w'=>e = .returned (.tuple #[.string ⟨(Lib.cut s.data.toList sep.data.toList).1.toArray⟩,.string ⟨(Lib.cut s.data.toList sep.data.toList).2.1.toArray⟩,.bool (Lib.cut s.data.toList sep.data.toList).2.2]) /\ ∃ n,w'=w.drewN n:=Any.strings_Cut Tryz.Ow s sep m w hs hm
def Tryz.DX:Go.Shelf.Ren:=⟨fun|146=>124|221=>181|268=>210|138=>211|143=>212|195=>228|197=>229|218=>230|219=>206|260=>240|217=>219|225=>220|224=>221|267=>222|266=>235|314=>236|n=>n,fun|9=>9|31=>76|3=>3|4=>4|0=>0|105=>357|21=>21|5=>5|46=>279|119=>378|139=>381|138=>380|146=>363|51=>333|n=>n,fun|1=>0|3=>4|4=>5|n=>n⟩
theorem Tryz.Ox:Go.Proofs.Lays.n146 Tryz.prog Tryz.DX:={
 mixed:=by kernel_rfl
 f138:=Tryz.func211.trans (congrArg some (by kernel_rfl))
 f143:=Tryz.func212.trans (congrArg some (by kernel_rfl))
 f146:=Tryz.func124.trans (congrArg some (by kernel_rfl))
 f195:=Tryz.func228.trans (congrArg some (by kernel_rfl))
 f197:=Tryz.func229.trans (congrArg some (by kernel_rfl))
 f217:=Tryz.func219.trans (congrArg some (by kernel_rfl))
 f218:=Tryz.func230.trans (congrArg some (by kernel_rfl))
 f219:=Tryz.func206.trans (congrArg some (by kernel_rfl))
 f221:=Tryz.func181.trans (congrArg some (by kernel_rfl))
 f224:=Tryz.func221.trans (congrArg some (by kernel_rfl))
 f225:=Tryz.func220.trans (congrArg some (by kernel_rfl))
 f260:=Tryz.func240.trans (congrArg some (by kernel_rfl))
 f266:=Tryz.func235.trans (congrArg some (by kernel_rfl))
 f267:=Tryz.func222.trans (congrArg some (by kernel_rfl))
 f268:=Tryz.func210.trans (congrArg some (by kernel_rfl))
 f314:=Tryz.func236.trans (congrArg some (by kernel_rfl))
 t0:=Tryz.underlying0
 a0:=Tryz.isAgg0
 z0:=Tryz.sizeOf0
 v0:=Tryz.zeroValue0
 t3:=Tryz.underlying3
 a3:=Tryz.isAgg3
 z3:=Tryz.sizeOf3
 v3:=Tryz.zeroValue3
 t4:=Tryz.underlying4
 a4:=Tryz.isAgg4
 z4:=Tryz.sizeOf4
 v4:=Tryz.zeroValue4
 t5:=Tryz.underlying5
 a5:=Tryz.isAgg5
 z5:=Tryz.sizeOf5
 v5:=Tryz.zeroValue5
 t9:=Tryz.underlying9
 a9:=Tryz.isAgg9
 z9:=Tryz.sizeOf9
 v9:=Tryz.zeroValue9
 t21:=Tryz.underlying21
 a21:=Tryz.isAgg21
 z21:=Tryz.sizeOf21
 v21:=Tryz.zeroValue21
 t31:=Tryz.underlying76
 a31:=Tryz.isAgg76
 z31:=Tryz.sizeOf76
 v31:=Tryz.zeroValue76
 t46:=Tryz.underlying279
 a46:=Tryz.isAgg279
 z46:=Tryz.sizeOf279
 v46:=Tryz.zeroValue279
 t51:=Tryz.underlying333
 a51:=Tryz.isAgg333
 z51:=Tryz.sizeOf333
 v51:=Tryz.zeroValue333
 t105:=Tryz.underlying357
 a105:=Tryz.isAgg357
 z105:=Tryz.sizeOf357
 v105:=Tryz.zeroValue357
 t119:=Tryz.underlying378
 a119:=Tryz.isAgg378
 z119:=Tryz.sizeOf378
 t138:=Tryz.underlying380
 a138:=Tryz.isAgg380
 z138:=Tryz.sizeOf380
 v138:=Tryz.zeroValue380
 t139:=Tryz.underlying381
 a139:=Tryz.isAgg381
 z139:=Tryz.sizeOf381
 v139:=Tryz.zeroValue381
 t146:=Tryz.underlying363
 a146:=Tryz.isAgg363
 z146:=Tryz.sizeOf363
 v146:=Tryz.zeroValue363
 g1:=by kernel_rfl
 g3:=by kernel_rfl
 g4:=by kernel_rfl }
open Go.RowKit Go.Lib in
theorem Tryz.strings_Split(s sep:ByteArray)(m:Int)(w:World)(hs:s.size<4294967281)(hm:w.cell? ⟨0,0,none⟩=some (.int .i64 m))(h1:1<=sep.size) :
  Calls Tryz.prog 124 #[.string s,.string sep] w fun e w'=>
   e = .returned (.slice (some ⟨w.heap.size,0,none⟩) (Lib.countB s sep+1) (Lib.countB s sep+1))/\w'=w.alloc (.cells ((Lib.splitB sep 0 (Lib.countB s sep) s).map Value.string).toArray 9):=Any.strings_Split Tryz.Ox (by kernel_rfl) s sep m w hs hm h1
theorem Mu(n:Int)(h : -1000000000000000000<=n/\n<=1000000000000000000):bq Tryz.prog 176 [i64 n] (.str (r6 n)):=by
 refine ni (enters Tryz.func176 rfl (by decide +kernel)) fun aT w F hl hf hr=>?_;obtain⟨x,l',h1,h2,h3⟩:=hr;have h2:x = .int .i64 n:=h2;have h3:l' = []:=h3;subst h2 h3;have hv:aT = #[.int .i64 n]:=Array.ext' h1;subst hv;refine(Tryz.strconv_Itoa n (by omega) (by omega) w (hl.tab 3 (by kernel_rfl))).mono ?_;rintro e w' ⟨rfl,k,os,rfl⟩;have hx:(⟨(Lib.itoa n).toArray⟩:ByteArray)=r6 n:=by rw[r6,OE h]
 rw[hx];have dc:(Go.Sort.grow (w.drewN k) os).heap.size=w.heap.size+os.size:=by simp[Go.Sort.grow,World.drewN]
 refine⟨_,rfl,⟨rfl,rfl,rfl,by omega,fun b hb=>?_⟩,F,fun _ _=>rfl,fun b hb=>hf b (by omega),rfl⟩;show(w.heap++os)[b]?=_;rw[Array.getElem?_append_left hb]
end Go.PX
namespace Go.PX
open Go.Proofs
open Go.RowKit
def eX(c:UInt8):List UInt8->List UInt8×List UInt8×Bool
 | []=>([],[],false)
 | x::r=>if x=c then ([],r,true) else (x::(eX c r).1,(eX c r).2.1,(eX c r).2.2)
def yg(x:UInt8):List (List UInt8)->List (List UInt8)
 | []=>[[x]]
 | a::t=>(x::a)::t
def gm(c:UInt8):List UInt8->List (List UInt8)
 | []=>[[]]
 | x::r=>if x=c then []::gm c r else yg x (gm c r)
theorem Ol(c:UInt8):Lib.index [] [c] = -1:=rfl
theorem idx_eq(c:UInt8)(r:List UInt8):Lib.index (c::r) [c]=0:=by
 rw[Lib.index_one,Lib.indexByte];simp
theorem LQ{c x:UInt8}(h:x≠c)(r:List UInt8):Lib.index (x::r) [c]=if Lib.index r [c] == -1 then -1 else Lib.index r [c]+1:=by
 rw[Lib.index_one,Lib.indexByte,Lib.index_one];simp[h]
theorem KE(c:UInt8):∀ l:List UInt8,Lib.cut l [c]=eX c l
 | []=>by simp[Lib.cut,Ol,eX]
 | x::r=>by
  rw[eX];by_cases h:x=c
  ·subst h
   rw[if_pos rfl,Lib.cut,idx_eq];simp
  ·rw[if_neg h,<- KE c r]
   have AF:=Lib.index_ge r [c];unfold Lib.cut;rw[LQ h];by_cases h1:Lib.index r [c] = -1
   ·simp[h1]
   ·obtain⟨i,hi⟩:∃ i:Nat,Lib.index r [c]=i:=⟨(Lib.index r [c]).toNat,by omega⟩
    rw[hi];have h2:((i:Int) == -1)=false:=by first|(simp;done)|(simp;omega)
    rw[h2];have h3:(0:Int)<=(i:Int)+1:=by omega
    have h4:(0:Int)<=(i:Int):=by omega
    simp only[Bool.false_eq_true,if_false,if_pos h3,if_pos h4];have h5:((i:Int)+1).toNat=i+1:=by omega
    have h6:((i:Int)).toNat=i:=by omega
    rw[h5,h6];simp
theorem JH(c:UInt8):∀ l,gm c l ≠ []
 | []=>by simp[gm]
 | x::r=>by
  rw[gm];split
  ·simp
  ·cases gm c r<;>simp[yg]
theorem Ba(c:UInt8):∀ l:List UInt8,Lib.splitK [c] 0 (l.count c) l=gm c l
 | []=>rfl
 | x::r=>by
  have ih:=Ba c r;rw[gm];by_cases h:x=c
  ·subst h
   rw[if_pos rfl,List.count_cons_self,Lib.splitK,idx_eq,<- ih];simp
  ·rw[if_neg h,List.count_cons_of_ne (by simpa using h)]
   cases hk:r.count c with
   | zero=>
    rw[hk]at ih;rw[<- ih];rfl
   | succ k=>
    rw[hk]at ih;rw[<- ih];have AF:=Lib.index_ge r [c];rw[Lib.splitK,Lib.splitK,LQ h];by_cases h1:Lib.index r [c] = -1
    ·rw[h1];simp[yg]
    ·obtain⟨i,hi⟩:∃ i:Nat,Lib.index r [c]=i:=⟨(Lib.index r [c]).toNat,by omega⟩
     rw[hi];have h2:((i:Int) == -1)=false:=by first|(simp;done)|(simp;omega)
     have h3:(((i:Int)+1) == -1)=false:=by first|(simp;done)|(simp;omega)
     rw[h2];simp only[Bool.false_eq_true,if_false];rw[h3];have h5:((i:Int)+1).toNat=i+1:=by omega
     have h6:((i:Int)).toNat=i:=by omega
     simp only[Bool.false_eq_true,if_false,h5,h6,yg];simp
def gk(c:UInt8)(s:ByteArray):List ByteArray:=(gm c s.data.toList).map fun l=>⟨l.toArray⟩
theorem JG(c:UInt8)(s:ByteArray):Lib.splitB ⟨#[c]⟩ 0 (Lib.countB s ⟨#[c]⟩) s=gk c s:=by
 have h:=Lib.splitB_data ⟨#[c]⟩ 0 (Lib.countB s ⟨#[c]⟩) s;have hc:Lib.countB s ⟨#[c]⟩=s.data.toList.count c:=Lib.count_one c s.data.toList;rw[hc]at h ⊢;have h2:(⟨#[c]⟩:ByteArray).data.toList = [c]:=rfl;rw[h2,Ba]at h;unfold gk;rw[<- h,List.map_map];conv=>lhs;rw[<- List.map_id (Lib.splitB ⟨#[c]⟩ 0 (s.data.toList.count c) s)]
 refine List.map_congr_left fun x _=>?_;cases x;simp
def dY(s:ByteArray):Option Int:=
 match Lib.atoiAll s.data.toList with
 | .ok v=>some v
 | _=>none
theorem EJ{F:Nat->Nat}{w:World}{s:ByteArray}{aT:Array Value}(hr:bc F w [.str s] aT.toList):aT = #[.string s]:=by
 obtain⟨x,l',h1,h2,h3⟩:=hr;have h2:x = .string s:=h2;have h3:l' = []:=h3;subst h2 h3;exact Array.ext' h1
theorem Bb{F:Nat->Nat}{w:World}{s t:ByteArray}{aT:Array Value}(hr:bc F w [.str s,.str t] aT.toList):aT = #[.string s,.string t]:=by
 obtain⟨x,l',h1,h2,y,l2,rfl,h3,h4⟩:=hr;have h2:x = .string s:=h2;have h3:y = .string t:=h3;have h4:l2 = []:=h4;subst h2 h3 h4;exact Array.ext' h1
theorem Grown.of{w w':World}(h:Below w.heap.size w w'):Grown w w':=⟨h.os,h.tape,h.output,h.size,h.block⟩
theorem VG(s:ByteArray)(v:Int)(hs:s.size<=1000000000)(h:dY s=some v):bq Tryz.prog 180 [.str s] (.tup [i64 v,.nili]):=by
 refine ni (enters Tryz.func180 rfl (by decide +kernel)) fun aT w F hl hf hr=>?_;have ha:Lib.atoiAll s.data.toList = .ok v:=by
  unfold dY at h;split at h
  ·rename_i u hu;cases h;exact hu
  ·cases h
 rw[EJ hr];refine(Tryz.strconv_Atoi_ok s (by omega) v ha w).mono ?_;rintro e w' ⟨rfl,rfl|⟨t,rfl⟩⟩
 ·exact⟨_,rfl,Grown.refl _,F,fun _ _=>rfl,hf,_,rfl,_,_,rfl,rfl,_,_,rfl,rfl,rfl⟩
 ·have h2:=Lib.bytesWorld_size w 5 t
  exact⟨_,rfl,Grown.of (Lib.bytesWorld_below w 5 t),F,fun _ _=>rfl,fun b hb=>hf b (by omega),_,rfl,_,_,rfl,rfl,_,_,rfl,rfl,rfl⟩
theorem aay(s:ByteArray)(c:UInt8)(hs:s.size<=1000000000):bq Tryz.prog 119 [.str s,.str ⟨#[c]⟩] (.tup [.str ⟨(eX c s.data.toList).1.toArray⟩,.str ⟨(eX c s.data.toList).2.1.toArray⟩,.bool (eX c s.data.toList).2.2]):=by
 refine ni (enters Tryz.func119 rfl (by decide +kernel)) fun aT w F hl hf hr=>?_;rw[Bb hr];obtain⟨m,hm⟩:=hl.len 0 (by kernel_rfl);have hc:=KE c s.data.toList;refine(Tryz.strings_Cut s ⟨#[c]⟩ m w (by omega) hm).mono ?_;rintro e w' ⟨rfl,n,rfl⟩;have h2:(⟨#[c]⟩:ByteArray).data.toList = [c]:=rfl;rw[h2,hc];exact⟨_,rfl,⟨rfl,rfl,rfl,Nat.le_refl _,fun _ _=>rfl⟩,F,fun _ _=>rfl,hf,_,rfl,_,_,rfl,rfl,_,_,rfl,rfl,_,_,rfl,rfl,rfl⟩
def jQ(l:List ByteArray):D:=.vs (l.map fun x=>[.str x])
theorem y5{F:Nat->Nat}{w:World}{b:Nat}:∀ (l:List ByteArray) (off:Nat),(∀ i x,l[i]?=some x->off+i<F b/\w.cell? ⟨b,off+i,none⟩=some (.string x))->dz F w b off 1 (l.map fun x=>[D.str x])
 | [],_,_=>trivial
 | x::r,off,h=>by
  obtain⟨h1,h2⟩:=h 0 x rfl;exact⟨rfl,⟨h1,⟨_,h2,rfl⟩,trivial⟩,y5 r (off+1) fun i y hy=>by
   have:=h (i+1) y hy
   rwa [show off+(i+1)=off+1+i by omega]at this⟩
theorem aaB(s:ByteArray)(c:UInt8)(hs:s.size<=1000000000):bq Tryz.prog 124 [.str s,.str ⟨#[c]⟩] (jQ (gk c s)):=by
 refine ni (enters Tryz.func124 rfl (by decide +kernel)) fun aT w F hl hf hr=>?_;rw[Bb hr];obtain⟨m,hm⟩:=hl.len 0 (by kernel_rfl);refine(Tryz.strings_Split s ⟨#[c]⟩ m w (by omega) hm (Nat.le_refl 1)).mono ?_;rintro e w' ⟨rfl,rfl⟩;have hlen:=Lib.splitB_all ⟨#[c]⟩ (Nat.le_refl 1) 0 _ s rfl;rw[JG]at hlen ⊢;rw[<- hlen];generalize gk c s=l at hlen ⊢;have eW:l ≠ []:=by rintro rfl;simp at hlen
 refine⟨_,rfl,⟨rfl,rfl,rfl,by simp,fun b hb=>by show(w.heap.push _)[b]?=_;rw[Array.getElem?_push_lt hb,Array.getElem?_eq_getElem hb]⟩,fun b=>if b=w.heap.size then l.length else F b,fun b hb=>if_neg (by omega),fun b hb=>?_,_,_,_,rfl,by simp,Nat.le_refl _,fun _=>⟨_,0,1,rfl,Nat.one_pos,y5 l 0 fun i x hx=>?_⟩⟩
 ·have:(w.alloc (.cells (l.map Value.string).toArray 9)).heap.size=w.heap.size+1:=by simp
  show(if b=w.heap.size then l.length else F b)=0;rw[if_neg (by omega)];exact hf b (by omega)
 ·have hi:i<l.length:=(List.getElem?_eq_some_iff.1 hx).1
  refine⟨by simp;exact hi,?_⟩;rw[cell_of_row _ _ _ _ _ _ (heap_alloc_new w _)];simp[hx]
end Go.PX
namespace Go.PX
open Go.RowKit
structure Su{σ:Type}(P:Program)(Y:Hd σ)(f:FuncId)(args:List V)(h:Heap)(s:σ)(Q:V->Heap->σ->Prop)(X:Value->Heap->σ->Prop):Prop where
 enter:∀ (vs:Array Value) (w:World),(callFunc f vs).run P w = .ok (.enter f vs) w
 run:∀ (cx:Cx σ),ct P Y cx -> ∀ (L:Loc) (F:Nat->Nat) (aT:Array Value) (w:World),aZ cx L F h s w->aq cx.yv L F w args aT.toList ->
  CallsIn Fence.wide 0 P f aT w fun e w'=>(∃ x,e = .returned x /\ ∃ v h' s' L' F',Q v h' s'/\aZ cx L' F' h' s' w'/\bg cx.yv L' F' w' v x/\Tr F w F' w'/\mh L L') \/
   ∃ pv h' s' L' F',e = .panicked [{ v:=pv,recovered:=false }]/\X pv h' s'/\aZ cx L' F' h' s' w'/\Tr F w F' w'/\mh L L'
def Ij(P:Program)(f:FuncId)(args:List V)(h:Heap)(Q:V->Heap->Prop)(X:Value->Heap->Prop):Prop:=
 ∀ {σ:Type} (Y:Hd σ) (s:σ),Su P Y f args h s (fun v h' s'=>Q v h'/\s'=s) fun pv h' s'=>X pv h'/\s'=s
def V0{σ:Type}(Y:Hd σ)(X:Value->Heap->σ->Prop):Hd σ:={ y:=Y.y,p:=fun pv _ h s=>rD [] h s fun _ h' s'=>X pv h' s' }
section
variable {P : Program} {T : e7} {σ : Type}
theorem pZ{cx:Cx σ}{L:Loc}{F0:Nat->Nat}{w0:World}{h:Heap}{s:σ}{fn:Func}{tmps:Array Value}{R:Ending->World->Prop}{ch:List PanicEntry}:∀ (m:List Nat) {F:Nat->Nat} {w:World},aZ cx L F h s w->Tr F0 w0 F w ->
  (∀ b∈m,w.heap[b]?=some (.deferred (some []))/\¬ cx.C s b)->m.Nodup->(∀ w',aZ cx L F h s w'->Tr F w F w'->R (.panicked ch) w') ->
  LeavesInM Fence.wide 0 P fn tmps R (m.map mark) (.panicking ch) w
 | [],F,w,hh,tr,hm,hn,hR=>by
  simp only[List.map_nil,LeavesInM,LeavesIn];exact hR w hh (Tr.refl F w)
 | b::m,F,w,hh,tr,hm,hn,hR=>by
  obtain⟨hb,hC⟩:=hm b (List.mem_cons_self ..);obtain⟨mc,mV⟩:=hh.GG hb hC;simp only[List.map_cons,LeavesInM];refine⟨by simp,.inl ⟨b,w.putObj b (.deferred none),rfl,?_,?_⟩⟩
  ·simp[Instr.takeDeferred,Sem.run_bind,getObj,setObj,Sem.run,hb,Result.andThen,World.putObj]
  ·have tZ:=List.nodup_cons.1 hn
   refine pZ m mc (Tr.trans tr mV) (fun x hx=>?_) tZ.2 fun w' h1 h2=>hR w' h1 (Tr.trans mV h2);have I0:x≠b:=by rintro rfl;exact tZ.1 hx
   refine⟨?_,(hm x (List.mem_cons_of_mem _ hx)).2⟩;rw[<- (hm x (List.mem_cons_of_mem _ hx)).1];simp[World.putObj,Array.getElem?_setIfInBounds_ne (Ne.symm I0)]
theorem xR(hm:P.follows .mixedOrders=true)(hT:bA P T){Y:Hd σ}{f:FuncId}{fn:Func}{c:Code}(hf:P.funcs[f]?=some fn)(hb:fn.body=some c){ft:FT}{args:List V}(gh:nS ft fn args.length=true)
  {h:Heap} {s:σ} {Q:V->Heap->σ->Prop} {X:Value->Heap->σ->Prop} (hw:Cy P T ft (V0 Y X) c ⟨dy 0 args,h,s⟩ (Sz T fn.results.toList Q)):Su P Y f args h s Q X:=by
 unfold nS at gh;rw[hb]at gh;simp only[Bool.and_eq_true,bne_iff_ne,ne_eq]at gh;obtain⟨⟨⟨⟨AE,yf⟩,Lx⟩,pR⟩,hlen⟩:=gh;have Lx:=Nat.le_of_ble_eq_true Lx;have hlen:=Nat.le_of_ble_eq_true hlen;refine⟨fun vs w=>by simp[callFunc,hf,pR,hb,Go.mark],fun cx hY L F aT w hh hr=>?_⟩;have FM:aT.size=args.length:=by simpa using hr.length
 have dc:(aT++Array.replicate (fn.ntmps-aT.size) undef).size=fn.ntmps:=by simp;omega
 refine callsIn_of_wp_marks hf hb trivial ?_;have hg:Good { cx with pρ:=L.ρ,pκ:=L.κ,base:=[] } none [] L F ⟨dy 0 args,h,s⟩ { tmps:=aT++Array.replicate (fn.ntmps-aT.size) undef,defers:=[] } w:=by
  refine⟨⟨hh.hg,hh.iw,hh.fresh,hh.obj,hh.own,hh.inj⟩,fun t v ht=>?_,rfl,(fun b hb=>by cases hb),List.nodup_nil,(fun l hl=>by cases hl),fun _ _=>⟨rfl,rfl⟩,by rw[dc];exact Lx⟩;obtain⟨k,hk,hv⟩:=lg ht;rw[Nat.zero_add]at hk;subst hk;obtain⟨x,hx,sw⟩:=hr.get t hv;refine⟨x,?_,sw⟩;have dN:t<aT.size:=by
   have:=(List.getElem?_eq_some_iff.1 hx).1;simpa using this
  rw[Array.getElem?_append_left dN];simpa using hx
 have YY:ct P (V0 Y X) { cx with pρ:=L.ρ,pκ:=L.κ,base:=[] }:=by
  refine⟨?_,hY.laid⟩;intro l hl args h s Q hy L' F' aT w mc hr;obtain⟨fn,tmps,zq,body,h1,h2⟩:=hY.yld l hl args h s Q hy L' F' aT w ⟨mc.hg,mc.iw,mc.fresh,mc.obj,mc.own,mc.inj⟩ hr;refine⟨fn,tmps,zq,body,h1,h2.mono ?_⟩;rintro e w' ⟨x,he,v,h',s',Ka,GV,hq,eG,rest⟩;exact⟨x,he,v,h',s',Ka,GV,hq,⟨eG.hg,eG.iw,eG.fresh,eG.obj,eG.own,eG.inj⟩,rest⟩
 have RQ:=dX hT c (an hm hT yf) ⟨dy 0 args,h,s⟩ _ hw _ YY none [] L F _ w hg (by rw[dc];exact AE);have RQ:c.wpIn Fence.wide 0 P _ { tmps:=aT++Array.replicate (fn.ntmps-aT.size) undef,defers:=[] } w:=RQ;refine wpIn_mono RQ fun ex a' w' hq=>?_;rcases hq with⟨e',st',m',L',F',rfl,hk,dp,tr,hs⟩|⟨pv,e',h',s',m',L',F',rfl,hy,dp,tr,hs⟩
 case inr=>
  show LeavesInM Fence.wide 0 P fn a'.tmps _ a'.defers (.panicking [{ v:=pv,recovered:=false }]) w';rw[dp.sR,List.append_nil];refine pZ m' dp.heap tr dp.pg dp.vD fun wv eG wu=>?_;obtain⟨hy⟩:=(show rD [] h' s' (fun _ h' s'=>X pv h' s') from hy);obtain⟨v,h2,L2,F2,hx,N4,_,Bf,Jz⟩:=hy cx L' F' [] wv ⟨eG.hg,eG.iw,eG.fresh,eG.obj,eG.own,eG.inj⟩ rfl;refine .inr ⟨pv,h2,s',L2,F2,rfl,hx,N4,Tr.trans tr (Tr.trans wu Bf),fun i hi=>?_⟩;obtain⟨p1,p2⟩:=Jz i hi;obtain⟨p3,p4⟩:=dp.jy i hi;exact⟨p1.trans p3,p2.trans p4⟩
 have fin:Sz T fn.results.toList Q .normal st'->LeavesInM Fence.wide 0 P fn a'.tmps (fun e w'=>(∃ x,e = .returned x /\ ∃ v h' s' L' F',Q v h' s'/\aZ cx L' F' h' s' w'/\bg cx.yv L' F' w' v x/\Tr F w F' w'/\mh L L') \/
   ∃ pv h' s' L' F',e = .panicked [{ v:=pv,recovered:=false }]/\X pv h' s'/\aZ cx L' F' h' s' w'/\Tr F w F' w'/\mh L L') a'.defers .returning w':=by
  intro hk;rw[dp.sR,List.append_nil];refine kT m' dp.heap tr dp.pg dp.vD fun wv eG wu=>?_;obtain⟨e1,h1,s1⟩:=st';have hk:Ew T e1 h1 fn.results.toList fun l=>rD l h1 s1 Q:=hk;obtain⟨l,⟨FI⟩,bN⟩:=uQ (P:=P) hT hk;have Fz:Good { cx with pρ:=L.ρ,pκ:=L.κ,base:=[] } none [] L' F' ⟨e1,h1,s1⟩ { a' with defers:=[] } wv:=by
   refine⟨eG,fun t v ht=>?_,rfl,(fun b hb=>by cases hb),List.nodup_nil,(fun l hl=>by cases hl),dp.jy,dp.ud⟩;obtain⟨x,hx,sw⟩:=dp.env t v ht;exact⟨x,hx,bg.mono wu v x (fun _ _=>⟨rfl,rfl⟩) sw⟩
  obtain⟨zk,tg,rU⟩:=bN Fz;obtain⟨v,h',L2,F2,hq,N4,wK,Bf,Jz⟩:=FI cx L' F' zk wv ⟨eG.hg,eG.iw,eG.fresh,eG.obj,eG.own,eG.inj⟩ rU;refine⟨_,kl tg,.inl ⟨_,rfl,v,h',s1,L2,F2,hq,N4,wK,Tr.trans tr (Tr.trans wu Bf),fun i hi=>?_⟩⟩;obtain⟨p1,p2⟩:=Jz i hi;obtain⟨p3,p4⟩:=dp.jy i hi;exact⟨p1.trans p3,p2.trans p4⟩
 cases e' with
 | normal=>exact fin hk
 | ret=>exact fin hk
 | exit i=>exact hk.elim
def KD(d:Option Nat)(e:Env):Env:=
 match d with
 | some d=>cut e d
 | none=>e
theorem xX:∀ {e:Env} {d s:Nat} {v:V},get (cut e d) s=some v->s≠d/\get e s=some v
 | [],_,_,_,h=>by cases h
 | (k,u)::r,d,s,v,h=>by
  simp only[cut]at h;split at h
  ·rename_i hk
   obtain⟨h1,h2⟩:=xX h;refine⟨h1,?_⟩;simp only[get];split
   ·rename_i hs
    have:=Nat.eq_of_beq_eq_true hk;have:=Nat.eq_of_beq_eq_true hs;omega
   ·exact h2
  ·rename_i hk
   simp only[get]at h ⊢;split at h
   ·rename_i hs
    refine⟨fun e=>?_,h⟩;subst e;rw[hs]at hk;cases hk
   ·exact xX h
theorem Good.Wq{cx:Cx σ}{r:Option Nat}{m:List Nat}{L:Loc}{F:Nat->Nat}{e:Env}{h:Heap}{s:σ}{a:Act}{w:World}{d:Option Nat}{x:Value}(hg:Good cx r m L F ⟨e,h,s⟩ (a.put d x) w):Good cx r m L F ⟨KD d e,h,s⟩ a w:=by
 refine⟨hg.heap,fun t v ht=>?_,?_,hg.pg,hg.vD,hg.lk,hg.jy,?_⟩
 ·cases d with
  | none=>exact hg.env t v ht
  | some d=>
   obtain⟨h1,h2⟩:=xX ht;obtain⟨y,h3,h4⟩:=hg.env t v h2;refine⟨y,?_,h4⟩;rw[<- h3];simp[Act.put,Array.getElem?_setIfInBounds_ne (Ne.symm h1)]
 ·have:=hg.sR
  cases d<;>exact this
 ·have:=hg.ud
  cases d<;>simpa[Act.put]using this
theorem sB{Y:Hd σ}{f:FuncId}{args0:List V}{h0:Heap}{s:σ}{Q:V->Heap->σ->Prop}{X:Value->Heap->σ->Prop}(hf:Su P Y f args0 h0 s Q X)(tb:List Nat){e:Env}{h:Heap}{d:Option Nat}{args:List V}{K:St σ->Prop}
  (dx:tN (eU tb (d.getD 0)) args0=args) (e8:jr (eU tb (d.getD 0)) h 1000000 tb h0) (sx:nodupB tb=true) (yl:Nat.ble tb.length 1000=true)
  (hq:∀ v h1 s',Q v h1 s'->gG tb d v h1=true/\bw (cL tb d v h1) e h fun e h=>K ⟨e,h,s'⟩)
  (hx:∀ pv h1 s',X pv h1 s'->gG tb d (.d (.tup [])) h1=true/\bw (cL tb d (.d (.tup [])) h1) e h fun e h=>Y.p pv (KD d e) h s'):dO P Y ⟨e,h,s⟩ d f args K:=by
 refine⟨hf.enter,fun cx hY r m L F a w aT hg hd hr=>?_⟩;have sx:=gX sx;have yl:=Nat.le_of_ble_eq_true yl;obtain⟨R,hR⟩:∃ R,R=eU tb (d.getD 0):=⟨_,rfl⟩;have nb:∀ k id,tb[k]?=some id->R (1000000+k)=id:=fun k id hk=>by rw[hR];exact od hk yl
 rw[<- hR]at dx e8;subst dx;have hh:dB h (St.mk e h s).heap:=fun _ _ h=>h;have hH:=uA hh e8 nb sx hg;have Fq:aZ (B9 cx s w F (xa R L h0)) ⟨fun i=>L.ρ (R i),fun i=>L.κ (R i)⟩ F h0 s w:=
  ⟨⟨hg.heap.hg,Nat.le_refl _,fun b hb hc=>hc,fun b hb hl hc=>⟨rfl,rfl⟩⟩,fun b hb=>hb.elim (hg.heap.iw b) (fun h=>h.1),hH.fresh,hH.obj,fun i o hi jn=>⟨(hH.own i o hi jn).1,fun hC=>hC.elim (hH.own i o hi jn).2 fun hC=>hC.2 ⟨i,o,hi,jn,rfl⟩⟩,hH.inj⟩
 have uz:aq cx.yv ⟨fun i=>L.ρ (R i),fun i=>L.κ (R i)⟩ F w args0 aT.toList:=(aq.o6 (R:=R) args0 _ fun _ _=>⟨rfl,rfl⟩).1 hr;have ea:=hf.run _ (lT hY) _ F aT w Fq uz;refine ea.mono ?_;rintro en w' (⟨x,rfl,v,h',s',L',F',HA,qA,hv,tr,jy⟩|⟨pv,h',s',L',F',rfl,jT,qA,tr,jy⟩)
 ·obtain⟨hB,hk⟩:=hq _ _ _ HA
  obtain⟨zF,_,Ds,im⟩:=qA.hg;obtain⟨L2,gC⟩:=ov hB hR.symm hh e8 hg hd zF (fun b hb=>qA.iw b (.inl hb)) (fun b hb hl hc=>Ds b hb hc) im qA.fresh qA.obj
   (fun i o hi hb=>⟨(qA.own i o hi hb).1,fun hC=>(qA.own i o hi hb).2 (.inl hC),fun dN=>Classical.byContradiction fun hl=>(qA.own i o hi hb).2 (.inr ⟨dN,hl⟩)⟩)
   qA.inj hv tr jy
  rw[cU s']at hk;have mY:(aR (⟨e,h,s'⟩:St σ) (cL tb d v h')).s=s':=dM _ _;refine .inl ⟨x,rfl,_,L2,F',?_,gC,tr⟩;generalize aR (⟨e,h,s'⟩:St σ) (cL tb d v h')=o7 at hk mY;obtain⟨e2,h2,s2⟩:=o7;simp only at mY;subst mY;exact hk
 ·obtain⟨hB,hk⟩:=hx _ _ _ jT
  obtain⟨zF,_,Ds,im⟩:=qA.hg;obtain⟨L2,gC⟩:=ov (v:=.d (.tup [])) (x:=.tuple #[]) hB hR.symm hh e8 hg hd zF (fun b hb=>qA.iw b (.inl hb)) (fun b hb hl hc=>Ds b hb hc) im qA.fresh qA.obj
   (fun i o hi hb=>⟨(qA.own i o hi hb).1,fun hC=>(qA.own i o hi hb).2 (.inl hC),fun dN=>Classical.byContradiction fun hl=>(qA.own i o hi hb).2 (.inr ⟨dN,hl⟩)⟩)
   qA.inj ⟨#[],rfl,rfl⟩ tr jy
  rw[cU s']at hk;have mY:(aR (⟨e,h,s'⟩:St σ) (cL tb d (.d (.tup [])) h')).s=s':=dM _ _;generalize aR (⟨e,h,s'⟩:St σ) (cL tb d (.d (.tup [])) h')=o7 at hk mY gC;obtain⟨e2,h2,s2⟩:=o7;simp only at mY;subst mY;exact .inr ⟨pv,KD d e2,h2,s2,L2,F',rfl,hk,gC.Wq,tr⟩
end
end Go.PX
namespace Go.PX
open Go.Proofs
open Go.RowKit
def oI:Value:=.iface 34 (.int .i64 6)
theorem o9.ofX{P:Program}{f:FuncId}{args:List V}{h:Heap}{Q:V->Heap->Prop}{X:Value->Heap->Prop}(hf:Ij P f args h Q X)(hx:∀ v h,¬ X v h):o9 P f args h Q:=by
 intro σ Y s;obtain⟨h1,h2⟩:=hf Y s;refine⟨h1,fun cx hY L F aT w hh hr=>(h2 cx hY L F aT w hh hr).mono ?_⟩;rintro e w' (h3|⟨pv,h',s',L',F',he,jT,_⟩)
 ·exact h3
 ·exact absurd jT.1 (hx _ _)
theorem aaA(b:Bool):Ij Tryz.prog 121 [.d (.bool b)] [] (fun v h'=>b=true/\v = .d (.tup [])/\h' = []) (fun pv h'=>b=false/\pv=oI/\h' = []):=by
 intro σ Y st;refine xR mixed ak Tryz.func121 rfl (ft:=Pz) (args:=[.d (.bool b)]) (show nS Pz Tryz.f121 1=true from by decide +kernel) ?_
 cases b with
 | true=>
  conv=>whnf
  exact aC [] [] [] rfl trivial rfl ⟨⟨rfl,rfl,rfl⟩,rfl⟩
 | false=>
  conv=>whnf
  exact aC [] [] [] rfl trivial rfl ⟨⟨rfl,rfl,rfl⟩,rfl⟩
theorem e9{σ:Type}{Y:Hd σ}{e:Env}{h:Heap}{s:σ}{d:Option Nat}{b:Bool}{K:St σ->Prop}(hd:gG [] d (.d (.tup [])) []=true)
  (ht:b=true->bw (cL [] d (.d (.tup [])) []) e h fun e h=>K ⟨e,h,s⟩) (hf:b=false->bw (cL [] d (.d (.tup [])) []) e h fun e h=>Y.p oI (KD d e) h s):dO Tryz.prog Y ⟨e,h,s⟩ d 121 [.d (.bool b)] K:=by
 refine sB (aaA b Y s) [] rfl rfl rfl rfl ?_ ?_
 ·rintro v h1 s' ⟨⟨hb,rfl,rfl⟩,rfl⟩
  exact⟨hd,ht hb⟩
 ·rintro pv h1 s' ⟨⟨hb,rfl,rfl⟩,rfl⟩
  exact⟨hd,hf hb⟩
def MO(s:ByteArray):Int:=
 match Lib.atoiAll s.data.toList with
 | .range=>Lib.atoiSat s.data.toList
 | _=>0
theorem Jv(s:ByteArray)(hs:s.size<=1000000000)(h:dY s=none):bq Tryz.prog 180 [.str s] (.tup [i64 (MO s),.ifc 354 (.ref [])]):=by
 refine ni (enters Tryz.func180 rfl (by decide +kernel)) fun aT w F hl hf hr=>?_;rw[EJ hr];obtain⟨t1,v1,rV⟩:=hl.syn 1 (by kernel_rfl);obtain⟨t2,v2,mY⟩:=hl.Xu 2 (by kernel_rfl);rcases hA:Lib.atoiAll s.data.toList with v|_|_
 ·unfold dY at h
  rw[hA]at h;cases h
 ·have RD:MO s=0:=by unfold MO;rw[hA]
  rw[RD];refine(Any.strconv_Atoi_syntax Tryz.yz s (by omega) hA _ w rV (.inr ⟨_,_,rfl⟩)).mono ?_;rintro e w' ⟨N,rfl,hN,QY,hb⟩;exact⟨_,rfl,Grown.of hb,F,fun _ _=>rfl,fun b kS=>hf b (Nat.le_trans hb.size kS),_,rfl,_,_,rfl,rfl,_,_,rfl,⟨_,rfl,_,_,rfl,trivial⟩,rfl⟩
 ·have RD:MO s=Lib.atoiSat s.data.toList:=by unfold MO;rw[hA]
  rw[RD];refine(Any.strconv_Atoi_range Tryz.yz s (by omega) hA _ w mY (.inr ⟨_,_,rfl⟩)).mono ?_;rintro e w' ⟨N,rfl,hN,QY,hb⟩;exact⟨_,rfl,Grown.of hb,F,fun _ _=>rfl,fun b kS=>hf b (Nat.le_trans hb.size kS),_,rfl,_,_,rfl,rfl,_,_,rfl,⟨_,rfl,_,_,rfl,trivial⟩,rfl⟩
theorem VY(s:ByteArray)(hs:s.size<=1000000000):Ij Tryz.prog 122 [.d (.str s)] [] (fun v h'=>∃ n,dY s=some n/\v = .d (i64 n)/\h' = []) (fun pv h'=>dY s=none/\pv=oI/\h' = []):=by
 intro σ Y st;refine xR mixed ak Tryz.func122 rfl (ft:=PA) (args:=[.d (.str s)]) (show nS PA Tryz.f122 1=true from by decide +kernel) ?_;conv=>whnf
 cases hA:dY s with
 | some n=>
  refine ai (VG s n hs hA) rfl rfl ?_;conv=>whnf
  refine e9 rfl (fun _=>?_) (fun h=>by cases h);conv=>whnf
  exact aC [] [.d (i64 n)] [] rfl trivial rfl ⟨⟨n,rfl,rfl,rfl⟩,rfl⟩
 | none=>
  refine ai (Jv s hs hA) rfl rfl ?_;conv=>whnf
  refine e9 rfl (fun h=>by cases h) (fun _=>?_);conv=>whnf
  exact aC [] [] [] rfl trivial rfl ⟨⟨rfl,rfl,rfl⟩,rfl⟩
end Go.PX
namespace Go.PX
open Go.Proofs
def spB:ByteArray:=⟨#[32]⟩
def R2:ByteArray:=⟨#[10]⟩
inductive Wd where
 | s (b:ByteArray)
 | n (k:Int)
def Wd.d:Wd->D
 | .s b=>.ifc 9 (.str b)
 | .n k=>.ifc 3 (i64 k)
def Wd.b:Wd->ByteArray
 | .s b=>b
 | .n k=>r6 k
def o8:List Wd->ByteArray
 | []=>.empty
 | w::r=>(spB++w.b)++o8 r
def oS:List Wd->ByteArray
 | []=>.empty
 | w::r=>w.b++o8 r
def nJ(l:List Wd):ByteArray:=oS l++R2
def u1(l:List Wd):D:=.vs (l.map fun w=>[w.d])
def py:Wd->Prop
 | .s b=>b.size<=1000
 | .n k=>-1000000000000000000<=k/\k<=1000000000000000000
theorem fJ(a b c:ByteArray):a++b++c=a++(b++c):=by simp[ByteArray.append_assoc]
theorem cm(a b:ByteArray):(a++b).size=a.size+b.size:=by simp
theorem Qz(a:ByteArray):a++ByteArray.empty=a:=by simp
theorem oR{w:Wd}(h:py w):w.b.size<=1000:=by
 cases w with
 | s b=>exact h
 | n k=>have:=Je k;show(r6 k).size<=1000;omega
theorem qK:∀ {l:List Wd},(∀ w∈l,py w)->(o8 l).size<=1001*l.length
 | [],_=>Nat.zero_le _
 | w::r,h=>by
  have h1:=qK (l:=r) fun x hx=>h x (List.mem_cons_of_mem _ hx);have h2:=oR (h w (List.mem_cons_self ..));have h3:spB.size=1:=rfl;rw[o8,cm,cm,List.length_cons];omega
theorem Ek(b:ByteArray)(h0:0<b.size)(hm:b.size+1<=140737488355328):o9 Tryz.prog 174 [.ptr 1000000 0,.d (.int .u8 32)] (ky 1000000 1000001 b) fun v h'=>v = .d .nili/\h'=ky 1000000 2000000 (b++⟨#[32]⟩):=by
 intro σ Y st;refine dQ mixed ak Tryz.func174 rfl (ft:=Hn) (args:=[.ptr 1000000 0,.d (.int .u8 32)]) (show nS Hn Tryz.f174 2=true from by decide +kernel) ?_;conv=>whnf
 refine aY (r9 b) [1000000,1000001] rfl ⟨_,_,rfl,rfl,_,_,rfl,rfl,rfl⟩ rfl ?_;conv=>whnf
 refine aQ (by simp[h0];exact hm) ?_;conv=>whnf
 exact aC [14] [.d .nili] (ky 1000000 2000000 (b++⟨#[32]⟩)) rfl ⟨rfl,rfl,trivial⟩ rfl ⟨⟨rfl,rfl⟩,rfl⟩
theorem HX(b:ByteArray)(h0:0<b.size)(l:List Wd)(hl:l.length<=10)(hw:∀ w∈l,py w)(hb:b.size<=1000000000)(eW:l ≠ []) :
  o9 Tryz.prog 173 [.d (u1 l),.ptr 1000000 0] (ky 1000000 1000001 b) fun v h'=>v = .d (.tup [])/\h'=ky 1000000 2000000 (b++nJ l):=by
 intro σ Y st;refine dQ mixed ak Tryz.func173 rfl (ft:=Hm) (args:=[.d (u1 l),.ptr 1000000 0]) (show nS Hm Tryz.f173 2=true from by decide +kernel) ?_;conv=>whnf
 generalize hT:b++oS l=J2;have CM:J2.size<=1000020000:=by
  rw[<- hT,cm]
  cases l with
  | nil=>exact absurd rfl eW
  | cons w r=>
   have h1:=oR (hw w (List.mem_cons_self ..));have h2:=qK fun x hx=>hw x (List.mem_cons_of_mem w hx);rw[oS,cm];rw[List.length_cons]at hl;omega
 refine bx (T:=tys) ak (by exact an mixed ak (by decide +kernel)) l (fun i (acc:ByteArray)=>⟨[(1,.ptr 1000000 0),(7,.d (u1 l)),(8,.d (i64 l.length)),(9,.d (i64 i))],ky 1000000 900000 acc,st⟩) (fun i r acc=>acc++(if i=0 then oS r else o8 r)=J2/\0<acc.size) b ?_ ⟨hT,h0⟩ ?_ ?_
 ·exact(Wk.move 1000001 900000 rfl rfl).trans (Wk.sub (by repeat' first|constructor|simp[PX.get]) (by repeat' first|constructor|simp[PX.get]))
 ·rintro i w r acc hx hi hir ⟨dn,ha⟩
  have SU:=hw w (List.mem_of_getElem? hx);have B3:=oR SU;have Z2:acc.size<=J2.size:=by rw[<- dn,cm];omega
  conv=>whnf
  refine af (fun _=>?_) (fun h=>absurd hi (by simpa using h));conv=>whnf
  refine aw hx ?_;conv=>whnf
  refine af (fun h1=>?_) (fun h1=>?_)
  ·have h1:0<i:=by have:=of_decide_eq_true h1;omega
   rw[if_neg (by omega),o8]at dn;conv=>whnf
   refine dO.Nw ?_;refine aY (Ek acc ha (by omega)) [1000000,900000] rfl ⟨_,_,rfl,rfl,_,_,rfl,rfl,rfl⟩ rfl ?_;refine⟨⟨[(1,.ptr 1000000 0),(7,.d (u1 l)),(8,.d (i64 l.length)),(9,.d (i64 i)),(3,.d (i64 i)),(4,.d w.d)],ky 1000000 900000 (acc++(⟨#[32]⟩:ByteArray)),st⟩,(Wk.move 101024 900000 rfl rfl).trans (Wk.sub (by repeat' first|constructor|simp[PX.get]) (by repeat' first|constructor|simp[PX.get])),?_⟩
   cases w with
   | s x=>
    have B3:x.size<=1000:=B3;conv=>whnf
    refine aY (AZ (acc++(⟨#[32]⟩:ByteArray)) x (by rw[cm];omega) (by have:(⟨#[32]⟩:ByteArray).size=1:=rfl;rw[cm];omega)) [1000000,900000] rfl ⟨_,_,rfl,rfl,_,_,rfl,rfl,rfl⟩ rfl ?_;conv=>whnf
    refine ao (((i+1:Nat):Int)) (by(try dsimp only);omega) (wrap_i64 (by(try dsimp only);omega)) ?_;conv=>whnf
    exact⟨(acc++(⟨#[32]⟩:ByteArray))++x,⟨by rw[<- dn,if_neg (by omega)];simp only[fJ];rfl,by simp only[cm];omega⟩,(Wk.move 101408 900000 rfl rfl).trans (Wk.sub (by repeat' first|constructor|simp[PX.get]) (by repeat' first|constructor|simp[PX.get]))⟩
   | n k=>
    have B3:(r6 k).size<=1000:=B3;conv=>whnf
    refine ai (Mu k SU) rfl rfl ?_;conv=>whnf
    refine aY (AZ (acc++(⟨#[32]⟩:ByteArray)) (r6 k) (by rw[cm];omega) (by have:(⟨#[32]⟩:ByteArray).size=1:=rfl;rw[cm];omega)) [1000000,900000] rfl ⟨_,_,rfl,rfl,_,_,rfl,rfl,rfl⟩ rfl ?_;conv=>whnf
    refine ao (((i+1:Nat):Int)) (by(try dsimp only);omega) (wrap_i64 (by(try dsimp only);omega)) ?_;conv=>whnf
    exact⟨(acc++(⟨#[32]⟩:ByteArray))++r6 k,⟨by rw[<- dn,if_neg (by omega)];simp only[fJ];rfl,by simp only[cm];omega⟩,(Wk.move 101792 900000 rfl rfl).trans (Wk.sub (by repeat' first|constructor|simp[PX.get]) (by repeat' first|constructor|simp[PX.get]))⟩
  ·have h1:i=0:=by have:=of_decide_eq_false h1;omega
   subst h1;rw[if_pos rfl,oS]at dn
   cases w with
   | s x=>
    have B3:x.size<=1000:=B3;conv=>whnf
    refine aY (AZ acc x ha (by omega)) [1000000,900000] rfl ⟨_,_,rfl,rfl,_,_,rfl,rfl,rfl⟩ rfl ?_;conv=>whnf
    refine ao (((0+1:Nat):Int)) (by(try dsimp only);omega) (wrap_i64 (by(try dsimp only);omega)) ?_;conv=>whnf
    exact⟨acc++x,⟨by rw[<- dn,if_neg (by omega)];simp only[fJ];rfl,by simp only[cm];omega⟩,(Wk.move 101408 900000 rfl rfl).trans (Wk.sub (by repeat' first|constructor|simp[PX.get]) (by repeat' first|constructor|simp[PX.get]))⟩
   | n k=>
    have B3:(r6 k).size<=1000:=B3;conv=>whnf
    refine ai (Mu k SU) rfl rfl ?_;conv=>whnf
    refine aY (AZ acc (r6 k) ha (by omega)) [1000000,900000] rfl ⟨_,_,rfl,rfl,_,_,rfl,rfl,rfl⟩ rfl ?_;conv=>whnf
    refine ao (((0+1:Nat):Int)) (by(try dsimp only);omega) (wrap_i64 (by(try dsimp only);omega)) ?_;conv=>whnf
    exact⟨acc++r6 k,⟨by rw[<- dn,if_neg (by omega)];simp only[fJ];rfl,by simp only[cm];omega⟩,(Wk.move 101792 900000 rfl rfl).trans (Wk.sub (by repeat' first|constructor|simp[PX.get]) (by repeat' first|constructor|simp[PX.get]))⟩
 ·rintro acc ⟨dn,ha⟩
  have dn:acc=J2:=by
   rw[<- dn];split<;>simp[oS,o8]
  subst dn;conv=>whnf
  refine af (fun h=>absurd h (by simp)) (fun _=>?_);conv=>whnf
  refine aY (Qh acc ha (by omega)) [1000000,900000] rfl ⟨_,_,rfl,rfl,_,_,rfl,rfl,rfl⟩ rfl ?_;conv=>whnf
  have he:b++nJ l=acc++R2:=by rw[nJ,<- fJ,hT]
  rw[he];exact aC [101920] [] (ky 1000000 2000000 (acc++R2)) rfl ⟨rfl,rfl,trivial⟩ rfl ⟨⟨rfl,rfl⟩,rfl⟩
def XM(acc:Option ByteArray):Heap:=match acc with
 | none=>Kq 1000000
 | some b=>ky 1000000 900000 b
theorem Jt(x:ByteArray)(eE:0<x.size)(l:List Wd)(hl:l.length<=9)(hw:∀ w∈Wd.s x::l,py w) :
  o9 Tryz.prog 173 [.d (u1 (.s x::l)),.ptr 1000000 0] (Kq 1000000) fun v h'=>v = .d (.tup [])/\h'=ky 1000000 2000000 (nJ (.s x::l)):=by
 intro σ Y st;refine dQ mixed ak Tryz.func173 rfl (ft:=Hm) (args:=[.d (u1 (.s x::l)),.ptr 1000000 0]) (show nS Hm Tryz.f173 2=true from by decide +kernel) ?_;conv=>whnf
 generalize hT:oS (.s x::l)=J2;generalize hL:Wd.s x::l=L at hw;have hLl:L.length<=10:=by rw[<- hL,List.length_cons];omega
 have Nf:L[0]?=some (.s x):=by rw[<- hL];rfl
 have CM:J2.size<=1000020000:=by
  rw[<- hT];have h1:=oR (hw (.s x) (by rw[<- hL];simp));have h2:=qK (l:=l) fun y hy=>hw y (by rw[<- hL];simp[hy]);rw[oS,cm];omega
 have DK:nJ L=J2++R2:=by rw[<- hL,nJ,hT]
 have RI:x++o8 (L.drop 1)=J2:=by rw[<- hL,<- hT];rfl
 rw[DK]
 refine dh (T:=tys) ak (by exact an mixed ak (by decide +kernel)) (α:=Nat×Option ByteArray) (fun z=>⟨[(1,.ptr 1000000 0),(7,.d (u1 L)),(8,.d (i64 L.length)),(9,.d (i64 z.1))],XM z.2,st⟩) (fun z=>z.1<=L.length/\match z.2 with
  | none=>z.1=0
  | some acc=>0<z.1/\acc++o8 (L.drop z.1)=J2/\0<acc.size) (fun z=>L.length-z.1) (0,none) ?_ ⟨Nat.zero_le _,rfl⟩ ?_
 ·exact Wk.sub ⟨rfl,rfl,congrArg (fun z:Nat=>some (V.d (i64 z))) (by simp),rfl,trivial⟩ ⟨rfl,trivial⟩
 rintro ⟨i,o⟩ ⟨hi,dn⟩
 cases o with
 | none=>
  have hi0:i=0:=dn;have hLi:L[i]?=some (.s x):=by rw[hi0];exact Nf
  have Hv:=(List.getElem?_eq_some_iff.1 hLi).1;have B3:x.size<=1000:=oR (hw (.s x) (List.mem_of_getElem? Nf));have Of:x++o8 (L.drop (i+1))=J2:=by rw[hi0];exact RI
  conv=>whnf
  refine af (fun _=>?_) (fun h=>absurd Hv (by simpa using h));conv=>whnf
  refine aw hLi ?_;conv=>whnf
  refine af (fun h=>absurd h (by simp;omega)) (fun _=>?_);conv=>whnf
  refine aY (Ju x eE (by omega)) [1000000] rfl ⟨_,_,rfl,rfl,rfl⟩ rfl ?_;conv=>whnf
  refine ao (((i+1:Nat):Int)) (by(try dsimp only);omega) (wrap_i64 (by(try dsimp only);omega)) ?_;conv=>whnf
  exact⟨(i+1,some x),by simp only;omega,⟨by simp only;omega,Nat.succ_pos i,Of,eE⟩,(Wk.move 101408 900000 rfl rfl).trans (Wk.sub (by repeat' first|constructor|simp[PX.get]) (by repeat' first|constructor|simp[PX.get]))⟩
 | some acc=>
  obtain⟨h0,dn,ha⟩:=dn;simp only at h0 dn ha hi;have Z2:acc.size<=J2.size:=by rw[<- dn,cm];omega
  conv=>whnf
  refine af (fun h1=>?_) (fun h1=>?_)
  ·have h1:i<L.length:=by have:=of_decide_eq_true h1;omega
   obtain⟨w,hx⟩:∃ w,L[i]?=some w:=⟨_,List.getElem?_eq_getElem h1⟩;have Q5:L.drop i=w::L.drop (i+1):=by
    rw[List.drop_eq_getElem_cons h1];rw[List.getElem?_eq_getElem h1]at hx;rw[Option.some.inj hx]
   rw[Q5,o8]at dn;have SU:=hw w (List.mem_of_getElem? hx);have B3:=oR SU;conv=>whnf
   refine aw hx ?_;conv=>whnf
   refine af (fun _=>?_) (fun h=>absurd h (by simp;omega));conv=>whnf
   refine dO.Nw ?_;refine aY (Ek acc ha (by omega)) [1000000,900000] rfl ⟨_,_,rfl,rfl,_,_,rfl,rfl,rfl⟩ rfl ?_;refine⟨⟨[(1,.ptr 1000000 0),(7,.d (u1 L)),(8,.d (i64 L.length)),(9,.d (i64 i)),(3,.d (i64 i)),(4,.d w.d)],ky 1000000 900000 (acc++(⟨#[32]⟩:ByteArray)),st⟩,(Wk.move 101024 900000 rfl rfl).trans (Wk.sub (by repeat' first|constructor|simp[PX.get]) (by repeat' first|constructor|simp[PX.get])),?_⟩
   cases w with
   | s y=>
    have B3:y.size<=1000:=B3;conv=>whnf
    refine aY (AZ (acc++(⟨#[32]⟩:ByteArray)) y (by rw[cm];omega) (by have:(⟨#[32]⟩:ByteArray).size=1:=rfl;rw[cm];omega)) [1000000,900000] rfl ⟨_,_,rfl,rfl,_,_,rfl,rfl,rfl⟩ rfl ?_;conv=>whnf
    refine ao (((i+1:Nat):Int)) (by(try dsimp only);omega) (wrap_i64 (by(try dsimp only);omega)) ?_;conv=>whnf
    exact⟨(i+1,some ((acc++(⟨#[32]⟩:ByteArray))++y)),by simp only;omega,⟨by simp only;omega,by simp only;omega,by rw[<- dn];simp only[fJ];rfl,by simp only[cm];omega⟩,(Wk.move 101408 900000 rfl rfl).trans (Wk.sub (by repeat' first|constructor|simp[PX.get]) (by repeat' first|constructor|simp[PX.get]))⟩
   | n k=>
    have B3:(r6 k).size<=1000:=B3;conv=>whnf
    refine ai (Mu k SU) rfl rfl ?_;conv=>whnf
    refine aY (AZ (acc++(⟨#[32]⟩:ByteArray)) (r6 k) (by rw[cm];omega) (by have:(⟨#[32]⟩:ByteArray).size=1:=rfl;rw[cm];omega)) [1000000,900000] rfl ⟨_,_,rfl,rfl,_,_,rfl,rfl,rfl⟩ rfl ?_;conv=>whnf
    refine ao (((i+1:Nat):Int)) (by(try dsimp only);omega) (wrap_i64 (by(try dsimp only);omega)) ?_;conv=>whnf
    exact⟨(i+1,some ((acc++(⟨#[32]⟩:ByteArray))++r6 k)),by simp only;omega,⟨by simp only;omega,by simp only;omega,by rw[<- dn];simp only[fJ];rfl,by simp only[cm];omega⟩,(Wk.move 101792 900000 rfl rfl).trans (Wk.sub (by repeat' first|constructor|simp[PX.get]) (by repeat' first|constructor|simp[PX.get]))⟩
  ·have h1:¬ i<L.length:=by have:=of_decide_eq_false h1;omega
   rw[List.drop_eq_nil_of_le (by omega)]at dn;have dn:acc=J2:=by rw[<- dn];simp[o8]
   subst dn;conv=>whnf
   refine aY (Qh acc ha (by omega)) [1000000,900000] rfl ⟨_,_,rfl,rfl,_,_,rfl,rfl,rfl⟩ rfl ?_;conv=>whnf
   exact aC [101920] [] (ky 1000000 2000000 (acc++R2)) rfl ⟨rfl,rfl,trivial⟩ rfl ⟨⟨rfl,rfl⟩,rfl⟩
def aJ(l:List cc):List (List D):=l.map Qn
def cv(l:List (List ck)):List (List D):=l.map fun r=>[.vs (r.map ck.cells)]
def lkH(l:aM)(wider:Int)(K:Nat)(steps:List cc)(pers:List (List ck))(many:Int):Heap:=
 [(1000000,.box (.vv [.ptr 1000002 0])),(1000001,.box (.dd [i64 wider])),(1000002,.box (.vv [.d (i64 l.near),.d (bF l.aj),.sl K 5 0 steps.length,.sl 1000004 1 0 pers.length,.d (i64 many)])),(K,.arr 5 (.dd (aJ steps))),(1000004,.arr 1 (.dd (cv pers)))]
theorem AY(l:aM)(wider:Int)(hw:0<=wider/\wider<=1048576)(steps:List cc)(hs:steps.length<=1000)(pers:List (List ck))(many:Int)(hm:0<=many/\many<=1000)(p:ck)(s:Span)(Ns : -720<=s.lo/\s.lo<=s.hi/\s.hi<=720) :
  o9 Tryz.prog 168 [.d p.d,.d s.d,.ptr 1000000 0,.ptr 1000001 0] (lkH l wider 1000003 steps pers many) fun v h'=>v = .d (.tup [])/\h'=lkH l wider 2000000 (steps++dP wider p s) pers (many+1):=by
 intro σ Y st;refine dQ mixed ak Tryz.func168 rfl (ft:=PC) (args:=[.d p.d,.d s.d,.ptr 1000000 0,.ptr 1000001 0]) (show nS PC Tryz.f168 4=true from by decide +kernel) ?_;conv=>whnf
 refine ae (wrap_i64 (by(try dsimp only);omega)) ?_;conv=>whnf
 refine aH (ds:=[]) Cj rfl rfl ?_;conv=>whnf
 refine ae (wrap_i64 (by(try dsimp only);omega)) ?_;conv=>whnf
 refine aH (ds:=[]) Cj rfl rfl ?_;conv=>whnf
 refine ae (wrap_i64 (by(try dsimp only);omega)) ?_;conv=>whnf
 refine ag rfl ?_;conv=>whnf
 refine ag (by simp[aK.len,aJ]) ?_;conv=>whnf
 refine aQ (decide_eq_true (by
  show((aJ steps).length+2)*40<=140737488355328;simp[aJ];omega)) ?_
 conv=>whnf
 have e1:aJ (steps++dP wider p s)=aJ steps ++ [[i64 (-1),i64 0,i64 p.book,i64 p.n,i64 (s.hi+wider)],[i64 p.book,i64 p.n,i64 (-1),i64 0,i64 (wider-s.lo)]]:=by
  unfold aJ;rw[List.map_append];rfl
 have e2:(steps++dP wider p s).length=(aJ steps).length+2:=by simp[aJ,dP]
 refine aC [33] [] [(1000000,.box (.vv [.ptr 1000002 0])),(1000001,.box (.dd [i64 wider])),(1000002,.box (.vv [.d (i64 l.near),.d (bF l.aj),.sl 2000000 5 0 ((aJ steps).length+2),.sl 1000004 1 0 pers.length,.d (i64 (many+1))])),(2000000,.arr 5 (.dd (aJ steps ++ [[i64 (-1),i64 0,i64 p.book,i64 p.n,i64 (s.hi+wider)],[i64 p.book,i64 p.n,i64 (-1),i64 0,i64 (wider-s.lo)]]))),(1000004,.arr 1 (.dd (cv pers)))] rfl ⟨bK rfl ⟨⟨rfl,rfl⟩,trivial⟩,rfl,bK rfl ⟨rfl,rfl,⟨rfl,rfl,rfl,rfl⟩,⟨rfl,rfl,rfl,rfl⟩,rfl,trivial⟩,rfl,rfl,trivial⟩ rfl ⟨⟨rfl,?_⟩,rfl⟩;unfold lkH;rw[e1,e2]
theorem Wk.sL{σ:Type}{e:Env}{h:Heap}{s:σ}(b k sz:Nat)(A B:List D){l:List D}(hk:Nat.blt k 1000000=true)(hs:Nat.blt 0 sz=true)(hb:get h b=some (.box (.dd l)))(hl:l=A ++ .nils::B)(jn:Nat.beq b k=false) :
  Wk (⟨e,h,s⟩:St σ) ⟨cZ (aL (bf k)) e,put (((k,.arr sz (.dd []))::cZ (Obj.aL (bf k)) (cut h k))) b (.box (.vv (inj A ++ .sl k sz 0 0::inj B))),s⟩:=by
 have hk:=Nat.le_of_ble_eq_true hk;have hs:=Nat.le_of_ble_eq_true hs;have eW:b≠k:=by rintro rfl;simp at jn
 have h1:Wk (⟨e,h,s⟩:St σ) ⟨cZ (aL (bf k)) e,((k,.arr sz (.dd []))::cZ (Obj.aL (bf k)) (cut h k)),s⟩:=by
  intro cx r m L F a w hg;exact⟨_,F,hg.kb k sz (by unfold pinned;omega) hs (.dd []) rfl,Tr.refl F w⟩
 refine h1.trans (Wk.Et b (o:=.box (.dd l)) _ (by rw[gd,if_neg eW,bY,e6,if_neg eW,hb];rfl) (fun yv L F w h=>?_) fun L hb=>hb);obtain⟨c,T,hc,hr⟩:=h;have hr:aq yv L F w (inj l) c.toList:=hr;rw[hl,jL]at hr;exact⟨c,T,hc,aq.Cd k sz hs hr⟩
end Go.PX
