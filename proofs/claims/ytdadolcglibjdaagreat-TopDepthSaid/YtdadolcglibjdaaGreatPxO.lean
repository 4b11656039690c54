import Derived.Test.YtdadolcglibjdaaGreatPxN
import Derived.Test.YtdadolcglibjdaaGreatPxL
import Derived.Test.YtdadolcglibjdaaGreatPxM
import Derived.Test.YtdadolcglibjdaaGreatPxK
set_option linter.all false
set_option maxRecDepth 10000
namespace Go.PX
open Go.RowKit
section
variable {σ : Type}
theorem eS.Ng{F:Nat->Nat}{w:World}{b:Nat}{c:Array Value}{T:TypeId}(h:w.heap[b]?=some (.cells c T (0,0)))(hF:c.size<=F b):eS F w b 0 c.toList:=by
 have key:∀ (l:List Value) (off:Nat),(∀ i x,l[i]?=some x->c.toList[off+i]?=some x)->eS F w b off l:=by
  intro l
  induction l with
  | nil=>intro off _;trivial
  | cons x r ih=>
   intro off hl;have h0:=hl 0 x rfl;rw[Nat.add_zero]at h0;refine⟨⟨?_,(kh h h0).2⟩,ih (off+1) fun i y hy=>?_⟩
   ·have:=(List.getElem?_eq_some_iff.1 h0).1
    simp at this;omega
   ·have:=hl (i+1) y (by simpa using hy)
    rwa [show off+(i+1)=off+1+i by omega]at this
 exact key c.toList 0 fun i x hx=>by rwa [Nat.zero_add]
theorem Wk.fz{e:Env}{h:aq}{s:σ}(id:Nat){cs:Cells}(hb:get h id=some (.box cs)):Wk (⟨e,h,s⟩:St σ) ⟨e,put h id (.fz cs.bo),s⟩:=by
 intro cx r m L F a w hg;obtain⟨c,T,hc,hr⟩:=hg.heap.obj id _ hb;obtain⟨YK,FR⟩:=hg.heap.own id _ hb trivial;have dI:L.ρ id<w.heap.size:=(Array.getElem?_eq_some_iff.1 hc).1
 let F1:Nat->Nat:=fun b=>if b=L.ρ id then c.size else F b
 have Ny:F1 (L.ρ id)=c.size:=if_pos rfl;have rh:∀ b,b≠L.ρ id->F1 b=F b:=fun b hb=>if_neg hb;have tr:Tr F w F1 w:=by
  refine⟨rfl,rfl,rfl,Nat.le_refl _,fun b=>?_,fun _ _ _=>rfl,fun _ _ _ _ h=>h⟩;by_cases hb:b=L.ρ id
  ·subst hb;rw[YK];exact Nat.zero_le _
  ·rw[rh b hb];exact Nat.le_refl _
 have lC:∀ i o,get (put h id (.fz cs.bo)) i=some o->(i=id/\o = .fz cs.bo)\/(i≠id/\get h i=some o):=by
  intro i o hi;rw[db]at hi;split at hi
  ·rename_i e;cases hi;exact .inl ⟨e.symm▸rfl,rfl⟩
  ·rename_i e;exact .inr ⟨fun x=>e (by first|exact x|exact x.symm),hi⟩
 refine⟨L,F1,⟨⟨?_,hg.heap.j6,?_,?_,?_,?_⟩,?_,hg.wA,hg.pR,hg.wS,hg.lk,hg.mT,hg.wm⟩,tr⟩
 ·refine cx.eJ hg.heap.hg tr (fun b hb=>?_) fun b hb=>⟨rfl,rh b (by rintro rfl;exact FR hb)⟩
  rw[rh b (by rintro rfl;omega)];exact hg.heap.fresh b hb
 ·intro b hb
  rw[rh b (by rintro rfl;omega)];exact hg.heap.fresh b hb
 ·intro i o hi
  rcases lC i o hi with⟨rfl,rfl⟩|⟨ef,hi⟩
  ·exact⟨c.toList,eS.Ng hc (by rw[Ny];exact Nat.le_refl _),aj.mono tr _ _ (fun _ _=>⟨rfl,rfl⟩) hr⟩
  ·exact bF.mono tr i o (fun _ _=>⟨rfl,rfl⟩) ⟨rfl,rfl⟩ (fun _=>rfl) (hg.heap.obj i o hi)
 ·intro i o hi j8
  rcases lC i o hi with⟨rfl,rfl⟩|⟨ef,hi⟩
  ·exact j8.elim
  ·have h1:=hg.heap.own i o hi j8
   refine⟨?_,h1.2⟩;rw[rh]
   ·exact h1.1
   ·intro e;exact ef (hg.heap.inj i id o _ hi hb j8 trivial e)
 ·intro i j o p hi hj md jv he
  rcases lC i o hi with⟨rfl,rfl⟩|⟨ef,hi⟩
  ·exact md.elim
  ·rcases lC j p hj with⟨rfl,rfl⟩|⟨MI,hj⟩
   ·exact jv.elim
   ·exact hg.heap.inj i j o p hi hj md jv he
 ·intro t v ht
  obtain⟨x,hx,hv⟩:=hg.env t v ht;exact⟨x,hx,aT.mono tr v x (fun _ _=>⟨rfl,rfl⟩) hv⟩
theorem aT.see{cx:Cx σ}{L:Loc}{F:Nat->Nat}{h:aq}{s:σ}{w:World}(hh:bp cx L F h s w){id:Nat}{l:List V}{pre:List D}{rest:List V}(h0:get h id=some (.fz l))(hl:l=inj pre++rest){x:Value}(hx:aT cx.yv L F w (.ptr id 0) x) :
  aT cx.yv L F w (.d (.ref pre)) x:=by
 obtain⟨c,hc,hr⟩:=hh.obj id _ h0;have hx:x = .pointer (some ⟨L.ρ id,0,none⟩):=hx;subst hx;refine⟨L.ρ id,0,rfl,?_⟩;subst hl;have key:∀ (pre:List D) (c:List Value) (off:Nat),eS F w (L.ρ id) off c->aj cx.yv L F w (inj pre++rest) c->cc F w (L.ρ id) off pre:=by
  intro pre
  induction pre with
  | nil=>intro c off _ _;trivial
  | cons d r ih=>
   intro c off hc hr;obtain⟨y,c',rfl,h1,h2⟩:=hr;exact⟨hc.1.1,⟨y,hc.1.2,h1⟩,ih c' (off+1) hc.2 h2⟩
 exact key pre c 0 hc hr
variable {P : Program} {Y : Hd σ}
theorem w9{e:Env}{h:aq}{s:σ}{d:Option Nat}{f:FuncId}{r:List V}{K:St σ->Prop}(id:Nat){l:List V}(pre:List D){rest:List V}(h0:get h id=some (.fz l))(hl:l=inj pre++rest)
  (hc:dK P Y ⟨e,h,s⟩ d f (.d (.ref pre)::r) K):dK P Y ⟨e,h,s⟩ d f (.ptr id 0::r) K:=by
 obtain⟨h1,h2⟩:=hc;refine⟨h1,fun cx hY rr m L F a w a9 hg hd hv=>h2 cx hY rr m L F a w a9 hg hd ?_⟩;obtain⟨x,l',e1,h3,h4⟩:=hv;exact⟨x,l',e1,aT.see hg.heap h0 hl h3,h4⟩
end
end Go.PX
namespace Go.PX
open Go.Proofs
structure dr where
 name:ByteArray
 lead:Bool
 off:Span
structure jf where
 x:Span
 y:Span
 depth:Span
 ground:Int
structure Fix where
 aP:pE
 day:Int
 insts:List dr
 cH:List jf
 step:Int
 half:Int
structure aC where
 inst:Int
 mark:Int
 shown:Int
 ground:Int
def dr.cells(x:dr):List D:=[.str x.name,.bool x.lead,i64 x.off.lo,i64 x.off.hi]
def dr.d(x:dr):D:=.agg x.cells
def jf.cells(x:jf):List D:=[i64 x.x.lo,i64 x.x.hi,i64 x.y.lo,i64 x.y.hi,i64 x.depth.lo,i64 x.depth.hi,i64 x.ground]
def jf.d(x:jf):D:=.agg x.cells
def gG(l:List dr):D:=.vs (l.map dr.cells)
def nJ(l:List jf):D:=.vs (l.map jf.cells)
def Fix.cells(f:Fix):List D:=[zr f.aP.marks,zI f.aP.eR,i64 f.day,gG f.insts,nJ f.cH,i64 f.step,i64 f.half]
def Fix.d(f:Fix):D:=.agg f.cells
def aC.cells(x:aC):List D:=[i64 x.inst,i64 x.mark,i64 x.shown,i64 x.ground]
def aC.d(x:aC):D:=.agg x.cells
def bn(l:List aC):D:=.vs (l.map aC.cells)
def jo(x:dr):Int:=if x.lead then 20 else 4
def n5(l:List dr)(x:dr):Int:=
 if eP x.name then (if l.any (fun y=>decide (y.name=x.name)) then 5 else if a6 x.off.lo (-jo x) (jo x)&&a6 x.off.hi (-jo x) (jo x) then (if x.off.hi<x.off.lo then 2 else 0) else 7) else 6
def lN(a:jf):Int:=
 if (a6 a.x.lo (-30000) 30000&&a6 a.x.hi (-30000) 30000)&&(a6 a.y.lo (-30000) 30000&&a6 a.y.hi (-30000) 30000) then (if a6 a.depth.lo 0 1000&&a6 a.depth.hi 0 1000 then (if a6 a.ground 1 4 then (if a.x.hi<a.x.lo then 2 else if a.y.hi<a.y.lo then 2 else if a.depth.hi<a.depth.lo then 2 else 0) else 7) else 7) else 7
def eX{α:Type}(g:Nat->α->Int):Nat->List α->Int×Int
 | _,[]=>(0,0)
 | i,x::r=>if g i x=0 then eX g (i+1) r else (i,g i x)
def mL(l:List dr):Int×Int:=eX (fun i x=>n5 (l.take i) x) 0 l
def ml(l:List jf):Int×Int:=eX (fun _ x=>lN x) 0 l
def cI(f:Fix):Int×Int×Int:=
 if (cD f.aP).2.2=0 then (if a6 f.day 0 40000 then (if a6 f.step 1 500 then (if a6 f.half 0 8 then (if a6 f.insts.length 1 4 then (if (mL f.insts).2=0 then (if 6<f.cH.length then (4,0,3) else if (ml f.cH).2=0 then (0,0,0) else (4,(ml f.cH).1,(ml f.cH).2)) else (3,(mL f.insts).1,(mL f.insts).2)) else (3,0,3)) else (2,0,7)) else (2,0,7)) else (2,0,7)) else (1,0,(cD f.aP).2.2)
theorem gv(lo hi a:Int):aX Tryz.prog 67 [i64 lo,i64 hi,.vs [[i64 a]]] (.bool (!a6 a lo hi)):=by
 exact aX.cast (GF lo hi [a] (by simp)) (by simp only[List.any_cons,List.any_nil,mS];cases a6 a lo hi<;>rfl)
theorem ub(lo hi a b:Int):aX Tryz.prog 67 [i64 lo,i64 hi,.vs [[i64 a],[i64 b]]] (.bool (!(a6 a lo hi&&a6 b lo hi))):=by
 exact aX.cast (GF lo hi [a,b] (by simp)) (by simp only[List.any_cons,List.any_nil,mS];cases a6 a lo hi<;>cases a6 b lo hi<;>rfl)
theorem IV(lo hi a b c d:Int):aX Tryz.prog 67 [i64 lo,i64 hi,.vs [[i64 a],[i64 b],[i64 c],[i64 d]]] (.bool (!((a6 a lo hi&&a6 b lo hi)&&(a6 c lo hi&&a6 d lo hi)))):=by
 exact aX.cast (GF lo hi [a,b,c,d] (by simp)) (by simp only[List.any_cons,List.any_nil,mS];cases a6 a lo hi<;>cases a6 b lo hi<;>cases a6 c lo hi<;>cases a6 d lo hi<;>rfl)
theorem Qz(l:List dr)(g:FuncId)(aL:List D)(p:dr->Bool)(hl:l.length<4000000000000000000)(hp:∀ x∈l,aX Tryz.prog g (x.d::aL) (.bool (p x))) :
  aX Tryz.prog 175 [gG l,.clo g aL] (i64 (indexOf p l 0)):=by
 refine aB Tryz.func175 rfl (ft:=P6) 2 fun {σ} Y st=>?_;conv=>whnf
 refine ba (T:=tys) ao (by exact ai mixed ao (by decide +kernel)) l (fun i (_:Unit)=>⟨[(0,.d (gG l)),(1,.d (.clo g aL)),(7,.d (i64 l.length)),(8,.d (i64 i))],[],st⟩) (fun i r _=>(∀ x∈r,aX Tryz.prog g (x.d::aL) (.bool (p x)))/\indexOf p l 0=indexOf p r (l.length-r.length)) () aI ⟨hp,by simp⟩ ?_ ?_
 ·intro i x r _ hx hi hr ⟨hp,he⟩
  rw[indexOf]at he;conv=>whnf
  refine ag (fun _=>?_) (fun h=>absurd hi (by simpa using h));conv=>whnf
  refine au hx ?_;conv=>whnf
  refine ah (ds:=x.d::aL) (hp x (by simp)) rfl rfl ?_;conv=>whnf
  refine ag (fun h1=>?_) (fun h1=>?_)
  ·conv=>whnf
   rw[if_pos h1]at he;rw[he];have:((l.length:Int)-((x::r).length:Nat))=i:=by simp;omega
   rw[this];exact ae
  ·conv=>whnf
   rw[if_neg (by simp[h1])]at he;refine af ?_;conv=>whnf
   exact⟨(),⟨fun y hy=>hp y (by simp[hy]),by rw[he];congr 1;simp;omega⟩,aI⟩
 ·intro _ ⟨_,he⟩
  conv=>whnf
  refine ag (fun h=>absurd h (by simp)) (fun _=>?_);conv=>whnf
  rw[he];exact ae
theorem QD(l:List jf)(g:FuncId)(aL:List D)(p:jf->Bool)(hl:l.length<4000000000000000000)(hp:∀ x∈l,aX Tryz.prog g (x.d::aL) (.bool (p x))) :
  aX Tryz.prog 195 [nJ l,.clo g aL] (i64 (indexOf p l 0)):=by
 refine aB Tryz.func195 rfl (ft:=P9) 2 fun {σ} Y st=>?_;conv=>whnf
 refine ba (T:=tys) ao (by exact ai mixed ao (by decide +kernel)) l (fun i (_:Unit)=>⟨[(0,.d (nJ l)),(1,.d (.clo g aL)),(7,.d (i64 l.length)),(8,.d (i64 i))],[],st⟩) (fun i r _=>(∀ x∈r,aX Tryz.prog g (x.d::aL) (.bool (p x)))/\indexOf p l 0=indexOf p r (l.length-r.length)) () aI ⟨hp,by simp⟩ ?_ ?_
 ·intro i x r _ hx hi hr ⟨hp,he⟩
  rw[indexOf]at he;conv=>whnf
  refine ag (fun _=>?_) (fun h=>absurd hi (by simpa using h));conv=>whnf
  refine au hx ?_;conv=>whnf
  refine ah (ds:=x.d::aL) (hp x (by simp)) rfl rfl ?_;conv=>whnf
  refine ag (fun h1=>?_) (fun h1=>?_)
  ·conv=>whnf
   rw[if_pos h1]at he;rw[he];have:((l.length:Int)-((x::r).length:Nat))=i:=by simp;omega
   rw[this];exact ae
  ·conv=>whnf
   rw[if_neg (by simp[h1])]at he;refine af ?_;conv=>whnf
   exact⟨(),⟨fun y hy=>hp y (by simp[hy]),by rw[he];congr 1;simp;omega⟩,aI⟩
 ·intro _ ⟨_,he⟩
  conv=>whnf
  refine ag (fun h=>absurd h (by simp)) (fun _=>?_);conv=>whnf
  rw[he];exact ae
theorem KM(l:List dr)(g:FuncId)(aL:List D)(p:dr->Bool)(hl:l.length<4000000000000000000)(hp:∀ x∈l,aX Tryz.prog g (x.d::aL) (.bool (p x))) :
  aX Tryz.prog 165 [gG l,.clo g aL] (.bool (l.any p)):=by
 refine aB Tryz.func165 rfl (ft:=PW) 2 fun {σ} Y st=>?_;conv=>whnf
 refine ah (Qz l g aL p hl hp) rfl rfl ?_;conv=>whnf
 refine an 0 rfl ⟨⟨?_,rfl⟩,rfl⟩;rw[<- eO p l 0 (by omega)];rfl
theorem KN(y x:dr):aX Tryz.prog 166 [y.d,.ref x.cells] (.bool (decide (y.name=x.name))):=by
 refine aB Tryz.func166 rfl (ft:=PY) 2 fun {σ} Y st=>?_;conv=>whnf
 exact ae
theorem Qv(x:dr)(l:List dr)(hl:l.length<4000000000000000000):aX Tryz.prog 150 [x.d,gG l] (i64 (n5 l x)):=by
 refine aB Tryz.func150 rfl (ft:=PI) 2 fun {σ} Y st=>?_;conv=>whnf
 unfold n5
 cases h0:x.lead with
 | true=>
  rw[show jo x=20 by unfold jo;rw[h0];rfl];conv=>whnf
  refine ah (GC x.name) rfl rfl ?_;conv=>whnf
  cases h1:eP x.name with
  | false=>
   conv=>whnf
   exact ae
  | true=>
   conv=>whnf
   refine ak (ds:=[gG l,.clo 166 [.ref x.cells]]) (KM l 166 [.ref x.cells] (fun y=>decide (y.name=x.name)) hl fun y _=>KN y x) rfl 1 (by unfold dr.cells;rw[h0];rfl) ?_;conv=>whnf
   cases h2:l.any (fun y=>decide (y.name=x.name)) with
   | true=>
    conv=>whnf
    exact ae
   | false=>
    conv=>whnf
    refine af ?_;conv=>whnf
    refine ak (ub (-20) 20 x.off.lo x.off.hi) rfl 1 rfl ?_;conv=>whnf
    cases h3:a6 x.off.lo (-20) 20&&a6 x.off.hi (-20) 20 with
    | false=>
     conv=>whnf
     exact ae
    | true=>
     conv=>whnf
     refine ag (fun h5=>?_) (fun h5=>?_)
     ·have h5:x.off.hi<x.off.lo:=of_decide_eq_true h5
      rw[if_pos rfl,if_neg (by simp),if_pos rfl,if_pos h5];conv=>whnf
      exact ae
     ·have h5:¬ x.off.hi<x.off.lo:=of_decide_eq_false h5
      rw[if_pos rfl,if_neg (by simp),if_pos rfl,if_neg h5];conv=>whnf
      exact ae
 | false=>
  rw[show jo x=4 by unfold jo;rw[h0];rfl];conv=>whnf
  refine ah (GC x.name) rfl rfl ?_;conv=>whnf
  cases h1:eP x.name with
  | false=>
   conv=>whnf
   exact ae
  | true=>
   conv=>whnf
   refine ak (ds:=[gG l,.clo 166 [.ref x.cells]]) (KM l 166 [.ref x.cells] (fun y=>decide (y.name=x.name)) hl fun y _=>KN y x) rfl 1 (by unfold dr.cells;rw[h0];rfl) ?_;conv=>whnf
   cases h2:l.any (fun y=>decide (y.name=x.name)) with
   | true=>
    conv=>whnf
    exact ae
   | false=>
    conv=>whnf
    refine af ?_;conv=>whnf
    refine ak (ub (-4) 4 x.off.lo x.off.hi) rfl 1 rfl ?_;conv=>whnf
    cases h3:a6 x.off.lo (-4) 4&&a6 x.off.hi (-4) 4 with
    | false=>
     conv=>whnf
     exact ae
    | true=>
     conv=>whnf
     refine ag (fun h5=>?_) (fun h5=>?_)
     ·have h5:x.off.hi<x.off.lo:=of_decide_eq_true h5
      rw[if_pos rfl,if_neg (by simp),if_pos rfl,if_pos h5];conv=>whnf
      exact ae
     ·have h5:¬ x.off.hi<x.off.lo:=of_decide_eq_false h5
      rw[if_pos rfl,if_neg (by simp),if_pos rfl,if_neg h5];conv=>whnf
      exact ae
theorem Qy(a:jf):aX Tryz.prog 153 [a.d] (i64 (lN a)):=by
 refine aB Tryz.func153 rfl (ft:=PL) 1 fun {σ} Y st=>?_;conv=>whnf
 refine ak (IV (-30000) 30000 a.x.lo a.x.hi a.y.lo a.y.hi) rfl 1 rfl ?_;conv=>whnf
 unfold lN
 cases h1:(a6 a.x.lo (-30000) 30000&&a6 a.x.hi (-30000) 30000)&&(a6 a.y.lo (-30000) 30000&&a6 a.y.hi (-30000) 30000) with
 | false=>
  conv=>whnf
  exact ae
 | true=>
  conv=>whnf
  refine ak (ub 0 1000 a.depth.lo a.depth.hi) rfl 1 rfl ?_;conv=>whnf
  cases h2:a6 a.depth.lo 0 1000&&a6 a.depth.hi 0 1000 with
  | false=>
   conv=>whnf
   exact ae
  | true=>
   conv=>whnf
   refine ak (gv 1 4 a.ground) rfl 1 rfl ?_;conv=>whnf
   cases h3:a6 a.ground 1 4 with
   | false=>
    conv=>whnf
    exact ae
   | true=>
    rw[if_pos rfl,if_pos rfl,if_pos rfl];conv=>whnf
    by_cases h4:a.x.hi<a.x.lo
    ·rw[if_pos h4,decide_eq_true h4]
     conv=>whnf
     exact ae
    rw[if_neg h4,decide_eq_false h4];conv=>whnf
    by_cases h5:a.y.hi<a.y.lo
    ·rw[if_pos h5,decide_eq_true h5]
     conv=>whnf
     exact ae
    rw[if_neg h5,decide_eq_false h5];conv=>whnf
    by_cases h6:a.depth.hi<a.depth.lo
    ·rw[if_pos h6,decide_eq_true h6]
     conv=>whnf
     exact ae
    rw[if_neg h6,decide_eq_false h6];conv=>whnf
    exact ae
theorem Qx(i:Int)(a:jf):aX Tryz.prog 152 [i64 i,a.d] (i64 (lN a)):=by
 refine aB Tryz.func152 rfl (ft:=PK) 2 fun {σ} Y st=>?_;conv=>whnf
 refine ah (ds:=[a.d]) (Qy a) rfl rfl ?_;conv=>whnf
 exact ae
theorem Qu(f:Fix)(i:Nat)(x:dr)(hi:i<=f.insts.length)(hl:f.insts.length<4000000000000000000):aX Tryz.prog 149 [i64 i,x.d,.ref f.cells] (i64 (n5 (f.insts.take i) x)):=by
 refine aB Tryz.func149 rfl (ft:=PH) 3 fun {σ} Y st=>?_;conv=>whnf
 refine bc (by simp;omega) ?_;conv=>whnf
 refine bc (by cases f.insts<;>rfl) ?_;conv=>whnf
 refine al (ds:=[x.d,gG (f.insts.take i)]) (Qv x (f.insts.take i) (by simp;omega)) (by show [_,_] = [_,_];simp[gG,List.map_take];rfl) rfl ?_;conv=>whnf
 exact ae
theorem Qt(l:List dr)(g:FuncId)(aL:List D)(e:Nat->dr->Int)(hl:l.length<4000000000000000000)(hp:∀ (i:Nat) x,l[i]?=some x->aX Tryz.prog g (i64 i::x.d::aL) (i64 (e i x))) :
  aX Tryz.prog 148 [gG l,.clo g aL] (.tup [i64 (eX e 0 l).1,i64 (eX e 0 l).2]):=by
 refine aB Tryz.func148 rfl (ft:=PG) 2 fun {σ} Y st=>?_;conv=>whnf
 refine ba (T:=tys) ao (by exact ai mixed ao (by decide +kernel)) l (fun i (_:Unit)=>⟨[(1,.d (.clo g aL)),(9,.d (gG l)),(10,.d (i64 l.length)),(11,.d (i64 i))],[],st⟩) (fun i r _=>eX e 0 l=eX e i r) () aI rfl ?_ ?_
 ·rintro i x r _ jD hi hr he
  rw[eX]at he;conv=>whnf
  refine ag (fun _=>?_) (fun h=>absurd hi (by simpa using h));conv=>whnf
  refine au jD ?_;conv=>whnf
  refine ah (ds:=i64 i::x.d::aL) (hp i x jD) rfl rfl ?_;refine ag (fun h1=>?_) (fun h1=>?_)
  ·have h1:¬ e i x=0:=by simpa using h1
   rw[if_neg h1]at he;rw[he];conv=>whnf
   exact ae
  ·have h1:e i x=0:=by simpa using h1
   rw[if_pos h1]at he;conv=>whnf
   refine af ?_;conv=>whnf
   exact⟨(),he,aI⟩
 ·rintro _ he
  rw[he,eX];conv=>whnf
  refine ag (fun h=>absurd h (by simp)) (fun _=>?_);conv=>whnf
  exact ae
theorem Qw(l:List jf)(g:FuncId)(aL:List D)(e:Nat->jf->Int)(hl:l.length<4000000000000000000)(hp:∀ (i:Nat) x,l[i]?=some x->aX Tryz.prog g (i64 i::x.d::aL) (i64 (e i x))) :
  aX Tryz.prog 151 [nJ l,.clo g aL] (.tup [i64 (eX e 0 l).1,i64 (eX e 0 l).2]):=by
 refine aB Tryz.func151 rfl (ft:=PJ) 2 fun {σ} Y st=>?_;conv=>whnf
 refine ba (T:=tys) ao (by exact ai mixed ao (by decide +kernel)) l (fun i (_:Unit)=>⟨[(1,.d (.clo g aL)),(9,.d (nJ l)),(10,.d (i64 l.length)),(11,.d (i64 i))],[],st⟩) (fun i r _=>eX e 0 l=eX e i r) () aI rfl ?_ ?_
 ·rintro i x r _ jD hi hr he
  rw[eX]at he;conv=>whnf
  refine ag (fun _=>?_) (fun h=>absurd hi (by simpa using h));conv=>whnf
  refine au jD ?_;conv=>whnf
  refine ah (ds:=i64 i::x.d::aL) (hp i x jD) rfl rfl ?_;refine ag (fun h1=>?_) (fun h1=>?_)
  ·have h1:¬ e i x=0:=by simpa using h1
   rw[if_neg h1]at he;rw[he];conv=>whnf
   exact ae
  ·have h1:e i x=0:=by simpa using h1
   rw[if_pos h1]at he;conv=>whnf
   refine af ?_;conv=>whnf
   exact⟨(),he,aI⟩
 ·rintro _ he
  rw[he,eX];conv=>whnf
  refine ag (fun h=>absurd h (by simp)) (fun _=>?_);conv=>whnf
  exact ae
theorem Qq(l:List aC)(g:FuncId)(aL:List D)(e:Nat->aC->Int)(hl:l.length<4000000000000000000)(hp:∀ (i:Nat) x,l[i]?=some x->aX Tryz.prog g (i64 i::x.d::aL) (i64 (e i x))) :
  aX Tryz.prog 134 [bn l,.clo g aL] (.tup [i64 (eX e 0 l).1,i64 (eX e 0 l).2]):=by
 refine aB Tryz.func134 rfl (ft:=Pu) 2 fun {σ} Y st=>?_;conv=>whnf
 refine ba (T:=tys) ao (by exact ai mixed ao (by decide +kernel)) l (fun i (_:Unit)=>⟨[(1,.d (.clo g aL)),(9,.d (bn l)),(10,.d (i64 l.length)),(11,.d (i64 i))],[],st⟩) (fun i r _=>eX e 0 l=eX e i r) () aI rfl ?_ ?_
 ·rintro i x r _ jD hi hr he
  rw[eX]at he;conv=>whnf
  refine ag (fun _=>?_) (fun h=>absurd hi (by simpa using h));conv=>whnf
  refine au jD ?_;conv=>whnf
  refine ah (ds:=i64 i::x.d::aL) (hp i x jD) rfl rfl ?_;refine ag (fun h1=>?_) (fun h1=>?_)
  ·have h1:¬ e i x=0:=by simpa using h1
   rw[if_neg h1]at he;rw[he];conv=>whnf
   exact ae
  ·have h1:e i x=0:=by simpa using h1
   rw[if_pos h1]at he;conv=>whnf
   refine af ?_;conv=>whnf
   exact⟨(),he,aI⟩
 ·rintro _ he
  rw[he,eX];conv=>whnf
  refine ag (fun h=>absurd h (by simp)) (fun _=>?_);conv=>whnf
  exact ae
set_option maxHeartbeats 1000000 in
theorem Qp(f:Fix):aX Tryz.prog 133 [f.d] (.tup [i64 (cI f).1,i64 (cI f).2.1,i64 (cI f).2.2]):=by
 refine aB Tryz.func133 rfl (ft:=Ps) 1 fun {σ} Y st=>?_;conv=>whnf
 refine ah (ds:=[f.aP.d]) (Oi f.aP) rfl rfl ?_;conv=>whnf
 unfold cI;by_cases h0:(cD f.aP).2.2=0;case neg=>
  rw[if_neg h0];refine ag (fun _=>?_) (fun h1=>absurd h1 (by simp[h0]));conv=>whnf
  exact ae
 rw[if_pos h0];refine ag (fun h1=>absurd h1 (by simp[h0])) (fun _=>?_);conv=>whnf
 refine ak (gv 0 40000 f.day) rfl 1 rfl ?_;conv=>whnf
 cases h1:a6 f.day 0 40000 with
 | false=>
  conv=>whnf
  exact ae
 | true=>
 conv=>whnf
 refine ak (gv 1 500 f.step) rfl 1 rfl ?_;conv=>whnf
 cases h2:a6 f.step 1 500 with
 | false=>
  conv=>whnf
  exact ae
 | true=>
 conv=>whnf
 refine ak (gv 0 8 f.half) rfl 1 rfl ?_;conv=>whnf
 cases h3:a6 f.half 0 8 with
 | false=>
  conv=>whnf
  exact ae
 | true=>
 conv=>whnf
 refine ak (gv 1 4 (f.insts.map dr.cells).length) rfl 1 rfl ?_;conv=>whnf
 rw[List.length_map]
 cases h4:a6 f.insts.length 1 4 with
 | false=>
  conv=>whnf
  exact ae
 | true=>
 have hi:=bq.1 h4;have hl:f.insts.length<4000000000000000000:=by omega
 conv=>whnf
 refine ak (ds:=[gG f.insts,.clo 149 [.ref f.cells]]) (Qt f.insts 149 [.ref f.cells] (fun i x=>n5 (f.insts.take i) x) hl fun i x hx=>Qu f i x (by have:=(List.getElem?_eq_some_iff.1 hx).1;omega) hl) rfl 1 rfl ?_;have hE:eX (fun i x=>n5 (f.insts.take i) x) 0 f.insts=mL f.insts:=rfl;rw[hE];rw[if_pos rfl,if_pos rfl,if_pos rfl,if_pos rfl];conv=>whnf
 by_cases h5:(mL f.insts).2=0;case neg=>
  rw[if_neg h5];refine ag (fun _=>?_) (fun h1=>absurd h1 (by simp[h5]));conv=>whnf
  exact ae
 rw[if_pos h5];refine ag (fun h1=>absurd h1 (by simp[h5])) (fun _=>?_);conv=>whnf
 refine ag (fun h6=>?_) (fun h6=>?_)
 ·have h6:6<f.cH.length:=by have:=of_decide_eq_true h6;simp at this;omega
  rw[if_pos h6];conv=>whnf
  exact ae
 have Jl:f.cH.length<4000000000000000000:=by have:=of_decide_eq_false h6;simp at this;omega
 have h6:¬ 6<f.cH.length:=by have:=of_decide_eq_false h6;simp at this;omega
 rw[if_neg h6];conv=>whnf
 refine ah (ds:=[nJ f.cH,.clo 152 []]) (Qw f.cH 152 [] (fun _ x=>lN x) Jl fun i x hx=>Qx i x) rfl rfl ?_;have hE:eX (fun _ x=>lN x) 0 f.cH=ml f.cH:=rfl;rw[hE];conv=>whnf
 by_cases h7:(ml f.cH).2=0;case neg=>
  rw[if_neg h7];refine ag (fun _=>?_) (fun h1=>absurd h1 (by simp[h7]));conv=>whnf
  exact ae
 rw[if_pos h7];refine ag (fun h1=>absurd h1 (by simp[h7])) (fun _=>?_);conv=>whnf
 exact ae
structure Kr(x:dr):Prop where
 Z3 : -jo x<=x.off.lo
 Z4:x.off.lo<=x.off.hi
 Z5:x.off.hi<=jo x
structure Kq(a:jf):Prop where
 x1 : -30000<=a.x.lo
 x2:a.x.hi<=30000
 y1 : -30000<=a.y.lo
 y2:a.y.hi<=30000
 d1:0<=a.depth.lo
 d2:a.depth.lo<=a.depth.hi
 d3:a.depth.hi<=1000
 g1:1<=a.ground
 g2:a.ground<=4
structure jh(f:Fix):Prop where
 aP:(cD f.aP).2.2=0
 Tm:0<=f.day
 Tn:f.day<=40000
 step1:1<=f.step
 step2:f.step<=500
 DI:0<=f.half
 DJ:f.half<=8
 many1:1<=f.insts.length
 n9:f.insts.length<=4
 inst:∀ x∈f.insts,Kr x
 cH:f.cH.length<=6
 II:∀ a∈f.cH,Kq a
theorem od(x:dr):jo x=4\/jo x=20:=by unfold jo;split<;>simp
theorem Ht{l:List dr}{x:dr}(h:n5 l x=0):Kr x:=by
 unfold n5 at h;split at h;case isFalse=>cases h
 split at h
 ·cases h
 split at h;case isFalse=>cases h
 rename_i h1;split at h
 ·cases h
 simp only[Bool.and_eq_true,bq]at h1;exact⟨by omega,by omega,by omega⟩
theorem Ge{a:jf}(h:lN a=0):Kq a:=by
 unfold lN at h;split at h;case isFalse=>cases h
 rename_i h1;split at h;case isFalse=>cases h
 rename_i h2;split at h;case isFalse=>cases h
 rename_i h3;split at h
 ·cases h
 split at h
 ·cases h
 split at h
 ·cases h
 simp only[Bool.and_eq_true,bq]at h1 h2 h3;exact⟨by omega,by omega,by omega,by omega,by omega,by omega,by omega,by omega,by omega⟩
theorem ud{α:Type}{g:Nat->α->Int}:∀ {l:List α} {i:Nat},(eX g i l).2=0 -> ∀ k x,l[k]?=some x->g (i+k) x=0
 | [],_,_,k,x,h=>by simp at h
 | y::r,i,h,k,x,hx=>by
  rw[eX]at h;split at h;case isFalse=>rename_i h1;exact absurd h h1
  rename_i h1
  cases k with
  | zero=>cases hx;exact h1
  | succ k=>
   have:=ud (l:=r) h k x (by simpa using hx)
   rwa [show i+1+k=i+(k+1) by omega]at this
theorem xB{α:Type}{g:Nat->α->Int}:∀ {l:List α} {i:Nat},(∀ k x,l[k]?=some x->g (i+k) x=0)->eX g i l=(0,0)
 | [],_,_=>rfl
 | y::r,i,h=>by
  rw[eX,if_pos (by simpa using h 0 y rfl)];exact xB fun k x hx=>by
   have:=h (k+1) x (by simpa using hx)
   rwa [show i+(k+1)=i+1+k by omega]at this
theorem iN{f:Fix}(h:(cI f).2.2=0):jh f:=by
 unfold cI at h;split at h;case isFalse=>rename_i h1;exact absurd h h1
 rename_i h1;split at h;case isFalse=>cases h
 rename_i h2;split at h;case isFalse=>cases h
 rename_i h3;split at h;case isFalse=>cases h
 rename_i h4;split at h;case isFalse=>cases h
 rename_i h5;split at h;case isFalse=>rename_i h6;exact absurd h h6
 rename_i h6;split at h
 ·cases h
 rename_i h7;split at h;case isFalse=>rename_i h8;exact absurd h h8
 rename_i h8;rw[bq]at h2 h3 h4 h5;refine⟨h1,by omega,by omega,by omega,by omega,by omega,by omega,by omega,by omega,fun x hx=>?_,by omega,fun a ha=>?_⟩
 ·obtain⟨k,hk⟩:=List.mem_iff_getElem?.1 hx
  exact Ht (ud h6 k x hk)
 ·obtain⟨k,hk⟩:=List.mem_iff_getElem?.1 ha
  exact Ge (ud h8 k a hk)
def cQ(f:Fix)(k:Nat):Bool:=match f.insts[k]? with
 | some x=>x.lead
 | none=>false
def Nr(f:Fix)(m:Int):Bool:=!decide (oa f.aP f.day m=0)
def eI(f:Fix)(x:aC):Int:=
 if a6 x.inst 0 ((f.insts.length:Int)-1) then (if cQ f x.inst.toNat then (if a6 x.shown 0 1000 then (if a6 x.ground 0 4 then (if x.mark=0 then 0 else 2) else 7) else 7) else (if a6 x.mark 0 ((f.aP.marks.length:Int)-1) then (if Nr f x.mark then (if a6 x.shown 0 31 then (if x.ground=0 then 0 else 7) else 7) else 9) else 4)) else 4
def Li(f:Fix)(j:Nat):Nat:=if cQ f j then 218 else 163
def nt(f:Fix)(n j:Nat):D:=match Nat.blt j n with
 | true=>.ifc (Li f j) (.agg [.ref []])
 | false=>.nili
def eD(f:Fix)(n b j:Nat):V:=match Nat.blt j n with
 | true=>.ifc (Li f j) [.agg [.ptr b 0]]
 | false=>.d .nili
def eU(f:Fix)(l:List aC)(n:Nat):List D:=f.cells ++ [bn l,nt f n 0,nt f n 1,nt f n 2,nt f n 3]
def bh(f:Fix)(l:List aC)(n b m:Nat):List V:=inj (f.cells ++ [bn l]) ++ [eD f n b 0,eD f n b 1,eD f n b 2,eD f n b 3,.mp m]
theorem Iu(f:Fix)(n b j:Nat):cA Vo (eD f n b j)=some (nt f n j):=by
 unfold eD nt;cases Nat.blt j n<;>rfl
theorem y6(f:Fix)(l:List aC)(n b m:Nat):nU (bh f l n b m)=eU f l n:=by
 show nU [V.d _,V.d _,V.d _,V.d _,V.d _,V.d _,V.d _,V.d _,_,_,_,_,_]=_;simp only[nU,Iu];rfl
theorem uK{j n:Nat}(h:j<n):Nat.blt j n=true:=Nat.ble_eq_true_of_le h
theorem mQ{n:Nat}{f:Fix}{l:List aC}{b m:Nat}{h:aq}{id:Nat}(k:Nat)(hi:get h id=some (.fz (bh f l n b m))):dJ h (k+1) id=some (.box (eU f l n)):=by
 rw[dJ,hi];show some (DO.box (nU (bh f l n b m)))=_;rw[y6]
theorem QH{n:Nat}(f:Fix)(l:List aC)(m:Int):aX Tryz.prog 73 [.ref (eU f l n),i64 m] (.bool (Nr f m)):=by
 refine aB Tryz.func73 rfl (ft:=UM) 2 fun {σ} Y st=>?_;conv=>whnf
 refine al (ds:=[f.aP.d,i64 f.day,i64 m]) (S5 f.aP f.day m) rfl rfl ?_;conv=>whnf
 exact ae
theorem Qs(f:Fix)(l:List aC)(x:aC)(hf:jh f):aX Tryz.prog 136 [.ref (eU f l f.insts.length),x.d] (i64 (eI f x)):=by
 obtain⟨xi,xm,xs,xg⟩:=x;show aX Tryz.prog 136 [.ref (eU f l f.insts.length),.agg [i64 xi,i64 xm,i64 xs,i64 xg]] _;refine aB Tryz.func136 rfl (ft:=Pw) 2 fun {σ} Y st=>?_;conv=>whnf
 have KW:=(fj hf.aP).marks;unfold eI;have sq:=hf.many1;have ER:=hf.n9;generalize hx:(⟨xi,xm,xs,xg⟩:aC)=x;refine aA ((f.insts.length:Int)-1) (by simp) (wrap_i64 (by omega)) ?_;conv=>whnf
 refine aw (gv 0 ((f.insts.length:Int)-1) xi) rfl 1 rfl ?_;have jD:x.inst=xi:=by rw[<- hx]
 rw[jD]
 cases h1:a6 xi 0 ((f.insts.length:Int)-1) with
 | false=>
  conv=>whnf
  exact ae
 | true=>
 rw[if_pos rfl];have hi:=bq.1 h1;obtain⟨j,rfl⟩:∃ j:Nat,xi=j:=⟨xi.toNat,by omega⟩;rw[show((j:Nat):Int).toNat=j from rfl];have hj:j<f.insts.length:=by omega
 obtain⟨y,hy⟩:∃ y,f.insts[j]?=some y:=⟨f.insts[j],by simp⟩;have hL:cQ f j=y.lead:=by unfold cQ;rw[hy]
 have hK:nt f f.insts.length j = .ifc (if y.lead then 218 else 163) (.agg [.ref []]):=by
  unfold nt Li;rw[uK hj,hL]
 rw[hL];have hB:eU f l f.insts.length=f.cells ++ [bn l,nt f f.insts.length 0,nt f f.insts.length 1,nt f f.insts.length 2,nt f f.insts.length 3]:=rfl;have EL:j=0\/j=1\/j=2\/j=3:=by omega
 cases hl:y.lead with
 | true=>
  rw[hl]at hK;simp only[if_true,if_false,Bool.false_eq_true]at hK;rcases EL with rfl|rfl|rfl|rfl;all_goals
   rw[hB,hK];subst hx;conv=>whnf
   refine ak (gv 0 1000 xs) rfl 1 rfl ?_;conv=>whnf
   cases h4:a6 xs 0 1000 with
   | false=>
    conv=>whnf
    exact ae
   | true=>
   conv=>whnf
   refine ak (gv 0 4 xg) rfl 1 rfl ?_;conv=>whnf
   cases h5:a6 xg 0 4 with
   | false=>
    conv=>whnf
    exact ae
   | true=>
   rw[if_pos rfl,if_pos rfl,if_pos rfl];by_cases h6:xm=0
   ·rw[if_pos h6,h6]
    conv=>whnf
    exact ae
   ·rw[if_neg h6]
    conv=>whnf
    rw[decide_eq_false h6];conv=>whnf
    exact ae
 | false=>
  rw[hl]at hK;simp only[if_true,if_false,Bool.false_eq_true]at hK;rcases EL with rfl|rfl|rfl|rfl;all_goals
   rw[hB,hK];subst hx;conv=>whnf
   refine aA ((f.aP.marks.length:Int)-1) (by simp) (wrap_i64 (by omega)) ?_;conv=>whnf
   refine aw (gv 0 ((f.aP.marks.length:Int)-1) xm) rfl 1 rfl ?_
   cases h4:a6 xm 0 ((f.aP.marks.length:Int)-1) with
   | false=>
    conv=>whnf
    exact ae
   | true=>
   conv=>whnf
   refine ah (ds:=[.ref (eU f l f.insts.length),i64 xm]) (QH f l xm) (by rw[hB,hK];rfl) rfl ?_
   cases h5:Nr f xm with
   | false=>
    conv=>whnf
    exact ae
   | true=>
   conv=>whnf
   refine ak (gv 0 31 xs) rfl 1 rfl ?_;conv=>whnf
   cases h6:a6 xs 0 31 with
   | false=>
    conv=>whnf
    exact ae
   | true=>
   rw[if_neg (by simp),if_pos rfl,if_pos rfl,if_pos rfl];by_cases h7:xg=0
   ·rw[if_pos h7,h7]
    conv=>whnf
    exact ae
   ·rw[if_neg h7]
    conv=>whnf
    rw[decide_eq_false h7];conv=>whnf
    exact ae
theorem J8(R:Nat->Nat)(f:Fix)(n b j:Nat):aE (iy R) (eD f n b j)=eD f n (R b) j:=by
 unfold eD;cases Nat.blt j n<;>rfl
theorem fm(R:Nat->Nat)(f:Fix)(l:List aC)(n b m:Nat):iD R (.fz (bh f l n b m)) = .fz (bh f l n (R b) (R m)):=by
 show Obj.fz [V.d _,V.d _,V.d _,V.d _,V.d _,V.d _,V.d _,V.d _,aE (iy R) (eD f n b 0),aE (iy R) (eD f n b 1),aE (iy R) (eD f n b 2),aE (iy R) (eD f n b 3),_]=_;simp only[J8];rfl
theorem oZ{f:Fix}{n b j i:Nat}(h:i∈bC (eD f n b j)):i=b:=by
 unfold eD at h
 cases hb:Nat.blt j n with
 | true=>rw[hb]at h;simpa[bC,bU]using h
 | false=>rw[hb]at h;cases h
theorem og{n:Nat}{f:Fix}{l:List aC}{b m i:Nat}(h:i∈bU (bh f l n b m)):i=b\/i=m:=by
 have h:i∈bU [V.d _,V.d _,V.d _,V.d _,V.d _,V.d _,V.d _,V.d _,eD f n b 0,eD f n b 1,eD f n b 2,eD f n b 3,.mp m]:=h;simp only[bU,bC,List.nil_append,List.mem_append,List.mem_singleton,List.append_nil]at h;rcases h with h|h|h|h|h
 ·exact .inl (oZ h)
 ·exact .inl (oZ h)
 ·exact .inl (oZ h)
 ·exact .inl (oZ h)
 ·exact .inr h
abbrev bM:=List ((Int×Int×Int)×Int)
def pX(k:Int×Int×Int):D:=.agg [i64 k.1,i64 k.2.1,i64 k.2.2]
theorem yj(a b:Int×Int×Int):gY (pX a) (pX b)=some (decide (a=b)):=by
 obtain⟨a1,a2,a3⟩:=a;obtain⟨b1,b2,b3⟩:=b;show some (decide (a1=b1)&&(decide (a2=b2)&&(decide (a3=b3)&&true)))=_
 congr 1
 rw[Bool.eq_iff_iff];simp
def cn(M:bM):Obj:=.map (pA pX M)
def kP(f:Fix)(l:List aC)(n:Nat)(M:bM):aq:=[(1000000,.fz (bh f l n 1000000 1000001)),(1000001,cn M)]
theorem r5{n:Nat}:∀ {l:List Nat},(∀ i∈l,1000000<=i/\i<1000000+n)->hP n [] l=true
 | [],_=>rfl
 | k::r,h=>by
  have h1:=h k (by simp);simp only[hP,Bool.and_eq_true,Bool.or_eq_true];exact⟨.inl ⟨Nat.ble_eq_true_of_le h1.1,Nat.ble_eq_true_of_le (by omega)⟩,r5 fun i hi=>h i (by simp[hi])⟩
theorem l6{α:Type}:∀ {t:sW α} {k:Nat} {v:α},get t k=some v->put t k v=t
 | [],k,v,h=>by cases h
 | (i,u)::r,k,v,h=>by
  cases hq:Nat.beq i k with
  | true=>
   simp only[get,hq]at h;cases h;simp only[put,hq]
  | false=>
   simp only[get,hq]at h;simp only[put,hq];rw[l6 h]
theorem ab{f:Fix}{n b j i:Nat}(h:(b ==i)=false):aE (aZ i) (eD f n b j)=eD f n b j:=by
 have hq:Nat.beq b i=false:=by cases hq:Nat.beq b i with|false=>rfl|true=>have:=Nat.eq_of_beq_eq_true hq;subst this;simp at h
 unfold eD;have:aZ i (.ptr b 0) = .ptr b 0:=by
  unfold aZ;show(match Nat.beq b i with|true=>V.unk|false=>V.ptr b 0)=_;rw[hq]
 cases Nat.blt j n with
 | true=>
  show V.ifc _ [.agg [aZ i (.ptr b 0)]]=_;rw[this]
 | false=>rfl
theorem E7{n:Nat}{f:Fix}{l:List aC}{M:bM}{i:Nat}(h:i∈bk (kP f l n M)):1000000<=i/\i<1000000+2:=by
 have h:i∈1000000::(bU (bh f l n 1000000 1000001) ++ [1000001]):=h;rcases List.mem_cons.1 h with rfl|h
 ·omega
 rcases List.mem_append.1 h with h|h
 ·rcases og h with rfl|rfl<;>omega
 ·have:=List.mem_singleton.1 h;omega
section
variable {P : Program} {σ : Type} {Y : Hd σ} {e : Env} {h : aq} {s : σ} {d : Option Nat} {g : FuncId} {args args0 : List V} {f : Fix} {l : List aC} {n : Nat} {M M' : bM} {r : D} {b m : Nat}
theorem vJ(hf:sU P g args0 (kP f l n M) fun v h'=>v = .d r/\h'=kP f l n M')(hb:get h b=some (.fz (bh f l n b m)))(hm:get h m=some (cn M))(NA:Nat.beq b m=false)
  (bR:kU (ck [b,m] (d.getD 0)) args0=args) (hd:Nat.ble (d.getD 0) 10000=true):fx P e h d g args (.obj m (cn M')::aO d (.d r)):=by
 have Mg:ck [b,m] (d.getD 0) 1000000=b:=rfl;have Mh:ck [b,m] (d.getD 0) 1000001=m:=rfl;have EZ:cO [b,m] d (.d r) (kP f l n M') = .obj b (.fz (bh f l n b m)) :: .obj m (cn M')::aO d (.d r):=by
  show [Wr.obj b (iD (ck [b,m] (d.getD 0)) (.fz (bh f l n 1000000 1000001))),.obj m (cn M')]++aO d (.d r)=_;rw[fm,Mg,Mh];rfl
 have hB:fA [b,m] d (.d r) (kP f l n M')=true:=by
  unfold fA;rw[EZ];have h1:fS [b,m]=true:=by
   show(!(Nat.beq m b||false)&&(!false&&true))=true
   cases hq:Nat.beq m b with
   | false=>rfl
   | true=>have:=Nat.eq_of_beq_eq_true hq;subst this;rw[Nat.beq_refl]at NA;cases NA
  have h2:hP 2 [] (bk (kP f l n M'))=true:=r5 fun i hi=>E7 hi;have h3:dD (.obj b (.fz (bh f l n b m)) :: .obj m (cn M')::aO d (.d r))=true:=by cases d<;>rfl
  show(fS [b,m]&&true&&true&&true&&hP 2 [] (bk (kP f l n M'))&&true&&true&&Nat.ble (d.getD 0) 10000&&true&&dD (.obj b (.fz (bh f l n b m)) :: .obj m (cn M')::aO d (.d r)))=true;rw[h1,h2,h3,hd];rfl
 have ho:=iW (e:=e) (h:=h) hf [b,m] bR ⟨_,_,rfl,by rw[fm,Mg,Mh];exact hb,_,_,rfl,hm,rfl⟩ hB;rw[EZ]at ho;refine⟨ho.1,fun cx tN rr mm L F st a w a9 he hh hg ue hr=>?_⟩;have:=ho.2 cx tN rr mm L F st a w a9 he hh hg ue hr;have hp:put st.heap b (.fz (bh f l n b m))=st.heap:=l6 (hh _ _ hb);have pz:aF st (.obj b (.fz (bh f l n b m)) :: .obj m (cn M')::aO d (.d r))=aF st (.obj m (cn M')::aO d (.d r)):=by
  show aF ⟨st.env,put st.heap b (.fz (bh f l n b m)),st.s⟩ _=_;rw[hp]
 rw[pz]at this;exact this
theorem fL(b m:Nat){K:St σ->Prop}(hf:sU P g args0 (kP f l n M) fun v h'=>v = .d r/\h'=kP f l n M')(hb:get h b=some (.fz (bh f l n b m)))(hm:get h m=some (cn M))(NA:Nat.beq b m=false)
  (bR:kU (ck [b,m] (d.getD 0)) args0=args) (hd:Nat.ble (d.getD 0) 10000=true) (hk:bg (.obj m (cn M')::aO d (.d r)) e h fun e h=>K ⟨e,h,s⟩):dK P Y ⟨e,h,s⟩ d g args K:=
 dH (vJ hf hb hm NA bR hd) hk
theorem sS(b m:Nat){K:List Wr->Prop}(hf:sU P g args0 (kP f l n M) fun v h'=>v = .d r/\h'=kP f l n M')(hb:get h b=some (.fz (bh f l n b m)))(hm:get h m=some (cn M))(NA:Nat.beq b m=false)
  (bR:kU (ck [b,m] (d.getD 0)) args0=args) (hd:Nat.ble (d.getD 0) 10000=true) (hk:K (.obj m (cn M')::aO d (.d r))):dh P e h d g args K:=
 ⟨_,hk,vJ hf hb hm NA bR hd⟩
theorem eT{Q:V->aq->σ->Prop}{lv:List V}(ds:List D)(hl:lv=inj ds)(hb:get h 1000000=some (.fz (bh f l n 1000000 1000001)))(hm:get h 1000001=some (cn M))(hq:Q (vQ (inj ds)) (kP f l n M) s):pj lv h s Q:=by
 refine cd [] (inj ds) (kP f l n M) ?_ ⟨?_,?_,trivial⟩ rfl hq
 ·rw[hl]
  have:∀ (R:Nat->Nat) (l:List D),kU R (inj l)=inj l:=by
   intro R l
   induction l with
   | nil=>rfl
   | cons c r ih=>show aE (iy R) (.d c)::cb (iy R) (inj r) = .d c::inj r;rw[show cb (iy R) (inj r)=inj r from ih];rfl
  exact this _ _
 ·rw[fm];exact hb
 ·exact hm
end
def kN(f:Fix)(mark:Int)(p:Pt):Int:=if iI f.aP f.day mark p=0 then eG f.aP f.day mark p else -1
def Ip(f:Fix)(mark:Int)(p:Pt)(M:bM):Int×bM:=match getM M (mark,p.x,p.y) with
 | some v=>(v,M)
 | none=>(kN f mark p,pB M (mark,p.x,p.y) (kN f mark p))
theorem Qm{n:Nat}(f:Fix)(l:List aC)(mark:Int)(p:Pt)(M:bM):sU Tryz.prog 111 [.ptr 1000000 0,.d (i64 mark),.d p.d] (kP f l n M) fun v h'=>v = .d (i64 (Ip f mark p M).1)/\h'=kP f l n (Ip f mark p M).2:=by
 intro σ Y s;refine cX mixed ao Tryz.func111 rfl (ft:=KD) (args:=[.ptr 1000000 0,.d (i64 mark),.d p.d]) (show qC KD Tryz.f111 3=true from by decide +kernel) ?_;unfold Ip;conv=>whnf
 cases hg:getM M (mark,p.x,p.y) with
 | some v=>
  obtain⟨i,_,g1,_⟩:=mw (kd:=pX) yj hg 0;refine kY.mk _ g1 ?_;conv=>whnf
  exact eT [i64 v] rfl (by first|rfl|(simp only[ab,Nat.reduceBEq,eq_self];rfl)) rfl ⟨⟨rfl,rfl⟩,rfl⟩
 | none=>
  have g1:=qg (kd:=pX) yj hg 0;refine kY.mk _ g1 ?_;conv=>whnf
  refine al (ds:=[f.aP.d,i64 f.day,i64 mark,p.d]) (S6 f.aP f.day mark p) rfl rfl ?_;conv=>whnf
  have hp:=sC (kd:=pX) (kN f mark p) hg;unfold kN at hp ⊢;by_cases h0:iI f.aP f.day mark p=0
  ·rw[if_pos h0]at hp ⊢
   refine ag (fun h1=>absurd h1 (by simp[h0])) (fun _=>?_);conv=>whnf
   refine kY.mk _ g1 ?_;conv=>whnf
   exact eT [i64 _] rfl (by first|rfl|(simp only[ab,Nat.reduceBEq,eq_self];rfl)) (by show some (Obj.map (pA pX M ++ [(pX (mark,p.x,p.y),i64 _)]))=_;rw[hp];rfl) ⟨⟨rfl,rfl⟩,rfl⟩
  ·rw[if_neg h0]at hp ⊢
   refine ag (fun _=>?_) (fun h1=>absurd h1 (by simp[h0]));conv=>whnf
   refine kY.mk _ g1 ?_;conv=>whnf
   exact eT [i64 _] rfl (by first|rfl|(simp only[ab,Nat.reduceBEq,eq_self];rfl)) (by show some (Obj.map (pA pX M ++ [(pX (mark,p.x,p.y),i64 _)]))=_;rw[hp];rfl) ⟨⟨rfl,rfl⟩,rfl⟩
def w5(f:Fix)(mark:Int)(p:Pt)(M:bM):bM:=match getM M (mark,p.x,p.y) with
 | some _=>M
 | none=>pB M (mark,p.x,p.y) (kN f mark p)
def bN(f:Fix)(M:bM):Prop:=∀ k v,getM M k=some v->v=kN f k.1 ⟨k.2.1,k.2.2⟩
theorem lZ(f:Fix):bN f []:=fun _ _ h=>by cases h
theorem ux{f:Fix}{M:bM}(h:bN f M)(mark:Int)(p:Pt):bN f (w5 f mark p M):=by
 unfold w5;split
 ·exact h
 ·intro k v hk
  rw[re]at hk;split at hk
  ·rename_i e;cases hk;subst e;rfl
  ·exact h k v hk
theorem Kg{f:Fix}{M:bM}(h:bN f M)(mark:Int)(p:Pt):Ip f mark p M=(kN f mark p,w5 f mark p M):=by
 unfold Ip w5
 cases hg:getM M (mark,p.x,p.y) with
 | some v=>rw[h _ _ hg]
 | none=>rfl
theorem GN{n:Nat}(f:Fix)(l:List aC)(mark:Int)(p:Pt){M:bM}(hM:bN f M):sU Tryz.prog 111 [.ptr 1000000 0,.d (i64 mark),.d p.d] (kP f l n M) fun v h'=>v = .d (i64 (kN f mark p))/\h'=kP f l n (w5 f mark p M):=by
 intro σ Y s;have:=Qm (n:=n) f l mark p M Y s;rw[Kg hM]at this;exact this
theorem zP(f:Fix)(mark:Int)(p:Pt) : -1<=kN f mark p/\kN f mark p<=31:=by
 unfold kN;split;case isFalse=>omega
 rename_i h;unfold eG;rw[if_pos h];have h0:=h;unfold iI at h;split at h;case isFalse=>rename_i h1;exact absurd h h1
 split at h;case isFalse=>cases h
 split at h
 ·cases h
 rename_i h3;have IC:NZ ((gl f.aP f.day mark).jz.sub p):=by
  show(gl f.aP f.day mark).jz.x-p.x≠0\/(gl f.aP f.day mark).jz.y-p.y≠0;unfold rI at h3;simp at h3;omega
 have:=zO IC;omega
def Ej(n:Int):Int:=if 16<n then n-32 else n
def xo(f:Fix)(x:aC)(p:Pt):Span×Bool:=(⟨Ej ((x.shown-kN f x.mark p+32).tmod 32),Ej ((x.shown-kN f x.mark p+32).tmod 32)⟩,decide (0<=kN f x.mark p))
theorem QB{n:Nat}(f:Fix)(l:List aC)(x:aC)(p:Pt){M:bM}(hM:bN f M)(hx:0<=x.shown/\x.shown<=1000) :
  sU Tryz.prog 193 [.agg [.ptr 1000000 0],.d p.d,.d x.d] (kP f l n M) fun v h'=>v = .d (.tup [(xo f x p).1.d,.bool (xo f x p).2])/\h'=kP f l n (w5 f x.mark p M):=by
 intro σ Y s;refine cX mixed ao Tryz.func193 rfl (ft:=KL) (args:=[.agg [.ptr 1000000 0],.d p.d,.d x.d]) (show qC KL Tryz.f193 3=true from by decide +kernel) ?_;conv=>whnf
 refine fL 1000000 1000001 (GN (n:=n) f l x.mark p hM) (by first|rfl|(simp only[ab,Nat.reduceBEq,eq_self];rfl)) rfl rfl rfl rfl ?_;have ht:=zP f x.mark p;unfold xo;generalize kN f x.mark p=t at ht ⊢;conv=>whnf
 refine af ?_;conv=>whnf
 refine af ?_;conv=>whnf
 unfold Ej;have hm:0<=(x.shown-t+32).tmod 32/\(x.shown-t+32).tmod 32<32:=by
  rw[Int.tmod_eq_emod_of_nonneg (by omega)];omega
 generalize (x.shown-t+32).tmod 32=n at hm ⊢;by_cases h1:16<n
 ·rw[if_pos h1,decide_eq_true h1]
  conv=>whnf
  refine af ?_;conv=>whnf
  exact eT [_,_] rfl (by first|rfl|(simp only[ab,Nat.reduceBEq,eq_self];rfl)) rfl ⟨⟨rfl,rfl⟩,rfl⟩
 ·rw[if_neg h1,decide_eq_false h1]
  conv=>whnf
  exact eT [_,_] rfl (by first|rfl|(simp only[ab,Nat.reduceBEq,eq_self];rfl)) rfl ⟨⟨rfl,rfl⟩,rfl⟩
def iS(p:Pt)(a:jf):Bool:=a6 p.x a.x.lo a.x.hi&&a6 p.y a.y.lo a.y.hi
def pI(f:Fix)(p:Pt):Option jf:=f.cH.find? (iS p)
def tj(f:Fix)(x:aC)(p:Pt):Span×Bool:=match pI f p with
 | none=>(⟨-20,20⟩,true)
 | some a=>(⟨x.shown-a.depth.hi,x.shown-a.depth.lo⟩,decide (x.ground=0)||decide (x.ground=a.ground))
theorem QE(a:jf)(p:Pt):aX Tryz.prog 196 [a.d,.ref p.cells] (.bool (iS p a)):=by
 refine aB Tryz.func196 rfl (ft:=Qa) 2 fun {σ} Y st=>?_;conv=>whnf
 refine ak (gv a.x.lo a.x.hi p.x) rfl 1 rfl ?_;conv=>whnf
 unfold iS
 cases h1:a6 p.x a.x.lo a.x.hi with
 | false=>
  conv=>whnf
  exact ae
 | true=>
  conv=>whnf
  refine ak (gv a.y.lo a.y.hi p.y) rfl 1 rfl ?_;conv=>whnf
  cases h2:a6 p.y a.y.lo a.y.hi with
  | false=>
   conv=>whnf
   exact ae
  | true=>
   conv=>whnf
   exact ae
theorem mJ{α:Type}(q:α->Bool):∀ (l:List α) (i:Nat),(l.find? q=none->indexOf q l i = -1) /\ ∀ a,l.find? q=some a -> ∃ k:Nat,indexOf q l i=(i+k:Nat)/\l[k]?=some a
 | [],i=>⟨fun _=>rfl,fun a h=>by cases h⟩
 | x::r,i=>by
  rw[indexOf,List.find?_cons]
  cases hq:q x with
  | true=>
   rw[if_pos rfl];exact⟨fun h=>(by cases h),fun a h=>⟨0,by simp,h⟩⟩
  | false=>
   rw[if_neg (by simp)];have ih:=mJ q r (i+1);refine⟨ih.1,fun a h=>?_⟩;obtain⟨k,h1,h2⟩:=ih.2 a h;refine⟨k+1,?_,by simpa using h2⟩;rw[show((i:Int)+1)=((i+1:Nat):Int) by omega,h1];congr 1;omega
theorem QC{n:Nat}(f:Fix)(l:List aC)(x:aC)(p:Pt)(hf:jh f)(hx:0<=x.shown/\x.shown<=1000):aX Tryz.prog 194 [.agg [.ref (eU f l n)],p.d,x.d] (.tup [(tj f x p).1.d,.bool (tj f x p).2]):=by
 refine aB Tryz.func194 rfl (ft:=P8) 3 fun {σ} Y st=>?_;conv=>whnf
 refine ak (ds:=[nJ f.cH,.clo 196 [.ref p.cells]]) (QD f.cH 196 [.ref p.cells] (iS p) (by have:=hf.cH;omega) fun a _=>QE a p) rfl 1 rfl ?_;conv=>whnf
 unfold tj pI;obtain⟨h1,h2⟩:=mJ (iS p) f.cH 0
 cases ha:f.cH.find? (iS p) with
 | none=>
  rw[show indexOf (iS p) f.cH 0 = -1 from h1 ha];conv=>whnf
  exact ae
 | some a=>
  obtain⟨k,hk,iQ⟩:=h2 a ha;have hA:=hf.II a (List.mem_of_getElem? iQ);have:=hA.d1;have:=hA.d2;have:=hA.d3;rw[show indexOf (iS p) f.cH 0=((k:Nat):Int) by simpa using hk];rw[decide_eq_false (show ¬ ((k:Nat):Int)<0 by omega)];conv=>whnf
  refine au iQ ?_;conv=>whnf
  refine af ?_;conv=>whnf
  refine af ?_;conv=>whnf
  by_cases h5:x.ground=0
  ·rw[decide_eq_true h5]
   conv=>whnf
   exact ae
  ·rw[decide_eq_false h5]
   conv=>whnf
   exact ae
theorem Ma{n:Nat}(f:Fix)(l:List aC)(x:aC)(p:Pt)(hf:jh f)(hx:0<=x.shown/\x.shown<=1000){e:Env}{h:aq}{d:Option Nat}{b m:Nat}(hb:get h b=some (.fz (bh f l n b m))) :
  fx Tryz.prog e h d 194 [.agg [.ptr b 0],.d p.d,.d x.d] (aO d (.d (.tup [(tj f x p).1.d,.bool (tj f x p).2]))):=by
 refine jT (QC (n:=n) f l x p hf hx) rfl 1 ?_;have:=mQ 0 hb;show bZ (dJ h 1) [V.agg [V.ptr b 0],V.d p.d,V.d x.d]=_;simp only[bZ,cA,this];rfl
structure B2(f:Fix)(x:aC):Prop where
 La:0<=x.inst
 Hs:x.inst<f.insts.length
 Ib:0<=x.shown
 Ic:x.shown<=1000
 mark:0<=x.mark
theorem Fy{f:Fix}{x:aC}(h:eI f x=0):B2 f x:=by
 unfold eI at h;split at h;case isFalse=>cases h
 rename_i h1;rw[bq]at h1;split at h
 ·split at h
  case isFalse=>cases h
  rename_i h2;split at h;case isFalse=>cases h
  split at h;case isFalse=>cases h
  rename_i h4;rw[bq]at h2;exact⟨by omega,by omega,by omega,by omega,by omega⟩
 ·split at h
  case isFalse=>cases h
  rename_i h2;split at h;case isFalse=>cases h
  split at h;case isFalse=>cases h
  rename_i h3;rw[bq]at h2 h3;exact⟨by omega,by omega,by omega,by omega,by omega⟩
theorem DW{f:Fix}{n b j:Nat}(h:j<n):eD f n b j = .ifc (if cQ f j then 218 else 163) [.agg [.ptr b 0]]:=by
 unfold eD;rw[uK h];rfl
abbrev pg:=Nat->Span
def HC(s:pg):List D:=[i64 (s 0).lo,i64 (s 0).hi,i64 (s 1).lo,i64 (s 1).hi,i64 (s 2).lo,i64 (s 2).hi,i64 (s 3).lo,i64 (s 3).hi]
def CL(f:Fix)(i:Nat):pg:=fun k=>if k<i then (match f.insts[k]? with|some x=>x.off|none=>⟨0,0⟩) else ⟨0,0⟩
def CK(f:Fix):pg:=CL f f.insts.length
def FD(s:pg)(k:Nat)(v:Span):pg:=fun i=>if i=k then v else s i
def r7(n k:Int):Bool:=decide (er .and .i64 (n.fdiv (2^(min k.toNat IntKind.i64.bits))) 1=1)
def Ef(f:Fix)(marks insts:Int)(x:aC):Bool:=r7 insts x.inst||(!cQ f x.inst.toNat&&r7 marks x.mark)
def tT(f:Fix)(x:aC)(p:Pt):Span×Bool:=if cQ f x.inst.toNat then tj f x p else xo f x p
def HH(f:Fix)(x:aC)(p:Pt)(M:bM):bM:=if cQ f x.inst.toNat then M else w5 f x.mark p M
def yS(a b:Span):Span:=⟨max a.lo b.lo,min a.hi b.hi⟩
def Ah(f:Fix)(p:Pt)(marks insts:Int):List aC->pg->bM->(pg×Bool)×bM
 | [],s,M=>((s,true),M)
 | x::r,s,M=>if Ef f marks insts x then Ah f p marks insts r s M else
  if (tT f x p).2=true/\(yS (tT f x p).1 (s x.inst.toNat)).lo<=(yS (tT f x p).1 (s x.inst.toNat)).hi then Ah f p marks insts r (FD s x.inst.toNat (yS (tT f x p).1 (s x.inst.toNat))) (HH f x p M) else ((s,false),HH f x p M)
theorem D5{f:Fix}{M:bM}(h:bN f M)(x:aC)(p:Pt):bN f (HH f x p M):=by
 unfold HH;split
 ·exact h
 ·exact ux h _ _
theorem B6{f:Fix}{p:Pt}{marks insts:Int}:∀ {l:List aC} {s:pg} {M:bM},bN f M->bN f (Ah f p marks insts l s M).2
 | [],_,_,h=>h
 | x::r,s,M,h=>by
  rw[Ah];split
  ·exact B6 h
  ·split
   ·exact B6 (D5 h x p)
   ·exact D5 h x p
theorem Fa{f:Fix}{i:Nat}{x:dr}(h:f.insts[i]?=some x):CL f (i+1)=FD (CL f i) i x.off:=by
 funext k
 show(if k<i+1 then _ else _)=if k=i then _ else if k<i then _ else _
 by_cases h1:k=i
 ·subst h1;rw[if_pos (by omega),if_pos rfl,h]
 ·rw[if_neg h1]
  by_cases h2:k<i
  ·rw[if_pos (by omega),if_pos h2]
  ·rw[if_neg (by omega),if_neg h2]
def atR(f:Fix)(l:List aC)(p:Pt)(marks insts:Int)(M:bM):(pg×Bool)×bM:=Ah f p marks insts l (CK f) M
set_option maxHeartbeats 4000000 in
theorem Vf{n:Nat}(f:Fix)(l:List aC)(p:Pt)(marks insts:Int){M:bM}(hf:jh f)(hn:f.insts.length=n)(hl:∀ x∈l,B2 f x)(hlen:l.length<=8)(hM:bN f M):sU Tryz.prog 68 [.ptr 1000000 0,.d p.d,.d (i64 marks),.d (i64 insts)] (kP f l n M)
  fun v h'=>v = .d (.tup [.agg (HC (atR f l p marks insts M).1.1),.bool (atR f l p marks insts M).1.2])/\h'=kP f l n (atR f l p marks insts M).2:=by
 intro σ Y st;refine cX mixed ao Tryz.func68 rfl (ft:=Qe) (args:=[.ptr 1000000 0,.d p.d,.d (i64 marks),.d (i64 insts)]) (show qC Qe Tryz.f68 4=true from by decide +kernel) ?_;conv=>whnf
 have sq:=hf.many1;have ER:=hf.n9;refine ba (T:=tys) ao (by exact ai mixed ao (by decide +kernel)) f.insts (fun i (_:Unit)=>⟨[(0,.ptr 1000000 0),(2,.d (i64 marks)),(3,.d (i64 insts)),(5,.ptr 5 0),(8,.ptr 8 0),(22,.d (gG f.insts)),(23,.d (i64 (f.insts.map dr.cells).length)),(24,.d (i64 i))],[(8,.box (.dd (HC (CL f i)))),(5,.box (.dd p.cells)),(1000000,.fz (bh f l n 1000000 1000001)),(1000001,cn M)],st⟩) (fun i r _=>True) () (Wk.sub ⟨(by first|rfl|(simp only[List.length_map];rfl)|(simp only[ab,Nat.reduceBEq,eq_self];rfl)|simp[PX.get]),(by first|rfl|(simp only[List.length_map];rfl)|(simp only[ab,Nat.reduceBEq,eq_self];rfl)|simp[PX.get]),(by first|rfl|(simp only[List.length_map];rfl)|(simp only[ab,Nat.reduceBEq,eq_self];rfl)|simp[PX.get]),(by first|rfl|(simp only[List.length_map];rfl)|(simp only[ab,Nat.reduceBEq,eq_self];rfl)|simp[PX.get]),(by first|rfl|(simp only[List.length_map];rfl)|(simp only[ab,Nat.reduceBEq,eq_self];rfl)|simp[PX.get]),(by first|rfl|(simp only[List.length_map];rfl)|(simp only[ab,Nat.reduceBEq,eq_self];rfl)|simp[PX.get]),(by first|rfl|(simp only[List.length_map];rfl)|(simp only[ab,Nat.reduceBEq,eq_self];rfl)|simp[PX.get]),(by first|rfl|(simp only[List.length_map];rfl)|(simp only[ab,Nat.reduceBEq,eq_self];rfl)|simp[PX.get]),trivial⟩ ⟨(by first|rfl|(simp only[List.length_map];rfl)|(simp only[ab,Nat.reduceBEq,eq_self];rfl)|simp[PX.get]),(by first|rfl|(simp only[List.length_map];rfl)|(simp only[ab,Nat.reduceBEq,eq_self];rfl)|simp[PX.get]),(by first|rfl|(simp only[List.length_map];rfl)|(simp only[ab,Nat.reduceBEq,eq_self];rfl)|simp[PX.get]),(by first|rfl|(simp only[List.length_map];rfl)|(simp only[ab,Nat.reduceBEq,eq_self];rfl)|simp[PX.get]),trivial⟩) trivial ?_ ?_
 ·rintro i x r _ jD hi hr _
  have hs:=Fa jD;conv=>whnf
  refine ag (fun _=>?_) (fun h=>absurd hi (by simpa using h));conv=>whnf
  refine au jD ?_;conv=>whnf
  have h4:i=0\/i=1\/i=2\/i=3:=by omega
  rcases h4 with rfl|rfl|rfl|rfl;all_goals
   conv=>whnf
   refine af ?_;conv=>whnf
   exact⟨(),trivial,Wk.sub ⟨rfl,rfl,rfl,rfl,rfl,rfl,rfl,rfl,trivial⟩ ⟨by rw[hs];rfl,rfl,(by first|rfl|(simp only[ab,Nat.reduceBEq,eq_self];rfl)),rfl,trivial⟩⟩
 ·rintro _ _
  conv=>whnf
  refine ag (fun h=>absurd h (by simp)) (fun _=>?_);conv=>whnf
  rw[show CL f f.insts.length=CK f from rfl];unfold atR;generalize CK f=s0;clear sq ER;refine ba (T:=tys) ao (by exact ai mixed ao (by decide +kernel)) l (fun i (z:pg×bM)=>⟨[(0,.ptr 1000000 0),(2,.d (i64 marks)),(3,.d (i64 insts)),(5,.ptr 5 0),(8,.ptr 8 0),(37,.d (bn l)),(38,.d (i64 (l.map aC.cells).length)),(39,.d (i64 i))],[(8,.box (.dd (HC z.1))),(5,.box (.dd p.cells)),(1000000,.fz (bh f l n 1000000 1000001)),(1000001,cn z.2)],st⟩) (fun i r z=>bN f z.2/\Ah f p marks insts l s0 M=Ah f p marks insts r z.1 z.2) (s0,M) (Wk.sub ⟨(by first|rfl|(simp only[List.length_map];rfl)|(simp only[ab,Nat.reduceBEq,eq_self];rfl)|simp[PX.get]),(by first|rfl|(simp only[List.length_map];rfl)|(simp only[ab,Nat.reduceBEq,eq_self];rfl)|simp[PX.get]),(by first|rfl|(simp only[List.length_map];rfl)|(simp only[ab,Nat.reduceBEq,eq_self];rfl)|simp[PX.get]),(by first|rfl|(simp only[List.length_map];rfl)|(simp only[ab,Nat.reduceBEq,eq_self];rfl)|simp[PX.get]),(by first|rfl|(simp only[List.length_map];rfl)|(simp only[ab,Nat.reduceBEq,eq_self];rfl)|simp[PX.get]),(by first|rfl|(simp only[List.length_map];rfl)|(simp only[ab,Nat.reduceBEq,eq_self];rfl)|simp[PX.get]),(by first|rfl|(simp only[List.length_map];rfl)|(simp only[ab,Nat.reduceBEq,eq_self];rfl)|simp[PX.get]),(by first|rfl|(simp only[List.length_map];rfl)|(simp only[ab,Nat.reduceBEq,eq_self];rfl)|simp[PX.get]),trivial⟩ ⟨(by first|rfl|(simp only[List.length_map];rfl)|(simp only[ab,Nat.reduceBEq,eq_self];rfl)|simp[PX.get]),(by first|rfl|(simp only[List.length_map];rfl)|(simp only[ab,Nat.reduceBEq,eq_self];rfl)|simp[PX.get]),(by first|rfl|(simp only[List.length_map];rfl)|(simp only[ab,Nat.reduceBEq,eq_self];rfl)|simp[PX.get]),(by first|rfl|(simp only[List.length_map];rfl)|(simp only[ab,Nat.reduceBEq,eq_self];rfl)|simp[PX.get]),trivial⟩) ⟨hM,rfl⟩ ?_ ?_
  ·rintro i x r ⟨s,M'⟩ jD hi hr ⟨DH,he⟩
   simp only at DH he;have hx:=hl x (List.mem_of_getElem? jD);obtain⟨j,hj⟩:∃ j:Nat,x.inst=j:=⟨x.inst.toNat,by have:=hx.La;omega⟩;have EL:j=0\/j=1\/j=2\/j=3:=by have:=hx.Hs;have:=hf.n9;omega
   have FQ:j<n:=by have:=hx.Hs;omega
   have hK:=DW (f:=f) (b:=1000000) FQ;have hB:bh f l n 1000000 1000001=inj (f.cells ++ [bn l]) ++ [eD f n 1000000 0,eD f n 1000000 1,eD f n 1000000 2,eD f n 1000000 3,.mp 1000001]:=rfl;have Rh:x.inst.toNat=j:=by omega
   rw[Ah]at he;unfold Ef tT HH at he;rw[Rh]at he;obtain⟨xi,xm,xs,xg⟩:=x;simp only at hj he;subst hj
   cases hl:cQ f j with
   | true=>
    rw[hl,if_pos rfl]at hK;rw[hl,Bool.not_true,Bool.false_and,Bool.or_false]at he;simp only[if_true]at he
    cases hc:r7 insts j with
    | true=>
     have KS:r7 insts j=false->False:=by rw[hc];simp
     rw[hc,if_pos rfl]at he;rcases EL with rfl|rfl|rfl|rfl;all_goals
      rw[hK]at hB;rw[hB];conv=>whnf
      refine ag (fun _=>?_) (fun h=>absurd hi (by simpa using h));conv=>whnf
      refine au jD ?_;conv=>whnf
      refine ag (fun hz=>?_) (fun hz=>?_)
      rotate_left
      ·exact(KS hz).elim
      conv=>whnf
      refine af ?_;conv=>whnf
      exact⟨(s,M'),⟨DH,he⟩,Wk.sub ⟨rfl,rfl,rfl,rfl,rfl,rfl,rfl,rfl,trivial⟩ ⟨rfl,rfl,(by first|rfl|(simp only[ab,Nat.reduceBEq,eq_self];rfl)),rfl,trivial⟩⟩
    | false=>
     have KS:r7 insts j=true->False:=by rw[hc];simp
     rw[hc,if_neg (by simp)]at he;rcases EL with rfl|rfl|rfl|rfl;all_goals
      rw[hK]at hB;rw[hB];conv=>whnf
      refine ag (fun _=>?_) (fun h=>absurd hi (by simpa using h));conv=>whnf
      refine au jD ?_;conv=>whnf
      refine ag (fun hz=>?_) (fun hz=>?_)
      ·exact(KS hz).elim
      conv=>whnf
      refine F7 194 (by decide +kernel) ?_;refine⟨_,?_,Ma (n:=n) f l ⟨_,xm,xs,xg⟩ p hf ⟨hx.Ib,hx.Ic⟩ (b:=1000000) (m:=1000001) (by rw[hB];simp only[ab,Nat.reduceBEq,eq_self];rfl)⟩;generalize tj f _ p=O at he ⊢;obtain⟨⟨HE,HD⟩,ob⟩:=O;conv=>whnf
      cases ob with
      | false=>
       rw[if_neg (by simp)]at he;rw[he];conv=>whnf
       exact eT [_,_] rfl (by rw[hB];simp only[ab,Nat.reduceBEq,eq_self];rfl) rfl ⟨⟨rfl,rfl⟩,rfl⟩
      | true=>
       conv=>whnf
       refine ag (fun hz=>?_) (fun hz=>?_)
       ·have hz:min HD (s _).hi<max HE (s _).lo:=of_decide_eq_true hz
        rw[if_neg (fun h=>by have h2:max HE (s _).lo<=min HD (s _).hi:=h.2;omega)]at he;rw[he];conv=>whnf
        exact eT [_,_] rfl (by rw[hB];simp only[ab,Nat.reduceBEq,eq_self];rfl) rfl ⟨⟨rfl,rfl⟩,rfl⟩
       ·have hz:¬ (min HD (s _).hi<max HE (s _).lo):=of_decide_eq_false hz
        rw[if_pos ⟨rfl,show max HE (s _).lo<=min HD (s _).hi by omega⟩]at he;conv=>whnf
        refine af ?_;conv=>whnf
        exact⟨(FD s _ (yS ⟨HE,HD⟩ (s _)),M'),⟨DH,he⟩,Wk.sub ⟨rfl,rfl,rfl,rfl,rfl,rfl,rfl,rfl,trivial⟩ ⟨rfl,rfl,(by first|rfl|(simp only[ab,Nat.reduceBEq,eq_self];rfl)),rfl,trivial⟩⟩
   | false=>
    rw[hl,if_neg (by simp)]at hK;rw[hl,Bool.not_false,Bool.true_and]at he;simp only[Bool.false_eq_true,if_false]at he
    cases hc:r7 insts j with
    | true=>
     have KS:r7 insts j=false->False:=by rw[hc];simp
     rw[hc,Bool.true_or,if_pos rfl]at he;rcases EL with rfl|rfl|rfl|rfl;all_goals
      rw[hK]at hB;rw[hB];conv=>whnf
      refine ag (fun _=>?_) (fun h=>absurd hi (by simpa using h));conv=>whnf
      refine au jD ?_;conv=>whnf
      refine ag (fun hz=>?_) (fun hz=>?_)
      rotate_left
      ·exact(KS hz).elim
      conv=>whnf
      refine af ?_;conv=>whnf
      exact⟨(s,M'),⟨DH,he⟩,Wk.sub ⟨rfl,rfl,rfl,rfl,rfl,rfl,rfl,rfl,trivial⟩ ⟨rfl,rfl,(by first|rfl|(simp only[ab,Nat.reduceBEq,eq_self];rfl)),rfl,trivial⟩⟩
    | false=>
     have KS:r7 insts j=true->False:=by rw[hc];simp
     rw[hc,Bool.false_or]at he;have JB:=hx.mark;simp only at JB
     cases hd:r7 marks xm with
     | true=>
      have VQ:r7 marks xm=false->False:=by rw[hd];simp
      rw[hd,if_pos rfl]at he;rcases EL with rfl|rfl|rfl|rfl;all_goals
       rw[hK]at hB;rw[hB];conv=>whnf
       refine ag (fun _=>?_) (fun h=>absurd hi (by simpa using h));conv=>whnf
       refine au jD ?_;conv=>whnf
       refine ag (fun hz=>?_) (fun hz=>?_)
       ·exact(KS hz).elim
       conv=>whnf
       refine bc (decide_eq_true JB) ?_;conv=>whnf
       refine ag (fun hz=>?_) (fun hz=>?_)
       rotate_left
       ·exact(VQ hz).elim
       conv=>whnf
       refine af ?_;conv=>whnf
       exact⟨(s,M'),⟨DH,he⟩,Wk.sub ⟨rfl,rfl,rfl,rfl,rfl,rfl,rfl,rfl,trivial⟩ ⟨rfl,rfl,(by first|rfl|(simp only[ab,Nat.reduceBEq,eq_self];rfl)),rfl,trivial⟩⟩
     | false=>
      have VQ:r7 marks xm=true->False:=by rw[hd];simp
      rw[hd,if_neg (by simp)]at he;rcases EL with rfl|rfl|rfl|rfl;all_goals
       rw[hK]at hB;rw[hB];conv=>whnf
       refine ag (fun _=>?_) (fun h=>absurd hi (by simpa using h));conv=>whnf
       refine au jD ?_;conv=>whnf
       refine ag (fun hz=>?_) (fun hz=>?_)
       ·exact(KS hz).elim
       conv=>whnf
       refine bc (decide_eq_true JB) ?_;conv=>whnf
       refine ag (fun hz=>?_) (fun hz=>?_)
       ·exact(VQ hz).elim
       conv=>whnf
       refine F7 193 (by decide +kernel) ?_;refine sS 1000000 1000001 (QB (n:=n) f l ⟨_,xm,xs,xg⟩ p DH ⟨hx.Ib,hx.Ic⟩) (by rw[hB];simp only[ab,Nat.reduceBEq,eq_self];rfl) rfl rfl rfl rfl ?_;generalize xo f _ p=O at he ⊢;have tc:=ux DH xm p;generalize hMM:w5 f _ p M'=M2 at he ⊢;rw[hMM]at tc;obtain⟨⟨HE,HD⟩,ob⟩:=O;conv=>whnf
       cases ob with
       | false=>
        rw[if_neg (by simp)]at he;rw[he];conv=>whnf
        exact eT [_,_] rfl (by rw[hB];simp only[ab,Nat.reduceBEq,eq_self];rfl) rfl ⟨⟨rfl,rfl⟩,rfl⟩
       | true=>
        conv=>whnf
        refine ag (fun hz=>?_) (fun hz=>?_)
        ·have hz:min HD (s _).hi<max HE (s _).lo:=of_decide_eq_true hz
         rw[if_neg (fun h=>by have h2:max HE (s _).lo<=min HD (s _).hi:=h.2;omega)]at he;rw[he];conv=>whnf
         exact eT [_,_] rfl (by rw[hB];simp only[ab,Nat.reduceBEq,eq_self];rfl) rfl ⟨⟨rfl,rfl⟩,rfl⟩
        ·have hz:¬ (min HD (s _).hi<max HE (s _).lo):=of_decide_eq_false hz
         rw[if_pos ⟨rfl,show max HE (s _).lo<=min HD (s _).hi by omega⟩]at he;conv=>whnf
         refine af ?_;conv=>whnf
         exact⟨(FD s _ (yS ⟨HE,HD⟩ (s _)),M2),⟨tc,he⟩,Wk.sub ⟨rfl,rfl,rfl,rfl,rfl,rfl,rfl,rfl,trivial⟩ ⟨rfl,rfl,(by first|rfl|(simp only[ab,Nat.reduceBEq,eq_self];rfl)),rfl,trivial⟩⟩
  ·rintro ⟨s,M'⟩ ⟨DH,he⟩
   rw[Ah]at he;rw[he];conv=>whnf
   refine ag (fun h=>absurd h (by simp)) (fun _=>?_);conv=>whnf
   exact eT [_,_] rfl (by first|rfl|(simp only[ab,Nat.reduceBEq,eq_self];rfl)) rfl ⟨⟨rfl,rfl⟩,rfl⟩
section
variable {P : Program} {T : dV} {σ : Type} {Y : Hd σ}
theorem IG(hT:bl P T){ft:FT}{c:Code}(hD:cy P T ft c){α β:Type}(l:List α)(I:Nat->β->St σ)(J:Nat->List α->β->Prop)(x0:β){st:St σ}{K:dX->St σ->Prop}(h0:Wk st (I 0 x0))(j0:J 0 l x0)
  (round:∀ (i:Nat) (x:α) (r:List α) (acc:β),l[i]?=some x->i<l.length->i+1+r.length=l.length->J i (x::r) acc->Di P T ft Y c (I i acc) fun e dm=>match e with
   | .normal=>∃ lu,J (i+1) r lu/\Wk dm (I (i+1) lu)
   | e=>K e dm)
  (fin:∀ acc,J l.length [] acc -> ∃ WX,Wk (I l.length acc) WX/\Di P T ft Y c WX fun e dm=>match e with
   | .normal=>False
   | e=>K e dm):uy P ft Y c st K:=by
 refine yD (α:=Nat×β) (fun p=>I p.1 p.2) (fun p=>p.1<=l.length/\J p.1 (l.drop p.1) p.2) (fun p=>l.length+1-p.1) (0,x0) h0 ⟨Nat.zero_le _,by simpa using j0⟩ ?_;rintro ⟨i,acc⟩ ⟨hi,hj⟩;simp only at hi hj ⊢;by_cases dI:i<l.length
 ·have hd:l.drop i=l[i]::l.drop (i+1):=List.drop_eq_getElem_cons dI
  rw[hd]at hj;refine wG.mono (cL hT c hD _ _ (round i l[i] (l.drop (i+1)) acc (List.getElem?_eq_getElem dI) dI (by simp;omega) hj)) fun e dm hk=>?_
  cases e with
  | normal=>
   obtain⟨lu,h1,h2⟩:=hk;exact⟨(i+1,lu),by simp only;omega,⟨dI,h1⟩,h2⟩
  | exit i=>exact hk
  | ret=>exact hk
 ·have he:i=l.length:=by omega
  subst he;rw[List.drop_length]at hj;obtain⟨WX,ZL,ZB⟩:=fin acc hj;refine wG.wk ZL (wG.mono (cL hT c hD _ _ ZB) fun e dm hk=>?_)
  cases e with
  | normal=>exact hk.elim
  | exit i=>exact hk
  | ret=>exact hk
end
theorem Qr(f:Fix)(l:List aC)(i:Int)(x:aC)(hf:jh f):aX Tryz.prog 135 [i64 i,x.d,.ref [.ref (eU f l f.insts.length)]] (i64 (eI f x)):=by
 refine aB Tryz.func135 rfl (ft:=Pv) 3 fun {σ} Y st=>?_;conv=>whnf
 refine ah (ds:=[.ref (eU f l f.insts.length),x.d]) (Qs f l x hf) rfl rfl ?_;conv=>whnf
 exact ae
structure e8(f:Fix)(l:List aC):Prop where
 fix:cI f=(0,0,0)
 len:l.length<=8
 Ig:∀ x∈l,eI f x=0
theorem e8.r{f:Fix}{l:List aC}(h:e8 f l):jh f:=iN (by rw[h.fix])
theorem e8.s{f:Fix}{l:List aC}(h:e8 f l):∀ x∈l,B2 f x:=fun x hx=>Fy (h.Ig x hx)
def wT(f:Fix)(l:List aC):aq:=[(2000001,cn []),(2000000,.fz (bh f l f.insts.length 2000000 2000001))]
set_option maxHeartbeats 4000000 in
theorem Vn(f:Fix)(l:List aC)(hg:e8 f l):sU Tryz.prog 95 [.d f.d,.d (bn l)] [] fun v h'=>v = .tup [.ptr 2000000 0,.d (i64 0),.d (i64 0)]/\h'=wT f l:=by
 intro σ Y st;refine cX mixed ao Tryz.func95 rfl (ft:=Ql) (args:=[.d f.d,.d (bn l)]) (show qC Ql Tryz.f95 2=true from by decide +kernel) ?_;conv=>whnf
 refine ah (ds:=[f.d]) (Qp f) rfl rfl ?_;rw[hg.fix];conv=>whnf
 have hlen:=hg.len;refine ag (fun h1=>absurd (of_decide_eq_true h1) (by simp;omega)) (fun _=>?_);conv=>whnf
 have hf:=hg.r;have ER:=hf.n9;generalize hN:f.insts.length=N at ER;refine IG (T:=tys) ao (by exact ai mixed ao (by decide +kernel)) f.insts (fun i (_:Unit)=>⟨[(1,.d (bn l)),(4,.ptr 4 0),(5,.d (i64 0)),(6,.d (i64 0)),(27,.d (gG f.insts)),(28,.d (i64 (f.insts.map dr.cells).length)),(29,.d (i64 i))],[(25,.box (.vv (bh f l i 25 23))),(23,cn []),(4,.box (.vv [.ptr 25 0]))],st⟩) (fun i r _=>True) () (Wk.sub ⟨(by first|rfl|(simp only[List.length_map];rfl)|(simp only[ab,Nat.reduceBEq,eq_self];rfl)|simp[PX.get]),(by first|rfl|(simp only[List.length_map];rfl)|(simp only[ab,Nat.reduceBEq,eq_self];rfl)|simp[PX.get]),(by first|rfl|(simp only[List.length_map];rfl)|(simp only[ab,Nat.reduceBEq,eq_self];rfl)|simp[PX.get]),(by first|rfl|(simp only[List.length_map];rfl)|(simp only[ab,Nat.reduceBEq,eq_self];rfl)|simp[PX.get]),(by first|rfl|(simp only[List.length_map];rfl)|(simp only[ab,Nat.reduceBEq,eq_self];rfl)|simp[PX.get]),(by first|rfl|(simp only[List.length_map];rfl)|(simp only[ab,Nat.reduceBEq,eq_self];rfl)|simp[PX.get]),(by first|rfl|(simp only[List.length_map];rfl)|(simp only[ab,Nat.reduceBEq,eq_self];rfl)|simp[PX.get]),trivial⟩ ⟨(by first|rfl|(simp only[List.length_map];rfl)|(simp only[ab,Nat.reduceBEq,eq_self];rfl)|simp[PX.get]),(by first|rfl|(simp only[List.length_map];rfl)|(simp only[ab,Nat.reduceBEq,eq_self];rfl)|simp[PX.get]),(by first|rfl|(simp only[List.length_map];rfl)|(simp only[ab,Nat.reduceBEq,eq_self];rfl)|simp[PX.get]),trivial⟩) trivial ?_ ?_
 ·rintro i x r _ jD hi hr _
  have hL:cQ f i=x.lead:=by unfold cQ;rw[jD]
  have h4:i=0\/i=1\/i=2\/i=3:=by omega
  cases hl:x.lead with
  | true=>
   have hK:Li f i=218:=by unfold Li;rw[hL,hl];rfl
   rcases h4 with rfl|rfl|rfl|rfl;all_goals
    conv=>whnf
    refine ag (fun _=>?_) (fun h=>absurd (of_decide_eq_false h) (by simp only[List.length_map];omega));conv=>whnf
    refine au jD ?_;conv=>whnf
    refine ag (fun hz=>?_) (fun hz=>absurd (hl.symm.trans hz) (by simp));conv=>whnf
    refine af ?_;conv=>whnf
    exact⟨(),trivial,Wk.sub ⟨rfl,rfl,rfl,rfl,rfl,rfl,rfl,trivial⟩ ⟨by unfold bh eD;rw[hK];rfl,rfl,rfl,trivial⟩⟩
  | false=>
   have hK:Li f i=163:=by unfold Li;rw[hL,hl];rfl
   rcases h4 with rfl|rfl|rfl|rfl;all_goals
    conv=>whnf
    refine ag (fun _=>?_) (fun h=>absurd (of_decide_eq_false h) (by simp only[List.length_map];omega));conv=>whnf
    refine au jD ?_;conv=>whnf
    refine ag (fun hz=>absurd (hl.symm.trans hz) (by simp)) (fun hz=>?_);conv=>whnf
    refine af ?_;conv=>whnf
    exact⟨(),trivial,Wk.sub ⟨rfl,rfl,rfl,rfl,rfl,rfl,rfl,trivial⟩ ⟨by unfold bh eD;rw[hK];rfl,rfl,rfl,trivial⟩⟩
 ·rintro _ _
  rw[hN];refine⟨_,Wk.fz 25 rfl,?_⟩;conv=>whnf
  refine ag (fun h=>absurd (of_decide_eq_true h) (by simp only[List.length_map];omega)) (fun _=>?_);conv=>whnf
  refine ak (ds:=[bn l,.clo 135 [.ref [.ref (eU f l f.insts.length)]]]) (Qq l 135 [.ref [.ref (eU f l f.insts.length)]] (fun _ x=>eI f x) (by omega) fun i x hx=>Qr f l i x hf) rfl 2 ?_ ?_
  ·show bZ (dJ _ 2) [V.d (bn l),V.clo 135 [V.ptr 4 0]]=_
   rw[hN];have key:∀ H:aq,get H 25=some (.fz (bh f l N 25 23))->get H 4=some (.box (.vv [.ptr 25 0]))->bZ (dJ H 2) [V.d (bn l),V.clo 135 [V.ptr 4 0]]=some [bn l,.clo 135 [.ref [.ref (eU f l N)]]]:=by
    intro H YH h4;have a1:=mQ 0 YH;have a2:dJ H 2 4=some (.box [.ref (eU f l N)]):=by
     rw[dJ,h4];show(match bZ (dJ H 1) [V.ptr 25 0]with|some l=>some (DO.box l)|none=>none)=_;simp only[bZ,cA,a1];rfl
    simp only[bZ,cA,a2];rfl
   exact key _ rfl rfl
  have hz:eX (fun _ x=>eI f x) 0 l=(0,0):=xB fun k x hx=>hg.Ig x (List.mem_of_getElem? hx);rw[hz];conv=>whnf
  refine cd [25,23] [.ptr 2000000 0,.d (i64 0),.d (i64 0)] (wT f l) rfl ⟨rfl,?_,trivial⟩ rfl ⟨⟨rfl,rfl⟩,rfl⟩;rw[fm,hN];rfl
theorem Ae{nk:List Nat}:∀ {l:List Nat},(∀ i∈l,i∈nk)->hP 0 nk l=true
 | [],_=>rfl
 | k::r,h=>by
  simp only[hP,Bool.and_eq_true,Bool.or_eq_true];exact⟨.inr (eZ.2 (h k (by simp))),Ae fun i hi=>h i (by simp[hi])⟩
theorem tu:∀ (rs:List D),bU (inj rs) = []
 | []=>rfl
 | _::r=>tu r
theorem sG(R:Nat->Nat):∀ (rs:List D),kU R (inj rs)=inj rs
 | []=>rfl
 | x::r=>by show V.d x::cb (iy R) (inj r)=_;rw[show cb (iy R) (inj r)=inj r from sG R r];rfl
section
variable {P : Program} {σ : Type} {Y : Hd σ} {e : Env} {h : aq} {s : σ} {g : FuncId} {args args0 : List V} {f : Fix} {l : List aC}
theorem gX{rs:List D}(hf:sU P g args0 [] fun v h'=>v = .tup (.ptr 2000000 0::inj rs)/\h'=wT f l)(d b m:Nat)(hb:100000+64*d=b)(hm:b+1=m)(hd:Nat.ble d 10000=true)(bR:kU (ck [] d) args0=args) :
  fx P e h (some d) g args [.new m (cn []),.new b (.fz (bh f l f.insts.length b m)),.set d (.tup (.ptr b 0::inj rs))]:=by
 have Mg:ck [] d 2000000=b:=(r8 (Nat.le_refl _)).trans (by rw[Nat.sub_self,Nat.add_zero,hb]);have Mh:ck [] d 2000001=m:=(r8 (Nat.le_succ _)).trans (by rw[Nat.succ_sub (Nat.le_refl _),Nat.sub_self,<- hm,<- hb]);have EZ:cO [] (some d) (.tup (.ptr 2000000 0::inj rs)) (wT f l) = [.new m (cn []),.new b (.fz (bh f l f.insts.length b m)),.set d (.tup (.ptr b 0::inj rs))]:=by
  show [Wr.new (ck [] d 2000001) (cn []),.new (ck [] d 2000000) (iD (ck [] d) (.fz (bh f l f.insts.length 2000000 2000001))),.set d (.tup (.ptr (ck [] d 2000000) 0::kU (ck [] d) (inj rs)))]=_;rw[fm,Mg,Mh,sG]
 have ef:Nat.beq b m=false:=by
  cases hq:Nat.beq b m with
  | false=>rfl
  | true=>have:=Nat.eq_of_beq_eq_true hq;omega
 have hB:fA [] (some d) (.tup (.ptr 2000000 0::inj rs)) (wT f l)=true:=by
  unfold fA;rw[EZ];have h2:hP 0 [2000001,2000000] (bk (wT f l))=true:=Ae fun i hi=>by
   have hi:i∈2000001::(2000000::(bU (bh f l f.insts.length 2000000 2000001) ++ [])):=hi;rw[List.append_nil]at hi;rcases List.mem_cons.1 hi with rfl|hi
   ·simp
   rcases List.mem_cons.1 hi with rfl|hi
   ·simp
   rcases og hi with rfl|rfl<;>simp
  have h3:hP 0 [2000001,2000000] (bC (.tup (.ptr 2000000 0::inj rs)))=true:=by
   show hP 0 _ ([2000000]++bU (inj rs))=true;rw[tu];rfl
  have h4:dD [.new m (cn []),.new b (.fz (bh f l f.insts.length b m)),.set d (.tup (.ptr b 0::inj rs))]=true:=by
   show(match iO [b] [m]with|true=>(match iO [] (b::bU (bh f l f.insts.length b m)) with|true=>(match iO [] (bC (.tup (.ptr b 0::inj rs))) with|true=>true|false=>false)|false=>false)|false=>false)=true;have h5:iO [b] [m]=true:=by
    show(match (match Nat.beq m b with|true=>true|false=>false) with|true=>false|false=>true)=true
    cases hq:Nat.beq m b with
    | false=>rfl
    | true=>have:=Nat.eq_of_beq_eq_true hq;omega
   rw[h5];rfl
  have h6:cC (wT f l) = [2000001,2000000]:=rfl;rw[h6,h4];show(true&&true&&true&&true&&hP 0 [2000001,2000000] (bk (wT f l))&&hP 0 [2000001,2000000] (bC (.tup (.ptr 2000000 0::inj rs)))&&true&&Nat.ble d 10000&&true&&true)=true;rw[h2,h3,hd];rfl
 have BW:gH (ck [] d) h 1000000 [] []:=by simp only[gH]
 have ho:=iW (e:=e) (h:=h) (d:=some d) hf [] bR BW hB;rw[EZ]at ho;exact ho
end
theorem GO(f:Fix)(l:List aC)(hg:e8 f l):sU Tryz.prog 53 [.d f.d,.d (bn l)] [] fun v h'=>v = .tup (.ptr 2000000 0::inj [i64 0])/\h'=wT f l:=by
 intro σ Y st;refine cX mixed ao Tryz.func53 rfl (ft:=Qc) (args:=[.d f.d,.d (bn l)]) (show qC Qc Tryz.f53 2=true from by decide +kernel) ?_;conv=>whnf
 refine dH (gX (rs:=[i64 0,i64 0]) (Vn f l hg) 12 100768 100769 rfl rfl rfl rfl) ?_;conv=>whnf
 refine cd [100768,100769] [.ptr 2000000 0,.d (i64 0)] (wT f l) rfl ⟨rfl,?_,trivial⟩ rfl ⟨⟨rfl,rfl⟩,rfl⟩;rw[fm];exact(by first|rfl|(simp only[ab,Nat.reduceBEq,eq_self];rfl))
def tU(f:Fix)(l:List aC):List D:=f.cells ++ [bn l]
theorem QJ(f:Fix)(l:List aC):aX Tryz.prog 96 [.ref (tU f l)] (.clo 137 [.ref [.ref (tU f l)]]):=by
 refine aB Tryz.func96 rfl (ft:=U4) 1 fun {σ} Y st=>?_;conv=>whnf
 exact an 1 rfl ⟨⟨rfl,rfl⟩,rfl⟩
end Go.PX
