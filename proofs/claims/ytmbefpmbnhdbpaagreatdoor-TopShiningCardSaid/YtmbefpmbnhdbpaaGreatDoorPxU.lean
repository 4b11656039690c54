import Derived.Test.YtmbefpmbnhdbpaaGreatDoorPxT
import Derived.Tactics
import Derived.Tactics2
import Derived.Recover
import Derived.Test.YtmbefpmbnhdbpaaGreatDoorPxS
import Derived.Test.YtmbefpmbnhdbpaaGreatDoorPxQ
set_option linter.all false
set_option maxRecDepth 10000
namespace Go.PX
open Go.Proofs
open Go.RowKit
theorem GK(near:Int):Cw Tryz.prog 118 (.panicking [{ v:=pF,recovered:=false }]) (.panicking [{ v:=pF,recovered:=true }]) [(1000000,.box (.dd [i64 near,.nils])),(1000001,.box (.dd [i64 0]))] [(1000000,.box (.dd [i64 0,.nils])),(1000001,.box (.dd [i64 6]))]:=by
 intro σ cx hl L F s w hh;refine callsDIn_of_wpSIn Tryz.func118 rfl trivial fun c₀ cs hu=>?_;apply wpSIn_seq;apply wpSIn_region;simp[wpOpsSIn,go_sem,recoverD,hu,Exit.thenS];refine wpSIn_of_wpIn rfl ?_;refine yG av (ft:=Mr) hl hh (n:=9) rfl (v:=pF) (d:=.ifc 34 (i64 6)) ⟨_,rfl,rfl⟩ trivial (by simp) rfl (by rfl) (by rfl) (by rfl) (by decide +kernel) (by exact(aj mixed av (by decide +kernel))) rfl (h':=[(1000000,.box (.dd [i64 0,.nils])),(1000001,.box (.dd [i64 6]))]) ?_ ?_
 ·intro a' w' L' F' SO nn tr jF
  refine⟨SO,.panicking [{ v:=pF,recovered:=true }],rfl,.tuple #[],NZ _ _,⟨⟨_,rfl⟩,rfl,L',F',nn,tr,jF⟩⟩
 ·conv=>whnf
  exact⟨jE ⟨rfl,rfl,trivial⟩,rfl⟩
def nL:Nat->aN->List UInt8->Option aN
 | 0,c,_=>some c
 | n+1,c,l=>if l = [] then some c else
  if (fv 10 l).2.2 then
   match lJ c (gB 32 ⟨(fv 10 l).1.toArray⟩) with
   | some c'=>nL n c' (fv 10 l).2.1
   | none=>none
  else none
def Ks:aN:=⟨0,[]⟩
def GQ(l:List UInt8):Option (Int×List UInt8):=
 if (fv 10 l).2.2 then
  if (AQ ⟨(fv 10 l).1.toArray⟩ B0).2 then (eE (AQ ⟨(fv 10 l).1.toArray⟩ B0).1).map fun n=>(n,(fv 10 l).2.1) else none
 else none
def readAll(l:List UInt8):Option aN:=match GQ l with
 | none=>none
 | some x=>nL x.2.length ⟨x.1,[]⟩ x.2
def xm(s:ByteArray):aN×Int:=
 if 1500<s.size then (Ks,3) else
 match readAll s.data.toList with
 | some c=>if bC c=0/\xL c=s then (c,0) else (Ks,6)
 | none=>(Ks,6)
theorem qt(c:UInt8):∀ l:List UInt8,(fv c l).1.length+(fv c l).2.1.length<=l.length/\(l ≠ []->(fv c l).2.1.length<l.length)
 | []=>by simp[fv]
 | x::r=>by
  have ih:=qt c r;rw[fv];split
  ·simp
  ·simp only[List.length_cons]
   refine⟨by omega,fun _=>?_⟩;omega
theorem Ag:∀ (n m:Nat) (c:aN) (l:List UInt8),l.length<=n->l.length<=m->nL n c l=nL m c l
 | 0,0,_,_,_,_=>rfl
 | 0,m+1,c,l,hn,_=>by
  have:l = []:=List.length_eq_zero_iff.1 (by omega);rw[nL,nL,if_pos this]
 | n+1,0,c,l,_,hm=>by
  have:l = []:=List.length_eq_zero_iff.1 (by omega);rw[nL,nL,if_pos this]
 | n+1,m+1,c,l,hn,hm=>by
  rw[nL,nL];by_cases h:l = []
  ·rw[if_pos h,if_pos h]
  ·rw[if_neg h,if_neg h]
   have:=(qt 10 l).2 h;split
   ·cases lJ c (gB 32 ⟨(fv 10 l).1.toArray⟩) with
    | none=>rfl
    | some c'=>exact Ag n m c' _ (by omega) (by omega)
   ·rfl
def B8(c:aN)(l:List UInt8):Option aN:=nL l.length c l
theorem NV(c:aN)(l:List UInt8):B8 c l=if l = [] then some c else
  if (fv 10 l).2.2 then
   match lJ c (gB 32 ⟨(fv 10 l).1.toArray⟩) with
   | some c'=>B8 c' (fv 10 l).2.1
   | none=>none
  else none:=by
 unfold B8;by_cases h:l = []
 ·subst h;rfl
 ·obtain⟨x,r,rfl⟩:=List.exists_cons_of_ne_nil h
  rw[if_neg h];have hl:=(qt 10 (x::r)).2 h;show nL (r.length+1) c (x::r)=_;rw[nL,if_neg h];split
  ·cases lJ c (gB 32 ⟨(fv 10 (x::r)).1.toArray⟩) with
   | none=>rfl
   | some c'=>exact Ag _ _ c' _ (by simp at hl;omega) (Nat.le_refl _)
  ·rfl
def qx(e:Int):D:=.tup [.agg [i64 0,.nils],i64 e]
theorem RI(l:List UInt8)(c:UInt8)(hs:l.length<=1000000000):bq Tryz.prog 119 [.str ⟨l.toArray⟩,.str ⟨#[c]⟩] (.tup [.str ⟨(fv c l).1.toArray⟩,.str ⟨(fv c l).2.1.toArray⟩,.bool (fv c l).2.2]):=by
 have h:=@abX ⟨l.toArray⟩ c (by show l.toArray.size<=_;simpa using hs);have e:(⟨l.toArray⟩:ByteArray).data.toList=l:=rfl;rw[e]at h;exact fun {σ}=>h
theorem pf{σ:Type}{st:σ}{en:Env}{h:Heap}{near:Int}{i n:Nat}(h2:get en 2=some (.ptr 1000000 0))(h3:get en 3=some (.ptr 1000001 0))(hh:pM h [(1000000,.box (.vv [.d (i64 near),.sl i 6 0 n])),(1000001,.box (.dd [i64 0]))]) :
  Ju Tryz.prog tys Tryz.f51 118 2 3 (qx 6) st (.panicking [{ v:=pF,recovered:=false }]) en h st:=by
 refine⟨h2,h3,.panicking [{ v:=pF,recovered:=true }],_,rfl,Cw.sub (h0:=[(1000000,.box (.vv [.d (i64 near),.sl i 6 0 n])),(1000001,.box (.dd [i64 0]))]) (fun {σ}=>JE near i n) hh,?_⟩;conv=>whnf
 exact aO 1 rfl ⟨rfl,rfl,rfl⟩
theorem CR{σ:Type}{st:σ}{en:Env}{h:Heap}{near:Int}(h2:get en 2=some (.ptr 1000000 0))(h3:get en 3=some (.ptr 1000001 0))(hh:pM h [(1000000,.box (.dd [i64 near,.nils])),(1000001,.box (.dd [i64 0]))]) :
  Ju Tryz.prog tys Tryz.f51 118 2 3 (qx 6) st (.panicking [{ v:=pF,recovered:=false }]) en h st:=by
 refine⟨h2,h3,.panicking [{ v:=pF,recovered:=true }],_,rfl,Cw.sub (h0:=[(1000000,.box (.dd [i64 near,.nils])),(1000001,.box (.dd [i64 0]))]) (fun {σ}=>GK near) hh,?_⟩;conv=>whnf
 exact aO 1 rfl ⟨rfl,rfl,rfl⟩
def rdH(near:Int)(o:Option (List au×au)):Heap:=match o with
 | none=>[(1000000,.box (.vv [.d (i64 near),.sl 900001 6 0 0])),(900001,.arr 6 (.dd []))]
 | some x=>uJ 1000000 900001 900002 near x.1 x.2
def vk(near:Int)(o:Option (List au×au)):aN:=match o with
 | none=>⟨near,[]⟩
 | some x=>⟨near,x.1 ++ [x.2]⟩
def vc(bs:List au):Nat:=(bs.map fun b=>1+b.ar.length).sum
theorem Av(c:UInt8):∀ l:List UInt8,(gD c l).length<=l.length+1
 | []=>by simp[gD]
 | x::r=>by
  have ih:=Av c r;rw[gD];split
  ·simpa using ih
  ·have:(za x (gD c r)).length<=max 1 (gD c r).length:=by cases gD c r<;>simp[za]
   simp only[List.length_cons];omega
theorem Aw(c:UInt8):∀ (l:List UInt8),∀ x∈gD c l,x.length<=l.length
 | [],x,hx=>by simp[gD]at hx;subst hx;simp
 | y::r,x,hx=>by
  have ih:=Aw c r;rw[gD]at hx;split at hx
  ·rcases List.mem_cons.1 hx with rfl|hx
   ·simp
   ·have:=ih x hx;simp only[List.length_cons];omega
  ·cases hs:gD c r with
   | nil=>rw[hs]at hx;simp[za]at hx;subst hx;simp
   | cons a t=>
    rw[hs]at hx ih;rcases List.mem_cons.1 hx with rfl|hx
    ·have:=ih a (by simp);simp only[List.length_cons];omega
    ·have:=ih x (by simp[hx]);simp only[List.length_cons];omega
theorem FJ(c:UInt8)(s:ByteArray):(gB c s).length<=s.size+1:=by
 have:=Av c s.data.toList;simp only[gB,List.length_map];simpa using this
theorem FK(c:UInt8)(s:ByteArray):∀ x∈gB c s,x.size<=s.size:=by
 intro x hx;obtain⟨y,hy,rfl⟩:=List.mem_map.1 hx;have:=Aw c s.data.toList y hy;show y.length<=s.size;simpa using this
theorem HM(c:UInt8)(s:ByteArray):gB c s ≠ []:=by
 unfold gB;intro h;exact K3 c _ (List.map_eq_nil_iff.1 h)
theorem JG(s p:ByteArray):(AQ s p).1.size<=s.size:=by
 unfold AQ;split
 ·simp
 ·exact Nat.le_refl _
theorem yz{r:List ByteArray}{b:au}(h:jq r=some b):∃ n o s,b=⟨n,o,s,[]⟩:=by
 unfold jq at h;split at h
 ·rename_i n a b' c d
  cases h2:four a b' c d with
  | none=>rw[h2]at h;cases h
  | some x=>rw[h2]at h;cases h;exact⟨_,_,_,rfl⟩
 ·cases h
theorem oO(init:List au)(last:au):vc (init ++ [last])=vc init+1+last.ar.length/\init.length<=vc init:=by
 have h1:vc (init ++ [last])=vc init+(1+last.ar.length):=by unfold vc;rw[List.map_append,List.sum_append];simp
 refine⟨by omega,?_⟩;clear h1
 induction init with
 | nil=>exact Nat.zero_le _
 | cons b r ih=>
  have:vc (b::r)=(1+b.ar.length)+vc r:=by unfold vc;rw[List.map_cons,List.sum_cons]
  rw[List.length_cons];omega
theorem BR(b i j:Nat)(near:Int)(init:List au)(last:au):cB (uJ b i j near init last) = [b,i,i,j,j]:=by
 show b::([i]++(i::(ck (List.flatten (bg (init.map au.cells) ++ [inj (pn last) ++ [V.sl j 4 0 last.ar.length]])) ++ [j])))=_;rw[fS];rfl
theorem zE(near:Int)(init:List au)(last:au):fU [1000000,900001,900002] (some 51) (.d (.tup [])) (uJ 1000000 1000001 1000002 near init last)=true:=by
 unfold fU;rw[BR];rfl
theorem Hq(near:Int)(init:List au)(last:au):fU [1000000,900001,900002] (some 51) (.d (.tup [])) (uJ 1000000 1000001 2000000 near init last)=true:=by
 unfold fU;rw[BR];rfl
theorem K9{h:Heap}{k id sz n:Nat}{vs:List (List V)}{es:List (List D)}(hg:get h id=some (.arr sz (.vv vs)))(hv:iR (fp h k) vs=some es)(hn:n=es.length):dP (fp h (k+1)) (.sl id sz 0 n)=some (.vs es):=by
 have h1:Nat.beq sz sz=true:=Nat.beq_refl sz;have h2:Nat.ble (0+es.length) es.length=true:=Nat.ble_eq_true_of_le (by omega);subst hn;simp only[dP,fp,hg,hv,h1,h2];simp
theorem Cn{h:Heap}{near:Int}{n:Nat}{l:List au}(hs:dP (fp h 2) (.sl 900001 6 0 n)=some (bF l)):cS (fp h 2) [.agg [.d (i64 near),.sl 900001 6 0 n]]=some [(⟨near,l⟩:aN).d]:=by
 have:cS (fp h 2) [.d (i64 near),.sl 900001 6 0 n]=some [i64 near,bF l]:=aC rfl (aC hs rfl);refine aC ?_ rfl;rw[dP,this];rfl
theorem Co{h:Heap}{v:V}{d e:D}(hv:cS (fp h 2) [v]=some [d]):cS (fp h 2) [v,.d e]=some [d,e]:=by
 rw[cS]at hv;rw[cS]
 cases hx:dP (fp h 2) v with
 | none=>rw[hx]at hv;cases hv
 | some d=>rw[hx]at hv;cases hv;rfl
theorem H6{h:Heap}(near:Int)(h1:get h 900001=some (.arr 6 (.dd []))):cS (fp h 2) [.agg [.d (i64 near),.sl 900001 6 0 0]]=some [(vk near none).d]:=
 Cn (l:=[]) (cH h1 (by simp))
theorem H7{h:Heap}(near:Int)(init:List au)(last:au)(h1:get h 900001=some (.arr 6 (.vv (bg (init.map au.cells) ++ [inj (pn last) ++ [.sl 900002 4 0 last.ar.length]]))))(h2:get h 900002=some (.arr 4 (.dd (last.ar.map aZ.cells)))) :
  cS (fp h 2) [.agg [.d (i64 near),.sl 900001 6 0 (init.length+1)]]=some [(vk near (some (init,last))).d]:=by
 have e1:dP (fp h 1) (.sl 900002 4 0 last.ar.length)=some (lF last.ar):=cH h2 (by simp);have e2:iR (fp h 1) (bg (init.map au.cells) ++ [inj (pn last) ++ [.sl 900002 4 0 last.ar.length]])=some (init.map au.cells ++ [last.cells]):=iA (jm (ky (a:=pn last) (aC e1 rfl))) _;have e3:init.map au.cells ++ [last.cells]=(init ++ [last]).map au.cells:=by simp
 rw[e3]at e2;exact Cn (l:=init ++ [last]) (K9 h1 e2 (by simp))
set_option maxHeartbeats 4000000 in
theorem RG(s:ByteArray)(r:D)(h3:1500<s.size->r=qx 3)(h6:s.size<=1500->readAll s.data.toList=none->r=qx 6)
  (h7:s.size<=1500 -> ∀ c,readAll s.data.toList=some c->((bC c=0/\xL c=s)->r = .tup [c.d,i64 0])/\(¬ (bC c=0/\xL c=s)->r=qx 6)):bq Tryz.prog 51 [.str s] r:=by
 refine JP (ds:=[.str s]) (ft:=V2) (g:=118) mixed av 2 3 19 (lc:=[i64 0,.nils]) (le:=[i64 0]) Tryz.func51 rfl (show oQ V2 Tryz.f51 1=true from by decide +kernel) (by decide) (by decide) (by decide) rfl rfl rfl ?_ ?_ fun {σ} Y st=>?_
 ·intro a w p q Q hp hq hs h
  have hmf:∀ (fn:Fn) (first cap:Array Value) (w:World),(Instr.makeFunc fn first cap).run Tryz.prog w = .ok (.func fn first cap) w:=fun _ _ _ _=>rfl;apply wpIn_region;have e2:a.tmps.getD 2 undef=p:=by rw[Array.getD_eq_getD_getElem?,hp];rfl
  have e3:a.tmps.getD 3 undef=q:=by rw[Array.getD_eq_getD_getElem?,hq];rfl
  have dD:19<a.tmps.size:=by rw[hs];decide
  simp[wpOpsIn,wpOpIn,go_sem,hmf,e2,e3,dD,Oper.uponIn,Result.andThen];simpa using h
 ·intro p q w
  rfl
 conv=>whnf
 refine ag (fun hb=>?_) (fun hb=>?_)
 ·have h0:=h3 (by have:=of_decide_eq_true hb;omega)
  subst h0;conv=>whnf
  refine⟨rfl,?_⟩;conv=>whnf
  exact ai
 refine⟨?_,?_⟩
 ·exact Wk.sub ⟨rfl,rfl,rfl,trivial⟩ ⟨rfl,rfl,trivial⟩
 have hs4:s.size<=1500:=by have:=of_decide_eq_false hb;omega
 have h6:=h6 hs4;have h7:=h7 hs4;have Ll:s=⟨s.data.toList.toArray⟩:=by cases s;simp
 have zj:s.data.toList.length<=1500:=by simpa using hs4
 generalize IV:s.data.toList=l0 at h6 h7 Ll zj;conv=>whnf
 rw[Ll];refine af (ds:=[.str ⟨l0.toArray⟩,.str ⟨#[10]⟩]) (RI l0 10 (by omega)) rfl rfl ?_;conv=>whnf
 refine af (ds:=[.str ⟨(fv 10 l0).1.toArray⟩,.str B0]) (abY ⟨(fv 10 l0).1.toArray⟩ B0) rfl rfl ?_;have IW:=(qt 10 l0).1
 have Gu:readAll l0=match GQ l0 with
  | none=>none
  | some x=>nL x.2.length ⟨x.1,[]⟩ x.2:=rfl
 have IQ:=JG ⟨(fv 10 l0).1.toArray⟩ B0;have hhs:(⟨(fv 10 l0).1.toArray⟩:ByteArray).size<=1500:=by show(fv 10 l0).1.toArray.size<=_;rw[List.size_toArray];omega
 unfold GQ at Gu;generalize AQ ⟨(fv 10 l0).1.toArray⟩ B0=CP at Gu IQ ⊢;generalize (⟨(fv 10 l0).1.toArray⟩:ByteArray)=HD at hhs IQ;generalize fv 10 l0=C1 at Gu IW ⊢;obtain⟨c1,rest,is⟩:=C1;obtain⟨nm,is2⟩:=CP;simp only at Gu IW IQ
 cases is with
 | false=>
  simp only[Bool.false_eq_true,if_false]at Gu;have h0:=h6 Gu;subst h0;conv=>whnf
  refine fE rfl (fun h=>by cases h) (fun _=>?_);conv=>whnf
  exact CR rfl rfl ⟨rfl,rfl,trivial⟩
 | true=>
 simp only[if_true]at Gu
 cases is2 with
 | false=>
  simp only[Bool.false_eq_true,if_false]at Gu;have h0:=h6 Gu;subst h0;conv=>whnf
  refine fE rfl (fun h=>by cases h) (fun _=>?_);conv=>whnf
  exact CR rfl rfl ⟨rfl,rfl,trivial⟩
 | true=>
 simp only[if_true]at Gu;conv=>whnf
 refine fE rfl (fun _=>?_) (fun h=>by cases h);conv=>whnf
 refine pX (x:=nm) (by omega) (fun near C8=>?_) (fun C8=>?_) rfl (by intro k;rfl);case refine_2=>
  rw[C8]at Gu;have h0:=h6 Gu;subst h0;conv=>whnf
  exact CR rfl rfl ⟨rfl,rfl,trivial⟩
 rw[C8]at Gu;have Gu:readAll l0=B8 ⟨near,[]⟩ rest:=Gu;conv=>whnf
 refine cD (T:=tys) av (by exact aj mixed av (by decide +kernel)) (fun x:Option (List au×au)×List UInt8=>⟨[(0,.d (.str ⟨l0.toArray⟩)),(2,.ptr 1000000 0),(3,.ptr 1000001 0),(5,.d (.str ⟨x.2.toArray⟩))],(1000001,.box (.dd [i64 0]))::rdH near x.1,st⟩) (fun x=>readAll l0=B8 (vk near x.1) x.2/\vc (vk near x.1).an+x.2.length<=1500) (fun x=>x.2.length) (none,rest) ?_ ⟨Gu,?_⟩ ?_
 ·exact(Wk.tT 1000000 900001 6 [i64 near] [] rfl rfl rfl rfl rfl).trans aw
 ·show 0+rest.length<=1500
  omega
 rintro ⟨o,l⟩ ⟨hl,hlen⟩;simp only at hlen;have hl:readAll l0=B8 (vk near o) l:=hl;conv=>whnf
 refine ag (fun hb=>?_) (fun hb=>?_)
 ·have er:l ≠ []:=by rintro rfl;simp at hb
  have AW:=qt 10 l;rw[NV _ l,if_neg er]at hl;conv=>whnf
  refine af (RI l 10 (by omega)) rfl rfl ?_;conv=>whnf
  refine fE rfl (fun ht=>?_) (fun ht=>?_)
  ·rw[ht,if_pos rfl]at hl
   have A3:(⟨(fv 10 l).1.toArray⟩:ByteArray).size<=1500:=by show(fv 10 l).1.toArray.size<=_;rw[List.size_toArray];omega
   have M8:=FJ 32 ⟨(fv 10 l).1.toArray⟩;have Uz:=FK 32 ⟨(fv 10 l).1.toArray⟩;have UA:gB 32 ⟨(fv 10 l).1.toArray⟩ ≠ []:=HM _ _;have O7:=AW.2 er;conv=>whnf
   refine af (ds:=[.str ⟨(fv 10 l).1.toArray⟩,.str ⟨#[32]⟩]) (ab0 ⟨(fv 10 l).1.toArray⟩ 32 (by omega)) rfl rfl ?_;generalize gB 32 ⟨(fv 10 l).1.toArray⟩=w at hl M8 Uz UA ⊢;generalize (⟨(fv 10 l).1.toArray⟩:ByteArray)=HD at A3 M8 Uz;generalize (fv 10 l).2.1=l2 at hl AW O7 ⊢;conv=>whnf
   cases o with
   | none=>
    refine tN (Yr near w UA (fun x hx=>by have:=Uz x hx;omega) (by omega) _ _) [1000000,900001] rfl ⟨_,_,rfl,rfl,_,_,rfl,rfl,rfl⟩ rfl rfl ?_ ?_
    ·rintro v h1 s' ⟨⟨h,q,b,hw,iU,Ow,rfl,rfl⟩,rfl⟩
     refine⟨rfl,?_⟩;have Gy:lJ (vk near none) w=some ⟨near,[b]⟩:=by show lJ ⟨near,[]⟩ w=_;rw[hw,dA,if_pos iU,Ow];rfl
     rw[Gy]at hl;obtain⟨bn,bo,bs,rfl⟩:=yz Ow;conv=>whnf
     exact⟨(some ([],⟨bn,bo,bs,[]⟩),l2),O7,⟨hl,by have h0:0+l.length<=1500:=hlen;show 1+0+0+l2.length<=1500;omega⟩,(Wk.Iw 103264 900002 6 4 [] (pn ⟨bn,bo,bs,[]⟩) rfl rfl rfl rfl).trans ((Wk.move 103264 900001 rfl rfl).trans aw)⟩
    ·rintro pv h1 s' ⟨⟨ob,rfl,rfl⟩,rfl⟩
     refine⟨rfl,?_⟩;rw[show lJ (vk near none) w=none from ob]at hl;have h0:=h6 hl;subst h0;conv=>whnf
     exact pf (i:=900001) (n:=0) (near:=near) rfl rfl ⟨rfl,rfl,trivial⟩
   | some x=>
    obtain⟨init,last⟩:=x;have Tw:vc (init ++ [last])+l.length<=1500:=hlen;have Kb:=oO init last;by_cases O4:∃ s x n,w = [ff,s,x,n]/\eE s≠none/\eE n=none
    ·obtain⟨ws,wx,wn,rfl,nW,nr⟩:=O4
     obtain⟨t,Xd⟩:∃ t,eE ws=some t:=by
      cases h:eE ws with
      | none=>exact absurd h nW
      | some t=>exact⟨t,rfl⟩
     have Gy:lJ (vk near (some (init,last))) [ff,ws,wx,wn]=none:=by
      rw[dA,if_neg (by decide),if_neg (by simp[vk])];unfold se;simp only[Xd,if_neg (show ¬ ff=pY by decide),if_neg (show ¬ ff=xN by decide),if_pos,nr];rfl
     refine tN (Uc near init last ws wx wn t (by omega) (by have:=Uz ws (by simp);omega) (by have:=Uz wn (by simp);omega) Xd nr _ _) [1000000,900001,900002] rfl ⟨_,_,rfl,rfl,_,_,rfl,(congrArg some (dw (fj [1000000,900001,900002] 51) (init.map au.cells) last 1000002 last.ar.length)).symm,_,_,rfl,rfl,rfl⟩ rfl rfl ?_ ?_
     ·rintro v h1 s' ⟨hF,_⟩
      exact absurd hF id
     ·rintro pv h1 s' ⟨⟨rfl,rfl⟩,rfl⟩
      refine⟨zE _ _ _,?_⟩;rw[Gy]at hl;have h0:=h6 hl;subst h0;conv=>whnf
      exact pf (i:=900001) (n:=init.length+1) (near:=near) rfl rfl ⟨rfl,rfl,trivial⟩
    ·refine tN (Ys near init last w UA (fun x hx=>by have:=Uz x hx;omega) (by omega) (by omega) (by omega) (fun s x n hw h1 h2=>O4 ⟨s,x,n,hw,h1,h2⟩) _ _) [1000000,900001,900002] rfl ⟨_,_,rfl,rfl,_,_,rfl,(congrArg some (dw (fj [1000000,900001,900002] 51) (init.map au.cells) last 1000002 last.ar.length)).symm,_,_,rfl,rfl,rfl⟩ rfl rfl ?_ ?_
     ·rintro v h1 s' ⟨⟨rfl,h,q,hw,hp⟩,rfl⟩
      rcases hp with⟨iU,b,Ow,rfl⟩|⟨iU,e,hE,rfl⟩
      ·refine⟨rfl,?_⟩
       have Gy:lJ (vk near (some (init,last))) w=some ⟨near,(init ++ [last]) ++ [b]⟩:=by rw[hw,dA,if_pos iU,Ow];rfl
       rw[Gy]at hl;obtain⟨bn,bo,bs,rfl⟩:=yz Ow;conv=>whnf
       refine⟨(some (init ++ [last],⟨bn,bo,bs,[]⟩),l2),O7,⟨hl,?_⟩,(Wk.Iw 103264 900002 6 4 ((init ++ [last]).map au.cells) (pn ⟨bn,bo,bs,[]⟩) rfl rfl rfl rfl).trans ((Wk.move 103264 900001 rfl rfl).trans (Wk.sub ⟨rfl,rfl,rfl,rfl,trivial⟩ ⟨rfl,rfl,(by first|(show some (Obj.arr 6 (.vv (aX _ (aX _ (aX _ (bg _++_))))))=_;rw[aE,aE,aE];rfl)|(show some (Obj.arr 6 (.vv (aX _ (aX _ (bg _++_)))))=_;rw[aE,aE];rfl)|(show some (Obj.arr 6 (.vv (aX _ (bg _++_))))=_;rw[aE];rfl)|rfl),rfl,trivial⟩))⟩;have:=oO (init ++ [last]) ⟨bn,bo,bs,[]⟩;show vc ((init ++ [last]) ++ [⟨bn,bo,bs,[]⟩])+l2.length<=1500;simp at this;simp at hlen Tw ⊢;omega
      ·refine⟨Hq _ _ _,?_⟩
       have Gy:lJ (vk near (some (init,last))) w=some ⟨near,init ++ [{ last with ar:=last.ar ++ [e] }]⟩:=by
        rw[hw,dA,if_neg iU,if_neg (by simp[vk]),hE];show some (⟨near,GF e (init ++ [last])⟩:aN)=_;rw[Bj]
       rw[Gy]at hl;conv=>whnf
       refine⟨(some (init,{ last with ar:=last.ar ++ [e] }),l2),O7,⟨hl,?_⟩,(Wk.move 103264 900002 rfl rfl).trans (Wk.sub ⟨rfl,rfl,rfl,rfl,trivial⟩ ⟨rfl,rfl,(by first|(show some (Obj.arr 6 (.vv (aX _ (aX _ (aX _ (bg _++_))))))=_;rw[aE,aE,aE];rfl)|(show some (Obj.arr 6 (.vv (aX _ (aX _ (bg _++_)))))=_;rw[aE,aE];rfl)|(show some (Obj.arr 6 (.vv (aX _ (bg _++_))))=_;rw[aE];rfl)|rfl),rfl,trivial⟩)⟩;have h5:=oO init { last with ar:=last.ar ++ [e] };have h6:=oO init last;show vc (init ++ [{ last with ar:=last.ar ++ [e] }])+l2.length<=1500;simp at h5 h6 hlen Tw ⊢;omega
     ·rintro pv h1 s' ⟨⟨ob,rfl,rfl⟩,rfl⟩
      refine⟨zE _ _ _,?_⟩;rw[show lJ (vk near (some (init,last))) w=none from ob]at hl;have h0:=h6 hl;subst h0;conv=>whnf
      exact pf (i:=900001) (n:=init.length+1) (near:=near) rfl rfl ⟨rfl,rfl,trivial⟩
  ·rw[ht,if_neg (by simp)]at hl
   have h0:=h6 hl;subst h0
   cases o with
   | none=>
    conv=>whnf
    exact pf (i:=900001) (n:=0) (near:=near) rfl rfl ⟨rfl,rfl,trivial⟩
   | some x=>
    obtain⟨init,last⟩:=x;conv=>whnf
    exact pf (i:=900001) (n:=init.length+1) (near:=near) rfl rfl ⟨rfl,rfl,trivial⟩
 ·have hle:l = []:=by
   by_cases h:l = []
   ·exact h
   ·exact absurd hb (by simp[h])
  subst hle;have hl:readAll l0=some (vk near o):=hl;obtain⟨h7a,YI⟩:=h7 _ hl
  cases o with
  | none=>
   have WO:(vk near none).an.length<=1500:=by show 0<=1500;omega
   conv=>whnf
   obtain⟨cp,cq,ce,SK⟩:∃ p q e,gf (vk near none)=(p,q,e):=⟨_,_,_,rfl⟩;have EV:bC (vk near none)=ce:=by show(gf _).2.2=ce;rw[SK]
   refine aA (lI (vk near none) _ _ _ SK) rfl 2 (H6 near rfl) ?_;conv=>whnf
   refine ag (fun nW=>?_) (fun nW=>?_)
   ·have hk:bC (vk near none)=0:=by rw[EV];simpa using nW
    conv=>whnf
    refine aA (TX (vk near none) (fI hk) (yE hk)) rfl 2 (H6 near rfl) ?_;conv=>whnf
    refine fE rfl (fun ht=>?_) (fun ht=>?_)
    ·rw[<- Ll]at ht
     have h0:=h7a ⟨hk,of_decide_eq_true ht⟩;subst h0;conv=>whnf
     refine⟨.inr rfl,rfl,rfl,.returning,_,rfl,fun {σ}=>yF _,?_⟩;conv=>whnf
     exact aO 2 (Co (H6 near rfl)) ⟨rfl,rfl,rfl⟩
    ·rw[<- Ll]at ht
     have h0:=YI fun h=>absurd ht (by rw[decide_eq_true h.2];simp);subst h0;conv=>whnf
     exact pf (i:=900001) (n:=0) (near:=near) rfl rfl ⟨rfl,rfl,trivial⟩
   ·have hk:bC (vk near none)≠0:=by rw[EV];simpa using nW
    have h0:=YI fun h=>hk h.1;subst h0;conv=>whnf
    refine fE rfl (fun h=>by cases h) (fun _=>?_);conv=>whnf
    exact pf (i:=900001) (n:=0) (near:=near) rfl rfl ⟨rfl,rfl,trivial⟩
  | some x=>
   obtain⟨init,last⟩:=x;have WO:(vk near (some (init,last))).an.length<=1500:=by
    have Tw:vc (init ++ [last])+0<=1500:=hlen;have Kb:=oO init last;show(init ++ [last]).length<=1500;simp;omega
   conv=>whnf
   obtain⟨cp,cq,ce,SK⟩:∃ p q e,gf (vk near (some (init,last)))=(p,q,e):=⟨_,_,_,rfl⟩;have EV:bC (vk near (some (init,last)))=ce:=by show(gf _).2.2=ce;rw[SK]
   refine aA (lI (vk near (some (init,last))) _ _ _ SK) rfl 2 (H7 near init last rfl rfl) ?_;conv=>whnf
   refine ag (fun nW=>?_) (fun nW=>?_)
   ·have hk:bC (vk near (some (init,last)))=0:=by rw[EV];simpa using nW
    conv=>whnf
    refine aA (TX (vk near (some (init,last))) (fI hk) (yE hk)) rfl 2 (H7 near init last rfl rfl) ?_;conv=>whnf
    refine fE rfl (fun ht=>?_) (fun ht=>?_)
    ·rw[<- Ll]at ht
     have h0:=h7a ⟨hk,of_decide_eq_true ht⟩;subst h0;conv=>whnf
     refine⟨.inr rfl,rfl,rfl,.returning,_,rfl,fun {σ}=>yF _,?_⟩;conv=>whnf
     exact aO 2 (Co (H7 near init last rfl rfl)) ⟨rfl,rfl,rfl⟩
    ·rw[<- Ll]at ht
     have h0:=YI fun h=>absurd ht (by rw[decide_eq_true h.2];simp);subst h0;conv=>whnf
     exact pf (i:=900001) (n:=(init.length+1)) (near:=near) rfl rfl ⟨rfl,rfl,trivial⟩
   ·have hk:bC (vk near (some (init,last)))≠0:=by rw[EV];simpa using nW
    have h0:=YI fun h=>hk h.1;subst h0;conv=>whnf
    refine fE rfl (fun h=>by cases h) (fun _=>?_);conv=>whnf
    exact pf (i:=900001) (n:=(init.length+1)) (near:=near) rfl rfl ⟨rfl,rfl,trivial⟩
theorem FL(s:ByteArray):∃ r,(PX.df r = .tup [(xm s).1.d,i64 (xm s).2]\/r = .tup [(xm s).1.d,i64 (xm s).2])/\(1500<s.size->r=qx 3)/\(s.size<=1500->readAll s.data.toList=none->r=qx 6) /\
  (s.size<=1500 -> ∀ c,readAll s.data.toList=some c->((bC c=0/\xL c=s)->r = .tup [c.d,i64 0])/\(¬ (bC c=0/\xL c=s)->r=qx 6)):=by
 have tL:xm s=if 1500<s.size then (Ks,(3:Int)) else
  match readAll s.data.toList with
  | some c=>if bC c=0/\xL c=s then (c,0) else (Ks,6)
  | none=>(Ks,6):=rfl
 by_cases h3:1500<s.size
 ·rw[tL,if_pos h3]
  exact⟨qx 3,.inl rfl,fun _=>rfl,fun h=>absurd h (by omega),fun h=>absurd h (by omega)⟩
 rw[tL,if_neg h3]
 cases hl:readAll s.data.toList with
 | none=>exact⟨qx 6,.inl rfl,fun h=>absurd h h3,fun _ _=>rfl,fun _ c h=>by cases h⟩
 | some c=>
  by_cases hk:bC c=0/\xL c=s
  ·simp only[if_pos hk]
   refine⟨.tup [c.d,i64 0],.inr rfl,fun h=>absurd h h3,fun _ h=>?_,fun _ c' h=>?_⟩
   ·cases h
   ·cases h;exact⟨fun _=>rfl,fun h=>absurd hk h⟩
  ·simp only[if_neg hk]
   refine⟨qx 6,.inl rfl,fun h=>absurd h h3,fun _ _=>rfl,fun _ c' h=>?_⟩;cases h;exact⟨fun h=>absurd h hk,fun _=>rfl⟩
theorem abL(s:ByteArray):bq Tryz.prog 51 [.str s] (.tup [(xm s).1.d,i64 (xm s).2]):=by
 obtain⟨r,hr,h3,h6,h7⟩:=FL s;rcases hr with hr|rfl
 ·exact bq.df (fun {σ}=>RG s r h3 h6 h7) hr
 ·exact RG s _ h3 h6 h7
end Go.PX
namespace Go.PX
open Go.Proofs
theorem abV(l:aN)(hR:qh l)(w:Int)(hw:0<=w/\w<=1048576):bq Tryz.prog 113 [i64 w,.ref l.cells] (.bool (gV l w [])):=by
 refine aY Tryz.func113 rfl (ft:=Vd) 2 fun {σ} Y st=>?_;conv=>whnf
 refine oS ?_;refine af (X7 l hR w hw [] (by simp)) rfl rfl ?_;conv=>whnf
 refine af (Dx) rfl rfl ?_;conv=>whnf
 obtain⟨m,hm⟩:=Ji l hR w hw [];refine af (hm) rfl rfl ?_;conv=>whnf
 exact ai
theorem nH(mC:Int->Bool):∀ (k j:Nat) {lo hi:Int},hi-lo<=2^k->hi-lo<=2^j->ij mC k lo hi=ij mC j lo hi
 | 0,0,_,_,_,_=>rfl
 | 0,j+1,lo,hi,h1,_=>by
  rw[ij,ij,if_neg (by simp at h1;omega)]
 | k+1,0,lo,hi,_,h2=>by
  rw[ij,ij,if_neg (by simp at h2;omega)]
 | k+1,j+1,lo,hi,h1,h2=>by
  have e1:(2:Int)^(k+1)=2^k*2:=Int.pow_succ 2 k;have e2:(2:Int)^(j+1)=2^j*2:=Int.pow_succ 2 j;rw[ij,ij];split
  ·split
   ·exact nH mC k j (by omega) (by omega)
   ·exact nH mC k j (by omega) (by omega)
  ·rfl
theorem abU(g:FuncId)(bc:List D)(mC:Int->Bool)(hg:∀ n,0<=n->n<=1048576->bq Tryz.prog g (i64 n::bc) (.bool (mC n))) :
  bq Tryz.prog 112 [i64 1048576,.clo g bc] (.tup [i64 (if mC 1048576=true then ij mC 40 (-1) 1048576 else 0),.bool (mC 1048576)]):=by
 refine aY Tryz.func112 rfl (ft:=Vc) 2 fun {σ} Y st=>?_;conv=>whnf
 refine af (hg 1048576 (by omega) (by omega)) rfl rfl ?_
 cases h0:mC 1048576 with
 | false=>
  simp only[Bool.false_eq_true,if_false];conv=>whnf
  exact ai
 | true=>
  simp only[if_true];conv=>whnf
  generalize hRES:ij mC 40 (-1) 1048576=Ot;refine cD (T:=tys) av (by exact aj mixed av (by decide +kernel)) (α:=Int×Int) (fun z=>⟨[(0,.d (i64 1048576)),(1,.d (.clo g bc)),(6,.d (i64 z.1)),(7,.d (i64 z.2))],[],st⟩) (fun z=>-1<=z.1/\z.1<z.2/\z.2<=1048576/\ij mC 40 z.1 z.2=Ot) (fun z=>(z.2-z.1).toNat) (-1,1048576) aw ⟨by simp,by simp,by simp,hRES⟩ ?_;rintro ⟨lo,hi⟩ ⟨h1,h2,h3,h4⟩;simp only at h1 h2 h3 h4;conv=>whnf
  refine ae ?_;conv=>whnf
  have aay:ij mC 40 lo hi=if hi-lo>1 then (if mC ((lo+hi)/2) then ij mC 39 lo ((lo+hi)/2) else ij mC 39 ((lo+hi)/2) hi) else hi:=rfl
  rw[aay]at h4;have hp:(2:Int)^39=549755813888:=by decide
  have J7:(2:Int)^40=1099511627776:=by decide
  refine ag (fun h5=>?_) (fun h5=>?_)
  ·have h5:hi-lo>1:=of_decide_eq_true h5
   rw[if_pos h5]at h4;conv=>whnf
   refine ae ?_;conv=>whnf
   refine ao ((lo+hi)/2) (by show(lo+hi).tdiv 2=(lo+hi)/2;exact Int.tdiv_eq_ediv_of_nonneg (by omega)) (wrap_i64 (by omega)) ?_;generalize hM:(lo+hi)/2=M at h4 ⊢;have hM1:lo<M/\M<hi:=by omega
   conv=>whnf
   refine af (hg M (by omega) (by omega)) rfl rfl ?_;conv=>whnf
   cases hd:mC M with
   | true=>
    rw[hd]at h4;simp only[if_true]at h4;conv=>whnf
    exact⟨(lo,M),by simp only;omega,⟨by simp only;omega,by simp only;omega,by simp only;omega,by simp only;rw[<- h4];exact nH mC 40 39 (by omega) (by omega)⟩,aw⟩
   | false=>
    rw[hd]at h4;simp only[Bool.false_eq_true,if_false]at h4;conv=>whnf
    exact⟨(M,hi),by simp only;omega,⟨by simp only;omega,by simp only;omega,by simp only;omega,by simp only;rw[<- h4];exact nH mC 40 39 (by omega) (by omega)⟩,aw⟩
  ·have h5:¬ hi-lo>1:=of_decide_eq_false h5
   rw[if_neg h5]at h4;subst h4;conv=>whnf
   exact ai
theorem X5(l:aN):bq Tryz.prog 47 [l.d] (.tup [i64 (Fu l).1,i64 (Fu l).2]):=by
 unfold Fu;refine aY Tryz.func47 rfl (ft:=ZN) 1 fun {σ} Y st=>?_;conv=>whnf
 by_cases hc:bC l=0
 ·rw[if_pos hc]
  have hR:=fI hc;refine af (lI l 0 0 0 (km hc)) rfl rfl ?_;conv=>whnf
  refine aA (ds:=[i64 1048576,.clo 113 [.ref l.cells]]) (abU 113 [.ref l.cells] (fun w=>gV l w []) fun w h0 h1=>abV l hR w ⟨h0,h1⟩) rfl 1 rfl ?_
  cases hf:gV l 1048576 []with
  | false=>
   simp only[Bool.false_eq_true,if_false];conv=>whnf
   exact ai
  | true=>
   simp only[if_true];conv=>whnf
   exact ai
 ·rw[if_neg hc]
  refine af (lI l _ _ _ (kl l)) rfl rfl ?_;conv=>whnf
  generalize bC l=E at hc;refine ag (fun _=>?_) (fun h=>absurd hc (by simpa using h));conv=>whnf
  exact ai
theorem IM{b:au}{n:Int}:0<uq b n ↔ ∃ y∈b.ar,y.kind=3/\y.number=n:=by
 unfold uq;constructor
 ·intro h
  obtain⟨y,hy⟩:=List.exists_mem_of_length_pos h;obtain⟨hy,hq⟩:=List.mem_filter.1 hy;exact⟨y,hy,of_decide_eq_true hq⟩
 ·rintro ⟨y,hy,h⟩
  exact List.length_pos_of_mem (List.mem_filter.2 ⟨hy,decide_eq_true h⟩)
theorem TC{l:aN}{n:Int}:0<Dg l n ↔ ∃ b∈l.an,0<uq b n:=by
 unfold Dg;constructor
 ·intro h
  obtain⟨b,hb⟩:=List.exists_mem_of_length_pos h;obtain⟨hb,hq⟩:=List.mem_filter.1 hb;exact⟨b,hb,of_decide_eq_true hq⟩
 ·rintro ⟨b,hb,h⟩
  exact List.length_pos_of_mem (List.mem_filter.2 ⟨hb,decide_eq_true h⟩)
theorem zM{l:aN}{y:aZ}:y∈xo l↔(∃ b∈l.an,y∈b.ar)/\y.kind=3:=by
 unfold xo;rw[List.mem_filter,List.mem_flatMap,decide_eq_true_eq]
theorem I2{l:aN}{n:Int}:0<Dg l n ↔ ∃ y∈xo l,y.number=n:=by
 rw[TC];constructor
 ·rintro ⟨b,hb,h⟩
  obtain⟨y,hy,h1,h2⟩:=IM.1 h;exact⟨y,zM.2 ⟨⟨b,hb,hy⟩,h1⟩,h2⟩
 ·rintro ⟨y,hy,h2⟩
  obtain⟨⟨b,hb,hyb⟩,h1⟩:=zM.1 hy;exact⟨b,hb,IM.2 ⟨y,hyb,h1,h2⟩⟩
theorem RL{l:aN}(h:bC l=0){y:aZ}(hy:y∈xo l):1<=y.number/\y.number<=99:=by
 obtain⟨⟨b,hb,hyb⟩,h1⟩:=zM.1 hy;have hE:=(kn h hb).2.2.2 y hyb;exact⟨(hE.rep h1).2,hE.number.2⟩
theorem Mn(L:List aZ):∀ m0:Int,m0<=L.foldl (fun m y=>max m y.number) m0/\(∀ y∈L,y.number<=L.foldl (fun m y=>max m y.number) m0)/\(L.foldl (fun m y=>max m y.number) m0=m0 \/ ∃ y∈L,y.number=L.foldl (fun m y=>max m y.number) m0):=by
 induction L with
 | nil=>intro m0;exact⟨Int.le_refl _,fun y hy=>(by cases hy),.inl rfl⟩
 | cons a r ih=>
  intro m0;rw[List.foldl_cons];obtain⟨h1,h2,h3⟩:=ih (max m0 a.number);refine⟨by omega,fun y hy=>?_,?_⟩
  ·rcases List.mem_cons.1 hy with rfl|hy
   ·omega
   ·exact h2 y hy
  ·rcases h3 with h3|⟨y,hy,he⟩
   ·rcases Int.le_total m0 a.number with hle|hle
    ·right;exact⟨a,List.mem_cons_self ..,by rw[h3];omega⟩
    ·left;rw[h3];omega
   ·right;exact⟨y,List.mem_cons_of_mem _ hy,he⟩
theorem PT{l:aN}(h:bC l=0):0<=uI l/\uI l<=99/\(∀ n,0<Dg l n->1<=n/\n<=uI l)/\(uI l=0\/0<Dg l (uI l)):=by
 obtain⟨h1,h2,h3⟩:=Mn (xo l) 0;unfold uI;refine⟨h1,?_,fun n hn=>?_,?_⟩
 ·rcases h3 with h3|⟨y,hy,he⟩
  ·omega
  ·have:=RL h hy;omega
 ·obtain⟨y,hy,rfl⟩:=I2.1 hn
  have:=h2 y hy;have:=RL h hy;omega
 ·rcases h3 with h3|⟨y,hy,he⟩
  ·exact .inl h3
  ·exact .inr (I2.2 ⟨y,hy,he⟩)
abbrev NM:=List (Int×Int)
def eW(m:NM)(n:Int):Int:=(bD m n).getD 0
def AO(m:NM):Prop:=(m.map Prod.fst).Nodup
theorem No{m:NM}{t y x:Int}:x∈(cW m t y).map Prod.fst↔x=t\/x∈m.map Prod.fst:=by
 induction m with
 | nil=>simp[cW]
 | cons p r ih=>
  obtain⟨u,v⟩:=p;rw[cW];split
  ·rename_i h
   subst h;simp
  ·rw[List.map_cons,List.map_cons,List.mem_cons,List.mem_cons,ih]
   constructor
   ·rintro (h|h|h)
    ·exact .inr (.inl h)
    ·exact .inl h
    ·exact .inr (.inr h)
   ·rintro (h|h|h)
    ·exact .inr (.inl h)
    ·exact .inl h
    ·exact .inr (.inr h)
theorem AO.put{m:NM}(h:AO m)(t y:Int):AO (cW m t y):=by
 induction m with
 | nil=>simp[AO,cW]
 | cons p r ih=>
  obtain⟨u,v⟩:=p;unfold AO at h ih ⊢;rw[List.map_cons,List.nodup_cons]at h;rw[cW];split
  ·rename_i he
   subst he;rw[List.map_cons,List.nodup_cons];exact h
  ·rename_i he
   rw[List.map_cons,List.nodup_cons];exact⟨fun hm=>(No.1 hm).elim (fun e=>he e.symm) h.1,ih h.2⟩
theorem CZ{m:NM}(h:AO m){i:Nat}{k v:Int}(hi:m[i]?=some (k,v)):bD m k=some v:=by
 induction m generalizing i with
 | nil=>simp at hi
 | cons p r ih=>
  obtain⟨u,w⟩:=p;unfold AO at h ih;rw[List.map_cons,List.nodup_cons]at h;rw[bD]
  cases i with
  | zero=>rw[List.getElem?_cons_zero]at hi;cases hi;rw[if_pos rfl]
  | succ i=>
   rw[List.getElem?_cons_succ]at hi;have hk:k≠u:=fun e=>h.1 (e▸List.mem_map.2 ⟨_,List.mem_of_getElem? hi,rfl⟩);rw[if_neg hk];exact ih h.2 hi
theorem OP{m:NM}{k v:Int}(h:bD m k=some v):∃ i:Nat,m[i]?=some (k,v):=by
 induction m with
 | nil=>cases h
 | cons p r ih=>
  obtain⟨u,w⟩:=p;rw[bD]at h;split at h
  ·rename_i e;cases h;subst e;exact⟨0,rfl⟩
  ·obtain⟨i,hi⟩:=ih h
   exact⟨i+1,hi⟩
theorem qD(m:NM)(t y n:Int):eW (cW m t y) n=if n=t then y else eW m n:=by
 unfold eW;rw[dL];split<;>rfl
def ET(r:List aZ)(n:Int):Nat:=(r.filter fun y=>decide (y.kind=3/\y.number=n)).length
structure qi(r:List aZ)(m:NM):Prop where
 UD:AO m
 get:∀ n,eW m n=ET r n
 pos:∀ n v,bD m n=some v->1<=v
theorem qi.nil:qi [] []:=⟨by simp[AO],fun n=>rfl,fun n v h=>by cases h⟩
theorem qi.skip{r:List aZ}{m:NM}(h:qi r m){y:aZ}(hy:y.kind≠3):qi (r ++ [y]) m:=by
 refine⟨h.UD,fun n=>?_,h.pos⟩;rw[h.get n];unfold ET;rw[List.filter_append,List.filter_cons,if_neg (by simp[hy])];simp
theorem qi.inc{r:List aZ}{m:NM}(h:qi r m){y:aZ}(hy:y.kind=3):qi (r ++ [y]) (cW m y.number (eW m y.number+1)):=by
 refine⟨h.UD.put _ _,fun n=>?_,fun n v hv=>?_⟩
 ·rw[qD]
  unfold ET;rw[List.filter_append,List.filter_cons];by_cases hn:n=y.number
  ·subst hn
   rw[if_pos rfl,if_pos (by simp[hy]),h.get];unfold ET;simp
  ·rw[if_neg hn,if_neg (by simp[hy];exact fun e=>hn e.symm),h.get]
   unfold ET;simp
 ·rw[dL]at hv
  split at hv
  ·cases hv
   have:=h.get y.number;omega
  ·exact h.pos n v hv
structure Jt(bs:List au)(m1 m2:NM):Prop where
 Y7:∀ n,eW m1 n=(bs.filter fun b=>decide (0<uq b n)).length
 Ky:∀ n,eW m2 n=(bs.map fun b=>uq b n).foldl max 0
def Dn(mine:NM)(todo:List Nat)(n:Int):Prop:=∃ (i:Nat) (v:Int),i∉todo/\mine[i]?=some (n,v)
structure CE(mine b1 b2:NM)(todo:List Nat)(m1 m2:NM):Prop where
 yes:∀ n,Dn mine todo n->eW m1 n=eW b1 n+1/\eW m2 n=max (eW b2 n) (eW mine n)
 no:∀ n,¬ Dn mine todo n->eW m1 n=eW b1 n/\eW m2 n=eW b2 n
theorem CE.start(mine b1 b2:NM):CE mine b1 b2 (List.range mine.length) b1 b2:=
 ⟨fun n ⟨i,v,h1,h2⟩=>absurd (List.mem_range.2 (List.getElem?_eq_some_iff.1 h2).1) h1,fun _ _=>⟨rfl,rfl⟩⟩
theorem CE.step{mine b1 b2 m1 m2:NM}{todo:List Nat}(hn:AO mine)(h:CE mine b1 b2 todo m1 m2){i:Nat}{k v:Int}(hi:i∈todo)(hk:mine[i]?=some (k,v)) :
  CE mine b1 b2 (todo.filter fun j=>!Nat.beq j i) (cW m1 k (eW m1 k+1)) (cW m2 k (max (eW m2 k) v)):=by
 have qb:∀ j,j∉todo.filter (fun j=>!Nat.beq j i)↔j∉todo\/j=i:=fun j=>by
  rw[List.mem_filter];by_cases hj:j=i
  ·subst hj;simp
  ·have:Nat.beq j i=false:=by
    cases hb:Nat.beq j i with
    | false=>rfl
    | true=>exact absurd (Nat.eq_of_beq_eq_true hb) hj
   rw[this];simp[hj]
 have one:∀ {j:Nat} {w:Int},mine[j]?=some (k,w)->j=i:=fun {j w} hj=>by
  have h1:(mine.map Prod.fst)[j]?=some k:=by rw[List.getElem?_map,hj];rfl
  have h2:(mine.map Prod.fst)[i]?=some k:=by rw[List.getElem?_map,hk];rfl
  have C5:=(List.getElem?_eq_some_iff.1 h1).1;exact(List.getElem?_inj C5 hn).1 (h1.trans h2.symm)
 have YY:¬ Dn mine todo k:=fun⟨j,w,h1,h2⟩=>h1 (one h2▸hi);have hgk:eW mine k=v:=by unfold eW;rw[CZ hn hk];rfl
 have hdn:∀ n,n≠k->(Dn mine (todo.filter fun j=>!Nat.beq j i) n↔Dn mine todo n):=fun n Lj=>by
  constructor
  ·rintro ⟨j,w,h1,h2⟩
   rcases (qb j).1 h1 with h1|rfl
   ·exact⟨j,w,h1,h2⟩
   ·rw[hk]at h2;cases h2;exact absurd rfl Lj
  ·rintro ⟨j,w,h1,h2⟩
   exact⟨j,w,(qb j).2 (.inl h1),h2⟩
 obtain⟨g1,g2⟩:=h.no k YY;refine⟨fun n hd=>?_,fun n hd=>?_⟩
 ·rw[qD,qD]
  by_cases Lj:n=k
  ·subst Lj
   rw[if_pos rfl,if_pos rfl,g1,g2,hgk];exact⟨rfl,rfl⟩
  ·rw[if_neg Lj,if_neg Lj]
   exact h.yes n ((hdn n Lj).1 hd)
 ·have Lj:n≠k:=fun e=>hd (e▸⟨i,v,(qb i).2 (.inr rfl),hk⟩)
  rw[qD,qD,if_neg Lj,if_neg Lj];exact h.no n fun SM=>hd ((hdn n Lj).2 SM)
theorem CE.fin{bs:List au}{b:au}{mine b1 b2 m1 m2:NM}(hb:Jt bs b1 b2)(hm:qi b.ar mine)(h:CE mine b1 b2 [] m1 m2):Jt (bs ++ [b]) m1 m2:=by
 have hd:∀ n,Dn mine [] n↔0<uq b n:=fun n=>by
  have hg:=hm.get n;constructor
  ·rintro ⟨i,v,_,hi⟩
   have h1:=CZ hm.UD hi;have h2:=hm.pos n v h1;unfold eW at hg;rw[h1]at hg;show 0<ET b.ar n;simp only[Option.getD_some]at hg;omega
  ·intro hp
   have hp:0<ET b.ar n:=hp
   cases hv:bD mine n with
   | none=>unfold eW at hg;rw[hv]at hg;simp only[Option.getD_none]at hg;omega
   | some v=>
    obtain⟨i,hi⟩:=OP hv;exact⟨i,v,by simp,hi⟩
 have hg:∀ n,eW mine n=uq b n:=hm.get;refine⟨fun n=>?_,fun n=>?_⟩
 ·rw[List.filter_append,List.length_append,List.filter_cons]
  have h1:=hb.Y7 n;by_cases hp:0<uq b n
  ·rw[(h.yes n ((hd n).2 hp)).1,h1,if_pos (by simpa using hp)];simp
  ·rw[(h.no n fun hh=>hp ((hd n).1 hh)).1,h1,if_neg (by simpa using hp)];simp
 ·rw[List.map_append,List.foldl_append]
  have h1:=hb.Ky n;have h2:=hg n;show _=((max ((bs.map fun b=>uq b n).foldl max 0) (uq b n):Nat):Int);by_cases hp:0<uq b n
  ·rw[(h.yes n ((hd n).2 hp)).2,h1,h2];omega
  ·rw[(h.no n fun hh=>hp ((hd n).1 hh)).2,h1];omega
theorem Jt.bd{bs:List au}{m1 m2:NM}(h:Jt bs m1 m2)(n:Int):0<=eW m1 n/\eW m1 n<=bs.length/\0<=eW m2 n:=by
 have h1:=h.Y7 n;have h2:=h.Ky n;have h3:(bs.filter fun b=>decide (0<uq b n)).length<=bs.length:=List.length_filter_le _ _;omega
theorem te{κ ν:Type}{kd:κ->D}{vd:ν->D}(m:List (κ×ν)):(eZ kd vd m).length=m.length:=by simp[eZ]
theorem PI{m:NM}{i:Nat}{kv:D×D}(h:(eZ aD aD m)[i]?=some kv):∃ x v,m[i]?=some (x,v)/\kv=(i64 x,i64 v):=by
 unfold eZ at h;rw[List.getElem?_map,Option.map_eq_some_iff]at h;obtain⟨⟨x,v⟩,h1,h2⟩:=h;exact⟨x,v,h1,h2.symm⟩
theorem filter_lt{l:List Nat}{i:Nat}(h:i∈l):(l.filter fun j=>!Nat.beq j i).length<l.length:=by
 induction l with
 | nil=>cases h
 | cons a r ih=>
  rw[List.filter_cons];by_cases ha:a=i
  ·subst ha
   rw[show Nat.beq a a=true from Nat.beq_refl a];have:=List.length_filter_le (fun j=>!Nat.beq j a) r;simp only[Bool.not_true,Bool.false_eq_true,if_false,List.length_cons];omega
  ·have hb:Nat.beq a i=false:=by
    cases hb:Nat.beq a i with
    | false=>rfl
    | true=>exact absurd (Nat.eq_of_beq_eq_true hb) ha
   rw[hb];have:=ih ((List.mem_cons.1 h).resolve_left fun e=>ha e.symm);simp only[Bool.not_false,if_true,List.length_cons];omega
set_option maxHeartbeats 4000000 in
theorem Yd(l:aN)(hR:qh l):tH Tryz.prog 114 [.d l.d] [] fun v h'=>h' = [] /\ ∃ m1 m2,Jt l.an m1 m2/\v = .d (.tup [.mv (eZ aD aD m1),.mv (eZ aD aD m2)]):=by
 intro σ Y st;refine ez mixed av Tryz.func114 rfl (ft:=QQ) (args:=[.d l.d]) (show oQ QQ Tryz.f114 1=true from by decide +kernel) ?_;conv=>whnf
 refine bB (T:=tys) av (by exact aj mixed av (by decide +kernel)) l.an (fun i (x:NM×NM)=>⟨[(2,.mp 13),(3,.mp 14),(16,.d (bF l.an)),(17,.d (i64 l.an.length)),(18,.d (i64 i))],[(13,.map (eZ aD aD x.1)),(14,.map (eZ aD aD x.2))],st⟩) (fun i r x=>Jt (l.an.take i) x.1 x.2) ([],[]) aw ⟨fun n=>rfl,fun n=>rfl⟩ ?_ ?_
 ·rintro i b r ⟨b1,b2⟩ hb hi hr hC
  have xV:=hR.an;have hB:=hR.book b (List.mem_of_getElem? hb);have SG:=hB.ar;have Gy:l.an.take (i+1)=l.an.take i ++ [b]:=by rw[List.take_succ,hb];rfl
  simp only at hC;conv=>whnf
  refine ag (fun _=>?_) (fun h=>absurd hi (by simpa using h));conv=>whnf
  refine aG hb ?_;conv=>whnf
  refine bB (T:=tys) av (by exact aj mixed av (by decide +kernel)) b.ar (fun k (m:NM)=>⟨[(2,.mp 13),(3,.mp 14),(16,.d (bF l.an)),(17,.d (i64 l.an.length)),(18,.d (i64 i)),(6,.mp 22),(24,.d (lF b.ar)),(25,.d (i64 b.ar.length)),(26,.d (i64 k))],[(13,.map (eZ aD aD b1)),(14,.map (eZ aD aD b2)),(22,.map (eZ aD aD m))],st⟩) (fun k r m=>qi (b.ar.take k) m) [] aw (by rw[List.take_zero];exact qi.nil) ?_ ?_
  ·rintro k y q m hy hk hq hM
   have hte:b.ar.take (k+1)=b.ar.take k ++ [y]:=by rw[List.take_succ,hy];rfl
   have Kh:=(hB.fV y (List.mem_of_getElem? hy)).2.1;conv=>whnf
   refine ag (fun _=>?_) (fun h=>absurd hk (by simpa using h));conv=>whnf
   refine aG hy ?_;conv=>whnf
   refine af (Bc y) rfl rfl ?_;by_cases h3:y.kind=3
   ·have ht:bQ y = .ifc 228 (.agg [.str y.word,i64 y.number]):=by unfold bQ;rw[if_neg (by omega),if_neg (by omega),if_pos h3]
    rw[ht];have Q9:=hM.inc h3;rw[<- hte]at Q9;have hb8:eW m y.number<=k:=by
     rw[hM.get];have h1:ET (b.ar.take k) y.number<=(b.ar.take k).length:=List.length_filter_le _ _;rw[List.length_take]at h1;omega
    have kC:0<=eW m y.number:=by rw[hM.get];omega
    generalize hG:eW m y.number=G at Q9 hb8 kC;conv=>whnf
    cases hg:bD m y.number with
    | none=>
     have hG0:G=0:=by rw[<- hG];unfold eW;rw[hg];rfl
     refine⟨none,aQ (kd:=aD) aP hg 0,?_⟩;conv=>whnf
     refine ao (G+1) (by omega) (wrap_i64 (by omega)) ?_;conv=>whnf
     refine⟨none,aQ (kd:=aD) aP hg 0,?_⟩;conv=>whnf
     refine ae ?_;conv=>whnf
     refine⟨_,Q9,Wk.sub ⟨rfl,rfl,rfl,rfl,rfl,rfl,rfl,rfl,rfl,trivial⟩ ⟨rfl,rfl,?_,trivial⟩⟩;exact congrArg (fun z=>some (Obj.map z)) (cG (kd:=aD) (vd:=aD) (G+1) hg)
    | some v=>
     have hG0:G=v:=by rw[<- hG];unfold eW;rw[hg];rfl
     obtain⟨ix,_,qN,zm,_⟩:=bf (kd:=aD) (vd:=aD) aP hg 0;refine⟨_,qN,?_⟩;conv=>whnf
     refine ao (G+1) (by omega) (wrap_i64 (by omega)) ?_;conv=>whnf
     refine⟨_,qN,?_⟩;conv=>whnf
     refine ae ?_;conv=>whnf
     refine⟨_,Q9,Wk.sub ⟨rfl,rfl,rfl,rfl,rfl,rfl,rfl,rfl,rfl,trivial⟩ ⟨rfl,rfl,?_,trivial⟩⟩;show some (Obj.map ((eZ aD aD m).set (0+ix) (i64 y.number,i64 (G+1))))=_;rw[Nat.zero_add];exact congrArg (fun z=>some (Obj.map z)) (zm (G+1))
   ·have Q9:=hM.skip h3
    rw[<- hte]at Q9;by_cases h2:y.kind=2
    ·have ht:bQ y = .ifc 288 (.agg []):=by unfold bQ;rw[if_neg (by omega),if_pos h2]
     rw[ht];conv=>whnf
     refine ae ?_;conv=>whnf
     exact⟨m,Q9,aw⟩
    ·have ht:bQ y = .ifc 214 (.agg [.str y.word]):=by unfold bQ;rw[if_pos (by omega)]
     rw[ht];conv=>whnf
     refine ae ?_;conv=>whnf
     exact⟨m,Q9,aw⟩
  ·rintro m hM
   rw[List.take_length]at hM;conv=>whnf
   refine ag (fun h=>absurd h (by simp)) (fun _=>?_);conv=>whnf
   refine cD (T:=tys) av (by exact aj mixed av (by decide +kernel)) (α:=List Nat×(NM×(NM×Option Nat)))
    (fun p=>⟨[(2,.mp 13),(3,.mp 14),(16,.d (bF l.an)),(17,.d (i64 l.an.length)),(18,.d (i64 i)),(44,.it 44)],[(13,.map (eZ aD aD p.2.1)),(14,.map (eZ aD aD p.2.2.1)),(22,.map (eZ aD aD m)),(44,.mit (.mp 22) m.length p.1 p.2.2.2)],st⟩)
    (fun p=>CE m b1 b2 p.1 p.2.1 p.2.2.1) (fun p=>p.1.length) (List.range m.length,(b1,(b2,none))) ?wk2 (CE.start m b1 b2) ?_
   case wk2=>
    refine Wk.sub ⟨rfl,rfl,rfl,rfl,rfl,rfl,trivial⟩ ⟨rfl,rfl,rfl,?_,trivial⟩;show some (Obj.mit (V.mp 22) (eZ aD aD m).length (List.range (eZ aD aD m).length) none)=_;rw[te]
   rintro ⟨todo,m1,m2,cur⟩ YR;simp only at YR;conv=>whnf
   refine⟨by simp[te],fun h0=>?_,fun j kv hj wU=>?_⟩
   ·have h0:todo = []:=h0
    subst h0;have hC2:=YR.fin hC hM;rw[<- Gy]at hC2;conv=>whnf
    refine ae ?_;conv=>whnf
    exact⟨(m1,m2),hC2,aw⟩
   ·obtain⟨n,v,hnv,rfl⟩:=PI wU
    have hj:j∈todo:=hj;have dh:=filter_lt hj;have wW:=YR.step hM.UD hj hnv;have uw:=CZ hM.UD hnv;conv=>whnf
    refine⟨by simp[te],(i64 n,i64 v),wU,?_⟩;conv=>whnf
    have Rp:=hM.pos n v uw;have SF:eW m1 n<=3/\0<=eW m1 n:=by
     have:=hC.bd n;rw[List.length_take]at this;have vj:¬ Dn m todo n:=fun⟨j',w,h1,h2⟩=>by
      have C5:=(List.getElem?_eq_some_iff.1 h2).1;have e1:(m.map Prod.fst)[j']?=some n:=by rw[List.getElem?_map,h2];rfl
      have e2:(m.map Prod.fst)[j]?=some n:=by rw[List.getElem?_map,hnv];rfl
      have:j'=j:=(List.getElem?_inj (by simpa using C5) hM.UD).1 (e1.trans e2.symm);exact h1 (this▸hj)
     have:=(YR.no n vj).1;omega
    generalize hG1:eW m1 n=G1 at wW SF;generalize hG2:eW m2 n=G2 at wW
    cases dX:bD m1 n with
    | none=>
     have hG0:G1=0:=by rw[<- hG1];unfold eW;rw[dX];rfl
     refine⟨none,aQ (kd:=aD) aP dX 0,?_⟩;conv=>whnf
     refine ao (G1+1) (by omega) (wrap_i64 (by omega)) ?_;conv=>whnf
     refine⟨none,aQ (kd:=aD) aP dX 0,?_⟩;conv=>whnf
     cases iK:bD m2 n with
     | none=>
      have EO:G2=0:=by rw[<- hG2];unfold eW;rw[iK];rfl
      refine⟨none,aQ (kd:=aD) aP iK 0,?_⟩;conv=>whnf
      refine⟨none,aQ (kd:=aD) aP iK 0,?_⟩;conv=>whnf
      refine⟨(todo.filter fun j'=>!Nat.beq j' j,(cW m1 n (G1+1),(cW m2 n (max G2 v),some j))),dh,wW,Wk.sub ⟨rfl,rfl,rfl,rfl,rfl,rfl,trivial⟩ ⟨?_,?_,rfl,rfl,trivial⟩⟩
      ·exact congrArg (fun z=>some (Obj.map z)) (cG (kd:=aD) (vd:=aD) (G1+1) dX)
      ·rw[EO]
       exact congrArg (fun z=>some (Obj.map z)) (cG (kd:=aD) (vd:=aD) (max 0 v) iK)
     | some v2=>
      have EO:G2=v2:=by rw[<- hG2];unfold eW;rw[iK];rfl
      obtain⟨iy,_,rU,Xq,_⟩:=bf (kd:=aD) (vd:=aD) aP iK 0;refine⟨_,rU,?_⟩;conv=>whnf
      refine⟨_,rU,?_⟩;conv=>whnf
      refine⟨(todo.filter fun j'=>!Nat.beq j' j,(cW m1 n (G1+1),(cW m2 n (max G2 v),some j))),dh,wW,Wk.sub ⟨rfl,rfl,rfl,rfl,rfl,rfl,trivial⟩ ⟨?_,?_,rfl,rfl,trivial⟩⟩
      ·exact congrArg (fun z=>some (Obj.map z)) (cG (kd:=aD) (vd:=aD) (G1+1) dX)
      ·rw[EO]
       show some (Obj.map ((eZ aD aD m2).set (0+iy) (i64 n,i64 (max v2 v))))=_;rw[Nat.zero_add];exact congrArg (fun z=>some (Obj.map z)) (Xq (max v2 v))
    | some v1=>
     have hG0:G1=v1:=by rw[<- hG1];unfold eW;rw[dX];rfl
     obtain⟨ix,_,qN,zm,_⟩:=bf (kd:=aD) (vd:=aD) aP dX 0;refine⟨_,qN,?_⟩;conv=>whnf
     refine ao (G1+1) (by omega) (wrap_i64 (by omega)) ?_;conv=>whnf
     refine⟨_,qN,?_⟩;conv=>whnf
     cases iK:bD m2 n with
     | none=>
      have EO:G2=0:=by rw[<- hG2];unfold eW;rw[iK];rfl
      refine⟨none,aQ (kd:=aD) aP iK 0,?_⟩;conv=>whnf
      refine⟨none,aQ (kd:=aD) aP iK 0,?_⟩;conv=>whnf
      refine⟨(todo.filter fun j'=>!Nat.beq j' j,(cW m1 n (G1+1),(cW m2 n (max G2 v),some j))),dh,wW,Wk.sub ⟨rfl,rfl,rfl,rfl,rfl,rfl,trivial⟩ ⟨?_,?_,rfl,rfl,trivial⟩⟩
      ·(show some (Obj.map ((eZ aD aD m1).set (0+ix) (i64 n,i64 (G1+1))))=_);rw[Nat.zero_add];exact congrArg (fun z=>some (Obj.map z)) (zm (G1+1))
      ·rw[EO]
       exact congrArg (fun z=>some (Obj.map z)) (cG (kd:=aD) (vd:=aD) (max 0 v) iK)
     | some v2=>
      have EO:G2=v2:=by rw[<- hG2];unfold eW;rw[iK];rfl
      obtain⟨iy,_,rU,Xq,_⟩:=bf (kd:=aD) (vd:=aD) aP iK 0;refine⟨_,rU,?_⟩;conv=>whnf
      refine⟨_,rU,?_⟩;conv=>whnf
      refine⟨(todo.filter fun j'=>!Nat.beq j' j,(cW m1 n (G1+1),(cW m2 n (max G2 v),some j))),dh,wW,Wk.sub ⟨rfl,rfl,rfl,rfl,rfl,rfl,trivial⟩ ⟨?_,?_,rfl,rfl,trivial⟩⟩
      ·(show some (Obj.map ((eZ aD aD m1).set (0+ix) (i64 n,i64 (G1+1))))=_);rw[Nat.zero_add];exact congrArg (fun z=>some (Obj.map z)) (zm (G1+1))
      ·rw[EO]
       show some (Obj.map ((eZ aD aD m2).set (0+iy) (i64 n,i64 (max v2 v))))=_;rw[Nat.zero_add];exact congrArg (fun z=>some (Obj.map z)) (Xq (max v2 v))
 ·rintro ⟨m1,m2⟩ hC
  rw[List.take_length]at hC;conv=>whnf
  refine ag (fun h=>absurd h (by simp)) (fun _=>?_);conv=>whnf
  refine aO 1 (ds:=[.mv (eZ aD aD m1),.mv (eZ aD aD m2)]) (aC (vh rfl) (aC (vh rfl) rfl)) ⟨⟨rfl,m1,m2,hC,rfl⟩,rfl⟩
def Od(s:ByteArray):D:=.str s
abbrev WM:=List (Int×ByteArray)
def vZ(r:List aZ):List aZ:=r.filter fun y=>decide (y.kind=3)
def PZ(m0:Int)(r:List aZ):Int:=r.foldl (fun m y=>max m y.number) m0
def eS(l:List Int):List (List D):=l.map fun n=>[i64 n]
theorem yp{σ:Type}{l:List V}{h:Heap}{s:σ}{Q:V->Heap->σ->Prop}(n:Nat){ds:List D}(hv:cS (fp h n) l=some ds){d:D}(hd:df (j9 ds)=d)(hq:Q (.d d) [] s):p9 l h s Q:=by
 subst hd;refine⟨fun cx L F aT w hh hr=>?_⟩;have tr:=gK hh;exact⟨_,[],L,fO L F h w,hq,vy hh,bR.df _ _ (Dy (jY tr (pD hh n) l aT ds hv hr)),tr,fun _ _=>⟨rfl,rfl⟩⟩
set_option maxHeartbeats 4000000 in
theorem abJ(l:aN):bq Tryz.prog 49 [l.d] (.tup [aV (NX l).1,aV (NX l).2.1,i64 (NX l).2.2]):=by
 unfold NX;refine aY Tryz.func49 rfl (ft:=ZP) 1 fun {σ} Y st=>?_;conv=>whnf
 by_cases hc:bC l=0
 ·rw[if_pos hc]
  have hR:=fI hc;have xV:=hR.an;have WK:=PT hc;refine af (lI l 0 0 0 (km hc)) rfl rfl ?_;conv=>whnf
  generalize hT:rC [] (xo l)=T;generalize hL:uI l=L at WK;have hT:rC [] (vZ (l.an.flatMap au.ar))=T:=hT;have YP:PZ 0 (vZ (l.an.flatMap au.ar))=L:=hL;refine bB (T:=tys) av (by exact aj mixed av (by decide +kernel)) l.an (fun i (x:WM×Int)=>⟨[(1,.ptr 1 0),(2,.d .nils),(3,.d .nils),(5,.mp 27),(6,.d (i64 x.2)),(29,.d (bF l.an)),(30,.d (i64 l.an.length)),(31,.d (i64 i))],[(1,.box (.dd l.cells)),(27,.map (eZ aD Od x.1))],st⟩) (fun i r x=>rC x.1 (vZ (r.flatMap au.ar))=T/\PZ x.2 (vZ (r.flatMap au.ar))=L/\0<=x.2/\x.2<=99) ([],0) aw ⟨hT,YP,by simp,by simp⟩ ?_ ?_
  ·rintro i b r ⟨m,last⟩ hb hi hr ⟨rR,nt,Gv⟩
   have hB:=hR.book b (List.mem_of_getElem? hb);have SG:=hB.ar;simp only at rR nt Gv;rw[List.flatMap_cons]at rR nt;conv=>whnf
   refine ag (fun _=>?_) (fun h=>absurd hi (by simpa using h));conv=>whnf
   refine aG hb ?_;conv=>whnf
   refine bB (T:=tys) av (by exact aj mixed av (by decide +kernel)) b.ar (fun k (x:WM×Int)=>⟨[(1,.ptr 1 0),(2,.d .nils),(3,.d .nils),(5,.mp 27),(6,.d (i64 x.2)),(29,.d (bF l.an)),(30,.d (i64 l.an.length)),(31,.d (i64 i)),(36,.d (lF b.ar)),(37,.d (i64 b.ar.length)),(38,.d (i64 k))],[(1,.box (.dd l.cells)),(27,.map (eZ aD Od x.1))],st⟩) (fun k q x=>rC x.1 (vZ (q++r.flatMap au.ar))=T/\PZ x.2 (vZ (q++r.flatMap au.ar))=L/\0<=x.2/\x.2<=99) (m,last) aw ⟨rR,nt,Gv⟩ ?_ ?_
   ·rintro k y q ⟨m,last⟩ hy hk hq ⟨rR,nt,Gv⟩
    have hyR:=hB.fV y (List.mem_of_getElem? hy);simp only at rR nt Gv;conv=>whnf
    refine ag (fun _=>?_) (fun h=>absurd hk (by simpa using h));conv=>whnf
    refine aG hy ?_;conv=>whnf
    refine af (Bc y) rfl rfl ?_;by_cases h3:y.kind=3
    ·have ht:bQ y = .ifc 228 (.agg [.str y.word,i64 y.number]):=by unfold bQ;rw[if_neg (by omega),if_neg (by omega),if_pos h3]
     rw[ht];have h3k:vZ (y::q++r.flatMap au.ar)=y::vZ (q++r.flatMap au.ar):=by unfold vZ;rw[List.cons_append,List.filter_cons,if_pos (by simp[h3])]
     rw[h3k]at rR nt;rw[rC]at rR;have nt:PZ (max last y.number) (vZ (q++r.flatMap au.ar))=L:=nt;conv=>whnf
     cases hg:bD m y.number with
     | none=>
      rw[hg]at rR;simp only at rR;refine⟨none,aQ (kd:=aD) aP hg 0,?_⟩;conv=>whnf
      refine⟨none,aQ (kd:=aD) aP hg 0,?_⟩;conv=>whnf
      refine ae ?_;conv=>whnf
      refine⟨(cW m y.number y.word,max last y.number),⟨rR,nt,by simp only;omega⟩,Wk.sub ⟨rfl,rfl,rfl,rfl,rfl,rfl,rfl,rfl,rfl,rfl,rfl,trivial⟩ ⟨rfl,?_,trivial⟩⟩;exact congrArg (fun z=>some (Obj.map z)) (cG (kd:=aD) (vd:=Od) y.word hg)
     | some w=>
      rw[hg]at rR;simp only at rR;obtain⟨ix,_,qN,zm,_⟩:=bf (kd:=aD) (vd:=Od) aP hg 0;refine⟨_,qN,?_⟩;conv=>whnf
      by_cases hw:w=y.word
      ·rw[if_pos hw]at rR
       rw[decide_eq_true hw];conv=>whnf
       refine⟨_,qN,?_⟩;conv=>whnf
       refine ae ?_;conv=>whnf
       refine⟨(cW m y.number y.word,max last y.number),⟨rR,nt,by simp only;omega⟩,Wk.sub ⟨rfl,rfl,rfl,rfl,rfl,rfl,rfl,rfl,rfl,rfl,rfl,trivial⟩ ⟨rfl,?_,trivial⟩⟩;show some (Obj.map ((eZ aD Od m).set (0+ix) (i64 y.number,.str y.word)))=_;rw[Nat.zero_add];exact congrArg (fun z=>some (Obj.map z)) (zm y.word)
      ·rw[if_neg hw]at rR
       subst rR;rw[decide_eq_false hw];simp only[if_true];conv=>whnf
       refine yp 0 rfl (d:=.tup [aV [],aV [],i64 5]) rfl ⟨⟨rfl,rfl⟩,rfl⟩
    ·have h3k:vZ (y::q++r.flatMap au.ar)=vZ (q++r.flatMap au.ar):=by unfold vZ;rw[List.cons_append,List.filter_cons,if_neg (by simp[h3])]
     rw[h3k]at rR nt;by_cases h2:y.kind=2
     ·have ht:bQ y = .ifc 288 (.agg []):=by unfold bQ;rw[if_neg (by omega),if_pos h2]
      rw[ht];conv=>whnf
      refine ae ?_;conv=>whnf
      exact⟨(m,last),⟨rR,nt,Gv⟩,aw⟩
     ·have ht:bQ y = .ifc 214 (.agg [.str y.word]):=by unfold bQ;rw[if_pos (by omega)]
      rw[ht];conv=>whnf
      refine ae ?_;conv=>whnf
      exact⟨(m,last),⟨rR,nt,Gv⟩,aw⟩
   ·rintro ⟨m,last⟩ ⟨rR,nt,Gv⟩
    simp only at rR nt Gv;rw[List.nil_append]at rR nt;conv=>whnf
    refine ag (fun h=>absurd h (by simp)) (fun _=>?_);conv=>whnf
    refine ae ?_;conv=>whnf
    exact⟨(m,last),⟨rR,nt,Gv⟩,aw⟩
  ·rintro ⟨m,last⟩ ⟨rR,nt,Gv⟩
   have rR:false=T:=rR;have nt:last=L:=nt;subst rR;subst nt;simp only[Bool.false_eq_true,if_false];conv=>whnf
   refine ag (fun h=>absurd h (by simp)) (fun _=>?_);conv=>whnf
   refine rK (Yd l hR Y st) [] rfl rfl rfl rfl ?_;rintro v h1 s' ⟨⟨rfl,m1,m2,hC,rfl⟩,rfl⟩;refine⟨rfl,?_⟩;conv=>whnf
   have gN:∀ n,eW m1 n=(Dg l n:Nat):=hC.Y7;have WU:∀ n,eW m2 n=(Jc l n:Nat):=hC.Ky;unfold RB QM;rw[hL];generalize DY:((List.range' 1 last.toNat).map fun(n:Nat)=>(n:Int)).filter (fun n=>decide (Dg l n=0))=MS;generalize DW:((List.range' 1 last.toNat).map fun(n:Nat)=>(n:Int)).filter (fun n=>decide (Dg l n≠0)&&decide (1<Jc l n))=CP;have ze:(last.toNat:Int)=last:=by omega
   refine cD (T:=tys) av (by exact aj mixed av (by decide +kernel)) (α:=Nat×(List Int×List Int)) (fun z=>⟨[(2,.sl 93 1 0 z.2.1.length),(3,.sl 102 1 0 z.2.2.length),(6,.d (i64 last)),(15,.d (.mv (eZ aD aD m1))),(16,.d (.mv (eZ aD aD m2))),(17,.d (i64 z.1))],[(93,.arr 1 (.dd (eS z.2.1))),(102,.arr 1 (.dd (eS z.2.2)))],s'⟩)
    (fun z=>1<=z.1/\z.1<=last.toNat+1/\z.2.1.length<=z.1/\z.2.2.length<=z.1/\z.2.1++((List.range' z.1 (last.toNat+1-z.1)).map fun(n:Nat)=>(n:Int)).filter (fun n=>decide (Dg l n=0))=MS/\z.2.2++((List.range' z.1 (last.toNat+1-z.1)).map fun(n:Nat)=>(n:Int)).filter (fun n=>decide (Dg l n≠0)&&decide (1<Jc l n))=CP) (fun z=>last.toNat+1-z.1) (1,([],[])) ?_ ⟨by simp,by simp,by simp,by simp,DY,DW⟩ ?_
   ·exact(Wk.born 2 93 1 rfl rfl rfl).trans ((Wk.born 3 102 1 rfl rfl rfl).trans aw)
   rintro ⟨n,a,c⟩ ⟨G5,A1,ha,AW,DY,DW⟩;simp only at G5 A1 ha AW DY DW;conv=>whnf
   refine ag (fun h1=>?_) (fun h1=>?_)
   ·have h1:n<last.toNat+1:=by have:=of_decide_eq_true h1;simp only at this;omega
    obtain⟨k,fx⟩:∃ k,last.toNat+1-n=k+1:=⟨last.toNat-n,by omega⟩;have j8:last.toNat+1-(n+1)=k:=by omega
    rw[fx,List.range'_succ,List.map_cons,List.filter_cons]at DY DW;conv=>whnf
    have AZ:=gN n;have G3:=WU n
    cases dX:bD m1 n with
    | none=>
     unfold eW at AZ;rw[dX]at AZ;simp only[Option.getD_none]at AZ;refine⟨none,aQ (kd:=aD) aP dX 0,?_⟩;rw[if_pos (by simp;omega)]at DY;rw[if_neg (by simp;omega)]at DW;conv=>whnf
     refine ak rfl ?_;conv=>whnf
     refine ak (by simp[bx.len,eS]) ?_;conv=>whnf
     refine aM (decide_eq_true (by
      show((eS a).length+1)*8<=140737488355328;simp[eS];omega)) ?_
     conv=>whnf
     refine ao (((n+1:Nat):Int)) (by(try dsimp only);omega) (wrap_i64 (by(try dsimp only);omega)) ?_;conv=>whnf
     refine⟨(n+1,(a ++ [(n:Int)],c)),by simp only;omega,⟨by simp only;omega,by simp only;omega,by simp only[List.length_append,List.length_singleton];omega,by simp only;omega,by simp only;rw[j8,List.append_assoc];exact DY,by simp only;rw[j8];exact DW⟩,Wk.sub ⟨?_,rfl,rfl,rfl,rfl,rfl,trivial⟩ ⟨?_,rfl,trivial⟩⟩
     ·show some (V.sl 93 1 0 ((eS a).length+1))=_
      simp[eS]
     ·show some (Obj.arr 1 (.dd (eS a ++ [[i64 n]])))=_
      simp[eS]
    | some v1=>
     unfold eW at AZ;rw[dX]at AZ;simp only[Option.getD_some]at AZ;obtain⟨ix,_,qN,_⟩:=bf (kd:=aD) (vd:=aD) aP dX 0;refine⟨_,qN,?_⟩;conv=>whnf
     refine ag (fun h2=>?_) (fun h2=>?_)
     ·have h2:v1=0:=of_decide_eq_true h2
      rw[if_pos (by simp;omega)]at DY;rw[if_neg (by simp;omega)]at DW;conv=>whnf
      refine ak rfl ?_;conv=>whnf
      refine ak (by simp[bx.len,eS]) ?_;conv=>whnf
      refine aM (decide_eq_true (by
       show((eS a).length+1)*8<=140737488355328;simp[eS];omega)) ?_
      conv=>whnf
      refine ao (((n+1:Nat):Int)) (by(try dsimp only);omega) (wrap_i64 (by(try dsimp only);omega)) ?_;conv=>whnf
      refine⟨(n+1,(a ++ [(n:Int)],c)),by simp only;omega,⟨by simp only;omega,by simp only;omega,by simp only[List.length_append,List.length_singleton];omega,by simp only;omega,by simp only;rw[j8,List.append_assoc];exact DY,by simp only;rw[j8];exact DW⟩,Wk.sub ⟨?_,rfl,rfl,rfl,rfl,rfl,trivial⟩ ⟨?_,rfl,trivial⟩⟩
      ·show some (V.sl 93 1 0 ((eS a).length+1))=_
       simp[eS]
      ·show some (Obj.arr 1 (.dd (eS a ++ [[i64 n]])))=_
       simp[eS]
     ·have h2:¬ v1=0:=of_decide_eq_false h2
      conv=>whnf
      cases iK:bD m2 n with
      | none=>
       unfold eW at G3;rw[iK]at G3;simp only[Option.getD_none]at G3;refine⟨none,aQ (kd:=aD) aP iK 0,?_⟩;rw[if_neg (by simp;omega)]at DY;rw[if_neg (by simp;omega)]at DW;conv=>whnf
       refine ao (((n+1:Nat):Int)) (by(try dsimp only);omega) (wrap_i64 (by(try dsimp only);omega)) ?_;conv=>whnf
       exact⟨(n+1,(a,c)),by simp only;omega,⟨by simp only;omega,by simp only;omega,by simp only;omega,by simp only;omega,by simp only;rw[j8];exact DY,by simp only;rw[j8];exact DW⟩,aw⟩
      | some v2=>
       unfold eW at G3;rw[iK]at G3;simp only[Option.getD_some]at G3;obtain⟨iy,_,rU,_⟩:=bf (kd:=aD) (vd:=aD) aP iK 0;refine⟨_,rU,?_⟩;conv=>whnf
       refine ag (fun h3=>?_) (fun h3=>?_)
       ·have h3:1<v2:=of_decide_eq_true h3
        rw[if_neg (by simp;omega)]at DY;rw[if_pos (by simp;omega)]at DW;conv=>whnf
        refine ak rfl ?_;conv=>whnf
        refine ak (by simp[bx.len,eS]) ?_;conv=>whnf
        refine aM (decide_eq_true (by
         show((eS c).length+1)*8<=140737488355328;simp[eS];omega)) ?_
        conv=>whnf
        refine ao (((n+1:Nat):Int)) (by(try dsimp only);omega) (wrap_i64 (by(try dsimp only);omega)) ?_;conv=>whnf
        refine⟨(n+1,(a,c ++ [(n:Int)])),by simp only;omega,⟨by simp only;omega,by simp only;omega,by simp only;omega,by simp only[List.length_append,List.length_singleton];omega,by simp only;rw[j8];exact DY,by simp only;rw[j8,List.append_assoc];exact DW⟩,Wk.sub ⟨rfl,?_,rfl,rfl,rfl,rfl,trivial⟩ ⟨rfl,?_,trivial⟩⟩
        ·show some (V.sl 102 1 0 ((eS c).length+1))=_
         simp[eS]
        ·show some (Obj.arr 1 (.dd (eS c ++ [[i64 n]])))=_
         simp[eS]
       ·have h3:¬ 1<v2:=of_decide_eq_false h3
        rw[if_neg (by simp;omega)]at DY;rw[if_neg (by simp;omega)]at DW;conv=>whnf
        refine ao (((n+1:Nat):Int)) (by(try dsimp only);omega) (wrap_i64 (by(try dsimp only);omega)) ?_;conv=>whnf
        exact⟨(n+1,(a,c)),by simp only;omega,⟨by simp only;omega,by simp only;omega,by simp only;omega,by simp only;omega,by simp only;rw[j8];exact DY,by simp only;rw[j8];exact DW⟩,aw⟩
   ·have h1:¬ n<last.toNat+1:=by have:=of_decide_eq_false h1;simp only at this;omega
    rw[show last.toNat+1-n=0 by omega]at DY DW;have DY:a=MS:=by simpa using DY
    have DW:c=CP:=by simpa using DW
    subst DY;subst DW;conv=>whnf
    refine aO 1 (ds:=[aV a,aV c,i64 0]) (aC (cH rfl (by simp[eS])) (aC (cH rfl (by simp[eS])) rfl)) ⟨⟨rfl,rfl⟩,rfl⟩
 ·rw[if_neg hc]
  refine af (lI l _ _ _ (kl l)) rfl rfl ?_;conv=>whnf
  generalize bC l=E at hc;refine ag (fun _=>?_) (fun h=>absurd hc (by simpa using h));conv=>whnf
  refine yp 0 rfl (d:=.tup [aV [],aV [],i64 E]) rfl ⟨⟨rfl,rfl⟩,rfl⟩
def dn(l:List Int):List (List D):=l.map fun n=>[i64 n]
def wX(p:List Int):List V×Heap:=([.sl 1000000 1 0 p.length],[(1000000,.arr 1 (.dd (dn p)))])
def TN(of:List Int):List V:=[.ptr 1000000 0,.ptr 1000001 0,.d (.ref [aV of]),.ptr 1000002 0]
def Hr(of:List Int)(start left:Nat):List V:=[.d (i64 start),.d (i64 left),.ptr 1000000 0,.ptr 1000001 0,.d (.ref [aV of]),.ptr 1000002 0]
def TO(of:List Int)(k n:Nat)(p:List Int):Heap:=
 [(1000000,.box (.vv [.yld])),(1000001,.box (.vv [.sl k 1 0 n])),(1000002,.box (.vv [.clo 172 (TN of)])),(k,.arr 1 (.dd (dn p)))]
def Ik(of:List Int)(left:Nat):Prop:=
 ∀ (start:Nat) (p:List Int),left<=of.length->p.length+left<=of.length->start<=of.length -> ∀ {σ:Type} (Y:Hd σ) (s0:σ) (rest:List (List V×Heap)) (Q:σ->Prop),
  iterate Y.np ((ll of left p start).map wX++rest) s0 Q->Lu Tryz.prog Y 172 (Hr of start left) (TO of 1000003 p.length p) s0 fun v h' s'=>
   ∃ q,h'=TO of 2000000 q.length q/\((v = .d (.bool true)/\q=p/\iterate Y.np rest s' Q)\/(v = .d (.bool false)/\Q s'))
theorem Hp{of:List Int}(D6:of.length<=1000):Ik of 0:=by
 intro start p hl hp ja σ Y s0 rest Q hit;refine ez mixed av Tryz.func172 rfl (ft:=IH) (args:=Hr of start 0) (show oQ IH Tryz.f172 6=true from by decide +kernel) ?_;generalize Y.np=Y at hit ⊢;have O9:ll of 0 p start = [p]:=rfl;rw[O9]at hit;conv=>whnf
 refine R1 [1000003] (args0:=(wX p).1) (h0:=(wX p).2) hit rfl ⟨_,_,rfl,rfl,rfl⟩ rfl rfl ?_;rintro v h1 s' ⟨rfl,hv⟩;rcases hv with⟨rfl,hi⟩|⟨rfl,hq⟩
 ·refine⟨rfl,?_⟩
  conv=>whnf
  refine aK [1000003] [.d (.bool true)] (TO of 2000000 p.length p) rfl ⟨rfl,rfl,rfl,rfl,trivial⟩ rfl ?_;exact⟨p,rfl,.inl ⟨rfl,rfl,hi⟩⟩
 ·refine⟨rfl,?_⟩
  conv=>whnf
  refine aK [1000003] [.d (.bool false)] (TO of 2000000 p.length p) rfl ⟨rfl,rfl,rfl,rfl,trivial⟩ rfl ?_;exact⟨p,rfl,.inr ⟨rfl,hq⟩⟩
theorem Ho{of:List Int}(D6:of.length<=1000){left:Nat}(ihl:Ik of left):Ik of (left+1):=by
 intro start p hl hp ja σ Y s0 rest Q hit;refine ez mixed av Tryz.func172 rfl (ft:=IH) (args:=Hr of start (left+1)) (show oQ IH Tryz.f172 6=true from by decide +kernel) ?_;generalize Y.np=Y at hit ⊢;have AW:(dn p).length=p.length:=by simp[dn]
 have O9:ll of (left+1) p start=(List.range' start (of.length-left-start)).flatMap fun(i:Nat)=>ll of left (p ++ [(of[i]?).getD 0]) (i+1):=rfl;rw[O9]at hit;conv=>whnf
 refine cD (T:=tys) av (by exact aj mixed av (by decide +kernel)) (α:=Nat×σ)
  (fun x=>⟨[(1,.d (i64 (left+1:Nat))),(2,.ptr 1000000 0),(3,.ptr 1000001 0),(4,.d (.ref [aV of])),(5,.ptr 1000002 0),(9,.d (i64 x.1))],TO of 900000 p.length p,x.2⟩)
  (fun x=>x.1<=of.length/\iterate Y (((List.range' x.1 (of.length-left-x.1)).flatMap fun(i:Nat)=>ll of left (p ++ [(of[i]?).getD 0]) (i+1)).map wX++rest) x.2 Q) (fun x=>of.length-x.1) (start,s0)
  ((Wk.move 1000003 900000 rfl rfl).trans aw) ⟨ja,hit⟩ ?_
 clear hit ja s0;rintro ⟨i,s0⟩ ⟨hi,hit⟩;simp only at hi hit;conv=>whnf
 refine ao ((of.length:Int)-(left+1:Nat)) (by simp) (wrap_i64 (by omega)) ?_;conv=>whnf
 refine ag (fun h1=>?_) (fun h1=>?_)
 ·have h1:i<=of.length-(left+1):=by have:=of_decide_eq_true h1;simp at this;omega
  have D3:i<of.length:=by omega
  obtain⟨m,D5⟩:∃ m,of.length-left-i=m+1:=⟨of.length-left-i-1,by omega⟩;have hoi:(of[i]?).getD 0=of[i]:=by rw[List.getElem?_eq_getElem D3];rfl
  rw[D5,List.range'_succ,List.flatMap_cons,List.map_append,List.append_assoc,hoi]at hit;conv=>whnf
  refine aU [i64 of[i]] ⟨by omega,by rw[Int.toNat_natCast,List.getElem?_map,List.getElem?_eq_getElem D3];rfl⟩ ?_;conv=>whnf
  refine ak rfl ?_;conv=>whnf
  refine NK.mk (by simp[bx.len,AW]) ?_;conv=>whnf
  refine aM (by simp[bx.len,bx.part,AW];omega) ?_;conv=>whnf
  refine ao (((i+1:Nat):Int)) (by(try dsimp only);omega) (wrap_i64 (by(try dsimp only);omega)) ?_;conv=>whnf
  refine ao (((left:Nat):Int)) (by(try dsimp only);omega) (wrap_i64 (by(try dsimp only);omega)) ?_;conv=>whnf
  have ih:=ihl (i+1) (p ++ [of[i]]) (by omega) (by simp;omega) (by omega) Y s0 _ Q hit.np;refine rK ih [1000000,1000001,1000002,30] rfl ⟨_,_,rfl,rfl,_,_,rfl,(by
    show some (Obj.box (Cells.vv [V.sl 30 1 0 ((((dn p).drop 0).take p.length).length+1)]))=some (Obj.box (Cells.vv [V.sl 30 1 0 (p ++ [of[i]]).length]));simp[dn]),_,_,rfl,rfl,_,_,rfl,(by
    show some (Obj.arr 1 (bx.dd ((((dn p).drop 0).take p.length) ++ [[i64 of[i]]])))=some (Obj.arr 1 (bx.dd (dn (p ++ [of[i]]))));simp[dn,List.take_of_length_le]),rfl⟩ rfl rfl ?_
  rintro v h1 s' ⟨q,rfl,qK⟩;rw[ko]at qK;rcases qK with⟨rfl,rfl,G3⟩|⟨rfl,hq⟩
  ·refine⟨rfl,?_⟩
   conv=>whnf
   refine ao (p.length:Int) (by simp) (wrap_i64 (by omega)) ?_;conv=>whnf
   refine aM (by simp;omega) ?_;conv=>whnf
   refine ao (((i+1:Nat):Int)) (by(try dsimp only);omega) (wrap_i64 (by(try dsimp only);omega)) ?_;conv=>whnf
   have Gx:of.length-left-(i+1)=m:=by omega
   refine⟨(i+1,s'),by simp only;omega,⟨by simp only;omega,by simp only;rw[Gx];exact G3⟩,(Wk.move 102304 900000 rfl rfl).trans ((Wk.shrink 900000 p.length rfl).trans ?_)⟩;have OB:(dn (p ++ [of[i]])).take p.length=dn p:=by simp[dn,List.take_left']
   refine Wk.sub ⟨rfl,rfl,rfl,rfl,rfl,rfl,trivial⟩ ⟨rfl,?_,?_,?_,trivial⟩
   ·rfl
   ·exact bS rfl ⟨⟨rfl,⟨rfl,rfl⟩,⟨rfl,rfl⟩,rfl,⟨rfl,rfl⟩,trivial⟩,trivial⟩
   ·show some (Obj.arr 1 (bx.dd ((dn (p ++ [of[i]])).take p.length)))=_
    rw[OB]
  ·refine⟨rfl,?_⟩
   conv=>whnf
   refine aK [102304] [.d (.bool false)] (TO of 2000000 q.length q) rfl ⟨rfl,bS rfl ⟨⟨rfl,rfl,rfl,rfl⟩,trivial⟩,bS rfl ⟨⟨rfl,⟨rfl,rfl⟩,⟨rfl,rfl⟩,rfl,⟨rfl,rfl⟩,trivial⟩,trivial⟩,rfl,trivial⟩ rfl ?_;exact⟨q,rfl,.inr ⟨rfl,hq⟩⟩
 ·have h1:¬ (i:Int)<=(of.length:Int)-((left+1:Nat):Int):=of_decide_eq_false h1
  rw[show of.length-left-i=0 by omega]at hit;conv=>whnf
  refine aK [900000] [.d (.bool true)] (TO of 2000000 p.length p) rfl ⟨rfl,bS rfl ⟨⟨rfl,rfl,rfl,rfl⟩,trivial⟩,bS rfl ⟨⟨rfl,⟨rfl,rfl⟩,⟨rfl,rfl⟩,rfl,⟨rfl,rfl⟩,trivial⟩,trivial⟩,rfl,trivial⟩ rfl ?_;exact⟨p,rfl,.inl ⟨rfl,rfl,hit⟩⟩
theorem XN{of:List Int}(D6:of.length<=1000)(left:Nat):Ik of left:=by
 induction left with
 | zero=>exact Hp D6
 | succ n ih=>exact Ho D6 ih
theorem abW(of:List Int):bq Tryz.prog 115 [aV of] (.clo 171 [.ref [aV of]]):=by
 refine aY Tryz.func115 rfl (ft:=Ve) 1 fun {σ} Y st=>?_;conv=>whnf
 exact aO 1 rfl ⟨⟨rfl,rfl⟩,rfl⟩
theorem Ld(of:List Int)(D6:of.length<=1000):Yields Tryz.prog 171 [.ref [aV of]] ((zG of).map wX):=by
 intro γ Y g0 Q hit;refine ez mixed av Tryz.func171 rfl (ft:=QY) (args:=[.yld,.d (.ref [aV of])]) (show oQ QY Tryz.f171 2=true from by decide +kernel) ?_;replace hit:=hit.np;generalize Y.np=Y at hit ⊢;conv=>whnf
 refine ao ((of.length+1:Nat):Int) (by simp) (wrap_i64 (by omega)) ?_;conv=>whnf
 refine cD (T:=tys) av (by exact aj mixed av (by decide +kernel)) (α:=Nat×γ)
  (fun x=>⟨[(1,.d (.ref [aV of])),(2,.ptr 2 0),(3,.ptr 3 0),(4,.ptr 4 0),(9,.d (i64 (of.length+1:Nat))),(10,.d (i64 x.1))],[(2,.box (.vv [.yld])),(3,.box (.vv [.sl 900000 1 0 0])),(4,.box (.vv [.clo 172 [.ptr 2 0,.ptr 3 0,.d (.ref [aV of]),.ptr 4 0]])),(900000,.arr 1 (.dd []))],x.2⟩)
  (fun x=>x.1<=of.length+1/\iterate Y (((List.range' x.1 (of.length+1-x.1)).flatMap fun(n:Nat)=>ll of n [] 0).map wX) x.2 Q) (fun x=>of.length+1-x.1) (0,g0)
  ((Wk.CL 3 900000 1 rfl rfl rfl rfl).trans aw) ⟨Nat.zero_le _,hit⟩ ?_
 clear hit g0;rintro ⟨n,g0⟩ ⟨hn,hit⟩;simp only at hn hit;conv=>whnf
 refine ag (fun h1=>?_) (fun h1=>?_)
 ·have h1:n<of.length+1:=by have:=of_decide_eq_true h1;simp only at this;omega
  obtain⟨m,D5⟩:∃ m,of.length+1-n=m+1:=⟨of.length-n,by omega⟩;rw[D5,List.range'_succ,List.flatMap_cons,List.map_append]at hit;conv=>whnf
  refine rK (XN D6 n 0 [] (by omega) (by simp;omega) (by omega) Y g0 _ Q hit.np) [2,3,4,900000] rfl ⟨_,_,rfl,rfl,_,_,rfl,rfl,_,_,rfl,rfl,_,_,rfl,rfl,rfl⟩ rfl rfl ?_;rintro v h1 s' ⟨q,rfl,qK⟩;rw[ko]at qK;rcases qK with⟨rfl,rfl,G3⟩|⟨rfl,hq⟩
  ·refine⟨rfl,?_⟩
   conv=>whnf
   refine ao (((n+1:Nat):Int)) (by(try dsimp only);omega) (wrap_i64 (by(try dsimp only);omega)) ?_;conv=>whnf
   have Gx:of.length+1-(n+1)=m:=by omega
   exact⟨(n+1,s'),by simp only;omega,⟨by simp only;omega,by simp only;rw[Gx];exact G3⟩,(Wk.move 100960 900000 rfl rfl).trans aw⟩
  ·refine⟨rfl,?_⟩
   conv=>whnf
   exact aO 0 rfl ⟨rfl,hq⟩
 ·have h1:¬ n<of.length+1:=by have:=of_decide_eq_false h1;simp only at this;omega
  rw[show of.length+1-n=0 by omega]at hit;conv=>whnf
  exact aO 0 rfl ⟨rfl,hit⟩
end Go.PX
