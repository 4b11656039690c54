import Derived.Test.YtmbefpmbnhdbpaaGreatDoorPxP
import Derived.Tactics
import Derived.Tactics2
import Derived.Recover
import Derived.Test.YtmbefpmbnhdbpaaGreatDoorPxO
import Derived.Test.YtmbefpmbnhdbpaaGreatDoorPxN
set_option linter.all false
set_option maxRecDepth 10000
namespace Go.PX
open Go.Proofs
open Go.RowKit
theorem Ff(near:Int):Bn Tryz.prog 118 (.panicking [{ v:=oI,recovered:=false }]) (.panicking [{ v:=oI,recovered:=true }]) [(1000000,.box (.dd [i64 near,.nils])),(1000001,.box (.dd [i64 0]))] [(1000000,.box (.dd [i64 0,.nils])),(1000001,.box (.dd [i64 6]))]:=by
 intro σ cx hl L F s w hh;refine callsDIn_of_wpSIn Tryz.func118 rfl trivial fun c₀ cs hu=>?_;apply wpSIn_seq;apply wpSIn_region;simp[wpOpsSIn,go_sem,recoverD,hu,Exit.thenS];refine wpSIn_of_wpIn rfl ?_;refine xz ak (ft:=K0) hl hh (n:=9) rfl (v:=oI) (d:=.ifc 34 (i64 6)) ⟨_,rfl,rfl⟩ trivial (by simp) rfl (by rfl) (by rfl) (by rfl) (by decide +kernel) (by exact(an mixed ak (by decide +kernel))) rfl (h':=[(1000000,.box (.dd [i64 0,.nils])),(1000001,.box (.dd [i64 6]))]) ?_ ?_
 ·intro a' w' L' F' Q4 mc tr jy
  refine⟨Q4,.panicking [{ v:=oI,recovered:=true }],rfl,.tuple #[],MI _ _,⟨⟨_,rfl⟩,rfl,L',F',mc,tr,jy⟩⟩
 ·conv=>whnf
  exact⟨jh ⟨rfl,rfl,trivial⟩,rfl⟩
def mB:Nat->aM->List UInt8->Option aM
 | 0,c,_=>some c
 | n+1,c,l=>if l = [] then some c else
  if (eX 10 l).2.2 then
   match kO c (gk 32 ⟨(eX 10 l).1.toArray⟩) with
   | some c'=>mB n c' (eX 10 l).2.1
   | none=>none
  else none
def I7:aM:=⟨0,[]⟩
def Fk(l:List UInt8):Option (Int×List UInt8):=
 if (eX 10 l).2.2 then
  if (zD ⟨(eX 10 l).1.toArray⟩ AV).2 then (dY (zD ⟨(eX 10 l).1.toArray⟩ AV).1).map fun n=>(n,(eX 10 l).2.1) else none
 else none
def readAll(l:List UInt8):Option aM:=match Fk l with
 | none=>none
 | some x=>mB x.2.length ⟨x.1,[]⟩ x.2
def vK(s:ByteArray):aM×Int:=
 if 1500<s.size then (I7,3) else
 match readAll s.data.toList with
 | some c=>if bB c=0/\wj c=s then (c,0) else (I7,6)
 | none=>(I7,6)
theorem pE(c:UInt8):∀ l:List UInt8,(eX c l).1.length+(eX c l).2.1.length<=l.length/\(l ≠ []->(eX c l).2.1.length<l.length)
 | []=>by simp[eX]
 | x::r=>by
  have ih:=pE c r;rw[eX];split
  ·simp
  ·simp only[List.length_cons]
   refine⟨by omega,fun _=>?_⟩;omega
theorem yY:∀ (n m:Nat) (c:aM) (l:List UInt8),l.length<=n->l.length<=m->mB n c l=mB m c l
 | 0,0,_,_,_,_=>rfl
 | 0,m+1,c,l,hn,_=>by
  have:l = []:=List.length_eq_zero_iff.1 (by omega);rw[mB,mB,if_pos this]
 | n+1,0,c,l,_,hm=>by
  have:l = []:=List.length_eq_zero_iff.1 (by omega);rw[mB,mB,if_pos this]
 | n+1,m+1,c,l,hn,hm=>by
  rw[mB,mB];by_cases h:l = []
  ·rw[if_pos h,if_pos h]
  ·rw[if_neg h,if_neg h]
   have:=(pE 10 l).2 h;split
   ·cases kO c (gk 32 ⟨(eX 10 l).1.toArray⟩) with
    | none=>rfl
    | some c'=>exact yY n m c' _ (by omega) (by omega)
   ·rfl
def A3(c:aM)(l:List UInt8):Option aM:=mB l.length c l
theorem ME(c:aM)(l:List UInt8):A3 c l=if l = [] then some c else
  if (eX 10 l).2.2 then
   match kO c (gk 32 ⟨(eX 10 l).1.toArray⟩) with
   | some c'=>A3 c' (eX 10 l).2.1
   | none=>none
  else none:=by
 unfold A3;by_cases h:l = []
 ·subst h;rfl
 ·obtain⟨x,r,rfl⟩:=List.exists_cons_of_ne_nil h
  rw[if_neg h];have hl:=(pE 10 (x::r)).2 h;show mB (r.length+1) c (x::r)=_;rw[mB,if_neg h];split
  ·cases kO c (gk 32 ⟨(eX 10 (x::r)).1.toArray⟩) with
   | none=>rfl
   | some c'=>exact yY _ _ c' _ (by simp at hl;omega) (Nat.le_refl _)
  ·rfl
def pK(e:Int):D:=.tup [.agg [i64 0,.nils],i64 e]
theorem Qk(l:List UInt8)(c:UInt8)(hs:l.length<=1000000000):bq Tryz.prog 119 [.str ⟨l.toArray⟩,.str ⟨#[c]⟩] (.tup [.str ⟨(eX c l).1.toArray⟩,.str ⟨(eX c l).2.1.toArray⟩,.bool (eX c l).2.2]):=by
 have h:=@aay ⟨l.toArray⟩ c (by show l.toArray.size<=_;simpa using hs);have e:(⟨l.toArray⟩:ByteArray).data.toList=l:=rfl;rw[e]at h;exact fun {σ}=>h
theorem om{σ:Type}{st:σ}{en:Env}{h:Heap}{near:Int}{i n:Nat}(h2:get en 2=some (.ptr 1000000 0))(h3:get en 3=some (.ptr 1000001 0))(hh:qJ h [(1000000,.box (.vv [.d (i64 near),.sl i 6 0 n])),(1000001,.box (.dd [i64 0]))]) :
  Ih Tryz.prog tys Tryz.f51 118 2 3 (pK 6) st (.panicking [{ v:=oI,recovered:=false }]) en h st:=by
 refine⟨h2,h3,.panicking [{ v:=oI,recovered:=true }],_,rfl,Bn.sub (h0:=[(1000000,.box (.vv [.d (i64 near),.sl i 6 0 n])),(1000001,.box (.dd [i64 0]))]) (fun {σ}=>It near i n) hh,?_⟩;conv=>whnf
 exact ab 1 rfl ⟨rfl,rfl,rfl⟩
theorem BF{σ:Type}{st:σ}{en:Env}{h:Heap}{near:Int}(h2:get en 2=some (.ptr 1000000 0))(h3:get en 3=some (.ptr 1000001 0))(hh:qJ h [(1000000,.box (.dd [i64 near,.nils])),(1000001,.box (.dd [i64 0]))]) :
  Ih Tryz.prog tys Tryz.f51 118 2 3 (pK 6) st (.panicking [{ v:=oI,recovered:=false }]) en h st:=by
 refine⟨h2,h3,.panicking [{ v:=oI,recovered:=true }],_,rfl,Bn.sub (h0:=[(1000000,.box (.dd [i64 near,.nils])),(1000001,.box (.dd [i64 0]))]) (fun {σ}=>Ff near) hh,?_⟩;conv=>whnf
 exact ab 1 rfl ⟨rfl,rfl,rfl⟩
def rdH(near:Int)(o:Option (List au×au)):Heap:=match o with
 | none=>[(1000000,.box (.vv [.d (i64 near),.sl 900001 6 0 0])),(900001,.arr 6 (.dd []))]
 | some x=>tw 1000000 900001 900002 near x.1 x.2
def uc(near:Int)(o:Option (List au×au)):aM:=match o with
 | none=>⟨near,[]⟩
 | some x=>⟨near,x.1 ++ [x.2]⟩
def tU(bs:List au):Nat:=(bs.map fun b=>1+b.ar.length).sum
theorem zf(c:UInt8):∀ l:List UInt8,(gm c l).length<=l.length+1
 | []=>by simp[gm]
 | x::r=>by
  have ih:=zf c r;rw[gm];split
  ·simpa using ih
  ·have:(yg x (gm c r)).length<=max 1 (gm c r).length:=by cases gm c r<;>simp[yg]
   simp only[List.length_cons];omega
theorem zg(c:UInt8):∀ (l:List UInt8),∀ x∈gm c l,x.length<=l.length
 | [],x,hx=>by simp[gm]at hx;subst hx;simp
 | y::r,x,hx=>by
  have ih:=zg c r;rw[gm]at hx;split at hx
  ·rcases List.mem_cons.1 hx with rfl|hx
   ·simp
   ·have:=ih x hx;simp only[List.length_cons];omega
  ·cases hs:gm c r with
   | nil=>rw[hs]at hx;simp[yg]at hx;subst hx;simp
   | cons a t=>
    rw[hs]at hx ih;rcases List.mem_cons.1 hx with rfl|hx
    ·have:=ih a (by simp);simp only[List.length_cons];omega
    ·have:=ih x (by simp[hx]);simp only[List.length_cons];omega
theorem En(c:UInt8)(s:ByteArray):(gk c s).length<=s.size+1:=by
 have:=zf c s.data.toList;simp only[gk,List.length_map];simpa using this
theorem Eo(c:UInt8)(s:ByteArray):∀ x∈gk c s,x.size<=s.size:=by
 intro x hx;obtain⟨y,hy,rfl⟩:=List.mem_map.1 hx;have:=zg c s.data.toList y hy;show y.length<=s.size;simpa using this
theorem Gn(c:UInt8)(s:ByteArray):gk c s ≠ []:=by
 unfold gk;intro h;exact JH c _ (List.map_eq_nil_iff.1 h)
theorem Iu(s p:ByteArray):(zD s p).1.size<=s.size:=by
 unfold zD;split
 ·simp
 ·exact Nat.le_refl _
theorem xo{r:List ByteArray}{b:au}(h:iZ r=some b):∃ n o s,b=⟨n,o,s,[]⟩:=by
 unfold iZ at h;split at h
 ·rename_i n a b' c d
  cases h2:four a b' c d with
  | none=>rw[h2]at h;cases h
  | some x=>rw[h2]at h;cases h;exact⟨_,_,_,rfl⟩
 ·cases h
theorem nP(init:List au)(last:au):tU (init ++ [last])=tU init+1+last.ar.length/\init.length<=tU init:=by
 have h1:tU (init ++ [last])=tU init+(1+last.ar.length):=by unfold tU;rw[List.map_append,List.sum_append];simp
 refine⟨by omega,?_⟩;clear h1
 induction init with
 | nil=>exact Nat.zero_le _
 | cons b r ih=>
  have:tU (b::r)=(1+b.ar.length)+tU r:=by unfold tU;rw[List.map_cons,List.sum_cons]
  rw[List.length_cons];omega
theorem AQ(b i j:Nat)(near:Int)(init:List au)(last:au):cX (tw b i j near init last) = [b,i,i,j,j]:=by
 show b::([i]++(i::(bJ (List.flatten (aG (init.map au.cells) ++ [inj (ow last) ++ [V.sl j 4 0 last.ar.length]])) ++ [j])))=_;rw[dq];rfl
theorem yC(near:Int)(init:List au)(last:au):gG [1000000,900001,900002] (some 51) (.d (.tup [])) (tw 1000000 1000001 1000002 near init last)=true:=by
 unfold gG;rw[AQ];rfl
theorem FW(near:Int)(init:List au)(last:au):gG [1000000,900001,900002] (some 51) (.d (.tup [])) (tw 1000000 1000001 2000000 near init last)=true:=by
 unfold gG;rw[AQ];rfl
theorem JN{h:Heap}{k id sz n:Nat}{vs:List (List V)}{es:List (List D)}(hg:get h id=some (.arr sz (.vv vs)))(hv:gn (ek h k) vs=some es)(hn:n=es.length):dA (ek h (k+1)) (.sl id sz 0 n)=some (.vs es):=by
 have h1:Nat.beq sz sz=true:=Nat.beq_refl sz;have h2:Nat.ble (0+es.length) es.length=true:=Nat.ble_eq_true_of_le (by omega);subst hn;simp only[dA,ek,hg,hv,h1,h2];simp
theorem Bh{h:Heap}{near:Int}{n:Nat}{l:List au}(hs:dA (ek h 2) (.sl 900001 6 0 n)=some (bF l)):cI (ek h 2) [.agg [.d (i64 near),.sl 900001 6 0 n]]=some [(⟨near,l⟩:aM).d]:=by
 have:cI (ek h 2) [.d (i64 near),.sl 900001 6 0 n]=some [i64 near,bF l]:=az rfl (az hs rfl);refine az ?_ rfl;rw[dA,this];rfl
theorem Bi{h:Heap}{v:V}{d e:D}(hv:cI (ek h 2) [v]=some [d]):cI (ek h 2) [v,.d e]=some [d,e]:=by
 rw[cI]at hv;rw[cI]
 cases hx:dA (ek h 2) v with
 | none=>rw[hx]at hv;cases hv
 | some d=>rw[hx]at hv;cases hv;rfl
theorem GJ{h:Heap}(near:Int)(h1:get h 900001=some (.arr 6 (.dd []))):cI (ek h 2) [.agg [.d (i64 near),.sl 900001 6 0 0]]=some [(uc near none).d]:=
 Bh (l:=[]) (bH h1 (by simp))
theorem GK{h:Heap}(near:Int)(init:List au)(last:au)(h1:get h 900001=some (.arr 6 (.vv (aG (init.map au.cells) ++ [inj (ow last) ++ [.sl 900002 4 0 last.ar.length]]))))(h2:get h 900002=some (.arr 4 (.dd (last.ar.map aW.cells)))) :
  cI (ek h 2) [.agg [.d (i64 near),.sl 900001 6 0 (init.length+1)]]=some [(uc near (some (init,last))).d]:=by
 have e1:dA (ek h 1) (.sl 900002 4 0 last.ar.length)=some (kJ last.ar):=bH h2 (by simp);have e2:gn (ek h 1) (aG (init.map au.cells) ++ [inj (ow last) ++ [.sl 900002 4 0 last.ar.length]])=some (init.map au.cells ++ [last.cells]):=dK (dL (ln (a:=ow last) (az e1 rfl))) _;have e3:init.map au.cells ++ [last.cells]=(init ++ [last]).map au.cells:=by simp
 rw[e3]at e2;exact Bh (l:=init ++ [last]) (JN h1 e2 (by simp))
set_option maxHeartbeats 4000000 in
theorem Qi(s:ByteArray)(r:D)(h3:1500<s.size->r=pK 3)(h6:s.size<=1500->readAll s.data.toList=none->r=pK 6)
  (h7:s.size<=1500 -> ∀ c,readAll s.data.toList=some c->((bB c=0/\wj c=s)->r = .tup [c.d,i64 0])/\(¬ (bB c=0/\wj c=s)->r=pK 6)):bq Tryz.prog 51 [.str s] r:=by
 refine IF (ds:=[.str s]) (ft:=Uh) (g:=118) mixed ak 2 3 19 (lc:=[i64 0,.nils]) (le:=[i64 0]) Tryz.func51 rfl (show nS Uh Tryz.f51 1=true from by decide +kernel) (by decide) (by decide) (by decide) rfl rfl rfl ?_ ?_ fun {σ} Y st=>?_
 ·intro a w p q Q hp hq hs h
  have hmf:∀ (fn:Fn) (first cap:Array Value) (w:World),(Instr.makeFunc fn first cap).run Tryz.prog w = .ok (.func fn first cap) w:=fun _ _ _ _=>rfl;apply wpIn_region;have e2:a.tmps.getD 2 undef=p:=by rw[Array.getD_eq_getD_getElem?,hp];rfl
  have e3:a.tmps.getD 3 undef=q:=by rw[Array.getD_eq_getD_getElem?,hq];rfl
  have dc:19<a.tmps.size:=by rw[hs];decide
  simp[wpOpsIn,wpOpIn,go_sem,hmf,e2,e3,dc,Oper.uponIn,Result.andThen];simpa using h
 ·intro p q w
  rfl
 conv=>whnf
 refine af (fun hb=>?_) (fun hb=>?_)
 ·have h0:=h3 (by have:=of_decide_eq_true hb;omega)
  subst h0;conv=>whnf
  refine⟨rfl,?_⟩;conv=>whnf
  exact ab 0 rfl ⟨⟨rfl,rfl⟩,rfl⟩
 refine⟨?_,?_⟩
 ·exact Wk.sub ⟨rfl,rfl,rfl,trivial⟩ ⟨rfl,rfl,trivial⟩
 have Z6:s.size<=1500:=by have:=of_decide_eq_false hb;omega
 have h6:=h6 Z6;have h7:=h7 Z6;have SM:s=⟨s.data.toList.toArray⟩:=by cases s;simp
 have zz:s.data.toList.length<=1500:=by simpa using Z6
 generalize JX:s.data.toList=l0 at h6 h7 SM zz;conv=>whnf
 rw[SM];refine ai (ds:=[.str ⟨l0.toArray⟩,.str ⟨#[10]⟩]) (Qk l0 10 (by omega)) rfl rfl ?_;conv=>whnf
 refine ai (ds:=[.str ⟨(eX 10 l0).1.toArray⟩,.str AV]) (aaz ⟨(eX 10 l0).1.toArray⟩ AV) rfl rfl ?_;have Hy:=(pE 10 l0).1
 have EY:readAll l0=match Fk l0 with
  | none=>none
  | some x=>mB x.2.length ⟨x.1,[]⟩ x.2:=rfl
 have Hs:=Iu ⟨(eX 10 l0).1.toArray⟩ AV;have hhs:(⟨(eX 10 l0).1.toArray⟩:ByteArray).size<=1500:=by show(eX 10 l0).1.toArray.size<=_;rw[List.size_toArray];omega
 unfold Fk at EY;generalize zD ⟨(eX 10 l0).1.toArray⟩ AV=CP at EY Hs ⊢;generalize (⟨(eX 10 l0).1.toArray⟩:ByteArray)=HD at hhs Hs;generalize eX 10 l0=C1 at EY Hy ⊢;obtain⟨c1,rest,is⟩:=C1;obtain⟨nm,is2⟩:=CP;simp only at EY Hy Hs
 cases is with
 | false=>
  simp only[Bool.false_eq_true,if_false]at EY;have h0:=h6 EY;subst h0;conv=>whnf
  refine e9 rfl (fun h=>by cases h) (fun _=>?_);conv=>whnf
  exact BF rfl rfl ⟨rfl,rfl,trivial⟩
 | true=>
 simp only[if_true]at EY
 cases is2 with
 | false=>
  simp only[Bool.false_eq_true,if_false]at EY;have h0:=h6 EY;subst h0;conv=>whnf
  refine e9 rfl (fun h=>by cases h) (fun _=>?_);conv=>whnf
  exact BF rfl rfl ⟨rfl,rfl,trivial⟩
 | true=>
 simp only[if_true]at EY;conv=>whnf
 refine e9 rfl (fun _=>?_) (fun h=>by cases h);conv=>whnf
 refine oZ (x:=nm) (by omega) (fun near B0=>?_) (fun B0=>?_) rfl (by intro k;rfl);case refine_2=>
  rw[B0]at EY;have h0:=h6 EY;subst h0;conv=>whnf
  exact BF rfl rfl ⟨rfl,rfl,trivial⟩
 rw[B0]at EY;have EY:readAll l0=A3 ⟨near,[]⟩ rest:=EY;conv=>whnf
 refine dh (T:=tys) ak (by exact an mixed ak (by decide +kernel)) (fun x:Option (List au×au)×List UInt8=>⟨[(0,.d (.str ⟨l0.toArray⟩)),(2,.ptr 1000000 0),(3,.ptr 1000001 0),(5,.d (.str ⟨x.2.toArray⟩))],(1000001,.box (.dd [i64 0]))::rdH near x.1,st⟩) (fun x=>readAll l0=A3 (uc near x.1) x.2/\tU (uc near x.1).aj+x.2.length<=1500) (fun x=>x.2.length) (none,rest) ?_ ⟨EY,?_⟩ ?_
 ·exact(Wk.sL 1000000 900001 6 [i64 near] [] rfl rfl rfl rfl rfl).trans (Wk.sub ⟨rfl,rfl,rfl,rfl,trivial⟩ ⟨rfl,rfl,rfl,trivial⟩)
 ·show 0+rest.length<=1500
  omega
 rintro ⟨o,l⟩ ⟨hl,hlen⟩;simp only at hlen;have hl:readAll l0=A3 (uc near o) l:=hl;conv=>whnf
 refine af (fun hb=>?_) (fun hb=>?_)
 ·have eW:l ≠ []:=by rintro rfl;simp at hb
  have rR:=pE 10 l;rw[ME _ l,if_neg eW]at hl;conv=>whnf
  refine ai (Qk l 10 (by omega)) rfl rfl ?_;conv=>whnf
  refine e9 rfl (fun ht=>?_) (fun ht=>?_)
  ·rw[ht,if_pos rfl]at hl
   have DH:(⟨(eX 10 l).1.toArray⟩:ByteArray).size<=1500:=by show(eX 10 l).1.toArray.size<=_;rw[List.size_toArray];omega
   have LM:=En 32 ⟨(eX 10 l).1.toArray⟩;have SR:=Eo 32 ⟨(eX 10 l).1.toArray⟩;have SS:gk 32 ⟨(eX 10 l).1.toArray⟩ ≠ []:=Gn _ _;have NY:=rR.2 eW;conv=>whnf
   refine ai (ds:=[.str ⟨(eX 10 l).1.toArray⟩,.str ⟨#[32]⟩]) (aaB ⟨(eX 10 l).1.toArray⟩ 32 (by omega)) rfl rfl ?_;generalize gk 32 ⟨(eX 10 l).1.toArray⟩=w at hl LM SR SS ⊢;generalize (⟨(eX 10 l).1.toArray⟩:ByteArray)=HD at DH LM SR;generalize (eX 10 l).2.1=l2 at hl rR NY ⊢;conv=>whnf
   cases o with
   | none=>
    refine sB (Wg near w SS (fun x hx=>by have:=SR x hx;omega) (by omega) _ _) [1000000,900001] rfl ⟨_,_,rfl,rfl,_,_,rfl,rfl,rfl⟩ rfl rfl ?_ ?_
    ·rintro v h1 s' ⟨⟨h,q,b,hw,jn,Nh,rfl,rfl⟩,rfl⟩
     refine⟨rfl,?_⟩;have wg:kO (uc near none) w=some ⟨near,[b]⟩:=by show kO ⟨near,[]⟩ w=_;rw[hw,df,if_pos jn,Nh];rfl
     rw[wg]at hl;obtain⟨bn,bo,bs,rfl⟩:=xo Nh;conv=>whnf
     exact⟨(some ([],⟨bn,bo,bs,[]⟩),l2),NY,⟨hl,by have h0:0+l.length<=1500:=hlen;show 1+0+0+l2.length<=1500;omega⟩,(Wk.G6 103264 900002 6 4 [] (ow ⟨bn,bo,bs,[]⟩) rfl rfl rfl rfl).trans ((Wk.move 103264 900001 rfl rfl).trans (Wk.sub ⟨rfl,rfl,rfl,rfl,trivial⟩ ⟨rfl,rfl,rfl,rfl,trivial⟩))⟩
    ·rintro pv h1 s' ⟨⟨mX,rfl,rfl⟩,rfl⟩
     refine⟨rfl,?_⟩;rw[show kO (uc near none) w=none from mX]at hl;have h0:=h6 hl;subst h0;conv=>whnf
     exact om (i:=900001) (n:=0) (near:=near) rfl rfl ⟨rfl,rfl,trivial⟩
   | some x=>
    obtain⟨init,last⟩:=x;have RO:tU (init ++ [last])+l.length<=1500:=hlen;have LJ:=nP init last;by_cases NW:∃ s x n,w = [eR,s,x,n]/\dY s≠none/\dY n=none
    ·obtain⟨ws,wx,wn,rfl,pa,mn⟩:=NW
     obtain⟨t,RL⟩:∃ t,dY ws=some t:=by
      cases h:dY ws with
      | none=>exact absurd h pa
      | some t=>exact⟨t,rfl⟩
     have wg:kO (uc near (some (init,last))) [eR,ws,wx,wn]=none:=by
      rw[df,if_neg (by decide),if_neg (by simp[uc])];unfold qP;simp only[RL,if_neg (show ¬ eR=o4 by decide),if_neg (show ¬ eR=wq by decide),if_pos,mn];rfl
     refine sB (Sl near init last ws wx wn t (by omega) (by have:=SR ws (by simp);omega) (by have:=SR wn (by simp);omega) RL mn _ _) [1000000,900001,900002] rfl ⟨_,_,rfl,rfl,_,_,rfl,(congrArg some (da (eU [1000000,900001,900002] 51) (init.map au.cells) last 1000002 last.ar.length)).symm,_,_,rfl,rfl,rfl⟩ rfl rfl ?_ ?_
     ·rintro v h1 s' ⟨hF,_⟩
      exact absurd hF id
     ·rintro pv h1 s' ⟨⟨rfl,rfl⟩,rfl⟩
      refine⟨yC _ _ _,?_⟩;rw[wg]at hl;have h0:=h6 hl;subst h0;conv=>whnf
      exact om (i:=900001) (n:=init.length+1) (near:=near) rfl rfl ⟨rfl,rfl,trivial⟩
    ·refine sB (Wh near init last w SS (fun x hx=>by have:=SR x hx;omega) (by omega) (by omega) (by omega) (fun s x n hw h1 h2=>NW ⟨s,x,n,hw,h1,h2⟩) _ _) [1000000,900001,900002] rfl ⟨_,_,rfl,rfl,_,_,rfl,(congrArg some (da (eU [1000000,900001,900002] 51) (init.map au.cells) last 1000002 last.ar.length)).symm,_,_,rfl,rfl,rfl⟩ rfl rfl ?_ ?_
     ·rintro v h1 s' ⟨⟨rfl,h,q,hw,hp⟩,rfl⟩
      rcases hp with⟨jn,b,Nh,rfl⟩|⟨jn,e,hE,rfl⟩
      ·refine⟨rfl,?_⟩
       have wg:kO (uc near (some (init,last))) w=some ⟨near,(init ++ [last]) ++ [b]⟩:=by rw[hw,df,if_pos jn,Nh];rfl
       rw[wg]at hl;obtain⟨bn,bo,bs,rfl⟩:=xo Nh;conv=>whnf
       refine⟨(some (init ++ [last],⟨bn,bo,bs,[]⟩),l2),NY,⟨hl,?_⟩,(Wk.G6 103264 900002 6 4 ((init ++ [last]).map au.cells) (ow ⟨bn,bo,bs,[]⟩) rfl rfl rfl rfl).trans ((Wk.move 103264 900001 rfl rfl).trans (Wk.sub ⟨rfl,rfl,rfl,rfl,trivial⟩ ⟨rfl,rfl,(by first|(show some (Obj.arr 6 (.vv (aU _ (aU _ (aU _ (aG _++_))))))=_;rw[aE,aE,aE];rfl)|(show some (Obj.arr 6 (.vv (aU _ (aU _ (aG _++_)))))=_;rw[aE,aE];rfl)|(show some (Obj.arr 6 (.vv (aU _ (aG _++_))))=_;rw[aE];rfl)|rfl),rfl,trivial⟩))⟩;have:=nP (init ++ [last]) ⟨bn,bo,bs,[]⟩;show tU ((init ++ [last]) ++ [⟨bn,bo,bs,[]⟩])+l2.length<=1500;simp at this;simp at hlen RO ⊢;omega
      ·refine⟨FW _ _ _,?_⟩
       have wg:kO (uc near (some (init,last))) w=some ⟨near,init ++ [{ last with ar:=last.ar ++ [e] }]⟩:=by
        rw[hw,df,if_neg jn,if_neg (by simp[uc]),hE];show some (⟨near,E5 e (init ++ [last])⟩:aM)=_;rw[z7]
       rw[wg]at hl;conv=>whnf
       refine⟨(some (init,{ last with ar:=last.ar ++ [e] }),l2),NY,⟨hl,?_⟩,(Wk.move 103264 900002 rfl rfl).trans (Wk.sub ⟨rfl,rfl,rfl,rfl,trivial⟩ ⟨rfl,rfl,(by first|(show some (Obj.arr 6 (.vv (aU _ (aU _ (aU _ (aG _++_))))))=_;rw[aE,aE,aE];rfl)|(show some (Obj.arr 6 (.vv (aU _ (aU _ (aG _++_)))))=_;rw[aE,aE];rfl)|(show some (Obj.arr 6 (.vv (aU _ (aG _++_))))=_;rw[aE];rfl)|rfl),rfl,trivial⟩)⟩;have h5:=nP init { last with ar:=last.ar ++ [e] };have h6:=nP init last;show tU (init ++ [{ last with ar:=last.ar ++ [e] }])+l2.length<=1500;simp at h5 h6 hlen RO ⊢;omega
     ·rintro pv h1 s' ⟨⟨mX,rfl,rfl⟩,rfl⟩
      refine⟨yC _ _ _,?_⟩;rw[show kO (uc near (some (init,last))) w=none from mX]at hl;have h0:=h6 hl;subst h0;conv=>whnf
      exact om (i:=900001) (n:=init.length+1) (near:=near) rfl rfl ⟨rfl,rfl,trivial⟩
  ·rw[ht,if_neg (by simp)]at hl
   have h0:=h6 hl;subst h0
   cases o with
   | none=>
    conv=>whnf
    exact om (i:=900001) (n:=0) (near:=near) rfl rfl ⟨rfl,rfl,trivial⟩
   | some x=>
    obtain⟨init,last⟩:=x;conv=>whnf
    exact om (i:=900001) (n:=init.length+1) (near:=near) rfl rfl ⟨rfl,rfl,trivial⟩
 ·have hle:l = []:=by
   by_cases h:l = []
   ·exact h
   ·exact absurd hb (by simp[h])
  subst hle;have hl:readAll l0=some (uc near o):=hl;obtain⟨h7a,WU⟩:=h7 _ hl
  cases o with
  | none=>
   have Lt:(uc near none).aj.length<=1500:=by show 0<=1500;omega
   conv=>whnf
   obtain⟨cp,cq,ce,Q2⟩:∃ p q e,fK (uc near none)=(p,q,e):=⟨_,_,_,rfl⟩;have Dy:bB (uc near none)=ce:=by show(fK _).2.2=ce;rw[Q2]
   refine aB (kN (uc near none) _ _ _ Q2) rfl 2 (GJ near rfl) ?_;conv=>whnf
   refine af (fun pa=>?_) (fun pa=>?_)
   ·have hk:bB (uc near none)=0:=by rw[Dy];simpa using pa
    conv=>whnf
    refine aB (Sb (uc near none) (fk hk) (xw hk)) rfl 2 (GJ near rfl) ?_;conv=>whnf
    refine e9 rfl (fun ht=>?_) (fun ht=>?_)
    ·rw[<- SM]at ht
     have h0:=h7a ⟨hk,of_decide_eq_true ht⟩;subst h0;conv=>whnf
     refine⟨.inr rfl,rfl,rfl,.returning,_,rfl,fun {σ}=>xx _,?_⟩;conv=>whnf
     exact ab 2 (Bi (GJ near rfl)) ⟨rfl,rfl,rfl⟩
    ·rw[<- SM]at ht
     have h0:=WU fun h=>absurd ht (by rw[decide_eq_true h.2];simp);subst h0;conv=>whnf
     exact om (i:=900001) (n:=0) (near:=near) rfl rfl ⟨rfl,rfl,trivial⟩
   ·have hk:bB (uc near none)≠0:=by rw[Dy];simpa using pa
    have h0:=WU fun h=>hk h.1;subst h0;conv=>whnf
    refine e9 rfl (fun h=>by cases h) (fun _=>?_);conv=>whnf
    exact om (i:=900001) (n:=0) (near:=near) rfl rfl ⟨rfl,rfl,trivial⟩
  | some x=>
   obtain⟨init,last⟩:=x;have Lt:(uc near (some (init,last))).aj.length<=1500:=by
    have RO:tU (init ++ [last])+0<=1500:=hlen;have LJ:=nP init last;show(init ++ [last]).length<=1500;simp;omega
   conv=>whnf
   obtain⟨cp,cq,ce,Q2⟩:∃ p q e,fK (uc near (some (init,last)))=(p,q,e):=⟨_,_,_,rfl⟩;have Dy:bB (uc near (some (init,last)))=ce:=by show(fK _).2.2=ce;rw[Q2]
   refine aB (kN (uc near (some (init,last))) _ _ _ Q2) rfl 2 (GK near init last rfl rfl) ?_;conv=>whnf
   refine af (fun pa=>?_) (fun pa=>?_)
   ·have hk:bB (uc near (some (init,last)))=0:=by rw[Dy];simpa using pa
    conv=>whnf
    refine aB (Sb (uc near (some (init,last))) (fk hk) (xw hk)) rfl 2 (GK near init last rfl rfl) ?_;conv=>whnf
    refine e9 rfl (fun ht=>?_) (fun ht=>?_)
    ·rw[<- SM]at ht
     have h0:=h7a ⟨hk,of_decide_eq_true ht⟩;subst h0;conv=>whnf
     refine⟨.inr rfl,rfl,rfl,.returning,_,rfl,fun {σ}=>xx _,?_⟩;conv=>whnf
     exact ab 2 (Bi (GK near init last rfl rfl)) ⟨rfl,rfl,rfl⟩
    ·rw[<- SM]at ht
     have h0:=WU fun h=>absurd ht (by rw[decide_eq_true h.2];simp);subst h0;conv=>whnf
     exact om (i:=900001) (n:=(init.length+1)) (near:=near) rfl rfl ⟨rfl,rfl,trivial⟩
   ·have hk:bB (uc near (some (init,last)))≠0:=by rw[Dy];simpa using pa
    have h0:=WU fun h=>hk h.1;subst h0;conv=>whnf
    refine e9 rfl (fun h=>by cases h) (fun _=>?_);conv=>whnf
    exact om (i:=900001) (n:=(init.length+1)) (near:=near) rfl rfl ⟨rfl,rfl,trivial⟩
theorem Er(s:ByteArray):∃ r,(PX.cO r = .tup [(vK s).1.d,i64 (vK s).2]\/r = .tup [(vK s).1.d,i64 (vK s).2])/\(1500<s.size->r=pK 3)/\(s.size<=1500->readAll s.data.toList=none->r=pK 6) /\
  (s.size<=1500 -> ∀ c,readAll s.data.toList=some c->((bB c=0/\wj c=s)->r = .tup [c.d,i64 0])/\(¬ (bB c=0/\wj c=s)->r=pK 6)):=by
 have sw:vK s=if 1500<s.size then (I7,(3:Int)) else
  match readAll s.data.toList with
  | some c=>if bB c=0/\wj c=s then (c,0) else (I7,6)
  | none=>(I7,6):=rfl
 by_cases h3:1500<s.size
 ·rw[sw,if_pos h3]
  exact⟨pK 3,.inl rfl,fun _=>rfl,fun h=>absurd h (by omega),fun h=>absurd h (by omega)⟩
 rw[sw,if_neg h3]
 cases hl:readAll s.data.toList with
 | none=>exact⟨pK 6,.inl rfl,fun h=>absurd h h3,fun _ _=>rfl,fun _ c h=>by cases h⟩
 | some c=>
  by_cases hk:bB c=0/\wj c=s
  ·simp only[if_pos hk]
   refine⟨.tup [c.d,i64 0],.inr rfl,fun h=>absurd h h3,fun _ h=>?_,fun _ c' h=>?_⟩
   ·cases h
   ·cases h;exact⟨fun _=>rfl,fun h=>absurd hk h⟩
  ·simp only[if_neg hk]
   refine⟨pK 6,.inl rfl,fun h=>absurd h h3,fun _ _=>rfl,fun _ c' h=>?_⟩;cases h;exact⟨fun h=>absurd h hk,fun _=>rfl⟩
theorem aam(s:ByteArray):bq Tryz.prog 51 [.str s] (.tup [(vK s).1.d,i64 (vK s).2]):=by
 obtain⟨r,hr,h3,h6,h7⟩:=Er s;rcases hr with hr|rfl
 ·exact bq.cO (fun {σ}=>Qi s r h3 h6 h7) hr
 ·exact Qi s _ h3 h6 h7
end Go.PX
namespace Go.PX
open Go.Proofs
theorem aaw(l:aM)(hR:pn l)(w:Int)(hw:0<=w/\w<=1048576):bq Tryz.prog 113 [i64 w,.ref l.cells] (.bool (gK l w [])):=by
 refine aI mixed ak Tryz.func113 rfl (ft:=TA) 2 (by decide +kernel) (by rfl) fun {σ} Y st=>?_;conv=>whnf
 refine nW ?_;refine ai (VQ l hR w hw [] (by simp)) rfl rfl ?_;conv=>whnf
 refine ai (Cj) rfl rfl ?_;conv=>whnf
 obtain⟨m,hm⟩:=HY l hR w hw [];refine ai (hm) rfl rfl ?_;conv=>whnf
 exact ab 0 rfl ⟨⟨rfl,rfl⟩,rfl⟩
theorem my(lC:Int->Bool):∀ (k j:Nat) {lo hi:Int},hi-lo<=2^k->hi-lo<=2^j->gS lC k lo hi=gS lC j lo hi
 | 0,0,_,_,_,_=>rfl
 | 0,j+1,lo,hi,h1,_=>by
  rw[gS,gS,if_neg (by simp at h1;omega)]
 | k+1,0,lo,hi,_,h2=>by
  rw[gS,gS,if_neg (by simp at h2;omega)]
 | k+1,j+1,lo,hi,h1,h2=>by
  have e1:(2:Int)^(k+1)=2^k*2:=Int.pow_succ 2 k;have e2:(2:Int)^(j+1)=2^j*2:=Int.pow_succ 2 j;rw[gS,gS];split
  ·split
   ·exact my lC k j (by omega) (by omega)
   ·exact my lC k j (by omega) (by omega)
  ·rfl
theorem aav(g:FuncId)(bS:List D)(lC:Int->Bool)(hg:∀ n,0<=n->n<=1048576->bq Tryz.prog g (i64 n::bS) (.bool (lC n))) :
  bq Tryz.prog 112 [i64 1048576,.clo g bS] (.tup [i64 (if lC 1048576=true then gS lC 40 (-1) 1048576 else 0),.bool (lC 1048576)]):=by
 refine aI mixed ak Tryz.func112 rfl (ft:=Tz) 2 (by decide +kernel) (by rfl) fun {σ} Y st=>?_;conv=>whnf
 refine ai (hg 1048576 (by omega) (by omega)) rfl rfl ?_
 cases h0:lC 1048576 with
 | false=>
  simp only[Bool.false_eq_true,if_false];conv=>whnf
  exact ab 0 rfl ⟨⟨rfl,rfl⟩,rfl⟩
 | true=>
  simp only[if_true];conv=>whnf
  generalize hRES:gS lC 40 (-1) 1048576=Nc;refine dh (T:=tys) ak (by exact an mixed ak (by decide +kernel)) (α:=Int×Int) (fun z=>⟨[(0,.d (i64 1048576)),(1,.d (.clo g bS)),(6,.d (i64 z.1)),(7,.d (i64 z.2))],[],st⟩) (fun z=>-1<=z.1/\z.1<z.2/\z.2<=1048576/\gS lC 40 z.1 z.2=Nc) (fun z=>(z.2-z.1).toNat) (-1,1048576) (Wk.sub (by repeat' first|constructor|simp[PX.get]) trivial) ⟨by simp,by simp,by simp,hRES⟩ ?_;rintro ⟨lo,hi⟩ ⟨h1,h2,h3,h4⟩;simp only at h1 h2 h3 h4;conv=>whnf
  refine ae (wrap_i64 (by(try dsimp only);omega)) ?_;conv=>whnf
  have YL:gS lC 40 lo hi=if hi-lo>1 then (if lC ((lo+hi)/2) then gS lC 39 lo ((lo+hi)/2) else gS lC 39 ((lo+hi)/2) hi) else hi:=rfl
  rw[YL]at h4;have hp:(2:Int)^39=549755813888:=by decide
  have IV:(2:Int)^40=1099511627776:=by decide
  refine af (fun h5=>?_) (fun h5=>?_)
  ·have h5:hi-lo>1:=of_decide_eq_true h5
   rw[if_pos h5]at h4;conv=>whnf
   refine ae (wrap_i64 (by(try dsimp only);omega)) ?_;conv=>whnf
   refine ao ((lo+hi)/2) (by show(lo+hi).tdiv 2=(lo+hi)/2;exact Int.tdiv_eq_ediv_of_nonneg (by omega)) (wrap_i64 (by omega)) ?_;generalize hM:(lo+hi)/2=M at h4 ⊢;have hM1:lo<M/\M<hi:=by omega
   conv=>whnf
   refine ai (hg M (by omega) (by omega)) rfl rfl ?_;conv=>whnf
   cases hd:lC M with
   | true=>
    rw[hd]at h4;simp only[if_true]at h4;conv=>whnf
    exact⟨(lo,M),by simp only;omega,⟨by simp only;omega,by simp only;omega,by simp only;omega,by simp only;rw[<- h4];exact my lC 40 39 (by omega) (by omega)⟩,(Wk.sub (by repeat' first|constructor|simp[PX.get]) trivial)⟩
   | false=>
    rw[hd]at h4;simp only[Bool.false_eq_true,if_false]at h4;conv=>whnf
    exact⟨(M,hi),by simp only;omega,⟨by simp only;omega,by simp only;omega,by simp only;omega,by simp only;rw[<- h4];exact my lC 40 39 (by omega) (by omega)⟩,(Wk.sub (by repeat' first|constructor|simp[PX.get]) trivial)⟩
  ·have h5:¬ hi-lo>1:=of_decide_eq_false h5
   rw[if_neg h5]at h4;subst h4;conv=>whnf
   exact ab 0 rfl ⟨⟨rfl,rfl⟩,rfl⟩
theorem VO(l:aM):bq Tryz.prog 47 [l.d] (.tup [i64 (D9 l).1,i64 (D9 l).2]):=by
 unfold D9;refine aI mixed ak Tryz.func47 rfl (ft:=Yk) 1 (by decide +kernel) (by rfl) fun {σ} Y st=>?_;conv=>whnf
 by_cases hc:bB l=0
 ·rw[if_pos hc]
  have hR:=fk hc;refine ai (kN l 0 0 0 (jJ hc)) rfl rfl ?_;conv=>whnf
  refine aB (ds:=[i64 1048576,.clo 113 [.ref l.cells]]) (aav 113 [.ref l.cells] (fun w=>gK l w []) fun w h0 h1=>aaw l hR w ⟨h0,h1⟩) rfl 1 rfl ?_
  cases hf:gK l 1048576 []with
  | false=>
   simp only[Bool.false_eq_true,if_false];conv=>whnf
   exact ab 0 rfl ⟨⟨rfl,rfl⟩,rfl⟩
  | true=>
   simp only[if_true];conv=>whnf
   exact ab 0 rfl ⟨⟨rfl,rfl⟩,rfl⟩
 ·rw[if_neg hc]
  refine ai (kN l _ _ _ (jI l)) rfl rfl ?_;conv=>whnf
  generalize bB l=E at hc;refine af (fun _=>?_) (fun h=>absurd hc (by simpa using h));conv=>whnf
  exact ab 0 rfl ⟨⟨rfl,rfl⟩,rfl⟩
theorem Hp{b:au}{n:Int}:0<tc b n ↔ ∃ y∈b.ar,y.kind=3/\y.number=n:=by
 unfold tc;constructor
 ·intro h
  obtain⟨y,hy⟩:=List.exists_mem_of_length_pos h;obtain⟨hy,hq⟩:=List.mem_filter.1 hy;exact⟨y,hy,of_decide_eq_true hq⟩
 ·rintro ⟨y,hy,h⟩
  exact List.length_pos_of_mem (List.mem_filter.2 ⟨hy,decide_eq_true h⟩)
theorem RU{l:aM}{n:Int}:0<B5 l n ↔ ∃ b∈l.aj,0<tc b n:=by
 unfold B5;constructor
 ·intro h
  obtain⟨b,hb⟩:=List.exists_mem_of_length_pos h;obtain⟨hb,hq⟩:=List.mem_filter.1 hb;exact⟨b,hb,of_decide_eq_true hq⟩
 ·rintro ⟨b,hb,h⟩
  exact List.length_pos_of_mem (List.mem_filter.2 ⟨hb,decide_eq_true h⟩)
theorem yH{l:aM}{y:aW}:y∈vM l↔(∃ b∈l.aj,y∈b.ar)/\y.kind=3:=by
 unfold vM;rw[List.mem_filter,List.mem_flatMap,decide_eq_true_eq]
theorem HJ{l:aM}{n:Int}:0<B5 l n ↔ ∃ y∈vM l,y.number=n:=by
 rw[RU];constructor
 ·rintro ⟨b,hb,h⟩
  obtain⟨y,hy,h1,h2⟩:=Hp.1 h;exact⟨y,yH.2 ⟨⟨b,hb,hy⟩,h1⟩,h2⟩
 ·rintro ⟨y,hy,h2⟩
  obtain⟨⟨b,hb,hyb⟩,h1⟩:=yH.1 hy;exact⟨b,hb,Hp.2 ⟨y,hyb,h1,h2⟩⟩
theorem Ql{l:aM}(h:bB l=0){y:aW}(hy:y∈vM l):1<=y.number/\y.number<=99:=by
 obtain⟨⟨b,hb,hyb⟩,h1⟩:=yH.1 hy;have hE:=(jK h hb).2.2.2 y hyb;exact⟨(hE.rep h1).2,hE.number.2⟩
theorem KW(L:List aW):∀ m0:Int,m0<=L.foldl (fun m y=>max m y.number) m0/\(∀ y∈L,y.number<=L.foldl (fun m y=>max m y.number) m0)/\(L.foldl (fun m y=>max m y.number) m0=m0 \/ ∃ y∈L,y.number=L.foldl (fun m y=>max m y.number) m0):=by
 induction L with
 | nil=>intro m0;exact⟨Int.le_refl _,fun y hy=>(by cases hy),.inl rfl⟩
 | cons a r ih=>
  intro m0;rw[List.foldl_cons];obtain⟨h1,h2,h3⟩:=ih (max m0 a.number);refine⟨by omega,fun y hy=>?_,?_⟩
  ·rcases List.mem_cons.1 hy with rfl|hy
   ·omega
   ·exact h2 y hy
  ·rcases h3 with h3|⟨y,hy,he⟩
   ·rcases Int.le_total m0 a.number with hle|hle
    ·right;exact⟨a,List.mem_cons_self ..,by rw[h3];omega⟩
    ·left;rw[h3];omega
   ·right;exact⟨y,List.mem_cons_of_mem _ hy,he⟩
theorem Ov{l:aM}(h:bB l=0):0<=tv l/\tv l<=99/\(∀ n,0<B5 l n->1<=n/\n<=tv l)/\(tv l=0\/0<B5 l (tv l)):=by
 obtain⟨h1,h2,h3⟩:=KW (vM l) 0;unfold tv;refine⟨h1,?_,fun n hn=>?_,?_⟩
 ·rcases h3 with h3|⟨y,hy,he⟩
  ·omega
  ·have:=Ql h hy;omega
 ·obtain⟨y,hy,rfl⟩:=HJ.1 hn
  have:=h2 y hy;have:=Ql h hy;omega
 ·rcases h3 with h3|⟨y,hy,he⟩
  ·exact .inl h3
  ·exact .inr (HJ.2 ⟨y,hy,he⟩)
abbrev NM:=List (Int×Int)
def eF(m:NM)(n:Int):Int:=(bD m n).getD 0
def zC(m:NM):Prop:=(m.map Prod.fst).Nodup
theorem L8{m:NM}{t y x:Int}:x∈(cH m t y).map Prod.fst↔x=t\/x∈m.map Prod.fst:=by
 induction m with
 | nil=>simp[cH]
 | cons p r ih=>
  obtain⟨u,v⟩:=p;rw[cH];split
  ·rename_i h
   subst h;simp
  ·rw[List.map_cons,List.map_cons,List.mem_cons,List.mem_cons,ih]
   constructor
   ·rintro (h|h|h)
    ·exact .inr (.inl h)
    ·exact .inl h
    ·exact .inr (.inr h)
   ·rintro (h|h|h)
    ·exact .inr (.inl h)
    ·exact .inl h
    ·exact .inr (.inr h)
theorem zC.put{m:NM}(h:zC m)(t y:Int):zC (cH m t y):=by
 induction m with
 | nil=>simp[zC,cH]
 | cons p r ih=>
  obtain⟨u,v⟩:=p;unfold zC at h ih ⊢;rw[List.map_cons,List.nodup_cons]at h;rw[cH];split
  ·rename_i he
   subst he;rw[List.map_cons,List.nodup_cons];exact h
  ·rename_i he
   rw[List.map_cons,List.nodup_cons];exact⟨fun hm=>(L8.1 hm).elim (fun e=>he e.symm) h.1,ih h.2⟩
theorem BR{m:NM}(h:zC m){i:Nat}{k v:Int}(hi:m[i]?=some (k,v)):bD m k=some v:=by
 induction m generalizing i with
 | nil=>simp at hi
 | cons p r ih=>
  obtain⟨u,w⟩:=p;unfold zC at h ih;rw[List.map_cons,List.nodup_cons]at h;rw[bD]
  cases i with
  | zero=>rw[List.getElem?_cons_zero]at hi;cases hi;rw[if_pos rfl]
  | succ i=>
   rw[List.getElem?_cons_succ]at hi;have hk:k≠u:=fun e=>h.1 (e▸List.mem_map.2 ⟨_,List.mem_of_getElem? hi,rfl⟩);rw[if_neg hk];exact ih h.2 hi
theorem NB{m:NM}{k v:Int}(h:bD m k=some v):∃ i:Nat,m[i]?=some (k,v):=by
 induction m with
 | nil=>cases h
 | cons p r ih=>
  obtain⟨u,w⟩:=p;rw[bD]at h;split at h
  ·rename_i e;cases h;subst e;exact⟨0,rfl⟩
  ·obtain⟨i,hi⟩:=ih h
   exact⟨i+1,hi⟩
theorem pM(m:NM)(t y n:Int):eF (cH m t y) n=if n=t then y else eF m n:=by
 unfold eF;rw[dw];split<;>rfl
def Dv(r:List aW)(n:Int):Nat:=(r.filter fun y=>decide (y.kind=3/\y.number=n)).length
structure pq(r:List aW)(m:NM):Prop where
 SV:zC m
 get:∀ n,eF m n=Dv r n
 pos:∀ n v,bD m n=some v->1<=v
theorem pq.nil:pq [] []:=⟨by simp[zC],fun n=>rfl,fun n v h=>by cases h⟩
theorem pq.skip{r:List aW}{m:NM}(h:pq r m){y:aW}(hy:y.kind≠3):pq (r ++ [y]) m:=by
 refine⟨h.SV,fun n=>?_,h.pos⟩;rw[h.get n];unfold Dv;rw[List.filter_append,List.filter_cons,if_neg (by simp[hy])];simp
theorem pq.inc{r:List aW}{m:NM}(h:pq r m){y:aW}(hy:y.kind=3):pq (r ++ [y]) (cH m y.number (eF m y.number+1)):=by
 refine⟨h.SV.put _ _,fun n=>?_,fun n v hv=>?_⟩
 ·rw[pM]
  unfold Dv;rw[List.filter_append,List.filter_cons];by_cases hn:n=y.number
  ·subst hn
   rw[if_pos rfl,if_pos (by simp[hy]),h.get];unfold Dv;simp
  ·rw[if_neg hn,if_neg (by simp[hy];exact fun e=>hn e.symm),h.get]
   unfold Dv;simp
 ·rw[dw]at hv
  split at hv
  ·cases hv
   have:=h.get y.number;omega
  ·exact h.pos n v hv
structure Ig(bs:List au)(m1 m2:NM):Prop where
 Xp:∀ n,eF m1 n=(bs.filter fun b=>decide (0<tc b n)).length
 Jc:∀ n,eF m2 n=(bs.map fun b=>tc b n).foldl max 0
def Dn(mine:NM)(todo:List Nat)(n:Int):Prop:=∃ (i:Nat) (v:Int),i∉todo/\mine[i]?=some (n,v)
structure Bv(mine b1 b2:NM)(todo:List Nat)(m1 m2:NM):Prop where
 yes:∀ n,Dn mine todo n->eF m1 n=eF b1 n+1/\eF m2 n=max (eF b2 n) (eF mine n)
 no:∀ n,¬ Dn mine todo n->eF m1 n=eF b1 n/\eF m2 n=eF b2 n
theorem Bv.start(mine b1 b2:NM):Bv mine b1 b2 (List.range mine.length) b1 b2:=
 ⟨fun n ⟨i,v,h1,h2⟩=>absurd (List.mem_range.2 (List.getElem?_eq_some_iff.1 h2).1) h1,fun _ _=>⟨rfl,rfl⟩⟩
theorem Bv.step{mine b1 b2 m1 m2:NM}{todo:List Nat}(hn:zC mine)(h:Bv mine b1 b2 todo m1 m2){i:Nat}{k v:Int}(hi:i∈todo)(hk:mine[i]?=some (k,v)) :
  Bv mine b1 b2 (todo.filter fun j=>!Nat.beq j i) (cH m1 k (eF m1 k+1)) (cH m2 k (max (eF m2 k) v)):=by
 have iP:∀ j,j∉todo.filter (fun j=>!Nat.beq j i)↔j∉todo\/j=i:=fun j=>by
  rw[List.mem_filter];by_cases hj:j=i
  ·subst hj;simp
  ·have:Nat.beq j i=false:=by
    cases hb:Nat.beq j i with
    | false=>rfl
    | true=>exact absurd (Nat.eq_of_beq_eq_true hb) hj
   rw[this];simp[hj]
 have one:∀ {j:Nat} {w:Int},mine[j]?=some (k,w)->j=i:=fun {j w} hj=>by
  have h1:(mine.map Prod.fst)[j]?=some k:=by rw[List.getElem?_map,hj];rfl
  have h2:(mine.map Prod.fst)[i]?=some k:=by rw[List.getElem?_map,hk];rfl
  have zI:=(List.getElem?_eq_some_iff.1 h1).1;exact(List.getElem?_inj zI hn).1 (h1.trans h2.symm)
 have Xa:¬ Dn mine todo k:=fun⟨j,w,h1,h2⟩=>h1 (one h2▸hi);have hgk:eF mine k=v:=by unfold eF;rw[BR hn hk];rfl
 have hdn:∀ n,n≠k->(Dn mine (todo.filter fun j=>!Nat.beq j i) n↔Dn mine todo n):=fun n Np=>by
  constructor
  ·rintro ⟨j,w,h1,h2⟩
   rcases (iP j).1 h1 with h1|rfl
   ·exact⟨j,w,h1,h2⟩
   ·rw[hk]at h2;cases h2;exact absurd rfl Np
  ·rintro ⟨j,w,h1,h2⟩
   exact⟨j,w,(iP j).2 (.inl h1),h2⟩
 obtain⟨g1,g2⟩:=h.no k Xa;refine⟨fun n hd=>?_,fun n hd=>?_⟩
 ·rw[pM,pM]
  by_cases Np:n=k
  ·subst Np
   rw[if_pos rfl,if_pos rfl,g1,g2,hgk];exact⟨rfl,rfl⟩
  ·rw[if_neg Np,if_neg Np]
   exact h.yes n ((hdn n Np).1 hd)
 ·have Np:n≠k:=fun e=>hd (e▸⟨i,v,(iP i).2 (.inr rfl),hk⟩)
  rw[pM,pM,if_neg Np,if_neg Np];exact h.no n fun SF=>hd ((hdn n Np).2 SF)
theorem Bv.fin{bs:List au}{b:au}{mine b1 b2 m1 m2:NM}(hb:Ig bs b1 b2)(hm:pq b.ar mine)(h:Bv mine b1 b2 [] m1 m2):Ig (bs ++ [b]) m1 m2:=by
 have hd:∀ n,Dn mine [] n↔0<tc b n:=fun n=>by
  have hg:=hm.get n;constructor
  ·rintro ⟨i,v,_,hi⟩
   have h1:=BR hm.SV hi;have h2:=hm.pos n v h1;unfold eF at hg;rw[h1]at hg;show 0<Dv b.ar n;simp only[Option.getD_some]at hg;omega
  ·intro hp
   have hp:0<Dv b.ar n:=hp
   cases hv:bD mine n with
   | none=>unfold eF at hg;rw[hv]at hg;simp only[Option.getD_none]at hg;omega
   | some v=>
    obtain⟨i,hi⟩:=NB hv;exact⟨i,v,by simp,hi⟩
 have hg:∀ n,eF mine n=tc b n:=hm.get;refine⟨fun n=>?_,fun n=>?_⟩
 ·rw[List.filter_append,List.length_append,List.filter_cons]
  have h1:=hb.Xp n;by_cases hp:0<tc b n
  ·rw[(h.yes n ((hd n).2 hp)).1,h1,if_pos (by simpa using hp)];simp
  ·rw[(h.no n fun hh=>hp ((hd n).1 hh)).1,h1,if_neg (by simpa using hp)];simp
 ·rw[List.map_append,List.foldl_append]
  have h1:=hb.Jc n;have h2:=hg n;show _=((max ((bs.map fun b=>tc b n).foldl max 0) (tc b n):Nat):Int);by_cases hp:0<tc b n
  ·rw[(h.yes n ((hd n).2 hp)).2,h1,h2];omega
  ·rw[(h.no n fun hh=>hp ((hd n).1 hh)).2,h1];omega
theorem Ig.bd{bs:List au}{m1 m2:NM}(h:Ig bs m1 m2)(n:Int):0<=eF m1 n/\eF m1 n<=bs.length/\0<=eF m2 n:=by
 have h1:=h.Xp n;have h2:=h.Jc n;have h3:(bs.filter fun b=>decide (0<tc b n)).length<=bs.length:=List.length_filter_le _ _;omega
theorem rY{κ ν:Type}{kd:κ->D}{vd:ν->D}(m:List (κ×ν)):(eJ kd vd m).length=m.length:=by simp[eJ]
theorem Ot{m:NM}{i:Nat}{kv:D×D}(h:(eJ aD aD m)[i]?=some kv):∃ x v,m[i]?=some (x,v)/\kv=(i64 x,i64 v):=by
 unfold eJ at h;rw[List.getElem?_map,Option.map_eq_some_iff]at h;obtain⟨⟨x,v⟩,h1,h2⟩:=h;exact⟨x,v,h1,h2.symm⟩
theorem filter_lt{l:List Nat}{i:Nat}(h:i∈l):(l.filter fun j=>!Nat.beq j i).length<l.length:=by
 induction l with
 | nil=>cases h
 | cons a r ih=>
  rw[List.filter_cons];by_cases ha:a=i
  ·subst ha
   rw[show Nat.beq a a=true from Nat.beq_refl a];have:=List.length_filter_le (fun j=>!Nat.beq j a) r;simp only[Bool.not_true,Bool.false_eq_true,if_false,List.length_cons];omega
  ·have hb:Nat.beq a i=false:=by
    cases hb:Nat.beq a i with
    | false=>rfl
    | true=>exact absurd (Nat.eq_of_beq_eq_true hb) ha
   rw[hb];have:=ih ((List.mem_cons.1 h).resolve_left fun e=>ha e.symm);simp only[Bool.not_false,if_true,List.length_cons];omega
set_option maxHeartbeats 4000000 in
theorem VW(l:aM)(hR:pn l):o9 Tryz.prog 114 [.d l.d] [] fun v h'=>h' = [] /\ ∃ m1 m2,Ig l.aj m1 m2/\v = .d (.tup [.mv (eJ aD aD m1),.mv (eJ aD aD m2)]):=by
 intro σ Y st;refine dQ mixed ak Tryz.func114 rfl (ft:=Px) (args:=[.d l.d]) (show nS Px Tryz.f114 1=true from by decide +kernel) ?_;conv=>whnf
 refine bx (T:=tys) ak (by exact an mixed ak (by decide +kernel)) l.aj (fun i (x:NM×NM)=>⟨[(2,.mp 13),(3,.mp 14),(16,.d (bF l.aj)),(17,.d (i64 l.aj.length)),(18,.d (i64 i))],[(13,.map (eJ aD aD x.1)),(14,.map (eJ aD aD x.2))],st⟩) (fun i r x=>Ig (l.aj.take i) x.1 x.2) ([],[]) (Wk.sub (by repeat' first|constructor|simp[PX.get]) (by repeat' first|constructor|simp[PX.get])) ⟨fun n=>rfl,fun n=>rfl⟩ ?_ ?_
 ·rintro i b r ⟨b1,b2⟩ hb hi hr hC
  have wF:=hR.aj;have hB:=hR.book b (List.mem_of_getElem? hb);have QX:=hB.ar;have wg:l.aj.take (i+1)=l.aj.take i ++ [b]:=by rw[List.take_succ,hb];rfl
  simp only at hC;conv=>whnf
  refine af (fun _=>?_) (fun h=>absurd hi (by simpa using h));conv=>whnf
  refine aw hb ?_;conv=>whnf
  refine bx (T:=tys) ak (by exact an mixed ak (by decide +kernel)) b.ar (fun k (m:NM)=>⟨[(2,.mp 13),(3,.mp 14),(16,.d (bF l.aj)),(17,.d (i64 l.aj.length)),(18,.d (i64 i)),(6,.mp 22),(24,.d (kJ b.ar)),(25,.d (i64 b.ar.length)),(26,.d (i64 k))],[(13,.map (eJ aD aD b1)),(14,.map (eJ aD aD b2)),(22,.map (eJ aD aD m))],st⟩) (fun k r m=>pq (b.ar.take k) m) [] (Wk.sub (by repeat' first|constructor|simp[PX.get]) (by repeat' first|constructor|simp[PX.get])) (by rw[List.take_zero];exact pq.nil) ?_ ?_
  ·rintro k y q m hy hk hq hM
   have Xj:b.ar.take (k+1)=b.ar.take k ++ [y]:=by rw[List.take_succ,hy];rfl
   have I1:=(hB.fG y (List.mem_of_getElem? hy)).2.1;conv=>whnf
   refine af (fun _=>?_) (fun h=>absurd hk (by simpa using h));conv=>whnf
   refine aw hy ?_;conv=>whnf
   refine ai (zS y) rfl rfl ?_;by_cases h3:y.kind=3
   ·have ht:bL y = .ifc 228 (.agg [.str y.word,i64 y.number]):=by unfold bL;rw[if_neg (by omega),if_neg (by omega),if_pos h3]
    rw[ht];have PO:=hM.inc h3;rw[<- Xj]at PO;have hb8:eF m y.number<=k:=by
     rw[hM.get];have h1:Dv (b.ar.take k) y.number<=(b.ar.take k).length:=List.length_filter_le _ _;rw[List.length_take]at h1;omega
    have iN:0<=eF m y.number:=by rw[hM.get];omega
    generalize hG:eF m y.number=G at PO hb8 iN;conv=>whnf
    cases hg:bD m y.number with
    | none=>
     have YP:G=0:=by rw[<- hG];unfold eF;rw[hg];rfl
     refine⟨none,aP (kd:=aD) aO hg 0,?_⟩;conv=>whnf
     refine ao (G+1) (by omega) (wrap_i64 (by omega)) ?_;conv=>whnf
     refine⟨none,aP (kd:=aD) aO hg 0,?_⟩;conv=>whnf
     refine ae (wrap_i64 (by(try dsimp only);omega)) ?_;conv=>whnf
     refine⟨_,PO,Wk.sub ⟨rfl,rfl,rfl,rfl,rfl,rfl,rfl,rfl,rfl,trivial⟩ ⟨rfl,rfl,?_,trivial⟩⟩;exact congrArg (fun z=>some (Obj.map z)) (cr (kd:=aD) (vd:=aD) (G+1) hg)
    | some v=>
     have YP:G=v:=by rw[<- hG];unfold eF;rw[hg];rfl
     obtain⟨ix,_,mf,ub,_⟩:=a8 (kd:=aD) (vd:=aD) aO hg 0;refine⟨_,mf,?_⟩;conv=>whnf
     refine ao (G+1) (by omega) (wrap_i64 (by omega)) ?_;conv=>whnf
     refine⟨_,mf,?_⟩;conv=>whnf
     refine ae (wrap_i64 (by(try dsimp only);omega)) ?_;conv=>whnf
     refine⟨_,PO,Wk.sub ⟨rfl,rfl,rfl,rfl,rfl,rfl,rfl,rfl,rfl,trivial⟩ ⟨rfl,rfl,?_,trivial⟩⟩;show some (Obj.map ((eJ aD aD m).set (0+ix) (i64 y.number,i64 (G+1))))=_;rw[Nat.zero_add];exact congrArg (fun z=>some (Obj.map z)) (ub (G+1))
   ·have PO:=hM.skip h3
    rw[<- Xj]at PO;by_cases h2:y.kind=2
    ·have ht:bL y = .ifc 288 (.agg []):=by unfold bL;rw[if_neg (by omega),if_pos h2]
     rw[ht];conv=>whnf
     refine ae (wrap_i64 (by(try dsimp only);omega)) ?_;conv=>whnf
     exact⟨m,PO,(Wk.sub (by repeat' first|constructor|simp[PX.get]) (by repeat' first|constructor|simp[PX.get]))⟩
    ·have ht:bL y = .ifc 214 (.agg [.str y.word]):=by unfold bL;rw[if_pos (by omega)]
     rw[ht];conv=>whnf
     refine ae (wrap_i64 (by(try dsimp only);omega)) ?_;conv=>whnf
     exact⟨m,PO,(Wk.sub (by repeat' first|constructor|simp[PX.get]) (by repeat' first|constructor|simp[PX.get]))⟩
  ·rintro m hM
   rw[List.take_length]at hM;conv=>whnf
   refine af (fun h=>absurd h (by simp)) (fun _=>?_);conv=>whnf
   refine dh (T:=tys) ak (by exact an mixed ak (by decide +kernel)) (α:=List Nat×(NM×(NM×Option Nat)))
    (fun p=>⟨[(2,.mp 13),(3,.mp 14),(16,.d (bF l.aj)),(17,.d (i64 l.aj.length)),(18,.d (i64 i)),(44,.it 44)],[(13,.map (eJ aD aD p.2.1)),(14,.map (eJ aD aD p.2.2.1)),(22,.map (eJ aD aD m)),(44,.mit (.mp 22) m.length p.1 p.2.2.2)],st⟩)
    (fun p=>Bv m b1 b2 p.1 p.2.1 p.2.2.1) (fun p=>p.1.length) (List.range m.length,(b1,(b2,none))) ?wk2 (Bv.start m b1 b2) ?_
   case wk2=>
    refine Wk.sub ⟨rfl,rfl,rfl,rfl,rfl,rfl,trivial⟩ ⟨rfl,rfl,rfl,?_,trivial⟩;show some (Obj.mit (V.mp 22) (eJ aD aD m).length (List.range (eJ aD aD m).length) none)=_;rw[rY]
   rintro ⟨todo,m1,m2,cur⟩ WZ;simp only at WZ;conv=>whnf
   refine⟨by simp[rY],fun h0=>?_,fun j kv hj zw=>?_⟩
   ·have h0:todo = []:=h0
    subst h0;have hC2:=WZ.fin hC hM;rw[<- wg]at hC2;conv=>whnf
    refine ae (wrap_i64 (by(try dsimp only);omega)) ?_;conv=>whnf
    exact⟨(m1,m2),hC2,(Wk.sub (by repeat' first|constructor|simp[PX.get]) (by repeat' first|constructor|simp[PX.get]))⟩
   ·obtain⟨n,v,ZP,rfl⟩:=Ot zw
    have hj:j∈todo:=hj;have dN:=filter_lt hj;have vu:=WZ.step hM.SV hj ZP;have td:=BR hM.SV ZP;conv=>whnf
    refine⟨by simp[rY],(i64 n,i64 v),zw,?_⟩;conv=>whnf
    have Vi:=hM.pos n v td;have EZ:eF m1 n<=3/\0<=eF m1 n:=by
     have:=hC.bd n;rw[List.length_take]at this;have tZ:¬ Dn m todo n:=fun⟨j',w,h1,h2⟩=>by
      have zI:=(List.getElem?_eq_some_iff.1 h2).1;have e1:(m.map Prod.fst)[j']?=some n:=by rw[List.getElem?_map,h2];rfl
      have e2:(m.map Prod.fst)[j]?=some n:=by rw[List.getElem?_map,ZP];rfl
      have:j'=j:=(List.getElem?_inj (by simpa using zI) hM.SV).1 (e1.trans e2.symm);exact h1 (this▸hj)
     have:=(WZ.no n tZ).1;omega
    generalize hG1:eF m1 n=G1 at vu EZ;generalize hG2:eF m2 n=G2 at vu
    cases eo:bD m1 n with
    | none=>
     have YP:G1=0:=by rw[<- hG1];unfold eF;rw[eo];rfl
     refine⟨none,aP (kd:=aD) aO eo 0,?_⟩;conv=>whnf
     refine ao (G1+1) (by omega) (wrap_i64 (by omega)) ?_;conv=>whnf
     refine⟨none,aP (kd:=aD) aO eo 0,?_⟩;conv=>whnf
     cases gC:bD m2 n with
     | none=>
      have Fq:G2=0:=by rw[<- hG2];unfold eF;rw[gC];rfl
      refine⟨none,aP (kd:=aD) aO gC 0,?_⟩;conv=>whnf
      refine⟨none,aP (kd:=aD) aO gC 0,?_⟩;conv=>whnf
      refine⟨(todo.filter fun j'=>!Nat.beq j' j,(cH m1 n (G1+1),(cH m2 n (max G2 v),some j))),dN,vu,Wk.sub ⟨rfl,rfl,rfl,rfl,rfl,rfl,trivial⟩ ⟨?_,?_,rfl,rfl,trivial⟩⟩
      ·exact congrArg (fun z=>some (Obj.map z)) (cr (kd:=aD) (vd:=aD) (G1+1) eo)
      ·rw[Fq]
       exact congrArg (fun z=>some (Obj.map z)) (cr (kd:=aD) (vd:=aD) (max 0 v) gC)
     | some v2=>
      have Fq:G2=v2:=by rw[<- hG2];unfold eF;rw[gC];rfl
      obtain⟨iy,_,mw,FN,_⟩:=a8 (kd:=aD) (vd:=aD) aO gC 0;refine⟨_,mw,?_⟩;conv=>whnf
      refine⟨_,mw,?_⟩;conv=>whnf
      refine⟨(todo.filter fun j'=>!Nat.beq j' j,(cH m1 n (G1+1),(cH m2 n (max G2 v),some j))),dN,vu,Wk.sub ⟨rfl,rfl,rfl,rfl,rfl,rfl,trivial⟩ ⟨?_,?_,rfl,rfl,trivial⟩⟩
      ·exact congrArg (fun z=>some (Obj.map z)) (cr (kd:=aD) (vd:=aD) (G1+1) eo)
      ·rw[Fq]
       show some (Obj.map ((eJ aD aD m2).set (0+iy) (i64 n,i64 (max v2 v))))=_;rw[Nat.zero_add];exact congrArg (fun z=>some (Obj.map z)) (FN (max v2 v))
    | some v1=>
     have YP:G1=v1:=by rw[<- hG1];unfold eF;rw[eo];rfl
     obtain⟨ix,_,mf,ub,_⟩:=a8 (kd:=aD) (vd:=aD) aO eo 0;refine⟨_,mf,?_⟩;conv=>whnf
     refine ao (G1+1) (by omega) (wrap_i64 (by omega)) ?_;conv=>whnf
     refine⟨_,mf,?_⟩;conv=>whnf
     cases gC:bD m2 n with
     | none=>
      have Fq:G2=0:=by rw[<- hG2];unfold eF;rw[gC];rfl
      refine⟨none,aP (kd:=aD) aO gC 0,?_⟩;conv=>whnf
      refine⟨none,aP (kd:=aD) aO gC 0,?_⟩;conv=>whnf
      refine⟨(todo.filter fun j'=>!Nat.beq j' j,(cH m1 n (G1+1),(cH m2 n (max G2 v),some j))),dN,vu,Wk.sub ⟨rfl,rfl,rfl,rfl,rfl,rfl,trivial⟩ ⟨?_,?_,rfl,rfl,trivial⟩⟩
      ·(show some (Obj.map ((eJ aD aD m1).set (0+ix) (i64 n,i64 (G1+1))))=_);rw[Nat.zero_add];exact congrArg (fun z=>some (Obj.map z)) (ub (G1+1))
      ·rw[Fq]
       exact congrArg (fun z=>some (Obj.map z)) (cr (kd:=aD) (vd:=aD) (max 0 v) gC)
     | some v2=>
      have Fq:G2=v2:=by rw[<- hG2];unfold eF;rw[gC];rfl
      obtain⟨iy,_,mw,FN,_⟩:=a8 (kd:=aD) (vd:=aD) aO gC 0;refine⟨_,mw,?_⟩;conv=>whnf
      refine⟨_,mw,?_⟩;conv=>whnf
      refine⟨(todo.filter fun j'=>!Nat.beq j' j,(cH m1 n (G1+1),(cH m2 n (max G2 v),some j))),dN,vu,Wk.sub ⟨rfl,rfl,rfl,rfl,rfl,rfl,trivial⟩ ⟨?_,?_,rfl,rfl,trivial⟩⟩
      ·(show some (Obj.map ((eJ aD aD m1).set (0+ix) (i64 n,i64 (G1+1))))=_);rw[Nat.zero_add];exact congrArg (fun z=>some (Obj.map z)) (ub (G1+1))
      ·rw[Fq]
       show some (Obj.map ((eJ aD aD m2).set (0+iy) (i64 n,i64 (max v2 v))))=_;rw[Nat.zero_add];exact congrArg (fun z=>some (Obj.map z)) (FN (max v2 v))
 ·rintro ⟨m1,m2⟩ hC
  rw[List.take_length]at hC;conv=>whnf
  refine af (fun h=>absurd h (by simp)) (fun _=>?_);conv=>whnf
  refine ab 1 (ds:=[.mv (eJ aD aD m1),.mv (eJ aD aD m2)]) (az (tX rfl) (az (tX rfl) rfl)) ⟨⟨rfl,m1,m2,hC,rfl⟩,rfl⟩
def MW(s:ByteArray):D:=.str s
abbrev WM:=List (Int×ByteArray)
def uP(r:List aW):List aW:=r.filter fun y=>decide (y.kind=3)
def OB(m0:Int)(r:List aW):Int:=r.foldl (fun m y=>max m y.number) m0
def eD(l:List Int):List (List D):=l.map fun n=>[i64 n]
theorem xe{σ:Type}{l:List V}{h:Heap}{s:σ}{Q:V->Heap->σ->Prop}(n:Nat){ds:List D}(hv:cI (ek h n) l=some ds){d:D}(hd:cO (js ds)=d)(hq:Q (.d d) [] s):rD l h s Q:=by
 subst hd;refine⟨fun cx L F aT w hh hr=>?_⟩;have tr:=gz hh;exact⟨_,[],L,eZ L F h w,hq,AB hh,bM.cO _ _ (HZ (jW tr (oG hh n) l aT ds hv hr)),tr,fun _ _=>⟨rfl,rfl⟩⟩
set_option maxHeartbeats 4000000 in
theorem aak(l:aM):bq Tryz.prog 49 [l.d] (.tup [ax (MG l).1,ax (MG l).2.1,i64 (MG l).2.2]):=by
 unfold MG;refine aI mixed ak Tryz.func49 rfl (ft:=Ym) 1 (by decide +kernel) (by rfl) fun {σ} Y st=>?_;conv=>whnf
 by_cases hc:bB l=0
 ·rw[if_pos hc]
  have hR:=fk hc;have wF:=hR.aj;have Hx:=Ov hc;refine ai (kN l 0 0 0 (jJ hc)) rfl rfl ?_;conv=>whnf
  generalize hT:qo [] (vM l)=T;generalize hL:tv l=L at Hx;have hT:qo [] (uP (l.aj.flatMap au.ar))=T:=hT;have WY:OB 0 (uP (l.aj.flatMap au.ar))=L:=hL;refine bx (T:=tys) ak (by exact an mixed ak (by decide +kernel)) l.aj (fun i (x:WM×Int)=>⟨[(1,.ptr 1 0),(2,.d .nils),(3,.d .nils),(5,.mp 27),(6,.d (i64 x.2)),(29,.d (bF l.aj)),(30,.d (i64 l.aj.length)),(31,.d (i64 i))],[(1,.box (.dd l.cells)),(27,.map (eJ aD MW x.1))],st⟩) (fun i r x=>qo x.1 (uP (r.flatMap au.ar))=T/\OB x.2 (uP (r.flatMap au.ar))=L/\0<=x.2/\x.2<=99) ([],0) (Wk.sub (by repeat' first|constructor|simp[PX.get]) (by repeat' first|constructor|simp[PX.get])) ⟨hT,WY,by simp,by simp⟩ ?_ ?_
  ·rintro i b r ⟨m,last⟩ hb hi hr ⟨qB,kL,No⟩
   have hB:=hR.book b (List.mem_of_getElem? hb);have QX:=hB.ar;simp only at qB kL No;rw[List.flatMap_cons]at qB kL;conv=>whnf
   refine af (fun _=>?_) (fun h=>absurd hi (by simpa using h));conv=>whnf
   refine aw hb ?_;conv=>whnf
   refine bx (T:=tys) ak (by exact an mixed ak (by decide +kernel)) b.ar (fun k (x:WM×Int)=>⟨[(1,.ptr 1 0),(2,.d .nils),(3,.d .nils),(5,.mp 27),(6,.d (i64 x.2)),(29,.d (bF l.aj)),(30,.d (i64 l.aj.length)),(31,.d (i64 i)),(36,.d (kJ b.ar)),(37,.d (i64 b.ar.length)),(38,.d (i64 k))],[(1,.box (.dd l.cells)),(27,.map (eJ aD MW x.1))],st⟩) (fun k q x=>qo x.1 (uP (q++r.flatMap au.ar))=T/\OB x.2 (uP (q++r.flatMap au.ar))=L/\0<=x.2/\x.2<=99) (m,last) (Wk.sub (by repeat' first|constructor|simp[PX.get]) (by repeat' first|constructor|simp[PX.get])) ⟨qB,kL,No⟩ ?_ ?_
   ·rintro k y q ⟨m,last⟩ hy hk hq ⟨qB,kL,No⟩
    have hyR:=hB.fG y (List.mem_of_getElem? hy);simp only at qB kL No;conv=>whnf
    refine af (fun _=>?_) (fun h=>absurd hk (by simpa using h));conv=>whnf
    refine aw hy ?_;conv=>whnf
    refine ai (zS y) rfl rfl ?_;by_cases h3:y.kind=3
    ·have ht:bL y = .ifc 228 (.agg [.str y.word,i64 y.number]):=by unfold bL;rw[if_neg (by omega),if_neg (by omega),if_pos h3]
     rw[ht];have YM:uP (y::q++r.flatMap au.ar)=y::uP (q++r.flatMap au.ar):=by unfold uP;rw[List.cons_append,List.filter_cons,if_pos (by simp[h3])]
     rw[YM]at qB kL;rw[qo]at qB;have kL:OB (max last y.number) (uP (q++r.flatMap au.ar))=L:=kL;conv=>whnf
     cases hg:bD m y.number with
     | none=>
      rw[hg]at qB;simp only at qB;refine⟨none,aP (kd:=aD) aO hg 0,?_⟩;conv=>whnf
      refine⟨none,aP (kd:=aD) aO hg 0,?_⟩;conv=>whnf
      refine ae (wrap_i64 (by(try dsimp only);omega)) ?_;conv=>whnf
      refine⟨(cH m y.number y.word,max last y.number),⟨qB,kL,by simp only;omega⟩,Wk.sub ⟨rfl,rfl,rfl,rfl,rfl,rfl,rfl,rfl,rfl,rfl,rfl,trivial⟩ ⟨rfl,?_,trivial⟩⟩;exact congrArg (fun z=>some (Obj.map z)) (cr (kd:=aD) (vd:=MW) y.word hg)
     | some w=>
      rw[hg]at qB;simp only at qB;obtain⟨ix,_,mf,ub,_⟩:=a8 (kd:=aD) (vd:=MW) aO hg 0;refine⟨_,mf,?_⟩;conv=>whnf
      by_cases hw:w=y.word
      ·rw[if_pos hw]at qB
       rw[decide_eq_true hw];conv=>whnf
       refine⟨_,mf,?_⟩;conv=>whnf
       refine ae (wrap_i64 (by(try dsimp only);omega)) ?_;conv=>whnf
       refine⟨(cH m y.number y.word,max last y.number),⟨qB,kL,by simp only;omega⟩,Wk.sub ⟨rfl,rfl,rfl,rfl,rfl,rfl,rfl,rfl,rfl,rfl,rfl,trivial⟩ ⟨rfl,?_,trivial⟩⟩;show some (Obj.map ((eJ aD MW m).set (0+ix) (i64 y.number,.str y.word)))=_;rw[Nat.zero_add];exact congrArg (fun z=>some (Obj.map z)) (ub y.word)
      ·rw[if_neg hw]at qB
       subst qB;rw[decide_eq_false hw];simp only[if_true];conv=>whnf
       refine xe 0 rfl (d:=.tup [ax [],ax [],i64 5]) rfl ⟨⟨rfl,rfl⟩,rfl⟩
    ·have YM:uP (y::q++r.flatMap au.ar)=uP (q++r.flatMap au.ar):=by unfold uP;rw[List.cons_append,List.filter_cons,if_neg (by simp[h3])]
     rw[YM]at qB kL;by_cases h2:y.kind=2
     ·have ht:bL y = .ifc 288 (.agg []):=by unfold bL;rw[if_neg (by omega),if_pos h2]
      rw[ht];conv=>whnf
      refine ae (wrap_i64 (by(try dsimp only);omega)) ?_;conv=>whnf
      exact⟨(m,last),⟨qB,kL,No⟩,(Wk.sub (by repeat' first|constructor|simp[PX.get]) (by repeat' first|constructor|simp[PX.get]))⟩
     ·have ht:bL y = .ifc 214 (.agg [.str y.word]):=by unfold bL;rw[if_pos (by omega)]
      rw[ht];conv=>whnf
      refine ae (wrap_i64 (by(try dsimp only);omega)) ?_;conv=>whnf
      exact⟨(m,last),⟨qB,kL,No⟩,(Wk.sub (by repeat' first|constructor|simp[PX.get]) (by repeat' first|constructor|simp[PX.get]))⟩
   ·rintro ⟨m,last⟩ ⟨qB,kL,No⟩
    simp only at qB kL No;rw[List.nil_append]at qB kL;conv=>whnf
    refine af (fun h=>absurd h (by simp)) (fun _=>?_);conv=>whnf
    refine ae (wrap_i64 (by(try dsimp only);omega)) ?_;conv=>whnf
    exact⟨(m,last),⟨qB,kL,No⟩,(Wk.sub (by repeat' first|constructor|simp[PX.get]) (by repeat' first|constructor|simp[PX.get]))⟩
  ·rintro ⟨m,last⟩ ⟨qB,kL,No⟩
   have qB:false=T:=qB;have kL:last=L:=kL;subst qB;subst kL;simp only[Bool.false_eq_true,if_false];conv=>whnf
   refine af (fun h=>absurd h (by simp)) (fun _=>?_);conv=>whnf
   refine qv (VW l hR Y st) [] rfl rfl rfl rfl ?_;rintro v h1 s' ⟨⟨rfl,m1,m2,hC,rfl⟩,rfl⟩;refine⟨rfl,?_⟩;conv=>whnf
   have fF:∀ n,eF m1 n=(B5 l n:Nat):=hC.Xp;have UY:∀ n,eF m2 n=(HS l n:Nat):=hC.Jc;unfold Qd Pp;rw[hL];generalize CF:((List.range' 1 last.toNat).map fun(n:Nat)=>(n:Int)).filter (fun n=>decide (B5 l n=0))=MS;generalize CE:((List.range' 1 last.toNat).map fun(n:Nat)=>(n:Int)).filter (fun n=>decide (B5 l n≠0)&&decide (1<HS l n))=CP;have yl:(last.toNat:Int)=last:=by omega
   refine dh (T:=tys) ak (by exact an mixed ak (by decide +kernel)) (α:=Nat×(List Int×List Int)) (fun z=>⟨[(2,.sl 93 1 0 z.2.1.length),(3,.sl 102 1 0 z.2.2.length),(6,.d (i64 last)),(15,.d (.mv (eJ aD aD m1))),(16,.d (.mv (eJ aD aD m2))),(17,.d (i64 z.1))],[(93,.arr 1 (.dd (eD z.2.1))),(102,.arr 1 (.dd (eD z.2.2)))],s'⟩)
    (fun z=>1<=z.1/\z.1<=last.toNat+1/\z.2.1.length<=z.1/\z.2.2.length<=z.1/\z.2.1++((List.range' z.1 (last.toNat+1-z.1)).map fun(n:Nat)=>(n:Int)).filter (fun n=>decide (B5 l n=0))=MS/\z.2.2++((List.range' z.1 (last.toNat+1-z.1)).map fun(n:Nat)=>(n:Int)).filter (fun n=>decide (B5 l n≠0)&&decide (1<HS l n))=CP) (fun z=>last.toNat+1-z.1) (1,([],[])) ?_ ⟨by simp,by simp,by simp,by simp,CF,CE⟩ ?_
   ·exact(Wk.born 2 93 1 rfl rfl rfl).trans ((Wk.born 3 102 1 rfl rfl rfl).trans (Wk.sub (by repeat' first|constructor|simp[PX.get]) (by repeat' first|constructor|simp[PX.get])))
   rintro ⟨n,a,c⟩ ⟨FD,E1,ha,rR,CF,CE⟩;simp only at FD E1 ha rR CF CE;conv=>whnf
   refine af (fun h1=>?_) (fun h1=>?_)
   ·have h1:n<last.toNat+1:=by have:=of_decide_eq_true h1;simp only at this;omega
    obtain⟨k,eI⟩:∃ k,last.toNat+1-n=k+1:=⟨last.toNat-n,by omega⟩;have gu:last.toNat+1-(n+1)=k:=by omega
    rw[eI,List.range'_succ,List.map_cons,List.filter_cons]at CF CE;conv=>whnf
    have wa:=fF n;have uC:=UY n
    cases eo:bD m1 n with
    | none=>
     unfold eF at wa;rw[eo]at wa;simp only[Option.getD_none]at wa;refine⟨none,aP (kd:=aD) aO eo 0,?_⟩;rw[if_pos (by simp;omega)]at CF;rw[if_neg (by simp;omega)]at CE;conv=>whnf
     refine ag rfl ?_;conv=>whnf
     refine ag (by simp[aK.len,eD]) ?_;conv=>whnf
     refine aQ (decide_eq_true (by
      show((eD a).length+1)*8<=140737488355328;simp[eD];omega)) ?_
     conv=>whnf
     refine ao (((n+1:Nat):Int)) (by(try dsimp only);omega) (wrap_i64 (by(try dsimp only);omega)) ?_;conv=>whnf
     refine⟨(n+1,(a ++ [(n:Int)],c)),by simp only;omega,⟨by simp only;omega,by simp only;omega,by simp only[List.length_append,List.length_singleton];omega,by simp only;omega,by simp only;rw[gu,List.append_assoc];exact CF,by simp only;rw[gu];exact CE⟩,Wk.sub ⟨?_,rfl,rfl,rfl,rfl,rfl,trivial⟩ ⟨?_,rfl,trivial⟩⟩
     ·show some (V.sl 93 1 0 ((eD a).length+1))=_
      simp[eD]
     ·show some (Obj.arr 1 (.dd (eD a ++ [[i64 n]])))=_
      simp[eD]
    | some v1=>
     unfold eF at wa;rw[eo]at wa;simp only[Option.getD_some]at wa;obtain⟨ix,_,mf,_⟩:=a8 (kd:=aD) (vd:=aD) aO eo 0;refine⟨_,mf,?_⟩;conv=>whnf
     refine af (fun h2=>?_) (fun h2=>?_)
     ·have h2:v1=0:=of_decide_eq_true h2
      rw[if_pos (by simp;omega)]at CF;rw[if_neg (by simp;omega)]at CE;conv=>whnf
      refine ag rfl ?_;conv=>whnf
      refine ag (by simp[aK.len,eD]) ?_;conv=>whnf
      refine aQ (decide_eq_true (by
       show((eD a).length+1)*8<=140737488355328;simp[eD];omega)) ?_
      conv=>whnf
      refine ao (((n+1:Nat):Int)) (by(try dsimp only);omega) (wrap_i64 (by(try dsimp only);omega)) ?_;conv=>whnf
      refine⟨(n+1,(a ++ [(n:Int)],c)),by simp only;omega,⟨by simp only;omega,by simp only;omega,by simp only[List.length_append,List.length_singleton];omega,by simp only;omega,by simp only;rw[gu,List.append_assoc];exact CF,by simp only;rw[gu];exact CE⟩,Wk.sub ⟨?_,rfl,rfl,rfl,rfl,rfl,trivial⟩ ⟨?_,rfl,trivial⟩⟩
      ·show some (V.sl 93 1 0 ((eD a).length+1))=_
       simp[eD]
      ·show some (Obj.arr 1 (.dd (eD a ++ [[i64 n]])))=_
       simp[eD]
     ·have h2:¬ v1=0:=of_decide_eq_false h2
      conv=>whnf
      cases gC:bD m2 n with
      | none=>
       unfold eF at uC;rw[gC]at uC;simp only[Option.getD_none]at uC;refine⟨none,aP (kd:=aD) aO gC 0,?_⟩;rw[if_neg (by simp;omega)]at CF;rw[if_neg (by simp;omega)]at CE;conv=>whnf
       refine ao (((n+1:Nat):Int)) (by(try dsimp only);omega) (wrap_i64 (by(try dsimp only);omega)) ?_;conv=>whnf
       exact⟨(n+1,(a,c)),by simp only;omega,⟨by simp only;omega,by simp only;omega,by simp only;omega,by simp only;omega,by simp only;rw[gu];exact CF,by simp only;rw[gu];exact CE⟩,(Wk.sub (by repeat' first|constructor|simp[PX.get]) (by repeat' first|constructor|simp[PX.get]))⟩
      | some v2=>
       unfold eF at uC;rw[gC]at uC;simp only[Option.getD_some]at uC;obtain⟨iy,_,mw,_⟩:=a8 (kd:=aD) (vd:=aD) aO gC 0;refine⟨_,mw,?_⟩;conv=>whnf
       refine af (fun h3=>?_) (fun h3=>?_)
       ·have h3:1<v2:=of_decide_eq_true h3
        rw[if_neg (by simp;omega)]at CF;rw[if_pos (by simp;omega)]at CE;conv=>whnf
        refine ag rfl ?_;conv=>whnf
        refine ag (by simp[aK.len,eD]) ?_;conv=>whnf
        refine aQ (decide_eq_true (by
         show((eD c).length+1)*8<=140737488355328;simp[eD];omega)) ?_
        conv=>whnf
        refine ao (((n+1:Nat):Int)) (by(try dsimp only);omega) (wrap_i64 (by(try dsimp only);omega)) ?_;conv=>whnf
        refine⟨(n+1,(a,c ++ [(n:Int)])),by simp only;omega,⟨by simp only;omega,by simp only;omega,by simp only;omega,by simp only[List.length_append,List.length_singleton];omega,by simp only;rw[gu];exact CF,by simp only;rw[gu,List.append_assoc];exact CE⟩,Wk.sub ⟨rfl,?_,rfl,rfl,rfl,rfl,trivial⟩ ⟨rfl,?_,trivial⟩⟩
        ·show some (V.sl 102 1 0 ((eD c).length+1))=_
         simp[eD]
        ·show some (Obj.arr 1 (.dd (eD c ++ [[i64 n]])))=_
         simp[eD]
       ·have h3:¬ 1<v2:=of_decide_eq_false h3
        rw[if_neg (by simp;omega)]at CF;rw[if_neg (by simp;omega)]at CE;conv=>whnf
        refine ao (((n+1:Nat):Int)) (by(try dsimp only);omega) (wrap_i64 (by(try dsimp only);omega)) ?_;conv=>whnf
        exact⟨(n+1,(a,c)),by simp only;omega,⟨by simp only;omega,by simp only;omega,by simp only;omega,by simp only;omega,by simp only;rw[gu];exact CF,by simp only;rw[gu];exact CE⟩,(Wk.sub (by repeat' first|constructor|simp[PX.get]) (by repeat' first|constructor|simp[PX.get]))⟩
   ·have h1:¬ n<last.toNat+1:=by have:=of_decide_eq_false h1;simp only at this;omega
    rw[show last.toNat+1-n=0 by omega]at CF CE;have CF:a=MS:=by simpa using CF
    have CE:c=CP:=by simpa using CE
    subst CF;subst CE;conv=>whnf
    refine ab 1 (ds:=[ax a,ax c,i64 0]) (az (bH rfl (by simp[eD])) (az (bH rfl (by simp[eD])) rfl)) ⟨⟨rfl,rfl⟩,rfl⟩
 ·rw[if_neg hc]
  refine ai (kN l _ _ _ (jI l)) rfl rfl ?_;conv=>whnf
  generalize bB l=E at hc;refine af (fun _=>?_) (fun h=>absurd hc (by simpa using h));conv=>whnf
  refine xe 0 rfl (d:=.tup [ax [],ax [],i64 E]) rfl ⟨⟨rfl,rfl⟩,rfl⟩
def cS(l:List Int):List (List D):=l.map fun n=>[i64 n]
def vw(p:List Int):List V×Heap:=([.sl 1000000 1 0 p.length],[(1000000,.arr 1 (.dd (cS p)))])
def RZ(of:List Int):List V:=[.ptr 1000000 0,.ptr 1000001 0,.d (.ref [ax of]),.ptr 1000002 0]
def FY(of:List Int)(start left:Nat):List V:=[.d (i64 start),.d (i64 left),.ptr 1000000 0,.ptr 1000001 0,.d (.ref [ax of]),.ptr 1000002 0]
def R0(of:List Int)(k n:Nat)(p:List Int):Heap:=
 [(1000000,.box (.vv [.yld])),(1000001,.box (.vv [.sl k 1 0 n])),(1000002,.box (.vv [.clo 172 (RZ of)])),(k,.arr 1 (.dd (cS p)))]
def GX(of:List Int)(left:Nat):Prop:=
 ∀ (start:Nat) (p:List Int),left<=of.length->p.length+left<=of.length->start<=of.length -> ∀ {σ:Type} (Y:Hd σ) (s0:σ) (rest:List (List V×Heap)) (Q:σ->Prop),
  iterate Y.np ((kB of left p start).map vw++rest) s0 Q->Nx Tryz.prog Y 172 (FY of start left) (R0 of 1000003 p.length p) s0 fun v h' s'=>
   ∃ q,h'=R0 of 2000000 q.length q/\((v = .d (.bool true)/\q=p/\iterate Y.np rest s' Q)\/(v = .d (.bool false)/\Q s'))
theorem FV{of:List Int}(CK:of.length<=1000):GX of 0:=by
 intro start p hl hp jA σ Y s0 rest Q hit;refine dQ mixed ak Tryz.func172 rfl (ft:=Hl) (args:=FY of start 0) (show nS Hl Tryz.f172 6=true from by decide +kernel) ?_;generalize Y.np=Y at hit ⊢;have wG:kB of 0 p start = [p]:=rfl;rw[wG]at hit;conv=>whnf
 refine Kh [1000003] (args0:=(vw p).1) (h0:=(vw p).2) hit rfl ⟨_,_,rfl,rfl,rfl⟩ rfl rfl ?_;rintro v h1 s' ⟨rfl,hv⟩;rcases hv with⟨rfl,hi⟩|⟨rfl,hq⟩
 ·refine⟨rfl,?_⟩
  conv=>whnf
  refine aC [1000003] [.d (.bool true)] (R0 of 2000000 p.length p) rfl ⟨rfl,rfl,rfl,rfl,trivial⟩ rfl ?_;exact⟨p,rfl,.inl ⟨rfl,rfl,hi⟩⟩
 ·refine⟨rfl,?_⟩
  conv=>whnf
  refine aC [1000003] [.d (.bool false)] (R0 of 2000000 p.length p) rfl ⟨rfl,rfl,rfl,rfl,trivial⟩ rfl ?_;exact⟨p,rfl,.inr ⟨rfl,hq⟩⟩
theorem FU{of:List Int}(CK:of.length<=1000){left:Nat}(ihl:GX of left):GX of (left+1):=by
 intro start p hl hp jA σ Y s0 rest Q hit;refine dQ mixed ak Tryz.func172 rfl (ft:=Hl) (args:=FY of start (left+1)) (show nS Hl Tryz.f172 6=true from by decide +kernel) ?_;generalize Y.np=Y at hit ⊢;have rR:(cS p).length=p.length:=by simp[cS]
 have wG:kB of (left+1) p start=(List.range' start (of.length-left-start)).flatMap fun(i:Nat)=>kB of left (p ++ [(of[i]?).getD 0]) (i+1):=rfl;rw[wG]at hit;conv=>whnf
 refine dh (T:=tys) ak (by exact an mixed ak (by decide +kernel)) (α:=Nat×σ)
  (fun x=>⟨[(1,.d (i64 (left+1:Nat))),(2,.ptr 1000000 0),(3,.ptr 1000001 0),(4,.d (.ref [ax of])),(5,.ptr 1000002 0),(9,.d (i64 x.1))],R0 of 900000 p.length p,x.2⟩)
  (fun x=>x.1<=of.length/\iterate Y (((List.range' x.1 (of.length-left-x.1)).flatMap fun(i:Nat)=>kB of left (p ++ [(of[i]?).getD 0]) (i+1)).map vw++rest) x.2 Q) (fun x=>of.length-x.1) (start,s0)
  ((Wk.move 1000003 900000 rfl rfl).trans (Wk.sub ⟨rfl,rfl,rfl,rfl,rfl,rfl,trivial⟩ ⟨rfl,rfl,rfl,rfl,trivial⟩)) ⟨jA,hit⟩ ?_
 clear hit jA s0;rintro ⟨i,s0⟩ ⟨hi,hit⟩;simp only at hi hit;conv=>whnf
 refine ao ((of.length:Int)-(left+1:Nat)) (by simp) (wrap_i64 (by omega)) ?_;conv=>whnf
 refine af (fun h1=>?_) (fun h1=>?_)
 ·have h1:i<=of.length-(left+1):=by have:=of_decide_eq_true h1;simp at this;omega
  have Hv:i<of.length:=by omega
  obtain⟨m,zx⟩:∃ m,of.length-left-i=m+1:=⟨of.length-left-i-1,by omega⟩;have hoi:(of[i]?).getD 0=of[i]:=by rw[List.getElem?_eq_getElem Hv];rfl
  rw[zx,List.range'_succ,List.flatMap_cons,List.map_append,List.append_assoc,hoi]at hit;conv=>whnf
  refine bh [i64 of[i]] ⟨by omega,by rw[Int.toNat_natCast,List.getElem?_map,List.getElem?_eq_getElem Hv];rfl⟩ ?_;conv=>whnf
  refine ag rfl ?_;conv=>whnf
  refine Js.mk (by simp[aK.len,rR]) ?_;conv=>whnf
  refine aQ (by simp[aK.len,aK.part,rR];omega) ?_;conv=>whnf
  refine ao (((i+1:Nat):Int)) (by(try dsimp only);omega) (wrap_i64 (by(try dsimp only);omega)) ?_;conv=>whnf
  refine ao (((left:Nat):Int)) (by(try dsimp only);omega) (wrap_i64 (by(try dsimp only);omega)) ?_;conv=>whnf
  have ih:=ihl (i+1) (p ++ [of[i]]) (by omega) (by simp;omega) (by omega) Y s0 _ Q hit.np;refine qv ih [1000000,1000001,1000002,30] rfl ⟨_,_,rfl,rfl,_,_,rfl,(by
    show some (Obj.box (Cells.vv [V.sl 30 1 0 ((((cS p).drop 0).take p.length).length+1)]))=some (Obj.box (Cells.vv [V.sl 30 1 0 (p ++ [of[i]]).length]));simp[cS]),_,_,rfl,rfl,_,_,rfl,(by
    show some (Obj.arr 1 (aK.dd ((((cS p).drop 0).take p.length) ++ [[i64 of[i]]])))=some (Obj.arr 1 (aK.dd (cS (p ++ [of[i]]))));simp[cS,List.take_of_length_le]),rfl⟩ rfl rfl ?_
  rintro v h1 s' ⟨q,rfl,ri⟩;rw[lP]at ri;rcases ri with⟨rfl,rfl,uC⟩|⟨rfl,hq⟩
  ·refine⟨rfl,?_⟩
   conv=>whnf
   refine ao (p.length:Int) (by simp) (wrap_i64 (by omega)) ?_;conv=>whnf
   refine aQ (by simp;omega) ?_;conv=>whnf
   refine ao (((i+1:Nat):Int)) (by(try dsimp only);omega) (wrap_i64 (by(try dsimp only);omega)) ?_;conv=>whnf
   have FC:of.length-left-(i+1)=m:=by omega
   refine⟨(i+1,s'),by simp only;omega,⟨by simp only;omega,by simp only;rw[FC];exact uC⟩,(Wk.move 102304 900000 rfl rfl).trans ((Wk.shrink 900000 p.length rfl).trans ?_)⟩;have JZ:(cS (p ++ [of[i]])).take p.length=cS p:=by simp[cS,List.take_left']
   refine Wk.sub ⟨rfl,rfl,rfl,rfl,rfl,rfl,trivial⟩ ⟨rfl,?_,?_,?_,trivial⟩
   ·rfl
   ·exact bK rfl ⟨⟨rfl,⟨rfl,rfl⟩,⟨rfl,rfl⟩,rfl,⟨rfl,rfl⟩,trivial⟩,trivial⟩
   ·show some (Obj.arr 1 (aK.dd ((cS (p ++ [of[i]])).take p.length)))=_
    rw[JZ]
  ·refine⟨rfl,?_⟩
   conv=>whnf
   refine aC [102304] [.d (.bool false)] (R0 of 2000000 q.length q) rfl ⟨rfl,bK rfl ⟨⟨rfl,rfl,rfl,rfl⟩,trivial⟩,bK rfl ⟨⟨rfl,⟨rfl,rfl⟩,⟨rfl,rfl⟩,rfl,⟨rfl,rfl⟩,trivial⟩,trivial⟩,rfl,trivial⟩ rfl ?_;exact⟨q,rfl,.inr ⟨rfl,hq⟩⟩
 ·have h1:¬ (i:Int)<=(of.length:Int)-((left+1:Nat):Int):=of_decide_eq_false h1
  rw[show of.length-left-i=0 by omega]at hit;conv=>whnf
  refine aC [900000] [.d (.bool true)] (R0 of 2000000 p.length p) rfl ⟨rfl,bK rfl ⟨⟨rfl,rfl,rfl,rfl⟩,trivial⟩,bK rfl ⟨⟨rfl,⟨rfl,rfl⟩,⟨rfl,rfl⟩,rfl,⟨rfl,rfl⟩,trivial⟩,trivial⟩,rfl,trivial⟩ rfl ?_;exact⟨p,rfl,.inl ⟨rfl,rfl,hit⟩⟩
theorem Vu{of:List Int}(CK:of.length<=1000)(left:Nat):GX of left:=by
 induction left with
 | zero=>exact FV CK
 | succ n ih=>exact FU CK ih
theorem aax(of:List Int):bq Tryz.prog 115 [ax of] (.clo 171 [.ref [ax of]]):=by
 refine aI mixed ak Tryz.func115 rfl (ft:=TC) 1 (by decide +kernel) (by rfl) fun {σ} Y st=>?_;conv=>whnf
 exact ab 1 rfl ⟨⟨rfl,rfl⟩,rfl⟩
theorem JS(of:List Int)(CK:of.length<=1000):Yields Tryz.prog 171 [.ref [ax of]] ((yD of).map vw):=by
 intro γ Y g0 Q hit;refine dQ mixed ak Tryz.func171 rfl (ft:=PE) (args:=[.yld,.d (.ref [ax of])]) (show nS PE Tryz.f171 2=true from by decide +kernel) ?_;replace hit:=hit.np;generalize Y.np=Y at hit ⊢;conv=>whnf
 refine ao ((of.length+1:Nat):Int) (by simp) (wrap_i64 (by omega)) ?_;conv=>whnf
 refine dh (T:=tys) ak (by exact an mixed ak (by decide +kernel)) (α:=Nat×γ)
  (fun x=>⟨[(1,.d (.ref [ax of])),(2,.ptr 2 0),(3,.ptr 3 0),(4,.ptr 4 0),(9,.d (i64 (of.length+1:Nat))),(10,.d (i64 x.1))],[(2,.box (.vv [.yld])),(3,.box (.vv [.sl 900000 1 0 0])),(4,.box (.vv [.clo 172 [.ptr 2 0,.ptr 3 0,.d (.ref [ax of]),.ptr 4 0]])),(900000,.arr 1 (.dd []))],x.2⟩)
  (fun x=>x.1<=of.length+1/\iterate Y (((List.range' x.1 (of.length+1-x.1)).flatMap fun(n:Nat)=>kB of n [] 0).map vw) x.2 Q) (fun x=>of.length+1-x.1) (0,g0)
  ((Wk.G7 3 900000 1 rfl rfl rfl rfl).trans (Wk.sub ⟨rfl,rfl,rfl,rfl,rfl,rfl,trivial⟩ ⟨rfl,rfl,rfl,rfl,trivial⟩)) ⟨Nat.zero_le _,hit⟩ ?_
 clear hit g0;rintro ⟨n,g0⟩ ⟨hn,hit⟩;simp only at hn hit;conv=>whnf
 refine af (fun h1=>?_) (fun h1=>?_)
 ·have h1:n<of.length+1:=by have:=of_decide_eq_true h1;simp only at this;omega
  obtain⟨m,zx⟩:∃ m,of.length+1-n=m+1:=⟨of.length-n,by omega⟩;rw[zx,List.range'_succ,List.flatMap_cons,List.map_append]at hit;conv=>whnf
  refine qv (Vu CK n 0 [] (by omega) (by simp;omega) (by omega) Y g0 _ Q hit.np) [2,3,4,900000] rfl ⟨_,_,rfl,rfl,_,_,rfl,rfl,_,_,rfl,rfl,_,_,rfl,rfl,rfl⟩ rfl rfl ?_;rintro v h1 s' ⟨q,rfl,ri⟩;rw[lP]at ri;rcases ri with⟨rfl,rfl,uC⟩|⟨rfl,hq⟩
  ·refine⟨rfl,?_⟩
   conv=>whnf
   refine ao (((n+1:Nat):Int)) (by(try dsimp only);omega) (wrap_i64 (by(try dsimp only);omega)) ?_;conv=>whnf
   have FC:of.length+1-(n+1)=m:=by omega
   exact⟨(n+1,s'),by simp only;omega,⟨by simp only;omega,by simp only;rw[FC];exact uC⟩,(Wk.move 100960 900000 rfl rfl).trans (Wk.sub ⟨rfl,rfl,rfl,rfl,rfl,rfl,trivial⟩ ⟨rfl,rfl,rfl,rfl,trivial⟩)⟩
  ·refine⟨rfl,?_⟩
   conv=>whnf
   exact ab 0 rfl ⟨rfl,hq⟩
 ·have h1:¬ n<of.length+1:=by have:=of_decide_eq_false h1;simp only at this;omega
  rw[show of.length+1-n=0 by omega]at hit;conv=>whnf
  exact ab 0 rfl ⟨rfl,hit⟩
end Go.PX
