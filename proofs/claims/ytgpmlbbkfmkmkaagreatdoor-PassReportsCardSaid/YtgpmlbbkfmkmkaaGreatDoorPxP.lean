import Derived.Test.YtgpmlbbkfmkmkaaGreatDoorPxO
import Derived.Tactics
import Derived.Tactics2
import Derived.Recover
import Derived.Test.YtgpmlbbkfmkmkaaGreatDoorPxN
import Derived.Test.YtgpmlbbkfmkmkaaGreatDoorPxM
set_option linter.all false
set_option maxRecDepth 10000
namespace Go.PX
open Go.Proofs
open Go.RowKit
theorem clo93_pan2(near:Int):CloD Tryz.prog 93 (.panicking [{ v:=qiH,recovered:=false }]) (.panicking [{ v:=qiH,recovered:=true }]) [(1000000,.box (.dd [i64 near,.nils])),(1000001,.box (.dd [i64 0]))] [(1000000,.box (.dd [i64 0,.nils])),(1000001,.box (.dd [i64 6]))]:=by
 intro σ cx hl L F s w hh;refine callsDIn_of_wpSIn Tryz.func93 rfl trivial fun c₀ cs hu=>?_;apply wpSIn_seq;apply wpSIn_region;simp[wpOpsSIn,go_sem,recoverD,hu,Exit.thenS];refine wpSIn_of_wpIn rfl ?_;refine qiN qi (ft:=qpz) hl hh (n:=9) rfl (v:=qiH) (d:=.ifc 27 (i64 6)) ⟨_,rfl,rfl⟩ trivial (by simp) rfl (by rfl) (by rfl) (by rfl) (by decide +kernel) (by exact(qd mixed qi (by decide +kernel))) rfl (h':=[(1000000,.box (.dd [i64 0,.nils])),(1000001,.box (.dd [i64 6]))]) ?_ ?_
 ·intro a' w' L' F' hdf hh' tr pin
  refine⟨hdf,.panicking [{ v:=qiH,recovered:=true }],rfl,.tuple #[],qok _ _,⟨⟨_,rfl⟩,rfl,L',F',hh',tr,pin⟩⟩
 ·conv=>whnf
  exact⟨qaB ⟨rfl,rfl,trivial⟩,rfl⟩
def qeu:Nat->PLog->List UInt8->Option PLog
 | 0,c,_=>some c
 | n+1,c,l=>if l = [] then some c else
  if (qbr 10 l).2.2 then
   match qdm c (jR 32 ⟨(qbr 10 l).1.toArray⟩) with
   | some c'=>qeu n c' (qbr 10 l).2.1
   | none=>none
  else none
def qou:PLog:=⟨0,[]⟩
def qmZ(l:List UInt8):Option (Int×List UInt8):=
 if (qbr 10 l).2.2 then
  if (qnh ⟨(qbr 10 l).1.toArray⟩ qlU).2 then (jq (qnh ⟨(qbr 10 l).1.toArray⟩ qlU).1).map fun n=>(n,(qbr 10 l).2.1) else none
 else none
def qaL(l:List UInt8):Option PLog:=match qmZ l with
 | none=>none
 | some x=>qeu x.2.length ⟨x.1,[]⟩ x.2
def qjR(s:ByteArray):PLog×Int:=
 if 1500<s.size then (qou,3) else
 match qaL s.data.toList with
 | some c=>if qz c=0/\qmc c=s then (c,0) else (qou,6)
 | none=>(qou,6)
theorem qev(c:UInt8):∀ l:List UInt8,(qbr c l).1.length+(qbr c l).2.1.length<=l.length/\(l ≠ []->(qbr c l).2.1.length<l.length)
 | []=>by simp[qbr]
 | x::r=>by
  have ih:=qev c r;rw[qbr]
  split
  ·simp
  ·simp only[List.length_cons]
   refine⟨by omega,fun _=>?_⟩;omega
theorem qhS:∀ (n m:Nat) (c:PLog) (l:List UInt8),l.length<=n->l.length<=m->qeu n c l=qeu m c l
 | 0,0,_,_,_,_=>rfl
 | 0,m+1,c,l,hn,_=>by
  have:l = []:=List.length_eq_zero_iff.1 (by omega);rw[qeu,qeu,if_pos this]
 | n+1,0,c,l,_,hm=>by
  have:l = []:=List.length_eq_zero_iff.1 (by omega);rw[qeu,qeu,if_pos this]
 | n+1,m+1,c,l,hn,hm=>by
  rw[qeu,qeu]
  by_cases h:l = []
  ·rw[if_pos h,if_pos h]
  ·rw[if_neg h,if_neg h]
   have:=(qev 10 l).2 h
   split
   ·cases qdm c (jR 32 ⟨(qbr 10 l).1.toArray⟩) with
    | none=>rfl
    | some c'=>exact qhS n m c' _ (by omega) (by omega)
   ·rfl
def qlV(c:PLog)(l:List UInt8):Option PLog:=qeu l.length c l
theorem readL_eq(c:PLog)(l:List UInt8):qlV c l=if l = [] then some c else
  if (qbr 10 l).2.2 then
   match qdm c (jR 32 ⟨(qbr 10 l).1.toArray⟩) with
   | some c'=>qlV c' (qbr 10 l).2.1
   | none=>none
  else none:=by
 unfold qlV
 by_cases h:l = []
 ·subst h;rfl
 ·obtain⟨x,r,rfl⟩:=List.exists_cons_of_ne_nil h
  rw[if_neg h];have hl:=(qev 10 (x::r)).2 h;show qeu (r.length+1) c (x::r)=_;rw[qeu,if_neg h]
  split
  ·cases qdm c (jR 32 ⟨(qbr 10 (x::r)).1.toArray⟩) with
   | none=>rfl
   | some c'=>exact qhS _ _ c' _ (by simp at hl;omega) (Nat.le_refl _)
  ·rfl
def qgS(e:Int):D:=.tup [.agg [i64 0,.nils],i64 e]
theorem qoX(l:List UInt8)(c:UInt8)(hs:l.length<=1000000000):FnV Tryz.prog 94 [.str ⟨l.toArray⟩,.str ⟨#[c]⟩] (.tup [.str ⟨(qbr c l).1.toArray⟩,.str ⟨(qbr c l).2.1.toArray⟩,.bool (qbr c l).2.2]):=by
 have h:=@pa94 ⟨l.toArray⟩ c (by show l.toArray.size<=_;simpa using hs);have e:(⟨l.toArray⟩:ByteArray).data.toList=l:=rfl;rw[e]at h;exact fun {σ}=>h
theorem qew{σ:Type}{st:σ}{en:Env}{h:Heap}{near:Int}{i n:Nat}(h2:get en 2=some (.ptr 1000000 0))(h3:get en 3=some (.ptr 1000001 0))(hh:qeK h [(1000000,.box (.vv [.d (i64 near),.sl i 6 0 n])),(1000001,.box (.dd [i64 0]))]) :
  qot Tryz.prog tys Tryz.f41 93 2 3 (qgS 6) st (.panicking [{ v:=qiH,recovered:=false }]) en h st:=by
 refine⟨h2,h3,.panicking [{ v:=qiH,recovered:=true }],_,rfl,CloD.sub (h0:=[(1000000,.box (.vv [.d (i64 near),.sl i 6 0 n])),(1000001,.box (.dd [i64 0]))]) (fun {σ}=>clo93_pan near i n) hh,?_⟩;conv=>whnf
 exact qb 1 rfl ⟨rfl,rfl,rfl⟩
theorem qkB{σ:Type}{st:σ}{en:Env}{h:Heap}{near:Int}(h2:get en 2=some (.ptr 1000000 0))(h3:get en 3=some (.ptr 1000001 0))(hh:qeK h [(1000000,.box (.dd [i64 near,.nils])),(1000001,.box (.dd [i64 0]))]) :
  qot Tryz.prog tys Tryz.f41 93 2 3 (qgS 6) st (.panicking [{ v:=qiH,recovered:=false }]) en h st:=by
 refine⟨h2,h3,.panicking [{ v:=qiH,recovered:=true }],_,rfl,CloD.sub (h0:=[(1000000,.box (.dd [i64 near,.nils])),(1000001,.box (.dd [i64 0]))]) (fun {σ}=>clo93_pan2 near) hh,?_⟩;conv=>whnf
 exact qb 1 rfl ⟨rfl,rfl,rfl⟩
end Go.PX
namespace Go.PX
open Go.Proofs
open Go.RowKit
def rdH(near:Int)(o:Option (List PBook×PBook)):Heap:=match o with
 | none=>[(1000000,.box (.vv [.d (i64 near),.sl 900001 6 0 0])),(900001,.arr 6 (.dd []))]
 | some x=>lg1 1000000 900001 900002 near x.1 x.2
def rdL(near:Int)(o:Option (List PBook×PBook)):PLog:=match o with
 | none=>⟨near,[]⟩
 | some x=>⟨near,x.1 ++ [x.2]⟩
def qlC(bs:List PBook):Nat:=(bs.map fun b=>1+b.ents.length).sum
theorem qhT(c:UInt8):∀ l:List UInt8,(qak c l).length<=l.length+1
 | []=>by simp[qak]
 | x::r=>by
  have ih:=qhT c r;rw[qak]
  split
  ·simpa using ih
  ·have:(qkz x (qak c r)).length<=max 1 (qak c r).length:=by cases qak c r<;>simp[qkz]
   simp only[List.length_cons];omega
theorem qhU(c:UInt8):∀ (l:List UInt8),∀ x∈qak c l,x.length<=l.length
 | [],x,hx=>by simp[qak]at hx;subst hx;simp
 | y::r,x,hx=>by
  have ih:=qhU c r;rw[qak]at hx
  split at hx
  ·rcases List.mem_cons.1 hx with rfl | hx
   ·simp
   ·have:=ih x hx;simp only[List.length_cons];omega
  ·cases hs:qak c r with
   | nil=>rw[hs]at hx;simp[qkz]at hx;subst hx;simp
   | cons a t=>
    rw[hs]at hx ih
    rcases List.mem_cons.1 hx with rfl | hx
    ·have:=ih a (by simp);simp only[List.length_cons];omega
    ·have:=ih x (by simp[hx]);simp only[List.length_cons];omega
theorem piecesB_len(c:UInt8)(s:ByteArray):(jR c s).length<=s.size+1:=by
 have:=qhT c s.data.toList;simp only[jR,List.length_map];simpa using this
theorem piecesB_mem(c:UInt8)(s:ByteArray):∀ x∈jR c s,x.size<=s.size:=by
 intro x hx;obtain⟨y,hy,rfl⟩:=List.mem_map.1 hx;have:=qhU c s.data.toList y hy;show y.length<=s.size;simpa using this
theorem piecesB_ne(c:UInt8)(s:ByteArray):jR c s ≠ []:=by
 unfold jR;intro h;exact splitL_ne c _ (List.map_eq_nil_iff.1 h)
theorem cutP_size(s p:ByteArray):(qnh s p).1.size<=s.size:=by
 unfold qnh
 split
 ·simp
 ·exact Nat.le_refl _
theorem qhV{r:List ByteArray}{b:PBook}(h:qbX r=some b):∃ n o s,b=⟨n,o,s,[]⟩:=by
 unfold qbX at h
 split at h
 ·rename_i n a b' c d
  cases h2:four a b' c d with
  | none=>rw[h2]at h;cases h
  | some x=>rw[h2]at h;cases h;exact⟨_,_,_,rfl⟩
 ·cases h
theorem qcU(init:List PBook)(last:PBook):qlC (init ++ [last])=qlC init+1+last.ents.length/\init.length<=qlC init:=by
 have h1:qlC (init ++ [last])=qlC init+(1+last.ents.length):=by unfold qlC;rw[List.map_append,List.sum_append];simp
 refine⟨by omega,?_⟩;clear h1
 induction init with
 | nil=>exact Nat.zero_le _
 | cons b r ih=>
  have:qlC (b::r)=(1+b.ents.length)+qlC r:=by unfold qlC;rw[List.map_cons,List.sum_cons]
  rw[List.length_cons];omega
theorem qjS(b i j:Nat)(near:Int)(init:List PBook)(last:PBook):zi (lg1 b i j near init last) = [b,i,i,j,j]:=by
 show b::([i]++(i::(qS (List.flatten (qU (init.map PBook.cells) ++ [inj (hdC last) ++ [V.sl j 4 0 last.ents.length]])) ++ [j])))=_;rw[jb];rfl
theorem qhW(near:Int)(init:List PBook)(last:PBook):qbk [1000000,900001,900002] (some 51) (.d (.tup [])) (lg1 1000000 1000001 1000002 near init last)=true:=by
 unfold qbk;rw[qjS];rfl
theorem lg1_callBn(near:Int)(init:List PBook)(last:PBook):qbk [1000000,900001,900002] (some 51) (.d (.tup [])) (lg1 1000000 1000001 2000000 near init last)=true:=by
 unfold qbk;rw[qjS];rfl
theorem viewV_slv{h:Heap}{k id sz n:Nat}{vs:List (List V)}{es:List (List D)}(hg:get h id=some (.arr sz (.vv vs)))(hv:qaP (qbG h k) vs=some es)(hn:n=es.length):ji (qbG h (k+1)) (.sl id sz 0 n)=some (.vs es):=by
 have h1:Nat.beq sz sz=true:=Nat.beq_refl sz;have h2:Nat.ble (0+es.length) es.length=true:=Nat.ble_eq_true_of_le (by omega);subst hn;simp only[ji,qbG,hg,hv,h1,h2];simp
theorem qjT{h:Heap}{near:Int}{n:Nat}{l:List PBook}(hs:ji (qbG h 2) (.sl 900001 6 0 n)=some (qF l)):zJ (qbG h 2) [.agg [.d (i64 near),.sl 900001 6 0 n]]=some [(⟨near,l⟩:PLog).d]:=by
 have:zJ (qbG h 2) [.d (i64 near),.sl 900001 6 0 n]=some [i64 near,qF l]:=qx rfl (qx hs rfl);refine qx ?_ rfl;rw[ji,this];rfl
theorem qjU{h:Heap}{v:V}{d e:D}(hv:zJ (qbG h 2) [v]=some [d]):zJ (qbG h 2) [v,.d e]=some [d,e]:=by
 rw[zJ]at hv;rw[zJ]
 cases hx:ji (qbG h 2) v with
 | none=>rw[hx]at hv;cases hv
 | some d=>rw[hx]at hv;cases hv;rfl
theorem qna{h:Heap}(near:Int)(h1:get h 900001=some (.arr 6 (.dd []))):zJ (qbG h 2) [.agg [.d (i64 near),.sl 900001 6 0 0]]=some [(rdL near none).d]:=
 qjT (l:=[]) (zQ h1 (by simp))
theorem qnb{h:Heap}(near:Int)(init:List PBook)(last:PBook)(h1:get h 900001=some (.arr 6 (.vv (qU (init.map PBook.cells) ++ [inj (hdC last) ++ [.sl 900002 4 0 last.ents.length]]))))(h2:get h 900002=some (.arr 4 (.dd (last.ents.map PEnt.cells)))) :
  zJ (qbG h 2) [.agg [.d (i64 near),.sl 900001 6 0 (init.length+1)]]=some [(rdL near (some (init,last))).d]:=by
 have e1:ji (qbG h 1) (.sl 900002 4 0 last.ents.length)=some (qdF last.ents):=zQ h2 (by simp);have e2:qaP (qbG h 1) (qU (init.map PBook.cells) ++ [inj (hdC last) ++ [.sl 900002 4 0 last.ents.length]])=some (init.map PBook.cells ++ [last.cells]):=qav (qbb (qaD (a:=hdC last) (qx e1 rfl))) _;have e3:init.map PBook.cells ++ [last.cells]=(init ++ [last]).map PBook.cells:=by simp
 rw[e3]at e2;exact qjT (l:=init ++ [last]) (viewV_slv h1 e2 (by simp))
set_option maxHeartbeats 4000000 in
theorem qoY(s:ByteArray)(r:D)(h3:1500<s.size->r=qgS 3)(h6:s.size<=1500->qaL s.data.toList=none->r=qgS 6)
  (h7:s.size<=1500 -> ∀ c,qaL s.data.toList=some c->((qz c=0/\qmc c=s)->r = .tup [c.d,i64 0])/\(¬ (qz c=0/\qmc c=s)->r=qgS 6)):FnV Tryz.prog 41 [.str s] r:=by
 refine fnV_defer (ds:=[.str s]) (ft:=qpL) (g:=93) mixed qi 2 3 19 (lc:=[i64 0,.nils]) (le:=[i64 0]) Tryz.func41 rfl (show fnB qpL Tryz.f41 1=true from by decide +kernel) (by decide) (by decide) (by decide) rfl rfl rfl ?_ ?_ fun {σ} Y st=>?_
 ·intro a w p q Q hp hq hs h
  have hmf:∀ (fn:Fn) (first cap:Array Value) (w:World),(Instr.makeFunc fn first cap).run Tryz.prog w = .ok (.func fn first cap) w:=fun _ _ _ _=>rfl;apply wpIn_region;have e2:a.tmps.getD 2 undef=p:=by rw[Array.getD_eq_getD_getElem?,hp];rfl
  have e3:a.tmps.getD 3 undef=q:=by rw[Array.getD_eq_getD_getElem?,hq];rfl
  have hsz:19<a.tmps.size:=by rw[hs];decide
  simp[wpOpsIn,wpOpIn,go_sem,hmf,e2,e3,hsz,Oper.uponIn,Result.andThen];simpa using h
 ·intro p q w
  rfl
 conv=>whnf
 refine qg (fun hb=>?_) (fun hb=>?_)
 ·have h0:=h3 (by have:=of_decide_eq_true hb;omega)
  subst h0;conv=>whnf
  refine⟨rfl,?_⟩;conv=>whnf
  exact qb 0 rfl ⟨⟨rfl,rfl⟩,rfl⟩
 refine⟨?_,?_⟩
 ·exact Wk.sub ⟨rfl,rfl,rfl,trivial⟩ ⟨rfl,rfl,trivial⟩
 have hs4:s.size<=1500:=by have:=of_decide_eq_false hb;omega
 have h6:=h6 hs4;have h7:=h7 hs4;have hsd:s=⟨s.data.toList.toArray⟩:=by cases s;simp
 have hsl:s.data.toList.length<=1500:=by simpa using hs4
 generalize hl0:s.data.toList=l0 at h6 h7 hsd hsl;conv=>whnf
 rw[hsd];refine qe (ds:=[.str ⟨l0.toArray⟩,.str ⟨#[10]⟩]) (qoX l0 10 (by omega)) rfl rfl ?_;conv=>whnf
 refine qe (ds:=[.str ⟨(qbr 10 l0).1.toArray⟩,.str qlU]) (pa95 ⟨(qbr 10 l0).1.toArray⟩ qlU) rfl rfl ?_;have hlen0:=(qev 10 l0).1
 have hRA:qaL l0=match qmZ l0 with
  | none=>none
  | some x=>qeu x.2.length ⟨x.1,[]⟩ x.2:=rfl
 have hcs:=cutP_size ⟨(qbr 10 l0).1.toArray⟩ qlU;have hhs:(⟨(qbr 10 l0).1.toArray⟩:ByteArray).size<=1500:=by show(qbr 10 l0).1.toArray.size<=_;rw[List.size_toArray];omega
 unfold qmZ at hRA;generalize qnh ⟨(qbr 10 l0).1.toArray⟩ qlU=CP at hRA hcs ⊢;generalize (⟨(qbr 10 l0).1.toArray⟩:ByteArray)=HD at hhs hcs;generalize qbr 10 l0=C1 at hRA hlen0 ⊢;obtain⟨c1,rest,is⟩:=C1;obtain⟨nm,is2⟩:=CP;simp only at hRA hlen0 hcs
 cases is with
 | false=>
  simp only[Bool.false_eq_true,if_false]at hRA;have h0:=h6 hRA;subst h0;conv=>whnf
  refine jF rfl (fun h=>by cases h) (fun _=>?_);conv=>whnf
  exact qkB rfl rfl ⟨rfl,rfl,trivial⟩
 | true=>
 simp only[if_true]at hRA
 cases is2 with
 | false=>
  simp only[Bool.false_eq_true,if_false]at hRA;have h0:=h6 hRA;subst h0;conv=>whnf
  refine jF rfl (fun h=>by cases h) (fun _=>?_);conv=>whnf
  exact qkB rfl rfl ⟨rfl,rfl,trivial⟩
 | true=>
 simp only[if_true]at hRA;conv=>whnf
 refine jF rfl (fun _=>?_) (fun h=>by cases h);conv=>whnf
 refine qfs (x:=nm) (by omega) (fun near hnr=>?_) (fun hnr=>?_) rfl (by intro k;rfl)
 case refine_2=>
  rw[hnr]at hRA;have h0:=h6 hRA;subst h0;conv=>whnf
  exact qkB rfl rfl ⟨rfl,rfl,trivial⟩
 rw[hnr]at hRA;have hRA:qaL l0=qlV ⟨near,[]⟩ rest:=hRA;conv=>whnf
 refine zt (T:=tys) qi (by exact qd mixed qi (by decide +kernel)) (fun x:Option (List PBook×PBook)×List UInt8=>⟨[(0,.d (.str ⟨l0.toArray⟩)),(2,.ptr 1000000 0),(3,.ptr 1000001 0),(5,.d (.str ⟨x.2.toArray⟩))],(1000001,.box (.dd [i64 0]))::rdH near x.1,st⟩) (fun x=>qaL l0=qlV (rdL near x.1) x.2/\qlC (rdL near x.1).books+x.2.length<=1500) (fun x=>x.2.length) (none,rest) ?_ ⟨hRA,?_⟩ ?_
 ·exact(Wk.bornAtD 1000000 900001 6 [i64 near] [] rfl rfl rfl rfl rfl).trans (Wk.sub ⟨rfl,rfl,rfl,rfl,trivial⟩ ⟨rfl,rfl,rfl,trivial⟩)
 ·show 0+rest.length<=1500
  omega
 rintro ⟨o,l⟩ ⟨hl,hlen⟩;simp only at hlen;have hl:qaL l0=qlV (rdL near o) l:=hl;conv=>whnf
 refine qg (fun hb=>?_) (fun hb=>?_)
 ·have hne:l ≠ []:=by rintro rfl;simp at hb
  have hcl:=qev 10 l;rw[readL_eq _ l,if_neg hne]at hl;conv=>whnf
  refine qe (qoX l 10 (by omega)) rfl rfl ?_;conv=>whnf
  refine jF rfl (fun ht=>?_) (fun ht=>?_)
  ·rw[ht,if_pos rfl]at hl
   have hps:(⟨(qbr 10 l).1.toArray⟩:ByteArray).size<=1500:=by show(qbr 10 l).1.toArray.size<=_;rw[List.size_toArray];omega
   have hwl:=piecesB_len 32 ⟨(qbr 10 l).1.toArray⟩;have hwm:=piecesB_mem 32 ⟨(qbr 10 l).1.toArray⟩;have hwn:jR 32 ⟨(qbr 10 l).1.toArray⟩ ≠ []:=piecesB_ne _ _;have hcl2:=hcl.2 hne;conv=>whnf
   refine qe (ds:=[.str ⟨(qbr 10 l).1.toArray⟩,.str ⟨#[32]⟩]) (pa99 ⟨(qbr 10 l).1.toArray⟩ 32 (by omega)) rfl rfl ?_;generalize jR 32 ⟨(qbr 10 l).1.toArray⟩=w at hl hwl hwm hwn ⊢;generalize (⟨(qbr 10 l).1.toArray⟩:ByteArray)=HD at hps hwl hwm;generalize (qbr 10 l).2.1=l2 at hl hcl hcl2 ⊢;conv=>whnf
   cases o with
   | none=>
    refine qgN (take0 near w hwn (fun x hx=>by have:=hwm x hx;omega) (by omega) _ _) [1000000,900001] rfl ⟨_,_,rfl,rfl,_,_,rfl,rfl,rfl⟩ rfl rfl ?_ ?_
    ·rintro v h1 s' ⟨⟨h,q,b,hw,hbk,hbF,rfl,rfl⟩,rfl⟩
     refine⟨rfl,?_⟩;have htk:qdm (rdL near none) w=some ⟨near,[b]⟩:=by show qdm ⟨near,[]⟩ w=_;rw[hw,zk,if_pos hbk,hbF];rfl
     rw[htk]at hl;obtain⟨bn,bo,bs,rfl⟩:=qhV hbF;conv=>whnf
     exact⟨(some ([],⟨bn,bo,bs,[]⟩),l2),hcl2,⟨hl,by have h0:0+l.length<=1500:=hlen;show 1+0+0+l2.length<=1500;omega⟩,(Wk.bornArr 103264 900002 6 4 [] (hdC ⟨bn,bo,bs,[]⟩) rfl rfl rfl rfl).trans ((Wk.move 103264 900001 rfl rfl).trans (Wk.sub ⟨rfl,rfl,rfl,rfl,trivial⟩ ⟨rfl,rfl,rfl,rfl,trivial⟩))⟩
    ·rintro pv h1 s' ⟨⟨hno,rfl,rfl⟩,rfl⟩
     refine⟨rfl,?_⟩;rw[show qdm (rdL near none) w=none from hno]at hl;have h0:=h6 hl;subst h0;conv=>whnf
     exact qew (i:=900001) (n:=0) (near:=near) rfl rfl ⟨rfl,rfl,trivial⟩
   | some x=>
    obtain⟨init,last⟩:=x;have htot:qlC (init ++ [last])+l.length<=1500:=hlen;have htl:=qcU init last
    by_cases hbad:∃ s x n,w = [reportW,s,x,n]/\jq s≠none/\jq n=none
    ·obtain⟨ws,wx,wn,rfl,hb1,hb2⟩:=hbad
     obtain⟨t,ht1⟩:∃ t,jq ws=some t:=by
      cases h:jq ws with
      | none=>exact absurd h hb1
      | some t=>exact⟨t,rfl⟩
     have htk:qdm (rdL near (some (init,last))) [reportW,ws,wx,wn]=none:=by
      rw[zk,if_neg (by decide),if_neg (by simp[rdL])];unfold qka;simp only[ht1,if_neg (show ¬ reportW=passW by decide),if_neg (show ¬ reportW=setW by decide),if_pos,hb2];rfl
     refine qgN (take1b near init last ws wx wn t (by omega) (by have:=hwm ws (by simp);omega) (by have:=hwm wn (by simp);omega) ht1 hb2 _ _) [1000000,900001,900002] rfl ⟨_,_,rfl,rfl,_,_,rfl,(congrArg some (zn (jY [1000000,900001,900002] 51) (init.map PBook.cells) last 1000002 last.ents.length)).symm,_,_,rfl,rfl,rfl⟩ rfl rfl ?_ ?_
     ·rintro v h1 s' ⟨hF,_⟩
      exact absurd hF id
     ·rintro pv h1 s' ⟨⟨rfl,rfl⟩,rfl⟩
      refine⟨qhW _ _ _,?_⟩;rw[htk]at hl;have h0:=h6 hl;subst h0;conv=>whnf
      exact qew (i:=900001) (n:=init.length+1) (near:=near) rfl rfl ⟨rfl,rfl,trivial⟩
    ·refine qgN (take1 near init last w hwn (fun x hx=>by have:=hwm x hx;omega) (by omega) (by omega) (by omega) (fun s x n hw h1 h2=>hbad ⟨s,x,n,hw,h1,h2⟩) _ _) [1000000,900001,900002] rfl ⟨_,_,rfl,rfl,_,_,rfl,(congrArg some (zn (jY [1000000,900001,900002] 51) (init.map PBook.cells) last 1000002 last.ents.length)).symm,_,_,rfl,rfl,rfl⟩ rfl rfl ?_ ?_
     ·rintro v h1 s' ⟨⟨rfl,h,q,hw,hp⟩,rfl⟩
      rcases hp with⟨hbk,b,hbF,rfl⟩ | ⟨hbk,e,hE,rfl⟩
      ·refine⟨rfl,?_⟩
       have htk:qdm (rdL near (some (init,last))) w=some ⟨near,(init ++ [last]) ++ [b]⟩:=by rw[hw,zk,if_pos hbk,hbF];rfl
       rw[htk]at hl;obtain⟨bn,bo,bs,rfl⟩:=qhV hbF;conv=>whnf
       refine⟨(some (init ++ [last],⟨bn,bo,bs,[]⟩),l2),hcl2,⟨hl,?_⟩,(Wk.bornArr 103264 900002 6 4 ((init ++ [last]).map PBook.cells) (hdC ⟨bn,bo,bs,[]⟩) rfl rfl rfl rfl).trans ((Wk.move 103264 900001 rfl rfl).trans (Wk.sub ⟨rfl,rfl,rfl,rfl,trivial⟩ ⟨rfl,rfl,(by first | (show some (Obj.arr 6 (.vv (qu _ (qu _ (qu _ (qU _++_))))))=_;rw[qk,qk,qk];rfl) | (show some (Obj.arr 6 (.vv (qu _ (qu _ (qU _++_)))))=_;rw[qk,qk];rfl) | (show some (Obj.arr 6 (.vv (qu _ (qU _++_))))=_;rw[qk];rfl) | rfl),rfl,trivial⟩))⟩;have:=qcU (init ++ [last]) ⟨bn,bo,bs,[]⟩;show qlC ((init ++ [last]) ++ [⟨bn,bo,bs,[]⟩])+l2.length<=1500;simp at this;simp at hlen htot ⊢;omega
      ·refine⟨lg1_callBn _ _ _,?_⟩
       have htk:qdm (rdL near (some (init,last))) w=some ⟨near,init ++ [{ last with ents:=last.ents ++ [e] }]⟩:=by
        rw[hw,zk,if_neg hbk,if_neg (by simp[rdL]),hE];show some (⟨near,qoj e (init ++ [last])⟩:PLog)=_;rw[qjQ]
       rw[htk]at hl;conv=>whnf
       refine⟨(some (init,{ last with ents:=last.ents ++ [e] }),l2),hcl2,⟨hl,?_⟩,(Wk.move 103264 900002 rfl rfl).trans (Wk.sub ⟨rfl,rfl,rfl,rfl,trivial⟩ ⟨rfl,rfl,(by first | (show some (Obj.arr 6 (.vv (qu _ (qu _ (qu _ (qU _++_))))))=_;rw[qk,qk,qk];rfl) | (show some (Obj.arr 6 (.vv (qu _ (qu _ (qU _++_)))))=_;rw[qk,qk];rfl) | (show some (Obj.arr 6 (.vv (qu _ (qU _++_))))=_;rw[qk];rfl) | rfl),rfl,trivial⟩)⟩;have h5:=qcU init { last with ents:=last.ents ++ [e] };have h6:=qcU init last;show qlC (init ++ [{ last with ents:=last.ents ++ [e] }])+l2.length<=1500;simp at h5 h6 hlen htot ⊢;omega
     ·rintro pv h1 s' ⟨⟨hno,rfl,rfl⟩,rfl⟩
      refine⟨qhW _ _ _,?_⟩;rw[show qdm (rdL near (some (init,last))) w=none from hno]at hl;have h0:=h6 hl;subst h0;conv=>whnf
      exact qew (i:=900001) (n:=init.length+1) (near:=near) rfl rfl ⟨rfl,rfl,trivial⟩
  ·rw[ht,if_neg (by simp)]at hl
   have h0:=h6 hl;subst h0
   cases o with
   | none=>
    conv=>whnf
    exact qew (i:=900001) (n:=0) (near:=near) rfl rfl ⟨rfl,rfl,trivial⟩
   | some x=>
    obtain⟨init,last⟩:=x;conv=>whnf
    exact qew (i:=900001) (n:=init.length+1) (near:=near) rfl rfl ⟨rfl,rfl,trivial⟩
 ·have hle:l = []:=by
   by_cases h:l = []
   ·exact h
   ·exact absurd hb (by simp[h])
  subst hle;have hl:qaL l0=some (rdL near o):=hl;obtain⟨h7a,h7b⟩:=h7 _ hl
  cases o with
  | none=>
   have hlen2:(rdL near none).books.length<=1500:=by show 0<=1500;omega
   conv=>whnf
   obtain⟨cp,cq,ce,hcp⟩:∃ p q e,qaj (rdL near none)=(p,q,e):=⟨_,_,_,rfl⟩;have hce:qz (rdL near none)=ce:=by show(qaj _).2.2=ce;rw[hcp]
   refine qo (qdl (rdL near none) _ _ _ hcp) rfl 2 (qna near rfl) ?_;conv=>whnf
   refine qg (fun hb1=>?_) (fun hb1=>?_)
   ·have hk:qz (rdL near none)=0:=by rw[hce];simpa using hb1
    conv=>whnf
    refine qo (qpE (rdL near none) (jC hk) (qiK hk)) rfl 2 (qna near rfl) ?_;conv=>whnf
    refine jF rfl (fun ht=>?_) (fun ht=>?_)
    ·rw[<- hsd]at ht
     have h0:=h7a ⟨hk,of_decide_eq_true ht⟩;subst h0;conv=>whnf
     refine⟨.inr rfl,rfl,rfl,.returning,_,rfl,fun {σ}=>qhR _,?_⟩;conv=>whnf
     exact qb 2 (qjU (qna near rfl)) ⟨rfl,rfl,rfl⟩
    ·rw[<- hsd]at ht
     have h0:=h7b fun h=>absurd ht (by rw[decide_eq_true h.2];simp);subst h0;conv=>whnf
     exact qew (i:=900001) (n:=0) (near:=near) rfl rfl ⟨rfl,rfl,trivial⟩
   ·have hk:qz (rdL near none)≠0:=by rw[hce];simpa using hb1
    have h0:=h7b fun h=>hk h.1;subst h0;conv=>whnf
    refine jF rfl (fun h=>by cases h) (fun _=>?_);conv=>whnf
    exact qew (i:=900001) (n:=0) (near:=near) rfl rfl ⟨rfl,rfl,trivial⟩
  | some x=>
   obtain⟨init,last⟩:=x;have hlen2:(rdL near (some (init,last))).books.length<=1500:=by
    have htot:qlC (init ++ [last])+0<=1500:=hlen;have htl:=qcU init last;show(init ++ [last]).length<=1500;simp;omega
   conv=>whnf
   obtain⟨cp,cq,ce,hcp⟩:∃ p q e,qaj (rdL near (some (init,last)))=(p,q,e):=⟨_,_,_,rfl⟩;have hce:qz (rdL near (some (init,last)))=ce:=by show(qaj _).2.2=ce;rw[hcp]
   refine qo (qdl (rdL near (some (init,last))) _ _ _ hcp) rfl 2 (qnb near init last rfl rfl) ?_;conv=>whnf
   refine qg (fun hb1=>?_) (fun hb1=>?_)
   ·have hk:qz (rdL near (some (init,last)))=0:=by rw[hce];simpa using hb1
    conv=>whnf
    refine qo (qpE (rdL near (some (init,last))) (jC hk) (qiK hk)) rfl 2 (qnb near init last rfl rfl) ?_;conv=>whnf
    refine jF rfl (fun ht=>?_) (fun ht=>?_)
    ·rw[<- hsd]at ht
     have h0:=h7a ⟨hk,of_decide_eq_true ht⟩;subst h0;conv=>whnf
     refine⟨.inr rfl,rfl,rfl,.returning,_,rfl,fun {σ}=>qhR _,?_⟩;conv=>whnf
     exact qb 2 (qjU (qnb near init last rfl rfl)) ⟨rfl,rfl,rfl⟩
    ·rw[<- hsd]at ht
     have h0:=h7b fun h=>absurd ht (by rw[decide_eq_true h.2];simp);subst h0;conv=>whnf
     exact qew (i:=900001) (n:=(init.length+1)) (near:=near) rfl rfl ⟨rfl,rfl,trivial⟩
   ·have hk:qz (rdL near (some (init,last)))≠0:=by rw[hce];simpa using hb1
    have h0:=h7b fun h=>hk h.1;subst h0;conv=>whnf
    refine jF rfl (fun h=>by cases h) (fun _=>?_);conv=>whnf
    exact qew (i:=900001) (n:=(init.length+1)) (near:=near) rfl rfl ⟨rfl,rfl,trivial⟩
theorem readX_cases(s:ByteArray):∃ r,(PX.relax r = .tup [(qjR s).1.d,i64 (qjR s).2]\/r = .tup [(qjR s).1.d,i64 (qjR s).2])/\(1500<s.size->r=qgS 3)/\(s.size<=1500->qaL s.data.toList=none->r=qgS 6) /\
  (s.size<=1500 -> ∀ c,qaL s.data.toList=some c->((qz c=0/\qmc c=s)->r = .tup [c.d,i64 0])/\(¬ (qz c=0/\qmc c=s)->r=qgS 6)):=by
 have hrx:qjR s=if 1500<s.size then (qou,(3:Int)) else
  match qaL s.data.toList with
  | some c=>if qz c=0/\qmc c=s then (c,0) else (qou,6)
  | none=>(qou,6):=rfl
 by_cases h3:1500<s.size
 ·rw[hrx,if_pos h3]
  exact⟨qgS 3,.inl rfl,fun _=>rfl,fun h=>absurd h (by omega),fun h=>absurd h (by omega)⟩
 rw[hrx,if_neg h3]
 cases hl:qaL s.data.toList with
 | none=>exact⟨qgS 6,.inl rfl,fun h=>absurd h h3,fun _ _=>rfl,fun _ c h=>by cases h⟩
 | some c=>
  by_cases hk:qz c=0/\qmc c=s
  ·simp only[if_pos hk]
   refine⟨.tup [c.d,i64 0],.inr rfl,fun h=>absurd h h3,fun _ h=>?_,fun _ c' h=>?_⟩
   ·cases h
   ·cases h;exact⟨fun _=>rfl,fun h=>absurd hk h⟩
  ·simp only[if_neg hk]
   refine⟨qgS 6,.inl rfl,fun h=>absurd h h3,fun _ _=>rfl,fun _ c' h=>?_⟩
   cases h;exact⟨fun h=>absurd h hk,fun _=>rfl⟩
theorem pa41(s:ByteArray):FnV Tryz.prog 41 [.str s] (.tup [(qjR s).1.d,i64 (qjR s).2]):=by
 obtain⟨r,hr,h3,h6,h7⟩:=readX_cases s
 rcases hr with hr | rfl
 ·exact FnV.relax (fun {σ}=>qoY s r h3 h6 h7) hr
 ·exact qoY s _ h3 h6 h7
end Go.PX
namespace Go.PX
open Go.Proofs
theorem pa85(l:PLog)(hR:LogR l)(w:Int)(hw:0<=w/\w<=1048576):FnV Tryz.prog 85 [i64 w,.ref l.cells] (.bool (qfm l w [])):=by
 refine qC mixed qi Tryz.func85 rfl (ft:=ft85) 2 (by decide +kernel) (by rfl) fun {σ} Y st=>?_;conv=>whnf
 refine qdj ?_;refine qe (qpV l hR w hw [] (by simp)) rfl rfl ?_;conv=>whnf
 refine qe (qnq) rfl rfl ?_;conv=>whnf
 obtain⟨m,hm⟩:=qnx l hR w hw [];refine qe (hm) rfl rfl ?_;conv=>whnf
 exact qb 0 rfl ⟨⟨rfl,rfl⟩,rfl⟩
theorem qcq(does:Int->Bool):∀ (k j:Nat) {lo hi:Int},hi-lo<=2^k->hi-lo<=2^j->qaG does k lo hi=qaG does j lo hi
 | 0,0,_,_,_,_=>rfl
 | 0,j+1,lo,hi,h1,_=>by
  rw[qaG,qaG,if_neg (by simp at h1;omega)]
 | k+1,0,lo,hi,_,h2=>by
  rw[qaG,qaG,if_neg (by simp at h2;omega)]
 | k+1,j+1,lo,hi,h1,h2=>by
  have e1:(2:Int)^(k+1)=2^k*2:=Int.pow_succ 2 k;have e2:(2:Int)^(j+1)=2^j*2:=Int.pow_succ 2 j;rw[qaG,qaG]
  split
  ·split
   ·exact qcq does k j (by omega) (by omega)
   ·exact qcq does k j (by omega) (by omega)
  ·rfl
theorem pa84(g:FuncId)(caps:List D)(does:Int->Bool)(hg:∀ n,0<=n->n<=1048576->FnV Tryz.prog g (i64 n::caps) (.bool (does n))) :
  FnV Tryz.prog 84 [i64 1048576,.clo g caps] (.tup [i64 (if does 1048576=true then qaG does 40 (-1) 1048576 else 0),.bool (does 1048576)]):=by
 refine qC mixed qi Tryz.func84 rfl (ft:=ft84) 2 (by decide +kernel) (by rfl) fun {σ} Y st=>?_;conv=>whnf
 refine qe (hg 1048576 (by omega) (by omega)) rfl rfl ?_
 cases h0:does 1048576 with
 | false=>
  simp only[Bool.false_eq_true,if_false];conv=>whnf
  exact qb 0 rfl ⟨⟨rfl,rfl⟩,rfl⟩
 | true=>
  simp only[if_true];conv=>whnf
  generalize hRES:qaG does 40 (-1) 1048576=RES;refine zt (T:=tys) qi (by exact qd mixed qi (by decide +kernel)) (α:=Int×Int) (fun z=>⟨[(0,.d (i64 1048576)),(1,.d (.clo g caps)),(6,.d (i64 z.1)),(7,.d (i64 z.2))],[],st⟩) (fun z=>-1<=z.1/\z.1<z.2/\z.2<=1048576/\qaG does 40 z.1 z.2=RES) (fun z=>(z.2-z.1).toNat) (-1,1048576) (Wk.sub (by repeat' first|exact trivial|refine⟨?_,?_⟩|rfl|(simp only[List.length_map];rfl)|simp[PX.get]) trivial) ⟨by simp,by simp,by simp,hRES⟩ ?_;rintro ⟨lo,hi⟩ ⟨h1,h2,h3,h4⟩;simp only at h1 h2 h3 h4;conv=>whnf
  refine qc (qa (by(try dsimp only);omega)) ?_;conv=>whnf
  have h239:qaG does 40 lo hi=if hi-lo>1 then (if does ((lo+hi)/2) then qaG does 39 lo ((lo+hi)/2) else qaG does 39 ((lo+hi)/2) hi) else hi:=rfl
  rw[h239]at h4;have hp:(2:Int)^39=549755813888:=by decide
  have hp':(2:Int)^40=1099511627776:=by decide
  refine qg (fun h5=>?_) (fun h5=>?_)
  ·have h5:hi-lo>1:=of_decide_eq_true h5
   rw[if_pos h5]at h4;conv=>whnf
   refine qc (qa (by(try dsimp only);omega)) ?_;conv=>whnf
   refine qh ((lo+hi)/2) (by show(lo+hi).tdiv 2=(lo+hi)/2;exact Int.tdiv_eq_ediv_of_nonneg (by omega)) (qa (by omega)) ?_;generalize hM:(lo+hi)/2=M at h4 ⊢;have hM1:lo<M/\M<hi:=by omega
   conv=>whnf
   refine qe (hg M (by omega) (by omega)) rfl rfl ?_;conv=>whnf
   cases hd:does M with
   | true=>
    rw[hd]at h4;simp only[if_true]at h4;conv=>whnf
    exact⟨(lo,M),by simp only;omega,⟨by simp only;omega,by simp only;omega,by simp only;omega,by simp only;rw[<- h4];exact qcq does 40 39 (by omega) (by omega)⟩,(Wk.sub (by repeat' first|exact trivial|refine⟨?_,?_⟩|rfl|(simp only[List.length_map];rfl)|simp[PX.get]) trivial)⟩
   | false=>
    rw[hd]at h4;simp only[Bool.false_eq_true,if_false]at h4;conv=>whnf
    exact⟨(M,hi),by simp only;omega,⟨by simp only;omega,by simp only;omega,by simp only;omega,by simp only;rw[<- h4];exact qcq does 40 39 (by omega) (by omega)⟩,(Wk.sub (by repeat' first|exact trivial|refine⟨?_,?_⟩|rfl|(simp only[List.length_map];rfl)|simp[PX.get]) trivial)⟩
  ·have h5:¬ hi-lo>1:=of_decide_eq_false h5
   rw[if_neg h5]at h4;subst h4;conv=>whnf
   exact qb 0 rfl ⟨⟨rfl,rfl⟩,rfl⟩
theorem qqa(l:PLog):FnV Tryz.prog 32 [l.d] (.tup [i64 (qmT l).1,i64 (qmT l).2]):=by
 unfold qmT;refine qC mixed qi Tryz.func32 rfl (ft:=ft32) 1 (by decide +kernel) (by rfl) fun {σ} Y st=>?_;conv=>whnf
 by_cases hc:qz l=0
 ·rw[if_pos hc]
  have hR:=jC hc;refine qe (qdl l 0 0 0 (qbq hc)) rfl rfl ?_;conv=>whnf
  refine qo (ds:=[i64 1048576,.clo 85 [.ref l.cells]]) (pa84 85 [.ref l.cells] (fun w=>qfm l w []) fun w h0 h1=>pa85 l hR w ⟨h0,h1⟩) rfl 1 rfl ?_
  cases hf:qfm l 1048576 []with
  | false=>
   simp only[Bool.false_eq_true,if_false];conv=>whnf
   exact qb 0 rfl ⟨⟨rfl,rfl⟩,rfl⟩
  | true=>
   simp only[if_true];conv=>whnf
   exact qb 0 rfl ⟨⟨rfl,rfl⟩,rfl⟩
 ·rw[if_neg hc]
  refine qe (qdl l _ _ _ (qbs l)) rfl rfl ?_;conv=>whnf
  generalize qz l=E at hc;refine qg (fun _=>?_) (fun h=>absurd hc (by simpa using h));conv=>whnf
  exact qb 0 rfl ⟨⟨rfl,rfl⟩,rfl⟩
end Go.PX
namespace Go.PX
open Go.Proofs
def jE(l:PLog):List Int:=((List.range' 1 99).map fun(n:Nat)=>(n:Int)).filter fun n=>l.books.any fun b=>(qZ b.ents n 0).isSome
end Go.PX
namespace Go.PX
open Go.Proofs
theorem qgT{l:PLog}{n:Int}:n∈jE l↔(1<=n/\n<=99) /\ ∃ (i k:Nat) (b:PBook) (y:PEnt),At l i k b y/\y.kind=3/\y.number=n:=by
 unfold jE;rw[List.mem_filter,List.mem_map,List.any_eq_true];constructor
 ·rintro ⟨⟨k,hk,rfl⟩,b,hb,hf⟩
  rw[List.mem_range'_1]at hk;refine⟨by omega,?_⟩;obtain⟨m,hm⟩:=Option.isSome_iff_exists.1 hf;obtain⟨y,_,hy,h1,h2,_⟩:=jP hm;obtain⟨i,hi⟩:=List.getElem?_of_mem hb;exact⟨i,m,b,y,⟨hi,hy⟩,h1,h2⟩
 ·rintro ⟨hn,i,k,b,y,hA,h1,h2⟩
  refine⟨⟨n.toNat,List.mem_range'_1.2 (by omega),by omega⟩,b,List.mem_of_getElem? hA.book,?_⟩;obtain⟨m,_,hm⟩:=qel hA.ent h1 h2;rw[hm];rfl
theorem used_at{l:PLog}(h:qz l=0){i k:Nat}{b:PBook}{y:PEnt}(hA:At l i k b y)(h3:y.kind=3):y.number∈jE l:=by
 have hE:=(qdi h (List.mem_of_getElem? hA.book)).2.2.2 y (List.mem_of_getElem? hA.ent);exact qgT.2 ⟨⟨(hE.rep h3).2,hE.number.2⟩,i,k,b,y,hA,h3,rfl⟩
theorem qfn:∀ (n s:Nat),((List.range' s n).map fun(n:Nat)=>(n:Int)).Pairwise (· < ·):=by
 intro n
 induction n with
 | zero=>intro s;simp
 | succ n ih=>
  intro s;rw[List.range'_succ,List.map_cons,List.pairwise_cons];refine⟨fun x hx=>?_,ih (s+1)⟩;obtain⟨k,hk,rfl⟩:=List.mem_map.1 hx;rw[List.mem_range'_1]at hk;omega
theorem numbers_sorted(l:PLog):(jE l).Pairwise (· < ·):=List.Pairwise.sublist List.filter_sublist (qfn 99 1)
theorem qjV{of:List Int}:∀ {n:Nat} {p:List Int} {start:Nat} {q:List Int},q∈qcv of n p start -> ∃ s,q=p++s/\s.Sublist (of.drop start)/\s.length=n
 | 0,p,start,q,h=>by
  rw[qcv,List.mem_singleton]at h;exact⟨[],by rw[h,List.append_nil],List.nil_sublist _,rfl⟩
 | n+1,p,start,q,h=>by
  rw[qcv,List.mem_flatMap]at h;obtain⟨i,hi,h⟩:=h;rw[List.mem_range'_1]at hi;obtain⟨s,rfl,h2,h3⟩:=qjV h;have hil:i<of.length:=by omega
  refine⟨of[i]::s,by rw[List.getElem?_eq_getElem hil];simp,?_,by rw[List.length_cons,h3]⟩;have e:of.drop i=of[i]::of.drop (i+1):=List.drop_eq_getElem_cons hil;have h4:(of[i]::s).Sublist (of.drop i):=by rw[e];exact h2.cons₂ _
  refine h4.trans ?_;rw[show i=start+(i-start) by omega,<- List.drop_drop];exact List.drop_sublist _ _
theorem lists_len{of:List Int}{n:Nat}{q:List Int}(h:q∈qcv of n [] 0):q.length=n:=by
 obtain⟨s,rfl,_,h3⟩:=qjV h;simpa using h3
end Go.PX
namespace Go.PX
open Go.Proofs
theorem qiO{b:PBook}{n:Int}:0<qez b n ↔ ∃ y∈b.ents,y.kind=3/\y.number=n:=by
 unfold qez;constructor
 ·intro h
  obtain⟨y,hy⟩:=List.exists_mem_of_length_pos h;obtain⟨hy,hq⟩:=List.mem_filter.1 hy;exact⟨y,hy,of_decide_eq_true hq⟩
 ·rintro ⟨y,hy,h⟩
  exact List.length_pos_of_mem (List.mem_filter.2 ⟨hy,decide_eq_true h⟩)
theorem qnS{l:PLog}{n:Int}:0<inN l n ↔ ∃ b∈l.books,0<qez b n:=by
 unfold inN;constructor
 ·intro h
  obtain⟨b,hb⟩:=List.exists_mem_of_length_pos h;obtain⟨hb,hq⟩:=List.mem_filter.1 hb;exact⟨b,hb,of_decide_eq_true hq⟩
 ·rintro ⟨b,hb,h⟩
  exact List.length_pos_of_mem (List.mem_filter.2 ⟨hb,decide_eq_true h⟩)
theorem qcr{l:PLog}{y:PEnt}:y∈qeo l↔(∃ b∈l.books,y∈b.ents)/\y.kind=3:=by
 unfold qeo;rw[List.mem_filter,List.mem_flatMap,decide_eq_true_eq]
theorem qkC{l:PLog}{n:Int}:0<inN l n ↔ ∃ y∈qeo l,y.number=n:=by
 rw[qnS];constructor
 ·rintro ⟨b,hb,h⟩
  obtain⟨y,hy,h1,h2⟩:=qiO.1 h;exact⟨y,qcr.2 ⟨⟨b,hb,hy⟩,h1⟩,h2⟩
 ·rintro ⟨y,hy,h2⟩
  obtain⟨⟨b,hb,hyb⟩,h1⟩:=qcr.1 hy;exact⟨b,hb,qiO.2 ⟨y,hyb,h1,h2⟩⟩
theorem qoZ{l:PLog}(h:qz l=0){y:PEnt}(hy:y∈qeo l):1<=y.number/\y.number<=99:=by
 obtain⟨⟨b,hb,hyb⟩,h1⟩:=qcr.1 hy;have hE:=(qdi h hb).2.2.2 y hyb;exact⟨(hE.rep h1).2,hE.number.2⟩
theorem qcV{l:PLog}(h:qz l=0){n:Int}:n∈jE l↔0<inN l n:=by
 rw[qkC];constructor
 ·intro hn
  obtain⟨_,i,k,b,y,hA,h1,h2⟩:=qgT.1 hn;exact⟨y,qcr.2 ⟨⟨b,List.mem_of_getElem? hA.book,List.mem_of_getElem? hA.ent⟩,h1⟩,h2⟩
 ·rintro ⟨y,hy,rfl⟩
  obtain⟨⟨b,hb,hyb⟩,h1⟩:=qcr.1 hy;obtain⟨i,hi⟩:=List.getElem?_of_mem hb;obtain⟨k,hk⟩:=List.getElem?_of_mem hyb;exact used_at h ⟨hi,hk⟩ h1
theorem fold_max(L:List PEnt):∀ m0:Int,m0<=L.foldl (fun m y=>max m y.number) m0/\(∀ y∈L,y.number<=L.foldl (fun m y=>max m y.number) m0)/\(L.foldl (fun m y=>max m y.number) m0=m0 \/ ∃ y∈L,y.number=L.foldl (fun m y=>max m y.number) m0):=by
 induction L with
 | nil=>intro m0;exact⟨Int.le_refl _,fun y hy=>(by cases hy),.inl rfl⟩
 | cons a r ih=>
  intro m0;rw[List.foldl_cons];obtain⟨h1,h2,h3⟩:=ih (max m0 a.number);refine⟨by omega,fun y hy=>?_,?_⟩
  ·rcases List.mem_cons.1 hy with rfl | hy
   ·omega
   ·exact h2 y hy
  ·rcases h3 with h3 | ⟨y,hy,he⟩
   ·rcases Int.le_total m0 a.number with hle | hle
    ·right;exact⟨a,List.mem_cons_self ..,by rw[h3];omega⟩
    ·left;rw[h3];omega
   ·right;exact⟨y,List.mem_cons_of_mem _ hy,he⟩
theorem qdM{l:PLog}(h:qz l=0):0<=jQ l/\jQ l<=99/\(∀ n,0<inN l n->1<=n/\n<=jQ l)/\(jQ l=0\/0<inN l (jQ l)):=by
 obtain⟨h1,h2,h3⟩:=fold_max (qeo l) 0;unfold jQ;refine⟨h1,?_,fun n hn=>?_,?_⟩
 ·rcases h3 with h3 | ⟨y,hy,he⟩
  ·omega
  ·have:=qoZ h hy;omega
 ·obtain⟨y,hy,rfl⟩:=qkC.1 hn
  have:=h2 y hy;have:=qoZ h hy;omega
 ·rcases h3 with h3 | ⟨y,hy,he⟩
  ·exact .inl h3
  ·exact .inr (qkC.2 ⟨y,hy,he⟩)
def qgU(n:Int):List Int:=(List.range' 1 n.toNat).map fun(n:Nat)=>(n:Int)
theorem qiP{m n:Int}:n∈qgU m↔1<=n/\n<=m:=by
 unfold qgU;rw[List.mem_map];constructor
 ·rintro ⟨k,hk,rfl⟩
  rw[List.mem_range'_1]at hk;omega
 ·intro h
  exact⟨n.toNat,List.mem_range'_1.2 (by omega),by omega⟩
theorem qhX:∀ {a b:List Int},a.Pairwise (· < ·)->b.Pairwise (· < ·)->(∀ n,n∈a↔n∈b)->a=b
 | [],[],_,_,_=>rfl
 | [],y::b,_,_,h=>absurd ((h y).2 (List.mem_cons_self ..)) (by simp)
 | x::a,[],_,_,h=>absurd ((h x).1 (List.mem_cons_self ..)) (by simp)
 | x::a,y::b,ha,hb,h=>by
  obtain⟨ha1,ha2⟩:=List.pairwise_cons.1 ha;obtain⟨hb1,hb2⟩:=List.pairwise_cons.1 hb;have hxy:x=y:=by
   have h1:=(h x).1 (List.mem_cons_self ..);have h2:=(h y).2 (List.mem_cons_self ..)
   rcases List.mem_cons.1 h1 with h1 | h1
   ·exact h1
   ·rcases List.mem_cons.1 h2 with h2 | h2
    ·exact h2.symm
    ·have:=ha1 y h2;have:=hb1 x h1;omega
  subst hxy
  congr 1
  refine qhX ha2 hb2 fun n=>?_;have:=h n;simp only[List.mem_cons]at this;constructor
  ·intro hn
   rcases this.1 (.inr hn) with rfl | h2
   ·have:=ha1 n hn;omega
   ·exact h2
  ·intro hn
   rcases this.2 (.inr hn) with rfl | h2
   ·have:=hb1 n hn;omega
   ·exact h2
theorem upto_sorted(m:Int):(qgU m).Pairwise (· < ·):=qfn _ 1
theorem qeS{l:PLog}(h:qz l=0):jE l=(qgU (jQ l)).filter fun n=>!decide (inN l n=0):=by
 refine qhX (numbers_sorted l) (List.Pairwise.sublist List.filter_sublist (upto_sorted _)) fun n=>?_;rw[qcV h,List.mem_filter,qiP];constructor
 ·intro hn
  exact⟨(qdM h).2.2.1 n hn,by simp;omega⟩
 ·rintro ⟨_,hn⟩
  simp at hn;omega
theorem qgV{α:Type}(p:α->Bool):∀ l:List α,(l.filter p).length+(l.filter fun x=>!p x).length=l.length
 | []=>rfl
 | a::r=>by
  have:=qgV p r;rw[List.filter_cons,List.filter_cons]
  cases p a<;>simp<;>omega
theorem miss_len{l:PLog}(h:qz l=0):(qep l).length+(jE l).length=(jQ l).toNat:=by
 rw[qeS h];have:=qgV (fun n=>decide (inN l n=0)) (qgU (jQ l));unfold qep;have e:(qgU (jQ l)).length=(jQ l).toNat:=by unfold qgU;simp
 rw[e]at this;exact this
theorem qlD{l:PLog}{n:Int}:n∈qep l↔(1<=n/\n<=jQ l)/\inN l n=0:=by
 unfold qep;rw[List.mem_filter,decide_eq_true_eq];exact and_congr qiP Iff.rfl
theorem most_lt{bs:List PBook}{n:Int}:∀ m0,(1<m0 \/ ∃ b∈bs,1<qez b n)↔1<(bs.map fun b=>qez b n).foldl max m0:=by
 induction bs with
 | nil=>intro m0;simp
 | cons b r ih=>
  intro m0;rw[List.map_cons,List.foldl_cons,<- ih];simp only[List.mem_cons,exists_eq_or_imp];have:1<max m0 (qez b n)↔1<m0\/1<qez b n:=by omega
  rw[this,or_assoc]
theorem qiQ{l:PLog}(h:qz l=0){n:Int}:n∈qgJ l ↔ ∃ b∈l.books,1<qez b n:=by
 unfold qgJ;rw[List.mem_filter,Bool.and_eq_true,decide_eq_true_eq,decide_eq_true_eq];have hm:=most_lt (bs:=l.books) (n:=n) 0;constructor
 ·rintro ⟨_,_,h3⟩
  have:=hm.2 h3;simpa using this
 ·rintro ⟨b,hb,h3⟩
  have hi:0<inN l n:=qnS.2 ⟨b,hb,by omega⟩;exact⟨qiP.2 ((qdM h).2.2.1 n hi),by omega,hm.1 (.inr ⟨b,hb,h3⟩)⟩
def qbv(b:List PEnt):Nat->List PEnt->List PEnt
 | _,[]=>[]
 | k,y::r=>if y.kind=3/\qZ b y.number 0≠some k then qbv b (k+1) r else y::qbv b (k+1) r
def qaM(b:PBook):PBook:={ b with ents:=qbv b.ents 0 b.ents }
def qbY(l:PLog):PLog:={ l with books:=l.books.map qaM }
theorem qfC(b:List PEnt):∀ (r:List PEnt) (k:Nat),(qbv b k r).Sublist r
 | [],_=>.slnil
 | y::r,k=>by
  rw[qbv]
  split
  ·exact(qfC b r (k+1)).cons _
  ·exact(qfC b r (k+1)).cons₂ _
theorem qhY{b:List PEnt}{n:Int}:∀ (r:List PEnt) (k:Nat),(∀ j,r[j]?=b[k+j]?)->(qbv b k r).filter (fun y=>decide (y.kind=3/\y.number=n))=match qZ b n 0 with
  | some m=>if k<=m then (b[m]?).toList else []
  | none=>[]
 | [],k,he=>by
  rw[qbv,List.filter_nil]
  cases hf:qZ b n 0 with
  | none=>rfl
  | some m=>
   simp only
   split
   ·have:=he (m-k)
    rw[show k+(m-k)=m by omega]at this;rw[<- this];rfl
   ·rfl
 | y::r,k,he=>by
  have hy:b[k]?=some y:=by have:=he 0;rw[List.getElem?_cons_zero]at this;exact this.symm
  have ih:=qhY (b:=b) (n:=n) r (k+1) (fun j=>by have:=he (j+1);rw[List.getElem?_cons_succ]at this;rw[this];congr 1;omega);rw[qbv]
  by_cases hk:y.kind=3/\qZ b y.number 0≠some k
  ·rw[if_pos hk,ih]
   cases hf:qZ b n 0 with
   | none=>rfl
   | some m=>
    simp only
    by_cases hkm:k=m
    ·subst hkm
     obtain⟨z,_,hz,h1,h2,_⟩:=jP hf;rw[Nat.sub_zero,hy]at hz
     cases hz
     exact absurd (h2▸hf) hk.2
    ·by_cases h:k+1<=m
     ·rw[if_pos h,if_pos (by omega)]
     ·rw[if_neg h,if_neg (by omega)]
  ·rw[if_neg hk,List.filter_cons,ih]
   by_cases hn:y.kind=3/\y.number=n
   ·have hf:qZ b n 0=some k:=by
     rw[<- hn.2];exact Classical.byContradiction fun h=>hk ⟨hn.1,h⟩
    rw[if_pos (decide_eq_true hn),hf];simp only;rw[if_neg (by omega),if_pos (Nat.le_refl _),hy];rfl
   ·rw[if_neg (by simpa using hn)]
    cases hf:qZ b n 0 with
    | none=>rfl
    | some m=>
     simp only
     by_cases hkm:k=m
     ·subst hkm
      obtain⟨z,_,hz,h1,h2,_⟩:=jP hf;rw[Nat.sub_zero,hy]at hz
      cases hz
      exact absurd ⟨h1,h2⟩ hn
     ·by_cases h:k+1<=m
      ·rw[if_pos h,if_pos (by omega)]
      ·rw[if_neg h,if_neg (by omega)]
theorem qiR(b:PBook)(n:Int):qez (qaM b) n<=1/\(0<qez (qaM b) n↔0<qez b n):=by
 have h:=qhY (b:=b.ents) (n:=n) b.ents 0 (fun j=>by rw[Nat.zero_add])
 have e:qez (qaM b) n=(match qZ b.ents n 0 with
  | some m=>if 0<=m then (b.ents[m]?).toList else []
  | none=>[]).length:=by rw[<- h];rfl
 cases hf:qZ b.ents n 0 with
 | none=>
  rw[hf]at e;have e:qez (qaM b) n=0:=e;rw[e];refine⟨by omega,fun h=>by omega,fun h=>?_⟩;obtain⟨y,hy,h1,h2⟩:=qiO.1 h;obtain⟨k,hk⟩:=List.getElem?_of_mem hy;obtain⟨m,_,hm⟩:=qel hk h1 h2;rw[hf]at hm;cases hm
 | some m=>
  rw[hf]at e;simp only[Nat.zero_le,if_true]at e;obtain⟨z,_,hz,h1,h2,_⟩:=jP hf;rw[Nat.sub_zero]at hz;rw[hz]at e;have e:qez (qaM b) n=1:=e;rw[e];exact⟨by omega,fun _=>qiO.2 ⟨z,List.mem_of_getElem? hz,h1,h2⟩,fun _=>by omega⟩
theorem qnc(l:PLog)(n:Int):inN (qbY l) n=inN l n:=by
 unfold inN qbY;simp only;rw[List.filter_map,List.length_map]
 congr 1
 refine List.filter_congr fun b _=>?_;show decide (0<qez (qaM b) n)=_;rw[Bool.eq_iff_iff,decide_eq_true_eq,decide_eq_true_eq];exact(qiR b n).2
theorem qeT{l:PLog}(h:qz l=0):qz (qbY l)=0:=by
 refine check_of h rfl (by unfold qbY;rw[List.map_map];rfl) fun b hb=>?_;obtain⟨c,hc,rfl⟩:=List.mem_map.1 hb;obtain⟨h1,h2,h3,h4⟩:=qdi h hc;have hs:=qfC c.ents c.ents 0;exact⟨h1,h2,Nat.le_trans hs.length_le h3,fun x hx=>h4 x (hs.mem hx)⟩
theorem less_last{l:PLog}(h:qz l=0):jQ (qbY l)=jQ l:=by
 obtain⟨h1,h2,h3,h4⟩:=qdM h;obtain⟨g1,g2,g3,g4⟩:=qdM (qeT h);simp only[qnc]at g3 g4;have a1:jQ l<=jQ (qbY l):=by
  rcases h4 with h4 | h4
  ·omega
  ·exact(g3 _ h4).2
 have a2:jQ (qbY l)<=jQ l:=by
  rcases g4 with g4 | g4
  ·omega
  ·exact(h3 _ g4).2
 omega
theorem less_miss{l:PLog}(h:qz l=0):qep (qbY l)=qep l:=by
 unfold qep;rw[less_last h];simp only[qnc]
theorem less_copy{l:PLog}(h:qz l=0):qgJ (qbY l) = []:=by
 refine List.eq_nil_iff_forall_not_mem.2 fun n hn=>?_;obtain⟨b,hb,h1⟩:=(qiQ (qeT h)).1 hn;obtain⟨c,hc,rfl⟩:=List.mem_map.1 hb;have:=(qiR c n).1;omega
theorem qex:∀ (r:List PEnt) (m:List (Int×ByteArray)),qaH m r=false↔(∀ y∈r,∀ w,zg m y.number=some w->w=y.word) /\ ∀ x∈r,∀ y∈r,x.number=y.number->x.word=y.word
 | [],m=>by simp[qaH]
 | a::r,m=>by
  have step:qaH (jf m a.number a.word) r=false->(∀ w,zg m a.number=some w->w=a.word)->(∀ y∈a::r,∀ w,zg m y.number=some w->w=y.word) /\ ∀ x∈a::r,∀ y∈a::r,x.number=y.number->x.word=y.word:=fun h ha=>by
   obtain⟨h1,h2⟩:=(qex r _).1 h;have hna:∀ y∈r,y.number=a.number->a.word=y.word:=fun y hy he=>h1 y hy a.word (by rw[zj,if_pos he]);refine⟨fun y hy w hw=>?_,fun x hx y hy he=>?_⟩
   ·rcases List.mem_cons.1 hy with rfl | hy
    ·exact ha w hw
    ·by_cases hn:y.number=a.number
     ·rw[<- hna y hy hn];rw[hn]at hw;exact ha w hw
     ·exact h1 y hy w (by rw[zj,if_neg hn];exact hw)
   ·rcases List.mem_cons.1 hx with rfl | hx'
    ·rcases List.mem_cons.1 hy with rfl | hy'
     ·rfl
     ·exact hna y hy' he.symm
    ·rcases List.mem_cons.1 hy with rfl | hy'
     ·exact(hna x hx' he).symm
     ·exact h2 x hx' y hy' he
  have back:((∀ y∈a::r,∀ w,zg m y.number=some w->w=y.word) /\ ∀ x∈a::r,∀ y∈a::r,x.number=y.number->x.word=y.word)->qaH (jf m a.number a.word) r=false:=fun⟨h1,h2⟩=>by
   refine(qex r _).2 ⟨fun y hy w hw=>?_,fun x hx y hy=>h2 x (List.mem_cons_of_mem _ hx) y (List.mem_cons_of_mem _ hy)⟩;rw[zj]at hw
   split at hw
   ·rename_i he
    cases hw
    exact(h2 y (List.mem_cons_of_mem _ hy) a (List.mem_cons_self ..) he).symm
   ·exact h1 y (List.mem_cons_of_mem _ hy) w hw
  rw[qaH]
  cases hg:zg m a.number with
  | none=>
   simp only;exact⟨fun h=>step h fun w hw=>(by rw[hg]at hw;cases hw),back⟩
  | some w=>
   simp only
   split
   ·rename_i hw
    exact⟨fun h=>step h fun w' hw'=>by rw[hg]at hw';cases hw';exact hw,back⟩
   ·rename_i hw
    exact⟨fun h=>(by cases h),fun h=>absurd (h.1 a (List.mem_cons_self ..) w hg) hw⟩
theorem less_twice{l:PLog}(h:qaH [] (qeo l)=false):qaH [] (qeo (qbY l))=false:=by
 obtain⟨_,h2⟩:=(qex _ _).1 h;have sub:∀ y∈qeo (qbY l),y∈qeo l:=fun y hy=>by
  obtain⟨⟨b,hb,hyb⟩,h1⟩:=qcr.1 hy;obtain⟨c,hc,rfl⟩:=List.mem_map.1 hb;exact qcr.2 ⟨⟨c,hc,(qfC c.ents c.ents 0).mem hyb⟩,h1⟩
 exact(qex _ _).2 ⟨fun y _ w hw=>(by cases hw),fun x hx y hy=>h2 x (sub x hx) y (sub y hy)⟩
theorem left_copy{l:PLog}(h:qz l=0){i k:Nat}{b:PBook}{y:PEnt}(hA:At l i k b y)(h3:y.kind=3)(hf:qZ b.ents y.number 0≠some k):y.number∈qgJ l:=by
 refine(qiQ h).2 ⟨b,List.mem_of_getElem? hA.book,?_⟩;obtain⟨m,hm,he⟩:=qel hA.ent h3 rfl;obtain⟨z,_,hz,h1,h2,_⟩:=jP he;rw[Nat.sub_zero]at hz;have hmk:m<k:=by
  rcases Nat.lt_or_ge m k with h | h
  ·exact h
  ·have:m=k:=by omega
   subst this;exact absurd he hf
 unfold qez;have two:∀ {L:List PEnt} {p:PEnt->Bool} {i j:Nat} {b c:PEnt},i<j->L[i]?=some b->L[j]?=some c->p b=true->p c=true->1<(L.filter p).length:=by
  intro L p
  induction L with
  | nil=>intro i j b c _ h;simp at h
  | cons a r ih=>
   intro i j b c hij hb hc pb pc;obtain⟨j,rfl⟩:∃ j',j=j'+1:=⟨j-1,by omega⟩;rw[List.getElem?_cons_succ]at hc;rw[List.filter_cons]
   cases i with
   | zero=>
    rw[List.getElem?_cons_zero]at hb
    cases hb
    rw[if_pos pb,List.length_cons];have:=List.length_pos_of_mem (List.mem_filter.2 ⟨List.mem_of_getElem? hc,pc⟩);omega
   | succ i=>
    rw[List.getElem?_cons_succ]at hb;have:=ih (by omega) hb hc pb pc
    split
    ·rw[List.length_cons];omega
    ·exact this
 exact two hmk hz hA.ent (decide_eq_true ⟨h1,h2⟩) (decide_eq_true ⟨h3,rfl⟩)
theorem copy_out{l:PLog}(h:qz l=0){n:Int}(hn:n∈qgJ l):∃ (i k:Nat) (b:PBook) (y:PEnt),At l i k b y/\y.kind=3/\qZ b.ents y.number 0≠some k:=by
 obtain⟨b,hb,h1⟩:=(qiQ h).1 hn;obtain⟨i,hi⟩:=List.getElem?_of_mem hb;refine Classical.byContradiction fun hno=>?_;have hall:∀ (k:Nat) (y:PEnt),b.ents[k]?=some y->y.kind=3->qZ b.ents y.number 0=some k:=fun k y hy h3=>Classical.byContradiction fun hf=>hno ⟨i,k,b,y,⟨hi,hy⟩,h3,hf⟩;have:qez b n<=1:=by
  have key:∀ (r:List PEnt) (k:Nat),(∀ j,r[j]?=b.ents[k+j]?)->qbv b.ents k r=r:=by
   intro r
   induction r with
   | nil=>intro k _;rfl
   | cons y r ih=>
    intro k he;have hy:b.ents[k]?=some y:=by have:=he 0;rw[List.getElem?_cons_zero]at this;exact this.symm
    rw[qbv,if_neg (fun hh=>hh.2 (hall k y hy hh.1)),ih (k+1) (fun j=>by have:=he (j+1);rw[List.getElem?_cons_succ]at this;rw[this];congr 1;omega)]
  have e:qaM b=b:=by unfold qaM;rw[key b.ents 0 (fun j=>by rw[Nat.zero_add])]
  have:=(qiR b n).1
  rwa [e]at this
 omega
end Go.PX
namespace Go.PX
open Go.Proofs
abbrev NM:=List (Int×Int)
def qaS(m:NM)(n:Int):Int:=(zg m n).getD 0
def NodK(m:NM):Prop:=(m.map Prod.fst).Nodup
theorem mem_putK{m:NM}{t y x:Int}:x∈(jf m t y).map Prod.fst↔x=t\/x∈m.map Prod.fst:=by
 induction m with
 | nil=>simp[jf]
 | cons p r ih=>
  obtain⟨u,v⟩:=p;rw[jf]
  split
  ·rename_i h
   subst h;simp
  ·rw[List.map_cons,List.map_cons,List.mem_cons,List.mem_cons,ih]
   constructor
   ·rintro (h | h | h)
    ·exact .inr (.inl h)
    ·exact .inl h
    ·exact .inr (.inr h)
   ·rintro (h | h | h)
    ·exact .inr (.inl h)
    ·exact .inl h
    ·exact .inr (.inr h)
theorem NodK.put{m:NM}(h:NodK m)(t y:Int):NodK (jf m t y):=by
 induction m with
 | nil=>simp[NodK,jf]
 | cons p r ih=>
  obtain⟨u,v⟩:=p;unfold NodK at h ih ⊢;rw[List.map_cons,List.nodup_cons]at h;rw[jf]
  split
  ·rename_i he
   subst he;rw[List.map_cons,List.nodup_cons];exact h
  ·rename_i he
   rw[List.map_cons,List.nodup_cons];exact⟨fun hm=>(mem_putK.1 hm).elim (fun e=>he e.symm) h.1,ih h.2⟩
theorem qkD{m:NM}(h:NodK m){i:Nat}{k v:Int}(hi:m[i]?=some (k,v)):zg m k=some v:=by
 induction m generalizing i with
 | nil=>simp at hi
 | cons p r ih=>
  obtain⟨u,w⟩:=p;unfold NodK at h ih;rw[List.map_cons,List.nodup_cons]at h;rw[zg]
  cases i with
  | zero=>rw[List.getElem?_cons_zero]at hi;cases hi;rw[if_pos rfl]
  | succ i=>
   rw[List.getElem?_cons_succ]at hi;have hk:k≠u:=fun e=>h.1 (e▸List.mem_map.2 ⟨_,List.mem_of_getElem? hi,rfl⟩);rw[if_neg hk];exact ih h.2 hi
theorem at_getV{m:NM}{k v:Int}(h:zg m k=some v):∃ i:Nat,m[i]?=some (k,v):=by
 induction m with
 | nil=>cases h
 | cons p r ih=>
  obtain⟨u,w⟩:=p;rw[zg]at h
  split at h
  ·rename_i e;cases h;subst e;exact⟨0,rfl⟩
  ·obtain⟨i,hi⟩:=ih h
   exact⟨i+1,hi⟩
theorem qey(m:NM)(t y n:Int):qaS (jf m t y) n=if n=t then y else qaS m n:=by
 unfold qaS;rw[zj]
 split<;>rfl
def qnT(r:List PEnt)(n:Int):Nat:=(r.filter fun y=>decide (y.kind=3/\y.number=n)).length
structure MineR(r:List PEnt)(m:NM):Prop where
 nod:NodK m
 get:∀ n,qaS m n=qnT r n
 pos:∀ n v,zg m n=some v->1<=v
theorem MineR.nil:MineR [] []:=⟨by simp[NodK],fun n=>rfl,fun n v h=>by cases h⟩
theorem MineR.skip{r:List PEnt}{m:NM}(h:MineR r m){y:PEnt}(hy:y.kind≠3):MineR (r ++ [y]) m:=by
 refine⟨h.nod,fun n=>?_,h.pos⟩;rw[h.get n];unfold qnT;rw[List.filter_append,List.filter_cons,if_neg (by simp[hy])];simp
theorem MineR.inc{r:List PEnt}{m:NM}(h:MineR r m){y:PEnt}(hy:y.kind=3):MineR (r ++ [y]) (jf m y.number (qaS m y.number+1)):=by
 refine⟨h.nod.put _ _,fun n=>?_,fun n v hv=>?_⟩
 ·rw[qey]
  unfold qnT;rw[List.filter_append,List.filter_cons]
  by_cases hn:n=y.number
  ·subst hn
   rw[if_pos rfl,if_pos (by simp[hy]),h.get];unfold qnT;simp
  ·rw[if_neg hn,if_neg (by simp[hy];exact fun e=>hn e.symm),h.get]
   unfold qnT;simp
 ·rw[zj]at hv
  split at hv
  ·cases hv
   have:=h.get y.number;omega
  ·exact h.pos n v hv
structure CntR(bs:List PBook)(m1 m2:NM):Prop where
 in':∀ n,qaS m1 n=(bs.filter fun b=>decide (0<qez b n)).length
 most:∀ n,qaS m2 n=(bs.map fun b=>qez b n).foldl max 0
def Dn(mine:NM)(todo:List Nat)(n:Int):Prop:=∃ (i:Nat) (v:Int),i∉todo/\mine[i]?=some (n,v)
structure RngR(mine b1 b2:NM)(todo:List Nat)(m1 m2:NM):Prop where
 yes:∀ n,Dn mine todo n->qaS m1 n=qaS b1 n+1/\qaS m2 n=max (qaS b2 n) (qaS mine n)
 no:∀ n,¬ Dn mine todo n->qaS m1 n=qaS b1 n/\qaS m2 n=qaS b2 n
theorem RngR.start(mine b1 b2:NM):RngR mine b1 b2 (List.range mine.length) b1 b2:=
 ⟨fun n ⟨i,v,h1,h2⟩=>absurd (List.mem_range.2 (List.getElem?_eq_some_iff.1 h2).1) h1,fun _ _=>⟨rfl,rfl⟩⟩
theorem RngR.step{mine b1 b2 m1 m2:NM}{todo:List Nat}(hn:NodK mine)(h:RngR mine b1 b2 todo m1 m2){i:Nat}{k v:Int}(hi:i∈todo)(hk:mine[i]?=some (k,v)) :
  RngR mine b1 b2 (todo.filter fun j=>!Nat.beq j i) (jf m1 k (qaS m1 k+1)) (jf m2 k (max (qaS m2 k) v)):=by
 have hmem:∀ j,j∉todo.filter (fun j=>!Nat.beq j i)↔j∉todo\/j=i:=fun j=>by
  rw[List.mem_filter]
  by_cases hj:j=i
  ·subst hj;simp
  ·have:Nat.beq j i=false:=by
    cases hb:Nat.beq j i with
    | false=>rfl
    | true=>exact absurd (Nat.eq_of_beq_eq_true hb) hj
   rw[this];simp[hj]
 have one:∀ {j:Nat} {w:Int},mine[j]?=some (k,w)->j=i:=fun {j w} hj=>by
  have h1:(mine.map Prod.fst)[j]?=some k:=by rw[List.getElem?_map,hj];rfl
  have h2:(mine.map Prod.fst)[i]?=some k:=by rw[List.getElem?_map,hk];rfl
  have hjl:=(List.getElem?_eq_some_iff.1 h1).1;exact(List.getElem?_inj hjl hn).1 (h1.trans h2.symm)
 have hkn:¬ Dn mine todo k:=fun⟨j,w,h1,h2⟩=>h1 (one h2▸hi);have hgk:qaS mine k=v:=by unfold qaS;rw[qkD hn hk];rfl
 have hdn:∀ n,n≠k->(Dn mine (todo.filter fun j=>!Nat.beq j i) n↔Dn mine todo n):=fun n hnk=>by
  constructor
  ·rintro ⟨j,w,h1,h2⟩
   rcases (hmem j).1 h1 with h1 | rfl
   ·exact⟨j,w,h1,h2⟩
   ·rw[hk]at h2;cases h2;exact absurd rfl hnk
  ·rintro ⟨j,w,h1,h2⟩
   exact⟨j,w,(hmem j).2 (.inl h1),h2⟩
 obtain⟨g1,g2⟩:=h.no k hkn;refine⟨fun n hd=>?_,fun n hd=>?_⟩
 ·rw[qey,qey]
  by_cases hnk:n=k
  ·subst hnk
   rw[if_pos rfl,if_pos rfl,g1,g2,hgk];exact⟨rfl,rfl⟩
  ·rw[if_neg hnk,if_neg hnk]
   exact h.yes n ((hdn n hnk).1 hd)
 ·have hnk:n≠k:=fun e=>hd (e▸⟨i,v,(hmem i).2 (.inr rfl),hk⟩)
  rw[qey,qey,if_neg hnk,if_neg hnk];exact h.no n fun hd2=>hd ((hdn n hnk).2 hd2)
theorem RngR.fin{bs:List PBook}{b:PBook}{mine b1 b2 m1 m2:NM}(hb:CntR bs b1 b2)(hm:MineR b.ents mine)(h:RngR mine b1 b2 [] m1 m2):CntR (bs ++ [b]) m1 m2:=by
 have hd:∀ n,Dn mine [] n↔0<qez b n:=fun n=>by
  have hg:=hm.get n;constructor
  ·rintro ⟨i,v,_,hi⟩
   have h1:=qkD hm.nod hi;have h2:=hm.pos n v h1;unfold qaS at hg;rw[h1]at hg;show 0<qnT b.ents n;simp only[Option.getD_some]at hg;omega
  ·intro hp
   have hp:0<qnT b.ents n:=hp
   cases hv:zg mine n with
   | none=>unfold qaS at hg;rw[hv]at hg;simp only[Option.getD_none]at hg;omega
   | some v=>
    obtain⟨i,hi⟩:=at_getV hv;exact⟨i,v,by simp,hi⟩
 have hg:∀ n,qaS mine n=qez b n:=hm.get;refine⟨fun n=>?_,fun n=>?_⟩
 ·rw[List.filter_append,List.length_append,List.filter_cons]
  have h1:=hb.in' n
  by_cases hp:0<qez b n
  ·rw[(h.yes n ((hd n).2 hp)).1,h1,if_pos (by simpa using hp)];simp
  ·rw[(h.no n fun hh=>hp ((hd n).1 hh)).1,h1,if_neg (by simpa using hp)];simp
 ·rw[List.map_append,List.foldl_append]
  have h1:=hb.most n;have h2:=hg n;show _=((max ((bs.map fun b=>qez b n).foldl max 0) (qez b n):Nat):Int)
  by_cases hp:0<qez b n
  ·rw[(h.yes n ((hd n).2 hp)).2,h1,h2];omega
  ·rw[(h.no n fun hh=>hp ((hd n).1 hh)).2,h1];omega
theorem CntR.bd{bs:List PBook}{m1 m2:NM}(h:CntR bs m1 m2)(n:Int):0<=qaS m1 n/\qaS m1 n<=bs.length/\0<=qaS m2 n:=by
 have h1:=h.in' n;have h2:=h.most n;have h3:(bs.filter fun b=>decide (0<qez b n)).length<=bs.length:=List.length_filter_le _ _;omega
theorem qeU{κ ν:Type}{kd:κ->D}{vd:ν->D}(m:List (κ×ν)):(kvV kd vd m).length=m.length:=by simp[kvV]
theorem kvV_get{m:NM}{i:Nat}{kv:D×D}(h:(kvV qw qw m)[i]?=some kv):∃ x v,m[i]?=some (x,v)/\kv=(i64 x,i64 v):=by
 unfold kvV at h;rw[List.getElem?_map,Option.map_eq_some_iff]at h;obtain⟨⟨x,v⟩,h1,h2⟩:=h;exact⟨x,v,h1,h2.symm⟩
theorem filter_lt{l:List Nat}{i:Nat}(h:i∈l):(l.filter fun j=>!Nat.beq j i).length<l.length:=by
 induction l with
 | nil=>cases h
 | cons a r ih=>
  rw[List.filter_cons]
  by_cases ha:a=i
  ·subst ha
   rw[show Nat.beq a a=true from Nat.beq_refl a];have:=List.length_filter_le (fun j=>!Nat.beq j a) r;simp only[Bool.not_true,Bool.false_eq_true,if_false,List.length_cons];omega
  ·have hb:Nat.beq a i=false:=by
    cases hb:Nat.beq a i with
    | false=>rfl
    | true=>exact absurd (Nat.eq_of_beq_eq_true hb) ha
   rw[hb];have:=ih ((List.mem_cons.1 h).resolve_left fun e=>ha e.symm);simp only[Bool.not_false,if_true,List.length_cons];omega
set_option maxHeartbeats 4000000 in
theorem qqb(l:PLog)(hR:LogR l):FnU Tryz.prog 86 [.d l.d] [] fun v h'=>h' = [] /\ ∃ m1 m2,CntR l.books m1 m2/\v = .d (.tup [.mv (kvV qw qw m1),.mv (kvV qw qw m2)]):=by
 intro σ Y st;refine qan mixed qi Tryz.func86 rfl (ft:=qpM) (args:=[.d l.d]) (show fnB qpM Tryz.f86 1=true from by decide +kernel) ?_;conv=>whnf
 refine zc (T:=tys) qi (by exact qd mixed qi (by decide +kernel)) l.books (fun i (x:NM×NM)=>⟨[(2,.mp 13),(3,.mp 14),(16,.d (qF l.books)),(17,.d (i64 l.books.length)),(18,.d (i64 i))],[(13,.map (kvV qw qw x.1)),(14,.map (kvV qw qw x.2))],st⟩) (fun i r x=>CntR (l.books.take i) x.1 x.2) ([],[]) (Wk.sub (by repeat' first|exact trivial|refine⟨?_,?_⟩|rfl|(simp only[List.length_map];rfl)|simp[PX.get]) (by repeat' first|exact trivial|refine⟨?_,?_⟩|rfl|(simp only[List.length_map];rfl)|simp[PX.get])) ⟨fun n=>rfl,fun n=>rfl⟩ ?_ ?_
 ·rintro i b r ⟨b1,b2⟩ hb hi hr hC
  have hbl:=hR.books;have hB:=hR.book b (List.mem_of_getElem? hb);have hbe:=hB.ents;have htk:l.books.take (i+1)=l.books.take i ++ [b]:=by rw[List.take_succ,hb];rfl
  simp only at hC;conv=>whnf
  refine qg (fun _=>?_) (fun h=>absurd hi (by simpa using h));conv=>whnf
  refine qr hb ?_;conv=>whnf
  refine zc (T:=tys) qi (by exact qd mixed qi (by decide +kernel)) b.ents (fun k (m:NM)=>⟨[(2,.mp 13),(3,.mp 14),(16,.d (qF l.books)),(17,.d (i64 l.books.length)),(18,.d (i64 i)),(6,.mp 22),(24,.d (qdF b.ents)),(25,.d (i64 b.ents.length)),(26,.d (i64 k))],[(13,.map (kvV qw qw b1)),(14,.map (kvV qw qw b2)),(22,.map (kvV qw qw m))],st⟩) (fun k r m=>MineR (b.ents.take k) m) [] (Wk.sub (by repeat' first|exact trivial|refine⟨?_,?_⟩|rfl|(simp only[List.length_map];rfl)|simp[PX.get]) (by repeat' first|exact trivial|refine⟨?_,?_⟩|rfl|(simp only[List.length_map];rfl)|simp[PX.get])) (by rw[List.take_zero];exact MineR.nil) ?_ ?_
  ·rintro k y q m hy hk hq hM
   have hte:b.ents.take (k+1)=b.ents.take k ++ [y]:=by rw[List.take_succ,hy];rfl
   have hyk:=(hB.ent y (List.mem_of_getElem? hy)).2.1;conv=>whnf
   refine qg (fun _=>?_) (fun h=>absurd hk (by simpa using h));conv=>whnf
   refine qr hy ?_;conv=>whnf
   refine qe (qnf y) rfl rfl ?_
   by_cases h3:y.kind=3
   ·have ht:qX y = .ifc 156 (.agg [.str y.word,i64 y.number]):=by unfold qX;rw[if_neg (by omega),if_neg (by omega),if_pos h3]
    rw[ht];have hM2:=hM.inc h3;rw[<- hte]at hM2;have hb8:qaS m y.number<=k:=by
     rw[hM.get];have h1:qnT (b.ents.take k) y.number<=(b.ents.take k).length:=List.length_filter_le _ _;rw[List.length_take]at h1;omega
    have hb0:0<=qaS m y.number:=by rw[hM.get];omega
    generalize hG:qaS m y.number=G at hM2 hb8 hb0;conv=>whnf
    cases hg:zg m y.number with
    | none=>
     have hG0:G=0:=by rw[<- hG];unfold qaS;rw[hg];rfl
     refine⟨none,ql (kd:=qw) qn hg 0,?_⟩;conv=>whnf
     refine qh (G+1) (by omega) (qa (by omega)) ?_;conv=>whnf
     refine⟨none,ql (kd:=qw) qn hg 0,?_⟩;conv=>whnf
     refine qc (qa (by(try dsimp only);omega)) ?_;conv=>whnf
     refine⟨_,hM2,Wk.sub ⟨rfl,rfl,rfl,rfl,rfl,rfl,rfl,rfl,rfl,trivial⟩ ⟨rfl,rfl,?_,trivial⟩⟩;exact congrArg (fun z=>some (Obj.map z)) (qR (kd:=qw) (vd:=qw) (G+1) hg)
    | some v=>
     have hG0:G=v:=by rw[<- hG];unfold qaS;rw[hg];rfl
     obtain⟨ix,_,hx1,hx2,_⟩:=qt (kd:=qw) (vd:=qw) qn hg 0;refine⟨_,hx1,?_⟩;conv=>whnf
     refine qh (G+1) (by omega) (qa (by omega)) ?_;conv=>whnf
     refine⟨_,hx1,?_⟩;conv=>whnf
     refine qc (qa (by(try dsimp only);omega)) ?_;conv=>whnf
     refine⟨_,hM2,Wk.sub ⟨rfl,rfl,rfl,rfl,rfl,rfl,rfl,rfl,rfl,trivial⟩ ⟨rfl,rfl,?_,trivial⟩⟩;show some (Obj.map ((kvV qw qw m).set (0+ix) (i64 y.number,i64 (G+1))))=_;rw[Nat.zero_add];exact congrArg (fun z=>some (Obj.map z)) (hx2 (G+1))
   ·have hM2:=hM.skip h3
    rw[<- hte]at hM2
    by_cases h2:y.kind=2
    ·have ht:qX y = .ifc 175 (.agg []):=by unfold qX;rw[if_neg (by omega),if_pos h2]
     rw[ht];conv=>whnf
     refine qc (qa (by(try dsimp only);omega)) ?_;conv=>whnf
     exact⟨m,hM2,(Wk.sub (by repeat' first|exact trivial|refine⟨?_,?_⟩|rfl|(simp only[List.length_map];rfl)|simp[PX.get]) (by repeat' first|exact trivial|refine⟨?_,?_⟩|rfl|(simp only[List.length_map];rfl)|simp[PX.get]))⟩
    ·have ht:qX y = .ifc 138 (.agg [.str y.word]):=by unfold qX;rw[if_pos (by omega)]
     rw[ht];conv=>whnf
     refine qc (qa (by(try dsimp only);omega)) ?_;conv=>whnf
     exact⟨m,hM2,(Wk.sub (by repeat' first|exact trivial|refine⟨?_,?_⟩|rfl|(simp only[List.length_map];rfl)|simp[PX.get]) (by repeat' first|exact trivial|refine⟨?_,?_⟩|rfl|(simp only[List.length_map];rfl)|simp[PX.get]))⟩
  ·rintro m hM
   rw[List.take_length]at hM;conv=>whnf
   refine qg (fun h=>absurd h (by simp)) (fun _=>?_);conv=>whnf
   refine zt (T:=tys) qi (by exact qd mixed qi (by decide +kernel)) (α:=List Nat×(NM×(NM×Option Nat)))
    (fun p=>⟨[(2,.mp 13),(3,.mp 14),(16,.d (qF l.books)),(17,.d (i64 l.books.length)),(18,.d (i64 i)),(44,.it 44)],[(13,.map (kvV qw qw p.2.1)),(14,.map (kvV qw qw p.2.2.1)),(22,.map (kvV qw qw m)),(44,.mit (.mp 22) m.length p.1 p.2.2.2)],st⟩)
    (fun p=>RngR m b1 b2 p.1 p.2.1 p.2.2.1) (fun p=>p.1.length) (List.range m.length,(b1,(b2,none))) ?wk2 (RngR.start m b1 b2) ?_
   case wk2=>
    refine Wk.sub ⟨rfl,rfl,rfl,rfl,rfl,rfl,trivial⟩ ⟨rfl,rfl,rfl,?_,trivial⟩;show some (Obj.mit (V.mp 22) (kvV qw qw m).length (List.range (kvV qw qw m).length) none)=_;rw[qeU]
   rintro ⟨todo,m1,m2,cur⟩ hRg;simp only at hRg;conv=>whnf
   refine⟨by simp[qeU],fun h0=>?_,fun j kv hj hkv=>?_⟩
   ·have h0:todo = []:=h0
    subst h0;have hC2:=hRg.fin hC hM;rw[<- htk]at hC2;conv=>whnf
    refine qc (qa (by(try dsimp only);omega)) ?_;conv=>whnf
    exact⟨(m1,m2),hC2,(Wk.sub (by repeat' first|exact trivial|refine⟨?_,?_⟩|rfl|(simp only[List.length_map];rfl)|simp[PX.get]) (by repeat' first|exact trivial|refine⟨?_,?_⟩|rfl|(simp only[List.length_map];rfl)|simp[PX.get]))⟩
   ·obtain⟨n,v,hnv,rfl⟩:=kvV_get hkv
    have hj:j∈todo:=hj;have hlt:=filter_lt hj;have hstep:=hRg.step hM.nod hj hnv;have hgm:=qkD hM.nod hnv;conv=>whnf
    refine⟨by simp[qeU],(i64 n,i64 v),hkv,?_⟩;conv=>whnf
    have hv1:=hM.pos n v hgm;have hbd:qaS m1 n<=3/\0<=qaS m1 n:=by
     have:=hC.bd n;rw[List.length_take]at this;have hnd:¬ Dn m todo n:=fun⟨j',w,h1,h2⟩=>by
      have hjl:=(List.getElem?_eq_some_iff.1 h2).1;have e1:(m.map Prod.fst)[j']?=some n:=by rw[List.getElem?_map,h2];rfl
      have e2:(m.map Prod.fst)[j]?=some n:=by rw[List.getElem?_map,hnv];rfl
      have:j'=j:=(List.getElem?_inj (by simpa using hjl) hM.nod).1 (e1.trans e2.symm);exact h1 (this▸hj)
     have:=(hRg.no n hnd).1;omega
    generalize hG1:qaS m1 n=G1 at hstep hbd;generalize hG2:qaS m2 n=G2 at hstep
    cases hg1:zg m1 n with
    | none=>
     have hG0:G1=0:=by rw[<- hG1];unfold qaS;rw[hg1];rfl
     refine⟨none,ql (kd:=qw) qn hg1 0,?_⟩;conv=>whnf
     refine qh (G1+1) (by omega) (qa (by omega)) ?_;conv=>whnf
     refine⟨none,ql (kd:=qw) qn hg1 0,?_⟩;conv=>whnf
     cases hg2:zg m2 n with
     | none=>
      have hH0:G2=0:=by rw[<- hG2];unfold qaS;rw[hg2];rfl
      refine⟨none,ql (kd:=qw) qn hg2 0,?_⟩;conv=>whnf
      refine⟨none,ql (kd:=qw) qn hg2 0,?_⟩;conv=>whnf
      refine⟨(todo.filter fun j'=>!Nat.beq j' j,(jf m1 n (G1+1),(jf m2 n (max G2 v),some j))),hlt,hstep,Wk.sub ⟨rfl,rfl,rfl,rfl,rfl,rfl,trivial⟩ ⟨?_,?_,rfl,rfl,trivial⟩⟩
      ·exact congrArg (fun z=>some (Obj.map z)) (qR (kd:=qw) (vd:=qw) (G1+1) hg1)
      ·rw[hH0]
       exact congrArg (fun z=>some (Obj.map z)) (qR (kd:=qw) (vd:=qw) (max 0 v) hg2)
     | some v2=>
      have hH0:G2=v2:=by rw[<- hG2];unfold qaS;rw[hg2];rfl
      obtain⟨iy,_,hy1,hy2,_⟩:=qt (kd:=qw) (vd:=qw) qn hg2 0;refine⟨_,hy1,?_⟩;conv=>whnf
      refine⟨_,hy1,?_⟩;conv=>whnf
      refine⟨(todo.filter fun j'=>!Nat.beq j' j,(jf m1 n (G1+1),(jf m2 n (max G2 v),some j))),hlt,hstep,Wk.sub ⟨rfl,rfl,rfl,rfl,rfl,rfl,trivial⟩ ⟨?_,?_,rfl,rfl,trivial⟩⟩
      ·exact congrArg (fun z=>some (Obj.map z)) (qR (kd:=qw) (vd:=qw) (G1+1) hg1)
      ·rw[hH0]
       show some (Obj.map ((kvV qw qw m2).set (0+iy) (i64 n,i64 (max v2 v))))=_;rw[Nat.zero_add];exact congrArg (fun z=>some (Obj.map z)) (hy2 (max v2 v))
    | some v1=>
     have hG0:G1=v1:=by rw[<- hG1];unfold qaS;rw[hg1];rfl
     obtain⟨ix,_,hx1,hx2,_⟩:=qt (kd:=qw) (vd:=qw) qn hg1 0;refine⟨_,hx1,?_⟩;conv=>whnf
     refine qh (G1+1) (by omega) (qa (by omega)) ?_;conv=>whnf
     refine⟨_,hx1,?_⟩;conv=>whnf
     cases hg2:zg m2 n with
     | none=>
      have hH0:G2=0:=by rw[<- hG2];unfold qaS;rw[hg2];rfl
      refine⟨none,ql (kd:=qw) qn hg2 0,?_⟩;conv=>whnf
      refine⟨none,ql (kd:=qw) qn hg2 0,?_⟩;conv=>whnf
      refine⟨(todo.filter fun j'=>!Nat.beq j' j,(jf m1 n (G1+1),(jf m2 n (max G2 v),some j))),hlt,hstep,Wk.sub ⟨rfl,rfl,rfl,rfl,rfl,rfl,trivial⟩ ⟨?_,?_,rfl,rfl,trivial⟩⟩
      ·(show some (Obj.map ((kvV qw qw m1).set (0+ix) (i64 n,i64 (G1+1))))=_);rw[Nat.zero_add];exact congrArg (fun z=>some (Obj.map z)) (hx2 (G1+1))
      ·rw[hH0]
       exact congrArg (fun z=>some (Obj.map z)) (qR (kd:=qw) (vd:=qw) (max 0 v) hg2)
     | some v2=>
      have hH0:G2=v2:=by rw[<- hG2];unfold qaS;rw[hg2];rfl
      obtain⟨iy,_,hy1,hy2,_⟩:=qt (kd:=qw) (vd:=qw) qn hg2 0;refine⟨_,hy1,?_⟩;conv=>whnf
      refine⟨_,hy1,?_⟩;conv=>whnf
      refine⟨(todo.filter fun j'=>!Nat.beq j' j,(jf m1 n (G1+1),(jf m2 n (max G2 v),some j))),hlt,hstep,Wk.sub ⟨rfl,rfl,rfl,rfl,rfl,rfl,trivial⟩ ⟨?_,?_,rfl,rfl,trivial⟩⟩
      ·(show some (Obj.map ((kvV qw qw m1).set (0+ix) (i64 n,i64 (G1+1))))=_);rw[Nat.zero_add];exact congrArg (fun z=>some (Obj.map z)) (hx2 (G1+1))
      ·rw[hH0]
       show some (Obj.map ((kvV qw qw m2).set (0+iy) (i64 n,i64 (max v2 v))))=_;rw[Nat.zero_add];exact congrArg (fun z=>some (Obj.map z)) (hy2 (max v2 v))
 ·rintro ⟨m1,m2⟩ hC
  rw[List.take_length]at hC;conv=>whnf
  refine qg (fun h=>absurd h (by simp)) (fun _=>?_);conv=>whnf
  refine qb 1 (ds:=[.mv (kvV qw qw m1),.mv (kvV qw qw m2)]) (qx (qfB rfl) (qx (qfB rfl) rfl)) ⟨⟨rfl,m1,m2,hC,rfl⟩,rfl⟩
end Go.PX
