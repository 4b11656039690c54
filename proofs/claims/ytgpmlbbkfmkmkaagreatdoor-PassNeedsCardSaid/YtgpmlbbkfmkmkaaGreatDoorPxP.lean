import Derived.Test.YtgpmlbbkfmkmkaaGreatDoorPxO
import Derived.Tactics
import Derived.Tactics2
import Derived.Recover
import Derived.Test.YtgpmlbbkfmkmkaaGreatDoorPxN
import Derived.Test.YtgpmlbbkfmkmkaaGreatDoorPxM
set_option linter.all false
set_option maxRecDepth 10000
namespace Go.PX
open Go.Proofs
open Go.RowKit
theorem qqf(near:Int):CloD Tryz.prog 93 (.panicking [{ v:=qkL,recovered:=false }]) (.panicking [{ v:=qkL,recovered:=true }]) [(1000000,.box (.dd [i64 near,.nils])),(1000001,.box (.dd [i64 0]))] [(1000000,.box (.dd [i64 0,.nils])),(1000001,.box (.dd [i64 6]))]:=by
 intro σ cx hl L F s w hh;refine callsDIn_of_wpSIn Tryz.func93 rfl trivial fun c₀ cs hu=>?_;apply wpSIn_seq;apply wpSIn_region;simp[wpOpsSIn,go_sem,recoverD,hu,Exit.thenS];refine wpSIn_of_wpIn rfl ?_;refine qkS qm (ft:=qxX) hl hh (n:=9) rfl (v:=qkL) (d:=.ifc 27 (i64 6)) ⟨_,rfl,rfl⟩ trivial (by simp) rfl (by rfl) (by rfl) (by rfl) (by decide +kernel) (by exact(qg mixed qm (by decide +kernel))) rfl (h':=[(1000000,.box (.dd [i64 0,.nils])),(1000001,.box (.dd [i64 6]))]) ?_ ?_
 ·intro a' w' L' F' hdf hh' tr pin
  refine⟨hdf,.panicking [{ v:=qkL,recovered:=true }],rfl,.tuple #[],qvR _ _,⟨⟨_,rfl⟩,rfl,L',F',hh',tr,pin⟩⟩
 ·conv=>whnf
  exact⟨jF ⟨rfl,rfl,trivial⟩,rfl⟩
def qfJ:Nat->PLog->List UInt8->Option PLog
 | 0,c,_=>some c
 | n+1,c,l=>if l = [] then some c else
  if (qcc 10 l).2.2 then
   match qew c (qau 32 ⟨(qcc 10 l).1.toArray⟩) with
   | some c'=>qfJ n c' (qcc 10 l).2.1
   | none=>none
  else none
def qwr:PLog:=⟨0,[]⟩
def qss(l:List UInt8):Option (Int×List UInt8):=
 if (qcc 10 l).2.2 then
  if (qsV ⟨(qcc 10 l).1.toArray⟩ qqe).2 then (jV (qsV ⟨(qcc 10 l).1.toArray⟩ qqe).1).map fun n=>(n,(qcc 10 l).2.1) else none
 else none
def qbv(l:List UInt8):Option PLog:=match qss l with
 | none=>none
 | some x=>qfJ x.2.length ⟨x.1,[]⟩ x.2
def qmu(s:ByteArray):PLog×Int:=
 if 1500<s.size then (qwr,3) else
 match qbv s.data.toList with
 | some c=>if qE c=0/\qqD c=s then (c,0) else (qwr,6)
 | none=>(qwr,6)
theorem qfK(c:UInt8):∀ l:List UInt8,(qcc c l).1.length+(qcc c l).2.1.length<=l.length/\(l ≠ []->(qcc c l).2.1.length<l.length)
 | []=>by simp[qcc]
 | x::r=>by
  have ih:=qfK c r;rw[qcc];split
  ·simp
  ·simp only[List.length_cons]
   refine⟨by omega,fun _=>?_⟩;omega
theorem qjJ:∀ (n m:Nat) (c:PLog) (l:List UInt8),l.length<=n->l.length<=m->qfJ n c l=qfJ m c l
 | 0,0,_,_,_,_=>rfl
 | 0,m+1,c,l,hn,_=>by
  have:l = []:=List.length_eq_zero_iff.1 (by omega);rw[qfJ,qfJ,if_pos this]
 | n+1,0,c,l,_,hm=>by
  have:l = []:=List.length_eq_zero_iff.1 (by omega);rw[qfJ,qfJ,if_pos this]
 | n+1,m+1,c,l,hn,hm=>by
  rw[qfJ,qfJ];by_cases h:l = []
  ·rw[if_pos h,if_pos h]
  ·rw[if_neg h,if_neg h]
   have:=(qfK 10 l).2 h;split
   ·cases qew c (qau 32 ⟨(qcc 10 l).1.toArray⟩) with
    | none=>rfl
    | some c'=>exact qjJ n m c' _ (by omega) (by omega)
   ·rfl
def qqg(c:PLog)(l:List UInt8):Option PLog:=qfJ l.length c l
theorem qua(c:PLog)(l:List UInt8):qqg c l=if l = [] then some c else
  if (qcc 10 l).2.2 then
   match qew c (qau 32 ⟨(qcc 10 l).1.toArray⟩) with
   | some c'=>qqg c' (qcc 10 l).2.1
   | none=>none
  else none:=by
 unfold qqg;by_cases h:l = []
 ·subst h;rfl
 ·obtain⟨x,r,rfl⟩:=List.exists_cons_of_ne_nil h
  rw[if_neg h];have hl:=(qfK 10 (x::r)).2 h;show qfJ (r.length+1) c (x::r)=_;rw[qfJ,if_neg h];split
  ·cases qew c (qau 32 ⟨(qcc 10 (x::r)).1.toArray⟩) with
   | none=>rfl
   | some c'=>exact qjJ _ _ c' _ (by simp at hl;omega) (Nat.le_refl _)
  ·rfl
def qiB(e:Int):D:=.tup [.agg [i64 0,.nils],i64 e]
theorem qxh(l:List UInt8)(c:UInt8)(hs:l.length<=1000000000):FnV Tryz.prog 94 [.str ⟨l.toArray⟩,.str ⟨#[c]⟩] (.tup [.str ⟨(qcc c l).1.toArray⟩,.str ⟨(qcc c l).2.1.toArray⟩,.bool (qcc c l).2.2]):=by
 have h:=@qAy ⟨l.toArray⟩ c (by show l.toArray.size<=_;simpa using hs);have e:(⟨l.toArray⟩:ByteArray).data.toList=l:=rfl;rw[e]at h;exact fun {σ}=>h
theorem qfL{σ:Type}{st:σ}{en:Env}{h:Heap}{near:Int}{i n:Nat}(h2:get en 2=some (.ptr 1000000 0))(h3:get en 3=some (.ptr 1000001 0))(hh:qbt h [(1000000,.box (.vv [.d (i64 near),.sl i 6 0 n])),(1000001,.box (.dd [i64 0]))]) :
  qwq Tryz.prog tys Tryz.f41 93 2 3 (qiB 6) st (.panicking [{ v:=qkL,recovered:=false }]) en h st:=by
 refine⟨h2,h3,.panicking [{ v:=qkL,recovered:=true }],_,rfl,CloD.sub (h0:=[(1000000,.box (.vv [.d (i64 near),.sl i 6 0 n])),(1000001,.box (.dd [i64 0]))]) (fun {σ}=>qsq near i n) hh,?_⟩;conv=>whnf
 exact qc 1 rfl ⟨rfl,rfl,rfl⟩
theorem qnI{σ:Type}{st:σ}{en:Env}{h:Heap}{near:Int}(h2:get en 2=some (.ptr 1000000 0))(h3:get en 3=some (.ptr 1000001 0))(hh:qbt h [(1000000,.box (.dd [i64 near,.nils])),(1000001,.box (.dd [i64 0]))]) :
  qwq Tryz.prog tys Tryz.f41 93 2 3 (qiB 6) st (.panicking [{ v:=qkL,recovered:=false }]) en h st:=by
 refine⟨h2,h3,.panicking [{ v:=qkL,recovered:=true }],_,rfl,CloD.sub (h0:=[(1000000,.box (.dd [i64 near,.nils])),(1000001,.box (.dd [i64 0]))]) (fun {σ}=>qqf near) hh,?_⟩;conv=>whnf
 exact qc 1 rfl ⟨rfl,rfl,rfl⟩
def rdH(near:Int)(o:Option (List PBook×PBook)):Heap:=match o with
 | none=>[(1000000,.box (.vv [.d (i64 near),.sl 900001 6 0 0])),(900001,.arr 6 (.dd []))]
 | some x=>lg1 1000000 900001 900002 near x.1 x.2
def rdL(near:Int)(o:Option (List PBook×PBook)):PLog:=match o with
 | none=>⟨near,[]⟩
 | some x=>⟨near,x.1 ++ [x.2]⟩
def qpc(bs:List PBook):Nat:=(bs.map fun b=>1+b.ents.length).sum
theorem qjK(c:UInt8):∀ l:List UInt8,(qaR c l).length<=l.length+1
 | []=>by simp[qaR]
 | x::r=>by
  have ih:=qjK c r;rw[qaR];split
  ·simpa using ih
  ·have:(qnG x (qaR c r)).length<=max 1 (qaR c r).length:=by cases qaR c r<;>simp[qnG]
   simp only[List.length_cons];omega
theorem qjL(c:UInt8):∀ (l:List UInt8),∀ x∈qaR c l,x.length<=l.length
 | [],x,hx=>by simp[qaR]at hx;subst hx;simp
 | y::r,x,hx=>by
  have ih:=qjL c r;rw[qaR]at hx;split at hx
  ·rcases List.mem_cons.1 hx with rfl|hx
   ·simp
   ·have:=ih x hx;simp only[List.length_cons];omega
  ·cases hs:qaR c r with
   | nil=>rw[hs]at hx;simp[qnG]at hx;subst hx;simp
   | cons a t=>
    rw[hs]at hx ih;rcases List.mem_cons.1 hx with rfl|hx
    ·have:=ih a (by simp);simp only[List.length_cons];omega
    ·have:=ih x (by simp[hx]);simp only[List.length_cons];omega
theorem qnJ(c:UInt8)(s:ByteArray):(qau c s).length<=s.size+1:=by
 have:=qjK c s.data.toList;simp only[qau,List.length_map];simpa using this
theorem qnK(c:UInt8)(s:ByteArray):∀ x∈qau c s,x.size<=s.size:=by
 intro x hx;obtain⟨y,hy,rfl⟩:=List.mem_map.1 hx;have:=qjL c s.data.toList y hy;show y.length<=s.size;simpa using this
theorem qqh(c:UInt8)(s:ByteArray):qau c s ≠ []:=by
 unfold qau;intro h;exact qsd c _ (List.map_eq_nil_iff.1 h)
theorem qst(s p:ByteArray):(qsV s p).1.size<=s.size:=by
 unfold qsV;split
 ·simp
 ·exact Nat.le_refl _
theorem qjM{r:List ByteArray}{b:PBook}(h:qcS r=some b):∃ n o s,b=⟨n,o,s,[]⟩:=by
 unfold qcS at h;split at h
 ·rename_i n a b' c d
  cases h2:four a b' c d with
  | none=>rw[h2]at h;cases h
  | some x=>rw[h2]at h;cases h;exact⟨_,_,_,rfl⟩
 ·cases h
theorem qed(init:List PBook)(last:PBook):qpc (init ++ [last])=qpc init+1+last.ents.length/\init.length<=qpc init:=by
 have h1:qpc (init ++ [last])=qpc init+(1+last.ents.length):=by unfold qpc;rw[List.map_append,List.sum_append];simp
 refine⟨by omega,?_⟩;clear h1
 induction init with
 | nil=>exact Nat.zero_le _
 | cons b r ih=>
  have:qpc (b::r)=(1+b.ents.length)+qpc r:=by unfold qpc;rw[List.map_cons,List.sum_cons]
  rw[List.length_cons];omega
theorem qmv(b i j:Nat)(near:Int)(init:List PBook)(last:PBook):zz (lg1 b i j near init last) = [b,i,i,j,j]:=by
 show b::([i]++(i::(zh (List.flatten (ze (init.map PBook.cells) ++ [inj (hdC last) ++ [V.sl j 4 0 last.ents.length]])) ++ [j])))=_;rw[jD];rfl
theorem qjN(near:Int)(init:List PBook)(last:PBook):qbU [1000000,900001,900002] (some 51) (.d (.tup [])) (lg1 1000000 1000001 1000002 near init last)=true:=by
 unfold qbU;rw[qmv];rfl
theorem qqi(near:Int)(init:List PBook)(last:PBook):qbU [1000000,900001,900002] (some 51) (.d (.tup [])) (lg1 1000000 1000001 2000000 near init last)=true:=by
 unfold qbU;rw[qmv];rfl
theorem qsu{h:Heap}{k id sz n:Nat}{vs:List (List V)}{es:List (List D)}(hg:get h id=some (.arr sz (.vv vs)))(hv:qaA (qcv h k) vs=some es)(hn:n=es.length):jU (qcv h (k+1)) (.sl id sz 0 n)=some (.vs es):=by
 have h1:Nat.beq sz sz=true:=Nat.beq_refl sz;have h2:Nat.ble (0+es.length) es.length=true:=Nat.ble_eq_true_of_le (by omega);subst hn;simp only[jU,qcv,hg,hv,h1,h2];simp
theorem qmw{h:Heap}{near:Int}{n:Nat}{l:List PBook}(hs:jU (qcv h 2) (.sl 900001 6 0 n)=some (qS l)):zY (qcv h 2) [.agg [.d (i64 near),.sl 900001 6 0 n]]=some [(⟨near,l⟩:PLog).d]:=by
 have:zY (qcv h 2) [.d (i64 near),.sl 900001 6 0 n]=some [i64 near,qS l]:=qy rfl (qy hs rfl);refine qy ?_ rfl;rw[jU,this];rfl
theorem qmx{h:Heap}{v:V}{d e:D}(hv:zY (qcv h 2) [v]=some [d]):zY (qcv h 2) [v,.d e]=some [d,e]:=by
 rw[zY]at hv;rw[zY]
 cases hx:jU (qcv h 2) v with
 | none=>rw[hx]at hv;cases hv
 | some d=>rw[hx]at hv;cases hv;rfl
theorem qsv{h:Heap}(near:Int)(h1:get h 900001=some (.arr 6 (.dd []))):zY (qcv h 2) [.agg [.d (i64 near),.sl 900001 6 0 0]]=some [(rdL near none).d]:=
 qmw (l:=[]) (js h1 (by simp))
theorem qsw{h:Heap}(near:Int)(init:List PBook)(last:PBook)(h1:get h 900001=some (.arr 6 (.vv (ze (init.map PBook.cells) ++ [inj (hdC last) ++ [.sl 900002 4 0 last.ents.length]]))))(h2:get h 900002=some (.arr 4 (.dd (last.ents.map PEnt.cells)))) :
  zY (qcv h 2) [.agg [.d (i64 near),.sl 900001 6 0 (init.length+1)]]=some [(rdL near (some (init,last))).d]:=by
 have e1:jU (qcv h 1) (.sl 900002 4 0 last.ents.length)=some (qeS last.ents):=js h2 (by simp);have e2:qaA (qcv h 1) (ze (init.map PBook.cells) ++ [inj (hdC last) ++ [.sl 900002 4 0 last.ents.length]])=some (init.map PBook.cells ++ [last.cells]):=qcJ (qeo (qcI (a:=hdC last) (qy e1 rfl))) _;have e3:init.map PBook.cells ++ [last.cells]=(init ++ [last]).map PBook.cells:=by simp
 rw[e3]at e2;exact qmw (l:=init ++ [last]) (qsu h1 e2 (by simp))
set_option maxHeartbeats 4000000 in
theorem qxi(s:ByteArray)(r:D)(h3:1500<s.size->r=qiB 3)(h6:s.size<=1500->qbv s.data.toList=none->r=qiB 6)
  (h7:s.size<=1500 -> ∀ c,qbv s.data.toList=some c->((qE c=0/\qqD c=s)->r = .tup [c.d,i64 0])/\(¬ (qE c=0/\qqD c=s)->r=qiB 6)):FnV Tryz.prog 41 [.str s] r:=by
 refine qsp (ds:=[.str s]) (ft:=qyU) (g:=93) mixed qm 2 3 19 (lc:=[i64 0,.nils]) (le:=[i64 0]) Tryz.func41 rfl (show fnB qyU Tryz.f41 1=true from by decide +kernel) (by decide) (by decide) (by decide) rfl rfl rfl ?_ ?_ fun {σ} Y st=>?_
 ·intro a w p q Q hp hq hs h
  have hmf:∀ (fn:Fn) (first cap:Array Value) (w:World),(Instr.makeFunc fn first cap).run Tryz.prog w = .ok (.func fn first cap) w:=fun _ _ _ _=>rfl;apply wpIn_region;have e2:a.tmps.getD 2 undef=p:=by rw[Array.getD_eq_getD_getElem?,hp];rfl
  have e3:a.tmps.getD 3 undef=q:=by rw[Array.getD_eq_getD_getElem?,hq];rfl
  have hsz:19<a.tmps.size:=by rw[hs];decide
  simp[wpOpsIn,wpOpIn,go_sem,hmf,e2,e3,hsz,Oper.uponIn,Result.andThen];simpa using h
 ·intro p q w
  rfl
 conv=>whnf
 refine qj (fun hb=>?_) (fun hb=>?_)
 ·have h0:=h3 (by have:=of_decide_eq_true hb;omega)
  subst h0;conv=>whnf
  refine⟨rfl,?_⟩;conv=>whnf
  exact qc 0 rfl ⟨⟨rfl,rfl⟩,rfl⟩
 refine⟨?_,?_⟩
 ·exact Wk.sub ⟨rfl,rfl,rfl,trivial⟩ ⟨rfl,rfl,trivial⟩
 have hs4:s.size<=1500:=by have:=of_decide_eq_false hb;omega
 have h6:=h6 hs4;have h7:=h7 hs4;have hsd:s=⟨s.data.toList.toArray⟩:=by cases s;simp
 have hsl:s.data.toList.length<=1500:=by simpa using hs4
 generalize hl0:s.data.toList=l0 at h6 h7 hsd hsl;conv=>whnf
 rw[hsd];refine qk (ds:=[.str ⟨l0.toArray⟩,.str ⟨#[10]⟩]) (qxh l0 10 (by omega)) rfl rfl ?_;conv=>whnf
 refine qk (ds:=[.str ⟨(qcc 10 l0).1.toArray⟩,.str qqe]) (qAG ⟨(qcc 10 l0).1.toArray⟩ qqe) rfl rfl ?_;have hlen0:=(qfK 10 l0).1
 have hRA:qbv l0=match qss l0 with
  | none=>none
  | some x=>qfJ x.2.length ⟨x.1,[]⟩ x.2:=rfl
 have hcs:=qst ⟨(qcc 10 l0).1.toArray⟩ qqe;have hhs:(⟨(qcc 10 l0).1.toArray⟩:ByteArray).size<=1500:=by show(qcc 10 l0).1.toArray.size<=_;rw[List.size_toArray];omega
 unfold qss at hRA;generalize qsV ⟨(qcc 10 l0).1.toArray⟩ qqe=CP at hRA hcs ⊢;generalize (⟨(qcc 10 l0).1.toArray⟩:ByteArray)=HD at hhs hcs;generalize qcc 10 l0=C1 at hRA hlen0 ⊢;obtain⟨c1,rest,is⟩:=C1;obtain⟨nm,is2⟩:=CP;simp only at hRA hlen0 hcs
 cases is with
 | false=>
  simp only[Bool.false_eq_true,if_false]at hRA;have h0:=h6 hRA;subst h0;conv=>whnf
  refine qan rfl (fun h=>by cases h) (fun _=>?_);conv=>whnf
  exact qnI rfl rfl ⟨rfl,rfl,trivial⟩
 | true=>
 simp only[if_true]at hRA
 cases is2 with
 | false=>
  simp only[Bool.false_eq_true,if_false]at hRA;have h0:=h6 hRA;subst h0;conv=>whnf
  refine qan rfl (fun h=>by cases h) (fun _=>?_);conv=>whnf
  exact qnI rfl rfl ⟨rfl,rfl,trivial⟩
 | true=>
 simp only[if_true]at hRA;conv=>whnf
 refine qan rfl (fun _=>?_) (fun h=>by cases h);conv=>whnf
 refine qgV (x:=nm) (by omega) (fun near hnr=>?_) (fun hnr=>?_) rfl (by intro k;rfl);case refine_2=>
  rw[hnr]at hRA;have h0:=h6 hRA;subst h0;conv=>whnf
  exact qnI rfl rfl ⟨rfl,rfl,trivial⟩
 rw[hnr]at hRA;have hRA:qbv l0=qqg ⟨near,[]⟩ rest:=hRA;conv=>whnf
 refine zI (T:=tys) qm (by exact qg mixed qm (by decide +kernel)) (fun x:Option (List PBook×PBook)×List UInt8=>⟨[(0,.d (.str ⟨l0.toArray⟩)),(2,.ptr 1000000 0),(3,.ptr 1000001 0),(5,.d (.str ⟨x.2.toArray⟩))],(1000001,.box (.dd [i64 0]))::rdH near x.1,st⟩) (fun x=>qbv l0=qqg (rdL near x.1) x.2/\qpc (rdL near x.1).books+x.2.length<=1500) (fun x=>x.2.length) (none,rest) ?_ ⟨hRA,?_⟩ ?_
 ·exact(Wk.bornAtD 1000000 900001 6 [i64 near] [] rfl rfl rfl rfl rfl).trans (Wk.sub ⟨rfl,rfl,rfl,rfl,trivial⟩ ⟨rfl,rfl,rfl,trivial⟩)
 ·show 0+rest.length<=1500
  omega
 rintro ⟨o,l⟩ ⟨hl,hlen⟩;simp only at hlen;have hl:qbv l0=qqg (rdL near o) l:=hl;conv=>whnf
 refine qj (fun hb=>?_) (fun hb=>?_)
 ·have hne:l ≠ []:=by rintro rfl;simp at hb
  have hcl:=qfK 10 l;rw[qua _ l,if_neg hne]at hl;conv=>whnf
  refine qk (qxh l 10 (by omega)) rfl rfl ?_;conv=>whnf
  refine qan rfl (fun ht=>?_) (fun ht=>?_)
  ·rw[ht,if_pos rfl]at hl
   have hps:(⟨(qcc 10 l).1.toArray⟩:ByteArray).size<=1500:=by show(qcc 10 l).1.toArray.size<=_;rw[List.size_toArray];omega
   have hwl:=qnJ 32 ⟨(qcc 10 l).1.toArray⟩;have hwm:=qnK 32 ⟨(qcc 10 l).1.toArray⟩;have hwn:qau 32 ⟨(qcc 10 l).1.toArray⟩ ≠ []:=qqh _ _;have hcl2:=hcl.2 hne;conv=>whnf
   refine qk (ds:=[.str ⟨(qcc 10 l).1.toArray⟩,.str ⟨#[32]⟩]) (qAz ⟨(qcc 10 l).1.toArray⟩ 32 (by omega)) rfl rfl ?_;generalize qau 32 ⟨(qcc 10 l).1.toArray⟩=w at hl hwl hwm hwn ⊢;generalize (⟨(qcc 10 l).1.toArray⟩:ByteArray)=HD at hps hwl hwm;generalize (qcc 10 l).2.1=l2 at hl hcl hcl2 ⊢;conv=>whnf
   cases o with
   | none=>
    refine qiw (qyD near w hwn (fun x hx=>by have:=hwm x hx;omega) (by omega) _ _) [1000000,900001] rfl ⟨_,_,rfl,rfl,_,_,rfl,rfl,rfl⟩ rfl rfl ?_ ?_
    ·rintro v h1 s' ⟨⟨h,q,b,hw,hbk,hbF,rfl,rfl⟩,rfl⟩
     refine⟨rfl,?_⟩;have htk:qew (rdL near none) w=some ⟨near,[b]⟩:=by show qew ⟨near,[]⟩ w=_;rw[hw,zC,if_pos hbk,hbF];rfl
     rw[htk]at hl;obtain⟨bn,bo,bs,rfl⟩:=qjM hbF;conv=>whnf
     exact⟨(some ([],⟨bn,bo,bs,[]⟩),l2),hcl2,⟨hl,by have h0:0+l.length<=1500:=hlen;show 1+0+0+l2.length<=1500;omega⟩,(Wk.bornArr 103264 900002 6 4 [] (hdC ⟨bn,bo,bs,[]⟩) rfl rfl rfl rfl).trans ((Wk.move 103264 900001 rfl rfl).trans (Wk.sub ⟨rfl,rfl,rfl,rfl,trivial⟩ ⟨rfl,rfl,rfl,rfl,trivial⟩))⟩
    ·rintro pv h1 s' ⟨⟨hno,rfl,rfl⟩,rfl⟩
     refine⟨rfl,?_⟩;rw[show qew (rdL near none) w=none from hno]at hl;have h0:=h6 hl;subst h0;conv=>whnf
     exact qfL (i:=900001) (n:=0) (near:=near) rfl rfl ⟨rfl,rfl,trivial⟩
   | some x=>
    obtain⟨init,last⟩:=x;have htot:qpc (init ++ [last])+l.length<=1500:=hlen;have htl:=qed init last;by_cases hbad:∃ s x n,w = [reportW,s,x,n]/\jV s≠none/\jV n=none
    ·obtain⟨ws,wx,wn,rfl,hb1,hb2⟩:=hbad
     obtain⟨t,ht1⟩:∃ t,jV ws=some t:=by
      cases h:jV ws with
      | none=>exact absurd h hb1
      | some t=>exact⟨t,rfl⟩
     have htk:qew (rdL near (some (init,last))) [reportW,ws,wx,wn]=none:=by
      rw[zC,if_neg (by decide),if_neg (by simp[rdL])];unfold qmQ;simp only[ht1,if_neg (show ¬ reportW=passW by decide),if_neg (show ¬ reportW=setW by decide),if_pos,hb2];rfl
     refine qiw (qxf near init last ws wx wn t (by omega) (by have:=hwm ws (by simp);omega) (by have:=hwm wn (by simp);omega) ht1 hb2 _ _) [1000000,900001,900002] rfl ⟨_,_,rfl,rfl,_,_,rfl,(congrArg some (zG (qaE [1000000,900001,900002] 51) (init.map PBook.cells) last 1000002 last.ents.length)).symm,_,_,rfl,rfl,rfl⟩ rfl rfl ?_ ?_
     ·rintro v h1 s' ⟨hF,_⟩
      exact absurd hF id
     ·rintro pv h1 s' ⟨⟨rfl,rfl⟩,rfl⟩
      refine⟨qjN _ _ _,?_⟩;rw[htk]at hl;have h0:=h6 hl;subst h0;conv=>whnf
      exact qfL (i:=900001) (n:=init.length+1) (near:=near) rfl rfl ⟨rfl,rfl,trivial⟩
    ·refine qiw (qyF near init last w hwn (fun x hx=>by have:=hwm x hx;omega) (by omega) (by omega) (by omega) (fun s x n hw h1 h2=>hbad ⟨s,x,n,hw,h1,h2⟩) _ _) [1000000,900001,900002] rfl ⟨_,_,rfl,rfl,_,_,rfl,(congrArg some (zG (qaE [1000000,900001,900002] 51) (init.map PBook.cells) last 1000002 last.ents.length)).symm,_,_,rfl,rfl,rfl⟩ rfl rfl ?_ ?_
     ·rintro v h1 s' ⟨⟨rfl,h,q,hw,hp⟩,rfl⟩
      rcases hp with⟨hbk,b,hbF,rfl⟩|⟨hbk,e,hE,rfl⟩
      ·refine⟨rfl,?_⟩
       have htk:qew (rdL near (some (init,last))) w=some ⟨near,(init ++ [last]) ++ [b]⟩:=by rw[hw,zC,if_pos hbk,hbF];rfl
       rw[htk]at hl;obtain⟨bn,bo,bs,rfl⟩:=qjM hbF;conv=>whnf
       refine⟨(some (init ++ [last],⟨bn,bo,bs,[]⟩),l2),hcl2,⟨hl,?_⟩,(Wk.bornArr 103264 900002 6 4 ((init ++ [last]).map PBook.cells) (hdC ⟨bn,bo,bs,[]⟩) rfl rfl rfl rfl).trans ((Wk.move 103264 900001 rfl rfl).trans (Wk.sub ⟨rfl,rfl,rfl,rfl,trivial⟩ ⟨rfl,rfl,(by first|(show some (Obj.arr 6 (.vv (qr _ (qr _ (qr _ (ze _++_))))))=_;rw[qp,qp,qp];rfl)|(show some (Obj.arr 6 (.vv (qr _ (qr _ (ze _++_)))))=_;rw[qp,qp];rfl)|(show some (Obj.arr 6 (.vv (qr _ (ze _++_))))=_;rw[qp];rfl)|rfl),rfl,trivial⟩))⟩;have:=qed (init ++ [last]) ⟨bn,bo,bs,[]⟩;show qpc ((init ++ [last]) ++ [⟨bn,bo,bs,[]⟩])+l2.length<=1500;simp at this;simp at hlen htot ⊢;omega
      ·refine⟨qqi _ _ _,?_⟩
       have htk:qew (rdL near (some (init,last))) w=some ⟨near,init ++ [{ last with ents:=last.ents ++ [e] }]⟩:=by
        rw[hw,zC,if_neg hbk,if_neg (by simp[rdL]),hE];show some (⟨near,qvQ e (init ++ [last])⟩:PLog)=_;rw[qms]
       rw[htk]at hl;conv=>whnf
       refine⟨(some (init,{ last with ents:=last.ents ++ [e] }),l2),hcl2,⟨hl,?_⟩,(Wk.move 103264 900002 rfl rfl).trans (Wk.sub ⟨rfl,rfl,rfl,rfl,trivial⟩ ⟨rfl,rfl,(by first|(show some (Obj.arr 6 (.vv (qr _ (qr _ (qr _ (ze _++_))))))=_;rw[qp,qp,qp];rfl)|(show some (Obj.arr 6 (.vv (qr _ (qr _ (ze _++_)))))=_;rw[qp,qp];rfl)|(show some (Obj.arr 6 (.vv (qr _ (ze _++_))))=_;rw[qp];rfl)|rfl),rfl,trivial⟩)⟩;have h5:=qed init { last with ents:=last.ents ++ [e] };have h6:=qed init last;show qpc (init ++ [{ last with ents:=last.ents ++ [e] }])+l2.length<=1500;simp at h5 h6 hlen htot ⊢;omega
     ·rintro pv h1 s' ⟨⟨hno,rfl,rfl⟩,rfl⟩
      refine⟨qjN _ _ _,?_⟩;rw[show qew (rdL near (some (init,last))) w=none from hno]at hl;have h0:=h6 hl;subst h0;conv=>whnf
      exact qfL (i:=900001) (n:=init.length+1) (near:=near) rfl rfl ⟨rfl,rfl,trivial⟩
  ·rw[ht,if_neg (by simp)]at hl
   have h0:=h6 hl;subst h0
   cases o with
   | none=>
    conv=>whnf
    exact qfL (i:=900001) (n:=0) (near:=near) rfl rfl ⟨rfl,rfl,trivial⟩
   | some x=>
    obtain⟨init,last⟩:=x;conv=>whnf
    exact qfL (i:=900001) (n:=init.length+1) (near:=near) rfl rfl ⟨rfl,rfl,trivial⟩
 ·have hle:l = []:=by
   by_cases h:l = []
   ·exact h
   ·exact absurd hb (by simp[h])
  subst hle;have hl:qbv l0=some (rdL near o):=hl;obtain⟨h7a,h7b⟩:=h7 _ hl
  cases o with
  | none=>
   have hlen2:(rdL near none).books.length<=1500:=by show 0<=1500;omega
   conv=>whnf
   obtain⟨cp,cq,ce,hcp⟩:∃ p q e,qaQ (rdL near none)=(p,q,e):=⟨_,_,_,rfl⟩;have hce:qE (rdL near none)=ce:=by show(qaQ _).2.2=ce;rw[hcp]
   refine qw (qev (rdL near none) _ _ _ hcp) rfl 2 (qsv near rfl) ?_;conv=>whnf
   refine qj (fun hb1=>?_) (fun hb1=>?_)
   ·have hk:qE (rdL near none)=0:=by rw[hce];simpa using hb1
    conv=>whnf
    refine qw (qyC (rdL near none) (zK hk) (qkP hk)) rfl 2 (qsv near rfl) ?_;conv=>whnf
    refine qan rfl (fun ht=>?_) (fun ht=>?_)
    ·rw[<- hsd]at ht
     have h0:=h7a ⟨hk,of_decide_eq_true ht⟩;subst h0;conv=>whnf
     refine⟨.inr rfl,rfl,rfl,.returning,_,rfl,fun {σ}=>qjI _,?_⟩;conv=>whnf
     exact qc 2 (qmx (qsv near rfl)) ⟨rfl,rfl,rfl⟩
    ·rw[<- hsd]at ht
     have h0:=h7b fun h=>absurd ht (by rw[decide_eq_true h.2];simp);subst h0;conv=>whnf
     exact qfL (i:=900001) (n:=0) (near:=near) rfl rfl ⟨rfl,rfl,trivial⟩
   ·have hk:qE (rdL near none)≠0:=by rw[hce];simpa using hb1
    have h0:=h7b fun h=>hk h.1;subst h0;conv=>whnf
    refine qan rfl (fun h=>by cases h) (fun _=>?_);conv=>whnf
    exact qfL (i:=900001) (n:=0) (near:=near) rfl rfl ⟨rfl,rfl,trivial⟩
  | some x=>
   obtain⟨init,last⟩:=x;have hlen2:(rdL near (some (init,last))).books.length<=1500:=by
    have htot:qpc (init ++ [last])+0<=1500:=hlen;have htl:=qed init last;show(init ++ [last]).length<=1500;simp;omega
   conv=>whnf
   obtain⟨cp,cq,ce,hcp⟩:∃ p q e,qaQ (rdL near (some (init,last)))=(p,q,e):=⟨_,_,_,rfl⟩;have hce:qE (rdL near (some (init,last)))=ce:=by show(qaQ _).2.2=ce;rw[hcp]
   refine qw (qev (rdL near (some (init,last))) _ _ _ hcp) rfl 2 (qsw near init last rfl rfl) ?_;conv=>whnf
   refine qj (fun hb1=>?_) (fun hb1=>?_)
   ·have hk:qE (rdL near (some (init,last)))=0:=by rw[hce];simpa using hb1
    conv=>whnf
    refine qw (qyC (rdL near (some (init,last))) (zK hk) (qkP hk)) rfl 2 (qsw near init last rfl rfl) ?_;conv=>whnf
    refine qan rfl (fun ht=>?_) (fun ht=>?_)
    ·rw[<- hsd]at ht
     have h0:=h7a ⟨hk,of_decide_eq_true ht⟩;subst h0;conv=>whnf
     refine⟨.inr rfl,rfl,rfl,.returning,_,rfl,fun {σ}=>qjI _,?_⟩;conv=>whnf
     exact qc 2 (qmx (qsw near init last rfl rfl)) ⟨rfl,rfl,rfl⟩
    ·rw[<- hsd]at ht
     have h0:=h7b fun h=>absurd ht (by rw[decide_eq_true h.2];simp);subst h0;conv=>whnf
     exact qfL (i:=900001) (n:=(init.length+1)) (near:=near) rfl rfl ⟨rfl,rfl,trivial⟩
   ·have hk:qE (rdL near (some (init,last)))≠0:=by rw[hce];simpa using hb1
    have h0:=h7b fun h=>hk h.1;subst h0;conv=>whnf
    refine qan rfl (fun h=>by cases h) (fun _=>?_);conv=>whnf
    exact qfL (i:=900001) (n:=(init.length+1)) (near:=near) rfl rfl ⟨rfl,rfl,trivial⟩
theorem qnL(s:ByteArray):∃ r,(PX.relax r = .tup [(qmu s).1.d,i64 (qmu s).2]\/r = .tup [(qmu s).1.d,i64 (qmu s).2])/\(1500<s.size->r=qiB 3)/\(s.size<=1500->qbv s.data.toList=none->r=qiB 6) /\
  (s.size<=1500 -> ∀ c,qbv s.data.toList=some c->((qE c=0/\qqD c=s)->r = .tup [c.d,i64 0])/\(¬ (qE c=0/\qqD c=s)->r=qiB 6)):=by
 have hrx:qmu s=if 1500<s.size then (qwr,(3:Int)) else
  match qbv s.data.toList with
  | some c=>if qE c=0/\qqD c=s then (c,0) else (qwr,6)
  | none=>(qwr,6):=rfl
 by_cases h3:1500<s.size
 ·rw[hrx,if_pos h3]
  exact⟨qiB 3,.inl rfl,fun _=>rfl,fun h=>absurd h (by omega),fun h=>absurd h (by omega)⟩
 rw[hrx,if_neg h3]
 cases hl:qbv s.data.toList with
 | none=>exact⟨qiB 6,.inl rfl,fun h=>absurd h h3,fun _ _=>rfl,fun _ c h=>by cases h⟩
 | some c=>
  by_cases hk:qE c=0/\qqD c=s
  ·simp only[if_pos hk]
   refine⟨.tup [c.d,i64 0],.inr rfl,fun h=>absurd h h3,fun _ h=>?_,fun _ c' h=>?_⟩
   ·cases h
   ·cases h;exact⟨fun _=>rfl,fun h=>absurd hk h⟩
  ·simp only[if_neg hk]
   refine⟨qiB 6,.inl rfl,fun h=>absurd h h3,fun _ _=>rfl,fun _ c' h=>?_⟩;cases h;exact⟨fun h=>absurd h hk,fun _=>rfl⟩
theorem qAH(s:ByteArray):FnV Tryz.prog 41 [.str s] (.tup [(qmu s).1.d,i64 (qmu s).2]):=by
 obtain⟨r,hr,h3,h6,h7⟩:=qnL s;rcases hr with hr|rfl
 ·exact FnV.relax (fun {σ}=>qxi s r h3 h6 h7) hr
 ·exact qxi s _ h3 h6 h7
end Go.PX
namespace Go.PX
open Go.Proofs
theorem qAI(l:PLog)(hR:LogR l)(w:Int)(hw:0<=w/\w<=1048576):FnV Tryz.prog 85 [i64 w,.ref l.cells] (.bool (jW l w [])):=by
 refine qJ mixed qm Tryz.func85 rfl (ft:=qAk) 2 (by decide +kernel) (by rfl) fun {σ} Y st=>?_;conv=>whnf
 refine qbc ?_;refine qk (qzf l hR w hw [] (by simp)) rfl rfl ?_;conv=>whnf
 refine qk (qtP) rfl rfl ?_;conv=>whnf
 obtain⟨m,hm⟩:=qtX l hR w hw [];refine qk (hm) rfl rfl ?_;conv=>whnf
 exact qc 0 rfl ⟨⟨rfl,rfl⟩,rfl⟩
theorem qdu(does:Int->Bool):∀ (k j:Nat) {lo hi:Int},hi-lo<=2^k->hi-lo<=2^j->jQ does k lo hi=jQ does j lo hi
 | 0,0,_,_,_,_=>rfl
 | 0,j+1,lo,hi,h1,_=>by
  rw[jQ,jQ,if_neg (by simp at h1;omega)]
 | k+1,0,lo,hi,_,h2=>by
  rw[jQ,jQ,if_neg (by simp at h2;omega)]
 | k+1,j+1,lo,hi,h1,h2=>by
  have e1:(2:Int)^(k+1)=2^k*2:=Int.pow_succ 2 k;have e2:(2:Int)^(j+1)=2^j*2:=Int.pow_succ 2 j;rw[jQ,jQ];split
  ·split
   ·exact qdu does k j (by omega) (by omega)
   ·exact qdu does k j (by omega) (by omega)
  ·rfl
theorem qAJ(g:FuncId)(caps:List D)(does:Int->Bool)(hg:∀ n,0<=n->n<=1048576->FnV Tryz.prog g (i64 n::caps) (.bool (does n))) :
  FnV Tryz.prog 84 [i64 1048576,.clo g caps] (.tup [i64 (if does 1048576=true then jQ does 40 (-1) 1048576 else 0),.bool (does 1048576)]):=by
 refine qJ mixed qm Tryz.func84 rfl (ft:=qAj) 2 (by decide +kernel) (by rfl) fun {σ} Y st=>?_;conv=>whnf
 refine qk (hg 1048576 (by omega) (by omega)) rfl rfl ?_
 cases h0:does 1048576 with
 | false=>
  simp only[Bool.false_eq_true,if_false];conv=>whnf
  exact qc 0 rfl ⟨⟨rfl,rfl⟩,rfl⟩
 | true=>
  simp only[if_true];conv=>whnf
  generalize hRES:jQ does 40 (-1) 1048576=RES;refine zI (T:=tys) qm (by exact qg mixed qm (by decide +kernel)) (α:=Int×Int) (fun z=>⟨[(0,.d (i64 1048576)),(1,.d (.clo g caps)),(6,.d (i64 z.1)),(7,.d (i64 z.2))],[],st⟩) (fun z=>-1<=z.1/\z.1<z.2/\z.2<=1048576/\jQ does 40 z.1 z.2=RES) (fun z=>(z.2-z.1).toNat) (-1,1048576) (Wk.sub (by repeat' first|constructor|(simp only[List.length_map];rfl)|simp[PX.get]) trivial) ⟨by simp,by simp,by simp,hRES⟩ ?_;rintro ⟨lo,hi⟩ ⟨h1,h2,h3,h4⟩;simp only at h1 h2 h3 h4;conv=>whnf
  refine qe (qb (by(try dsimp only);omega)) ?_;conv=>whnf
  have h239:jQ does 40 lo hi=if hi-lo>1 then (if does ((lo+hi)/2) then jQ does 39 lo ((lo+hi)/2) else jQ does 39 ((lo+hi)/2) hi) else hi:=rfl
  rw[h239]at h4;have hp:(2:Int)^39=549755813888:=by decide
  have hp':(2:Int)^40=1099511627776:=by decide
  refine qj (fun h5=>?_) (fun h5=>?_)
  ·have h5:hi-lo>1:=of_decide_eq_true h5
   rw[if_pos h5]at h4;conv=>whnf
   refine qe (qb (by(try dsimp only);omega)) ?_;conv=>whnf
   refine qn ((lo+hi)/2) (by show(lo+hi).tdiv 2=(lo+hi)/2;exact Int.tdiv_eq_ediv_of_nonneg (by omega)) (qb (by omega)) ?_;generalize hM:(lo+hi)/2=M at h4 ⊢;have hM1:lo<M/\M<hi:=by omega
   conv=>whnf
   refine qk (hg M (by omega) (by omega)) rfl rfl ?_;conv=>whnf
   cases hd:does M with
   | true=>
    rw[hd]at h4;simp only[if_true]at h4;conv=>whnf
    exact⟨(lo,M),by simp only;omega,⟨by simp only;omega,by simp only;omega,by simp only;omega,by simp only;rw[<- h4];exact qdu does 40 39 (by omega) (by omega)⟩,(Wk.sub (by repeat' first|constructor|(simp only[List.length_map];rfl)|simp[PX.get]) trivial)⟩
   | false=>
    rw[hd]at h4;simp only[Bool.false_eq_true,if_false]at h4;conv=>whnf
    exact⟨(M,hi),by simp only;omega,⟨by simp only;omega,by simp only;omega,by simp only;omega,by simp only;rw[<- h4];exact qdu does 40 39 (by omega) (by omega)⟩,(Wk.sub (by repeat' first|constructor|(simp only[List.length_map];rfl)|simp[PX.get]) trivial)⟩
  ·have h5:¬ hi-lo>1:=of_decide_eq_false h5
   rw[if_neg h5]at h4;subst h4;conv=>whnf
   exact qc 0 rfl ⟨⟨rfl,rfl⟩,rfl⟩
theorem qyI(l:PLog):FnV Tryz.prog 32 [l.d] (.tup [i64 (qca l).1,i64 (qca l).2]):=by
 unfold qca;refine qJ mixed qm Tryz.func32 rfl (ft:=qzC) 1 (by decide +kernel) (by rfl) fun {σ} Y st=>?_;conv=>whnf
 by_cases hc:qE l=0
 ·rw[if_pos hc]
  have hR:=zK hc;refine qk (qev l 0 0 0 (qcb hc)) rfl rfl ?_;conv=>whnf
  refine qw (ds:=[i64 1048576,.clo 85 [.ref l.cells]]) (qAJ 85 [.ref l.cells] (fun w=>jW l w []) fun w h0 h1=>qAI l hR w ⟨h0,h1⟩) rfl 1 rfl ?_
  cases hf:jW l 1048576 []with
  | false=>
   simp only[Bool.false_eq_true,if_false];conv=>whnf
   exact qc 0 rfl ⟨⟨rfl,rfl⟩,rfl⟩
  | true=>
   simp only[if_true];conv=>whnf
   exact qc 0 rfl ⟨⟨rfl,rfl⟩,rfl⟩
 ·rw[if_neg hc]
  refine qk (qev l _ _ _ (qcd l)) rfl rfl ?_;conv=>whnf
  generalize qE l=E at hc;refine qj (fun _=>?_) (fun h=>absurd hc (by simpa using h));conv=>whnf
  exact qc 0 rfl ⟨⟨rfl,rfl⟩,rfl⟩
def zB(l:PLog):List Int:=((List.range' 1 99).map fun(n:Nat)=>(n:Int)).filter fun n=>l.books.any fun b=>(zJ b.ents n 0).isSome
theorem qdv{l:PLog}{n:Int}:n∈zB l↔(1<=n/\n<=99) /\ ∃ (i k:Nat) (b:PBook) (y:PEnt),At l i k b y/\y.kind=3/\y.number=n:=by
 unfold zB;rw[List.mem_filter,List.mem_map,List.any_eq_true];constructor
 ·rintro ⟨⟨k,hk,rfl⟩,b,hb,hf⟩
  rw[List.mem_range'_1]at hk;refine⟨by omega,?_⟩;obtain⟨m,hm⟩:=Option.isSome_iff_exists.1 hf;obtain⟨y,_,hy,h1,h2,_⟩:=zQ hm;obtain⟨i,hi⟩:=List.getElem?_of_mem hb;exact⟨i,m,b,y,⟨hi,hy⟩,h1,h2⟩
 ·rintro ⟨hn,i,k,b,y,hA,h1,h2⟩
  refine⟨⟨n.toNat,List.mem_range'_1.2 (by omega),by omega⟩,b,List.mem_of_getElem? hA.book,?_⟩;obtain⟨m,_,hm⟩:=qin hA.ent h1 h2;rw[hm];rfl
theorem qvS{l:PLog}(h:qE l=0){i k:Nat}{b:PBook}{y:PEnt}(hA:At l i k b y)(h3:y.kind=3):y.number∈zB l:=by
 have hE:=(qcR h (List.mem_of_getElem? hA.book)).2.2.2 y (List.mem_of_getElem? hA.ent);exact qdv.2 ⟨⟨(hE.rep h3).2,hE.number.2⟩,i,k,b,y,hA,h3,rfl⟩
def qgN(bs:List PBook):Nat:=(bs.map fun b=>b.ents.length).sum
theorem qvT{α:Type}(p q:α->Bool)(l:List α):(l.filter fun x=>p x||q x).length<=(l.filter p).length+(l.filter q).length:=by
 induction l with
 | nil=>simp
 | cons a r ih=>
  rw[List.filter_cons,List.filter_cons,List.filter_cons];cases p a<;>cases q a<;>simp<;>omega
theorem qmy{α:Type}{p q:α->Bool}:∀ {l:List α},(∀ x∈l,p x=true->q x=true)->(l.filter p).length<=(l.filter q).length
 | [],_=>Nat.le_refl _
 | a::r,h=>by
  have ih:=qmy (l:=r) fun x hx=>h x (List.mem_cons_of_mem _ hx);rw[List.filter_cons,List.filter_cons]
  cases hp:p a with
  | true=>
   rw[if_pos rfl,if_pos (h a (List.mem_cons_self ..) hp),List.length_cons,List.length_cons];omega
  | false=>
   rw[if_neg (by simp)];split
   ·rw[List.length_cons];omega
   ·exact ih
theorem qub{l:List Int}(hs:l.Pairwise (· < ·))(a:Int):(l.filter fun n=>decide (a=n)).length<=1:=by
 induction l with
 | nil=>simp
 | cons b r ih=>
  obtain⟨h1,h2⟩:=List.pairwise_cons.1 hs;rw[List.filter_cons];by_cases h:a=b
  ·subst h
   have:(r.filter fun n=>decide (a=n)) = []:=List.filter_eq_nil_iff.2 fun x hx=>by have:=h1 x hx;simp;omega
   rw[if_pos (by simp),this];simp
  ·rw[if_neg (by simpa using h)];exact ih h2
theorem qkT{α:Type}(f:α->Int){l:List Int}(hs:l.Pairwise (· < ·)):∀ (E:List α),(l.filter fun n=>E.any fun y=>decide (f y=n)).length<=E.length
 | []=>by simp
 | a::E=>by
  have h1:=qvT (fun n=>decide (f a=n)) (fun n=>E.any fun y=>decide (f y=n)) l;have h2:=qub hs (f a);have h3:=qkT f hs E;simp only[List.any_cons,List.length_cons]at h1 ⊢;omega
theorem qaD:∀ (n s:Nat),((List.range' s n).map fun(n:Nat)=>(n:Int)).Pairwise (· < ·):=by
 intro n
 induction n with
 | zero=>intro s;simp
 | succ n ih=>
  intro s;rw[List.range'_succ,List.map_cons,List.pairwise_cons];refine⟨fun x hx=>?_,ih (s+1)⟩;obtain⟨k,hk,rfl⟩:=List.mem_map.1 hx;rw[List.mem_range'_1]at hk;omega
theorem qcy(l:PLog):(zB l).Pairwise (· < ·):=List.Pairwise.sublist List.filter_sublist (qaD 99 1)
theorem qpd:∀ (bs:List PBook),(bs.flatMap PBook.ents).length=qgN bs
 | []=>rfl
 | b::r=>by
  rw[List.flatMap_cons,List.length_append,qpd r];unfold qgN;rw[List.map_cons,List.sum_cons]
theorem qeY(l:PLog):(zB l).length<=qgN l.books:=by
 have h:=qkT PEnt.number (qaD 99 1) (l.books.flatMap PBook.ents);rw[qpd]at h;refine Nat.le_trans ?_ h;unfold zB;refine qmy (fun n _ hn=>?_);rw[List.any_eq_true]at hn ⊢;obtain⟨b,hb,hf⟩:=hn;obtain⟨m,hm⟩:=Option.isSome_iff_exists.1 hf;obtain⟨y,_,hy,h1,h2,_⟩:=zQ hm;exact⟨y,List.mem_flatMap.2 ⟨b,hb,List.mem_of_getElem? hy⟩,decide_eq_true h2⟩
theorem qkU{l:PLog}(h:qE l=0):qgN l.books<=24:=by
 have hR:=zK h;have key:∀ bs:List PBook,(∀ b∈bs,b.ents.length<=8)->qgN bs<=8*bs.length:=by
  intro bs
  induction bs with
  | nil=>intro _;exact Nat.le_refl _
  | cons b r ih=>
   intro h;have:=ih fun c hc=>h c (List.mem_cons_of_mem _ hc);have h2:=h b (List.mem_cons_self ..);have:qgN (b::r)=b.ents.length+qgN r:=by unfold qgN;rw[List.map_cons,List.sum_cons]
   rw[List.length_cons];omega
 have:=key l.books fun b hb=>(hR.book b hb).ents;have:=hR.books;omega
theorem qiC{of:List Int}:∀ {n:Nat} {p:List Int} {start:Nat} {q:List Int},q∈jR of n p start -> ∃ s,q=p++s/\s.Sublist (of.drop start)/\s.length=n
 | 0,p,start,q,h=>by
  rw[jR,List.mem_singleton]at h;exact⟨[],by rw[h,List.append_nil],List.nil_sublist _,rfl⟩
 | n+1,p,start,q,h=>by
  rw[jR,List.mem_flatMap]at h;obtain⟨i,hi,h⟩:=h;rw[List.mem_range'_1]at hi;obtain⟨s,rfl,h2,h3⟩:=qiC h;have hil:i<of.length:=by omega
  refine⟨of[i]::s,by rw[List.getElem?_eq_getElem hil];simp,?_,by rw[List.length_cons,h3]⟩;have e:of.drop i=of[i]::of.drop (i+1):=List.drop_eq_getElem_cons hil;have h4:(of[i]::s).Sublist (of.drop i):=by rw[e];exact h2.cons₂ _
  refine h4.trans ?_;rw[show i=start+(i-start) by omega,<- List.drop_drop];exact List.drop_sublist _ _
theorem qmz{of:List Int}(q:Int->Bool):∀ {n:Nat} {p:List Int} {start:Nat},((of.drop start).filter q).length=n->start<=of.length->p++(of.drop start).filter q∈jR of n p start
 | 0,p,start,h,_=>by
  have:=List.length_eq_zero_iff.1 h;rw[this,List.append_nil,jR,List.mem_singleton]
 | n+1,p,start,h,hs=>by
  have key:∀ (m start:Nat),of.length-start=m->start<=of.length->((of.drop start).filter q).length=n+1 -> ∃ i,start<=i /\ ∃ hi:i<of.length,(of.drop start).filter q=of[i]::(of.drop (i+1)).filter q:=by
   intro m
   induction m with
   | zero=>
    intro start hm hs h;rw[List.drop_eq_nil_of_le (by omega)]at h;simp at h
   | succ m ih=>
    intro start hm hs h;have hlt:start<of.length:=by omega
    have e:=List.drop_eq_getElem_cons hlt;rw[e,List.filter_cons]at h ⊢;by_cases hq:q of[start]=true
    ·rw[if_pos hq]at h ⊢
     exact⟨start,Nat.le_refl _,hlt,rfl⟩
    ·rw[if_neg hq]at h ⊢
     obtain⟨i,h1,h2,h3⟩:=ih (start+1) (by omega) (by omega) h;exact⟨i,by omega,h2,h3⟩
  obtain⟨i,h1,h2,h3⟩:=key _ start rfl hs h;rw[h3]at h ⊢;rw[List.length_cons]at h;have hl:((of.drop (i+1)).filter q).length<=(of.drop (i+1)).length:=List.length_filter_le _ _;rw[List.length_drop]at hl;rw[jR,List.mem_flatMap];refine⟨i,List.mem_range'_1.2 (by omega),?_⟩;have:=qmz (of:=of) q (n:=n) (p:=p ++ [of[i]]) (start:=i+1) (by omega) (by omega);rw[List.getElem?_eq_getElem h2];rw[List.append_assoc]at this;exact this
theorem qiD{of:List Int}{n:Nat}{q:List Int}(h:q∈jR of n [] 0):q.length=n:=by
 obtain⟨s,rfl,_,h3⟩:=qiC h;simpa using h3
theorem qjO{f:Nat->List (List Int)}(hf:∀ n q,q∈f n->q.length=n)(p:List Int->Bool):∀ (k s:Nat),(match ((List.range' s k).flatMap f).find? p with
  | some c=>∀ n o,o∈f n->s<=n->n<s+k->p o=true->c.length<=n
  | none=>∀ n o,o∈f n->s<=n->n<s+k->p o=false)
 | 0,s=>fun n o _ h1 h2=>by omega
 | k+1,s=>by
  rw[List.range'_succ,List.flatMap_cons,List.find?_append]
  cases h:(f s).find? p with
  | some c=>
   simp only[Option.some_or];intro n o ho h1 h2 hp;rw[hf s c (List.mem_of_find?_eq_some h)];exact h1
  | none=>
   simp only[Option.none_or];have ih:=qjO hf p k (s+1);have hno:∀ o,o∈f s->p o=false:=fun o ho=>by
    have:=List.find?_eq_none.1 h o ho;simpa using this
   cases h2:((List.range' (s+1) k).flatMap f).find? p with
   | some c=>
    rw[h2]at ih;intro n o ho h3 h4 hp;rcases Nat.lt_or_ge s n with hlt|hge
    ·exact ih n o ho hlt (by omega) hp
    ·have:n=s:=by omega
     subst this;rw[hno o ho]at hp;cases hp
   | none=>
    rw[h2]at ih;intro n o ho h3 h4;rcases Nat.lt_or_ge s n with hlt|hge
    ·exact ih n o ho hlt (by omega)
    ·have:n=s:=by omega
     subst this;exact hno o ho
theorem qqj{l:PLog}{i j m n:Nat}{b c:PBook}{x y:PEnt}{num:Int}(hR:LogR l)(hx:At l i m b x)(hy:At l j n c y)(hi:i≠j)(h1:x.kind=3/\x.number=num)(h2:y.kind=3/\y.number=num):num∈jk l:=by
 unfold jk;rw[List.mem_filter,List.mem_map];have hn:=((hR.book b (List.mem_of_getElem? hx.book)).ent x (List.mem_of_getElem? hx.ent)).2.2;rw[h1.2]at hn;refine⟨⟨num.toNat,List.mem_range'_1.2 (by omega),by omega⟩,decide_eq_true ?_⟩;have hb:∀ {b:PBook} {k:Nat} {x:PEnt},b.ents[k]?=some x->x.kind=3/\x.number=num->decide (0<qfV b num)=true:=fun {b k x} hx h=>decide_eq_true (by
  unfold qfV;exact List.length_pos_of_mem (List.mem_filter.2 ⟨List.mem_of_getElem? hx,decide_eq_true h⟩))
 unfold inN;have two:∀ {L:List PBook} {p:PBook->Bool} {i j:Nat} {b c:PBook},i<j->L[i]?=some b->L[j]?=some c->p b=true->p c=true->1<(L.filter p).length:=by
  intro L p
  induction L with
  | nil=>intro i j b c _ h;simp at h
  | cons a r ih=>
   intro i j b c hij hb hc pb pc;obtain⟨j,rfl⟩:∃ j',j=j'+1:=⟨j-1,by omega⟩;rw[List.getElem?_cons_succ]at hc;rw[List.filter_cons]
   cases i with
   | zero=>
    rw[List.getElem?_cons_zero]at hb;cases hb;rw[if_pos pb,List.length_cons];have:=List.length_pos_of_mem (List.mem_filter.2 ⟨List.mem_of_getElem? hc,pc⟩);omega
   | succ i=>
    rw[List.getElem?_cons_succ]at hb;have:=ih (by omega) hb hc pb pc;split
    ·rw[List.length_cons];omega
    ·exact this
 rcases Nat.lt_or_ge i j with hlt|hge
 ·exact two hlt hx.book hy.book (hb hx.ent h1) (hb hy.ent h2)
 ·exact two (by omega) hy.book hx.book (hb hy.ent h2) (hb hx.ent h1)
theorem qiE{l:PLog}(hR:LogR l){other:List Int}(h:jW l 0 other=true):jW l 0 ((jk l).filter fun n=>decide (n∈other))=true:=by
 obtain⟨t,ht⟩:=qbu.1 h;refine qbu.2 ⟨t,ht.right,ht.off,ht.set,ht.ord,fun i j m n b c x y num hr=>?_⟩;by_cases ho:num∈other
 ·by_cases hij:i=j
  ·subst hij
   have hb:=hr.ha.book;rw[hr.hb.book]at hb;cases hb;have hm:=hr.fa;rw[hr.fb]at hm;cases hm;have hx:=hr.ha.ent;rw[hr.hb.ent]at hx;cases hx;rfl
  ·exfalso
   have f1:=zQ hr.fa;have f2:=zQ hr.fb;rw[Nat.sub_zero]at f1 f2;obtain⟨x',_,hx',h1,h2,_⟩:=f1;obtain⟨y',_,hy',h3,h4,_⟩:=f2;have:=qqj hR ⟨hr.ha.book,hx'⟩ ⟨hr.hb.book,hy'⟩ hij ⟨h1,h2⟩ ⟨h3,h4⟩;exact hr.no (List.mem_filter.2 ⟨this,decide_eq_true ho⟩)
 ·exact ht.rep i j m n b c x y num ⟨hr.ha,hr.hb,hr.fa,hr.fb,ho⟩
theorem qdw(l:PLog):(jk l).Pairwise (· < ·):=List.Pairwise.sublist List.filter_sublist (qaD 100 0)
theorem qvU{l:PLog}(h:qE l=0):((qeb l).2=0/\jW l 0 (qeb l).1=true/\(qeb l).1.Pairwise (· < ·)/\(∀ n∈(qeb l).1,n∈jk l) /\ ∀ other,jW l 0 other=true->(qeb l).1.length<=other.length)\/((qeb l)=([],9) /\ ∀ other,jW l 0 other=false):=by
 have hR:=zK h;have key:∀ other,jW l 0 other=true -> ∃ o,jW l 0 o=true/\o∈jR (jk l) o.length [] 0/\o.length<=(jk l).length/\o.length<=other.length:=fun other ho=>by
  have h1:=qiE hR ho;have h2:=qmz (of:=jk l) (fun n=>decide (n∈other)) (p:=[]) (start:=0) rfl (Nat.zero_le _);rw[List.drop_zero,List.nil_append]at h2;refine⟨_,h1,h2,List.length_filter_le _ _,?_⟩;have h3:=qkT (fun n:Int=>n) (qdw l) other;refine Nat.le_trans (Nat.le_of_eq ?_) h3
  congr 1
  refine List.filter_congr fun n _=>?_;rw[Bool.eq_iff_iff,decide_eq_true_eq,List.any_eq_true];constructor
  ·intro hn;exact⟨n,hn,by simp⟩
  ·rintro ⟨y,hy,he⟩;rw[<- of_decide_eq_true he];exact hy
 have hfd:=qjO (f:=fun n=>jR (jk l) n [] 0) (fun n q hq=>qiD hq) (jW l 0) ((jk l).length+1) 0;unfold qeb;rw[if_pos h];unfold qir
 cases hF:((List.range' 0 ((jk l).length+1)).flatMap fun(n:Nat)=>jR (jk l) n [] 0).find? (jW l 0) with
 | some c=>
  rw[hF]at hfd;left;simp only;have hmem:=List.mem_of_find?_eq_some hF;obtain⟨n,_,hc⟩:=List.mem_flatMap.1 hmem;obtain⟨s,hs,hsub,_⟩:=qiC hc;rw[List.nil_append]at hs;subst hs;rw[List.drop_zero]at hsub;refine⟨trivial,List.find?_some hF,List.Pairwise.sublist hsub (qdw l),fun n hn=>hsub.mem hn,fun other ho=>?_⟩;obtain⟨o,h1,h2,h3,h4⟩:=key other ho;have:=hfd o.length o h2 (Nat.zero_le _) (by omega) h1;omega
 | none=>
  rw[hF]at hfd;right;refine⟨rfl,fun other=>?_⟩
  cases ho:jW l 0 other with
  | false=>rfl
  | true=>
   obtain⟨o,h1,h2,h3,h4⟩:=key other ho;have:=hfd o.length o h2 (Nat.zero_le _) (by omega);rw[h1]at this;cases this
theorem qnM{b:PBook}{n:Int}:0<qfV b n ↔ ∃ y∈b.ents,y.kind=3/\y.number=n:=by
 unfold qfV;constructor
 ·intro h
  obtain⟨y,hy⟩:=List.exists_mem_of_length_pos h;obtain⟨hy,hq⟩:=List.mem_filter.1 hy;exact⟨y,hy,of_decide_eq_true hq⟩
 ·rintro ⟨y,hy,h⟩
  exact List.length_pos_of_mem (List.mem_filter.2 ⟨hy,decide_eq_true h⟩)
theorem qsx{l:PLog}{n:Int}:0<inN l n ↔ ∃ b∈l.books,0<qfV b n:=by
 unfold inN;constructor
 ·intro h
  obtain⟨b,hb⟩:=List.exists_mem_of_length_pos h;obtain⟨hb,hq⟩:=List.mem_filter.1 hb;exact⟨b,hb,of_decide_eq_true hq⟩
 ·rintro ⟨b,hb,h⟩
  exact List.length_pos_of_mem (List.mem_filter.2 ⟨hb,decide_eq_true h⟩)
theorem qdx{l:PLog}{y:PEnt}:y∈qcN l↔(∃ b∈l.books,y∈b.ents)/\y.kind=3:=by
 unfold qcN;rw[List.mem_filter,List.mem_flatMap,decide_eq_true_eq]
theorem qkV{l:PLog}{n:Int}:0<inN l n ↔ ∃ y∈qcN l,y.number=n:=by
 rw[qsx];constructor
 ·rintro ⟨b,hb,h⟩
  obtain⟨y,hy,h1,h2⟩:=qnM.1 h;exact⟨y,qdx.2 ⟨⟨b,hb,hy⟩,h1⟩,h2⟩
 ·rintro ⟨y,hy,h2⟩
  obtain⟨⟨b,hb,hyb⟩,h1⟩:=qdx.1 hy;exact⟨b,hb,qnM.2 ⟨y,hyb,h1,h2⟩⟩
theorem qxj{l:PLog}(h:qE l=0){y:PEnt}(hy:y∈qcN l):1<=y.number/\y.number<=99:=by
 obtain⟨⟨b,hb,hyb⟩,h1⟩:=qdx.1 hy;have hE:=(qcR h hb).2.2.2 y hyb;exact⟨(hE.rep h1).2,hE.number.2⟩
theorem qad{l:PLog}(h:qE l=0){n:Int}:n∈zB l↔0<inN l n:=by
 rw[qkV];constructor
 ·intro hn
  obtain⟨_,i,k,b,y,hA,h1,h2⟩:=qdv.1 hn;exact⟨y,qdx.2 ⟨⟨b,List.mem_of_getElem? hA.book,List.mem_of_getElem? hA.ent⟩,h1⟩,h2⟩
 ·rintro ⟨y,hy,rfl⟩
  obtain⟨⟨b,hb,hyb⟩,h1⟩:=qdx.1 hy;obtain⟨i,hi⟩:=List.getElem?_of_mem hb;obtain⟨k,hk⟩:=List.getElem?_of_mem hyb;exact qvS h ⟨hi,hk⟩ h1
theorem quc(L:List PEnt):∀ m0:Int,m0<=L.foldl (fun m y=>max m y.number) m0/\(∀ y∈L,y.number<=L.foldl (fun m y=>max m y.number) m0)/\(L.foldl (fun m y=>max m y.number) m0=m0 \/ ∃ y∈L,y.number=L.foldl (fun m y=>max m y.number) m0):=by
 induction L with
 | nil=>intro m0;exact⟨Int.le_refl _,fun y hy=>(by cases hy),.inl rfl⟩
 | cons a r ih=>
  intro m0;rw[List.foldl_cons];obtain⟨h1,h2,h3⟩:=ih (max m0 a.number);refine⟨by omega,fun y hy=>?_,?_⟩
  ·rcases List.mem_cons.1 hy with rfl|hy
   ·omega
   ·exact h2 y hy
  ·rcases h3 with h3|⟨y,hy,he⟩
   ·rcases Int.le_total m0 a.number with hle|hle
    ·right;exact⟨a,List.mem_cons_self ..,by rw[h3];omega⟩
    ·left;rw[h3];omega
   ·right;exact⟨y,List.mem_cons_of_mem _ hy,he⟩
theorem qgo{l:PLog}(h:qE l=0):0<=qbp l/\qbp l<=99/\(∀ n,0<inN l n->1<=n/\n<=qbp l)/\(qbp l=0\/0<inN l (qbp l)):=by
 obtain⟨h1,h2,h3⟩:=quc (qcN l) 0;unfold qbp;refine⟨h1,?_,fun n hn=>?_,?_⟩
 ·rcases h3 with h3|⟨y,hy,he⟩
  ·omega
  ·have:=qxj h hy;omega
 ·obtain⟨y,hy,rfl⟩:=qkV.1 hn
  have:=h2 y hy;have:=qxj h hy;omega
 ·rcases h3 with h3|⟨y,hy,he⟩
  ·exact .inl h3
  ·exact .inr (qkV.2 ⟨y,hy,he⟩)
def qgp(n:Int):List Int:=(List.range' 1 n.toNat).map fun(n:Nat)=>(n:Int)
theorem qhh{m n:Int}:n∈qgp m↔1<=n/\n<=m:=by
 unfold qgp;rw[List.mem_map];constructor
 ·rintro ⟨k,hk,rfl⟩
  rw[List.mem_range'_1]at hk;omega
 ·intro h
  exact⟨n.toNat,List.mem_range'_1.2 (by omega),by omega⟩
theorem qcT:∀ {a b:List Int},a.Pairwise (· < ·)->b.Pairwise (· < ·)->(∀ n,n∈a↔n∈b)->a=b
 | [],[],_,_,_=>rfl
 | [],y::b,_,_,h=>absurd ((h y).2 (List.mem_cons_self ..)) (by simp)
 | x::a,[],_,_,h=>absurd ((h x).1 (List.mem_cons_self ..)) (by simp)
 | x::a,y::b,ha,hb,h=>by
  obtain⟨ha1,ha2⟩:=List.pairwise_cons.1 ha;obtain⟨hb1,hb2⟩:=List.pairwise_cons.1 hb;have hxy:x=y:=by
   have h1:=(h x).1 (List.mem_cons_self ..);have h2:=(h y).2 (List.mem_cons_self ..);rcases List.mem_cons.1 h1 with h1|h1
   ·exact h1
   ·rcases List.mem_cons.1 h2 with h2|h2
    ·exact h2.symm
    ·have:=ha1 y h2;have:=hb1 x h1;omega
  subst hxy
  congr 1
  refine qcT ha2 hb2 fun n=>?_;have:=h n;simp only[List.mem_cons]at this;constructor
  ·intro hn
   rcases this.1 (.inr hn) with rfl|h2
   ·have:=ha1 n hn;omega
   ·exact h2
  ·intro hn
   rcases this.2 (.inr hn) with rfl|h2
   ·have:=hb1 n hn;omega
   ·exact h2
theorem qiF(m:Int):(qgp m).Pairwise (· < ·):=qaD _ 1
theorem qjP{l:PLog}(h:qE l=0):zB l=(qgp (qbp l)).filter fun n=>!decide (inN l n=0):=by
 refine qcT (qcy l) (List.Pairwise.sublist List.filter_sublist (qiF _)) fun n=>?_;rw[qad h,List.mem_filter,qhh];constructor
 ·intro hn
  exact⟨(qgo h).2.2.1 n hn,by simp;omega⟩
 ·rintro ⟨_,hn⟩
  simp at hn;omega
theorem qud{l:PLog}{n:Int}:n∈qnC l↔(1<=n/\n<=qbp l)/\inN l n=0:=by
 unfold qnC;rw[List.mem_filter,decide_eq_true_eq];exact and_congr qhh Iff.rfl
theorem qvV{bs:List PBook}{n:Int}:∀ m0,(1<m0 \/ ∃ b∈bs,1<qfV b n)↔1<(bs.map fun b=>qfV b n).foldl max m0:=by
 induction bs with
 | nil=>intro m0;simp
 | cons b r ih=>
  intro m0;rw[List.map_cons,List.foldl_cons,<- ih];simp only[List.mem_cons,exists_eq_or_imp];have:1<max m0 (qfV b n)↔1<m0\/1<qfV b n:=by omega
  rw[this,or_assoc]
theorem que{l:PLog}(h:qE l=0){n:Int}:n∈qrW l ↔ ∃ b∈l.books,1<qfV b n:=by
 unfold qrW;rw[List.mem_filter,Bool.and_eq_true,decide_eq_true_eq,decide_eq_true_eq];have hm:=qvV (bs:=l.books) (n:=n) 0;constructor
 ·rintro ⟨_,_,h3⟩
  have:=hm.2 h3;simpa using this
 ·rintro ⟨b,hb,h3⟩
  have hi:0<inN l n:=qsx.2 ⟨b,hb,by omega⟩;exact⟨qhh.2 ((qgo h).2.2.1 n hi),by omega,hm.1 (.inr ⟨b,hb,h3⟩)⟩
theorem qfM:∀ (r:List PEnt) (m:List (Int×ByteArray)),qbo m r=false↔(∀ y∈r,∀ w,zr m y.number=some w->w=y.word) /\ ∀ x∈r,∀ y∈r,x.number=y.number->x.word=y.word
 | [],m=>by simp[qbo]
 | a::r,m=>by
  have step:qbo (jJ m a.number a.word) r=false->(∀ w,zr m a.number=some w->w=a.word)->(∀ y∈a::r,∀ w,zr m y.number=some w->w=y.word) /\ ∀ x∈a::r,∀ y∈a::r,x.number=y.number->x.word=y.word:=fun h ha=>by
   obtain⟨h1,h2⟩:=(qfM r _).1 h;have hna:∀ y∈r,y.number=a.number->a.word=y.word:=fun y hy he=>h1 y hy a.word (by rw[zA,if_pos he]);refine⟨fun y hy w hw=>?_,fun x hx y hy he=>?_⟩
   ·rcases List.mem_cons.1 hy with rfl|hy
    ·exact ha w hw
    ·by_cases hn:y.number=a.number
     ·rw[<- hna y hy hn];rw[hn]at hw;exact ha w hw
     ·exact h1 y hy w (by rw[zA,if_neg hn];exact hw)
   ·rcases List.mem_cons.1 hx with rfl|hx'
    ·rcases List.mem_cons.1 hy with rfl|hy'
     ·rfl
     ·exact hna y hy' he.symm
    ·rcases List.mem_cons.1 hy with rfl|hy'
     ·exact(hna x hx' he).symm
     ·exact h2 x hx' y hy' he
  have back:((∀ y∈a::r,∀ w,zr m y.number=some w->w=y.word) /\ ∀ x∈a::r,∀ y∈a::r,x.number=y.number->x.word=y.word)->qbo (jJ m a.number a.word) r=false:=fun⟨h1,h2⟩=>by
   refine(qfM r _).2 ⟨fun y hy w hw=>?_,fun x hx y hy=>h2 x (List.mem_cons_of_mem _ hx) y (List.mem_cons_of_mem _ hy)⟩;rw[zA]at hw;split at hw
   ·rename_i he
    cases hw;exact(h2 y (List.mem_cons_of_mem _ hy) a (List.mem_cons_self ..) he).symm
   ·exact h1 y (List.mem_cons_of_mem _ hy) w hw
  rw[qbo]
  cases hg:zr m a.number with
  | none=>
   simp only;exact⟨fun h=>step h fun w hw=>(by rw[hg]at hw;cases hw),back⟩
  | some w=>
   simp only;split
   ·rename_i hw
    exact⟨fun h=>step h fun w' hw'=>by rw[hg]at hw';cases hw';exact hw,back⟩
   ·rename_i hw
    exact⟨fun h=>(by cases h),fun h=>absurd (h.1 a (List.mem_cons_self ..) w hg) hw⟩
abbrev NM:=List (Int×Int)
def qbC(m:NM)(n:Int):Int:=(zr m n).getD 0
def NodK(m:NM):Prop:=(m.map Prod.fst).Nodup
theorem quf{m:NM}{t y x:Int}:x∈(jJ m t y).map Prod.fst↔x=t\/x∈m.map Prod.fst:=by
 induction m with
 | nil=>simp[jJ]
 | cons p r ih=>
  obtain⟨u,v⟩:=p;rw[jJ];split
  ·rename_i h
   subst h;simp
  ·rw[List.map_cons,List.map_cons,List.mem_cons,List.mem_cons,ih]
   constructor
   ·rintro (h|h|h)
    ·exact .inr (.inl h)
    ·exact .inl h
    ·exact .inr (.inr h)
   ·rintro (h|h|h)
    ·exact .inr (.inl h)
    ·exact .inl h
    ·exact .inr (.inr h)
theorem NodK.put{m:NM}(h:NodK m)(t y:Int):NodK (jJ m t y):=by
 induction m with
 | nil=>simp[NodK,jJ]
 | cons p r ih=>
  obtain⟨u,v⟩:=p;unfold NodK at h ih ⊢;rw[List.map_cons,List.nodup_cons]at h;rw[jJ];split
  ·rename_i he
   subst he;rw[List.map_cons,List.nodup_cons];exact h
  ·rename_i he
   rw[List.map_cons,List.nodup_cons];exact⟨fun hm=>(quf.1 hm).elim (fun e=>he e.symm) h.1,ih h.2⟩
theorem qnN{m:NM}(h:NodK m){i:Nat}{k v:Int}(hi:m[i]?=some (k,v)):zr m k=some v:=by
 induction m generalizing i with
 | nil=>simp at hi
 | cons p r ih=>
  obtain⟨u,w⟩:=p;unfold NodK at h ih;rw[List.map_cons,List.nodup_cons]at h;rw[zr]
  cases i with
  | zero=>rw[List.getElem?_cons_zero]at hi;cases hi;rw[if_pos rfl]
  | succ i=>
   rw[List.getElem?_cons_succ]at hi;have hk:k≠u:=fun e=>h.1 (e▸List.mem_map.2 ⟨_,List.mem_of_getElem? hi,rfl⟩);rw[if_neg hk];exact ih h.2 hi
theorem qvW{m:NM}{k v:Int}(h:zr m k=some v):∃ i:Nat,m[i]?=some (k,v):=by
 induction m with
 | nil=>cases h
 | cons p r ih=>
  obtain⟨u,w⟩:=p;rw[zr]at h;split at h
  ·rename_i e;cases h;subst e;exact⟨0,rfl⟩
  ·obtain⟨i,hi⟩:=ih h
   exact⟨i+1,hi⟩
theorem qfN(m:NM)(t y n:Int):qbC (jJ m t y) n=if n=t then y else qbC m n:=by
 unfold qbC;rw[zA];split<;>rfl
def qva(r:List PEnt)(n:Int):Nat:=(r.filter fun y=>decide (y.kind=3/\y.number=n)).length
structure MineR(r:List PEnt)(m:NM):Prop where
 nod:NodK m
 get:∀ n,qbC m n=qva r n
 pos:∀ n v,zr m n=some v->1<=v
theorem MineR.nil:MineR [] []:=⟨by simp[NodK],fun n=>rfl,fun n v h=>by cases h⟩
theorem MineR.skip{r:List PEnt}{m:NM}(h:MineR r m){y:PEnt}(hy:y.kind≠3):MineR (r ++ [y]) m:=by
 refine⟨h.nod,fun n=>?_,h.pos⟩;rw[h.get n];unfold qva;rw[List.filter_append,List.filter_cons,if_neg (by simp[hy])];simp
theorem MineR.inc{r:List PEnt}{m:NM}(h:MineR r m){y:PEnt}(hy:y.kind=3):MineR (r ++ [y]) (jJ m y.number (qbC m y.number+1)):=by
 refine⟨h.nod.put _ _,fun n=>?_,fun n v hv=>?_⟩
 ·rw[qfN]
  unfold qva;rw[List.filter_append,List.filter_cons];by_cases hn:n=y.number
  ·subst hn
   rw[if_pos rfl,if_pos (by simp[hy]),h.get];unfold qva;simp
  ·rw[if_neg hn,if_neg (by simp[hy];exact fun e=>hn e.symm),h.get]
   unfold qva;simp
 ·rw[zA]at hv
  split at hv
  ·cases hv
   have:=h.get y.number;omega
  ·exact h.pos n v hv
structure CntR(bs:List PBook)(m1 m2:NM):Prop where
 in':∀ n,qbC m1 n=(bs.filter fun b=>decide (0<qfV b n)).length
 most:∀ n,qbC m2 n=(bs.map fun b=>qfV b n).foldl max 0
def Dn(mine:NM)(todo:List Nat)(n:Int):Prop:=∃ (i:Nat) (v:Int),i∉todo/\mine[i]?=some (n,v)
structure RngR(mine b1 b2:NM)(todo:List Nat)(m1 m2:NM):Prop where
 yes:∀ n,Dn mine todo n->qbC m1 n=qbC b1 n+1/\qbC m2 n=max (qbC b2 n) (qbC mine n)
 no:∀ n,¬ Dn mine todo n->qbC m1 n=qbC b1 n/\qbC m2 n=qbC b2 n
theorem RngR.start(mine b1 b2:NM):RngR mine b1 b2 (List.range mine.length) b1 b2:=
 ⟨fun n ⟨i,v,h1,h2⟩=>absurd (List.mem_range.2 (List.getElem?_eq_some_iff.1 h2).1) h1,fun _ _=>⟨rfl,rfl⟩⟩
theorem RngR.step{mine b1 b2 m1 m2:NM}{todo:List Nat}(hn:NodK mine)(h:RngR mine b1 b2 todo m1 m2){i:Nat}{k v:Int}(hi:i∈todo)(hk:mine[i]?=some (k,v)) :
  RngR mine b1 b2 (todo.filter fun j=>!Nat.beq j i) (jJ m1 k (qbC m1 k+1)) (jJ m2 k (max (qbC m2 k) v)):=by
 have hmem:∀ j,j∉todo.filter (fun j=>!Nat.beq j i)↔j∉todo\/j=i:=fun j=>by
  rw[List.mem_filter];by_cases hj:j=i
  ·subst hj;simp
  ·have:Nat.beq j i=false:=by
    cases hb:Nat.beq j i with
    | false=>rfl
    | true=>exact absurd (Nat.eq_of_beq_eq_true hb) hj
   rw[this];simp[hj]
 have one:∀ {j:Nat} {w:Int},mine[j]?=some (k,w)->j=i:=fun {j w} hj=>by
  have h1:(mine.map Prod.fst)[j]?=some k:=by rw[List.getElem?_map,hj];rfl
  have h2:(mine.map Prod.fst)[i]?=some k:=by rw[List.getElem?_map,hk];rfl
  have hjl:=(List.getElem?_eq_some_iff.1 h1).1;exact(List.getElem?_inj hjl hn).1 (h1.trans h2.symm)
 have hkn:¬ Dn mine todo k:=fun⟨j,w,h1,h2⟩=>h1 (one h2▸hi);have hgk:qbC mine k=v:=by unfold qbC;rw[qnN hn hk];rfl
 have hdn:∀ n,n≠k->(Dn mine (todo.filter fun j=>!Nat.beq j i) n↔Dn mine todo n):=fun n hnk=>by
  constructor
  ·rintro ⟨j,w,h1,h2⟩
   rcases (hmem j).1 h1 with h1|rfl
   ·exact⟨j,w,h1,h2⟩
   ·rw[hk]at h2;cases h2;exact absurd rfl hnk
  ·rintro ⟨j,w,h1,h2⟩
   exact⟨j,w,(hmem j).2 (.inl h1),h2⟩
 obtain⟨g1,g2⟩:=h.no k hkn;refine⟨fun n hd=>?_,fun n hd=>?_⟩
 ·rw[qfN,qfN]
  by_cases hnk:n=k
  ·subst hnk
   rw[if_pos rfl,if_pos rfl,g1,g2,hgk];exact⟨rfl,rfl⟩
  ·rw[if_neg hnk,if_neg hnk]
   exact h.yes n ((hdn n hnk).1 hd)
 ·have hnk:n≠k:=fun e=>hd (e▸⟨i,v,(hmem i).2 (.inr rfl),hk⟩)
  rw[qfN,qfN,if_neg hnk,if_neg hnk];exact h.no n fun hd2=>hd ((hdn n hnk).2 hd2)
theorem RngR.fin{bs:List PBook}{b:PBook}{mine b1 b2 m1 m2:NM}(hb:CntR bs b1 b2)(hm:MineR b.ents mine)(h:RngR mine b1 b2 [] m1 m2):CntR (bs ++ [b]) m1 m2:=by
 have hd:∀ n,Dn mine [] n↔0<qfV b n:=fun n=>by
  have hg:=hm.get n;constructor
  ·rintro ⟨i,v,_,hi⟩
   have h1:=qnN hm.nod hi;have h2:=hm.pos n v h1;unfold qbC at hg;rw[h1]at hg;show 0<qva b.ents n;simp only[Option.getD_some]at hg;omega
  ·intro hp
   have hp:0<qva b.ents n:=hp
   cases hv:zr mine n with
   | none=>unfold qbC at hg;rw[hv]at hg;simp only[Option.getD_none]at hg;omega
   | some v=>
    obtain⟨i,hi⟩:=qvW hv;exact⟨i,v,by simp,hi⟩
 have hg:∀ n,qbC mine n=qfV b n:=hm.get;refine⟨fun n=>?_,fun n=>?_⟩
 ·rw[List.filter_append,List.length_append,List.filter_cons]
  have h1:=hb.in' n;by_cases hp:0<qfV b n
  ·rw[(h.yes n ((hd n).2 hp)).1,h1,if_pos (by simpa using hp)];simp
  ·rw[(h.no n fun hh=>hp ((hd n).1 hh)).1,h1,if_neg (by simpa using hp)];simp
 ·rw[List.map_append,List.foldl_append]
  have h1:=hb.most n;have h2:=hg n;show _=((max ((bs.map fun b=>qfV b n).foldl max 0) (qfV b n):Nat):Int);by_cases hp:0<qfV b n
  ·rw[(h.yes n ((hd n).2 hp)).2,h1,h2];omega
  ·rw[(h.no n fun hh=>hp ((hd n).1 hh)).2,h1];omega
theorem CntR.bd{bs:List PBook}{m1 m2:NM}(h:CntR bs m1 m2)(n:Int):0<=qbC m1 n/\qbC m1 n<=bs.length/\0<=qbC m2 n:=by
 have h1:=h.in' n;have h2:=h.most n;have h3:(bs.filter fun b=>decide (0<qfV b n)).length<=bs.length:=List.length_filter_le _ _;omega
theorem qgq{κ ν:Type}{kd:κ->D}{vd:ν->D}(m:List (κ×ν)):(kvV kd vd m).length=m.length:=by simp[kvV]
theorem qvX{m:NM}{i:Nat}{kv:D×D}(h:(kvV qG qG m)[i]?=some kv):∃ x v,m[i]?=some (x,v)/\kv=(i64 x,i64 v):=by
 unfold kvV at h;rw[List.getElem?_map,Option.map_eq_some_iff]at h;obtain⟨⟨x,v⟩,h1,h2⟩:=h;exact⟨x,v,h1,h2.symm⟩
theorem qsy{l:List Nat}{i:Nat}(h:i∈l):(l.filter fun j=>!Nat.beq j i).length<l.length:=by
 induction l with
 | nil=>cases h
 | cons a r ih=>
  rw[List.filter_cons];by_cases ha:a=i
  ·subst ha
   rw[show Nat.beq a a=true from Nat.beq_refl a];have:=List.length_filter_le (fun j=>!Nat.beq j a) r;simp only[Bool.not_true,Bool.false_eq_true,if_false,List.length_cons];omega
  ·have hb:Nat.beq a i=false:=by
    cases hb:Nat.beq a i with
    | false=>rfl
    | true=>exact absurd (Nat.eq_of_beq_eq_true hb) ha
   rw[hb];have:=ih ((List.mem_cons.1 h).resolve_left fun e=>ha e.symm);simp only[Bool.not_false,if_true,List.length_cons];omega
set_option maxHeartbeats 4000000 in
theorem qzk(l:PLog)(hR:LogR l):FnU Tryz.prog 86 [.d l.d] [] fun v h'=>h' = [] /\ ∃ m1 m2,CntR l.books m1 m2/\v = .d (.tup [.mv (kvV qG qG m1),.mv (kvV qG qG m2)]):=by
 intro σ Y st;refine qaT mixed qm Tryz.func86 rfl (ft:=qyV) (args:=[.d l.d]) (show fnB qyV Tryz.f86 1=true from by decide +kernel) ?_;conv=>whnf
 refine zd (T:=tys) qm (by exact qg mixed qm (by decide +kernel)) l.books (fun i (x:NM×NM)=>⟨[(2,.mp 13),(3,.mp 14),(16,.d (qS l.books)),(17,.d (i64 l.books.length)),(18,.d (i64 i))],[(13,.map (kvV qG qG x.1)),(14,.map (kvV qG qG x.2))],st⟩) (fun i r x=>CntR (l.books.take i) x.1 x.2) ([],[]) (Wk.sub (by repeat' first|constructor|(simp only[List.length_map];rfl)|simp[PX.get]) (by repeat' first|constructor|(simp only[List.length_map];rfl)|simp[PX.get])) ⟨fun n=>rfl,fun n=>rfl⟩ ?_ ?_
 ·rintro i b r ⟨b1,b2⟩ hb hi hr hC
  have hbl:=hR.books;have hB:=hR.book b (List.mem_of_getElem? hb);have hbe:=hB.ents;have htk:l.books.take (i+1)=l.books.take i ++ [b]:=by rw[List.take_succ,hb];rfl
  simp only at hC;conv=>whnf
  refine qj (fun _=>?_) (fun h=>absurd hi (by simpa using h));conv=>whnf
  refine qt hb ?_;conv=>whnf
  refine zd (T:=tys) qm (by exact qg mixed qm (by decide +kernel)) b.ents (fun k (m:NM)=>⟨[(2,.mp 13),(3,.mp 14),(16,.d (qS l.books)),(17,.d (i64 l.books.length)),(18,.d (i64 i)),(6,.mp 22),(24,.d (qeS b.ents)),(25,.d (i64 b.ents.length)),(26,.d (i64 k))],[(13,.map (kvV qG qG b1)),(14,.map (kvV qG qG b2)),(22,.map (kvV qG qG m))],st⟩) (fun k r m=>MineR (b.ents.take k) m) [] (Wk.sub (by repeat' first|constructor|(simp only[List.length_map];rfl)|simp[PX.get]) (by repeat' first|constructor|(simp only[List.length_map];rfl)|simp[PX.get])) (by rw[List.take_zero];exact MineR.nil) ?_ ?_
  ·rintro k y q m hy hk hq hM
   have hte:b.ents.take (k+1)=b.ents.take k ++ [y]:=by rw[List.take_succ,hy];rfl
   have hyk:=(hB.ent y (List.mem_of_getElem? hy)).2.1;conv=>whnf
   refine qj (fun _=>?_) (fun h=>absurd hk (by simpa using h));conv=>whnf
   refine qt hy ?_;conv=>whnf
   refine qk (qsU y) rfl rfl ?_;by_cases h3:y.kind=3
   ·have ht:zk y = .ifc 156 (.agg [.str y.word,i64 y.number]):=by unfold zk;rw[if_neg (by omega),if_neg (by omega),if_pos h3]
    rw[ht];have hM2:=hM.inc h3;rw[<- hte]at hM2;have hb8:qbC m y.number<=k:=by
     rw[hM.get];have h1:qva (b.ents.take k) y.number<=(b.ents.take k).length:=List.length_filter_le _ _;rw[List.length_take]at h1;omega
    have hb0:0<=qbC m y.number:=by rw[hM.get];omega
    generalize hG:qbC m y.number=G at hM2 hb8 hb0;conv=>whnf
    cases hg:zr m y.number with
    | none=>
     have hG0:G=0:=by rw[<- hG];unfold qbC;rw[hg];rfl
     refine⟨none,qs (kd:=qG) qv hg 0,?_⟩;conv=>whnf
     refine qn (G+1) (by omega) (qb (by omega)) ?_;conv=>whnf
     refine⟨none,qs (kd:=qG) qv hg 0,?_⟩;conv=>whnf
     refine qe (qb (by(try dsimp only);omega)) ?_;conv=>whnf
     refine⟨_,hM2,Wk.sub ⟨rfl,rfl,rfl,rfl,rfl,rfl,rfl,rfl,rfl,trivial⟩ ⟨rfl,rfl,?_,trivial⟩⟩;exact congrArg (fun z=>some (Obj.map z)) (zg (kd:=qG) (vd:=qG) (G+1) hg)
    | some v=>
     have hG0:G=v:=by rw[<- hG];unfold qbC;rw[hg];rfl
     obtain⟨ix,_,hx1,hx2,_⟩:=qD (kd:=qG) (vd:=qG) qv hg 0;refine⟨_,hx1,?_⟩;conv=>whnf
     refine qn (G+1) (by omega) (qb (by omega)) ?_;conv=>whnf
     refine⟨_,hx1,?_⟩;conv=>whnf
     refine qe (qb (by(try dsimp only);omega)) ?_;conv=>whnf
     refine⟨_,hM2,Wk.sub ⟨rfl,rfl,rfl,rfl,rfl,rfl,rfl,rfl,rfl,trivial⟩ ⟨rfl,rfl,?_,trivial⟩⟩;show some (Obj.map ((kvV qG qG m).set (0+ix) (i64 y.number,i64 (G+1))))=_;rw[Nat.zero_add];exact congrArg (fun z=>some (Obj.map z)) (hx2 (G+1))
   ·have hM2:=hM.skip h3
    rw[<- hte]at hM2;by_cases h2:y.kind=2
    ·have ht:zk y = .ifc 175 (.agg []):=by unfold zk;rw[if_neg (by omega),if_pos h2]
     rw[ht];conv=>whnf
     refine qe (qb (by(try dsimp only);omega)) ?_;conv=>whnf
     exact⟨m,hM2,(Wk.sub (by repeat' first|constructor|(simp only[List.length_map];rfl)|simp[PX.get]) (by repeat' first|constructor|(simp only[List.length_map];rfl)|simp[PX.get]))⟩
    ·have ht:zk y = .ifc 138 (.agg [.str y.word]):=by unfold zk;rw[if_pos (by omega)]
     rw[ht];conv=>whnf
     refine qe (qb (by(try dsimp only);omega)) ?_;conv=>whnf
     exact⟨m,hM2,(Wk.sub (by repeat' first|constructor|(simp only[List.length_map];rfl)|simp[PX.get]) (by repeat' first|constructor|(simp only[List.length_map];rfl)|simp[PX.get]))⟩
  ·rintro m hM
   rw[List.take_length]at hM;conv=>whnf
   refine qj (fun h=>absurd h (by simp)) (fun _=>?_);conv=>whnf
   refine zI (T:=tys) qm (by exact qg mixed qm (by decide +kernel)) (α:=List Nat×(NM×(NM×Option Nat)))
    (fun p=>⟨[(2,.mp 13),(3,.mp 14),(16,.d (qS l.books)),(17,.d (i64 l.books.length)),(18,.d (i64 i)),(44,.it 44)],[(13,.map (kvV qG qG p.2.1)),(14,.map (kvV qG qG p.2.2.1)),(22,.map (kvV qG qG m)),(44,.mit (.mp 22) m.length p.1 p.2.2.2)],st⟩)
    (fun p=>RngR m b1 b2 p.1 p.2.1 p.2.2.1) (fun p=>p.1.length) (List.range m.length,(b1,(b2,none))) ?wk2 (RngR.start m b1 b2) ?_
   case wk2=>
    refine Wk.sub ⟨rfl,rfl,rfl,rfl,rfl,rfl,trivial⟩ ⟨rfl,rfl,rfl,?_,trivial⟩;show some (Obj.mit (V.mp 22) (kvV qG qG m).length (List.range (kvV qG qG m).length) none)=_;rw[qgq]
   rintro ⟨todo,m1,m2,cur⟩ hRg;simp only at hRg;conv=>whnf
   refine⟨by simp[qgq],fun h0=>?_,fun j kv hj hkv=>?_⟩
   ·have h0:todo = []:=h0
    subst h0;have hC2:=hRg.fin hC hM;rw[<- htk]at hC2;conv=>whnf
    refine qe (qb (by(try dsimp only);omega)) ?_;conv=>whnf
    exact⟨(m1,m2),hC2,(Wk.sub (by repeat' first|constructor|(simp only[List.length_map];rfl)|simp[PX.get]) (by repeat' first|constructor|(simp only[List.length_map];rfl)|simp[PX.get]))⟩
   ·obtain⟨n,v,hnv,rfl⟩:=qvX hkv
    have hj:j∈todo:=hj;have hlt:=qsy hj;have hstep:=hRg.step hM.nod hj hnv;have hgm:=qnN hM.nod hnv;conv=>whnf
    refine⟨by simp[qgq],(i64 n,i64 v),hkv,?_⟩;conv=>whnf
    have hv1:=hM.pos n v hgm;have hbd:qbC m1 n<=3/\0<=qbC m1 n:=by
     have:=hC.bd n;rw[List.length_take]at this;have hnd:¬ Dn m todo n:=fun⟨j',w,h1,h2⟩=>by
      have hjl:=(List.getElem?_eq_some_iff.1 h2).1;have e1:(m.map Prod.fst)[j']?=some n:=by rw[List.getElem?_map,h2];rfl
      have e2:(m.map Prod.fst)[j]?=some n:=by rw[List.getElem?_map,hnv];rfl
      have:j'=j:=(List.getElem?_inj (by simpa using hjl) hM.nod).1 (e1.trans e2.symm);exact h1 (this▸hj)
     have:=(hRg.no n hnd).1;omega
    generalize hG1:qbC m1 n=G1 at hstep hbd;generalize hG2:qbC m2 n=G2 at hstep
    cases hg1:zr m1 n with
    | none=>
     have hG0:G1=0:=by rw[<- hG1];unfold qbC;rw[hg1];rfl
     refine⟨none,qs (kd:=qG) qv hg1 0,?_⟩;conv=>whnf
     refine qn (G1+1) (by omega) (qb (by omega)) ?_;conv=>whnf
     refine⟨none,qs (kd:=qG) qv hg1 0,?_⟩;conv=>whnf
     cases hg2:zr m2 n with
     | none=>
      have hH0:G2=0:=by rw[<- hG2];unfold qbC;rw[hg2];rfl
      refine⟨none,qs (kd:=qG) qv hg2 0,?_⟩;conv=>whnf
      refine⟨none,qs (kd:=qG) qv hg2 0,?_⟩;conv=>whnf
      refine⟨(todo.filter fun j'=>!Nat.beq j' j,(jJ m1 n (G1+1),(jJ m2 n (max G2 v),some j))),hlt,hstep,Wk.sub ⟨rfl,rfl,rfl,rfl,rfl,rfl,trivial⟩ ⟨?_,?_,rfl,rfl,trivial⟩⟩
      ·exact congrArg (fun z=>some (Obj.map z)) (zg (kd:=qG) (vd:=qG) (G1+1) hg1)
      ·rw[hH0]
       exact congrArg (fun z=>some (Obj.map z)) (zg (kd:=qG) (vd:=qG) (max 0 v) hg2)
     | some v2=>
      have hH0:G2=v2:=by rw[<- hG2];unfold qbC;rw[hg2];rfl
      obtain⟨iy,_,hy1,hy2,_⟩:=qD (kd:=qG) (vd:=qG) qv hg2 0;refine⟨_,hy1,?_⟩;conv=>whnf
      refine⟨_,hy1,?_⟩;conv=>whnf
      refine⟨(todo.filter fun j'=>!Nat.beq j' j,(jJ m1 n (G1+1),(jJ m2 n (max G2 v),some j))),hlt,hstep,Wk.sub ⟨rfl,rfl,rfl,rfl,rfl,rfl,trivial⟩ ⟨?_,?_,rfl,rfl,trivial⟩⟩
      ·exact congrArg (fun z=>some (Obj.map z)) (zg (kd:=qG) (vd:=qG) (G1+1) hg1)
      ·rw[hH0]
       show some (Obj.map ((kvV qG qG m2).set (0+iy) (i64 n,i64 (max v2 v))))=_;rw[Nat.zero_add];exact congrArg (fun z=>some (Obj.map z)) (hy2 (max v2 v))
    | some v1=>
     have hG0:G1=v1:=by rw[<- hG1];unfold qbC;rw[hg1];rfl
     obtain⟨ix,_,hx1,hx2,_⟩:=qD (kd:=qG) (vd:=qG) qv hg1 0;refine⟨_,hx1,?_⟩;conv=>whnf
     refine qn (G1+1) (by omega) (qb (by omega)) ?_;conv=>whnf
     refine⟨_,hx1,?_⟩;conv=>whnf
     cases hg2:zr m2 n with
     | none=>
      have hH0:G2=0:=by rw[<- hG2];unfold qbC;rw[hg2];rfl
      refine⟨none,qs (kd:=qG) qv hg2 0,?_⟩;conv=>whnf
      refine⟨none,qs (kd:=qG) qv hg2 0,?_⟩;conv=>whnf
      refine⟨(todo.filter fun j'=>!Nat.beq j' j,(jJ m1 n (G1+1),(jJ m2 n (max G2 v),some j))),hlt,hstep,Wk.sub ⟨rfl,rfl,rfl,rfl,rfl,rfl,trivial⟩ ⟨?_,?_,rfl,rfl,trivial⟩⟩
      ·(show some (Obj.map ((kvV qG qG m1).set (0+ix) (i64 n,i64 (G1+1))))=_);rw[Nat.zero_add];exact congrArg (fun z=>some (Obj.map z)) (hx2 (G1+1))
      ·rw[hH0]
       exact congrArg (fun z=>some (Obj.map z)) (zg (kd:=qG) (vd:=qG) (max 0 v) hg2)
     | some v2=>
      have hH0:G2=v2:=by rw[<- hG2];unfold qbC;rw[hg2];rfl
      obtain⟨iy,_,hy1,hy2,_⟩:=qD (kd:=qG) (vd:=qG) qv hg2 0;refine⟨_,hy1,?_⟩;conv=>whnf
      refine⟨_,hy1,?_⟩;conv=>whnf
      refine⟨(todo.filter fun j'=>!Nat.beq j' j,(jJ m1 n (G1+1),(jJ m2 n (max G2 v),some j))),hlt,hstep,Wk.sub ⟨rfl,rfl,rfl,rfl,rfl,rfl,trivial⟩ ⟨?_,?_,rfl,rfl,trivial⟩⟩
      ·(show some (Obj.map ((kvV qG qG m1).set (0+ix) (i64 n,i64 (G1+1))))=_);rw[Nat.zero_add];exact congrArg (fun z=>some (Obj.map z)) (hx2 (G1+1))
      ·rw[hH0]
       show some (Obj.map ((kvV qG qG m2).set (0+iy) (i64 n,i64 (max v2 v))))=_;rw[Nat.zero_add];exact congrArg (fun z=>some (Obj.map z)) (hy2 (max v2 v))
 ·rintro ⟨m1,m2⟩ hC
  rw[List.take_length]at hC;conv=>whnf
  refine qj (fun h=>absurd h (by simp)) (fun _=>?_);conv=>whnf
  refine qc 1 (ds:=[.mv (kvV qG qG m1),.mv (kvV qG qG m2)]) (qy (qhf rfl) (qy (qhf rfl) rfl)) ⟨⟨rfl,m1,m2,hC,rfl⟩,rfl⟩
end Go.PX
