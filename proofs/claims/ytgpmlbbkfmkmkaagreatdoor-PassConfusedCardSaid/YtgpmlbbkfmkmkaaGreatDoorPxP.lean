import Derived.Test.YtgpmlbbkfmkmkaaGreatDoorPxO
import Derived.Tactics
import Derived.Tactics2
import Derived.Recover
import Derived.Test.YtgpmlbbkfmkmkaaGreatDoorPxN
import Derived.Test.YtgpmlbbkfmkmkaaGreatDoorPxM
set_option linter.all false
set_option maxRecDepth 10000
namespace Go.PX
open Go.Proofs
open Go.RowKit
theorem clo93_pan2(near:Int):CloD Tryz.prog 93 (.panicking [{ v:=qiI,recovered:=false }]) (.panicking [{ v:=qiI,recovered:=true }]) [(1000000,.box (.dd [i64 near,.nils])),(1000001,.box (.dd [i64 0]))] [(1000000,.box (.dd [i64 0,.nils])),(1000001,.box (.dd [i64 6]))]:=by
 intro σ cx hl L F s w hh;refine callsDIn_of_wpSIn Tryz.func93 rfl trivial fun c₀ cs hu=>?_;apply wpSIn_seq;apply wpSIn_region;simp[wpOpsSIn,go_sem,recoverD,hu,Exit.thenS];refine wpSIn_of_wpIn rfl ?_;refine qiO qh (ft:=qpJ) hl hh (n:=9) rfl (v:=qiI) (d:=.ifc 27 (i64 6)) ⟨_,rfl,rfl⟩ trivial (by simp) rfl (by rfl) (by rfl) (by rfl) (by decide +kernel) (by exact(qd mixed qh (by decide +kernel))) rfl (h':=[(1000000,.box (.dd [i64 0,.nils])),(1000001,.box (.dd [i64 6]))]) ?_ ?_
 ·intro a' w' L' F' hdf hh' tr pin
  refine⟨hdf,.panicking [{ v:=qiI,recovered:=true }],rfl,.tuple #[],qov _ _,⟨⟨_,rfl⟩,rfl,L',F',hh',tr,pin⟩⟩
 ·conv=>whnf
  exact⟨qaB ⟨rfl,rfl,trivial⟩,rfl⟩
def qeA:Nat->PLog->List UInt8->Option PLog
 | 0,c,_=>some c
 | n+1,c,l=>if l = [] then some c else
  if (qbr 10 l).2.2 then
   match qds c (jT 32 ⟨(qbr 10 l).1.toArray⟩) with
   | some c'=>qeA n c' (qbr 10 l).2.1
   | none=>none
  else none
def qoF:PLog:=⟨0,[]⟩
def qnm(l:List UInt8):Option (Int×List UInt8):=
 if (qbr 10 l).2.2 then
  if (qnv ⟨(qbr 10 l).1.toArray⟩ qmf).2 then (jv (qnv ⟨(qbr 10 l).1.toArray⟩ qmf).1).map fun n=>(n,(qbr 10 l).2.1) else none
 else none
def qaJ(l:List UInt8):Option PLog:=match qnm l with
 | none=>none
 | some x=>qeA x.2.length ⟨x.1,[]⟩ x.2
def qjX(s:ByteArray):PLog×Int:=
 if 1500<s.size then (qoF,3) else
 match qaJ s.data.toList with
 | some c=>if qA c=0/\qmn c=s then (c,0) else (qoF,6)
 | none=>(qoF,6)
theorem qeB(c:UInt8):∀ l:List UInt8,(qbr c l).1.length+(qbr c l).2.1.length<=l.length/\(l ≠ []->(qbr c l).2.1.length<l.length)
 | []=>by simp[qbr]
 | x::r=>by
  have ih:=qeB c r;rw[qbr]
  split
  ·simp
  ·simp only[List.length_cons]
   refine⟨by omega,fun _=>?_⟩;omega
theorem qhR:∀ (n m:Nat) (c:PLog) (l:List UInt8),l.length<=n->l.length<=m->qeA n c l=qeA m c l
 | 0,0,_,_,_,_=>rfl
 | 0,m+1,c,l,hn,_=>by
  have:l = []:=List.length_eq_zero_iff.1 (by omega);rw[qeA,qeA,if_pos this]
 | n+1,0,c,l,_,hm=>by
  have:l = []:=List.length_eq_zero_iff.1 (by omega);rw[qeA,qeA,if_pos this]
 | n+1,m+1,c,l,hn,hm=>by
  rw[qeA,qeA]
  by_cases h:l = []
  ·rw[if_pos h,if_pos h]
  ·rw[if_neg h,if_neg h]
   have:=(qeB 10 l).2 h
   split
   ·cases qds c (jT 32 ⟨(qbr 10 l).1.toArray⟩) with
    | none=>rfl
    | some c'=>exact qhR n m c' _ (by omega) (by omega)
   ·rfl
def qmg(c:PLog)(l:List UInt8):Option PLog:=qeA l.length c l
theorem readL_eq(c:PLog)(l:List UInt8):qmg c l=if l = [] then some c else
  if (qbr 10 l).2.2 then
   match qds c (jT 32 ⟨(qbr 10 l).1.toArray⟩) with
   | some c'=>qmg c' (qbr 10 l).2.1
   | none=>none
  else none:=by
 unfold qmg
 by_cases h:l = []
 ·subst h;rfl
 ·obtain⟨x,r,rfl⟩:=List.exists_cons_of_ne_nil h
  rw[if_neg h];have hl:=(qeB 10 (x::r)).2 h;show qeA (r.length+1) c (x::r)=_;rw[qeA,if_neg h]
  split
  ·cases qds c (jT 32 ⟨(qbr 10 (x::r)).1.toArray⟩) with
   | none=>rfl
   | some c'=>exact qhR _ _ c' _ (by simp at hl;omega) (Nat.le_refl _)
  ·rfl
def qgR(e:Int):D:=.tup [.agg [i64 0,.nils],i64 e]
theorem qpi(l:List UInt8)(c:UInt8)(hs:l.length<=1000000000):FnV Tryz.prog 94 [.str ⟨l.toArray⟩,.str ⟨#[c]⟩] (.tup [.str ⟨(qbr c l).1.toArray⟩,.str ⟨(qbr c l).2.1.toArray⟩,.bool (qbr c l).2.2]):=by
 have h:=@pa94 ⟨l.toArray⟩ c (by show l.toArray.size<=_;simpa using hs);have e:(⟨l.toArray⟩:ByteArray).data.toList=l:=rfl;rw[e]at h;exact fun {σ}=>h
theorem qeC{σ:Type}{st:σ}{en:Env}{h:Heap}{near:Int}{i n:Nat}(h2:get en 2=some (.ptr 1000000 0))(h3:get en 3=some (.ptr 1000001 0))(hh:qeQ h [(1000000,.box (.vv [.d (i64 near),.sl i 6 0 n])),(1000001,.box (.dd [i64 0]))]) :
  qoE Tryz.prog tys Tryz.f41 93 2 3 (qgR 6) st (.panicking [{ v:=qiI,recovered:=false }]) en h st:=by
 refine⟨h2,h3,.panicking [{ v:=qiI,recovered:=true }],_,rfl,CloD.sub (h0:=[(1000000,.box (.vv [.d (i64 near),.sl i 6 0 n])),(1000001,.box (.dd [i64 0]))]) (fun {σ}=>clo93_pan near i n) hh,?_⟩;conv=>whnf
 exact qb 1 rfl ⟨rfl,rfl,rfl⟩
theorem qkL{σ:Type}{st:σ}{en:Env}{h:Heap}{near:Int}(h2:get en 2=some (.ptr 1000000 0))(h3:get en 3=some (.ptr 1000001 0))(hh:qeQ h [(1000000,.box (.dd [i64 near,.nils])),(1000001,.box (.dd [i64 0]))]) :
  qoE Tryz.prog tys Tryz.f41 93 2 3 (qgR 6) st (.panicking [{ v:=qiI,recovered:=false }]) en h st:=by
 refine⟨h2,h3,.panicking [{ v:=qiI,recovered:=true }],_,rfl,CloD.sub (h0:=[(1000000,.box (.dd [i64 near,.nils])),(1000001,.box (.dd [i64 0]))]) (fun {σ}=>clo93_pan2 near) hh,?_⟩;conv=>whnf
 exact qb 1 rfl ⟨rfl,rfl,rfl⟩
end Go.PX
namespace Go.PX
open Go.Proofs
open Go.RowKit
def rdH(near:Int)(o:Option (List PBook×PBook)):Heap:=match o with
 | none=>[(1000000,.box (.vv [.d (i64 near),.sl 900001 6 0 0])),(900001,.arr 6 (.dd []))]
 | some x=>lg1 1000000 900001 900002 near x.1 x.2
def rdL(near:Int)(o:Option (List PBook×PBook)):PLog:=match o with
 | none=>⟨near,[]⟩
 | some x=>⟨near,x.1 ++ [x.2]⟩
def qlM(bs:List PBook):Nat:=(bs.map fun b=>1+b.ents.length).sum
theorem qhS(c:UInt8):∀ l:List UInt8,(qal c l).length<=l.length+1
 | []=>by simp[qal]
 | x::r=>by
  have ih:=qhS c r;rw[qal]
  split
  ·simpa using ih
  ·have:(qkJ x (qal c r)).length<=max 1 (qal c r).length:=by cases qal c r<;>simp[qkJ]
   simp only[List.length_cons];omega
theorem qhT(c:UInt8):∀ (l:List UInt8),∀ x∈qal c l,x.length<=l.length
 | [],x,hx=>by simp[qal]at hx;subst hx;simp
 | y::r,x,hx=>by
  have ih:=qhT c r;rw[qal]at hx
  split at hx
  ·rcases List.mem_cons.1 hx with rfl | hx
   ·simp
   ·have:=ih x hx;simp only[List.length_cons];omega
  ·cases hs:qal c r with
   | nil=>rw[hs]at hx;simp[qkJ]at hx;subst hx;simp
   | cons a t=>
    rw[hs]at hx ih
    rcases List.mem_cons.1 hx with rfl | hx
    ·have:=ih a (by simp);simp only[List.length_cons];omega
    ·have:=ih x (by simp[hx]);simp only[List.length_cons];omega
theorem piecesB_len(c:UInt8)(s:ByteArray):(jT c s).length<=s.size+1:=by
 have:=qhS c s.data.toList;simp only[jT,List.length_map];simpa using this
theorem piecesB_mem(c:UInt8)(s:ByteArray):∀ x∈jT c s,x.size<=s.size:=by
 intro x hx;obtain⟨y,hy,rfl⟩:=List.mem_map.1 hx;have:=qhT c s.data.toList y hy;show y.length<=s.size;simpa using this
theorem piecesB_ne(c:UInt8)(s:ByteArray):jT c s ≠ []:=by
 unfold jT;intro h;exact splitL_ne c _ (List.map_eq_nil_iff.1 h)
theorem cutP_size(s p:ByteArray):(qnv s p).1.size<=s.size:=by
 unfold qnv
 split
 ·simp
 ·exact Nat.le_refl _
theorem qhU{r:List ByteArray}{b:PBook}(h:qbZ r=some b):∃ n o s,b=⟨n,o,s,[]⟩:=by
 unfold qbZ at h
 split at h
 ·rename_i n a b' c d
  cases h2:four a b' c d with
  | none=>rw[h2]at h;cases h
  | some x=>rw[h2]at h;cases h;exact⟨_,_,_,rfl⟩
 ·cases h
theorem qcZ(init:List PBook)(last:PBook):qlM (init ++ [last])=qlM init+1+last.ents.length/\init.length<=qlM init:=by
 have h1:qlM (init ++ [last])=qlM init+(1+last.ents.length):=by unfold qlM;rw[List.map_append,List.sum_append];simp
 refine⟨by omega,?_⟩;clear h1
 induction init with
 | nil=>exact Nat.zero_le _
 | cons b r ih=>
  have:qlM (b::r)=(1+b.ents.length)+qlM r:=by unfold qlM;rw[List.map_cons,List.sum_cons]
  rw[List.length_cons];omega
theorem qjY(b i j:Nat)(near:Int)(init:List PBook)(last:PBook):zi (lg1 b i j near init last) = [b,i,i,j,j]:=by
 show b::([i]++(i::(qT (List.flatten (qV (init.map PBook.cells) ++ [inj (hdC last) ++ [V.sl j 4 0 last.ents.length]])) ++ [j])))=_;rw[je];rfl
theorem qhV(near:Int)(init:List PBook)(last:PBook):qbi [1000000,900001,900002] (some 51) (.d (.tup [])) (lg1 1000000 1000001 1000002 near init last)=true:=by
 unfold qbi;rw[qjY];rfl
theorem lg1_callBn(near:Int)(init:List PBook)(last:PBook):qbi [1000000,900001,900002] (some 51) (.d (.tup [])) (lg1 1000000 1000001 2000000 near init last)=true:=by
 unfold qbi;rw[qjY];rfl
theorem viewV_slv{h:Heap}{k id sz n:Nat}{vs:List (List V)}{es:List (List D)}(hg:get h id=some (.arr sz (.vv vs)))(hv:qaM (qcc h k) vs=some es)(hn:n=es.length):jt (qcc h (k+1)) (.sl id sz 0 n)=some (.vs es):=by
 have h1:Nat.beq sz sz=true:=Nat.beq_refl sz;have h2:Nat.ble (0+es.length) es.length=true:=Nat.ble_eq_true_of_le (by omega);subst hn;simp only[jt,qcc,hg,hv,h1,h2];simp
theorem qjZ{h:Heap}{near:Int}{n:Nat}{l:List PBook}(hs:jt (qcc h 2) (.sl 900001 6 0 n)=some (qG l)):zQ (qcc h 2) [.agg [.d (i64 near),.sl 900001 6 0 n]]=some [(⟨near,l⟩:PLog).d]:=by
 have:zQ (qcc h 2) [.d (i64 near),.sl 900001 6 0 n]=some [i64 near,qG l]:=qx rfl (qx hs rfl);refine qx ?_ rfl;rw[jt,this];rfl
theorem qka{h:Heap}{v:V}{d e:D}(hv:zQ (qcc h 2) [v]=some [d]):zQ (qcc h 2) [v,.d e]=some [d,e]:=by
 rw[zQ]at hv;rw[zQ]
 cases hx:jt (qcc h 2) v with
 | none=>rw[hx]at hv;cases hv
 | some d=>rw[hx]at hv;cases hv;rfl
theorem qnn{h:Heap}(near:Int)(h1:get h 900001=some (.arr 6 (.dd []))):zQ (qcc h 2) [.agg [.d (i64 near),.sl 900001 6 0 0]]=some [(rdL near none).d]:=
 qjZ (l:=[]) (zU h1 (by simp))
theorem qno{h:Heap}(near:Int)(init:List PBook)(last:PBook)(h1:get h 900001=some (.arr 6 (.vv (qV (init.map PBook.cells) ++ [inj (hdC last) ++ [.sl 900002 4 0 last.ents.length]]))))(h2:get h 900002=some (.arr 4 (.dd (last.ents.map PEnt.cells)))) :
  zQ (qcc h 2) [.agg [.d (i64 near),.sl 900001 6 0 (init.length+1)]]=some [(rdL near (some (init,last))).d]:=by
 have e1:jt (qcc h 1) (.sl 900002 4 0 last.ents.length)=some (qdM last.ents):=zU h2 (by simp);have e2:qaM (qcc h 1) (qV (init.map PBook.cells) ++ [inj (hdC last) ++ [.sl 900002 4 0 last.ents.length]])=some (init.map PBook.cells ++ [last.cells]):=qaY (qbS (qbl (a:=hdC last) (qx e1 rfl))) _;have e3:init.map PBook.cells ++ [last.cells]=(init ++ [last]).map PBook.cells:=by simp
 rw[e3]at e2;exact qjZ (l:=init ++ [last]) (viewV_slv h1 e2 (by simp))
set_option maxHeartbeats 4000000 in
theorem qpj(s:ByteArray)(r:D)(h3:1500<s.size->r=qgR 3)(h6:s.size<=1500->qaJ s.data.toList=none->r=qgR 6)
  (h7:s.size<=1500 -> ∀ c,qaJ s.data.toList=some c->((qA c=0/\qmn c=s)->r = .tup [c.d,i64 0])/\(¬ (qA c=0/\qmn c=s)->r=qgR 6)):FnV Tryz.prog 41 [.str s] r:=by
 refine fnV_defer (ds:=[.str s]) (ft:=qpX) (g:=93) mixed qh 2 3 19 (lc:=[i64 0,.nils]) (le:=[i64 0]) Tryz.func41 rfl (show fnB qpX Tryz.f41 1=true from by decide +kernel) (by decide) (by decide) (by decide) rfl rfl rfl ?_ ?_ fun {σ} Y st=>?_
 ·intro a w p q Q hp hq hs h
  have hmf:∀ (fn:Fn) (first cap:Array Value) (w:World),(Instr.makeFunc fn first cap).run Tryz.prog w = .ok (.func fn first cap) w:=fun _ _ _ _=>rfl;apply wpIn_region;have e2:a.tmps.getD 2 undef=p:=by rw[Array.getD_eq_getD_getElem?,hp];rfl
  have e3:a.tmps.getD 3 undef=q:=by rw[Array.getD_eq_getD_getElem?,hq];rfl
  have hsz:19<a.tmps.size:=by rw[hs];decide
  simp[wpOpsIn,wpOpIn,go_sem,hmf,e2,e3,hsz,Oper.uponIn,Result.andThen];simpa using h
 ·intro p q w
  rfl
 conv=>whnf
 refine qg (fun hb=>?_) (fun hb=>?_)
 ·have h0:=h3 (by have:=of_decide_eq_true hb;omega)
  subst h0;conv=>whnf
  refine⟨rfl,?_⟩;conv=>whnf
  exact qb 0 rfl ⟨⟨rfl,rfl⟩,rfl⟩
 refine⟨?_,?_⟩
 ·exact Wk.sub ⟨rfl,rfl,rfl,trivial⟩ ⟨rfl,rfl,trivial⟩
 have hs4:s.size<=1500:=by have:=of_decide_eq_false hb;omega
 have h6:=h6 hs4;have h7:=h7 hs4;have hsd:s=⟨s.data.toList.toArray⟩:=by cases s;simp
 have hsl:s.data.toList.length<=1500:=by simpa using hs4
 generalize hl0:s.data.toList=l0 at h6 h7 hsd hsl;conv=>whnf
 rw[hsd];refine qe (ds:=[.str ⟨l0.toArray⟩,.str ⟨#[10]⟩]) (qpi l0 10 (by omega)) rfl rfl ?_;conv=>whnf
 refine qe (ds:=[.str ⟨(qbr 10 l0).1.toArray⟩,.str qmf]) (pa95 ⟨(qbr 10 l0).1.toArray⟩ qmf) rfl rfl ?_;have hlen0:=(qeB 10 l0).1
 have hRA:qaJ l0=match qnm l0 with
  | none=>none
  | some x=>qeA x.2.length ⟨x.1,[]⟩ x.2:=rfl
 have hcs:=cutP_size ⟨(qbr 10 l0).1.toArray⟩ qmf;have hhs:(⟨(qbr 10 l0).1.toArray⟩:ByteArray).size<=1500:=by show(qbr 10 l0).1.toArray.size<=_;rw[List.size_toArray];omega
 unfold qnm at hRA;generalize qnv ⟨(qbr 10 l0).1.toArray⟩ qmf=CP at hRA hcs ⊢;generalize (⟨(qbr 10 l0).1.toArray⟩:ByteArray)=HD at hhs hcs;generalize qbr 10 l0=C1 at hRA hlen0 ⊢;obtain⟨c1,rest,is⟩:=C1;obtain⟨nm,is2⟩:=CP;simp only at hRA hlen0 hcs
 cases is with
 | false=>
  simp only[Bool.false_eq_true,if_false]at hRA;have h0:=h6 hRA;subst h0;conv=>whnf
  refine jJ rfl (fun h=>by cases h) (fun _=>?_);conv=>whnf
  exact qkL rfl rfl ⟨rfl,rfl,trivial⟩
 | true=>
 simp only[if_true]at hRA
 cases is2 with
 | false=>
  simp only[Bool.false_eq_true,if_false]at hRA;have h0:=h6 hRA;subst h0;conv=>whnf
  refine jJ rfl (fun h=>by cases h) (fun _=>?_);conv=>whnf
  exact qkL rfl rfl ⟨rfl,rfl,trivial⟩
 | true=>
 simp only[if_true]at hRA;conv=>whnf
 refine jJ rfl (fun _=>?_) (fun h=>by cases h);conv=>whnf
 refine qfu (x:=nm) (by omega) (fun near hnr=>?_) (fun hnr=>?_) rfl (by intro k;rfl)
 case refine_2=>
  rw[hnr]at hRA;have h0:=h6 hRA;subst h0;conv=>whnf
  exact qkL rfl rfl ⟨rfl,rfl,trivial⟩
 rw[hnr]at hRA;have hRA:qaJ l0=qmg ⟨near,[]⟩ rest:=hRA;conv=>whnf
 refine zy (T:=tys) qh (by exact qd mixed qh (by decide +kernel)) (fun x:Option (List PBook×PBook)×List UInt8=>⟨[(0,.d (.str ⟨l0.toArray⟩)),(2,.ptr 1000000 0),(3,.ptr 1000001 0),(5,.d (.str ⟨x.2.toArray⟩))],(1000001,.box (.dd [i64 0]))::rdH near x.1,st⟩) (fun x=>qaJ l0=qmg (rdL near x.1) x.2/\qlM (rdL near x.1).books+x.2.length<=1500) (fun x=>x.2.length) (none,rest) ?_ ⟨hRA,?_⟩ ?_
 ·exact(Wk.bornAtD 1000000 900001 6 [i64 near] [] rfl rfl rfl rfl rfl).trans (Wk.sub ⟨rfl,rfl,rfl,rfl,trivial⟩ ⟨rfl,rfl,rfl,trivial⟩)
 ·show 0+rest.length<=1500
  omega
 rintro ⟨o,l⟩ ⟨hl,hlen⟩;simp only at hlen;have hl:qaJ l0=qmg (rdL near o) l:=hl;conv=>whnf
 refine qg (fun hb=>?_) (fun hb=>?_)
 ·have hne:l ≠ []:=by rintro rfl;simp at hb
  have hcl:=qeB 10 l;rw[readL_eq _ l,if_neg hne]at hl;conv=>whnf
  refine qe (qpi l 10 (by omega)) rfl rfl ?_;conv=>whnf
  refine jJ rfl (fun ht=>?_) (fun ht=>?_)
  ·rw[ht,if_pos rfl]at hl
   have hps:(⟨(qbr 10 l).1.toArray⟩:ByteArray).size<=1500:=by show(qbr 10 l).1.toArray.size<=_;rw[List.size_toArray];omega
   have hwl:=piecesB_len 32 ⟨(qbr 10 l).1.toArray⟩;have hwm:=piecesB_mem 32 ⟨(qbr 10 l).1.toArray⟩;have hwn:jT 32 ⟨(qbr 10 l).1.toArray⟩ ≠ []:=piecesB_ne _ _;have hcl2:=hcl.2 hne;conv=>whnf
   refine qe (ds:=[.str ⟨(qbr 10 l).1.toArray⟩,.str ⟨#[32]⟩]) (pa99 ⟨(qbr 10 l).1.toArray⟩ 32 (by omega)) rfl rfl ?_;generalize jT 32 ⟨(qbr 10 l).1.toArray⟩=w at hl hwl hwm hwn ⊢;generalize (⟨(qbr 10 l).1.toArray⟩:ByteArray)=HD at hps hwl hwm;generalize (qbr 10 l).2.1=l2 at hl hcl hcl2 ⊢;conv=>whnf
   cases o with
   | none=>
    refine qgM (take0 near w hwn (fun x hx=>by have:=hwm x hx;omega) (by omega) _ _) [1000000,900001] rfl ⟨_,_,rfl,rfl,_,_,rfl,rfl,rfl⟩ rfl rfl ?_ ?_
    ·rintro v h1 s' ⟨⟨h,q,b,hw,hbk,hbF,rfl,rfl⟩,rfl⟩
     refine⟨rfl,?_⟩;have htk:qds (rdL near none) w=some ⟨near,[b]⟩:=by show qds ⟨near,[]⟩ w=_;rw[hw,zk,if_pos hbk,hbF];rfl
     rw[htk]at hl;obtain⟨bn,bo,bs,rfl⟩:=qhU hbF;conv=>whnf
     exact⟨(some ([],⟨bn,bo,bs,[]⟩),l2),hcl2,⟨hl,by have h0:0+l.length<=1500:=hlen;show 1+0+0+l2.length<=1500;omega⟩,(Wk.bornArr 103264 900002 6 4 [] (hdC ⟨bn,bo,bs,[]⟩) rfl rfl rfl rfl).trans ((Wk.move 103264 900001 rfl rfl).trans (Wk.sub ⟨rfl,rfl,rfl,rfl,trivial⟩ ⟨rfl,rfl,rfl,rfl,trivial⟩))⟩
    ·rintro pv h1 s' ⟨⟨hno,rfl,rfl⟩,rfl⟩
     refine⟨rfl,?_⟩;rw[show qds (rdL near none) w=none from hno]at hl;have h0:=h6 hl;subst h0;conv=>whnf
     exact qeC (i:=900001) (n:=0) (near:=near) rfl rfl ⟨rfl,rfl,trivial⟩
   | some x=>
    obtain⟨init,last⟩:=x;have htot:qlM (init ++ [last])+l.length<=1500:=hlen;have htl:=qcZ init last
    by_cases hbad:∃ s x n,w = [reportW,s,x,n]/\jv s≠none/\jv n=none
    ·obtain⟨ws,wx,wn,rfl,hb1,hb2⟩:=hbad
     obtain⟨t,ht1⟩:∃ t,jv ws=some t:=by
      cases h:jv ws with
      | none=>exact absurd h hb1
      | some t=>exact⟨t,rfl⟩
     have htk:qds (rdL near (some (init,last))) [reportW,ws,wx,wn]=none:=by
      rw[zk,if_neg (by decide),if_neg (by simp[rdL])];unfold qkk;simp only[ht1,if_neg (show ¬ reportW=passW by decide),if_neg (show ¬ reportW=setW by decide),if_pos,hb2];rfl
     refine qgM (take1b near init last ws wx wn t (by omega) (by have:=hwm ws (by simp);omega) (by have:=hwm wn (by simp);omega) ht1 hb2 _ _) [1000000,900001,900002] rfl ⟨_,_,rfl,rfl,_,_,rfl,(congrArg some (zn (qaa [1000000,900001,900002] 51) (init.map PBook.cells) last 1000002 last.ents.length)).symm,_,_,rfl,rfl,rfl⟩ rfl rfl ?_ ?_
     ·rintro v h1 s' ⟨hF,_⟩
      exact absurd hF id
     ·rintro pv h1 s' ⟨⟨rfl,rfl⟩,rfl⟩
      refine⟨qhV _ _ _,?_⟩;rw[htk]at hl;have h0:=h6 hl;subst h0;conv=>whnf
      exact qeC (i:=900001) (n:=init.length+1) (near:=near) rfl rfl ⟨rfl,rfl,trivial⟩
    ·refine qgM (take1 near init last w hwn (fun x hx=>by have:=hwm x hx;omega) (by omega) (by omega) (by omega) (fun s x n hw h1 h2=>hbad ⟨s,x,n,hw,h1,h2⟩) _ _) [1000000,900001,900002] rfl ⟨_,_,rfl,rfl,_,_,rfl,(congrArg some (zn (qaa [1000000,900001,900002] 51) (init.map PBook.cells) last 1000002 last.ents.length)).symm,_,_,rfl,rfl,rfl⟩ rfl rfl ?_ ?_
     ·rintro v h1 s' ⟨⟨rfl,h,q,hw,hp⟩,rfl⟩
      rcases hp with⟨hbk,b,hbF,rfl⟩ | ⟨hbk,e,hE,rfl⟩
      ·refine⟨rfl,?_⟩
       have htk:qds (rdL near (some (init,last))) w=some ⟨near,(init ++ [last]) ++ [b]⟩:=by rw[hw,zk,if_pos hbk,hbF];rfl
       rw[htk]at hl;obtain⟨bn,bo,bs,rfl⟩:=qhU hbF;conv=>whnf
       refine⟨(some (init ++ [last],⟨bn,bo,bs,[]⟩),l2),hcl2,⟨hl,?_⟩,(Wk.bornArr 103264 900002 6 4 ((init ++ [last]).map PBook.cells) (hdC ⟨bn,bo,bs,[]⟩) rfl rfl rfl rfl).trans ((Wk.move 103264 900001 rfl rfl).trans (Wk.sub ⟨rfl,rfl,rfl,rfl,trivial⟩ ⟨rfl,rfl,(by first | (show some (Obj.arr 6 (.vv (qt _ (qt _ (qt _ (qV _++_))))))=_;rw[qk,qk,qk];rfl) | (show some (Obj.arr 6 (.vv (qt _ (qt _ (qV _++_)))))=_;rw[qk,qk];rfl) | (show some (Obj.arr 6 (.vv (qt _ (qV _++_))))=_;rw[qk];rfl) | rfl),rfl,trivial⟩))⟩;have:=qcZ (init ++ [last]) ⟨bn,bo,bs,[]⟩;show qlM ((init ++ [last]) ++ [⟨bn,bo,bs,[]⟩])+l2.length<=1500;simp at this;simp at hlen htot ⊢;omega
      ·refine⟨lg1_callBn _ _ _,?_⟩
       have htk:qds (rdL near (some (init,last))) w=some ⟨near,init ++ [{ last with ents:=last.ents ++ [e] }]⟩:=by
        rw[hw,zk,if_neg hbk,if_neg (by simp[rdL]),hE];show some (⟨near,qou e (init ++ [last])⟩:PLog)=_;rw[qjW]
       rw[htk]at hl;conv=>whnf
       refine⟨(some (init,{ last with ents:=last.ents ++ [e] }),l2),hcl2,⟨hl,?_⟩,(Wk.move 103264 900002 rfl rfl).trans (Wk.sub ⟨rfl,rfl,rfl,rfl,trivial⟩ ⟨rfl,rfl,(by first | (show some (Obj.arr 6 (.vv (qt _ (qt _ (qt _ (qV _++_))))))=_;rw[qk,qk,qk];rfl) | (show some (Obj.arr 6 (.vv (qt _ (qt _ (qV _++_)))))=_;rw[qk,qk];rfl) | (show some (Obj.arr 6 (.vv (qt _ (qV _++_))))=_;rw[qk];rfl) | rfl),rfl,trivial⟩)⟩;have h5:=qcZ init { last with ents:=last.ents ++ [e] };have h6:=qcZ init last;show qlM (init ++ [{ last with ents:=last.ents ++ [e] }])+l2.length<=1500;simp at h5 h6 hlen htot ⊢;omega
     ·rintro pv h1 s' ⟨⟨hno,rfl,rfl⟩,rfl⟩
      refine⟨qhV _ _ _,?_⟩;rw[show qds (rdL near (some (init,last))) w=none from hno]at hl;have h0:=h6 hl;subst h0;conv=>whnf
      exact qeC (i:=900001) (n:=init.length+1) (near:=near) rfl rfl ⟨rfl,rfl,trivial⟩
  ·rw[ht,if_neg (by simp)]at hl
   have h0:=h6 hl;subst h0
   cases o with
   | none=>
    conv=>whnf
    exact qeC (i:=900001) (n:=0) (near:=near) rfl rfl ⟨rfl,rfl,trivial⟩
   | some x=>
    obtain⟨init,last⟩:=x;conv=>whnf
    exact qeC (i:=900001) (n:=init.length+1) (near:=near) rfl rfl ⟨rfl,rfl,trivial⟩
 ·have hle:l = []:=by
   by_cases h:l = []
   ·exact h
   ·exact absurd hb (by simp[h])
  subst hle;have hl:qaJ l0=some (rdL near o):=hl;obtain⟨h7a,h7b⟩:=h7 _ hl
  cases o with
  | none=>
   have hlen2:(rdL near none).books.length<=1500:=by show 0<=1500;omega
   conv=>whnf
   obtain⟨cp,cq,ce,hcp⟩:∃ p q e,qak (rdL near none)=(p,q,e):=⟨_,_,_,rfl⟩;have hce:qA (rdL near none)=ce:=by show(qak _).2.2=ce;rw[hcp]
   refine qo (qdr (rdL near none) _ _ _ hcp) rfl 2 (qnn near rfl) ?_;conv=>whnf
   refine qg (fun hb1=>?_) (fun hb1=>?_)
   ·have hk:qA (rdL near none)=0:=by rw[hce];simpa using hb1
    conv=>whnf
    refine qo (qpO (rdL near none) (zV hk) (qiL hk)) rfl 2 (qnn near rfl) ?_;conv=>whnf
    refine jJ rfl (fun ht=>?_) (fun ht=>?_)
    ·rw[<- hsd]at ht
     have h0:=h7a ⟨hk,of_decide_eq_true ht⟩;subst h0;conv=>whnf
     refine⟨.inr rfl,rfl,rfl,.returning,_,rfl,fun {σ}=>qhQ _,?_⟩;conv=>whnf
     exact qb 2 (qka (qnn near rfl)) ⟨rfl,rfl,rfl⟩
    ·rw[<- hsd]at ht
     have h0:=h7b fun h=>absurd ht (by rw[decide_eq_true h.2];simp);subst h0;conv=>whnf
     exact qeC (i:=900001) (n:=0) (near:=near) rfl rfl ⟨rfl,rfl,trivial⟩
   ·have hk:qA (rdL near none)≠0:=by rw[hce];simpa using hb1
    have h0:=h7b fun h=>hk h.1;subst h0;conv=>whnf
    refine jJ rfl (fun h=>by cases h) (fun _=>?_);conv=>whnf
    exact qeC (i:=900001) (n:=0) (near:=near) rfl rfl ⟨rfl,rfl,trivial⟩
  | some x=>
   obtain⟨init,last⟩:=x;have hlen2:(rdL near (some (init,last))).books.length<=1500:=by
    have htot:qlM (init ++ [last])+0<=1500:=hlen;have htl:=qcZ init last;show(init ++ [last]).length<=1500;simp;omega
   conv=>whnf
   obtain⟨cp,cq,ce,hcp⟩:∃ p q e,qak (rdL near (some (init,last)))=(p,q,e):=⟨_,_,_,rfl⟩;have hce:qA (rdL near (some (init,last)))=ce:=by show(qak _).2.2=ce;rw[hcp]
   refine qo (qdr (rdL near (some (init,last))) _ _ _ hcp) rfl 2 (qno near init last rfl rfl) ?_;conv=>whnf
   refine qg (fun hb1=>?_) (fun hb1=>?_)
   ·have hk:qA (rdL near (some (init,last)))=0:=by rw[hce];simpa using hb1
    conv=>whnf
    refine qo (qpO (rdL near (some (init,last))) (zV hk) (qiL hk)) rfl 2 (qno near init last rfl rfl) ?_;conv=>whnf
    refine jJ rfl (fun ht=>?_) (fun ht=>?_)
    ·rw[<- hsd]at ht
     have h0:=h7a ⟨hk,of_decide_eq_true ht⟩;subst h0;conv=>whnf
     refine⟨.inr rfl,rfl,rfl,.returning,_,rfl,fun {σ}=>qhQ _,?_⟩;conv=>whnf
     exact qb 2 (qka (qno near init last rfl rfl)) ⟨rfl,rfl,rfl⟩
    ·rw[<- hsd]at ht
     have h0:=h7b fun h=>absurd ht (by rw[decide_eq_true h.2];simp);subst h0;conv=>whnf
     exact qeC (i:=900001) (n:=(init.length+1)) (near:=near) rfl rfl ⟨rfl,rfl,trivial⟩
   ·have hk:qA (rdL near (some (init,last)))≠0:=by rw[hce];simpa using hb1
    have h0:=h7b fun h=>hk h.1;subst h0;conv=>whnf
    refine jJ rfl (fun h=>by cases h) (fun _=>?_);conv=>whnf
    exact qeC (i:=900001) (n:=(init.length+1)) (near:=near) rfl rfl ⟨rfl,rfl,trivial⟩
theorem readX_cases(s:ByteArray):∃ r,(PX.relax r = .tup [(qjX s).1.d,i64 (qjX s).2]\/r = .tup [(qjX s).1.d,i64 (qjX s).2])/\(1500<s.size->r=qgR 3)/\(s.size<=1500->qaJ s.data.toList=none->r=qgR 6) /\
  (s.size<=1500 -> ∀ c,qaJ s.data.toList=some c->((qA c=0/\qmn c=s)->r = .tup [c.d,i64 0])/\(¬ (qA c=0/\qmn c=s)->r=qgR 6)):=by
 have hrx:qjX s=if 1500<s.size then (qoF,(3:Int)) else
  match qaJ s.data.toList with
  | some c=>if qA c=0/\qmn c=s then (c,0) else (qoF,6)
  | none=>(qoF,6):=rfl
 by_cases h3:1500<s.size
 ·rw[hrx,if_pos h3]
  exact⟨qgR 3,.inl rfl,fun _=>rfl,fun h=>absurd h (by omega),fun h=>absurd h (by omega)⟩
 rw[hrx,if_neg h3]
 cases hl:qaJ s.data.toList with
 | none=>exact⟨qgR 6,.inl rfl,fun h=>absurd h h3,fun _ _=>rfl,fun _ c h=>by cases h⟩
 | some c=>
  by_cases hk:qA c=0/\qmn c=s
  ·simp only[if_pos hk]
   refine⟨.tup [c.d,i64 0],.inr rfl,fun h=>absurd h h3,fun _ h=>?_,fun _ c' h=>?_⟩
   ·cases h
   ·cases h;exact⟨fun _=>rfl,fun h=>absurd hk h⟩
  ·simp only[if_neg hk]
   refine⟨qgR 6,.inl rfl,fun h=>absurd h h3,fun _ _=>rfl,fun _ c' h=>?_⟩
   cases h;exact⟨fun h=>absurd h hk,fun _=>rfl⟩
theorem pa41(s:ByteArray):FnV Tryz.prog 41 [.str s] (.tup [(qjX s).1.d,i64 (qjX s).2]):=by
 obtain⟨r,hr,h3,h6,h7⟩:=readX_cases s
 rcases hr with hr | rfl
 ·exact FnV.relax (fun {σ}=>qpj s r h3 h6 h7) hr
 ·exact qpj s _ h3 h6 h7
end Go.PX
namespace Go.PX
open Go.Proofs
theorem pa85(l:PLog)(hR:LogR l)(w:Int)(hw:0<=w/\w<=1048576):FnV Tryz.prog 85 [i64 w,.ref l.cells] (.bool (qbB l w [])):=by
 refine qC mixed qh Tryz.func85 rfl (ft:=ft85) 2 (by decide +kernel) (by rfl) fun {σ} Y st=>?_;conv=>whnf
 refine qdp ?_;refine qe (qqh l hR w hw [] (by simp)) rfl rfl ?_;conv=>whnf
 refine qe (qnE) rfl rfl ?_;conv=>whnf
 obtain⟨m,hm⟩:=qnK l hR w hw [];refine qe (hm) rfl rfl ?_;conv=>whnf
 exact qb 0 rfl ⟨⟨rfl,rfl⟩,rfl⟩
theorem qcw(does:Int->Bool):∀ (k j:Nat) {lo hi:Int},hi-lo<=2^k->hi-lo<=2^j->qaF does k lo hi=qaF does j lo hi
 | 0,0,_,_,_,_=>rfl
 | 0,j+1,lo,hi,h1,_=>by
  rw[qaF,qaF,if_neg (by simp at h1;omega)]
 | k+1,0,lo,hi,_,h2=>by
  rw[qaF,qaF,if_neg (by simp at h2;omega)]
 | k+1,j+1,lo,hi,h1,h2=>by
  have e1:(2:Int)^(k+1)=2^k*2:=Int.pow_succ 2 k;have e2:(2:Int)^(j+1)=2^j*2:=Int.pow_succ 2 j;rw[qaF,qaF]
  split
  ·split
   ·exact qcw does k j (by omega) (by omega)
   ·exact qcw does k j (by omega) (by omega)
  ·rfl
theorem pa84(g:FuncId)(caps:List D)(does:Int->Bool)(hg:∀ n,0<=n->n<=1048576->FnV Tryz.prog g (i64 n::caps) (.bool (does n))) :
  FnV Tryz.prog 84 [i64 1048576,.clo g caps] (.tup [i64 (if does 1048576=true then qaF does 40 (-1) 1048576 else 0),.bool (does 1048576)]):=by
 refine qC mixed qh Tryz.func84 rfl (ft:=ft84) 2 (by decide +kernel) (by rfl) fun {σ} Y st=>?_;conv=>whnf
 refine qe (hg 1048576 (by omega) (by omega)) rfl rfl ?_
 cases h0:does 1048576 with
 | false=>
  simp only[Bool.false_eq_true,if_false];conv=>whnf
  exact qb 0 rfl ⟨⟨rfl,rfl⟩,rfl⟩
 | true=>
  simp only[if_true];conv=>whnf
  generalize hRES:qaF does 40 (-1) 1048576=RES;refine zy (T:=tys) qh (by exact qd mixed qh (by decide +kernel)) (α:=Int×Int) (fun z=>⟨[(0,.d (i64 1048576)),(1,.d (.clo g caps)),(6,.d (i64 z.1)),(7,.d (i64 z.2))],[],st⟩) (fun z=>-1<=z.1/\z.1<z.2/\z.2<=1048576/\qaF does 40 z.1 z.2=RES) (fun z=>(z.2-z.1).toNat) (-1,1048576) (Wk.sub (by repeat' first|exact trivial|refine⟨?_,?_⟩|rfl|(simp only[List.length_map];rfl)|simp[PX.get]) trivial) ⟨by simp,by simp,by simp,hRES⟩ ?_;rintro ⟨lo,hi⟩ ⟨h1,h2,h3,h4⟩;simp only at h1 h2 h3 h4;conv=>whnf
  refine qc (qa (by(try dsimp only);omega)) ?_;conv=>whnf
  have h239:qaF does 40 lo hi=if hi-lo>1 then (if does ((lo+hi)/2) then qaF does 39 lo ((lo+hi)/2) else qaF does 39 ((lo+hi)/2) hi) else hi:=rfl
  rw[h239]at h4;have hp:(2:Int)^39=549755813888:=by decide
  have hp':(2:Int)^40=1099511627776:=by decide
  refine qg (fun h5=>?_) (fun h5=>?_)
  ·have h5:hi-lo>1:=of_decide_eq_true h5
   rw[if_pos h5]at h4;conv=>whnf
   refine qc (qa (by(try dsimp only);omega)) ?_;conv=>whnf
   refine qj ((lo+hi)/2) (by show(lo+hi).tdiv 2=(lo+hi)/2;exact Int.tdiv_eq_ediv_of_nonneg (by omega)) (qa (by omega)) ?_;generalize hM:(lo+hi)/2=M at h4 ⊢;have hM1:lo<M/\M<hi:=by omega
   conv=>whnf
   refine qe (hg M (by omega) (by omega)) rfl rfl ?_;conv=>whnf
   cases hd:does M with
   | true=>
    rw[hd]at h4;simp only[if_true]at h4;conv=>whnf
    exact⟨(lo,M),by simp only;omega,⟨by simp only;omega,by simp only;omega,by simp only;omega,by simp only;rw[<- h4];exact qcw does 40 39 (by omega) (by omega)⟩,(Wk.sub (by repeat' first|exact trivial|refine⟨?_,?_⟩|rfl|(simp only[List.length_map];rfl)|simp[PX.get]) trivial)⟩
   | false=>
    rw[hd]at h4;simp only[Bool.false_eq_true,if_false]at h4;conv=>whnf
    exact⟨(M,hi),by simp only;omega,⟨by simp only;omega,by simp only;omega,by simp only;omega,by simp only;rw[<- h4];exact qcw does 40 39 (by omega) (by omega)⟩,(Wk.sub (by repeat' first|exact trivial|refine⟨?_,?_⟩|rfl|(simp only[List.length_map];rfl)|simp[PX.get]) trivial)⟩
  ·have h5:¬ hi-lo>1:=of_decide_eq_false h5
   rw[if_neg h5]at h4;subst h4;conv=>whnf
   exact qb 0 rfl ⟨⟨rfl,rfl⟩,rfl⟩
theorem qql(l:PLog):FnV Tryz.prog 32 [l.d] (.tup [i64 (qng l).1,i64 (qng l).2]):=by
 unfold qng;refine qC mixed qh Tryz.func32 rfl (ft:=ft32) 1 (by decide +kernel) (by rfl) fun {σ} Y st=>?_;conv=>whnf
 by_cases hc:qA l=0
 ·rw[if_pos hc]
  have hR:=zV hc;refine qe (qdr l 0 0 0 (qbq hc)) rfl rfl ?_;conv=>whnf
  refine qo (ds:=[i64 1048576,.clo 85 [.ref l.cells]]) (pa84 85 [.ref l.cells] (fun w=>qbB l w []) fun w h0 h1=>pa85 l hR w ⟨h0,h1⟩) rfl 1 rfl ?_
  cases hf:qbB l 1048576 []with
  | false=>
   simp only[Bool.false_eq_true,if_false];conv=>whnf
   exact qb 0 rfl ⟨⟨rfl,rfl⟩,rfl⟩
  | true=>
   simp only[if_true];conv=>whnf
   exact qb 0 rfl ⟨⟨rfl,rfl⟩,rfl⟩
 ·rw[if_neg hc]
  refine qe (qdr l _ _ _ (qbs l)) rfl rfl ?_;conv=>whnf
  generalize qA l=E at hc;refine qg (fun _=>?_) (fun h=>absurd hc (by simpa using h));conv=>whnf
  exact qb 0 rfl ⟨⟨rfl,rfl⟩,rfl⟩
end Go.PX
namespace Go.PX
open Go.Proofs
def zd(l:PLog):List Int:=((List.range' 1 99).map fun(n:Nat)=>(n:Int)).filter fun n=>l.books.any fun b=>(zH b.ents n 0).isSome
def qca(used:List Int):Nat->Int->Int
 | 0,n=>n
 | k+1,n=>if 0<n/\n∈used then qca used k (n-1) else n
def qbt(used nums:List Int):List PEnt->Int->Option (List PEnt×Int)
 | [],n=>some ([],n)
 | y::r,n=>
  if y.kind=3/\y.number∈nums then
   if qca used 100 n<1 then none else (qbt used nums r (qca used 100 n-1)).map fun z=>({ y with number:=qca used 100 n }::z.1,z.2)
  else (qbt used nums r n).map fun z=>(y::z.1,z.2)
def qcb(used nums:List Int):List PBook->Int->Option (List PBook×Int)
 | [],n=>some ([],n)
 | b::r,n=>match qbt used nums b.ents n with
  | some z=>(qcb used nums r z.2).map fun u=>({ b with ents:=z.1 }::u.1,u.2)
  | none=>none
def qaP(l:PLog)(nums:List Int):PLog×Bool:=match qcb (zd l) nums l.books 99 with
 | some z=>({ l with books:=z.1 },true)
 | none=>(l,false)
def above(used:List Int)(n:Int):Nat:=(used.filter fun u=>decide (n<u)).length
theorem qhW{used:List Int}(hs:used.Pairwise (· < ·))(n:Int):above used (n-1)=above used n+if n∈used then 1 else 0:=by
 induction used with
 | nil=>simp[above]
 | cons u r ih=>
  obtain⟨h1,h2⟩:=List.pairwise_cons.1 hs;have ih:=ih h2;unfold above at ih ⊢;rw[List.filter_cons,List.filter_cons]
  by_cases hu:n=u
  ·subst hu
   have hr:n∉r:=fun h=>by have:=h1 n h;omega
   rw[if_neg hr]at ih;rw[if_pos (decide_eq_true (by omega)),if_neg (by simp),if_pos (by simp),List.length_cons,ih]
  ·have e:(n∈u::r)=(n∈r):=by simp[hu]
   by_cases hlt:n<u
   ·rw[if_pos (by simp;omega),if_pos (by simpa using hlt),List.length_cons,List.length_cons,ih]
    simp only[List.mem_cons,hu,false_or];omega
   ·rw[if_neg (by simp;omega),if_neg (by simpa using hlt),ih]
    simp only[List.mem_cons,hu,false_or]
theorem qiP{used:List Int}(hs:used.Pairwise (· < ·)):∀ (k:Nat) {n:Int},n<k->qca used k n<=n/\(0<=n->0<=qca used k n)/\(1<=qca used k n->qca used k n∉used)/\n-qca used k n=above used (qca used k n)-above used n
 | 0,n,hn=>by
  rw[qca];exact⟨Int.le_refl _,fun h=>h,fun h=>by omega,by omega⟩
 | k+1,n,hn=>by
  rw[qca]
  split
  ·rename_i h
   obtain⟨h1,h2,h3,h4⟩:=qiP hs k (n:=n-1) (by omega);have h5:=qhW hs n;rw[if_pos h.2]at h5;exact⟨by omega,fun h0=>h2 (by omega),h3,by omega⟩
  ·rename_i h
   exact⟨Int.le_refl _,fun h=>h,fun h1 h2=>h ⟨by omega,h2⟩,by omega⟩
inductive RenL(used nums:List Int):List PEnt->List PEnt->Int->Int->Prop
 | nil (n:Int):RenL used nums [] [] n n
 | keep {y:PEnt} {r z:List PEnt} {n m:Int} (hy:¬ (y.kind=3/\y.number∈nums)) (h:RenL used nums r z n m):RenL used nums (y::r) (y::z) n m
 | new {y:PEnt} {r z:List PEnt} {n k m:Int} (hy:y.kind=3/\y.number∈nums) (hk:k<=n) (h1:1<=k) (hu:k∉used) (h:RenL used nums r z (k-1) m):RenL used nums (y::r) ({ y with number:=k }::z) n m
theorem qfE{used nums:List Int}(hs:used.Pairwise (· < ·)):∀ {r:List PEnt} {n:Int} {z:List PEnt} {m:Int},n<=99->qbt used nums r n=some (z,m)->RenL used nums r z n m
 | [],n,z,m,_,h=>by cases h;exact .nil n
 | y::r,n,z,m,hn,h=>by
  rw[qbt]at h
  split at h
  ·rename_i h1
   obtain⟨h2,h3,h4,h5⟩:=qiP hs 100 (n:=n) (by omega)
   split at h
   ·cases h
   ·rename_i h6
    cases h7:qbt used nums r (qca used 100 n-1) with
    | none=>rw[h7]at h;cases h
    | some u=>
     rw[h7]at h
     cases h
     exact .new h1 h2 (by omega) (h4 (by omega)) (qfE hs (by omega) h7)
  ·rename_i h1
   cases h7:qbt used nums r n with
   | none=>rw[h7]at h;cases h
   | some u=>
    rw[h7]at h
    cases h
    exact .keep h1 (qfE hs hn h7)
theorem RenL.le{used nums:List Int}{r z:List PEnt}{n m:Int}(h:RenL used nums r z n m):m<=n:=by
 induction h with
 | nil=>omega
 | keep _ _ ih=>exact ih
 | new _ _ _ _ _ ih=>omega
theorem RenL.len{used nums:List Int}{r z:List PEnt}{n m:Int}(h:RenL used nums r z n m):z.length=r.length:=by
 induction h with
 | nil=>rfl
 | keep _ _ ih=>simp[ih]
 | new _ _ _ _ _ ih=>simp[ih]
theorem RenL.get{used nums:List Int}{r z:List PEnt}{n m:Int}(h:RenL used nums r z n m):∀ {k:Nat} {y:PEnt},r[k]?=some y -> ∃ u,z[k]?=some u/\u.shown=y.shown/\u.kind=y.kind/\u.word=y.word/\(¬ (y.kind=3/\y.number∈nums)->u=y)/\(y.kind=3/\y.number∈nums->m<u.number/\u.number<=n/\1<=u.number/\u.number∉used):=by
 induction h with
 | nil=>intro k y h;simp at h
 | @keep y r z n m hy h ih=>
  intro k x hx
  cases k with
  | zero=>
   rw[List.getElem?_cons_zero]at hx
   cases hx
   exact⟨y,rfl,rfl,rfl,rfl,fun _=>rfl,fun h=>absurd h hy⟩
  | succ k=>
   rw[List.getElem?_cons_succ]at hx;rw[List.getElem?_cons_succ];exact ih hx
 | @new y r z n k m hy hk h1 hu h ih=>
  intro j x hx
  cases j with
  | zero=>
   rw[List.getElem?_cons_zero]at hx
   cases hx
   have:=h.le;exact⟨_,rfl,rfl,rfl,rfl,fun h=>absurd hy h,fun _=>⟨by simp only;omega,hk,h1,hu⟩⟩
  | succ j=>
   rw[List.getElem?_cons_succ]at hx;rw[List.getElem?_cons_succ];obtain⟨u,h2,h3,h4,h5,h6,h7⟩:=ih hx;exact⟨u,h2,h3,h4,h5,h6,fun h=>by have:=h7 h;exact⟨this.1,by omega,this.2.2.1,this.2.2.2⟩⟩
theorem RenL.one{used nums:List Int}{r z:List PEnt}{n m:Int}(h:RenL used nums r z n m):∀ {i j:Nat} {x y u v:PEnt},r[i]?=some x->r[j]?=some y->z[i]?=some u->z[j]?=some v->(x.kind=3/\x.number∈nums)->(y.kind=3/\y.number∈nums)->u.number=v.number->i=j:=by
 induction h with
 | nil=>intro i j x y u v h;simp at h
 | @keep y0 r z n m hy h ih=>
  intro i j x y u v hx hy' hu hv h1 h2 he
  cases i with
  | zero=>rw[List.getElem?_cons_zero]at hx;cases hx;exact absurd h1 hy
  | succ i=>
   cases j with
   | zero=>rw[List.getElem?_cons_zero]at hy';cases hy';exact absurd h2 hy
   | succ j=>
    rw[List.getElem?_cons_succ]at hx hy' hu hv;rw[ih hx hy' hu hv h1 h2 he]
 | @new y0 r z n k m hy hk hk1 hku h ih=>
  intro i j x y u v hx hy' hu hv h1 h2 he
  cases i with
  | zero=>
   cases j with
   | zero=>rfl
   | succ j=>
    rw[List.getElem?_cons_zero]at hu;rw[List.getElem?_cons_succ]at hy' hv
    cases hu
    obtain⟨w,h3,_,_,_,_,h4⟩:=h.get hy';rw[hv]at h3
    cases h3
    have:=(h4 h2).2.1;simp only at he;omega
  | succ i=>
   rw[List.getElem?_cons_succ]at hx hu
   cases j with
   | zero=>
    rw[List.getElem?_cons_zero]at hv
    cases hv
    obtain⟨w,h3,_,_,_,_,h4⟩:=h.get hx;rw[hu]at h3
    cases h3
    have:=(h4 h1).2.1;simp only at he;omega
   | succ j=>
    rw[List.getElem?_cons_succ]at hy' hv;rw[ih hx hy' hu hv h1 h2 he]
inductive RenBs(used nums:List Int):List PBook->List PBook->Int->Int->Prop
 | nil (n:Int):RenBs used nums [] [] n n
 | cons {b:PBook} {r z:List PBook} {e:List PEnt} {n k m:Int} (he:RenL used nums b.ents e n k) (h:RenBs used nums r z k m):RenBs used nums (b::r) ({ b with ents:=e }::z) n m
theorem qlN{used nums:List Int}(hs:used.Pairwise (· < ·)):∀ {r:List PBook} {n:Int} {z:List PBook} {m:Int},n<=99->qcb used nums r n=some (z,m)->RenBs used nums r z n m
 | [],n,z,m,_,h=>by cases h;exact .nil n
 | b::r,n,z,m,hn,h=>by
  rw[qcb]at h
  cases h1:qbt used nums b.ents n with
  | none=>rw[h1]at h;cases h
  | some u=>
   rw[h1]at h;simp only at h;have h2:=qfE hs hn h1
   cases h7:qcb used nums r u.2 with
   | none=>rw[h7]at h;cases h
   | some v=>
    rw[h7]at h
    cases h
    exact .cons h2 (qlN hs (by have:=h2.le;omega) h7)
theorem RenBs.le{used nums:List Int}{r z:List PBook}{n m:Int}(h:RenBs used nums r z n m):m<=n:=by
 induction h with
 | nil=>omega
 | cons he _ ih=>have:=he.le;omega
theorem RenBs.get{used nums:List Int}{r z:List PBook}{n m:Int}(h:RenBs used nums r z n m):∀ {i:Nat} {b:PBook},r[i]?=some b -> ∃ e n' m',z[i]?=some { b with ents:=e }/\RenL used nums b.ents e n' m'/\n'<=n/\m<=m':=by
 induction h with
 | nil=>intro i b h;simp at h
 | @cons c r z e n k m he h ih=>
  intro i b hb
  cases i with
  | zero=>
   rw[List.getElem?_cons_zero]at hb
   cases hb
   exact⟨e,n,k,rfl,he,Int.le_refl _,h.le⟩
  | succ i=>
   rw[List.getElem?_cons_succ]at hb;obtain⟨e',n',m',h1,h2,h3,h4⟩:=ih hb;refine⟨e',n',m',?_,h2,?_,h4⟩
   ·rw[List.getElem?_cons_succ];exact h1
   ·have:=he.le;omega
theorem RenBs.len{used nums:List Int}{r z:List PBook}{n m:Int}(h:RenBs used nums r z n m):z.length=r.length:=by
 induction h with
 | nil=>rfl
 | cons _ _ ih=>simp[ih]
theorem RenBs.one{used nums:List Int}{r z:List PBook}{n m:Int}(h:RenBs used nums r z n m):∀ {i j a c:Nat} {b d b' d':PBook} {x y u v:PEnt},r[i]?=some b->r[j]?=some d->z[i]?=some b'->z[j]?=some d'->b.ents[a]?=some x->d.ents[c]?=some y->b'.ents[a]?=some u->d'.ents[c]?=some v ->
  (x.kind=3/\x.number∈nums)->(y.kind=3/\y.number∈nums)->u.number=v.number->i=j/\a=c:=by
 induction h with
 | nil=>intro i j a c b d b' d' x y u v h;simp at h
 | @cons b0 r z e n k m he h ih=>
  intro i j a c b d b' d' x y u v hb hd hb' hd' hx hy hu hv h1 h2 heq
  cases i with
  | zero=>
   rw[List.getElem?_cons_zero]at hb hb'
   cases hb;cases hb'
   cases j with
   | zero=>
    rw[List.getElem?_cons_zero]at hd hd'
    cases hd;cases hd'
    exact⟨rfl,he.one hx hy hu hv h1 h2 heq⟩
   | succ j=>
    rw[List.getElem?_cons_succ]at hd hd';obtain⟨e',n',m',h3,h4,h5,h6⟩:=h.get hd;rw[hd']at h3
    cases h3
    obtain⟨w,h7,_,_,_,_,h8⟩:=h4.get hy;simp only at hv;rw[hv]at h7
    cases h7
    obtain⟨w2,h9,_,_,_,_,h10⟩:=he.get hx;simp only at hu;rw[hu]at h9
    cases h9
    have:=h8 h2;have:=h10 h1;omega
  | succ i=>
   rw[List.getElem?_cons_succ]at hb hb'
   cases j with
   | zero=>
    rw[List.getElem?_cons_zero]at hd hd'
    cases hd;cases hd'
    obtain⟨e',n',m',h3,h4,h5,h6⟩:=h.get hb;rw[hb']at h3
    cases h3
    obtain⟨w,h7,_,_,_,_,h8⟩:=h4.get hx;simp only at hu;rw[hu]at h7
    cases h7
    obtain⟨w2,h9,_,_,_,_,h10⟩:=he.get hy;simp only at hv;rw[hv]at h9
    cases h9
    have:=h8 h1;have:=h10 h2;omega
   | succ j=>
    rw[List.getElem?_cons_succ]at hd hd';obtain⟨h3,h4⟩:=ih hb hd hb' hd' hx hy hu hv h1 h2 heq;exact⟨by rw[h3],h4⟩
end Go.PX
namespace Go.PX
open Go.Proofs
theorem RenL.per{used nums:List Int}{r z:List PEnt}{n m:Int}(h:RenL used nums r z n m):∀ k,jm (z.take k)=jm (r.take k):=by
 induction h with
 | nil=>intro k;rfl
 | keep _ _ ih=>
  intro k
  cases k with
  | zero=>rfl
  | succ k=>rw[List.take_succ_cons,List.take_succ_cons,qaZ,qaZ,ih]
 | new _ _ _ _ _ ih=>
  intro k
  cases k with
  | zero=>rfl
  | succ k=>rw[List.take_succ_cons,List.take_succ_cons,qaZ,qaZ,ih]
structure RenX(l x:PLog)(nums:List Int):Prop where
 ok:qA l=0
 rel:∃ m,RenBs (zd l) nums l.books x.books 99 m
theorem mem_numbers{l:PLog}{n:Int}:n∈zd l↔(1<=n/\n<=99) /\ ∃ (i k:Nat) (b:PBook) (y:PEnt),At l i k b y/\y.kind=3/\y.number=n:=by
 unfold zd;rw[List.mem_filter,List.mem_map,List.any_eq_true];constructor
 ·rintro ⟨⟨k,hk,rfl⟩,b,hb,hf⟩
  rw[List.mem_range'_1]at hk;refine⟨by omega,?_⟩;obtain⟨m,hm⟩:=Option.isSome_iff_exists.1 hf;obtain⟨y,_,hy,h1,h2,_⟩:=jD hm;obtain⟨i,hi⟩:=List.getElem?_of_mem hb;exact⟨i,m,b,y,⟨hi,hy⟩,h1,h2⟩
 ·rintro ⟨hn,i,k,b,y,hA,h1,h2⟩
  refine⟨⟨n.toNat,List.mem_range'_1.2 (by omega),by omega⟩,b,List.mem_of_getElem? hA.book,?_⟩;obtain⟨m,_,hm⟩:=qjH hA.ent h1 h2;rw[hm];rfl
theorem qiQ{l:PLog}(h:qA l=0){i k:Nat}{b:PBook}{y:PEnt}(hA:At l i k b y)(h3:y.kind=3):y.number∈zd l:=by
 have hE:=(qdo h (List.mem_of_getElem? hA.book)).2.2.2 y (List.mem_of_getElem? hA.ent);exact mem_numbers.2 ⟨⟨(hE.rep h3).2,hE.number.2⟩,i,k,b,y,hA,h3,rfl⟩
theorem qkb{l:PLog}(hc:qA l=0){nums:List Int}{i:Nat}{b:PBook}(hb:l.books[i]?=some b){e:List PEnt}{n m:Int}(h:RenL (zd l) nums b.ents e n m){num:Int}{k:Nat}(hn:num∉nums)(hf:zH b.ents num 0=some k):zH e num 0=some k:=by
 obtain⟨y,_,hy,h1,h2,h3⟩:=jD hf;rw[Nat.sub_zero]at hy h3;obtain⟨u,hu,h4,h5,h6,h7,h8⟩:=h.get hy;have huy:u=y:=h7 fun h=>hn (h2▸h.2);subst huy;have hus:num∈zd l:=h2▸qiQ hc ⟨hb,hy⟩ h1;have:=qes (k:=0) hu h1 h2 (fun j w hj hw hz=>?_)
 ·rw[this,Nat.zero_add]
 ·have hkl:=(List.getElem?_eq_some_iff.1 hy).1
  obtain⟨z,hz'⟩:∃ z,b.ents[j]?=some z:=⟨_,List.getElem?_eq_getElem (by omega)⟩;obtain⟨w',hw',_,_,_,h9,h10⟩:=h.get hz';rw[hw]at hw'
  cases hw'
  by_cases hr:z.kind=3/\z.number∈nums
  ·have:=(h10 hr).2.2.2
   rw[hz.2]at this;exact this hus
  ·have:=h9 hr
   subst this;exact h3 j w hj hz' hz
theorem qgS{l:PLog}{nums:List Int}{b:PBook}{e:List PEnt}{n m:Int}(h:RenL (zd l) nums b.ents e n m){num:Int}{k:Nat}(hf:zH e num 0=some k) :
  (∃ y u,b.ents[k]?=some y/\e[k]?=some u/\u.number=num/\(y.kind=3/\y.number∈nums)/\num∉zd l)\/(num∉nums/\zH b.ents num 0=some k /\ ∃ y,b.ents[k]?=some y/\e[k]?=some y/\y.kind=3/\y.number=num):=by
 obtain⟨u,_,hu,h1,h2,h3⟩:=jD hf;rw[Nat.sub_zero]at hu h3;have hkl:=(List.getElem?_eq_some_iff.1 hu).1;rw[h.len]at hkl;obtain⟨y,hy⟩:∃ y,b.ents[k]?=some y:=⟨_,List.getElem?_eq_getElem hkl⟩;obtain⟨w,hw,h4,h5,h6,h7,h8⟩:=h.get hy;rw[hu]at hw
 cases hw
 by_cases hr:y.kind=3/\y.number∈nums
 ·exact .inl ⟨y,u,hy,hu,h2,hr,h2▸(h8 hr).2.2.2⟩
 ·have:=h7 hr
  subst this;have hn:num∉nums:=fun h=>hr ⟨h1,h2▸h⟩;refine .inr ⟨hn,?_,u,hy,hu,h1,h2⟩;have:=qes (k:=0) hy h1 h2 (fun j z hj hz hzz=>?_)
  ·rw[this,Nat.zero_add]
  ·obtain⟨w',hw',_,_,_,h9,_⟩:=h.get hz
   have:w'=z:=h9 fun h=>hn (hzz.2▸h.2);subst this;exact h3 j w' hj hw' hzz
theorem qkc{l x:PLog}{nums:List Int}(hX:RenX l x nums){t:Per->Int}:TruthX x 0 [] t↔TruthX l 0 nums t:=by
 obtain⟨hc,M,hB⟩:=hX;have hper:∀ {b:PBook} {e:List PEnt} {n m:Int},RenL (zd l) nums b.ents e n m -> ∀ k,qN { b with ents:=e } k=qN b k:=fun h k=>h.per k;have hsets:∀ {b:PBook} {e:List PEnt} {n m:Int},RenL (zd l) nums b.ents e n m->jm e=jm b.ents:=fun {b e n m} h=>by
  have:=h.per e.length;rw[List.take_length,h.len,List.take_length]at this;exact this
 have back:∀ {i:Nat} {b':PBook},x.books[i]?=some b' -> ∃ b e n m,l.books[i]?=some b/\b'={ b with ents:=e }/\RenL (zd l) nums b.ents e n m:=fun {i b'} hb'=>by
  have hil:=(List.getElem?_eq_some_iff.1 hb').1;rw[hB.len]at hil;obtain⟨b,hb⟩:∃ b,l.books[i]?=some b:=⟨_,List.getElem?_eq_getElem hil⟩;obtain⟨e,n,m,h1,h2,_⟩:=hB.get hb;rw[hb']at h1;exact⟨b,e,n,m,hb,Option.some.inj h1,h2⟩
 have shown:∀ {b:PBook} {e:List PEnt} {n m:Int},RenL (zd l) nums b.ents e n m -> ∀ {k:Nat} {y u:PEnt},b.ents[k]?=some y->e[k]?=some u->u.shown=y.shown:=fun {b e n m} h {k y u} hy hu=>by
  obtain⟨w,hw,h1,_⟩:=h.get hy;rw[hu]at hw
  cases hw;exact h1
 constructor
 ·intro h
  refine⟨h.right,fun i b hb=>?_,fun i b n hb h1 h2=>?_,fun i k b y z hy hz=>?_,fun i j m n b c y z num hr=>?_⟩
  ·obtain⟨e,_,_,h1,h2,_⟩:=hB.get hb
   exact h.off i { b with ents:=e } h1
  ·obtain⟨e,_,_,h3,h4,_⟩:=hB.get hb
   exact h.set i { b with ents:=e } n h3 h1 (by show n<=jm e;rw[hsets h4];exact h2)
  ·obtain⟨e,_,_,h3,h4,_⟩:=hB.get hy.book
   obtain⟨u,hu,h5,_⟩:=h4.get hy.ent;obtain⟨v,hv,h6,_⟩:=h4.get hz.ent;have:=h.ord i k { b with ents:=e } u v ⟨h3,hu⟩ ⟨h3,hv⟩;rw[hper h4,hper h4,h5,h6]at this;exact this
  ·obtain⟨e,_,_,h3,h4,_⟩:=hB.get hr.ha.book
   obtain⟨f,_,_,h5,h6,_⟩:=hB.get hr.hb.book;obtain⟨u,hu,h7,_⟩:=h4.get hr.ha.ent;obtain⟨v,hv,h8,_⟩:=h6.get hr.hb.ent;have:=h.rep i j m n { b with ents:=e } { c with ents:=f } u v num ⟨⟨h3,hu⟩,⟨h5,hv⟩,qkb hc hr.ha.book h4 hr.no hr.fa,qkb hc hr.hb.book h6 hr.no hr.fb,by simp⟩;rw[hper h4,hper h6,h7,h8]at this;exact this
 ·intro h
  refine⟨h.right,fun i b' hb'=>?_,fun i b' n hb' h1 h2=>?_,fun i k b' u v hu hv=>?_,fun i j m n b' c' u v num hr=>?_⟩
  ·obtain⟨b,e,_,_,hb,rfl,h4⟩:=back hb'
   exact h.off i b hb
  ·obtain⟨b,e,_,_,hb,rfl,h4⟩:=back hb'
   exact h.set i b n hb h1 (by rw[<- hsets h4];exact h2)
  ·obtain⟨b,e,_,_,hb,rfl,h4⟩:=back hu.book
   have hul:=(List.getElem?_eq_some_iff.1 hu.ent).1;have hvl:=(List.getElem?_eq_some_iff.1 hv.ent).1;simp only at hul hvl;rw[h4.len]at hul hvl;obtain⟨y,hy⟩:∃ y,b.ents[k]?=some y:=⟨_,List.getElem?_eq_getElem hul⟩;obtain⟨z,hz⟩:∃ z,b.ents[k+1]?=some z:=⟨_,List.getElem?_eq_getElem hvl⟩;have:=h.ord i k b y z ⟨hb,hy⟩ ⟨hb,hz⟩;rw[hper h4,hper h4,shown h4 hy hu.ent,shown h4 hz hv.ent];exact this
  ·obtain⟨b,e,_,_,hb,rfl,h4⟩:=back hr.ha.book
   obtain⟨c,f,_,_,hcb,rfl,h6⟩:=back hr.hb.book;have hu:=hr.ha.ent;have hv:=hr.hb.ent;simp only at hu hv
   rcases qgS h4 hr.fa with⟨y,u',hy,hu',hun,hyn,hno⟩ | ⟨hno,hfl,y,hy,hu',hyk,hyn⟩
   ·rcases qgS h6 hr.fb with⟨z,v',hz,hv',hvn,hzn,_⟩ | ⟨_,_,z,hz,_,hzk,hzn⟩
    ·obtain⟨rfl,rfl⟩:=hB.one hb hcb hr.ha.book hr.hb.book hy hz hu' hv' hyn hzn (by rw[hun,hvn])
     rw[hcb]at hb
     cases hb
     have h7:=hr.ha.book;rw[hr.hb.book]at h7;have h7:=congrArg PBook.ents (Option.some.inj h7);simp only at h7;subst h7;rw[hv]at hu
     cases hu
     rfl
    ·exact absurd (hzn▸qiQ hc ⟨hcb,hz⟩ hzk) hno
   ·rcases qgS h6 hr.fb with⟨z,v',hz,hv',hvn,hzn,hno2⟩ | ⟨_,hfl2,z,hz,hv',hzk,hzn⟩
    ·exact absurd (hyn▸qiQ hc ⟨hb,hy⟩ hyk) hno2
    ·rw[hu]at hu'
     cases hu'
     rw[hv]at hv'
     cases hv'
     have:=h.rep i j m n b c u v num ⟨⟨hb,hy⟩,⟨hcb,hz⟩,hfl,hfl2,hno⟩;rw[hper h4,hper h6];exact this
theorem ren_fit{l x:PLog}{nums:List Int}(hX:RenX l x nums):qbB x 0 []=qbB l 0 nums:=by
 rw[Bool.eq_iff_iff,qiF,qiF];constructor
 ·rintro ⟨t,h⟩;exact⟨t,(qkc hX).1 h⟩
 ·rintro ⟨t,h⟩;exact⟨t,(qkc hX).2 h⟩
theorem above_le(used:List Int)(n:Int):above used n<=used.length:=List.length_filter_le _ _
theorem qgT{used nums:List Int}(hs:used.Pairwise (· < ·)):∀ (r:List PEnt) {n:Int},0<=n->n<=99->(r.length:Int)+used.length<=n+above used n -> ∃ z m,qbt used nums r n=some (z,m)/\0<=m/\m<=99/\n+above used n<=m+above used m+r.length
 | [],n,h0,h9,_=>⟨[],n,rfl,h0,h9,by simp⟩
 | y::r,n,h0,h9,hp=>by
  rw[qbt];rw[List.length_cons]at hp
  split
  ·obtain⟨h2,h3,h4,h5⟩:=qiP hs 100 (n:=n) (by omega)
   have h6:=above_le used (qca used 100 n);have h7:1<=qca used 100 n:=by omega
   have h8:=qhW hs (qca used 100 n);rw[if_neg (h4 h7)]at h8;rw[if_neg (by omega)];obtain⟨z,m,e,h10,h11,h12⟩:=qgT hs r (n:=qca used 100 n-1) (by omega) (by omega) (by omega);rw[e];exact⟨_,_,rfl,h10,h11,by rw[List.length_cons];simp only;omega⟩
  ·obtain⟨z,m,e,h10,h11,h12⟩:=qgT hs r h0 h9 (by omega)
   rw[e];exact⟨_,_,rfl,h10,h11,by rw[List.length_cons];simp only;omega⟩
def qcA(bs:List PBook):Nat:=(bs.map fun b=>b.ents.length).sum
theorem qkd{used nums:List Int}(hs:used.Pairwise (· < ·)):∀ (r:List PBook) {n:Int},0<=n->n<=99->(qcA r:Int)+used.length<=n+above used n -> ∃ z m,qcb used nums r n=some (z,m)
 | [],n,_,_,_=>⟨[],n,rfl⟩
 | b::r,n,h0,h9,hp=>by
  have ht:qcA (b::r)=b.ents.length+qcA r:=by unfold qcA;rw[List.map_cons,List.sum_cons]
  rw[ht]at hp;obtain⟨z,m,e,h1,h2,h3⟩:=qgT (nums:=nums) hs b.ents h0 h9 (by omega);obtain⟨u,v,e2⟩:=qkd (nums:=nums) hs r h1 h2 (by omega);rw[qcb,e];simp only;rw[e2];exact⟨_,_,rfl⟩
theorem filt_or{α:Type}(p q:α->Bool)(l:List α):(l.filter fun x=>p x||q x).length<=(l.filter p).length+(l.filter q).length:=by
 induction l with
 | nil=>simp
 | cons a r ih=>
  rw[List.filter_cons,List.filter_cons,List.filter_cons]
  cases p a<;>cases q a<;>simp<;>omega
theorem qke{α:Type}{p q:α->Bool}:∀ {l:List α},(∀ x∈l,p x=true->q x=true)->(l.filter p).length<=(l.filter q).length
 | [],_=>Nat.le_refl _
 | a::r,h=>by
  have ih:=qke (l:=r) fun x hx=>h x (List.mem_cons_of_mem _ hx);rw[List.filter_cons,List.filter_cons]
  cases hp:p a with
  | true=>
   rw[if_pos rfl,if_pos (h a (List.mem_cons_self ..) hp),List.length_cons,List.length_cons];omega
  | false=>
   rw[if_neg (by simp)]
   split
   ·rw[List.length_cons];omega
   ·exact ih
theorem filt_one{l:List Int}(hs:l.Pairwise (· < ·))(a:Int):(l.filter fun n=>decide (a=n)).length<=1:=by
 induction l with
 | nil=>simp
 | cons b r ih=>
  obtain⟨h1,h2⟩:=List.pairwise_cons.1 hs;rw[List.filter_cons]
  by_cases h:a=b
  ·subst h
   have:(r.filter fun n=>decide (a=n)) = []:=List.filter_eq_nil_iff.2 fun x hx=>by have:=h1 x hx;simp;omega
   rw[if_pos (by simp),this];simp
  ·rw[if_neg (by simpa using h)];exact ih h2
theorem qiR{α:Type}(f:α->Int){l:List Int}(hs:l.Pairwise (· < ·)):∀ (E:List α),(l.filter fun n=>E.any fun y=>decide (f y=n)).length<=E.length
 | []=>by simp
 | a::E=>by
  have h1:=filt_or (fun n=>decide (f a=n)) (fun n=>E.any fun y=>decide (f y=n)) l;have h2:=filt_one hs (f a);have h3:=qiR f hs E;simp only[List.any_cons,List.length_cons]at h1 ⊢;omega
theorem qda:∀ (n s:Nat),((List.range' s n).map fun(n:Nat)=>(n:Int)).Pairwise (· < ·):=by
 intro n
 induction n with
 | zero=>intro s;simp
 | succ n ih=>
  intro s;rw[List.range'_succ,List.map_cons,List.pairwise_cons];refine⟨fun x hx=>?_,ih (s+1)⟩;obtain⟨k,hk,rfl⟩:=List.mem_map.1 hx;rw[List.mem_range'_1]at hk;omega
theorem qbI(l:PLog):(zd l).Pairwise (· < ·):=List.Pairwise.sublist List.filter_sublist (qda 99 1)
theorem qlO:∀ (bs:List PBook),(bs.flatMap PBook.ents).length=qcA bs
 | []=>rfl
 | b::r=>by
  rw[List.flatMap_cons,List.length_append,qlO r];unfold qcA;rw[List.map_cons,List.sum_cons]
theorem qdT(l:PLog):(zd l).length<=qcA l.books:=by
 have h:=qiR PEnt.number (qda 99 1) (l.books.flatMap PBook.ents);rw[qlO]at h;refine Nat.le_trans ?_ h;unfold zd;refine qke (fun n _ hn=>?_);rw[List.any_eq_true]at hn ⊢;obtain⟨b,hb,hf⟩:=hn;obtain⟨m,hm⟩:=Option.isSome_iff_exists.1 hf;obtain⟨y,_,hy,h1,h2,_⟩:=jD hm;exact⟨y,List.mem_flatMap.2 ⟨b,hb,List.mem_of_getElem? hy⟩,decide_eq_true h2⟩
theorem qiS{l:PLog}(h:qA l=0):qcA l.books<=24:=by
 have hR:=zV h;have key:∀ bs:List PBook,(∀ b∈bs,b.ents.length<=8)->qcA bs<=8*bs.length:=by
  intro bs
  induction bs with
  | nil=>intro _;exact Nat.le_refl _
  | cons b r ih=>
   intro h;have:=ih fun c hc=>h c (List.mem_cons_of_mem _ hc);have h2:=h b (List.mem_cons_self ..);have:qcA (b::r)=b.ents.length+qcA r:=by unfold qcA;rw[List.map_cons,List.sum_cons]
   rw[List.length_cons];omega
 have:=key l.books fun b hb=>(hR.book b hb).ents;have:=hR.books;omega
theorem qnp{l:PLog}(h:qA l=0)(nums:List Int):(qaP l nums).2=true/\RenX l (qaP l nums).1 nums:=by
 have h1:=qiS h;have h2:=qdT l;obtain⟨z,m,e⟩:=qkd (nums:=nums) (qbI l) l.books (n:=99) (by omega) (by omega) (by omega);have e2:qaP l nums=({ l with books:=z },true):=by unfold qaP;rw[e]
 rw[e2];exact⟨rfl,h,m,qlN (qbI l) (by omega) e⟩
theorem ren_check{l:PLog}(h:qA l=0)(nums:List Int):qA (qaP l nums).1=0:=by
 obtain⟨_,_,m,hB⟩:=qnp h nums;have hn:(qaP l nums).1.near=l.near:=by unfold qaP;split<;>rfl
 refine check_of h hn ?_ fun b' hb'=>?_
 ·have:∀ {used nums:List Int} {r z:List PBook} {n m:Int},RenBs used nums r z n m->z.map PBook.name=r.map PBook.name:=fun h=>by
   induction h with
   | nil=>rfl
   | cons _ _ ih=>rw[List.map_cons,List.map_cons,ih]
  exact this hB
 ·obtain⟨i,hi⟩:=List.getElem?_of_mem hb'
  have hil:=(List.getElem?_eq_some_iff.1 hi).1;rw[hB.len]at hil;obtain⟨b,hb⟩:∃ b,l.books[i]?=some b:=⟨_,List.getElem?_eq_getElem hil⟩;obtain⟨e,n,k,h1,h2,h3,h4⟩:=hB.get hb;rw[hi]at h1
  cases h1
  obtain⟨h5,h6,h7,h8⟩:=qdo h (List.mem_of_getElem? hb);refine⟨h5,h6,by simp only;rw[h2.len];exact h7,fun x hx=>?_⟩;obtain⟨j,hj⟩:=List.getElem?_of_mem hx;have hjl:=(List.getElem?_eq_some_iff.1 hj).1;simp only at hjl;rw[h2.len]at hjl;obtain⟨y,hy⟩:∃ y,b.ents[j]?=some y:=⟨_,List.getElem?_eq_getElem hjl⟩;obtain⟨u,hu,g1,g2,g3,g4,g5⟩:=h2.get hy;simp only at hj;rw[hj]at hu
  cases hu
  have hE:=h8 y (List.mem_of_getElem? hy)
  by_cases hr:y.kind=3/\y.number∈nums
  ·have:=g5 hr
   exact⟨by rw[g1];exact hE.shown,by rw[g2];exact hE.kind,by omega,fun hk=>by rw[g2]at hk;omega,fun hk=>by rw[g2]at hk;omega,fun hk=>⟨by rw[g3];exact(hE.rep hr.1).1,by omega⟩⟩
  ·rw[g4 hr];exact hE
theorem qgU{of:List Int}:∀ {n:Nat} {p:List Int} {start:Nat} {q:List Int},q∈qap of n p start -> ∃ s,q=p++s/\s.Sublist (of.drop start)/\s.length=n
 | 0,p,start,q,h=>by
  rw[qap,List.mem_singleton]at h;exact⟨[],by rw[h,List.append_nil],List.nil_sublist _,rfl⟩
 | n+1,p,start,q,h=>by
  rw[qap,List.mem_flatMap]at h;obtain⟨i,hi,h⟩:=h;rw[List.mem_range'_1]at hi;obtain⟨s,rfl,h2,h3⟩:=qgU h;have hil:i<of.length:=by omega
  refine⟨of[i]::s,by rw[List.getElem?_eq_getElem hil];simp,?_,by rw[List.length_cons,h3]⟩;have e:of.drop i=of[i]::of.drop (i+1):=List.drop_eq_getElem_cons hil;have h4:(of[i]::s).Sublist (of.drop i):=by rw[e];exact h2.cons₂ _
  refine h4.trans ?_;rw[show i=start+(i-start) by omega,<- List.drop_drop];exact List.drop_sublist _ _
theorem qkf{of:List Int}(q:Int->Bool):∀ {n:Nat} {p:List Int} {start:Nat},((of.drop start).filter q).length=n->start<=of.length->p++(of.drop start).filter q∈qap of n p start
 | 0,p,start,h,_=>by
  have:=List.length_eq_zero_iff.1 h;rw[this,List.append_nil,qap,List.mem_singleton]
 | n+1,p,start,h,hs=>by
  have key:∀ (m start:Nat),of.length-start=m->start<=of.length->((of.drop start).filter q).length=n+1 -> ∃ i,start<=i /\ ∃ hi:i<of.length,(of.drop start).filter q=of[i]::(of.drop (i+1)).filter q:=by
   intro m
   induction m with
   | zero=>
    intro start hm hs h;rw[List.drop_eq_nil_of_le (by omega)]at h;simp at h
   | succ m ih=>
    intro start hm hs h;have hlt:start<of.length:=by omega
    have e:=List.drop_eq_getElem_cons hlt;rw[e,List.filter_cons]at h ⊢
    by_cases hq:q of[start]=true
    ·rw[if_pos hq]at h ⊢
     exact⟨start,Nat.le_refl _,hlt,rfl⟩
    ·rw[if_neg hq]at h ⊢
     obtain⟨i,h1,h2,h3⟩:=ih (start+1) (by omega) (by omega) h;exact⟨i,by omega,h2,h3⟩
  obtain⟨i,h1,h2,h3⟩:=key _ start rfl hs h;rw[h3]at h ⊢;rw[List.length_cons]at h;have hl:((of.drop (i+1)).filter q).length<=(of.drop (i+1)).length:=List.length_filter_le _ _;rw[List.length_drop]at hl;rw[qap,List.mem_flatMap];refine⟨i,List.mem_range'_1.2 (by omega),?_⟩;have:=qkf (of:=of) q (n:=n) (p:=p ++ [of[i]]) (start:=i+1) (by omega) (by omega);rw[List.getElem?_eq_getElem h2];rw[List.append_assoc]at this;exact this
theorem qkg{of:List Int}{n:Nat}{q:List Int}(h:q∈qap of n [] 0):q.length=n:=by
 obtain⟨s,rfl,_,h3⟩:=qgU h;simpa using h3
theorem qhX{f:Nat->List (List Int)}(hf:∀ n q,q∈f n->q.length=n)(p:List Int->Bool):∀ (k s:Nat),(match ((List.range' s k).flatMap f).find? p with
  | some c=>∀ n o,o∈f n->s<=n->n<s+k->p o=true->c.length<=n
  | none=>∀ n o,o∈f n->s<=n->n<s+k->p o=false)
 | 0,s=>fun n o _ h1 h2=>by omega
 | k+1,s=>by
  rw[List.range'_succ,List.flatMap_cons,List.find?_append]
  cases h:(f s).find? p with
  | some c=>
   simp only[Option.some_or];intro n o ho h1 h2 hp;rw[hf s c (List.mem_of_find?_eq_some h)];exact h1
  | none=>
   simp only[Option.none_or];have ih:=qhX hf p k (s+1);have hno:∀ o,o∈f s->p o=false:=fun o ho=>by
    have:=List.find?_eq_none.1 h o ho;simpa using this
   cases h2:((List.range' (s+1) k).flatMap f).find? p with
   | some c=>
    rw[h2]at ih;intro n o ho h3 h4 hp
    rcases Nat.lt_or_ge s n with hlt | hge
    ·exact ih n o ho hlt (by omega) hp
    ·have:n=s:=by omega
     subst this;rw[hno o ho]at hp;cases hp
   | none=>
    rw[h2]at ih;intro n o ho h3 h4
    rcases Nat.lt_or_ge s n with hlt | hge
    ·exact ih n o ho hlt (by omega)
    ·have:n=s:=by omega
     subst this;exact hno o ho
theorem shared_mem{l:PLog}{i j m n:Nat}{b c:PBook}{x y:PEnt}{num:Int}(hR:LogR l)(hx:At l i m b x)(hy:At l j n c y)(hi:i≠j)(h1:x.kind=3/\x.number=num)(h2:y.kind=3/\y.number=num):num∈jg l:=by
 unfold jg;rw[List.mem_filter,List.mem_map];have hn:=((hR.book b (List.mem_of_getElem? hx.book)).ent x (List.mem_of_getElem? hx.ent)).2.2;rw[h1.2]at hn;refine⟨⟨num.toNat,List.mem_range'_1.2 (by omega),by omega⟩,decide_eq_true ?_⟩;have hb:∀ {b:PBook} {k:Nat} {x:PEnt},b.ents[k]?=some x->x.kind=3/\x.number=num->decide (0<qjN b num)=true:=fun {b k x} hx h=>decide_eq_true (by
  unfold qjN;exact List.length_pos_of_mem (List.mem_filter.2 ⟨List.mem_of_getElem? hx,decide_eq_true h⟩))
 unfold inN;have two:∀ {L:List PBook} {p:PBook->Bool} {i j:Nat} {b c:PBook},i<j->L[i]?=some b->L[j]?=some c->p b=true->p c=true->1<(L.filter p).length:=by
  intro L p
  induction L with
  | nil=>intro i j b c _ h;simp at h
  | cons a r ih=>
   intro i j b c hij hb hc pb pc;obtain⟨j,rfl⟩:∃ j',j=j'+1:=⟨j-1,by omega⟩;rw[List.getElem?_cons_succ]at hc;rw[List.filter_cons]
   cases i with
   | zero=>
    rw[List.getElem?_cons_zero]at hb
    cases hb
    rw[if_pos pb,List.length_cons];have:=List.length_pos_of_mem (List.mem_filter.2 ⟨List.mem_of_getElem? hc,pc⟩);omega
   | succ i=>
    rw[List.getElem?_cons_succ]at hb;have:=ih (by omega) hb hc pb pc
    split
    ·rw[List.length_cons];omega
    ·exact this
 rcases Nat.lt_or_ge i j with hlt | hge
 ·exact two hlt hx.book hy.book (hb hx.ent h1) (hb hy.ent h2)
 ·exact two (by omega) hy.book hx.book (hb hy.ent h2) (hb hx.ent h1)
theorem qgV{l:PLog}(hR:LogR l){other:List Int}(h:qbB l 0 other=true):qbB l 0 ((jg l).filter fun n=>decide (n∈other))=true:=by
 obtain⟨t,ht⟩:=qiF.1 h;refine qiF.2 ⟨t,ht.right,ht.off,ht.set,ht.ord,fun i j m n b c x y num hr=>?_⟩
 by_cases ho:num∈other
 ·by_cases hij:i=j
  ·subst hij
   have hb:=hr.ha.book;rw[hr.hb.book]at hb
   cases hb
   have hm:=hr.fa;rw[hr.fb]at hm
   cases hm
   have hx:=hr.ha.ent;rw[hr.hb.ent]at hx
   cases hx
   rfl
  ·exfalso
   have f1:=jD hr.fa;have f2:=jD hr.fb;rw[Nat.sub_zero]at f1 f2;obtain⟨x',_,hx',h1,h2,_⟩:=f1;obtain⟨y',_,hy',h3,h4,_⟩:=f2;have:=shared_mem hR ⟨hr.ha.book,hx'⟩ ⟨hr.hb.book,hy'⟩ hij ⟨h1,h2⟩ ⟨h3,h4⟩;exact hr.no (List.mem_filter.2 ⟨this,decide_eq_true ho⟩)
 ·exact ht.rep i j m n b c x y num ⟨hr.ha,hr.hb,hr.fa,hr.fb,ho⟩
theorem qeD(l:PLog):(jg l).Pairwise (· < ·):=List.Pairwise.sublist List.filter_sublist (qda 100 0)
theorem conf_ok{l:PLog}(h:qA l=0):((qdP l).2=0/\qbB l 0 (qdP l).1=true/\(qdP l).1.Pairwise (· < ·)/\(∀ n∈(qdP l).1,n∈jg l) /\ ∀ other,qbB l 0 other=true->(qdP l).1.length<=other.length)\/((qdP l)=([],9) /\ ∀ other,qbB l 0 other=false):=by
 have hR:=zV h;have key:∀ other,qbB l 0 other=true -> ∃ o,qbB l 0 o=true/\o∈qap (jg l) o.length [] 0/\o.length<=(jg l).length/\o.length<=other.length:=fun other ho=>by
  have h1:=qgV hR ho;have h2:=qkf (of:=jg l) (fun n=>decide (n∈other)) (p:=[]) (start:=0) rfl (Nat.zero_le _);rw[List.drop_zero,List.nil_append]at h2;refine⟨_,h1,h2,List.length_filter_le _ _,?_⟩;have h3:=qiR (fun n:Int=>n) (qeD l) other;refine Nat.le_trans (Nat.le_of_eq ?_) h3
  congr 1
  refine List.filter_congr fun n _=>?_;rw[Bool.eq_iff_iff,decide_eq_true_eq,List.any_eq_true];constructor
  ·intro hn;exact⟨n,hn,by simp⟩
  ·rintro ⟨y,hy,he⟩;rw[<- of_decide_eq_true he];exact hy
 have hfd:=qhX (f:=fun n=>qap (jg l) n [] 0) (fun n q hq=>qkg hq) (qbB l 0) ((jg l).length+1) 0;unfold qdP;rw[if_pos h];unfold qhJ
 cases hF:((List.range' 0 ((jg l).length+1)).flatMap fun(n:Nat)=>qap (jg l) n [] 0).find? (qbB l 0) with
 | some c=>
  rw[hF]at hfd;left;simp only;have hmem:=List.mem_of_find?_eq_some hF;obtain⟨n,_,hc⟩:=List.mem_flatMap.1 hmem;obtain⟨s,hs,hsub,_⟩:=qgU hc;rw[List.nil_append]at hs;subst hs;rw[List.drop_zero]at hsub;refine⟨trivial,List.find?_some hF,List.Pairwise.sublist hsub (qeD l),fun n hn=>hsub.mem hn,fun other ho=>?_⟩;obtain⟨o,h1,h2,h3,h4⟩:=key other ho;have:=hfd o.length o h2 (Nat.zero_le _) (by omega) h1;omega
 | none=>
  rw[hF]at hfd;right;refine⟨rfl,fun other=>?_⟩
  cases ho:qbB l 0 other with
  | false=>rfl
  | true=>
   obtain⟨o,h1,h2,h3,h4⟩:=key other ho;have:=hfd o.length o h2 (Nat.zero_le _) (by omega);rw[h1]at this;cases this
theorem shared_numbers{l:PLog}(h:qA l=0){n:Int}(hn:n∈jg l):n∈zd l:=by
 unfold jg at hn;rw[List.mem_filter]at hn;have h1:=of_decide_eq_true hn.2;unfold inN at h1;obtain⟨b,hb⟩:=List.exists_mem_of_length_pos (Nat.lt_of_le_of_lt (Nat.zero_le _) h1);obtain⟨hb,hp⟩:=List.mem_filter.1 hb;have hp:=of_decide_eq_true hp;unfold qjN at hp;obtain⟨y,hy⟩:=List.exists_mem_of_length_pos hp;obtain⟨hy,hq⟩:=List.mem_filter.1 hy;obtain⟨h3,h4⟩:=of_decide_eq_true hq;obtain⟨i,hi⟩:=List.getElem?_of_mem hb;obtain⟨k,hk⟩:=List.getElem?_of_mem hy;rw[<- h4];exact qiQ h ⟨hi,hk⟩ h3
end Go.PX
namespace Go.PX
open Go.Proofs
theorem qnq{b:PBook}{n:Int}:0<qjN b n ↔ ∃ y∈b.ents,y.kind=3/\y.number=n:=by
 unfold qjN;constructor
 ·intro h
  obtain⟨y,hy⟩:=List.exists_mem_of_length_pos h;obtain⟨hy,hq⟩:=List.mem_filter.1 hy;exact⟨y,hy,of_decide_eq_true hq⟩
 ·rintro ⟨y,hy,h⟩
  exact List.length_pos_of_mem (List.mem_filter.2 ⟨hy,decide_eq_true h⟩)
theorem in_pos{l:PLog}{n:Int}:0<inN l n ↔ ∃ b∈l.books,0<qjN b n:=by
 unfold inN;constructor
 ·intro h
  obtain⟨b,hb⟩:=List.exists_mem_of_length_pos h;obtain⟨hb,hq⟩:=List.mem_filter.1 hb;exact⟨b,hb,of_decide_eq_true hq⟩
 ·rintro ⟨b,hb,h⟩
  exact List.length_pos_of_mem (List.mem_filter.2 ⟨hb,decide_eq_true h⟩)
theorem qiT{l:PLog}{y:PEnt}:y∈qjO l↔(∃ b∈l.books,y∈b.ents)/\y.kind=3:=by
 unfold qjO;rw[List.mem_filter,List.mem_flatMap,decide_eq_true_eq]
theorem qnr{l:PLog}{n:Int}:0<inN l n ↔ ∃ y∈qjO l,y.number=n:=by
 rw[in_pos];constructor
 ·rintro ⟨b,hb,h⟩
  obtain⟨y,hy,h1,h2⟩:=qnq.1 h;exact⟨y,qiT.2 ⟨⟨b,hb,hy⟩,h1⟩,h2⟩
 ·rintro ⟨y,hy,h2⟩
  obtain⟨⟨b,hb,hyb⟩,h1⟩:=qiT.1 hy;exact⟨b,hb,qnq.2 ⟨y,hyb,h1,h2⟩⟩
theorem qpk{l:PLog}(h:qA l=0){y:PEnt}(hy:y∈qjO l):1<=y.number/\y.number<=99:=by
 obtain⟨⟨b,hb,hyb⟩,h1⟩:=qiT.1 hy;have hE:=(qdo h hb).2.2.2 y hyb;exact⟨(hE.rep h1).2,hE.number.2⟩
theorem fold_max(L:List PEnt):∀ m0:Int,m0<=L.foldl (fun m y=>max m y.number) m0/\(∀ y∈L,y.number<=L.foldl (fun m y=>max m y.number) m0)/\(L.foldl (fun m y=>max m y.number) m0=m0 \/ ∃ y∈L,y.number=L.foldl (fun m y=>max m y.number) m0):=by
 induction L with
 | nil=>intro m0;exact⟨Int.le_refl _,fun y hy=>(by cases hy),.inl rfl⟩
 | cons a r ih=>
  intro m0;rw[List.foldl_cons];obtain⟨h1,h2,h3⟩:=ih (max m0 a.number);refine⟨by omega,fun y hy=>?_,?_⟩
  ·rcases List.mem_cons.1 hy with rfl | hy
   ·omega
   ·exact h2 y hy
  ·rcases h3 with h3 | ⟨y,hy,he⟩
   ·rcases Int.le_total m0 a.number with hle | hle
    ·right;exact⟨a,List.mem_cons_self ..,by rw[h3];omega⟩
    ·left;rw[h3];omega
   ·right;exact⟨y,List.mem_cons_of_mem _ hy,he⟩
theorem last_ok{l:PLog}(h:qA l=0):0<=qiB l/\qiB l<=99/\(∀ n,0<inN l n->1<=n/\n<=qiB l)/\(qiB l=0\/0<inN l (qiB l)):=by
 obtain⟨h1,h2,h3⟩:=fold_max (qjO l) 0;unfold qiB;refine⟨h1,?_,fun n hn=>?_,?_⟩
 ·rcases h3 with h3 | ⟨y,hy,he⟩
  ·omega
  ·have:=qpk h hy;omega
 ·obtain⟨y,hy,rfl⟩:=qnr.1 hn
  have:=h2 y hy;have:=qpk h hy;omega
 ·rcases h3 with h3 | ⟨y,hy,he⟩
  ·exact .inl h3
  ·exact .inr (qnr.2 ⟨y,hy,he⟩)
end Go.PX
