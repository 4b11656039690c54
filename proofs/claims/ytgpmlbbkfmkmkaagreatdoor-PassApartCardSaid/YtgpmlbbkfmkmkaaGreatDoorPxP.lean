import Derived.Test.YtgpmlbbkfmkmkaaGreatDoorPxO
import Derived.Tactics
import Derived.Tactics2
import Derived.Recover
import Derived.Test.YtgpmlbbkfmkmkaaGreatDoorPxN
import Derived.Test.YtgpmlbbkfmkmkaaGreatDoorPxM
set_option linter.all false
set_option maxRecDepth 10000
namespace Go.PX
open Go.Proofs
open Go.RowKit
theorem clo93_pan2(near:Int):CloD Tryz.prog 93 (.panicking [{ v:=qjN,recovered:=false }]) (.panicking [{ v:=qjN,recovered:=true }]) [(1000000,.box (.dd [i64 near,.nils])),(1000001,.box (.dd [i64 0]))] [(1000000,.box (.dd [i64 0,.nils])),(1000001,.box (.dd [i64 6]))]:=by
 intro σ cx hl L F s w hh;refine callsDIn_of_wpSIn Tryz.func93 rfl trivial fun c₀ cs hu=>?_;apply wpSIn_seq;apply wpSIn_region;simp[wpOpsSIn,go_sem,recoverD,hu,Exit.thenS];refine wpSIn_of_wpIn rfl ?_;refine qjS ql (ft:=qrK) hl hh (n:=9) rfl (v:=qjN) (d:=.ifc 27 (i64 6)) ⟨_,rfl,rfl⟩ trivial (by simp) rfl (by rfl) (by rfl) (by rfl) (by decide +kernel) (by exact(qi mixed ql (by decide +kernel))) rfl (h':=[(1000000,.box (.dd [i64 0,.nils])),(1000001,.box (.dd [i64 6]))]) ?_ ?_
 ·intro a' w' L' F' hdf hh' tr pin
  refine⟨hdf,.panicking [{ v:=qjN,recovered:=true }],rfl,.tuple #[],qqq _ _,⟨⟨_,rfl⟩,rfl,L',F',hh',tr,pin⟩⟩
 ·conv=>whnf
  exact⟨jD ⟨rfl,rfl,trivial⟩,rfl⟩
def qfs:Nat->PLog->List UInt8->Option PLog
 | 0,c,_=>some c
 | n+1,c,l=>if l = [] then some c else
  if (qbV 10 l).2.2 then
   match qeh c (qao 32 ⟨(qbV 10 l).1.toArray⟩) with
   | some c'=>qfs n c' (qbV 10 l).2.1
   | none=>none
  else none
def qqB:PLog:=⟨0,[]⟩
def qoQ(l:List UInt8):Option (Int×List UInt8):=
 if (qbV 10 l).2.2 then
  if (qpf ⟨(qbV 10 l).1.toArray⟩ qnG).2 then (jQ (qpf ⟨(qbV 10 l).1.toArray⟩ qnG).1).map fun n=>(n,(qbV 10 l).2.1) else none
 else none
def qbo(l:List UInt8):Option PLog:=match qoQ l with
 | none=>none
 | some x=>qfs x.2.length ⟨x.1,[]⟩ x.2
def qlj(s:ByteArray):PLog×Int:=
 if 1500<s.size then (qqB,3) else
 match qbo s.data.toList with
 | some c=>if qK c=0/\qnS c=s then (c,0) else (qqB,6)
 | none=>(qqB,6)
theorem qft(c:UInt8):∀ l:List UInt8,(qbV c l).1.length+(qbV c l).2.1.length<=l.length/\(l ≠ []->(qbV c l).2.1.length<l.length)
 | []=>by simp[qbV]
 | x::r=>by
  have ih:=qft c r;rw[qbV]
  split
  ·simp
  ·simp only[List.length_cons]
   refine⟨by omega,fun _=>?_⟩;omega
theorem qiS:∀ (n m:Nat) (c:PLog) (l:List UInt8),l.length<=n->l.length<=m->qfs n c l=qfs m c l
 | 0,0,_,_,_,_=>rfl
 | 0,m+1,c,l,hn,_=>by
  have:l = []:=List.length_eq_zero_iff.1 (by omega);rw[qfs,qfs,if_pos this]
 | n+1,0,c,l,_,hm=>by
  have:l = []:=List.length_eq_zero_iff.1 (by omega);rw[qfs,qfs,if_pos this]
 | n+1,m+1,c,l,hn,hm=>by
  rw[qfs,qfs]
  by_cases h:l = []
  ·rw[if_pos h,if_pos h]
  ·rw[if_neg h,if_neg h]
   have:=(qft 10 l).2 h
   split
   ·cases qeh c (qao 32 ⟨(qbV 10 l).1.toArray⟩) with
    | none=>rfl
    | some c'=>exact qiS n m c' _ (by omega) (by omega)
   ·rfl
def qnH(c:PLog)(l:List UInt8):Option PLog:=qfs l.length c l
theorem readL_eq(c:PLog)(l:List UInt8):qnH c l=if l = [] then some c else
  if (qbV 10 l).2.2 then
   match qeh c (qao 32 ⟨(qbV 10 l).1.toArray⟩) with
   | some c'=>qnH c' (qbV 10 l).2.1
   | none=>none
  else none:=by
 unfold qnH
 by_cases h:l = []
 ·subst h;rfl
 ·obtain⟨x,r,rfl⟩:=List.exists_cons_of_ne_nil h
  rw[if_neg h];have hl:=(qft 10 (x::r)).2 h;show qfs (r.length+1) c (x::r)=_;rw[qfs,if_neg h]
  split
  ·cases qeh c (qao 32 ⟨(qbV 10 (x::r)).1.toArray⟩) with
   | none=>rfl
   | some c'=>exact qiS _ _ c' _ (by simp at hl;omega) (Nat.le_refl _)
  ·rfl
def qhR(e:Int):D:=.tup [.agg [i64 0,.nils],i64 e]
theorem qre(l:List UInt8)(c:UInt8)(hs:l.length<=1000000000):FnV Tryz.prog 94 [.str ⟨l.toArray⟩,.str ⟨#[c]⟩] (.tup [.str ⟨(qbV c l).1.toArray⟩,.str ⟨(qbV c l).2.1.toArray⟩,.bool (qbV c l).2.2]):=by
 have h:=@pa94 ⟨l.toArray⟩ c (by show l.toArray.size<=_;simpa using hs);have e:(⟨l.toArray⟩:ByteArray).data.toList=l:=rfl;rw[e]at h;exact fun {σ}=>h
theorem qfu{σ:Type}{st:σ}{en:Env}{h:Heap}{near:Int}{i n:Nat}(h2:get en 2=some (.ptr 1000000 0))(h3:get en 3=some (.ptr 1000001 0))(hh:qbn h [(1000000,.box (.vv [.d (i64 near),.sl i 6 0 n])),(1000001,.box (.dd [i64 0]))]) :
  qqA Tryz.prog tys Tryz.f41 93 2 3 (qhR 6) st (.panicking [{ v:=qjN,recovered:=false }]) en h st:=by
 refine⟨h2,h3,.panicking [{ v:=qjN,recovered:=true }],_,rfl,CloD.sub (h0:=[(1000000,.box (.vv [.d (i64 near),.sl i 6 0 n])),(1000001,.box (.dd [i64 0]))]) (fun {σ}=>clo93_pan near i n) hh,?_⟩;conv=>whnf
 exact qc 1 rfl ⟨rfl,rfl,rfl⟩
theorem qmd{σ:Type}{st:σ}{en:Env}{h:Heap}{near:Int}(h2:get en 2=some (.ptr 1000000 0))(h3:get en 3=some (.ptr 1000001 0))(hh:qbn h [(1000000,.box (.dd [i64 near,.nils])),(1000001,.box (.dd [i64 0]))]) :
  qqA Tryz.prog tys Tryz.f41 93 2 3 (qhR 6) st (.panicking [{ v:=qjN,recovered:=false }]) en h st:=by
 refine⟨h2,h3,.panicking [{ v:=qjN,recovered:=true }],_,rfl,CloD.sub (h0:=[(1000000,.box (.dd [i64 near,.nils])),(1000001,.box (.dd [i64 0]))]) (fun {σ}=>clo93_pan2 near) hh,?_⟩;conv=>whnf
 exact qc 1 rfl ⟨rfl,rfl,rfl⟩
end Go.PX
namespace Go.PX
open Go.Proofs
open Go.RowKit
def rdH(near:Int)(o:Option (List PBook×PBook)):Heap:=match o with
 | none=>[(1000000,.box (.vv [.d (i64 near),.sl 900001 6 0 0])),(900001,.arr 6 (.dd []))]
 | some x=>lg1 1000000 900001 900002 near x.1 x.2
def rdL(near:Int)(o:Option (List PBook×PBook)):PLog:=match o with
 | none=>⟨near,[]⟩
 | some x=>⟨near,x.1 ++ [x.2]⟩
def qno(bs:List PBook):Nat:=(bs.map fun b=>1+b.ents.length).sum
theorem qiT(c:UInt8):∀ l:List UInt8,(qaN c l).length<=l.length+1
 | []=>by simp[qaN]
 | x::r=>by
  have ih:=qiT c r;rw[qaN]
  split
  ·simpa using ih
  ·have:(qmb x (qaN c r)).length<=max 1 (qaN c r).length:=by cases qaN c r<;>simp[qmb]
   simp only[List.length_cons];omega
theorem qiU(c:UInt8):∀ (l:List UInt8),∀ x∈qaN c l,x.length<=l.length
 | [],x,hx=>by simp[qaN]at hx;subst hx;simp
 | y::r,x,hx=>by
  have ih:=qiU c r;rw[qaN]at hx
  split at hx
  ·rcases List.mem_cons.1 hx with rfl | hx
   ·simp
   ·have:=ih x hx;simp only[List.length_cons];omega
  ·cases hs:qaN c r with
   | nil=>rw[hs]at hx;simp[qmb]at hx;subst hx;simp
   | cons a t=>
    rw[hs]at hx ih
    rcases List.mem_cons.1 hx with rfl | hx
    ·have:=ih a (by simp);simp only[List.length_cons];omega
    ·have:=ih x (by simp[hx]);simp only[List.length_cons];omega
theorem piecesB_len(c:UInt8)(s:ByteArray):(qao c s).length<=s.size+1:=by
 have:=qiT c s.data.toList;simp only[qao,List.length_map];simpa using this
theorem piecesB_mem(c:UInt8)(s:ByteArray):∀ x∈qao c s,x.size<=s.size:=by
 intro x hx;obtain⟨y,hy,rfl⟩:=List.mem_map.1 hx;have:=qiU c s.data.toList y hy;show y.length<=s.size;simpa using this
theorem piecesB_ne(c:UInt8)(s:ByteArray):qao c s ≠ []:=by
 unfold qao;intro h;exact splitL_ne c _ (List.map_eq_nil_iff.1 h)
theorem cutP_size(s p:ByteArray):(qpf s p).1.size<=s.size:=by
 unfold qpf
 split
 ·simp
 ·exact Nat.le_refl _
theorem qiV{r:List ByteArray}{b:PBook}(h:qcH r=some b):∃ n o s,b=⟨n,o,s,[]⟩:=by
 unfold qcH at h
 split at h
 ·rename_i n a b' c d
  cases h2:four a b' c d with
  | none=>rw[h2]at h;cases h
  | some x=>rw[h2]at h;cases h;exact⟨_,_,_,rfl⟩
 ·cases h
theorem qdQ(init:List PBook)(last:PBook):qno (init ++ [last])=qno init+1+last.ents.length/\init.length<=qno init:=by
 have h1:qno (init ++ [last])=qno init+(1+last.ents.length):=by unfold qno;rw[List.map_append,List.sum_append];simp
 refine⟨by omega,?_⟩;clear h1
 induction init with
 | nil=>exact Nat.zero_le _
 | cons b r ih=>
  have:qno (b::r)=(1+b.ents.length)+qno r:=by unfold qno;rw[List.map_cons,List.sum_cons]
  rw[List.length_cons];omega
theorem qlk(b i j:Nat)(near:Int)(init:List PBook)(last:PBook):zy (lg1 b i j near init last) = [b,i,i,j,j]:=by
 show b::([i]++(i::(zg (List.flatten (zd (init.map PBook.cells) ++ [inj (hdC last) ++ [V.sl j 4 0 last.ents.length]])) ++ [j])))=_;rw[jB];rfl
theorem qiW(near:Int)(init:List PBook)(last:PBook):qbN [1000000,900001,900002] (some 51) (.d (.tup [])) (lg1 1000000 1000001 1000002 near init last)=true:=by
 unfold qbN;rw[qlk];rfl
theorem lg1_callBn(near:Int)(init:List PBook)(last:PBook):qbN [1000000,900001,900002] (some 51) (.d (.tup [])) (lg1 1000000 1000001 2000000 near init last)=true:=by
 unfold qbN;rw[qlk];rfl
theorem viewV_slv{h:Heap}{k id sz n:Nat}{vs:List (List V)}{es:List (List D)}(hg:get h id=some (.arr sz (.vv vs)))(hv:qau (qco h k) vs=some es)(hn:n=es.length):jP (qco h (k+1)) (.sl id sz 0 n)=some (.vs es):=by
 have h1:Nat.beq sz sz=true:=Nat.beq_refl sz;have h2:Nat.ble (0+es.length) es.length=true:=Nat.ble_eq_true_of_le (by omega);subst hn;simp only[jP,qco,hg,hv,h1,h2];simp
theorem qll{h:Heap}{near:Int}{n:Nat}{l:List PBook}(hs:jP (qco h 2) (.sl 900001 6 0 n)=some (qR l)):zZ (qco h 2) [.agg [.d (i64 near),.sl 900001 6 0 n]]=some [(⟨near,l⟩:PLog).d]:=by
 have:zZ (qco h 2) [.d (i64 near),.sl 900001 6 0 n]=some [i64 near,qR l]:=qH rfl (qH hs rfl);refine qH ?_ rfl;rw[jP,this];rfl
theorem qlm{h:Heap}{v:V}{d e:D}(hv:zZ (qco h 2) [v]=some [d]):zZ (qco h 2) [v,.d e]=some [d,e]:=by
 rw[zZ]at hv;rw[zZ]
 cases hx:jP (qco h 2) v with
 | none=>rw[hx]at hv;cases hv
 | some d=>rw[hx]at hv;cases hv;rfl
theorem qoR{h:Heap}(near:Int)(h1:get h 900001=some (.arr 6 (.dd []))):zZ (qco h 2) [.agg [.d (i64 near),.sl 900001 6 0 0]]=some [(rdL near none).d]:=
 qll (l:=[]) (jq h1 (by simp))
theorem qoS{h:Heap}(near:Int)(init:List PBook)(last:PBook)(h1:get h 900001=some (.arr 6 (.vv (zd (init.map PBook.cells) ++ [inj (hdC last) ++ [.sl 900002 4 0 last.ents.length]]))))(h2:get h 900002=some (.arr 4 (.dd (last.ents.map PEnt.cells)))) :
  zZ (qco h 2) [.agg [.d (i64 near),.sl 900001 6 0 (init.length+1)]]=some [(rdL near (some (init,last))).d]:=by
 have e1:jP (qco h 1) (.sl 900002 4 0 last.ents.length)=some (qeC last.ents):=jq h2 (by simp);have e2:qau (qco h 1) (zd (init.map PBook.cells) ++ [inj (hdC last) ++ [.sl 900002 4 0 last.ents.length]])=some (init.map PBook.cells ++ [last.cells]):=qcA (qeb (qcz (a:=hdC last) (qH e1 rfl))) _;have e3:init.map PBook.cells ++ [last.cells]=(init ++ [last]).map PBook.cells:=by simp
 rw[e3]at e2;exact qll (l:=init ++ [last]) (viewV_slv h1 e2 (by simp))
set_option maxHeartbeats 4000000 in
theorem qrf(s:ByteArray)(r:D)(h3:1500<s.size->r=qhR 3)(h6:s.size<=1500->qbo s.data.toList=none->r=qhR 6)
  (h7:s.size<=1500 -> ∀ c,qbo s.data.toList=some c->((qK c=0/\qnS c=s)->r = .tup [c.d,i64 0])/\(¬ (qK c=0/\qnS c=s)->r=qhR 6)):FnV Tryz.prog 41 [.str s] r:=by
 refine fnV_defer (ds:=[.str s]) (ft:=qrW) (g:=93) mixed ql 2 3 19 (lc:=[i64 0,.nils]) (le:=[i64 0]) Tryz.func41 rfl (show fnB qrW Tryz.f41 1=true from by decide +kernel) (by decide) (by decide) (by decide) rfl rfl rfl ?_ ?_ fun {σ} Y st=>?_
 ·intro a w p q Q hp hq hs h
  have hmf:∀ (fn:Fn) (first cap:Array Value) (w:World),(Instr.makeFunc fn first cap).run Tryz.prog w = .ok (.func fn first cap) w:=fun _ _ _ _=>rfl;apply wpIn_region;have e2:a.tmps.getD 2 undef=p:=by rw[Array.getD_eq_getD_getElem?,hp];rfl
  have e3:a.tmps.getD 3 undef=q:=by rw[Array.getD_eq_getD_getElem?,hq];rfl
  have hsz:19<a.tmps.size:=by rw[hs];decide
  simp[wpOpsIn,wpOpIn,go_sem,hmf,e2,e3,hsz,Oper.uponIn,Result.andThen];simpa using h
 ·intro p q w
  rfl
 conv=>whnf
 refine qj (fun hb=>?_) (fun hb=>?_)
 ·have h0:=h3 (by have:=of_decide_eq_true hb;omega)
  subst h0;conv=>whnf
  refine⟨rfl,?_⟩;conv=>whnf
  exact qc 0 rfl ⟨⟨rfl,rfl⟩,rfl⟩
 refine⟨?_,?_⟩
 ·exact Wk.sub ⟨rfl,rfl,rfl,trivial⟩ ⟨rfl,rfl,trivial⟩
 have hs4:s.size<=1500:=by have:=of_decide_eq_false hb;omega
 have h6:=h6 hs4;have h7:=h7 hs4;have hsd:s=⟨s.data.toList.toArray⟩:=by cases s;simp
 have hsl:s.data.toList.length<=1500:=by simpa using hs4
 generalize hl0:s.data.toList=l0 at h6 h7 hsd hsl;conv=>whnf
 rw[hsd];refine qk (ds:=[.str ⟨l0.toArray⟩,.str ⟨#[10]⟩]) (qre l0 10 (by omega)) rfl rfl ?_;conv=>whnf
 refine qk (ds:=[.str ⟨(qbV 10 l0).1.toArray⟩,.str qnG]) (pa95 ⟨(qbV 10 l0).1.toArray⟩ qnG) rfl rfl ?_;have hlen0:=(qft 10 l0).1
 have hRA:qbo l0=match qoQ l0 with
  | none=>none
  | some x=>qfs x.2.length ⟨x.1,[]⟩ x.2:=rfl
 have hcs:=cutP_size ⟨(qbV 10 l0).1.toArray⟩ qnG;have hhs:(⟨(qbV 10 l0).1.toArray⟩:ByteArray).size<=1500:=by show(qbV 10 l0).1.toArray.size<=_;rw[List.size_toArray];omega
 unfold qoQ at hRA;generalize qpf ⟨(qbV 10 l0).1.toArray⟩ qnG=CP at hRA hcs ⊢;generalize (⟨(qbV 10 l0).1.toArray⟩:ByteArray)=HD at hhs hcs;generalize qbV 10 l0=C1 at hRA hlen0 ⊢;obtain⟨c1,rest,is⟩:=C1;obtain⟨nm,is2⟩:=CP;simp only at hRA hlen0 hcs
 cases is with
 | false=>
  simp only[Bool.false_eq_true,if_false]at hRA;have h0:=h6 hRA;subst h0;conv=>whnf
  refine qaf rfl (fun h=>by cases h) (fun _=>?_);conv=>whnf
  exact qmd rfl rfl ⟨rfl,rfl,trivial⟩
 | true=>
 simp only[if_true]at hRA
 cases is2 with
 | false=>
  simp only[Bool.false_eq_true,if_false]at hRA;have h0:=h6 hRA;subst h0;conv=>whnf
  refine qaf rfl (fun h=>by cases h) (fun _=>?_);conv=>whnf
  exact qmd rfl rfl ⟨rfl,rfl,trivial⟩
 | true=>
 simp only[if_true]at hRA;conv=>whnf
 refine qaf rfl (fun _=>?_) (fun h=>by cases h);conv=>whnf
 refine qgs (x:=nm) (by omega) (fun near hnr=>?_) (fun hnr=>?_) rfl (by intro k;rfl)
 case refine_2=>
  rw[hnr]at hRA;have h0:=h6 hRA;subst h0;conv=>whnf
  exact qmd rfl rfl ⟨rfl,rfl,trivial⟩
 rw[hnr]at hRA;have hRA:qbo l0=qnH ⟨near,[]⟩ rest:=hRA;conv=>whnf
 refine zP (T:=tys) ql (by exact qi mixed ql (by decide +kernel)) (fun x:Option (List PBook×PBook)×List UInt8=>⟨[(0,.d (.str ⟨l0.toArray⟩)),(2,.ptr 1000000 0),(3,.ptr 1000001 0),(5,.d (.str ⟨x.2.toArray⟩))],(1000001,.box (.dd [i64 0]))::rdH near x.1,st⟩) (fun x=>qbo l0=qnH (rdL near x.1) x.2/\qno (rdL near x.1).books+x.2.length<=1500) (fun x=>x.2.length) (none,rest) ?_ ⟨hRA,?_⟩ ?_
 ·exact(Wk.bornAtD 1000000 900001 6 [i64 near] [] rfl rfl rfl rfl rfl).trans (Wk.sub ⟨rfl,rfl,rfl,rfl,trivial⟩ ⟨rfl,rfl,rfl,trivial⟩)
 ·show 0+rest.length<=1500
  omega
 rintro ⟨o,l⟩ ⟨hl,hlen⟩;simp only at hlen;have hl:qbo l0=qnH (rdL near o) l:=hl;conv=>whnf
 refine qj (fun hb=>?_) (fun hb=>?_)
 ·have hne:l ≠ []:=by rintro rfl;simp at hb
  have hcl:=qft 10 l;rw[readL_eq _ l,if_neg hne]at hl;conv=>whnf
  refine qk (qre l 10 (by omega)) rfl rfl ?_;conv=>whnf
  refine qaf rfl (fun ht=>?_) (fun ht=>?_)
  ·rw[ht,if_pos rfl]at hl
   have hps:(⟨(qbV 10 l).1.toArray⟩:ByteArray).size<=1500:=by show(qbV 10 l).1.toArray.size<=_;rw[List.size_toArray];omega
   have hwl:=piecesB_len 32 ⟨(qbV 10 l).1.toArray⟩;have hwm:=piecesB_mem 32 ⟨(qbV 10 l).1.toArray⟩;have hwn:qao 32 ⟨(qbV 10 l).1.toArray⟩ ≠ []:=piecesB_ne _ _;have hcl2:=hcl.2 hne;conv=>whnf
   refine qk (ds:=[.str ⟨(qbV 10 l).1.toArray⟩,.str ⟨#[32]⟩]) (pa99 ⟨(qbV 10 l).1.toArray⟩ 32 (by omega)) rfl rfl ?_;generalize qao 32 ⟨(qbV 10 l).1.toArray⟩=w at hl hwl hwm hwn ⊢;generalize (⟨(qbV 10 l).1.toArray⟩:ByteArray)=HD at hps hwl hwm;generalize (qbV 10 l).2.1=l2 at hl hcl hcl2 ⊢;conv=>whnf
   cases o with
   | none=>
    refine qhM (take0 near w hwn (fun x hx=>by have:=hwm x hx;omega) (by omega) _ _) [1000000,900001] rfl ⟨_,_,rfl,rfl,_,_,rfl,rfl,rfl⟩ rfl rfl ?_ ?_
    ·rintro v h1 s' ⟨⟨h,q,b,hw,hbk,hbF,rfl,rfl⟩,rfl⟩
     refine⟨rfl,?_⟩;have htk:qeh (rdL near none) w=some ⟨near,[b]⟩:=by show qeh ⟨near,[]⟩ w=_;rw[hw,zz,if_pos hbk,hbF];rfl
     rw[htk]at hl;obtain⟨bn,bo,bs,rfl⟩:=qiV hbF;conv=>whnf
     exact⟨(some ([],⟨bn,bo,bs,[]⟩),l2),hcl2,⟨hl,by have h0:0+l.length<=1500:=hlen;show 1+0+0+l2.length<=1500;omega⟩,(Wk.bornArr 103264 900002 6 4 [] (hdC ⟨bn,bo,bs,[]⟩) rfl rfl rfl rfl).trans ((Wk.move 103264 900001 rfl rfl).trans (Wk.sub ⟨rfl,rfl,rfl,rfl,trivial⟩ ⟨rfl,rfl,rfl,rfl,trivial⟩))⟩
    ·rintro pv h1 s' ⟨⟨hno,rfl,rfl⟩,rfl⟩
     refine⟨rfl,?_⟩;rw[show qeh (rdL near none) w=none from hno]at hl;have h0:=h6 hl;subst h0;conv=>whnf
     exact qfu (i:=900001) (n:=0) (near:=near) rfl rfl ⟨rfl,rfl,trivial⟩
   | some x=>
    obtain⟨init,last⟩:=x;have htot:qno (init ++ [last])+l.length<=1500:=hlen;have htl:=qdQ init last
    by_cases hbad:∃ s x n,w = [reportW,s,x,n]/\jQ s≠none/\jQ n=none
    ·obtain⟨ws,wx,wn,rfl,hb1,hb2⟩:=hbad
     obtain⟨t,ht1⟩:∃ t,jQ ws=some t:=by
      cases h:jQ ws with
      | none=>exact absurd h hb1
      | some t=>exact⟨t,rfl⟩
     have htk:qeh (rdL near (some (init,last))) [reportW,ws,wx,wn]=none:=by
      rw[zz,if_neg (by decide),if_neg (by simp[rdL])];unfold qlC;simp only[ht1,if_neg (show ¬ reportW=passW by decide),if_neg (show ¬ reportW=setW by decide),if_pos,hb2];rfl
     refine qhM (take1b near init last ws wx wn t (by omega) (by have:=hwm ws (by simp);omega) (by have:=hwm wn (by simp);omega) ht1 hb2 _ _) [1000000,900001,900002] rfl ⟨_,_,rfl,rfl,_,_,rfl,(congrArg some (zB (qaz [1000000,900001,900002] 51) (init.map PBook.cells) last 1000002 last.ents.length)).symm,_,_,rfl,rfl,rfl⟩ rfl rfl ?_ ?_
     ·rintro v h1 s' ⟨hF,_⟩
      exact absurd hF id
     ·rintro pv h1 s' ⟨⟨rfl,rfl⟩,rfl⟩
      refine⟨qiW _ _ _,?_⟩;rw[htk]at hl;have h0:=h6 hl;subst h0;conv=>whnf
      exact qfu (i:=900001) (n:=init.length+1) (near:=near) rfl rfl ⟨rfl,rfl,trivial⟩
    ·refine qhM (take1 near init last w hwn (fun x hx=>by have:=hwm x hx;omega) (by omega) (by omega) (by omega) (fun s x n hw h1 h2=>hbad ⟨s,x,n,hw,h1,h2⟩) _ _) [1000000,900001,900002] rfl ⟨_,_,rfl,rfl,_,_,rfl,(congrArg some (zB (qaz [1000000,900001,900002] 51) (init.map PBook.cells) last 1000002 last.ents.length)).symm,_,_,rfl,rfl,rfl⟩ rfl rfl ?_ ?_
     ·rintro v h1 s' ⟨⟨rfl,h,q,hw,hp⟩,rfl⟩
      rcases hp with⟨hbk,b,hbF,rfl⟩ | ⟨hbk,e,hE,rfl⟩
      ·refine⟨rfl,?_⟩
       have htk:qeh (rdL near (some (init,last))) w=some ⟨near,(init ++ [last]) ++ [b]⟩:=by rw[hw,zz,if_pos hbk,hbF];rfl
       rw[htk]at hl;obtain⟨bn,bo,bs,rfl⟩:=qiV hbF;conv=>whnf
       refine⟨(some (init ++ [last],⟨bn,bo,bs,[]⟩),l2),hcl2,⟨hl,?_⟩,(Wk.bornArr 103264 900002 6 4 ((init ++ [last]).map PBook.cells) (hdC ⟨bn,bo,bs,[]⟩) rfl rfl rfl rfl).trans ((Wk.move 103264 900001 rfl rfl).trans (Wk.sub ⟨rfl,rfl,rfl,rfl,trivial⟩ ⟨rfl,rfl,(by first | (show some (Obj.arr 6 (.vv (qr _ (qr _ (qr _ (zd _++_))))))=_;rw[qq,qq,qq];rfl) | (show some (Obj.arr 6 (.vv (qr _ (qr _ (zd _++_)))))=_;rw[qq,qq];rfl) | (show some (Obj.arr 6 (.vv (qr _ (zd _++_))))=_;rw[qq];rfl) | rfl),rfl,trivial⟩))⟩;have:=qdQ (init ++ [last]) ⟨bn,bo,bs,[]⟩;show qno ((init ++ [last]) ++ [⟨bn,bo,bs,[]⟩])+l2.length<=1500;simp at this;simp at hlen htot ⊢;omega
      ·refine⟨lg1_callBn _ _ _,?_⟩
       have htk:qeh (rdL near (some (init,last))) w=some ⟨near,init ++ [{ last with ents:=last.ents ++ [e] }]⟩:=by
        rw[hw,zz,if_neg hbk,if_neg (by simp[rdL]),hE];show some (⟨near,qqp e (init ++ [last])⟩:PLog)=_;rw[qli]
       rw[htk]at hl;conv=>whnf
       refine⟨(some (init,{ last with ents:=last.ents ++ [e] }),l2),hcl2,⟨hl,?_⟩,(Wk.move 103264 900002 rfl rfl).trans (Wk.sub ⟨rfl,rfl,rfl,rfl,trivial⟩ ⟨rfl,rfl,(by first | (show some (Obj.arr 6 (.vv (qr _ (qr _ (qr _ (zd _++_))))))=_;rw[qq,qq,qq];rfl) | (show some (Obj.arr 6 (.vv (qr _ (qr _ (zd _++_)))))=_;rw[qq,qq];rfl) | (show some (Obj.arr 6 (.vv (qr _ (zd _++_))))=_;rw[qq];rfl) | rfl),rfl,trivial⟩)⟩;have h5:=qdQ init { last with ents:=last.ents ++ [e] };have h6:=qdQ init last;show qno (init ++ [{ last with ents:=last.ents ++ [e] }])+l2.length<=1500;simp at h5 h6 hlen htot ⊢;omega
     ·rintro pv h1 s' ⟨⟨hno,rfl,rfl⟩,rfl⟩
      refine⟨qiW _ _ _,?_⟩;rw[show qeh (rdL near (some (init,last))) w=none from hno]at hl;have h0:=h6 hl;subst h0;conv=>whnf
      exact qfu (i:=900001) (n:=init.length+1) (near:=near) rfl rfl ⟨rfl,rfl,trivial⟩
  ·rw[ht,if_neg (by simp)]at hl
   have h0:=h6 hl;subst h0
   cases o with
   | none=>
    conv=>whnf
    exact qfu (i:=900001) (n:=0) (near:=near) rfl rfl ⟨rfl,rfl,trivial⟩
   | some x=>
    obtain⟨init,last⟩:=x;conv=>whnf
    exact qfu (i:=900001) (n:=init.length+1) (near:=near) rfl rfl ⟨rfl,rfl,trivial⟩
 ·have hle:l = []:=by
   by_cases h:l = []
   ·exact h
   ·exact absurd hb (by simp[h])
  subst hle;have hl:qbo l0=some (rdL near o):=hl;obtain⟨h7a,h7b⟩:=h7 _ hl
  cases o with
  | none=>
   have hlen2:(rdL near none).books.length<=1500:=by show 0<=1500;omega
   conv=>whnf
   obtain⟨cp,cq,ce,hcp⟩:∃ p q e,qaM (rdL near none)=(p,q,e):=⟨_,_,_,rfl⟩;have hce:qK (rdL near none)=ce:=by show(qaM _).2.2=ce;rw[hcp]
   refine qs (qeg (rdL near none) _ _ _ hcp) rfl 2 (qoR near rfl) ?_;conv=>whnf
   refine qj (fun hb1=>?_) (fun hb1=>?_)
   ·have hk:qK (rdL near none)=0:=by rw[hce];simpa using hb1
    conv=>whnf
    refine qs (qrP (rdL near none) (zT hk) (qjP hk)) rfl 2 (qoR near rfl) ?_;conv=>whnf
    refine qaf rfl (fun ht=>?_) (fun ht=>?_)
    ·rw[<- hsd]at ht
     have h0:=h7a ⟨hk,of_decide_eq_true ht⟩;subst h0;conv=>whnf
     refine⟨.inr rfl,rfl,rfl,.returning,_,rfl,fun {σ}=>qiR _,?_⟩;conv=>whnf
     exact qc 2 (qlm (qoR near rfl)) ⟨rfl,rfl,rfl⟩
    ·rw[<- hsd]at ht
     have h0:=h7b fun h=>absurd ht (by rw[decide_eq_true h.2];simp);subst h0;conv=>whnf
     exact qfu (i:=900001) (n:=0) (near:=near) rfl rfl ⟨rfl,rfl,trivial⟩
   ·have hk:qK (rdL near none)≠0:=by rw[hce];simpa using hb1
    have h0:=h7b fun h=>hk h.1;subst h0;conv=>whnf
    refine qaf rfl (fun h=>by cases h) (fun _=>?_);conv=>whnf
    exact qfu (i:=900001) (n:=0) (near:=near) rfl rfl ⟨rfl,rfl,trivial⟩
  | some x=>
   obtain⟨init,last⟩:=x;have hlen2:(rdL near (some (init,last))).books.length<=1500:=by
    have htot:qno (init ++ [last])+0<=1500:=hlen;have htl:=qdQ init last;show(init ++ [last]).length<=1500;simp;omega
   conv=>whnf
   obtain⟨cp,cq,ce,hcp⟩:∃ p q e,qaM (rdL near (some (init,last)))=(p,q,e):=⟨_,_,_,rfl⟩;have hce:qK (rdL near (some (init,last)))=ce:=by show(qaM _).2.2=ce;rw[hcp]
   refine qs (qeg (rdL near (some (init,last))) _ _ _ hcp) rfl 2 (qoS near init last rfl rfl) ?_;conv=>whnf
   refine qj (fun hb1=>?_) (fun hb1=>?_)
   ·have hk:qK (rdL near (some (init,last)))=0:=by rw[hce];simpa using hb1
    conv=>whnf
    refine qs (qrP (rdL near (some (init,last))) (zT hk) (qjP hk)) rfl 2 (qoS near init last rfl rfl) ?_;conv=>whnf
    refine qaf rfl (fun ht=>?_) (fun ht=>?_)
    ·rw[<- hsd]at ht
     have h0:=h7a ⟨hk,of_decide_eq_true ht⟩;subst h0;conv=>whnf
     refine⟨.inr rfl,rfl,rfl,.returning,_,rfl,fun {σ}=>qiR _,?_⟩;conv=>whnf
     exact qc 2 (qlm (qoS near init last rfl rfl)) ⟨rfl,rfl,rfl⟩
    ·rw[<- hsd]at ht
     have h0:=h7b fun h=>absurd ht (by rw[decide_eq_true h.2];simp);subst h0;conv=>whnf
     exact qfu (i:=900001) (n:=(init.length+1)) (near:=near) rfl rfl ⟨rfl,rfl,trivial⟩
   ·have hk:qK (rdL near (some (init,last)))≠0:=by rw[hce];simpa using hb1
    have h0:=h7b fun h=>hk h.1;subst h0;conv=>whnf
    refine qaf rfl (fun h=>by cases h) (fun _=>?_);conv=>whnf
    exact qfu (i:=900001) (n:=(init.length+1)) (near:=near) rfl rfl ⟨rfl,rfl,trivial⟩
theorem readX_cases(s:ByteArray):∃ r,(PX.relax r = .tup [(qlj s).1.d,i64 (qlj s).2]\/r = .tup [(qlj s).1.d,i64 (qlj s).2])/\(1500<s.size->r=qhR 3)/\(s.size<=1500->qbo s.data.toList=none->r=qhR 6) /\
  (s.size<=1500 -> ∀ c,qbo s.data.toList=some c->((qK c=0/\qnS c=s)->r = .tup [c.d,i64 0])/\(¬ (qK c=0/\qnS c=s)->r=qhR 6)):=by
 have hrx:qlj s=if 1500<s.size then (qqB,(3:Int)) else
  match qbo s.data.toList with
  | some c=>if qK c=0/\qnS c=s then (c,0) else (qqB,6)
  | none=>(qqB,6):=rfl
 by_cases h3:1500<s.size
 ·rw[hrx,if_pos h3]
  exact⟨qhR 3,.inl rfl,fun _=>rfl,fun h=>absurd h (by omega),fun h=>absurd h (by omega)⟩
 rw[hrx,if_neg h3]
 cases hl:qbo s.data.toList with
 | none=>exact⟨qhR 6,.inl rfl,fun h=>absurd h h3,fun _ _=>rfl,fun _ c h=>by cases h⟩
 | some c=>
  by_cases hk:qK c=0/\qnS c=s
  ·simp only[if_pos hk]
   refine⟨.tup [c.d,i64 0],.inr rfl,fun h=>absurd h h3,fun _ h=>?_,fun _ c' h=>?_⟩
   ·cases h
   ·cases h;exact⟨fun _=>rfl,fun h=>absurd hk h⟩
  ·simp only[if_neg hk]
   refine⟨qhR 6,.inl rfl,fun h=>absurd h h3,fun _ _=>rfl,fun _ c' h=>?_⟩
   cases h;exact⟨fun h=>absurd h hk,fun _=>rfl⟩
theorem pa41(s:ByteArray):FnV Tryz.prog 41 [.str s] (.tup [(qlj s).1.d,i64 (qlj s).2]):=by
 obtain⟨r,hr,h3,h6,h7⟩:=readX_cases s
 rcases hr with hr | rfl
 ·exact FnV.relax (fun {σ}=>qrf s r h3 h6 h7) hr
 ·exact qrf s _ h3 h6 h7
end Go.PX
namespace Go.PX
open Go.Proofs
theorem pa85(l:PLog)(hR:LogR l)(w:Int)(hw:0<=w/\w<=1048576):FnV Tryz.prog 85 [i64 w,.ref l.cells] (.bool (qcn l w [])):=by
 refine qG mixed ql Tryz.func85 rfl (ft:=ft85) 2 (by decide +kernel) (by rfl) fun {σ} Y st=>?_;conv=>whnf
 refine qay ?_;refine qk (qsi l hR w hw [] (by simp)) rfl rfl ?_;conv=>whnf
 refine qk (qps) rfl rfl ?_;conv=>whnf
 obtain⟨m,hm⟩:=qpy l hR w hw [];refine qk (hm) rfl rfl ?_;conv=>whnf
 exact qc 0 rfl ⟨⟨rfl,rfl⟩,rfl⟩
theorem qdh(does:Int->Bool):∀ (k j:Nat) {lo hi:Int},hi-lo<=2^k->hi-lo<=2^j->qbj does k lo hi=qbj does j lo hi
 | 0,0,_,_,_,_=>rfl
 | 0,j+1,lo,hi,h1,_=>by
  rw[qbj,qbj,if_neg (by simp at h1;omega)]
 | k+1,0,lo,hi,_,h2=>by
  rw[qbj,qbj,if_neg (by simp at h2;omega)]
 | k+1,j+1,lo,hi,h1,h2=>by
  have e1:(2:Int)^(k+1)=2^k*2:=Int.pow_succ 2 k;have e2:(2:Int)^(j+1)=2^j*2:=Int.pow_succ 2 j;rw[qbj,qbj]
  split
  ·split
   ·exact qdh does k j (by omega) (by omega)
   ·exact qdh does k j (by omega) (by omega)
  ·rfl
theorem pa84(g:FuncId)(caps:List D)(does:Int->Bool)(hg:∀ n,0<=n->n<=1048576->FnV Tryz.prog g (i64 n::caps) (.bool (does n))) :
  FnV Tryz.prog 84 [i64 1048576,.clo g caps] (.tup [i64 (if does 1048576=true then qbj does 40 (-1) 1048576 else 0),.bool (does 1048576)]):=by
 refine qG mixed ql Tryz.func84 rfl (ft:=ft84) 2 (by decide +kernel) (by rfl) fun {σ} Y st=>?_;conv=>whnf
 refine qk (hg 1048576 (by omega) (by omega)) rfl rfl ?_
 cases h0:does 1048576 with
 | false=>
  simp only[Bool.false_eq_true,if_false];conv=>whnf
  exact qc 0 rfl ⟨⟨rfl,rfl⟩,rfl⟩
 | true=>
  simp only[if_true];conv=>whnf
  generalize hRES:qbj does 40 (-1) 1048576=RES;refine zP (T:=tys) ql (by exact qi mixed ql (by decide +kernel)) (α:=Int×Int) (fun z=>⟨[(0,.d (i64 1048576)),(1,.d (.clo g caps)),(6,.d (i64 z.1)),(7,.d (i64 z.2))],[],st⟩) (fun z=>-1<=z.1/\z.1<z.2/\z.2<=1048576/\qbj does 40 z.1 z.2=RES) (fun z=>(z.2-z.1).toNat) (-1,1048576) (Wk.sub (by repeat' first|exact trivial|refine⟨?_,?_⟩|rfl|(simp only[List.length_map];rfl)|simp[PX.get]) trivial) ⟨by simp,by simp,by simp,hRES⟩ ?_;rintro ⟨lo,hi⟩ ⟨h1,h2,h3,h4⟩;simp only at h1 h2 h3 h4;conv=>whnf
  refine qf (qb (by(try dsimp only);omega)) ?_;conv=>whnf
  have h239:qbj does 40 lo hi=if hi-lo>1 then (if does ((lo+hi)/2) then qbj does 39 lo ((lo+hi)/2) else qbj does 39 ((lo+hi)/2) hi) else hi:=rfl
  rw[h239]at h4;have hp:(2:Int)^39=549755813888:=by decide
  have hp':(2:Int)^40=1099511627776:=by decide
  refine qj (fun h5=>?_) (fun h5=>?_)
  ·have h5:hi-lo>1:=of_decide_eq_true h5
   rw[if_pos h5]at h4;conv=>whnf
   refine qf (qb (by(try dsimp only);omega)) ?_;conv=>whnf
   refine qm ((lo+hi)/2) (by show(lo+hi).tdiv 2=(lo+hi)/2;exact Int.tdiv_eq_ediv_of_nonneg (by omega)) (qb (by omega)) ?_;generalize hM:(lo+hi)/2=M at h4 ⊢;have hM1:lo<M/\M<hi:=by omega
   conv=>whnf
   refine qk (hg M (by omega) (by omega)) rfl rfl ?_;conv=>whnf
   cases hd:does M with
   | true=>
    rw[hd]at h4;simp only[if_true]at h4;conv=>whnf
    exact⟨(lo,M),by simp only;omega,⟨by simp only;omega,by simp only;omega,by simp only;omega,by simp only;rw[<- h4];exact qdh does 40 39 (by omega) (by omega)⟩,(Wk.sub (by repeat' first|exact trivial|refine⟨?_,?_⟩|rfl|(simp only[List.length_map];rfl)|simp[PX.get]) trivial)⟩
   | false=>
    rw[hd]at h4;simp only[Bool.false_eq_true,if_false]at h4;conv=>whnf
    exact⟨(M,hi),by simp only;omega,⟨by simp only;omega,by simp only;omega,by simp only;omega,by simp only;rw[<- h4];exact qdh does 40 39 (by omega) (by omega)⟩,(Wk.sub (by repeat' first|exact trivial|refine⟨?_,?_⟩|rfl|(simp only[List.length_map];rfl)|simp[PX.get]) trivial)⟩
  ·have h5:¬ hi-lo>1:=of_decide_eq_false h5
   rw[if_neg h5]at h4;subst h4;conv=>whnf
   exact qc 0 rfl ⟨⟨rfl,rfl⟩,rfl⟩
theorem qsn(l:PLog):FnV Tryz.prog 32 [l.d] (.tup [i64 (qoL l).1,i64 (qoL l).2]):=by
 unfold qoL;refine qG mixed ql Tryz.func32 rfl (ft:=ft32) 1 (by decide +kernel) (by rfl) fun {σ} Y st=>?_;conv=>whnf
 by_cases hc:qK l=0
 ·rw[if_pos hc]
  have hR:=zT hc;refine qk (qeg l 0 0 0 (qbU hc)) rfl rfl ?_;conv=>whnf
  refine qs (ds:=[i64 1048576,.clo 85 [.ref l.cells]]) (pa84 85 [.ref l.cells] (fun w=>qcn l w []) fun w h0 h1=>pa85 l hR w ⟨h0,h1⟩) rfl 1 rfl ?_
  cases hf:qcn l 1048576 []with
  | false=>
   simp only[Bool.false_eq_true,if_false];conv=>whnf
   exact qc 0 rfl ⟨⟨rfl,rfl⟩,rfl⟩
  | true=>
   simp only[if_true];conv=>whnf
   exact qc 0 rfl ⟨⟨rfl,rfl⟩,rfl⟩
 ·rw[if_neg hc]
  refine qk (qeg l _ _ _ (qbW l)) rfl rfl ?_;conv=>whnf
  generalize qK l=E at hc;refine qj (fun _=>?_) (fun h=>absurd hc (by simpa using h));conv=>whnf
  exact qc 0 rfl ⟨⟨rfl,rfl⟩,rfl⟩
end Go.PX
namespace Go.PX
open Go.Proofs
theorem qln{of:List Int}:∀ {n:Nat} {p:List Int} {start:Nat} {q:List Int},q∈qdn of n p start -> ∃ s,q=p++s/\s.Sublist (of.drop start)/\s.length=n
 | 0,p,start,q,h=>by
  rw[qdn,List.mem_singleton]at h;exact⟨[],by rw[h,List.append_nil],List.nil_sublist _,rfl⟩
 | n+1,p,start,q,h=>by
  rw[qdn,List.mem_flatMap]at h;obtain⟨i,hi,h⟩:=h;rw[List.mem_range'_1]at hi;obtain⟨s,rfl,h2,h3⟩:=qln h;have hil:i<of.length:=by omega
  refine⟨of[i]::s,by rw[List.getElem?_eq_getElem hil];simp,?_,by rw[List.length_cons,h3]⟩;have e:of.drop i=of[i]::of.drop (i+1):=List.drop_eq_getElem_cons hil;have h4:(of[i]::s).Sublist (of.drop i):=by rw[e];exact h2.cons₂ _
  refine h4.trans ?_;rw[show i=start+(i-start) by omega,<- List.drop_drop];exact List.drop_sublist _ _
theorem lists_len{of:List Int}{n:Nat}{q:List Int}(h:q∈qdn of n [] 0):q.length=n:=by
 obtain⟨s,rfl,_,h3⟩:=qln h;simpa using h3
end Go.PX
namespace Go.PX
open Go.Proofs
theorem qoT{b:PBook}{n:Int}:0<qne b n ↔ ∃ y∈b.ents,y.kind=3/\y.number=n:=by
 unfold qne;constructor
 ·intro h
  obtain⟨y,hy⟩:=List.exists_mem_of_length_pos h;obtain⟨hy,hq⟩:=List.mem_filter.1 hy;exact⟨y,hy,of_decide_eq_true hq⟩
 ·rintro ⟨y,hy,h⟩
  exact List.length_pos_of_mem (List.mem_filter.2 ⟨hy,decide_eq_true h⟩)
theorem in_pos{l:PLog}{n:Int}:0<inN l n ↔ ∃ b∈l.books,0<qne b n:=by
 unfold inN;constructor
 ·intro h
  obtain⟨b,hb⟩:=List.exists_mem_of_length_pos h;obtain⟨hb,hq⟩:=List.mem_filter.1 hb;exact⟨b,hb,of_decide_eq_true hq⟩
 ·rintro ⟨b,hb,h⟩
  exact List.length_pos_of_mem (List.mem_filter.2 ⟨hb,decide_eq_true h⟩)
theorem qjT{l:PLog}{y:PEnt}:y∈qkZ l↔(∃ b∈l.books,y∈b.ents)/\y.kind=3:=by
 unfold qkZ;rw[List.mem_filter,List.mem_flatMap,decide_eq_true_eq]
theorem qoU{l:PLog}{n:Int}:0<inN l n ↔ ∃ y∈qkZ l,y.number=n:=by
 rw[in_pos];constructor
 ·rintro ⟨b,hb,h⟩
  obtain⟨y,hy,h1,h2⟩:=qoT.1 h;exact⟨y,qjT.2 ⟨⟨b,hb,hy⟩,h1⟩,h2⟩
 ·rintro ⟨y,hy,h2⟩
  obtain⟨⟨b,hb,hyb⟩,h1⟩:=qjT.1 hy;exact⟨b,hb,qoT.2 ⟨y,hyb,h1,h2⟩⟩
theorem qrg{l:PLog}(h:qK l=0){y:PEnt}(hy:y∈qkZ l):1<=y.number/\y.number<=99:=by
 obtain⟨⟨b,hb,hyb⟩,h1⟩:=qjT.1 hy;have hE:=(qec h hb).2.2.2 y hyb;exact⟨(hE.rep h1).2,hE.number.2⟩
theorem fold_max(L:List PEnt):∀ m0:Int,m0<=L.foldl (fun m y=>max m y.number) m0/\(∀ y∈L,y.number<=L.foldl (fun m y=>max m y.number) m0)/\(L.foldl (fun m y=>max m y.number) m0=m0 \/ ∃ y∈L,y.number=L.foldl (fun m y=>max m y.number) m0):=by
 induction L with
 | nil=>intro m0;exact⟨Int.le_refl _,fun y hy=>(by cases hy),.inl rfl⟩
 | cons a r ih=>
  intro m0;rw[List.foldl_cons];obtain⟨h1,h2,h3⟩:=ih (max m0 a.number);refine⟨by omega,fun y hy=>?_,?_⟩
  ·rcases List.mem_cons.1 hy with rfl | hy
   ·omega
   ·exact h2 y hy
  ·rcases h3 with h3 | ⟨y,hy,he⟩
   ·rcases Int.le_total m0 a.number with hle | hle
    ·right;exact⟨a,List.mem_cons_self ..,by rw[h3];omega⟩
    ·left;rw[h3];omega
   ·right;exact⟨y,List.mem_cons_of_mem _ hy,he⟩
theorem last_ok{l:PLog}(h:qK l=0):0<=qjH l/\qjH l<=99/\(∀ n,0<inN l n->1<=n/\n<=qjH l)/\(qjH l=0\/0<inN l (qjH l)):=by
 obtain⟨h1,h2,h3⟩:=fold_max (qkZ l) 0;unfold qjH;refine⟨h1,?_,fun n hn=>?_,?_⟩
 ·rcases h3 with h3 | ⟨y,hy,he⟩
  ·omega
  ·have:=qrg h hy;omega
 ·obtain⟨y,hy,rfl⟩:=qoU.1 hn
  have:=h2 y hy;have:=qrg h hy;omega
 ·rcases h3 with h3 | ⟨y,hy,he⟩
  ·exact .inl h3
  ·exact .inr (qoU.2 ⟨y,hy,he⟩)
end Go.PX
namespace Go.PX
open Go.Proofs
abbrev NM:=List (Int×Int)
def qbv(m:NM)(n:Int):Int:=(zu m n).getD 0
def NodK(m:NM):Prop:=(m.map Prod.fst).Nodup
theorem mem_putK{m:NM}{t y x:Int}:x∈(jL m t y).map Prod.fst↔x=t\/x∈m.map Prod.fst:=by
 induction m with
 | nil=>simp[jL]
 | cons p r ih=>
  obtain⟨u,v⟩:=p;rw[jL]
  split
  ·rename_i h
   subst h;simp
  ·rw[List.map_cons,List.map_cons,List.mem_cons,List.mem_cons,ih]
   constructor
   ·rintro (h | h | h)
    ·exact .inr (.inl h)
    ·exact .inl h
    ·exact .inr (.inr h)
   ·rintro (h | h | h)
    ·exact .inr (.inl h)
    ·exact .inl h
    ·exact .inr (.inr h)
theorem NodK.put{m:NM}(h:NodK m)(t y:Int):NodK (jL m t y):=by
 induction m with
 | nil=>simp[NodK,jL]
 | cons p r ih=>
  obtain⟨u,v⟩:=p;unfold NodK at h ih ⊢;rw[List.map_cons,List.nodup_cons]at h;rw[jL]
  split
  ·rename_i he
   subst he;rw[List.map_cons,List.nodup_cons];exact h
  ·rename_i he
   rw[List.map_cons,List.nodup_cons];exact⟨fun hm=>(mem_putK.1 hm).elim (fun e=>he e.symm) h.1,ih h.2⟩
theorem qme{m:NM}(h:NodK m){i:Nat}{k v:Int}(hi:m[i]?=some (k,v)):zu m k=some v:=by
 induction m generalizing i with
 | nil=>simp at hi
 | cons p r ih=>
  obtain⟨u,w⟩:=p;unfold NodK at h ih;rw[List.map_cons,List.nodup_cons]at h;rw[zu]
  cases i with
  | zero=>rw[List.getElem?_cons_zero]at hi;cases hi;rw[if_pos rfl]
  | succ i=>
   rw[List.getElem?_cons_succ]at hi;have hk:k≠u:=fun e=>h.1 (e▸List.mem_map.2 ⟨_,List.mem_of_getElem? hi,rfl⟩);rw[if_neg hk];exact ih h.2 hi
theorem at_getV{m:NM}{k v:Int}(h:zu m k=some v):∃ i:Nat,m[i]?=some (k,v):=by
 induction m with
 | nil=>cases h
 | cons p r ih=>
  obtain⟨u,w⟩:=p;rw[zu]at h
  split at h
  ·rename_i e;cases h;subst e;exact⟨0,rfl⟩
  ·obtain⟨i,hi⟩:=ih h
   exact⟨i+1,hi⟩
theorem qfv(m:NM)(t y n:Int):qbv (jL m t y) n=if n=t then y else qbv m n:=by
 unfold qbv;rw[zK]
 split<;>rfl
def qpY(r:List PEnt)(n:Int):Nat:=(r.filter fun y=>decide (y.kind=3/\y.number=n)).length
structure MineR(r:List PEnt)(m:NM):Prop where
 nod:NodK m
 get:∀ n,qbv m n=qpY r n
 pos:∀ n v,zu m n=some v->1<=v
theorem MineR.nil:MineR [] []:=⟨by simp[NodK],fun n=>rfl,fun n v h=>by cases h⟩
theorem MineR.skip{r:List PEnt}{m:NM}(h:MineR r m){y:PEnt}(hy:y.kind≠3):MineR (r ++ [y]) m:=by
 refine⟨h.nod,fun n=>?_,h.pos⟩;rw[h.get n];unfold qpY;rw[List.filter_append,List.filter_cons,if_neg (by simp[hy])];simp
theorem MineR.inc{r:List PEnt}{m:NM}(h:MineR r m){y:PEnt}(hy:y.kind=3):MineR (r ++ [y]) (jL m y.number (qbv m y.number+1)):=by
 refine⟨h.nod.put _ _,fun n=>?_,fun n v hv=>?_⟩
 ·rw[qfv]
  unfold qpY;rw[List.filter_append,List.filter_cons]
  by_cases hn:n=y.number
  ·subst hn
   rw[if_pos rfl,if_pos (by simp[hy]),h.get];unfold qpY;simp
  ·rw[if_neg hn,if_neg (by simp[hy];exact fun e=>hn e.symm),h.get]
   unfold qpY;simp
 ·rw[zK]at hv
  split at hv
  ·cases hv
   have:=h.get y.number;omega
  ·exact h.pos n v hv
structure CntR(bs:List PBook)(m1 m2:NM):Prop where
 in':∀ n,qbv m1 n=(bs.filter fun b=>decide (0<qne b n)).length
 most:∀ n,qbv m2 n=(bs.map fun b=>qne b n).foldl max 0
def Dn(mine:NM)(todo:List Nat)(n:Int):Prop:=∃ (i:Nat) (v:Int),i∉todo/\mine[i]?=some (n,v)
structure RngR(mine b1 b2:NM)(todo:List Nat)(m1 m2:NM):Prop where
 yes:∀ n,Dn mine todo n->qbv m1 n=qbv b1 n+1/\qbv m2 n=max (qbv b2 n) (qbv mine n)
 no:∀ n,¬ Dn mine todo n->qbv m1 n=qbv b1 n/\qbv m2 n=qbv b2 n
theorem RngR.start(mine b1 b2:NM):RngR mine b1 b2 (List.range mine.length) b1 b2:=
 ⟨fun n ⟨i,v,h1,h2⟩=>absurd (List.mem_range.2 (List.getElem?_eq_some_iff.1 h2).1) h1,fun _ _=>⟨rfl,rfl⟩⟩
theorem RngR.step{mine b1 b2 m1 m2:NM}{todo:List Nat}(hn:NodK mine)(h:RngR mine b1 b2 todo m1 m2){i:Nat}{k v:Int}(hi:i∈todo)(hk:mine[i]?=some (k,v)) :
  RngR mine b1 b2 (todo.filter fun j=>!Nat.beq j i) (jL m1 k (qbv m1 k+1)) (jL m2 k (max (qbv m2 k) v)):=by
 have hmem:∀ j,j∉todo.filter (fun j=>!Nat.beq j i)↔j∉todo\/j=i:=fun j=>by
  rw[List.mem_filter]
  by_cases hj:j=i
  ·subst hj;simp
  ·have:Nat.beq j i=false:=by
    cases hb:Nat.beq j i with
    | false=>rfl
    | true=>exact absurd (Nat.eq_of_beq_eq_true hb) hj
   rw[this];simp[hj]
 have one:∀ {j:Nat} {w:Int},mine[j]?=some (k,w)->j=i:=fun {j w} hj=>by
  have h1:(mine.map Prod.fst)[j]?=some k:=by rw[List.getElem?_map,hj];rfl
  have h2:(mine.map Prod.fst)[i]?=some k:=by rw[List.getElem?_map,hk];rfl
  have hjl:=(List.getElem?_eq_some_iff.1 h1).1;exact(List.getElem?_inj hjl hn).1 (h1.trans h2.symm)
 have hkn:¬ Dn mine todo k:=fun⟨j,w,h1,h2⟩=>h1 (one h2▸hi);have hgk:qbv mine k=v:=by unfold qbv;rw[qme hn hk];rfl
 have hdn:∀ n,n≠k->(Dn mine (todo.filter fun j=>!Nat.beq j i) n↔Dn mine todo n):=fun n hnk=>by
  constructor
  ·rintro ⟨j,w,h1,h2⟩
   rcases (hmem j).1 h1 with h1 | rfl
   ·exact⟨j,w,h1,h2⟩
   ·rw[hk]at h2;cases h2;exact absurd rfl hnk
  ·rintro ⟨j,w,h1,h2⟩
   exact⟨j,w,(hmem j).2 (.inl h1),h2⟩
 obtain⟨g1,g2⟩:=h.no k hkn;refine⟨fun n hd=>?_,fun n hd=>?_⟩
 ·rw[qfv,qfv]
  by_cases hnk:n=k
  ·subst hnk
   rw[if_pos rfl,if_pos rfl,g1,g2,hgk];exact⟨rfl,rfl⟩
  ·rw[if_neg hnk,if_neg hnk]
   exact h.yes n ((hdn n hnk).1 hd)
 ·have hnk:n≠k:=fun e=>hd (e▸⟨i,v,(hmem i).2 (.inr rfl),hk⟩)
  rw[qfv,qfv,if_neg hnk,if_neg hnk];exact h.no n fun hd2=>hd ((hdn n hnk).2 hd2)
theorem RngR.fin{bs:List PBook}{b:PBook}{mine b1 b2 m1 m2:NM}(hb:CntR bs b1 b2)(hm:MineR b.ents mine)(h:RngR mine b1 b2 [] m1 m2):CntR (bs ++ [b]) m1 m2:=by
 have hd:∀ n,Dn mine [] n↔0<qne b n:=fun n=>by
  have hg:=hm.get n;constructor
  ·rintro ⟨i,v,_,hi⟩
   have h1:=qme hm.nod hi;have h2:=hm.pos n v h1;unfold qbv at hg;rw[h1]at hg;show 0<qpY b.ents n;simp only[Option.getD_some]at hg;omega
  ·intro hp
   have hp:0<qpY b.ents n:=hp
   cases hv:zu mine n with
   | none=>unfold qbv at hg;rw[hv]at hg;simp only[Option.getD_none]at hg;omega
   | some v=>
    obtain⟨i,hi⟩:=at_getV hv;exact⟨i,v,by simp,hi⟩
 have hg:∀ n,qbv mine n=qne b n:=hm.get;refine⟨fun n=>?_,fun n=>?_⟩
 ·rw[List.filter_append,List.length_append,List.filter_cons]
  have h1:=hb.in' n
  by_cases hp:0<qne b n
  ·rw[(h.yes n ((hd n).2 hp)).1,h1,if_pos (by simpa using hp)];simp
  ·rw[(h.no n fun hh=>hp ((hd n).1 hh)).1,h1,if_neg (by simpa using hp)];simp
 ·rw[List.map_append,List.foldl_append]
  have h1:=hb.most n;have h2:=hg n;show _=((max ((bs.map fun b=>qne b n).foldl max 0) (qne b n):Nat):Int)
  by_cases hp:0<qne b n
  ·rw[(h.yes n ((hd n).2 hp)).2,h1,h2];omega
  ·rw[(h.no n fun hh=>hp ((hd n).1 hh)).2,h1];omega
theorem CntR.bd{bs:List PBook}{m1 m2:NM}(h:CntR bs m1 m2)(n:Int):0<=qbv m1 n/\qbv m1 n<=bs.length/\0<=qbv m2 n:=by
 have h1:=h.in' n;have h2:=h.most n;have h3:(bs.filter fun b=>decide (0<qne b n)).length<=bs.length:=List.length_filter_le _ _;omega
theorem qfS{κ ν:Type}{kd:κ->D}{vd:ν->D}(m:List (κ×ν)):(kvV kd vd m).length=m.length:=by simp[kvV]
theorem kvV_get{m:NM}{i:Nat}{kv:D×D}(h:(kvV qD qD m)[i]?=some kv):∃ x v,m[i]?=some (x,v)/\kv=(i64 x,i64 v):=by
 unfold kvV at h;rw[List.getElem?_map,Option.map_eq_some_iff]at h;obtain⟨⟨x,v⟩,h1,h2⟩:=h;exact⟨x,v,h1,h2.symm⟩
theorem filter_lt{l:List Nat}{i:Nat}(h:i∈l):(l.filter fun j=>!Nat.beq j i).length<l.length:=by
 induction l with
 | nil=>cases h
 | cons a r ih=>
  rw[List.filter_cons]
  by_cases ha:a=i
  ·subst ha
   rw[show Nat.beq a a=true from Nat.beq_refl a];have:=List.length_filter_le (fun j=>!Nat.beq j a) r;simp only[Bool.not_true,Bool.false_eq_true,if_false,List.length_cons];omega
  ·have hb:Nat.beq a i=false:=by
    cases hb:Nat.beq a i with
    | false=>rfl
    | true=>exact absurd (Nat.eq_of_beq_eq_true hb) ha
   rw[hb];have:=ih ((List.mem_cons.1 h).resolve_left fun e=>ha e.symm);simp only[Bool.not_false,if_true,List.length_cons];omega
set_option maxHeartbeats 4000000 in
theorem qso(l:PLog)(hR:LogR l):FnU Tryz.prog 86 [.d l.d] [] fun v h'=>h' = [] /\ ∃ m1 m2,CntR l.books m1 m2/\v = .d (.tup [.mv (kvV qD qD m1),.mv (kvV qD qD m2)]):=by
 intro σ Y st;refine qaP mixed ql Tryz.func86 rfl (ft:=qrY) (args:=[.d l.d]) (show fnB qrY Tryz.f86 1=true from by decide +kernel) ?_;conv=>whnf
 refine zr (T:=tys) ql (by exact qi mixed ql (by decide +kernel)) l.books (fun i (x:NM×NM)=>⟨[(2,.mp 13),(3,.mp 14),(16,.d (qR l.books)),(17,.d (i64 l.books.length)),(18,.d (i64 i))],[(13,.map (kvV qD qD x.1)),(14,.map (kvV qD qD x.2))],st⟩) (fun i r x=>CntR (l.books.take i) x.1 x.2) ([],[]) (Wk.sub (by repeat' first|exact trivial|refine⟨?_,?_⟩|rfl|(simp only[List.length_map];rfl)|simp[PX.get]) (by repeat' first|exact trivial|refine⟨?_,?_⟩|rfl|(simp only[List.length_map];rfl)|simp[PX.get])) ⟨fun n=>rfl,fun n=>rfl⟩ ?_ ?_
 ·rintro i b r ⟨b1,b2⟩ hb hi hr hC
  have hbl:=hR.books;have hB:=hR.book b (List.mem_of_getElem? hb);have hbe:=hB.ents;have htk:l.books.take (i+1)=l.books.take i ++ [b]:=by rw[List.take_succ,hb];rfl
  simp only at hC;conv=>whnf
  refine qj (fun _=>?_) (fun h=>absurd hi (by simpa using h));conv=>whnf
  refine qw hb ?_;conv=>whnf
  refine zr (T:=tys) ql (by exact qi mixed ql (by decide +kernel)) b.ents (fun k (m:NM)=>⟨[(2,.mp 13),(3,.mp 14),(16,.d (qR l.books)),(17,.d (i64 l.books.length)),(18,.d (i64 i)),(6,.mp 22),(24,.d (qeC b.ents)),(25,.d (i64 b.ents.length)),(26,.d (i64 k))],[(13,.map (kvV qD qD b1)),(14,.map (kvV qD qD b2)),(22,.map (kvV qD qD m))],st⟩) (fun k r m=>MineR (b.ents.take k) m) [] (Wk.sub (by repeat' first|exact trivial|refine⟨?_,?_⟩|rfl|(simp only[List.length_map];rfl)|simp[PX.get]) (by repeat' first|exact trivial|refine⟨?_,?_⟩|rfl|(simp only[List.length_map];rfl)|simp[PX.get])) (by rw[List.take_zero];exact MineR.nil) ?_ ?_
  ·rintro k y q m hy hk hq hM
   have hte:b.ents.take (k+1)=b.ents.take k ++ [y]:=by rw[List.take_succ,hy];rfl
   have hyk:=(hB.ent y (List.mem_of_getElem? hy)).2.1;conv=>whnf
   refine qj (fun _=>?_) (fun h=>absurd hk (by simpa using h));conv=>whnf
   refine qw hy ?_;conv=>whnf
   refine qk (qpd y) rfl rfl ?_
   by_cases h3:y.kind=3
   ·have ht:zj y = .ifc 156 (.agg [.str y.word,i64 y.number]):=by unfold zj;rw[if_neg (by omega),if_neg (by omega),if_pos h3]
    rw[ht];have hM2:=hM.inc h3;rw[<- hte]at hM2;have hb8:qbv m y.number<=k:=by
     rw[hM.get];have h1:qpY (b.ents.take k) y.number<=(b.ents.take k).length:=List.length_filter_le _ _;rw[List.length_take]at h1;omega
    have hb0:0<=qbv m y.number:=by rw[hM.get];omega
    generalize hG:qbv m y.number=G at hM2 hb8 hb0;conv=>whnf
    cases hg:zu m y.number with
    | none=>
     have hG0:G=0:=by rw[<- hG];unfold qbv;rw[hg];rfl
     refine⟨none,qt (kd:=qD) qv hg 0,?_⟩;conv=>whnf
     refine qm (G+1) (by omega) (qb (by omega)) ?_;conv=>whnf
     refine⟨none,qt (kd:=qD) qv hg 0,?_⟩;conv=>whnf
     refine qf (qb (by(try dsimp only);omega)) ?_;conv=>whnf
     refine⟨_,hM2,Wk.sub ⟨rfl,rfl,rfl,rfl,rfl,rfl,rfl,rfl,rfl,trivial⟩ ⟨rfl,rfl,?_,trivial⟩⟩;exact congrArg (fun z=>some (Obj.map z)) (zf (kd:=qD) (vd:=qD) (G+1) hg)
    | some v=>
     have hG0:G=v:=by rw[<- hG];unfold qbv;rw[hg];rfl
     obtain⟨ix,_,hx1,hx2,_⟩:=qC (kd:=qD) (vd:=qD) qv hg 0;refine⟨_,hx1,?_⟩;conv=>whnf
     refine qm (G+1) (by omega) (qb (by omega)) ?_;conv=>whnf
     refine⟨_,hx1,?_⟩;conv=>whnf
     refine qf (qb (by(try dsimp only);omega)) ?_;conv=>whnf
     refine⟨_,hM2,Wk.sub ⟨rfl,rfl,rfl,rfl,rfl,rfl,rfl,rfl,rfl,trivial⟩ ⟨rfl,rfl,?_,trivial⟩⟩;show some (Obj.map ((kvV qD qD m).set (0+ix) (i64 y.number,i64 (G+1))))=_;rw[Nat.zero_add];exact congrArg (fun z=>some (Obj.map z)) (hx2 (G+1))
   ·have hM2:=hM.skip h3
    rw[<- hte]at hM2
    by_cases h2:y.kind=2
    ·have ht:zj y = .ifc 175 (.agg []):=by unfold zj;rw[if_neg (by omega),if_pos h2]
     rw[ht];conv=>whnf
     refine qf (qb (by(try dsimp only);omega)) ?_;conv=>whnf
     exact⟨m,hM2,(Wk.sub (by repeat' first|exact trivial|refine⟨?_,?_⟩|rfl|(simp only[List.length_map];rfl)|simp[PX.get]) (by repeat' first|exact trivial|refine⟨?_,?_⟩|rfl|(simp only[List.length_map];rfl)|simp[PX.get]))⟩
    ·have ht:zj y = .ifc 138 (.agg [.str y.word]):=by unfold zj;rw[if_pos (by omega)]
     rw[ht];conv=>whnf
     refine qf (qb (by(try dsimp only);omega)) ?_;conv=>whnf
     exact⟨m,hM2,(Wk.sub (by repeat' first|exact trivial|refine⟨?_,?_⟩|rfl|(simp only[List.length_map];rfl)|simp[PX.get]) (by repeat' first|exact trivial|refine⟨?_,?_⟩|rfl|(simp only[List.length_map];rfl)|simp[PX.get]))⟩
  ·rintro m hM
   rw[List.take_length]at hM;conv=>whnf
   refine qj (fun h=>absurd h (by simp)) (fun _=>?_);conv=>whnf
   refine zP (T:=tys) ql (by exact qi mixed ql (by decide +kernel)) (α:=List Nat×(NM×(NM×Option Nat)))
    (fun p=>⟨[(2,.mp 13),(3,.mp 14),(16,.d (qR l.books)),(17,.d (i64 l.books.length)),(18,.d (i64 i)),(44,.it 44)],[(13,.map (kvV qD qD p.2.1)),(14,.map (kvV qD qD p.2.2.1)),(22,.map (kvV qD qD m)),(44,.mit (.mp 22) m.length p.1 p.2.2.2)],st⟩)
    (fun p=>RngR m b1 b2 p.1 p.2.1 p.2.2.1) (fun p=>p.1.length) (List.range m.length,(b1,(b2,none))) ?wk2 (RngR.start m b1 b2) ?_
   case wk2=>
    refine Wk.sub ⟨rfl,rfl,rfl,rfl,rfl,rfl,trivial⟩ ⟨rfl,rfl,rfl,?_,trivial⟩;show some (Obj.mit (V.mp 22) (kvV qD qD m).length (List.range (kvV qD qD m).length) none)=_;rw[qfS]
   rintro ⟨todo,m1,m2,cur⟩ hRg;simp only at hRg;conv=>whnf
   refine⟨by simp[qfS],fun h0=>?_,fun j kv hj hkv=>?_⟩
   ·have h0:todo = []:=h0
    subst h0;have hC2:=hRg.fin hC hM;rw[<- htk]at hC2;conv=>whnf
    refine qf (qb (by(try dsimp only);omega)) ?_;conv=>whnf
    exact⟨(m1,m2),hC2,(Wk.sub (by repeat' first|exact trivial|refine⟨?_,?_⟩|rfl|(simp only[List.length_map];rfl)|simp[PX.get]) (by repeat' first|exact trivial|refine⟨?_,?_⟩|rfl|(simp only[List.length_map];rfl)|simp[PX.get]))⟩
   ·obtain⟨n,v,hnv,rfl⟩:=kvV_get hkv
    have hj:j∈todo:=hj;have hlt:=filter_lt hj;have hstep:=hRg.step hM.nod hj hnv;have hgm:=qme hM.nod hnv;conv=>whnf
    refine⟨by simp[qfS],(i64 n,i64 v),hkv,?_⟩;conv=>whnf
    have hv1:=hM.pos n v hgm;have hbd:qbv m1 n<=3/\0<=qbv m1 n:=by
     have:=hC.bd n;rw[List.length_take]at this;have hnd:¬ Dn m todo n:=fun⟨j',w,h1,h2⟩=>by
      have hjl:=(List.getElem?_eq_some_iff.1 h2).1;have e1:(m.map Prod.fst)[j']?=some n:=by rw[List.getElem?_map,h2];rfl
      have e2:(m.map Prod.fst)[j]?=some n:=by rw[List.getElem?_map,hnv];rfl
      have:j'=j:=(List.getElem?_inj (by simpa using hjl) hM.nod).1 (e1.trans e2.symm);exact h1 (this▸hj)
     have:=(hRg.no n hnd).1;omega
    generalize hG1:qbv m1 n=G1 at hstep hbd;generalize hG2:qbv m2 n=G2 at hstep
    cases hg1:zu m1 n with
    | none=>
     have hG0:G1=0:=by rw[<- hG1];unfold qbv;rw[hg1];rfl
     refine⟨none,qt (kd:=qD) qv hg1 0,?_⟩;conv=>whnf
     refine qm (G1+1) (by omega) (qb (by omega)) ?_;conv=>whnf
     refine⟨none,qt (kd:=qD) qv hg1 0,?_⟩;conv=>whnf
     cases hg2:zu m2 n with
     | none=>
      have hH0:G2=0:=by rw[<- hG2];unfold qbv;rw[hg2];rfl
      refine⟨none,qt (kd:=qD) qv hg2 0,?_⟩;conv=>whnf
      refine⟨none,qt (kd:=qD) qv hg2 0,?_⟩;conv=>whnf
      refine⟨(todo.filter fun j'=>!Nat.beq j' j,(jL m1 n (G1+1),(jL m2 n (max G2 v),some j))),hlt,hstep,Wk.sub ⟨rfl,rfl,rfl,rfl,rfl,rfl,trivial⟩ ⟨?_,?_,rfl,rfl,trivial⟩⟩
      ·exact congrArg (fun z=>some (Obj.map z)) (zf (kd:=qD) (vd:=qD) (G1+1) hg1)
      ·rw[hH0]
       exact congrArg (fun z=>some (Obj.map z)) (zf (kd:=qD) (vd:=qD) (max 0 v) hg2)
     | some v2=>
      have hH0:G2=v2:=by rw[<- hG2];unfold qbv;rw[hg2];rfl
      obtain⟨iy,_,hy1,hy2,_⟩:=qC (kd:=qD) (vd:=qD) qv hg2 0;refine⟨_,hy1,?_⟩;conv=>whnf
      refine⟨_,hy1,?_⟩;conv=>whnf
      refine⟨(todo.filter fun j'=>!Nat.beq j' j,(jL m1 n (G1+1),(jL m2 n (max G2 v),some j))),hlt,hstep,Wk.sub ⟨rfl,rfl,rfl,rfl,rfl,rfl,trivial⟩ ⟨?_,?_,rfl,rfl,trivial⟩⟩
      ·exact congrArg (fun z=>some (Obj.map z)) (zf (kd:=qD) (vd:=qD) (G1+1) hg1)
      ·rw[hH0]
       show some (Obj.map ((kvV qD qD m2).set (0+iy) (i64 n,i64 (max v2 v))))=_;rw[Nat.zero_add];exact congrArg (fun z=>some (Obj.map z)) (hy2 (max v2 v))
    | some v1=>
     have hG0:G1=v1:=by rw[<- hG1];unfold qbv;rw[hg1];rfl
     obtain⟨ix,_,hx1,hx2,_⟩:=qC (kd:=qD) (vd:=qD) qv hg1 0;refine⟨_,hx1,?_⟩;conv=>whnf
     refine qm (G1+1) (by omega) (qb (by omega)) ?_;conv=>whnf
     refine⟨_,hx1,?_⟩;conv=>whnf
     cases hg2:zu m2 n with
     | none=>
      have hH0:G2=0:=by rw[<- hG2];unfold qbv;rw[hg2];rfl
      refine⟨none,qt (kd:=qD) qv hg2 0,?_⟩;conv=>whnf
      refine⟨none,qt (kd:=qD) qv hg2 0,?_⟩;conv=>whnf
      refine⟨(todo.filter fun j'=>!Nat.beq j' j,(jL m1 n (G1+1),(jL m2 n (max G2 v),some j))),hlt,hstep,Wk.sub ⟨rfl,rfl,rfl,rfl,rfl,rfl,trivial⟩ ⟨?_,?_,rfl,rfl,trivial⟩⟩
      ·(show some (Obj.map ((kvV qD qD m1).set (0+ix) (i64 n,i64 (G1+1))))=_);rw[Nat.zero_add];exact congrArg (fun z=>some (Obj.map z)) (hx2 (G1+1))
      ·rw[hH0]
       exact congrArg (fun z=>some (Obj.map z)) (zf (kd:=qD) (vd:=qD) (max 0 v) hg2)
     | some v2=>
      have hH0:G2=v2:=by rw[<- hG2];unfold qbv;rw[hg2];rfl
      obtain⟨iy,_,hy1,hy2,_⟩:=qC (kd:=qD) (vd:=qD) qv hg2 0;refine⟨_,hy1,?_⟩;conv=>whnf
      refine⟨_,hy1,?_⟩;conv=>whnf
      refine⟨(todo.filter fun j'=>!Nat.beq j' j,(jL m1 n (G1+1),(jL m2 n (max G2 v),some j))),hlt,hstep,Wk.sub ⟨rfl,rfl,rfl,rfl,rfl,rfl,trivial⟩ ⟨?_,?_,rfl,rfl,trivial⟩⟩
      ·(show some (Obj.map ((kvV qD qD m1).set (0+ix) (i64 n,i64 (G1+1))))=_);rw[Nat.zero_add];exact congrArg (fun z=>some (Obj.map z)) (hx2 (G1+1))
      ·rw[hH0]
       show some (Obj.map ((kvV qD qD m2).set (0+iy) (i64 n,i64 (max v2 v))))=_;rw[Nat.zero_add];exact congrArg (fun z=>some (Obj.map z)) (hy2 (max v2 v))
 ·rintro ⟨m1,m2⟩ hC
  rw[List.take_length]at hC;conv=>whnf
  refine qj (fun h=>absurd h (by simp)) (fun _=>?_);conv=>whnf
  refine qc 1 (ds:=[.mv (kvV qD qD m1),.mv (kvV qD qD m2)]) (qH (qgB rfl) (qH (qgB rfl) rfl)) ⟨⟨rfl,m1,m2,hC,rfl⟩,rfl⟩
end Go.PX
namespace Go.PX
open Go.Proofs
def qrh(s:ByteArray):D:=.str s
abbrev WM:=List (Int×ByteArray)
def qnI(r:List PEnt):List PEnt:=r.filter fun y=>decide (y.kind=3)
def qrq(m0:Int)(r:List PEnt):Int:=r.foldl (fun m y=>max m y.number) m0
def jE(l:List Int):List (List D):=l.map fun n=>[i64 n]
theorem qiX{σ:Type}{l:List V}{h:Heap}{s:σ}{Q:V->Heap->σ->Prop}(n:Nat){ds:List D}(hv:zZ (qco h n) l=some ds){d:D}(hd:relax (qhY ds)=d)(hq:Q (.d d) [] s):RetA l h s Q:=by
 subst hd;refine⟨fun cx L F vals w hh hr=>?_⟩;have tr:=qaG hh;exact⟨_,[],L,qav L F h w,hq,qkF hh,RepD.relax _ _ (qor (qcm tr (qgg hh n) l vals ds hv hr)),tr,fun _ _=>⟨rfl,rfl⟩⟩
set_option maxHeartbeats 4000000 in
theorem pa37(l:PLog):FnV Tryz.prog 37 [l.d] (.tup [qU (qqU l).1,qU (qqU l).2.1,i64 (qqU l).2.2]):=by
 unfold qqU;refine qG mixed ql Tryz.func37 rfl (ft:=ft37) 1 (by decide +kernel) (by rfl) fun {σ} Y st=>?_;conv=>whnf
 by_cases hc:qK l=0
 ·rw[if_pos hc]
  have hR:=zT hc;have hbl:=hR.books;have hlast:=last_ok hc;refine qk (qeg l 0 0 0 (qbU hc)) rfl rfl ?_;conv=>whnf
  generalize hT:qgn [] (qkZ l)=T;generalize hL:qjH l=L at hlast;have hT:qgn [] (qnI (l.books.flatMap PBook.ents))=T:=hT;have hL2:qrq 0 (qnI (l.books.flatMap PBook.ents))=L:=hL;refine zr (T:=tys) ql (by exact qi mixed ql (by decide +kernel)) l.books (fun i (x:WM×Int)=>⟨[(1,.ptr 1 0),(2,.d .nils),(3,.d .nils),(5,.mp 27),(6,.d (i64 x.2)),(29,.d (qR l.books)),(30,.d (i64 l.books.length)),(31,.d (i64 i))],[(1,.box (.dd l.cells)),(27,.map (kvV qD qrh x.1))],st⟩) (fun i r x=>qgn x.1 (qnI (r.flatMap PBook.ents))=T/\qrq x.2 (qnI (r.flatMap PBook.ents))=L/\0<=x.2/\x.2<=99) ([],0) (Wk.sub (by repeat' first|exact trivial|refine⟨?_,?_⟩|rfl|(simp only[List.length_map];rfl)|simp[PX.get]) (by repeat' first|exact trivial|refine⟨?_,?_⟩|rfl|(simp only[List.length_map];rfl)|simp[PX.get])) ⟨hT,hL2,by simp,by simp⟩ ?_ ?_
  ·rintro i b r ⟨m,last⟩ hb hi hr ⟨he1,he2,hla⟩
   have hB:=hR.book b (List.mem_of_getElem? hb);have hbe:=hB.ents;simp only at he1 he2 hla;rw[List.flatMap_cons]at he1 he2;conv=>whnf
   refine qj (fun _=>?_) (fun h=>absurd hi (by simpa using h));conv=>whnf
   refine qw hb ?_;conv=>whnf
   refine zr (T:=tys) ql (by exact qi mixed ql (by decide +kernel)) b.ents (fun k (x:WM×Int)=>⟨[(1,.ptr 1 0),(2,.d .nils),(3,.d .nils),(5,.mp 27),(6,.d (i64 x.2)),(29,.d (qR l.books)),(30,.d (i64 l.books.length)),(31,.d (i64 i)),(36,.d (qeC b.ents)),(37,.d (i64 b.ents.length)),(38,.d (i64 k))],[(1,.box (.dd l.cells)),(27,.map (kvV qD qrh x.1))],st⟩) (fun k q x=>qgn x.1 (qnI (q++r.flatMap PBook.ents))=T/\qrq x.2 (qnI (q++r.flatMap PBook.ents))=L/\0<=x.2/\x.2<=99) (m,last) (Wk.sub (by repeat' first|exact trivial|refine⟨?_,?_⟩|rfl|(simp only[List.length_map];rfl)|simp[PX.get]) (by repeat' first|exact trivial|refine⟨?_,?_⟩|rfl|(simp only[List.length_map];rfl)|simp[PX.get])) ⟨he1,he2,hla⟩ ?_ ?_
   ·rintro k y q ⟨m,last⟩ hy hk hq ⟨he1,he2,hla⟩
    have hyR:=hB.ent y (List.mem_of_getElem? hy);simp only at he1 he2 hla;conv=>whnf
    refine qj (fun _=>?_) (fun h=>absurd hk (by simpa using h));conv=>whnf
    refine qw hy ?_;conv=>whnf
    refine qk (qpd y) rfl rfl ?_
    by_cases h3:y.kind=3
    ·have ht:zj y = .ifc 156 (.agg [.str y.word,i64 y.number]):=by unfold zj;rw[if_neg (by omega),if_neg (by omega),if_pos h3]
     rw[ht];have h3k:qnI (y::q++r.flatMap PBook.ents)=y::qnI (q++r.flatMap PBook.ents):=by unfold qnI;rw[List.cons_append,List.filter_cons,if_pos (by simp[h3])]
     rw[h3k]at he1 he2;rw[qgn]at he1;have he2:qrq (max last y.number) (qnI (q++r.flatMap PBook.ents))=L:=he2;conv=>whnf
     cases hg:zu m y.number with
     | none=>
      rw[hg]at he1;simp only at he1;refine⟨none,qt (kd:=qD) qv hg 0,?_⟩;conv=>whnf
      refine⟨none,qt (kd:=qD) qv hg 0,?_⟩;conv=>whnf
      refine qf (qb (by(try dsimp only);omega)) ?_;conv=>whnf
      refine⟨(jL m y.number y.word,max last y.number),⟨he1,he2,by simp only;omega⟩,Wk.sub ⟨rfl,rfl,rfl,rfl,rfl,rfl,rfl,rfl,rfl,rfl,rfl,trivial⟩ ⟨rfl,?_,trivial⟩⟩;exact congrArg (fun z=>some (Obj.map z)) (zf (kd:=qD) (vd:=qrh) y.word hg)
     | some w=>
      rw[hg]at he1;simp only at he1;obtain⟨ix,_,hx1,hx2,_⟩:=qC (kd:=qD) (vd:=qrh) qv hg 0;refine⟨_,hx1,?_⟩;conv=>whnf
      by_cases hw:w=y.word
      ·rw[if_pos hw]at he1
       rw[decide_eq_true hw];conv=>whnf
       refine⟨_,hx1,?_⟩;conv=>whnf
       refine qf (qb (by(try dsimp only);omega)) ?_;conv=>whnf
       refine⟨(jL m y.number y.word,max last y.number),⟨he1,he2,by simp only;omega⟩,Wk.sub ⟨rfl,rfl,rfl,rfl,rfl,rfl,rfl,rfl,rfl,rfl,rfl,trivial⟩ ⟨rfl,?_,trivial⟩⟩;show some (Obj.map ((kvV qD qrh m).set (0+ix) (i64 y.number,.str y.word)))=_;rw[Nat.zero_add];exact congrArg (fun z=>some (Obj.map z)) (hx2 y.word)
      ·rw[if_neg hw]at he1
       subst he1;rw[decide_eq_false hw];simp only[if_true];conv=>whnf
       refine qiX 0 rfl (d:=.tup [qU [],qU [],i64 5]) rfl ⟨⟨rfl,rfl⟩,rfl⟩
    ·have h3k:qnI (y::q++r.flatMap PBook.ents)=qnI (q++r.flatMap PBook.ents):=by unfold qnI;rw[List.cons_append,List.filter_cons,if_neg (by simp[h3])]
     rw[h3k]at he1 he2
     by_cases h2:y.kind=2
     ·have ht:zj y = .ifc 175 (.agg []):=by unfold zj;rw[if_neg (by omega),if_pos h2]
      rw[ht];conv=>whnf
      refine qf (qb (by(try dsimp only);omega)) ?_;conv=>whnf
      exact⟨(m,last),⟨he1,he2,hla⟩,(Wk.sub (by repeat' first|exact trivial|refine⟨?_,?_⟩|rfl|(simp only[List.length_map];rfl)|simp[PX.get]) (by repeat' first|exact trivial|refine⟨?_,?_⟩|rfl|(simp only[List.length_map];rfl)|simp[PX.get]))⟩
     ·have ht:zj y = .ifc 138 (.agg [.str y.word]):=by unfold zj;rw[if_pos (by omega)]
      rw[ht];conv=>whnf
      refine qf (qb (by(try dsimp only);omega)) ?_;conv=>whnf
      exact⟨(m,last),⟨he1,he2,hla⟩,(Wk.sub (by repeat' first|exact trivial|refine⟨?_,?_⟩|rfl|(simp only[List.length_map];rfl)|simp[PX.get]) (by repeat' first|exact trivial|refine⟨?_,?_⟩|rfl|(simp only[List.length_map];rfl)|simp[PX.get]))⟩
   ·rintro ⟨m,last⟩ ⟨he1,he2,hla⟩
    simp only at he1 he2 hla;rw[List.nil_append]at he1 he2;conv=>whnf
    refine qj (fun h=>absurd h (by simp)) (fun _=>?_);conv=>whnf
    refine qf (qb (by(try dsimp only);omega)) ?_;conv=>whnf
    exact⟨(m,last),⟨he1,he2,hla⟩,(Wk.sub (by repeat' first|exact trivial|refine⟨?_,?_⟩|rfl|(simp only[List.length_map];rfl)|simp[PX.get]) (by repeat' first|exact trivial|refine⟨?_,?_⟩|rfl|(simp only[List.length_map];rfl)|simp[PX.get]))⟩
  ·rintro ⟨m,last⟩ ⟨he1,he2,hla⟩
   have he1:false=T:=he1;have he2:last=L:=he2;subst he1;subst he2;simp only[Bool.false_eq_true,if_false];conv=>whnf
   refine qj (fun h=>absurd h (by simp)) (fun _=>?_);conv=>whnf
   refine qjx (qso l hR Y st) [] rfl rfl rfl rfl ?_;rintro v h1 s' ⟨⟨rfl,m1,m2,hC,rfl⟩,rfl⟩;refine⟨rfl,?_⟩;conv=>whnf
   have hin:∀ n,qbv m1 n=(inN l n:Nat):=hC.in';have hmost:∀ n,qbv m2 n=(qpu l n:Nat):=hC.most;unfold qqS qqT;rw[hL];generalize hMS:((List.range' 1 last.toNat).map fun(n:Nat)=>(n:Int)).filter (fun n=>decide (inN l n=0))=MS;generalize hCP:((List.range' 1 last.toNat).map fun(n:Nat)=>(n:Int)).filter (fun n=>decide (inN l n≠0)&&decide (1<qpu l n))=CP;have hln:(last.toNat:Int)=last:=by omega
   refine zP (T:=tys) ql (by exact qi mixed ql (by decide +kernel)) (α:=Nat×(List Int×List Int)) (fun z=>⟨[(2,.sl 93 1 0 z.2.1.length),(3,.sl 102 1 0 z.2.2.length),(6,.d (i64 last)),(15,.d (.mv (kvV qD qD m1))),(16,.d (.mv (kvV qD qD m2))),(17,.d (i64 z.1))],[(93,.arr 1 (.dd (jE z.2.1))),(102,.arr 1 (.dd (jE z.2.2)))],s'⟩)
    (fun z=>1<=z.1/\z.1<=last.toNat+1/\z.2.1.length<=z.1/\z.2.2.length<=z.1/\z.2.1++((List.range' z.1 (last.toNat+1-z.1)).map fun(n:Nat)=>(n:Int)).filter (fun n=>decide (inN l n=0))=MS/\z.2.2++((List.range' z.1 (last.toNat+1-z.1)).map fun(n:Nat)=>(n:Int)).filter (fun n=>decide (inN l n≠0)&&decide (1<qpu l n))=CP) (fun z=>last.toNat+1-z.1) (1,([],[])) ?_ ⟨by simp,by simp,by simp,by simp,hMS,hCP⟩ ?_
   ·exact(Wk.born 2 93 1 rfl rfl rfl).trans ((Wk.born 3 102 1 rfl rfl rfl).trans (Wk.sub (by repeat' first|exact trivial|refine⟨?_,?_⟩|rfl|(simp only[List.length_map];rfl)|simp[PX.get]) (by repeat' first|exact trivial|refine⟨?_,?_⟩|rfl|(simp only[List.length_map];rfl)|simp[PX.get])))
   rintro ⟨n,a,c⟩ ⟨hn1,hn2,ha,hcl,hMS,hCP⟩;simp only at hn1 hn2 ha hcl hMS hCP;conv=>whnf
   refine qj (fun h1=>?_) (fun h1=>?_)
   ·have h1:n<last.toNat+1:=by have:=of_decide_eq_true h1;simp only at this;omega
    obtain⟨k,hk1⟩:∃ k,last.toNat+1-n=k+1:=⟨last.toNat-n,by omega⟩;have hk2:last.toNat+1-(n+1)=k:=by omega
    rw[hk1,List.range'_succ,List.map_cons,List.filter_cons]at hMS hCP;conv=>whnf
    have hi1:=hin n;have hi2:=hmost n
    cases hg1:zu m1 n with
    | none=>
     unfold qbv at hi1;rw[hg1]at hi1;simp only[Option.getD_none]at hi1;refine⟨none,qt (kd:=qD) qv hg1 0,?_⟩;rw[if_pos (by simp;omega)]at hMS;rw[if_neg (by simp;omega)]at hCP;conv=>whnf
     refine qn rfl ?_;conv=>whnf
     refine qn (by simp[Els.len,jE]) ?_;conv=>whnf
     refine zL (decide_eq_true (by
      show((jE a).length+1)*8<=140737488355328;simp[jE];omega)) ?_
     conv=>whnf
     refine qm (((n+1:Nat):Int)) (by(try dsimp only);omega) (qb (by(try dsimp only);omega)) ?_;conv=>whnf
     refine⟨(n+1,(a ++ [(n:Int)],c)),by simp only;omega,⟨by simp only;omega,by simp only;omega,by simp only[List.length_append,List.length_singleton];omega,by simp only;omega,by simp only;rw[hk2,List.append_assoc];exact hMS,by simp only;rw[hk2];exact hCP⟩,Wk.sub ⟨?_,rfl,rfl,rfl,rfl,rfl,trivial⟩ ⟨?_,rfl,trivial⟩⟩
     ·show some (V.sl 93 1 0 ((jE a).length+1))=_
      simp[jE]
     ·show some (Obj.arr 1 (.dd (jE a ++ [[i64 n]])))=_
      simp[jE]
    | some v1=>
     unfold qbv at hi1;rw[hg1]at hi1;simp only[Option.getD_some]at hi1;obtain⟨ix,_,hx1,_⟩:=qC (kd:=qD) (vd:=qD) qv hg1 0;refine⟨_,hx1,?_⟩;conv=>whnf
     refine qj (fun h2=>?_) (fun h2=>?_)
     ·have h2:v1=0:=of_decide_eq_true h2
      rw[if_pos (by simp;omega)]at hMS;rw[if_neg (by simp;omega)]at hCP;conv=>whnf
      refine qn rfl ?_;conv=>whnf
      refine qn (by simp[Els.len,jE]) ?_;conv=>whnf
      refine zL (decide_eq_true (by
       show((jE a).length+1)*8<=140737488355328;simp[jE];omega)) ?_
      conv=>whnf
      refine qm (((n+1:Nat):Int)) (by(try dsimp only);omega) (qb (by(try dsimp only);omega)) ?_;conv=>whnf
      refine⟨(n+1,(a ++ [(n:Int)],c)),by simp only;omega,⟨by simp only;omega,by simp only;omega,by simp only[List.length_append,List.length_singleton];omega,by simp only;omega,by simp only;rw[hk2,List.append_assoc];exact hMS,by simp only;rw[hk2];exact hCP⟩,Wk.sub ⟨?_,rfl,rfl,rfl,rfl,rfl,trivial⟩ ⟨?_,rfl,trivial⟩⟩
      ·show some (V.sl 93 1 0 ((jE a).length+1))=_
       simp[jE]
      ·show some (Obj.arr 1 (.dd (jE a ++ [[i64 n]])))=_
       simp[jE]
     ·have h2:¬ v1=0:=of_decide_eq_false h2
      conv=>whnf
      cases hg2:zu m2 n with
      | none=>
       unfold qbv at hi2;rw[hg2]at hi2;simp only[Option.getD_none]at hi2;refine⟨none,qt (kd:=qD) qv hg2 0,?_⟩;rw[if_neg (by simp;omega)]at hMS;rw[if_neg (by simp;omega)]at hCP;conv=>whnf
       refine qm (((n+1:Nat):Int)) (by(try dsimp only);omega) (qb (by(try dsimp only);omega)) ?_;conv=>whnf
       exact⟨(n+1,(a,c)),by simp only;omega,⟨by simp only;omega,by simp only;omega,by simp only;omega,by simp only;omega,by simp only;rw[hk2];exact hMS,by simp only;rw[hk2];exact hCP⟩,(Wk.sub (by repeat' first|exact trivial|refine⟨?_,?_⟩|rfl|(simp only[List.length_map];rfl)|simp[PX.get]) (by repeat' first|exact trivial|refine⟨?_,?_⟩|rfl|(simp only[List.length_map];rfl)|simp[PX.get]))⟩
      | some v2=>
       unfold qbv at hi2;rw[hg2]at hi2;simp only[Option.getD_some]at hi2;obtain⟨iy,_,hy1,_⟩:=qC (kd:=qD) (vd:=qD) qv hg2 0;refine⟨_,hy1,?_⟩;conv=>whnf
       refine qj (fun h3=>?_) (fun h3=>?_)
       ·have h3:1<v2:=of_decide_eq_true h3
        rw[if_neg (by simp;omega)]at hMS;rw[if_pos (by simp;omega)]at hCP;conv=>whnf
        refine qn rfl ?_;conv=>whnf
        refine qn (by simp[Els.len,jE]) ?_;conv=>whnf
        refine zL (decide_eq_true (by
         show((jE c).length+1)*8<=140737488355328;simp[jE];omega)) ?_
        conv=>whnf
        refine qm (((n+1:Nat):Int)) (by(try dsimp only);omega) (qb (by(try dsimp only);omega)) ?_;conv=>whnf
        refine⟨(n+1,(a,c ++ [(n:Int)])),by simp only;omega,⟨by simp only;omega,by simp only;omega,by simp only;omega,by simp only[List.length_append,List.length_singleton];omega,by simp only;rw[hk2];exact hMS,by simp only;rw[hk2,List.append_assoc];exact hCP⟩,Wk.sub ⟨rfl,?_,rfl,rfl,rfl,rfl,trivial⟩ ⟨rfl,?_,trivial⟩⟩
        ·show some (V.sl 102 1 0 ((jE c).length+1))=_
         simp[jE]
        ·show some (Obj.arr 1 (.dd (jE c ++ [[i64 n]])))=_
         simp[jE]
       ·have h3:¬ 1<v2:=of_decide_eq_false h3
        rw[if_neg (by simp;omega)]at hMS;rw[if_neg (by simp;omega)]at hCP;conv=>whnf
        refine qm (((n+1:Nat):Int)) (by(try dsimp only);omega) (qb (by(try dsimp only);omega)) ?_;conv=>whnf
        exact⟨(n+1,(a,c)),by simp only;omega,⟨by simp only;omega,by simp only;omega,by simp only;omega,by simp only;omega,by simp only;rw[hk2];exact hMS,by simp only;rw[hk2];exact hCP⟩,(Wk.sub (by repeat' first|exact trivial|refine⟨?_,?_⟩|rfl|(simp only[List.length_map];rfl)|simp[PX.get]) (by repeat' first|exact trivial|refine⟨?_,?_⟩|rfl|(simp only[List.length_map];rfl)|simp[PX.get]))⟩
   ·have h1:¬ n<last.toNat+1:=by have:=of_decide_eq_false h1;simp only at this;omega
    rw[show last.toNat+1-n=0 by omega]at hMS hCP;have hMS:a=MS:=by simpa using hMS
    have hCP:c=CP:=by simpa using hCP
    subst hMS;subst hCP;conv=>whnf
    refine qc 1 (ds:=[qU a,qU c,i64 0]) (qH (jq rfl (by simp[jE])) (qH (jq rfl (by simp[jE])) rfl)) ⟨⟨rfl,rfl⟩,rfl⟩
 ·rw[if_neg hc]
  refine qk (qeg l _ _ _ (qbW l)) rfl rfl ?_;conv=>whnf
  generalize qK l=E at hc;refine qj (fun _=>?_) (fun h=>absurd hc (by simpa using h));conv=>whnf
  refine qiX 0 rfl (d:=.tup [qU [],qU [],i64 E]) rfl ⟨⟨rfl,rfl⟩,rfl⟩
end Go.PX
namespace Go.PX
open Go.Proofs
def je(l:List Int):List (List D):=l.map fun n=>[i64 n]
def qlo(p:List Int):List V×Heap:=([.sl 1000000 1 0 p.length],[(1000000,.arr 1 (.dd (je p)))])
def lsCaps(of:List Int):List V:=[.ptr 1000000 0,.ptr 1000001 0,.d (.ref [qU of]),.ptr 1000002 0]
def qoV(of:List Int)(start left:Nat):List V:=[.d (i64 start),.d (i64 left),.ptr 1000000 0,.ptr 1000001 0,.d (.ref [qU of]),.ptr 1000002 0]
def lsH(of:List Int)(k n:Nat)(p:List Int):Heap:=
 [(1000000,.box (.vv [.yld])),(1000001,.box (.vv [.sl k 1 0 n])),(1000002,.box (.vv [.clo 116 (lsCaps of)])),(k,.arr 1 (.dd (je p)))]
def qpz(of:List Int)(left:Nat):Prop:=
 ∀ (start:Nat) (p:List Int),left<=of.length->p.length+left<=of.length->start<=of.length -> ∀ {σ:Type} (Y:Hd σ) (s0:σ) (rest:List (List V×Heap)) (Q:σ->Prop),
  iterate Y.np ((qdn of left p start).map qlo++rest) s0 Q->FnC Tryz.prog Y 116 (qoV of start left) (lsH of 1000003 p.length p) s0 fun v h' s'=>
   ∃ q,h'=lsH of 2000000 q.length q/\((v = .d (.bool true)/\q=p/\iterate Y.np rest s' Q)\/(v = .d (.bool false)/\Q s'))
theorem lfill_zero{of:List Int}(hof:of.length<=1000):qpz of 0:=by
 intro start p hl hp hst σ Y s0 rest Q hit;refine qaP mixed ql Tryz.func116 rfl (ft:=qpo) (args:=qoV of start 0) (show fnB qpo Tryz.f116 6=true from by decide +kernel) ?_;generalize Y.np=Y at hit ⊢;have hgl:qdn of 0 p start = [p]:=rfl;rw[hgl]at hit;conv=>whnf
 refine YldA_y [1000003] (args0:=(qlo p).1) (h0:=(qlo p).2) hit rfl ⟨_,_,rfl,rfl,rfl⟩ rfl rfl ?_;rintro v h1 s' ⟨rfl,hv⟩
 rcases hv with⟨rfl,hi⟩ | ⟨rfl,hq⟩
 ·refine⟨rfl,?_⟩
  conv=>whnf
  refine qz [1000003] [.d (.bool true)] (lsH of 2000000 p.length p) rfl ⟨rfl,rfl,rfl,rfl,trivial⟩ rfl ?_;exact⟨p,rfl,.inl ⟨rfl,rfl,hi⟩⟩
 ·refine⟨rfl,?_⟩
  conv=>whnf
  refine qz [1000003] [.d (.bool false)] (lsH of 2000000 p.length p) rfl ⟨rfl,rfl,rfl,rfl,trivial⟩ rfl ?_;exact⟨p,rfl,.inr ⟨rfl,hq⟩⟩
theorem lfill_succ{of:List Int}(hof:of.length<=1000){left:Nat}(ihl:qpz of left):qpz of (left+1):=by
 intro start p hl hp hst σ Y s0 rest Q hit;refine qaP mixed ql Tryz.func116 rfl (ft:=qpo) (args:=qoV of start (left+1)) (show fnB qpo Tryz.f116 6=true from by decide +kernel) ?_;generalize Y.np=Y at hit ⊢;have hcl:(je p).length=p.length:=by simp[je]
 have hgl:qdn of (left+1) p start=(List.range' start (of.length-left-start)).flatMap fun(i:Nat)=>qdn of left (p ++ [(of[i]?).getD 0]) (i+1):=rfl;rw[hgl]at hit;conv=>whnf
 refine zP (T:=tys) ql (by exact qi mixed ql (by decide +kernel)) (α:=Nat×σ)
  (fun x=>⟨[(1,.d (i64 (left+1:Nat))),(2,.ptr 1000000 0),(3,.ptr 1000001 0),(4,.d (.ref [qU of])),(5,.ptr 1000002 0),(9,.d (i64 x.1))],lsH of 900000 p.length p,x.2⟩)
  (fun x=>x.1<=of.length/\iterate Y (((List.range' x.1 (of.length-left-x.1)).flatMap fun(i:Nat)=>qdn of left (p ++ [(of[i]?).getD 0]) (i+1)).map qlo++rest) x.2 Q) (fun x=>of.length-x.1) (start,s0)
  ((Wk.move 1000003 900000 rfl rfl).trans (Wk.sub ⟨rfl,rfl,rfl,rfl,rfl,rfl,trivial⟩ ⟨rfl,rfl,rfl,rfl,trivial⟩)) ⟨hst,hit⟩ ?_
 clear hit hst s0;rintro ⟨i,s0⟩ ⟨hi,hit⟩;simp only at hi hit;conv=>whnf
 refine qm ((of.length:Int)-(left+1:Nat)) (by simp) (qb (by omega)) ?_;conv=>whnf
 refine qj (fun h1=>?_) (fun h1=>?_)
 ·have h1:i<=of.length-(left+1):=by have:=of_decide_eq_true h1;simp at this;omega
  have hil:i<of.length:=by omega
  obtain⟨m,hm1⟩:∃ m,of.length-left-i=m+1:=⟨of.length-left-i-1,by omega⟩;have hoi:(of[i]?).getD 0=of[i]:=by rw[List.getElem?_eq_getElem hil];rfl
  rw[hm1,List.range'_succ,List.flatMap_cons,List.map_append,List.append_assoc,hoi]at hit;conv=>whnf
  refine qI [i64 of[i]] ⟨by omega,by rw[Int.toNat_natCast,List.getElem?_map,List.getElem?_eq_getElem hil];rfl⟩ ?_;conv=>whnf
  refine qn rfl ?_;conv=>whnf
  refine ownK.mk (by simp[Els.len,hcl]) ?_;conv=>whnf
  refine zL (by simp[Els.len,Els.part,hcl];omega) ?_;conv=>whnf
  refine qm (((i+1:Nat):Int)) (by(try dsimp only);omega) (qb (by(try dsimp only);omega)) ?_;conv=>whnf
  refine qm (((left:Nat):Int)) (by(try dsimp only);omega) (qb (by(try dsimp only);omega)) ?_;conv=>whnf
  have ih:=ihl (i+1) (p ++ [of[i]]) (by omega) (by simp;omega) (by omega) Y s0 _ Q hit.np;refine qjx ih [1000000,1000001,1000002,30] rfl ⟨_,_,rfl,rfl,_,_,rfl,(by
    show some (Obj.box (Cells.vv [V.sl 30 1 0 ((((je p).drop 0).take p.length).length+1)]))=some (Obj.box (Cells.vv [V.sl 30 1 0 (p ++ [of[i]]).length]));simp[je]),_,_,rfl,rfl,_,_,rfl,(by
    show some (Obj.arr 1 (Els.dd ((((je p).drop 0).take p.length) ++ [[i64 of[i]]])))=some (Obj.arr 1 (Els.dd (je (p ++ [of[i]]))));simp[je,List.take_of_length_le]),rfl⟩ rfl rfl ?_
  rintro v h1 s' ⟨q,rfl,hpost⟩;rw[qea]at hpost
  rcases hpost with⟨rfl,rfl,hi2⟩ | ⟨rfl,hq⟩
  ·refine⟨rfl,?_⟩
   conv=>whnf
   refine qm (p.length:Int) (by simp) (qb (by omega)) ?_;conv=>whnf
   refine zL (by simp;omega) ?_;conv=>whnf
   refine qm (((i+1:Nat):Int)) (by(try dsimp only);omega) (qb (by(try dsimp only);omega)) ?_;conv=>whnf
   have hm2:of.length-left-(i+1)=m:=by omega
   refine⟨(i+1,s'),by simp only;omega,⟨by simp only;omega,by simp only;rw[hm2];exact hi2⟩,(Wk.move 102304 900000 rfl rfl).trans ((Wk.shrink 900000 p.length rfl).trans ?_)⟩;have hsh:(je (p ++ [of[i]])).take p.length=je p:=by simp[je,List.take_left']
   refine Wk.sub ⟨rfl,rfl,rfl,rfl,rfl,rfl,trivial⟩ ⟨rfl,?_,?_,?_,trivial⟩
   ·rfl
   ·exact zQ rfl ⟨⟨rfl,⟨rfl,rfl⟩,⟨rfl,rfl⟩,rfl,⟨rfl,rfl⟩,trivial⟩,trivial⟩
   ·show some (Obj.arr 1 (Els.dd ((je (p ++ [of[i]])).take p.length)))=_
    rw[hsh]
  ·refine⟨rfl,?_⟩
   conv=>whnf
   refine qz [102304] [.d (.bool false)] (lsH of 2000000 q.length q) rfl ⟨rfl,zQ rfl ⟨⟨rfl,rfl,rfl,rfl⟩,trivial⟩,zQ rfl ⟨⟨rfl,⟨rfl,rfl⟩,⟨rfl,rfl⟩,rfl,⟨rfl,rfl⟩,trivial⟩,trivial⟩,rfl,trivial⟩ rfl ?_;exact⟨q,rfl,.inr ⟨rfl,hq⟩⟩
 ·have h1:¬ (i:Int)<=(of.length:Int)-((left+1:Nat):Int):=of_decide_eq_false h1
  rw[show of.length-left-i=0 by omega]at hit;conv=>whnf
  refine qz [900000] [.d (.bool true)] (lsH of 2000000 p.length p) rfl ⟨rfl,zQ rfl ⟨⟨rfl,rfl,rfl,rfl⟩,trivial⟩,zQ rfl ⟨⟨rfl,⟨rfl,rfl⟩,⟨rfl,rfl⟩,rfl,⟨rfl,rfl⟩,trivial⟩,trivial⟩,rfl,trivial⟩ rfl ?_;exact⟨p,rfl,.inl ⟨rfl,rfl,hit⟩⟩
theorem lfill{of:List Int}(hof:of.length<=1000)(left:Nat):qpz of left:=by
 induction left with
 | zero=>exact lfill_zero hof
 | succ n ih=>exact lfill_succ hof ih
theorem pa87(of:List Int):FnV Tryz.prog 87 [qU of] (.clo 115 [.ref [qU of]]):=by
 refine qG mixed ql Tryz.func87 rfl (ft:=ft87) 1 (by decide +kernel) (by rfl) fun {σ} Y st=>?_;conv=>whnf
 exact qc 1 rfl ⟨⟨rfl,rfl⟩,rfl⟩
theorem yields115(of:List Int)(hof:of.length<=1000):Yields Tryz.prog 115 [.ref [qU of]] ((qkY of).map qlo):=by
 intro γ Y g0 Q hit;refine qaP mixed ql Tryz.func115 rfl (ft:=qqL) (args:=[.yld,.d (.ref [qU of])]) (show fnB qqL Tryz.f115 2=true from by decide +kernel) ?_;replace hit:=hit.np;generalize Y.np=Y at hit ⊢;conv=>whnf
 refine qm ((of.length+1:Nat):Int) (by simp) (qb (by omega)) ?_;conv=>whnf
 refine zP (T:=tys) ql (by exact qi mixed ql (by decide +kernel)) (α:=Nat×γ)
  (fun x=>⟨[(1,.d (.ref [qU of])),(2,.ptr 2 0),(3,.ptr 3 0),(4,.ptr 4 0),(9,.d (i64 (of.length+1:Nat))),(10,.d (i64 x.1))],[(2,.box (.vv [.yld])),(3,.box (.vv [.sl 900000 1 0 0])),(4,.box (.vv [.clo 116 [.ptr 2 0,.ptr 3 0,.d (.ref [qU of]),.ptr 4 0]])),(900000,.arr 1 (.dd []))],x.2⟩)
  (fun x=>x.1<=of.length+1/\iterate Y (((List.range' x.1 (of.length+1-x.1)).flatMap fun(n:Nat)=>qdn of n [] 0).map qlo) x.2 Q) (fun x=>of.length+1-x.1) (0,g0)
  ((Wk.bornBox 3 900000 1 rfl rfl rfl rfl).trans (Wk.sub ⟨rfl,rfl,rfl,rfl,rfl,rfl,trivial⟩ ⟨rfl,rfl,rfl,rfl,trivial⟩)) ⟨Nat.zero_le _,hit⟩ ?_
 clear hit g0;rintro ⟨n,g0⟩ ⟨hn,hit⟩;simp only at hn hit;conv=>whnf
 refine qj (fun h1=>?_) (fun h1=>?_)
 ·have h1:n<of.length+1:=by have:=of_decide_eq_true h1;simp only at this;omega
  obtain⟨m,hm1⟩:∃ m,of.length+1-n=m+1:=⟨of.length-n,by omega⟩;rw[hm1,List.range'_succ,List.flatMap_cons,List.map_append]at hit;conv=>whnf
  refine qjx (lfill hof n 0 [] (by omega) (by simp;omega) (by omega) Y g0 _ Q hit.np) [2,3,4,900000] rfl ⟨_,_,rfl,rfl,_,_,rfl,rfl,_,_,rfl,rfl,_,_,rfl,rfl,rfl⟩ rfl rfl ?_;rintro v h1 s' ⟨q,rfl,hpost⟩;rw[qea]at hpost
  rcases hpost with⟨rfl,rfl,hi2⟩ | ⟨rfl,hq⟩
  ·refine⟨rfl,?_⟩
   conv=>whnf
   refine qm (((n+1:Nat):Int)) (by(try dsimp only);omega) (qb (by(try dsimp only);omega)) ?_;conv=>whnf
   have hm2:of.length+1-(n+1)=m:=by omega
   exact⟨(n+1,s'),by simp only;omega,⟨by simp only;omega,by simp only;rw[hm2];exact hi2⟩,(Wk.move 100960 900000 rfl rfl).trans (Wk.sub ⟨rfl,rfl,rfl,rfl,rfl,rfl,trivial⟩ ⟨rfl,rfl,rfl,rfl,trivial⟩)⟩
  ·refine⟨rfl,?_⟩
   conv=>whnf
   exact qc 0 rfl ⟨rfl,hq⟩
 ·have h1:¬ n<of.length+1:=by have:=of_decide_eq_false h1;simp only at this;omega
  rw[show of.length+1-n=0 by omega]at hit;conv=>whnf
  exact qc 0 rfl ⟨rfl,hit⟩
end Go.PX
