import Derived.Test.YtgpmlbbkfmkmkaaGreatDoorPxQ
import Derived.Test.YtgpmlbbkfmkmkaaGreatDoorPxL
import Derived.Test.YtgpmlbbkfmkmkaaGreatDoorPxP
import Derived.Test.YtgpmlbbkfmkmkaaGreatDoorPxJ
import Derived.Lib.AtoiAllCases
import Derived.Laws.IdiomStrings
set_option linter.all false
set_option maxRecDepth 10000
namespace Go.PX
open Go.Proofs
open Go.RowKit
theorem pa67(x:PEnt):FnV Tryz.prog 67 [x.d] (i64 (qld x)):=by
 obtain⟨sh,kd,wd,nm⟩:=x;refine qF mixed qk Tryz.func67 rfl (ft:=ft67) 1 (by decide +kernel) (by rfl) fun {σ} Y st=>?_;conv=>whnf
 refine qf (ds:=[i64 sh,i64 0,i64 20000]) (qoA sh 0 20000) rfl rfl ?_;unfold qld qca
 cases h0:inB sh 0 20000 with
 | false=>
  conv=>whnf
  exact qc 0 rfl ⟨⟨rfl,rfl⟩,rfl⟩
 | true=>
 conv=>whnf
 refine qf (ds:=[i64 kd,i64 1,i64 3]) (qoA kd 1 3) rfl rfl ?_
 cases h1:inB kd 1 3 with
 | false=>
  have hk:¬ (kd=1)/\¬ (kd=2)/\¬ (kd=3):=by
   refine⟨?_,?_,?_⟩<;>rintro rfl<;>simp[inB]at h1
  conv=>whnf
  simp only[Bool.not_true,Bool.false_eq_true,if_false,if_neg hk.1,if_neg hk.2.1,if_neg hk.2.2];exact qc 0 rfl ⟨⟨rfl,rfl⟩,rfl⟩
 | true=>
 have hk:kd=1\/kd=2\/kd=3:=by
  unfold inB at h1;simp at h1;omega
 simp only[Bool.not_true,Bool.false_eq_true,if_false];conv=>whnf
 rcases hk with rfl | rfl | rfl
 ·refine qg (fun hA=>?_) (fun hA=>?_)
  ·conv=>whnf
   refine qf (ds:=[.str wd]) (qnS wd) rfl rfl ?_
   cases hn:jz wd with
   | false=>
    conv=>whnf
    exact qc 0 rfl ⟨⟨rfl,rfl⟩,rfl⟩
   | true=>
    conv=>whnf
    refine qg (fun hB=>?_) (fun hB=>?_)
    ·have hB:¬ nm=0:=by simpa using hB
     conv=>whnf
     rw[decide_eq_false hB];exact qc 0 rfl ⟨⟨rfl,rfl⟩,rfl⟩
    ·have hB:nm=0:=by simpa using hB
     conv=>whnf
     rw[decide_eq_true hB];exact qc 0 rfl ⟨⟨rfl,rfl⟩,rfl⟩
  ·conv=>whnf
   refine qf (ds:=[.str wd]) (qnS wd) rfl rfl ?_
   cases hn:jz wd with
   | false=>
    conv=>whnf
    exact qc 0 rfl ⟨⟨rfl,rfl⟩,rfl⟩
   | true=>
    conv=>whnf
    refine qg (fun hB=>?_) (fun hB=>?_)
    ·have hB:¬ nm=0:=by simpa using hB
     conv=>whnf
     rw[decide_eq_false hB];exact qc 0 rfl ⟨⟨rfl,rfl⟩,rfl⟩
    ·have hB:nm=0:=by simpa using hB
     conv=>whnf
     rw[decide_eq_true hB];exact qc 0 rfl ⟨⟨rfl,rfl⟩,rfl⟩
 ·have hw1:decide (wd = .empty)=decide (wd=(⟨#[]⟩:ByteArray)):=rfl
  simp only[if_neg (show ¬ (2:Int)=1 by decide),if_pos,hw1];refine qg (fun hA=>?_) (fun hA=>?_)
  ·rw[hA]
   conv=>whnf
   refine qg (fun hB=>?_) (fun hB=>?_)
   ·have hB:¬ nm=0:=by simpa using hB
    conv=>whnf
    rw[decide_eq_false hB];exact qc 0 rfl ⟨⟨rfl,rfl⟩,rfl⟩
   ·have hB:nm=0:=by simpa using hB
    conv=>whnf
    rw[decide_eq_true hB];exact qc 0 rfl ⟨⟨rfl,rfl⟩,rfl⟩
  ·rw[hA]
   conv=>whnf
   exact qc 0 rfl ⟨⟨rfl,rfl⟩,rfl⟩
 ·simp only[if_neg (show ¬ (3:Int)=1 by decide),if_neg (show ¬ (3:Int)=2 by decide),if_pos,Bool.not_not]
  refine qg (fun hA=>?_) (fun hA=>?_)
  ·conv=>whnf
   refine qf (ds:=[.str wd]) (qnS wd) rfl rfl ?_
   cases hn:jz wd with
   | false=>
    conv=>whnf
    exact qc 0 rfl ⟨⟨rfl,rfl⟩,rfl⟩
   | true=>
    conv=>whnf
    refine qf (ds:=[i64 nm,i64 1,i64 99]) (qoA nm 1 99) rfl rfl ?_
    cases h4:inB nm 1 99 with
    | false=>
     conv=>whnf
     exact qc 0 rfl ⟨⟨rfl,rfl⟩,rfl⟩
    | true=>
     conv=>whnf
     exact qc 0 rfl ⟨⟨rfl,rfl⟩,rfl⟩
  ·conv=>whnf
   refine qf (ds:=[.str wd]) (qnS wd) rfl rfl ?_
   cases hn:jz wd with
   | false=>
    conv=>whnf
    exact qc 0 rfl ⟨⟨rfl,rfl⟩,rfl⟩
   | true=>
    conv=>whnf
    refine qf (ds:=[i64 nm,i64 1,i64 99]) (qoA nm 1 99) rfl rfl ?_
    cases h4:inB nm 1 99 with
    | false=>
     conv=>whnf
     exact qc 0 rfl ⟨⟨rfl,rfl⟩,rfl⟩
    | true=>
     conv=>whnf
     exact qc 0 rfl ⟨⟨rfl,rfl⟩,rfl⟩
def qaw(l:List PBook):List ByteArray:=l.map (·.name)
theorem headE_eq(pre:List PBook)(b:PBook):qhm pre b=if qfI b.name (qaw pre)=0 then (if spread (-720) 720 [b.off,b.set] 0=0 then (if b.ents.length>8 then 3 else 0) else spread (-720) 720 [b.off,b.set] 0) else qfI b.name (qaw pre):=by
 have h:((qaw pre).any fun y=>decide (y=b.name))=pre.any fun y=>decide (y.name=b.name):=by
  unfold qaw;rw[List.any_map];rfl
 unfold qhm qfI spread spread spread qca;rw[h]
 cases jz b.name<;>cases (pre.any fun y=>decide (y.name=b.name))<;>cases inB b.off.lo (-720) 720<;>cases inB b.off.hi (-720) 720<;>cases inB b.set.lo (-720) 720<;>cases inB b.set.hi (-720) 720<;>simp
 by_cases h1:b.off.hi<b.off.lo<;>by_cases h2:b.set.hi<b.set.lo<;>simp[h1,h2]
set_option maxHeartbeats 2000000 in
theorem qrl(l:PLog):FnV Tryz.prog 18 [l.d] (qqW (jI l)):=by
 refine qF mixed qk Tryz.func18 rfl (ft:=qqB) 1 (by decide +kernel) (by rfl) fun {σ} Y st=>?_;conv=>whnf
 unfold jI;refine qf (ds:=[i64 l.near,i64 0,i64 60]) (qoA l.near 0 60) rfl rfl ?_;unfold qca
 cases h0:inB l.near 0 60 with
 | false=>
  conv=>whnf
  exact qc 0 rfl ⟨⟨rfl,rfl⟩,rfl⟩
 | true=>
  conv=>whnf
  rw[List.length_map];refine qf (ds:=[i64 l.books.length,i64 1,i64 3]) (qoA l.books.length 1 3) rfl rfl ?_
  cases h1:inB l.books.length 1 3 with
  | false=>
   conv=>whnf
   exact qc 0 rfl ⟨⟨rfl,rfl⟩,rfl⟩
  | true=>
   have hlen:l.books.length<=3:=by
    have h1:=h1;unfold inB at h1;simp at h1;omega
   simp only[Bool.not_true,if_false,Bool.false_eq_true];conv=>whnf
   generalize hK:qaU [] l.books 0=K;refine zo (T:=tys) qk (by exact qh mixed qk (by decide +kernel)) l.books (fun i (_:Unit)=>⟨[(1,.ptr 1 0),(5,.sl 40 1 0 i),(6,.d (i64 i))],[(1,.box (.dd l.cells)),(40,.arr 1 (.dd ((qaw (l.books.take i)).map fun s=>[.str s])))],st⟩)
    (fun i r _=>qaU (l.books.take i) r i=K) () ((Wk.born 5 40 1 rfl rfl rfl).trans (Wk.sub (by repeat' first|exact trivial|refine⟨?_,?_⟩|rfl|(simp only[List.length_map];rfl)|simp[PX.get]) (by repeat' first|exact trivial|refine⟨?_,?_⟩|rfl|(simp only[List.length_map];rfl)|simp[PX.get]))) hK ?_ ?_
   ·rintro i b r _ hx hi hr he
    rw[qaU,headE_eq]at he;have htk:l.books.take (i+1)=l.books.take i ++ [b]:=by rw[List.take_succ,hx];rfl
    have hnl:(qaw (l.books.take i)).length=i:=by unfold qaw;simp;omega
    conv=>whnf
    refine qg (fun _=>?_) (fun h=>absurd hi (by have:=of_decide_eq_false h;simp at this;omega));conv=>whnf
    refine qz hx ?_;conv=>whnf
    refine qn (ds:=[.str b.name,qbO (qaw (l.books.take i))]) (fn91 b.name (qaw (l.books.take i)) (by omega)) rfl 1 (qE rfl (qE (zX rfl (by simp[hnl])) rfl)) ?_;conv=>whnf
    refine qi rfl ?_;conv=>whnf
    refine qi (by simp[Els.len,hnl]) ?_;conv=>whnf
    refine ze (decide_eq_true (by
     show(((qaw (l.books.take i)).map fun s=>[D.str s]).length+1)*16<=140737488355328;rw[List.length_map];omega)) ?_
    conv=>whnf
    generalize qfI b.name (qaw (l.books.take i))=F at he ⊢;have hnext:(qaw (l.books.take i)).map (fun s=>[D.str s]) ++ [[.str b.name]]=(qaw (l.books.take (i+1))).map fun s=>[.str s]:=by
     rw[htk];simp[qaw]
    have hnl1:((qaw (l.books.take i)).map fun s=>[D.str s]).length+1=i+1:=by rw[List.length_map,hnl]
    refine qg (fun h2=>?_) (fun h2=>?_)
    ·have h2:F=0:=of_decide_eq_true h2
     subst h2;simp only[if_true]at he;conv=>whnf
     refine qn (ds:=[qaT [b.off,b.set],i64 (-720),i64 720]) (fn111 [b.off,b.set] (-720) 720 (by simp)) rfl 1 (qE (zX rfl rfl) rfl) ?_;generalize spread (-720) 720 [b.off,b.set] 0=S at he ⊢;conv=>whnf
     refine qg (fun h3=>?_) (fun h3=>?_)
     ·have h3:S=0:=by simpa using h3
      subst h3;simp only[if_true]at he;conv=>whnf
      refine qg (fun h8=>?_) (fun h8=>?_)
      ·have h8:b.ents.length>8:=by have:=of_decide_eq_true h8;simp at this;omega
       rw[if_pos h8,if_neg (by decide)]at he;conv=>whnf
       refine qd (qb (by(try dsimp only);omega)) ?_;conv=>whnf
       rw[<- he];exact qc 0 rfl ⟨⟨rfl,rfl⟩,rfl⟩
      ·have h8:¬ b.ents.length>8:=by have:=of_decide_eq_false h8;simp at this;omega
       rw[if_neg h8,if_pos rfl]at he;conv=>whnf
       generalize hE:qdJ b.ents 0=E at he;refine zo (T:=tys) qk (by exact qh mixed qk (by decide +kernel)) b.ents (fun k (_:Unit)=>⟨[(1,.ptr 1 0),(5,.sl 40 1 0 (i+1)),(6,.d (i64 i)),(7,.ptr 7 0),(9,.d (i64 k))],[(1,.box (.dd l.cells)),(40,.arr 1 (.dd ((qaw (l.books.take (i+1))).map fun s=>[.str s]))),(7,.box (.dd b.cells))],st⟩)
        (fun k r _=>qdJ r k=E) () (Wk.sub ⟨rfl,(by
         show some (V.sl 40 1 0 (((qaw (l.books.take i)).map fun s=>[D.str s]).length+1))=_;rw[hnl1]),rfl,rfl,rfl,trivial⟩ ⟨rfl,(by
         show some (Obj.arr 1 (Els.dd ((qaw (l.books.take i)).map (fun s=>[D.str s]) ++ [[.str b.name]])))=_;rw[hnext]),rfl,trivial⟩) hE ?_ ?_
       ·rintro k y r2 _ hy hk hr2 he2
        rw[qdJ]at he2;conv=>whnf
        refine qg (fun _=>?_) (fun h=>absurd hk (by have:=of_decide_eq_false h;simp at this;omega));conv=>whnf
        refine qz hy ?_;conv=>whnf
        refine qf (pa67 y) rfl rfl ?_;conv=>whnf
        refine qg (fun h4=>?_) (fun h4=>?_)
        ·have h4:¬ qld y=0:=by simpa using h4
         rw[if_neg h4]at he2;subst he2;rw[if_neg h4]at he;conv=>whnf
         refine qd (qb (by(try dsimp only);omega)) ?_;conv=>whnf
         rw[<- he];exact qc 0 rfl ⟨⟨rfl,rfl⟩,rfl⟩
        ·have h4:qld y=0:=by simpa using h4
         rw[if_pos h4]at he2;conv=>whnf
         refine qd (qb (by(try dsimp only);omega)) ?_;conv=>whnf
         exact⟨(),he2,(Wk.sub (by repeat' first|exact trivial|refine⟨?_,?_⟩|rfl|(simp only[List.length_map];rfl)|simp[PX.get]) (by repeat' first|exact trivial|refine⟨?_,?_⟩|rfl|(simp only[List.length_map];rfl)|simp[PX.get]))⟩
       ·rintro _ he2
        have he2:((0,0):Int×Int)=E:=he2;subst he2;rw[if_pos rfl,<- htk]at he;conv=>whnf
        refine qg (fun h=>absurd h (by simp)) (fun _=>?_);conv=>whnf
        refine qd (qb (by(try dsimp only);omega)) ?_;conv=>whnf
        exact⟨(),he,(Wk.sub (by repeat' first|exact trivial|refine⟨?_,?_⟩|rfl|(simp only[List.length_map];rfl)|simp[PX.get]) (by repeat' first|exact trivial|refine⟨?_,?_⟩|rfl|(simp only[List.length_map];rfl)|simp[PX.get]))⟩
     ·have h3:¬ S=0:=by simpa using h3
      conv=>whnf
      refine qg (fun _=>?_) (fun h=>absurd h (by simp[h3]));rw[if_neg h3,if_neg h3]at he;conv=>whnf
      refine qd (qb (by(try dsimp only);omega)) ?_;conv=>whnf
      rw[<- he];exact qc 0 rfl ⟨⟨rfl,rfl⟩,rfl⟩
    ·have h2:¬ F=0:=of_decide_eq_false h2
     conv=>whnf
     refine qg (fun h=>absurd (of_decide_eq_true h) h2) (fun _=>?_);conv=>whnf
     refine qg (fun _=>?_) (fun h=>absurd h (by simp[h2]));rw[if_neg h2,if_neg h2]at he;conv=>whnf
     refine qd (qb (by(try dsimp only);omega)) ?_;conv=>whnf
     rw[<- he];exact qc 0 rfl ⟨⟨rfl,rfl⟩,rfl⟩
   ·rintro _ he
    rw[qaU]at he;subst he;conv=>whnf
    refine qg (fun h=>absurd h (by simp)) (fun _=>?_);conv=>whnf
    exact qc 0 rfl ⟨⟨rfl,rfl⟩,rfl⟩
end Go.PX
namespace Go.PX
open Go.Proofs
open Go.RowKit
end Go.PX
namespace Go.PX
open Go.Proofs
open Go.RowKit
end Go.PX
namespace Go.PX
open Go.Proofs
open Go.RowKit
end Go.PX
namespace Go.PX
open Go.Proofs
open Go.RowKit
end Go.PX
namespace Go.PX
open Go.Proofs
open Go.RowKit
end Go.PX
namespace Go.PX
open Go.Proofs
open Go.RowKit
end Go.PX
namespace Go.PX
open Go.Proofs
def qiM(n:Int):Prop:=-1000000000000000000<=n/\n<=1000000000000000000
theorem qbk{s:ByteArray}(h:jz s=true):s.size<=14:=by
 unfold jz at h;rw[Bool.and_eq_true,qfr]at h;omega
def qbI(l:List UInt8):Prop:=∀ x∈l,x≠32/\x≠10
theorem qhx(k:Nat)(h:k<10):(UInt8.ofNat (48+k)).toNat=48+k:=by
 rw[UInt8.toNat_ofNat'];omega
theorem qcN:∀ (f u:Nat),∀ x∈qcS f u,48<=x.toNat/\x.toNat<=57
 | 0,_,x,hx=>by cases hx
 | f+1,u,x,hx=>by
  rw[qcS]at hx
  split at hx
  ·rename_i h
   simp only[List.mem_singleton]at hx;subst hx;rw[qhx u h];omega
  ·rcases List.mem_append.1 hx with hx | hx
   ·exact qcN f _ x hx
   ·simp only[List.mem_singleton]at hx
    subst hx;rw[qhx _ (by omega)];omega
theorem qhy:∀ (f u:Nat),0<f->qcS f u ≠ []
 | f+1,u,_=>by
  rw[qcS]
  split<;>simp
theorem qdH:∀ (f k u:Nat),u<10^k->0<k->(qcS f u).length<=k
 | 0,k,u,_,_=>Nat.zero_le _
 | f+1,k,u,hu,hk=>by
  rw[qcS]
  split
  ·simp;omega
  ·rename_i h
   obtain⟨k,rfl⟩:∃ j,k=j+1:=⟨k-1,by omega⟩;have h2:u/10<10^k:=by
    rw[Nat.pow_succ]at hu;exact Nat.div_lt_of_lt_mul (by omega)
   have hk0:0<k:=by
    rcases Nat.eq_zero_or_pos k with rfl | h3
    ·simp at h2;omega
    ·exact h3
   have:=qdH f k (u/10) h2 hk0;simp;omega
theorem qkP:∀ (f u:Nat) (r:List UInt8),0<f->u<10^f->u<=1000000000000000000->Lib.parseUint10 0 (qcS f u++r)=Lib.parseUint10 u r
 | f+1,u,r,_,hu,hb=>by
  rw[qcS]
  by_cases h:u<10
  ·rw[if_pos h]
   show Lib.parseUint10 0 (UInt8.ofNat (48+u)::r)=_;rw[Lib.parseUint10,qhx u h,if_pos (by omega),if_neg (by omega),if_neg (by omega)]
   congr 1;omega
  ·rw[if_neg h]
   have h2:u/10<10^f:=by
    rw[Nat.pow_succ]at hu;exact Nat.div_lt_of_lt_mul (by omega)
   have hf:0<f:=by
    rcases Nat.eq_zero_or_pos f with rfl | h3
    ·simp at h2;omega
    ·exact h3
   rw[List.append_assoc,qkP f (u/10) _ hf h2 (by omega)];show Lib.parseUint10 (u/10) (UInt8.ofNat (48+u%10)::r)=_;rw[Lib.parseUint10,qhx _ (by omega),if_pos (by omega),if_neg (by omega),if_neg (by omega)]
   congr 1;omega
theorem qbb{n:Int}(h:qiM n):jl (ja n)=some n:=by
 have hb:∀ u:Nat,u<=1000000000000000000->Lib.parseMag (qcS 19 u) = .ok u:=by
  intro u hu;unfold Lib.parseMag;rw[if_neg (qhy 19 u (by omega))];have:=qkP 19 u [] (by omega) (by have h19:(10:Nat)^19=10000000000000000000:=(by decide);omega) hu;rw[List.append_nil]at this;rw[this];rfl
 unfold qiM at h;have hd:(ja n).data.toList=qel n:=rfl;unfold jl;rw[hd];have ha:Lib.atoiAll (qel n) = .ok n:=by
  unfold qel
  split
  ·rename_i hn
   show Lib.atoiAll (45::qcS 19 n.natAbs)=_;unfold Lib.atoiAll;have e45:(45:UInt8).toNat=45:=rfl;simp only[e45,or_true,if_true];rw[hb n.natAbs (by omega)];simp only[not_true,false_and,if_false,true_and,if_true];rw[if_neg (by omega)]
   congr 1;omega
  ·rename_i hn
   have hne:=qhy 19 n.toNat (by omega);have hdg:=qcN 19 n.toNat;have hbb:=hb n.toNat (by omega);generalize qcS 19 n.toNat=l at hne hdg hbb
   match l,hne with
   | c::r,_=>
    have hc:=hdg c (List.mem_cons_self ..);rw[Lib.atoiAll_plain c r (by omega) (by omega),hbb];unfold Lib.signless;simp only;rw[if_neg (by omega)]
    congr 1;omega
 rw[ha]
theorem numL_clean(n:Int):qbI (qel n):=by
 have hd:∀ u,qbI (qcS 19 u):=fun u x hx=>by
  have:=qcN 19 u x hx;constructor<;>(rintro rfl;revert this;decide)
 unfold qel
 split
 ·intro x hx
  rcases List.mem_cons.1 hx with rfl | hx
  ·decide
  ·exact hd _ x hx
 ·exact hd _
theorem numB_short{n:Int}(h : -999999<=n/\n<=999999):(ja n).size<=7:=by
 show(qel n).toArray.size<=7;rw[List.size_toArray];have e:(10:Nat)^6=1000000:=by decide
 unfold qel
 split
 ·have:=qdH 19 6 n.natAbs (by omega) (by omega);simp;omega
 ·have:=qdH 19 6 n.toNat (by omega) (by omega);omega
theorem qhz(b:List UInt8):∀ (l:List UInt8) (i:Nat),qee b i l=true->qbI l
 | [],_,_,x,hx=>by cases hx
 | c::r,i,h,x,hx=>by
  rw[qee,Bool.and_eq_true]at h
  rcases List.mem_cons.1 hx with rfl | hx
  ·have h1:=h.1
   unfold qlc at h1;have:97<=x.toNat\/x.toNat=45:=by
    simp only[Bool.or_eq_true,Bool.and_eq_true,decide_eq_true_eq]at h1;omega
   constructor<;>(rintro rfl;revert this;decide)
  ·exact qhz b r (i+1) h.2 x hx
theorem qep{s:ByteArray}(h:jz s=true):qbI s.data.toList:=by
 unfold jz at h;rw[Bool.and_eq_true]at h;exact qhz _ _ _ h.2
theorem qhA:∀ (b r:List UInt8),(∀ x∈b,x≠10)->qaV 10 (b++10::r)=(b,r,true)
 | [],r,_=>by simp[qaV]
 | x::b,r,h=>by
  have hx:=h x (List.mem_cons_self ..);rw[List.cons_append,qaV,if_neg hx,qhA b r fun y hy=>h y (List.mem_cons_of_mem _ hy)]
theorem splitL_one(a:List UInt8)(h:qbI a):zb 32 a = [a]:=by
 induction a with
 | nil=>rfl
 | cons x r ih=>
  rw[zb,if_neg (h x (List.mem_cons_self ..)).1,ih fun y hy=>h y (List.mem_cons_of_mem _ hy)];rfl
theorem splitL_cons(a r:List UInt8)(h:qbI a):zb 32 (a++32::r)=a::zb 32 r:=by
 induction a with
 | nil=>simp[zb]
 | cons x t ih=>
  rw[List.cons_append,zb,if_neg (h x (List.mem_cons_self ..)).1,ih fun y hy=>h y (List.mem_cons_of_mem _ hy)];rfl
def Wd.l(w:Wd):List UInt8:=w.b.data.toList
def qol(l:List Wd):List UInt8:=l.flatMap fun w=>32::w.l
def qaM:List Wd->List UInt8
 | []=>[]
 | w::r=>w.l++qol r
def qdS(l:List Wd):Prop:=∀ w∈l,qbI w.l
theorem qbJ(n:Int):qbI (Wd.n n).l:=numL_clean n
theorem qhB:∀ (l:List Wd) (a:List UInt8),qbI a->qdS l->zb 32 (a++qol l)=a::l.map Wd.l
 | [],a,h,_=>by
  show zb 32 (a ++ [])=_;rw[List.append_nil,splitL_one a h];rfl
 | w::r,a,h,hr=>by
  show zb 32 (a++(32::w.l++qol r))=_;rw[List.cons_append,splitL_cons a _ h,qhB r w.l (hr w (List.mem_cons_self ..)) fun x hx=>hr x (List.mem_cons_of_mem _ hx)];rfl
theorem qkQ:∀ l:List Wd,(qbC l).data.toList=qol l
 | []=>rfl
 | w::r=>by
  rw[qbC];simp only[ByteArray.data_append,Array.toList_append,qkQ r];rfl
theorem qdI:∀ l:List Wd,(rowT l).data.toList=qaM l ++ [10]
 | []=>rfl
 | w::r=>by
  rw[rowT,qaW];simp only[ByteArray.data_append,Array.toList_append,qkQ r];rfl
theorem qfv{l:List Wd}(h:qdS l):∀ x∈qaM l,x≠10:=by
 cases l with
 | nil=>intro x hx;cases hx
 | cons w r=>
  intro x hx
  rcases List.mem_append.1 hx with hx | hx
  ·exact(h w (List.mem_cons_self ..) x hx).2
  ·obtain⟨u,hu,hx⟩:=List.mem_flatMap.1 hx
   rcases List.mem_cons.1 hx with rfl | hx
   ·decide
   ·exact(h u (List.mem_cons_of_mem _ hu) x hx).2
theorem qfw{w:Wd}{r:List Wd}(h:qdS (w::r)):qP 32 ⟨(qaM (w::r)).toArray⟩=(w::r).map Wd.b:=by
 show(zb 32 (w.l++qol r)).map _=_;rw[qhB r w.l (h w (List.mem_cons_self ..)) fun x hx=>h x (List.mem_cons_of_mem _ hx)];show((w::r).map Wd.l).map _=_;rw[List.map_map];rfl
theorem qkR{c c':PLog}{w:Wd}{r:List Wd}(z:List UInt8)(h:qdS (w::r))(ht:qbG c ((w::r).map Wd.b)=some c'):qcL c (qaM (w::r)++10::z)=qcL c' z:=by
 rw[qjG,if_neg (by simp),qhA _ _ (qfv h)];simp only[if_pos,qfw h,ht]
theorem qeZ{b:ByteArray}{l:List UInt8}(h:b.data.toList=l)(hl:∀ x∈l,x≠32/\x≠10):qbI b.data.toList:=by rw[h];exact hl
theorem qhC:qbI nearW.data.toList:=qeZ (l:=[110,101,97,114]) rfl (by decide)
theorem bookW_clean:qbI bookW.data.toList:=qeZ (l:=[98,111,111,107]) rfl (by decide)
theorem passW_clean:qbI passW.data.toList:=qeZ (l:=[112,97,115,115]) rfl (by decide)
theorem setW_clean:qbI setW.data.toList:=qeZ (l:=[115,101,116]) rfl (by decide)
theorem reportW_clean:qbI reportW.data.toList:=qeZ (l:=[114,101,112,111,114,116]) rfl (by decide)
structure EntW(x:PEnt):Prop where
 sh:qiM x.shown
 no:qiM x.number
 kind:(x.kind=1/\jz x.word=true/\x.number=0)\/(x.kind=2/\x.word = .empty/\x.number=0)\/(x.kind=3/\jz x.word=true)
structure BookW(b:PBook):Prop where
 name:jz b.name=true
 ol:qiM b.off.lo
 oh:qiM b.off.hi
 sl:qiM b.set.lo
 sh:qiM b.set.hi
 ents:∀ x∈b.ents,EntW x
theorem qfQ{b:PBook}(h:BookW b):qdS (qar b):=by
 intro w hw;simp only[qar,List.mem_cons,List.not_mem_nil,or_false]at hw
 rcases hw with rfl | rfl | rfl | rfl | rfl | rfl
 ·exact bookW_clean
 ·exact qep h.name
 all_goals exact qbJ _
theorem take_book{l:PLog}{b:PBook}(h:BookW b):qbG l ((qar b).map Wd.b)=some { l with books:=l.books ++ [{ b with ents:=[] }] }:=by
 show qbG l (bookW :: [b.name,ja b.off.lo,ja b.off.hi,ja b.set.lo,ja b.set.hi])=_;rw[qY,if_pos rfl];unfold qcb four;simp only[qbb h.ol,qbb h.oh,qbb h.sl,qbb h.sh];rfl
theorem qhD{x:PEnt}(h:EntW x):qdS (qbE x):=by
 intro w hw;unfold qbE at hw
 rcases h.kind with⟨h1,h2,h3⟩ | ⟨h1,h2,h3⟩ | ⟨h1,h2⟩
 ·rw[if_pos h1]at hw
  simp only[List.mem_cons,List.not_mem_nil,or_false]at hw
  rcases hw with rfl | rfl | rfl
  ·exact passW_clean
  ·exact qbJ _
  ·exact qep h2
 ·rw[if_neg (by omega),if_pos h1]at hw
  simp only[List.mem_cons,List.not_mem_nil,or_false]at hw
  rcases hw with rfl | rfl
  ·exact setW_clean
  ·exact qbJ _
 ·rw[if_neg (by omega),if_neg (by omega)]at hw
  simp only[List.mem_cons,List.not_mem_nil,or_false]at hw
  rcases hw with rfl | rfl | rfl | rfl
  ·exact reportW_clean
  ·exact qbJ _
  ·exact qep h2
  ·exact qbJ _
theorem take_ent{n:Int}{init:List PBook}{b:PBook}{x:PEnt}(h:EntW x):qbG ⟨n,init ++ [b]⟩ ((qbE x).map Wd.b)=some ⟨n,init ++ [{ b with ents:=b.ents ++ [x] }]⟩:=by
 have hne:(⟨n,init ++ [b]⟩:PLog).books ≠ []:=by simp
 obtain⟨sh,kd,wd,no⟩:=x;have hs:=h.sh;have hn:=h.no;unfold qbE
 rcases h.kind with⟨h1,h2,h3⟩ | ⟨h1,h2,h3⟩ | ⟨h1,h2⟩
 ·simp only at h1 h2 h3 hs hn
  subst h1 h3;show qbG _ (passW :: [ja sh,wd])=_;rw[qY,if_neg (by decide),if_neg hne];unfold qjD;simp only[qbb hs,if_pos,Option.map_some];rw[qas]
 ·simp only at h1 h2 h3 hs hn
  subst h1 h2 h3;show qbG _ (setW :: [ja sh])=_;rw[qY,if_neg (by decide),if_neg hne];unfold qjD;simp only[qbb hs,if_neg (show ¬ setW=passW by decide),if_pos,Option.map_some];rw[qas]
 ·simp only at h1 h2 hs hn
  subst h1;show qbG _ (reportW :: [ja sh,wd,ja no])=_;rw[qY,if_neg (by decide),if_neg hne];unfold qjD;simp only[qbb hs,qbb hn,if_neg (show ¬ reportW=passW by decide),if_neg (show ¬ reportW=setW by decide),if_pos,Option.map_some];rw[qas]
theorem qmK(x:PEnt):∃ w r,qbE x=w::r:=by
 unfold qbE
 repeat' split
 all_goals exact⟨_,_,rfl⟩
theorem qkS{n:Int}{init:List PBook}:∀ (r:List PEnt) (b:PBook) (z:List UInt8),(∀ x∈r,EntW x)->qcL ⟨n,init ++ [b]⟩ ((qbF r).data.toList++z)=qcL ⟨n,init ++ [{ b with ents:=b.ents++r }]⟩ z
 | [],b,z,_=>by
  show qcL _ ([]++z)=_;rw[List.append_nil];rfl
 | x::r,b,z,h=>by
  have hx:=h x (List.mem_cons_self ..);have ih:=qkS (n:=n) (init:=init) r { b with ents:=b.ents ++ [x] } z fun q hq=>h q (List.mem_cons_of_mem _ hq);obtain⟨w,q,hw⟩:=qmK x;have hc:=qhD hx;have ht:=take_ent (n:=n) (init:=init) (b:=b) hx;rw[qbF];simp only[ByteArray.data_append,Array.toList_append,qdI,List.append_assoc];rw[hw]at hc ht ⊢;show qcL _ (qaM (w::q)++10::((qbF r).data.toList++z))=_;rw[qkR _ hc ht,ih];simp
theorem qiN{n:Int}:∀ (bs init:List PBook) (z:List UInt8),(∀ b∈bs,BookW b)->qcL ⟨n,init⟩ ((jy bs).data.toList++z)=qcL ⟨n,init++bs⟩ z
 | [],init,z,_=>by
  show qcL _ ([]++z)=_;rw[List.append_nil];rfl
 | b::r,init,z,h=>by
  have hb:=h b (List.mem_cons_self ..);have ih:=qiN (n:=n) r (init ++ [b]) z fun q hq=>h q (List.mem_cons_of_mem _ hq);have hc:=qfQ hb;have ht:=take_book (l:=⟨n,init⟩) hb;rw[jy,qen];simp only[ByteArray.data_append,Array.toList_append,qdI,List.append_assoc];show qcL _ (qaM (qar b)++10::((qbF b.ents).data.toList++((jy r).data.toList++z)))=_;refine(qkR _ hc ht).trans ?_;simp only;rw[qkS b.ents _ _ hb.ents];show qcL ⟨n,init ++ [{ b with ents:=[]++b.ents }]⟩ _=_;rw[List.nil_append];show qcL ⟨n,init ++ [b]⟩ _=_;rw[ih];simp
theorem cutP_near(n:Int):qnl ⟨(qaM [.s nearW,.n n]).toArray⟩ qkJ=(ja n,true):=by
 have e:qaM [.s nearW,.n n] = [110,101,97,114,32]++qel n:=by
  show nearW.data.toList++(32::qel n ++ [])=_;rw[List.append_nil];rfl
 rw[e];have h1:qps ⟨([110,101,97,114,32]++qel n).toArray⟩ qkJ=true:=by
  unfold qps;rw[Bool.and_eq_true,decide_eq_true_eq,decide_eq_true_eq];constructor
  ·show 5<=([110,101,97,114,32]++qel n).toArray.size
   rw[List.size_toArray,List.length_append];show 5<=5+_;omega
  ·apply ByteArray.ext
   rw[ByteArray.data_extract];apply Array.toList_inj.1;show(Array.extract _ 0 5).toList=_;simp;rfl
 unfold qnl;rw[h1,if_pos rfl]
 congr 1
 apply ByteArray.ext;rw[ByteArray.data_extract];apply Array.toList_inj.1;show(Array.extract ([110,101,97,114,32]++qel n).toArray 5 _).toList=qel n;rw[Array.toList_extract];show List.take (([110,101,97,114,32]++qel n).toArray.size-5) (List.drop 5 ([110,101,97,114,32]++qel n))=qel n;show List.take _ (qel n)=_;apply List.take_of_length_le;rw[List.size_toArray,List.length_append];show _<=5+_-5;omega
theorem first_near{n:Int}(h:qiM n)(z:List UInt8):qkK (qaM [.s nearW,.n n]++10::z)=some (n,z):=by
 have hc:qdS [.s nearW,.n n]:=by
  intro w hw;simp only[List.mem_cons,List.not_mem_nil,or_false]at hw
  rcases hw with rfl | rfl
  ·exact qhC
  ·exact qbJ _
 unfold qkK;rw[qhA _ _ (qfv hc)];simp only[if_pos,cutP_near,qbb h,Option.map_some]
theorem qjJ{l:PLog}(h:qD l=0):∀ b∈l.books,BookW b:=by
 intro b hb;obtain⟨h1,h2,h3,h4⟩:=qft h hb;obtain⟨_,_,hh⟩:=qdq.1 h;obtain⟨k,hk⟩:=List.getElem?_of_mem hb;have hR:=(zD h).book b hb;have ho:=hR.off;have hs:=hR.set;refine⟨(qeR.1 (hh k b hk).1).name,?_,?_,?_,?_,fun x hx=>?_⟩
 ·unfold qiM;omega
 ·unfold qiM;omega
 ·unfold qiM;omega
 ·unfold qiM;omega
 ·have hE:=h4 x hx
  have hx2:=hR.ent x hx;refine⟨by unfold qiM;omega,by unfold qiM;omega,?_⟩
  by_cases k1:x.kind=1
  ·exact .inl ⟨k1,(hE.pass k1).1,(hE.pass k1).2⟩
  ·by_cases k2:x.kind=2
   ·exact .inr (.inl ⟨k2,(hE.set k2).1,(hE.set k2).2⟩)
   ·have k3:x.kind=3:=by have:=hx2.2.1;omega
    exact .inr (.inr ⟨k3,(hE.rep k3).1⟩)
theorem qbK{n:Int}(h : -20000<=n/\n<=20000):(ja n).size<=7:=numB_short (by omega)
theorem book_short{b:PBook}(h:BookW b)(hR:BookR b):(rowT (qar b)).size<=60:=by
 have ho:=hR.off;have hs:=hR.set;have h1:=qbk h.name;have h2:=qbK (n:=b.off.lo) (by omega);have h3:=qbK (n:=b.off.hi) (by omega);have h4:=qbK (n:=b.set.lo) (by omega);have h5:=qbK (n:=b.set.hi) (by omega);have e:(rowT (qar b)).size=bookW.size+(1+b.name.size+(1+(ja b.off.lo).size+(1+(ja b.off.hi).size+(1+(ja b.set.lo).size+(1+(ja b.set.hi).size+0)))))+1:=by
  simp only[rowT,qar,qaW,qbC,qu];rfl
 have:bookW.size=4:=rfl;omega
theorem ent_short{x:PEnt}(h:EntW x)(hs:0<=x.shown/\x.shown<=20000)(hn:0<=x.number/\x.number<=99):(rowT (qbE x)).size<=40:=by
 have h2:=qbK (n:=x.shown) (by omega);have h3:=qbK (n:=x.number) (by omega);unfold qbE
 rcases h.kind with⟨h1,h4,h5⟩ | ⟨h1,h4,h5⟩ | ⟨h1,h4⟩
 ·have h6:=qbk h4
  rw[if_pos h1];have e:(rowT [.s passW,.n x.shown,.s x.word]).size=passW.size+(1+(ja x.shown).size+(1+x.word.size+0))+1:=by
   simp only[rowT,qaW,qbC,qu];rfl
  have:passW.size=4:=rfl;omega
 ·rw[if_neg (by omega),if_pos h1]
  have e:(rowT [.s setW,.n x.shown]).size=setW.size+(1+(ja x.shown).size+0)+1:=by
   simp only[rowT,qaW,qbC,qu];rfl
  have:setW.size=3:=rfl;omega
 ·have h6:=qbk h4
  rw[if_neg (by omega),if_neg (by omega)];have e:(rowT [.s reportW,.n x.shown,.s x.word,.n x.number]).size=reportW.size+(1+(ja x.shown).size+(1+x.word.size+(1+(ja x.number).size+0)))+1:=by
   simp only[rowT,qaW,qbC,qu];rfl
  have:reportW.size=6:=rfl;omega
theorem qiO:∀ {r:List PEnt},(∀ x∈r,(rowT (qbE x)).size<=40)->(qbF r).size<=40*r.length
 | [],_=>Nat.zero_le _
 | x::r,h=>by
  have h1:=qiO (r:=r) fun y hy=>h y (List.mem_cons_of_mem _ hy);have h2:=h x (List.mem_cons_self ..);rw[qbF,qu,List.length_cons];omega
theorem qhE:∀ {r:List PBook},(∀ x∈r,(qen x).size<=400)->(jy r).size<=400*r.length
 | [],_=>Nat.zero_le _
 | x::r,h=>by
  have h1:=qhE (r:=r) fun y hy=>h y (List.mem_cons_of_mem _ hy);have h2:=h x (List.mem_cons_self ..);rw[jy,qu,List.length_cons];omega
theorem qiP{l:PLog}(h:qD l=0):(qcK l).size<=1500:=by
 have hR:=zD h;have hW:=qjJ h;have h1:=qhE (r:=l.books) (by
  intro b hb;have hbR:=hR.book b hb;have h2:=book_short (hW b hb) hbR;have h3:=qiO (r:=b.ents) fun x hx=>ent_short ((hW b hb).ents x hx) (hbR.ent x hx).1 (hbR.ent x hx).2.2;have h4:=hbR.ents;rw[qen,qu];omega)
 have h2:=qbK (n:=l.near) (by have:=hR.near;omega);have h3:=hR.books;have e:(rowT [.s nearW,.n l.near]).size=nearW.size+(1+(ja l.near).size+0)+1:=by
  simp only[rowT,qaW,qbC,qu];rfl
 have:nearW.size=4:=rfl;rw[qcK,qu];omega
theorem read_write{l:PLog}(h:qD l=0):qaj (qcK l)=(l,0):=by
 have hR:=zD h;have hs:=qiP h;have hn:qiM l.near:=by have:=hR.near;unfold qiM;omega
 have e:(qcK l).data.toList=qaM [.s nearW,.n l.near]++10::((jy l.books).data.toList ++ []):=by
  rw[qcK];simp only[ByteArray.data_append,Array.toList_append,qdI,List.append_assoc,List.append_nil];rfl
 have hl:jK (qcK l).data.toList=some l:=by
  unfold jK;rw[e,first_near hn];show qcL ⟨l.near,[]⟩ _=_;rw[qiN l.books [] [] (qjJ h),qjG,if_pos rfl];rfl
 unfold qaj;rw[if_neg (by omega),hl];simp only[h,and_self,if_pos]
theorem qiQ{s:ByteArray}(h:(qaj s).2=0):qD (qaj s).1=0/\qcK (qaj s).1=s:=by
 unfold qaj at h ⊢
 split at h
 ·cases h
 ·rename_i h4
  rw[if_neg h4]
  cases hr:jK s.data.toList with
  | none=>rw[hr]at h;cases h
  | some c=>
   rw[hr]at h;simp only at h ⊢
   split at h
   ·rename_i h5
    rw[if_pos h5];exact h5
   ·cases h
theorem qkT{s:ByteArray}(h:(qaj s).2≠0):(qaj s).1=qmJ:=by
 unfold qaj at h ⊢
 split
 ·rfl
 ·rename_i h4
  rw[if_neg h4]at h
  cases hr:jK s.data.toList with
  | none=>rfl
  | some c=>
   rw[hr]at h;simp only at h ⊢
   split
   ·rename_i h5
    rw[if_pos h5]at h;exact absurd rfl h
   ·rfl
end Go.PX
namespace Go.PX
open Go.Proofs
open Go.RowKit
theorem few_of{l:PLog}(h:qD l=0):FewP l:=by
 have hR:=zD h;refine⟨by have:=hR.books;omega,fun b hb=>?_⟩;have:=(hR.book b hb).ents;omega
end Go.PX
namespace Go.PX
open Go.Proofs
open Go.RowKit
end Go.PX
namespace Go.PX
open Go.Proofs
open Go.RowKit
end Go.PX
namespace Go.PX
open Go.Proofs
open Go.RowKit Go.Proofs
set_option maxHeartbeats 1000000 in
set_option maxRecDepth 100000 in
theorem dig_0(w:World):Calls Tryz.prog 122 #[.int .i64 0] w fun e w'=>e = .returned (.string ⟨#[48]⟩)/\w'=w.alloc (.cells #[.int .u8 48] 5):=by
 have hcv:(convert 186 9 (.slice (some ⟨w.heap.size,0,none⟩) 1 1)).run Tryz.prog (w.alloc (.cells #[.int .u8 48] 5)) = .ok (.string ⟨#[48]⟩) (w.alloc (.cells #[.int .u8 48] 5)):=
  run_convert_bytes_back (P:=Tryz.prog) (w.alloc (.cells #[.int .u8 48] 5)) 186 9 5 ⟨w.heap.size,0,none⟩ 1 [48] Tryz.underlying186 Tryz.underlying5 Tryz.underlying9 (by
   intro j hj;have h0:j=0:=by simpa using hj
   subst h0;simp[go_sem])
 go_enter Tryz.func122,Tryz.ntmps122
 go_wp2
 go_ret
 exact⟨rfl,rfl⟩
set_option maxHeartbeats 1000000 in
set_option maxRecDepth 100000 in
theorem dig_1(w:World):Calls Tryz.prog 122 #[.int .i64 1] w fun e w'=>e = .returned (.string ⟨#[49]⟩)/\w'=w.alloc (.cells #[.int .u8 49] 5):=by
 have hcv:(convert 186 9 (.slice (some ⟨w.heap.size,0,none⟩) 1 1)).run Tryz.prog (w.alloc (.cells #[.int .u8 49] 5)) = .ok (.string ⟨#[49]⟩) (w.alloc (.cells #[.int .u8 49] 5)):=
  run_convert_bytes_back (P:=Tryz.prog) (w.alloc (.cells #[.int .u8 49] 5)) 186 9 5 ⟨w.heap.size,0,none⟩ 1 [49] Tryz.underlying186 Tryz.underlying5 Tryz.underlying9 (by
   intro j hj;have h0:j=0:=by simpa using hj
   subst h0;simp[go_sem])
 go_enter Tryz.func122,Tryz.ntmps122
 go_wp2
 go_ret
 exact⟨rfl,rfl⟩
set_option maxHeartbeats 1000000 in
set_option maxRecDepth 100000 in
theorem dig_2(w:World):Calls Tryz.prog 122 #[.int .i64 2] w fun e w'=>e = .returned (.string ⟨#[50]⟩)/\w'=w.alloc (.cells #[.int .u8 50] 5):=by
 have hcv:(convert 186 9 (.slice (some ⟨w.heap.size,0,none⟩) 1 1)).run Tryz.prog (w.alloc (.cells #[.int .u8 50] 5)) = .ok (.string ⟨#[50]⟩) (w.alloc (.cells #[.int .u8 50] 5)):=
  run_convert_bytes_back (P:=Tryz.prog) (w.alloc (.cells #[.int .u8 50] 5)) 186 9 5 ⟨w.heap.size,0,none⟩ 1 [50] Tryz.underlying186 Tryz.underlying5 Tryz.underlying9 (by
   intro j hj;have h0:j=0:=by simpa using hj
   subst h0;simp[go_sem])
 go_enter Tryz.func122,Tryz.ntmps122
 go_wp2
 go_ret
 exact⟨rfl,rfl⟩
set_option maxHeartbeats 1000000 in
set_option maxRecDepth 100000 in
theorem dig_3(w:World):Calls Tryz.prog 122 #[.int .i64 3] w fun e w'=>e = .returned (.string ⟨#[51]⟩)/\w'=w.alloc (.cells #[.int .u8 51] 5):=by
 have hcv:(convert 186 9 (.slice (some ⟨w.heap.size,0,none⟩) 1 1)).run Tryz.prog (w.alloc (.cells #[.int .u8 51] 5)) = .ok (.string ⟨#[51]⟩) (w.alloc (.cells #[.int .u8 51] 5)):=
  run_convert_bytes_back (P:=Tryz.prog) (w.alloc (.cells #[.int .u8 51] 5)) 186 9 5 ⟨w.heap.size,0,none⟩ 1 [51] Tryz.underlying186 Tryz.underlying5 Tryz.underlying9 (by
   intro j hj;have h0:j=0:=by simpa using hj
   subst h0;simp[go_sem])
 go_enter Tryz.func122,Tryz.ntmps122
 go_wp2
 go_ret
 exact⟨rfl,rfl⟩
set_option maxHeartbeats 1000000 in
set_option maxRecDepth 100000 in
theorem dig_4(w:World):Calls Tryz.prog 122 #[.int .i64 4] w fun e w'=>e = .returned (.string ⟨#[52]⟩)/\w'=w.alloc (.cells #[.int .u8 52] 5):=by
 have hcv:(convert 186 9 (.slice (some ⟨w.heap.size,0,none⟩) 1 1)).run Tryz.prog (w.alloc (.cells #[.int .u8 52] 5)) = .ok (.string ⟨#[52]⟩) (w.alloc (.cells #[.int .u8 52] 5)):=
  run_convert_bytes_back (P:=Tryz.prog) (w.alloc (.cells #[.int .u8 52] 5)) 186 9 5 ⟨w.heap.size,0,none⟩ 1 [52] Tryz.underlying186 Tryz.underlying5 Tryz.underlying9 (by
   intro j hj;have h0:j=0:=by simpa using hj
   subst h0;simp[go_sem])
 go_enter Tryz.func122,Tryz.ntmps122
 go_wp2
 go_ret
 exact⟨rfl,rfl⟩
set_option maxHeartbeats 1000000 in
set_option maxRecDepth 100000 in
theorem dig_5(w:World):Calls Tryz.prog 122 #[.int .i64 5] w fun e w'=>e = .returned (.string ⟨#[53]⟩)/\w'=w.alloc (.cells #[.int .u8 53] 5):=by
 have hcv:(convert 186 9 (.slice (some ⟨w.heap.size,0,none⟩) 1 1)).run Tryz.prog (w.alloc (.cells #[.int .u8 53] 5)) = .ok (.string ⟨#[53]⟩) (w.alloc (.cells #[.int .u8 53] 5)):=
  run_convert_bytes_back (P:=Tryz.prog) (w.alloc (.cells #[.int .u8 53] 5)) 186 9 5 ⟨w.heap.size,0,none⟩ 1 [53] Tryz.underlying186 Tryz.underlying5 Tryz.underlying9 (by
   intro j hj;have h0:j=0:=by simpa using hj
   subst h0;simp[go_sem])
 go_enter Tryz.func122,Tryz.ntmps122
 go_wp2
 go_ret
 exact⟨rfl,rfl⟩
set_option maxHeartbeats 1000000 in
set_option maxRecDepth 100000 in
theorem dig_6(w:World):Calls Tryz.prog 122 #[.int .i64 6] w fun e w'=>e = .returned (.string ⟨#[54]⟩)/\w'=w.alloc (.cells #[.int .u8 54] 5):=by
 have hcv:(convert 186 9 (.slice (some ⟨w.heap.size,0,none⟩) 1 1)).run Tryz.prog (w.alloc (.cells #[.int .u8 54] 5)) = .ok (.string ⟨#[54]⟩) (w.alloc (.cells #[.int .u8 54] 5)):=
  run_convert_bytes_back (P:=Tryz.prog) (w.alloc (.cells #[.int .u8 54] 5)) 186 9 5 ⟨w.heap.size,0,none⟩ 1 [54] Tryz.underlying186 Tryz.underlying5 Tryz.underlying9 (by
   intro j hj;have h0:j=0:=by simpa using hj
   subst h0;simp[go_sem])
 go_enter Tryz.func122,Tryz.ntmps122
 go_wp2
 go_ret
 exact⟨rfl,rfl⟩
set_option maxHeartbeats 1000000 in
set_option maxRecDepth 100000 in
theorem dig_7(w:World):Calls Tryz.prog 122 #[.int .i64 7] w fun e w'=>e = .returned (.string ⟨#[55]⟩)/\w'=w.alloc (.cells #[.int .u8 55] 5):=by
 have hcv:(convert 186 9 (.slice (some ⟨w.heap.size,0,none⟩) 1 1)).run Tryz.prog (w.alloc (.cells #[.int .u8 55] 5)) = .ok (.string ⟨#[55]⟩) (w.alloc (.cells #[.int .u8 55] 5)):=
  run_convert_bytes_back (P:=Tryz.prog) (w.alloc (.cells #[.int .u8 55] 5)) 186 9 5 ⟨w.heap.size,0,none⟩ 1 [55] Tryz.underlying186 Tryz.underlying5 Tryz.underlying9 (by
   intro j hj;have h0:j=0:=by simpa using hj
   subst h0;simp[go_sem])
 go_enter Tryz.func122,Tryz.ntmps122
 go_wp2
 go_ret
 exact⟨rfl,rfl⟩
set_option maxHeartbeats 1000000 in
set_option maxRecDepth 100000 in
theorem dig_8(w:World):Calls Tryz.prog 122 #[.int .i64 8] w fun e w'=>e = .returned (.string ⟨#[56]⟩)/\w'=w.alloc (.cells #[.int .u8 56] 5):=by
 have hcv:(convert 186 9 (.slice (some ⟨w.heap.size,0,none⟩) 1 1)).run Tryz.prog (w.alloc (.cells #[.int .u8 56] 5)) = .ok (.string ⟨#[56]⟩) (w.alloc (.cells #[.int .u8 56] 5)):=
  run_convert_bytes_back (P:=Tryz.prog) (w.alloc (.cells #[.int .u8 56] 5)) 186 9 5 ⟨w.heap.size,0,none⟩ 1 [56] Tryz.underlying186 Tryz.underlying5 Tryz.underlying9 (by
   intro j hj;have h0:j=0:=by simpa using hj
   subst h0;simp[go_sem])
 go_enter Tryz.func122,Tryz.ntmps122
 go_wp2
 go_ret
 exact⟨rfl,rfl⟩
set_option maxHeartbeats 1000000 in
set_option maxRecDepth 100000 in
theorem dig_9(w:World):Calls Tryz.prog 122 #[.int .i64 9] w fun e w'=>e = .returned (.string ⟨#[57]⟩)/\w'=w.alloc (.cells #[.int .u8 57] 5):=by
 have hcv:(convert 186 9 (.slice (some ⟨w.heap.size,0,none⟩) 1 1)).run Tryz.prog (w.alloc (.cells #[.int .u8 57] 5)) = .ok (.string ⟨#[57]⟩) (w.alloc (.cells #[.int .u8 57] 5)):=
  run_convert_bytes_back (P:=Tryz.prog) (w.alloc (.cells #[.int .u8 57] 5)) 186 9 5 ⟨w.heap.size,0,none⟩ 1 [57] Tryz.underlying186 Tryz.underlying5 Tryz.underlying9 (by
   intro j hj;have h0:j=0:=by simpa using hj
   subst h0;simp[go_sem])
 go_enter Tryz.func122,Tryz.ntmps122
 go_wp2
 go_ret
 exact⟨rfl,rfl⟩
end Go.PX
namespace Go.PX
open Go.Proofs
theorem dig_call{d:Nat}{b:UInt8}(h:∀ w:World,Calls Tryz.prog 122 #[.int .i64 (d:Int)] w fun e w'=>e = .returned (.string ⟨#[b]⟩)/\w'=w.alloc (.cells #[.int .u8 b.toNat] 5)):FnV Tryz.prog 122 [i64 (d:Int)] (.str ⟨#[b]⟩):=by
 refine qcl (enters Tryz.func122 rfl (by decide +kernel)) fun vals w F hl hf hr=>?_;obtain⟨x,l',h1,h2,h3⟩:=hr;have h2:x = .int .i64 (d:Int):=h2;have h3:l' = []:=h3;subst h2 h3;have hv:vals = #[.int .i64 (d:Int)]:=Array.ext' h1;subst hv;refine(h w).mono ?_;rintro e w' ⟨rfl,rfl⟩;refine⟨_,rfl,⟨rfl,rfl,rfl,by simp,fun b hb=>?_⟩,F,fun _ _=>rfl,fun b hb=>hf b ?_,rfl⟩
 ·show(w.heap.push _)[b]?=_
  rw[Array.getElem?_push_lt hb,Array.getElem?_eq_getElem hb]
 ·have:(w.alloc (.cells #[.int .u8 (b:Nat)] 5)).heap.size=w.heap.size+1:=by simp
  simp at hb;omega
theorem dig_any:∀ d:Nat,d<10 -> ∃ b:UInt8,ja (d:Int)=⟨#[b]⟩ /\ ∀ w:World,Calls Tryz.prog 122 #[.int .i64 (d:Int)] w fun e w'=>e = .returned (.string ⟨#[b]⟩)/\w'=w.alloc (.cells #[.int .u8 b.toNat] 5)
 | 0,_=>⟨48,rfl,dig_0⟩
 | 1,_=>⟨49,rfl,dig_1⟩
 | 2,_=>⟨50,rfl,dig_2⟩
 | 3,_=>⟨51,rfl,dig_3⟩
 | 4,_=>⟨52,rfl,dig_4⟩
 | 5,_=>⟨53,rfl,dig_5⟩
 | 6,_=>⟨54,rfl,dig_6⟩
 | 7,_=>⟨55,rfl,dig_7⟩
 | 8,_=>⟨56,rfl,dig_8⟩
 | 9,_=>⟨57,rfl,dig_9⟩
 | d+10,h=>absurd h (by omega)
theorem qhF(d:Nat)(hd:d<10):FnV Tryz.prog 122 [i64 (d:Int)] (.str (ja d)):=by
 obtain⟨b,h1,h2⟩:=dig_any d hd;rw[h1];exact dig_call h2
theorem numB_step{n:Int}(h0:10<=n)(h1:n<=1000000000000000000):ja n=ja (n/10)++ja (n%10):=by
 have e:∀ m:Int,0<=m->m<=1000000000000000000->qel m=Lib.decDigits m.toNat:=by
  intro m h2 h3;rw[qoc ⟨by omega,h3⟩];unfold Lib.itoa;rw[if_neg (by omega)]
 have e2:(n/10).toNat=n.toNat/10:=by omega
 have e3:(n%10).toNat=n.toNat%10:=by omega
 have key:qel n=qel (n/10)++qel (n%10):=by
  rw[e n (by omega) h1,e (n/10) (by omega) (by omega),e (n%10) (by omega) (by omega),e2,e3]
  conv=>lhs;rw[Lib.decDigits,dif_neg (by omega)]
  rw[Lib.decDigits_one (show n.toNat%10<10 by omega)]
 unfold ja;rw[key];apply ByteArray.ext;simp
theorem pa122s(n:Int)(h0:10<=n)(h1:n<=1000000000000000000)(ha:FnV Tryz.prog 122 [i64 (n/10)] (.str (ja (n/10))))(hb:FnV Tryz.prog 122 [i64 (n%10)] (.str (ja (n%10)))):FnV Tryz.prog 122 [i64 n] (.str (ja n)):=by
 show FnV Tryz.prog 122 [i64 n] _;refine qF mixed qk Tryz.func122 rfl (ft:=qpJ) 1 (by decide +kernel) (by rfl) fun {σ} Y st=>?_;conv=>whnf
 refine qg (fun h=>absurd h (by simp;omega)) (fun _=>?_);conv=>whnf
 refine qg (fun h=>absurd h (by simp;omega)) (fun _=>?_);have hq:n.tdiv 10=n/10:=Int.tdiv_eq_ediv_of_nonneg (by omega);have hr:n.tmod 10=n%10:=Int.tmod_eq_emod_of_nonneg (by omega);conv=>whnf
 refine qj (n/10) hq (qb (by omega)) ?_;conv=>whnf
 refine qf (ds:=[i64 (n/10)]) ha rfl rfl ?_;conv=>whnf
 rw[hr];refine qf (ds:=[i64 (n%10)]) hb rfl rfl ?_;conv=>whnf
 have s1:=jJ (n/10);have s2:=jJ (n%10);refine qg (fun _=>?_) (fun h=>absurd h (by simp;omega));rw[numB_step h0 h1];conv=>whnf
 exact qc 0 rfl ⟨⟨rfl,rfl⟩,rfl⟩
theorem pa122_pos(k:Nat):∀ n:Int,0<=n->n<10^(k+1)->n<=1000000000000000000->FnV Tryz.prog 122 [i64 n] (.str (ja n)):=by
 induction k with
 | zero=>
  intro n h0 h1 _;obtain⟨d,rfl⟩:∃ d:Nat,n=d:=⟨n.toNat,by omega⟩;exact fun {σ}=>qhF d (by omega)
 | succ k ih=>
  intro n h0 h1 h2
  by_cases h:n<10
  ·obtain⟨d,rfl⟩:∃ d:Nat,n=d:=⟨n.toNat,by omega⟩
   exact qhF d (by omega)
  ·have ha:FnV Tryz.prog 122 [i64 (n/10)] (.str (ja (n/10))):=fun {σ}=>ih (n/10) (by omega) (by rw[Int.pow_succ]at h1;omega) (by omega)
   have hb:FnV Tryz.prog 122 [i64 (n%10)] (.str (ja (n%10))):=by
    obtain⟨d,hd⟩:∃ d:Nat,n%10=d:=⟨(n%10).toNat,by omega⟩;rw[hd];exact fun {σ}=>qhF d (by omega)
   exact pa122s n (by omega) h2 ha hb
theorem numB_neg{n:Int}(h:n<0)(h1 : -1000000000000000000<=n):ja n=⟨#[45]⟩++ja (-n):=by
 have e:qel n=45::qel (-n):=by
  unfold qel;rw[if_pos h,if_neg (by omega)]
  congr 2;omega
 unfold ja;rw[e];apply ByteArray.ext;simp
theorem qmL(m:Int)(h0:0<=m)(h1:m<=1000000000000000000):FnV Tryz.prog 122 [i64 m] (.str (ja m)):=by
 have h2:(10:Int)^(18+1)=10000000000000000000:=by decide
 exact fun {σ}=>pa122_pos 18 m h0 (by omega) h1
theorem pa122_mi(n:Int)(h:n<0)(h1 : -1000000000000000000<=n):FnV Tryz.prog 122 [i64 n] (.str (⟨#[45]⟩++ja (-n))):=by
 show FnV Tryz.prog 122 [i64 n] _;refine qF mixed qk Tryz.func122 rfl (ft:=qpJ) 1 (by decide +kernel) (by rfl) fun {σ} Y st=>?_;conv=>whnf
 refine qg (fun _=>?_) (fun h=>absurd h (by simp;omega));conv=>whnf
 refine qj ((-n)) (by(try dsimp only);omega) (qb (by(try dsimp only);omega)) ?_;conv=>whnf
 refine qf (ds:=[i64 (-n)]) (qmL (-n) (by omega) (by omega)) rfl rfl ?_;conv=>whnf
 have s1:=jJ (-n);refine qg (fun _=>?_) (fun h=>absurd (of_decide_eq_false h) (by show ¬ ¬ (1+(ja (-n)).size<=9223372036854775807);omega));conv=>whnf
 exact qc 0 rfl ⟨⟨rfl,rfl⟩,rfl⟩
theorem qlE(n:Int)(h:qiM n):FnV Tryz.prog 122 [i64 n] (.str (ja n)):=by
 unfold qiM at h
 by_cases h0:0<=n
 ·exact qmL n h0 h.2
 ·rw[numB_neg (by omega) h.1]
  exact pa122_mi n (by omega) h.1
end Go.PX
namespace Go.PX
open Go.Proofs
def qhG(l:List ByteArray):List (List D):=l.map fun s=>[.str s]
theorem qlF(s:ByteArray)(a:Nat):(s.extract a s.size).data.toList=s.data.toList.drop a:=by
 rw[ByteArray.data_extract];simp;have:s.size=s.data.toList.length:=by simp
 rw[List.take_of_length_le];simp
theorem qeq(c:UInt8):∀ (l p:List UInt8),(∀ x∈p,x≠c)->zb c (p++l)=match zb c l with
  | []=>[p]
  | a::t=>(p++a)::t
 | l,[],_=>by
  have:=qeS c l
  cases h:zb c l with
  | nil=>exact absurd h this
  | cons a t=>simp[h]
 | l,x::p,hp=>by
  have:=qeS c l;rw[List.cons_append,zb,if_neg (hp x (by simp)),qeq c l p fun y hy=>hp y (by simp[hy])]
  cases h:zb c l with
  | nil=>exact absurd h this
  | cons a t=>rfl
theorem splitL_none(c:UInt8)(p:List UInt8)(h:∀ x∈p,x≠c):zb c p = [p]:=by
 have:=qeq c [] p h;rw[List.append_nil]at this;rw[this];simp[zb]
theorem qkU(c:UInt8)(p r:List UInt8)(h:∀ x∈p,x≠c):zb c (p++c::r)=p::zb c r:=by
 rw[qeq c (c::r) p h,zb,if_pos rfl];simp
theorem ext_toL(s:ByteArray)(a b:Nat):(s.extract a b).data.toList=(s.data.toList.drop a).take (b-a):=by
 rw[ByteArray.data_extract];simp
theorem drop_at{α:Type}{l:List α}{a i:Nat}{x:α}(ha:a<=i)(h:l[i]?=some x):l.drop a=(l.drop a).take (i-a)++x::l.drop (i+1):=by
 have hi:i<l.length:=(List.getElem?_eq_some_iff.1 h).1;have hx:l[i]=x:=(List.getElem?_eq_some_iff.1 h).2;have h1:(l.drop a).drop (i-a)=x::l.drop (i+1):=by
  rw[List.drop_drop,show a+(i-a)=i by omega,List.drop_eq_getElem_cons hi,hx]
 conv=>lhs;rw[<- List.take_append_drop (i-a) (l.drop a),h1]
theorem pieces_of{c:UInt8}{s:ByteArray}{acc:List ByteArray}{fr:Nat}(h3:∀ x∈s.data.toList.drop fr,x≠c)(h4:zb c s.data.toList=(acc.map fun x=>x.data.toList)++zb c (s.data.toList.drop fr)):acc ++ [s.extract fr s.size]=qP c s:=by
 rw[splitL_none c _ h3]at h4;unfold qP;rw[h4,List.map_append,List.map_map]
 congr 1
 ·conv=>lhs;rw[<- List.map_id acc]
  rfl
 ·rw[List.map_cons,List.map_nil,<- qlF]
set_option maxHeartbeats 2000000 in
theorem qoL(s:ByteArray)(c:UInt8)(hs:s.size<=1000000):FnV Tryz.prog 100 [.str s,.int .u8 c.toNat] (.vs ((qP c s).map fun x=>[.str x])):=by
 show FnV Tryz.prog 100 [.str s,.int .u8 c.toNat] _;refine qF mixed qk Tryz.func100 rfl (ft:=ft100) 2 (by decide +kernel) (by rfl) fun {σ} Y st=>?_;conv=>whnf
 have hsz:s.size=s.data.toList.length:=by simp
 refine zo (T:=tys) qk (by exact qh mixed qk (by decide +kernel)) s.data.toList (fun i (g:List ByteArray×Nat)=>⟨[(0,.d (.str s)),(1,.d (.int .u8 c.toNat)),(5,.sl 25 1 0 g.1.length),(6,.d (i64 g.2)),(7,.d (i64 i))],[(25,.arr 1 (.dd (qhG g.1)))],st⟩)
  (fun i r g=>g.2<=i/\g.1.length<=i/\(∀ x∈(s.data.toList.drop g.2).take (i-g.2),x≠c)/\zb c s.data.toList=(g.1.map fun x=>x.data.toList)++zb c (s.data.toList.drop g.2)) ([],0) ((Wk.born 5 25 1 rfl rfl rfl).trans (Wk.sub (by repeat' first|exact trivial|refine⟨?_,?_⟩|rfl|(simp only[List.length_map];rfl)|simp[PX.get]) ⟨(by first | rfl | (simp only[List.length_map];rfl) | simp[PX.get]),trivial⟩)) ⟨by omega,by simp,by simp,by simp⟩ ?_ ?_
 ·rintro i x r ⟨acc,fr⟩ hxi hi hir ⟨h1,h2,h3,h4⟩
  simp only at h1 h2 h3 h4;have hda:=drop_at h1 hxi;conv=>whnf
  refine qg (fun _=>?_) (fun h=>absurd h (by simp;omega));conv=>whnf
  refine qR x (by simpa using hxi) ?_;conv=>whnf
  refine qg (fun h5=>?_) (fun h5=>?_)
  ·have h5:x=c:=by
    have h9:(x.toNat:Int)=c.toNat:=of_decide_eq_true h5;exact UInt8.toNat_inj.1 (by omega)
   subst h5;have h6:zb x s.data.toList=((acc ++ [s.extract fr i]).map fun x=>x.data.toList)++zb x (s.data.toList.drop (i+1)):=by
    rw[h4,hda,qkU x _ _ h3,List.map_append,List.map_cons,List.map_nil,ext_toL];simp
   conv=>whnf
   refine ze (by simp;omega) ?_;conv=>whnf
   refine ze (by simp;omega) ?_;conv=>whnf
   refine qi rfl ?_;conv=>whnf
   refine qi (by simp[Els.len,qhG]) ?_;conv=>whnf
   refine ze (decide_eq_true (by show((qhG acc).length+1)*16<=_;simp only[qhG,List.length_map];omega)) ?_;conv=>whnf
   refine qd (qb (by(try dsimp only);omega)) ?_;conv=>whnf
   conv=>whnf
   refine qd (qb (by(try dsimp only);omega)) ?_;conv=>whnf
   exact⟨(acc ++ [s.extract fr i],i+1),⟨by simp only;omega,by simp;omega,by simp,h6⟩,Wk.sub ⟨rfl,rfl,congrArg (fun z:Nat=>some (V.sl 25 1 0 z)) (by simp[Els.len,qhG]),rfl,rfl,trivial⟩ ⟨congrArg (fun z=>some (Obj.arr 1 (.dd z))) (by simp[qhG]),trivial⟩⟩
  ·have h5:x≠c:=by
    rintro rfl;simp at h5
   have h6:∀ y∈(s.data.toList.drop fr).take (i+1-fr),y≠c:=by
    intro y hy;rw[hda,List.take_append]at hy
    rcases List.mem_append.1 hy with hy | hy
    ·exact h3 y (List.mem_of_mem_take hy)
    ·have hl:((s.data.toList.drop fr).take (i-fr)).length=i-fr:=by simp;omega
     rw[hl,show i+1-fr-(i-fr)=1 by omega]at hy;have hy:y=x:=by simpa using hy
     subst hy;exact h5
   conv=>whnf
   refine qd (qb (by(try dsimp only);omega)) ?_;conv=>whnf
   exact⟨(acc,fr),⟨by simp only;omega,by simp only;omega,h6,h4⟩,(Wk.sub (by repeat' first|exact trivial|refine⟨?_,?_⟩|rfl|(simp only[List.length_map];rfl)|simp[PX.get]) ⟨(by first | rfl | (simp only[List.length_map];rfl) | simp[PX.get]),trivial⟩)⟩
 ·rintro ⟨acc,fr⟩ ⟨h1,h2,h3,h4⟩
  simp only at h1 h2 h3 h4;have h7:∀ x∈s.data.toList.drop fr,x≠c:=by
   intro x hx;refine h3 x ?_;rw[List.take_of_length_le (by simp)];exact hx
  have h8:=pieces_of h7 h4;rw[<- h8];conv=>whnf
  refine qg (fun h=>absurd h (by simp)) (fun _=>?_);conv=>whnf
  refine ze (by simp;omega) ?_;conv=>whnf
  refine qi rfl ?_;conv=>whnf
  refine qi (by simp[Els.len,qhG]) ?_;conv=>whnf
  refine ze (decide_eq_true (by show((qhG acc).length+1)*16<=_;simp only[qhG,List.length_map];omega)) ?_;conv=>whnf
  refine qc 1 (ds:=[.vs ((acc ++ [s.extract fr s.size]).map fun x=>[.str x])]) ?_ ⟨⟨rfl,rfl⟩,rfl⟩;exact qE (zX (by simp[PX.get,qhG]) (by simp[Els.len,qhG])) rfl
end Go.PX
namespace Go.PX
open Go.Proofs
open Go.RowKit
theorem za(l:List UInt8):(⟨l.toArray⟩:ByteArray).size=l.length:=by
 show l.toArray.size=_;simp
theorem qbL(w:Wd)(r:List Wd):qaW (w::r)=w.b++qbC r:=rfl
theorem qcp(w:Wd)(r:List Wd):qbC (w::r)=(spB++w.b)++qbC r:=rfl
theorem qdr:qbC [] = .empty:=rfl
set_option maxHeartbeats 4000000 in
theorem qrm(l:PLog)(hc:qD l=0):FnV Tryz.prog 92 [l.d] (.str (qcK l)):=by
 have hR:=zD hc;have hW:=qjJ hc;have hsz:=qiP hc;have hnr:=hR.near;have hbl:=hR.books;have sn:=jJ l.near;show FnV Tryz.prog 92 [l.d] _;refine qF mixed qk Tryz.func92 rfl (ft:=ft92) 1 (by decide +kernel) (by rfl) fun {σ} Y st=>?_;conv=>whnf
 refine qf (ds:=[i64 l.near]) (qlE _ (by unfold qiM;omega)) rfl rfl ?_;conv=>whnf
 refine qg (fun _=>?_) (fun h=>absurd (of_decide_eq_false h) (by simp only[qu,za,List.length_cons,List.length_nil];omega));conv=>whnf
 refine qg (fun _=>?_) (fun h=>absurd (of_decide_eq_false h) (by simp only[qu,za,List.length_cons,List.length_nil];omega));conv=>whnf
 have hT0:(⟨#[110,101,97,114,32]⟩++ja l.near++⟨#[10]⟩:ByteArray)++jy l.books=qcK l:=by
  have e:(⟨#[110,101,97,114,32]⟩:ByteArray)=nearW++spB:=by decide
  rw[e,qcK];simp only[rowT,qbL,qcp,qdr,zE,qfP];rfl
 generalize (⟨#[110,101,97,114,32]⟩++ja l.near++⟨#[10]⟩:ByteArray)=t0 at hT0 ⊢;refine zo (T:=tys) qk (by exact qh mixed qk (by decide +kernel)) l.books (fun i (acc:ByteArray)=>⟨[(1,.ptr 1 0),(3,.d (.str acc)),(4,.d (i64 i))],[(1,.box (.dd l.cells))],st⟩) (fun i r acc=>acc++jy r=qcK l) t0 (Wk.sub (by repeat' first|exact trivial|refine⟨?_,?_⟩|rfl|(simp only[List.length_map];rfl)|simp[PX.get]) ⟨(by first | rfl | (simp only[List.length_map];rfl) | simp[PX.get]),trivial⟩) hT0 ?_ ?_
 ·rintro i b r acc hbi hi hir hacc
  have hbm:=List.mem_of_getElem? hbi;have hbW:=hW b hbm;have hbR:=hR.book b hbm;have hel:=hbR.ents;have hnm:=qbk hbW.name;have hasz:acc.size+(qen b).size<=1500:=by
   have h1:=congrArg ByteArray.size hacc;rw[jy,qu,qu]at h1;omega
  have s1:=jJ b.off.lo;have s2:=jJ b.off.hi;have s3:=jJ b.set.lo;have s4:=jJ b.set.hi;conv=>whnf
  refine qg (fun _=>?_) (fun h=>absurd hi (by have:=of_decide_eq_false h;simp at this;omega));conv=>whnf
  refine qz hbi ?_;conv=>whnf
  refine qg (fun _=>?_) (fun h=>absurd (of_decide_eq_false h) (by simp only[qu,za,List.length_cons,List.length_nil];omega));conv=>whnf
  refine qg (fun _=>?_) (fun h=>absurd (of_decide_eq_false h) (by simp only[qu,za,List.length_cons,List.length_nil];omega));conv=>whnf
  refine qg (fun _=>?_) (fun h=>absurd (of_decide_eq_false h) (by simp only[qu,za,List.length_cons,List.length_nil];omega));conv=>whnf
  refine qp (ds:=[i64 b.off.lo]) (qlE _ hbW.ol) rfl rfl ?_;conv=>whnf
  refine qg (fun _=>?_) (fun h=>absurd (of_decide_eq_false h) (by simp only[qu,za,List.length_cons,List.length_nil];omega));conv=>whnf
  refine qg (fun _=>?_) (fun h=>absurd (of_decide_eq_false h) (by simp only[qu,za,List.length_cons,List.length_nil];omega));conv=>whnf
  refine qp (ds:=[i64 b.off.hi]) (qlE _ hbW.oh) rfl rfl ?_;conv=>whnf
  refine qg (fun _=>?_) (fun h=>absurd (of_decide_eq_false h) (by simp only[qu,za,List.length_cons,List.length_nil];omega));conv=>whnf
  refine qg (fun _=>?_) (fun h=>absurd (of_decide_eq_false h) (by simp only[qu,za,List.length_cons,List.length_nil];omega));conv=>whnf
  refine qp (ds:=[i64 b.set.lo]) (qlE _ hbW.sl) rfl rfl ?_;conv=>whnf
  refine qg (fun _=>?_) (fun h=>absurd (of_decide_eq_false h) (by simp only[qu,za,List.length_cons,List.length_nil];omega));conv=>whnf
  refine qg (fun _=>?_) (fun h=>absurd (of_decide_eq_false h) (by simp only[qu,za,List.length_cons,List.length_nil];omega));conv=>whnf
  refine qp (ds:=[i64 b.set.hi]) (qlE _ hbW.sh) rfl rfl ?_;conv=>whnf
  refine qg (fun _=>?_) (fun h=>absurd (of_decide_eq_false h) (by simp only[qu,za,List.length_cons,List.length_nil];omega));conv=>whnf
  refine qg (fun _=>?_) (fun h=>absurd (of_decide_eq_false h) (by simp only[qu,za,List.length_cons,List.length_nil];omega));conv=>whnf
  have hJ:(acc++⟨#[98,111,111,107,32]⟩++b.name++⟨#[32]⟩++ja b.off.lo++⟨#[32]⟩++ja b.off.hi++⟨#[32]⟩++ja b.set.lo++⟨#[32]⟩++ja b.set.hi++⟨#[10]⟩:ByteArray)++qbF b.ents=acc++qen b:=by
   have e:(⟨#[98,111,111,107,32]⟩:ByteArray)=bookW++spB:=by decide
   rw[e,qen];simp only[rowT,qar,qbL,qcp,qdr,zE,qfP];rfl
  generalize (acc++⟨#[98,111,111,107,32]⟩++b.name++⟨#[32]⟩++ja b.off.lo++⟨#[32]⟩++ja b.off.hi++⟨#[32]⟩++ja b.set.lo++⟨#[32]⟩++ja b.set.hi++⟨#[10]⟩:ByteArray)=s0 at hJ ⊢;refine zo (T:=tys) qk (by exact qh mixed qk (by decide +kernel)) b.ents (fun j (s:ByteArray)=>⟨[(1,.ptr 1 0),(3,.d (.str s)),(4,.d (i64 i)),(5,.ptr 5 0),(6,.d (i64 j))],[(1,.box (.dd l.cells)),(5,.box (.dd b.cells))],st⟩) (fun j rr s=>s++qbF rr=acc++qen b) s0 (Wk.sub (by repeat' first|exact trivial|refine⟨?_,?_⟩|rfl|(simp only[List.length_map];rfl)|simp[PX.get]) (by repeat' first|exact trivial|refine⟨?_,?_⟩|rfl|(simp only[List.length_map];rfl)|simp[PX.get])) hJ ?_ ?_
  ·rintro j y rr s hyj hj hjr hs
   have hym:=List.mem_of_getElem? hyj;have hyW:=hbW.ents y hym;have hyR:=hbR.ent y hym;have hss:s.size<=1500:=by
    have h1:=congrArg ByteArray.size hs;rw[qu,qu acc]at h1;omega
   have n1:=jJ y.shown;have n2:=jJ y.number;rw[qbF]at hs;unfold qbE at hs;conv=>whnf
   refine qg (fun _=>?_) (fun h=>absurd hj (by have:=of_decide_eq_false h;simp at this;omega));conv=>whnf
   refine qz hyj ?_;conv=>whnf
   refine qf (ds:=[i64 y.shown]) (qlE _ hyW.sh) rfl rfl ?_;conv=>whnf
   refine qg (fun h1=>?_) (fun h1=>?_)
   ·have h1:y.kind=1:=of_decide_eq_true h1
    have hw:y.word.size<=14:=by
     rcases hyW.kind with⟨_,h,_⟩ | ⟨h,_⟩ | ⟨h,_⟩
     ·exact qbk h
     ·omega
     ·omega
    rw[if_pos h1]at hs;conv=>whnf
    refine qg (fun _=>?_) (fun h=>absurd (of_decide_eq_false h) (by simp only[qu,za,List.length_cons,List.length_nil];omega));conv=>whnf
    refine qg (fun _=>?_) (fun h=>absurd (of_decide_eq_false h) (by simp only[qu,za,List.length_cons,List.length_nil];omega));conv=>whnf
    refine qg (fun _=>?_) (fun h=>absurd (of_decide_eq_false h) (by simp only[qu,za,List.length_cons,List.length_nil];omega));conv=>whnf
    refine qg (fun _=>?_) (fun h=>absurd (of_decide_eq_false h) (by simp only[qu,za,List.length_cons,List.length_nil];omega));conv=>whnf
    refine qg (fun _=>?_) (fun h=>absurd (of_decide_eq_false h) (by simp only[qu,za,List.length_cons,List.length_nil];omega));conv=>whnf
    have hJ2:(s++⟨#[112,97,115,115,32]⟩++ja y.shown++⟨#[32]⟩++y.word++⟨#[10]⟩:ByteArray)++qbF rr=acc++qen b:=by
     have e:(⟨#[112,97,115,115,32]⟩:ByteArray)=passW++spB:=by decide
     rw[e,<- hs];simp only[rowT,qbL,qcp,qdr,zE,qfP];rfl
    refine qd (qb (by(try dsimp only);omega)) ?_;conv=>whnf
    exact⟨_,hJ2,(Wk.sub (by repeat' first|exact trivial|refine⟨?_,?_⟩|rfl|(simp only[List.length_map];rfl)|simp[PX.get]) (by repeat' first|exact trivial|refine⟨?_,?_⟩|rfl|(simp only[List.length_map];rfl)|simp[PX.get]))⟩
   ·have h1:¬ y.kind=1:=of_decide_eq_false h1
    rw[if_neg h1]at hs;conv=>whnf
    refine qg (fun h2=>?_) (fun h2=>?_)
    ·have h2:y.kind=2:=of_decide_eq_true h2
     rw[if_pos h2]at hs;conv=>whnf
     refine qg (fun _=>?_) (fun h=>absurd (of_decide_eq_false h) (by simp only[qu,za,List.length_cons,List.length_nil];omega));conv=>whnf
     refine qg (fun _=>?_) (fun h=>absurd (of_decide_eq_false h) (by simp only[qu,za,List.length_cons,List.length_nil];omega));conv=>whnf
     refine qg (fun _=>?_) (fun h=>absurd (of_decide_eq_false h) (by simp only[qu,za,List.length_cons,List.length_nil];omega));conv=>whnf
     have hJ2:(s++⟨#[115,101,116,32]⟩++ja y.shown++⟨#[10]⟩:ByteArray)++qbF rr=acc++qen b:=by
      have e:(⟨#[115,101,116,32]⟩:ByteArray)=setW++spB:=by decide
      rw[e,<- hs];simp only[rowT,qbL,qcp,qdr,zE,qfP];rfl
     refine qd (qb (by(try dsimp only);omega)) ?_;conv=>whnf
     exact⟨_,hJ2,(Wk.sub (by repeat' first|exact trivial|refine⟨?_,?_⟩|rfl|(simp only[List.length_map];rfl)|simp[PX.get]) (by repeat' first|exact trivial|refine⟨?_,?_⟩|rfl|(simp only[List.length_map];rfl)|simp[PX.get]))⟩
    ·have h2:¬ y.kind=2:=of_decide_eq_false h2
     rw[if_neg h2]at hs;have hw:y.word.size<=14:=by
      rcases hyW.kind with⟨h,_⟩ | ⟨h,_⟩ | ⟨_,h⟩
      ·exact absurd h h1
      ·exact absurd h h2
      ·exact qbk h
     conv=>whnf
     refine qg (fun _=>?_) (fun h=>absurd (of_decide_eq_false h) (by simp only[qu,za,List.length_cons,List.length_nil];omega));conv=>whnf
     refine qg (fun _=>?_) (fun h=>absurd (of_decide_eq_false h) (by simp only[qu,za,List.length_cons,List.length_nil];omega));conv=>whnf
     refine qg (fun _=>?_) (fun h=>absurd (of_decide_eq_false h) (by simp only[qu,za,List.length_cons,List.length_nil];omega));conv=>whnf
     refine qg (fun _=>?_) (fun h=>absurd (of_decide_eq_false h) (by simp only[qu,za,List.length_cons,List.length_nil];omega));conv=>whnf
     refine qg (fun _=>?_) (fun h=>absurd (of_decide_eq_false h) (by simp only[qu,za,List.length_cons,List.length_nil];omega));conv=>whnf
     refine qp (ds:=[i64 y.number]) (qlE _ hyW.no) rfl rfl ?_;conv=>whnf
     refine qg (fun _=>?_) (fun h=>absurd (of_decide_eq_false h) (by simp only[qu,za,List.length_cons,List.length_nil];omega));conv=>whnf
     refine qg (fun _=>?_) (fun h=>absurd (of_decide_eq_false h) (by simp only[qu,za,List.length_cons,List.length_nil];omega));conv=>whnf
     have hJ2:(s++⟨#[114,101,112,111,114,116,32]⟩++ja y.shown++⟨#[32]⟩++y.word++⟨#[32]⟩++ja y.number++⟨#[10]⟩:ByteArray)++qbF rr=acc++qen b:=by
      have e:(⟨#[114,101,112,111,114,116,32]⟩:ByteArray)=reportW++spB:=by decide
      rw[e,<- hs];simp only[rowT,qbL,qcp,qdr,zE,qfP];rfl
     refine qd (qb (by(try dsimp only);omega)) ?_;conv=>whnf
     exact⟨_,hJ2,(Wk.sub (by repeat' first|exact trivial|refine⟨?_,?_⟩|rfl|(simp only[List.length_map];rfl)|simp[PX.get]) (by repeat' first|exact trivial|refine⟨?_,?_⟩|rfl|(simp only[List.length_map];rfl)|simp[PX.get]))⟩
  ·rintro s hs
   have hs:s=acc++qen b:=by rw[<- hs];exact(qfP s).symm
   conv=>whnf
   refine qg (fun h=>absurd h (by simp)) (fun _=>?_);conv=>whnf
   refine qd (qb (by(try dsimp only);omega)) ?_;conv=>whnf
   exact⟨s,by rw[hs,<- hacc,jy,zE],(Wk.sub (by repeat' first|exact trivial|refine⟨?_,?_⟩|rfl|(simp only[List.length_map];rfl)|simp[PX.get]) ⟨(by first | rfl | (simp only[List.length_map];rfl) | simp[PX.get]),trivial⟩)⟩
 ·rintro acc hacc
  have hacc:acc=qcK l:=by rw[<- hacc];exact(qfP acc).symm
  subst hacc;conv=>whnf
  refine qg (fun h=>absurd h (by simp)) (fun _=>?_);conv=>whnf
  exact qc 0 rfl ⟨⟨rfl,rfl⟩,rfl⟩
end Go.PX
namespace Go.PX
open Go.Proofs
open Go.RowKit
def qhH:Int->List UInt8->Int
 | n,[]=>n
 | n,c::r=>if 48<=c.toNat/\c.toNat<=57 then qhH (10*n+(c.toNat-48:Nat)) r else -1
def qlG:List UInt8->Bool
 | c::_::_=>decide (c=48)
 | _=>false
def qfU(l:List UInt8):Int:=if inB l.length 1 9 && !qlG l then qhH 0 l else -1
def qoM:List UInt8->Bool
 | c::_::_=>decide (c=45)
 | _=>false
def qqJ(s:ByteArray):Int:=
 if qoM s.data.toList then (if 0<qfU (s.data.toList.drop 1) then -qfU (s.data.toList.drop 1) else 2000000000)
 else (if qfU s.data.toList<0 then 2000000000 else qfU s.data.toList)
theorem qmM:∀ (f u:Nat) (r:List UInt8),0<f->u<10^f->qhH 0 (qcS f u++r)=qhH (u:Int) r
 | f+1,u,r,_,hu=>by
  rw[qcS]
  by_cases h:u<10
  ·rw[if_pos h]
   show qhH 0 (UInt8.ofNat (48+u)::r)=_;rw[qhH,qhx u h,if_pos (by omega)]
   congr 1;omega
  ·rw[if_neg h]
   have h2:u/10<10^f:=by
    rw[Nat.pow_succ]at hu;exact Nat.div_lt_of_lt_mul (by omega)
   have hf:0<f:=by
    rcases Nat.eq_zero_or_pos f with rfl | h3
    ·simp at h2;omega
    ·exact h3
   rw[List.append_assoc,qmM f (u/10) _ hf h2];show qhH _ (UInt8.ofNat (48+u%10)::r)=_;rw[qhH,qhx _ (by omega),if_pos (by omega)]
   congr 1;omega
theorem qkV:∀ (f u:Nat) (c:UInt8) (r:List UInt8),0<u->u<10^f->qcS f u=c::r->c≠48
 | 0,_,_,_,_,_,h=>by cases h
 | f+1,u,c,r,hu,hf,h=>by
  rw[qcS]at h
  split at h
  ·rename_i h1
   cases h
   intro h2;have:=congrArg UInt8.toNat h2;rw[qhx u h1]at this;simp at this;omega
  ·rename_i h1
   have h2:u/10<10^f:=by
    rw[Nat.pow_succ]at hf;exact Nat.div_lt_of_lt_mul (by omega)
   have hf0:0<f:=by
    rcases Nat.eq_zero_or_pos f with rfl | h3
    ·simp at h2;omega
    ·exact h3
   cases hd:qcS f (u/10) with
   | nil=>exact absurd hd (qhy f _ hf0)
   | cons d s=>
    rw[hd]at h
    cases h
    exact qkV f (u/10) _ s (by omega) h2 hd
theorem decF_zero(f:Nat):qcS (f+1) 0 = [48]:=by rw[qcS,if_pos (by omega)];rfl
theorem qmN{u:Nat}(h:u<1000000):qfU (qcS 19 u)=u:=by
 have e6:(10:Nat)^6=1000000:=by decide
 have e19:(10:Nat)^19=10000000000000000000:=by decide
 have h1:=qdH 19 6 u (by omega) (by omega);have h2:=qhy 19 u (by omega);have h3:0<(qcS 19 u).length:=List.length_pos_iff.2 h2;have hz:qlG (qcS 19 u)=false:=by
  rcases Nat.eq_zero_or_pos u with rfl | hu
  ·rw[decF_zero];rfl
  ·cases hd:qcS 19 u with
   | nil=>rfl
   | cons c r=>
    have:=qkV 19 u c r hu (by omega) hd
    cases r with
    | nil=>rfl
    | cons d s=>exact decide_eq_false this
 unfold qfU;have hin:inB ((qcS 19 u).length:Int) 1 9=true:=by rw[qfr];omega
 rw[hin,hz];have:=qmM 19 u [] (by omega) (by omega);rw[List.append_nil]at this;simp only[Bool.not_false,Bool.and_self,if_true];rw[this];rfl
theorem qiR(f u:Nat)(h:0<f):∃ c r,qcS f u=c::r/\48<=c.toNat:=by
 cases hd:qcS f u with
 | nil=>exact absurd hd (qhy f u h)
 | cons c r=>exact⟨c,r,rfl,(qcN f u c (by rw[hd];simp)).1⟩
theorem numR_num{n:Int}(h : -999999<=n/\n<=999999):qqJ (ja n)=n:=by
 have hd:(ja n).data.toList=qel n:=rfl;unfold qqJ;rw[hd];unfold qel;obtain⟨c,r,hc,hc2⟩:=qiR 19 n.natAbs (by omega);obtain⟨c',r',hc',hc2'⟩:=qiR 19 n.toNat (by omega)
 by_cases hn:n<0
 ·rw[if_pos hn]
  have hm:qoM (45::qcS 19 n.natAbs)=true:=by rw[hc];rfl
  rw[hm,if_pos rfl];show(if 0<qfU (qcS 19 n.natAbs) then _ else _)=n;have e:qfU (qcS 19 n.natAbs)=n.natAbs:=qmN (by omega);rw[List.drop_one,List.tail_cons,e,if_pos (by omega)];omega
 ·rw[if_neg hn]
  have hm:qoM (qcS 19 n.toNat)=false:=by
   rw[hc']
   cases r' with
   | nil=>rfl
   | cons d s=>
    refine decide_eq_false ?_;rintro rfl;revert hc2';decide
  rw[hm,if_neg (by simp),qmN (by omega),if_neg (by omega)];omega
theorem qrn{i:Nat}(h:i<9):(10:Int)^i<=100000000:=by
 have:(10:Nat)^i<=10^8:=Nat.pow_le_pow_right (by omega) (by omega);have e:(10:Nat)^8=100000000:=by decide
 rw[e]at this;have h2:((10^i:Nat):Int)=(10:Int)^i:=by simp
 omega
theorem qom:∀ (l:List UInt8) (n:Int) (k:Nat),0<=n->n<10^k -> -1<=qhH n l/\qhH n l<10^(k+l.length)
 | [],n,k,h0,h1=>by rw[qhH];simp;omega
 | c::r,n,k,h0,h1=>by
  rw[qhH];have hp:(0:Int)<10^(k+(r.length+1)):=Int.pow_pos (by omega)
  split
  ·rename_i hc
   have h2:10*n+((c.toNat-48:Nat):Int)<10^(k+1):=by
    rw[Int.pow_succ];omega
   have:=qom r _ (k+1) (by omega) h2;rw[List.length_cons,show k+(r.length+1)=k+1+r.length by omega];exact this
  ·rw[List.length_cons];omega
theorem qon(l:List UInt8) : -1<=qfU l/\qfU l<1000000000:=by
 unfold qfU
 split
 ·rename_i h
  rw[Bool.and_eq_true,qfr]at h;have:=qom l 0 0 (by omega) (by simp);rw[Nat.zero_add]at this;have h2:(10:Nat)^l.length<=10^9:=Nat.pow_le_pow_right (by omega) (by omega);have e:(10:Nat)^9=1000000000:=by decide
  rw[e]at h2;have h3:((10^l.length:Nat):Int)=(10:Int)^l.length:=by simp
  omega
 ·omega
set_option maxHeartbeats 2000000 in
theorem qkW(s:ByteArray):FnV Tryz.prog 127 [.str s] (i64 (qfU s.data.toList)):=by
 show FnV Tryz.prog 127 [.str s] _;refine qF mixed qk Tryz.func127 rfl (ft:=ft127) 1 (by decide +kernel) (by rfl) fun {σ} Y st=>?_;conv=>whnf
 have hsz:s.size=s.data.toList.length:=by simp
 have hdec:qfU s.data.toList=if inB s.data.toList.length 1 9 && !qlG s.data.toList then qhH 0 s.data.toList else -1:=rfl
 refine qf (ds:=[i64 s.size,i64 1,i64 9]) (qoz s.size 1 9) rfl rfl ?_;rw[hsz]
 cases hin:inB (s.data.toList.length:Int) 1 9 with
 | false=>
  rw[hin,Bool.false_and,if_neg (by simp)]at hdec;rw[hdec];conv=>whnf
  exact qc 0 rfl ⟨⟨rfl,rfl⟩,rfl⟩
 | true=>
  rw[hin,Bool.true_and]at hdec;rw[qfr]at hin;have hlist:∃ c r,s.data.toList=c::r:=by
   cases h:s.data.toList with
   | nil=>rw[h]at hin;simp at hin
   | cons c r=>exact⟨c,r,rfl⟩
  obtain⟨c,r,hcr⟩:=hlist;have h0:s.data.toList[0]?=some c:=by rw[hcr];rfl
  have bad:qlG s.data.toList=true->qfU s.data.toList = -1:=fun h=>by rw[hdec,h];rfl
  have good:qlG s.data.toList=false->qfU s.data.toList=qhH 0 s.data.toList:=fun h=>by rw[hdec,h];rfl
  have hz:qlG s.data.toList=(decide (1<s.data.toList.length)&&decide (c=48)):=by
   rw[hcr]
   cases r with
   | nil=>rfl
   | cons d r=>simp[qlG]
  conv=>whnf
  refine qg (fun h1=>?_) (fun h1=>?_)
  ·have h1:1<s.data.toList.length:=by have:=of_decide_eq_true h1;omega
   rw[decide_eq_true h1,Bool.true_and]at hz;conv=>whnf
   refine qR c h0 ?_;conv=>whnf
   refine qg (fun h2=>?_) (fun h2=>?_)
   ·have h2:c=48:=by
     have:=of_decide_eq_true h2;have h9:(c.toNat:Int)=48:=by simpa using this
     exact UInt8.toNat_inj.1 (show c.toNat=48 by omega)
    rw[decide_eq_true h2]at hz;rw[bad hz];conv=>whnf
    exact qc 0 rfl ⟨⟨rfl,rfl⟩,rfl⟩
   ·have h2:c≠48:=by
     rintro rfl;simp at h2
    rw[decide_eq_false h2]at hz;have hk:=good hz;conv=>whnf
    refine zo (T:=tys) qk (by exact qh mixed qk (by decide +kernel)) s.data.toList (fun i (n:Int)=>⟨[(0,.d (.str s)),(3,.d (i64 n)),(4,.d (i64 i))],[],st⟩) (fun i r n=>qhH 0 s.data.toList=qhH n r/\0<=n/\n<10^i) 0 (Wk.sub (by repeat' first|exact trivial|refine⟨?_,?_⟩|rfl|(simp only[List.length_map];rfl)|simp[PX.get]) trivial) ⟨rfl,by omega,by simp⟩ ?_ ?_
    ·rintro i x r n hxi hi hir ⟨hg,hn0,hn1⟩
     have hp:=qrn (i:=i) (by omega);rw[qhH]at hg;conv=>whnf
     refine qg (fun _=>?_) (fun h=>absurd h (by simp;omega));conv=>whnf
     refine qR x (by simpa using hxi) ?_;conv=>whnf
     refine qg (fun h3=>?_) (fun h3=>?_)
     ·have h3:x.toNat<48:=by have:=of_decide_eq_true h3;omega
      rw[if_neg (by omega)]at hg;rw[hk,hg];conv=>whnf
      exact qc 0 rfl ⟨⟨rfl,rfl⟩,rfl⟩
     ·have h3:¬ x.toNat<48:=by have:=of_decide_eq_false h3;omega
      conv=>whnf
      refine qR x (by simpa using hxi) ?_;conv=>whnf
      refine qg (fun h4=>?_) (fun h4=>?_)
      ·have h4:57<x.toNat:=by have:=of_decide_eq_true h4;omega
       rw[if_neg (by omega)]at hg;rw[hk,hg];conv=>whnf
       exact qc 0 rfl ⟨⟨rfl,rfl⟩,rfl⟩
      ·have h4:¬ 57<x.toNat:=by have:=of_decide_eq_false h4;omega
       rw[if_pos (by omega)]at hg;conv=>whnf
       refine qd (qb (by(try dsimp only);omega)) ?_;conv=>whnf
       refine qR x (by simpa using hxi) ?_;conv=>whnf
       refine qd (IntWalk.u8_in _ (by omega)) ?_;conv=>whnf
       refine qd (qb (by(try dsimp only);omega)) ?_;conv=>whnf
       refine qd (qb (by(try dsimp only);omega)) ?_;conv=>whnf
       refine qd (qb (by(try dsimp only);omega)) ?_;conv=>whnf
       refine⟨10*n+((x.toNat-48:Nat):Int),⟨hg,by omega,by rw[Int.pow_succ];omega⟩,Wk.sub ⟨rfl,congrArg (fun z=>some (V.d (i64 z))) (by omega),rfl,trivial⟩ trivial⟩
    ·rintro n ⟨hg,_⟩
     conv=>whnf
     refine qg (fun h=>absurd h (by simp)) (fun _=>?_);rw[qhH]at hg;rw[hk,hg];conv=>whnf
     exact qc 0 rfl ⟨⟨rfl,rfl⟩,rfl⟩
  ·have h1:¬ 1<s.data.toList.length:=by have:=of_decide_eq_false h1;omega
   rw[decide_eq_false h1,Bool.false_and]at hz;have hk:=good hz;conv=>whnf
   refine zo (T:=tys) qk (by exact qh mixed qk (by decide +kernel)) s.data.toList (fun i (n:Int)=>⟨[(0,.d (.str s)),(3,.d (i64 n)),(4,.d (i64 i))],[],st⟩) (fun i r n=>qhH 0 s.data.toList=qhH n r/\0<=n/\n<10^i) 0 (Wk.sub (by repeat' first|exact trivial|refine⟨?_,?_⟩|rfl|(simp only[List.length_map];rfl)|simp[PX.get]) trivial) ⟨rfl,by omega,by simp⟩ ?_ ?_
   ·rintro i x r n hxi hi hir ⟨hg,hn0,hn1⟩
    have hp:=qrn (i:=i) (by omega);rw[qhH]at hg;conv=>whnf
    refine qg (fun _=>?_) (fun h=>absurd h (by simp;omega));conv=>whnf
    refine qR x (by simpa using hxi) ?_;conv=>whnf
    refine qg (fun h3=>?_) (fun h3=>?_)
    ·have h3:x.toNat<48:=by have:=of_decide_eq_true h3;omega
     rw[if_neg (by omega)]at hg;rw[hk,hg];conv=>whnf
     exact qc 0 rfl ⟨⟨rfl,rfl⟩,rfl⟩
    ·have h3:¬ x.toNat<48:=by have:=of_decide_eq_false h3;omega
     conv=>whnf
     refine qR x (by simpa using hxi) ?_;conv=>whnf
     refine qg (fun h4=>?_) (fun h4=>?_)
     ·have h4:57<x.toNat:=by have:=of_decide_eq_true h4;omega
      rw[if_neg (by omega)]at hg;rw[hk,hg];conv=>whnf
      exact qc 0 rfl ⟨⟨rfl,rfl⟩,rfl⟩
     ·have h4:¬ 57<x.toNat:=by have:=of_decide_eq_false h4;omega
      rw[if_pos (by omega)]at hg;conv=>whnf
      refine qd (qb (by(try dsimp only);omega)) ?_;conv=>whnf
      refine qR x (by simpa using hxi) ?_;conv=>whnf
      refine qd (IntWalk.u8_in _ (by omega)) ?_;conv=>whnf
      refine qd (qb (by(try dsimp only);omega)) ?_;conv=>whnf
      refine qd (qb (by(try dsimp only);omega)) ?_;conv=>whnf
      refine qd (qb (by(try dsimp only);omega)) ?_;conv=>whnf
      refine⟨10*n+((x.toNat-48:Nat):Int),⟨hg,by omega,by rw[Int.pow_succ];omega⟩,Wk.sub ⟨rfl,congrArg (fun z=>some (V.d (i64 z))) (by omega),rfl,trivial⟩ trivial⟩
   ·rintro n ⟨hg,_⟩
    conv=>whnf
    refine qg (fun h=>absurd h (by simp)) (fun _=>?_);rw[qhH]at hg;rw[hk,hg];conv=>whnf
    exact qc 0 rfl ⟨⟨rfl,rfl⟩,rfl⟩
theorem minB_eq(l:List UInt8):qoM l=(decide (1<l.length)&&decide (l[0]?=some 45)):=by
 cases l with
 | nil=>rfl
 | cons c r=>cases r with
  | nil=>rfl
  | cons d r=>simp[qoM]
def jn(s:ByteArray):Int:=
 if qoM s.data.toList=true/\0<qfU (s.data.toList.drop 1) then -qfU (s.data.toList.drop 1)
 else (if qfU s.data.toList<0 then 2000000000 else qfU s.data.toList)
theorem qbc{n:Int}(h : -999999<=n/\n<=999999):jn (ja n)=n:=by
 have h1:=numR_num h;unfold qqJ at h1;unfold jn
 cases hm:qoM (ja n).data.toList with
 | false=>
  rw[hm]at h1;simpa using h1
 | true=>
  rw[hm]at h1;simp only[if_true]at h1
  by_cases h2:0<qfU ((ja n).data.toList.drop 1)
  ·rw[if_pos h2]at h1
   rw[if_pos ⟨rfl,h2⟩];exact h1
  ·rw[if_neg h2]at h1;omega
theorem qbM(s:ByteArray):FnV Tryz.prog 101 [.str s] (i64 (jn s)):=by
 have hsz:s.size=s.data.toList.length:=by simp
 have hm:=minB_eq s.data.toList;have hdr:=qon s.data.toList;have hdr1:=qon (s.data.toList.drop 1);have hnum:jn s=if qoM s.data.toList=true/\0<qfU (s.data.toList.drop 1) then -qfU (s.data.toList.drop 1) else (if qfU s.data.toList<0 then 2000000000 else qfU s.data.toList):=rfl
 show FnV Tryz.prog 101 [.str s] _;refine qF mixed qk Tryz.func101 rfl (ft:=ft101) 1 (by decide +kernel) (by rfl) fun {σ} Y st=>?_;conv=>whnf
 refine qg (fun h1=>?_) (fun h1=>?_)
 ·have h1:1<s.data.toList.length:=by have:=of_decide_eq_true h1;omega
  obtain⟨c,hc⟩:∃ c,s.data.toList[0]?=some c:=⟨_,List.getElem?_eq_getElem (by omega)⟩;rw[decide_eq_true h1,Bool.true_and,hc]at hm;conv=>whnf
  refine qR c hc ?_;conv=>whnf
  refine qg (fun h2=>?_) (fun h2=>?_)
  ·have h2:c=45:=by
    have:=of_decide_eq_true h2;have h9:(c.toNat:Int)=45:=by simpa using this
    exact UInt8.toNat_inj.1 (show c.toNat=45 by omega)
   subst h2;rw[hm]at hnum;simp only[decide_true,true_and]at hnum;conv=>whnf
   refine ze (by simp;omega) ?_;conv=>whnf
   refine qf (ds:=[.str (s.extract 1 s.size)]) (qkW (s.extract 1 s.size)) rfl rfl ?_;rw[qlF];conv=>whnf
   refine qg (fun h3=>?_) (fun h3=>?_)
   ·rw[if_pos (of_decide_eq_true h3)]at hnum
    rw[hnum];conv=>whnf
    refine ze (by simp;omega) ?_;conv=>whnf
    refine qf (ds:=[.str (s.extract 1 s.size)]) (qkW (s.extract 1 s.size)) rfl rfl ?_;rw[qlF];conv=>whnf
    refine qj ((-qfU (s.data.toList.drop 1))) (by(try dsimp only);omega) (qb (by(try dsimp only);omega)) ?_;conv=>whnf
    exact qc 0 rfl ⟨⟨rfl,rfl⟩,rfl⟩
   ·rw[if_neg (of_decide_eq_false h3)]at hnum
    conv=>whnf
    refine qf (ds:=[.str s]) (qkW s) rfl rfl ?_;conv=>whnf
    refine qg (fun h3=>?_) (fun h3=>?_)
    ·rw[if_neg (by have:=of_decide_eq_true h3;omega)]at hnum
     rw[hnum];conv=>whnf
     refine qf (ds:=[.str s]) (qkW s) rfl rfl ?_;conv=>whnf
     exact qc 0 rfl ⟨⟨rfl,rfl⟩,rfl⟩
    ·rw[if_pos (by have:=of_decide_eq_false h3;omega)]at hnum
     rw[hnum];conv=>whnf
     exact qc 0 rfl ⟨⟨rfl,rfl⟩,rfl⟩
  ·have h2:c≠45:=by
    rintro rfl;simp at h2
   have hm:qoM s.data.toList=false:=by rw[hm];simp[h2]
   rw[hm]at hnum;simp only[Bool.false_eq_true,false_and,if_false]at hnum;conv=>whnf
   refine qf (ds:=[.str s]) (qkW s) rfl rfl ?_;conv=>whnf
   refine qg (fun h3=>?_) (fun h3=>?_)
   ·rw[if_neg (by have:=of_decide_eq_true h3;omega)]at hnum
    rw[hnum];conv=>whnf
    refine qf (ds:=[.str s]) (qkW s) rfl rfl ?_;conv=>whnf
    exact qc 0 rfl ⟨⟨rfl,rfl⟩,rfl⟩
   ·rw[if_pos (by have:=of_decide_eq_false h3;omega)]at hnum
    rw[hnum];conv=>whnf
    exact qc 0 rfl ⟨⟨rfl,rfl⟩,rfl⟩
 ·have h1:¬ 1<s.data.toList.length:=by have:=of_decide_eq_false h1;omega
  rw[decide_eq_false h1,Bool.false_and]at hm;rw[hm]at hnum;simp only[Bool.false_eq_true,false_and,if_false]at hnum;conv=>whnf
  refine qf (ds:=[.str s]) (qkW s) rfl rfl ?_;conv=>whnf
  refine qg (fun h3=>?_) (fun h3=>?_)
  ·rw[if_neg (by have:=of_decide_eq_true h3;omega)]at hnum
   rw[hnum];conv=>whnf
   refine qf (ds:=[.str s]) (qkW s) rfl rfl ?_;conv=>whnf
   exact qc 0 rfl ⟨⟨rfl,rfl⟩,rfl⟩
  ·rw[if_pos (by have:=of_decide_eq_false h3;omega)]at hnum
   rw[hnum];conv=>whnf
   exact qc 0 rfl ⟨⟨rfl,rfl⟩,rfl⟩
theorem pa40(l:PLog):FnV Tryz.prog 40 [l.d] (.tup [.str (qeU l).1,i64 (qeU l).2]):=by
 obtain⟨cp,cq,ce,hcp⟩:∃ p q e,jI l=(p,q,e):=⟨_,_,_,rfl⟩;have hce:qD l=ce:=by show(jI _).2.2=ce;rw[hcp]
 have h18:FnV Tryz.prog 18 [l.d] (.tup [i64 cp,i64 cq,i64 ce]):=FnV.cast (qrl l) (by rw[hcp];rfl);unfold qeU;rw[hce]
 rcases Classical.em (ce=0) with hc | hc
 ·rw[if_pos hc]
  have h92:=fun {σ}=>@qrm l (hce.trans hc) σ;show FnV Tryz.prog 40 [l.d] _;refine qF mixed qk Tryz.func40 rfl (ft:=qqP) 1 (by decide +kernel) (by rfl) fun {σ} Y st=>?_;conv=>whnf
  refine qf (ds:=[l.d]) h18 rfl rfl ?_;conv=>whnf
  refine qg (fun h=>absurd h (by simp[hc])) (fun _=>?_);conv=>whnf
  refine qf (ds:=[l.d]) h92 rfl rfl ?_;conv=>whnf
  exact qc 0 rfl ⟨⟨rfl,rfl⟩,rfl⟩
 ·rw[if_neg hc]
  show FnV Tryz.prog 40 [l.d] _;refine qF mixed qk Tryz.func40 rfl (ft:=qqP) 1 (by decide +kernel) (by rfl) fun {σ} Y st=>?_;conv=>whnf
  refine qf (ds:=[l.d]) h18 rfl rfl ?_;conv=>whnf
  refine qg (fun _=>?_) (fun h=>absurd h (by simp[hc]));conv=>whnf
  exact qc 0 rfl ⟨⟨rfl,rfl⟩,rfl⟩
end Go.PX
