import Derived.Test.YtgpmlbbkfmkmkaaGreatDoorPxP
set_option linter.all false
set_option maxRecDepth 10000
namespace Go.PX
open Go.Proofs
abbrev NM:=List (Int×Int)
def qaQ(m:NM)(n:Int):Int:=(zj m n).getD 0
def NodK(m:NM):Prop:=(m.map Prod.fst).Nodup
theorem mem_putK{m:NM}{t y x:Int}:x∈(jr m t y).map Prod.fst↔x=t\/x∈m.map Prod.fst:=by
 induction m with
 | nil=>simp[jr]
 | cons p r ih=>
  obtain⟨u,v⟩:=p;rw[jr]
  split
  ·rename_i h
   subst h;simp
  ·rw[List.map_cons,List.map_cons,List.mem_cons,List.mem_cons,ih]
   constructor
   ·rintro (h | h | h)
    ·exact .inr (.inl h)
    ·exact .inl h
    ·exact .inr (.inr h)
   ·rintro (h | h | h)
    ·exact .inr (.inl h)
    ·exact .inl h
    ·exact .inr (.inr h)
theorem NodK.put{m:NM}(h:NodK m)(t y:Int):NodK (jr m t y):=by
 induction m with
 | nil=>simp[NodK,jr]
 | cons p r ih=>
  obtain⟨u,v⟩:=p;unfold NodK at h ih ⊢;rw[List.map_cons,List.nodup_cons]at h;rw[jr]
  split
  ·rename_i he
   subst he;rw[List.map_cons,List.nodup_cons];exact h
  ·rename_i he
   rw[List.map_cons,List.nodup_cons];exact⟨fun hm=>(mem_putK.1 hm).elim (fun e=>he e.symm) h.1,ih h.2⟩
theorem qkM{m:NM}(h:NodK m){i:Nat}{k v:Int}(hi:m[i]?=some (k,v)):zj m k=some v:=by
 induction m generalizing i with
 | nil=>simp at hi
 | cons p r ih=>
  obtain⟨u,w⟩:=p;unfold NodK at h ih;rw[List.map_cons,List.nodup_cons]at h;rw[zj]
  cases i with
  | zero=>rw[List.getElem?_cons_zero]at hi;cases hi;rw[if_pos rfl]
  | succ i=>
   rw[List.getElem?_cons_succ]at hi;have hk:k≠u:=fun e=>h.1 (e▸List.mem_map.2 ⟨_,List.mem_of_getElem? hi,rfl⟩);rw[if_neg hk];exact ih h.2 hi
theorem at_getV{m:NM}{k v:Int}(h:zj m k=some v):∃ i:Nat,m[i]?=some (k,v):=by
 induction m with
 | nil=>cases h
 | cons p r ih=>
  obtain⟨u,w⟩:=p;rw[zj]at h
  split at h
  ·rename_i e;cases h;subst e;exact⟨0,rfl⟩
  ·obtain⟨i,hi⟩:=ih h
   exact⟨i+1,hi⟩
theorem qeE(m:NM)(t y n:Int):qaQ (jr m t y) n=if n=t then y else qaQ m n:=by
 unfold qaQ;rw[zu]
 split<;>rfl
def qof(r:List PEnt)(n:Int):Nat:=(r.filter fun y=>decide (y.kind=3/\y.number=n)).length
structure MineR(r:List PEnt)(m:NM):Prop where
 nod:NodK m
 get:∀ n,qaQ m n=qof r n
 pos:∀ n v,zj m n=some v->1<=v
theorem MineR.nil:MineR [] []:=⟨by simp[NodK],fun n=>rfl,fun n v h=>by cases h⟩
theorem MineR.skip{r:List PEnt}{m:NM}(h:MineR r m){y:PEnt}(hy:y.kind≠3):MineR (r ++ [y]) m:=by
 refine⟨h.nod,fun n=>?_,h.pos⟩;rw[h.get n];unfold qof;rw[List.filter_append,List.filter_cons,if_neg (by simp[hy])];simp
theorem MineR.inc{r:List PEnt}{m:NM}(h:MineR r m){y:PEnt}(hy:y.kind=3):MineR (r ++ [y]) (jr m y.number (qaQ m y.number+1)):=by
 refine⟨h.nod.put _ _,fun n=>?_,fun n v hv=>?_⟩
 ·rw[qeE]
  unfold qof;rw[List.filter_append,List.filter_cons]
  by_cases hn:n=y.number
  ·subst hn
   rw[if_pos rfl,if_pos (by simp[hy]),h.get];unfold qof;simp
  ·rw[if_neg hn,if_neg (by simp[hy];exact fun e=>hn e.symm),h.get]
   unfold qof;simp
 ·rw[zu]at hv
  split at hv
  ·cases hv
   have:=h.get y.number;omega
  ·exact h.pos n v hv
structure CntR(bs:List PBook)(m1 m2:NM):Prop where
 in':∀ n,qaQ m1 n=(bs.filter fun b=>decide (0<qjN b n)).length
 most:∀ n,qaQ m2 n=(bs.map fun b=>qjN b n).foldl max 0
def Dn(mine:NM)(todo:List Nat)(n:Int):Prop:=∃ (i:Nat) (v:Int),i∉todo/\mine[i]?=some (n,v)
structure RngR(mine b1 b2:NM)(todo:List Nat)(m1 m2:NM):Prop where
 yes:∀ n,Dn mine todo n->qaQ m1 n=qaQ b1 n+1/\qaQ m2 n=max (qaQ b2 n) (qaQ mine n)
 no:∀ n,¬ Dn mine todo n->qaQ m1 n=qaQ b1 n/\qaQ m2 n=qaQ b2 n
theorem RngR.start(mine b1 b2:NM):RngR mine b1 b2 (List.range mine.length) b1 b2:=
 ⟨fun n ⟨i,v,h1,h2⟩=>absurd (List.mem_range.2 (List.getElem?_eq_some_iff.1 h2).1) h1,fun _ _=>⟨rfl,rfl⟩⟩
theorem RngR.step{mine b1 b2 m1 m2:NM}{todo:List Nat}(hn:NodK mine)(h:RngR mine b1 b2 todo m1 m2){i:Nat}{k v:Int}(hi:i∈todo)(hk:mine[i]?=some (k,v)) :
  RngR mine b1 b2 (todo.filter fun j=>!Nat.beq j i) (jr m1 k (qaQ m1 k+1)) (jr m2 k (max (qaQ m2 k) v)):=by
 have hmem:∀ j,j∉todo.filter (fun j=>!Nat.beq j i)↔j∉todo\/j=i:=fun j=>by
  rw[List.mem_filter]
  by_cases hj:j=i
  ·subst hj;simp
  ·have:Nat.beq j i=false:=by
    cases hb:Nat.beq j i with
    | false=>rfl
    | true=>exact absurd (Nat.eq_of_beq_eq_true hb) hj
   rw[this];simp[hj]
 have one:∀ {j:Nat} {w:Int},mine[j]?=some (k,w)->j=i:=fun {j w} hj=>by
  have h1:(mine.map Prod.fst)[j]?=some k:=by rw[List.getElem?_map,hj];rfl
  have h2:(mine.map Prod.fst)[i]?=some k:=by rw[List.getElem?_map,hk];rfl
  have hjl:=(List.getElem?_eq_some_iff.1 h1).1;exact(List.getElem?_inj hjl hn).1 (h1.trans h2.symm)
 have hkn:¬ Dn mine todo k:=fun⟨j,w,h1,h2⟩=>h1 (one h2▸hi);have hgk:qaQ mine k=v:=by unfold qaQ;rw[qkM hn hk];rfl
 have hdn:∀ n,n≠k->(Dn mine (todo.filter fun j=>!Nat.beq j i) n↔Dn mine todo n):=fun n hnk=>by
  constructor
  ·rintro ⟨j,w,h1,h2⟩
   rcases (hmem j).1 h1 with h1 | rfl
   ·exact⟨j,w,h1,h2⟩
   ·rw[hk]at h2;cases h2;exact absurd rfl hnk
  ·rintro ⟨j,w,h1,h2⟩
   exact⟨j,w,(hmem j).2 (.inl h1),h2⟩
 obtain⟨g1,g2⟩:=h.no k hkn;refine⟨fun n hd=>?_,fun n hd=>?_⟩
 ·rw[qeE,qeE]
  by_cases hnk:n=k
  ·subst hnk
   rw[if_pos rfl,if_pos rfl,g1,g2,hgk];exact⟨rfl,rfl⟩
  ·rw[if_neg hnk,if_neg hnk]
   exact h.yes n ((hdn n hnk).1 hd)
 ·have hnk:n≠k:=fun e=>hd (e▸⟨i,v,(hmem i).2 (.inr rfl),hk⟩)
  rw[qeE,qeE,if_neg hnk,if_neg hnk];exact h.no n fun hd2=>hd ((hdn n hnk).2 hd2)
theorem RngR.fin{bs:List PBook}{b:PBook}{mine b1 b2 m1 m2:NM}(hb:CntR bs b1 b2)(hm:MineR b.ents mine)(h:RngR mine b1 b2 [] m1 m2):CntR (bs ++ [b]) m1 m2:=by
 have hd:∀ n,Dn mine [] n↔0<qjN b n:=fun n=>by
  have hg:=hm.get n;constructor
  ·rintro ⟨i,v,_,hi⟩
   have h1:=qkM hm.nod hi;have h2:=hm.pos n v h1;unfold qaQ at hg;rw[h1]at hg;show 0<qof b.ents n;simp only[Option.getD_some]at hg;omega
  ·intro hp
   have hp:0<qof b.ents n:=hp
   cases hv:zj mine n with
   | none=>unfold qaQ at hg;rw[hv]at hg;simp only[Option.getD_none]at hg;omega
   | some v=>
    obtain⟨i,hi⟩:=at_getV hv;exact⟨i,v,by simp,hi⟩
 have hg:∀ n,qaQ mine n=qjN b n:=hm.get;refine⟨fun n=>?_,fun n=>?_⟩
 ·rw[List.filter_append,List.length_append,List.filter_cons]
  have h1:=hb.in' n
  by_cases hp:0<qjN b n
  ·rw[(h.yes n ((hd n).2 hp)).1,h1,if_pos (by simpa using hp)];simp
  ·rw[(h.no n fun hh=>hp ((hd n).1 hh)).1,h1,if_neg (by simpa using hp)];simp
 ·rw[List.map_append,List.foldl_append]
  have h1:=hb.most n;have h2:=hg n;show _=((max ((bs.map fun b=>qjN b n).foldl max 0) (qjN b n):Nat):Int)
  by_cases hp:0<qjN b n
  ·rw[(h.yes n ((hd n).2 hp)).2,h1,h2];omega
  ·rw[(h.no n fun hh=>hp ((hd n).1 hh)).2,h1];omega
theorem CntR.bd{bs:List PBook}{m1 m2:NM}(h:CntR bs m1 m2)(n:Int):0<=qaQ m1 n/\qaQ m1 n<=bs.length/\0<=qaQ m2 n:=by
 have h1:=h.in' n;have h2:=h.most n;have h3:(bs.filter fun b=>decide (0<qjN b n)).length<=bs.length:=List.length_filter_le _ _;omega
theorem qeY{κ ν:Type}{kd:κ->D}{vd:ν->D}(m:List (κ×ν)):(kvV kd vd m).length=m.length:=by simp[kvV]
theorem kvV_get{m:NM}{i:Nat}{kv:D×D}(h:(kvV qu qu m)[i]?=some kv):∃ x v,m[i]?=some (x,v)/\kv=(i64 x,i64 v):=by
 unfold kvV at h;rw[List.getElem?_map,Option.map_eq_some_iff]at h;obtain⟨⟨x,v⟩,h1,h2⟩:=h;exact⟨x,v,h1,h2.symm⟩
theorem filter_lt{l:List Nat}{i:Nat}(h:i∈l):(l.filter fun j=>!Nat.beq j i).length<l.length:=by
 induction l with
 | nil=>cases h
 | cons a r ih=>
  rw[List.filter_cons]
  by_cases ha:a=i
  ·subst ha
   rw[show Nat.beq a a=true from Nat.beq_refl a];have:=List.length_filter_le (fun j=>!Nat.beq j a) r;simp only[Bool.not_true,Bool.false_eq_true,if_false,List.length_cons];omega
  ·have hb:Nat.beq a i=false:=by
    cases hb:Nat.beq a i with
    | false=>rfl
    | true=>exact absurd (Nat.eq_of_beq_eq_true hb) ha
   rw[hb];have:=ih ((List.mem_cons.1 h).resolve_left fun e=>ha e.symm);simp only[Bool.not_false,if_true,List.length_cons];omega
set_option maxHeartbeats 4000000 in
theorem qqm(l:PLog)(hR:LogR l):FnU Tryz.prog 86 [.d l.d] [] fun v h'=>h' = [] /\ ∃ m1 m2,CntR l.books m1 m2/\v = .d (.tup [.mv (kvV qu qu m1),.mv (kvV qu qu m2)]):=by
 intro σ Y st;refine qao mixed qh Tryz.func86 rfl (ft:=qpY) (args:=[.d l.d]) (show fnB qpY Tryz.f86 1=true from by decide +kernel) ?_;conv=>whnf
 refine zf (T:=tys) qh (by exact qd mixed qh (by decide +kernel)) l.books (fun i (x:NM×NM)=>⟨[(2,.mp 13),(3,.mp 14),(16,.d (qG l.books)),(17,.d (i64 l.books.length)),(18,.d (i64 i))],[(13,.map (kvV qu qu x.1)),(14,.map (kvV qu qu x.2))],st⟩) (fun i r x=>CntR (l.books.take i) x.1 x.2) ([],[]) (Wk.sub (by repeat' first|exact trivial|refine⟨?_,?_⟩|rfl|(simp only[List.length_map];rfl)|simp[PX.get]) (by repeat' first|exact trivial|refine⟨?_,?_⟩|rfl|(simp only[List.length_map];rfl)|simp[PX.get])) ⟨fun n=>rfl,fun n=>rfl⟩ ?_ ?_
 ·rintro i b r ⟨b1,b2⟩ hb hi hr hC
  have hbl:=hR.books;have hB:=hR.book b (List.mem_of_getElem? hb);have hbe:=hB.ents;have htk:l.books.take (i+1)=l.books.take i ++ [b]:=by rw[List.take_succ,hb];rfl
  simp only at hC;conv=>whnf
  refine qg (fun _=>?_) (fun h=>absurd hi (by simpa using h));conv=>whnf
  refine qy hb ?_;conv=>whnf
  refine zf (T:=tys) qh (by exact qd mixed qh (by decide +kernel)) b.ents (fun k (m:NM)=>⟨[(2,.mp 13),(3,.mp 14),(16,.d (qG l.books)),(17,.d (i64 l.books.length)),(18,.d (i64 i)),(6,.mp 22),(24,.d (qdM b.ents)),(25,.d (i64 b.ents.length)),(26,.d (i64 k))],[(13,.map (kvV qu qu b1)),(14,.map (kvV qu qu b2)),(22,.map (kvV qu qu m))],st⟩) (fun k r m=>MineR (b.ents.take k) m) [] (Wk.sub (by repeat' first|exact trivial|refine⟨?_,?_⟩|rfl|(simp only[List.length_map];rfl)|simp[PX.get]) (by repeat' first|exact trivial|refine⟨?_,?_⟩|rfl|(simp only[List.length_map];rfl)|simp[PX.get])) (by rw[List.take_zero];exact MineR.nil) ?_ ?_
  ·rintro k y q m hy hk hq hM
   have hte:b.ents.take (k+1)=b.ents.take k ++ [y]:=by rw[List.take_succ,hy];rfl
   have hyk:=(hB.ent y (List.mem_of_getElem? hy)).2.1;conv=>whnf
   refine qg (fun _=>?_) (fun h=>absurd hk (by simpa using h));conv=>whnf
   refine qy hy ?_;conv=>whnf
   refine qe (qnu y) rfl rfl ?_
   by_cases h3:y.kind=3
   ·have ht:qX y = .ifc 156 (.agg [.str y.word,i64 y.number]):=by unfold qX;rw[if_neg (by omega),if_neg (by omega),if_pos h3]
    rw[ht];have hM2:=hM.inc h3;rw[<- hte]at hM2;have hb8:qaQ m y.number<=k:=by
     rw[hM.get];have h1:qof (b.ents.take k) y.number<=(b.ents.take k).length:=List.length_filter_le _ _;rw[List.length_take]at h1;omega
    have hb0:0<=qaQ m y.number:=by rw[hM.get];omega
    generalize hG:qaQ m y.number=G at hM2 hb8 hb0;conv=>whnf
    cases hg:zj m y.number with
    | none=>
     have hG0:G=0:=by rw[<- hG];unfold qaQ;rw[hg];rfl
     refine⟨none,ql (kd:=qu) qn hg 0,?_⟩;conv=>whnf
     refine qj (G+1) (by omega) (qa (by omega)) ?_;conv=>whnf
     refine⟨none,ql (kd:=qu) qn hg 0,?_⟩;conv=>whnf
     refine qc (qa (by(try dsimp only);omega)) ?_;conv=>whnf
     refine⟨_,hM2,Wk.sub ⟨rfl,rfl,rfl,rfl,rfl,rfl,rfl,rfl,rfl,trivial⟩ ⟨rfl,rfl,?_,trivial⟩⟩;exact congrArg (fun z=>some (Obj.map z)) (qS (kd:=qu) (vd:=qu) (G+1) hg)
    | some v=>
     have hG0:G=v:=by rw[<- hG];unfold qaQ;rw[hg];rfl
     obtain⟨ix,_,hx1,hx2,_⟩:=qs (kd:=qu) (vd:=qu) qn hg 0;refine⟨_,hx1,?_⟩;conv=>whnf
     refine qj (G+1) (by omega) (qa (by omega)) ?_;conv=>whnf
     refine⟨_,hx1,?_⟩;conv=>whnf
     refine qc (qa (by(try dsimp only);omega)) ?_;conv=>whnf
     refine⟨_,hM2,Wk.sub ⟨rfl,rfl,rfl,rfl,rfl,rfl,rfl,rfl,rfl,trivial⟩ ⟨rfl,rfl,?_,trivial⟩⟩;show some (Obj.map ((kvV qu qu m).set (0+ix) (i64 y.number,i64 (G+1))))=_;rw[Nat.zero_add];exact congrArg (fun z=>some (Obj.map z)) (hx2 (G+1))
   ·have hM2:=hM.skip h3
    rw[<- hte]at hM2
    by_cases h2:y.kind=2
    ·have ht:qX y = .ifc 175 (.agg []):=by unfold qX;rw[if_neg (by omega),if_pos h2]
     rw[ht];conv=>whnf
     refine qc (qa (by(try dsimp only);omega)) ?_;conv=>whnf
     exact⟨m,hM2,(Wk.sub (by repeat' first|exact trivial|refine⟨?_,?_⟩|rfl|(simp only[List.length_map];rfl)|simp[PX.get]) (by repeat' first|exact trivial|refine⟨?_,?_⟩|rfl|(simp only[List.length_map];rfl)|simp[PX.get]))⟩
    ·have ht:qX y = .ifc 138 (.agg [.str y.word]):=by unfold qX;rw[if_pos (by omega)]
     rw[ht];conv=>whnf
     refine qc (qa (by(try dsimp only);omega)) ?_;conv=>whnf
     exact⟨m,hM2,(Wk.sub (by repeat' first|exact trivial|refine⟨?_,?_⟩|rfl|(simp only[List.length_map];rfl)|simp[PX.get]) (by repeat' first|exact trivial|refine⟨?_,?_⟩|rfl|(simp only[List.length_map];rfl)|simp[PX.get]))⟩
  ·rintro m hM
   rw[List.take_length]at hM;conv=>whnf
   refine qg (fun h=>absurd h (by simp)) (fun _=>?_);conv=>whnf
   refine zy (T:=tys) qh (by exact qd mixed qh (by decide +kernel)) (α:=List Nat×(NM×(NM×Option Nat)))
    (fun p=>⟨[(2,.mp 13),(3,.mp 14),(16,.d (qG l.books)),(17,.d (i64 l.books.length)),(18,.d (i64 i)),(44,.it 44)],[(13,.map (kvV qu qu p.2.1)),(14,.map (kvV qu qu p.2.2.1)),(22,.map (kvV qu qu m)),(44,.mit (.mp 22) m.length p.1 p.2.2.2)],st⟩)
    (fun p=>RngR m b1 b2 p.1 p.2.1 p.2.2.1) (fun p=>p.1.length) (List.range m.length,(b1,(b2,none))) ?wk2 (RngR.start m b1 b2) ?_
   case wk2=>
    refine Wk.sub ⟨rfl,rfl,rfl,rfl,rfl,rfl,trivial⟩ ⟨rfl,rfl,rfl,?_,trivial⟩;show some (Obj.mit (V.mp 22) (kvV qu qu m).length (List.range (kvV qu qu m).length) none)=_;rw[qeY]
   rintro ⟨todo,m1,m2,cur⟩ hRg;simp only at hRg;conv=>whnf
   refine⟨by simp[qeY],fun h0=>?_,fun j kv hj hkv=>?_⟩
   ·have h0:todo = []:=h0
    subst h0;have hC2:=hRg.fin hC hM;rw[<- htk]at hC2;conv=>whnf
    refine qc (qa (by(try dsimp only);omega)) ?_;conv=>whnf
    exact⟨(m1,m2),hC2,(Wk.sub (by repeat' first|exact trivial|refine⟨?_,?_⟩|rfl|(simp only[List.length_map];rfl)|simp[PX.get]) (by repeat' first|exact trivial|refine⟨?_,?_⟩|rfl|(simp only[List.length_map];rfl)|simp[PX.get]))⟩
   ·obtain⟨n,v,hnv,rfl⟩:=kvV_get hkv
    have hj:j∈todo:=hj;have hlt:=filter_lt hj;have hstep:=hRg.step hM.nod hj hnv;have hgm:=qkM hM.nod hnv;conv=>whnf
    refine⟨by simp[qeY],(i64 n,i64 v),hkv,?_⟩;conv=>whnf
    have hv1:=hM.pos n v hgm;have hbd:qaQ m1 n<=3/\0<=qaQ m1 n:=by
     have:=hC.bd n;rw[List.length_take]at this;have hnd:¬ Dn m todo n:=fun⟨j',w,h1,h2⟩=>by
      have hjl:=(List.getElem?_eq_some_iff.1 h2).1;have e1:(m.map Prod.fst)[j']?=some n:=by rw[List.getElem?_map,h2];rfl
      have e2:(m.map Prod.fst)[j]?=some n:=by rw[List.getElem?_map,hnv];rfl
      have:j'=j:=(List.getElem?_inj (by simpa using hjl) hM.nod).1 (e1.trans e2.symm);exact h1 (this▸hj)
     have:=(hRg.no n hnd).1;omega
    generalize hG1:qaQ m1 n=G1 at hstep hbd;generalize hG2:qaQ m2 n=G2 at hstep
    cases hg1:zj m1 n with
    | none=>
     have hG0:G1=0:=by rw[<- hG1];unfold qaQ;rw[hg1];rfl
     refine⟨none,ql (kd:=qu) qn hg1 0,?_⟩;conv=>whnf
     refine qj (G1+1) (by omega) (qa (by omega)) ?_;conv=>whnf
     refine⟨none,ql (kd:=qu) qn hg1 0,?_⟩;conv=>whnf
     cases hg2:zj m2 n with
     | none=>
      have hH0:G2=0:=by rw[<- hG2];unfold qaQ;rw[hg2];rfl
      refine⟨none,ql (kd:=qu) qn hg2 0,?_⟩;conv=>whnf
      refine⟨none,ql (kd:=qu) qn hg2 0,?_⟩;conv=>whnf
      refine⟨(todo.filter fun j'=>!Nat.beq j' j,(jr m1 n (G1+1),(jr m2 n (max G2 v),some j))),hlt,hstep,Wk.sub ⟨rfl,rfl,rfl,rfl,rfl,rfl,trivial⟩ ⟨?_,?_,rfl,rfl,trivial⟩⟩
      ·exact congrArg (fun z=>some (Obj.map z)) (qS (kd:=qu) (vd:=qu) (G1+1) hg1)
      ·rw[hH0]
       exact congrArg (fun z=>some (Obj.map z)) (qS (kd:=qu) (vd:=qu) (max 0 v) hg2)
     | some v2=>
      have hH0:G2=v2:=by rw[<- hG2];unfold qaQ;rw[hg2];rfl
      obtain⟨iy,_,hy1,hy2,_⟩:=qs (kd:=qu) (vd:=qu) qn hg2 0;refine⟨_,hy1,?_⟩;conv=>whnf
      refine⟨_,hy1,?_⟩;conv=>whnf
      refine⟨(todo.filter fun j'=>!Nat.beq j' j,(jr m1 n (G1+1),(jr m2 n (max G2 v),some j))),hlt,hstep,Wk.sub ⟨rfl,rfl,rfl,rfl,rfl,rfl,trivial⟩ ⟨?_,?_,rfl,rfl,trivial⟩⟩
      ·exact congrArg (fun z=>some (Obj.map z)) (qS (kd:=qu) (vd:=qu) (G1+1) hg1)
      ·rw[hH0]
       show some (Obj.map ((kvV qu qu m2).set (0+iy) (i64 n,i64 (max v2 v))))=_;rw[Nat.zero_add];exact congrArg (fun z=>some (Obj.map z)) (hy2 (max v2 v))
    | some v1=>
     have hG0:G1=v1:=by rw[<- hG1];unfold qaQ;rw[hg1];rfl
     obtain⟨ix,_,hx1,hx2,_⟩:=qs (kd:=qu) (vd:=qu) qn hg1 0;refine⟨_,hx1,?_⟩;conv=>whnf
     refine qj (G1+1) (by omega) (qa (by omega)) ?_;conv=>whnf
     refine⟨_,hx1,?_⟩;conv=>whnf
     cases hg2:zj m2 n with
     | none=>
      have hH0:G2=0:=by rw[<- hG2];unfold qaQ;rw[hg2];rfl
      refine⟨none,ql (kd:=qu) qn hg2 0,?_⟩;conv=>whnf
      refine⟨none,ql (kd:=qu) qn hg2 0,?_⟩;conv=>whnf
      refine⟨(todo.filter fun j'=>!Nat.beq j' j,(jr m1 n (G1+1),(jr m2 n (max G2 v),some j))),hlt,hstep,Wk.sub ⟨rfl,rfl,rfl,rfl,rfl,rfl,trivial⟩ ⟨?_,?_,rfl,rfl,trivial⟩⟩
      ·(show some (Obj.map ((kvV qu qu m1).set (0+ix) (i64 n,i64 (G1+1))))=_);rw[Nat.zero_add];exact congrArg (fun z=>some (Obj.map z)) (hx2 (G1+1))
      ·rw[hH0]
       exact congrArg (fun z=>some (Obj.map z)) (qS (kd:=qu) (vd:=qu) (max 0 v) hg2)
     | some v2=>
      have hH0:G2=v2:=by rw[<- hG2];unfold qaQ;rw[hg2];rfl
      obtain⟨iy,_,hy1,hy2,_⟩:=qs (kd:=qu) (vd:=qu) qn hg2 0;refine⟨_,hy1,?_⟩;conv=>whnf
      refine⟨_,hy1,?_⟩;conv=>whnf
      refine⟨(todo.filter fun j'=>!Nat.beq j' j,(jr m1 n (G1+1),(jr m2 n (max G2 v),some j))),hlt,hstep,Wk.sub ⟨rfl,rfl,rfl,rfl,rfl,rfl,trivial⟩ ⟨?_,?_,rfl,rfl,trivial⟩⟩
      ·(show some (Obj.map ((kvV qu qu m1).set (0+ix) (i64 n,i64 (G1+1))))=_);rw[Nat.zero_add];exact congrArg (fun z=>some (Obj.map z)) (hx2 (G1+1))
      ·rw[hH0]
       show some (Obj.map ((kvV qu qu m2).set (0+iy) (i64 n,i64 (max v2 v))))=_;rw[Nat.zero_add];exact congrArg (fun z=>some (Obj.map z)) (hy2 (max v2 v))
 ·rintro ⟨m1,m2⟩ hC
  rw[List.take_length]at hC;conv=>whnf
  refine qg (fun h=>absurd h (by simp)) (fun _=>?_);conv=>whnf
  refine qb 1 (ds:=[.mv (kvV qu qu m1),.mv (kvV qu qu m2)]) (qx (qfD rfl) (qx (qfD rfl) rfl)) ⟨⟨rfl,m1,m2,hC,rfl⟩,rfl⟩
end Go.PX
namespace Go.PX
open Go.Proofs
def qpl(s:ByteArray):D:=.str s
abbrev WM:=List (Int×ByteArray)
def qmh(r:List PEnt):List PEnt:=r.filter fun y=>decide (y.kind=3)
def qpr(m0:Int)(r:List PEnt):Int:=r.foldl (fun m y=>max m y.number) m0
def ji(l:List Int):List (List D):=l.map fun n=>[i64 n]
theorem qhY{σ:Type}{l:List V}{h:Heap}{s:σ}{Q:V->Heap->σ->Prop}(n:Nat){ds:List D}(hv:zQ (qcc h n) l=some ds){d:D}(hd:relax (qgZ ds)=d)(hq:Q (.d d) [] s):RetA l h s Q:=by
 subst hd;refine⟨fun cx L F vals w hh hr=>?_⟩;have tr:=qaf hh;exact⟨_,[],L,jY L F h w,hq,qjt hh,RepD.relax _ _ (qmL (qbH tr (qfj hh n) l vals ds hv hr)),tr,fun _ _=>⟨rfl,rfl⟩⟩
set_option maxHeartbeats 4000000 in
theorem pa37(l:PLog):FnV Tryz.prog 37 [l.d] (.tup [qM (qoY l).1,qM (qoY l).2.1,i64 (qoY l).2.2]):=by
 unfold qoY;refine qC mixed qh Tryz.func37 rfl (ft:=ft37) 1 (by decide +kernel) (by rfl) fun {σ} Y st=>?_;conv=>whnf
 by_cases hc:qA l=0
 ·rw[if_pos hc]
  have hR:=zV hc;have hbl:=hR.books;have hlast:=last_ok hc;refine qe (qdr l 0 0 0 (qbq hc)) rfl rfl ?_;conv=>whnf
  generalize hT:qfq [] (qjO l)=T;generalize hL:qiB l=L at hlast;have hT:qfq [] (qmh (l.books.flatMap PBook.ents))=T:=hT;have hL2:qpr 0 (qmh (l.books.flatMap PBook.ents))=L:=hL;refine zf (T:=tys) qh (by exact qd mixed qh (by decide +kernel)) l.books (fun i (x:WM×Int)=>⟨[(1,.ptr 1 0),(2,.d .nils),(3,.d .nils),(5,.mp 27),(6,.d (i64 x.2)),(29,.d (qG l.books)),(30,.d (i64 l.books.length)),(31,.d (i64 i))],[(1,.box (.dd l.cells)),(27,.map (kvV qu qpl x.1))],st⟩) (fun i r x=>qfq x.1 (qmh (r.flatMap PBook.ents))=T/\qpr x.2 (qmh (r.flatMap PBook.ents))=L/\0<=x.2/\x.2<=99) ([],0) (Wk.sub (by repeat' first|exact trivial|refine⟨?_,?_⟩|rfl|(simp only[List.length_map];rfl)|simp[PX.get]) (by repeat' first|exact trivial|refine⟨?_,?_⟩|rfl|(simp only[List.length_map];rfl)|simp[PX.get])) ⟨hT,hL2,by simp,by simp⟩ ?_ ?_
  ·rintro i b r ⟨m,last⟩ hb hi hr ⟨he1,he2,hla⟩
   have hB:=hR.book b (List.mem_of_getElem? hb);have hbe:=hB.ents;simp only at he1 he2 hla;rw[List.flatMap_cons]at he1 he2;conv=>whnf
   refine qg (fun _=>?_) (fun h=>absurd hi (by simpa using h));conv=>whnf
   refine qy hb ?_;conv=>whnf
   refine zf (T:=tys) qh (by exact qd mixed qh (by decide +kernel)) b.ents (fun k (x:WM×Int)=>⟨[(1,.ptr 1 0),(2,.d .nils),(3,.d .nils),(5,.mp 27),(6,.d (i64 x.2)),(29,.d (qG l.books)),(30,.d (i64 l.books.length)),(31,.d (i64 i)),(36,.d (qdM b.ents)),(37,.d (i64 b.ents.length)),(38,.d (i64 k))],[(1,.box (.dd l.cells)),(27,.map (kvV qu qpl x.1))],st⟩) (fun k q x=>qfq x.1 (qmh (q++r.flatMap PBook.ents))=T/\qpr x.2 (qmh (q++r.flatMap PBook.ents))=L/\0<=x.2/\x.2<=99) (m,last) (Wk.sub (by repeat' first|exact trivial|refine⟨?_,?_⟩|rfl|(simp only[List.length_map];rfl)|simp[PX.get]) (by repeat' first|exact trivial|refine⟨?_,?_⟩|rfl|(simp only[List.length_map];rfl)|simp[PX.get])) ⟨he1,he2,hla⟩ ?_ ?_
   ·rintro k y q ⟨m,last⟩ hy hk hq ⟨he1,he2,hla⟩
    have hyR:=hB.ent y (List.mem_of_getElem? hy);simp only at he1 he2 hla;conv=>whnf
    refine qg (fun _=>?_) (fun h=>absurd hk (by simpa using h));conv=>whnf
    refine qy hy ?_;conv=>whnf
    refine qe (qnu y) rfl rfl ?_
    by_cases h3:y.kind=3
    ·have ht:qX y = .ifc 156 (.agg [.str y.word,i64 y.number]):=by unfold qX;rw[if_neg (by omega),if_neg (by omega),if_pos h3]
     rw[ht];have h3k:qmh (y::q++r.flatMap PBook.ents)=y::qmh (q++r.flatMap PBook.ents):=by unfold qmh;rw[List.cons_append,List.filter_cons,if_pos (by simp[h3])]
     rw[h3k]at he1 he2;rw[qfq]at he1;have he2:qpr (max last y.number) (qmh (q++r.flatMap PBook.ents))=L:=he2;conv=>whnf
     cases hg:zj m y.number with
     | none=>
      rw[hg]at he1;simp only at he1;refine⟨none,ql (kd:=qu) qn hg 0,?_⟩;conv=>whnf
      refine⟨none,ql (kd:=qu) qn hg 0,?_⟩;conv=>whnf
      refine qc (qa (by(try dsimp only);omega)) ?_;conv=>whnf
      refine⟨(jr m y.number y.word,max last y.number),⟨he1,he2,by simp only;omega⟩,Wk.sub ⟨rfl,rfl,rfl,rfl,rfl,rfl,rfl,rfl,rfl,rfl,rfl,trivial⟩ ⟨rfl,?_,trivial⟩⟩;exact congrArg (fun z=>some (Obj.map z)) (qS (kd:=qu) (vd:=qpl) y.word hg)
     | some w=>
      rw[hg]at he1;simp only at he1;obtain⟨ix,_,hx1,hx2,_⟩:=qs (kd:=qu) (vd:=qpl) qn hg 0;refine⟨_,hx1,?_⟩;conv=>whnf
      by_cases hw:w=y.word
      ·rw[if_pos hw]at he1
       rw[decide_eq_true hw];conv=>whnf
       refine⟨_,hx1,?_⟩;conv=>whnf
       refine qc (qa (by(try dsimp only);omega)) ?_;conv=>whnf
       refine⟨(jr m y.number y.word,max last y.number),⟨he1,he2,by simp only;omega⟩,Wk.sub ⟨rfl,rfl,rfl,rfl,rfl,rfl,rfl,rfl,rfl,rfl,rfl,trivial⟩ ⟨rfl,?_,trivial⟩⟩;show some (Obj.map ((kvV qu qpl m).set (0+ix) (i64 y.number,.str y.word)))=_;rw[Nat.zero_add];exact congrArg (fun z=>some (Obj.map z)) (hx2 y.word)
      ·rw[if_neg hw]at he1
       subst he1;rw[decide_eq_false hw];simp only[if_true];conv=>whnf
       refine qhY 0 rfl (d:=.tup [qM [],qM [],i64 5]) rfl ⟨⟨rfl,rfl⟩,rfl⟩
    ·have h3k:qmh (y::q++r.flatMap PBook.ents)=qmh (q++r.flatMap PBook.ents):=by unfold qmh;rw[List.cons_append,List.filter_cons,if_neg (by simp[h3])]
     rw[h3k]at he1 he2
     by_cases h2:y.kind=2
     ·have ht:qX y = .ifc 175 (.agg []):=by unfold qX;rw[if_neg (by omega),if_pos h2]
      rw[ht];conv=>whnf
      refine qc (qa (by(try dsimp only);omega)) ?_;conv=>whnf
      exact⟨(m,last),⟨he1,he2,hla⟩,(Wk.sub (by repeat' first|exact trivial|refine⟨?_,?_⟩|rfl|(simp only[List.length_map];rfl)|simp[PX.get]) (by repeat' first|exact trivial|refine⟨?_,?_⟩|rfl|(simp only[List.length_map];rfl)|simp[PX.get]))⟩
     ·have ht:qX y = .ifc 138 (.agg [.str y.word]):=by unfold qX;rw[if_pos (by omega)]
      rw[ht];conv=>whnf
      refine qc (qa (by(try dsimp only);omega)) ?_;conv=>whnf
      exact⟨(m,last),⟨he1,he2,hla⟩,(Wk.sub (by repeat' first|exact trivial|refine⟨?_,?_⟩|rfl|(simp only[List.length_map];rfl)|simp[PX.get]) (by repeat' first|exact trivial|refine⟨?_,?_⟩|rfl|(simp only[List.length_map];rfl)|simp[PX.get]))⟩
   ·rintro ⟨m,last⟩ ⟨he1,he2,hla⟩
    simp only at he1 he2 hla;rw[List.nil_append]at he1 he2;conv=>whnf
    refine qg (fun h=>absurd h (by simp)) (fun _=>?_);conv=>whnf
    refine qc (qa (by(try dsimp only);omega)) ?_;conv=>whnf
    exact⟨(m,last),⟨he1,he2,hla⟩,(Wk.sub (by repeat' first|exact trivial|refine⟨?_,?_⟩|rfl|(simp only[List.length_map];rfl)|simp[PX.get]) (by repeat' first|exact trivial|refine⟨?_,?_⟩|rfl|(simp only[List.length_map];rfl)|simp[PX.get]))⟩
  ·rintro ⟨m,last⟩ ⟨he1,he2,hla⟩
   have he1:false=T:=he1;have he2:last=L:=he2;subst he1;subst he2;simp only[Bool.false_eq_true,if_false];conv=>whnf
   refine qg (fun h=>absurd h (by simp)) (fun _=>?_);conv=>whnf
   refine qiu (qqm l hR Y st) [] rfl rfl rfl rfl ?_;rintro v h1 s' ⟨⟨rfl,m1,m2,hC,rfl⟩,rfl⟩;refine⟨rfl,?_⟩;conv=>whnf
   have hin:∀ n,qaQ m1 n=(inN l n:Nat):=hC.in';have hmost:∀ n,qaQ m2 n=(qnH l n:Nat):=hC.most;unfold qoW qoX;rw[hL];generalize hMS:((List.range' 1 last.toNat).map fun(n:Nat)=>(n:Int)).filter (fun n=>decide (inN l n=0))=MS;generalize hCP:((List.range' 1 last.toNat).map fun(n:Nat)=>(n:Int)).filter (fun n=>decide (inN l n≠0)&&decide (1<qnH l n))=CP;have hln:(last.toNat:Int)=last:=by omega
   refine zy (T:=tys) qh (by exact qd mixed qh (by decide +kernel)) (α:=Nat×(List Int×List Int)) (fun z=>⟨[(2,.sl 93 1 0 z.2.1.length),(3,.sl 102 1 0 z.2.2.length),(6,.d (i64 last)),(15,.d (.mv (kvV qu qu m1))),(16,.d (.mv (kvV qu qu m2))),(17,.d (i64 z.1))],[(93,.arr 1 (.dd (ji z.2.1))),(102,.arr 1 (.dd (ji z.2.2)))],s'⟩)
    (fun z=>1<=z.1/\z.1<=last.toNat+1/\z.2.1.length<=z.1/\z.2.2.length<=z.1/\z.2.1++((List.range' z.1 (last.toNat+1-z.1)).map fun(n:Nat)=>(n:Int)).filter (fun n=>decide (inN l n=0))=MS/\z.2.2++((List.range' z.1 (last.toNat+1-z.1)).map fun(n:Nat)=>(n:Int)).filter (fun n=>decide (inN l n≠0)&&decide (1<qnH l n))=CP) (fun z=>last.toNat+1-z.1) (1,([],[])) ?_ ⟨by simp,by simp,by simp,by simp,hMS,hCP⟩ ?_
   ·exact(Wk.born 2 93 1 rfl rfl rfl).trans ((Wk.born 3 102 1 rfl rfl rfl).trans (Wk.sub (by repeat' first|exact trivial|refine⟨?_,?_⟩|rfl|(simp only[List.length_map];rfl)|simp[PX.get]) (by repeat' first|exact trivial|refine⟨?_,?_⟩|rfl|(simp only[List.length_map];rfl)|simp[PX.get])))
   rintro ⟨n,a,c⟩ ⟨hn1,hn2,ha,hcl,hMS,hCP⟩;simp only at hn1 hn2 ha hcl hMS hCP;conv=>whnf
   refine qg (fun h1=>?_) (fun h1=>?_)
   ·have h1:n<last.toNat+1:=by have:=of_decide_eq_true h1;simp only at this;omega
    obtain⟨k,hk1⟩:∃ k,last.toNat+1-n=k+1:=⟨last.toNat-n,by omega⟩;have hk2:last.toNat+1-(n+1)=k:=by omega
    rw[hk1,List.range'_succ,List.map_cons,List.filter_cons]at hMS hCP;conv=>whnf
    have hi1:=hin n;have hi2:=hmost n
    cases hg1:zj m1 n with
    | none=>
     unfold qaQ at hi1;rw[hg1]at hi1;simp only[Option.getD_none]at hi1;refine⟨none,ql (kd:=qu) qn hg1 0,?_⟩;rw[if_pos (by simp;omega)]at hMS;rw[if_neg (by simp;omega)]at hCP;conv=>whnf
     refine qf rfl ?_;conv=>whnf
     refine qf (by simp[Els.len,ji]) ?_;conv=>whnf
     refine zo (decide_eq_true (by
      show((ji a).length+1)*8<=140737488355328;simp[ji];omega)) ?_
     conv=>whnf
     refine qj (((n+1:Nat):Int)) (by(try dsimp only);omega) (qa (by(try dsimp only);omega)) ?_;conv=>whnf
     refine⟨(n+1,(a ++ [(n:Int)],c)),by simp only;omega,⟨by simp only;omega,by simp only;omega,by simp only[List.length_append,List.length_singleton];omega,by simp only;omega,by simp only;rw[hk2,List.append_assoc];exact hMS,by simp only;rw[hk2];exact hCP⟩,Wk.sub ⟨?_,rfl,rfl,rfl,rfl,rfl,trivial⟩ ⟨?_,rfl,trivial⟩⟩
     ·show some (V.sl 93 1 0 ((ji a).length+1))=_
      simp[ji]
     ·show some (Obj.arr 1 (.dd (ji a ++ [[i64 n]])))=_
      simp[ji]
    | some v1=>
     unfold qaQ at hi1;rw[hg1]at hi1;simp only[Option.getD_some]at hi1;obtain⟨ix,_,hx1,_⟩:=qs (kd:=qu) (vd:=qu) qn hg1 0;refine⟨_,hx1,?_⟩;conv=>whnf
     refine qg (fun h2=>?_) (fun h2=>?_)
     ·have h2:v1=0:=of_decide_eq_true h2
      rw[if_pos (by simp;omega)]at hMS;rw[if_neg (by simp;omega)]at hCP;conv=>whnf
      refine qf rfl ?_;conv=>whnf
      refine qf (by simp[Els.len,ji]) ?_;conv=>whnf
      refine zo (decide_eq_true (by
       show((ji a).length+1)*8<=140737488355328;simp[ji];omega)) ?_
      conv=>whnf
      refine qj (((n+1:Nat):Int)) (by(try dsimp only);omega) (qa (by(try dsimp only);omega)) ?_;conv=>whnf
      refine⟨(n+1,(a ++ [(n:Int)],c)),by simp only;omega,⟨by simp only;omega,by simp only;omega,by simp only[List.length_append,List.length_singleton];omega,by simp only;omega,by simp only;rw[hk2,List.append_assoc];exact hMS,by simp only;rw[hk2];exact hCP⟩,Wk.sub ⟨?_,rfl,rfl,rfl,rfl,rfl,trivial⟩ ⟨?_,rfl,trivial⟩⟩
      ·show some (V.sl 93 1 0 ((ji a).length+1))=_
       simp[ji]
      ·show some (Obj.arr 1 (.dd (ji a ++ [[i64 n]])))=_
       simp[ji]
     ·have h2:¬ v1=0:=of_decide_eq_false h2
      conv=>whnf
      cases hg2:zj m2 n with
      | none=>
       unfold qaQ at hi2;rw[hg2]at hi2;simp only[Option.getD_none]at hi2;refine⟨none,ql (kd:=qu) qn hg2 0,?_⟩;rw[if_neg (by simp;omega)]at hMS;rw[if_neg (by simp;omega)]at hCP;conv=>whnf
       refine qj (((n+1:Nat):Int)) (by(try dsimp only);omega) (qa (by(try dsimp only);omega)) ?_;conv=>whnf
       exact⟨(n+1,(a,c)),by simp only;omega,⟨by simp only;omega,by simp only;omega,by simp only;omega,by simp only;omega,by simp only;rw[hk2];exact hMS,by simp only;rw[hk2];exact hCP⟩,(Wk.sub (by repeat' first|exact trivial|refine⟨?_,?_⟩|rfl|(simp only[List.length_map];rfl)|simp[PX.get]) (by repeat' first|exact trivial|refine⟨?_,?_⟩|rfl|(simp only[List.length_map];rfl)|simp[PX.get]))⟩
      | some v2=>
       unfold qaQ at hi2;rw[hg2]at hi2;simp only[Option.getD_some]at hi2;obtain⟨iy,_,hy1,_⟩:=qs (kd:=qu) (vd:=qu) qn hg2 0;refine⟨_,hy1,?_⟩;conv=>whnf
       refine qg (fun h3=>?_) (fun h3=>?_)
       ·have h3:1<v2:=of_decide_eq_true h3
        rw[if_neg (by simp;omega)]at hMS;rw[if_pos (by simp;omega)]at hCP;conv=>whnf
        refine qf rfl ?_;conv=>whnf
        refine qf (by simp[Els.len,ji]) ?_;conv=>whnf
        refine zo (decide_eq_true (by
         show((ji c).length+1)*8<=140737488355328;simp[ji];omega)) ?_
        conv=>whnf
        refine qj (((n+1:Nat):Int)) (by(try dsimp only);omega) (qa (by(try dsimp only);omega)) ?_;conv=>whnf
        refine⟨(n+1,(a,c ++ [(n:Int)])),by simp only;omega,⟨by simp only;omega,by simp only;omega,by simp only;omega,by simp only[List.length_append,List.length_singleton];omega,by simp only;rw[hk2];exact hMS,by simp only;rw[hk2,List.append_assoc];exact hCP⟩,Wk.sub ⟨rfl,?_,rfl,rfl,rfl,rfl,trivial⟩ ⟨rfl,?_,trivial⟩⟩
        ·show some (V.sl 102 1 0 ((ji c).length+1))=_
         simp[ji]
        ·show some (Obj.arr 1 (.dd (ji c ++ [[i64 n]])))=_
         simp[ji]
       ·have h3:¬ 1<v2:=of_decide_eq_false h3
        rw[if_neg (by simp;omega)]at hMS;rw[if_neg (by simp;omega)]at hCP;conv=>whnf
        refine qj (((n+1:Nat):Int)) (by(try dsimp only);omega) (qa (by(try dsimp only);omega)) ?_;conv=>whnf
        exact⟨(n+1,(a,c)),by simp only;omega,⟨by simp only;omega,by simp only;omega,by simp only;omega,by simp only;omega,by simp only;rw[hk2];exact hMS,by simp only;rw[hk2];exact hCP⟩,(Wk.sub (by repeat' first|exact trivial|refine⟨?_,?_⟩|rfl|(simp only[List.length_map];rfl)|simp[PX.get]) (by repeat' first|exact trivial|refine⟨?_,?_⟩|rfl|(simp only[List.length_map];rfl)|simp[PX.get]))⟩
   ·have h1:¬ n<last.toNat+1:=by have:=of_decide_eq_false h1;simp only at this;omega
    rw[show last.toNat+1-n=0 by omega]at hMS hCP;have hMS:a=MS:=by simpa using hMS
    have hCP:c=CP:=by simpa using hCP
    subst hMS;subst hCP;conv=>whnf
    refine qb 1 (ds:=[qM a,qM c,i64 0]) (qx (zU rfl (by simp[ji])) (qx (zU rfl (by simp[ji])) rfl)) ⟨⟨rfl,rfl⟩,rfl⟩
 ·rw[if_neg hc]
  refine qe (qdr l _ _ _ (qbs l)) rfl rfl ?_;conv=>whnf
  generalize qA l=E at hc;refine qg (fun _=>?_) (fun h=>absurd hc (by simpa using h));conv=>whnf
  refine qhY 0 rfl (d:=.tup [qM [],qM [],i64 E]) rfl ⟨⟨rfl,rfl⟩,rfl⟩
end Go.PX
namespace Go.PX
open Go.Proofs
def zJ(l:List Int):List (List D):=l.map fun n=>[i64 n]
def qkh(p:List Int):List V×Heap:=([.sl 1000000 1 0 p.length],[(1000000,.arr 1 (.dd (zJ p)))])
def lsCaps(of:List Int):List V:=[.ptr 1000000 0,.ptr 1000001 0,.d (.ref [qM of]),.ptr 1000002 0]
def qns(of:List Int)(start left:Nat):List V:=[.d (i64 start),.d (i64 left),.ptr 1000000 0,.ptr 1000001 0,.d (.ref [qM of]),.ptr 1000002 0]
def lsH(of:List Int)(k n:Nat)(p:List Int):Heap:=
 [(1000000,.box (.vv [.yld])),(1000001,.box (.vv [.sl k 1 0 n])),(1000002,.box (.vv [.clo 116 (lsCaps of)])),(k,.arr 1 (.dd (zJ p)))]
def qnL(of:List Int)(left:Nat):Prop:=
 ∀ (start:Nat) (p:List Int),left<=of.length->p.length+left<=of.length->start<=of.length -> ∀ {σ:Type} (Y:Hd σ) (s0:σ) (rest:List (List V×Heap)) (Q:σ->Prop),
  iterate Y.np ((qap of left p start).map qkh++rest) s0 Q->FnC Tryz.prog Y 116 (qns of start left) (lsH of 1000003 p.length p) s0 fun v h' s'=>
   ∃ q,h'=lsH of 2000000 q.length q/\((v = .d (.bool true)/\q=p/\iterate Y.np rest s' Q)\/(v = .d (.bool false)/\Q s'))
theorem lfill_zero{of:List Int}(hof:of.length<=1000):qnL of 0:=by
 intro start p hl hp hst σ Y s0 rest Q hit;refine qao mixed qh Tryz.func116 rfl (ft:=qnA) (args:=qns of start 0) (show fnB qnA Tryz.f116 6=true from by decide +kernel) ?_;generalize Y.np=Y at hit ⊢;have hgl:qap of 0 p start = [p]:=rfl;rw[hgl]at hit;conv=>whnf
 refine YldA_y [1000003] (args0:=(qkh p).1) (h0:=(qkh p).2) hit rfl ⟨_,_,rfl,rfl,rfl⟩ rfl rfl ?_;rintro v h1 s' ⟨rfl,hv⟩
 rcases hv with⟨rfl,hi⟩ | ⟨rfl,hq⟩
 ·refine⟨rfl,?_⟩
  conv=>whnf
  refine qq [1000003] [.d (.bool true)] (lsH of 2000000 p.length p) rfl ⟨rfl,rfl,rfl,rfl,trivial⟩ rfl ?_;exact⟨p,rfl,.inl ⟨rfl,rfl,hi⟩⟩
 ·refine⟨rfl,?_⟩
  conv=>whnf
  refine qq [1000003] [.d (.bool false)] (lsH of 2000000 p.length p) rfl ⟨rfl,rfl,rfl,rfl,trivial⟩ rfl ?_;exact⟨p,rfl,.inr ⟨rfl,hq⟩⟩
theorem lfill_succ{of:List Int}(hof:of.length<=1000){left:Nat}(ihl:qnL of left):qnL of (left+1):=by
 intro start p hl hp hst σ Y s0 rest Q hit;refine qao mixed qh Tryz.func116 rfl (ft:=qnA) (args:=qns of start (left+1)) (show fnB qnA Tryz.f116 6=true from by decide +kernel) ?_;generalize Y.np=Y at hit ⊢;have hcl:(zJ p).length=p.length:=by simp[zJ]
 have hgl:qap of (left+1) p start=(List.range' start (of.length-left-start)).flatMap fun(i:Nat)=>qap of left (p ++ [(of[i]?).getD 0]) (i+1):=rfl;rw[hgl]at hit;conv=>whnf
 refine zy (T:=tys) qh (by exact qd mixed qh (by decide +kernel)) (α:=Nat×σ)
  (fun x=>⟨[(1,.d (i64 (left+1:Nat))),(2,.ptr 1000000 0),(3,.ptr 1000001 0),(4,.d (.ref [qM of])),(5,.ptr 1000002 0),(9,.d (i64 x.1))],lsH of 900000 p.length p,x.2⟩)
  (fun x=>x.1<=of.length/\iterate Y (((List.range' x.1 (of.length-left-x.1)).flatMap fun(i:Nat)=>qap of left (p ++ [(of[i]?).getD 0]) (i+1)).map qkh++rest) x.2 Q) (fun x=>of.length-x.1) (start,s0)
  ((Wk.move 1000003 900000 rfl rfl).trans (Wk.sub ⟨rfl,rfl,rfl,rfl,rfl,rfl,trivial⟩ ⟨rfl,rfl,rfl,rfl,trivial⟩)) ⟨hst,hit⟩ ?_
 clear hit hst s0;rintro ⟨i,s0⟩ ⟨hi,hit⟩;simp only at hi hit;conv=>whnf
 refine qj ((of.length:Int)-(left+1:Nat)) (by simp) (qa (by omega)) ?_;conv=>whnf
 refine qg (fun h1=>?_) (fun h1=>?_)
 ·have h1:i<=of.length-(left+1):=by have:=of_decide_eq_true h1;simp at this;omega
  have hil:i<of.length:=by omega
  obtain⟨m,hm1⟩:∃ m,of.length-left-i=m+1:=⟨of.length-left-i-1,by omega⟩;have hoi:(of[i]?).getD 0=of[i]:=by rw[List.getElem?_eq_getElem hil];rfl
  rw[hm1,List.range'_succ,List.flatMap_cons,List.map_append,List.append_assoc,hoi]at hit;conv=>whnf
  refine qz [i64 of[i]] ⟨by omega,by rw[Int.toNat_natCast,List.getElem?_map,List.getElem?_eq_getElem hil];rfl⟩ ?_;conv=>whnf
  refine qf rfl ?_;conv=>whnf
  refine ownK.mk (by simp[Els.len,hcl]) ?_;conv=>whnf
  refine zo (by simp[Els.len,Els.part,hcl];omega) ?_;conv=>whnf
  refine qj (((i+1:Nat):Int)) (by(try dsimp only);omega) (qa (by(try dsimp only);omega)) ?_;conv=>whnf
  refine qj (((left:Nat):Int)) (by(try dsimp only);omega) (qa (by(try dsimp only);omega)) ?_;conv=>whnf
  have ih:=ihl (i+1) (p ++ [of[i]]) (by omega) (by simp;omega) (by omega) Y s0 _ Q hit.np;refine qiu ih [1000000,1000001,1000002,30] rfl ⟨_,_,rfl,rfl,_,_,rfl,(by
    show some (Obj.box (Cells.vv [V.sl 30 1 0 ((((zJ p).drop 0).take p.length).length+1)]))=some (Obj.box (Cells.vv [V.sl 30 1 0 (p ++ [of[i]]).length]));simp[zJ]),_,_,rfl,rfl,_,_,rfl,(by
    show some (Obj.arr 1 (Els.dd ((((zJ p).drop 0).take p.length) ++ [[i64 of[i]]])))=some (Obj.arr 1 (Els.dd (zJ (p ++ [of[i]]))));simp[zJ,List.take_of_length_le]),rfl⟩ rfl rfl ?_
  rintro v h1 s' ⟨q,rfl,hpost⟩;rw[qdk]at hpost
  rcases hpost with⟨rfl,rfl,hi2⟩ | ⟨rfl,hq⟩
  ·refine⟨rfl,?_⟩
   conv=>whnf
   refine qj (p.length:Int) (by simp) (qa (by omega)) ?_;conv=>whnf
   refine zo (by simp;omega) ?_;conv=>whnf
   refine qj (((i+1:Nat):Int)) (by(try dsimp only);omega) (qa (by(try dsimp only);omega)) ?_;conv=>whnf
   have hm2:of.length-left-(i+1)=m:=by omega
   refine⟨(i+1,s'),by simp only;omega,⟨by simp only;omega,by simp only;rw[hm2];exact hi2⟩,(Wk.move 102304 900000 rfl rfl).trans ((Wk.shrink 900000 p.length rfl).trans ?_)⟩;have hsh:(zJ (p ++ [of[i]])).take p.length=zJ p:=by simp[zJ,List.take_left']
   refine Wk.sub ⟨rfl,rfl,rfl,rfl,rfl,rfl,trivial⟩ ⟨rfl,?_,?_,?_,trivial⟩
   ·rfl
   ·exact zA rfl ⟨⟨rfl,⟨rfl,rfl⟩,⟨rfl,rfl⟩,rfl,⟨rfl,rfl⟩,trivial⟩,trivial⟩
   ·show some (Obj.arr 1 (Els.dd ((zJ (p ++ [of[i]])).take p.length)))=_
    rw[hsh]
  ·refine⟨rfl,?_⟩
   conv=>whnf
   refine qq [102304] [.d (.bool false)] (lsH of 2000000 q.length q) rfl ⟨rfl,zA rfl ⟨⟨rfl,rfl,rfl,rfl⟩,trivial⟩,zA rfl ⟨⟨rfl,⟨rfl,rfl⟩,⟨rfl,rfl⟩,rfl,⟨rfl,rfl⟩,trivial⟩,trivial⟩,rfl,trivial⟩ rfl ?_;exact⟨q,rfl,.inr ⟨rfl,hq⟩⟩
 ·have h1:¬ (i:Int)<=(of.length:Int)-((left+1:Nat):Int):=of_decide_eq_false h1
  rw[show of.length-left-i=0 by omega]at hit;conv=>whnf
  refine qq [900000] [.d (.bool true)] (lsH of 2000000 p.length p) rfl ⟨rfl,zA rfl ⟨⟨rfl,rfl,rfl,rfl⟩,trivial⟩,zA rfl ⟨⟨rfl,⟨rfl,rfl⟩,⟨rfl,rfl⟩,rfl,⟨rfl,rfl⟩,trivial⟩,trivial⟩,rfl,trivial⟩ rfl ?_;exact⟨p,rfl,.inl ⟨rfl,rfl,hit⟩⟩
theorem lfill{of:List Int}(hof:of.length<=1000)(left:Nat):qnL of left:=by
 induction left with
 | zero=>exact lfill_zero hof
 | succ n ih=>exact lfill_succ hof ih
theorem pa87(of:List Int):FnV Tryz.prog 87 [qM of] (.clo 115 [.ref [qM of]]):=by
 refine qC mixed qh Tryz.func87 rfl (ft:=ft87) 1 (by decide +kernel) (by rfl) fun {σ} Y st=>?_;conv=>whnf
 exact qb 1 rfl ⟨⟨rfl,rfl⟩,rfl⟩
theorem yields115(of:List Int)(hof:of.length<=1000):Yields Tryz.prog 115 [.ref [qM of]] ((qhJ of).map qkh):=by
 intro γ Y g0 Q hit;refine qao mixed qh Tryz.func115 rfl (ft:=qoO) (args:=[.yld,.d (.ref [qM of])]) (show fnB qoO Tryz.f115 2=true from by decide +kernel) ?_;replace hit:=hit.np;generalize Y.np=Y at hit ⊢;conv=>whnf
 refine qj ((of.length+1:Nat):Int) (by simp) (qa (by omega)) ?_;conv=>whnf
 refine zy (T:=tys) qh (by exact qd mixed qh (by decide +kernel)) (α:=Nat×γ)
  (fun x=>⟨[(1,.d (.ref [qM of])),(2,.ptr 2 0),(3,.ptr 3 0),(4,.ptr 4 0),(9,.d (i64 (of.length+1:Nat))),(10,.d (i64 x.1))],[(2,.box (.vv [.yld])),(3,.box (.vv [.sl 900000 1 0 0])),(4,.box (.vv [.clo 116 [.ptr 2 0,.ptr 3 0,.d (.ref [qM of]),.ptr 4 0]])),(900000,.arr 1 (.dd []))],x.2⟩)
  (fun x=>x.1<=of.length+1/\iterate Y (((List.range' x.1 (of.length+1-x.1)).flatMap fun(n:Nat)=>qap of n [] 0).map qkh) x.2 Q) (fun x=>of.length+1-x.1) (0,g0)
  ((Wk.bornBox 3 900000 1 rfl rfl rfl rfl).trans (Wk.sub ⟨rfl,rfl,rfl,rfl,rfl,rfl,trivial⟩ ⟨rfl,rfl,rfl,rfl,trivial⟩)) ⟨Nat.zero_le _,hit⟩ ?_
 clear hit g0;rintro ⟨n,g0⟩ ⟨hn,hit⟩;simp only at hn hit;conv=>whnf
 refine qg (fun h1=>?_) (fun h1=>?_)
 ·have h1:n<of.length+1:=by have:=of_decide_eq_true h1;simp only at this;omega
  obtain⟨m,hm1⟩:∃ m,of.length+1-n=m+1:=⟨of.length-n,by omega⟩;rw[hm1,List.range'_succ,List.flatMap_cons,List.map_append]at hit;conv=>whnf
  refine qiu (lfill hof n 0 [] (by omega) (by simp;omega) (by omega) Y g0 _ Q hit.np) [2,3,4,900000] rfl ⟨_,_,rfl,rfl,_,_,rfl,rfl,_,_,rfl,rfl,_,_,rfl,rfl,rfl⟩ rfl rfl ?_;rintro v h1 s' ⟨q,rfl,hpost⟩;rw[qdk]at hpost
  rcases hpost with⟨rfl,rfl,hi2⟩ | ⟨rfl,hq⟩
  ·refine⟨rfl,?_⟩
   conv=>whnf
   refine qj (((n+1:Nat):Int)) (by(try dsimp only);omega) (qa (by(try dsimp only);omega)) ?_;conv=>whnf
   have hm2:of.length+1-(n+1)=m:=by omega
   exact⟨(n+1,s'),by simp only;omega,⟨by simp only;omega,by simp only;rw[hm2];exact hi2⟩,(Wk.move 100960 900000 rfl rfl).trans (Wk.sub ⟨rfl,rfl,rfl,rfl,rfl,rfl,trivial⟩ ⟨rfl,rfl,rfl,rfl,trivial⟩)⟩
  ·refine⟨rfl,?_⟩
   conv=>whnf
   exact qb 0 rfl ⟨rfl,hq⟩
 ·have h1:¬ n<of.length+1:=by have:=of_decide_eq_false h1;simp only at this;omega
  rw[show of.length+1-n=0 by omega]at hit;conv=>whnf
  exact qb 0 rfl ⟨rfl,hit⟩
end Go.PX
