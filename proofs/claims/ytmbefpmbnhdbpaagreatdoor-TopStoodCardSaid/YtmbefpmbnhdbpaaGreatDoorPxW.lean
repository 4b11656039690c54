import Derived.Test.YtmbefpmbnhdbpaaGreatDoorPxV
set_option linter.all false
set_option maxRecDepth 10000
namespace Go.PX
open Go.Proofs
open Go.RowKit
theorem VL(l:aM):bq Tryz.prog 5 [l.d] (.tup [i64 (fK l).1,i64 (fK l).2.1,i64 (bB l)]):=aag l
theorem WA(c:aA):bq Tryz.prog 6 [c.d] (.tup [i64 (gB c).1,i64 (gB c).2.1,i64 (gB c).2.2]):=aaP c
theorem Gu{r:List (List Int)×Int}(h:∀ x∈r.1,x.length<=2)(k:Nat):(fQ r k).length<=2:=by
 unfold fQ;rw[List.getD_eq_getElem?_getD];generalize (if k<r.1.length then k else r.2.toNat+(k-r.2.toNat)%(r.1.length-r.2.toNat))=i
 cases hi:r.1[i]? with
 | none=>simp
 | some x=>exact h x (List.mem_of_getElem? hi)
set_option maxHeartbeats 8000000 in
theorem te3(l:aM)(c:aA)(x y:List Int)(w1 w2 g:Int)(hx:Sw x)(hy:Sw y)(B2:0<=w1/\w1<=255)(HE:0<=w2/\w2<=255)(hg:0<=g/\g<=255):bq Tryz.prog 3 [l.d,c.d,.agg [cM x,cM y,.int .u8 w1,.int .u8 w2,.int .u8 g]] (.bool true):=by
 have h5:=fun {σ}=>@VL l σ;have h6:=fun {σ}=>@WA c σ;rcases Classical.em (bB l=0/\(gB c).2.2=0) with hc|hc
 case inr=>
  generalize fK l=P at h5;generalize bB l=N at h5 hc;generalize gB c=M at h6 hc;show bq Tryz.prog 3 [l.d,c.d,.agg [cM x,cM y,.int .u8 w1,.int .u8 w2,.int .u8 g]] _;refine aI mixed ak Tryz.func3 rfl (ft:=ft3) 3 (by decide +kernel) (by rfl) fun {σ} Y st=>?_;conv=>whnf
  refine ai (ds:=[l.d]) h5 rfl rfl ?_;conv=>whnf
  refine ai (ds:=[c.d]) h6 rfl rfl ?_;conv=>whnf
  refine af (fun h1=>?_) (fun h1=>?_)
  ·conv=>whnf
   refine ai (JO) rfl rfl ?_;conv=>whnf
   conv=>whnf
   refine ai (Jw) rfl rfl ?_;conv=>whnf
   exact ab 0 rfl ⟨⟨rfl,rfl⟩,rfl⟩
  ·conv=>whnf
   refine af (fun h2=>?_) (fun h2=>?_)
   ·conv=>whnf
    refine ai (JO) rfl rfl ?_;conv=>whnf
    conv=>whnf
    refine ai (Jw) rfl rfl ?_;conv=>whnf
    exact ab 0 rfl ⟨⟨rfl,rfl⟩,rfl⟩
   ·exact absurd ⟨by simpa using h1,by simpa using h2⟩ hc
 obtain⟨vq,nr⟩:=hc;have h9:bq Tryz.prog 9 [l.d,cM x,cM y] (.tup [(⟨l.near,(nO l x y).aj⟩:aM).d,.vs ((nO l x y).times.map fun r=>[ax r]),.vs ((nO l x y).kV.map fun r=>[ax r])]):=aao l vq x y hx hy;have hO:=Sn vq (x:=x) (y:=y) fun n hn=>(hy n hn).1;have QP:=fun {σ}=>@WC c σ;have hE:cB c []=0:=by
  unfold cB;rw[if_pos nr];rfl
 have DC:=fun ha=>KL (wR nr) ha;have UX:=(wR nr).bQ;rw[hE]at QP;simp only[true_and,if_true]at QP;generalize Ai c=r at DC QP;rw[vq]at h5;rw[nr]at h6;generalize nO l x y=Z at hO h9;have hZR:=fk hO.check;have hZl:=hZR.aj;have wF:=hO.R.bl;have LJ:=hO.R.tl;have hZe:∀ b∈Z.aj,b.ar.length<=8:=fun b hb=>(hZR.book b hb).ar;have Uz:=hO.R.book;have US:=fun {i k:Nat} {T:List Int} {u:Int}=>@oU.inst l Z hO i k T u;have Z5:=fun {i k:Nat} {T:List Int} {u:Int}=>@oU.Xu l Z hO i k T u;have WT:=fun {σ}=>@aaK ⟨l.near,Z.aj⟩ w1 w2 hZl hZe B2 HE σ;have tY:(xG ⟨l.near,Z.aj⟩ w1 w2).2=true -> ∃ (i k:Nat) (b:au) (T:List Int) (u:Int),(xG ⟨l.near,Z.aj⟩ w1 w2).1=⟨i,k⟩/\Z.times[i]?=some T/\T[k]?=some u:=by
  have dN:w1.toNat%Z.aj.length<Z.aj.length:=Nat.mod_lt _ (by have:1<=Z.aj.length:=hZl.1;omega);have hg:=List.getElem?_eq_getElem dN;generalize Z.aj[w1.toNat%Z.aj.length]=b at hg;obtain⟨b0,T,O,_,_,_,_,hT,_,hBT,_⟩:=Uz _ b hg;unfold xG;simp only[hg];intro h;by_cases h0:b.ar.length=0
  ·rw[if_pos h0]at h;cases h
  ·rw[if_neg h0]
   have hk:w2.toNat%b.ar.length<T.length:=by rw[hBT.tl];exact Nat.mod_lt _ (by omega)
   exact⟨_,_,b,T,T[w2.toNat%b.ar.length],rfl,hT,List.getElem?_eq_getElem hk⟩
 clear hO;generalize xG ⟨l.near,Z.aj⟩ w1 w2=E at WT tY;obtain⟨at0,is⟩:=E;generalize fT c (aN c) .zero=ev at DC QP;have SA:=fun {σ}=>@OQ ⟨l.near,Z.aj⟩ at0 σ;show bq Tryz.prog 3 [l.d,c.d,.agg [cM x,cM y,.int .u8 w1,.int .u8 w2,.int .u8 g]] _;refine aI mixed ak Tryz.func3 rfl (ft:=ft3) 3 (by decide +kernel) (by rfl) fun {σ} Y st=>?_;conv=>whnf
 refine ai (ds:=[l.d]) h5 rfl rfl ?_;conv=>whnf
 refine ai (ds:=[c.d]) h6 rfl rfl ?_;conv=>whnf
 refine ai (ds:=[l.d,cM x,cM y]) h9 rfl rfl ?_;conv=>whnf
 refine ai (ds:=[(⟨l.near,Z.aj⟩:aM).d,.agg [.int .u8 w1,.int .u8 w2]]) WT rfl rfl ?_;conv=>whnf
 refine ai (ds:=[c.d]) QP rfl rfl ?_
 cases is with
 | false=>
  conv=>whnf
  cases ev with
  | false=>
   conv=>whnf
   refine ai (JO) rfl rfl ?_;conv=>whnf
   conv=>whnf
   refine ai (Jw) rfl rfl ?_;conv=>whnf
   exact ab 0 rfl ⟨⟨rfl,rfl⟩,rfl⟩
  | true=>
   conv=>whnf
   refine ai (JO) rfl rfl ?_;conv=>whnf
   conv=>whnf
   refine ai (Jw) rfl rfl ?_;conv=>whnf
   exact ab 0 rfl ⟨⟨rfl,rfl⟩,rfl⟩
 | true=>
  cases ev with
  | false=>
   conv=>whnf
   refine ai (JO) rfl rfl ?_;conv=>whnf
   conv=>whnf
   refine ai (Jw) rfl rfl ?_;conv=>whnf
   exact ab 0 rfl ⟨⟨rfl,rfl⟩,rfl⟩
  | true=>
   conv=>whnf
   obtain⟨i,k,b,T,u,he,hT,hu⟩:=tY rfl;simp only at he;subst he;obtain⟨g1,g2,g3⟩:=US hT hu;obtain⟨g4,g5⟩:=Z5 hT hu;have SA:bq Tryz.prog 12 [(⟨l.near,Z.aj⟩:aM).d,c8.d ⟨i,k⟩] (.tup [(iF ⟨l.near,Z.aj⟩ ⟨i,k⟩).d,i64 0]):=bq.cast SA (by rw[g1]);generalize iF ⟨l.near,Z.aj⟩ ⟨i,k⟩=s at g2 g3 g4 g5 SA;have hk:=DC rfl;have hf:=hk.WQ;have v8:r.1.length<=46656:=hk.len;refine ai (ds:=[(⟨l.near,Z.aj⟩:aM).d,c8.d ⟨i,k⟩]) SA rfl rfl ?_;conv=>whnf
   refine af (fun h=>absurd h (by simp;omega)) (fun _=>?_);conv=>whnf
   refine af (fun h=>absurd h (by simp;omega)) (fun _=>?_);conv=>whnf
   refine ao g rfl (wrap_i64 (by omega)) ?_;conv=>whnf
   obtain⟨L,hL⟩:∃ L,10+g=L:=⟨_,rfl⟩;refine ao L hL (wrap_i64 (by omega)) ?_;have YT:10<=L/\L<=265:=by omega
   clear hL;conv=>whnf
   refine aw hT ?_;conv=>whnf
   refine aw hu ?_;conv=>whnf
   refine af (fun h=>absurd h (by simp;omega)) (fun _=>?_);conv=>whnf
   refine af (fun h=>absurd h (by simp;omega)) (fun _=>?_);conv=>whnf
   have quo:∀ v:Int,0<=v->v<=30000 -> ∃ n:Nat,v.tdiv L=n/\v/L=n/\n<=30000:=fun v h1 h2=>by
    have a1:=Int.ediv_nonneg h1 (show 0<=L by omega);have a2:=Int.ediv_le_self L h1;exact⟨(v/L).toNat,by rw[Int.tdiv_eq_ediv_of_nonneg h1];omega,by omega,by omega⟩
   obtain⟨A,hA,Uo,hAb⟩:=quo (s.lo+1440) (by omega) (by omega);obtain⟨R,hR,hR',hRb⟩:=quo (u+1440) (by omega) (by omega);obtain⟨B,hB,hB',hBb⟩:=quo (s.hi+1440) (by omega) (by omega);have hAR:A<=R:=by
    have:=Int.ediv_le_ediv (show 0<L by omega) (show s.lo+1440<=u+1440 by omega);omega
   have hRB:R<=B:=by
    have:=Int.ediv_le_ediv (show 0<L by omega) (show u+1440<=s.hi+1440 by omega);omega
   clear quo Uo hR' hB';refine ao (s.lo+1440) rfl (wrap_i64 (by omega)) ?_;conv=>whnf
   refine af (fun h=>absurd h (by simp;omega)) (fun _=>?_);conv=>whnf
   refine ao (u+1440) rfl (wrap_i64 (by omega)) ?_;conv=>whnf
   refine aQ (decide_eq_true (by omega)) ?_;conv=>whnf
   refine ao (R:Int) hR (wrap_i64 (by omega)) ?_;conv=>whnf
   refine ai (ds:=[bt r.1,i64 r.2,i64 R]) (Wi r R hf (by omega) (by omega)) rfl rfl ?_;conv=>whnf
   have DK:=Gu (r:=r) fun x hx=>(hk.rows x hx).2;refine bx (T:=tys) ak (by exact an mixed ak (by decide +kernel)) c.bQ (fun m (_:Unit)=>⟨[(4,.ptr 4 0),(18,.d (bt r.1)),(19,.d (i64 r.2)),(20,.ptr 20 0),(21,.d (i64 L)),(22,.d (i64 1440)),(24,.d (ax (fQ r R))),(25,.d (i64 m))],[(20,.box (.dd [i64 s.lo,i64 s.hi])),(4,.box (.dd c.cells))],st⟩) (fun _ _ _=>True) () (Wk.sub (by repeat' first|constructor|simp[PX.get]) (by repeat' first|constructor|simp[PX.get])) trivial ?_ ?_
   ·rintro m man rest _ hm AH LG _
    conv=>whnf
    refine af (fun _=>?_) (fun h=>absurd AH (by have:=of_decide_eq_false h;simp at this;omega));conv=>whnf
    refine ao (s.lo+1440) rfl (wrap_i64 (by omega)) ?_;conv=>whnf
    refine aQ (decide_eq_true (by omega)) ?_;conv=>whnf
    refine ao (A:Int) hA (wrap_i64 (by omega)) ?_;conv=>whnf
    refine bx (T:=tys) ak (by exact an mixed ak (by decide +kernel)) (List.range (B+1-A)) (fun q (a:Bool×Bool)=>⟨[(4,.ptr 4 0),(18,.d (bt r.1)),(19,.d (i64 r.2)),(20,.ptr 20 0),(21,.d (i64 L)),(22,.d (i64 1440)),(24,.d (ax (fQ r R))),(25,.d (i64 m)),(26,.d (.bool a.1)),(27,.d (.bool a.2)),(28,.d (i64 ((A+q:Nat):Int)))],[(20,.box (.dd [i64 s.lo,i64 s.hi])),(4,.box (.dd c.cells))],st⟩)
     (fun q _ a=>(a.1=true -> ∀ j,j<q->(m:Int)∈fQ r (A+j))/\(a.2=false -> ∀ j,j<q->¬ (m:Int)∈fQ r (A+j))) (true,false) (Wk.sub (by repeat' first|constructor|simp[PX.get]) (by repeat' first|constructor|simp[PX.get])) ⟨fun _ j h=>absurd h (by omega),fun _ j h=>absurd h (by omega)⟩ ?_ ?_
    ·rintro q y aa9 ⟨al,so⟩ hy hq wK ⟨pf,Nr⟩
     rw[List.length_range]at hq;simp only at pf Nr;conv=>whnf
     refine ao (s.hi+1440) rfl (wrap_i64 (by omega)) ?_;conv=>whnf
     refine aQ (decide_eq_true (by omega)) ?_;conv=>whnf
     refine ao (B:Int) hB (wrap_i64 (by omega)) ?_;conv=>whnf
     refine af (fun _=>?_) (fun h=>absurd hq (by have:=of_decide_eq_false h;omega));conv=>whnf
     refine ai (ds:=[bt r.1,i64 r.2,i64 ((A+q:Nat):Int)]) (Wi r (A+q) hf (by omega) (by omega)) rfl rfl ?_;conv=>whnf
     refine ai (ds:=[ax (fQ r (A+q)),i64 m]) (WD (fQ r (A+q)) m (by have:=DK (A+q);omega)) rfl rfl ?_;obtain⟨d,hd⟩:∃ d,decide ((m:Int)∈fQ r (A+q))=d:=⟨_,rfl⟩;rw[hd];have hn:((al&&d)=true -> ∀ j,j<q+1->(m:Int)∈fQ r (A+j))/\((so||d)=false -> ∀ j,j<q+1->¬ (m:Int)∈fQ r (A+j)):=by
      constructor
      ·intro h j hj
       rw[Bool.and_eq_true]at h;by_cases ZD:j=q
       ·subst ZD
        rw[h.2]at hd;exact of_decide_eq_true hd
       ·exact pf h.1 j (by omega)
      ·intro h j hj
       rw[Bool.or_eq_false_iff]at h;by_cases ZD:j=q
       ·subst ZD
        rw[h.2]at hd;exact of_decide_eq_false hd
       ·exact Nr h.1 j (by omega)
     clear hd pf Nr
     cases al with
     | false=>
      cases so with
      | false=>
       conv=>whnf
       refine ae (wrap_i64 (by(try dsimp only);omega)) ?_;conv=>whnf
       refine⟨(_,_),hn,(Wk.sub (by repeat' first|constructor|simp[PX.get]) (by repeat' first|constructor|simp[PX.get]))⟩
      | true=>
       conv=>whnf
       refine ae (wrap_i64 (by(try dsimp only);omega)) ?_;conv=>whnf
       refine⟨(_,_),hn,(Wk.sub (by repeat' first|constructor|simp[PX.get]) (by repeat' first|constructor|simp[PX.get]))⟩
     | true=>
      cases so with
      | false=>
       conv=>whnf
       refine ae (wrap_i64 (by(try dsimp only);omega)) ?_;conv=>whnf
       refine⟨(_,_),hn,(Wk.sub (by repeat' first|constructor|simp[PX.get]) (by repeat' first|constructor|simp[PX.get]))⟩
      | true=>
       conv=>whnf
       refine ae (wrap_i64 (by(try dsimp only);omega)) ?_;conv=>whnf
       refine⟨(_,_),hn,(Wk.sub (by repeat' first|constructor|simp[PX.get]) (by repeat' first|constructor|simp[PX.get]))⟩
    ·rintro ⟨al,so⟩ ⟨pf,Nr⟩
     rw[List.length_range]at pf Nr ⊢;simp only at pf Nr;have pf:al=true->(m:Int)∈fQ r R:=fun h=>by
      have:=pf h (R-A) (by omega)
      rwa [show A+(R-A)=R by omega]at this
     have Nr:so=false->¬ (m:Int)∈fQ r R:=fun h=>by
      have:=Nr h (R-A) (by omega)
      rwa [show A+(R-A)=R by omega]at this
     conv=>whnf
     refine ao (s.hi+1440) rfl (wrap_i64 (by omega)) ?_;conv=>whnf
     refine aQ (decide_eq_true (by omega)) ?_;conv=>whnf
     refine ao (B:Int) hB (wrap_i64 (by omega)) ?_;conv=>whnf
     refine af (fun h=>absurd (of_decide_eq_true h) (by omega)) (fun _=>?_);conv=>whnf
     refine ai (ds:=[ax (fQ r R),i64 m]) (WD (fQ r R) m (by have:=DK R;omega)) rfl rfl ?_
     cases al with
     | false=>
      cases so with
      | false=>
       have uB:=Nr rfl;rw[decide_eq_false uB];conv=>whnf
       refine ae (wrap_i64 (by(try dsimp only);omega)) ?_;conv=>whnf
       exact⟨(),trivial,(Wk.sub (by repeat' first|constructor|simp[PX.get]) (by repeat' first|constructor|simp[PX.get]))⟩
      | true=>
       conv=>whnf
       refine ae (wrap_i64 (by(try dsimp only);omega)) ?_;conv=>whnf
       exact⟨(),trivial,(Wk.sub (by repeat' first|constructor|simp[PX.get]) (by repeat' first|constructor|simp[PX.get]))⟩
     | true=>
      have uB:=pf rfl;rw[decide_eq_true uB]
      cases so with
      | false=>
       exact absurd uB (Nr rfl)
      | true=>
       conv=>whnf
       refine ae (wrap_i64 (by(try dsimp only);omega)) ?_;conv=>whnf
       exact⟨(),trivial,(Wk.sub (by repeat' first|constructor|simp[PX.get]) (by repeat' first|constructor|simp[PX.get]))⟩
   ·rintro _ _
    conv=>whnf
    refine af (fun h=>absurd h (by simp)) (fun _=>?_);conv=>whnf
    refine ai (JO) rfl rfl ?_;conv=>whnf
    conv=>whnf
    refine ai (Jw) rfl rfl ?_;conv=>whnf
    exact ab 0 rfl ⟨⟨rfl,rfl⟩,rfl⟩
end Go.PX
