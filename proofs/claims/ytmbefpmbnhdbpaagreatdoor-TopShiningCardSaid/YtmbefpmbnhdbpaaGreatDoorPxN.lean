import Derived.Test.YtmbefpmbnhdbpaaGreatDoorPxM
set_option linter.all false
set_option maxRecDepth 10000
namespace Go.PX
open Go.Proofs
def fc(x:bL)(at' speed since:Int):Int:=(at'+max 0 (speed-since/x.gG))%x.bT
theorem kM{x:bL}(hR:jH x)(a s n:Int):0<=fc x a s n/\fc x a s n<x.bT:=by
 have hd:=hR.bT;unfold fc;exact⟨Int.emod_nonneg _ (by omega),Int.emod_lt_of_pos _ (by omega)⟩
theorem Fk(x:bL)(hR:jH x)(a s n:Int)(ha:0<=a/\a<x.bT)(hs:0<=s/\s<=1000)(hn:0<=n/\n<=1000):bq Tryz.prog 189 [.ref (iX x),i64 a,i64 s,i64 n] (i64 (fc x a s n)):=by
 refine aY Tryz.func189 rfl (ft:=VP) 4 fun {σ} Y st=>?_;conv=>whnf
 have hd:=hR.bT;have zj:=hR.gG;have e1:n.tdiv x.gG=n/x.gG:=Int.tdiv_eq_ediv_of_nonneg hn.1;have b1:0<=n/x.gG/\n/x.gG<=n:=⟨Int.ediv_nonneg hn.1 (by omega),Int.ediv_le_self _ hn.1⟩;have e2:(a+max 0 (s-n/x.gG)).tmod x.bT=fc x a s n:=Int.tmod_eq_emod_of_nonneg (by omega);refine aM (by simp;omega) ?_;conv=>whnf
 refine jI (wrap_i64 (by rw[e1];omega)) ?_;conv=>whnf
 rw[e1];refine ae ?_;conv=>whnf
 refine ae ?_;conv=>whnf
 refine aM (by simp;omega) ?_;conv=>whnf
 rw[e2];exact ai
structure bm where
 start:Int
 aW:List Int
 deriving DecidableEq
def bm.cells(t:bm):List D:=[i64 t.start,aV t.aW]
def bm.d(t:bm):D:=.agg t.cells
def oa(c:bG)(t:bm):Int:=
 if t.aW.length=c.az.length+1 then (if cF t.start c.aB.start.lo c.aB.start.hi&&t.aW.all (fun s=>cF s c.aB.speed.lo c.aB.speed.hi) then 0 else 7) else 3
theorem XJ(c:bG)(t:bm)(hw:c.az.length<=1000):bq Tryz.prog 133 [c.d,t.d] (i64 (oa c t)):=by
 refine aY Tryz.func133 rfl (ft:=Vk) 2 fun {σ} Y st=>?_;conv=>whnf
 refine jI (wrap_i64 (by simp only[List.length_map];omega)) ?_;conv=>whnf
 unfold oa;refine ag (fun h1=>?_) (fun h1=>?_)
 ·have h1:¬ t.aW.length=c.az.length+1:=by
   simp at h1;omega
  conv=>whnf
  rw[if_neg h1];exact ai
 have h1:t.aW.length=c.az.length+1:=by simp at h1;omega
 rw[if_pos h1];conv=>whnf
 refine aA (lN c.aB.start.lo c.aB.start.hi t.start) rfl 1 rfl ?_;conv=>whnf
 by_cases h2:cF t.start c.aB.start.lo c.aB.start.hi=true;case neg=>
  have h2:cF t.start c.aB.start.lo c.aB.start.hi=false:=by simpa using h2
  rw[h2];conv=>whnf
  exact ai
 rw[h2];conv=>whnf
 refine af (ID c.aB.speed.lo c.aB.speed.hi t.aW (by omega)) rfl rfl ?_;have h3:(t.aW.any fun n=>decide (n<c.aB.speed.lo)||decide (n>c.aB.speed.hi)) = !(t.aW.all fun s=>cF s c.aB.speed.lo c.aB.speed.hi):=by
  rw[List.not_all_eq_any_not]
  congr 1
  funext n
  exact zZ _ _ n
 rw[h3];conv=>whnf
 cases h4:t.aW.all fun s=>cF s c.aB.speed.lo c.aB.speed.hi with
 | true=>
  conv=>whnf
  exact ai
 | false=>
  conv=>whnf
  exact ai
def dj(l:List Bool):D:=.vs (l.map fun b=>[.bool b])
def dq(x:bL)(w sp:List Int):Nat->Int->Int->Int->Nat->List Bool
 | 0,_,_,_,_=>[]
 | k+1,s,at',begin,n=>eP x at'::(if w[n]?=some s then dq x w sp k (s+1) (fc x at' (sp.getD (n+1) 0) 0) s (n+1) else dq x w sp k (s+1) (fc x at' (sp.getD n 0) (s-begin)) begin n)
def bX(x:bL)(w:List Int)(t:bm):List Bool:=dq x w t.aW x.night.toNat 0 t.start 0 0
theorem jr{x:bL}{w sp:List Int}:∀ {k:Nat} {s a b:Int} {n:Nat},(dq x w sp k s a b n).length=k
 | 0,_,_,_,_=>rfl
 | k+1,s,a,b,n=>by
  rw[dq];split<;>simp[jr]
theorem Kn(x:bL){a:Int}(ha:0<=a/\a<120):((iX x).drop 8)[a.toNat]?=some (.bool (eP x a)):=by
 have h:(iX x).drop 8=sR fun(k:Nat)=>eP x k:=rfl;rw[h,LV _ (by omega)];rw[show((a.toNat:Nat):Int)=a by omega]
theorem mS{K:D->Prop}(x:bL){a:Int}(ha:0<=a/\a<120){l:List D}(hl:l=((iX x).drop 8).drop (a.toNat*1))(h:K (.bool (eP x a))):pT l 0 K:=by
 subst hl;refine cJ (.bool (eP x a)) ?_ h;rw[List.getElem?_drop,Nat.add_zero,Nat.mul_one];exact Kn x ha
structure ld(c:bG)(t:bm):Prop where
 start:c.aB.start.lo<=t.start/\t.start<=c.aB.start.hi
 len:t.aW.length=c.az.length+1
 speed:∀ s∈t.aW,c.aB.speed.lo<=s/\s<=c.aB.speed.hi
theorem Gj{c:bG}{t:bm}(h:oa c t=0):ld c t:=by
 unfold oa at h;split at h;case isFalse=>cases h
 rename_i h1;split at h;case isFalse=>cases h
 rename_i h2;simp only[Bool.and_eq_true,cj,List.all_eq_true]at h2;exact⟨h2.1,h1,fun s hs=>(h2.2 s hs)⟩
set_option maxHeartbeats 1000000 in
theorem XK(c:bG)(t:bm)(hR:jH c.aB)(hw:c.az.length<=2)(hT:ld c t):bq Tryz.prog 134 [c.d,t.d] (dj (bX c.aB c.az t)):=by
 refine aY Tryz.func134 rfl (ft:=Vl) 2 fun {σ} Y st=>?_;conv=>whnf
 have hd:=hR.bT;have hn:=hR.night;have ja:=hR.start;have abb:=hR.speed;refine af (PQ c.aB hR) rfl rfl ?_;conv=>whnf
 refine cD (T:=tys) av (by exact aj mixed av (by decide +kernel)) (α:=Nat×(Int×(Int×(Nat×List Bool))))
  (fun x=>⟨[(2,.ptr 2 0),(3,.ptr 3 0),(4,.sl 48 1 0 x.2.2.2.2.length),(5,.d (.ref (iX c.aB))),(6,.d (i64 x.2.1)),(7,.d (i64 x.2.2.1)),(8,.d (i64 x.2.2.2.1)),(19,.d (i64 c.aB.night)),(20,.d (i64 x.1))],[(2,.box (.dd c.cells)),(3,.box (.dd t.cells)),(48,.arr 1 (.dd (x.2.2.2.2.map fun b=>[D.bool b])))],st⟩)
  (fun x=>(x.1:Int)<=c.aB.night/\(0<=x.2.1/\x.2.1<c.aB.bT)/\(0<=x.2.2.1/\x.2.2.1<=x.1)/\x.2.2.2.1<=c.az.length/\x.2.2.2.2.length=x.1/\bX c.aB c.az t=x.2.2.2.2++dq c.aB c.az t.aW (c.aB.night.toNat-x.1) x.1 x.2.1 x.2.2.1 x.2.2.2.1)
  (fun x=>c.aB.night.toNat-x.1) (0,(t.start,(0,(0,[])))) ?wk ?pr ?_
 case wk=>exact((Wk.born 4 48 1 rfl rfl rfl).trans aw)
 case pr=>
  have hts:=hT.start;refine⟨by simp only;omega,by simp only;omega,by simp only;omega,Nat.zero_le _,rfl,?_⟩;simp only[bX,List.nil_append,Nat.sub_zero];rfl
 rintro ⟨s,a,b,n,acc⟩ ⟨h1,h2,h3,h4,h5,h6⟩;simp only at h1 h2 h3 h4 h5 h6;have Xa:=hT.len;have Hg:∀ m:Nat,m<=c.az.length->1<=t.aW.getD m 0/\t.aW.getD m 0<=40:=by
  intro m hm;have s8:m<t.aW.length:=by omega
  have e:t.aW.getD m 0=t.aW[m]:=by simp[List.getD_eq_getElem?_getD,s8]
  have:=hT.speed _ (List.getElem_mem s8);rw[e];omega
 have Hf:∀ m:Nat,m<=c.az.length->(t.aW.map fun n=>[i64 n])[m]?=some [i64 (t.aW.getD m 0)]:=by
  intro m hm;have s8:m<t.aW.length:=by omega
  simp[List.getD_eq_getElem?_getD,s8]
 conv=>whnf
 refine ag (fun h7=>?_) (fun h7=>?_);case refine_2=>
  have h7:¬ (s:Int)<c.aB.night:=by have:=of_decide_eq_false h7;simpa using this
  rw[show c.aB.night.toNat-s=0 by omega,dq,List.append_nil]at h6;conv=>whnf
  rw[h6];exact Im rfl (by simp) ⟨⟨rfl,rfl⟩,rfl⟩
 have h7:(s:Int)<c.aB.night:=by have:=of_decide_eq_true h7;simpa using this
 obtain⟨k,hk⟩:∃ k,c.aB.night.toNat-s=k+1:=⟨c.aB.night.toNat-s-1,by omega⟩;have j8:c.aB.night.toNat-(s+1)=k:=by omega
 rw[hk,dq]at h6;have qc:((s:Int)+1)=((s+1:Nat):Int):=by omega
 conv=>whnf
 refine ag (fun h8=>?_) (fun h8=>?_)
 ·have h8:n<c.az.length:=by have:=of_decide_eq_true h8;simp at this;omega
  conv=>whnf
  refine aU [i64 c.az[n]] ⟨by omega,by simp[h8]⟩ ?_;conv=>whnf
  refine ag (fun h9=>?_) (fun h9=>?_)
  ·have h9:c.az[n]=s:=by simpa using h9
   rw[if_pos (by simp[h8,h9])]at h6;conv=>whnf
   refine ao (((n+1:Nat):Int)) (by(try dsimp only);omega) (wrap_i64 (by(try dsimp only);omega)) ?_;conv=>whnf
   refine aM (by simp;omega) ?_;conv=>whnf
   refine mS c.aB (a:=a) (by omega) rfl ?_;conv=>whnf
   refine ak rfl ?_;conv=>whnf
   refine ak (by simp[bx.len]) ?_;conv=>whnf
   refine aM (decide_eq_true (by
    show((acc.map fun b=>[D.bool b]).length+1)*1<=140737488355328;rw[List.length_map];omega)) ?_
   conv=>whnf
   refine aU [i64 (t.aW.getD (n+1) 0)] ⟨by omega,Hf (n+1) (by omega)⟩ ?_;conv=>whnf
   refine ao (0) (by first|omega|(dsimp only;done)|(dsimp only;omega)) (wrap_i64 (by(try dsimp only);omega)) ?_;conv=>whnf
   refine af (Fk c.aB hR a (t.aW.getD (n+1) 0) (0) h2 (by have:=Hg (n+1) (by omega);omega) (by omega)) rfl rfl ?_;conv=>whnf
   refine ao ((s+1:Nat):Int) (by omega) (wrap_i64 (by omega)) ?_;conv=>whnf
   refine⟨(s+1,(fc c.aB a (t.aW.getD (n+1) 0) (0),((s:Int),(n+1,acc ++ [eP c.aB a])))),by simp only;omega,⟨by simp only;omega,kM hR _ _ _,by simp only;omega,by simp only;omega,by simp[h5],?_⟩,Wk.sub ⟨rfl,rfl,?_,rfl,rfl,rfl,rfl,rfl,rfl,trivial⟩ ⟨rfl,rfl,?_,trivial⟩⟩
   ·simp only[j8]
    rw[h6,List.append_assoc];rfl
   ·simp[PX.get,bx.len]
   ·simp[PX.get,bx.app]
  ·have h9:¬ c.az[n]=s:=by simpa using h9
   rw[if_neg (by simp[h8,h9])]at h6;conv=>whnf
   refine aM (by simp;omega) ?_;conv=>whnf
   refine mS c.aB (a:=a) (by omega) rfl ?_;conv=>whnf
   refine ak rfl ?_;conv=>whnf
   refine ak (by simp[bx.len]) ?_;conv=>whnf
   refine aM (decide_eq_true (by
    show((acc.map fun b=>[D.bool b]).length+1)*1<=140737488355328;rw[List.length_map];omega)) ?_
   conv=>whnf
   refine aU [i64 (t.aW.getD (n) 0)] ⟨by omega,Hf (n) (by omega)⟩ ?_;conv=>whnf
   refine ao (s-b) (by first|omega|(dsimp only;done)|(dsimp only;omega)) (wrap_i64 (by(try dsimp only);omega)) ?_;conv=>whnf
   refine af (Fk c.aB hR a (t.aW.getD (n) 0) (s-b) h2 (by have:=Hg (n) (by omega);omega) (by omega)) rfl rfl ?_;conv=>whnf
   refine ao ((s+1:Nat):Int) (by omega) (wrap_i64 (by omega)) ?_;conv=>whnf
   refine⟨(s+1,(fc c.aB a (t.aW.getD (n) 0) (s-b),(b,(n,acc ++ [eP c.aB a])))),by simp only;omega,⟨by simp only;omega,kM hR _ _ _,by simp only;omega,by simp only;omega,by simp[h5],?_⟩,Wk.sub ⟨rfl,rfl,?_,rfl,rfl,rfl,rfl,rfl,rfl,trivial⟩ ⟨rfl,rfl,?_,trivial⟩⟩
   ·simp only[j8]
    rw[h6,List.append_assoc];rfl
   ·simp[PX.get,bx.len]
   ·simp[PX.get,bx.app]
 ·have h8:¬ n<c.az.length:=by have:=of_decide_eq_false h8;simp at this;omega
  rw[if_neg (by rw[List.getElem?_eq_none (by omega)];simp)]at h6;conv=>whnf
  refine aM (by simp;omega) ?_;conv=>whnf
  refine mS c.aB (a:=a) (by omega) rfl ?_;conv=>whnf
  refine ak rfl ?_;conv=>whnf
  refine ak (by simp[bx.len]) ?_;conv=>whnf
  refine aM (decide_eq_true (by
   show((acc.map fun b=>[D.bool b]).length+1)*1<=140737488355328;rw[List.length_map];omega)) ?_
  conv=>whnf
  refine aU [i64 (t.aW.getD (n) 0)] ⟨by omega,Hf (n) (by omega)⟩ ?_;conv=>whnf
  refine ao (s-b) (by first|omega|(dsimp only;done)|(dsimp only;omega)) (wrap_i64 (by(try dsimp only);omega)) ?_;conv=>whnf
  refine af (Fk c.aB hR a (t.aW.getD (n) 0) (s-b) h2 (by have:=Hg (n) (by omega);omega) (by omega)) rfl rfl ?_;conv=>whnf
  refine ao ((s+1:Nat):Int) (by omega) (wrap_i64 (by omega)) ?_;conv=>whnf
  refine⟨(s+1,(fc c.aB a (t.aW.getD (n) 0) (s-b),(b,(n,acc ++ [eP c.aB a])))),by simp only;omega,⟨by simp only;omega,kM hR _ _ _,by simp only;omega,by simp only;omega,by simp[h5],?_⟩,Wk.sub ⟨rfl,rfl,?_,rfl,rfl,rfl,rfl,rfl,rfl,trivial⟩ ⟨rfl,rfl,?_,trivial⟩⟩
  ·simp only[j8]
   rw[h6,List.append_assoc];rfl
  ·simp[PX.get,bx.len]
  ·simp[PX.get,bx.app]
def kG(s:Span)(lo hi wide:Int):Int:=if spread lo hi [s] 0=0 then (if s.hi-s.lo>wide then 2 else 0) else spread lo hi [s] 0
theorem DG{s:Span}{lo hi:Int}:spread lo hi [s] 0=if cF s.lo lo hi&&cF s.hi lo hi then (if s.lo>s.hi then 2 else 0) else 7:=rfl
theorem Rw(s:Span)(lo hi wide:Int)(h : -1000000<=lo/\hi<=1000000):bq Tryz.prog 132 [s.d,i64 lo,i64 hi,i64 wide] (i64 (kG s lo hi wide)):=by
 refine aY Tryz.func132 rfl (ft:=Vj) 4 fun {σ} Y st=>?_;conv=>whnf
 refine af (U5 s lo hi) rfl rfl ?_;conv=>whnf
 unfold kG;refine ag (fun h0=>?_) (fun h0=>?_)
 ·have h0:spread lo hi [s] 0=0:=by simpa using h0
  rw[if_pos h0];have hb:cF s.lo lo hi=true/\cF s.hi lo hi=true:=by
   rw[DG]at h0;split at h0
   ·rename_i h1;simpa using h1
   ·cases h0
  rw[cj,cj]at hb;refine ao (s.hi-s.lo) (by simp) (wrap_i64 (by omega)) ?_;conv=>whnf
  refine ag (fun h1=>?_) (fun h1=>?_)
  ·have h1:s.hi-s.lo>wide:=by simpa using h1
   rw[if_pos h1];conv=>whnf
   exact ai
  ·have h1:¬ s.hi-s.lo>wide:=by simpa using h1
   rw[if_neg h1];conv=>whnf
   rw[h0];exact ai
 ·have h0:¬ spread lo hi [s] 0=0:=by simpa using h0
  rw[if_neg h0];conv=>whnf
  exact ai
theorem BZ(s:Span)(lo hi wide:Int):kG s lo hi wide=if cF s.lo lo hi&&cF s.hi lo hi then (if cF (s.hi-s.lo) 0 wide then 0 else 2) else 7:=by
 unfold kG;rw[DG];by_cases h1:(cF s.lo lo hi&&cF s.hi lo hi)=true
 ·rw[if_pos h1,if_pos h1]
  by_cases h2:s.lo>s.hi
  ·have:¬ cF (s.hi-s.lo) 0 wide=true:=by rw[cj];omega
   rw[if_pos h2,if_neg this];rfl
  ·rw[if_neg h2,if_pos rfl]
   by_cases h3:s.hi-s.lo>wide
   ·have:¬ cF (s.hi-s.lo) 0 wide=true:=by rw[cj];omega
    rw[if_pos h3,if_neg this]
   ·have:cF (s.hi-s.lo) 0 wide=true:=by rw[cj];omega
    rw[if_neg h3,if_pos this]
 ·rw[if_neg h1,if_neg h1];rfl
def oK(bT last:Int)(x:Span):Int:=if cF x.lo 0 (bT-1)&&cF x.hi 0 (bT-1) then (if x.lo>x.hi||x.lo<=last then 2 else 0) else 7
theorem Kq{bT last:Int}{x:Span}{r:List Span}{i:Int}:pA bT last (x::r) i=if oK bT last x=0 then pA bT x.hi r (i+1) else (i,oK bT last x):=by
 rw[pA,oK];split
 ·split<;>simp
 ·simp
theorem abp(x:bL):bq Tryz.prog 71 [x.d] (Zd (iB x)):=by
 refine aY Tryz.func71 rfl (ft:=Z5) 1 fun {σ} Y st=>?_;conv=>whnf
 refine af (BD x.bT 2 120) rfl rfl ?_;conv=>whnf
 unfold iB
 cases h1:cF x.bT 2 120 with
 | false=>
  conv=>whnf
  exact ai
 | true=>
 conv=>whnf
 refine af (BD x.gG 1 200) rfl rfl ?_;conv=>whnf
 cases h2:cF x.gG 1 200 with
 | false=>
  conv=>whnf
  exact ai
 | true=>
 conv=>whnf
 refine af (BD x.night 1 200) rfl rfl ?_;conv=>whnf
 cases h3:cF x.night 1 200 with
 | false=>
  conv=>whnf
  exact ai
 | true=>
 simp only[Bool.and_self,if_true];rw[cj]at h1 h2 h3;conv=>whnf
 refine ag (fun h4=>?_) (fun h4=>?_)
 ·have h4:4<x.lit.length:=by have:=of_decide_eq_true h4;simp at this;omega
  rw[if_pos h4];conv=>whnf
  exact ai
 have h4:¬ 4<x.lit.length:=by have:=of_decide_eq_false h4;simp at this;omega
 rw[if_neg h4];conv=>whnf
 refine bB (T:=tys) av (by exact aj mixed av (by decide +kernel)) x.lit (fun i (last:Int)=>⟨[(1,.ptr 1 0),(5,.d (i64 i))],[(1,.box (.dd x.cells))],st⟩)
  (fun i r last=>pA x.bT (-1) x.lit 0=pA x.bT last r i/\(i=0/\last = -1\/0<i /\ ∃ y,x.lit[i-1]?=some y/\last=y.hi)) (-1) aw ⟨rfl,.inl ⟨rfl,rfl⟩⟩ ?_ ?_
 ·intro i y r last hx hi hr ⟨he,Gv⟩
  rw[Kq]at he;have sA:(i+1=0/\y.hi = -1\/0<i+1 /\ ∃ z,x.lit[i+1-1]?=some z/\y.hi=z.hi):=.inr ⟨by omega,y,by rw[Nat.add_sub_cancel];exact hx,rfl⟩;conv=>whnf
  refine ag (fun _=>?_) (fun h=>absurd hi (by simpa using h));conv=>whnf
  refine aG hx ?_;conv=>whnf
  refine ae ?_;conv=>whnf
  refine ax (U5 y 0 (x.bT-1)) rfl rfl ?_;conv=>whnf
  rw[DG];by_cases h5:(cF y.lo 0 (x.bT-1)&&cF y.hi 0 (x.bT-1))=true;case neg=>
   have ho:oK x.bT last y=7:=by unfold oK;rw[if_neg h5]
   rw[ho,if_neg (by decide)]at he;rw[if_neg h5];conv=>whnf
   rw[he];exact ai
  rw[if_pos h5];by_cases h6:y.lo>y.hi
  ·have ho:oK x.bT last y=2:=by unfold oK;rw[if_pos h5,if_pos (by simp[h6])]
   rw[ho,if_neg (by decide)]at he;rw[if_pos h6];conv=>whnf
   rw[he];exact ai
  rw[if_neg h6];conv=>whnf
  refine ag (fun h7=>?_) (fun h7=>?_)
  ·have h7:0<i:=by simpa using h7
   rcases Gv with⟨h0,_⟩|⟨_,z,hz,UC⟩
   ·omega
   subst UC;conv=>whnf
   refine aG hx ?_;conv=>whnf
   refine ao ((i-1:Nat):Int) (by omega) (wrap_i64 (by omega)) ?_;conv=>whnf
   refine aG hz ?_;conv=>whnf
   refine ag (fun h8=>?_) (fun h8=>?_)
   ·have h8:y.lo<=z.hi:=by simpa using h8
    have ho:oK x.bT z.hi y=2:=by unfold oK;rw[if_pos h5,if_pos (by simp[h8])]
    rw[ho,if_neg (by decide)]at he;conv=>whnf
    rw[he];exact ai
   ·have h8:¬ y.lo<=z.hi:=by simpa using h8
    have ho:oK x.bT z.hi y=0:=by unfold oK;rw[if_pos h5,if_neg (by simp[h8,h6])]
    rw[ho,if_pos rfl]at he;conv=>whnf
    refine ae ?_;conv=>whnf
    exact⟨y.hi,⟨he,sA⟩,aw⟩
  ·have h7:i=0:=by have:=of_decide_eq_false h7;omega
   rcases Gv with⟨_,hl⟩|⟨h0,_⟩
   ·have h5':=h5
    simp only[Bool.and_eq_true,cj]at h5';have ho:oK x.bT last y=0:=by unfold oK;rw[if_pos h5,if_neg (by simp[h6];omega)]
    rw[ho,if_pos rfl]at he;conv=>whnf
    refine ae ?_;conv=>whnf
    exact⟨y.hi,⟨he,sA⟩,aw⟩
   ·omega
 ·intro last ⟨he,_⟩
  rw[pA]at he;rw[he];simp only[if_true];conv=>whnf
  refine ag (fun h=>absurd h (by simp)) (fun _=>?_);conv=>whnf
  refine ae ?_;conv=>whnf
  refine ax (Rw x.start 0 (x.bT-1) 12 (by omega)) rfl rfl ?_;conv=>whnf
  refine ax (Rw x.speed 1 40 4 (by omega)) rfl rfl ?_;conv=>whnf
  have ht:(if (cF x.start.lo 0 (x.bT-1)&&cF x.start.hi 0 (x.bT-1))&&(cF x.speed.lo 1 40&&cF x.speed.hi 1 40) then
    (if cF (x.start.hi-x.start.lo) 0 12&&cF (x.speed.hi-x.speed.lo) 0 4 then ((0,0,0):Int×Int×Int) else (3,0,2)) else (3,0,7)) =
    if kG x.start 0 (x.bT-1) 12=7\/kG x.speed 1 40 4=7 then (3,0,7) else if kG x.start 0 (x.bT-1) 12≠0\/kG x.speed 1 40 4≠0 then (3,0,2) else (0,0,0):=by
   rw[BZ,BZ];by_cases q1:(cF x.start.lo 0 (x.bT-1)&&cF x.start.hi 0 (x.bT-1))=true<;>by_cases q2:(cF x.speed.lo 1 40&&cF x.speed.hi 1 40)=true<;>
    by_cases q3:cF (x.start.hi-x.start.lo) 0 12=true<;>by_cases q4:cF (x.speed.hi-x.speed.lo) 0 4=true<;>simp[q1,q2,q3,q4]
  rw[ht];generalize kG x.start 0 (x.bT-1) 12=A;generalize kG x.speed 1 40 4=B;by_cases YJ:A=7
  ·rw[if_pos (.inl YJ)]
   rw[decide_eq_true YJ];conv=>whnf
   exact ai
  rw[decide_eq_false YJ];conv=>whnf
  by_cases YM:B=7
  ·rw[if_pos (.inr YM)]
   rw[decide_eq_true YM];conv=>whnf
   exact ai
  rw[decide_eq_false YM,if_neg (fun h=>h.elim YJ YM)];conv=>whnf
  by_cases Su:A=0;case neg=>
   rw[if_pos (.inl Su),decide_eq_false Su];conv=>whnf
   exact ai
  rw[decide_eq_true Su];conv=>whnf
  by_cases Sw:B=0;case neg=>
   rw[if_pos (.inr Sw),decide_eq_false Sw];conv=>whnf
   exact ai
  rw[decide_eq_true Sw,if_neg (fun h=>h.elim (fun h=>h Su) (fun h=>h Sw))];conv=>whnf
  exact ai
set_option maxHeartbeats 1000000 in
theorem abf(c:bG):bq Tryz.prog 15 [c.d] (Zd (bN c)):=by
 refine aY Tryz.func15 rfl (ft:=Zy) 1 fun {σ} Y st=>?_;conv=>whnf
 refine af (abp c.aB) rfl rfl ?_;conv=>whnf
 unfold bN;refine ag (fun h1=>?_) (fun h1=>?_)
 ·have h1:¬ (iB c.aB).2.2=0:=by simpa using h1
  conv=>whnf
  rw[if_neg h1];exact ai
 have h1:(iB c.aB).2.2=0:=by simpa using h1
 rw[if_pos h1];have hR:=AF h1;have hn:=hR.night;conv=>whnf
 refine ae ?_;conv=>whnf
 refine ag (fun h2=>?_) (fun h2=>?_)
 ·have h2:2<c.az.length:=by have:=of_decide_eq_true h2;simp at this;omega
  conv=>whnf
  rw[if_pos h2];exact ai
 have h2:¬ 2<c.az.length:=by have:=of_decide_eq_false h2;simp at this;omega
 rw[if_neg h2];conv=>whnf
 refine bB (T:=tys) av (by exact aj mixed av (by decide +kernel)) c.az (fun i (last:Int)=>⟨[(1,.ptr 1 0),(8,.d (i64 (c.aB.night-1))),(9,.d (i64 i))],[(1,.box (.dd c.cells))],st⟩)
  (fun i r last=>ka c.aB.night 0 c.az 0=ka c.aB.night last r i/\(i=0/\last=0\/0<i/\c.az[i-1]?=some last)) 0 aw ⟨rfl,.inl ⟨rfl,rfl⟩⟩ ?_ ?_
 ·intro i s r last hx hi hr ⟨he,Gv⟩
  rw[ka]at he;have sA:(i+1=0/\s=0\/0<i+1/\c.az[i+1-1]?=some s):=.inr ⟨by omega,by rw[Nat.add_sub_cancel];exact hx⟩;conv=>whnf
  refine ag (fun _=>?_) (fun h=>absurd hi (by simpa using h));conv=>whnf
  refine aG hx ?_;conv=>whnf
  refine af (BD s 1 (c.aB.night-1)) rfl rfl ?_;conv=>whnf
  by_cases h3:cF s 1 (c.aB.night-1)=true;case neg=>
   have h3:cF s 1 (c.aB.night-1)=false:=by simpa using h3
   rw[h3]at he ⊢;rw[if_neg (by simp)]at he;conv=>whnf
   rw[he];exact ai
  have YH:=h3;rw[cj]at YH;rw[h3]at he ⊢;rw[if_pos rfl]at he;conv=>whnf
  refine ag (fun h7=>?_) (fun h7=>?_)
  ·have h7:0<i:=by simpa using h7
   rcases Gv with⟨h0,_⟩|⟨_,hz⟩
   ·omega
   conv=>whnf
   refine aG hx ?_;conv=>whnf
   refine ao ((i-1:Nat):Int) (by omega) (wrap_i64 (by omega)) ?_;conv=>whnf
   refine aG hz ?_;conv=>whnf
   refine ag (fun h8=>?_) (fun h8=>?_)
   ·have h8:s<=last:=by simpa using h8
    rw[if_pos h8]at he;conv=>whnf
    rw[he];exact ai
   ·have h8:¬ s<=last:=by simpa using h8
    rw[if_neg h8]at he;conv=>whnf
    refine ae ?_;conv=>whnf
    exact⟨s,⟨he,sA⟩,aw⟩
  ·have h7:i=0:=by have:=of_decide_eq_false h7;omega
   rcases Gv with⟨_,hl⟩|⟨h0,_⟩
   ·rw[if_neg (by omega)]at he
    conv=>whnf
    refine ae ?_;conv=>whnf
    exact⟨s,⟨he,sA⟩,aw⟩
   ·omega
 ·intro last ⟨he,_⟩
  simp only[ka]at he;rw[he];simp only[if_true];conv=>whnf
  refine ag (fun h=>absurd h (by simp)) (fun _=>?_);conv=>whnf
  refine ag (fun h5=>?_) (fun h5=>?_)
  ·have h5:8<c.bW.length:=by have:=of_decide_eq_true h5;simp at this;omega
   conv=>whnf
   rw[if_pos h5];exact ai
  have h5:¬ 8<c.bW.length:=by have:=of_decide_eq_false h5;simp at this;omega
  rw[if_neg h5];conv=>whnf
  refine bB (T:=tys) av (by exact aj mixed av (by decide +kernel)) c.bW (fun i (_:Unit)=>⟨[(1,.ptr 1 0),(8,.d (i64 (c.aB.night-1))),(10,.d (i64 i))],[(1,.box (.dd c.cells))],st⟩)
   (fun i r _=>gP c.aB.night c.bW 0=gP c.aB.night r i) () aw rfl ?_ ?_
  ·intro i s r _ hx hi hr he
   rw[gP]at he;conv=>whnf
   refine ag (fun _=>?_) (fun h=>absurd hi (by simpa using h));conv=>whnf
   refine aG hx ?_;conv=>whnf
   refine af (BD s.second 0 (c.aB.night-1)) rfl rfl ?_;conv=>whnf
   by_cases h3:cF s.second 0 (c.aB.night-1)=true;case neg=>
    have h3:cF s.second 0 (c.aB.night-1)=false:=by simpa using h3
    rw[h3]at he ⊢;rw[if_neg (by simp)]at he;conv=>whnf
    rw[he];exact ai
   rw[h3]at he ⊢;rw[if_pos rfl]at he;conv=>whnf
   refine ae ?_;conv=>whnf
   exact⟨(),he,aw⟩
  ·intro _ he
   simp only[gP]at he;rw[he];simp only[if_true];conv=>whnf
   refine ag (fun h=>absurd h (by simp)) (fun _=>?_);conv=>whnf
   exact ai
theorem dC{σ:Type}{l:List V}{h:Heap}{s:σ}{Q:V->Heap->σ->Prop}(n:Nat){ds:List D}(hv:cS (fp h n) l=some ds){d:D}(hd:df (j9 ds)=d)(hq:Q (.d d) [] s):p9 l h s Q:=by
 subst hd;refine⟨fun cx L F aT w hh hr=>?_⟩;have tr:=gK hh;exact⟨_,[],L,fO L F h w,hq,vy hh,bR.df _ _ (Dy (jY tr (pD hh n) l aT ds hv hr)),tr,fun _ _=>⟨rfl,rfl⟩⟩
def Ap(acc:List Span)(s:Int):List Span:=acc.modify (acc.length-1) fun x=>⟨x.lo,s⟩
def As:List Bool->Int->Bool->List Span->List Span
 | [],_,_,acc=>acc
 | b::r,s,before,acc=>As r (s+1) b (if b then (if before then Ap acc s else acc ++ [⟨s,s⟩]) else acc)
def Ar(c:bG)(t:bm):Int:=if (bN c).2.2=0 then oa c t else (bN c).2.2
def xr(c:bG)(t:bm):List Span:=if Ar c t=0 then As (bX c.aB c.az t) 0 false [] else []
structure nu(c:bG):Prop where
 aB:jH c.aB
 p8:c.az.length<=2
 Yz:∀ s∈c.az,1<=s/\s<=c.aB.night-1
 bW:c.bW.length<=8
 N8:∀ s∈c.bW,0<=s.second/\s.second<=c.aB.night-1
 far:c.aB.start.hi<=c.aB.start.lo+12
theorem Gn{night:Int}:∀ {l:List Int} {last i:Int},(ka night last l i).2=0 -> ∀ s∈l,1<=s/\s<=night-1
 | [],_,_,_,s,hs=>by cases hs
 | x::r,last,i,h,s,hs=>by
  rw[ka]at h;split at h
  ·rename_i h1
   rw[cj]at h1;split at h
   ·cases h
   ·rcases List.mem_cons.1 hs with rfl|hs
    ·exact h1
    ·exact Gn h s hs
  ·cases h
theorem Ch{night:Int}:∀ {l:List dW} {i:Int},(gP night l i).2=0 -> ∀ s∈l,0<=s.second/\s.second<=night-1
 | [],_,_,s,hs=>by cases hs
 | x::r,i,h,s,hs=>by
  rw[gP]at h;split at h
  ·rename_i h1
   rw[cj]at h1;rcases List.mem_cons.1 hs with rfl|hs
   ·exact h1
   ·exact Ch h s hs
  ·cases h
theorem ed{c:bG}(h:(bN c).2.2=0):nu c:=by
 unfold bN at h;split at h;case isFalse=>rename_i h1;exact absurd h h1
 rename_i h1;split at h
 ·cases h
 rename_i h2;split at h;case isFalse=>rename_i h3;exact absurd h h3
 rename_i h3;split at h
 ·cases h
 rename_i h4;split at h;case isFalse=>rename_i h5;exact absurd h h5
 rename_i h5;exact⟨AF h1,by omega,Gn h3,by omega,Ch h5,La h1⟩
theorem wh(acc:List Span)(s:Int):(Ap acc s).length=acc.length:=by simp[Ap]
theorem F9{acc:List Span}(h:acc ≠ [])(s:Int):∃ x,acc[acc.length-1]?=some x/\(Ap acc s).map Span.cells=(acc.map Span.cells).set (acc.length-1) [i64 x.lo,i64 s]:=by
 have hl:acc.length-1<acc.length:=by have:=List.length_pos_iff.2 h;omega
 refine⟨acc[acc.length-1],List.getElem?_eq_getElem hl,?_⟩;apply List.ext_getElem?;intro i;rw[Ap,List.getElem?_set,List.getElem?_map,List.getElem?_modify];by_cases hi:acc.length-1=i
 ·subst hi
  simp[hl,Span.cells]
 ·simp[hi]
set_option maxHeartbeats 1000000 in
theorem abg(c:bG)(t:bm):bq Tryz.prog 75 [c.d,t.d] (.tup [dH (xr c t),i64 (Ar c t)]):=by
 refine aY Tryz.func75 rfl (ft:=Z8) 2 fun {σ} Y st=>?_;conv=>whnf
 refine af (Ni c) rfl rfl ?_;conv=>whnf
 by_cases h0:(bN c).2.2=0;case neg=>
  have he:Ar c t=(bN c).2.2:=by unfold Ar;rw[if_neg h0]
  have hl:xr c t = []:=by unfold xr;rw[he,if_neg h0]
  rw[he,hl];refine ag (fun h1=>absurd h1 (by simp[h0])) (fun _=>?_);conv=>whnf
  refine ag (fun _=>?_) (fun h1=>absurd h1 (by simp[h0]));conv=>whnf
  exact dC 0 rfl rfl ⟨⟨rfl,rfl⟩,rfl⟩
 have he:Ar c t=oa c t:=by unfold Ar;rw[if_pos h0]
 have hR:=ed h0;refine ag (fun _=>?_) (fun h1=>absurd h1 (by simp[h0]));conv=>whnf
 refine af (XJ c t (by have:=hR.p8;omega)) rfl rfl ?_;conv=>whnf
 rw[he];by_cases h1:oa c t=0;case neg=>
  have hl:xr c t = []:=by unfold xr;rw[he,if_neg h1]
  rw[hl];refine ag (fun _=>?_) (fun h2=>absurd h2 (by simp[h1]));conv=>whnf
  exact dC 0 rfl rfl ⟨⟨rfl,rfl⟩,rfl⟩
 have hT:=Gj h1;have hl:xr c t=As (bX c.aB c.az t) 0 false []:=by unfold xr;rw[he,if_pos h1]
 rw[hl];refine ag (fun h2=>absurd h2 (by simp[h1])) (fun _=>?_);conv=>whnf
 refine af (XK c t hR.aB hR.p8 hT) rfl rfl ?_;conv=>whnf
 have hlen:(bX c.aB c.az t).length<=200:=by
  unfold bX;rw[jr];have:=hR.aB.night;omega
 generalize bX c.aB c.az t=L at hlen;refine bB (T:=tys) av (by exact aj mixed av (by decide +kernel)) L (fun i (p:Bool×List Span)=>⟨[(4,.sl 51 2 0 p.2.length),(6,.d (.bool p.1)),(25,.d (dj L)),(26,.d (i64 L.length)),(27,.d (i64 i))],[(51,.arr 2 (.dd (p.2.map Span.cells)))],st⟩)
  (fun i r p=>As L 0 false []=As r i p.1 p.2/\p.2.length<=i/\(p.1=true->p.2 ≠ [])) (false,[]) ((Wk.born 4 51 2 rfl rfl rfl).trans aw) ⟨rfl,by simp,by simp⟩ ?_ ?_
 ·rintro i x r ⟨before,acc⟩ hx hi hr ⟨h3,h4,h5⟩
  simp only at h3 h4 h5;rw[As]at h3;conv=>whnf
  refine ag (fun _=>?_) (fun h=>absurd hi (by simpa using h));conv=>whnf
  refine aG hx ?_;conv=>whnf
  cases x with
  | false=>
   conv=>whnf
   refine ae ?_;conv=>whnf
   exact⟨(false,acc),⟨by simpa using h3,by simp only;omega,by simp⟩,aw⟩
  | true=>
   conv=>whnf
   cases before with
   | true=>
    have er:=h5 rfl;obtain⟨y,hy,jP⟩:=F9 er i;have vI:=List.length_pos_iff.2 er;conv=>whnf
    refine ao (((acc.length-1:Nat):Int)) (by(try dsimp only);omega) (wrap_i64 (by(try dsimp only);omega)) ?_;conv=>whnf
    refine aM (by simp;omega) ?_;conv=>whnf
    refine cJ y.cells (by simp[hy]) ?_;conv=>whnf
    refine ae ?_;conv=>whnf
    refine⟨(true,Ap acc i),⟨by simpa using h3,by simp only[wh];omega,fun _ h=>er (List.length_eq_zero_iff.1 (by rw[<- wh acc i];exact List.length_eq_zero_iff.2 h))⟩,Wk.sub ⟨?_,rfl,rfl,rfl,rfl,trivial⟩ ⟨?_,trivial⟩⟩
    ·simp[PX.get,wh]
    ·show some (Obj.arr 2 (bx.dd ((acc.map Span.cells).set (0+((acc.length-1:Nat):Int).toNat) [i64 y.lo,i64 i])))=some (Obj.arr 2 (bx.dd ((Ap acc i).map Span.cells)))
     rw[jP];simp
   | false=>
    conv=>whnf
    refine ak rfl ?_;conv=>whnf
    refine ak (by simp[bx.len]) ?_;conv=>whnf
    refine aM (decide_eq_true (by
     show((acc.map Span.cells).length+1)*16<=140737488355328;rw[List.length_map];omega)) ?_
    conv=>whnf
    refine ae ?_;conv=>whnf
    refine⟨(true,acc ++ [⟨i,i⟩]),⟨by simpa using h3,by simp;omega,by simp⟩,Wk.sub ⟨?_,rfl,rfl,rfl,rfl,trivial⟩ ⟨?_,trivial⟩⟩
    ·simp[PX.get,bx.len]
    ·simp[PX.get,bx.app,Span.cells]
 ·rintro ⟨before,acc⟩ ⟨h3,_,_⟩
  simp only[As]at h3;conv=>whnf
  refine ag (fun h=>absurd h (by simp)) (fun _=>?_);conv=>whnf
  rw[h3];exact aO 1 (ds:=[dH acc,i64 0]) (aC (cH rfl (by simp)) rfl) ⟨⟨by rw[h1];rfl,rfl⟩,rfl⟩
section
variable {P : Program} {σ : Type} {Y : Hd σ}
theorem Ef(n:Nat)(ids:List Nat){e:Env}{h h':Heap}{s:σ}{d:Option Nat}{args:List V}{ds:List D}{K:St σ->Prop}(hv:cS (fp (bh ids h) n) args=some ds)(hh:lL h (dY (bh ids h))=h')
  (hk:GD P Y ⟨e,h',s⟩ d (inj ds) K):GD P Y ⟨e,h,s⟩ d args K:=by
 obtain⟨hk⟩:=hk;subst hh;refine⟨fun cx hY l hl r m L F a w aT hg hd hr=>?_⟩;obtain⟨F1,dX,qd,Pv⟩:=hg.CX (h:=bh ids h) (fun i o hi=>eC ids h i o hi) n;rw[gv]at dX;obtain⟨fn,tmps,xR,body,h1,h2⟩:=hk cx hY l hl r m L F1 a w aT dX hd (aq.inj.2 (Pv _ _ _ hv hr));refine⟨fn,tmps,xR,body,h1,h2.mono ?_⟩;rintro en w' ⟨x,rfl,st',L',F',k1,k2,k3⟩;exact⟨x,rfl,st',L',F',k1,k2,Tr.trans qd k3⟩
theorem GA(n:Nat)(ids:List Nat){e:Env}{h h':Heap}{s:σ}{d:Option Nat}{f:FuncId}{args args':List V}{K:St σ->Prop}(hv:jB (fp (bh ids h) n) args=args')(hh:lL h (dY (bh ids h))=h')
  (hk:eg P Y ⟨e,h',s⟩ d f args' K):eg P Y ⟨e,h,s⟩ d f args K:=by
 obtain⟨he,hk⟩:=hk;subst hh hv;refine⟨he,fun cx hY r m L F a w aT hg hd hr=>?_⟩;obtain⟨F1,dX,qd,Pv⟩:=hg.EH (h:=bh ids h) (fun i o hi=>eC ids h i o hi) n;rw[gv]at dX;refine(hk cx hY r m L F1 a w aT dX hd (Pv _ _ hr)).mono ?_;rintro en w' (⟨x,rfl,st',L',F',k1,k2,k3⟩|⟨pv,pe,ph,ps,L',F',he,hy,Pa,QB⟩)
 ·exact .inl ⟨x,rfl,st',L',F',k1,k2,Tr.trans qd k3⟩
 ·exact .inr ⟨pv,pe,ph,ps,L',F',he,hy,Pa,Tr.trans qd QB⟩
end
theorem qV{α:Type}(f:α->D)(hf:∀ x,(f x).scalar=true):∀ l:List α,jb 1 (l.map fun x=>[f x])=true
 | []=>rfl
 | x::r=>by
  have h:gr [f x]=true:=by simp[gr,hf x]
  simp only[List.map_cons,jb,h];exact qV f hf r
theorem Rx(l:List Bool)(hl:l.length<=100000):tH Tryz.prog 192 [.d (dj l)] [] fun v h'=>v = .sl 2000000 1 0 l.length/\h' = [(2000000,.arr 1 (.dd (l.map fun(b:Bool)=>[D.bool b])))]:=by
 intro σ Y s;refine ez mixed av Tryz.func192 rfl (ft:=Q0) (args:=[.d (dj l)]) (show oQ Q0 Tryz.f192 1=true from by decide +kernel) ?_;conv=>whnf
 refine⟨fun b hb=>?_⟩
 cases b with
 | true=>
  have nY:l = []:=by
   cases l with
   | nil=>rfl
   | cons x r=>cases hb (by simp)
  subst nY;conv=>whnf
  refine oV (l':=[.sl 5 1 0 0]) (h':=[(5,.arr 1 (.dd []))]) (Wk.born 0 5 1 rfl rfl rfl) rfl rfl ?_;exact aK [5] [.sl 2000000 1 0 0] [(2000000,.arr 1 (.dd []))] rfl ⟨rfl,trivial⟩ rfl ⟨⟨rfl,rfl⟩,rfl⟩
 | false=>
  conv=>whnf
  refine ak rfl ?_;conv=>whnf
  refine aM (by
   show(jb 1 (l.map fun(b:Bool)=>[D.bool b])&&true)=true;rw[qV D.bool (fun _=>rfl) l];rfl) ?_
  conv=>whnf
  refine aM (decide_eq_true (by
   show(0+(l.map fun(b:Bool)=>[D.bool b]).length)*1<=140737488355328;rw[List.length_map];omega)) ?_
  conv=>whnf
  refine aK [7] [.sl 2000000 1 0 l.length] [(2000000,.arr 1 (.dd (l.map fun(b:Bool)=>[D.bool b])))] (by
   show [V.sl 7 1 0 l.length] = [V.sl 7 1 0 (0+(l.map fun(b:Bool)=>[D.bool b]).length)];rw[List.length_map,Nat.zero_add]) ⟨rfl,trivial⟩ rfl ⟨⟨rfl,rfl⟩,rfl⟩
theorem Ry(l:List Int)(hl:l.length<=100000):tH Tryz.prog 116 [.d (aV l)] [] fun v h'=>v = .sl 2000000 1 0 l.length/\h' = [(2000000,.arr 1 (.dd (l.map fun(b:Int)=>[D.int .i64 b])))]:=by
 intro σ Y s;refine ez mixed av Tryz.func116 rfl (ft:=IG) (args:=[.d (aV l)]) (show oQ IG Tryz.f116 1=true from by decide +kernel) ?_;conv=>whnf
 refine⟨fun b hb=>?_⟩
 cases b with
 | true=>
  have nY:l = []:=by
   cases l with
   | nil=>rfl
   | cons x r=>cases hb (by simp)
  subst nY;conv=>whnf
  refine oV (l':=[.sl 5 1 0 0]) (h':=[(5,.arr 1 (.dd []))]) (Wk.born 0 5 1 rfl rfl rfl) rfl rfl ?_;exact aK [5] [.sl 2000000 1 0 0] [(2000000,.arr 1 (.dd []))] rfl ⟨rfl,trivial⟩ rfl ⟨⟨rfl,rfl⟩,rfl⟩
 | false=>
  conv=>whnf
  refine ak rfl ?_;conv=>whnf
  refine aM (by
   show(jb 1 (l.map fun(b:Int)=>[D.int .i64 b])&&true)=true;rw[qV (D.int .i64) (fun _=>rfl) l];rfl) ?_
  conv=>whnf
  refine aM (decide_eq_true (by
   show(0+(l.map fun(b:Int)=>[D.int .i64 b]).length)*8<=140737488355328;rw[List.length_map];omega)) ?_
  conv=>whnf
  refine aK [7] [.sl 2000000 1 0 l.length] [(2000000,.arr 1 (.dd (l.map fun(b:Int)=>[D.int .i64 b])))] (by
   show [V.sl 7 1 0 l.length] = [V.sl 7 1 0 (0+(l.map fun(b:Int)=>[D.int .i64 b]).length)];rw[List.length_map,Nat.zero_add]) ⟨rfl,trivial⟩ rfl ⟨⟨rfl,rfl⟩,rfl⟩
def upto:Nat->Int->List Int
 | 0,_=>[]
 | k+1,v=>v::upto k (v+1)
def nN(s:Span):List Int:=upto (s.hi+1-s.lo).toNat s.lo
def ry(x:bL)(wf:Int->Bool->Bool)(speed s0:Int):Nat->Int->Int->List Bool->Option (List Bool×Int)
 | 0,_,a,acc=>some (acc,a)
 | k+1,s,a,acc=>if wf s (eP x a) then ry x wf speed s0 k (s+1) (fc x a speed (s-s0)) (acc ++ [eP x a]) else none
def oI(x:bL)(wf:Int->Bool->Bool):List Int->Int->Int->List Int->List Bool->List (List Int×List Bool)
 | [],s0,a,sp,lit=>(nN x.speed).flatMap fun v=>match ry x wf v s0 (x.night-s0).toNat s0 a lit with
  | none=>[]
  | some (l,_)=>[(sp ++ [v],l)]
 | e::r,s0,a,sp,lit=>(nN x.speed).flatMap fun v=>match ry x wf v s0 (e-s0).toNat s0 a lit with
  | none=>[]
  | some (l,a')=>oI x wf r e a' (sp ++ [v]) l
def K6(x:bL)(w:List Int)(wf:Int->Bool->Bool):List (bm×List Bool):=
 (nN x.start).flatMap fun st=>(oI x wf w 0 st [] []).map fun p=>(⟨st,p.1⟩,p.2)
def DF(t:bm×List Bool):D:=.agg [i64 t.1.start,aV t.1.aW,dj t.2]
def wj(t:bm×List Bool):List V×Heap:=([.d (DF t)],[])
def Ip(x:bL)(f:FuncId)(bc:List D)(wf:Int->Bool->Bool):Prop:=∀ (s:Int) (b:Bool),0<=s/\s<x.night->bq Tryz.prog f (i64 s :: .bool b::bc) (.bool (wf s b))
noncomputable def Qr(x:bL)(w:List Int)(f:FuncId)(bc:List D):List V:=[.d (.ref [.ref (iX x)]),.d (.ref [aV w]),.d (.ref [.clo f bc]),.ptr 1000000 0,.ptr 1000001 0]
noncomputable def Bd(x:bL)(w:List Int)(f:FuncId)(bc:List D):Heap:=[(1000000,.box (.vv [.yld])),(1000001,.box (.vv [.clo 191 (Qr x w f bc)]))]
def eF(x:bL)(rem:List Int):Int:=match rem with
 | []=>x.night
 | e::_=>e
def RW(x:bL)(w:List Int)(f:FuncId)(bc:List D)(wf:Int->Bool->Bool)(rem:List Int):Prop:=
 ∀ (n:Nat) (st:Int) (sp:List Int) (lit:List Bool) (s0 a:Int),w.drop n=rem->n<=w.length->sp.length=n->(lit.length:Int)=s0->0<=s0/\s0<=eF x rem->0<=a/\a<x.bT ->
  ∀ {σ:Type} (Y:Hd σ) (g0:σ) (rest:List (List V×Heap)) (Q:σ->Prop),
  iterate Y.np (((oI x wf rem s0 a sp lit).map fun p=>wj (⟨st,p.1⟩,p.2))++rest) g0 Q->Lu Tryz.prog Y 191 (.d (.agg [i64 st,aV sp,dj lit]) :: .d (i64 a) :: .d (i64 s0) :: .d (i64 n)::Qr x w f bc) (Bd x w f bc) g0 fun v h' s'=>
   h'=Bd x w f bc/\((v = .d (.bool true)/\iterate Y.np rest s' Q)\/(v = .d (.bool false)/\Q s'))
noncomputable def Mt:FT:=VQ.more 7 [103328]
def CH(x:bL)(wf:Int->Bool->Bool)(rem:List Int)(sp:List Int)(v:Int)(o:Option (List Bool×Int)):List (List Int×List Bool):=match o with
 | none=>[]
 | some (l,a')=>match rem with
  | []=>[(sp ++ [v],l)]
  | e::r=>oI x wf r e a' (sp ++ [v]) l
theorem N3(x:bL)(wf:Int->Bool->Bool)(rem:List Int)(s0 a:Int)(sp:List Int)(lit:List Bool):oI x wf rem s0 a sp lit=(nN x.speed).flatMap fun v=>CH x wf rem sp v (ry x wf v s0 (eF x rem-s0).toNat s0 a lit):=by
 cases rem with
 | nil=>
  rw[oI];rfl
 | cons e r=>
  rw[oI];rfl
theorem wv{g:Nat->Option DO}{cs:List V}{l:List D}(h:cS g cs=some l):dP g (.agg cs)=some (.agg l):=by simp[dP,h]
set_option maxHeartbeats 1000000 in
theorem V5{x:bL}(hR:jH x){w:List Int}(hw:w.length<=2)(Py:∀ s∈w,1<=s/\s<=x.night-1){f:FuncId}{bc:List D}{wf:Int->Bool->Bool}(mO:Ip x f bc wf)(rem:List Int)
  (ih:∀ e r,rem=e::r->e<=eF x r/\RW x w f bc wf r):RW x w f bc wf rem:=by
 intro n st sp lit s0 a BL hn BM WR Tl ha σ Y g0 rest Q hit;refine ez mixed av Tryz.func191 rfl (ft:=Mt) (args:=.d (.agg [i64 st,aV sp,dj lit]) :: .d (i64 a) :: .d (i64 s0) :: .d (i64 n)::Qr x w f bc) (show oQ Mt Tryz.f191 9=true from by decide +kernel) ?_;generalize Y.np=Y at hit ⊢;have hd:=hR.bT;have Oz:=hR.night;have abb:=hR.speed;rw[N3]at hit;have s7:eF x rem<=x.night:=by
  cases rem with
  | nil=>exact Int.le_refl _
  | cons e r=>
   have:=Py e (List.mem_of_mem_drop (by rw[BL];simp));show e<=_;omega
 have MF:((n:Int)<w.length /\ ∃ e r,rem=e::r/\w[n]?=some e)\/(¬ (n:Int)<w.length/\rem = []/\n=w.length):=by
  cases rem with
  | nil=>
   have:=List.drop_eq_nil_iff.1 BL;exact .inr ⟨by omega,rfl,by omega⟩
  | cons e r=>
   have h1:n<w.length:=by
    rcases Nat.lt_or_ge n w.length with h|h
    ·exact h
    ·rw[List.drop_eq_nil_of_le h]at BL;cases BL
   refine .inl ⟨by omega,e,r,rfl,?_⟩;rw[<- List.head?_drop,BL];rfl
 conv=>whnf
 rcases MF with⟨h1,e,r,G9,Xn⟩|⟨h1,G9,Rh⟩
 ·rw[show decide ((n:Int)<((List.map (fun n=>[i64 n]) w).length:Int))=true from by simpa using h1]
  conv=>whnf
  refine aU [i64 e] ⟨by omega,by simp[Xn]⟩ ?_;conv=>whnf
  have hE:e=eF x rem:=by rw[G9];rfl
  rw[hE];refine cD (T:=tys) av (by exact aj mixed av (by decide +kernel)) (α:=Int×σ)
   (fun p=>⟨[(1,.d (i64 a)),(2,.d (i64 s0)),(3,.d (i64 n)),(4,.d (.ref [.ref (iX x)])),(5,.d (.ref [aV w])),(6,.d (.ref [.clo f bc])),(7,.ptr 1000000 0),(8,.ptr 1000001 0),(9,.ptr 9 0),(13,.d (.bool false)),(14,.d (i64 (eF x rem))),(15,.d (i64 p.1))],Bd x w f bc ++ [(9,.box (.dd [i64 st,aV sp,dj lit]))],p.2⟩)
   (fun p=>x.speed.lo<=p.1/\p.1<=x.speed.hi+1/\iterate Y ((((upto (x.speed.hi+1-p.1).toNat p.1).flatMap fun v=>CH x wf rem sp v (ry x wf v s0 (eF x rem-s0).toNat s0 a lit)).map fun p=>wj (⟨st,p.1⟩,p.2))++rest) p.2 Q) (fun p=>(x.speed.hi+1-p.1).toNat) (x.speed.lo,g0) ?wk ⟨Int.le_refl _,by simp only;omega,hit⟩ ?_
  case wk=>exact aw
  clear hit g0;rintro ⟨v,g0⟩ ⟨Rp,hv2,hit⟩;simp only at Rp hv2 hit;conv=>whnf
  refine ag (fun h2=>?_) (fun h2=>?_)
  ·have h2:v<=x.speed.hi:=by simpa using h2
   obtain⟨m,hm⟩:∃ m,(x.speed.hi+1-v).toNat=m+1:=⟨(x.speed.hi-v).toNat,by omega⟩;have Gx:(x.speed.hi+1-(v+1)).toNat=m:=by omega
   rw[hm,upto,List.flatMap_cons,List.map_append,List.append_assoc]at hit;conv=>whnf
   refine wE (Rx lit (by omega)) [] rfl rfl rfl ?_;conv=>whnf
   refine bH (Ry sp (by omega)) [] rfl rfl rfl ?_;conv=>whnf
   refine ak rfl ?_;conv=>whnf
   refine ak (by simp[bx.len]) ?_;conv=>whnf
   refine aM (decide_eq_true (by
    show((sp.map fun n=>[D.int .i64 n]).length+1)*8<=140737488355328;rw[List.length_map];omega)) ?_
   conv=>whnf
   generalize hO:ry x wf v s0 (eF x rem-s0).toNat s0 a lit=O at hit;refine cD (T:=tys) av (by exact aj mixed av (by decide +kernel)) (α:=Int×(Int×List Bool))
    (fun p=>⟨[(1,.d (i64 a)),(2,.d (i64 s0)),(3,.d (i64 n)),(4,.d (.ref [.ref (iX x)])),(5,.d (.ref [aV w])),(6,.d (.ref [.clo f bc])),(7,.ptr 1000000 0),(8,.ptr 1000001 0),(9,.ptr 9 0),(13,.d (.bool false)),(14,.d (i64 (eF x rem))),(15,.d (i64 v)),(16,.ptr 16 0),(17,.d (i64 p.2.1)),(18,.d (i64 p.1))],Bd x w f bc ++ [(9,.box (.dd [i64 st,aV sp,dj lit])),(16,.box (.vv [.d (i64 st),.sl 60 1 0 (sp.length+1),.sl 900001 1 0 p.2.2.length])),(60,.arr 1 (.dd (sp ++ [v] |>.map fun n=>[i64 n]))),(900001,.arr 1 (.dd (p.2.2.map fun b=>[.bool b])))],g0⟩)
    (fun p=>s0<=p.1/\p.1<=eF x rem/\(0<=p.2.1/\p.2.1<x.bT)/\(p.2.2.length:Int)=p.1/\ry x wf v s0 (eF x rem-p.1).toNat p.1 p.2.1 p.2.2=O) (fun p=>(eF x rem-p.1).toNat) (s0,(a,lit)) ?wk2 ⟨Int.le_refl _,by simp only;omega,ha,WR,hO⟩ ?_
   case wk2=>
    refine(Wk.move 103328 900001 rfl rfl).trans (Wk.sub ⟨rfl,rfl,rfl,rfl,rfl,rfl,rfl,rfl,rfl,rfl,rfl,rfl,rfl,rfl,rfl,trivial⟩ ⟨rfl,?_,rfl,?_,?_,?_,trivial⟩)
    ·exact bS rfl ⟨⟨rfl,rfl,rfl,rfl,⟨rfl,rfl⟩,⟨rfl,rfl⟩,trivial⟩,trivial⟩
    ·show some (Obj.box (Cells.vv [V.d (i64 st),V.sl 60 1 0 ((sp.map fun n=>[D.int .i64 n]).length+1),V.sl 900001 1 0 lit.length]))=some (Obj.box (Cells.vv [V.d (i64 st),V.sl 60 1 0 (sp.length+1),V.sl 900001 1 0 lit.length]))
     rw[List.length_map]
    ·show some (Obj.arr 1 (bx.dd ((sp.map fun n=>[D.int .i64 n]) ++ [[i64 v]])))=some (Obj.arr 1 (bx.dd ((sp ++ [v]).map fun n=>[i64 n])))
     rw[List.map_append];rfl
    ·rfl
   clear hO;rintro ⟨s,a',acc⟩ ⟨k1,k2,k3,k4,hO⟩;simp only at k1 k2 k3 k4 hO;conv=>whnf
   refine ag (fun h3=>?_) (fun h3=>?_)
   ·have h3:s<eF x rem:=by simpa using h3
    obtain⟨m2,hm3⟩:∃ m2,(eF x rem-s).toNat=m2+1:=⟨(eF x rem-s-1).toNat,by omega⟩;have hm4:(eF x rem-(s+1)).toNat=m2:=by omega
    rw[hm3,ry]at hO;conv=>whnf
    refine aM (by simp;omega) ?_;conv=>whnf
    refine mS x (a:=a') (by omega) rfl ?_;conv=>whnf
    refine ax (mO s (eP x a') ⟨by omega,by omega⟩) rfl rfl ?_;conv=>whnf
    cases Xo:wf s (eP x a') with
    | false=>
     rw[Xo,if_neg (by simp)]at hO;subst hO;conv=>whnf
     refine ae ?_;conv=>whnf
     exact⟨(v+1,g0),by simp only;omega,⟨by simp only;omega,by simp only;omega,by simp only;rw[Gx];exact hit⟩,aw⟩
    | true=>
     rw[Xo,if_pos rfl]at hO;conv=>whnf
     refine aM (by simp;omega) ?_;conv=>whnf
     refine mS x (a:=a') (by omega) rfl ?_;conv=>whnf
     refine ak rfl ?_;conv=>whnf
     refine ak (by simp[bx.len]) ?_;conv=>whnf
     refine aM (decide_eq_true (by
      show((acc.map fun b=>[D.bool b]).length+1)*1<=140737488355328;rw[List.length_map];omega)) ?_
     conv=>whnf
     refine ao (s-s0) rfl (wrap_i64 (by omega)) ?_;conv=>whnf
     refine af (Fk x hR a' v (s-s0) k3 (by omega) (by omega)) rfl rfl ?_;conv=>whnf
     refine ao (s+1) rfl (wrap_i64 (by omega)) ?_;conv=>whnf
     refine⟨(s+1,(fc x a' v (s-s0),acc ++ [eP x a'])),by simp only;omega,⟨by simp only;omega,by simp only;omega,kM hR _ _ _,by simp;omega,by simp only;rw[hm4];exact hO⟩,?_⟩;refine(Wk.move 89 900001 rfl rfl).trans (Wk.sub ⟨rfl,rfl,rfl,rfl,rfl,rfl,rfl,rfl,rfl,rfl,rfl,rfl,rfl,rfl,rfl,trivial⟩ ⟨rfl,?_,rfl,?_,rfl,?_,trivial⟩)
     ·exact bS rfl ⟨⟨rfl,rfl,rfl,rfl,⟨rfl,rfl⟩,⟨rfl,rfl⟩,trivial⟩,trivial⟩
     ·show some (Obj.box (Cells.vv [V.d (i64 st),V.sl 60 1 0 (sp.length+1),V.sl 900001 1 0 ((acc.map fun b=>[D.bool b]).length+1)]))=some (Obj.box (Cells.vv [V.d (i64 st),V.sl 60 1 0 (sp.length+1),V.sl 900001 1 0 (acc ++ [eP x a']).length]))
      rw[List.length_map,List.length_append];rfl
     ·show some (Obj.arr 1 (bx.dd ((acc.map fun b=>[D.bool b]) ++ [[D.bool (eP x a')]])))=some (Obj.arr 1 (bx.dd ((acc ++ [eP x a']).map fun b=>[D.bool b])))
      rw[List.map_append];rfl
   ·have h3:¬ s<eF x rem:=by simpa using h3
    have Uw:s=eF x rem:=by omega
    rw[show(eF x rem-s).toNat=0 by omega,ry]at hO;subst hO;conv=>whnf
    rw[show decide ((n:Int)=((List.map (fun n=>[i64 n]) w).length:Int))=false from by simp;omega];conv=>whnf
    rw[show decide ((n:Int)<((List.map (fun n=>[i64 n]) w).length:Int))=true from by simp;omega];conv=>whnf
    refine ao (((n+1:Nat):Int)) (by(try dsimp only);omega) (wrap_i64 (by(try dsimp only);omega)) ?_;conv=>whnf
    refine GA 1 [60,900001] (args':=.d (DF (⟨st,sp ++ [v]⟩,acc)) :: .d (i64 a') :: .d (i64 (eF x rem)) :: .d (i64 ((n+1:Nat):Int))::Qr x w f bc) ?_ rfl ?_
    ·show sD [.d (i64 st),iJ _ (.sl 60 1 0 (sp.length+1)),iJ _ (.sl 900001 1 0 acc.length)]::_=_
     rw[DD (d:=aV (sp ++ [v])) (cH rfl (by simp)),DD (d:=dj acc) (cH rfl (by simp))];rfl
    obtain⟨hle,ihr⟩:=ih e r G9;have Lf:w.drop (n+1)=r:=by
     rw[<- List.drop_drop,BL,G9];rfl
    subst G9;refine rK (ihr (n+1) st (sp ++ [v]) acc e a' Lf (by omega) (by simp;omega) (by rw[k4,Uw];rfl) ⟨by have:=Py e (List.mem_of_getElem? Xn);omega,hle⟩ k3 Y g0 _ Q hit.np) [1000000,1000001] rfl ⟨_,_,rfl,rfl,_,_,rfl,bS rfl ⟨⟨rfl,rfl,rfl,rfl,⟨rfl,rfl⟩,⟨rfl,rfl⟩,trivial⟩,trivial⟩,rfl⟩ rfl rfl ?_;rintro v1 BI g1 ⟨rfl,qK⟩;rw[ko]at qK;rcases qK with⟨rfl,hi⟩|⟨rfl,hq⟩
    ·refine⟨rfl,?_⟩
     conv=>whnf
     refine ae ?_;conv=>whnf
     exact⟨(v+1,g1),by simp only;omega,⟨by simp only;omega,by simp only;omega,by simp only;rw[Gx];exact hi⟩,Wk.sub ⟨rfl,rfl,rfl,rfl,rfl,rfl,rfl,rfl,rfl,rfl,rfl,rfl,trivial⟩ ⟨rfl,bS rfl ⟨⟨rfl,rfl,rfl,rfl,⟨rfl,rfl⟩,⟨rfl,rfl⟩,trivial⟩,trivial⟩,rfl,trivial⟩⟩
    ·refine⟨rfl,?_⟩
     conv=>whnf
     exact aK [] [.d (.bool false)] (Bd x w f bc) rfl ⟨rfl,bS rfl ⟨⟨rfl,rfl,rfl,rfl,⟨rfl,rfl⟩,⟨rfl,rfl⟩,trivial⟩,trivial⟩,trivial⟩ rfl ⟨rfl,.inr ⟨rfl,hq⟩⟩
  ·have h2:¬ v<=x.speed.hi:=by simpa using h2
   rw[show(x.speed.hi+1-v).toNat=0 by omega]at hit;conv=>whnf
   exact aK [] [.d (.bool true)] (Bd x w f bc) rfl ⟨rfl,bS rfl ⟨⟨rfl,rfl,rfl,rfl,⟨rfl,rfl⟩,⟨rfl,rfl⟩,trivial⟩,trivial⟩,trivial⟩ rfl ⟨rfl,.inl ⟨rfl,hit⟩⟩
 ·rw[show decide ((n:Int)<((List.map (fun n=>[i64 n]) w).length:Int))=false from by simpa using h1]
  have hE:x.night=eF x rem:=by rw[G9];rfl
  conv=>whnf
  rw[hE];refine cD (T:=tys) av (by exact aj mixed av (by decide +kernel)) (α:=Int×σ)
   (fun p=>⟨[(1,.d (i64 a)),(2,.d (i64 s0)),(3,.d (i64 n)),(4,.d (.ref [.ref (iX x)])),(5,.d (.ref [aV w])),(6,.d (.ref [.clo f bc])),(7,.ptr 1000000 0),(8,.ptr 1000001 0),(9,.ptr 9 0),(13,.d (.bool false)),(14,.d (i64 (eF x rem))),(15,.d (i64 p.1))],Bd x w f bc ++ [(9,.box (.dd [i64 st,aV sp,dj lit]))],p.2⟩)
   (fun p=>x.speed.lo<=p.1/\p.1<=x.speed.hi+1/\iterate Y ((((upto (x.speed.hi+1-p.1).toNat p.1).flatMap fun v=>CH x wf rem sp v (ry x wf v s0 (eF x rem-s0).toNat s0 a lit)).map fun p=>wj (⟨st,p.1⟩,p.2))++rest) p.2 Q) (fun p=>(x.speed.hi+1-p.1).toNat) (x.speed.lo,g0) ?wk ⟨Int.le_refl _,by simp only;omega,hit⟩ ?_
  case wk=>exact aw
  clear hit g0;rintro ⟨v,g0⟩ ⟨Rp,hv2,hit⟩;simp only at Rp hv2 hit;conv=>whnf
  refine ag (fun h2=>?_) (fun h2=>?_)
  ·have h2:v<=x.speed.hi:=by simpa using h2
   obtain⟨m,hm⟩:∃ m,(x.speed.hi+1-v).toNat=m+1:=⟨(x.speed.hi-v).toNat,by omega⟩;have Gx:(x.speed.hi+1-(v+1)).toNat=m:=by omega
   rw[hm,upto,List.flatMap_cons,List.map_append,List.append_assoc]at hit;conv=>whnf
   refine wE (Rx lit (by omega)) [] rfl rfl rfl ?_;conv=>whnf
   refine bH (Ry sp (by omega)) [] rfl rfl rfl ?_;conv=>whnf
   refine ak rfl ?_;conv=>whnf
   refine ak (by simp[bx.len]) ?_;conv=>whnf
   refine aM (decide_eq_true (by
    show((sp.map fun n=>[D.int .i64 n]).length+1)*8<=140737488355328;rw[List.length_map];omega)) ?_
   conv=>whnf
   generalize hO:ry x wf v s0 (eF x rem-s0).toNat s0 a lit=O at hit;refine cD (T:=tys) av (by exact aj mixed av (by decide +kernel)) (α:=Int×(Int×List Bool))
    (fun p=>⟨[(1,.d (i64 a)),(2,.d (i64 s0)),(3,.d (i64 n)),(4,.d (.ref [.ref (iX x)])),(5,.d (.ref [aV w])),(6,.d (.ref [.clo f bc])),(7,.ptr 1000000 0),(8,.ptr 1000001 0),(9,.ptr 9 0),(13,.d (.bool false)),(14,.d (i64 (eF x rem))),(15,.d (i64 v)),(16,.ptr 16 0),(17,.d (i64 p.2.1)),(18,.d (i64 p.1))],Bd x w f bc ++ [(9,.box (.dd [i64 st,aV sp,dj lit])),(16,.box (.vv [.d (i64 st),.sl 60 1 0 (sp.length+1),.sl 900001 1 0 p.2.2.length])),(60,.arr 1 (.dd (sp ++ [v] |>.map fun n=>[i64 n]))),(900001,.arr 1 (.dd (p.2.2.map fun b=>[.bool b])))],g0⟩)
    (fun p=>s0<=p.1/\p.1<=eF x rem/\(0<=p.2.1/\p.2.1<x.bT)/\(p.2.2.length:Int)=p.1/\ry x wf v s0 (eF x rem-p.1).toNat p.1 p.2.1 p.2.2=O) (fun p=>(eF x rem-p.1).toNat) (s0,(a,lit)) ?wk2 ⟨Int.le_refl _,by simp only;omega,ha,WR,hO⟩ ?_
   case wk2=>
    refine(Wk.move 103328 900001 rfl rfl).trans (Wk.sub ⟨rfl,rfl,rfl,rfl,rfl,rfl,rfl,rfl,rfl,rfl,rfl,rfl,rfl,rfl,rfl,trivial⟩ ⟨rfl,?_,rfl,?_,?_,?_,trivial⟩)
    ·exact bS rfl ⟨⟨rfl,rfl,rfl,rfl,⟨rfl,rfl⟩,⟨rfl,rfl⟩,trivial⟩,trivial⟩
    ·show some (Obj.box (Cells.vv [V.d (i64 st),V.sl 60 1 0 ((sp.map fun n=>[D.int .i64 n]).length+1),V.sl 900001 1 0 lit.length]))=some (Obj.box (Cells.vv [V.d (i64 st),V.sl 60 1 0 (sp.length+1),V.sl 900001 1 0 lit.length]))
     rw[List.length_map]
    ·show some (Obj.arr 1 (bx.dd ((sp.map fun n=>[D.int .i64 n]) ++ [[i64 v]])))=some (Obj.arr 1 (bx.dd ((sp ++ [v]).map fun n=>[i64 n])))
     rw[List.map_append];rfl
    ·rfl
   clear hO;rintro ⟨s,a',acc⟩ ⟨k1,k2,k3,k4,hO⟩;simp only at k1 k2 k3 k4 hO;conv=>whnf
   refine ag (fun h3=>?_) (fun h3=>?_)
   ·have h3:s<eF x rem:=by simpa using h3
    obtain⟨m2,hm3⟩:∃ m2,(eF x rem-s).toNat=m2+1:=⟨(eF x rem-s-1).toNat,by omega⟩;have hm4:(eF x rem-(s+1)).toNat=m2:=by omega
    rw[hm3,ry]at hO;conv=>whnf
    refine aM (by simp;omega) ?_;conv=>whnf
    refine mS x (a:=a') (by omega) rfl ?_;conv=>whnf
    refine ax (mO s (eP x a') ⟨by omega,by omega⟩) rfl rfl ?_;conv=>whnf
    cases Xo:wf s (eP x a') with
    | false=>
     rw[Xo,if_neg (by simp)]at hO;subst hO;conv=>whnf
     refine ae ?_;conv=>whnf
     exact⟨(v+1,g0),by simp only;omega,⟨by simp only;omega,by simp only;omega,by simp only;rw[Gx];exact hit⟩,aw⟩
    | true=>
     rw[Xo,if_pos rfl]at hO;conv=>whnf
     refine aM (by simp;omega) ?_;conv=>whnf
     refine mS x (a:=a') (by omega) rfl ?_;conv=>whnf
     refine ak rfl ?_;conv=>whnf
     refine ak (by simp[bx.len]) ?_;conv=>whnf
     refine aM (decide_eq_true (by
      show((acc.map fun b=>[D.bool b]).length+1)*1<=140737488355328;rw[List.length_map];omega)) ?_
     conv=>whnf
     refine ao (s-s0) rfl (wrap_i64 (by omega)) ?_;conv=>whnf
     refine af (Fk x hR a' v (s-s0) k3 (by omega) (by omega)) rfl rfl ?_;conv=>whnf
     refine ao (s+1) rfl (wrap_i64 (by omega)) ?_;conv=>whnf
     refine⟨(s+1,(fc x a' v (s-s0),acc ++ [eP x a'])),by simp only;omega,⟨by simp only;omega,by simp only;omega,kM hR _ _ _,by simp;omega,by simp only;rw[hm4];exact hO⟩,?_⟩;refine(Wk.move 89 900001 rfl rfl).trans (Wk.sub ⟨rfl,rfl,rfl,rfl,rfl,rfl,rfl,rfl,rfl,rfl,rfl,rfl,rfl,rfl,rfl,trivial⟩ ⟨rfl,?_,rfl,?_,rfl,?_,trivial⟩)
     ·exact bS rfl ⟨⟨rfl,rfl,rfl,rfl,⟨rfl,rfl⟩,⟨rfl,rfl⟩,trivial⟩,trivial⟩
     ·show some (Obj.box (Cells.vv [V.d (i64 st),V.sl 60 1 0 (sp.length+1),V.sl 900001 1 0 ((acc.map fun b=>[D.bool b]).length+1)]))=some (Obj.box (Cells.vv [V.d (i64 st),V.sl 60 1 0 (sp.length+1),V.sl 900001 1 0 (acc ++ [eP x a']).length]))
      rw[List.length_map,List.length_append];rfl
     ·show some (Obj.arr 1 (bx.dd ((acc.map fun b=>[D.bool b]) ++ [[D.bool (eP x a')]])))=some (Obj.arr 1 (bx.dd ((acc ++ [eP x a']).map fun b=>[D.bool b])))
      rw[List.map_append];rfl
   ·have h3:¬ s<eF x rem:=by simpa using h3
    have Uw:s=eF x rem:=by omega
    rw[show(eF x rem-s).toNat=0 by omega,ry]at hO;subst hO;conv=>whnf
    rw[show decide ((n:Int)=((List.map (fun n=>[i64 n]) w).length:Int))=true from by simp;omega];subst G9;conv=>whnf
    refine Ef 1 [60,900001] (ds:=[DF (⟨st,sp ++ [v]⟩,acc)]) ?_ rfl ?_
    ·exact aC (wv (aC rfl (aC (cH rfl (by simp)) (aC (cH rfl (by simp)) rfl)))) rfl
    refine LA (ds:=[DF (⟨st,sp ++ [v]⟩,acc)]) hit rfl rfl (fun g1 hi=>?_) (fun g1 hq=>?_)
    ·conv=>whnf
     rw[show decide ((n:Int)<((List.map (fun n=>[i64 n]) w).length:Int))=false from by simp;omega];conv=>whnf
     refine ae ?_;conv=>whnf
     exact⟨(v+1,g1),by simp only;omega,⟨by simp only;omega,by simp only;omega,by simp only;rw[Gx];exact hi⟩,Wk.sub ⟨rfl,rfl,rfl,rfl,rfl,rfl,rfl,rfl,rfl,rfl,rfl,rfl,trivial⟩ ⟨rfl,bS rfl ⟨⟨rfl,rfl,rfl,rfl,⟨rfl,rfl⟩,⟨rfl,rfl⟩,trivial⟩,trivial⟩,rfl,trivial⟩⟩
    ·conv=>whnf
     exact aK [] [.d (.bool false)] (Bd x w f bc) rfl ⟨rfl,bS rfl ⟨⟨rfl,rfl,rfl,rfl,⟨rfl,rfl⟩,⟨rfl,rfl⟩,trivial⟩,trivial⟩,trivial⟩ rfl ⟨rfl,.inr ⟨rfl,hq⟩⟩
  ·have h2:¬ v<=x.speed.hi:=by simpa using h2
   rw[show(x.speed.hi+1-v).toNat=0 by omega]at hit;conv=>whnf
   exact aK [] [.d (.bool true)] (Bd x w f bc) rfl ⟨rfl,bS rfl ⟨⟨rfl,rfl,rfl,rfl,⟨rfl,rfl⟩,⟨rfl,rfl⟩,trivial⟩,trivial⟩,trivial⟩ rfl ⟨rfl,.inl ⟨rfl,hit⟩⟩
def UH(x:bL):List Int->Prop
 | []=>True
 | e::r=>e<=eF x r/\UH x r
theorem Gp{x:bL}:∀ {l:List Int} {last i:Int},(ka x.night last l i).2=0->UH x l /\ ∀ e r,l=e::r->last<e
 | [],_,_,_=>⟨trivial,fun e r h=>by cases h⟩
 | s::r,last,i,h=>by
  rw[ka]at h;split at h;case isFalse=>cases h
  rename_i h1;rw[cj]at h1;split at h
  ·cases h
  rename_i h2;obtain⟨h3,h4⟩:=Gp h;refine⟨⟨?_,h3⟩,fun e r' he=>by cases he;omega⟩
  cases r with
  | nil=>show s<=x.night;omega
  | cons e r'=>have:=h4 e r' rfl;show s<=e;omega
theorem IL{x:bL}(hR:jH x){w:List Int}(hw:w.length<=2)(Py:∀ s∈w,1<=s/\s<=x.night-1){f:FuncId}{bc:List D}{wf:Int->Bool->Bool}(mO:Ip x f bc wf):∀ rem,UH x rem->RW x w f bc wf rem
 | [],_=>V5 hR hw Py mO [] (fun e r h=>by cases h)
 | e::r,hu=>V5 hR hw Py mO (e::r) fun e' r' h=>by
  cases h;exact⟨hu.1,IL hR hw Py mO r hu.2⟩
theorem TJ(x:bL)(w:List Int)(f:FuncId)(bc:List D):bq Tryz.prog 138 [.ref (iX x),aV w,.clo f bc] (.clo 190 [.ref [.ref (iX x)],.ref [aV w],.ref [.clo f bc]]):=by
 refine aY Tryz.func138 rfl (ft:=Vo) 3 fun {σ} Y st=>?_;conv=>whnf
 exact aO 1 rfl ⟨⟨rfl,rfl⟩,rfl⟩
theorem wD{x:bL}(hR:jH x){w:List Int}(hw:w.length<=2)(Py:∀ s∈w,1<=s/\s<=x.night-1)(hup:UH x w){f:FuncId}{bc:List D}{wf:Int->Bool->Bool}(mO:Ip x f bc wf) :
  Yields Tryz.prog 190 [.ref [.ref (iX x)],.ref [aV w],.ref [.clo f bc]] ((K6 x w wf).map wj):=by
 intro γ Y g0 Q hit;have hd:=hR.bT;have ja:=hR.start;have Oz:=hR.night;refine ez mixed av Tryz.func190 rfl (ft:=QZ) (args:=[.yld,.d (.ref [.ref (iX x)]),.d (.ref [aV w]),.d (.ref [.clo f bc])]) (show oQ QZ Tryz.f190 4=true from by decide +kernel) ?_;replace hit:=hit.np;generalize Y.np=Y at hit ⊢;conv=>whnf
 refine cD (T:=tys) av (by exact aj mixed av (by decide +kernel)) (α:=Int×γ)
  (fun p=>⟨[(1,.d (.ref [.ref (iX x)])),(2,.d (.ref [aV w])),(3,.d (.ref [.clo f bc])),(4,.ptr 4 0),(5,.ptr 5 0),(6,.d (i64 p.1))],[(4,.box (.vv [.yld])),(5,.box (.vv [.clo 191 [.d (.ref [.ref (iX x)]),.d (.ref [aV w]),.d (.ref [.clo f bc]),.ptr 4 0,.ptr 5 0]]))],p.2⟩)
  (fun p=>x.start.lo<=p.1/\p.1<=x.start.hi+1/\iterate Y (((upto (x.start.hi+1-p.1).toNat p.1).flatMap fun st=>(oI x wf w 0 st [] []).map fun q=>((⟨st,q.1⟩,q.2):bm×List Bool)).map wj) p.2 Q) (fun p=>(x.start.hi+1-p.1).toNat) (x.start.lo,g0) ?wk ⟨Int.le_refl _,by simp only;omega,hit⟩ ?_
 case wk=>exact aw
 clear hit g0;rintro ⟨st,g0⟩ ⟨h1,h2,hit⟩;simp only at h1 h2 hit;conv=>whnf
 refine ag (fun h3=>?_) (fun h3=>?_)
 ·have h3:st<=x.start.hi:=by simpa using h3
  obtain⟨m,hm⟩:∃ m,(x.start.hi+1-st).toNat=m+1:=⟨(x.start.hi-st).toNat,by omega⟩;have Gx:(x.start.hi+1-(st+1)).toNat=m:=by omega
  rw[hm,upto,List.flatMap_cons,List.map_append,List.map_map]at hit;conv=>whnf
  refine rJ (args':=.d (.agg [i64 st,.vs [],.vs []]) :: .d (i64 st) :: .d (i64 0) :: .d (i64 0) :: [.d (.ref [.ref (iX x)]),.d (.ref [aV w]),.d (.ref [.clo f bc]),.ptr 4 0,.ptr 5 0]) (fun yv L F w l h=>by
   obtain⟨y,l',rfl,p1,p2⟩:=h;exact⟨y,l',rfl,bR.df _ _ p1,p2⟩) ?_
  refine rK (IL hR hw Py mO w hup 0 st [] [] 0 st rfl (Nat.zero_le _) rfl rfl ⟨Int.le_refl _,?_⟩ ⟨by omega,by omega⟩ Y g0 _ Q hit.np) [4,5] rfl ⟨_,_,rfl,rfl,_,_,rfl,bS rfl ⟨⟨rfl,rfl,rfl,rfl,⟨rfl,rfl⟩,⟨rfl,rfl⟩,trivial⟩,trivial⟩,rfl⟩ rfl rfl ?_
  ·cases w with
   | nil=>show 0<=x.night;omega
   | cons e r=>have:=Py e (by simp);show 0<=e;omega
  rintro v1 BI g1 ⟨rfl,qK⟩;rw[ko]at qK;rcases qK with⟨rfl,hi⟩|⟨rfl,hq⟩
  ·refine⟨rfl,?_⟩
   conv=>whnf
   refine ae ?_;conv=>whnf
   exact⟨(st+1,g1),by simp only;omega,⟨by simp only;omega,by simp only;omega,by simp only;rw[Gx];exact hi⟩,Wk.sub ⟨rfl,rfl,rfl,rfl,rfl,rfl,trivial⟩ ⟨rfl,bS rfl ⟨⟨rfl,rfl,rfl,rfl,⟨rfl,rfl⟩,⟨rfl,rfl⟩,trivial⟩,trivial⟩,trivial⟩⟩
  ·refine⟨rfl,?_⟩
   conv=>whnf
   exact aO 0 rfl ⟨rfl,hq⟩
 ·have h3:¬ st<=x.start.hi:=by simpa using h3
  rw[show(x.start.hi+1-st).toNat=0 by omega]at hit;conv=>whnf
  exact aO 0 rfl ⟨rfl,hit⟩
def qS(m:List (Int×Int)):List (D×D):=m.map fun p=>(i64 p.1,i64 p.2)
def jx:List (Int×Int)->Int->Int
 | [],_=>0
 | (a,b)::r,k=>if k=a then b else jx r k
def vg:List (Int×Int)->Int->Int->List (Int×Int)
 | [],k,v=>[(k,v)]
 | (a,b)::r,k,v=>if k=a then (k,v)::r else (a,b)::vg r k v
theorem Bw(k:Int):∀ (m:List (Int×Int)) (n:Nat),(∃ i v,findD (i64 k) (qS m) n=some (some (n+i,i64 v))/\jx m k=v /\ ∀ u,(qS m).set i (i64 k,i64 u)=qS (vg m k u)) \/
  (findD (i64 k) (qS m) n=some none/\jx m k=0 /\ ∀ u,qS m ++ [(i64 k,i64 u)]=qS (vg m k u))
 | [],n=>.inr ⟨rfl,rfl,fun u=>rfl⟩
 | (a,b)::r,n=>by
  have hs:fC (i64 k) (i64 a)=some (decide (k=a)):=by simp[fC,i64]
  by_cases h:k=a
  ·left
   refine⟨0,b,?_,by simp[jx,h],fun u=>by simp[vg,qS,h]⟩
   show(match fC (i64 k) (i64 a) with
    | some true=>some (some (n,i64 b))
    | some false=>findD (i64 k) (qS r) (n+1)
    | none=>none)=_
   rw[hs,decide_eq_true h];rfl
  ·have hf:findD (i64 k) (qS ((a,b)::r)) n=findD (i64 k) (qS r) (n+1):=by
    show(match fC (i64 k) (i64 a) with
     | some true=>some (some (n,i64 b))
     | some false=>findD (i64 k) (qS r) (n+1)
     | none=>none)=_
    rw[hs,decide_eq_false h]
   rcases Bw k r (n+1) with⟨i,v,h1,h2,h3⟩|⟨h1,h2,h3⟩
   ·left
    refine⟨i+1,v,by rw[hf,h1,show n+1+i=n+(i+1) by omega],by simp[jx,h,h2],fun u=>?_⟩;simp only[vg,if_neg h];show((i64 a,i64 b)::qS r).set (i+1) _=(i64 a,i64 b)::qS (vg r k u);rw[List.set_cons_succ,h3]
   ·right
    refine⟨by rw[hf,h1],by simp[jx,h,h2],fun u=>?_⟩;simp only[vg,if_neg h];show(i64 a,i64 b)::(qS r++_)=(i64 a,i64 b)::qS (vg r k u);rw[h3]
theorem IB(m:List (Int×Int))(k:Int):(∃ i v,findD (i64 k) (qS m) 0=some (some (i,i64 v))/\jx m k=v /\ ∀ u,(qS m).set i (i64 k,i64 u)=qS (vg m k u)) \/
  (findD (i64 k) (qS m) 0=some none/\jx m k=0 /\ ∀ u,qS m ++ [(i64 k,i64 u)]=qS (vg m k u)):=by
 rcases Bw k m 0 with⟨i,v,h⟩|h
 ·exact .inl ⟨i,v,by simpa using h⟩
 ·exact .inr h
def Jq(b:Bool):Int:=if b then 2 else 1
def eL(m:List (Int×Int))(s:dW):List (Int×Int):=vg m s.second (iT .or .i64 (jx m s.second) (Jq s.lit))
def vi(l:List dW):List (Int×Int):=l.foldl eL []
def sL(m:List (Int×Int))(s:Int)(b:Bool):Bool:=decide (iT .and .i64 (jx m s) (if b then 1 else 2)=0)
theorem Xy(m:List (Int×Int))(s:Int)(b:Bool):bq Tryz.prog 160 [i64 s,.bool b,.ref [.mv (qS m)]] (.bool (sL m s b)):=by
 refine aY Tryz.func160 rfl (ft:=VH) 3 fun {σ} Y st=>?_;conv=>whnf
 cases b with
 | true=>
  conv=>whnf
  rcases IB m s with⟨i,v,h1,h2,_⟩|⟨h1,h2,_⟩
  ·refine⟨_,h1,?_⟩
   conv=>whnf
   unfold sL;rw[h2];exact ai
  ·refine⟨_,h1,?_⟩
   conv=>whnf
   unfold sL;rw[h2];exact ai
 | false=>
  conv=>whnf
  rcases IB m s with⟨i,v,h1,h2,_⟩|⟨h1,h2,_⟩
  ·refine⟨_,h1,?_⟩
   conv=>whnf
   unfold sL;rw[h2];exact ai
  ·refine⟨_,h1,?_⟩
   conv=>whnf
   unfold sL;rw[h2];exact ai
noncomputable def LC(c:bG):D:=.clo 190 [.ref [.ref (iX c.aB)],.ref [aV c.az],.ref [.clo 160 [.ref [.mv (qS (vi c.bW))]]]]
def iS(c:bG):List (bm×List Bool):=K6 c.aB c.az (sL (vi c.bW))
theorem Gm(c:bG):Ip c.aB 160 [.ref [.mv (qS (vi c.bW))]] (sL (vi c.bW)):=fun s b _=>Xy _ s b
theorem PN(c:bG)(hR:nu c):bq Tryz.prog 94 [c.d] (LC c):=by
 refine aY Tryz.func94 rfl (ft:=aar) 1 fun {σ} Y st=>?_;conv=>whnf
 have hs8:=hR.bW;refine bB (T:=tys) av (by exact aj mixed av (by decide +kernel)) c.bW (fun i (m:List (Int×Int))=>⟨[(1,.ptr 1 0),(3,.ptr 3 0),(8,.d (pJ c.bW)),(9,.d (i64 c.bW.length)),(10,.d (i64 i))],[(1,.box (.dd c.cells)),(6,.map (qS m)),(3,.box (.vv [.mp 6]))],st⟩)
  (fun i r m=>vi c.bW=r.foldl eL m) [] aw rfl ?_ ?_
 ·intro i s r m hx hi hr he
  rw[List.foldl_cons]at he;conv=>whnf
  refine ag (fun _=>?_) (fun h=>absurd hi (by simpa using h));conv=>whnf
  refine aG hx ?_;conv=>whnf
  cases hl:s.lit with
  | true=>
   conv=>whnf
   rcases IB m s.second with⟨i2,v,h1,h2,h3⟩|⟨h1,h2,h3⟩
   ·refine⟨_,h1,?_⟩
    conv=>whnf
    refine⟨_,h1,?_⟩;conv=>whnf
    refine ae ?_;conv=>whnf
    refine⟨eL m s,he,Wk.sub ⟨rfl,rfl,rfl,rfl,rfl,trivial⟩ ⟨rfl,?_,rfl,trivial⟩⟩;show some (Obj.map ((qS m).set i2 (i64 s.second,i64 (iT .or .i64 v 2))))=some (Obj.map (qS (eL m s)));rw[h3,eL,h2,hl];rfl
   ·refine⟨_,h1,?_⟩
    conv=>whnf
    refine⟨_,h1,?_⟩;conv=>whnf
    refine ae ?_;conv=>whnf
    refine⟨eL m s,he,Wk.sub ⟨rfl,rfl,rfl,rfl,rfl,trivial⟩ ⟨rfl,?_,rfl,trivial⟩⟩;show some (Obj.map (qS m ++ [(i64 s.second,i64 (iT .or .i64 0 2))]))=some (Obj.map (qS (eL m s)));rw[h3,eL,h2,hl];rfl
  | false=>
   conv=>whnf
   rcases IB m s.second with⟨i2,v,h1,h2,h3⟩|⟨h1,h2,h3⟩
   ·refine⟨_,h1,?_⟩
    conv=>whnf
    refine⟨_,h1,?_⟩;conv=>whnf
    refine ae ?_;conv=>whnf
    refine⟨eL m s,he,Wk.sub ⟨rfl,rfl,rfl,rfl,rfl,trivial⟩ ⟨rfl,?_,rfl,trivial⟩⟩;show some (Obj.map ((qS m).set i2 (i64 s.second,i64 (iT .or .i64 v 1))))=some (Obj.map (qS (eL m s)));rw[h3,eL,h2,hl];rfl
   ·refine⟨_,h1,?_⟩
    conv=>whnf
    refine⟨_,h1,?_⟩;conv=>whnf
    refine ae ?_;conv=>whnf
    refine⟨eL m s,he,Wk.sub ⟨rfl,rfl,rfl,rfl,rfl,trivial⟩ ⟨rfl,?_,rfl,trivial⟩⟩;show some (Obj.map (qS m ++ [(i64 s.second,i64 (iT .or .i64 0 1))]))=some (Obj.map (qS (eL m s)));rw[h3,eL,h2,hl];rfl
 ·intro m he
  conv=>whnf
  refine ag (fun h=>absurd h (by simp)) (fun _=>?_);conv=>whnf
  refine ax (PQ c.aB hR.aB) rfl rfl ?_;conv=>whnf
  refine Ea (TJ c.aB c.az 160 [.ref [.mv (qS m)]]) 3 ?_ rfl ?_
  ·rfl
  conv=>whnf
  refine aO 0 rfl ⟨⟨?_,rfl⟩,rfl⟩;rw[LC,he];rfl
def gT(s:Span):Nat->List (List Int)
 | 0=>[[]]
 | k+1=>(nN s).flatMap fun v=>(gT s k).map (v :: ·)
def Ej(x:bL)(w:List Int):List bm:=(nN x.start).flatMap fun st=>(gT x.speed (w.length+1)).map fun l=>⟨st,l⟩
def okW(wf:Int->Bool->Bool):Int->List Bool->Bool
 | _,[]=>true
 | s,b::r=>wf s b&&okW wf (s+1) r
theorem Dr{wf:Int->Bool->Bool}:∀ {a b:List Bool} {s:Int},okW wf s (a++b)=(okW wf s a&&okW wf (s+a.length) b)
 | [],b,s=>by simp[okW]
 | x::a,b,s=>by
  rw[List.cons_append,okW,okW,Dr,Bool.and_assoc,List.length_cons,show s+1+(a.length:Int)=s+((a.length+1:Nat):Int) by omega]
def n8(x:bL)(v s0:Int):Nat->Int->Int->List Bool×Int
 | 0,_,a=>([],a)
 | k+1,s,a=>let p:=n8 x v s0 k (s+1) (fc x a v (s-s0));(eP x a::p.1,p.2)
theorem F8{x:bL}{v s0:Int}:∀ {k:Nat} {s a:Int},(n8 x v s0 k s a).1.length=k
 | 0,_,_=>rfl
 | k+1,s,a=>by simp[n8,F8]
theorem DE{x:bL}{wf:Int->Bool->Bool}{v s0:Int}:∀ {k:Nat} {s a:Int} {acc:List Bool},ry x wf v s0 k s a acc=if okW wf s (n8 x v s0 k s a).1 then some (acc++(n8 x v s0 k s a).1,(n8 x v s0 k s a).2) else none
 | 0,s,a,acc=>by simp[ry,n8,okW]
 | k+1,s,a,acc=>by
  have e1:n8 x v s0 (k+1) s a=(eP x a::(n8 x v s0 k (s+1) (fc x a v (s-s0))).1,(n8 x v s0 k (s+1) (fc x a v (s-s0))).2):=rfl;have e2:okW wf s (n8 x v s0 (k+1) s a).1=(wf s (eP x a)&&okW wf (s+1) (n8 x v s0 k (s+1) (fc x a v (s-s0))).1):=by rw[e1,okW]
  rw[ry];by_cases h:wf s (eP x a)=true
  ·rw[if_pos h,DE]
   by_cases h2:okW wf (s+1) (n8 x v s0 k (s+1) (fc x a v (s-s0))).1=true
   ·rw[if_pos h2,if_pos (by rw[e2,h,h2];rfl),e1]
    simp
   ·rw[if_neg h2,if_neg (by rw[e2,h];simpa using h2)]
  ·rw[if_neg h,if_neg (by rw[e2];simp[h])]
theorem qs{x:bL}{w sp:List Int}{n:Nat}{b:Int}:∀ (j k:Nat) (s a:Int),(∀ e,w[n]?=some e->s+j<=e)->dq x w sp (j+k) s a b n=(n8 x (sp.getD n 0) b j s a).1++dq x w sp k (s+j) (n8 x (sp.getD n 0) b j s a).2 b n
 | 0,k,s,a,_=>by simp[n8]
 | j+1,k,s,a,h=>by
  rw[show j+1+k=(j+k)+1 by omega,dq];have er:¬ w[n]?=some s:=fun e=>by have:=h s e;omega
  rw[if_neg er,qs j k (s+1) _ (fun e he=>by have:=h e he;omega)];simp only[n8,List.cons_append];rw[show s+1+(j:Int)=s+((j+1:Nat):Int) by omega]
theorem CM{x:bL}{w sp:List Int}{n:Nat}{b:Int}{k:Nat}{s a:Int}(h:w[n]?=some s)(h2:¬ w[n+1]?=some s):dq x w sp k s a b n=dq x w sp k s a s (n+1):=by
 cases k with
 | zero=>rfl
 | succ k=>
  rw[dq,dq,if_pos h,if_neg h2,Int.sub_self]
theorem jN{α β:Type}{f g:α->List β}:∀ {l:List α},(∀ a∈l,f a=g a)->l.flatMap f=l.flatMap g
 | [],_=>rfl
 | a::r,h=>by rw[List.flatMap_cons,List.flatMap_cons,h a (by simp),jN fun b hb=>h b (by simp[hb])]
theorem iZ{α β:Type}{f:α->List β}{p:β->Bool}:∀ {l:List α},(l.flatMap f).filter p=l.flatMap fun a=>(f a).filter p
 | []=>rfl
 | a::r=>by rw[List.flatMap_cons,List.flatMap_cons,List.filter_append,iZ]
theorem lR{α β γ:Type}{f:α->List β}{g:β->γ}:∀ {l:List α},(l.flatMap f).map g=l.flatMap fun a=>(f a).map g
 | []=>rfl
 | a::r=>by rw[List.flatMap_cons,List.flatMap_cons,List.map_append,lR]
def UG(x:bL):Int->List Int->Prop
 | s,[]=>s<=x.night
 | s,e::r=>s<e/\e<=x.night-1/\UG x e r
theorem Cb{x:bL}{w:List Int}{wf:Int->Bool->Bool}:∀ (rem:List Int) (s0 a:Int) (sp:List Int) (lit:List Bool),w.drop sp.length=rem->sp.length<=w.length->0<=s0->(UG x s0 rem) ->
  oI x wf rem s0 a sp lit=((gT x.speed (rem.length+1)).filter fun l=>okW wf s0 (dq x w (sp++l) (x.night-s0).toNat s0 a s0 sp.length)).map fun l=>(sp++l,lit++dq x w (sp++l) (x.night-s0).toNat s0 a s0 sp.length)
 | [],s0,a,sp,lit,hd,hl,h0,hu=>by
  have AY:w.length<=sp.length:=List.drop_eq_nil_iff.1 hd;have hu:s0<=x.night:=hu;rw[oI,List.length_nil,gT,iZ,lR];refine jN fun v _=>?_;simp only[gT,List.map_cons,List.map_nil];have hsv:(sp ++ [v]).getD sp.length 0=v:=by simp[List.getD_eq_getElem?_getD]
  have hc:=qs (x:=x) (w:=w) (sp:=sp ++ [v]) (n:=sp.length) (b:=s0) (x.night-s0).toNat 0 s0 a (fun e he=>by rw[List.getElem?_eq_none (by omega)]at he;cases he);rw[Nat.add_zero,dq,List.append_nil,hsv]at hc;rw[DE,<- hc]
  cases hw:okW wf s0 (dq x w (sp ++ [v]) (x.night-s0).toNat s0 a s0 sp.length) with
  | true=>simp[hw]
  | false=>simp[hw]
 | e::r,s0,a,sp,lit,hd,hl,h0,hu=>by
  obtain⟨h1,h2,h3⟩:=hu;have dh:sp.length<w.length:=by
   rcases Nat.lt_or_ge sp.length w.length with h|h
   ·exact h
   ·rw[List.drop_eq_nil_of_le h]at hd;cases hd
  have Xn:w[sp.length]?=some e:=by rw[<- List.head?_drop,hd];rfl
  have SM:w.drop (sp.length+1)=r:=by rw[<- List.drop_drop,hd];rfl
  have E9:¬ w[sp.length+1]?=some e:=by
   rw[<- List.head?_drop,SM]
   cases r with
   | nil=>simp
   | cons e2 r2=>have:=h3.1;simp;omega
  rw[oI,List.length_cons,gT,iZ,lR];refine jN fun v _=>?_;have hlen:(sp ++ [v]).length=sp.length+1:=by simp
  have hih:∀ a' TM,oI x wf r e a' (sp ++ [v]) TM=_:=fun a' TM=>Cb r e a' (sp ++ [v]) TM (by rw[hlen];exact SM) (by rw[hlen];omega) (by omega) h3;have hc:∀ l,dq x w (sp++v::l) (x.night-s0).toNat s0 a s0 sp.length=(n8 x v s0 (e-s0).toNat s0 a).1++dq x w (sp ++ [v]++l) (x.night-e).toNat e (n8 x v s0 (e-s0).toNat s0 a).2 e (sp ++ [v]).length:=by
   intro l;have hsv:(sp++v::l).getD sp.length 0=v:=by simp[List.getD_eq_getElem?_getD]
   have hc:=qs (x:=x) (w:=w) (sp:=sp++v::l) (n:=sp.length) (b:=s0) (e-s0).toNat (x.night-e).toNat s0 a (fun e' he=>by rw[Xn]at he;cases he;omega);rw[hsv,show(e-s0).toNat+(x.night-e).toNat=(x.night-s0).toNat by omega,show s0+((e-s0).toNat:Int)=e by omega,CM Xn E9]at hc;rw[hc,hlen,List.append_assoc];rfl
  rw[DE];have rS:(s0+((n8 x v s0 (e-s0).toNat s0 a).1.length:Int))=e:=by rw[F8];omega
  generalize hS:n8 x v s0 (e-s0).toNat s0 a=S at hc rS ⊢;rw[List.filter_map,List.map_map]
  cases hw:okW wf s0 S.1 with
  | true=>
   rw[if_pos rfl];show oI x wf r e S.2 (sp ++ [v]) (lit++S.1)=_;rw[hih];have hp:(fun l=>okW wf e (dq x w (sp ++ [v]++l) (x.night-e).toNat e S.2 e (sp ++ [v]).length))=((fun l=>okW wf s0 (dq x w (sp++l) (x.night-s0).toNat s0 a s0 sp.length))∘fun x=>v::x):=by
    funext l
    simp only[Function.comp];rw[hc,Dr,hw,Bool.true_and,rS]
   rw[hp];refine List.map_congr_left fun l _=>?_;simp only[Function.comp];rw[hc];simp
  | false=>
   rw[if_neg (by simp)];have hp:((fun l=>okW wf s0 (dq x w (sp++l) (x.night-s0).toNat s0 a s0 sp.length))∘fun x=>v::x)=fun _=>false:=by
    funext l
    simp only[Function.comp];rw[hc,Dr,hw,Bool.false_and]
   rw[hp];simp
theorem Cr{x:bL}:∀ {l:List Int} {last i:Int},(ka x.night last l i).2=0->last<=x.night->UG x last l
 | [],_,_,_,h0=>h0
 | s::r,last,i,h,h0=>by
  rw[ka]at h;split at h;case isFalse=>cases h
  rename_i h1;rw[cj]at h1;split at h
  ·cases h
  rename_i h2;exact⟨by omega,by omega,Cr h (by omega)⟩
theorem rA{x:bL}{w:List Int}{wf:Int->Bool->Bool}(hu:UG x 0 w):K6 x w wf=((Ej x w).filter fun t=>okW wf 0 (bX x w t)).map fun t=>(t,bX x w t):=by
 unfold K6 Ej;rw[iZ,lR];refine jN fun st _=>?_;rw[Cb w 0 st [] [] rfl (Nat.zero_le _) (Int.le_refl _) hu,List.filter_map,List.map_map,List.map_map];simp only[List.nil_append,Int.sub_zero];rfl
end Go.PX
