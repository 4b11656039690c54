import Derived.Test.YtmbefpmbnhdbpaaGreatDoorPxL
import Derived.Test.YtmbefpmbnhdbpaaGreatDoorPxJ
import Derived.Test.YtmbefpmbnhdbpaaGreatDoorPxK
import Derived.Test.YtmbefpmbnhdbpaaGreatDoorPxI
set_option linter.all false
set_option maxRecDepth 10000
namespace Go.PX
open Go.Proofs
theorem Cj:bq Tryz.prog 69 [] ck.right.d:=by
 refine aI mixed ak Tryz.func69 rfl (ft:=YC) 0 (by decide +kernel) (by rfl) fun {σ} Y st=>?_;conv=>whnf
 exact ab 0 rfl ⟨⟨rfl,rfl⟩,rfl⟩
structure u3(x:qw):Prop where
 len:x.steps.length<=78
 w:∀ e∈x.steps,-1100000<=e.w/\e.w<=1100000
 many:0<=x.many/\x.many<=30
theorem OU(l:aM)(x:qw)(hR:u3 x)(p:ck):bq Tryz.prog 108 [ew l x,p.d] (.tup [if s4 x (fU x p)=true then .mv (My (fU x p)) else .nilm,.bool (s4 x (fU x p))]):=by
 refine aI mixed ak Tryz.func108 rfl (ft:=Tv) 2 (by decide +kernel) (by rfl) fun {σ} Y st=>?_;conv=>whnf
 have hlen:=hR.len;have aa7:=hR.many;have jA:x.steps.length<4000000000000000000:=by omega
 refine⟨none,rfl,?_⟩;conv=>whnf
 refine ao (((x.many+2).toNat:Nat):Int) (by omega) (wrap_i64 (by omega)) ?_;conv=>whnf
 unfold fU;have hK:(x.many+2).toNat<=32:=by omega
 generalize (x.many+2).toNat=N at hK ⊢;generalize hRES:jt x.steps N [(p,0)]=Nc;refine dh (T:=tys) ak (by exact an mixed ak (by decide +kernel)) (α:=Nat×PM) (fun z=>⟨[(0,.d (ew l x)),(6,.mp 16),(23,.d (i64 N)),(24,.d (i64 z.1))],[(16,.map (My z.2))],st⟩)
  (fun z=>z.1<=N/\rB z.2 (100000000*z.1)/\jt x.steps (N-z.1) z.2=Nc) (fun z=>N-z.1) (0,[(p,0)]) (Wk.sub (by repeat' first|constructor|simp[PX.get]) ⟨(by first|rfl|simp[PX.get]),trivial⟩) ⟨Nat.zero_le _,?_,by simpa using hRES⟩ ?_
 ·intro q v hv
  simp only at hv;rw[bD]at hv;split at hv
  ·cases hv;simp
  ·cases hv
 rintro ⟨i,m⟩ ⟨hi,hb,hr⟩;simp only at hi hb hr;conv=>whnf
 refine af (fun h1=>?_) (fun h1=>?_)
 ·have h1:i<N:=by have:=of_decide_eq_true h1;simp only at this;omega
  obtain⟨f,hf⟩:∃ f,N-i=f+1:=⟨N-i-1,by omega⟩;rw[hf,jt]at hr;generalize hRM:se x.steps m=RM at hr;conv=>whnf
  refine bx (T:=tys) ak (by exact an mixed ak (by decide +kernel)) x.steps (fun k (y:PM×Bool)=>⟨[(0,.d (ew l x)),(6,.mp 16),(7,.d (.bool y.2)),(23,.d (i64 N)),(24,.d (i64 i)),(29,.d (Cp x.steps)),(30,.d (i64 x.steps.length)),(31,.d (i64 k))],[(16,.map (My y.1))],st⟩)
   (fun k r y=>r.foldl jP y=RM/\rB y.1 (100000000*i+1100000*k)) (m,false) (Wk.sub (by repeat' first|constructor|simp[PX.get]) ⟨(by first|rfl|simp[PX.get]),trivial⟩) ⟨hRM,by simpa using hb⟩ ?_ ?_
  ·rintro k s r ⟨m1,ch⟩ hs hk wK ⟨mr,SD⟩
   have Z8:=hR.w s (List.mem_of_getElem? hs);have mn:=H7 (m:=(m1,ch)) SD Z8;rw[List.foldl_cons]at mr;conv=>whnf
   refine af (fun _=>?_) (fun h=>absurd hk (by simpa using h));conv=>whnf
   refine aw hs ?_;conv=>whnf
   cases h2:bD m1 s.a with
   | none=>
    have ht:jP (m1,ch) s=(m1,ch):=by unfold jP;simp only[h2]
    rw[ht]at mr mn;refine⟨none,aP (kd:=ck.d) dI h2 0,?_⟩;conv=>whnf
    refine ae (wrap_i64 (by(try dsimp only);omega)) ?_;conv=>whnf
    exact⟨(m1,ch),⟨mr,fun q v hv=>by have:=mn q v hv;omega⟩,(Wk.sub (by repeat' first|constructor|simp[PX.get]) ⟨(by first|rfl|simp[PX.get]),trivial⟩)⟩
   | some n=>
    have hn:=SD s.a n h2;obtain⟨ix,_,mf,_⟩:=a8 (kd:=ck.d) (vd:=aD) dI h2 0;refine⟨_,mf,?_⟩;conv=>whnf
    cases h3:bD m1 s.b with
    | none=>
     have ht:jP (m1,ch) s=(cH m1 s.b (n+s.w),true):=by unfold jP;simp only[h2,h3]
     refine⟨none,aP (kd:=ck.d) dI h3 0,?_⟩;conv=>whnf
     refine ae (wrap_i64 (by(try dsimp only);omega)) ?_;conv=>whnf
     refine⟨none,aP (kd:=ck.d) dI h3 0,?_⟩;rw[ht]at mr mn;conv=>whnf
     refine ae (wrap_i64 (by(try dsimp only);omega)) ?_;conv=>whnf
     refine⟨(cH m1 s.b (n+s.w),true),⟨mr,fun q v hv=>by have:=mn q v hv;omega⟩,Wk.sub ⟨rfl,rfl,rfl,rfl,rfl,rfl,rfl,rfl,trivial⟩ ⟨?_,trivial⟩⟩;exact congrArg (fun z=>some (Obj.map z)) (cr (kd:=ck.d) (vd:=aD) (n+s.w) h3)
    | some v2=>
     obtain⟨iy,_,mw,FN,_⟩:=a8 (kd:=ck.d) (vd:=aD) dI h3 0;refine⟨_,mw,?_⟩;conv=>whnf
     refine ae (wrap_i64 (by(try dsimp only);omega)) ?_;conv=>whnf
     refine af (fun h4=>?_) (fun h4=>?_)
     ·have h4:n+s.w<v2:=of_decide_eq_true h4
      have ht:jP (m1,ch) s=(cH m1 s.b (n+s.w),true):=by unfold jP;simp only[h2,h3];rw[if_pos h4]
      conv=>whnf
      refine ae (wrap_i64 (by(try dsimp only);omega)) ?_;conv=>whnf
      refine⟨_,mw,?_⟩;rw[ht]at mr mn;conv=>whnf
      refine ae (wrap_i64 (by(try dsimp only);omega)) ?_;conv=>whnf
      refine⟨(cH m1 s.b (n+s.w),true),⟨mr,fun q v hv=>by have:=mn q v hv;omega⟩,Wk.sub ⟨rfl,rfl,rfl,rfl,rfl,rfl,rfl,rfl,trivial⟩ ⟨?_,trivial⟩⟩
      (show some (Obj.map ((My m1).set (0+iy) (s.b.d,i64 (n+s.w))))=_);rw[Nat.zero_add];exact congrArg (fun z=>some (Obj.map z)) (FN (n+s.w))
     ·have h4:¬ n+s.w<v2:=of_decide_eq_false h4
      have ht:jP (m1,ch) s=(m1,ch):=by unfold jP;simp only[h2,h3];rw[if_neg h4]
      rw[ht]at mr mn;conv=>whnf
      refine ae (wrap_i64 (by(try dsimp only);omega)) ?_;conv=>whnf
      exact⟨(m1,ch),⟨mr,fun q v hv=>by have:=mn q v hv;omega⟩,(Wk.sub (by repeat' first|constructor|simp[PX.get]) ⟨(by first|rfl|simp[PX.get]),trivial⟩)⟩
  ·rintro ⟨m1,ch⟩ ⟨mr,SD⟩
   have mr:(m1,ch)=RM:=mr;conv=>whnf
   refine af (fun h=>absurd h (by simp)) (fun _=>?_);conv=>whnf
   refine af (fun h2=>?_) (fun h2=>?_)
   ·have h2:ch=false:=by simpa using h2
    subst h2;rw[<- mr]at hr;simp only[if_false,Bool.false_eq_true]at hr;subst hr;have Uw:rB m1 10000000000:=fun q v hv=>by have:=SD q v hv;omega
    clear SD;conv=>whnf
    refine bx (T:=tys) ak (by exact an mixed ak (by decide +kernel)) x.steps (fun k (_:Unit)=>⟨[(0,.d (ew l x)),(6,.mp 16),(75,.d (Cp x.steps)),(76,.d (i64 x.steps.length)),(77,.d (i64 k))],[(16,.map (My m1))],st⟩)
     (fun k r _=>s4 x m1=r.all fun s=>decide (kH m1 s.b<=kH m1 s.a+s.w)) () (Wk.sub (by repeat' first|constructor|simp[PX.get]) ⟨(by first|rfl|simp[PX.get]),trivial⟩) rfl ?_ ?_
    ·rintro k s r _ hs hk wK cn
     have Z8:=hR.w s (List.mem_of_getElem? hs);rw[List.all_cons]at cn;conv=>whnf
     refine af (fun _=>?_) (fun h=>absurd hk (by simpa using h));conv=>whnf
     refine aw hs ?_;conv=>whnf
     have Lb:=Uw s.a;have Y8:=Uw s.b
     cases h2:bD m1 s.a with
     | none=>
      have e1:kH m1 s.a=0:=by unfold kH;rw[h2];rfl
      rw[e1]at cn;refine⟨none,aP (kd:=ck.d) dI h2 0,?_⟩;conv=>whnf
      refine ae (wrap_i64 (by(try dsimp only);omega)) ?_;conv=>whnf
      cases h3:bD m1 s.b with
      | none=>
       have e2:kH m1 s.b=0:=by unfold kH;rw[h3];rfl
       rw[e2]at cn;refine⟨none,aP (kd:=ck.d) dI h3 0,?_⟩;conv=>whnf
       refine af (fun h4=>?_) (fun h4=>?_)
       ·have h4:0+s.w<0:=of_decide_eq_true h4
        rw[decide_eq_false (by omega),Bool.false_and]at cn;rw[cn];simp only[if_false,Bool.false_eq_true];conv=>whnf
        exact ab 0 rfl ⟨⟨rfl,rfl⟩,rfl⟩
       ·have h4:¬ 0+s.w<0:=of_decide_eq_false h4
        rw[decide_eq_true (by omega),Bool.true_and]at cn;conv=>whnf
        refine ae (wrap_i64 (by(try dsimp only);omega)) ?_;conv=>whnf
        exact⟨(),cn,(Wk.sub (by repeat' first|constructor|simp[PX.get]) ⟨(by first|rfl|simp[PX.get]),trivial⟩)⟩
      | some v2=>
       have e2:kH m1 s.b=v2:=by unfold kH;rw[h3];rfl
       rw[e2]at cn;obtain⟨iy,_,mw,_⟩:=a8 (kd:=ck.d) (vd:=aD) dI h3 0;refine⟨_,mw,?_⟩;conv=>whnf
       refine af (fun h4=>?_) (fun h4=>?_)
       ·have h4:0+s.w<v2:=of_decide_eq_true h4
        rw[decide_eq_false (by omega),Bool.false_and]at cn;rw[cn];simp only[if_false,Bool.false_eq_true];conv=>whnf
        exact ab 0 rfl ⟨⟨rfl,rfl⟩,rfl⟩
       ·have h4:¬ 0+s.w<v2:=of_decide_eq_false h4
        rw[decide_eq_true (by omega),Bool.true_and]at cn;conv=>whnf
        refine ae (wrap_i64 (by(try dsimp only);omega)) ?_;conv=>whnf
        exact⟨(),cn,(Wk.sub (by repeat' first|constructor|simp[PX.get]) ⟨(by first|rfl|simp[PX.get]),trivial⟩)⟩
     | some n=>
      have hn:=Lb n h2;have e1:kH m1 s.a=n:=by unfold kH;rw[h2];rfl
      rw[e1]at cn;obtain⟨ix,_,mf,_⟩:=a8 (kd:=ck.d) (vd:=aD) dI h2 0;refine⟨_,mf,?_⟩;conv=>whnf
      refine ae (wrap_i64 (by(try dsimp only);omega)) ?_;conv=>whnf
      cases h3:bD m1 s.b with
      | none=>
       have e2:kH m1 s.b=0:=by unfold kH;rw[h3];rfl
       rw[e2]at cn;refine⟨none,aP (kd:=ck.d) dI h3 0,?_⟩;conv=>whnf
       refine af (fun h4=>?_) (fun h4=>?_)
       ·have h4:n+s.w<0:=of_decide_eq_true h4
        rw[decide_eq_false (by omega),Bool.false_and]at cn;rw[cn];simp only[if_false,Bool.false_eq_true];conv=>whnf
        exact ab 0 rfl ⟨⟨rfl,rfl⟩,rfl⟩
       ·have h4:¬ n+s.w<0:=of_decide_eq_false h4
        rw[decide_eq_true (by omega),Bool.true_and]at cn;conv=>whnf
        refine ae (wrap_i64 (by(try dsimp only);omega)) ?_;conv=>whnf
        exact⟨(),cn,(Wk.sub (by repeat' first|constructor|simp[PX.get]) ⟨(by first|rfl|simp[PX.get]),trivial⟩)⟩
      | some v2=>
       have e2:kH m1 s.b=v2:=by unfold kH;rw[h3];rfl
       rw[e2]at cn;obtain⟨iy,_,mw,_⟩:=a8 (kd:=ck.d) (vd:=aD) dI h3 0;refine⟨_,mw,?_⟩;conv=>whnf
       refine af (fun h4=>?_) (fun h4=>?_)
       ·have h4:n+s.w<v2:=of_decide_eq_true h4
        rw[decide_eq_false (by omega),Bool.false_and]at cn;rw[cn];simp only[if_false,Bool.false_eq_true];conv=>whnf
        exact ab 0 rfl ⟨⟨rfl,rfl⟩,rfl⟩
       ·have h4:¬ n+s.w<v2:=of_decide_eq_false h4
        rw[decide_eq_true (by omega),Bool.true_and]at cn;conv=>whnf
        refine ae (wrap_i64 (by(try dsimp only);omega)) ?_;conv=>whnf
        exact⟨(),cn,(Wk.sub (by repeat' first|constructor|simp[PX.get]) ⟨(by first|rfl|simp[PX.get]),trivial⟩)⟩
    ·rintro _ cn
     have cn:s4 x m1=true:=cn;rw[cn];simp only[if_true];conv=>whnf
     refine af (fun h=>absurd h (by simp)) (fun _=>?_);conv=>whnf
     refine ab 1 (ds:=[.mv (My m1),.bool true]) (az (tX rfl) rfl) ⟨⟨rfl,rfl⟩,rfl⟩
   ·have h2:ch=true:=by simpa using h2
    subst h2;rw[<- mr]at hr;simp only[if_true]at hr;conv=>whnf
    refine ae (wrap_i64 (by(try dsimp only);omega)) ?_;conv=>whnf
    exact⟨(i+1,m1),by simp only;omega,⟨by simp only;omega,fun q v hv=>by have:=SD q v hv;simp only;omega,by simp only;rw[show N-(i+1)=f by omega];exact hr⟩,(Wk.sub (by repeat' first|constructor|simp[PX.get]) ⟨(by first|rfl|simp[PX.get]),trivial⟩)⟩
 ·have h1:¬ i<N:=by have:=of_decide_eq_false h1;simp only at this;omega
  have hm:m=Nc:=by rw[show N-i=0 by omega,jt]at hr;exact hr
  subst hm;have Uw:rB m 10000000000:=fun q v hv=>by have:=hb q v hv;omega
  clear hb;conv=>whnf
  refine bx (T:=tys) ak (by exact an mixed ak (by decide +kernel)) x.steps (fun k (_:Unit)=>⟨[(0,.d (ew l x)),(6,.mp 16),(75,.d (Cp x.steps)),(76,.d (i64 x.steps.length)),(77,.d (i64 k))],[(16,.map (My m))],st⟩)
   (fun k r _=>s4 x m=r.all fun s=>decide (kH m s.b<=kH m s.a+s.w)) () (Wk.sub (by repeat' first|constructor|simp[PX.get]) ⟨(by first|rfl|simp[PX.get]),trivial⟩) rfl ?_ ?_
  ·rintro k s r _ hs hk wK cn
   have Z8:=hR.w s (List.mem_of_getElem? hs);rw[List.all_cons]at cn;conv=>whnf
   refine af (fun _=>?_) (fun h=>absurd hk (by simpa using h));conv=>whnf
   refine aw hs ?_;conv=>whnf
   have Lb:=Uw s.a;have Y8:=Uw s.b
   cases h2:bD m s.a with
   | none=>
    have e1:kH m s.a=0:=by unfold kH;rw[h2];rfl
    rw[e1]at cn;refine⟨none,aP (kd:=ck.d) dI h2 0,?_⟩;conv=>whnf
    refine ae (wrap_i64 (by(try dsimp only);omega)) ?_;conv=>whnf
    cases h3:bD m s.b with
    | none=>
     have e2:kH m s.b=0:=by unfold kH;rw[h3];rfl
     rw[e2]at cn;refine⟨none,aP (kd:=ck.d) dI h3 0,?_⟩;conv=>whnf
     refine af (fun h4=>?_) (fun h4=>?_)
     ·have h4:0+s.w<0:=of_decide_eq_true h4
      rw[decide_eq_false (by omega),Bool.false_and]at cn;rw[cn];simp only[if_false,Bool.false_eq_true];conv=>whnf
      exact ab 0 rfl ⟨⟨rfl,rfl⟩,rfl⟩
     ·have h4:¬ 0+s.w<0:=of_decide_eq_false h4
      rw[decide_eq_true (by omega),Bool.true_and]at cn;conv=>whnf
      refine ae (wrap_i64 (by(try dsimp only);omega)) ?_;conv=>whnf
      exact⟨(),cn,(Wk.sub (by repeat' first|constructor|simp[PX.get]) ⟨(by first|rfl|simp[PX.get]),trivial⟩)⟩
    | some v2=>
     have e2:kH m s.b=v2:=by unfold kH;rw[h3];rfl
     rw[e2]at cn;obtain⟨iy,_,mw,_⟩:=a8 (kd:=ck.d) (vd:=aD) dI h3 0;refine⟨_,mw,?_⟩;conv=>whnf
     refine af (fun h4=>?_) (fun h4=>?_)
     ·have h4:0+s.w<v2:=of_decide_eq_true h4
      rw[decide_eq_false (by omega),Bool.false_and]at cn;rw[cn];simp only[if_false,Bool.false_eq_true];conv=>whnf
      exact ab 0 rfl ⟨⟨rfl,rfl⟩,rfl⟩
     ·have h4:¬ 0+s.w<v2:=of_decide_eq_false h4
      rw[decide_eq_true (by omega),Bool.true_and]at cn;conv=>whnf
      refine ae (wrap_i64 (by(try dsimp only);omega)) ?_;conv=>whnf
      exact⟨(),cn,(Wk.sub (by repeat' first|constructor|simp[PX.get]) ⟨(by first|rfl|simp[PX.get]),trivial⟩)⟩
   | some n=>
    have hn:=Lb n h2;have e1:kH m s.a=n:=by unfold kH;rw[h2];rfl
    rw[e1]at cn;obtain⟨ix,_,mf,_⟩:=a8 (kd:=ck.d) (vd:=aD) dI h2 0;refine⟨_,mf,?_⟩;conv=>whnf
    refine ae (wrap_i64 (by(try dsimp only);omega)) ?_;conv=>whnf
    cases h3:bD m s.b with
    | none=>
     have e2:kH m s.b=0:=by unfold kH;rw[h3];rfl
     rw[e2]at cn;refine⟨none,aP (kd:=ck.d) dI h3 0,?_⟩;conv=>whnf
     refine af (fun h4=>?_) (fun h4=>?_)
     ·have h4:n+s.w<0:=of_decide_eq_true h4
      rw[decide_eq_false (by omega),Bool.false_and]at cn;rw[cn];simp only[if_false,Bool.false_eq_true];conv=>whnf
      exact ab 0 rfl ⟨⟨rfl,rfl⟩,rfl⟩
     ·have h4:¬ n+s.w<0:=of_decide_eq_false h4
      rw[decide_eq_true (by omega),Bool.true_and]at cn;conv=>whnf
      refine ae (wrap_i64 (by(try dsimp only);omega)) ?_;conv=>whnf
      exact⟨(),cn,(Wk.sub (by repeat' first|constructor|simp[PX.get]) ⟨(by first|rfl|simp[PX.get]),trivial⟩)⟩
    | some v2=>
     have e2:kH m s.b=v2:=by unfold kH;rw[h3];rfl
     rw[e2]at cn;obtain⟨iy,_,mw,_⟩:=a8 (kd:=ck.d) (vd:=aD) dI h3 0;refine⟨_,mw,?_⟩;conv=>whnf
     refine af (fun h4=>?_) (fun h4=>?_)
     ·have h4:n+s.w<v2:=of_decide_eq_true h4
      rw[decide_eq_false (by omega),Bool.false_and]at cn;rw[cn];simp only[if_false,Bool.false_eq_true];conv=>whnf
      exact ab 0 rfl ⟨⟨rfl,rfl⟩,rfl⟩
     ·have h4:¬ n+s.w<v2:=of_decide_eq_false h4
      rw[decide_eq_true (by omega),Bool.true_and]at cn;conv=>whnf
      refine ae (wrap_i64 (by(try dsimp only);omega)) ?_;conv=>whnf
      exact⟨(),cn,(Wk.sub (by repeat' first|constructor|simp[PX.get]) ⟨(by first|rfl|simp[PX.get]),trivial⟩)⟩
  ·rintro _ cn
   have cn:s4 x m=true:=cn;rw[cn];simp only[if_true];conv=>whnf
   refine af (fun h=>absurd h (by simp)) (fun _=>?_);conv=>whnf
   refine ab 1 (ds:=[.mv (My m),.bool true]) (az (tX rfl) rfl) ⟨⟨rfl,rfl⟩,rfl⟩
theorem Dk{x:qw}(hR:u3 x):∀ (l:List cc) {y:PM×Bool} {B:Int},(∀ e∈l,e∈x.steps)->rB y.1 B->rB (l.foldl jP y).1 (B+1100000*l.length)
 | [],y,B,_,h=>by simpa using h
 | s::r,y,B,hl,h=>by
  rw[List.foldl_cons];have:=Dk hR r (fun e he=>hl e (by simp[he])) (H7 h (hR.w s (hl s (by simp))));intro p v hv;have:=this p v hv;rw[List.length_cons];omega
theorem y8{x:qw}(hR:u3 x):∀ (k:Nat) {m:PM} {B:Int},rB m B->0<=B->rB (jt x.steps k m) (B+100000000*k)
 | 0,m,B,h,_=>by rw[jt];simpa using h
 | k+1,m,B,h,hB=>by
  have h1:=Dk hR x.steps (y:=(m,false)) (fun e he=>he) h;have hl:=hR.len;have h2:rB (se x.steps m).1 (B+100000000):=fun p v hv=>by have:=h1 p v hv;omega
  rw[jt];split
  ·intro p v hv
   have:=y8 hR k h2 (by omega) p v hv;omega
  ·intro p v hv
   have:=h2 p v hv;omega
theorem NR{x:qw}(hR:u3 x)(p:ck):rB (fU x p) 4000000000:=by
 have h0:rB [(p,(0:Int))] 0:=fun q v hv=>by
  rw[bD]at hv;split at hv
  ·cases hv;simp
  ·cases hv
 have:=y8 hR (x.many+2).toNat h0 (Int.le_refl 0);have hm:=hR.many;intro q v hv;have:=this q v hv;omega
theorem xm{x:qw}(hR:u3 x)(p q:ck) : -4000000000<=kH (fU x p) q/\kH (fU x p) q<=4000000000:=by
 unfold kH
 cases h:bD (fU x p) q with
 | none=>simp
 | some v=>exact NR hR p q v h
theorem BI(m:PM)(q:ck):∃ r,findD q.d (My m) 0=some r/\((r=none/\kH m q=0) \/ ∃ i,r=some (i,i64 (kH m q))):=by
 cases h:bD m q with
 | none=>exact⟨none,aP (kd:=ck.d) dI h 0,.inl ⟨rfl,by unfold kH;rw[h];rfl⟩⟩
 | some v=>
  obtain⟨ix,_,hx,_⟩:=a8 (kd:=ck.d) (vd:=aD) dI h 0;exact⟨_,hx,.inr ⟨0+ix,by unfold kH;rw[h];rfl⟩⟩
theorem VS(l:aM)(x:qw)(hR:u3 x)(p q:ck)(hp:s4 x (fU x p)=true)(hq:s4 x (fU x q)=true):bq Tryz.prog 68 [ew l x,p.d,q.d] (cK x p q).d:=by
 refine aI mixed ak Tryz.func68 rfl (ft:=YB) 3 (by decide +kernel) (by rfl) fun {σ} Y st=>?_;conv=>whnf
 have h1:bq Tryz.prog 108 [ew l x,q.d] (.tup [.mv (My (fU x q)),.bool true]):=bq.cast (fun {σ}=>OU l x hR q) (by rw[hq];rfl);have h2:bq Tryz.prog 108 [ew l x,p.d] (.tup [.mv (My (fU x p)),.bool true]):=bq.cast (fun {σ}=>OU l x hR p) (by rw[hp];rfl);have hb:=xm hR p q;refine ai (h1) rfl rfl ?_;conv=>whnf
 refine ai (h2) rfl rfl ?_;conv=>whnf
 obtain⟨r1,Rw,vq⟩:=BI (fU x p) q;refine⟨r1,Rw,?_⟩;rcases vq with⟨rfl,e1⟩|⟨i1,rfl⟩
 ·conv=>whnf
  refine ae (wrap_i64 (by(try dsimp only);omega)) ?_;conv=>whnf
  obtain⟨r2,wK,nr⟩:=BI (fU x q) p;refine⟨r2,wK,?_⟩;rcases nr with⟨rfl,e2⟩|⟨i2,rfl⟩
  ·have hd:(cK x p q).d = .agg [i64 (0-0),i64 0]:=by unfold cK;rw[e2,Int.zero_sub];rw[e1];rfl
   rw[hd];conv=>whnf
   exact ab 0 rfl ⟨⟨rfl,rfl⟩,rfl⟩
  ·have hd:(cK x p q).d = .agg [i64 (0-0),i64 (kH (fU x q) p)]:=by unfold cK;rw[Int.zero_sub];rw[e1];rfl
   rw[hd];conv=>whnf
   exact ab 0 rfl ⟨⟨rfl,rfl⟩,rfl⟩
 ·conv=>whnf
  refine ae (wrap_i64 (by(try dsimp only);omega)) ?_;conv=>whnf
  obtain⟨r2,wK,nr⟩:=BI (fU x q) p;refine⟨r2,wK,?_⟩;rcases nr with⟨rfl,e2⟩|⟨i2,rfl⟩
  ·have hd:(cK x p q).d = .agg [i64 (0-kH (fU x p) q),i64 0]:=by unfold cK;rw[e2,Int.zero_sub];rfl
   rw[hd];conv=>whnf
   exact ab 0 rfl ⟨⟨rfl,rfl⟩,rfl⟩
  ·have hd:(cK x p q).d = .agg [i64 (0-kH (fU x p) q),i64 (kH (fU x q) p)]:=by unfold cK;rw[Int.zero_sub];rfl
   rw[hd];conv=>whnf
   exact ab 0 rfl ⟨⟨rfl,rfl⟩,rfl⟩
def mI(l:aM)(i:Int):au:=(l.aj[i.toNat]?).getD ⟨.empty,⟨0,0⟩,⟨0,0⟩,[]⟩
def bB(l:aM):Int:=(fK l).2.2
def Dh(l:aM):Bool×Int:=if bB l=0 then (gK l 0 [],0) else (false,bB l)
def Qg(l:aM)(book:Int):List Span:=(List.range (dm (mI l book).ar+1)).map fun(n:Nat)=>cK (bG l 0 []) ⟨book,n⟩ .right
def yL(l:aM)(book:Int):List Span×Int:=
 if bB l=0 then
  if fP book 0 ((l.aj.length:Int)-1) then ([],4)
  else if gK l 0 [] then (Qg l book,0) else ([],9)
 else ([],bB l)
def tk(l:aM)(x:c8):Bool:=!fP x.book 0 ((l.aj.length:Int)-1) && !fP x.entry 0 (((mI l x.book).ar.length:Int)-1)
def gN(l:aM)(xs:List c8):Int:=if bB l=0 then (if xs.all (tk l) then 0 else 4) else bB l
def pG(l:aM)(xs:List c8):Int:=if gN l xs=0 then (if gK l 0 [] then 0 else 9) else gN l xs
def yW(l:aM)(x:c8):ck:=vJ (bG l 0 []).pers x
def iF(l:aM)(x:c8):Span:=
 ⟨(kI l x).shown-(cK (bG l 0 []) (yW l x) .right).hi,(kI l x).shown-(cK (bG l 0 []) (yW l x) .right).lo⟩
def pX(l:aM)(x:c8):Span×Int:=if pG l [x]=0 then (iF l x,0) else (⟨0,0⟩,pG l [x])
def lu(l:aM)(a b:c8):Span:=
 ⟨((kI l b).shown-(kI l a).shown)-(cK (bG l 0 []) (yW l b) (yW l a)).hi,((kI l b).shown-(kI l a).shown)-(cK (bG l 0 []) (yW l b) (yW l a)).lo⟩
def Gd(s:Span):Int:=if s=⟨0,0⟩ then 3 else if 0<s.lo then 1 else if s.hi<0 then 2 else 0
def n7(l:aM)(a b:c8):Span×Int×Int:=if pG l [a,b]=0 then (lu l a b,Gd (lu l a b),0) else (⟨0,0⟩,0,pG l [a,b])
def MM(l:aM)(x:c8)(i k:Nat)(y:aW):Bool:=
 !decide ((i:Int)=x.book)&&(decide (y.kind=1)&&(decide (y.word=(kI l x).word)&&(decide ((lu l x ⟨i,k⟩).lo<=l.near)&&decide (-l.near<=(lu l x ⟨i,k⟩).hi))))
def A7(l:aM)(x:c8)(i:Nat):Nat->List aW->List c8
 | _,[]=>[]
 | k,y::r=>if MM l x i k y then ⟨i,k⟩::A7 l x i (k+1) r else A7 l x i (k+1) r
def sf(l:aM)(x:c8):Nat->List au->List c8
 | _,[]=>[]
 | i,b::r=>A7 l x i 0 b.ar++sf l x (i+1) r
def H4(l:aM)(x:c8):List c8×Int:=
 if gN l [x]=0 then
  if (kI l x).kind=1 then (if gK l 0 [] then (sf l x 0 l.aj,0) else ([],9)) else ([],2)
 else ([],gN l [x])
def gS(lC:Int->Bool):Nat->Int->Int->Int
 | 0,_,hi=>hi
 | k+1,lo,hi=>if hi-lo>1 then (if lC ((lo+hi)/2) then gS lC k lo ((lo+hi)/2) else gS lC k ((lo+hi)/2) hi) else hi
def D9(l:aM):Int×Int:=
 if bB l=0 then (if gK l 1048576 [] then (gS (fun w=>gK l w []) 40 (-1) 1048576,0) else (0,9)) else (0,bB l)
def tc(b:au)(n:Int):Nat:=(b.ar.filter fun y=>decide (y.kind=3/\y.number=n)).length
def B5(l:aM)(n:Int):Nat:=(l.aj.filter fun b=>decide (0<tc b n)).length
def HS(l:aM)(n:Int):Nat:=(l.aj.map fun b=>tc b n).foldl max 0
def wU(l:aM):List Int:=((List.range' 0 100).map fun(n:Nat)=>(n:Int)).filter fun n=>decide (1<B5 l n)
def kB(of:List Int):Nat->List Int->Nat->List (List Int)
 | 0,p,_=>[p]
 | left+1,p,start=>(List.range' start (of.length-left-start)).flatMap fun(i:Nat)=>kB of left (p ++ [(of[i]?).getD 0]) (i+1)
def yD(of:List Int):List (List Int):=(List.range' 0 (of.length+1)).flatMap fun(n:Nat)=>kB of n [] 0
def G9(l:aM):List Int×Int:=
 if bB l=0 then (match (yD (wU l)).find? (gK l 0) with
  | some c=>(c,0)
  | none=>([],9)) else ([],bB l)
def vM(l:aM):List aW:=(l.aj.flatMap au.ar).filter fun y=>decide (y.kind=3)
def qo:List (Int×ByteArray)->List aW->Bool
 | _,[]=>false
 | m,y::r=>match bD m y.number with
  | some w=>if w=y.word then qo (cH m y.number y.word) r else true
  | none=>qo (cH m y.number y.word) r
def tv(l:aM):Int:=(vM l).foldl (fun m y=>max m y.number) 0
def Qd(l:aM):List Int:=((List.range' 1 (tv l).toNat).map fun(n:Nat)=>(n:Int)).filter fun n=>decide (B5 l n=0)
def Pp(l:aM):List Int:=((List.range' 1 (tv l).toNat).map fun(n:Nat)=>(n:Int)).filter fun n=>decide (B5 l n≠0)&&decide (1<HS l n)
def MG(l:aM):List Int×List Int×Int:=
 if bB l=0 then (if qo [] (vM l) then ([],[],5) else (Qd l,Pp l,0)) else ([],[],bB l)
theorem C8:∀ {r:List aW} {k:Nat},(∀ x∈r,qO x=0)->kK r k=(0,0)
 | [],_,_=>rfl
 | y::r,k,h=>by rw[kK,if_pos (h y (List.mem_cons_self ..))];exact C8 fun x hx=>h x (List.mem_cons_of_mem _ hx)
theorem C9:∀ {r:List aW} {k:Nat},(kK r k).2=0 -> ∀ x∈r,qO x=0
 | [],_,_,x,hx=>by cases hx
 | y::r,k,h,x,hx=>by
  rw[kK]at h;split at h
  ·rename_i h1
   rcases List.mem_cons.1 hx with rfl|hx
   ·exact h1
   ·exact C9 h x hx
  ·rename_i h1;exact absurd h h1
theorem xr:∀ {bs pre:List au} {i:Nat},(iv pre bs i).2.2=0 ↔ ∀ k b,bs[k]?=some b->pP (pre++bs.take k) b=0 /\ ∀ x∈b.ar,qO x=0
 | [],pre,i=>by simp[iv]
 | c::r,pre,i=>by
  rw[iv];by_cases h1:pP pre c=0
  ·rw[if_pos h1]
   by_cases h2:(kK c.ar 0).2=0
   ·rw[if_pos h2,xr]
    constructor
    ·intro h k b hb
     cases k with
     | zero=>
      rw[List.getElem?_cons_zero]at hb;cases hb;rw[List.take_zero,List.append_nil];exact⟨h1,C9 h2⟩
     | succ k=>
      rw[List.getElem?_cons_succ]at hb;have:=h k b hb;rw[List.take_succ_cons]
      rwa [List.append_assoc]at this
    ·intro h k b hb
     have:=h (k+1) b (by rw[List.getElem?_cons_succ];exact hb);rw[List.take_succ_cons]at this
     rwa [List.append_assoc]
   ·rw[if_neg h2]
    constructor
    ·intro h;exact absurd h h2
    ·intro h
     have:=(h 0 c rfl).2;exact absurd (by rw[C8 this]) h2
  ·rw[if_neg h1]
   constructor
   ·intro h;exact absurd h h1
   ·intro h
    have:=(h 0 c rfl).1;rw[List.take_zero,List.append_nil]at this;exact absurd this h1
theorem HI{n lo hi:Int}:fX n lo hi=true↔lo<=n/\n<=hi:=by
 unfold fX;rw[Bool.and_eq_true,decide_eq_true_eq,decide_eq_true_eq]
theorem dH{n lo hi:Int}:fP n lo hi=false↔lo<=n/\n<=hi:=by
 unfold fP;rw[Bool.not_eq_false',HI]
theorem la{l:aM}:bB l=0↔(0<=l.near/\l.near<=60)/\(1<=l.aj.length/\l.aj.length<=3) /\ ∀ k b,l.aj[k]?=some b->pP (l.aj.take k) b=0 /\ ∀ x∈b.ar,qO x=0:=by
 unfold bB fK
 cases h1:fP l.near 0 60 with
 | true=>
  simp only[if_true];constructor
  ·intro h;cases h
  ·intro h
   have:=dH.2 h.1;rw[h1]at this;cases this
 | false=>
  simp only[Bool.false_eq_true,if_false];have h1:=dH.1 h1
  cases h2:fP l.aj.length 1 3 with
  | true=>
   simp only[if_true];constructor
   ·intro h;cases h
   ·intro h
    have:=dH (n:=l.aj.length) (lo:=1) (hi:=3) |>.2 (by omega)
    rw[h2]at this;cases this
  | false=>
   simp only[Bool.false_eq_true,if_false];have h2:=dH.1 h2;rw[xr];simp only[List.nil_append];exact⟨fun h=>⟨h1,by omega,h⟩,fun h=>h.2.2⟩
theorem jJ{l:aM}(h:bB l=0):fK l=(0,0,0):=by
 have key:∀ {bs pre:List au} {i:Nat},(iv pre bs i).2.2=0->iv pre bs i=(0,0,0):=by
  intro bs
  induction bs with
  | nil=>intros;rfl
  | cons c r ih=>
   intro pre i h;rw[iv]at h ⊢;by_cases h1:pP pre c=0
   ·rw[if_pos h1]at h ⊢
    by_cases h2:(kK c.ar 0).2=0
    ·rw[if_pos h2]at h ⊢
     exact ih h
    ·rw[if_neg h2]at h;exact absurd h h2
   ·rw[if_neg h1]at h;exact absurd h h1
 have hi:=la.1 h;have h1:=dH.2 hi.1;have h2:=dH (n:=l.aj.length) (lo:=1) (hi:=3) |>.2 (by omega)
 unfold bB fK at h;unfold fK;rw[h1,h2]at h ⊢;simp only[Bool.false_eq_true,if_false]at h ⊢;exact key h
structure Bq(x:aW):Prop where
 shown:0<=x.shown/\x.shown<=20000
 kind:1<=x.kind/\x.kind<=3
 number:0<=x.number/\x.number<=99
 pass:x.kind=1->eH x.word=true/\x.number=0
 set:x.kind=2->x.word = .empty/\x.number=0
 rep:x.kind=3->eH x.word=true/\1<=x.number
theorem xF{x:aW}:qO x=0↔Bq x:=by
 unfold qO
 cases h0:fP x.shown 0 20000 with
 | true=>
  simp only[if_true];refine⟨fun h=>(by cases h),fun h=>?_⟩;have:=dH.2 h.shown;rw[h0]at this;cases this
 | false=>
  have h0:=dH.1 h0;simp only[Bool.false_eq_true,if_false];by_cases h1:x.kind=1
  ·rw[if_pos h1]
   constructor
   ·intro h
    split at h;case isFalse=>cases h
    rename_i h2;rw[Bool.and_eq_true,decide_eq_true_eq]at h2;exact⟨h0,by omega,by omega,fun _=>h2,fun h=>by omega,fun h=>by omega⟩
   ·intro h
    rw[if_pos (by rw[(h.pass h1).1,decide_eq_true (h.pass h1).2];rfl)]
  ·rw[if_neg h1]
   by_cases h2:x.kind=2
   ·rw[if_pos h2]
    constructor
    ·intro h
     split at h;case isFalse=>cases h
     rename_i h3;rw[Bool.and_eq_true,decide_eq_true_eq,decide_eq_true_eq]at h3;exact⟨h0,by omega,by omega,fun h=>by omega,fun _=>h3,fun h=>by omega⟩
    ·intro h
     rw[if_pos (by rw[decide_eq_true (h.set h2).1,decide_eq_true (h.set h2).2];rfl)]
   ·rw[if_neg h2]
    by_cases h3:x.kind=3
    ·rw[if_pos h3]
     constructor
     ·intro h
      split at h;case isFalse=>cases h
      rename_i h4;rw[Bool.and_eq_true,Bool.not_eq_true',dH]at h4;exact⟨h0,by omega,by omega,fun h=>by omega,fun h=>by omega,fun _=>⟨h4.1,h4.2.1⟩⟩
     ·intro h
      have:=dH (n:=x.number) (lo:=1) (hi:=99) |>.2 ⟨(h.rep h3).2,h.number.2⟩
      rw[if_pos (by rw[(h.rep h3).1,this];rfl)]
    ·rw[if_neg h3]
     exact⟨fun h=>(by cases h),fun h=>by have:=h.kind;omega⟩
structure SZ(pre:List au)(b:au):Prop where
 name:eH b.name=true
 fresh:∀ x∈pre,x.name≠b.name
 off : -720<=b.off.lo/\b.off.lo<=b.off.hi/\b.off.hi<=720
 set : -720<=b.set.lo/\b.set.lo<=b.set.hi/\b.set.hi<=720
 ar:b.ar.length<=8
theorem ns{pre:List au}{b:au}:pP pre b=0↔SZ pre b:=by
 unfold pP
 cases h1:eH b.name with
 | false=>
  simp only[Bool.false_eq_true,if_false];exact⟨fun h=>(by cases h),fun h=>by rw[h.name]at h1;cases h1⟩
 | true=>
  simp only[if_true]
  cases h2:pre.any fun x=>decide (x.name=b.name) with
  | true=>
   simp only[if_true];refine⟨fun h=>(by cases h),fun h=>?_⟩;rw[List.any_eq_true]at h2;obtain⟨x,hx,he⟩:=h2;exact absurd (of_decide_eq_true he) (h.fresh x hx)
  | false=>
   simp only[Bool.false_eq_true,if_false];have zH:∀ x∈pre,x.name≠b.name:=fun x hx he=>by
    rw[List.any_eq_false]at h2;exact h2 x hx (decide_eq_true he)
   cases h3:fP b.off.lo (-720) 720||fP b.off.hi (-720) 720||fP b.set.lo (-720) 720||fP b.set.hi (-720) 720 with
   | true=>
    simp only[if_true];refine⟨fun h=>(by cases h),fun h=>?_⟩;have ho:=h.off;have hs:=h.set;rw[dH.2 (by omega),dH.2 (by omega),dH.2 (by omega),dH.2 (by omega)]at h3;cases h3
   | false=>
    simp only[Bool.or_eq_false_iff,dH]at h3;simp only[Bool.false_eq_true,if_false]
    cases h4:decide (b.off.lo>b.off.hi)||decide (b.set.lo>b.set.hi) with
    | true=>
     simp only[if_true];refine⟨fun h=>(by cases h),fun h=>?_⟩;have ho:=h.off;have hs:=h.set;rw[decide_eq_false (by omega),decide_eq_false (by omega)]at h4;cases h4
    | false=>
     simp only[Bool.or_eq_false_iff,decide_eq_false_iff_not]at h4;simp only[Bool.false_eq_true,if_false];split
     ·rename_i h5
      exact⟨fun h=>(by cases h),fun h=>by have:=h.ar;omega⟩
     ·exact⟨fun _=>⟨h1,zH,by omega,by omega,by omega⟩,fun _=>rfl⟩
theorem fk{l:aM}(h:bB l=0):pn l:=by
 obtain⟨h1,h2,h3⟩:=la.1 h;refine⟨h1,h2,fun b hb=>?_⟩;obtain⟨k,hk⟩:=List.getElem?_of_mem hb;obtain⟨h4,h5⟩:=h3 k b hk;have h4:=ns.1 h4;exact⟨h4.off,h4.set,h4.ar,fun x hx=>by have:=xF.1 (h5 x hx);exact⟨this.shown,this.kind,this.number⟩⟩
theorem uL{l:aM}(hR:pn l){w:Int}(hw:0<=w/\w<=1048576)(conf:List Int):u3 (bG l w conf):=by
 refine⟨LZ hR w conf,fun e he=>RX hR hw (D5 e he),?_⟩;have h:=yE (N:=dV l) (l:=l) (wider:=w) (conf:=conf) (by simp[dV]) l.aj (i:=0) (done:=[]) (s:=⟨[],0,[],[]⟩) ⟨fun e he=>(by cases he),fun x hx=>(by cases hx),rfl,fun p hp=>(by cases hp)⟩ (fun p hp=>List.mem_cons_of_mem _ hp);have hm:(bG l w conf).many=((iS 0 l.aj).length:Nat):=by have:=h.many;rwa [List.nil_append]at this
 rw[hm,yK];have key:∀ bs:List au,(∀ b∈bs,GU b)->p8 bs<=9*bs.length:=by
  intro bs
  induction bs with
  | nil=>intro _;exact Nat.le_refl _
  | cons b r ih=>
   intro h;have:=ih fun c hc=>h c (List.mem_cons_of_mem _ hc);have h2:=nN b;have h3:=(h b (List.mem_cons_self ..)).ar;rw[rZ,List.length_cons];omega
 have:=key l.aj hR.book;have:=hR.aj;omega
theorem iG{l:aM}{x:c8}:tk l x=true ↔ ∃ (i k:Nat) (b:au) (y:aW),x=⟨i,k⟩/\At l i k b y:=by
 unfold tk;rw[Bool.and_eq_true,Bool.not_eq_true',Bool.not_eq_true',dH,dH];constructor
 ·rintro ⟨⟨h1,h2⟩,h3,h4⟩
  obtain⟨b,hb⟩:∃ b,l.aj[x.book.toNat]?=some b:=⟨_,List.getElem?_eq_getElem (by omega)⟩;have Lb:mI l x.book=b:=by unfold mI;rw[hb];rfl
  rw[Lb]at h4;obtain⟨y,hy⟩:∃ y,b.ar[x.entry.toNat]?=some y:=⟨_,List.getElem?_eq_getElem (by omega)⟩;refine⟨x.book.toNat,x.entry.toNat,b,y,?_,hb,hy⟩;cases x;simp only[c8.mk.injEq];simp only at h1 h3;omega
 ·rintro ⟨i,k,b,y,rfl,h⟩
  have h1:=(List.getElem?_eq_some_iff.1 h.book).1;have h2:=(List.getElem?_eq_some_iff.1 h.fG).1;have Lb:mI l ((⟨i,k⟩:c8).book)=b:=by unfold mI;simp only[Int.toNat_natCast,h.book,Option.getD_some]
  rw[Lb];simp only;omega
theorem kW{l:aM}{i k:Nat}{b:au}{y:aW}(h:At l i k b y):yW l ⟨i,k⟩=⟨i,bE b k⟩:=
 gZ h ((qF l 0 []).pers.2 i b h.book (CW h))
theorem Em{l:aM}{i n:Nat}{b:au}(h:l.aj[i]?=some b)(hn:n<=dm b.ar):(⟨i,n⟩:ck)∈dV l:=List.mem_of_getElem? (Mg h hn)
theorem jN{l:aM}{x:c8}(h0:tk l x=true):yW l x∈dV l:=by
 obtain⟨i,k,b,y,rfl,h⟩:=iG.1 h0;rw[kW h];exact Em h.book (l5 b k)
theorem jO(l:aM):ck.right∈dV l:=List.mem_cons_self ..
theorem wE{l:aM}{w:Int}{conf:List Int}(hf:gK l w conf=true){p:ck}(hp:p∈dV l):s4 (bG l w conf) (fU (bG l w conf) p)=true:=by
 have hs:=qG l w conf;exact(hs.fit hp).2 ((hs.fit hs.right).1 hf)
structure mG(l:aM)(w:Int)(conf:List Int)(t:ck->Int):Prop where
 right:t .right=0
 off:∀ (i:Nat) b,l.aj[i]?=some b->b.off.lo-w<=t ⟨i,0⟩/\t ⟨i,0⟩<=b.off.hi+w
 set:∀ (i:Nat) b (n:Nat),l.aj[i]?=some b->1<=n->n<=dm b.ar->b.set.lo-w<=t ⟨i,n⟩/\t ⟨i,n⟩<=b.set.hi+w
 ord:∀ (i k:Nat) b x y,At l i k b x->At l i (k+1) b y->x.shown-t ⟨i,bE b k⟩<=y.shown-t ⟨i,bE b (k+1)⟩
 rep:∀ (i j m n:Nat) b c x y num,Rep l conf i j m n b c x y num->x.shown-t ⟨i,bE b m⟩=y.shown-t ⟨j,bE c n⟩
theorem wV{w:Int}{p:ck}{s:Span}{t:ck->Int}(h0:t .right=0):(∀ e∈dP w p s,t e.b<=t e.a+e.w)↔s.lo-w<=t p/\t p<=s.hi+w:=by
 unfold dP;constructor
 ·intro h
  have h1:=h _ (List.mem_cons_self ..);have h2:=h ⟨p,.right,w-s.lo⟩ (by simp);simp only at h1 h2;omega
 ·intro h e he
  simp only[List.mem_cons,List.not_mem_nil,or_false]at he;rcases he with rfl|rfl
  ·simp only;omega
  ·simp only;omega
theorem qL{l:aM}{w:Int}{conf:List Int}{t:ck->Int}:xg l w conf t↔mG l w conf t:=by
 constructor
 ·intro h
  refine⟨h.right,fun i b hb=>(wV h.right).1 fun e he=>h.ok e (.off i b hb e he),fun i b n hb h1 h2=>(wV h.right).1 fun e he=>h.ok e (.set i b hb n h1 h2 e he),fun i k b x y hx hy=>?_,fun i j m n b c x y num hr=>?_⟩
  ·have:=h.ok _ (.ord i k b x y hx hy)
   unfold km at this;simp only at this;omega
  ·have h1:=h.ok _ (.rep i j m n b c x y num hr)
   have h2:=h.ok _ (.rep j i n m c b y x num ⟨hr.hb,hr.ha,hr.fb,hr.fa,hr.no⟩);unfold km at h1 h2;simp only at h1 h2;omega
 ·intro h
  refine⟨h.right,fun e he=>?_⟩
  cases he with
  | off i b hb e he=>exact(wV h.right).2 (h.off i b hb) e he
  | set i b hb n h1 h2 e he=>exact(wV h.right).2 (h.set i b n hb h1 h2) e he
  | ord i k b x y hx hy=>
   have:=h.ord i k b x y hx hy;unfold km;simp only;omega
  | rep i j m n b c x y num hr=>
   have:=h.rep i j m n b c x y num hr;unfold km;simp only;omega
theorem Hf{l:aM}{w:Int}{conf:List Int}:gK l w conf=true ↔ ∃ t,mG l w conf t:=by
 rw[KU];constructor
 ·rintro ⟨t,h⟩;exact⟨t,qL.1 h⟩
 ·rintro ⟨t,h⟩;exact⟨t,qL.2 h⟩
def KP(l:aM)(w:Int)(conf:List Int)(p q:ck):Int:=kH (fU (bG l w conf) p) q
theorem KQ{l:aM}{w:Int}{conf:List Int}{t:ck->Int}(ht:mG l w conf t){p q:ck}(hp:p∈dV l)(hq:q∈dV l):t q-t p<=KP l w conf p q:=by
 have:=(Kk (Hf.2 ⟨t,ht⟩) (qL.2 ht) hq hp).2;exact this
theorem Am{l:aM}{w:Int}{conf:List Int}(hf:gK l w conf=true){p q:ck}(hp:p∈dV l)(hq:q∈dV l):∃ t,mG l w conf t/\t q-t p=KP l w conf p q:=by
 obtain⟨t,ht,he⟩:=(CU hf hq hp).1;exact⟨t,qL.1 ht,he⟩
def ny(l:aM)(t:ck->Int)(x:c8):Int:=(kI l x).shown-t (yW l x)
theorem yu(l:aM)(x:c8):iF l x=⟨(kI l x).shown-KP l 0 [] .right (yW l x),(kI l x).shown+KP l 0 [] (yW l x) .right⟩:=by
 unfold iF cK KP;simp only[Int.sub_neg]
theorem HK{l:aM}{t:ck->Int}(ht:mG l 0 [] t){x:c8}(hx:tk l x=true):(iF l x).lo<=ny l t x/\ny l t x<=(iF l x).hi:=by
 have h1:=KQ ht (jN hx) (jO l);have h2:=KQ ht (jO l) (jN hx);have h0:=ht.right;rw[yu];unfold ny;simp only;omega
theorem On{l:aM}(hf:gK l 0 []=true){x:c8}(hx:tk l x=true):∃ t,mG l 0 [] t/\ny l t x=(iF l x).lo:=by
 obtain⟨t,ht,he⟩:=Am hf (jO l) (jN hx);refine⟨t,ht,?_⟩;have h0:=ht.right;rw[yu];unfold ny;simp only;omega
theorem Om{l:aM}(hf:gK l 0 []=true){x:c8}(hx:tk l x=true):∃ t,mG l 0 [] t/\ny l t x=(iF l x).hi:=by
 obtain⟨t,ht,he⟩:=Am hf (jN hx) (jO l);refine⟨t,ht,?_⟩;have h0:=ht.right;rw[yu];unfold ny;simp only;omega
theorem JD(a r:List aW):dm (a++r)=dm a+dm r:=by
 unfold dm;rw[List.filter_append,List.length_append]
def cj(l:List Int)(n:Nat):Int:=(l[n%l.length]?).getD 0
def fI(s:Span)(n:Int):Int:=s.lo+n%(s.hi-s.lo+1)
theorem iX{s:Span}(h:s.lo<=s.hi)(n:Int):s.lo<=fI s n/\fI s n<=s.hi:=by
 unfold fI;have h1:=Int.emod_nonneg n (show s.hi-s.lo+1≠0 by omega);have h2:=Int.emod_lt_of_pos n (show 0<s.hi-s.lo+1 by omega);omega
structure Bw where
 ar:List aW
 times:List Int
 mine:List Int
 off:Int
 now:Int
 w:List Int
def n9(w:List Int)(n:Int):Int:=(w[n.toNat]?).getD 0
def xV(s:Bw)(z:aW):Bool:=decide (z.kind=3)&&(cw s.ar z.number 0).isNone
def H5(y:List Int)(b i:Nat)(z:aW)(s:Bw):Int:=
 if xV s z&&decide (0<n9 s.w z.number) then n9 s.w z.number else s.now+cj y (5*b+i+1)%60
def qV(y:List Int)(b i:Nat)(z:aW)(s:Bw):Bool:=decide (H5 y b i z s<s.now)||(decide (H5 y b i z s+s.off<0)||decide (20000<H5 y b i z s+s.off))
def qX(x y:List Int)(b i:Nat)(set:Span)(z:aW)(s:Bw):Bw:=
 if qV y b i z s then s else
  ⟨s.ar ++ [{ z with shown:=H5 y b i z s+s.off }],s.times ++ [H5 y b i z s],
   if z.kind=2 then s.mine ++ [fI set (cj x (7*b+i+1))] else s.mine,
   if z.kind=2 then fI set (cj x (7*b+i+1)) else s.off,
   H5 y b i z s,
   if xV s z then s.w.set z.number.toNat (H5 y b i z s) else s.w⟩
def zi(x y:List Int)(b:Nat)(set:Span):Nat->List aW->Bw->Bw
 | _,[],s=>s
 | i,z::r,s=>zi x y b set (i+1) r (qX x y b i set z s)
structure G0 where
 aj:List au
 times:List (List Int)
 kV:List (List Int)
 w:List Int
def uY(x y:List Int)(b:Nat)(bk:au)(w:List Int):Bw:=⟨[],[],[fI bk.off (cj x (7*b))],fI bk.off (cj x (7*b)),1000+cj y (5*b)%100,w⟩
def Xv(x y:List Int)(b:Nat)(bk:au)(s:G0):G0:=
 let e:=zi x y b bk.set 0 bk.ar (uY x y b bk s.w)
 ⟨s.aj ++ [{ bk with ar:=e.ar }],s.times ++ [e.times],s.kV ++ [e.mine],e.w⟩
def MX(x y:List Int):Nat->List au->G0->G0
 | _,[],s=>s
 | b,bk::r,s=>MX x y (b+1) r (Xv x y b bk s)
def nO(l:aM)(x y:List Int):G0:=MX x y 0 l.aj ⟨[],[],[],List.replicate 100 0⟩
def Qo(l:aM)(x y:List Int):aM:=⟨l.near,(nO l x y).aj⟩
structure CN(b:au)(T O w:List Int):Prop where
 tl:T.length=b.ar.length
 ol:O.length=dm b.ar+1
 off:∀ o,O[0]?=some o->b.off.lo<=o/\o<=b.off.hi
 set:∀ (n:Nat) o,1<=n->O[n]?=some o->b.set.lo<=o/\o<=b.set.hi
 time:∀ (k:Nat) e,b.ar[k]?=some e -> ∃ o,O[bE b k]?=some o/\T[k]?=some (e.shown-o)
 ord:∀ (k:Nat) u v,T[k]?=some u->T[k+1]?=some v->u<=v
 rep:∀ num (m:Nat),cw b.ar num 0=some m -> ∃ u,T[m]?=some u/\0<u/\n9 w num=u
 fG:∀ e∈b.ar,Bq e
structure S5(off set:Span)(s:Bw)(name:ByteArray):Prop where
 book:CN ⟨name,off,set,s.ar⟩ s.times s.mine s.w
 last:s.mine[dm s.ar]?=some s.off
 le:∀ (k:Nat) u,s.times[k]?=some u->u<=s.now
 pos:0<s.now
 wl:s.w.length=100
theorem vj{n:Int}{y:aW}:∀ {r:List aW} {k:Nat},cw (r ++ [y]) n k=match cw r n k with
  | some m=>some m
  | none=>if y.kind=3/\y.number=n then some (k+r.length) else none
 | [],k=>by
  rw[List.nil_append,cw,cw];split<;>simp[cw]
 | z::r,k=>by
  rw[List.cons_append,cw,cw];split
  ·rfl
  ·rw[vj (r:=r) (k:=k+1)]
   cases cw r n (k+1) with
   | some m=>rfl
   | none=>
    simp only[List.length_cons];rw[show k+1+r.length=k+(r.length+1) by omega]
theorem Gl{name:ByteArray}{off set:Span}{r:List aW}{y:aW}{k:Nat}(hk:k<=r.length):bE ⟨name,off,set,r ++ [y]⟩ k=bE ⟨name,off,set,r⟩ k:=by
 unfold bE;simp only;rw[List.take_append_of_le_length hk]
theorem G3{w:List Int}{n m v:Int}(hn:0<=n)(hn9:n.toNat<w.length)(hm:0<=m):n9 (w.set n.toNat v) m=if m=n then v else n9 w m:=by
 unfold n9;rw[List.getElem?_set];by_cases h:m=n
 ·subst h
  rw[if_pos rfl,if_pos hn9,if_pos rfl];rfl
 ·rw[if_neg (by omega),if_neg h]
theorem O9{x y:List Int}{b i:Nat}{off set:Span}{name:ByteArray}{z:aW}{s:Bw}(iQ:set.lo<=set.hi)(hz:Bq z)(hy:∀ n∈y,0<=n)(h:S5 off set s name):S5 off set (qX x y b i set z s) name/\(∀ n,0<=n->0<n9 s.w n->n9 (qX x y b i set z s).w n=n9 s.w n):=by
 have P3:∀ n,0<=cj y n:=fun n=>by
  unfold cj
  cases h:y[n%y.length]? with
  | none=>simp
  | some v=>exact hy v (List.mem_of_getElem? h)
 unfold qX
 cases ho:qV y b i z s with
 | true=>rw[if_pos rfl];exact⟨h,fun n _ _=>rfl⟩
 | false=>
  simp only[Bool.false_eq_true,if_false];unfold qV at ho;simp only[Bool.or_eq_false_iff,decide_eq_false_iff_not]at ho;obtain⟨Rq,ZR,ho3⟩:=ho;generalize pV:H5 y b i z s=to at Rq ZR ho3 ⊢;have we:=h.pos;have hB:=h.book;have LJ:=hB.tl;have Rr:=hB.ol;simp only at LJ Rr;have pT:=hz.number;have LM:=h.wl;have E2:∀ n,0<=n->0<n9 s.w n->n9 (if xV s z then s.w.set z.number.toNat to else s.w) n=n9 s.w n:=fun n hn hp=>by
   split
   ·rename_i hf
    rw[G3 pT.1 (by omega) hn];split
    ·rename_i he
     subst he;rw[<- pV];unfold H5;rw[hf,decide_eq_true hp];rfl
    ·rfl
   ·rfl
  have hsn:dm (s.ar ++ [{ z with shown:=to+s.off }])=dm s.ar+if z.kind=2 then 1 else 0:=by
   rw[JD];show dm s.ar+dm [({ z with shown:=to+s.off }:aW)]=_;rw[sg];rfl
  have P0:bE ⟨name,off,set,s.ar ++ [{ z with shown:=to+s.off }]⟩ s.ar.length=dm s.ar:=by
   unfold bE;simp only;rw[List.take_left' rfl]
  have Xe:∀ n o,s.mine[n]?=some o->(if z.kind=2 then s.mine ++ [fI set (cj x (7*b+i+1))] else s.mine)[n]?=some o:=fun n o mX=>by
   split
   ·rw[List.getElem?_append_left (List.getElem?_eq_some_iff.1 mX).1];exact mX
   ·exact mX
  refine⟨⟨⟨?_,?_,?_,?_,?_,?_,?_,?_⟩,?_,?_,?_,?_⟩,E2⟩
  ·simp only[List.length_append,List.length_singleton];omega
  ·simp only
   rw[hsn];split
   ·simp only[List.length_append,List.length_singleton];omega
   ·omega
  ·intro o h0
   obtain⟨o',zJ⟩:∃ o',s.mine[0]?=some o':=⟨_,List.getElem?_eq_getElem (by omega)⟩;have:=Xe 0 o' zJ;simp only at h0;rw[h0]at this;cases this;exact hB.off o zJ
  ·intro n o hn mX
   simp only at mX;by_cases dN:n<s.mine.length
   ·obtain⟨o',zJ⟩:∃ o',s.mine[n]?=some o':=⟨_,List.getElem?_eq_getElem dN⟩
    have:=Xe n o' zJ;rw[mX]at this;cases this;exact hB.set n o hn zJ
   ·split at mX
    ·rw[List.getElem?_append_right (by omega)]at mX
     have:=List.mem_of_getElem? mX;rw[List.mem_singleton]at this;rw[this];exact iX iQ _
    ·rw[List.getElem?_eq_none (by omega)]at mX;cases mX
  ·intro k e hk
   simp only at hk ⊢;by_cases dN:k<s.ar.length
   ·rw[List.getElem?_append_left dN]at hk
    obtain⟨o,h1,h2⟩:=hB.time k e hk;refine⟨o,?_,?_⟩
    ·rw[Gl (by omega)];exact Xe _ _ h1
    ·rw[List.getElem?_append_left (by omega)];exact h2
   ·rw[List.getElem?_append_right (by omega)]at hk
    have DC:k=s.ar.length:=by
     have:=(List.getElem?_eq_some_iff.1 hk).1;simp at this;omega
    subst DC;rw[Nat.sub_self,List.getElem?_cons_zero]at hk;cases hk;refine⟨s.off,?_,?_⟩
    ·rw[P0];exact Xe _ _ h.last
    ·rw[List.getElem?_append_right (by omega),LJ,Nat.sub_self,List.getElem?_cons_zero]
     simp only
     congr 1;omega
  ·intro k u v hu hv
   simp only at hu hv;by_cases dN:k+1<s.times.length
   ·rw[List.getElem?_append_left (by omega)]at hu
    rw[List.getElem?_append_left dN]at hv;exact hB.ord k u v hu hv
   ·rw[List.getElem?_append_right (by omega)]at hv
    have:=List.mem_of_getElem? hv;rw[List.mem_singleton]at this;have ZG:k+1-s.times.length<1:=by have:=(List.getElem?_eq_some_iff.1 hv).1;simpa using this
    rw[List.getElem?_append_left (by omega)]at hu;have:=h.le k u hu;omega
  ·intro num m hm
   simp only at hm ⊢;rw[vj]at hm
   cases hf:cw s.ar num 0 with
   | some m'=>
    rw[hf]at hm;cases hm;obtain⟨u,h1,h2,h3⟩:=hB.rep num m hf;obtain⟨e,_,he,_,Ht,_⟩:=mj hf;have AH:=(List.getElem?_eq_some_iff.1 he).1;have Ly:0<=num:=by
     have:=(hB.fG e (List.mem_of_getElem? he)).number;omega
    refine⟨u,?_,h2,?_⟩
    ·rw[List.getElem?_append_left (by omega)];exact h1
    ·rw[E2 num Ly (by omega)];exact h3
   | none=>
    rw[hf]at hm;simp only at hm;split at hm;case isFalse=>cases hm
    rename_i Xo;cases hm
    (try simp only at Xo)
    have UI:xV s z=true:=by
     unfold xV;rw[decide_eq_true Xo.1,Xo.2,hf];rfl
    rw[Nat.zero_add];refine⟨to,?_,by omega,?_⟩
    ·rw[List.getElem?_append_right (by omega),LJ,Nat.sub_self];rfl
    ·rw[if_pos UI,<- Xo.2,G3 pT.1 (by omega) pT.1,if_pos rfl]
  ·intro e he
   simp only at he;rcases List.mem_append.1 he with he|he
   ·exact hB.fG e he
   ·rw[List.mem_singleton]at he
    subst he;exact⟨by simp only;omega,hz.kind,hz.number,hz.pass,hz.set,hz.rep⟩
  ·simp only
   rw[hsn];split
   ·rw[List.getElem?_append_right (by omega),show dm s.ar+1-s.mine.length=0 by omega];rfl
   ·rw[Nat.add_zero];exact h.last
  ·intro k u hu
   simp only at hu ⊢;by_cases dN:k<s.times.length
   ·rw[List.getElem?_append_left dN]at hu
    have:=h.le k u hu;omega
   ·rw[List.getElem?_append_right (by omega)]at hu
    have:=List.mem_of_getElem? hu;rw[List.mem_singleton]at this;omega
  ·simp only;omega
  ·simp only
   split
   ·rw[List.length_set];exact LM
   ·exact LM
theorem CN.mono{b:au}{T O w w':List Int}(h:CN b T O w)(hw:∀ n,0<=n->0<n9 w n->n9 w' n=n9 w n):CN b T O w':=by
 refine⟨h.tl,h.ol,h.off,h.set,h.time,h.ord,fun num m hm=>?_,h.fG⟩;obtain⟨u,h1,h2,h3⟩:=h.rep num m hm;obtain⟨e,_,he,_,Ht,_⟩:=mj hm;have Ly:0<=num:=by
  have:=(h.fG e (List.mem_of_getElem? he)).number;omega
 exact⟨u,h1,h2,by rw[hw num Ly (by omega)];exact h3⟩
theorem EL{x y:List Int}{b:Nat}{off set:Span}{name:ByteArray}(iQ:set.lo<=set.hi)(hy:∀ n∈y,0<=n):∀ (r:List aW) {i:Nat} {s:Bw},(∀ z∈r,Bq z)->S5 off set s name->S5 off set (zi x y b set i r s) name/\(∀ n,0<=n->0<n9 s.w n->n9 (zi x y b set i r s).w n=n9 s.w n)
 | [],i,s,_,h=>⟨h,fun n _ _=>rfl⟩
 | z::r,i,s,hr,h=>by
  obtain⟨h1,h2⟩:=O9 (x:=x) (b:=b) (i:=i) iQ (hr z (List.mem_cons_self ..)) hy h;obtain⟨h3,h4⟩:=EL iQ hy r (i:=i+1) (fun u hu=>hr u (List.mem_cons_of_mem _ hu)) h1;exact⟨h3,fun n h0 hn=>by
   have:=h2 n h0 hn;rw[zi,h4 n h0 (by omega),this]⟩
structure q8(bs:List au)(z:G0):Prop where
 bl:z.aj.length=bs.length
 tl:z.times.length=bs.length
 ol:z.kV.length=bs.length
 wl:z.w.length=100
 book:∀ (i:Nat) b,z.aj[i]?=some b -> ∃ b0 T O,bs[i]?=some b0/\b.name=b0.name/\b.off=b0.off/\b.set=b0.set/\z.times[i]?=some T/\z.kV[i]?=some O/\CN b T O z.w/\b.ar.length<=b0.ar.length
theorem MY{x y:List Int}{b:Nat}{set:Span}:∀ (r:List aW) {i:Nat} {s:Bw},(zi x y b set i r s).ar.length<=s.ar.length+r.length
 | [],i,s=>Nat.le_refl _
 | z::r,i,s=>by
  have h1:=MY (x:=x) (y:=y) (b:=b) (set:=set) r (i:=i+1) (s:=qX x y b i set z s);have h2:(qX x y b i set z s).ar.length<=s.ar.length+1:=by
   unfold qX;split
   ·omega
   ·simp
  rw[zi,List.length_cons];omega
theorem JK{x y:List Int}{bs:List au}{bk:au}{z:G0}(h:q8 bs z)(ho:bk.off.lo<=bk.off.hi)(hs:bk.set.lo<=bk.set.hi)(he:∀ e∈bk.ar,Bq e)(hy:∀ n∈y,0<=n):q8 (bs ++ [bk]) (Xv x y bs.length bk z):=by
 have P3:∀ n,0<=cj y n:=fun n=>by
  unfold cj
  cases h:y[n%y.length]? with
  | none=>simp
  | some v=>exact hy v (List.mem_of_getElem? h)
 have h0:S5 bk.off bk.set (uY x y bs.length bk z.w) bk.name:=by
  refine⟨⟨rfl,rfl,fun o hoo=>?_,fun n o hn mX=>?_,fun k e hk=>by simp[uY]at hk,fun k u v hu=>by simp[uY]at hu,fun num m hm=>(by cases hm),fun e he=>(by cases he)⟩,rfl,fun k u hu=>by simp[uY]at hu,?_,h.wl⟩
  ·simp only[uY,List.getElem?_cons_zero]at hoo
   cases hoo;exact iX ho _
  ·obtain⟨n,rfl⟩:∃ m,n=m+1:=⟨n-1,by omega⟩
   simp[uY]at mX
  ·have:=P3 (5*bs.length)
   show 0<1000+cj y (5*bs.length)%100;omega
 obtain⟨h1,h2⟩:=EL (x:=x) (b:=bs.length) hs hy bk.ar (i:=0) he h0;have hlen:=MY (x:=x) (y:=y) (b:=bs.length) (set:=bk.set) bk.ar (i:=0) (s:=uY x y bs.length bk z.w);unfold Xv;simp only;generalize zi x y bs.length bk.set 0 bk.ar (uY x y bs.length bk z.w)=e at h1 h2 hlen;have Vl:(uY x y bs.length bk z.w).w=z.w:=rfl;have JX:(uY x y bs.length bk z.w).ar.length=0:=rfl;rw[Vl]at h2;have wF:=h.bl;have LJ:=h.tl;have Rr:=h.ol;refine⟨by simp[h.bl],by simp[h.tl],by simp[h.ol],h1.wl,fun i b hb=>?_⟩;simp only at hb ⊢;by_cases dN:i<bs.length
 ·rw[List.getElem?_append_left (by omega)]at hb
  obtain⟨b0,T,O,g1,g2,g3,g4,g5,g6,g7,g8⟩:=h.book i b hb;exact⟨b0,T,O,by rw[List.getElem?_append_left dN];exact g1,g2,g3,g4,by rw[List.getElem?_append_left (by omega)];exact g5,by rw[List.getElem?_append_left (by omega)];exact g6,g7.mono h2,g8⟩
 ·have hi:i=bs.length:=by
   have:=(List.getElem?_eq_some_iff.1 hb).1;simp at this;omega
  subst hi;rw[List.getElem?_append_right (by omega),wF,Nat.sub_self,List.getElem?_cons_zero]at hb;cases hb;refine⟨bk,e.times,e.mine,by rw[List.getElem?_append_right (Nat.le_refl _),Nat.sub_self];rfl,rfl,rfl,rfl,by rw[List.getElem?_append_right (by omega),LJ,Nat.sub_self];rfl,by rw[List.getElem?_append_right (by omega),Rr,Nat.sub_self];rfl,h1.book,by simp only;omega⟩
theorem EM{x y:List Int}(hy:∀ n∈y,0<=n):∀ (r bs:List au) {z:G0},q8 bs z->(∀ bk∈r,bk.off.lo<=bk.off.hi/\bk.set.lo<=bk.set.hi /\ ∀ e∈bk.ar,Bq e)->q8 (bs++r) (MX x y bs.length r z)
 | [],bs,z,h,_=>by rw[List.append_nil];exact h
 | bk::r,bs,z,h,hr=>by
  obtain⟨h1,h2,h3⟩:=hr bk (List.mem_cons_self ..);have h4:=JK (x:=x) h h1 h2 h3 hy;have h5:=EM (x:=x) hy r (bs ++ [bk]) h4 fun b hb=>hr b (List.mem_cons_of_mem _ hb);rw[List.append_assoc,List.length_append]at h5;exact h5
theorem Sm{l:aM}(hb:∀ bk∈l.aj,bk.off.lo<=bk.off.hi/\bk.set.lo<=bk.set.hi /\ ∀ e∈bk.ar,Bq e){x y:List Int}(hy:∀ n∈y,0<=n):q8 l.aj (nO l x y):=by
 have h0:q8 [] ⟨[],[],[],List.replicate 100 0⟩:=⟨rfl,rfl,rfl,by simp,fun i b h=>by simp at h⟩;have:=EM (x:=x) hy l.aj [] h0 hb;exact this
def Gb(O:List (List Int))(p:ck):Int:=if p.book<0 then 0 else (((O[p.book.toNat]?).getD [])[p.n.toNat]?).getD 0
theorem GD{l:aM}{bs:List au}{z:G0}(h:q8 bs z)(hl:l.aj=z.aj):mG l 0 [] (Gb z.kV):=by
 have ev:∀ {i n:Nat} {O:List Int} {o:Int},z.kV[i]?=some O->O[n]?=some o->Gb z.kV ⟨i,n⟩=o:=fun {i n O o} h1 h2=>by
  unfold Gb;rw[if_neg (by simp only;omega)];simp only[Int.toNat_natCast,h1,Option.getD_some,h2]
 refine⟨rfl,fun i b hb=>?_,fun i b n hb h1 h2=>?_,fun i k b u v hu hv=>?_,fun i j m n b c u v num hr=>?_⟩
 ·rw[hl]at hb
  obtain⟨b0,T,O,_,_,_,_,_,g6,g7,_⟩:=h.book i b hb;obtain⟨o,ho⟩:∃ o,O[0]?=some o:=⟨_,List.getElem?_eq_getElem (by rw[g7.ol];omega)⟩;have e0:(⟨(i:Int),0⟩:ck)=⟨i,(0:Nat)⟩:=rfl;rw[e0,ev g6 ho];have:=g7.off o ho;omega
 ·rw[hl]at hb
  obtain⟨b0,T,O,_,_,_,_,_,g6,g7,_⟩:=h.book i b hb;obtain⟨o,ho⟩:∃ o,O[n]?=some o:=⟨_,List.getElem?_eq_getElem (by rw[g7.ol];omega)⟩;rw[ev g6 ho];have:=g7.set n o h1 ho;omega
 ·have hb:=hu.book
  rw[hl]at hb;obtain⟨b0,T,O,_,_,_,_,_,g6,g7,_⟩:=h.book i b hb;obtain⟨o,h1,h2⟩:=g7.time k u hu.fG;obtain⟨o',h3,h4⟩:=g7.time (k+1) v hv.fG;rw[ev g6 h1,ev g6 h3];exact g7.ord k _ _ h2 h4
 ·have hb:=hr.ha.book
  have hc:=hr.hb.book;rw[hl]at hb hc;obtain⟨b0,T,O,_,_,_,_,_,g6,g7,_⟩:=h.book i b hb;obtain⟨c0,T',O',_,_,_,_,_,k6,k7,_⟩:=h.book j c hc;obtain⟨o,h1,h2⟩:=g7.time m u hr.ha.fG;obtain⟨o',h3,h4⟩:=k7.time n v hr.hb.fG;rw[ev g6 h1,ev k6 h3];obtain⟨p,h5,_,h6⟩:=g7.rep num m hr.fa;obtain⟨q,h7,_,h8⟩:=k7.rep num n hr.fb;rw[h2]at h5;rw[h4]at h7;cases h5;cases h7;rw[<- h6,<- h8]
theorem JJ{l:aM}{bs:List au}{z:G0}(h:q8 bs z)(hl:l.aj=z.aj){i k:Nat}{b:au}{e:aW}(hA:At l i k b e):∃ T u,z.times[i]?=some T/\T[k]?=some u/\ny l (Gb z.kV) ⟨i,k⟩=u:=by
 have hb:=hA.book;rw[hl]at hb;obtain⟨b0,T,O,_,_,_,_,g5,g6,g7,_⟩:=h.book i b hb;obtain⟨o,h1,h2⟩:=g7.time k e hA.fG;refine⟨T,_,g5,h2,?_⟩;unfold ny;rw[kW hA,eg hA];unfold Gb;rw[if_neg (by simp only;omega)];simp only[Int.toNat_natCast,g6,Option.getD_some,h1]
end Go.PX
namespace Go.PX
open Go.Proofs Go.RowKit Go.ChangeShapes
theorem c3:Tryz.prog.cellsOf 3=1:=by kernel_rfl
theorem c5:Tryz.prog.cellsOf 5=1:=by kernel_rfl
theorem c9:Tryz.prog.cellsOf 9=1:=by kernel_rfl
theorem c22:Tryz.prog.cellsOf 22=1:=by kernel_rfl
theorem c24:Tryz.prog.cellsOf 24=2:=by kernel_rfl
theorem c49:Tryz.prog.cellsOf 49=2:=by kernel_rfl
theorem c29:Tryz.prog.cellsOf 29=1:=by kernel_rfl
theorem c30:Tryz.prog.cellsOf 30=2*1:=by kernel_rfl
theorem c31:Tryz.prog.cellsOf 31=2*1:=by kernel_rfl
theorem c84:Tryz.prog.cellsOf 84=4:=by kernel_rfl
theorem XN:Tryz.prog.cellsOf 240=1:=by kernel_rfl
theorem c77:Tryz.prog.cellsOf 77=1:=by kernel_rfl
theorem c79:Tryz.prog.cellsOf 79=6:=by kernel_rfl
theorem QD{n:Int}(h:(Lit.int .u8 n).wf=true):0<=n/\n<=255:=by
 simp only[Lit.wf,Bool.and_eq_true,decide_eq_true_eq]at h;exact h
theorem Wp{n:Int}(h:(Lit.int .u16 n).wf=true):0<=n/\n<=65535:=by
 simp only[Lit.wf,Bool.and_eq_true,decide_eq_true_eq]at h;exact h
theorem Rd.Vo{P:Program}{W:World}{t:TypeId}{k:IntKind}(ht:P.underlying t=some (.int k)):Rd P W t fun ds=>∃ n,ds = [.int k n]/\(Lit.int k n).wf=true:=by
 refine⟨?_⟩;intro H enc sp held fuel cs x h;obtain⟨n,rfl,_,hw⟩:=DataW.trod_int ht h;exact⟨[.int k n],⟨n,rfl,hw⟩,_,[],rfl,rfl,rfl⟩
section
variable (W : World)
theorem o5:Rd Tryz.prog W 3 fun ds=>∃ n,ds = [i64 n]:=Rd.int Tryz.underlying3
theorem MD:Rd Tryz.prog W 9 fun ds=>∃ s,ds = [.str s]:=Rd.str Tryz.underlying9
theorem MA:Rd Tryz.prog W 5 fun ds=>∃ n,ds = [.int .u8 n]/\0<=n/\n<=255:=(Rd.Vo Tryz.underlying5).mono fun ds ⟨n,h,w⟩=>⟨n,h,QD w⟩
theorem V8:Rd Tryz.prog W 240 fun ds=>∃ n,ds = [.int .u16 n]/\0<=n/\n<=65535:=(Rd.Vo Tryz.underlying240).mono fun ds ⟨n,h,w⟩=>⟨n,h,Wp w⟩
theorem MC:Rd Tryz.prog W 49 fun ds=>∃ p:Span,ds=p.cells:=
 (Rd.struct Tryz.underlying49 c49 (.cons rfl c3 (o5 W) (.cons rfl c3 (o5 W) (.nil _)))).mono fun ds h=>by
  obtain⟨_,_,rfl,⟨a,rfl⟩,_,_,rfl,⟨b,rfl⟩,rfl⟩:=h;exact⟨⟨a,b⟩,rfl⟩
theorem V4:Rd Tryz.prog W 84 fun ds=>∃ x:aW,ds=x.cells:=
 (Rd.struct Tryz.underlying84 c84 (.cons rfl c3 (o5 W) (.cons rfl c3 (o5 W) (.cons rfl c9 (MD W) (.cons rfl c3 (o5 W) (.nil _)))))).mono fun ds h=>by
  obtain⟨_,_,rfl,⟨a,rfl⟩,_,_,rfl,⟨b,rfl⟩,_,_,rfl,⟨c,rfl⟩,_,_,rfl,⟨d,rfl⟩,rfl⟩:=h;exact⟨⟨a,b,c,d⟩,rfl⟩
theorem Sh:Rd Tryz.prog W 77 fun ds=>∃ l:List aW,ds = [kJ l]:=
 (Rd.slice Tryz.underlying77 c84 (by omega) (V4 W)).mono fun ds h=>by
  obtain⟨es,rfl,he⟩:=h;obtain⟨l,rfl⟩:=qE (f:=aW.cells) (fun _ h=>h) he;exact⟨l,rfl⟩
theorem Sf:Rd Tryz.prog W 79 fun ds=>∃ b:au,ds=b.cells:=
 (Rd.struct Tryz.underlying79 c79 (.cons rfl c9 (MD W) (.cons rfl c49 (MC W) (.cons rfl c49 (MC W) (.cons rfl c77 (Sh W) (.nil _)))))).mono fun ds h=>by
  obtain⟨_,_,rfl,⟨a,rfl⟩,_,_,rfl,⟨b,rfl⟩,_,_,rfl,⟨c,rfl⟩,_,_,rfl,⟨d,rfl⟩,rfl⟩:=h;exact⟨⟨a,b,c,d⟩,rfl⟩
theorem OY:Rd Tryz.prog W 22 fun ds=>∃ l:List au,ds = [bF l]:=
 (Rd.slice Tryz.underlying22 c79 (by omega) (Sf W)).mono fun ds h=>by
  obtain⟨es,rfl,he⟩:=h;obtain⟨l,rfl⟩:=qE (f:=au.cells) (fun _ h=>h) he;exact⟨l,rfl⟩
theorem V5:Rd Tryz.prog W 24 fun ds=>∃ c:aM,ds=c.cells:=
 (Rd.struct Tryz.underlying24 c24 (.cons rfl c3 (o5 W) (.cons rfl c22 (OY W) (.nil _)))).mono fun ds h=>by
  obtain⟨_,_,rfl,⟨a,rfl⟩,_,_,rfl,⟨b,rfl⟩,rfl⟩:=h;exact⟨⟨a,b⟩,rfl⟩
theorem Sk:Rd Tryz.prog W 29 fun ds=>∃ l:List Int,ds = [.vs (l.map fun b=>[D.int .u16 b])] /\ ∀ x∈l,0<=x/\x<=65535:=
 (Rd.slice Tryz.underlying29 XN (by omega) (V8 W)).mono fun ds h=>by
  obtain⟨es,rfl,he⟩:=h;have:∃ l:List Int,es=l.map (fun b=>[D.int .u16 b]) /\ ∀ x∈l,0<=x/\x<=65535:=by
   induction es with
   | nil=>exact⟨[],rfl,fun b h=>by cases h⟩
   | cons e r ih=>
    obtain⟨l,h1,h2⟩:=ih fun x hx=>he x (by simp[hx]);obtain⟨n,h3,h4⟩:=he e (by simp);refine⟨n::l,by rw[h3,h1];rfl,fun b hb=>?_⟩;rcases List.mem_cons.1 hb with rfl|hb
    ·exact h4
    ·exact h2 b hb
  obtain⟨l,rfl,h2⟩:=this;exact⟨l,rfl,h2⟩
theorem O1:EV Tryz.prog W 30 fun ds=>∃ a b:List Int,ds = [.vs (a.map fun b=>[D.int .u16 b]),.vs (b.map fun b=>[D.int .u16 b])]/\(∀ x∈a,0<=x/\x<=65535)/\(∀ x∈b,0<=x/\x<=65535):=
 (EV.array Tryz.underlying30 c30 c29 (Rd.z (Sk W))).mono fun ds h=>by
  obtain⟨EX,rfl,hl,hd⟩:=h
  match EX,hl with
  | [x,y],_=>
   obtain⟨a,rfl,ha⟩:=hd x (by simp);obtain⟨b,rfl,hb⟩:=hd y (by simp);exact⟨a,b,rfl,ha,hb⟩
theorem V3:EV Tryz.prog W 31 fun ds=>∃ a b:Int,ds = [.int .u8 a,.int .u8 b]/\(0<=a/\a<=255)/\(0<=b/\b<=255):=
 (EV.array Tryz.underlying31 c31 c5 (Rd.z (MA W))).mono fun ds h=>by
  obtain⟨EX,rfl,hl,hd⟩:=h
  match EX,hl with
  | [x,y],_=>
   obtain⟨a,rfl,ha⟩:=hd x (by simp);obtain⟨b,rfl,hb⟩:=hd y (by simp);exact⟨a,b,rfl,ha,hb⟩
end
end Go.PX
namespace Go.PX
open Go.Proofs
def eY{α:Type}(f:List α->α->Int):List α->List α->Int->Int×Int
 | _,[],_=>(0,0)
 | b,x::r,i=>if f b x=0 then eY f (b ++ [x]) r (i+1) else (i,f b x)
def tri(p:Int×Int×Int):D:=.tup [i64 p.1,i64 p.2.1,i64 p.2.2]
theorem rL{α:Type}{f:List α->α->Int}:∀ {l:List α} {b:List α} {i:Int},(eY f b l i).2=0 -> ∀ x∈l,∃ b',f b' x=0
 | [],_,_,_,x,hx=>by cases hx
 | y::r,b,i,h,x,hx=>by
  simp only[eY]at h;split at h
  ·rename_i h0
   rcases List.mem_cons.1 hx with rfl|hx
   ·exact⟨b,h0⟩
   ·exact rL h x hx
  ·rename_i h0;exact absurd h h0
theorem gv{n lo hi:Int}:fX n lo hi=true↔lo<=n/\n<=hi:=by
 simp[fX]
def ba(l:List Int):List (List D):=l.map fun n=>[i64 n]
theorem Tm(l:List Int)(v:Int)(hl:l.length<4000000000000000000):bq Tryz.prog 203 [ax l,i64 v] (i64 (indexOf (fun x=>decide (v=x)) l 0)):=by
 refine aI mixed ak Tryz.func203 rfl (ft:=PF) 2 (by decide +kernel) (by rfl) fun {σ} Y st=>?_;conv=>whnf
 refine bx (T:=tys) ak (by exact an mixed ak (by decide +kernel)) l (fun i (_:Unit)=>⟨[(0,.d (ax l)),(1,.d (i64 v)),(7,.d (i64 l.length)),(8,.d (i64 i))],[],st⟩) (fun i r _=>indexOf (fun x=>decide (v=x)) l 0=indexOf (fun x=>decide (v=x)) r i) ()
  (Wk.sub (by repeat' first|constructor|simp[PX.get]) trivial) rfl ?_ ?_
 ·intro i x r _ hx hi hr he
  rw[indexOf]at he;conv=>whnf
  refine af (fun _=>?_) (fun h=>absurd hi (by simpa using h));conv=>whnf
  refine aw hx ?_;conv=>whnf
  refine af (fun h1=>?_) (fun h1=>?_)
  ·conv=>whnf
   rw[if_pos h1]at he;rw[he];exact ab 0 rfl ⟨⟨rfl,rfl⟩,rfl⟩
  ·conv=>whnf
   rw[if_neg (by simp[h1])]at he;refine ae (wrap_i64 (by(try dsimp only);omega)) ?_;conv=>whnf
   exact⟨(),he,(Wk.sub (by repeat' first|constructor|simp[PX.get]) trivial)⟩
 ·intro _ he
  conv=>whnf
  refine af (fun h=>absurd h (by simp)) (fun _=>?_);conv=>whnf
  rw[he];exact ab 0 rfl ⟨⟨rfl,rfl⟩,rfl⟩
theorem Ax(l:List Int)(v:Int)(hl:l.length<4000000000000000000):bq Tryz.prog 169 [ax l,i64 v] (.bool (decide (v∈l))):=by
 refine aI mixed ak Tryz.func169 rfl (ft:=PD) 2 (by decide +kernel) (by rfl) fun {σ} Y st=>?_;conv=>whnf
 refine ai (Tm l v hl) rfl rfl ?_;conv=>whnf
 refine ab 0 rfl ⟨⟨?_,rfl⟩,rfl⟩;have h1:=gR (fun x=>decide (v=x)) l 0 (by omega);have h2:(l.any fun x=>decide (v=x))=decide (v∈l):=by
  rw[Bool.eq_iff_iff];simp
 rw[<- h2,<- h1];rfl
theorem aa5(n lo hi:Int):bq Tryz.prog 164 [i64 n,.ref [i64 lo],.ref [i64 hi]] (.bool (decide (n<lo)||decide (n>hi))):=by
 refine aI mixed ak Tryz.func164 rfl (ft:=TQ) 3 (by decide +kernel) (by rfl) fun {σ} Y st=>?_;conv=>whnf
 refine af (fun hb=>?_) (fun hb=>?_)
 ·have hb:n<lo:=by simpa using hb
  conv=>whnf
  refine ab 0 rfl ⟨⟨?_,rfl⟩,rfl⟩;simp_all[js,hb]
 ·have hb:¬ n<lo:=by simpa using hb
  conv=>whnf
  refine ab 0 rfl ⟨⟨?_,rfl⟩,rfl⟩;simp[js,hb]
theorem aaZ(lo hi:Int)(l:List Int)(hl:l.length<4000000000000000000):bq Tryz.prog 105 [i64 lo,i64 hi,ax l] (.bool (l.any fun n=>decide (n<lo)||decide (n>hi))):=by
 refine aI mixed ak Tryz.func105 rfl (ft:=Tt) 3 (by decide +kernel) (by rfl) fun {σ} Y st=>?_;conv=>whnf
 refine aB (QM l 164 [.ref [i64 lo],.ref [i64 hi]] (fun n=>decide (n<lo)||decide (n>hi)) hl fun x _=>aa5 x lo hi) rfl 1 rfl ?_;conv=>whnf
 exact ab 0 rfl ⟨⟨rfl,rfl⟩,rfl⟩
theorem VA(n lo hi:Int):(decide (n<lo)||decide (n>hi)) = !fX n lo hi:=by
 unfold fX;rw[Bool.eq_iff_iff];simp
theorem oQ(lo hi a:Int):bq Tryz.prog 105 [i64 lo,i64 hi,.vs [[i64 a]]] (.bool (!fX a lo hi)):=by
 exact bq.cast (aaZ lo hi [a] (by simp)) (by simp[VA])
def kx(many:Int):Int->List Int->Int
 | _,[]=>0
 | last,i::r=>if fX i 0 (many-1) then (if i<=last then 2 else kx many i r) else 4
theorem WE(l:List Int)(many:Int)(hm:0<=many/\many<=1000000):bq Tryz.prog 126 [ax l,i64 many] (i64 (kx many (-1) l)):=by
 refine aI mixed ak Tryz.func126 rfl (ft:=TI) 2 (by decide +kernel) (by rfl) fun {σ} Y st=>?_;conv=>whnf
 refine bx (T:=tys) ak (by exact an mixed ak (by decide +kernel)) l (fun i (last:Int)=>⟨[(1,.d (i64 many)),(5,.d (i64 last)),(8,.d (ax l)),(9,.d (i64 l.length)),(10,.d (i64 i))],[],st⟩) (fun i r last=>kx many (-1) l=kx many last r/\(i:Int)<=last+1/\last<many /\ -1<=last) (-1) (Wk.sub (by repeat' first|constructor|simp[PX.get]) trivial) ⟨rfl,by omega,by omega,by omega⟩ ?_ ?_
 ·intro i x r last hx hi hr he
  obtain⟨he,h1,h2,h3⟩:=he;rw[kx]at he;conv=>whnf
  refine af (fun _=>?_) (fun h=>absurd hi (by simpa using h));conv=>whnf
  refine aw hx ?_;conv=>whnf
  refine ae (wrap_i64 (by(try dsimp only);omega)) ?_;conv=>whnf
  refine aB (oQ 0 (many-1) x) rfl 1 rfl ?_;conv=>whnf
  refine af (fun h4=>?_) (fun h4=>?_)
  ·have h4:fX x 0 (many-1)=false:=by simpa using h4
   conv=>whnf
   rw[he,h4];exact ab 0 rfl ⟨⟨rfl,rfl⟩,rfl⟩
  have h4:fX x 0 (many-1)=true:=by simpa using h4
  rw[h4,if_pos rfl]at he;rw[gv]at h4;conv=>whnf
  refine af (fun h5=>?_) (fun h5=>?_)
  ·have h5:x<=last:=by simpa using h5
   conv=>whnf
   rw[he,if_pos h5];exact ab 0 rfl ⟨⟨rfl,rfl⟩,rfl⟩
  have h5:¬ x<=last:=by simpa using h5
  rw[if_neg h5]at he;conv=>whnf
  refine ae (wrap_i64 (by(try dsimp only);omega)) ?_;conv=>whnf
  exact⟨x,⟨he,by omega,by omega,by omega⟩,(Wk.sub (by repeat' first|constructor|simp[PX.get]) trivial)⟩
 ·intro last he
  conv=>whnf
  refine af (fun h=>absurd h (by simp)) (fun _=>?_);conv=>whnf
  rw[he.1];exact ab 0 rfl ⟨⟨rfl,rfl⟩,rfl⟩
structure sD where
 name:ByteArray
 kind:Int
 no:List Int
 deriving DecidableEq
structure Slot where
 bQ:Int
 least:Int
 deriving DecidableEq
structure aA where
 bQ:List sD
 bp:List Slot
 run:Int
 rest:Int
 deriving DecidableEq
def sD.cells(m:sD):List D:=[.str m.name,i64 m.kind,ax m.no]
def Slot.cells(s:Slot):List D:=[i64 s.bQ,i64 s.least]
def tz(l:List sD):D:=.vs (l.map sD.cells)
def Co(l:List Slot):D:=.vs (l.map Slot.cells)
def aA.cells(c:aA):List D:=[tz c.bQ,Co c.bp,i64 c.run,i64 c.rest]
def aA.d(c:aA):D:=.agg c.cells
def bt(l:List (List Int)):D:=.vs (l.map fun r=>[ax r])
theorem aa1(y x:sD):bq Tryz.prog 183 [.agg y.cells,.ref x.cells] (.bool (decide (y.name=x.name))):=by
 refine aI mixed ak Tryz.func183 rfl (ft:=TY) 2 (by decide +kernel) (by rfl) fun {σ} Y st=>?_;conv=>whnf
 exact ab 0 rfl ⟨⟨rfl,rfl⟩,rfl⟩
theorem aa6(l:List sD)(g:FuncId)(bS:List D)(p:sD->Bool)(hl:l.length<4000000000000000000)(hp:∀ x∈l,bq Tryz.prog g (.agg x.cells::bS) (.bool (p x))) :
  bq Tryz.prog 213 [tz l,.clo g bS] (i64 (indexOf p l 0)):=by
 refine aI mixed ak Tryz.func213 rfl (ft:=Uc) 2 (by decide +kernel) (by rfl) fun {σ} Y st=>?_;conv=>whnf
 refine bx (T:=tys) ak (by exact an mixed ak (by decide +kernel)) l (fun i (_:Unit)=>⟨[(0,.d (tz l)),(1,.d (.clo g bS)),(7,.d (i64 l.length)),(8,.d (i64 i))],[],st⟩) (fun i r _=>indexOf p l 0=indexOf p r i) () (Wk.sub (by repeat' first|constructor|simp[PX.get]) trivial) rfl ?_ ?_
 ·intro i x r _ hx hi hr he
  rw[indexOf]at he;conv=>whnf
  refine af (fun _=>?_) (fun h=>absurd hi (by simpa using h));conv=>whnf
  refine aw hx ?_;conv=>whnf
  refine ai (hp x (List.mem_of_getElem? hx)) rfl rfl ?_;conv=>whnf
  refine af (fun h1=>?_) (fun h1=>?_)
  ·conv=>whnf
   rw[he,if_pos h1];exact ab 0 rfl ⟨⟨rfl,rfl⟩,rfl⟩
  ·rw[if_neg (by simp[h1])]at he
   conv=>whnf
   refine ae (wrap_i64 (by(try dsimp only);omega)) ?_;conv=>whnf
   exact⟨(),he,(Wk.sub (by repeat' first|constructor|simp[PX.get]) trivial)⟩
 ·intro _ he
  conv=>whnf
  refine af (fun h=>absurd h (by simp)) (fun _=>?_);conv=>whnf
  rw[he];exact ab 0 rfl ⟨⟨rfl,rfl⟩,rfl⟩
theorem aa0(l:List sD)(g:FuncId)(bS:List D)(p:sD->Bool)(hl:l.length<4000000000000000000)(hp:∀ x∈l,bq Tryz.prog g (.agg x.cells::bS) (.bool (p x))) :
  bq Tryz.prog 182 [tz l,.clo g bS] (.bool (l.any p)):=by
 refine aI mixed ak Tryz.func182 rfl (ft:=TX) 2 (by decide +kernel) (by rfl) fun {σ} Y st=>?_;conv=>whnf
 refine ai (aa6 l g bS p hl hp) rfl rfl ?_;conv=>whnf
 refine ab 0 rfl ⟨⟨?_,rfl⟩,rfl⟩;rw[<- gR p l 0 (by omega)];rfl
def qU(bp:Int)(b:List sD)(x:sD):Int:=
 if eH x.name then (if b.any (fun y=>decide (y.name=x.name)) then 5 else if fX x.kind 0 3 then kx bp (-1) x.no else 7) else 6
def l8(_:List Slot)(s:Slot):Int:=if fX s.bQ 1 2&&fX s.least 0 3 then 0 else 7
def xv(c:aA):Int×Int×Int:=
 let p:=eY (qU c.bp.length) [] c.bQ 0
 if p.2=0 then (0,0,0) else (3,p.1,p.2)
def gB(c:aA):Int×Int×Int:=
  if fX c.bQ.length 1 5&&fX c.bp.length 1 6 then
    (if fX c.run 1 3&&fX c.rest 1 3 then
      (let p:=eY l8 [] c.bp 0
       if p.2=0 then xv c else (2,p.1,p.2))
    else (1,0,7))
  else (1,0,3)
theorem aaO(c:aA):bq Tryz.prog 125 [c.d] (tri (gB c)):=by
 refine aI mixed ak Tryz.func125 rfl (ft:=TH) 1 (by decide +kernel) (by rfl) fun {σ} Y st=>?_;conv=>whnf
 unfold gB;refine aB (oQ 1 5 _) rfl 1 rfl ?_;conv=>whnf
 refine af (fun h0=>?_) (fun h0=>?_)
 ·have h0:fX c.bQ.length 1 5=false:=by simpa using h0
  conv=>whnf
  rw[h0];exact ab 0 rfl ⟨⟨rfl,rfl⟩,rfl⟩
 have h0:fX c.bQ.length 1 5=true:=by simpa using h0
 conv=>whnf
 refine aB (oQ 1 6 _) rfl 1 rfl ?_;conv=>whnf
 refine af (fun h1=>?_) (fun h1=>?_)
 ·have h1:fX c.bp.length 1 6=false:=by simpa using h1
  conv=>whnf
  rw[h0,h1];exact ab 0 rfl ⟨⟨rfl,rfl⟩,rfl⟩
 have h1:fX c.bp.length 1 6=true:=by simpa using h1
 rw[h0,h1];rw[gv]at h0 h1;conv=>whnf
 refine aB (oQ 1 3 _) rfl 1 rfl ?_;conv=>whnf
 refine af (fun h2=>?_) (fun h2=>?_)
 ·have h2:fX c.run 1 3=false:=by simpa using h2
  conv=>whnf
  rw[h2];exact ab 0 rfl ⟨⟨rfl,rfl⟩,rfl⟩
 have h2:fX c.run 1 3=true:=by simpa using h2
 conv=>whnf
 refine aB (oQ 1 3 _) rfl 1 rfl ?_;conv=>whnf
 refine af (fun h3=>?_) (fun h3=>?_)
 ·have h3:fX c.rest 1 3=false:=by simpa using h3
  conv=>whnf
  rw[h2,h3];exact ab 0 rfl ⟨⟨rfl,rfl⟩,rfl⟩
 have h3:fX c.rest 1 3=true:=by simpa using h3
 rw[h2,h3];simp only[Bool.and_self,if_true];conv=>whnf
 refine bx (T:=tys) ak (by exact an mixed ak (by decide +kernel)) c.bp (fun i (_:Unit)=>⟨[(1,.ptr 1 0),(34,.d (Co c.bp)),(35,.d (i64 c.bp.length)),(36,.d (i64 i))],[(1,.box (.dd c.cells))],st⟩) (fun i r _=>eY l8 [] c.bp 0=eY l8 (c.bp.take i) r i) () (Wk.sub (by repeat' first|constructor|simp[PX.get]) ⟨(by first|rfl|simp[PX.get]),trivial⟩) rfl ?_ ?_
 ·intro i x r _ hx hi hr he
  rw[eY]at he;have wg:c.bp.take (i+1)=c.bp.take i ++ [x]:=by rw[List.take_succ,hx];rfl
  conv=>whnf
  refine af (fun _=>?_) (fun h=>absurd hi (by simpa using h));conv=>whnf
  refine aw hx ?_;conv=>whnf
  refine aB (oQ 1 2 _) rfl 1 rfl ?_;conv=>whnf
  refine af (fun h4=>?_) (fun h4=>?_)
  ·have h4:fX x.bQ 1 2=false:=by simpa using h4
   conv=>whnf
   rw[he];simp only[l8,h4];exact ab 0 rfl ⟨⟨rfl,rfl⟩,rfl⟩
  have h4:fX x.bQ 1 2=true:=by simpa using h4
  conv=>whnf
  refine aB (oQ 0 3 _) rfl 1 rfl ?_;conv=>whnf
  refine af (fun h5=>?_) (fun h5=>?_)
  ·have h5:fX x.least 0 3=false:=by simpa using h5
   conv=>whnf
   rw[he];simp only[l8,h4,h5];exact ab 0 rfl ⟨⟨rfl,rfl⟩,rfl⟩
  have h5:fX x.least 0 3=true:=by simpa using h5
  have hs:l8 (c.bp.take i) x=0:=by simp[l8,h4,h5]
  rw[if_pos hs,<- wg]at he;conv=>whnf
  refine ae (wrap_i64 (by(try dsimp only);omega)) ?_;conv=>whnf
  exact⟨(),he,(Wk.sub (by repeat' first|constructor|simp[PX.get]) ⟨(by first|rfl|simp[PX.get]),trivial⟩)⟩
 intro _ he;rw[List.take_length,eY]at he;rw[he];simp only[if_true];conv=>whnf
 refine af (fun h=>absurd h (by simp)) (fun _=>?_);conv=>whnf
 unfold xv;refine bx (T:=tys) ak (by exact an mixed ak (by decide +kernel)) c.bQ (fun i (_:Unit)=>⟨[(1,.ptr 1 0),(54,.d (tz c.bQ)),(55,.d (i64 c.bQ.length)),(56,.d (i64 i))],[(1,.box (.dd c.cells))],st⟩) (fun i r _=>eY (qU c.bp.length) [] c.bQ 0=eY (qU c.bp.length) (c.bQ.take i) r i) () (Wk.sub (by repeat' first|constructor|simp[PX.get]) ⟨(by first|rfl|simp[PX.get]),trivial⟩) rfl ?_ ?_
 ·intro i x r _ hx hi hr he
  rw[eY]at he;have wg:c.bQ.take (i+1)=c.bQ.take i ++ [x]:=by rw[List.take_succ,hx];rfl
  conv=>whnf
  refine af (fun _=>?_) (fun h=>absurd hi (by simpa using h));conv=>whnf
  refine aw hx ?_;conv=>whnf
  refine ai (NS x.name) rfl rfl ?_;conv=>whnf
  refine af (fun h4=>?_) (fun h4=>?_)
  ·conv=>whnf
   have h4:eH x.name=false:=by simpa using h4
   rw[he];simp only[qU,h4];exact ab 0 rfl ⟨⟨rfl,rfl⟩,rfl⟩
  have h4:eH x.name=true:=by simpa using h4
  conv=>whnf
  refine aQ (by simp;omega) ?_;conv=>whnf
  refine aQ (by cases c.bQ<;>rfl) ?_;conv=>whnf
  refine aB (ds:=[tz (c.bQ.take i),.clo 183 [.ref x.cells]]) (aa0 (c.bQ.take i) 183 [.ref x.cells] (fun y=>decide (y.name=x.name)) (by simp;omega) fun y _=>aa1 y x) rfl 1 (by show some _=some _;simp[tz,List.map_take];rfl) ?_;conv=>whnf
  refine af (fun h5=>?_) (fun h5=>?_)
  ·conv=>whnf
   rw[he];simp only[qU,h4,h5];exact ab 0 rfl ⟨⟨rfl,rfl⟩,rfl⟩
  conv=>whnf
  refine aB (oQ 0 3 _) rfl 1 rfl ?_;conv=>whnf
  refine af (fun h6=>?_) (fun h6=>?_)
  ·have h6:fX x.kind 0 3=false:=by simpa using h6
   conv=>whnf
   rw[he];simp only[qU,h4,h5,h6];exact ab 0 rfl ⟨⟨rfl,rfl⟩,rfl⟩
  have h6:fX x.kind 0 3=true:=by simpa using h6
  conv=>whnf
  refine ai (WE x.no _ (by simp only[List.length_map];omega)) rfl rfl ?_;generalize hF:kx (List.map Slot.cells c.bp).length (-1) x.no=E;rw[List.length_map]at hF;conv=>whnf
  refine af (fun h7=>?_) (fun h7=>?_)
  ·have h7:E≠0:=by simpa using h7
   conv=>whnf
   rw[he];have:qU c.bp.length (c.bQ.take i) x=E:=by simp[qU,h4,h5,h6,hF]
   rw[this,if_neg h7];dsimp only;rw[if_neg h7];exact ab 0 rfl ⟨⟨rfl,rfl⟩,rfl⟩
  have h7:E=0:=by simpa using h7
  have hs:qU c.bp.length (c.bQ.take i) x=0:=by simp[qU,h4,h5,h6,hF,h7]
  rw[if_pos hs,<- wg]at he;conv=>whnf
  refine ae (wrap_i64 (by(try dsimp only);omega)) ?_;conv=>whnf
  exact⟨(),he,(Wk.sub (by repeat' first|constructor|simp[PX.get]) ⟨(by first|rfl|simp[PX.get]),trivial⟩)⟩
 intro _ he;rw[List.take_length,eY]at he;rw[he];conv=>whnf
 refine af (fun h=>absurd h (by simp)) (fun _=>?_);conv=>whnf
 exact ab 0 rfl ⟨⟨rfl,rfl⟩,rfl⟩
end Go.PX
namespace Go.PX
open Go.Proofs Go.RowKit Go.ChangeShapes
theorem c52:Tryz.prog.cellsOf 52=1:=by kernel_rfl
theorem c88:Tryz.prog.cellsOf 88=3:=by kernel_rfl
theorem c86:Tryz.prog.cellsOf 86=2:=by kernel_rfl
theorem c25:Tryz.prog.cellsOf 25=1:=by kernel_rfl
theorem c26:Tryz.prog.cellsOf 26=1:=by kernel_rfl
theorem c28:Tryz.prog.cellsOf 28=4:=by kernel_rfl
section
variable (W : World)
theorem Si:Rd Tryz.prog W 52 fun ds=>∃ l:List Int,ds = [ax l]:=
 (Rd.slice Tryz.underlying52 c3 (by omega) (o5 W)).mono fun ds h=>by
  obtain⟨es,rfl,he⟩:=h;obtain⟨l,rfl⟩:=qE (f:=fun n=>[i64 n]) (fun _ h=>h) he;exact⟨l,rfl⟩
theorem V6:Rd Tryz.prog W 88 fun ds=>∃ m:sD,ds=m.cells:=
 (Rd.struct Tryz.underlying88 c88 (.cons rfl c9 (MD W) (.cons rfl c3 (o5 W) (.cons rfl c52 (Si W) (.nil _))))).mono fun ds h=>by
  obtain⟨_,_,rfl,⟨a,rfl⟩,_,_,rfl,⟨b,rfl⟩,_,_,rfl,⟨c,rfl⟩,rfl⟩:=h;exact⟨⟨a,b,c⟩,rfl⟩
theorem Sj:Rd Tryz.prog W 86 fun ds=>∃ s:Slot,ds=s.cells:=
 (Rd.struct Tryz.underlying86 c86 (.cons rfl c3 (o5 W) (.cons rfl c3 (o5 W) (.nil _)))).mono fun ds h=>by
  obtain⟨_,_,rfl,⟨a,rfl⟩,_,_,rfl,⟨b,rfl⟩,rfl⟩:=h;exact⟨⟨a,b⟩,rfl⟩
theorem V7:Rd Tryz.prog W 25 fun ds=>∃ l:List sD,ds = [tz l]:=
 (Rd.slice Tryz.underlying25 c88 (by omega) (V6 W)).mono fun ds h=>by
  obtain⟨es,rfl,he⟩:=h;obtain⟨l,rfl⟩:=qE (f:=sD.cells) (fun _ h=>h) he;exact⟨l,rfl⟩
theorem OZ:Rd Tryz.prog W 26 fun ds=>∃ l:List Slot,ds = [Co l]:=
 (Rd.slice Tryz.underlying26 c86 (by omega) (Sj W)).mono fun ds h=>by
  obtain⟨es,rfl,he⟩:=h;obtain⟨l,rfl⟩:=qE (f:=Slot.cells) (fun _ h=>h) he;exact⟨l,rfl⟩
theorem Sg:Rd Tryz.prog W 28 fun ds=>∃ c:aA,ds=c.cells:=
 (Rd.struct Tryz.underlying28 c28 (.cons rfl c25 (V7 W) (.cons rfl c26 (OZ W) (.cons rfl c3 (o5 W) (.cons rfl c3 (o5 W) (.nil _)))))).mono fun ds h=>by
  obtain⟨_,_,rfl,⟨a,rfl⟩,_,_,rfl,⟨b,rfl⟩,_,_,rfl,⟨c,rfl⟩,_,_,rfl,⟨d,rfl⟩,rfl⟩:=h;exact⟨⟨a,b,c,d⟩,rfl⟩
end
theorem c33:Tryz.prog.cellsOf 33=5:=by kernel_rfl
section
variable (W : World)
theorem Gr:EV Tryz.prog W 33 fun ds=>∃ (x y:List Int) (w1 w2 g:Int),ds = [.vs (x.map fun b=>[D.int .u16 b]),.vs (y.map fun b=>[D.int .u16 b]),.int .u8 w1,.int .u8 w2,.int .u8 g]/\(∀ b∈x,0<=b/\b<=65535)/\(∀ b∈y,0<=b/\b<=65535)/\(0<=w1/\w1<=255)/\(0<=w2/\w2<=255)/\(0<=g/\g<=255):=
 (EV.struct Tryz.underlying33 c33 (.cons rfl c30 (O1 W) (.cons rfl c31 (V3 W) (.cons rfl c5 (Rd.z (MA W)) (.nil _))))).mono fun ds h=>by
  obtain⟨_,_,rfl,⟨a,b,rfl,ha,hb⟩,_,_,rfl,⟨c,d,rfl,hc,hd⟩,_,_,rfl,⟨g,rfl,hg⟩,rfl⟩:=h;exact⟨a,b,c,d,g,rfl,ha,hb,hc,hd,hg⟩
end
end Go.PX
