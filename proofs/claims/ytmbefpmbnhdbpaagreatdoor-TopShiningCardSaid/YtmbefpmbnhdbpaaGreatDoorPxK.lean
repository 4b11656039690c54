import Derived.Test.YtmbefpmbnhdbpaaGreatDoorPxJ
import Derived.Test.YtmbefpmbnhdbpaaGreatDoorPxI
import Derived.Laws.RangeString
import Derived.Test.YtmbefpmbnhdbpaaGreatDoorPxH
set_option linter.all false
set_option maxRecDepth 10000
namespace Go.PX
open Go.Proofs
theorem OZ(a b:List Int)(ha:a.length<1000000):bq Tryz.prog 38 [aV a,aV b] (.bool (decide (a=b))):=by
 refine aY Tryz.func38 rfl (ft:=ZI) 2 fun {σ} Y st=>?_;conv=>whnf
 refine ag (fun h0=>?_) (fun h0=>?_)
 ·have h0:a.length≠b.length:=by
   intro e;simp[e]at h0
  conv=>whnf
  rw[decide_eq_false (by rintro rfl;exact h0 rfl)];exact ai
 ·have h0:a.length=b.length:=by
   have:=h0;simp at this;omega
  conv=>whnf
  refine cD (T:=tys) av (by exact aj mixed av (by decide +kernel)) (α:=Nat)
   (fun i=>⟨[(0,.d (aV a)),(1,.d (aV b)),(5,.d (i64 i))],[],st⟩) (fun i=>i<=a.length/\a.take i=b.take i) (fun i=>a.length-i) 0
   aw (by simp) ?_
  rintro i ⟨hi,he⟩;conv=>whnf
  refine ag (fun hc=>?_) (fun hc=>?_)
  ·have hc:i<a.length:=by simpa using hc
   have rQ:i<b.length:=by omega
   conv=>whnf
   refine aU [i64 a[i]] (by simp[hc]) ?_;conv=>whnf
   refine aU [i64 b[i]] (by simp[rQ]) ?_;conv=>whnf
   refine ag (fun h1=>?_) (fun h1=>?_)
   ·conv=>whnf
    have h1:a[i]≠b[i]:=by simpa using h1
    rw[decide_eq_false (by rintro rfl;exact h1 rfl)];exact ai
   ·have h1:a[i]=b[i]:=by simpa using h1
    conv=>whnf
    refine ae ?_;conv=>whnf
    exact⟨i+1,by omega,⟨hc,by rw[List.take_succ_eq_append_getElem hc,List.take_succ_eq_append_getElem rQ,he,h1]⟩,Wk.sub ⟨rfl,rfl,rfl,trivial⟩ trivial⟩
  ·have hc:¬ i<a.length:=by simpa using hc
   conv=>whnf
   rw[List.take_of_length_le (by omega),List.take_of_length_le (by omega)]at he;rw[decide_eq_true he];exact ai
theorem Qv{a b:Span}:a=b↔a.lo=b.lo/\a.hi=b.hi:=by cases a;cases b;simp
theorem Si(a b:List Span)(ha:a.length<1000000):bq Tryz.prog 53 [dH a,dH b] (.bool (decide (a=b))):=by
 refine aY Tryz.func53 rfl (ft:=ZS) 2 fun {σ} Y st=>?_;conv=>whnf
 refine ag (fun h0=>?_) (fun h0=>?_)
 ·have h0:a.length≠b.length:=by
   intro e;simp[e]at h0
  conv=>whnf
  rw[decide_eq_false (by rintro rfl;exact h0 rfl)];exact ai
 ·have h0:a.length=b.length:=by
   have:=h0;simp at this;omega
  conv=>whnf
  refine cD (T:=tys) av (by exact aj mixed av (by decide +kernel)) (α:=Nat)
   (fun i=>⟨[(0,.d (dH a)),(1,.d (dH b)),(5,.d (i64 i))],[],st⟩) (fun i=>i<=a.length/\a.take i=b.take i) (fun i=>a.length-i) 0
   aw (by simp) ?_
  rintro i ⟨hi,he⟩;conv=>whnf
  refine ag (fun hc=>?_) (fun hc=>?_)
  ·have hc:i<a.length:=by simpa using hc
   have rQ:i<b.length:=by omega
   conv=>whnf
   refine aU a[i].cells (by simp[hc]) ?_;conv=>whnf
   refine aU b[i].cells (by simp[rQ]) ?_;conv=>whnf
   refine ag (fun h1=>?_) (fun h1=>?_)
   ·conv=>whnf
    have h1:a[i]≠b[i]:=by
     intro e;rw[e]at h1;simp at h1
    rw[decide_eq_false (by rintro rfl;exact h1 rfl)];exact ai
   ·have h1:a[i]=b[i]:=by
     rw[Qv];simp at h1;exact h1
    conv=>whnf
    refine ae ?_;conv=>whnf
    exact⟨i+1,by omega,⟨hc,by rw[List.take_succ_eq_append_getElem hc,List.take_succ_eq_append_getElem rQ,he,h1]⟩,Wk.sub ⟨rfl,rfl,rfl,trivial⟩ trivial⟩
  ·have hc:¬ i<a.length:=by simpa using hc
   conv=>whnf
   rw[List.take_of_length_le (by omega),List.take_of_length_le (by omega)]at he;rw[decide_eq_true he];exact ai
def Ge(l:List ByteArray):D:=.vs (l.map fun s=>[.str s])
theorem U1(l:List ByteArray)(x:ByteArray)(hl:l.length<1000000):bq Tryz.prog 97 [Ge l,.str x] (i64 (indexOf (fun y=>decide (y=x)) l 0)):=by
 refine aY Tryz.func97 rfl (ft:=aau) 2 fun {σ} Y st=>?_;conv=>whnf
 refine cD (T:=tys) av (by exact aj mixed av (by decide +kernel)) (α:=Nat)
  (fun i=>⟨[(0,.d (Ge l)),(1,.d (.str x)),(5,.d (i64 i))],[],st⟩) (fun i=>i<=l.length/\indexOf (fun y=>decide (y=x)) l 0=indexOf (fun y=>decide (y=x)) (l.drop i) i) (fun i=>l.length-i) 0
  aw (by simp) ?_
 rintro i ⟨hi,he⟩;conv=>whnf
 refine ag (fun hb=>?_) (fun hb=>?_)
 ·have hb:i<l.length:=by simpa using hb
  have hd:l.drop i=l[i]::l.drop (i+1):=List.drop_eq_getElem_cons hb;rw[hd,indexOf]at he;conv=>whnf
  refine aU [.str l[i]] (by simp[hb]) ?_;conv=>whnf
  refine ag (fun h1=>?_) (fun h1=>?_)
  ·conv=>whnf
   rw[if_pos h1]at he;rw[he];exact ai
  ·conv=>whnf
   rw[if_neg (by rw[h1];simp)]at he;refine ae ?_;conv=>whnf
   exact⟨i+1,by omega,⟨hb,by rw[he];rfl⟩,Wk.sub ⟨rfl,rfl,rfl,trivial⟩ trivial⟩
 ·have hb:¬ i<l.length:=by simpa using hb
  conv=>whnf
  rw[List.drop_of_length_le (by omega)]at he;rw[he];exact ai
def tq(b:List UInt8)(i:Nat)(c:UInt8):Bool:=
 (decide (97<=c.toNat)&&decide (c.toNat<=122))||(decide (c.toNat=45)&&decide (i≠0)&&decide (i+1≠b.length)&&(match b[i-1]? with
  | some p=>decide (p.toNat≠45)
  | none=>false))
def oE(b:List UInt8):Nat->List UInt8->Bool
 | _,[]=>true
 | i,c::r=>tq b i c&&oE b (i+1) r
def fm(s:ByteArray):Bool:=cF s.size 1 14&&oE s.data.toList 0 s.data.toList
theorem EE(s:ByteArray):bq Tryz.prog 96 [.str s] (.bool (fm s)):=by
 refine aY Tryz.func96 rfl (ft:=aat) 1 fun {σ} Y st=>?_;have dD:s.size=s.data.toList.length:=by simp
 conv=>whnf
 refine af (ds:=[i64 s.size,i64 1,i64 14]) (Mm _ _ _) rfl rfl ?_;conv=>whnf
 refine ag (fun h0=>?_) (fun h0=>?_)
 ·conv=>whnf
  have:fm s=false:=by simp at h0;simp[fm,h0]
  rw[this];exact ai
 ·have h0:cF s.size 1 14=true:=by simpa using h0
  have hlen:s.data.toList.length<=14:=by
   simp only[cF,Bool.and_eq_true,decide_eq_true_eq]at h0;omega
  have hn:fm s=oE s.data.toList 0 s.data.toList:=by simp[fm,h0]
  rw[hn];conv=>whnf
  refine cD (T:=tys) av (by exact aj mixed av (by decide +kernel)) (α:=Nat)
   (fun i=>⟨[(0,.d (.str s)),(3,.d (i64 i))],[],st⟩) (fun i=>i<=s.data.toList.length/\oE s.data.toList 0 s.data.toList=oE s.data.toList i (s.data.toList.drop i)) (fun i=>s.data.toList.length-i) 0
   aw (by simp) ?_
  rintro i ⟨hi,he⟩;conv=>whnf
  refine ag (fun hc=>?_) (fun hc=>?_)
  ·have hc:i<s.data.toList.length:=by
    have:=of_decide_eq_true hc;omega
   obtain⟨c,O5⟩:∃ c,s.data.toList[i]?=some c:=⟨_,List.getElem?_eq_getElem hc⟩;have hd:s.data.toList.drop i=c::s.data.toList.drop (i+1):=by
    rw[List.drop_eq_getElem_cons hc];rw[List.getElem?_eq_getElem hc]at O5;rw[Option.some.inj O5]
   rw[hd,oE]at he;have bad:tq s.data.toList i c=false->p9 [V.d (.bool false)] [] st fun v h' s'=>(v=V.d (.bool (oE s.data.toList 0 s.data.toList))/\h' = [])/\s'=st:=by
    intro hb;rw[he,hb];exact ai
   have Sp:tq s.data.toList i c=true -> ∀ {st':St σ},Wk st' ⟨[(0,.d (.str s)),(3,.d (i64 ((i:Int)+1)))],[],st⟩ -> ∃ y,s.data.toList.length-y<s.data.toList.length-i/\(y<=s.data.toList.length/\oE s.data.toList 0 s.data.toList=oE s.data.toList y (s.data.toList.drop y)) /\
     Wk st' ⟨[(0,.d (.str s)),(3,.d (i64 (y:Nat)))],[],st⟩:=by
    intro hb st' hw;exact⟨i+1,by omega,⟨hc,by rw[he,hb];rfl⟩,by simpa using hw⟩
   conv=>whnf
   refine cJ c (by simpa using O5) ?_;conv=>whnf
   refine ag (fun h1=>?_) (fun h1=>?_)
   ·have h1:97<=c.toNat:=by
     have:=of_decide_eq_true h1;omega
    conv=>whnf
    refine cJ c (by simpa using O5) ?_;conv=>whnf
    refine ag (fun h2=>?_) (fun h2=>?_)
    ·have h2:c.toNat<=122:=by
      have:=of_decide_eq_true h2;omega
     conv=>whnf
     refine ae ?_;conv=>whnf
     exact Sp (by simp[tq,h1,h2]) aw
    ·have h2:¬ c.toNat<=122:=by
      have:=of_decide_eq_false h2;omega
     conv=>whnf
     refine cJ c (by simpa using O5) ?_;conv=>whnf
     refine ag (fun k1=>?_) (fun k1=>?_)
     ·have k1:c.toNat≠45:=by
       have:=k1;simp at this;omega
      conv=>whnf
      exact bad (by simp[tq,k1];omega)
     ·have k1:c.toNat=45:=by
       have:=k1;simp at this;omega
      conv=>whnf
      refine ag (fun k2=>?_) (fun k2=>?_)
      ·have k2:i=0:=by
        have:=of_decide_eq_true k2;omega
       conv=>whnf
       exact bad (by simp[tq,k1,k2])
      ·have k2:i≠0:=by
        have:=of_decide_eq_false k2;omega
       conv=>whnf
       refine ae ?_;conv=>whnf
       refine ag (fun k3=>?_) (fun k3=>?_)
       ·have k3:i+1=s.data.toList.length:=by
         have:=of_decide_eq_true k3;omega
        conv=>whnf
        exact bad (by simp only[tq,k1,k3];simp)
       ·have k3:i+1≠s.data.toList.length:=by
         have:=of_decide_eq_false k3;omega
        obtain⟨p,hp⟩:∃ p,s.data.toList[i-1]?=some p:=⟨_,List.getElem?_eq_getElem (by omega)⟩;conv=>whnf
        refine ae ?_;conv=>whnf
        refine aM (by simp;omega) ?_;conv=>whnf
        refine cJ p (by rw[show((i:Int)-1).toNat=i-1 by omega];exact hp) ?_;conv=>whnf
        refine ag (fun k4=>?_) (fun k4=>?_)
        ·have k4:p.toNat=45:=by
          have:=of_decide_eq_true k4;omega
         conv=>whnf
         exact bad (by simp only[tq,hp,k4,k1];simp)
        ·have k4:p.toNat≠45:=by
          have:=of_decide_eq_false k4;omega
         conv=>whnf
         refine ae ?_;conv=>whnf
         exact Sp (by simp only[tq,hp,k1];simp[k2,k4];omega) aw
   ·have h1:¬ 97<=c.toNat:=by
     have:=of_decide_eq_false h1;omega
    conv=>whnf
    refine cJ c (by simpa using O5) ?_;conv=>whnf
    refine ag (fun k1=>?_) (fun k1=>?_)
    ·have k1:c.toNat≠45:=by
      have:=k1;simp at this;omega
     conv=>whnf
     exact bad (by simp[tq,k1];omega)
    ·have k1:c.toNat=45:=by
      have:=k1;simp at this;omega
     conv=>whnf
     refine ag (fun k2=>?_) (fun k2=>?_)
     ·have k2:i=0:=by
       have:=of_decide_eq_true k2;omega
      conv=>whnf
      exact bad (by simp[tq,k1,k2])
     ·have k2:i≠0:=by
       have:=of_decide_eq_false k2;omega
      conv=>whnf
      refine ae ?_;conv=>whnf
      refine ag (fun k3=>?_) (fun k3=>?_)
      ·have k3:i+1=s.data.toList.length:=by
        have:=of_decide_eq_true k3;omega
       conv=>whnf
       exact bad (by simp only[tq,k1,k3];simp)
      ·have k3:i+1≠s.data.toList.length:=by
        have:=of_decide_eq_false k3;omega
       obtain⟨p,hp⟩:∃ p,s.data.toList[i-1]?=some p:=⟨_,List.getElem?_eq_getElem (by omega)⟩;conv=>whnf
       refine ae ?_;conv=>whnf
       refine aM (by simp;omega) ?_;conv=>whnf
       refine cJ p (by rw[show((i:Int)-1).toNat=i-1 by omega];exact hp) ?_;conv=>whnf
       refine ag (fun k4=>?_) (fun k4=>?_)
       ·have k4:p.toNat=45:=by
         have:=of_decide_eq_true k4;omega
        conv=>whnf
        exact bad (by simp only[tq,hp,k4,k1];simp)
       ·have k4:p.toNat≠45:=by
         have:=of_decide_eq_false k4;omega
        conv=>whnf
        refine ae ?_;conv=>whnf
        exact Sp (by simp only[tq,hp,k1];simp[k2,k4];omega) aw
  ·have hc:¬ i<s.data.toList.length:=by
    have:=of_decide_eq_false hc;omega
   conv=>whnf
   rw[List.drop_of_length_le (by omega)]at he;rw[he];exact ai
def qB(x:ByteArray)(before:List ByteArray):Int:=
 if fm x then (if before.any fun y=>decide (y=x) then 5 else 0) else 6
theorem Zu(x:ByteArray)(l:List ByteArray)(hl:l.length<1000000):bq Tryz.prog 22 [.str x,Ge l] (i64 (qB x l)):=by
 refine aY Tryz.func22 rfl (ft:=ZF) 2 fun {σ} Y st=>?_;conv=>whnf
 refine af (ds:=[.str x]) (EE x) rfl rfl ?_;conv=>whnf
 refine ag (fun h1=>?_) (fun h1=>?_)
 ·have h1:fm x=false:=by simpa using h1
  conv=>whnf
  simp only[qB,h1];exact ai
 ·have h1:fm x=true:=by simpa using h1
  conv=>whnf
  refine af (ds:=[Ge l,.str x]) (U1 l x hl) rfl rfl ?_;conv=>whnf
  have SC:=ig (fun y=>decide (y=x)) l 0 (by omega);refine ag (fun h2=>?_) (fun h2=>?_)
  ·have h2:(l.any fun y=>decide (y=x))=true:=by rw[<- SC];exact h2
   conv=>whnf
   simp only[qB,h1,h2];exact ai
  ·have h2:(l.any fun y=>decide (y=x))=false:=by rw[<- SC];exact h2
   conv=>whnf
   simp only[qB,h1,h2];exact ai
theorem zZ(lo hi n:Int):(decide (n<lo)||decide (n>hi)) = !cF n lo hi:=by
 simp only[cF];by_cases h1:lo<=n<;>by_cases h2:n<=hi<;>simp[h1,h2]<;>omega
theorem bq.cast{P:Program}{f:FuncId}{ds:List D}{r r':D}(h:bq P f ds r)(e:r=r'):bq P f ds r':=by subst e;exact h
theorem Sj(lo hi a:Int):bq Tryz.prog 109 [i64 lo,i64 hi,.vs [[i64 a]]] (.bool (!cF a lo hi)):=by
 exact bq.cast (U2 lo hi [a] (by simp)) (by simp[zZ])
end Go.PX
namespace Go.PX
open Go.Proofs
open Go
def ln:Nat->List UInt8->Bool
 | last,[]=>decide (last≠45)
 | last,c::r=>if 97<=c.toNat/\c.toNat<=122 then ln c.toNat r else if c.toNat=45/\last≠45 then ln 45 r else false
theorem BY(b:List UInt8):∀ (r:List UInt8) (i last:Nat),r ≠ []->r=b.drop i->(i=0->last=45)->(∀ p,i≠0->b[i-1]?=some p->last=p.toNat)->ln last r=oE b i r
 | [],i,last,h,_,_,_=>absurd rfl h
 | c::r,i,last,_,hd,h0,h1=>by
  have hlen:i+1+r.length=b.length:=by
   have:=congrArg List.length hd;simp at this;omega
  have sk:b[i]?=some c:=by
   have:=congrArg (fun l=>l[0]?) hd;simpa using this.symm
  have hr:r=b.drop (i+1):=by
   have:=congrArg List.tail hd;simpa using this
  have ih:∀ I8,I8=c.toNat->r ≠ []->ln I8 r=oE b (i+1) r:=fun I8 hl er=>
   BY b r (i+1) I8 er hr (fun h=>by omega) (fun p _ hp=>by simp at hp;rw[sk]at hp;cases hp;exact hl)
  have W5:i≠0 -> ∃ p,b[i-1]?=some p/\last=p.toNat:=fun hi=>by
   have:i-1<b.length:=by omega
   exact⟨_,List.getElem?_eq_getElem this,h1 _ hi (List.getElem?_eq_getElem this)⟩
  simp only[ln,oE,tq];by_cases ha:97<=c.toNat/\c.toNat<=122
  ·rw[if_pos ha]
   simp only[ha.1,ha.2,decide_true,Bool.and_self,Bool.true_or,Bool.true_and];by_cases er:r = []
   ·subst er
    simp[ln,oE];omega
   ·exact ih _ rfl er
  ·rw[if_neg ha]
   have hf:(decide (97<=c.toNat)&&decide (c.toNat<=122))=false:=by
    simp only[Bool.and_eq_false_iff,decide_eq_false_iff_not];omega
   rw[hf,Bool.false_or];by_cases hc:c.toNat=45
   ·by_cases hi:i=0
    ·have:=h0 hi
     simp[hc,hi,this]
    ·obtain⟨p,hp,hl⟩:=W5 hi
     rw[hp];by_cases rS:p.toNat=45
     ·simp[hc,hl,rS]
     ·by_cases er:r = []
      ·have:i+1=b.length:=by subst er;simpa using hlen
       subst er;simp[hc,hl,rS,ln,this]
      ·have:i+1≠b.length:=by
        have:=List.length_pos_iff.2 er;omega
       rw[if_pos ⟨hc,by rw[hl];exact rS⟩,ih 45 hc.symm er];simp[hc,hi,rS,this]
   ·simp[hc]
theorem Nr(s:ByteArray):fm s=(decide (s.size<=14)&&ln 45 s.data.toList):=by
 have dD:s.size=s.data.toList.length:=by simp
 unfold fm cF
 cases hb:s.data.toList with
 | nil=>
  have:s.size=0:=by rw[dD,hb];rfl
  simp[this,ln]
 | cons c r=>
  rw[<- hb,BY s.data.toList s.data.toList 0 45 (by rw[hb];simp) rfl (fun _=>rfl) (fun p h=>absurd rfl h)];have h1:1<=s.size:=by rw[dD,hb];simp
  have e1:decide ((1:Int)<=(s.size:Int))=true:=by simp;omega
  have e2:decide ((s.size:Int)<=14)=decide (s.size<=14):=by simp;omega
  rw[e1,e2];simp
theorem GN(s:ByteArray)(i:Nat)(h:¬ (s.get! (i+0)).toNat<128):128<=(Utf8.decode s i).1:=by
 unfold Utf8.decode;simp only[h,if_false];split
 ·split
  ·simp only;omega
  ·simp[Utf8.runeError]
 ·split
  ·split
   ·rename_i h1
    simp only[Bool.and_eq_true,decide_eq_true_eq]at h1;simp only;omega
   ·simp[Utf8.runeError]
  ·split
   ·split
    ·rename_i h1
     simp only[Bool.and_eq_true,decide_eq_true_eq]at h1;simp only;omega
    ·simp[Utf8.runeError]
   ·simp[Utf8.runeError]
theorem O1(s:ByteArray):bq Tryz.prog 151 [.str s] (.bool (fm s)):=by
 refine aY Tryz.func151 rfl (ft:=Vy) 1 fun {σ} Y st=>?_;conv=>whnf
 refine cD (T:=tys) av (by exact aj mixed av (by decide +kernel)) (α:=Nat×Nat)
  (fun x=>⟨[(0,.d (.str s)),(3,.d (.int .i32 x.2)),(7,.it 7)],[(7,.iter s x.1)],st⟩) (fun x=>x.1<=s.size/\fm s=(decide (s.size<=14)&&ln x.2 (s.data.toList.drop x.1))) (fun x=>s.size-x.1) (0,45)
  aw ⟨by simp,by rw[Nr];rfl⟩ ?_
 rintro ⟨p,last⟩ ⟨hp,he⟩;simp only at hp he;have dD:s.size=s.data.toList.length:=by simp
 conv=>whnf
 refine ag (fun h1=>?_) (fun h1=>?_)
 ·have h1:p<s.size:=of_decide_eq_true h1
  have hd:s.data.toList.drop p=s[p]::s.data.toList.drop (p+1):=by
   rw[List.drop_eq_getElem_cons (by omega)];rfl
  rw[hd,ln]at he;refine⟨?_⟩;by_cases hb:s[p].toNat<128
  ·rw[decode_ascii s p h1 hb]
   conv=>whnf
   refine ag (fun h2=>?_) (fun h2=>?_)
   ·have h2:97<=s[p].toNat:=by have:=of_decide_eq_true h2;omega
    conv=>whnf
    refine ag (fun h3=>?_) (fun h3=>?_)
    ·have h3:s[p].toNat<=122:=by have:=of_decide_eq_true h3;omega
     conv=>whnf
     rw[if_pos ⟨h2,h3⟩]at he;exact⟨(p+1,s[p].toNat),by simp only;omega,⟨h1,he⟩,aw⟩
    ·have h3:¬ s[p].toNat<=122:=by have:=of_decide_eq_false h3;omega
     conv=>whnf
     rw[if_neg (by omega),if_neg (by omega)]at he;refine ag (fun h4=>?_) (fun h4=>?_)
     ·conv=>whnf
      rw[he,Bool.and_false];exact ai
     ·exact absurd h4 (by simp;omega)
   ·have h2:¬ 97<=s[p].toNat:=by have:=of_decide_eq_false h2;omega
    conv=>whnf
    rw[if_neg (by omega)]at he;refine ag (fun h4=>?_) (fun h4=>?_)
    ·have h4:s[p].toNat≠45:=by simp at h4;omega
     conv=>whnf
     rw[if_neg (by omega)]at he;rw[he,Bool.and_false];exact ai
    ·have h4:s[p].toNat=45:=by simp at h4;omega
     conv=>whnf
     refine ag (fun h5=>?_) (fun h5=>?_)
     ·have h5:last=45:=by have:=of_decide_eq_true h5;omega
      conv=>whnf
      rw[if_neg (by omega)]at he;rw[he,Bool.and_false];exact ai
     ·have h5:last≠45:=by have:=of_decide_eq_false h5;omega
      conv=>whnf
      rw[if_pos ⟨h4,h5⟩]at he;exact⟨(p+1,45),by simp only;omega,⟨h1,he⟩,by rw[<- h4];exact aw⟩
  ·have mK:=GN s p (by
    have e:s.get! (p+0)=s[p]'h1:=by
     show s.get! p=_;simp[ByteArray.get!,getElem!_pos,h1];rfl
    rw[e];exact hb)
   generalize (Utf8.decode s p).1=c at mK;generalize (Utf8.decode s p).2=n;rw[if_neg (by omega),if_neg (by omega)]at he;conv=>whnf
   refine ag (fun h2=>?_) (fun h2=>?_)
   ·conv=>whnf
    refine ag (fun h3=>?_) (fun h3=>?_)
    ·have:=of_decide_eq_true h3;omega
    ·conv=>whnf
     refine ag (fun h4=>?_) (fun h4=>?_)
     ·conv=>whnf
      rw[he,Bool.and_false];exact ai
     ·exact absurd h4 (by simp;omega)
   ·have:=of_decide_eq_false h2;omega
 ·have h1:¬ p<s.size:=of_decide_eq_false h1
  conv=>whnf
  have nY:s.data.toList.drop p = []:=List.drop_of_length_le (by omega);rw[nY,ln]at he;refine ag (fun h2=>?_) (fun h2=>?_)
  ·conv=>whnf
   refine aO 0 rfl ⟨⟨?_,rfl⟩,rfl⟩;have h2:s.size<=14:=by have:=of_decide_eq_true h2;omega
   rw[he];show V.d (.bool (!decide ((last:Int)=45)))=_;simp[h2];omega
  ·conv=>whnf
   refine aO 0 rfl ⟨⟨?_,rfl⟩,rfl⟩;have h2:¬ s.size<=14:=by have:=of_decide_eq_false h2;omega
   rw[he];simp[h2,j9]
end Go.PX
namespace Go.PX
open Go.Proofs
theorem Zv(l:List Int)(v:Int)(hl:l.length<4000000000000000000):bq Tryz.prog 203 [aV l,i64 v] (i64 (indexOf (fun x=>decide (v=x)) l 0)):=by
 refine aY Tryz.func203 rfl (ft:=VV) 2 fun {σ} Y st=>?_;conv=>whnf
 refine bB (T:=tys) av (by exact aj mixed av (by decide +kernel)) l (fun i (_:Unit)=>⟨[(0,.d (aV l)),(1,.d (i64 v)),(7,.d (i64 l.length)),(8,.d (i64 i))],[],st⟩) (fun i r _=>indexOf (fun x=>decide (v=x)) l 0=indexOf (fun x=>decide (v=x)) r i) ()
  aw rfl ?_ ?_
 ·intro i x r _ hx hi hr he
  rw[indexOf]at he;conv=>whnf
  refine ag (fun _=>?_) (fun h=>absurd hi (by simpa using h));conv=>whnf
  refine aG hx ?_;conv=>whnf
  refine ag (fun h1=>?_) (fun h1=>?_)
  ·conv=>whnf
   rw[if_pos h1]at he;rw[he];exact ai
  ·conv=>whnf
   rw[if_neg (by simp[h1])]at he;refine ae ?_;conv=>whnf
   exact⟨(),he,aw⟩
 ·intro _ he
  conv=>whnf
  refine ag (fun h=>absurd h (by simp)) (fun _=>?_);conv=>whnf
  rw[he];exact ai
theorem EF(l:List Int)(v:Int)(hl:l.length<4000000000000000000):bq Tryz.prog 169 [aV l,i64 v] (.bool (decide (v∈l))):=by
 refine aY Tryz.func169 rfl (ft:=VL) 2 fun {σ} Y st=>?_;conv=>whnf
 refine af (Zv l v hl) rfl rfl ?_;conv=>whnf
 refine aO 0 rfl ⟨⟨?_,rfl⟩,rfl⟩;have h1:=ig (fun x=>decide (v=x)) l 0 (by omega);have h2:(l.any fun x=>decide (v=x))=decide (v∈l):=by
  rw[Bool.eq_iff_iff];simp
 rw[<- h2,<- h1];rfl
end Go.PX
namespace Go.PX
def yJ:List Nat->List Wr
 | []=>[]
 | i::r=>.del i::yJ r
theorem gv{σ:Type}:∀ (l:List Nat) (st:St σ),aL st (yJ l)=⟨st.env,lL st.heap l,st.s⟩
 | [],st=>rfl
 | i::r,st=>by
  show aL (bV st (.del i)) (yJ r)=_;rw[gv r];rfl
theorem qn{σ:Type}:∀ (a b:List Wr) (st:St σ),aL st (a++b)=aL (aL st a) b
 | [],b,st=>rfl
 | w::a,b,st=>qn a b (bV st w)
section
variable {P : Program} {σ : Type}
theorem Good.CX{cx:Cx σ}{r:Option Nat}{m:List Nat}{L:Loc}{F:Nat->Nat}{st:St σ}{a:Act}{w:World}(hg:Good cx r m L F st a w){h:Heap}(mN:dR h st.heap)(n:Nat) :
  ∃ F1,Good cx r m L F1 (aL st (yJ (dY h))) a w/\Tr F w F1 w /\ ∀ args aT ds,cS (fp h n) args=some ds->aq cx.yv L F w args aT->bt F1 w ds aT:=by
 have gL:a7 cx L F h st.s w:=(hg.sub (e:=st.env) (h:=h) (fun _ _ h=>h) mN).heap;have tr:=gK gL;have AU:∀ b,cx.C st.s b->fO L F h w b=F b:=fun b hb=>qC gL hb;have EN:∀ id o,get st.heap id=some o->id∉dY h->aS L id o->fO L F h w (L.ρ id)=F (L.ρ id):=by
  intro id o hi hn hb;refine iF ?_;rintro ⟨j,p,hj,jt,qe⟩;have:=hg.heap.inj j id p o (mN j p hj) hi jt hb qe;subst this;exact hn (mQ hj)
 have D0:=gz gL;have xG:=pD gL n;generalize fO L F h w=F1 at tr AU EN D0 xG;rw[gv];have sk:∀ i o,get (lL st.heap (dY h)) i=some o->i∉dY h/\get st.heap i=some o:=by
  intro i o hi;rw[mI]at hi;split at hi
  ·cases hi
  ·rename_i hn;exact⟨hn,hi⟩
 refine⟨F1,⟨⟨cx.gE hg.heap.hg tr D0 fun b hb=>⟨rfl,AU b hb⟩,hg.heap.hP,D0,?_,?_,?_⟩,?_,hg.tZ,hg.pB,hg.xe,hg.lk,hg.jF,hg.ve⟩,tr,fun args aT ds hv hr=>jY tr xG args aT ds hv hr⟩
 ·intro i o hi
  exact bU.mono tr i o (fun _ _=>⟨rfl,rfl⟩) ⟨rfl,rfl⟩ (fun _=>rfl) (hg.heap.obj i o (sk i o hi).2)
 ·intro i o hi hb
  obtain⟨hn,h0⟩:=sk i o hi;rw[EN i o h0 hn hb];exact hg.heap.own i o h0 hb
 ·intro i j o p hi hj mf jt he
  exact hg.heap.inj i j o p (sk i o hi).2 (sk j p hj).2 mf jt he
 ·intro t v ht
  obtain⟨x,hx,hr⟩:=hg.env t v ht;exact⟨x,hx,br.mono tr v x (fun _ _=>⟨rfl,rfl⟩) hr⟩
theorem zV{f:FuncId}{ds:List D}{res:D}(hf:bq P f ds res)(n:Nat){e:Env}{h:Heap}{d:Option Nat}{args:List V}(hv:cS (fp h n) args=some ds)(hd:Nat.ble (d.getD 0) 10000=true) :
  ny P e h d f args (yJ (dY h)++bw d (.d res)):=by
 have ho:=vU (P:=P) hf (e:=[]) (h:=[]) (d:=d) (args:=inj ds) rfl hd;refine⟨ho.1,fun {σ} cx E0 r m L F st a w aT he hh hg hdt hr=>?_⟩;obtain⟨F1,dX,qd,Pv⟩:=hg.CX hh n;rw[qn];refine(ho.2 cx E0 r m L F1 (aL st (yJ (dY h))) a w aT (fun _ _ h=>by cases h) (fun _ _ h=>by cases h) dX hdt (aq.inj.2 (Pv _ _ _ hv hr))).mono ?_;rintro en w' ⟨x,rfl,L',F',dN,pN⟩;exact⟨x,rfl,L',F',dN,Tr.trans qd pN⟩
theorem gX{Y:Hd σ}{f:FuncId}{ds:List D}{res:D}(hf:bq P f ds res)(n:Nat){e:Env}{h:Heap}{s:σ}{d:Option Nat}{args:List V}(ids:List Nat)(hv:cS (fp (bh ids h) n) args=some ds)(hd:Nat.ble (d.getD 0) 10000=true)
  {K:St σ->Prop} (hk:bz (yJ (dY (bh ids h))++bw d (.d res)) e h fun e h=>K ⟨e,h,s⟩):eg P Y ⟨e,h,s⟩ d f args K:=by
 have ho:=zV (P:=P) hf n (e:=e) (h:=bh ids h) (d:=d) (args:=args) hv hd;refine rI (ws:=yJ (dY (bh ids h))++bw d (.d res)) ⟨ho.1,fun {σ} cx E0 r m L F st a w aT he hh hg hdt hr=>?_⟩ hk;exact ho.2 cx E0 r m L F st a w aT he (fun i o hi=>hh i o (eC ids h i o hi)) hg hdt hr
theorem Ea{f:FuncId}{ds:List D}{res:D}(hf:bq P f ds res)(n:Nat){e:Env}{h:Heap}{d:Option Nat}{args:List V}(hv:cS (fp h n) args=some ds)(hd:Nat.ble (d.getD 0) 10000=true)
  {K:List Wr->Prop} (hk:K (yJ (dY h)++bw d (.d res))):ga P e h d f args K:=⟨_,hk,zV hf n hv hd⟩
end
theorem iA{g:Nat->Option DO}{vs:List (List V)}{ds:List (List D)}(h:iR g vs=some ds):∀ (es:List (List D)),iR g (bg es++vs)=some (es++ds)
 | []=>h
 | e::r=>by
  show iR g (inj e::(bg r++vs))=_;rw[iR,iA h r];have:cS g (inj e)=some e:=by
   have:=ky (g:=g) (a:=e) (r:=[]) (r':=[]) rfl;simpa using this
  rw[this];rfl
theorem jm{g:Nat->Option DO}{v:List V}{d:List D}(h:cS g v=some d):iR g [v]=some [d]:=by
 rw[iR,h];rfl
theorem zN(i:Nat):∀ l:List D,eU i (inj l)=false
 | []=>rfl
 | d::r=>by
  show(sE i (.d d)||eU i (inj r))=false;rw[zN i r];rfl
theorem sF(i:Nat):∀ a b:List V,eU i (a++b)=(eU i a||eU i b)
 | [],b=>rfl
 | v::a,b=>by
  show(sE i v||eU i (a++b))=((sE i v||eU i a)||eU i b);rw[sF i a b,Bool.or_assoc]
theorem il(i:Nat)(vs:List (List V)):∀ es:List (List D),eU i ((bg es++vs).flatten)=eU i vs.flatten
 | []=>rfl
 | e::r=>by
  show eU i (inj e++(bg r++vs).flatten)=_;rw[sF,zN,il i vs r];rfl
theorem aE(f:V->V)(vs:List (List V)):∀ es:List (List D),aX f (bg es++vs)=bg es++aX f vs
 | []=>rfl
 | e::r=>by
  show dz f (inj e)::aX f (bg r++vs)=_;rw[zJ,aE f vs r];rfl
section
variable {σ : Type}
theorem JH{e:Env}{h:Heap}{s:σ}(l:List Nat):aL (⟨e,h,s⟩:St σ) (yJ l)=⟨e,lL h l,s⟩:=gv l _
theorem Wk.s4{e:Env}{h:Heap}{s:σ}(n:Nat)(ids:List Nat)(k:Nat){sz:Nat}{vs:List (List V)}{ds:List (List D)}(hk:get (lL h (dY (bh ids h))) k=some (.arr sz (.vv vs)))(hv:iR (fp (bh ids h) n) vs=some ds) :
  Wk (⟨e,h,s⟩:St σ) ⟨e,put (lL h (dY (bh ids h))) k (.arr sz (.dd ds)),s⟩:=by
 intro cx r m L F a w hg;obtain⟨F1,dX,tr,Pv⟩:=hg.CX (h:=bh ids h) (eC ids h) n;rw[JH]at dX;have h0:bU cx.yv L F w k (.arr sz (.vv vs)):=by
  rw[mI]at hk;split at hk
  ·cases hk
  ·exact hg.heap.obj k _ hk
 obtain⟨f1,f2,f3⟩:=rD hv;have uz:bU cx.yv L F1 w k (.arr sz (.dd ds)):=by
  obtain⟨c1,c2,c3⟩:=h0;have hl:(bx.dd ds).bJ.length=ds.length:=by rw[<- bx.jR];rfl
  have wT:(bx.dd ds).bJ.flatten=inj ds.flatten:=by
   show(bg ds).flatten=_;clear hl f1 f2 f3 hv
   induction ds with
   | nil=>rfl
   | cons d r ih=>
    show inj d++(bg r).flatten=_;rw[ih,List.flatten_cons,ji]
  refine⟨c1,?_,?_⟩
  ·have h3:=f3 sz c2
   intro x hx;show x.length=sz;have:∀ (l:List (List D)),(∀ d∈l,d.length=sz) -> ∀ x∈bg l,x.length=sz:=by
    intro l
    induction l with
    | nil=>intro _ x hx;cases hx
    | cons d r ih=>
     intro hd x hx;rcases List.mem_cons.1 hx with rfl|hx
     ·rw[eR];exact hd d (by simp)
     ·exact ih (fun d Ws=>hd d (by simp[Ws])) x hx
   exact this ds h3 x hx
  ·rcases c3 with⟨c4,c5⟩|⟨c,T,c4,c5,c6,c7⟩
   ·left
    refine⟨?_,c5⟩;have Rr:vs = []:=c4;have:ds = []:=by
     have:ds.length=0:=by rw[f2,Rr];rfl
     exact List.length_eq_zero_iff.1 this
    rw[this];rfl
   ·right
    have e1:(bx.vv vs).bJ=vs:=rfl;rw[e1]at c6 c7;refine⟨c,T,c4,c5,by rw[hl,f2];exact c6,?_⟩;rw[wT,hl,f2];exact aq.inj.2 (Pv _ _ _ f1 c7)
 have key:∀ i q,get (put (lL h (dY (bh ids h))) k (.arr sz (.dd ds))) i=some q->(i=k/\q = .arr sz (.dd ds))\/get (lL h (dY (bh ids h))) i=some q:=by
  intro i q hi;rw[e6]at hi;split at hi
  ·rename_i e1;cases hi;exact .inl ⟨e1,rfl⟩
  ·exact .inr hi
 refine⟨L,F1,⟨⟨dX.heap.hg,dX.heap.hP,dX.heap.fresh,fun i q hi=>?_,fun i q hi iU=>?_,fun i j q p hi hj mf jt e=>?_⟩,dX.env,dX.tZ,dX.pB,dX.xe,dX.lk,dX.jF,dX.ve⟩,tr⟩
 ·rcases key i q hi with⟨rfl,rfl⟩|hi
  ·exact uz
  ·exact dX.heap.obj i q hi
 ·rcases key i q hi with⟨rfl,rfl⟩|hi
  ·exact dX.heap.own i _ hk iU
  ·exact dX.heap.own i q hi iU
 ·rcases key i q hi with⟨e1,e2⟩|AZ<;>rcases key j p hj with⟨e3,e4⟩|Rc
  ·rw[e1,e3]
  ·subst e1;subst e2
   exact dX.heap.inj _ _ _ _ hk Rc mf jt e
  ·subst e3;subst e4
   exact dX.heap.inj _ _ _ _ AZ hk mf jt e
  ·exact dX.heap.inj _ _ _ _ AZ Rc mf jt e
end
end Go.PX
namespace Go.PX
open Go.RowKit
def DH{σ:Type}(P:Program)(T:fA)(Y:Hd σ)(ops:List Oper)(o:Option Oper)(e:Env)(h:Heap)(s:σ)(go:Env->Heap->σ->Prop):Prop:=
 match o with
 | some ⟨dst,op,_,_,_,guard⟩=>nT ops e guard (fun w=>bz w e h fun e h=>Gc P T Y dst op e h s go) (fun w=>bz w e h fun e h=>bz (bw dst (.d (.tup []))) e h fun e h=>go e h s)
 | none=>False
def isTrue:List Bool->Nat->Bool
 | [],_=>true
 | b::_,0=>b
 | _::r,n+1=>isTrue r n
def tS(ls:List Bool):List Nat->Bool
 | []=>true
 | i::r=>isTrue ls i&&tS ls r
def lu(ls:List Bool):Nat->List (List Nat)->List Bool->List Nat
 | _,[],_=>[]
 | _,_,[]=>[]
 | i,d::ds,b::bs=>match b,tS ls d with
  | false,true=>i::lu ls (i+1) ds bs
  | _,_=>lu ls (i+1) ds bs
def wi:List Bool->Nat->List Bool
 | [],_=>[]
 | _::r,0=>true::r
 | b::r,n+1=>b::wi r n
noncomputable def LH(l:List Nat)(f:Nat->Prop):Prop:=
 List.rec (motive:=fun _=>Prop) True (fun i _ ih=>f i/\ih) l
theorem Ei{f:Nat->Prop}:∀ {l:List Nat},LH l f ↔ ∀ i∈l,f i
 | []=>by simp[LH]
 | i::r=>by
  have:=Ei (f:=f) (l:=r);simp only[LH]at this ⊢;rw[this];simp
noncomputable def Ic{σ:Type}(P:Program)(T:fA)(Y:Hd σ)(ops:List Oper)(eo:List (List Nat))(n:Nat):List Bool->Env->Heap->σ->(Env->Heap->σ->Prop)->Prop:=
 Nat.rec (motive:=fun _=>List Bool->Env->Heap->σ->(Env->Heap->σ->Prop)->Prop) (fun _ e h s K=>K e h s)
  (fun _ ih ls e h s K=>LH (lu ls 0 eo ls) fun i=>DH P T Y ops ops[i]? e h s fun e h s=>ih (wi ls i) e h s K) n
def pc:List Oper->List (List Nat)->Bool
 | [],[]=>true
 | o::r,d::ds=>d.all (fun i=>o.after.toList.any fun e=>Region.binds .any e&&Nat.beq e.on i)&&pc r ds
 | _,_=>false
theorem kH:∀ {l:List Oper} {ds:List (List Nat)},pc l ds=true->l.length=ds.length /\ ∀ (i:Nat) (o:Oper) (d:List Nat),l[i]?=some o->ds[i]?=some d -> ∀ j∈d,∃ e∈o.after,Region.binds .any e=true/\e.on=j
 | [],[],_=>⟨rfl,fun i o d h=>by simp at h⟩
 | [],_::_,h=>by simp[pc]at h
 | _::_,[],h=>by simp[pc]at h
 | o::r,d::ds,h=>by
  simp only[pc,Bool.and_eq_true,List.all_eq_true]at h;obtain⟨h1,h2⟩:=kH h.2;refine⟨by simp[h1],fun i o' d' ho hd j hj=>?_⟩
  cases i with
  | zero=>
   simp at ho hd;subst ho;subst hd;have:=h.1 j hj;simp only[List.any_eq_true,Bool.and_eq_true]at this;obtain⟨e,he,hb,hq⟩:=this;exact⟨e,by simpa using he,hb,Nat.eq_of_beq_eq_true hq⟩
  | succ i=>exact h2 i o' d' (by simpa using ho) (by simpa using hd) j hj
theorem td:∀ {ls:List Bool} {i:Nat},isTrue ls i=ls.toArray.getD i true
 | [],i=>by simp[isTrue,Array.getD_eq_getD_getElem?]
 | b::r,0=>by simp[isTrue,Array.getD_eq_getD_getElem?]
 | b::r,n+1=>by
  have:=td (ls:=r) (i:=n);simp only[isTrue,this,Array.getD_eq_getD_getElem?];simp
theorem sQ{ls:List Bool}:∀ {d:List Nat},(∀ j∈d,isTrue ls j=true)->tS ls d=true
 | [],_=>rfl
 | i::r,h=>by
  have h1:=sQ (ls:=ls) (d:=r) fun j hj=>h j (List.mem_cons_of_mem _ hj);simp[tS,h i (by simp),h1]
theorem tj{ls:List Bool}:∀ {ds:List (List Nat)} {bs:List Bool} {k i:Nat} {d:List Nat},ds[i]?=some d->bs[i]?=some false->tS ls d=true->k+i∈lu ls k ds bs
 | [],_,_,i,d,h,_,_=>by simp at h
 | _::_,[],_,i,d,_,h,_=>by simp at h
 | x::ds,b::bs,k,i,d,hd,hb,ha=>by
  cases i with
  | zero=>
   simp at hd hb;subst hd;subst hb;simp[lu,ha]
  | succ i=>
   have:=tj (ls:=ls) (ds:=ds) (bs:=bs) (k:=k+1) (i:=i) (by simpa using hd) (by simpa using hb) ha;rw[show k+(i+1)=k+1+i by omega];simp only[lu];split
   ·exact List.mem_cons_of_mem _ this
   ·exact this
theorem pH:∀ {ls:List Bool} {i:Nat},wi ls i=ls.set i true
 | [],i=>by simp[wi]
 | b::r,0=>rfl
 | b::r,n+1=>by simp[wi,pH (ls:=r)]
def AL:List Bool->Nat
 | []=>0
 | true::r=>AL r
 | false::r=>AL r+1
theorem DN:∀ {ls:List Bool} {i:Nat},ls[i]?=some false->AL (ls.set i true)+1=AL ls
 | [],i,h=>by simp at h
 | b::r,0,h=>by
  simp at h;subst h;simp[AL]
 | b::r,i+1,h=>by
  have:=DN (ls:=r) (i:=i) (by simpa using h);cases b<;>simp[AL,this]
theorem DM:∀ {ls:List Bool},0<AL ls -> ∃ i:Nat,ls[i]?=some false /\ ∀ j:Nat,j<i->ls[j]?=some true
 | [],h=>by simp[AL]at h
 | false::r,_=>⟨0,rfl,fun j hj=>by omega⟩
 | true::r,h=>by
  obtain⟨i,h1,h2⟩:=DM (ls:=r) (by simpa[AL]using h);refine⟨i+1,by simpa using h1,fun j hj=>?_⟩
  cases j with
  | zero=>rfl
  | succ j=>simpa using h2 j (by omega)
theorem AA:∀ {ls:List Bool},AL ls=0 -> ∀ i:Nat,ls[i]?≠some false
 | [],_,i=>by simp
 | false::r,h,i=>by simp[AL]at h
 | true::r,h,i=>by
  cases i with
  | zero=>simp
  | succ i=>simpa using AA (ls:=r) (by simpa[AL]using h) i
section
variable {P : Program} {T : fA} {σ : Type} {Y : Hd σ} {cx : Cx σ} {r : Option Nat} {m : List Nat}
theorem iG{ls:List Bool}{i:Nat}:ls.toArray.getD i true=false↔ls[i]?=some false:=by
 rw[Array.getD_eq_getD_getElem?];simp only[List.getElem?_toArray]
 cases ls[i]? with
 | none=>simp
 | some b=>simp
theorem kB{ls:List Bool}{i:Nat}:ls.toArray.getD i false=true↔ls[i]?=some true:=by
 rw[Array.getD_eq_getD_getElem?];simp only[List.getElem?_toArray]
 cases ls[i]? with
 | none=>simp
 | some b=>simp
theorem DR(hT:bA P T)(hY:cC P Y cx){ops:Array Oper}{eo:List (List Nat)}(ur:pE 0 ops.toList=true)(MH:pc ops.toList eo=true){F0:Nat->Nat}{w0:World}{n0:Nat}(hd:∀ o∈ops.toList,∀ d,o.dst=some d->d<n0){K:Env->Heap->σ->Prop} :
  ∀ (n:Nat) {ls:List Bool} {e:Env} {h:Heap} {s:σ} {L:Loc} {F:Nat->Nat} {a:Act} {w:World},ls.length=ops.size->AL ls=n->Good cx r m L F ⟨e,h,s⟩ a w->a.tmps.size=n0->Tr F0 w0 F w ->
   Ic P T Y ops.toList eo n ls e h s K->wpAnyIn (fr r) 0 P .any ops (mu Y cx r m F0 w0 n0 K) n ls.toArray a w:=by
 obtain⟨BK,JY⟩:=kH MH;have BK:ops.size=eo.length:=by simpa using BK
 intro n
 induction n with
 | zero=>
  intro ls e h s L F a w hl hu hg hs tr hk;refine⟨?_,.inl ⟨e,h,s,L,F,rfl,hk,hg,tr,hs⟩⟩
  cases hr:Region.ready .any ops ls.toArray with
  | nil=>rfl
  | cons i _=>
   have:i∈Region.ready .any ops ls.toArray:=by rw[hr];exact List.mem_cons_self ..
   have:=iG.1 (mem_ready.1 this).1;exact absurd this (AA hu i)
 | succ n ih=>
  intro ls e h s L F a w hl hu hg hs tr hk;refine⟨fun hr=>?_,fun i hi=>?_⟩
  ·exfalso
   obtain⟨i,h1,h2⟩:=DM (ls:=ls) (by omega);have S0:i<ops.size:=by rw[<- hl];exact(List.getElem?_eq_some_iff.1 h1).1
   have:i∈Region.ready .any ops ls.toArray:=by
    rw[mem_ready];refine⟨iG.2 h1,ops[i],Array.getElem?_eq_getElem S0,fun e he hb=>?_⟩;have dh:=kN ur i ops[i] (by simp) e he hb;exact kB.2 (h2 e.on (by omega))
   rw[hr]at this;cases this
  ·obtain⟨C5,oj,J6,vE⟩:=mem_ready.1 hi
   have S0:i<ops.size:=(Array.getElem?_eq_some_iff.1 J6).1;have WQ:=iG.1 C5;have hk:LH (lu ls 0 eo ls) fun i=>DH P T Y ops.toList ops.toList[i]? e h s fun e h s=>Ic P T Y ops.toList eo n (wi ls i) e h s K:=hk;have Wu:eo[i]?=some (eo[i]'(by omega)):=List.getElem?_eq_getElem _;have J2:=Ei.1 hk i (by
    have:=tj (ls:=ls) (ds:=eo) (bs:=ls) (k:=0) (i:=i) Wu WQ (sQ fun j hj=>by
     obtain⟨e,he,hb,rfl⟩:=JY i oj _ (by simpa using J6) Wu j hj;have:=vE e he hb;rw[td];have:=kB.1 this;rw[Array.getD_eq_getD_getElem?];simp[this])
    simpa using this)
   have Pm:ops.toList[i]?=some oj:=by simpa using J6
   rw[Pm]at J2;obtain⟨dst,op,ty,pos,after,guard⟩:=oj;refine tG hT hY J6 hg (fun d SP=>by rw[hs];exact hd _ (List.mem_of_getElem? Pm) d SP) J2 (fun e' h' s' L' F' a' w' dN Tk pN nq=>?_) fun e' a' w' hp=>.inr (hp.trans tr hs);have jP:ls.toArray.setIfInBounds i true=(wi ls i).toArray:=by rw[pH];simp
   rw[jP];refine ih (by rw[pH];simpa using hl) ?_ dN (Tk.trans hs) (Tr.trans tr pN) nq;rw[pH];have:=DN WQ;omega
variable {ft : FT}
theorem Ee(hm:P.follows .mixedOrders=true)(hT:bA P T)(eo:List (List Nat)){id:Nat}{ops:Array Oper}(ja:(pE 0 ops.toList&&pc ops.toList eo)=true){e:Env}{h:Heap}{s:σ}{K:fu->St σ->Prop}
  (hk:Ic P T Y ops.toList eo eo.length (eo.map fun _=>false) e h s fun e h s=>fw (bh ft.ks e) fun e=>K .normal ⟨e,h,s⟩):tP P ft Y id ops ⟨e,h,s⟩ K:=by
 refine⟨fun cx hY r m L F a w hg hc=>?_⟩;rw[Bool.and_eq_true]at ja;obtain⟨BK,_⟩:=kH ja.2;have BK:ops.size=eo.length:=by simpa using BK
 refine wpIn_mono (wpIn_region_any (id:=id) (Q:=mu Y cx r m F w a.tmps.size (fun e h s=>fw (bh ft.ks e) fun e=>K .normal ⟨e,h,s⟩)) hm ?_) fun ex a' w' hq=>?_
 ·have qL:Array.replicate ops.size false=(eo.map fun _=>false).toArray:=by
   rw[BK];have:∀ l:List (List Nat),(l.map fun _=>false)=List.replicate l.length false:=by
    intro l
    induction l with
    | nil=>rfl
    | cons x r ih=>rw[List.map_cons,ih];rfl
   rw[this];simp
  have Tx:∀ l:List (List Nat),AL (l.map fun _=>false)=l.length:=by
   intro l
   induction l with
   | nil=>rfl
   | cons x r ih=>simp[AL,ih]
  rw[qL,BK];exact DR hT hY ja.1 ja.2 (oH hc) eo.length (by simp[BK]) (Tx eo) (hg.same (w':={ w with drawn:=w.drawn+1 }) rfl rfl rfl rfl) rfl (Tr.drew _) hk
 ·rcases hq with⟨e',h',s',L',F',hex,hk,dN,tr,hs⟩|hp
  case inr=>exact .inr hp
  rw[gI]at hk;exact .inl ⟨.normal,_,m,L',F',hex,hk,dN.sub (eC ft.ks e') (fun _ _ h=>h),tr,hs⟩
end
end Go.PX
namespace Go.PX
mutual
def df:D->D
 | .agg cs=>.agg (ng cs)
 | .tup cs=>.tup (ng cs)
 | .vs es=>.vs (tA es)
 | .nils=>.vs []
 | .ref cs=>.ref (ng cs)
 | .bool b=>.bool b
 | .int k n=>.int k n
 | .str s=>.str s
 | .nilp=>.nilp
 | .mv cY=>.mv cY
 | .nilm=>.nilm
 | .clo f bc=>.clo f bc
 | .mth f first=>.mth f first
 | .nilf=>.nilf
 | .ifc t v=>.ifc t v
 | .nili=>.nili
def ng:List D->List D
 | []=>[]
 | c::r=>df c::ng r
def tA:List (List D)->List (List D)
 | []=>[]
 | c::r=>ng c::tA r
end
theorem sI:∀ l:List D,(ng l).length=l.length
 | []=>rfl
 | c::r=>by simp only[ng,List.length_cons,sI r]
theorem sH:∀ l:List (List D),(tA l).length=l.length
 | []=>rfl
 | c::r=>by simp only[tA,List.length_cons,sH r]
mutual
theorem bR.df{F:Nat->Nat}{w:World}:∀ (a:D) (v:Value),bR F w a v->bR F w (df a) v
 | .agg cs,_,hr=>by
  obtain⟨l,rfl,hl⟩:=hr;exact⟨l,rfl,bt.df cs _ hl⟩
 | .tup cs,_,hr=>by
  obtain⟨l,rfl,hl⟩:=hr;exact⟨l,rfl,bt.df cs _ hl⟩
 | .vs es,_,hr=>by
  obtain⟨a,len,cap,rfl,hl,hc,he⟩:=hr;refine⟨a,len,cap,rfl,by rw[sH];exact hl,hc,fun er=>?_⟩;obtain⟨b,off,sz,ha,hs,fP⟩:=he (by rintro rfl;exact er rfl);exact⟨b,off,sz,ha,hs,dU.df es b off sz fP⟩
 | .nils,_,hr=>by
  have hx:_=Value.slice none 0 0:=hr;subst hx;exact⟨none,0,0,rfl,rfl,Nat.le_refl _,fun h=>absurd rfl h⟩
 | .ref cs,_,hr=>by
  obtain⟨b,off,rfl,hc⟩:=hr;exact⟨b,off,rfl,dm.df cs b off hc⟩
 | .bool _,_,hr=>hr
 | .int _ _,_,hr=>hr
 | .str _,_,hr=>hr
 | .nilp,_,hr=>hr
 | .mv _,_,hr=>hr
 | .nilm,_,hr=>hr
 | .clo _ _,_,hr=>hr
 | .mth _ _,_,hr=>hr
 | .nilf,_,hr=>hr
 | .ifc _ _,_,hr=>hr
 | .nili,_,hr=>hr
theorem bt.df{F:Nat->Nat}{w:World}:∀ (cs:List D) (l:List Value),bt F w cs l->bt F w (ng cs) l
 | [],_,hr=>hr
 | c::r,_,hr=>by
  obtain⟨x,l',rfl,hc,hl⟩:=hr;exact⟨x,l',rfl,bR.df c x hc,bt.df r l' hl⟩
theorem dm.df{F:Nat->Nat}{w:World}:∀ (cs:List D) (b off:Nat),dm F w b off cs->dm F w b off (ng cs)
 | [],_,_,_=>trivial
 | c::r,b,off,hr=>by
  obtain⟨hf,⟨x,hx,hc⟩,hl⟩:=hr;exact⟨hf,⟨x,hx,bR.df c x hc⟩,dm.df r b (off+1) hl⟩
theorem dU.df{F:Nat->Nat}{w:World}:∀ (es:List (List D)) (b off sz:Nat),dU F w b off sz es->dU F w b off sz (tA es)
 | [],_,_,_,_=>trivial
 | e::r,b,off,sz,hr=>by
  obtain⟨hn,he,hl⟩:=hr;exact⟨by rw[sI];exact hn,dm.df e b off he,dU.df r b (off+sz) sz hl⟩
end
theorem bq.df{P:Program}{f:FuncId}{ds:List D}{r:D}(h:bq P f ds r){r':D}(hr:PX.df r=r'):bq P f ds r':=by
 subst hr;intro σ Y s;obtain⟨h1,h2⟩:=h Y s;refine⟨h1,fun cx hY L F aT w hh hv=>(h2 cx hY L F aT w hh hv).mono ?_⟩;rintro e w' ⟨x,rfl,v,h',s',L',F',⟨⟨rfl,rfl⟩,rfl⟩,nn,hx,tr,hp⟩;exact⟨x,rfl,_,_,_,L',F',⟨⟨rfl,rfl⟩,rfl⟩,nn,bR.df r x hx,tr,hp⟩
section
variable {P : Program} {σ : Type} {Y : Hd σ}
theorem R1{args0:List V}{h0:Heap}{s:σ}{Q:V->Heap->σ->Prop}(tb:List Nat){e:Env}{h:Heap}{d:Option Nat}{args:List V}{K:St σ->Prop}(hy:Y.y args0 h0 s Q)
  (dM:sq (fj tb (d.getD 0)) args0=args) (fB:jS (fj tb (d.getD 0)) h 1000000 tb h0) (rT:nodupB tb=true) (ze:Nat.ble tb.length 1000=true)
  (hq:∀ v h1 s',Q v h1 s'->fU tb d v h1=true/\bz (c8 tb d v h1) e h fun e h=>K ⟨e,h,s'⟩):GD P Y ⟨e,h,s⟩ d args K:=by
 refine DT tb hy dM fB rT ze fun v h1 s' hv=>?_;obtain⟨h2,h3⟩:=hq v h1 s' hv;refine⟨h2,?_⟩;rw[cO s']at h3;have hs:(aL (⟨e,h,s'⟩:St σ) (c8 tb d v h1)).s=s':=dG _ _;generalize aL (⟨e,h,s'⟩:St σ) (c8 tb d v h1)=st at h3 hs;obtain⟨e1,h1,s1⟩:=st;simp only at hs;subst hs;exact h3
end
theorem rJ{P:Program}{σ:Type}{Y:Hd σ}{st:St σ}{d:Option Nat}{f:FuncId}{args args':List V}{K:St σ->Prop}(h:∀ (yv:Option Nat) (L:Loc) (F:Nat->Nat) (w:World) (l:List Value),aq yv L F w args l->aq yv L F w args' l)(hc:eg P Y st d f args' K):eg P Y st d f args K:=by
 obtain⟨h1,h2⟩:=hc;exact⟨h1,fun cx hY r m L F a w aT hg hd hr=>h2 cx hY r m L F a w aT hg hd (h _ _ _ _ _ hr)⟩
theorem GB{P:Program}{σ:Type}{Y:Hd σ}{st:St σ}{d:Option Nat}{f:FuncId}{a:V}{r:List V}{K:St σ->Prop}(hc:eg P Y st d f (a :: .d (.vs [])::r) K):eg P Y st d f (a :: .d .nils::r) K:=by
 refine rJ (fun yv L F w l h=>?_) hc;obtain⟨x,l',rfl,h1,y,Xv,rfl,h2,h3⟩:=h;exact⟨x,_,rfl,h1,y,_,rfl,bR.df .nils y h2,h3⟩
def FT.less(ft:FT)(id:Nat):FT:=⟨ft.ks,cut ft.tb id⟩
theorem AH:∀ l:List D,j5 (inj l)=true
 | []=>rfl
 | x::r=>by simp only[inj,j5,iN,AH r];rfl
theorem mb{l:List Nat}{K:List Nat->Prop}(l':List Nat)(h:l=l')(k:eA l' K):eA l K:=by subst h;exact k
theorem uO:∀ l:List D,ck (inj l) = []
 | []=>rfl
 | x::r=>by simp only[inj,ck,cQ,uO r];rfl
theorem uN:∀ a b:List V,ck (a++b)=ck a++ck b
 | [],b=>rfl
 | x::r,b=>by simp only[List.cons_append,ck,uN r b,List.append_assoc]
theorem fS(l:List (List D))(vs:List (List V)):ck (bg l++vs).flatten=ck vs.flatten:=by
 rw[List.flatten_append,uN,eG,uO];rfl
def FT.more(ft:FT)(id:Nat)(l:List Nat):FT:=⟨ft.ks,ft.tb.map fun p=>match Nat.beq p.1 id with
 | true=>(p.1,⟨p.2.made++l,p.2.jV⟩)
 | false=>p⟩
theorem y7:∀ (l:List V) (i k:Nat) (v:V),l[k]?=some v->get (dS i l) (i+k)=some v
 | [],_,k,v,h=>by simp at h
 | a::r,i,0,v,h=>by
  simp at h;subst h;simp[dS,get]
 | a::r,i,k+1,v,h=>by
  have er:Nat.beq i (i+(k+1))=false:=by
   rw[Bool.eq_false_iff];intro e;have:=Nat.eq_of_beq_eq_true e;omega
  simp only[dS,get,er];rw[show i+(k+1)=i+1+k by omega];exact y7 r (i+1) k v (by simpa using h)
theorem aq.of{yv:Option Nat}{L:Loc}{F:Nat->Nat}{w:World}:∀ {l:List V} {aT:List Value},l.length=aT.length->(∀ (k:Nat) (v:V),l[k]?=some v -> ∃ x,aT[k]?=some x/\br yv L F w v x)->aq yv L F w l aT
 | [],[],_,_=>rfl
 | [],_::_,h,_=>by simp at h
 | _::_,[],h,_=>by simp at h
 | v::l,x::aT,h,hk=>by
  obtain⟨y,hy,hr⟩:=hk 0 v rfl;simp at hy;subst hy;exact⟨x,aT,rfl,hr,aq.of (by simpa using h) fun k u hu=>by simpa using hk (k+1) u (by simpa using hu)⟩
theorem oV{σ:Type}{l l':List V}{h h':Heap}{s:σ}{Q:V->Heap->σ->Prop}(hw:Wk (⟨dS 0 l,h,s⟩:St σ) ⟨dS 0 l',h',s⟩)(hlen:l'.length=l.length)(hl:Nat.ble l.length 1000=true)(hr:p9 l' h' s Q):p9 l h s Q:=by
 obtain⟨hr⟩:=hr;refine⟨fun cx L F aT w hh hv=>?_⟩;have Hi:aT.length=l.length:=by simpa using hv.length
 have hl:=Nat.le_of_ble_eq_true hl;have hg:Good { cx with pρ:=L.ρ,pκ:=L.κ,base:=[] } none [] L F ⟨dS 0 l,h,s⟩ { tmps:=aT.toArray,defers:=[] } w:=by
  refine⟨⟨hh.hg,hh.hP,hh.fresh,hh.obj,hh.own,hh.inj⟩,fun t v ht=>?_,rfl,(fun b hb=>by cases hb),List.nodup_nil,(fun l hl=>by cases hl),fun _ _=>⟨rfl,rfl⟩,by simp;omega⟩;obtain⟨k,hk,M7⟩:=mc ht;rw[Nat.zero_add]at hk;subst hk;obtain⟨x,hx,tL⟩:=hv.get t M7;exact⟨x,by simpa using hx,tL⟩
 obtain⟨L1,F1,dX,tr⟩:=hw _ _ _ _ _ _ _ hg;have Rp:aq cx.yv L1 F1 w l' aT:=by
  refine aq.of (by omega) fun k v hk=>?_;obtain⟨x,hx,tL⟩:=dX.env k v (by simpa using y7 l' 0 k v hk);exact⟨x,by simpa using hx,tL⟩
 have ML:a7 cx L1 F1 h' s w:=⟨dX.heap.hg,dX.heap.hP,dX.heap.fresh,dX.heap.obj,dX.heap.own,dX.heap.inj⟩;obtain⟨v,h2,L2,F2,q1,q2,q3,q4,q5⟩:=hr cx L1 F1 aT w ML Rp;refine⟨v,h2,L2,F2,q1,q2,q3,Tr.trans tr q4,fun i hi=>?_⟩;obtain⟨p1,p2⟩:=q5 i hi;obtain⟨p3,p4⟩:=dX.jF i hi;exact⟨p1.trans p3,p2.trans p4⟩
theorem Good.EH{σ:Type}{cx:Cx σ}{r:Option Nat}{m:List Nat}{L:Loc}{F:Nat->Nat}{st:St σ}{a:Act}{w:World}(hg:Good cx r m L F st a w){h:Heap}(mN:dR h st.heap)(n:Nat) :
  ∃ F1,Good cx r m L F1 (aL st (yJ (dY h))) a w/\Tr F w F1 w /\ ∀ args aT,aq cx.yv L F w args aT->aq cx.yv L F1 w (jB (fp h n) args) aT:=by
 have gL:a7 cx L F h st.s w:=(hg.sub (e:=st.env) (h:=h) (fun _ _ h=>h) mN).heap;have tr:=gK gL;have AU:∀ b,cx.C st.s b->fO L F h w b=F b:=fun b hb=>qC gL hb;have EN:∀ id o,get st.heap id=some o->id∉dY h->aS L id o->fO L F h w (L.ρ id)=F (L.ρ id):=by
  intro id o hi hn hb;refine iF ?_;rintro ⟨j,p,hj,jt,qe⟩;have:=hg.heap.inj j id p o (mN j p hj) hi jt hb qe;subst this;exact hn (mQ hj)
 have D0:=gz gL;have xG:=pD gL n;generalize fO L F h w=F1 at tr AU EN D0 xG;rw[gv];have sk:∀ i o,get (lL st.heap (dY h)) i=some o->i∉dY h/\get st.heap i=some o:=by
  intro i o hi;rw[mI]at hi;split at hi
  ·cases hi
  ·rename_i hn;exact⟨hn,hi⟩
 refine⟨F1,⟨⟨cx.gE hg.heap.hg tr D0 fun b hb=>⟨rfl,AU b hb⟩,hg.heap.hP,D0,?_,?_,?_⟩,?_,hg.tZ,hg.pB,hg.xe,hg.lk,hg.jF,hg.ve⟩,tr,fun args aT hr=>aq.iJ tr xG args aT hr⟩
 ·intro i o hi
  exact bU.mono tr i o (fun _ _=>⟨rfl,rfl⟩) ⟨rfl,rfl⟩ (fun _=>rfl) (hg.heap.obj i o (sk i o hi).2)
 ·intro i o hi hb
  obtain⟨hn,h0⟩:=sk i o hi;rw[EN i o h0 hn hb];exact hg.heap.own i o h0 hb
 ·intro i j o p hi hj mf jt he
  exact hg.heap.inj i j o p (sk i o hi).2 (sk j p hj).2 mf jt he
 ·intro t v ht
  obtain⟨x,hx,hr⟩:=hg.env t v ht;exact⟨x,hx,br.mono tr v x (fun _ _=>⟨rfl,rfl⟩) hr⟩
end Go.PX
namespace Go.PX
open Go.RowKit
section
variable {κ : Type} [DecidableEq κ] (kd : κ -> D)
def bO(m:List (κ×Int)):List (D×D):=m.map fun p=>(kd p.1,.int .i64 p.2)
def getM:List (κ×Int)->κ->Option Int
 | [],_=>none
 | (u,x)::r,t=>if t=u then some x else getM r t
def rk:List (κ×Int)->κ->Int->List (κ×Int)
 | [],t,v=>[(t,v)]
 | (u,x)::r,t,v=>if t=u then (t,v)::r else (u,x)::rk r t v
variable {kd}
theorem gy(hs:∀ a b,fC (kd a) (kd b)=some (decide (a=b))){t:κ}:∀ {m:List (κ×Int)},getM m t=none -> ∀ n,findD (kd t) (bO kd m) n=some none
 | [],_,n=>rfl
 | (u,x)::r,h,n=>by
  rw[getM]at h;split at h
  ·cases h
  ·rename_i hu
   show(match fC (kd t) (kd u) with
    | some true=>some (some (n,D.int .i64 x))
    | some false=>findD (kd t) (bO kd r) (n+1)
    | none=>none)=_
   rw[hs,decide_eq_false hu];exact gy hs h (n+1)
theorem jg(hs:∀ a b,fC (kd a) (kd b)=some (decide (a=b))){t:κ}{v:Int}:∀ {m:List (κ×Int)},getM m t=some v -> ∀ n,∃ i,i<m.length/\findD (kd t) (bO kd m) n=some (some (n+i,.int .i64 v))/\(∀ y,(bO kd m).set i (kd t,.int .i64 y)=bO kd (rk m t y))/\cK (bO kd m) i (kd t)=bO kd m /\ ∀ y,cL (bO kd m) i (.int .i64 y)=bO kd (rk m t y)
 | [],h,n=>by cases h
 | (u,x)::r,h,n=>by
  rw[getM]at h;split at h
  ·rename_i hu
   cases h;subst hu;refine⟨0,by simp,?_,fun y=>?_,rfl,fun y=>?_⟩
   ·show(match fC (kd t) (kd t) with
     | some true=>some (some (n,D.int .i64 v))
     | some false=>findD (kd t) (bO kd r) (n+1)
     | none=>none)=_
    rw[hs,decide_eq_true rfl];rfl
   ·rw[rk,if_pos rfl];rfl
   ·rw[rk,if_pos rfl];rfl
  ·rename_i hu
   obtain⟨i,h0,h1,h2,h3,h4⟩:=jg hs h (n+1);refine⟨i+1,by simp;omega,?_,fun y=>?_,?_,fun y=>?_⟩
   ·show(match fC (kd t) (kd u) with
     | some true=>some (some (n,D.int .i64 x))
     | some false=>findD (kd t) (bO kd r) (n+1)
     | none=>none)=_
    rw[hs,decide_eq_false hu];show findD (kd t) (bO kd r) (n+1)=_;rw[h1,show n+1+i=n+(i+1) by omega]
   ·rw[rk,if_neg hu]
    show(kd u,D.int .i64 x)::(bO kd r).set i (kd t,.int .i64 y)=(kd u,D.int .i64 x)::bO kd (rk r t y);rw[h2 y]
   ·show(kd u,D.int .i64 x)::cK (bO kd r) i (kd t)=_
    rw[h3];rfl
   ·rw[rk,if_neg hu]
    show(kd u,D.int .i64 x)::cL (bO kd r) i (.int .i64 y)=(kd u,D.int .i64 x)::bO kd (rk r t y);rw[h4 y]
theorem iI{t:κ}(y:Int):∀ {m:List (κ×Int)},getM m t=none->bO kd m ++ [(kd t,.int .i64 y)]=bO kd (rk m t y)
 | [],_=>rfl
 | (u,x)::r,h=>by
  rw[getM]at h;split at h
  ·cases h
  ·rename_i hu
   rw[rk,if_neg hu];show(kd u,D.int .i64 x)::(bO kd r ++ [(kd t,.int .i64 y)])=_;rw[iI y h];rfl
theorem gx(hs:∀ a b,fC (kd a) (kd b)=some (decide (a=b))){t:κ}{z:D}:∀ {m:List (κ×Int)},getM m t=none -> ∀ n,findD (kd t) (bO kd m ++ [(kd t,z)]) n=some (some (n+(bO kd m).length,z))
 | [],_,n=>by
  show(match fC (kd t) (kd t) with
   | some true=>some (some (n,z))
   | some false=>findD (kd t) [] (n+1)
   | none=>none)=_
  rw[hs,decide_eq_true rfl];rfl
 | (u,x)::r,h,n=>by
  rw[getM]at h;split at h
  ·cases h
  ·rename_i hu
   show(match fC (kd t) (kd u) with
    | some true=>some (some (n,D.int .i64 x))
    | some false=>findD (kd t) (bO kd r ++ [(kd t,z)]) (n+1)
    | none=>none)=_
   rw[hs,decide_eq_false hu];show findD (kd t) (bO kd r ++ [(kd t,z)]) (n+1)=_;rw[gx hs h (n+1)];show some (some (n+1+(bO kd r).length,z))=some (some (n+((bO kd r).length+1),z));rw[show n+1+(bO kd r).length=n+((bO kd r).length+1) by omega]
theorem gC{k x y:D}:∀ (l:List (D×D)),cL (l ++ [(k,x)]) l.length y=l ++ [(k,y)]
 | []=>rfl
 | p::r=>by
  show p::cL (r ++ [(k,x)]) r.length y=_;rw[gC r];rfl
theorem EL(m:List (κ×Int))(t u:κ)(y:Int):getM (rk m t y) u=if u=t then some y else getM m u:=by
 induction m with
 | nil=>rfl
 | cons p r ih=>
  obtain⟨w,x⟩:=p;rw[rk];split
  ·rename_i h
   subst h;simp only[getM];split<;>rfl
  ·rename_i h
   simp only[getM];split
   ·rename_i h2
    subst h2;rw[if_neg (fun e=>h e.symm)]
   ·exact ih
theorem NS(m:List (κ×Int))(t:κ)(y:Int):(rk m t y).length<=m.length+1:=by
 induction m with
 | nil=>simp[rk]
 | cons p r ih=>
  obtain⟨w,x⟩:=p;rw[rk];split
  ·simp
  ·simp;omega
theorem nE{m:List (κ×Int)}{t:κ}:(getM m t).isSome=true↔t∈m.map (·.1):=by
 induction m with
 | nil=>simp[getM]
 | cons p r ih=>
  obtain⟨w,x⟩:=p;rw[getM];split
  ·rename_i h;subst h;simp
  ·rename_i h;simp[ih,h]
theorem eT(m:List (κ×Int)):(bO kd m).length=m.length:=by simp[bO]
end
def Np(P:Program)(t:TypeId)(name:String)(g:FuncId):Bool:=
 match P.info? t,P.underlying t with
 | some i,some d=>(match d with
  | .pointer _=>false
  | _=>true)&&(match i.methods.find? (·.name ==name) with
  | some m=>m.path.isEmpty&&(match m.func with
   | some (g',false)=>g' ==g
   | _=>false)
  | none=>false)
 | _,_=>false
theorem P1{P:Program}{t:TypeId}{name:String}{g:FuncId}(h:Np P t name g=true)(v:Value)(w:World):(method (P.types.size+Made.depth) t v name).run P w = .ok (g,v) w:=by
 unfold Np at h;split at h;case h_2=>cases h
 rename_i i d hi hd;rw[Bool.and_eq_true]at h;obtain⟨hp,h⟩:=h;split at h;case h_2=>cases h
 rename_i m hm;rw[Bool.and_eq_true]at h;obtain⟨WZ,h⟩:=h;split at h;case h_2=>cases h
 rename_i g' hf;have:g'=g:=by simpa using h
 subst this;obtain⟨n,hn⟩:∃ n,P.types.size+Made.depth=n+1:=⟨P.types.size+99,rfl⟩;have rS:m.path.toList = []:=by
  have:m.path = #[]:=by simpa using WZ
  rw[this]
 rw[hn,method];have h1:(typeInfo t).run P w = .ok i w:=by simp[typeInfo,hi]
 have hu:(underlying t).run P w = .ok d w:=run_underlying hd w;simp only[Sem.run_bind,h1,Result.andThen_ok,hm,rS,follow,Sem.run_pure,hf];cases d<;>first|(simp at hp;done)|simp[receiverAt,hu,Sem.run_bind,Place.get]
theorem mr{P:Program}{t:TypeId}{name:String}{K:FuncId->Prop}(g:FuncId)(h:Np P t name g=true)(hk:K g):Lw P t name K:=⟨g,P1 h,hk⟩
end Go.PX
namespace Go.PX.PG
variable {α : Type}
structure Step(α:Type) where
 a:α
 b:α
 w:Int
def RY(es:List (Step α))(t:α->Int):Prop:=∀ e∈es,t e.b<=t e.a+e.w
inductive gM(es:List (Step α)):α->α->Nat->Int->Prop
 | nil (a:α):gM es a a 0 0
 | snoc {a b:α} {n:Nat} {x:Int} (h:gM es a b n x) (e:Step α) (he:e∈es) (hb:e.a=b):gM es a e.b (n+1) (x+e.w)
theorem gM.UF{es:List (Step α)}{t:α->Int}(ht:RY es t){a b:α}{n:Nat}{x:Int}(h:gM es a b n x):t b<=t a+x:=by
 induction h with
 | nil=>omega
 | snoc h e he hb ih=>
  have:=ht e he;rw[hb]at this;omega
theorem gM.trans{es:List (Step α)}{a b:α}{n:Nat}{x:Int}(h:gM es a b n x){c:α}{m:Nat}{y:Int}(k:gM es b c m y):gM es a c (n+m) (x+y):=by
 induction k with
 | nil=>simpa using h
 | snoc k e he hb ih=>
  have:=gM.snoc ih e he hb;rw[Int.add_assoc]at this;exact this
theorem gM.one{es:List (Step α)}{e:Step α}(he:e∈es):gM es e.a e.b 1 e.w:=by
 have:=gM.snoc (gM.nil (es:=es) e.a) e he rfl;simpa using this
structure AM(es:List (Step α))(a:α)(l:α->Option Int):Prop where
 walk:∀ v x,l v=some x -> ∃ n,gM es a v n x
 fix:∀ e∈es,∀ x,l e.a=some x -> ∃ y,l e.b=some y/\y<=x+e.w
 root:∃ x,l a=some x/\x<=0
theorem AM.le{es:List (Step α)}{a:α}{l:α->Option Int}(h:AM es a l){b:α}{n:Nat}{x:Int}(k:gM es a b n x):∃ y,l b=some y/\y<=x:=by
 induction k with
 | nil=>exact h.root
 | snoc k e he hb ih=>
  obtain⟨y,h1,h2⟩:=ih;rw[<- hb]at h1;obtain⟨z,h3,h4⟩:=h.fix e he y h1;exact⟨z,h3,by omega⟩
theorem AM.RN{es:List (Step α)}{a:α}{l:α->Option Int}(h:AM es a l):l a=some 0:=by
 obtain⟨x,h1,h2⟩:=h.root;obtain⟨n,hw⟩:=h.walk a x h1;obtain⟨y,h3,h4⟩:=h.le (hw.trans hw);rw[h1]at h3;cases h3;have:x=0:=by omega
 rw[h1,this]
theorem AM.UF{es:List (Step α)}{a:α}{l:α->Option Int}(h:AM es a l)(cR:∀ e∈es,∃ x,l e.a=some x):RY es fun v=>(l v).getD 0:=by
 intro e he;obtain⟨x,hx⟩:=cR e he;obtain⟨y,hy,hle⟩:=h.fix e he x hx;simp only[hx,hy,Option.getD_some];exact hle
theorem AM.Ky{es:List (Step α)}{a:α}{l:α->Option Int}(h:AM es a l){t:α->Int}(ht:RY es t){v:α}{x:Int}(hx:l v=some x):t v<=t a+x:=by
 obtain⟨n,hw⟩:=h.walk v x hx;exact hw.UF ht
inductive WL(es:List (Step α)):List α->Int->Prop
 | one (a:α):WL es [a] 0
 | snoc {b:α} {l:List α} {x:Int} (h:WL es (b::l) x) (e:Step α) (he:e∈es) (hb:e.a=b):WL es (e.b::b::l) (x+e.w)
theorem WL.split{es:List (Step α)}:∀ (l1:List α) {c:α} {l2:List α} {x:Int},WL es (l1++c::l2) x -> ∃ x1 x2,WL es (c::l2) x1/\WL es (l1 ++ [c]) x2/\x=x1+x2
 | [],c,l2,x,h=>⟨x,0,h,.one c,by omega⟩
 | d::l1,c,l2,x,h=>by
  cases hl:l1++c::l2 with
  | nil=>simp at hl
  | cons b r=>
   rw[List.cons_append,hl]at h
   cases h with
   | snoc h e he hb=>
    rename_i y;rw[<- hl]at h;obtain⟨x1,x2,h1,h2,h3⟩:=WL.split l1 h;refine⟨x1,x2+e.w,h1,?_,by omega⟩
    cases l1 with
    | nil=>
     simp at hl;obtain⟨rfl,_⟩:=hl;exact WL.snoc (l:=[]) h2 e he hb
    | cons b' r'=>
     simp at hl;obtain⟨rfl,_⟩:=hl;exact WL.snoc (l:=r' ++ [c]) h2 e he hb
theorem WL.join{es:List (Step α)}:∀ (l1:List α) {c:α} {l2:List α} {x1 x2:Int},WL es (c::l2) x1->WL es (l1 ++ [c]) x2->WL es (l1++c::l2) (x1+x2)
 | [],c,l2,x1,x2,h1,h2=>by
  cases h2;simpa using h1
 | d::l1,c,l2,x1,x2,h1,h2=>by
  cases hl:l1 ++ [c]with
  | nil=>simp at hl
  | cons b r=>
   rw[List.cons_append,hl]at h2
   cases h2 with
   | snoc h e he hb=>
    rename_i y;rw[<- hl]at h;have h3:=WL.join l1 h1 h
    cases l1 with
    | nil=>
     simp at hl;obtain⟨rfl,_⟩:=hl;have:=WL.snoc (l:=l2) h3 e he hb;rw[Int.add_assoc]at this;exact this
    | cons b' r'=>
     simp at hl;obtain⟨rfl,_⟩:=hl;have:=WL.snoc (l:=r'++c::l2) h3 e he hb;rw[Int.add_assoc]at this;exact this
theorem wN[DecidableEq α]:∀ {l N:List α},N.length<l.length->(∀ x∈l,x∈N) -> ∃ l1 c l2 l3,l=l1++c::(l2++c::l3)
 | [],N,h,_=>absurd h (by simp)
 | a::l,N,h,hs=>by
  by_cases ha:a∈l
  ·obtain⟨l2,l3,rfl⟩:=List.append_of_mem ha
   exact⟨[],a,l2,l3,rfl⟩
  ·have h1:(N.erase a).length<l.length:=by
    have:=List.length_erase_of_mem (hs a (by simp));simp at h;have h0:0<N.length:=List.length_pos_of_mem (hs a (by simp));omega
   obtain⟨l1,c,l2,l3,rfl⟩:=wN h1 (fun x hx=>(List.mem_erase_of_ne (by rintro rfl;exact ha hx)).2 (hs x (by simp[hx])));exact⟨a::l1,c,l2,l3,rfl⟩
theorem WL.short[DecidableEq α]{es:List (Step α)}{N:List α}(vI:∀ c l x,WL es (c::(l ++ [c])) x->0<=x):∀ (k:Nat) {l:List α} {x:Int},l.length<=k->WL es l x->(∀ v∈l,v∈N) -> ∃ l' x',WL es l' x'/\l'.length<=N.length/\x'<=x/\l'.head?=l.head?/\l'.getLast?=l.getLast? /\ ∀ v∈l',v∈N
 | 0,[],x,_,h,_=>by cases h
 | k+1,l,x,hk,h,hN=>by
  by_cases hlen:l.length<=N.length
  ·exact⟨l,x,h,hlen,Int.le_refl _,rfl,rfl,hN⟩
  ·obtain⟨l1,c,l2,l3,rfl⟩:=wN (by omega) hN
   obtain⟨x1,x2,h1,h2,h3⟩:=WL.split l1 h;obtain⟨y1,y2,h4,h5,h6⟩:=WL.split (c::l2) (by simpa using h1);have h7:=vI c l2 y2 (by simpa using h5);have h8:=WL.join l1 h4 h2;obtain⟨l',x',a1,a2,a3,a4,a5,a6⟩:=WL.short vI k (l:=l1++c::l3) (x:=y1+x2) (by simp at hk ⊢;omega) h8 (fun v hv=>hN v (by
    rcases List.mem_append.1 hv with hv|hv
    ·simp[hv]
    ·rcases List.mem_cons.1 hv with rfl|hv
     ·simp
     ·simp[hv]))
   refine⟨l',x',a1,a2,by omega,?_,?_,a6⟩
   ·rw[a4]
    cases l1<;>simp
   ·rw[a5]
    simp[List.getLast?_append,List.getLast?_cons]
end Go.PX.PG
namespace Go.PX.PG
variable {α : Type} [DecidableEq α]
def Ol(l:α->Option Int)(b:α)(x:Int):α->Option Int:=fun v=>if v=b then some x else l v
def df(l:α->Option Int)(e:Step α):α->Option Int:=
 match l e.a with
 | none=>l
 | some n=>match l e.b with
  | none=>Ol l e.b (n+e.w)
  | some m=>if n+e.w<m then Ol l e.b (n+e.w) else l
def round(es:List (Step α))(l:α->Option Int):α->Option Int:=es.foldl df l
def rounds(es:List (Step α)):Nat->(α->Option Int)->α->Option Int
 | 0,l=>l
 | k+1,l=>rounds es k (round es l)
def vo(l' l:α->Option Int):Prop:=∀ v x,l v=some x -> ∃ y,l' v=some y/\y<=x
theorem vo.refl(l:α->Option Int):vo l l:=fun v x h=>⟨x,h,Int.le_refl _⟩
theorem vo.trans{a b c:α->Option Int}(h:vo a b)(k:vo b c):vo a c:=fun v x hx=>by
 obtain⟨y,h1,h2⟩:=k v x hx;obtain⟨z,h3,h4⟩:=h v y h1;exact⟨z,h3,by omega⟩
theorem Ai(l:α->Option Int)(e:Step α):vo (df l e) l:=by
 unfold df;split
 ·exact vo.refl l
 ·split
  ·intro v x hx
   rename_i h;unfold Ol;split
   ·rename_i h2;subst h2;rw[hx]at h;cases h
   ·exact⟨x,hx,Int.le_refl _⟩
  ·split
   ·intro v x hx
    rename_i m hm dh;unfold Ol;split
    ·rename_i h2;subst h2
     rw[hm]at hx;cases hx;exact⟨_,rfl,by omega⟩
    ·exact⟨x,hx,Int.le_refl _⟩
   ·exact vo.refl l
theorem NW(l:α->Option Int)(e:Step α){x:Int}(h:l e.a=some x):∃ y,df l e e.b=some y/\y<=x+e.w:=by
 unfold df;rw[h];simp only
 cases hm:l e.b with
 | none=>exact⟨_,by simp only[Ol,if_pos],Int.le_refl _⟩
 | some m=>
  simp only;split
  ·exact⟨_,by simp only[Ol,if_pos],Int.le_refl _⟩
  ·exact⟨m,hm,by omega⟩
theorem vx:∀ (es:List (Step α)) (l:α->Option Int),vo (es.foldl df l) l
 | [],l=>vo.refl l
 | e::es,l=>(vx es (df l e)).trans (Ai l e)
theorem IE:∀ (es:List (Step α)) (l:α->Option Int) (e:Step α),e∈es -> ∀ x,l e.a=some x -> ∃ y,es.foldl df l e.b=some y/\y<=x+e.w
 | d::es,l,e,he,x,hx=>by
  rw[List.foldl_cons];rcases List.mem_cons.1 he with rfl|he
  ·obtain⟨y,h1,h2⟩:=NW l e hx
   obtain⟨z,h3,h4⟩:=vx es (df l e) _ _ h1;exact⟨z,h3,by omega⟩
  ·obtain⟨y,h1,h2⟩:=Ai l d _ _ hx
   obtain⟨z,h3,h4⟩:=IE es (df l d) e he y h1;exact⟨z,h3,by omega⟩
def wH(es:List (Step α))(a:α)(l:α->Option Int):Prop:=∀ v x,l v=some x -> ∃ n,gM es a v n x
theorem FM{es:List (Step α)}{a:α}{l:α->Option Int}(h:wH es a l){e:Step α}(he:e∈es):wH es a (df l e):=by
 have key:∀ n,l e.a=some n->wH es a (Ol l e.b (n+e.w)):=by
  intro n hn v x hx;unfold Ol at hx;split at hx
  ·rename_i h2;subst h2
   cases hx;obtain⟨k,hw⟩:=h e.a n hn;exact⟨_,gM.snoc hw e he rfl⟩
  ·exact h v x hx
 unfold df;split
 ·exact h
 ·rename_i n hn
  split
  ·exact key n hn
  ·split
   ·exact key n hn
   ·exact h
theorem yX{es:List (Step α)}{a:α}:∀ (ds:List (Step α)) {l:α->Option Int},(∀ e∈ds,e∈es)->wH es a l->wH es a (ds.foldl df l)
 | [],l,_,h=>h
 | d::ds,l,hd,h=>yX ds (fun e he=>hd e (by simp[he])) (FM h (hd d (by simp)))
theorem u0{es:List (Step α)}{a:α}:∀ (k:Nat) {l:α->Option Int},wH es a l->wH es a (rounds es k l)
 | 0,l,h=>h
 | k+1,l,h=>u0 k (yX es (fun e he=>he) h)
theorem xp{es:List (Step α)}:∀ (k:Nat) (l:α->Option Int),vo (rounds es k l) l
 | 0,l=>vo.refl l
 | k+1,l=>(xp k (round es l)).trans (vx es l)
theorem rounds_succ(es:List (Step α)):∀ (k:Nat) (l:α->Option Int),rounds es (k+1) l=round es (rounds es k l)
 | 0,l=>rfl
 | k+1,l=>by rw[rounds,rounds_succ es k (round es l)];rfl
theorem wa{es:List (Step α)}{a:α}{l:α->Option Int}(h0:∃ x,l a=some x/\x<=0){v:α}{n:Nat}{x:Int}(hw:gM es a v n x):∀ k,n<=k -> ∃ y,rounds es k l v=some y/\y<=x:=by
 induction hw with
 | nil=>
  intro k _;obtain⟨x,h1,h2⟩:=h0;obtain⟨y,h3,h4⟩:=xp (es:=es) k l a x h1;exact⟨y,h3,by omega⟩
 | snoc h e he hb ih=>
  intro k hk;obtain⟨k,rfl⟩:∃ j,k=j+1:=⟨k-1,by omega⟩;obtain⟨y,h1,h2⟩:=ih k (by omega);rw[rounds_succ];rw[<- hb]at h1;obtain⟨z,h3,h4⟩:=IE es _ e he y h1;exact⟨z,h3,by omega⟩
def Bh(es:List (Step α)):Prop:=∀ c n x,gM es c c n x->0<=x
theorem vV{es:List (Step α)}{t:α->Int}(h:RY es t):Bh es:=fun c n x hw=>by
 have:=hw.UF h;omega
theorem WL.walk{es:List (Step α)}:∀ {l:List α} {b a:α} {x:Int},WL es (b::l) x->(b::l).getLast?=some a->gM es a b l.length x:=by
 intro l b a x h;generalize hl:b::l=m at h
 induction h generalizing b l with
 | one c=>
  intro ha;cases hl;simp at ha;subst ha;exact .nil _
 | snoc h e he hb ih=>
  rename_i b' l' x';intro ha;cases hl;have h1:=ih rfl (by simpa[List.getLast?_cons]using ha);exact gM.snoc h1 e he hb
theorem gM.wl{es:List (Step α)}{N:List α}(hN:∀ e∈es,e.a∈N/\e.b∈N){a b:α}(ha:a∈N){n:Nat}{x:Int}(h:gM es a b n x):∃ l,l.length=n/\WL es (b::l) x/\(b::l).getLast?=some a /\ ∀ v∈b::l,v∈N:=by
 induction h with
 | nil=>exact⟨[],rfl,.one _,rfl,by simpa using ha⟩
 | snoc h e he hb ih=>
  rename_i b' n' x';obtain⟨l,h1,h2,h3,h4⟩:=ih;refine⟨b'::l,by simp[h1],WL.snoc h2 e he hb,by simpa[List.getLast?_cons]using h3,fun v hv=>?_⟩;rcases List.mem_cons.1 hv with rfl|hv
  ·exact(hN e he).2
  ·exact h4 v hv
theorem gM.short{es:List (Step α)}{N:List α}(hN:∀ e∈es,e.a∈N/\e.b∈N)(ob:Bh es){a b:α}(ha:a∈N){n:Nat}{x:Int}(h:gM es a b n x):∃ m y,m<N.length/\y<=x/\gM es a b m y:=by
 obtain⟨l,h1,h2,h3,h4⟩:=h.wl hN ha;have vI:∀ c l x,WL es (c::(l ++ [c])) x->0<=x:=fun c l x h=>ob c _ x (h.walk (by simp[List.getLast?_cons,List.getLast?_append]));obtain⟨l',y,a1,a2,a3,a4,a5,a6⟩:=WL.short vI (b::l).length (Nat.le_refl _) h2 h4
 cases l' with
 | nil=>cases a1
 | cons b' l'=>
  simp at a4;subst a4;refine⟨l'.length,y,by simp at a2;omega,a3,a1.walk (by rw[a5];exact h3)⟩
theorem FU{es:List (Step α)}{N:List α}(hN:∀ e∈es,e.a∈N/\e.b∈N)(ob:Bh es){a:α}(ha:a∈N){k:Nat}(hk:N.length<=k+1):AM es a (rounds es k fun v=>if v=a then some 0 else none):=by
 have h0:∃ x,(fun v=>if v=a then some (0:Int) else none) a=some x/\x<=0:=⟨0,by simp,Int.le_refl _⟩;have hw:wH es a (rounds es k fun v=>if v=a then some 0 else none):=u0 k (by
  intro v x hx;simp only at hx;split at hx
  ·rename_i h;subst h;cases hx;exact⟨0,.nil _⟩
  ·cases hx)
 refine⟨hw,fun e he x hx=>?_,?_⟩
 ·obtain⟨n,h1⟩:=hw e.a x hx
  obtain⟨m,y,h2,h3,h4⟩:=(gM.snoc h1 e he rfl).short hN ob ha;have h7:=wa (es:=es) (a:=a) (l:=fun v=>if v=a then some 0 else none) h0 h4 k;obtain⟨z,h5,h6⟩:=h7 (by omega);exact⟨z,h5,by omega⟩
 ·have h7:=wa (es:=es) (a:=a) (l:=fun v=>if v=a then some 0 else none) h0 (.nil a) k
  exact h7 (by omega)
end Go.PX.PG
namespace Go.PX.PG
def ab9(never x y z:Int):Int:=if x<never/\y<never then min z (x+y) else z
abbrev Tb:=Nat->Nat->Int
def ab8(t:Tb)(i j:Nat)(x:Int):Tb:=fun a b=>if a=i/\b=j then x else t a b
def stepT(never:Int)(t:Tb)(i k j:Nat):Tb:=ab8 t i j (ab9 never (t i k) (t k j) (t i j))
def n7(never:Int)(n:Nat)(t:Tb)(i k:Nat):Tb:=(List.range n).foldl (fun t j=>stepT never t i k j) t
def Ub(never:Int)(n:Nat)(t:Tb)(k:Nat):Tb:=(List.range n).foldl (fun t i=>n7 never n t i k) t
def Ej(never:Int)(n:Nat)(t:Tb):Tb:=(List.range n).foldl (fun t k=>Ub never n t k) t
end Go.PX.PG
namespace Go.PX
open Go.Proofs
structure aZ where
 shown:Int
 kind:Int
 word:ByteArray
 number:Int
def aZ.cells(x:aZ):List D:=[i64 x.shown,i64 x.kind,.str x.word,i64 x.number]
def aZ.d(x:aZ):D:=.agg x.cells
structure au where
 name:ByteArray
 off:Span
 set:Span
 ar:List aZ
def lF(l:List aZ):D:=.vs (l.map aZ.cells)
def au.cells(b:au):List D:=.str b.name::(b.off.cells++b.set.cells ++ [lF b.ar])
structure aN where
 near:Int
 an:List au
def bF(l:List au):D:=.vs (l.map au.cells)
def aN.cells(l:aN):List D:=[i64 l.near,bF l.an]
def aN.d(l:aN):D:=.agg l.cells
structure dt where
 book:Int
 entry:Int
 deriving DecidableEq
def dt.cells(x:dt):List D:=[i64 x.book,i64 x.entry]
def dt.d(x:dt):D:=.agg x.cells
structure cz where
 book:Int
 n:Int
 deriving DecidableEq
def cz.cells(x:cz):List D:=[i64 x.book,i64 x.n]
def cz.d(x:cz):D:=.agg x.cells
abbrev cz.right:cz:=⟨-1,0⟩
abbrev cv:=PG.Step cz
def RO(s:cv):List D:=s.a.cells++s.b.cells ++ [i64 s.w]
section
variable {κ ν : Type} [DecidableEq κ]
def bD:List (κ×ν)->κ->Option ν
 | [],_=>none
 | (u,x)::r,t=>if t=u then some x else bD r t
def cW:List (κ×ν)->κ->ν->List (κ×ν)
 | [],t,v=>[(t,v)]
 | (u,x)::r,t,v=>if t=u then (t,v)::r else (u,x)::cW r t v
end
structure Eb where
 steps:List cv
 many:Int
 first:List (Int×dt)
 now:cz
 of:List cz
 mine:List (Int×Int)
def ek(wider:Int)(p:cz)(s:Span):List cv:=[⟨.right,p,s.hi+wider⟩,⟨p,.right,wider-s.lo⟩]
def xl(pers:List (List cz))(x:dt):cz:=(((pers[x.book.toNat]?).getD [])[x.entry.toNat]?).getD .right
def lE(l:aN)(x:dt):aZ:=((((l.an[x.book.toNat]?).map (·.ar)).getD [])[x.entry.toNat]?).getD ⟨0,0,.empty,0⟩
def xC(l:aN)(wider:Int)(conf:List Int)(i:Nat)(b:au)(pers:List (List cz))(k:Nat)(y:aZ)(s:Eb):Eb:=
 let of:=s.of ++ [s.now]
 let st:=if k=0 then s.steps else s.steps ++ [⟨(of[k-1]?).getD .right,s.now,y.shown-((b.ar[k-1]?).getD ⟨0,0,.empty,0⟩).shown⟩]
 if y.kind=2 then
  let now:cz:=⟨s.now.book,s.now.n+1⟩
  { s with of:=of,now:=now,steps:=st++ek wider now b.set,many:=s.many+1 }
 else if y.kind=3 then
  let n:=(bD s.mine y.number).getD 0+1
  let mine:=cW s.mine y.number n
  if n>1\/y.number∈conf then { s with of:=of,steps:=st,mine:=mine }
  else match bD s.first y.number with
   | none=>{ s with of:=of,steps:=st,mine:=mine,first:=cW s.first y.number ⟨i,k⟩ }
   | some at'=>
    let more:=y.shown-(lE l at').shown
    let p:=xl pers at'
    { s with of:=of,mine:=mine,steps:=st ++ [⟨p,s.now,more⟩,⟨s.now,p,-more⟩] }
 else { s with of:=of,steps:=st }
def mD(l:aN)(wider:Int)(conf:List Int)(i:Nat)(b:au)(pers:List (List cz)):Nat->List aZ->Eb->Eb
 | _,[],s=>s
 | k,y::r,s=>mD l wider conf i b pers (k+1) r (xC l wider conf i b pers k y s)
structure rL where
 steps:List cv
 many:Int
 first:List (Int×dt)
 pers:List (List cz)
def qp(l:aN)(wider:Int)(conf:List Int)(i:Nat)(b:au)(s:rL):rL:=
 let e:=mD l wider conf i b s.pers 0 b.ar ⟨s.steps++ek wider ⟨i,0⟩ b.off,s.many+1,s.first,⟨i,0⟩,[],[]⟩
 ⟨e.steps,e.many,e.first,s.pers ++ [e.of]⟩
def mV(l:aN)(wider:Int)(conf:List Int):Nat->List au->rL->rL
 | _,[],s=>s
 | i,b::r,s=>mV l wider conf (i+1) r (qp l wider conf i b s)
def bI(l:aN)(wider:Int)(conf:List Int):rL:=mV l wider conf 0 l.an ⟨[],0,[],[]⟩
abbrev PM:=List (cz×Int)
def kx(x:PM×Bool)(s:cv):PM×Bool:=match bD x.1 s.a with
 | none=>x
 | some n=>match bD x.1 s.b with
  | none=>(cW x.1 s.b (n+s.w),true)
  | some m=>if n+s.w<m then (cW x.1 s.b (n+s.w),true) else x
def tB(steps:List cv)(m:PM):PM×Bool:=steps.foldl kx (m,false)
def jW(steps:List cv):Nat->PM->PM
 | 0,m=>m
 | k+1,m=>if (tB steps m).2 then jW steps k (tB steps m).1 else (tB steps m).1
def gk(x:rL)(p:cz):PM:=jW x.steps (x.many+2).toNat [(p,0)]
def lC(m:PM)(p:cz):Int:=(bD m p).getD 0
def uh(x:rL)(m:PM):Bool:=x.steps.all fun s=>decide (lC m s.b<=lC m s.a+s.w)
section
variable {κ ν : Type} [DecidableEq κ]
theorem dL(m:List (κ×ν))(t u:κ)(y:ν):bD (cW m t y) u=if u=t then some y else bD m u:=by
 induction m with
 | nil=>rfl
 | cons p r ih=>
  obtain⟨w,x⟩:=p;rw[cW];split
  ·rename_i h
   subst h;rw[bD,bD];by_cases hu:u=t
   ·rw[if_pos hu,if_pos hu]
   ·rw[if_neg hu,if_neg hu,if_neg hu]
  ·rename_i h
   rw[bD,bD,ih];by_cases hu:u=w
   ·subst hu
    rw[if_pos rfl,if_pos rfl,if_neg (fun e=>h e.symm)]
   ·rw[if_neg hu,if_neg hu]
end
theorem K8(x:PM×Bool)(s:cv):(fun p=>bD (kx x s).1 p)=PG.df (fun p=>bD x.1 p) s:=by
 unfold kx PG.df
 cases h1:bD x.1 s.a with
 | none=>
  simp only[h1]
 | some n=>
  simp only[h1]
  cases h2:bD x.1 s.b with
  | none=>
   simp only[h2]
   funext p
   exact dL ..
  | some m=>
   simp only[h2];split
   ·funext p
    exact dL ..
   ·rfl
theorem Oj{x:PM×Bool}{s:cv}(h:(kx x s).2=false):kx x s=x:=by
 unfold kx at h ⊢;split
 ·rfl
 ·rename_i n h1
  rw[h1]at h;simp only at h;split
  ·rename_i h2
   rw[h2]at h;cases h
  ·rename_i m h2
   rw[h2]at h;simp only at h;split
   ·rename_i h3
    rw[if_pos h3]at h;cases h
   ·rfl
theorem Oi{x:PM×Bool}{s:cv}(h:x.2=true):(kx x s).2=true:=by
 unfold kx;split
 ·exact h
 ·split
  ·rfl
  ·split
   ·rfl
   ·exact h
theorem BE:∀ (l:List cv) {x:PM×Bool},x.2=true->(l.foldl kx x).2=true
 | [],x,h=>h
 | s::r,x,h=>BE r (Oi h)
theorem BF:∀ (l:List cv) {x:PM×Bool},(l.foldl kx x).2=false->l.foldl kx x=x
 | [],x,_=>rfl
 | s::r,x,h=>by
  have h1:(kx x s).2=false:=by
   cases hb:(kx x s).2 with
   | false=>rfl
   | true=>rw[List.foldl_cons,BE r hb]at h;cases h
  rw[List.foldl_cons,Oj h1]at h ⊢;exact BF r h
theorem yW:∀ (l:List cv) (x:PM×Bool),(fun p=>bD (l.foldl kx x).1 p)=l.foldl PG.df (fun p=>bD x.1 p)
 | [],x=>rfl
 | s::r,x=>by
  rw[List.foldl_cons,List.foldl_cons,<- K8];exact yW r _
theorem Al{es:List cv}{l:cz->Option Int}(h:PG.round es l=l):∀ k,PG.rounds es k l=l
 | 0=>rfl
 | k+1=>by rw[PG.rounds,h];exact Al h k
theorem v8(es:List cv):∀ (k:Nat) (m:PM),(fun p=>bD (jW es k m) p)=PG.rounds es k fun p=>bD m p
 | 0,m=>rfl
 | k+1,m=>by
  rw[jW,PG.rounds];have h1:(fun p=>bD (tB es m).1 p)=PG.round es fun p=>bD m p:=yW es (m,false);split
  ·rw[v8 es k,h1]
  ·rename_i h
   have h2:tB es m=(m,false):=BF es (x:=(m,false)) (by
    cases hb:(es.foldl kx (m,false)).2 with
    | false=>rfl
    | true=>exact absurd hb h)
   rw[h2]at h1 ⊢;have h3:PG.round es (fun p=>bD m p)=fun p=>bD m p:=h1.symm;rw[h3,Al h3]
structure oW(x:rL)(N:List cz):Prop where
 ends:∀ e∈x.steps,e.a∈N/\e.b∈N
 right:cz.right∈N
 len:(N.length:Int)<=x.many+1
 to':∀ p∈N,p ≠ .right -> ∃ e∈x.steps,e.a = .right/\e.b=p
 back:∀ p∈N,p ≠ .right -> ∃ e∈x.steps,e.a=p/\e.b = .right
theorem oW.reach{x:rL}{N:List cz}(h:oW x N){p q:cz}(hp:p∈N)(hq:q∈N):∃ n w,n<=2/\PG.gM x.steps p q n w:=by
 have h1:∃ n w,n<=1/\PG.gM x.steps p .right n w:=by
  by_cases Te:p = .right
  ·subst Te;exact⟨0,0,by omega,.nil _⟩
  ·obtain⟨e,he,rfl,hb⟩:=h.back p hp Te
   exact⟨1,e.w,by omega,hb▸PG.gM.one he⟩
 have h2:∃ n w,n<=1/\PG.gM x.steps .right q n w:=by
  by_cases hqr:q = .right
  ·subst hqr;exact⟨0,0,by omega,.nil _⟩
  ·obtain⟨e,he,ha,rfl⟩:=h.to' q hq hqr
   exact⟨1,e.w,by omega,ha▸PG.gM.one he⟩
 obtain⟨n,w,hn,hw⟩:=h1;obtain⟨m,v,hm,hv⟩:=h2;exact⟨n+m,w+v,by omega,hw.trans hv⟩
theorem oW.known{x:rL}{N:List cz}(h:oW x N){p q:cz}(hp:p∈N)(hq:q∈N):∃ v,bD (gk x p) q=some v:=by
 obtain⟨n,w,hn,hw⟩:=h.reach hp hq;have hm:2<=(x.many+2).toNat:=by have:=h.len;have:=List.length_pos_of_mem h.right;omega
 obtain⟨y,hy,_⟩:=PG.wa (es:=x.steps) (a:=p) (l:=fun q=>bD [(p,(0:Int))] q) ⟨0,by simp[bD],Int.le_refl _⟩ hw (x.many+2).toNat (by omega);have e:=congrFun (v8 x.steps (x.many+2).toNat [(p,0)]) q;exact⟨y,by unfold gk;rw[e];exact hy⟩
theorem start_eq(p:cz):(fun q=>bD [(p,(0:Int))] q)=fun v=>if v=p then some 0 else none:=by
 funext q
 rw[bD,bD]
theorem oW.Me{x:rL}{N:List cz}(h:oW x N)(ob:PG.Bh x.steps){p:cz}(hp:p∈N):PG.AM x.steps p fun q=>bD (gk x p) q:=by
 unfold gk;rw[v8,start_eq];exact PG.FU h.ends ob hp (by have:=h.len;omega)
theorem oW.fit{x:rL}{N:List cz}(h:oW x N){p:cz}(hp:p∈N):uh x (gk x p)=true↔PG.Bh x.steps:=by
 unfold uh;rw[List.all_eq_true];constructor
 ·intro hf
  refine PG.vV (t:=fun q=>lC (gk x p) q) fun e he=>?_;exact of_decide_eq_true (hf e he)
 ·intro ob e he
  have hd:=h.Me ob hp;obtain⟨v,hv⟩:=h.known hp (h.ends e he).1;obtain⟨y,hy,hle⟩:=hd.fix e he v hv;refine decide_eq_true ?_;unfold lC;rw[hv,hy];exact hle
end Go.PX
