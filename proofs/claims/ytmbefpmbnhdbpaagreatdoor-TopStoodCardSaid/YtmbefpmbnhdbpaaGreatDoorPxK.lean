import Derived.Test.YtmbefpmbnhdbpaaGreatDoorPxJ
import Derived.Test.YtmbefpmbnhdbpaaGreatDoorPxI
import Derived.Laws.RangeString
import Derived.Test.YtmbefpmbnhdbpaaGreatDoorPxH
set_option linter.all false
set_option maxRecDepth 10000
namespace Go.PX
open Go.Proofs
def Bc(l:List ByteArray):D:=.vs (l.map fun s=>[.str s])
theorem Tj(l:List ByteArray)(x:ByteArray)(hl:l.length<1000000):bq Tryz.prog 97 [Bc l,.str x] (i64 (indexOf (fun y=>decide (y=x)) l 0)):=by
 refine aI mixed ak Tryz.func97 rfl (ft:=YF) 2 (by decide +kernel) (by rfl) fun {σ} Y st=>?_;conv=>whnf
 refine dh (T:=tys) ak (by exact an mixed ak (by decide +kernel)) (α:=Nat)
  (fun i=>⟨[(0,.d (Bc l)),(1,.d (.str x)),(5,.d (i64 i))],[],st⟩) (fun i=>i<=l.length/\indexOf (fun y=>decide (y=x)) l 0=indexOf (fun y=>decide (y=x)) (l.drop i) i) (fun i=>l.length-i) 0
  (Wk.sub ⟨rfl,rfl,rfl,trivial⟩ trivial) (by simp) ?_
 rintro i ⟨hi,he⟩;conv=>whnf
 refine af (fun hb=>?_) (fun hb=>?_)
 ·have hb:i<l.length:=by simpa using hb
  have hd:l.drop i=l[i]::l.drop (i+1):=List.drop_eq_getElem_cons hb;rw[hd,indexOf]at he;conv=>whnf
  refine bh [.str l[i]] (by simp[hb]) ?_;conv=>whnf
  refine af (fun h1=>?_) (fun h1=>?_)
  ·conv=>whnf
   rw[if_pos h1]at he;rw[he];exact ab 0 rfl ⟨⟨rfl,rfl⟩,rfl⟩
  ·conv=>whnf
   rw[if_neg (by rw[h1];simp)]at he;refine ae (wrap_i64 (by(try dsimp only);omega)) ?_;conv=>whnf
   exact⟨i+1,by omega,⟨hb,by rw[he];rfl⟩,Wk.sub ⟨rfl,rfl,rfl,trivial⟩ trivial⟩
 ·have hb:¬ i<l.length:=by simpa using hb
  conv=>whnf
  rw[List.drop_of_length_le (by omega)]at he;rw[he];exact ab 0 rfl ⟨⟨rfl,rfl⟩,rfl⟩
def r7(b:List UInt8)(i:Nat)(c:UInt8):Bool:=
 (decide (97<=c.toNat)&&decide (c.toNat<=122))||(decide (c.toNat=45)&&decide (i≠0)&&decide (i+1≠b.length)&&(match b[i-1]? with
  | some p=>decide (p.toNat≠45)
  | none=>false))
def nF(b:List UInt8):Nat->List UInt8->Bool
 | _,[]=>true
 | i,c::r=>r7 b i c&&nF b (i+1) r
def eH(s:ByteArray):Bool:=fX s.size 1 14&&nF s.data.toList 0 s.data.toList
theorem Di(s:ByteArray):bq Tryz.prog 96 [.str s] (.bool (eH s)):=by
 refine aI mixed ak Tryz.func96 rfl (ft:=YE) 1 (by decide +kernel) (by rfl) fun {σ} Y st=>?_;have dc:s.size=s.data.toList.length:=by simp
 conv=>whnf
 refine ai (ds:=[i64 s.size,i64 1,i64 14]) (KV _ _ _) rfl rfl ?_;conv=>whnf
 refine af (fun h0=>?_) (fun h0=>?_)
 ·conv=>whnf
  have:eH s=false:=by simp at h0;simp[eH,h0]
  rw[this];exact ab 0 rfl ⟨⟨rfl,rfl⟩,rfl⟩
 ·have h0:fX s.size 1 14=true:=by simpa using h0
  have hlen:s.data.toList.length<=14:=by
   simp only[fX,Bool.and_eq_true,decide_eq_true_eq]at h0;omega
  have hn:eH s=nF s.data.toList 0 s.data.toList:=by simp[eH,h0]
  rw[hn];conv=>whnf
  refine dh (T:=tys) ak (by exact an mixed ak (by decide +kernel)) (α:=Nat)
   (fun i=>⟨[(0,.d (.str s)),(3,.d (i64 i))],[],st⟩) (fun i=>i<=s.data.toList.length/\nF s.data.toList 0 s.data.toList=nF s.data.toList i (s.data.toList.drop i)) (fun i=>s.data.toList.length-i) 0
   (Wk.sub ⟨rfl,rfl,trivial⟩ trivial) (by simp) ?_
  rintro i ⟨hi,he⟩;conv=>whnf
  refine af (fun hc=>?_) (fun hc=>?_)
  ·have hc:i<s.data.toList.length:=by
    have:=of_decide_eq_true hc;omega
   obtain⟨c,NX⟩:∃ c,s.data.toList[i]?=some c:=⟨_,List.getElem?_eq_getElem hc⟩;have hd:s.data.toList.drop i=c::s.data.toList.drop (i+1):=by
    rw[List.drop_eq_getElem_cons hc];rw[List.getElem?_eq_getElem hc]at NX;rw[Option.some.inj NX]
   rw[hd,nF]at he;have bad:r7 s.data.toList i c=false->rD [V.d (.bool false)] [] st fun v h' s'=>(v=V.d (.bool (nF s.data.toList 0 s.data.toList))/\h' = [])/\s'=st:=by
    intro hb;rw[he,hb];exact ab 0 rfl ⟨⟨rfl,rfl⟩,rfl⟩
   have NU:r7 s.data.toList i c=true -> ∀ {st':St σ},Wk st' ⟨[(0,.d (.str s)),(3,.d (i64 ((i:Int)+1)))],[],st⟩ -> ∃ y,s.data.toList.length-y<s.data.toList.length-i/\(y<=s.data.toList.length/\nF s.data.toList 0 s.data.toList=nF s.data.toList y (s.data.toList.drop y)) /\
     Wk st' ⟨[(0,.d (.str s)),(3,.d (i64 (y:Nat)))],[],st⟩:=by
    intro hb st' hw;exact⟨i+1,by omega,⟨hc,by rw[he,hb];rfl⟩,by simpa using hw⟩
   conv=>whnf
   refine cD c (by simpa using NX) ?_;conv=>whnf
   refine af (fun h1=>?_) (fun h1=>?_)
   ·have h1:97<=c.toNat:=by
     have:=of_decide_eq_true h1;omega
    conv=>whnf
    refine cD c (by simpa using NX) ?_;conv=>whnf
    refine af (fun h2=>?_) (fun h2=>?_)
    ·have h2:c.toNat<=122:=by
      have:=of_decide_eq_true h2;omega
     conv=>whnf
     refine ae (wrap_i64 (by(try dsimp only);omega)) ?_;conv=>whnf
     exact NU (by simp[r7,h1,h2]) (Wk.sub ⟨rfl,rfl,trivial⟩ trivial)
    ·have h2:¬ c.toNat<=122:=by
      have:=of_decide_eq_false h2;omega
     conv=>whnf
     refine cD c (by simpa using NX) ?_;conv=>whnf
     refine af (fun k1=>?_) (fun k1=>?_)
     ·have k1:c.toNat≠45:=by
       have:=k1;simp at this;omega
      conv=>whnf
      exact bad (by simp[r7,k1];omega)
     ·have k1:c.toNat=45:=by
       have:=k1;simp at this;omega
      conv=>whnf
      refine af (fun k2=>?_) (fun k2=>?_)
      ·have k2:i=0:=by
        have:=of_decide_eq_true k2;omega
       conv=>whnf
       exact bad (by simp[r7,k1,k2])
      ·have k2:i≠0:=by
        have:=of_decide_eq_false k2;omega
       conv=>whnf
       refine ae (wrap_i64 (by(try dsimp only);omega)) ?_;conv=>whnf
       refine af (fun k3=>?_) (fun k3=>?_)
       ·have k3:i+1=s.data.toList.length:=by
         have:=of_decide_eq_true k3;omega
        conv=>whnf
        exact bad (by simp only[r7,k1,k3];simp)
       ·have k3:i+1≠s.data.toList.length:=by
         have:=of_decide_eq_false k3;omega
        obtain⟨p,hp⟩:∃ p,s.data.toList[i-1]?=some p:=⟨_,List.getElem?_eq_getElem (by omega)⟩;conv=>whnf
        refine ae (wrap_i64 (by(try dsimp only);omega)) ?_;conv=>whnf
        refine aQ (by simp;omega) ?_;conv=>whnf
        refine cD p (by rw[show((i:Int)-1).toNat=i-1 by omega];exact hp) ?_;conv=>whnf
        refine af (fun k4=>?_) (fun k4=>?_)
        ·have k4:p.toNat=45:=by
          have:=of_decide_eq_true k4;omega
         conv=>whnf
         exact bad (by simp only[r7,hp,k4,k1];simp)
        ·have k4:p.toNat≠45:=by
          have:=of_decide_eq_false k4;omega
         conv=>whnf
         refine ae (wrap_i64 (by(try dsimp only);omega)) ?_;conv=>whnf
         exact NU (by simp only[r7,hp,k1];simp[k2,k4];omega) (Wk.sub ⟨rfl,rfl,trivial⟩ trivial)
   ·have h1:¬ 97<=c.toNat:=by
     have:=of_decide_eq_false h1;omega
    conv=>whnf
    refine cD c (by simpa using NX) ?_;conv=>whnf
    refine af (fun k1=>?_) (fun k1=>?_)
    ·have k1:c.toNat≠45:=by
      have:=k1;simp at this;omega
     conv=>whnf
     exact bad (by simp[r7,k1];omega)
    ·have k1:c.toNat=45:=by
      have:=k1;simp at this;omega
     conv=>whnf
     refine af (fun k2=>?_) (fun k2=>?_)
     ·have k2:i=0:=by
       have:=of_decide_eq_true k2;omega
      conv=>whnf
      exact bad (by simp[r7,k1,k2])
     ·have k2:i≠0:=by
       have:=of_decide_eq_false k2;omega
      conv=>whnf
      refine ae (wrap_i64 (by(try dsimp only);omega)) ?_;conv=>whnf
      refine af (fun k3=>?_) (fun k3=>?_)
      ·have k3:i+1=s.data.toList.length:=by
        have:=of_decide_eq_true k3;omega
       conv=>whnf
       exact bad (by simp only[r7,k1,k3];simp)
      ·have k3:i+1≠s.data.toList.length:=by
        have:=of_decide_eq_false k3;omega
       obtain⟨p,hp⟩:∃ p,s.data.toList[i-1]?=some p:=⟨_,List.getElem?_eq_getElem (by omega)⟩;conv=>whnf
       refine ae (wrap_i64 (by(try dsimp only);omega)) ?_;conv=>whnf
       refine aQ (by simp;omega) ?_;conv=>whnf
       refine cD p (by rw[show((i:Int)-1).toNat=i-1 by omega];exact hp) ?_;conv=>whnf
       refine af (fun k4=>?_) (fun k4=>?_)
       ·have k4:p.toNat=45:=by
         have:=of_decide_eq_true k4;omega
        conv=>whnf
        exact bad (by simp only[r7,hp,k4,k1];simp)
       ·have k4:p.toNat≠45:=by
         have:=of_decide_eq_false k4;omega
        conv=>whnf
        refine ae (wrap_i64 (by(try dsimp only);omega)) ?_;conv=>whnf
        exact NU (by simp only[r7,hp,k1];simp[k2,k4];omega) (Wk.sub ⟨rfl,rfl,trivial⟩ trivial)
  ·have hc:¬ i<s.data.toList.length:=by
    have:=of_decide_eq_false hc;omega
   conv=>whnf
   rw[List.drop_of_length_le (by omega)]at he;rw[he];exact ab 0 rfl ⟨⟨rfl,rfl⟩,rfl⟩
def kA(x:ByteArray)(before:List ByteArray):Int:=
 if eH x then (if before.any fun y=>decide (y=x) then 5 else 0) else 6
theorem Tl(x:ByteArray)(l:List ByteArray)(hl:l.length<1000000):bq Tryz.prog 22 [.str x,Bc l] (i64 (kA x l)):=by
 refine aI mixed ak Tryz.func22 rfl (ft:=XZ) 2 (by decide +kernel) (by rfl) fun {σ} Y st=>?_;conv=>whnf
 refine ai (ds:=[.str x]) (Di x) rfl rfl ?_;conv=>whnf
 refine af (fun h1=>?_) (fun h1=>?_)
 ·have h1:eH x=false:=by simpa using h1
  conv=>whnf
  simp only[kA,h1];exact ab 0 rfl ⟨⟨rfl,rfl⟩,rfl⟩
 ·have h1:eH x=true:=by simpa using h1
  conv=>whnf
  refine ai (ds:=[Bc l,.str x]) (Tj l x hl) rfl rfl ?_;conv=>whnf
  have QW:=gR (fun y=>decide (y=x)) l 0 (by omega);refine af (fun h2=>?_) (fun h2=>?_)
  ·have h2:(l.any fun y=>decide (y=x))=true:=by rw[<- QW];exact h2
   conv=>whnf
   simp only[kA,h1,h2];exact ab 0 rfl ⟨⟨rfl,rfl⟩,rfl⟩
  ·have h2:(l.any fun y=>decide (y=x))=false:=by rw[<- QW];exact h2
   conv=>whnf
   simp only[kA,h1,h2];exact ab 0 rfl ⟨⟨rfl,rfl⟩,rfl⟩
theorem R9(lo hi n:Int):(decide (n<lo)||decide (n>hi)) = !fX n lo hi:=by
 simp only[fX];by_cases h1:lo<=n<;>by_cases h2:n<=hi<;>simp[h1,h2]<;>omega
theorem bq.cast{P:Program}{f:FuncId}{ds:List D}{r r':D}(h:bq P f ds r)(e:r=r'):bq P f ds r':=by subst e;exact h
theorem QL(lo hi a:Int):bq Tryz.prog 109 [i64 lo,i64 hi,.vs [[i64 a]]] (.bool (!fX a lo hi)):=by
 exact bq.cast (Tk lo hi [a] (by simp)) (by simp[R9])
end Go.PX
namespace Go.PX
open Go.Proofs
open Go
def kC:Nat->List UInt8->Bool
 | last,[]=>decide (last≠45)
 | last,c::r=>if 97<=c.toNat/\c.toNat<=122 then kC c.toNat r else if c.toNat=45/\last≠45 then kC 45 r else false
theorem AU(b:List UInt8):∀ (r:List UInt8) (i last:Nat),r ≠ []->r=b.drop i->(i=0->last=45)->(∀ p,i≠0->b[i-1]?=some p->last=p.toNat)->kC last r=nF b i r
 | [],i,last,h,_,_,_=>absurd rfl h
 | c::r,i,last,_,hd,h0,h1=>by
  have hlen:i+1+r.length=b.length:=by
   have:=congrArg List.length hd;simp at this;omega
  have mP:b[i]?=some c:=by
   have:=congrArg (fun l=>l[0]?) hd;simpa using this.symm
  have hr:r=b.drop (i+1):=by
   have:=congrArg List.tail hd;simpa using this
  have ih:∀ HO,HO=c.toNat->r ≠ []->kC HO r=nF b (i+1) r:=fun HO hl eW=>
   AU b r (i+1) HO eW hr (fun h=>by omega) (fun p _ hp=>by simp at hp;rw[mP]at hp;cases hp;exact hl)
  have U7:i≠0 -> ∃ p,b[i-1]?=some p/\last=p.toNat:=fun hi=>by
   have:i-1<b.length:=by omega
   exact⟨_,List.getElem?_eq_getElem this,h1 _ hi (List.getElem?_eq_getElem this)⟩
  simp only[kC,nF,r7];by_cases ha:97<=c.toNat/\c.toNat<=122
  ·rw[if_pos ha]
   simp only[ha.1,ha.2,decide_true,Bool.and_self,Bool.true_or,Bool.true_and];by_cases eW:r = []
   ·subst eW
    simp[kC,nF];omega
   ·exact ih _ rfl eW
  ·rw[if_neg ha]
   have hf:(decide (97<=c.toNat)&&decide (c.toNat<=122))=false:=by
    simp only[Bool.and_eq_false_iff,decide_eq_false_iff_not];omega
   rw[hf,Bool.false_or];by_cases hc:c.toNat=45
   ·by_cases hi:i=0
    ·have:=h0 hi
     simp[hc,hi,this]
    ·obtain⟨p,hp,hl⟩:=U7 hi
     rw[hp];by_cases ua:p.toNat=45
     ·simp[hc,hl,ua]
     ·by_cases eW:r = []
      ·have:i+1=b.length:=by subst eW;simpa using hlen
       subst eW;simp[hc,hl,ua,kC,this]
      ·have:i+1≠b.length:=by
        have:=List.length_pos_iff.2 eW;omega
       rw[if_pos ⟨hc,by rw[hl];exact ua⟩,ih 45 hc.symm eW];simp[hc,hi,ua,this]
   ·simp[hc]
theorem Mb(s:ByteArray):eH s=(decide (s.size<=14)&&kC 45 s.data.toList):=by
 have dc:s.size=s.data.toList.length:=by simp
 unfold eH fX
 cases hb:s.data.toList with
 | nil=>
  have:s.size=0:=by rw[dc,hb];rfl
  simp[this,kC]
 | cons c r=>
  rw[<- hb,AU s.data.toList s.data.toList 0 45 (by rw[hb];simp) rfl (fun _=>rfl) (fun p h=>absurd rfl h)];have h1:1<=s.size:=by rw[dc,hb];simp
  have e1:decide ((1:Int)<=(s.size:Int))=true:=by simp;omega
  have e2:decide ((s.size:Int)<=14)=decide (s.size<=14):=by simp;omega
  rw[e1,e2];simp
theorem Fi(s:ByteArray)(i:Nat)(h:¬ (s.get! (i+0)).toNat<128):128<=(Utf8.decode s i).1:=by
 unfold Utf8.decode;simp only[h,if_false];split
 ·split
  ·simp only;omega
  ·simp[Utf8.runeError]
 ·split
  ·split
   ·rename_i h1
    simp only[Bool.and_eq_true,decide_eq_true_eq]at h1;simp only;omega
   ·simp[Utf8.runeError]
  ·split
   ·split
    ·rename_i h1
     simp only[Bool.and_eq_true,decide_eq_true_eq]at h1;simp only;omega
    ·simp[Utf8.runeError]
   ·simp[Utf8.runeError]
theorem NS(s:ByteArray):bq Tryz.prog 151 [.str s] (.bool (eH s)):=by
 refine aI mixed ak Tryz.func151 rfl (ft:=TL) 1 (by decide +kernel) (by rfl) fun {σ} Y st=>?_;conv=>whnf
 refine dh (T:=tys) ak (by exact an mixed ak (by decide +kernel)) (α:=Nat×Nat)
  (fun x=>⟨[(0,.d (.str s)),(3,.d (.int .i32 x.2)),(7,.it 7)],[(7,.iter s x.1)],st⟩) (fun x=>x.1<=s.size/\eH s=(decide (s.size<=14)&&kC x.2 (s.data.toList.drop x.1))) (fun x=>s.size-x.1) (0,45)
  (Wk.sub (by repeat' first|constructor|simp[PX.get]) ⟨(by first|rfl|simp[PX.get]),trivial⟩) ⟨by simp,by rw[Mb];rfl⟩ ?_
 rintro ⟨p,last⟩ ⟨hp,he⟩;simp only at hp he;have dc:s.size=s.data.toList.length:=by simp
 conv=>whnf
 refine af (fun h1=>?_) (fun h1=>?_)
 ·have h1:p<s.size:=of_decide_eq_true h1
  have hd:s.data.toList.drop p=s[p]::s.data.toList.drop (p+1):=by
   rw[List.drop_eq_getElem_cons (by omega)];rfl
  rw[hd,kC]at he;refine⟨?_⟩;by_cases hb:s[p].toNat<128
  ·rw[decode_ascii s p h1 hb]
   conv=>whnf
   refine af (fun h2=>?_) (fun h2=>?_)
   ·have h2:97<=s[p].toNat:=by have:=of_decide_eq_true h2;omega
    conv=>whnf
    refine af (fun h3=>?_) (fun h3=>?_)
    ·have h3:s[p].toNat<=122:=by have:=of_decide_eq_true h3;omega
     conv=>whnf
     rw[if_pos ⟨h2,h3⟩]at he;exact⟨(p+1,s[p].toNat),by simp only;omega,⟨h1,he⟩,(Wk.sub (by repeat' first|constructor|simp[PX.get]) ⟨(by first|rfl|simp[PX.get]),trivial⟩)⟩
    ·have h3:¬ s[p].toNat<=122:=by have:=of_decide_eq_false h3;omega
     conv=>whnf
     rw[if_neg (by omega),if_neg (by omega)]at he;refine af (fun h4=>?_) (fun h4=>?_)
     ·conv=>whnf
      rw[he,Bool.and_false];exact ab 0 rfl ⟨⟨rfl,rfl⟩,rfl⟩
     ·exact absurd h4 (by simp;omega)
   ·have h2:¬ 97<=s[p].toNat:=by have:=of_decide_eq_false h2;omega
    conv=>whnf
    rw[if_neg (by omega)]at he;refine af (fun h4=>?_) (fun h4=>?_)
    ·have h4:s[p].toNat≠45:=by simp at h4;omega
     conv=>whnf
     rw[if_neg (by omega)]at he;rw[he,Bool.and_false];exact ab 0 rfl ⟨⟨rfl,rfl⟩,rfl⟩
    ·have h4:s[p].toNat=45:=by simp at h4;omega
     conv=>whnf
     refine af (fun h5=>?_) (fun h5=>?_)
     ·have h5:last=45:=by have:=of_decide_eq_true h5;omega
      conv=>whnf
      rw[if_neg (by omega)]at he;rw[he,Bool.and_false];exact ab 0 rfl ⟨⟨rfl,rfl⟩,rfl⟩
     ·have h5:last≠45:=by have:=of_decide_eq_false h5;omega
      conv=>whnf
      rw[if_pos ⟨h4,h5⟩]at he;exact⟨(p+1,45),by simp only;omega,⟨h1,he⟩,by rw[<- h4];exact(Wk.sub (by repeat' first|constructor|simp[PX.get]) ⟨(by first|rfl|simp[PX.get]),trivial⟩)⟩
  ·have lL:=Fi s p (by
    have e:s.get! (p+0)=s[p]'h1:=by
     show s.get! p=_;simp[ByteArray.get!,getElem!_pos,h1];rfl
    rw[e];exact hb)
   generalize (Utf8.decode s p).1=c at lL;generalize (Utf8.decode s p).2=n;rw[if_neg (by omega),if_neg (by omega)]at he;conv=>whnf
   refine af (fun h2=>?_) (fun h2=>?_)
   ·conv=>whnf
    refine af (fun h3=>?_) (fun h3=>?_)
    ·have:=of_decide_eq_true h3;omega
    ·conv=>whnf
     refine af (fun h4=>?_) (fun h4=>?_)
     ·conv=>whnf
      rw[he,Bool.and_false];exact ab 0 rfl ⟨⟨rfl,rfl⟩,rfl⟩
     ·exact absurd h4 (by simp;omega)
   ·have:=of_decide_eq_false h2;omega
 ·have h1:¬ p<s.size:=of_decide_eq_false h1
  conv=>whnf
  have pS:s.data.toList.drop p = []:=List.drop_of_length_le (by omega);rw[pS,kC]at he;refine af (fun h2=>?_) (fun h2=>?_)
  ·conv=>whnf
   refine ab 0 rfl ⟨⟨?_,rfl⟩,rfl⟩;have h2:s.size<=14:=by have:=of_decide_eq_true h2;omega
   rw[he];show V.d (.bool (!decide ((last:Int)=45)))=_;simp[h2];omega
  ·conv=>whnf
   refine ab 0 rfl ⟨⟨?_,rfl⟩,rfl⟩;have h2:¬ s.size<=14:=by have:=of_decide_eq_false h2;omega
   rw[he];simp[h2,js]
end Go.PX
namespace Go.PX
open Go.Proofs
theorem XT(l:List Int)(v:Int)(hl:l.length<4000000000000000000):bq Tryz.prog 203 [ax l,i64 v] (i64 (indexOf (fun x=>decide (v=x)) l 0)):=by
 refine aI mixed ak Tryz.func203 rfl (ft:=PF) 2 (by decide +kernel) (by rfl) fun {σ} Y st=>?_;conv=>whnf
 refine bx (T:=tys) ak (by exact an mixed ak (by decide +kernel)) l (fun i (_:Unit)=>⟨[(0,.d (ax l)),(1,.d (i64 v)),(7,.d (i64 l.length)),(8,.d (i64 i))],[],st⟩) (fun i r _=>indexOf (fun x=>decide (v=x)) l 0=indexOf (fun x=>decide (v=x)) r i) ()
  (Wk.sub (by repeat' first|constructor|simp[PX.get]) trivial) rfl ?_ ?_
 ·intro i x r _ hx hi hr he
  rw[indexOf]at he;conv=>whnf
  refine af (fun _=>?_) (fun h=>absurd hi (by simpa using h));conv=>whnf
  refine aw hx ?_;conv=>whnf
  refine af (fun h1=>?_) (fun h1=>?_)
  ·conv=>whnf
   rw[if_pos h1]at he;rw[he];exact ab 0 rfl ⟨⟨rfl,rfl⟩,rfl⟩
  ·conv=>whnf
   rw[if_neg (by simp[h1])]at he;refine ae (wrap_i64 (by(try dsimp only);omega)) ?_;conv=>whnf
   exact⟨(),he,(Wk.sub (by repeat' first|constructor|simp[PX.get]) trivial)⟩
 ·intro _ he
  conv=>whnf
  refine af (fun h=>absurd h (by simp)) (fun _=>?_);conv=>whnf
  rw[he];exact ab 0 rfl ⟨⟨rfl,rfl⟩,rfl⟩
theorem Dj(l:List Int)(v:Int)(hl:l.length<4000000000000000000):bq Tryz.prog 169 [ax l,i64 v] (.bool (decide (v∈l))):=by
 refine aI mixed ak Tryz.func169 rfl (ft:=PD) 2 (by decide +kernel) (by rfl) fun {σ} Y st=>?_;conv=>whnf
 refine ai (XT l v hl) rfl rfl ?_;conv=>whnf
 refine ab 0 rfl ⟨⟨?_,rfl⟩,rfl⟩;have h1:=gR (fun x=>decide (v=x)) l 0 (by omega);have h2:(l.any fun x=>decide (v=x))=decide (v∈l):=by
  rw[Bool.eq_iff_iff];simp
 rw[<- h2,<- h1];rfl
end Go.PX
namespace Go.PX
def sQ:List Nat->List Wr
 | []=>[]
 | i::r=>.del i::sQ r
theorem ga{σ:Type}:∀ (l:List Nat) (st:St σ),aR st (sQ l)=⟨st.env,mJ st.heap l,st.s⟩
 | [],st=>rfl
 | i::r,st=>by
  show aR (bP st (.del i)) (sQ r)=_;rw[ga r];rfl
theorem lz{σ:Type}:∀ (a b:List Wr) (st:St σ),aR st (a++b)=aR (aR st a) b
 | [],b,st=>rfl
 | w::a,b,st=>lz a b (bP st w)
section
variable {P : Program} {σ : Type}
theorem Good.Hj{cx:Cx σ}{r:Option Nat}{m:List Nat}{L:Loc}{F:Nat->Nat}{st:St σ}{a:Act}{w:World}(hg:Good cx r m L F st a w){h:Heap}(ji:dB h st.heap)(n:Nat) :
  ∃ F1,Good cx r m L F1 (aR st (sQ (cY h))) a w/\Tr F w F1 w /\ ∀ args aT ds,cI (ek h n) args=some ds->aq cx.yv L F w args aT->bc F1 w ds aT:=by
 have gh:aZ cx L F h st.s w:=(hg.sub (e:=st.env) (h:=h) (fun _ _ h=>h) ji).heap;have tr:=gz gh;have uy:∀ b,cx.C st.s b->eZ L F h w b=F b:=fun b hb=>nn gh hb;have yb:∀ id o,get st.heap id=some o->id∉cY h->aV L id o->eZ L F h w (L.ρ id)=F (L.ρ id):=by
  intro id o hi hn hb;refine gb ?_;rintro ⟨j,p,hj,jx,mW⟩;have:=hg.heap.inj j id p o (ji j p hj) hi jx hb mW;subst this;exact hn (lQ hj)
 have zH:=fm gh;have pc:=oG gh n;generalize eZ L F h w=F1 at tr uy yb zH pc;rw[ga];have mP:∀ i o,get (mJ st.heap (cY h)) i=some o->i∉cY h/\get st.heap i=some o:=by
  intro i o hi;rw[j5]at hi;split at hi
  ·cases hi
  ·rename_i hn;exact⟨hn,hi⟩
 refine⟨F1,⟨⟨cx.fS hg.heap.hg tr zH fun b hb=>⟨rfl,uy b hb⟩,hg.heap.iw,zH,?_,?_,?_⟩,?_,hg.sR,hg.pg,hg.vD,hg.lk,hg.jy,hg.ud⟩,tr,fun args aT ds hv hr=>jW tr pc args aT ds hv hr⟩
 ·intro i o hi
  exact cb.mono tr i o (fun _ _=>⟨rfl,rfl⟩) ⟨rfl,rfl⟩ (fun _=>rfl) (hg.heap.obj i o (mP i o hi).2)
 ·intro i o hi hb
  obtain⟨hn,h0⟩:=mP i o hi;rw[yb i o h0 hn hb];exact hg.heap.own i o h0 hb
 ·intro i j o p hi hj mq jx he
  exact hg.heap.inj i j o p (mP i o hi).2 (mP j p hj).2 mq jx he
 ·intro t v ht
  obtain⟨x,hx,hr⟩:=hg.env t v ht;exact⟨x,hx,bg.mono tr v x (fun _ _=>⟨rfl,rfl⟩) hr⟩
theorem yO{f:FuncId}{ds:List D}{res:D}(hf:bq P f ds res)(n:Nat){e:Env}{h:Heap}{d:Option Nat}{args:List V}(hv:cI (ek h n) args=some ds)(hd:Nat.ble (d.getD 0) 10000=true) :
  jR P e h d f args (sQ (cY h)++bz d (.d res)):=by
 have ho:=uN (P:=P) hf (e:=[]) (h:=[]) (d:=d) (args:=inj ds) rfl hd;refine⟨ho.1,fun {σ} cx yk r m L F st a w aT he hh hg N1 hr=>?_⟩;obtain⟨F1,eo,sy,RP⟩:=hg.Hj hh n;rw[lz];refine(ho.2 cx yk r m L F1 (aR st (sQ (cY h))) a w aT (fun _ _ h=>by cases h) (fun _ _ h=>by cases h) eo N1 (aq.inj.2 (RP _ _ _ hv hr))).mono ?_;rintro en w' ⟨x,rfl,L',F',dp,mV⟩;exact⟨x,rfl,L',F',dp,Tr.trans sy mV⟩
theorem gp{Y:Hd σ}{f:FuncId}{ds:List D}{res:D}(hf:bq P f ds res)(n:Nat){e:Env}{h:Heap}{s:σ}{d:Option Nat}{args:List V}(ids:List Nat)(hv:cI (ek (aX ids h) n) args=some ds)(hd:Nat.ble (d.getD 0) 10000=true)
  {K:St σ->Prop} (hk:bw (sQ (cY (aX ids h))++bz d (.d res)) e h fun e h=>K ⟨e,h,s⟩):dO P Y ⟨e,h,s⟩ d f args K:=by
 have ho:=yO (P:=P) hf n (e:=e) (h:=aX ids h) (d:=d) (args:=args) hv hd;refine qu (ws:=sQ (cY (aX ids h))++bz d (.d res)) ⟨ho.1,fun {σ} cx yk r m L F st a w aT he hh hg N1 hr=>?_⟩ hk;exact ho.2 cx yk r m L F st a w aT he (fun i o hi=>hh i o (ez ids h i o hi)) hg N1 hr
theorem iW{f:FuncId}{ds:List D}{res:D}(hf:bq P f ds res)(n:Nat){e:Env}{h:Heap}{d:Option Nat}{args:List V}(hv:cI (ek h n) args=some ds)(hd:Nat.ble (d.getD 0) 10000=true)
  {K:List Wr->Prop} (hk:K (sQ (cY h)++bz d (.d res))):ef P e h d f args K:=⟨_,hk,yO hf n hv hd⟩
end
theorem dK{g:Nat->Option DO}{vs:List (List V)}{ds:List (List D)}(h:gn g vs=some ds):∀ (es:List (List D)),gn g (aG es++vs)=some (es++ds)
 | []=>h
 | e::r=>by
  show gn g (inj e::(aG r++vs))=_;rw[gn,dK h r];have:cI g (inj e)=some e:=by
   have:=ln (g:=g) (a:=e) (r:=[]) (r':=[]) rfl;simpa using this
  rw[this];rfl
theorem dL{g:Nat->Option DO}{v:List V}{d:List D}(h:cI g v=some d):gn g [v]=some [d]:=by
 rw[gn,h];rfl
theorem yI(i:Nat):∀ l:List D,dF i (inj l)=false
 | []=>rfl
 | d::r=>by
  show(rl i (.d d)||dF i (inj r))=false;rw[yI i r];rfl
theorem rm(i:Nat):∀ a b:List V,dF i (a++b)=(dF i a||dF i b)
 | [],b=>rfl
 | v::a,b=>by
  show(rl i v||dF i (a++b))=((rl i v||dF i a)||dF i b);rw[rm i a b,Bool.or_assoc]
theorem eh(i:Nat)(vs:List (List V)):∀ es:List (List D),dF i ((aG es++vs).flatten)=dF i vs.flatten
 | []=>rfl
 | e::r=>by
  show dF i (inj e++(aG r++vs).flatten)=_;rw[rm,yI,eh i vs r];rfl
theorem aE(f:V->V)(vs:List (List V)):∀ es:List (List D),aU f (aG es++vs)=aG es++aU f vs
 | []=>rfl
 | e::r=>by
  show dE f (inj e)::aU f (aG r++vs)=_;rw[yF,aE f vs r];rfl
section
variable {σ : Type}
theorem Iw{e:Env}{h:Heap}{s:σ}(l:List Nat):aR (⟨e,h,s⟩:St σ) (sQ l)=⟨e,mJ h l,s⟩:=ga l _
theorem Wk.iB{e:Env}{h:Heap}{s:σ}(n:Nat)(ids:List Nat)(k:Nat){sz:Nat}{vs:List (List V)}{ds:List (List D)}(hk:get (mJ h (cY (aX ids h))) k=some (.arr sz (.vv vs)))(hv:gn (ek (aX ids h) n) vs=some ds) :
  Wk (⟨e,h,s⟩:St σ) ⟨e,put (mJ h (cY (aX ids h))) k (.arr sz (.dd ds)),s⟩:=by
 intro cx r m L F a w hg;obtain⟨F1,eo,tr,RP⟩:=hg.Hj (h:=aX ids h) (ez ids h) n;rw[Iw]at eo;have h0:cb cx.yv L F w k (.arr sz (.vv vs)):=by
  rw[j5]at hk;split at hk
  ·cases hk
  ·exact hg.heap.obj k _ hk
 obtain⟨f1,f2,f3⟩:=qp hv;have tf:cb cx.yv L F1 w k (.arr sz (.dd ds)):=by
  obtain⟨c1,c2,c3⟩:=h0;have hl:(aK.dd ds).bm.length=ds.length:=by rw[<- aK.jq];rfl
  have vr:(aK.dd ds).bm.flatten=inj ds.flatten:=by
   show(aG ds).flatten=_;clear hl f1 f2 f3 hv
   induction ds with
   | nil=>rfl
   | cons d r ih=>
    show inj d++(aG r).flatten=_;rw[ih,List.flatten_cons,jL]
  refine⟨c1,?_,?_⟩
  ·have h3:=f3 sz c2
   intro x hx;show x.length=sz;have:∀ (l:List (List D)),(∀ d∈l,d.length=sz) -> ∀ x∈aG l,x.length=sz:=by
    intro l
    induction l with
    | nil=>intro _ x hx;cases hx
    | cons d r ih=>
     intro hd x hx;rcases List.mem_cons.1 hx with rfl|hx
     ·rw[eC];exact hd d (by simp)
     ·exact ih (fun d NZ=>hd d (by simp[NZ])) x hx
   exact this ds h3 x hx
  ·rcases c3 with⟨c4,c5⟩|⟨c,T,c4,c5,c6,c7⟩
   ·left
    refine⟨?_,c5⟩;have P7:vs = []:=c4;have:ds = []:=by
     have:ds.length=0:=by rw[f2,P7];rfl
     exact List.length_eq_zero_iff.1 this
    rw[this];rfl
   ·right
    have e1:(aK.vv vs).bm=vs:=rfl;rw[e1]at c6 c7;refine⟨c,T,c4,c5,by rw[hl,f2];exact c6,?_⟩;rw[vr,hl,f2];exact aq.inj.2 (RP _ _ _ f1 c7)
 have key:∀ i q,get (put (mJ h (cY (aX ids h))) k (.arr sz (.dd ds))) i=some q->(i=k/\q = .arr sz (.dd ds))\/get (mJ h (cY (aX ids h))) i=some q:=by
  intro i q hi;rw[eM]at hi;split at hi
  ·rename_i e1;cases hi;exact .inl ⟨e1,rfl⟩
  ·exact .inr hi
 refine⟨L,F1,⟨⟨eo.heap.hg,eo.heap.iw,eo.heap.fresh,fun i q hi=>?_,fun i q hi jn=>?_,fun i j q p hi hj mq jx e=>?_⟩,eo.env,eo.sR,eo.pg,eo.vD,eo.lk,eo.jy,eo.ud⟩,tr⟩
 ·rcases key i q hi with⟨rfl,rfl⟩|hi
  ·exact tf
  ·exact eo.heap.obj i q hi
 ·rcases key i q hi with⟨rfl,rfl⟩|hi
  ·exact eo.heap.own i _ hk jn
  ·exact eo.heap.own i q hi jn
 ·rcases key i q hi with⟨e1,e2⟩|wa<;>rcases key j p hj with⟨e3,e4⟩|PT
  ·rw[e1,e3]
  ·subst e1;subst e2
   exact eo.heap.inj _ _ _ _ hk PT mq jx e
  ·subst e3;subst e4
   exact eo.heap.inj _ _ _ _ wa hk mq jx e
  ·exact eo.heap.inj _ _ _ _ wa PT mq jx e
end
end Go.PX
namespace Go.PX
open Go.RowKit
theorem sH{ops:Array Oper}{listed:Array Bool}(rR:∀ (j:Nat) (o:Oper),listed.getD j false=true->ops[j]?=some o -> ∀ e∈o.after,Region.binds .any e=true->listed.getD e.on false=true){gj:List OT}(hb:qf 0 ops.toList=true)(hA:qH gj 0 ops.toList gj=true)(hlen:ops.toList.length=gj.length) :
  ∀ (n j:Nat) (o:Oper) (t:OT),j<n->ops[j]?=some o->gj[j]?=some t->(∀ e∈o.after,Region.binds .any e=true->listed.getD e.on false=true) -> ∀ i,i<j->i∉t.kc->listed.getD i false=true
 | 0,_,_,_,hj,_,_,_,_,_,_=>by omega
 | n+1,j,o,t,hj,ho,ht,hl,i,hi,hn=>by
  rcases oH hA j o t (by simpa using ho) ht i (by omega) with h1|⟨e,he,EZ,Od⟩
  ·exact absurd h1 hn
  have dN:=gY hb j o (by simpa using ho) e he EZ;rcases Od with rfl|⟨IT,u,hu,SH⟩
  ·exact hl e he EZ
  ·have N7:j<ops.size:=(Array.getElem?_eq_some_iff.1 ho).1
   have fe:ops[e.on]?=some ops[e.on]:=Array.getElem?_eq_getElem (by omega);exact sH rR hb hA hlen n e.on _ u (by omega) fe hu (rR e.on _ (hl e he EZ) fe) i IT SH
structure Kf(ops:Array Oper)(b:Nat)(l:List Rec)(listed:Array Bool):Prop where
 mem:∀ i,((∃ q∈l,q.idx=i)\/(b<=i/\i<ops.size))↔listed.getD i true=false
 size:listed.size=ops.size
 closed:∀ (j:Nat) (o:Oper),listed.getD j false=true->ops[j]?=some o -> ∀ e∈o.after,Region.binds .any e=true->listed.getD e.on false=true
def Oy(gj:List OT)(b:Nat):Bool:=(gj.drop b).all fun t=>t.kc.isEmpty
theorem AR{gj:List OT}{b:Nat}(h:Oy gj b=true){j:Nat}{t:OT}(hj:b<=j)(ht:gj[j]?=some t):t.kc = []:=by
 have h1:=List.all_eq_true.1 h t (by
  refine List.mem_of_getElem? (i:=j-b) ?_;rw[List.getElem?_drop,show b+(j-b)=j by omega];exact ht)
 simpa using h1
section
variable {P : Program} {σ : Type} {cx : Cx σ} {r : Option Nat} {m : List Nat}
theorem JQ(yk:mE P cx){ops:Array Oper}{rt:RT}(jA:l4 ops.toList rt=true){b:Nat}(Ni:b<=ops.size)(DE:Oy rt.gj b=true){Q:Exit->Act->World->Prop}{f':Fs}{s:σ}{n0:Nat}{F0:Nat->Nat}{w0:World}{k:Nat}
  (hd:∀ o∈ops.toList,∀ d,o.dst=some d->d<n0)
  (uB:∀ a w L F (st:St σ) listed,dr st=f'->st.s=s->Good cx r m L F st a w->Tr F0 w0 F w->a.tmps.size=n0->Kf ops b [] listed->wpAnyIn (fr r) 0 P .any ops Q k listed a w) :
  ∀ (n:Nat) {l:List Rec} {listed:Array Bool} {st:St σ} {a:Act} {w:World} {L:Loc} {F:Nat->Nat},l.length=n->(∀ q∈l,q.idx<b) ->
  Rs P ops rt.gj l->Good cx r m L F st a w->st.s=s->Tr F0 w0 F w->a.tmps.size=n0->(∀ q∈l,∀ id∈bR q.ws,rF (dr st) id)->qN l (dr st) f'->Kf ops b l listed ->
  wpAnyIn (fr r) 0 P .any ops Q (k+n) listed a w:=by
 simp only[l4,Bool.and_eq_true]at jA;obtain⟨⟨⟨⟨hlen,lK⟩,pO⟩,ox⟩,vt⟩:=jA;have hlen:=Nat.eq_of_beq_eq_true hlen;intro n
 induction n with
 | zero=>
  intro l listed st a w L F su Ls zy hg hs tr hn hu bN ht;have hl:l = []:=List.length_eq_zero_iff.1 su;subst hl;have bN:f'=dr st:=bN;exact uB a w L F st listed bN.symm hs hg tr hn ht
 | succ n ih=>
  intro l listed st a w L F su Ls zy hg hs tr hn hu bN ht;have BV:∃ q l',l=q::l':=by
   cases l with
   | nil=>simp at su
   | cons q l'=>exact⟨q,l',rfl⟩
  refine⟨fun hr=>?_,fun j hj=>?_⟩
  ·exfalso
   obtain⟨q,l',rfl⟩:=BV;have hqb:=Ls q (List.mem_cons_self ..);have hi:=(ht.mem q.idx).1 (.inl ⟨q,List.mem_cons_self ..,rfl⟩);have iP:q.idx∈Region.ready .any ops listed:=by
    rw[mem_ready];refine⟨hi,ops[q.idx]'(by omega),Array.getElem?_eq_getElem (by omega),fun e he hb=>?_⟩;have dN:=gY lK q.idx (ops[q.idx]'(by omega)) (by simp) e he hb;refine mL (by rw[ht.size];omega) fun hf=>?_;rcases (ht.mem e.on).2 hf with⟨q',HA,Lf⟩|⟨h1,_⟩
    ·rcases List.mem_cons.1 HA with h|h
     ·subst h;omega
     ·have:=((List.pairwise_cons.1 zy.pw).1 _ h).lt
      omega
    ·omega
   rw[hr]at iP;cases iP
  ·obtain⟨zI,oj,CL,lM⟩:=mem_ready.1 hj
   have N7:j<ops.size:=(Array.getElem?_eq_some_iff.1 CL).1;have ZY:∃ q∈l,q.idx=j:=by
    rcases (ht.mem j).2 zI with h|⟨h,_⟩
    ·exact h
    ·exfalso
     obtain⟨q,l',rfl⟩:=BV;have hqb:=Ls q (List.mem_cons_self ..);have JY:rt.gj[j]?=some (rt.gj[j]'(by rw[<- hlen];simpa using N7)):=List.getElem?_eq_getElem _;have h1:=sH ht.closed lK pO hlen (j+1) j oj _ (by omega) CL JY lM q.idx (by omega) (by rw[AR DE h JY];simp);have h2:=kR h1;rw[(ht.mem q.idx).1 (.inl ⟨q,List.mem_cons_self ..,rfl⟩)]at h2;cases h2
   obtain⟨q,hq,rfl⟩:=ZY;obtain⟨l1,l2,rfl⟩:=List.append_of_mem hq;have uG:=List.pairwise_append.1 zy.pw;obtain⟨t,Z1,Z0⟩:=zy.kc q hq;have eV:∀ p∈l1,J7 p q:=by
    intro p hp;have Nq:=uG.2.2 p hp q (List.mem_cons_self ..);refine Nq.free (Classical.byContradiction fun CJ=>?_);rw[Z0]at CJ;have:=sH ht.closed lK pO hlen (q.idx+1) q.idx oj t (by omega) CL Z1 lM p.idx Nq.lt CJ;have h3:=kR this;rw[(ht.mem p.idx).1 (.inl ⟨p,List.mem_append_left _ hp,rfl⟩)]at h3;cases h3
   obtain⟨ji,ir⟩:=qN.front eV bN;have SI:=zy.news q hq;have DJ:dr (aR st q.ws)=cA (dr st) q.ws:=BP q.ws st SI (hu q hq);refine zy.snd q hq cx yk r m L F st a w ji.1 ji.2 hg (fun o ho k hk=>?_) _ _ fun a' L' F' w' dc dp mV=>?_
   ·rw[hn]
    exact hd o (by simpa using Array.mem_of_getElem? ho) k hk
   ·have iP:∀ p,p∈l1++l2->p∈l1++q::l2:=fun p hp=>by
     rcases List.mem_append.1 hp with h|h
     ·exact List.mem_append_left _ h
     ·exact List.mem_append_right _ (List.mem_cons_of_mem _ h)
    have eW:∀ p∈l1++l2,p.idx≠q.idx:=by
     intro p hp;rcases List.mem_append.1 hp with h|h
     ·have:=(uG.2.2 p h q (List.mem_cons_self ..)).lt;omega
     ·have:=((List.pairwise_cons.1 uG.2.1).1 p h).lt;omega
    refine ih (l:=l1++l2) (by simp at su ⊢;omega) (fun p hp=>Ls p (iP p hp)) ⟨?_,fun p hp=>zy.snd p (iP p hp),fun p hp=>zy.news p (iP p hp),fun p hp=>zy.kc p (iP p hp)⟩ dp ((dM _ _).trans hs) (Tr.trans tr mV) (dc.trans hn) ?_ (by rw[DJ];exact ir) ⟨fun i=>?_,?_,?_⟩
    ·exact List.pairwise_append.2 ⟨uG.1,(List.pairwise_cons.1 uG.2.1).2,fun x hx y hy=>uG.2.2 x hx y (List.mem_cons_of_mem _ hy)⟩
    ·intro p hp id hid
     rw[DJ];refine(hu p (iP p hp) id hid).cA ?_ ?_
     ·rcases List.mem_append.1 hp with h|h
      ·exact(eV p h).l.news id hid
      ·exact((List.pairwise_cons.1 uG.2.1).1 p h).names id hid
     ·rcases List.mem_append.1 hp with h|h
      ·exact(eV p h).l.Jf id (iU hid)
      ·exact((List.pairwise_cons.1 uG.2.1).1 p h).Jf id hid
    ·by_cases mW:q.idx=i
     ·subst mW
      have dN:q.idx<listed.size:=by rw[ht.size];exact(Array.getElem?_eq_some_iff.1 CL).1
      have hqb:=Ls q hq;constructor
      ·rintro (⟨p,hp,he⟩|⟨h,_⟩)
       ·exact absurd he (eW p hp)
       ·omega
      ·intro h;simp[dN]at h
     ·rw[getD_set_ne true mW,<- ht.mem i]
      constructor
      ·rintro (⟨p,hp,he⟩|h)
       ·exact .inl ⟨p,iP p hp,he⟩
       ·exact .inr h
      ·rintro (⟨p,hp,he⟩|h)
       ·refine .inl ⟨p,?_,he⟩
        rcases List.mem_append.1 hp with h|h
        ·exact List.mem_append_left _ h
        ·rcases List.mem_cons.1 h with rfl|h
         ·exact absurd he mW
         ·exact List.mem_append_right _ h
       ·exact .inr h
    ·rw[Array.size_setIfInBounds];exact ht.size
    ·intro k o' hk zJ e he hb
     by_cases Hw:q.idx=k
     ·subst Hw
      rw[CL]at zJ;cases zJ;exact getD_set_true (lM e he hb)
     ·rw[getD_set_ne false Hw]at hk
      exact getD_set_true (ht.closed k o' hk zJ e he hb)
theorem JP{ops:Array Oper}{rt:RT}(jA:l4 ops.toList rt=true){b:Nat}(DE:Oy rt.gj b=true){Q:Exit->Act->World->Prop} :
  ∀ (n i:Nat) {listed:Array Bool} {a:Act} {w:World},i+n=ops.size->b<=i->Kf ops i [] listed->wpOpsIn (fr r) 0 P ops Q (List.range' i n) a w->wpAnyIn (fr r) 0 P .any ops Q n listed a w:=by
 simp only[l4,Bool.and_eq_true]at jA;obtain⟨⟨⟨⟨hlen,lK⟩,pO⟩,ox⟩,vt⟩:=jA;have hlen:=Nat.eq_of_beq_eq_true hlen;intro n
 induction n with
 | zero=>
  intro i listed a w hi hb ht h;refine⟨?_,h⟩
  cases hr:Region.ready .any ops listed with
  | nil=>rfl
  | cons j _=>
   have hj:j∈Region.ready .any ops listed:=by rw[hr];exact List.mem_cons_self ..
   rcases (ht.mem j).2 (mem_ready.1 hj).1 with⟨q,hq,_⟩|⟨h1,h2⟩
   ·cases hq
   ·omega
 | succ n ih=>
  intro i listed a w hi hb ht h;rw[List.range'_succ,wpOpsIn_cons]at h;refine⟨fun hr=>?_,fun j hj=>?_⟩
  ·exfalso
   have hu:=(ht.mem i).1 (.inr ⟨Nat.le_refl _,by omega⟩);have iP:i∈Region.ready .any ops listed:=by
    rw[mem_ready];refine⟨hu,ops[i]'(by omega),Array.getElem?_eq_getElem (by omega),fun e he EZ=>?_⟩;have dN:=gY lK i (ops[i]'(by omega)) (by simp) e he EZ;refine mL (by rw[ht.size];omega) fun hf=>?_;rcases (ht.mem e.on).2 hf with⟨q',HA,_⟩|⟨h1,_⟩
    ·cases HA
    ·omega
   rw[hr]at iP;cases iP
  ·obtain⟨zI,oj,CL,lM⟩:=mem_ready.1 hj
   have N7:j<ops.size:=(Array.getElem?_eq_some_iff.1 CL).1;have BX:j=i:=by
    rcases (ht.mem j).2 zI with⟨q,hq,_⟩|⟨h1,_⟩
    ·cases hq
    rcases Nat.lt_or_ge i j with h2|h2
    ·exfalso
     have JY:rt.gj[j]?=some (rt.gj[j]'(by rw[<- hlen];simpa using N7)):=List.getElem?_eq_getElem _;have h3:=sH ht.closed lK pO hlen (j+1) j oj _ (by omega) CL JY lM i h2 (by rw[AR DE (by omega) JY];simp);have h4:=kR h3;rw[(ht.mem i).1 (.inr ⟨Nat.le_refl _,by omega⟩)]at h4;cases h4
    ·omega
   subst BX;refine wpOpIn_mono (fun a' w' h'=>ih (j+1) (by omega) (by omega) ⟨fun k=>?_,?_,?_⟩ h') h
   ·by_cases Hw:j=k
    ·subst Hw
     have:j<listed.size:=by rw[ht.size];exact N7
     constructor
     ·rintro (⟨q,hq,_⟩|⟨h1,_⟩)
      ·cases hq
      ·omega
     ·intro h;simp[this]at h
    ·rw[getD_set_ne true Hw,<- ht.mem k]
     constructor
     ·rintro (⟨q,hq,_⟩|⟨h1,h2⟩)
      ·cases hq
      ·exact .inr ⟨by omega,h2⟩
     ·rintro (⟨q,hq,_⟩|⟨h1,h2⟩)
      ·cases hq
      ·exact .inr ⟨by omega,h2⟩
   ·rw[Array.size_setIfInBounds];exact ht.size
   ·intro k o' hk zJ e he hb
    by_cases Hw:j=k
    ·subst Hw
     rw[CL]at zJ;cases zJ;exact getD_set_true (lM e he hb)
    ·rw[getD_set_ne false Hw]at hk
     exact getD_set_true (ht.closed k o' hk zJ e he hb)
end
section
variable {P : Program} {T : e7} {ft : FT} {σ : Type} {Y : Hd σ}
theorem CT(hm:P.follows .mixedOrders=true)(hT:bA P T)(rt:RT)(b:Nat){id:Nat}{ops:Array Oper}(jA:l4 ops.toList rt=true)(DE:(Nat.ble b ops.toList.length&&Oy rt.gj b)=true){e:Env}{h:Heap}{s:σ}{K:fg->St σ->Prop}
  (hk:sK rt.made e h fun e h=>GQ P T rt.made ops.toList ((ops.toList.zip rt.gj).take b) [] e h fun e h=>wpOps P T Y ops.toList (ops.toList.drop b) e h s fun e h s=>eB (aX ft.ks e) fun e=>K .normal ⟨e,h,s⟩):sF P ft Y id ops ⟨e,h,s⟩ K:=by
 refine⟨fun cx hY r m L F a w hg hc=>?_⟩;rw[Bool.and_eq_true]at DE;have Ni:b<=ops.size:=by have:=Nat.le_of_ble_eq_true DE.1;simpa using this
 have LH:=jA;simp only[l4,Bool.and_eq_true]at LH;obtain⟨⟨⟨⟨hlen,lK⟩,pO⟩,ox⟩,vt⟩:=LH;have hlen:=Nat.eq_of_beq_eq_true hlen;have hd:=nH hc;obtain⟨e1,h1,L1,hk,eo,hu⟩:=BA rt.made (fun d NZ=>by
  have:=List.all_eq_true.1 vt d NZ;exact Nat.le_of_ble_eq_true this) hg hk (fun _=>False) (fun _ h=>h.elim)
 obtain⟨R,eN,hN,k1,k2,k3,k4,k5,k6⟩:=Nb hT ox ((ops.toList.zip rt.gj).take b) [] (fun j p hp=>by
  rw[List.getElem?_take]at hp;split at hp
  ·have:=List.getElem?_zip_eq_some.1 hp
   simpa using this
  ·cases hp) (fun k q hq=>by simp at hq) List.Pairwise.nil hk
 simp only[List.nil_append]at k4 k5;have hRl:R.length=b:=by
  rw[k3,List.length_take,List.length_zip,hlen];have:ops.toList.length=ops.size:=by simp
  omega
 have N5:∀ q∈R,q.idx<b:=fun q hq=>by
  obtain⟨k,jj,zu⟩:=List.mem_iff_getElem.1 hq;have:=(k4 k q (by rw[List.getElem?_eq_getElem jj,zu])).1;omega
 have Pa:Tr F w F { w with drawn:=w.drawn+1 }:=Tr.drew _;refine wpIn_mono (wpIn_region_any (id:=id) (Q:=na Y cx r m F w a.tmps.size (fun e h s=>eB (aX ft.ks e) fun e=>K .normal ⟨e,h,s⟩)) hm ?_) fun ex a' w' hq=>?_
 ·have Zu:ops.size=(ops.size-b)+b:=by omega
  rw[Zu];refine JQ (cx:=cx) hY.laid (r:=r) (m:=m) (s:=s) (n0:=a.tmps.size) (F0:=F) (w0:=w) (f':=⟨get eN,get hN⟩) jA Ni DE.2 hd (fun a' w' L' F' st listed hf hs dp tr hn ht=>?_) b (l:=R) (st:=⟨e1,h1,s⟩) hRl N5
   ⟨k5,fun q hq=>?_,fun q hq=>?_,fun q hq=>?_⟩ (eo.same (w':={ w with drawn:=w.drawn+1 }) rfl rfl rfl rfl) rfl Pa rfl (fun q hq x hx=>hu x (.inl (k6 q hq x hx))) k2 ⟨fun i=>?_,by simp;omega,fun j o hj=>?_⟩
  ·have he:get st.env=get eN:=congrArg Fs.env hf
   have hh:get st.heap=get hN:=congrArg Fs.heap hf;have gC:=dp.sub (e:=eN) (h:=hN) (fun x v hx=>by rw[he];exact hx) (fun x v hx=>by rw[hh];exact hx);rw[hs]at gC;refine JP jA DE.2 (ops.size-b) b (by omega) (Nat.le_refl _) ht ?_;have:=mD hT hY (ops.toList.drop b) b (fun j=>by simp) gC hn (fun o ho=>hd o (List.mem_of_mem_drop ho)) tr k1;simpa using this
  ·obtain⟨k,jj,zu⟩:=List.mem_iff_getElem.1 hq
   exact(k4 k q (by rw[List.getElem?_eq_getElem jj,zu])).2.snd
  ·obtain⟨k,jj,zu⟩:=List.mem_iff_getElem.1 hq
   exact(k4 k q (by rw[List.getElem?_eq_getElem jj,zu])).2.news
  ·obtain⟨k,jj,zu⟩:=List.mem_iff_getElem.1 hq
   obtain⟨o,t,h1,h2,h3,_⟩:=(k4 k q (by rw[List.getElem?_eq_getElem jj,zu])).2.op;exact⟨t,h2,h3⟩
  ·rw[<- Zu,Array.getD_eq_getD_getElem?,Array.getElem?_replicate]
   constructor
   ·rintro (⟨q,hq,rfl⟩|⟨h1,h2⟩)
    ·have:=N5 q hq
     rw[if_pos (by omega)];rfl
    ·rw[if_pos h2];rfl
   ·intro hi
    by_cases Nk:i<b
    ·exact .inl ⟨R[i],List.getElem_mem ..,(k4 i R[i] (List.getElem?_eq_getElem (by omega))).1⟩
    ·by_cases uC:i<ops.size
     ·exact .inr ⟨by omega,uC⟩
     ·rw[if_neg uC]at hi;simp at hi
  ·rw[<- Zu,Array.getD_eq_getD_getElem?,Array.getElem?_replicate]at hj
   split at hj<;>cases hj
 ·rcases hq with⟨e',h',s',L',F',hex,hk,dp,tr,hs⟩|hp
  case inr=>exact .inr hp
  rw[fM]at hk;exact .inl ⟨.normal,_,m,L',F',hex,hk,dp.sub (ez ft.ks e') (fun _ _ h=>h),tr,hs⟩
end
def MT{σ:Type}(P:Program)(T:e7)(Y:Hd σ)(ops:List Oper)(o:Option Oper)(e:Env)(h:Heap)(s:σ)(go:Env->Heap->σ->Prop):Prop:=
 match o with
 | some ⟨dst,op,_,_,_,guard⟩=>mN ops e guard (fun w=>bw w e h fun e h=>EI P T Y dst op e h s go) (fun w=>bw w e h fun e h=>bw (bz dst (.d (.tup []))) e h fun e h=>go e h s)
 | none=>False
def isTrue:List Bool->Nat->Bool
 | [],_=>true
 | b::_,0=>b
 | _::r,n+1=>isTrue r n
def sJ(ls:List Bool):List Nat->Bool
 | []=>true
 | i::r=>isTrue ls i&&sJ ls r
def sb(ls:List Bool):Nat->List (List Nat)->List Bool->List Nat
 | _,[],_=>[]
 | _,_,[]=>[]
 | i,d::ds,b::bs=>match b,sJ ls d with
  | false,true=>i::sb ls (i+1) ds bs
  | _,_=>sb ls (i+1) ds bs
def Gy:List Bool->Nat->List Bool
 | [],_=>[]
 | _::r,0=>true::r
 | b::r,n+1=>b::Gy r n
noncomputable def Kl(l:List Nat)(f:Nat->Prop):Prop:=
 List.rec (motive:=fun _=>Prop) True (fun i _ ih=>f i/\ih) l
theorem CV{f:Nat->Prop}:∀ {l:List Nat},Kl l f ↔ ∀ i∈l,f i
 | []=>by simp[Kl]
 | i::r=>by
  have:=CV (f:=f) (l:=r);simp only[Kl]at this ⊢;rw[this];simp
noncomputable def GP{σ:Type}(P:Program)(T:e7)(Y:Hd σ)(ops:List Oper)(oh:List (List Nat))(n:Nat):List Bool->Env->Heap->σ->(Env->Heap->σ->Prop)->Prop:=
 Nat.rec (motive:=fun _=>List Bool->Env->Heap->σ->(Env->Heap->σ->Prop)->Prop) (fun _ e h s K=>K e h s)
  (fun _ ih ls e h s K=>Kl (sb ls 0 oh ls) fun i=>MT P T Y ops ops[i]? e h s fun e h s=>ih (Gy ls i) e h s K) n
def rJ:List Oper->List (List Nat)->Bool
 | [],[]=>true
 | o::r,d::ds=>d.all (fun i=>o.after.toList.any fun e=>Region.binds .any e&&Nat.beq e.on i)&&rJ r ds
 | _,_=>false
theorem pF:∀ {l:List Oper} {ds:List (List Nat)},rJ l ds=true->l.length=ds.length /\ ∀ (i:Nat) (o:Oper) (d:List Nat),l[i]?=some o->ds[i]?=some d -> ∀ j∈d,∃ e∈o.after,Region.binds .any e=true/\e.on=j
 | [],[],_=>⟨rfl,fun i o d h=>by simp at h⟩
 | [],_::_,h=>by simp[rJ]at h
 | _::_,[],h=>by simp[rJ]at h
 | o::r,d::ds,h=>by
  simp only[rJ,Bool.and_eq_true,List.all_eq_true]at h;obtain⟨h1,h2⟩:=pF h.2;refine⟨by simp[h1],fun i o' d' ho hd j hj=>?_⟩
  cases i with
  | zero=>
   simp at ho hd;subst ho;subst hd;have:=h.1 j hj;simp only[List.any_eq_true,Bool.and_eq_true]at this;obtain⟨e,he,hb,hq⟩:=this;exact⟨e,by simpa using he,hb,Nat.eq_of_beq_eq_true hq⟩
  | succ i=>exact h2 i o' d' (by simpa using ho) (by simpa using hd) j hj
theorem yw:∀ {ls:List Bool} {i:Nat},isTrue ls i=ls.toArray.getD i true
 | [],i=>by simp[isTrue,Array.getD_eq_getD_getElem?]
 | b::r,0=>by simp[isTrue,Array.getD_eq_getD_getElem?]
 | b::r,n+1=>by
  have:=yw (ls:=r) (i:=n);simp only[isTrue,this,Array.getD_eq_getD_getElem?];simp
theorem xh{ls:List Bool}:∀ {d:List Nat},(∀ j∈d,isTrue ls j=true)->sJ ls d=true
 | [],_=>rfl
 | i::r,h=>by
  have h1:=xh (ls:=ls) (d:=r) fun j hj=>h j (List.mem_cons_of_mem _ hj);simp[sJ,h i (by simp),h1]
theorem yG{ls:List Bool}:∀ {ds:List (List Nat)} {bs:List Bool} {k i:Nat} {d:List Nat},ds[i]?=some d->bs[i]?=some false->sJ ls d=true->k+i∈sb ls k ds bs
 | [],_,_,i,d,h,_,_=>by simp at h
 | _::_,[],_,i,d,_,h,_=>by simp at h
 | x::ds,b::bs,k,i,d,hd,hb,ha=>by
  cases i with
  | zero=>
   simp at hd hb;subst hd;subst hb;simp[sb,ha]
  | succ i=>
   have:=yG (ls:=ls) (ds:=ds) (bs:=bs) (k:=k+1) (i:=i) (by simpa using hd) (by simpa using hb) ha;rw[show k+(i+1)=k+1+i by omega];simp only[sb];split
   ·exact List.mem_cons_of_mem _ this
   ·exact this
theorem wT:∀ {ls:List Bool} {i:Nat},Gy ls i=ls.set i true
 | [],i=>by simp[Gy]
 | b::r,0=>rfl
 | b::r,n+1=>by simp[Gy,wT (ls:=r)]
def GF:List Bool->Nat
 | []=>0
 | true::r=>GF r
 | false::r=>GF r+1
theorem Ia:∀ {ls:List Bool} {i:Nat},ls[i]?=some false->GF (ls.set i true)+1=GF ls
 | [],i,h=>by simp at h
 | b::r,0,h=>by
  simp at h;subst h;simp[GF]
 | b::r,i+1,h=>by
  have:=Ia (ls:=r) (i:=i) (by simpa using h);cases b<;>simp[GF,this]
theorem H9:∀ {ls:List Bool},0<GF ls -> ∃ i:Nat,ls[i]?=some false /\ ∀ j:Nat,j<i->ls[j]?=some true
 | [],h=>by simp[GF]at h
 | false::r,_=>⟨0,rfl,fun j hj=>by omega⟩
 | true::r,h=>by
  obtain⟨i,h1,h2⟩:=H9 (ls:=r) (by simpa[GF]using h);refine⟨i+1,by simpa using h1,fun j hj=>?_⟩
  cases j with
  | zero=>rfl
  | succ j=>simpa using h2 j (by omega)
theorem EN:∀ {ls:List Bool},GF ls=0 -> ∀ i:Nat,ls[i]?≠some false
 | [],_,i=>by simp
 | false::r,h,i=>by simp[GF]at h
 | true::r,h,i=>by
  cases i with
  | zero=>simp
  | succ i=>simpa using EN (ls:=r) (by simpa[GF]using h) i
section
variable {P : Program} {T : e7} {σ : Type} {Y : Hd σ} {cx : Cx σ} {r : Option Nat} {m : List Nat}
theorem ou{ls:List Bool}{i:Nat}:ls.toArray.getD i true=false↔ls[i]?=some false:=by
 rw[Array.getD_eq_getD_getElem?];simp only[List.getElem?_toArray]
 cases ls[i]? with
 | none=>simp
 | some b=>simp
theorem rf{ls:List Bool}{i:Nat}:ls.toArray.getD i false=true↔ls[i]?=some true:=by
 rw[Array.getD_eq_getD_getElem?];simp only[List.getElem?_toArray]
 cases ls[i]? with
 | none=>simp
 | some b=>simp
theorem Cz(hT:bA P T)(hY:ct P Y cx){ops:Array Oper}{oh:List (List Nat)}(lK:qf 0 ops.toList=true)(UF:rJ ops.toList oh=true){F0:Nat->Nat}{w0:World}{n0:Nat}(hd:∀ o∈ops.toList,∀ d,o.dst=some d->d<n0){K:Env->Heap->σ->Prop} :
  ∀ (n:Nat) {ls:List Bool} {e:Env} {h:Heap} {s:σ} {L:Loc} {F:Nat->Nat} {a:Act} {w:World},ls.length=ops.size->GF ls=n->Good cx r m L F ⟨e,h,s⟩ a w->a.tmps.size=n0->Tr F0 w0 F w ->
   GP P T Y ops.toList oh n ls e h s K->wpAnyIn (fr r) 0 P .any ops (na Y cx r m F0 w0 n0 K) n ls.toArray a w:=by
 obtain⟨Nj,Le⟩:=pF UF;have Nj:ops.size=oh.length:=by simpa using Nj
 intro n
 induction n with
 | zero=>
  intro ls e h s L F a w hl hu hg hs tr hk;refine⟨?_,.inl ⟨e,h,s,L,F,rfl,hk,hg,tr,hs⟩⟩
  cases hr:Region.ready .any ops ls.toArray with
  | nil=>rfl
  | cons i _=>
   have:i∈Region.ready .any ops ls.toArray:=by rw[hr];exact List.mem_cons_self ..
   have:=ou.1 (mem_ready.1 this).1;exact absurd this (EN hu i)
 | succ n ih=>
  intro ls e h s L F a w hl hu hg hs tr hk;refine⟨fun hr=>?_,fun i hi=>?_⟩
  ·exfalso
   obtain⟨i,h1,h2⟩:=H9 (ls:=ls) (by omega);have W7:i<ops.size:=by rw[<- hl];exact(List.getElem?_eq_some_iff.1 h1).1
   have:i∈Region.ready .any ops ls.toArray:=by
    rw[mem_ready];refine⟨ou.2 h1,ops[i],Array.getElem?_eq_getElem W7,fun e he hb=>?_⟩;have dN:=gY lK i ops[i] (by simp) e he hb;exact rf.2 (h2 e.on (by omega))
   rw[hr]at this;cases this
  ·obtain⟨zI,oj,CL,lM⟩:=mem_ready.1 hi
   have W7:i<ops.size:=(Array.getElem?_eq_some_iff.1 CL).1;have hli:=ou.1 zI;have hk:Kl (sb ls 0 oh ls) fun i=>MT P T Y ops.toList ops.toList[i]? e h s fun e h s=>GP P T Y ops.toList oh n (Gy ls i) e h s K:=hk;have hdi:oh[i]?=some (oh[i]'(by omega)):=List.getElem?_eq_getElem _;have Nn:=CV.1 hk i (by
    have:=yG (ls:=ls) (ds:=oh) (bs:=ls) (k:=0) (i:=i) hdi hli (xh fun j hj=>by
     obtain⟨e,he,hb,rfl⟩:=Le i oj _ (by simpa using CL) hdi j hj;have:=lM e he hb;rw[yw];have:=rf.1 this;rw[Array.getD_eq_getD_getElem?];simp[this])
    simpa using this)
   have JY:ops.toList[i]?=some oj:=by simpa using CL
   rw[JY]at Nn;obtain⟨dst,op,ty,pos,after,guard⟩:=oj;refine zp hT hY CL hg (fun d Zj=>by rw[hs];exact hd _ (List.mem_of_getElem? JY) d Zj) Nn (fun e' h' s' L' F' a' w' dp RB mV jj=>?_) fun e' a' w' hp=>.inr (hp.trans tr hs);have iQ:ls.toArray.setIfInBounds i true=(Gy ls i).toArray:=by rw[wT];simp
   rw[iQ];refine ih (by rw[wT];simpa using hl) ?_ dp (RB.trans hs) (Tr.trans tr mV) jj;rw[wT];have:=Ia hli;omega
variable {ft : FT}
theorem u5(hm:P.follows .mixedOrders=true)(hT:bA P T)(oh:List (List Nat)){id:Nat}{ops:Array Oper}(jA:(qf 0 ops.toList&&rJ ops.toList oh)=true){e:Env}{h:Heap}{s:σ}{K:fg->St σ->Prop}
  (hk:GP P T Y ops.toList oh oh.length (oh.map fun _=>false) e h s fun e h s=>eB (aX ft.ks e) fun e=>K .normal ⟨e,h,s⟩):sF P ft Y id ops ⟨e,h,s⟩ K:=by
 refine⟨fun cx hY r m L F a w hg hc=>?_⟩;rw[Bool.and_eq_true]at jA;obtain⟨Nj,_⟩:=pF jA.2;have Nj:ops.size=oh.length:=by simpa using Nj
 refine wpIn_mono (wpIn_region_any (id:=id) (Q:=na Y cx r m F w a.tmps.size (fun e h s=>eB (aX ft.ks e) fun e=>K .normal ⟨e,h,s⟩)) hm ?_) fun ex a' w' hq=>?_
 ·have rU:Array.replicate ops.size false=(oh.map fun _=>false).toArray:=by
   rw[Nj];have:∀ l:List (List Nat),(l.map fun _=>false)=List.replicate l.length false:=by
    intro l
    induction l with
    | nil=>rfl
    | cons x r ih=>rw[List.map_cons,ih];rfl
   rw[this];simp
  have aac:∀ l:List (List Nat),GF (l.map fun _=>false)=l.length:=by
   intro l
   induction l with
   | nil=>rfl
   | cons x r ih=>simp[GF,ih]
  rw[rU,Nj];exact Cz hT hY jA.1 jA.2 (nH hc) oh.length (by simp[Nj]) (aac oh) (hg.same (w':={ w with drawn:=w.drawn+1 }) rfl rfl rfl rfl) rfl (Tr.drew _) hk
 ·rcases hq with⟨e',h',s',L',F',hex,hk,dp,tr,hs⟩|hp
  case inr=>exact .inr hp
  rw[fM]at hk;exact .inl ⟨.normal,_,m,L',F',hex,hk,dp.sub (ez ft.ks e') (fun _ _ h=>h),tr,hs⟩
end
end Go.PX
namespace Go.PX
mutual
def cO:D->D
 | .agg cs=>.agg (oK cs)
 | .tup cs=>.tup (oK cs)
 | .vs es=>.vs (oJ es)
 | .nils=>.vs []
 | .ref cs=>.ref (oK cs)
 | .bool b=>.bool b
 | .int k n=>.int k n
 | .str s=>.str s
 | .nilp=>.nilp
 | .mv cJ=>.mv cJ
 | .nilm=>.nilm
 | .clo f bS=>.clo f bS
 | .mth f first=>.mth f first
 | .nilf=>.nilf
 | .ifc t v=>.ifc t v
 | .nili=>.nili
def oK:List D->List D
 | []=>[]
 | c::r=>cO c::oK r
def oJ:List (List D)->List (List D)
 | []=>[]
 | c::r=>oK c::oJ r
end
theorem ru:∀ l:List D,(oK l).length=l.length
 | []=>rfl
 | c::r=>by simp only[oK,List.length_cons,ru r]
theorem rr:∀ l:List (List D),(oJ l).length=l.length
 | []=>rfl
 | c::r=>by simp only[oJ,List.length_cons,rr r]
mutual
theorem bM.cO{F:Nat->Nat}{w:World}:∀ (a:D) (v:Value),bM F w a v->bM F w (cO a) v
 | .agg cs,_,hr=>by
  obtain⟨l,rfl,hl⟩:=hr;exact⟨l,rfl,bc.cO cs _ hl⟩
 | .tup cs,_,hr=>by
  obtain⟨l,rfl,hl⟩:=hr;exact⟨l,rfl,bc.cO cs _ hl⟩
 | .vs es,_,hr=>by
  obtain⟨a,len,cap,rfl,hl,hc,he⟩:=hr;refine⟨a,len,cap,rfl,by rw[rr];exact hl,hc,fun eW=>?_⟩;obtain⟨b,off,sz,ha,hs,fe⟩:=he (by rintro rfl;exact eW rfl);exact⟨b,off,sz,ha,hs,dz.cO es b off sz fe⟩
 | .nils,_,hr=>by
  have hx:_=Value.slice none 0 0:=hr;subst hx;exact⟨none,0,0,rfl,rfl,Nat.le_refl _,fun h=>absurd rfl h⟩
 | .ref cs,_,hr=>by
  obtain⟨b,off,rfl,hc⟩:=hr;exact⟨b,off,rfl,cR.cO cs b off hc⟩
 | .bool _,_,hr=>hr
 | .int _ _,_,hr=>hr
 | .str _,_,hr=>hr
 | .nilp,_,hr=>hr
 | .mv _,_,hr=>hr
 | .nilm,_,hr=>hr
 | .clo _ _,_,hr=>hr
 | .mth _ _,_,hr=>hr
 | .nilf,_,hr=>hr
 | .ifc _ _,_,hr=>hr
 | .nili,_,hr=>hr
theorem bc.cO{F:Nat->Nat}{w:World}:∀ (cs:List D) (l:List Value),bc F w cs l->bc F w (oK cs) l
 | [],_,hr=>hr
 | c::r,_,hr=>by
  obtain⟨x,l',rfl,hc,hl⟩:=hr;exact⟨x,l',rfl,bM.cO c x hc,bc.cO r l' hl⟩
theorem cR.cO{F:Nat->Nat}{w:World}:∀ (cs:List D) (b off:Nat),cR F w b off cs->cR F w b off (oK cs)
 | [],_,_,_=>trivial
 | c::r,b,off,hr=>by
  obtain⟨hf,⟨x,hx,hc⟩,hl⟩:=hr;exact⟨hf,⟨x,hx,bM.cO c x hc⟩,cR.cO r b (off+1) hl⟩
theorem dz.cO{F:Nat->Nat}{w:World}:∀ (es:List (List D)) (b off sz:Nat),dz F w b off sz es->dz F w b off sz (oJ es)
 | [],_,_,_,_=>trivial
 | e::r,b,off,sz,hr=>by
  obtain⟨hn,he,hl⟩:=hr;exact⟨by rw[ru];exact hn,cR.cO e b off he,dz.cO r b (off+sz) sz hl⟩
end
theorem bq.cO{P:Program}{f:FuncId}{ds:List D}{r:D}(h:bq P f ds r){r':D}(hr:PX.cO r=r'):bq P f ds r':=by
 subst hr;intro σ Y s;obtain⟨h1,h2⟩:=h Y s;refine⟨h1,fun cx hY L F aT w hh hv=>(h2 cx hY L F aT w hh hv).mono ?_⟩;rintro e w' ⟨x,rfl,v,h',s',L',F',⟨⟨rfl,rfl⟩,rfl⟩,mc,hx,tr,hp⟩;exact⟨x,rfl,_,_,_,L',F',⟨⟨rfl,rfl⟩,rfl⟩,mc,bM.cO r x hx,tr,hp⟩
section
variable {P : Program} {σ : Type} {Y : Hd σ}
theorem Kh{args0:List V}{h0:Heap}{s:σ}{Q:V->Heap->σ->Prop}(tb:List Nat){e:Env}{h:Heap}{d:Option Nat}{args:List V}{K:St σ->Prop}(hy:Y.y args0 h0 s Q)
  (dx:tN (eU tb (d.getD 0)) args0=args) (e8:jr (eU tb (d.getD 0)) h 1000000 tb h0) (sx:nodupB tb=true) (yl:Nat.ble tb.length 1000=true)
  (hq:∀ v h1 s',Q v h1 s'->gG tb d v h1=true/\bw (cL tb d v h1) e h fun e h=>K ⟨e,h,s'⟩):Qy P Y ⟨e,h,s⟩ d args K:=by
 refine Ph tb hy dx e8 sx yl fun v h1 s' hv=>?_;obtain⟨h2,h3⟩:=hq v h1 s' hv;refine⟨h2,?_⟩;rw[cU s']at h3;have hs:(aR (⟨e,h,s'⟩:St σ) (cL tb d v h1)).s=s':=dM _ _;generalize aR (⟨e,h,s'⟩:St σ) (cL tb d v h1)=st at h3 hs;obtain⟨e1,h1,s1⟩:=st;simp only at hs;subst hs;exact h3
end
theorem ue{P:Program}{σ:Type}{Y:Hd σ}{st:St σ}{d:Option Nat}{f:FuncId}{args args':List V}{K:St σ->Prop}(h:∀ (yv:Option Nat) (L:Loc) (F:Nat->Nat) (w:World) (l:List Value),aq yv L F w args l->aq yv L F w args' l)(hc:dO P Y st d f args' K):dO P Y st d f args K:=by
 obtain⟨h1,h2⟩:=hc;exact⟨h1,fun cx hY r m L F a w aT hg hd hr=>h2 cx hY r m L F a w aT hg hd (h _ _ _ _ _ hr)⟩
theorem nV{P:Program}{σ:Type}{Y:Hd σ}{st:St σ}{d:Option Nat}{f:FuncId}{a:V}{r:List V}{K:St σ->Prop}(hc:dO P Y st d f (a :: .d (.vs [])::r) K):dO P Y st d f (a :: .d .nils::r) K:=by
 refine ue (fun yv L F w l h=>?_) hc;obtain⟨x,l',rfl,h1,y,Vs,rfl,h2,h3⟩:=h;exact⟨x,_,rfl,h1,y,_,rfl,bM.cO .nils y h2,h3⟩
def FT.less(ft:FT)(id:Nat):FT:=⟨ft.ks,cut ft.tb id⟩
theorem sq:∀ l:List D,jw (inj l)=true
 | []=>rfl
 | x::r=>by simp only[inj,jw,jv,sq r];rfl
theorem fN{l:List Nat}{K:List Nat->Prop}(l':List Nat)(h:l=l')(k:dU l' K):dU l K:=by subst h;exact k
theorem oE:∀ l:List D,bJ (inj l) = []
 | []=>rfl
 | x::r=>by simp only[inj,bJ,cy,oE r];rfl
theorem oD:∀ a b:List V,bJ (a++b)=bJ a++bJ b
 | [],b=>rfl
 | x::r,b=>by simp only[List.cons_append,bJ,oD r b,List.append_assoc]
theorem dq(l:List (List D))(vs:List (List V)):bJ (aG l++vs).flatten=bJ vs.flatten:=by
 rw[List.flatten_append,oD,dt,oE];rfl
def FT.more(ft:FT)(id:Nat)(l:List Nat):FT:=⟨ft.ks,ft.tb.map fun p=>match Nat.beq p.1 id with
 | true=>(p.1,⟨p.2.made++l,p.2.gj⟩)
 | false=>p⟩
theorem xY:∀ (l:List V) (i k:Nat) (v:V),l[k]?=some v->get (dy i l) (i+k)=some v
 | [],_,k,v,h=>by simp at h
 | a::r,i,0,v,h=>by
  simp at h;subst h;simp[dy,get]
 | a::r,i,k+1,v,h=>by
  have eW:Nat.beq i (i+(k+1))=false:=by
   rw[Bool.eq_false_iff];intro e;have:=Nat.eq_of_beq_eq_true e;omega
  simp only[dy,get,eW];rw[show i+(k+1)=i+1+k by omega];exact xY r (i+1) k v (by simpa using h)
theorem aq.of{yv:Option Nat}{L:Loc}{F:Nat->Nat}{w:World}:∀ {l:List V} {aT:List Value},l.length=aT.length->(∀ (k:Nat) (v:V),l[k]?=some v -> ∃ x,aT[k]?=some x/\bg yv L F w v x)->aq yv L F w l aT
 | [],[],_,_=>rfl
 | [],_::_,h,_=>by simp at h
 | _::_,[],h,_=>by simp at h
 | v::l,x::aT,h,hk=>by
  obtain⟨y,hy,hr⟩:=hk 0 v rfl;simp at hy;subst hy;exact⟨x,aT,rfl,hr,aq.of (by simpa using h) fun k u hu=>by simpa using hk (k+1) u (by simpa using hu)⟩
theorem nY{σ:Type}{l l':List V}{h h':Heap}{s:σ}{Q:V->Heap->σ->Prop}(hw:Wk (⟨dy 0 l,h,s⟩:St σ) ⟨dy 0 l',h',s⟩)(hlen:l'.length=l.length)(hl:Nat.ble l.length 1000=true)(hr:rD l' h' s Q):rD l h s Q:=by
 obtain⟨hr⟩:=hr;refine⟨fun cx L F aT w hh hv=>?_⟩;have FM:aT.length=l.length:=by simpa using hv.length
 have hl:=Nat.le_of_ble_eq_true hl;have hg:Good { cx with pρ:=L.ρ,pκ:=L.κ,base:=[] } none [] L F ⟨dy 0 l,h,s⟩ { tmps:=aT.toArray,defers:=[] } w:=by
  refine⟨⟨hh.hg,hh.iw,hh.fresh,hh.obj,hh.own,hh.inj⟩,fun t v ht=>?_,rfl,(fun b hb=>by cases hb),List.nodup_nil,(fun l hl=>by cases hl),fun _ _=>⟨rfl,rfl⟩,by simp;omega⟩;obtain⟨k,hk,LL⟩:=lg ht;rw[Nat.zero_add]at hk;subst hk;obtain⟨x,hx,sw⟩:=hv.get t LL;exact⟨x,by simpa using hx,sw⟩
 obtain⟨L1,F1,eo,tr⟩:=hw _ _ _ _ _ _ _ hg;have Vi:aq cx.yv L1 F1 w l' aT:=by
  refine aq.of (by omega) fun k v hk=>?_;obtain⟨x,hx,sw⟩:=eo.env k v (by simpa using xY l' 0 k v hk);exact⟨x,by simpa using hx,sw⟩
 have Ln:aZ cx L1 F1 h' s w:=⟨eo.heap.hg,eo.heap.iw,eo.heap.fresh,eo.heap.obj,eo.heap.own,eo.heap.inj⟩;obtain⟨v,h2,L2,F2,q1,q2,q3,q4,q5⟩:=hr cx L1 F1 aT w Ln Vi;refine⟨v,h2,L2,F2,q1,q2,q3,Tr.trans tr q4,fun i hi=>?_⟩;obtain⟨p1,p2⟩:=q5 i hi;obtain⟨p3,p4⟩:=eo.jy i hi;exact⟨p1.trans p3,p2.trans p4⟩
theorem oB(ids:List Nat):∀ (h:Heap) (i:Nat),i∈cY (aX ids h)->i∈ids
 | [],i,hi=>by simp[aX,cY]at hi
 | (k,o)::r,i,hi=>by
  simp only[aX]at hi;split at hi
  ·rename_i hk
   simp only[cY,List.mem_cons]at hi;rcases hi with rfl|hi
   ·exact il.1 hk
   ·exact oB ids r i hi
  ·exact oB ids r i hi
theorem Good.Dl{σ:Type}{cx:Cx σ}{r:Option Nat}{m:List Nat}{L:Loc}{F:Nat->Nat}{st:St σ}{a:Act}{w:World}(hg:Good cx r m L F st a w){h:Heap}(ji:dB h st.heap)(n:Nat) :
  ∃ F1,Good cx r m L F1 (aR st (sQ (cY h))) a w/\Tr F w F1 w /\ ∀ args aT,aq cx.yv L F w args aT->aq cx.yv L F1 w (ia (ek h n) args) aT:=by
 have gh:aZ cx L F h st.s w:=(hg.sub (e:=st.env) (h:=h) (fun _ _ h=>h) ji).heap;have tr:=gz gh;have uy:∀ b,cx.C st.s b->eZ L F h w b=F b:=fun b hb=>nn gh hb;have yb:∀ id o,get st.heap id=some o->id∉cY h->aV L id o->eZ L F h w (L.ρ id)=F (L.ρ id):=by
  intro id o hi hn hb;refine gb ?_;rintro ⟨j,p,hj,jx,mW⟩;have:=hg.heap.inj j id p o (ji j p hj) hi jx hb mW;subst this;exact hn (lQ hj)
 have zH:=fm gh;have pc:=oG gh n;generalize eZ L F h w=F1 at tr uy yb zH pc;rw[ga];have mP:∀ i o,get (mJ st.heap (cY h)) i=some o->i∉cY h/\get st.heap i=some o:=by
  intro i o hi;rw[j5]at hi;split at hi
  ·cases hi
  ·rename_i hn;exact⟨hn,hi⟩
 refine⟨F1,⟨⟨cx.fS hg.heap.hg tr zH fun b hb=>⟨rfl,uy b hb⟩,hg.heap.iw,zH,?_,?_,?_⟩,?_,hg.sR,hg.pg,hg.vD,hg.lk,hg.jy,hg.ud⟩,tr,fun args aT hr=>aq.gx tr pc args aT hr⟩
 ·intro i o hi
  exact cb.mono tr i o (fun _ _=>⟨rfl,rfl⟩) ⟨rfl,rfl⟩ (fun _=>rfl) (hg.heap.obj i o (mP i o hi).2)
 ·intro i o hi hb
  obtain⟨hn,h0⟩:=mP i o hi;rw[yb i o h0 hn hb];exact hg.heap.own i o h0 hb
 ·intro i j o p hi hj mq jx he
  exact hg.heap.inj i j o p (mP i o hi).2 (mP j p hj).2 mq jx he
 ·intro t v ht
  obtain⟨x,hx,hr⟩:=hg.env t v ht;exact⟨x,hx,bg.mono tr v x (fun _ _=>⟨rfl,rfl⟩) hr⟩
theorem Cf{P:Program}{f:FuncId}{ws:List Wr}(n:Nat)(ids:List Nat){e:Env}{h:Heap}{d:Option Nat}{args:List V}(ho:jR P e (mJ h ids) d f (ia (ek (aX ids h) n) args) ws) :
  jR P e h d f args (sQ (cY (aX ids h))++ws):=by
 refine⟨ho.1,fun {σ} cx yk r m L F st a w aT he hh hg N1 hr=>?_⟩;have ji:dB (aX ids h) st.heap:=fun i o hi=>hh i o (ez ids h i o hi);obtain⟨F1,eo,sy,RP⟩:=hg.Dl ji n;rw[lz];refine(ho.2 cx yk r m L F1 (aR st (sQ (cY (aX ids h)))) a w aT (by rw[ga];exact he) (fun i o hi=>?_) eo N1 (RP _ _ hr)).mono ?_
 ·rw[ga]
  rw[j5]at hi;split at hi
  ·cases hi
  ·rename_i hn
   show get (mJ st.heap (cY (aX ids h))) i=some o;rw[j5,if_neg fun hm=>hn (oB ids h i hm)];exact hh i o hi
 ·rintro en w' ⟨x,rfl,L',F',dp,mV⟩
  exact⟨x,rfl,L',F',dp,Tr.trans sy mV⟩
theorem qY{P:Program}{f:FuncId}(n:Nat)(ids:List Nat){e:Env}{h:Heap}{d:Option Nat}{args:List V}{K:List Wr->Prop}
  (hk:ef P e (mJ h ids) d f (ia (ek (aX ids h) n) args) fun ws=>K (sQ (cY (aX ids h))++ws)):ef P e h d f args K:=by
 obtain⟨ws,h1,h2⟩:=hk;exact⟨_,h1,Cf n ids h2⟩
theorem sC{P:Program}{f:FuncId}{e:Env}{h:Heap}{d:Option Nat}{args args':List V}{K:List Wr->Prop}(hr:∀ (yv:Option Nat) (L:Loc) (F:Nat->Nat) (w:World) (l:List Value),aq yv L F w args l->aq yv L F w args' l)
  (hk:ef P e h d f args' K):ef P e h d f args K:=by
 obtain⟨ws,h1,h2⟩:=hk;exact⟨ws,h1,h2.1,fun {σ} cx yk r m L F st a w aT he hh hg N1 hv=>h2.2 cx yk r m L F st a w aT he hh hg N1 (hr _ _ _ _ _ hv)⟩
theorem GZ{yv:Option Nat}{L:Loc}{F:Nat->Nat}{w:World}{g:Nat->Option DO}{id sz n:Nat}{d:D}{x:Value}(h:bg yv L F w (gx g (.sl id sz 0 n)) x)(hv:dA g (.sl id sz 0 n)=some d):bM F w d x:=by
 rw[H2 hv]at h;exact h
end Go.PX
namespace Go.PX
open Go.RowKit
def L9(P:Program)(t:TypeId)(name:String)(g:FuncId):Bool:=
 match P.info? t,P.underlying t with
 | some i,some d=>(match d with
  | .pointer _=>false
  | _=>true)&&(match i.methods.find? (·.name ==name) with
  | some m=>m.path.isEmpty&&(match m.func with
   | some (g',false)=>g' ==g
   | _=>false)
  | none=>false)
 | _,_=>false
theorem OC{P:Program}{t:TypeId}{name:String}{g:FuncId}(h:L9 P t name g=true)(v:Value)(w:World):(method (P.types.size+Made.depth) t v name).run P w = .ok (g,v) w:=by
 unfold L9 at h;split at h;case h_2=>cases h
 rename_i i d hi hd;rw[Bool.and_eq_true]at h;obtain⟨hp,h⟩:=h;split at h;case h_2=>cases h
 rename_i m hm;rw[Bool.and_eq_true]at h;obtain⟨U3,h⟩:=h;split at h;case h_2=>cases h
 rename_i g' hf;have:g'=g:=by simpa using h
 subst this;obtain⟨n,hn⟩:∃ n,P.types.size+Made.depth=n+1:=⟨P.types.size+99,rfl⟩;have ua:m.path.toList = []:=by
  have:m.path = #[]:=by simpa using U3
  rw[this]
 rw[hn,method];have h1:(typeInfo t).run P w = .ok i w:=by simp[typeInfo,hi]
 have hu:(underlying t).run P w = .ok d w:=run_underlying hd w;simp only[Sem.run_bind,h1,Result.andThen_ok,hm,ua,follow,Sem.run_pure,hf];cases d<;>first|(simp at hp;done)|simp[receiverAt,hu,Sem.run_bind,Place.get]
theorem E3{P:Program}{t:TypeId}{name:String}{K:FuncId->Prop}(g:FuncId)(h:L9 P t name g=true)(hk:K g):J9 P t name K:=⟨g,OC h,hk⟩
end Go.PX
namespace Go.PX.PG
variable {α : Type}
structure Step(α:Type) where
 a:α
 b:α
 w:Int
def Qu(es:List (Step α))(t:α->Int):Prop:=∀ e∈es,t e.b<=t e.a+e.w
inductive gA(es:List (Step α)):α->α->Nat->Int->Prop
 | nil (a:α):gA es a a 0 0
 | snoc {a b:α} {n:Nat} {x:Int} (h:gA es a b n x) (e:Step α) (he:e∈es) (hb:e.a=b):gA es a e.b (n+1) (x+e.w)
theorem gA.SW{es:List (Step α)}{t:α->Int}(ht:Qu es t){a b:α}{n:Nat}{x:Int}(h:gA es a b n x):t b<=t a+x:=by
 induction h with
 | nil=>omega
 | snoc h e he hb ih=>
  have:=ht e he;rw[hb]at this;omega
theorem gA.trans{es:List (Step α)}{a b:α}{n:Nat}{x:Int}(h:gA es a b n x){c:α}{m:Nat}{y:Int}(k:gA es b c m y):gA es a c (n+m) (x+y):=by
 induction k with
 | nil=>simpa using h
 | snoc k e he hb ih=>
  have:=gA.snoc ih e he hb;rw[Int.add_assoc]at this;exact this
theorem gA.one{es:List (Step α)}{e:Step α}(he:e∈es):gA es e.a e.b 1 e.w:=by
 have:=gA.snoc (gA.nil (es:=es) e.a) e he rfl;simpa using this
structure zA(es:List (Step α))(a:α)(l:α->Option Int):Prop where
 walk:∀ v x,l v=some x -> ∃ n,gA es a v n x
 fix:∀ e∈es,∀ x,l e.a=some x -> ∃ y,l e.b=some y/\y<=x+e.w
 root:∃ x,l a=some x/\x<=0
theorem zA.le{es:List (Step α)}{a:α}{l:α->Option Int}(h:zA es a l){b:α}{n:Nat}{x:Int}(k:gA es a b n x):∃ y,l b=some y/\y<=x:=by
 induction k with
 | nil=>exact h.root
 | snoc k e he hb ih=>
  obtain⟨y,h1,h2⟩:=ih;rw[<- hb]at h1;obtain⟨z,h3,h4⟩:=h.fix e he y h1;exact⟨z,h3,by omega⟩
theorem zA.Qm{es:List (Step α)}{a:α}{l:α->Option Int}(h:zA es a l):l a=some 0:=by
 obtain⟨x,h1,h2⟩:=h.root;obtain⟨n,hw⟩:=h.walk a x h1;obtain⟨y,h3,h4⟩:=h.le (hw.trans hw);rw[h1]at h3;cases h3;have:x=0:=by omega
 rw[h1,this]
theorem zA.SW{es:List (Step α)}{a:α}{l:α->Option Int}(h:zA es a l)(cn:∀ e∈es,∃ x,l e.a=some x):Qu es fun v=>(l v).getD 0:=by
 intro e he;obtain⟨x,hx⟩:=cn e he;obtain⟨y,hy,hle⟩:=h.fix e he x hx;simp only[hx,hy,Option.getD_some];exact hle
theorem zA.Jc{es:List (Step α)}{a:α}{l:α->Option Int}(h:zA es a l){t:α->Int}(ht:Qu es t){v:α}{x:Int}(hx:l v=some x):t v<=t a+x:=by
 obtain⟨n,hw⟩:=h.walk v x hx;exact hw.SW ht
inductive WL(es:List (Step α)):List α->Int->Prop
 | one (a:α):WL es [a] 0
 | snoc {b:α} {l:List α} {x:Int} (h:WL es (b::l) x) (e:Step α) (he:e∈es) (hb:e.a=b):WL es (e.b::b::l) (x+e.w)
theorem WL.split{es:List (Step α)}:∀ (l1:List α) {c:α} {l2:List α} {x:Int},WL es (l1++c::l2) x -> ∃ x1 x2,WL es (c::l2) x1/\WL es (l1 ++ [c]) x2/\x=x1+x2
 | [],c,l2,x,h=>⟨x,0,h,.one c,by omega⟩
 | d::l1,c,l2,x,h=>by
  cases hl:l1++c::l2 with
  | nil=>simp at hl
  | cons b r=>
   rw[List.cons_append,hl]at h
   cases h with
   | snoc h e he hb=>
    rename_i y;rw[<- hl]at h;obtain⟨x1,x2,h1,h2,h3⟩:=WL.split l1 h;refine⟨x1,x2+e.w,h1,?_,by omega⟩
    cases l1 with
    | nil=>
     simp at hl;obtain⟨rfl,_⟩:=hl;exact WL.snoc (l:=[]) h2 e he hb
    | cons b' r'=>
     simp at hl;obtain⟨rfl,_⟩:=hl;exact WL.snoc (l:=r' ++ [c]) h2 e he hb
theorem WL.join{es:List (Step α)}:∀ (l1:List α) {c:α} {l2:List α} {x1 x2:Int},WL es (c::l2) x1->WL es (l1 ++ [c]) x2->WL es (l1++c::l2) (x1+x2)
 | [],c,l2,x1,x2,h1,h2=>by
  cases h2;simpa using h1
 | d::l1,c,l2,x1,x2,h1,h2=>by
  cases hl:l1 ++ [c]with
  | nil=>simp at hl
  | cons b r=>
   rw[List.cons_append,hl]at h2
   cases h2 with
   | snoc h e he hb=>
    rename_i y;rw[<- hl]at h;have h3:=WL.join l1 h1 h
    cases l1 with
    | nil=>
     simp at hl;obtain⟨rfl,_⟩:=hl;have:=WL.snoc (l:=l2) h3 e he hb;rw[Int.add_assoc]at this;exact this
    | cons b' r'=>
     simp at hl;obtain⟨rfl,_⟩:=hl;have:=WL.snoc (l:=r'++c::l2) h3 e he hb;rw[Int.add_assoc]at this;exact this
theorem vg[DecidableEq α]:∀ {l N:List α},N.length<l.length->(∀ x∈l,x∈N) -> ∃ l1 c l2 l3,l=l1++c::(l2++c::l3)
 | [],N,h,_=>absurd h (by simp)
 | a::l,N,h,hs=>by
  by_cases ha:a∈l
  ·obtain⟨l2,l3,rfl⟩:=List.append_of_mem ha
   exact⟨[],a,l2,l3,rfl⟩
  ·have h1:(N.erase a).length<l.length:=by
    have:=List.length_erase_of_mem (hs a (by simp));simp at h;have h0:0<N.length:=List.length_pos_of_mem (hs a (by simp));omega
   obtain⟨l1,c,l2,l3,rfl⟩:=vg h1 (fun x hx=>(List.mem_erase_of_ne (by rintro rfl;exact ha hx)).2 (hs x (by simp[hx])));exact⟨a::l1,c,l2,l3,rfl⟩
theorem WL.short[DecidableEq α]{es:List (Step α)}{N:List α}(we:∀ c l x,WL es (c::(l ++ [c])) x->0<=x):∀ (k:Nat) {l:List α} {x:Int},l.length<=k->WL es l x->(∀ v∈l,v∈N) -> ∃ l' x',WL es l' x'/\l'.length<=N.length/\x'<=x/\l'.head?=l.head?/\l'.getLast?=l.getLast? /\ ∀ v∈l',v∈N
 | 0,[],x,_,h,_=>by cases h
 | k+1,l,x,hk,h,hN=>by
  by_cases hlen:l.length<=N.length
  ·exact⟨l,x,h,hlen,Int.le_refl _,rfl,rfl,hN⟩
  ·obtain⟨l1,c,l2,l3,rfl⟩:=vg (by omega) hN
   obtain⟨x1,x2,h1,h2,h3⟩:=WL.split l1 h;obtain⟨y1,y2,h4,h5,h6⟩:=WL.split (c::l2) (by simpa using h1);have h7:=we c l2 y2 (by simpa using h5);have h8:=WL.join l1 h4 h2;obtain⟨l',x',a1,a2,a3,a4,a5,a6⟩:=WL.short we k (l:=l1++c::l3) (x:=y1+x2) (by simp at hk ⊢;omega) h8 (fun v hv=>hN v (by
    rcases List.mem_append.1 hv with hv|hv
    ·simp[hv]
    ·rcases List.mem_cons.1 hv with rfl|hv
     ·simp
     ·simp[hv]))
   refine⟨l',x',a1,a2,by omega,?_,?_,a6⟩
   ·rw[a4]
    cases l1<;>simp
   ·rw[a5]
    simp[List.getLast?_append,List.getLast?_cons]
end Go.PX.PG
namespace Go.PX.PG
variable {α : Type} [DecidableEq α]
def M5(l:α->Option Int)(b:α)(x:Int):α->Option Int:=fun v=>if v=b then some x else l v
def cO(l:α->Option Int)(e:Step α):α->Option Int:=
 match l e.a with
 | none=>l
 | some n=>match l e.b with
  | none=>M5 l e.b (n+e.w)
  | some m=>if n+e.w<m then M5 l e.b (n+e.w) else l
def round(es:List (Step α))(l:α->Option Int):α->Option Int:=es.foldl cO l
def rounds(es:List (Step α)):Nat->(α->Option Int)->α->Option Int
 | 0,l=>l
 | k+1,l=>rounds es k (round es l)
def uh(l' l:α->Option Int):Prop:=∀ v x,l v=some x -> ∃ y,l' v=some y/\y<=x
theorem uh.refl(l:α->Option Int):uh l l:=fun v x h=>⟨x,h,Int.le_refl _⟩
theorem uh.trans{a b c:α->Option Int}(h:uh a b)(k:uh b c):uh a c:=fun v x hx=>by
 obtain⟨y,h1,h2⟩:=k v x hx;obtain⟨z,h3,h4⟩:=h v y h1;exact⟨z,h3,by omega⟩
theorem y0(l:α->Option Int)(e:Step α):uh (cO l e) l:=by
 unfold cO;split
 ·exact uh.refl l
 ·split
  ·intro v x hx
   rename_i h;unfold M5;split
   ·rename_i h2;subst h2;rw[hx]at h;cases h
   ·exact⟨x,hx,Int.le_refl _⟩
  ·split
   ·intro v x hx
    rename_i m hm dN;unfold M5;split
    ·rename_i h2;subst h2
     rw[hm]at hx;cases hx;exact⟨_,rfl,by omega⟩
    ·exact⟨x,hx,Int.le_refl _⟩
   ·exact uh.refl l
theorem MF(l:α->Option Int)(e:Step α){x:Int}(h:l e.a=some x):∃ y,cO l e e.b=some y/\y<=x+e.w:=by
 unfold cO;rw[h];simp only
 cases hm:l e.b with
 | none=>exact⟨_,by simp only[M5,if_pos],Int.le_refl _⟩
 | some m=>
  simp only;split
  ·exact⟨_,by simp only[M5,if_pos],Int.le_refl _⟩
  ·exact⟨m,hm,by omega⟩
theorem uu:∀ (es:List (Step α)) (l:α->Option Int),uh (es.foldl cO l) l
 | [],l=>uh.refl l
 | e::es,l=>(uu es (cO l e)).trans (y0 l e)
theorem Hh:∀ (es:List (Step α)) (l:α->Option Int) (e:Step α),e∈es -> ∀ x,l e.a=some x -> ∃ y,es.foldl cO l e.b=some y/\y<=x+e.w
 | d::es,l,e,he,x,hx=>by
  rw[List.foldl_cons];rcases List.mem_cons.1 he with rfl|he
  ·obtain⟨y,h1,h2⟩:=MF l e hx
   obtain⟨z,h3,h4⟩:=uu es (cO l e) _ _ h1;exact⟨z,h3,by omega⟩
  ·obtain⟨y,h1,h2⟩:=y0 l d _ _ hx
   obtain⟨z,h3,h4⟩:=Hh es (cO l d) e he y h1;exact⟨z,h3,by omega⟩
def u6(es:List (Step α))(a:α)(l:α->Option Int):Prop:=∀ v x,l v=some x -> ∃ n,gA es a v n x
theorem Es{es:List (Step α)}{a:α}{l:α->Option Int}(h:u6 es a l){e:Step α}(he:e∈es):u6 es a (cO l e):=by
 have key:∀ n,l e.a=some n->u6 es a (M5 l e.b (n+e.w)):=by
  intro n hn v x hx;unfold M5 at hx;split at hx
  ·rename_i h2;subst h2
   cases hx;obtain⟨k,hw⟩:=h e.a n hn;exact⟨_,gA.snoc hw e he rfl⟩
  ·exact h v x hx
 unfold cO;split
 ·exact h
 ·rename_i n hn
  split
  ·exact key n hn
  ·split
   ·exact key n hn
   ·exact h
theorem xT{es:List (Step α)}{a:α}:∀ (ds:List (Step α)) {l:α->Option Int},(∀ e∈ds,e∈es)->u6 es a l->u6 es a (ds.foldl cO l)
 | [],l,_,h=>h
 | d::ds,l,hd,h=>xT ds (fun e he=>hd e (by simp[he])) (Es h (hd d (by simp)))
theorem tO{es:List (Step α)}{a:α}:∀ (k:Nat) {l:α->Option Int},u6 es a l->u6 es a (rounds es k l)
 | 0,l,h=>h
 | k+1,l,h=>tO k (xT es (fun e he=>he) h)
theorem vN{es:List (Step α)}:∀ (k:Nat) (l:α->Option Int),uh (rounds es k l) l
 | 0,l=>uh.refl l
 | k+1,l=>(vN k (round es l)).trans (uu es l)
theorem rounds_succ(es:List (Step α)):∀ (k:Nat) (l:α->Option Int),rounds es (k+1) l=round es (rounds es k l)
 | 0,l=>rfl
 | k+1,l=>by rw[rounds,rounds_succ es k (round es l)];rfl
theorem uS{es:List (Step α)}{a:α}{l:α->Option Int}(h0:∃ x,l a=some x/\x<=0){v:α}{n:Nat}{x:Int}(hw:gA es a v n x):∀ k,n<=k -> ∃ y,rounds es k l v=some y/\y<=x:=by
 induction hw with
 | nil=>
  intro k _;obtain⟨x,h1,h2⟩:=h0;obtain⟨y,h3,h4⟩:=vN (es:=es) k l a x h1;exact⟨y,h3,by omega⟩
 | snoc h e he hb ih=>
  intro k hk;obtain⟨k,rfl⟩:∃ j,k=j+1:=⟨k-1,by omega⟩;obtain⟨y,h1,h2⟩:=ih k (by omega);rw[rounds_succ];rw[<- hb]at h1;obtain⟨z,h3,h4⟩:=Hh es _ e he y h1;exact⟨z,h3,by omega⟩
def zY(es:List (Step α)):Prop:=∀ c n x,gA es c c n x->0<=x
theorem uO{es:List (Step α)}{t:α->Int}(h:Qu es t):zY es:=fun c n x hw=>by
 have:=hw.SW h;omega
theorem WL.walk{es:List (Step α)}:∀ {l:List α} {b a:α} {x:Int},WL es (b::l) x->(b::l).getLast?=some a->gA es a b l.length x:=by
 intro l b a x h;generalize hl:b::l=m at h
 induction h generalizing b l with
 | one c=>
  intro ha;cases hl;simp at ha;subst ha;exact .nil _
 | snoc h e he hb ih=>
  rename_i b' l' x';intro ha;cases hl;have h1:=ih rfl (by simpa[List.getLast?_cons]using ha);exact gA.snoc h1 e he hb
theorem gA.wl{es:List (Step α)}{N:List α}(hN:∀ e∈es,e.a∈N/\e.b∈N){a b:α}(ha:a∈N){n:Nat}{x:Int}(h:gA es a b n x):∃ l,l.length=n/\WL es (b::l) x/\(b::l).getLast?=some a /\ ∀ v∈b::l,v∈N:=by
 induction h with
 | nil=>exact⟨[],rfl,.one _,rfl,by simpa using ha⟩
 | snoc h e he hb ih=>
  rename_i b' n' x';obtain⟨l,h1,h2,h3,h4⟩:=ih;refine⟨b'::l,by simp[h1],WL.snoc h2 e he hb,by simpa[List.getLast?_cons]using h3,fun v hv=>?_⟩;rcases List.mem_cons.1 hv with rfl|hv
  ·exact(hN e he).2
  ·exact h4 v hv
theorem gA.short{es:List (Step α)}{N:List α}(hN:∀ e∈es,e.a∈N/\e.b∈N)(mX:zY es){a b:α}(ha:a∈N){n:Nat}{x:Int}(h:gA es a b n x):∃ m y,m<N.length/\y<=x/\gA es a b m y:=by
 obtain⟨l,h1,h2,h3,h4⟩:=h.wl hN ha;have we:∀ c l x,WL es (c::(l ++ [c])) x->0<=x:=fun c l x h=>mX c _ x (h.walk (by simp[List.getLast?_cons,List.getLast?_append]));obtain⟨l',y,a1,a2,a3,a4,a5,a6⟩:=WL.short we (b::l).length (Nat.le_refl _) h2 h4
 cases l' with
 | nil=>cases a1
 | cons b' l'=>
  simp at a4;subst a4;refine⟨l'.length,y,by simp at a2;omega,a3,a1.walk (by rw[a5];exact h3)⟩
theorem Ez{es:List (Step α)}{N:List α}(hN:∀ e∈es,e.a∈N/\e.b∈N)(mX:zY es){a:α}(ha:a∈N){k:Nat}(hk:N.length<=k+1):zA es a (rounds es k fun v=>if v=a then some 0 else none):=by
 have h0:∃ x,(fun v=>if v=a then some (0:Int) else none) a=some x/\x<=0:=⟨0,by simp,Int.le_refl _⟩;have hw:u6 es a (rounds es k fun v=>if v=a then some 0 else none):=tO k (by
  intro v x hx;simp only at hx;split at hx
  ·rename_i h;subst h;cases hx;exact⟨0,.nil _⟩
  ·cases hx)
 refine⟨hw,fun e he x hx=>?_,?_⟩
 ·obtain⟨n,h1⟩:=hw e.a x hx
  obtain⟨m,y,h2,h3,h4⟩:=(gA.snoc h1 e he rfl).short hN mX ha;have h7:=uS (es:=es) (a:=a) (l:=fun v=>if v=a then some 0 else none) h0 h4 k;obtain⟨z,h5,h6⟩:=h7 (by omega);exact⟨z,h5,by omega⟩
 ·have h7:=uS (es:=es) (a:=a) (l:=fun v=>if v=a then some 0 else none) h0 (.nil a) k
  exact h7 (by omega)
end Go.PX.PG
namespace Go.PX.PG
def aaN(never x y z:Int):Int:=if x<never/\y<never then min z (x+y) else z
abbrev Tb:=Nat->Nat->Int
def aaM(t:Tb)(i j:Nat)(x:Int):Tb:=fun a b=>if a=i/\b=j then x else t a b
def stepT(never:Int)(t:Tb)(i k j:Nat):Tb:=aaM t i j (aaN never (t i k) (t k j) (t i j))
def nJ(never:Int)(n:Nat)(t:Tb)(i k:Nat):Tb:=(List.range n).foldl (fun t j=>stepT never t i k j) t
end Go.PX.PG
