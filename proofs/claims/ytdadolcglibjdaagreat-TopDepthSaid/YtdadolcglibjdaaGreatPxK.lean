import Derived.Test.YtdadolcglibjdaaGreatPxJ
import Derived.Test.YtdadolcglibjdaaGreatPxI
import Derived.Laws.RangeString
set_option linter.all false
set_option maxRecDepth 10000
namespace Go.PX
open Go.Proofs
theorem tK(s:Span)(lo hi:Int):aX Tryz.prog 18 [s.d,i64 lo,i64 hi] (i64 (spread lo hi [s] 0)):=by
 refine aB Tryz.func18 rfl (ft:=T0) 3 fun {σ} Y st=>?_;conv=>whnf
 refine ak (GA [s] lo hi (by simp)) rfl 1 rfl ?_;conv=>whnf
 exact ae
theorem Kc{a b:Span}:a=b↔a.lo=b.lo/\a.hi=b.hi:=by cases a;cases b;simp
theorem OJ(a b:List Span)(ha:a.length<1000000):aX Tryz.prog 34 [cw a,cw b] (.bool (decide (a=b))):=by
 refine aB Tryz.func34 rfl (ft:=Ug) 2 fun {σ} Y st=>?_;conv=>whnf
 refine ag (fun h0=>?_) (fun h0=>?_)
 ·have h0:a.length≠b.length:=by
   intro e;simp[e]at h0
  conv=>whnf
  rw[decide_eq_false (by rintro rfl;exact h0 rfl)];exact ae
 ·have h0:a.length=b.length:=by
   have:=h0;simp at this;omega
  conv=>whnf
  refine bP (T:=tys) ao (by exact ai mixed ao (by decide +kernel)) (α:=Nat)
   (fun i=>⟨[(0,.d (cw a)),(1,.d (cw b)),(5,.d (i64 i))],[],st⟩) (fun i=>i<=a.length/\a.take i=b.take i) (fun i=>a.length-i) 0
   aI (by simp) ?_
  rintro i ⟨hi,he⟩;conv=>whnf
  refine ag (fun hc=>?_) (fun hc=>?_)
  ·have hc:i<a.length:=by simpa using hc
   have sj:i<b.length:=by omega
   conv=>whnf
   refine bY a[i].cells (by simp[hc]) ?_;conv=>whnf
   refine bY b[i].cells (by simp[sj]) ?_;conv=>whnf
   refine ag (fun h1=>?_) (fun h1=>?_)
   ·conv=>whnf
    have h1:a[i]≠b[i]:=by
     intro e;rw[e]at h1;simp at h1
    rw[decide_eq_false (by rintro rfl;exact h1 rfl)];exact ae
   ·have h1:a[i]=b[i]:=by
     rw[Kc];simp at h1;exact h1
    conv=>whnf
    refine af ?_;conv=>whnf
    exact⟨i+1,by omega,⟨hc,by rw[List.take_succ_eq_append_getElem hc,List.take_succ_eq_append_getElem sj,he,h1]⟩,Wk.sub ⟨rfl,rfl,rfl,trivial⟩ trivial⟩
  ·have hc:¬ i<a.length:=by simpa using hc
   conv=>whnf
   rw[List.take_of_length_le (by omega),List.take_of_length_le (by omega)]at he;rw[decide_eq_true he];exact ae
def ik(set:Int):Option Int->List cT->Int
 | _,[]=>0
 | last,g::r=>if a6 g.day set 40000&&a6 g.shown 0 60000 then (if (match last with
   | some d=>decide (g.day<d)
   | none=>false) then 2 else ik set (some g.day) r) else 7
theorem y8(set:Int)(last:Option Int)(g:cT)(r:List cT):ik set last (g::r)=if a6 g.day set 40000&&a6 g.shown 0 60000 then (if (match last with
   | some d=>decide (g.day<d)
   | none=>false) then 2 else ik set (some g.day) r) else 7:=rfl
def oW(gs:List cT):Nat->Option Int
 | 0=>none
 | i+1=>(gs[i]?).map (·.day)
theorem OF(s:bK):aX Tryz.prog 107 [s.d] (i64 (if 6<s.aY.length then 3 else ik s.set none s.aY)):=by
 refine aB Tryz.func107 rfl (ft:=O7) 1 fun {σ} Y st=>?_;conv=>whnf
 refine ag (fun h0=>?_) (fun h0=>?_)
 ·have h0:6<s.aY.length:=by
   have:=h0;simp at this;omega
  conv=>whnf
  rw[if_pos h0];exact ae
 ·have h0:¬ 6<s.aY.length:=by
   have:=h0;simp at this;omega
  conv=>whnf
  rw[if_neg h0];refine bP (T:=tys) ao (by exact ai mixed ao (by decide +kernel)) (α:=Nat)
   (fun i=>⟨[(1,.ptr 1 0),(3,.d (i64 i))],[(1,.box (.dd s.cells))],st⟩) (fun i=>i<=s.aY.length/\ik s.set none s.aY=ik s.set (oW s.aY i) (s.aY.drop i)) (fun i=>s.aY.length-i) 0
   aI (by simp[oW]) ?_
  rintro i ⟨hi,he⟩;conv=>whnf
  refine ag (fun hc=>?_) (fun hc=>?_)
  ·have hc:i<s.aY.length:=by simpa using hc
   obtain⟨g,hg⟩:∃ g,s.aY[i]?=some g:=⟨_,List.getElem?_eq_getElem hc⟩;have hd:s.aY.drop i=g::s.aY.drop (i+1):=by
    rw[List.drop_eq_getElem_cons hc];rw[List.getElem?_eq_getElem hc]at hg;rw[Option.some.inj hg]
   rw[hd,y8]at he;conv=>whnf
   refine bY g.cells (by simp[hg]) ?_;conv=>whnf
   refine ah (jR _ _ _) rfl rfl ?_;conv=>whnf
   refine ag (fun h1=>?_) (fun h1=>?_)
   ·conv=>whnf
    rw[if_neg (by simp at h1;simp[h1])]at he;rw[he];exact ae
   ·conv=>whnf
    refine ah (jR _ _ _) rfl rfl ?_;conv=>whnf
    refine ag (fun h2=>?_) (fun h2=>?_)
    ·conv=>whnf
     rw[if_neg (by simp at h2;simp[h2])]at he;rw[he];exact ae
    ·conv=>whnf
     rw[if_pos (by simp at h1 h2;simp[h1,h2])]at he;refine ag (fun h3=>?_) (fun h3=>?_)
     ·have h3:0<i:=by
       have:=h3;simp at this;omega
      obtain⟨j,rfl⟩:∃ j,i=j+1:=⟨i-1,by omega⟩;obtain⟨p,hp⟩:∃ p,s.aY[j]?=some p:=⟨_,List.getElem?_eq_getElem (by omega)⟩;simp only[oW,hp,Option.map_some]at he;conv=>whnf
      refine af ?_;conv=>whnf
      refine bY p.cells ⟨by omega,by rw[show((((j+1:Nat):Int)-1).toNat)=j by omega];simp[hp]⟩ ?_;conv=>whnf
      refine ag (fun h4=>?_) (fun h4=>?_)
      ·conv=>whnf
       rw[if_pos h4]at he;rw[he];exact ae
      ·conv=>whnf
       rw[if_neg (by rw[h4];simp)]at he;refine af ?_;conv=>whnf
       exact⟨j+1+1,by omega,⟨hc,by rw[he];simp only[oW,hg,Option.map_some]⟩,Wk.sub ⟨rfl,rfl,trivial⟩ ⟨rfl,trivial⟩⟩
     ·have h3:i=0:=by
       have:=h3;simp at this;omega
      subst h3;simp only[oW,Bool.false_eq_true,if_false]at he;conv=>whnf
      refine af ?_;conv=>whnf
      exact⟨0+1,by omega,⟨hc,by rw[he];simp only[oW,hg,Option.map_some]⟩,Wk.sub ⟨rfl,rfl,trivial⟩ ⟨rfl,trivial⟩⟩
  ·have hc:¬ i<s.aY.length:=by simpa using hc
   conv=>whnf
   rw[List.drop_of_length_le (by omega)]at he;rw[he];exact ae
def wa(s:bK):Int:=
 if a6 s.ff 1 40&&a6 s.set 0 40000 && !decide (spread 1 60000 [s.new] 0=7) && !decide (spread 0 20 [s.wear] 0=7) then
  (if decide (spread 1 60000 [s.new] 0=0)&&decide (spread 0 20 [s.wear] 0=0) then (if 6<s.aY.length then 3 else ik s.set none s.aY) else 2)
 else 7
theorem TN(s:bK):aX Tryz.prog 66 [s.d] (i64 (wa s)):=by
 refine aB Tryz.func66 rfl (ft:=UJ) 1 fun {σ} Y st=>?_;conv=>whnf
 refine al (ds:=[s.new.d,i64 1,i64 60000]) (tK s.new 1 60000) rfl rfl ?_;conv=>whnf
 refine al (ds:=[s.wear.d,i64 0,i64 20]) (tK s.wear 0 20) rfl rfl ?_;conv=>whnf
 unfold wa;generalize spread 1 60000 [s.new] 0=a;generalize spread 0 20 [s.wear] 0=b;refine ah (ds:=[i64 s.ff,i64 1,i64 40]) (jR _ _ _) rfl rfl ?_;conv=>whnf
 have seven:∀ {c:Bool},c=false -> ∀ {x:Int},(if c=true then x else 7)=7:=by
  intro c hc x;rw[hc];rfl
 have IU:∀ {c:Bool} {x:Int} {h:aq},c=false->pj [V.d (i64 7)] h st fun v h' s'=>(v=V.d (i64 (if c=true then x else 7))/\h' = [])/\s'=st:=by
  intro c x h hc;rw[seven hc];exact ae
 refine ag (fun h1=>?_) (fun h1=>?_)
 ·conv=>whnf
  exact IU (by simp at h1;simp[h1])
 ·conv=>whnf
  refine ah (ds:=[i64 s.set,i64 0,i64 40000]) (jR _ _ _) rfl rfl ?_;conv=>whnf
  refine ag (fun h2=>?_) (fun h2=>?_)
  ·conv=>whnf
   exact IU (by simp at h2;simp[h2])
  ·conv=>whnf
   refine ag (fun h3=>?_) (fun h3=>?_)
   ·conv=>whnf
    exact IU (by simp at h3;simp[h3])
   ·conv=>whnf
    refine ag (fun h4=>?_) (fun h4=>?_)
    ·conv=>whnf
     exact IU (by simp at h4;simp[h4])
    ·conv=>whnf
     have hc:(a6 s.ff 1 40&&a6 s.set 0 40000 && !decide (a=7) && !decide (b=7))=true:=by
      simp at h1 h2 h3 h4;simp[h1,h2,h3,h4]
     rw[if_pos hc];refine ag (fun h5=>?_) (fun h5=>?_)
     ·conv=>whnf
      rw[if_neg (by simp at h5;simp[h5])];exact ae
     ·conv=>whnf
      refine ag (fun h6=>?_) (fun h6=>?_)
      ·conv=>whnf
       rw[if_neg (by simp at h6;simp[h6])];exact ae
      ·conv=>whnf
       rw[if_pos (by simp at h5 h6;simp[h5,h6])];refine ah (ds:=[s.d]) (OF s) rfl rfl ?_;conv=>whnf
       exact ae
def BN(l:List ByteArray):D:=.vs (l.map fun s=>[.str s])
theorem OE(l:List ByteArray)(x:ByteArray)(hl:l.length<1000000):aX Tryz.prog 64 [BN l,.str x] (i64 (indexOf (fun y=>decide (y=x)) l 0)):=by
 refine aB Tryz.func64 rfl (ft:=UH) 2 fun {σ} Y st=>?_;conv=>whnf
 refine bP (T:=tys) ao (by exact ai mixed ao (by decide +kernel)) (α:=Nat)
  (fun i=>⟨[(0,.d (BN l)),(1,.d (.str x)),(5,.d (i64 i))],[],st⟩) (fun i=>i<=l.length/\indexOf (fun y=>decide (y=x)) l 0=indexOf (fun y=>decide (y=x)) (l.drop i) i) (fun i=>l.length-i) 0
  aI (by simp) ?_
 rintro i ⟨hi,he⟩;conv=>whnf
 refine ag (fun hb=>?_) (fun hb=>?_)
 ·have hb:i<l.length:=by simpa using hb
  have hd:l.drop i=l[i]::l.drop (i+1):=List.drop_eq_getElem_cons hb;rw[hd,indexOf]at he;conv=>whnf
  refine bY [.str l[i]] (by simp[hb]) ?_;conv=>whnf
  refine ag (fun h1=>?_) (fun h1=>?_)
  ·conv=>whnf
   rw[if_pos h1]at he;rw[he];exact ae
  ·conv=>whnf
   rw[if_neg (by rw[h1];simp)]at he;refine af ?_;conv=>whnf
   exact⟨i+1,by omega,⟨hb,by rw[he];rfl⟩,Wk.sub ⟨rfl,rfl,rfl,trivial⟩ trivial⟩
 ·have hb:¬ i<l.length:=by simpa using hb
  conv=>whnf
  rw[List.drop_of_length_le (by omega)]at he;rw[he];exact ae
theorem ij(lo hi:Int):aX Tryz.prog 47 [i64 lo,i64 hi] (Span.d ⟨lo,hi⟩):=by
 refine aB Tryz.func47 rfl (ft:=Us) 2 fun {σ} Y st=>?_;conv=>whnf
 exact ae
def qt(b:List UInt8)(i:Nat)(c:UInt8):Bool:=
 (decide (97<=c.toNat)&&decide (c.toNat<=122))||(decide (c.toNat=45)&&decide (i≠0)&&decide (i+1≠b.length)&&(match b[i-1]? with
  | some p=>decide (p.toNat≠45)
  | none=>false))
def l4(b:List UInt8):Nat->List UInt8->Bool
 | _,[]=>true
 | i,c::r=>qt b i c&&l4 b (i+1) r
def eP(s:ByteArray):Bool:=a6 s.size 1 14&&l4 s.data.toList 0 s.data.toList
theorem OD(s:ByteArray):aX Tryz.prog 63 [.str s] (.bool (eP s)):=by
 refine aB Tryz.func63 rfl (ft:=UG) 1 fun {σ} Y st=>?_;have cY:s.size=s.data.toList.length:=by simp
 conv=>whnf
 refine ah (ds:=[i64 s.size,i64 1,i64 14]) (nS _ _ _) rfl rfl ?_;conv=>whnf
 refine ag (fun h0=>?_) (fun h0=>?_)
 ·conv=>whnf
  have:eP s=false:=by simp at h0;simp[eP,h0]
  rw[this];exact ae
 ·have h0:a6 s.size 1 14=true:=by simpa using h0
  have hlen:s.data.toList.length<=14:=by
   simp only[a6,Bool.and_eq_true,decide_eq_true_eq]at h0;omega
  have hn:eP s=l4 s.data.toList 0 s.data.toList:=by simp[eP,h0]
  rw[hn];conv=>whnf
  refine bP (T:=tys) ao (by exact ai mixed ao (by decide +kernel)) (α:=Nat)
   (fun i=>⟨[(0,.d (.str s)),(3,.d (i64 i))],[],st⟩) (fun i=>i<=s.data.toList.length/\l4 s.data.toList 0 s.data.toList=l4 s.data.toList i (s.data.toList.drop i)) (fun i=>s.data.toList.length-i) 0
   aI (by simp) ?_
  rintro i ⟨hi,he⟩;conv=>whnf
  refine ag (fun hc=>?_) (fun hc=>?_)
  ·have hc:i<s.data.toList.length:=by
    have:=of_decide_eq_true hc;omega
   obtain⟨c,Jb⟩:∃ c,s.data.toList[i]?=some c:=⟨_,List.getElem?_eq_getElem hc⟩;have hd:s.data.toList.drop i=c::s.data.toList.drop (i+1):=by
    rw[List.drop_eq_getElem_cons hc];rw[List.getElem?_eq_getElem hc]at Jb;rw[Option.some.inj Jb]
   rw[hd,l4]at he;have bad:qt s.data.toList i c=false->pj [V.d (.bool false)] [] st fun v h' s'=>(v=V.d (.bool (l4 s.data.toList 0 s.data.toList))/\h' = [])/\s'=st:=by
    intro hb;rw[he,hb];exact ae
   have Md:qt s.data.toList i c=true -> ∀ {dm:St σ},Wk dm ⟨[(0,.d (.str s)),(3,.d (i64 ((i:Int)+1)))],[],st⟩ -> ∃ y,s.data.toList.length-y<s.data.toList.length-i/\(y<=s.data.toList.length/\l4 s.data.toList 0 s.data.toList=l4 s.data.toList y (s.data.toList.drop y)) /\
     Wk dm ⟨[(0,.d (.str s)),(3,.d (i64 (y:Nat)))],[],st⟩:=by
    intro hb dm hw;exact⟨i+1,by omega,⟨hc,by rw[he,hb];rfl⟩,by simpa using hw⟩
   conv=>whnf
   refine cR c (by simpa using Jb) ?_;conv=>whnf
   refine ag (fun h1=>?_) (fun h1=>?_)
   ·have h1:97<=c.toNat:=by
     have:=of_decide_eq_true h1;omega
    conv=>whnf
    refine cR c (by simpa using Jb) ?_;conv=>whnf
    refine ag (fun h2=>?_) (fun h2=>?_)
    ·have h2:c.toNat<=122:=by
      have:=of_decide_eq_true h2;omega
     conv=>whnf
     refine af ?_;conv=>whnf
     exact Md (by simp[qt,h1,h2]) aI
    ·have h2:¬ c.toNat<=122:=by
      have:=of_decide_eq_false h2;omega
     conv=>whnf
     refine cR c (by simpa using Jb) ?_;conv=>whnf
     refine ag (fun k1=>?_) (fun k1=>?_)
     ·have k1:c.toNat≠45:=by
       have:=k1;simp at this;omega
      conv=>whnf
      exact bad (by simp[qt,k1];omega)
     ·have k1:c.toNat=45:=by
       have:=k1;simp at this;omega
      conv=>whnf
      refine ag (fun k2=>?_) (fun k2=>?_)
      ·have k2:i=0:=by
        have:=of_decide_eq_true k2;omega
       conv=>whnf
       exact bad (by simp[qt,k1,k2])
      ·have k2:i≠0:=by
        have:=of_decide_eq_false k2;omega
       conv=>whnf
       refine af ?_;conv=>whnf
       refine ag (fun k3=>?_) (fun k3=>?_)
       ·have k3:i+1=s.data.toList.length:=by
         have:=of_decide_eq_true k3;omega
        conv=>whnf
        exact bad (by simp only[qt,k1,k3];simp)
       ·have k3:i+1≠s.data.toList.length:=by
         have:=of_decide_eq_false k3;omega
        obtain⟨p,hp⟩:∃ p,s.data.toList[i-1]?=some p:=⟨_,List.getElem?_eq_getElem (by omega)⟩;conv=>whnf
        refine af ?_;conv=>whnf
        refine bc (by simp;omega) ?_;conv=>whnf
        refine cR p (by rw[show((i:Int)-1).toNat=i-1 by omega];exact hp) ?_;conv=>whnf
        refine ag (fun k4=>?_) (fun k4=>?_)
        ·have k4:p.toNat=45:=by
          have:=of_decide_eq_true k4;omega
         conv=>whnf
         exact bad (by simp only[qt,hp,k4,k1];simp)
        ·have k4:p.toNat≠45:=by
          have:=of_decide_eq_false k4;omega
         conv=>whnf
         refine af ?_;conv=>whnf
         exact Md (by simp only[qt,hp,k1];simp[k2,k4];omega) aI
   ·have h1:¬ 97<=c.toNat:=by
     have:=of_decide_eq_false h1;omega
    conv=>whnf
    refine cR c (by simpa using Jb) ?_;conv=>whnf
    refine ag (fun k1=>?_) (fun k1=>?_)
    ·have k1:c.toNat≠45:=by
      have:=k1;simp at this;omega
     conv=>whnf
     exact bad (by simp[qt,k1];omega)
    ·have k1:c.toNat=45:=by
      have:=k1;simp at this;omega
     conv=>whnf
     refine ag (fun k2=>?_) (fun k2=>?_)
     ·have k2:i=0:=by
       have:=of_decide_eq_true k2;omega
      conv=>whnf
      exact bad (by simp[qt,k1,k2])
     ·have k2:i≠0:=by
       have:=of_decide_eq_false k2;omega
      conv=>whnf
      refine af ?_;conv=>whnf
      refine ag (fun k3=>?_) (fun k3=>?_)
      ·have k3:i+1=s.data.toList.length:=by
        have:=of_decide_eq_true k3;omega
       conv=>whnf
       exact bad (by simp only[qt,k1,k3];simp)
      ·have k3:i+1≠s.data.toList.length:=by
        have:=of_decide_eq_false k3;omega
       obtain⟨p,hp⟩:∃ p,s.data.toList[i-1]?=some p:=⟨_,List.getElem?_eq_getElem (by omega)⟩;conv=>whnf
       refine af ?_;conv=>whnf
       refine bc (by simp;omega) ?_;conv=>whnf
       refine cR p (by rw[show((i:Int)-1).toNat=i-1 by omega];exact hp) ?_;conv=>whnf
       refine ag (fun k4=>?_) (fun k4=>?_)
       ·have k4:p.toNat=45:=by
         have:=of_decide_eq_true k4;omega
        conv=>whnf
        exact bad (by simp only[qt,hp,k4,k1];simp)
       ·have k4:p.toNat≠45:=by
         have:=of_decide_eq_false k4;omega
        conv=>whnf
        refine af ?_;conv=>whnf
        exact Md (by simp only[qt,hp,k1];simp[k2,k4];omega) aI
  ·have hc:¬ i<s.data.toList.length:=by
    have:=of_decide_eq_false hc;omega
   conv=>whnf
   rw[List.drop_of_length_le (by omega)]at he;rw[he];exact ae
def dM(x:ByteArray)(before:List ByteArray):Int:=
 if eP x then (if before.any fun y=>decide (y=x) then 5 else 0) else 6
theorem I1(x:ByteArray)(l:List ByteArray)(hl:l.length<1000000):aX Tryz.prog 17 [.str x,BN l] (i64 (dM x l)):=by
 refine aB Tryz.func17 rfl (ft:=TZ) 2 fun {σ} Y st=>?_;conv=>whnf
 refine ah (ds:=[.str x]) (OD x) rfl rfl ?_;conv=>whnf
 refine ag (fun h1=>?_) (fun h1=>?_)
 ·have h1:eP x=false:=by simpa using h1
  conv=>whnf
  simp only[dM,h1];exact ae
 ·have h1:eP x=true:=by simpa using h1
  conv=>whnf
  refine ah (ds:=[BN l,.str x]) (OE l x hl) rfl rfl ?_;conv=>whnf
  have wI:=eO (fun y=>decide (y=x)) l 0 (by omega);refine ag (fun h2=>?_) (fun h2=>?_)
  ·have h2:(l.any fun y=>decide (y=x))=true:=by rw[<- wI];exact h2
   conv=>whnf
   simp only[dM,h1,h2];exact ae
  ·have h2:(l.any fun y=>decide (y=x))=false:=by rw[<- wI];exact h2
   conv=>whnf
   simp only[dM,h1,h2];exact ae
structure bB where
 depth:Span
 bf:Span
 current:Span
 aW:Span
def bB.cells(w:bB):List D:=[i64 w.depth.lo,i64 w.depth.hi,i64 w.bf.lo,i64 w.bf.hi,i64 w.current.lo,i64 w.current.hi,i64 w.aW.lo,i64 w.aW.hi]
def bB.d(w:bB):D:=.agg w.cells
def mc:List Int->Int->Int
 | [],e=>e
 | x::r,e=>if x=7 then 7 else mc r (if x≠0 then x else e)
def oH(w:bB):List Int:=[spread 1 1000 [w.depth] 0,spread 0 80 [w.bf] 0,spread 0 80 [w.current] 0,spread 0 150 [w.aW] 0]
def mb(w:bB):Int:=mc (oH w) 0
theorem TC(w:bB):aX Tryz.prog 23 [w.d] (i64 (mb w)):=by
 refine aB Tryz.func23 rfl (ft:=T5) 1 fun {σ} Y st=>?_;conv=>whnf
 refine al (ds:=[w.depth.d,i64 1,i64 1000]) (tK _ _ _) rfl rfl ?_;conv=>whnf
 refine al (ds:=[w.bf.d,i64 0,i64 80]) (tK _ _ _) rfl rfl ?_;conv=>whnf
 refine al (ds:=[w.current.d,i64 0,i64 80]) (tK _ _ _) rfl rfl ?_;conv=>whnf
 refine al (ds:=[w.aW.d,i64 0,i64 150]) (tK _ _ _) rfl rfl ?_;conv=>whnf
 unfold mb;obtain⟨l,hl⟩:∃ l,l=oH w:=⟨_,rfl⟩;have hlen:l.length=4:=by rw[hl];rfl
 rw[<- hl];refine bP (T:=tys) ao (by exact ai mixed ao (by decide +kernel)) (α:=Nat×Int)
  (fun x=>⟨[(3,.sl 18 1 0 4),(4,.d (i64 x.2)),(5,.d (i64 x.1))],[(18,.arr 1 (.dd (l.map fun n=>[i64 n])))],st⟩) (fun x=>x.1<=l.length/\mc l 0=mc (l.drop x.1) x.2) (fun x=>l.length-x.1) (0,0)
  (by rw[hl];exact Wk.sub ⟨rfl,rfl,rfl,trivial⟩ ⟨rfl,trivial⟩) (by simp) ?_
 rintro ⟨i,e⟩ ⟨hi,he⟩;simp only at hi he;conv=>whnf
 refine ag (fun hb=>?_) (fun hb=>?_)
 ·have hb:i<l.length:=by
   have:=of_decide_eq_true hb;simp at this;omega
  have hd:l.drop i=l[i]::l.drop (i+1):=List.drop_eq_getElem_cons hb;rw[hd,mc]at he;conv=>whnf
  refine bc (by simp;omega) ?_;conv=>whnf
  refine cR [i64 l[i]] (by simp[hb]) ?_;conv=>whnf
  refine ag (fun h1=>?_) (fun h1=>?_)
  ·have h1:l[i]=7:=of_decide_eq_true h1
   conv=>whnf
   refine bc (by simp;omega) ?_;conv=>whnf
   refine cR [i64 l[i]] (by simp[hb]) ?_;conv=>whnf
   rw[if_pos h1]at he;rw[he,h1];exact ae
  ·have h1:l[i]≠7:=of_decide_eq_false h1
   rw[if_neg h1]at he;conv=>whnf
   refine bc (by simp;omega) ?_;conv=>whnf
   refine cR [i64 l[i]] (by simp[hb]) ?_;conv=>whnf
   refine ag (fun h2=>?_) (fun h2=>?_)
   ·have h2:l[i]≠0:=by
     intro e;rw[e]at h2;simp at h2
    rw[if_pos h2]at he;conv=>whnf
    refine bc (by simp;omega) ?_;conv=>whnf
    refine cR [i64 l[i]] (by simp[hb]) ?_;conv=>whnf
    refine af ?_;conv=>whnf
    exact⟨(i+1,l[i]),by simp only;omega,⟨hb,he⟩,Wk.sub ⟨rfl,rfl,rfl,trivial⟩ ⟨rfl,trivial⟩⟩
   ·have h2:l[i]=0:=by
     have:=h2;simp at this;exact this
    rw[if_neg (by simp[h2])]at he;conv=>whnf
    refine af ?_;conv=>whnf
    exact⟨(i+1,e),by simp only;omega,⟨hb,he⟩,Wk.sub ⟨rfl,rfl,rfl,trivial⟩ ⟨rfl,trivial⟩⟩
 ·have hb:¬ i<l.length:=by
   have:=of_decide_eq_false hb;simp at this;omega
  conv=>whnf
  rw[List.drop_of_length_le (by omega)]at he;rw[he];exact ae
structure r4 where
 bf:Int
 current:Int
 aW:Int
 wF:Int
structure Case where
 chain:kV
 dj:r4
 day:Int
 aD:List bB
def pf(l:List bB):D:=.vs (l.map bB.cells)
def Case.cells(c:Case):List D:=[gq c.chain.av,i64 c.chain.tS,i64 c.chain.fC,i64 c.chain.err,i64 c.chain.hold.lo,i64 c.chain.hold.hi,oz c.chain.rows,
 i64 c.dj.bf,i64 c.dj.current,i64 c.dj.aW,i64 c.dj.wF,i64 c.day,pf c.aD]
def Case.d(c:Case):D:=.agg c.cells
def lJ(off day:Int):List bK->Int->Int
 | [],e=>e
 | s::r,e=>if e=0 then lJ off day r (if (dU s off s.aY day).2 then e else 8) else e
theorem mS(lo hi n:Int):(decide (n<lo)||decide (n>hi)) = !a6 n lo hi:=by
 simp only[a6];by_cases h1:lo<=n<;>by_cases h2:n<=hi<;>simp[h1,h2]<;>omega
theorem aX.cast{P:Program}{f:FuncId}{ds:List D}{r r':D}(h:aX P f ds r)(e:r=r'):aX P f ds r':=by subst e;exact h
theorem cW(lo hi a:Int):aX Tryz.prog 76 [i64 lo,i64 hi,.vs [[i64 a]]] (.bool (!a6 a lo hi)):=by
 exact aX.cast (LS lo hi [a] (by simp)) (by simp[mS])
theorem jC(lo hi a b:Int):aX Tryz.prog 76 [i64 lo,i64 hi,.vs [[i64 a],[i64 b]]] (.bool (!(a6 a lo hi&&a6 b lo hi))):=by
 exact aX.cast (LS lo hi [a,b] (by simp)) (by simp[mS])
theorem yY(lo hi a b c:Int):aX Tryz.prog 76 [i64 lo,i64 hi,.vs [[i64 a],[i64 b],[i64 c]]] (.bool (!(a6 a lo hi&&(a6 b lo hi&&a6 c lo hi)))):=by
 exact aX.cast (LS lo hi [a,b,c] (by simp)) (by simp[mS])
theorem TM(s:Span):aX Tryz.prog 140 [s.d] (.bool (decide (s.lo>s.hi))):=by
 refine aB Tryz.func140 rfl (ft:=Pz) 1 fun {σ} Y st=>?_;conv=>whnf
 exact ae
theorem OC(l:List Span)(g:FuncId)(aL:List D)(p:Span->Bool)(hl:l.length<4000000000000000000)(hp:∀ x∈l,aX Tryz.prog g (x.d::aL) (.bool (p x))) :
  aX Tryz.prog 154 [cw l,.clo g aL] (i64 (indexOf p l 0)):=by
 refine aB Tryz.func154 rfl (ft:=PM) 2 fun {σ} Y st=>?_;conv=>whnf
 refine yC (T:=tys) ao (by exact ai mixed ao (by decide +kernel)) l (fun i (_:Unit)=>⟨[(0,.d (cw l)),(1,.d (.clo g aL)),(7,.d (i64 l.length)),(8,.d (i64 i))],[],st⟩) (fun r _=>(∀ x∈r,aX Tryz.prog g (x.d::aL) (.bool (p x)))/\indexOf p l 0=indexOf p r (l.length-r.length)) ()
  (Wk.sub ⟨rfl,rfl,by simp[PX.get],rfl,trivial⟩ trivial) ⟨hp,by simp⟩ ?_ ?_
 ·intro i x r _ hx hi hr ⟨hp,he⟩
  rw[indexOf]at he;conv=>whnf
  refine ag (fun _=>?_) (fun h=>absurd hi (by simpa using h));conv=>whnf
  refine au hx ?_;conv=>whnf
  refine ah (ds:=x.d::aL) (hp x (by simp)) rfl rfl ?_;conv=>whnf
  refine ag (fun h1=>?_) (fun h1=>?_)
  ·conv=>whnf
   rw[if_pos h1]at he;rw[he];have:((l.length:Int)-((x::r).length:Nat))=i:=by simp;omega
   rw[this];exact ae
  ·conv=>whnf
   rw[if_neg (by simp[h1])]at he;refine af ?_;conv=>whnf
   exact⟨(),⟨fun y hy=>hp y (by simp[hy]),by rw[he];congr 1;simp;omega⟩,Wk.sub ⟨rfl,rfl,rfl,rfl,trivial⟩ trivial⟩
 ·intro _ ⟨_,he⟩
  conv=>whnf
  refine ag (fun h=>absurd h (by simp)) (fun _=>?_);conv=>whnf
  rw[he];exact ae
theorem TL(l:List Span)(g:FuncId)(aL:List D)(p:Span->Bool)(hl:l.length<4000000000000000000)(hp:∀ x∈l,aX Tryz.prog g (x.d::aL) (.bool (p x))) :
  aX Tryz.prog 139 [cw l,.clo g aL] (.bool (l.any p)):=by
 refine aB Tryz.func139 rfl (ft:=Py) 2 fun {σ} Y st=>?_;conv=>whnf
 refine ah (OC l g aL p hl hp) rfl rfl ?_;conv=>whnf
 refine an 0 rfl ⟨⟨?_,rfl⟩,rfl⟩;rw[<- eO p l 0 (by omega)];rfl
theorem LU(l:List Span)(hl:l.length<4000000000000000000):aX Tryz.prog 103 [cw l] (.bool (l.any fun s=>decide (s.lo>s.hi))):=by
 refine aB Tryz.func103 rfl (ft:=O3) 1 fun {σ} Y st=>?_;conv=>whnf
 refine ah (TL l 140 [] (fun s=>decide (s.lo>s.hi)) hl fun x _=>TM x) rfl rfl ?_;conv=>whnf
 exact ae
def e6(c:kV):Int:=
 if a6 c.av.length 1 7&&a6 c.rows.length 1 6 then
  (if a6 c.tS 1 50&&(a6 c.fC 0 200&&(a6 c.err 0 2000&&(a6 c.hold.lo 0 200000&&a6 c.hold.hi 0 200000))) then (if c.hold.lo>c.hold.hi then 2 else 0) else 7)
 else 3
theorem yZ(a b:Int):aX Tryz.prog 103 [.vs [[i64 a,i64 b]]] (.bool (decide (a>b))):=
 aX.cast (LU [⟨a,b⟩] (by simp)) (by simp)
theorem y0(a b c d:Int):aX Tryz.prog 103 [.vs [[i64 a,i64 b],[i64 c,i64 d]]] (.bool (decide (a>b)||decide (c>d))):=
 aX.cast (LU [⟨a,b⟩,⟨c,d⟩] (by simp)) (by simp)
theorem Ty(c:kV):aX Tryz.prog 97 [c.d] (i64 (e6 c)):=by
 refine aB Tryz.func97 rfl (ft:=U5) 1 fun {σ} Y st=>?_;conv=>whnf
 repeat' (first
  | (refine ah (cW _ _ _) rfl rfl ?_;conv=>whnf)
  | (refine ak (cW _ _ _) rfl 1 rfl ?_;conv=>whnf)
  | (refine al (cW _ _ _) rfl rfl ?_;conv=>whnf)
  | (refine aw (cW _ _ _) rfl 1 rfl ?_;conv=>whnf)
  | (refine ah (jC _ _ _ _) rfl rfl ?_;conv=>whnf)
  | (refine ak (jC _ _ _ _) rfl 1 rfl ?_;conv=>whnf)
  | (refine al (jC _ _ _ _) rfl rfl ?_;conv=>whnf)
  | (refine aw (jC _ _ _ _) rfl 1 rfl ?_;conv=>whnf)
  | (refine ah (yZ _ _) rfl rfl ?_;conv=>whnf)
  | (refine ak (yZ _ _) rfl 1 rfl ?_;conv=>whnf)
  | (refine al (yZ _ _) rfl rfl ?_;conv=>whnf)
  | (refine aw (yZ _ _) rfl 1 rfl ?_;conv=>whnf)
  | (refine af ?_;conv=>whnf)
  | (refine ag (fun h=>?_) (fun h=>?_)<;>conv=>whnf))
 all_goals (refine an 0 rfl ⟨⟨?_,rfl⟩,rfl⟩;first|(simp_all[bL,e6];done)|(simp_all[bL,e6];grind)|grind [bL,e6])
def gw(set:Int):Int->List cT->Int
 | _,[]=>0
 | last,g::r=>if a6 g.day set 40000&&a6 g.shown 0 60000 then (if g.day<last then 2 else gw set g.day r) else 7
def hU(s:bK):Int:=
 if a6 s.ff 1 40&&(a6 s.set 0 40000&&(a6 s.new.lo 1 60000&&a6 s.new.hi 1 60000&&(a6 s.wear.lo 0 20&&a6 s.wear.hi 0 20))) then
  (if s.new.lo>s.new.hi\/s.wear.lo>s.wear.hi then 2 else (if 6<s.aY.length then 3 else gw s.set s.set s.aY))
 else 7
theorem TA(s:bK)(off:Int):aX Tryz.prog 101 [.agg (s.cells ++ [i64 off])] (i64 (hU s)):=by
 refine aB Tryz.func101 rfl (ft:=O1) 1 fun {σ} Y st=>?_;conv=>whnf
 repeat' (first
  | (refine ah (cW _ _ _) rfl rfl ?_;conv=>whnf)
  | (refine ak (cW _ _ _) rfl 1 rfl ?_;conv=>whnf)
  | (refine al (cW _ _ _) rfl rfl ?_;conv=>whnf)
  | (refine aw (cW _ _ _) rfl 1 rfl ?_;conv=>whnf)
  | (refine ah (jC _ _ _ _) rfl rfl ?_;conv=>whnf)
  | (refine ak (jC _ _ _ _) rfl 1 rfl ?_;conv=>whnf)
  | (refine al (jC _ _ _ _) rfl rfl ?_;conv=>whnf)
  | (refine aw (jC _ _ _ _) rfl 1 rfl ?_;conv=>whnf)
  | (refine ah (y0 _ _ _ _) rfl rfl ?_;conv=>whnf)
  | (refine ak (y0 _ _ _ _) rfl 1 rfl ?_;conv=>whnf)
  | (refine al (y0 _ _ _ _) rfl rfl ?_;conv=>whnf)
  | (refine aw (y0 _ _ _ _) rfl 1 rfl ?_;conv=>whnf)
  | (refine af ?_;conv=>whnf)
  | (refine ag (fun h=>?_) (fun h=>?_)<;>conv=>whnf))
 all_goals first
  | (refine an 0 rfl ⟨⟨?_,rfl⟩,rfl⟩;grind [bL,hU])
  | skip
 have hlen:s.aY.length<=6:=by simp_all;omega
 have hF:hU s=gw s.set s.set s.aY:=by grind [hU]
 rw[hF];refine yC (T:=tys) ao (by exact ai mixed ao (by decide +kernel)) s.aY (fun i (last:Int)=>⟨[(1,.ptr 1 0),(3,.d (i64 last)),(63,.d (fZ s.aY)),(64,.d (i64 s.aY.length)),(65,.d (i64 i))],[(1,.box (.dd (s.cells ++ [i64 off])))],st⟩) (fun r last=>gw s.set s.set s.aY=gw s.set last r) s.set
  aI rfl ?_ ?_
 ·intro i g r last hx hi hr he
  rw[gw]at he;conv=>whnf
  refine ag (fun _=>?_) (fun h=>absurd hi (by simpa using h));conv=>whnf
  refine au hx ?_;conv=>whnf
  repeat' (first
   | (refine ah (cW _ _ _) rfl rfl ?_;conv=>whnf)
   | (refine ak (cW _ _ _) rfl 1 rfl ?_;conv=>whnf)
   | (refine al (cW _ _ _) rfl rfl ?_;conv=>whnf)
   | (refine aw (cW _ _ _) rfl 1 rfl ?_;conv=>whnf)
   | (refine af ?_;conv=>whnf)
   | (refine ag (fun h=>?_) (fun h=>?_)<;>conv=>whnf))
  all_goals first
   | (refine an 0 rfl ⟨⟨?_,rfl⟩,rfl⟩;grind [bL])
   | exact⟨g.day,by grind,Wk.sub ⟨rfl,rfl,rfl,rfl,rfl,trivial⟩ ⟨rfl,trivial⟩⟩
 ·intro last he
  conv=>whnf
  refine ag (fun h=>absurd h (by simp)) (fun _=>?_);conv=>whnf
  rw[he];exact ae
end Go.PX
namespace Go.PX
open Go.Proofs
open Go
theorem Tz(s:bK)(n:bK):aX Tryz.prog 100 [s.d,.ref n.cells] (.bool (decide (s.name=n.name))):=by
 refine aB Tryz.func100 rfl (ft:=O0) 2 fun {σ} Y st=>?_;conv=>whnf
 exact ae
theorem IX(s:bK)(c:Case):aX Tryz.prog 102 [s.d,.ref c.cells] (.bool (decide (s.set>c.day))):=by
 refine aB Tryz.func102 rfl (ft:=O2) 2 fun {σ} Y st=>?_;conv=>whnf
 exact ae
theorem TK(l:List bK)(g:FuncId)(aL:List D)(p:bK->Bool)(hl:l.length<4000000000000000000)(hp:∀ x∈l,aX Tryz.prog g (x.d::aL) (.bool (p x))) :
  aX Tryz.prog 138 [gq l,.clo g aL] (i64 (indexOf p l 0)):=by
 refine aB Tryz.func138 rfl (ft:=Px) 2 fun {σ} Y st=>?_;conv=>whnf
 refine yC (T:=tys) ao (by exact ai mixed ao (by decide +kernel)) l (fun i (_:Unit)=>⟨[(0,.d (gq l)),(1,.d (.clo g aL)),(7,.d (i64 l.length)),(8,.d (i64 i))],[],st⟩) (fun r _=>(∀ x∈r,aX Tryz.prog g (x.d::aL) (.bool (p x)))/\indexOf p l 0=indexOf p r (l.length-r.length)) ()
  aI ⟨hp,by simp⟩ ?_ ?_
 ·intro i x r _ hx hi hr ⟨hp,he⟩
  rw[indexOf]at he;conv=>whnf
  refine ag (fun _=>?_) (fun h=>absurd hi (by simpa using h));conv=>whnf
  refine au hx ?_;conv=>whnf
  refine ah (ds:=x.d::aL) (hp x (by simp)) rfl rfl ?_;conv=>whnf
  refine ag (fun h1=>?_) (fun h1=>?_)
  ·conv=>whnf
   rw[if_pos h1]at he;rw[he];have:((l.length:Int)-((x::r).length:Nat))=i:=by simp;omega
   rw[this];exact ae
  ·conv=>whnf
   rw[if_neg (by simp[h1])]at he;refine af ?_;conv=>whnf
   exact⟨(),⟨fun y hy=>hp y (by simp[hy]),by rw[he];congr 1;simp;omega⟩,Wk.sub ⟨rfl,rfl,rfl,rfl,trivial⟩ trivial⟩
 ·intro _ ⟨_,he⟩
  conv=>whnf
  refine ag (fun h=>absurd h (by simp)) (fun _=>?_);conv=>whnf
  rw[he];exact ae
theorem GD(l:List bK)(g:FuncId)(aL:List D)(p:bK->Bool)(hl:l.length<4000000000000000000)(hp:∀ x∈l,aX Tryz.prog g (x.d::aL) (.bool (p x))) :
  aX Tryz.prog 99 [gq l,.clo g aL] (.bool (l.any p)):=by
 refine aB Tryz.func99 rfl (ft:=U7) 2 fun {σ} Y st=>?_;conv=>whnf
 refine ah (TK l g aL p hl hp) rfl rfl ?_;conv=>whnf
 refine an 0 rfl ⟨⟨?_,rfl⟩,rfl⟩;rw[<- eO p l 0 (by omega)];rfl
def jF:Nat->List UInt8->Bool
 | last,[]=>decide (last≠45)
 | last,c::r=>if 97<=c.toNat/\c.toNat<=122 then jF c.toNat r else if c.toNat=45/\last≠45 then jF 45 r else false
theorem xS(b:List UInt8):∀ (r:List UInt8) (i last:Nat),r ≠ []->r=b.drop i->(i=0->last=45)->(∀ p,i≠0->b[i-1]?=some p->last=p.toNat)->jF last r=l4 b i r
 | [],i,last,h,_,_,_=>absurd rfl h
 | c::r,i,last,_,hd,h0,h1=>by
  have hlen:i+1+r.length=b.length:=by
   have:=congrArg List.length hd;simp at this;omega
  have lC:b[i]?=some c:=by
   have:=congrArg (fun l=>l[0]?) hd;simpa using this.symm
  have hr:r=b.drop (i+1):=by
   have:=congrArg List.tail hd;simpa using this
  have ih:∀ DX,DX=c.toNat->r ≠ []->jF DX r=l4 b (i+1) r:=fun DX hl ef=>
   xS b r (i+1) DX ef hr (fun h=>by omega) (fun p _ hp=>by simp at hp;rw[lC]at hp;cases hp;exact hl)
  have RA:i≠0 -> ∃ p,b[i-1]?=some p/\last=p.toNat:=fun hi=>by
   have:i-1<b.length:=by omega
   exact⟨_,List.getElem?_eq_getElem this,h1 _ hi (List.getElem?_eq_getElem this)⟩
  simp only[jF,l4,qt];by_cases ha:97<=c.toNat/\c.toNat<=122
  ·rw[if_pos ha]
   simp only[ha.1,ha.2,decide_true,Bool.and_self,Bool.true_or,Bool.true_and];by_cases ef:r = []
   ·subst ef
    simp[jF,l4];omega
   ·exact ih _ rfl ef
  ·rw[if_neg ha]
   have hf:(decide (97<=c.toNat)&&decide (c.toNat<=122))=false:=by
    simp only[Bool.and_eq_false_iff,decide_eq_false_iff_not];omega
   rw[hf,Bool.false_or];by_cases hc:c.toNat=45
   ·by_cases hi:i=0
    ·have:=h0 hi
     simp[hc,hi,this]
    ·obtain⟨p,hp,hl⟩:=RA hi
     rw[hp];by_cases nr:p.toNat=45
     ·simp[hc,hl,nr]
     ·by_cases ef:r = []
      ·have:i+1=b.length:=by subst ef;simpa using hlen
       subst ef;simp[hc,hl,nr,jF,this]
      ·have:i+1≠b.length:=by
        have:=List.length_pos_iff.2 ef;omega
       rw[if_pos ⟨hc,by rw[hl];exact nr⟩,ih 45 hc.symm ef];simp[hc,hi,nr,this]
   ·simp[hc]
theorem Hz(s:ByteArray):eP s=(decide (s.size<=14)&&jF 45 s.data.toList):=by
 have cY:s.size=s.data.toList.length:=by simp
 unfold eP a6
 cases hb:s.data.toList with
 | nil=>
  have:s.size=0:=by rw[cY,hb];rfl
  simp[this,jF]
 | cons c r=>
  rw[<- hb,xS s.data.toList s.data.toList 0 45 (by rw[hb];simp) rfl (fun _=>rfl) (fun p h=>absurd rfl h)];have h1:1<=s.size:=by rw[cY,hb];simp
  have e1:decide ((1:Int)<=(s.size:Int))=true:=by simp;omega
  have e2:decide ((s.size:Int)<=14)=decide (s.size<=14):=by simp;omega
  rw[e1,e2];simp
theorem Cc(s:ByteArray)(i:Nat)(h:¬ (s.get! (i+0)).toNat<128):128<=(Utf8.decode s i).1:=by
 unfold Utf8.decode;simp only[h,if_false];split
 ·split
  ·simp only;omega
  ·simp[Utf8.runeError]
 ·split
  ·split
   ·rename_i h1
    simp only[Bool.and_eq_true,decide_eq_true_eq]at h1;simp only;omega
   ·simp[Utf8.runeError]
  ·split
   ·split
    ·rename_i h1
     simp only[Bool.and_eq_true,decide_eq_true_eq]at h1;simp only;omega
    ·simp[Utf8.runeError]
   ·simp[Utf8.runeError]
theorem GC(s:ByteArray):aX Tryz.prog 98 [.str s] (.bool (eP s)):=by
 refine aB Tryz.func98 rfl (ft:=U6) 1 fun {σ} Y st=>?_;conv=>whnf
 refine bP (T:=tys) ao (by exact ai mixed ao (by decide +kernel)) (α:=Nat×Nat)
  (fun x=>⟨[(0,.d (.str s)),(3,.d (.int .i32 x.2)),(7,.it 7)],[(7,.iter s x.1)],st⟩) (fun x=>x.1<=s.size/\eP s=(decide (s.size<=14)&&jF x.2 (s.data.toList.drop x.1))) (fun x=>s.size-x.1) (0,45)
  aI ⟨by simp,by rw[Hz];rfl⟩ ?_
 rintro ⟨p,last⟩ ⟨hp,he⟩;simp only at hp he;have cY:s.size=s.data.toList.length:=by simp
 conv=>whnf
 refine ag (fun h1=>?_) (fun h1=>?_)
 ·have h1:p<s.size:=of_decide_eq_true h1
  have hd:s.data.toList.drop p=s[p]::s.data.toList.drop (p+1):=by
   rw[List.drop_eq_getElem_cons (by omega)];rfl
  rw[hd,jF]at he;refine⟨?_⟩;by_cases hb:s[p].toNat<128
  ·rw[decode_ascii s p h1 hb]
   conv=>whnf
   refine ag (fun h2=>?_) (fun h2=>?_)
   ·have h2:97<=s[p].toNat:=by have:=of_decide_eq_true h2;omega
    conv=>whnf
    refine ag (fun h3=>?_) (fun h3=>?_)
    ·have h3:s[p].toNat<=122:=by have:=of_decide_eq_true h3;omega
     conv=>whnf
     rw[if_pos ⟨h2,h3⟩]at he;exact⟨(p+1,s[p].toNat),by simp only;omega,⟨h1,he⟩,aI⟩
    ·have h3:¬ s[p].toNat<=122:=by have:=of_decide_eq_false h3;omega
     conv=>whnf
     rw[if_neg (by omega),if_neg (by omega)]at he;refine ag (fun h4=>?_) (fun h4=>?_)
     ·conv=>whnf
      rw[he,Bool.and_false];exact ae
     ·exact absurd h4 (by simp;omega)
   ·have h2:¬ 97<=s[p].toNat:=by have:=of_decide_eq_false h2;omega
    conv=>whnf
    rw[if_neg (by omega)]at he;refine ag (fun h4=>?_) (fun h4=>?_)
    ·have h4:s[p].toNat≠45:=by simp at h4;omega
     conv=>whnf
     rw[if_neg (by omega)]at he;rw[he,Bool.and_false];exact ae
    ·have h4:s[p].toNat=45:=by simp at h4;omega
     conv=>whnf
     refine ag (fun h5=>?_) (fun h5=>?_)
     ·have h5:last=45:=by have:=of_decide_eq_true h5;omega
      conv=>whnf
      rw[if_neg (by omega)]at he;rw[he,Bool.and_false];exact ae
     ·have h5:last≠45:=by have:=of_decide_eq_false h5;omega
      conv=>whnf
      rw[if_pos ⟨h4,h5⟩]at he;exact⟨(p+1,45),by simp only;omega,⟨h1,he⟩,by rw[<- h4];exact aI⟩
  ·have kp:=Cc s p (by
    have e:s.get! (p+0)=s[p]'h1:=by
     show s.get! p=_;simp[ByteArray.get!,getElem!_pos,h1];rfl
    rw[e];exact hb)
   generalize (Utf8.decode s p).1=c at kp;generalize (Utf8.decode s p).2=n;rw[if_neg (by omega),if_neg (by omega)]at he;conv=>whnf
   refine ag (fun h2=>?_) (fun h2=>?_)
   ·conv=>whnf
    refine ag (fun h3=>?_) (fun h3=>?_)
    ·have:=of_decide_eq_true h3;omega
    ·conv=>whnf
     refine ag (fun h4=>?_) (fun h4=>?_)
     ·conv=>whnf
      rw[he,Bool.and_false];exact ae
     ·exact absurd h4 (by simp;omega)
   ·have:=of_decide_eq_false h2;omega
 ·have h1:¬ p<s.size:=of_decide_eq_false h1
  conv=>whnf
  have zj:s.data.toList.drop p = []:=List.drop_of_length_le (by omega);rw[zj,jF]at he;refine ag (fun h2=>?_) (fun h2=>?_)
  ·conv=>whnf
   refine an 0 rfl ⟨⟨?_,rfl⟩,rfl⟩;have h2:s.size<=14:=by have:=of_decide_eq_true h2;omega
   rw[he];show V.d (.bool (!decide ((last:Int)=45)))=_;simp[h2];omega
  ·conv=>whnf
   refine an 0 rfl ⟨⟨?_,rfl⟩,rfl⟩;have h2:¬ s.size<=14:=by have:=of_decide_eq_false h2;omega
   rw[he];simp[h2,bL]
end Go.PX
namespace Go.PX
open Go.Proofs
def a5{α:Type}(f:List α->α->Int):List α->List α->Int->Int×Int
 | _,[],_=>(0,0)
 | b,x::r,i=>if f b x=0 then a5 f (b ++ [x]) r (i+1) else (i,f b x)
def eH(b:List bK)(x:bK):Int:=if eP x.name then (if b.any (fun y=>decide (y.name=x.name)) then 5 else hU x) else 6
def pO(b:List Row):Row:=b.getLast?.getD ⟨0,0⟩
def kI(b:List Row)(r:Row):Int:=
 if a6 r.scope 1 200&&a6 r.holds 1 1000 then (if r.scope<=(pO b).scope\/r.holds<=(pO b).holds then 2 else 0) else 7
def bV(_:List bB)(w:bB):Int:=
 if a6 w.depth.lo 1 1000&&a6 w.depth.hi 1 1000&&(a6 w.bf.lo 0 80&&a6 w.bf.hi 0 80&&(a6 w.current.lo 0 80&&a6 w.current.hi 0 80&&(a6 w.aW.lo 0 150&&a6 w.aW.hi 0 150))) then
  (if w.depth.lo>w.depth.hi\/w.bf.lo>w.bf.hi\/w.current.lo>w.current.hi\/w.aW.lo>w.aW.hi then 2 else 0) else 7
def lg(c:Case):Int×Int×Int:=
  if a6 c.dj.bf 0 10000&&(a6 c.dj.current 0 10000&&a6 c.dj.aW 0 10000)&&a6 c.dj.wF 0 20 then
    (if a6 c.day 0 40000 then
      (if c.chain.av.any (fun s=>decide (s.set>c.day)) then (5,0,2) else
        (if a6 c.aD.length 1 6 then
          (let p:=a5 bV [] c.aD 0
           if p.2=0 then (0,0,0) else (6,p.1,p.2))
        else (6,0,3)))
    else (5,0,7))
  else (4,0,7)
def vZ(c:Case):Int×Int×Int:=
 let p:=a5 kI [] c.chain.rows 0
 if p.2=0 then lg c else (3,p.1,p.2)
def bx(c:Case):Int×Int×Int:=
  if e6 c.chain=0 then
    (let p:=a5 eH [] c.chain.av 0
     if p.2=0 then vZ c else (2,p.1,p.2))
  else (1,0,e6 c.chain)
def w6(p:Int×Int×Int):D:=.tup [i64 p.1,i64 p.2.1,i64 p.2.2]
theorem y3(a b c d e f g h:Int):aX Tryz.prog 103 [.vs [[i64 a,i64 b],[i64 c,i64 d],[i64 e,i64 f],[i64 g,i64 h]]] (.bool (decide (a>b)||(decide (c>d)||(decide (e>f)||decide (g>h))))):=
 aX.cast (LU [⟨a,b⟩,⟨c,d⟩,⟨e,f⟩,⟨g,h⟩] (by simp)) (by simp)
theorem qv{c:kV}(h:e6 c=0):c.av.length<=7/\c.rows.length<=6:=by
 unfold e6 a6 at h;split at h
 ·rename_i h1
  simp only[Bool.and_eq_true,decide_eq_true_eq]at h1;omega
 ·cases h
theorem yb{c:Case}(h1:(a6 c.dj.bf 0 10000&&(a6 c.dj.current 0 10000&&a6 c.dj.aW 0 10000))=true)(h2:a6 c.dj.wF 0 20=true)(h3:a6 c.day 0 40000=true)(h4:(c.chain.av.any fun s=>decide (s.set>c.day))=false)(h5:a6 c.aD.length 1 6=true) :
  lg c=(if (a5 bV [] c.aD 0).2=0 then (0,0,0) else (6,(a5 bV [] c.aD 0).1,(a5 bV [] c.aD 0).2)):=by
 simp[lg,h1,h2,h3,h4,h5]
theorem GB(c:Case):aX Tryz.prog 55 [c.d] (w6 (bx c)):=by
 refine aB Tryz.func55 rfl (ft:=Uy) 1 fun {σ} Y st=>?_;conv=>whnf
 refine ah (Ty c.chain) rfl rfl ?_;conv=>whnf
 refine ag (fun h0=>?_) (fun h0=>?_)
 ·conv=>whnf
  refine an 0 rfl ⟨⟨?_,rfl⟩,rfl⟩;have h0:e6 c.chain≠0:=by simpa using h0
  simp[bx,h0,w6,bL]
 have h0:e6 c.chain=0:=by simpa using h0
 obtain⟨qD,Jl⟩:=qv h0;conv=>whnf
 have hE:bx c=(if (a5 eH [] c.chain.av 0).2=0 then vZ c else (2,(a5 eH [] c.chain.av 0).1,(a5 eH [] c.chain.av 0).2)):=by simp[bx,h0]
 rw[hE];refine ba (T:=tys) ao (by exact ai mixed ao (by decide +kernel)) c.chain.av (fun i (_:Unit)=>⟨[(1,.ptr 1 0),(20,.d (gq c.chain.av)),(21,.d (i64 c.chain.av.length)),(22,.d (i64 i))],[(1,.box (.dd c.cells))],st⟩) (fun i r _=>a5 eH [] c.chain.av 0=a5 eH (c.chain.av.take i) r i) ()
  aI rfl ?_ ?_
 ·intro i x r _ hx hi hr he
  rw[a5]at he;have vh:c.chain.av.take (i+1)=c.chain.av.take i ++ [x]:=by rw[List.take_succ,hx];rfl
  conv=>whnf
  refine ag (fun _=>?_) (fun h=>absurd hi (by simpa using h));conv=>whnf
  refine au hx ?_;conv=>whnf
  refine ah (GC x.name) rfl rfl ?_;conv=>whnf
  refine ag (fun h1=>?_) (fun h1=>?_)
  ·conv=>whnf
   refine an 0 rfl ⟨⟨?_,rfl⟩,rfl⟩;have h1:eP x.name=false:=by simpa using h1
   rw[he];simp[eH,h1,bL,w6]
  have h1:eP x.name=true:=by simpa using h1
  conv=>whnf
  refine bc (by simp;omega) ?_;conv=>whnf
  refine bc (by cases c.chain.av<;>rfl) ?_;conv=>whnf
  refine ak (ds:=[gq (c.chain.av.take i),.clo 100 [.ref x.cells]]) (GD (c.chain.av.take i) 100 [.ref x.cells] (fun y=>decide (y.name=x.name)) (by simp;omega) fun y _=>Tz y x) rfl 1 (by show some _=some _;simp[gq,List.map_take];rfl) ?_;conv=>whnf
  refine ag (fun h2=>?_) (fun h2=>?_)
  ·conv=>whnf
   refine an 0 rfl ⟨⟨?_,rfl⟩,rfl⟩;rw[he];simp[eH,h1,h2,bL,w6]
  conv=>whnf
  refine ah (TA x 0) rfl rfl ?_;conv=>whnf
  refine ag (fun h3=>?_) (fun h3=>?_)
  ·conv=>whnf
   refine an 0 rfl ⟨⟨?_,rfl⟩,rfl⟩;have h3:hU x≠0:=by simpa using h3
   rw[he];simp[eH,h1,h2,h3,bL,w6]
  have h3:hU x=0:=by simpa using h3
  conv=>whnf
  refine af ?_;conv=>whnf
  have hs:eH (c.chain.av.take i) x=0:=by simp[eH,h1,h2,h3]
  rw[if_pos hs,<- vh]at he;exact⟨(),he,aI⟩
 intro _ he;rw[List.take_length,a5]at he;rw[he];simp only[if_true];conv=>whnf
 refine ag (fun h=>absurd h (by simp)) (fun _=>?_);conv=>whnf
 have hR:vZ c=(if (a5 kI [] c.chain.rows 0).2=0 then lg c else (3,(a5 kI [] c.chain.rows 0).1,(a5 kI [] c.chain.rows 0).2)):=rfl;rw[hR];refine ba (T:=tys) ao (by exact ai mixed ao (by decide +kernel)) c.chain.rows (fun i (last:Row)=>⟨[(1,.ptr 1 0),(7,.ptr 7 0),(53,.d (oz c.chain.rows)),(54,.d (i64 c.chain.rows.length)),(55,.d (i64 i))],[(1,.box (.dd c.cells)),(7,.box (.dd last.cells))],st⟩) (fun i r last=>last=pO (c.chain.rows.take i)/\a5 kI [] c.chain.rows 0=a5 kI (c.chain.rows.take i) r i) ⟨0,0⟩
  aI ⟨rfl,rfl⟩ ?_ ?_
 ·intro i x r last hx hi hr ⟨Zk,he⟩
  rw[a5]at he;have vh:c.chain.rows.take (i+1)=c.chain.rows.take i ++ [x]:=by rw[List.take_succ,hx];rfl
  conv=>whnf
  refine ag (fun _=>?_) (fun h=>absurd hi (by simpa using h));conv=>whnf
  refine au hx ?_;conv=>whnf
  repeat' (first
   | (refine ah (cW _ _ _) rfl rfl ?_;conv=>whnf)
   | (refine ak (cW _ _ _) rfl 1 rfl ?_;conv=>whnf)
   | (refine al (cW _ _ _) rfl rfl ?_;conv=>whnf)
   | (refine aw (cW _ _ _) rfl 1 rfl ?_;conv=>whnf)
   | (refine af ?_;conv=>whnf)
   | (refine ag (fun h=>?_) (fun h=>?_)<;>conv=>whnf))
  all_goals first
   | (refine an 0 rfl ⟨⟨?_,rfl⟩,rfl⟩;rw[he];grind [kI,bL,w6])
   | (rw[if_pos (by grind [kI]),<- vh]at he;exact⟨x,⟨by rw[vh];simp[pO],he⟩,aI⟩)
 intro last ⟨_,he⟩;rw[List.take_length,a5]at he;rw[he];simp only[if_true];conv=>whnf
 refine ag (fun h=>absurd h (by simp)) (fun _=>?_);conv=>whnf
 repeat' (first
  | (refine ah (cW _ _ _) rfl rfl ?_;conv=>whnf)
  | (refine ak (cW _ _ _) rfl 1 rfl ?_;conv=>whnf)
  | (refine al (cW _ _ _) rfl rfl ?_;conv=>whnf)
  | (refine aw (cW _ _ _) rfl 1 rfl ?_;conv=>whnf)
  | (refine ah (yY _ _ _ _ _) rfl rfl ?_;conv=>whnf)
  | (refine ak (yY _ _ _ _ _) rfl 1 rfl ?_;conv=>whnf)
  | (refine al (yY _ _ _ _ _) rfl rfl ?_;conv=>whnf)
  | (refine aw (yY _ _ _ _ _) rfl 1 rfl ?_;conv=>whnf)
  | (refine ah (GD c.chain.av 102 [.ref c.cells] (fun s=>decide (s.set>c.day)) (by omega) (fun y _=>IX y c)) rfl rfl ?_;conv=>whnf)
  | (refine ak (GD c.chain.av 102 [.ref c.cells] (fun s=>decide (s.set>c.day)) (by omega) (fun y _=>IX y c)) rfl 1 rfl ?_;conv=>whnf)
  | (refine al (GD c.chain.av 102 [.ref c.cells] (fun s=>decide (s.set>c.day)) (by omega) (fun y _=>IX y c)) rfl rfl ?_;conv=>whnf)
  | (refine aw (GD c.chain.av 102 [.ref c.cells] (fun s=>decide (s.set>c.day)) (by omega) (fun y _=>IX y c)) rfl 1 rfl ?_;conv=>whnf)
  | (refine af ?_;conv=>whnf)
  | (refine ag (fun h=>?_) (fun h=>?_)<;>conv=>whnf))
 all_goals first
  | (refine an 0 rfl ⟨⟨?_,rfl⟩,rfl⟩;grind [lg,bL,w6])
  | skip
 rename_i h1 h2 h3 h4 h5;have hw:c.aD.length<=6:=by
  have:a6 (c.aD.length:Nat) 1 6=true:=by simp_all
  simp only[a6,Bool.and_eq_true,decide_eq_true_eq]at this;omega
 have hE:lg c=(if (a5 bV [] c.aD 0).2=0 then (0,0,0) else (6,(a5 bV [] c.aD 0).1,(a5 bV [] c.aD 0).2)):=by
  apply yb<;>simp_all
 rw[hE];refine ba (T:=tys) ao (by exact ai mixed ao (by decide +kernel)) c.aD (fun i (_:Unit)=>⟨[(125,.d (pf c.aD)),(126,.d (i64 c.aD.length)),(127,.d (i64 i))],[],st⟩) (fun i r _=>a5 bV [] c.aD 0=a5 bV (c.aD.take i) r i) ()
  aI rfl ?_ ?_
 ·intro i x r _ hx hi hr he
  rw[a5]at he;have vh:c.aD.take (i+1)=c.aD.take i ++ [x]:=by rw[List.take_succ,hx];rfl
  conv=>whnf
  refine ag (fun _=>?_) (fun h=>absurd hi (by simpa using h));conv=>whnf
  refine au hx ?_;conv=>whnf
  repeat' (first
   | (refine ah (jC _ _ _ _) rfl rfl ?_;conv=>whnf)
   | (refine ak (jC _ _ _ _) rfl 1 rfl ?_;conv=>whnf)
   | (refine al (jC _ _ _ _) rfl rfl ?_;conv=>whnf)
   | (refine aw (jC _ _ _ _) rfl 1 rfl ?_;conv=>whnf)
   | (refine ah (y3 _ _ _ _ _ _ _ _) rfl rfl ?_;conv=>whnf)
   | (refine ak (y3 _ _ _ _ _ _ _ _) rfl 1 rfl ?_;conv=>whnf)
   | (refine al (y3 _ _ _ _ _ _ _ _) rfl rfl ?_;conv=>whnf)
   | (refine aw (y3 _ _ _ _ _ _ _ _) rfl 1 rfl ?_;conv=>whnf)
   | (refine af ?_;conv=>whnf)
   | (refine ag (fun h=>?_) (fun h=>?_)<;>conv=>whnf))
  all_goals first
   | (refine an 0 rfl ⟨⟨?_,rfl⟩,rfl⟩;rw[he];grind [bV,bL,w6])
   | (rw[if_pos (by grind [bV]),<- vh]at he;exact⟨(),he,aI⟩)
 ·intro _ he
  rw[List.take_length,a5]at he;rw[he];conv=>whnf
  refine ag (fun h=>absurd h (by simp)) (fun _=>?_);conv=>whnf
  exact ae
theorem iY(lo hi:Int)(s:Span):spread lo hi [s] 0=if a6 s.lo lo hi&&a6 s.hi lo hi then (if s.lo>s.hi then 2 else 0) else 7:=by
 simp[spread]
theorem ra(set:Int):∀ (d:Int) (l:List cT),ik set (some d) l=gw set d l
 | d,[]=>rfl
 | d,g::r=>by
  simp only[ik,gw,ra set g.day r,decide_eq_true_eq]
theorem y9(set:Int):∀ (l:List cT),ik set none l=gw set set l
 | []=>rfl
 | g::r=>by
  simp only[ik,gw,ra set g.day r];by_cases h:(a6 g.day set 40000&&a6 g.shown 0 60000)=true
  ·have:¬ g.day<set:=by
    simp only[a6,Bool.and_eq_true,decide_eq_true_eq]at h;omega
   simp[h,this]
  ·simp[h]
theorem Ia(s:bK):wa s=hU s:=by
 unfold wa hU;rw[iY,iY,y9]
 grind
theorem BR(b:List bB)(w:bB):mb w=bV b w:=by
 unfold mb oH bV;simp only[mc,iY]
 grind
theorem H9(b:List bK)(x:bK):eH b x=if dM x.name (b.map (·.name))=0 then wa x else dM x.name (b.map (·.name)):=by
 rw[Ia];unfold eH dM;simp only[List.any_map];have:((fun y=>decide (y=x.name))∘fun s:bK=>s.name)=fun y:bK=>decide (y.name=x.name):=rfl;rw[this]
 grind
def iM(c:kV):Int×Int×Int:=
  if e6 c=0 then
    (let p:=a5 eH [] c.av 0
     if p.2=0 then (let p:=a5 kI [] c.rows 0
      if p.2=0 then (0,0,0) else (3,p.1,p.2)) else (2,p.1,p.2))
  else (1,0,e6 c)
theorem vT(c:kV):e6 c=if a6 c.av.length 1 7&&a6 c.rows.length 1 6 then (if a6 c.tS 1 50&&(a6 c.fC 0 200&&a6 c.err 0 2000) then spread 0 200000 [c.hold] 0 else 7) else 3:=by
 unfold e6;rw[iY]
 grind
theorem Cz{l:List Row}{i:Nat}{p:Row}(hi:i≠0)(h:l[i-1]?=some p):pO (l.take i)=p:=by
 have:i=(i-1)+1:=by omega
 rw[this,List.take_succ,h];simp[pO]
theorem Ft{l:List Row}{i:Nat}{p:Row}(hi:i≠0)(h:l[i-1]?=some p):0<=(i:Int)-1/\(l.map Row.cells)[((i:Int)-1).toNat]?=some p.cells:=by
 have:((i:Int)-1).toNat=i-1:=by omega
 rw[this];exact⟨by omega,by simp[h]⟩
theorem TB(c:kV):aX Tryz.prog 21 [c.d] (w6 (iM c)):=by
 refine aB Tryz.func21 rfl (ft:=T3) 1 fun {σ} Y st=>?_;conv=>whnf
 repeat' (first
  | (refine ah (jR _ _ _) rfl rfl ?_;conv=>whnf)
  | (refine ak (jR _ _ _) rfl 1 rfl ?_;conv=>whnf)
  | (refine al (jR _ _ _) rfl rfl ?_;conv=>whnf)
  | (refine aw (jR _ _ _) rfl 1 rfl ?_;conv=>whnf)
  | (refine ah (tK c.hold 0 200000) rfl rfl ?_;conv=>whnf)
  | (refine ak (tK c.hold 0 200000) rfl 1 rfl ?_;conv=>whnf)
  | (refine al (tK c.hold 0 200000) rfl rfl ?_;conv=>whnf)
  | (refine aw (tK c.hold 0 200000) rfl 1 rfl ?_;conv=>whnf)
  | (refine af ?_;conv=>whnf)
  | (refine ag (fun h=>?_) (fun h=>?_)<;>conv=>whnf))
 all_goals first
  | (refine an 0 rfl ⟨⟨?_,rfl⟩,rfl⟩;rw[iM,vT];grind [bL,w6])
  | skip
 have h0:e6 c=0:=by rw[vT];simp_all
 obtain⟨qD,Jl⟩:=qv h0;have hE:iM c=(if (a5 eH [] c.av 0).2=0 then (if (a5 kI [] c.rows 0).2=0 then (0,0,0) else (3,(a5 kI [] c.rows 0).1,(a5 kI [] c.rows 0).2)) else (2,(a5 eH [] c.av 0).1,(a5 eH [] c.av 0).2)):=by simp[iM,h0]
 rw[hE];refine ba (T:=tys) ao (by exact ai mixed ao (by decide +kernel)) c.av (fun i (_:Unit)=>⟨[(1,.ptr 1 0),(6,.sl 68 1 0 i),(7,.d (i64 i))],[(1,.box (.dd c.cells)),(68,.arr 1 (.dd (((c.av.take i).map (·.name)).map fun s=>[.str s])))],st⟩) (fun i r _=>a5 eH [] c.av 0=a5 eH (c.av.take i) r i) ()
  ((Wk.born 6 68 1 rfl rfl rfl).trans aI) rfl ?_ ?_
 ·intro i x r _ hx hi hr he
  rw[a5]at he;have vh:c.av.take (i+1)=c.av.take i ++ [x]:=by rw[List.take_succ,hx];rfl
  have hE:=H9 (c.av.take i) x;conv=>whnf
  refine ag (fun _=>?_) (fun h=>absurd hi (by simpa using h));conv=>whnf
  refine au hx ?_;conv=>whnf
  refine ak (ds:=[.str x.name,BN ((c.av.take i).map (·.name))]) (I1 x.name ((c.av.take i).map (·.name)) (by simp;omega)) rfl 1 (aG rfl (aG (cB rfl (by simp;omega)) rfl)) ?_;conv=>whnf
  refine au hx ?_;conv=>whnf
  refine aK rfl ?_;conv=>whnf
  refine ny.mk (by simp[a7.len];omega) ?_;conv=>whnf
  refine bc (by simp[a7.len,a7.part,a7.cons,V.cells];omega) ?_;conv=>whnf
  have Jo:min i c.av.length=i:=by omega
  generalize dM x.name ((c.av.take i).map (·.name))=F at hE ⊢;have next:∀ {dm:St σ},eH (c.av.take i) x=0->Wk dm ⟨[(1,.ptr 1 0),(6,.sl 68 1 0 (i+1)),(7,.d (i64 (i+1:Nat)))],[(1,.box (.dd c.cells)),(68,.arr 1 (.dd (((c.av.take i).map (·.name)).map (fun s=>[D.str s]) ++ [[.str x.name]])))],st⟩ ->
    ∃ lu:Unit,a5 eH [] c.av 0=a5 eH (c.av.take (i+1)) r ((i+1:Nat):Int)/\Wk dm ⟨[(1,.ptr 1 0),(6,.sl 68 1 0 (i+1)),(7,.d (i64 (i+1:Nat)))],[(1,.box (.dd c.cells)),(68,.arr 1 (.dd (((c.av.take (i+1)).map (·.name)).map fun s=>[.str s])))],st⟩:=by
   intro dm hs hw;rw[if_pos hs,<- vh]at he;refine⟨(),he,?_⟩;rw[vh];simpa using hw
  refine ag (fun h2=>?_) (fun h2=>?_)
  ·have h2:F=0:=by simpa using h2
   rw[if_pos h2]at hE;conv=>whnf
   refine au hx ?_;conv=>whnf
   refine ah (TN x) rfl rfl ?_;conv=>whnf
   refine ag (fun h3=>?_) (fun h3=>?_)
   ·have h3:wa x≠0:=by simpa using h3
    conv=>whnf
    refine an 0 rfl ⟨⟨?_,rfl⟩,rfl⟩;rw[he,hE];simp[h3,bL,w6]
   ·have h3:wa x=0:=by simpa using h3
    conv=>whnf
    refine af ?_;conv=>whnf
    exact next (by rw[hE,h3]) (Wk.sub ⟨rfl,by simp[PX.get,a7.len,a7.part,a7.cons,V.cells,Jo],rfl,trivial⟩ ⟨rfl,by simp[PX.get,a7.app,a7.part,a7.cons,V.cells,Jo,List.take_take],trivial⟩)
  ·have h2:F≠0:=by simpa using h2
   rw[if_neg h2]at hE;conv=>whnf
   refine ag (fun h3=>?_) (fun h3=>absurd h2 (by simpa using h3));conv=>whnf
   refine an 0 rfl ⟨⟨?_,rfl⟩,rfl⟩;rw[he,hE];simp[h2,bL,w6]
 intro _ he;rw[List.take_length,a5]at he;rw[he];simp only[if_true];conv=>whnf
 refine ag (fun h=>absurd h (by simp)) (fun _=>?_);conv=>whnf
 refine ba (T:=tys) ao (by exact ai mixed ao (by decide +kernel)) c.rows (fun i (_:Unit)=>⟨[(1,.ptr 1 0),(9,.d (i64 i))],[(1,.box (.dd c.cells))],st⟩) (fun i r _=>a5 kI [] c.rows 0=a5 kI (c.rows.take i) r i) ()
  aI rfl ?_ ?_
 ·intro i x r _ hx hi hr he
  rw[a5]at he;have vh:c.rows.take (i+1)=c.rows.take i ++ [x]:=by rw[List.take_succ,hx];rfl
  conv=>whnf
  refine ag (fun _=>?_) (fun h=>absurd hi (by simpa using h));conv=>whnf
  refine au hx ?_;conv=>whnf
  repeat' (first
   | (refine ah (jR _ _ _) rfl rfl ?_;conv=>whnf)
   | (refine ak (jR _ _ _) rfl 1 rfl ?_;conv=>whnf)
   | (refine al (jR _ _ _) rfl rfl ?_;conv=>whnf)
   | (refine aw (jR _ _ _) rfl 1 rfl ?_;conv=>whnf)
   | (refine af ?_;conv=>whnf)
   | (refine ag (fun h=>?_) (fun h=>?_)<;>conv=>whnf))
  all_goals first
   | (refine an 0 rfl ⟨⟨?_,rfl⟩,rfl⟩;rw[he];grind [kI,bL,w6])
   | skip
  ·rename_i k1 k2
   have Sx:i≠0:=by simp at h;omega
   have hp:=List.getElem?_eq_getElem (l:=c.rows) (i:=i-1) (by omega);generalize c.rows[i-1]=p at hp;have Zk:=Cz Sx hp;repeat' (first
    | (refine ah (jR _ _ _) rfl rfl ?_;conv=>whnf)
    | (refine ak (jR _ _ _) rfl 1 rfl ?_;conv=>whnf)
    | (refine al (jR _ _ _) rfl rfl ?_;conv=>whnf)
    | (refine aw (jR _ _ _) rfl 1 rfl ?_;conv=>whnf)
    | (refine bY p.cells (Ft Sx hp) ?_;conv=>whnf)
    | (refine af ?_;conv=>whnf)
    | (refine ag (fun h=>?_) (fun h=>?_)<;>conv=>whnf))
   all_goals first
    | (refine an 0 rfl ⟨⟨?_,rfl⟩,rfl⟩;rw[he];grind [kI,bL,w6])
    | (rw[if_pos (by grind [kI]),<- vh]at he;exact⟨(),he,aI⟩)
  ·rename_i k1 k2
   have Sx:i=0:=by simp at h;omega
   subst Sx;rw[if_pos (by simp[kI,pO];simp[a6]at k1 k2;simp[a6,k1,k2];omega),<- vh]at he;exact⟨(),he,aI⟩
 ·intro _ he
  rw[List.take_length,a5]at he;rw[he];conv=>whnf
  refine ag (fun h=>absurd h (by simp)) (fun _=>?_);conv=>whnf
  exact ae
theorem uO(c:Case):bx c=if (iM c.chain).2.2=0 then lg c else iM c.chain:=by
 unfold bx iM vZ;by_cases h0:e6 c.chain=0
 ·simp only[h0,if_true]
  grind
 ·simp[h0]
theorem sZ{c:kV}(h:(iM c).2.2=0):c.av.length<=7/\c.rows.length<=6:=by
 apply qv;unfold iM at h;by_cases h0:e6 c=0
 ·exact h0
 ·rw[if_neg h0]at h;exact h
theorem OH(c:Case):aX Tryz.prog 5 [c.d] (w6 (bx c)):=by
 refine aB Tryz.func5 rfl (ft:=Ys) 1 fun {σ} Y st=>?_;conv=>whnf
 refine ah (ds:=[c.chain.d]) (TB c.chain) rfl rfl ?_;rw[uO];have hlen:=sZ (c:=c.chain);generalize iM c.chain=q at hlen ⊢;obtain⟨q1,q2,q3⟩:=q;conv=>whnf
 refine ag (fun h0=>?_) (fun h0=>?_)
 ·conv=>whnf
  refine an 0 rfl ⟨⟨?_,rfl⟩,rfl⟩;have h0:q3≠0:=by simpa using h0
  simp[h0,bL,w6]
 have h0:q3=0:=by simpa using h0
 rw[if_pos h0];obtain⟨qD,Jl⟩:=hlen h0;conv=>whnf
 repeat' (first
  | (refine ah (jR _ _ _) rfl rfl ?_;conv=>whnf)
  | (refine ak (jR _ _ _) rfl 1 rfl ?_;conv=>whnf)
  | (refine al (jR _ _ _) rfl rfl ?_;conv=>whnf)
  | (refine aw (jR _ _ _) rfl 1 rfl ?_;conv=>whnf)
  | (refine af ?_;conv=>whnf)
  | (refine ag (fun h=>?_) (fun h=>?_)<;>conv=>whnf))
 all_goals first
  | (refine an 0 rfl ⟨⟨?_,rfl⟩,rfl⟩;grind [lg,bL,w6])
  | skip
 refine ba (T:=tys) ao (by exact ai mixed ao (by decide +kernel)) c.chain.av (fun i (_:Unit)=>⟨[(1,.ptr 1 0),(9,.d (i64 i))],[(1,.box (.dd c.cells))],st⟩) (fun i r _=>(c.chain.av.any fun s=>decide (s.set>c.day))=r.any fun s=>decide (s.set>c.day)) ()
  aI rfl ?_ ?_
 ·intro i x r _ hx hi hr he
  rw[List.any_cons]at he;conv=>whnf
  refine ag (fun _=>?_) (fun h=>absurd hi (by simpa using h));conv=>whnf
  refine au hx ?_;conv=>whnf
  refine ag (fun h1=>?_) (fun h1=>?_)
  ·conv=>whnf
   refine an 0 rfl ⟨⟨?_,rfl⟩,rfl⟩;have h1:x.set>c.day:=by simpa using h1
   rw[decide_eq_true h1,Bool.true_or]at he;simp_all[lg,bL,w6]
  ·conv=>whnf
   refine af ?_;conv=>whnf
   have h1:¬ x.set>c.day:=by simpa using h1
   rw[decide_eq_false h1,Bool.false_or]at he;exact⟨(),he,aI⟩
 intro _ wI;replace wI:(c.chain.av.any fun s=>decide (s.set>c.day))=false:=wI;conv=>whnf
 refine ag (fun h=>absurd h (by simp)) (fun _=>?_);conv=>whnf
 repeat' (first
  | (refine ah (jR _ _ _) rfl rfl ?_;conv=>whnf)
  | (refine ak (jR _ _ _) rfl 1 rfl ?_;conv=>whnf)
  | (refine al (jR _ _ _) rfl rfl ?_;conv=>whnf)
  | (refine aw (jR _ _ _) rfl 1 rfl ?_;conv=>whnf)
  | (refine af ?_;conv=>whnf)
  | (refine ag (fun h=>?_) (fun h=>?_)<;>conv=>whnf))
 all_goals first
  | (refine an 0 rfl ⟨⟨?_,rfl⟩,rfl⟩;rw[lg,wI];grind [bL,w6])
  | skip
 have hw:c.aD.length<=6:=by
  have:a6 (c.aD.length:Nat) 1 6=true:=by simp_all
  simp only[a6,Bool.and_eq_true,decide_eq_true_eq]at this;omega
 have hE:lg c=(if (a5 bV [] c.aD 0).2=0 then (0,0,0) else (6,(a5 bV [] c.aD 0).1,(a5 bV [] c.aD 0).2)):=by
  refine yb ?_ ?_ ?_ wI ?_<;>simp_all
 rw[hE];refine ba (T:=tys) ao (by exact ai mixed ao (by decide +kernel)) c.aD (fun i (_:Unit)=>⟨[(1,.ptr 1 0),(10,.d (i64 i))],[(1,.box (.dd c.cells))],st⟩) (fun i r _=>a5 bV [] c.aD 0=a5 bV (c.aD.take i) r i) ()
  aI rfl ?_ ?_
 ·intro i x r _ hx hi hr he
  rw[a5,<- BR]at he;have vh:c.aD.take (i+1)=c.aD.take i ++ [x]:=by rw[List.take_succ,hx];rfl
  conv=>whnf
  refine ag (fun _=>?_) (fun h=>absurd hi (by simpa using h));conv=>whnf
  refine au hx ?_;conv=>whnf
  refine ah (TC x) rfl rfl ?_;conv=>whnf
  refine ag (fun h1=>?_) (fun h1=>?_)
  ·conv=>whnf
   refine an 0 rfl ⟨⟨?_,rfl⟩,rfl⟩;have h1:mb x≠0:=by simpa using h1
   rw[he];simp[h1,bL,w6]
  ·conv=>whnf
   refine af ?_;conv=>whnf
   have h1:mb x=0:=by simpa using h1
   rw[if_pos h1,<- vh]at he;exact⟨(),he,aI⟩
 ·intro _ he
  rw[List.take_length,a5]at he;rw[he];conv=>whnf
  refine ag (fun h=>absurd h (by simp)) (fun _=>?_);conv=>whnf
  exact ae
def je(set off:Int)(new:Int×Int)(gs:List cT):Nat->Int->List (Int×(Int×Int))
 | 0,_=>[]
 | n+1,wear=>match nQ set off wear new gs with
  | none=>je set off new gs n (wear+1)
  | some f=>(wear,f)::je set off new gs n (wear+1)
def ll(s:bK)(off:Int)(gs:List cT):List (Int×(Int×Int)):=je s.set off (s.new.lo,s.new.hi) gs (s.wear.hi+1-s.wear.lo).toNat s.wear.lo
def wi(t:Int×(Int×Int)):D:=.agg [i64 t.1,i64 t.2.1,i64 t.2.2]
def cZ(s:bK)(off:Int):List D:=s.cells ++ [i64 off]
structure lq(s:bK)(off:Int)(gs:List cT):Prop where
 off:0<=off/\off<=1000000
 Sa:Ln s
 YA:∀ g∈gs,y7 g
 len:gs.length<1000000
theorem D0{wear day set:Int}(hw:0<=wear/\wear<=1000000)(hd:0<=day/\day<=1000000)(hs:0<=set/\set<=1000000) : -1000000000000<=wear*(day-set)/\wear*(day-set)<=1000000000000:=by
 have:=CE (a:=wear) (b:=day-set) 1000000 1000000 (by omega) (by omega);omega
theorem yw(s:bK)(off:Int)(gs:List cT)(h:lq s off gs):Yields Tryz.prog 144 [.ref (cZ s off),.ref [fZ gs]] ((ll s off gs).map fun t=>([.d (wi t)],[])):=by
 intro γ Y g0 Q fD;obtain⟨nq,⟨EW,rk,RK⟩,hg,hlen⟩:=h;refine cX mixed ao Tryz.func144 rfl (ft:=KH) (args:=[.yld,.d (.ref (cZ s off)),.d (.ref [fZ gs])]) (show qC KH Tryz.f144 3=true from by decide +kernel) ?_;replace fD:=fD.np;generalize Y.np=Y at fD ⊢;conv=>whnf
 refine bP (T:=tys) ao (by exact ai mixed ao (by decide +kernel)) (α:=Int×γ)
  (fun x=>⟨[(0,.yld),(1,.d (.ref (cZ s off))),(2,.d (.ref [fZ gs])),(4,.d (i64 x.1))],[],x.2⟩)
  (fun x=>s.wear.lo<=x.1/\x.1<=max s.wear.lo (s.wear.hi+1)/\iterate Y ((je s.set off (s.new.lo,s.new.hi) gs (s.wear.hi+1-x.1).toNat x.1).map fun t=>([.d (wi t)],[])) x.2 Q) (fun x=>(s.wear.hi+1-x.1).toNat) (s.wear.lo,g0)
  aI ⟨by simp only;omega,by simp only;omega,fD⟩ ?_
 clear fD g0;rintro ⟨wear,g0⟩ ⟨h1,h2,fD⟩;simp only at h1 h2 fD;conv=>whnf
 refine ag (fun hb=>?_) (fun hb=>?_)
 ·have hb:wear<=s.wear.hi:=by simpa using hb
  obtain⟨n,hn⟩:∃ n,(s.wear.hi+1-wear).toNat=n+1:=⟨(s.wear.hi-wear).toNat,by omega⟩;have so:(s.wear.hi+1-(wear+1)).toNat=n:=by omega
  rw[hn,je]at fD;conv=>whnf
  refine ba (T:=tys) ao (by exact ai mixed ao (by decide +kernel)) gs (fun i (p:Int×Int)=>⟨[(0,.yld),(1,.d (.ref (cZ s off))),(2,.d (.ref [fZ gs])),(4,.d (i64 wear)),(5,.ptr 5 0),(26,.d (fZ gs)),(27,.d (i64 gs.length)),(28,.d (i64 i))],[(5,.box (.dd [i64 wear,i64 p.1,i64 p.2]))],g0⟩)
   (fun i r p=>(0<=p.1/\p.1<=p.2/\p.2<=1000000)/\(∀ g∈r,y7 g)/\nQ s.set off wear (s.new.lo,s.new.hi) gs=nQ s.set off wear p r) (s.new.lo,s.new.hi)
   aI ⟨by simp only;omega,hg,rfl⟩ ?_ ?_
  ·rintro i x r ⟨p1,p2⟩ hx hi hr ⟨hp,Jg,he⟩
   simp only at hp;obtain⟨g1,g2,g3,g4⟩:=Jg x (by simp);have EO:=D0 (wear:=wear) (day:=x.day) (set:=s.set) (by omega) (by omega) (by omega);rw[nQ]at he;simp only[ua]at he;conv=>whnf
   refine ag (fun _=>?_) (fun h=>absurd hi (by simpa using h));conv=>whnf
   refine au hx ?_;conv=>whnf
   refine af ?_;conv=>whnf
   refine af ?_;conv=>whnf
   refine ag (fun h3=>?_) (fun h3=>?_)
   ·have h3:x.shown>off:=by simpa using h3
    simp only[h3,if_true]at he;conv=>whnf
    refine af ?_;conv=>whnf
    refine af ?_;conv=>whnf
    refine af ?_;conv=>whnf
    refine af ?_;conv=>whnf
    refine ag (fun h4=>?_) (fun h4=>?_)
    ·have h4:max p1 (x.shown-off+wear*(x.day-s.set))>min p2 (x.shown+off+wear*(x.day-s.set)):=by simpa using h4
     simp only[h4,if_true]at he;rw[he]at fD;conv=>whnf
     refine af ?_;conv=>whnf
     exact⟨(wear+1,g0),by simp only;omega,⟨by simp only;omega,by simp only;omega,by simp only;rw[so];exact fD⟩,aI⟩
    ·have h4:¬ max p1 (x.shown-off+wear*(x.day-s.set))>min p2 (x.shown+off+wear*(x.day-s.set)):=by simpa using h4
     simp only[h4,if_false]at he;conv=>whnf
     refine af ?_;conv=>whnf
     exact⟨(max p1 (x.shown-off+wear*(x.day-s.set)),min p2 (x.shown+off+wear*(x.day-s.set))),⟨by simp only;omega,fun g hg=>Jg g (by simp[hg]),he⟩,aI⟩
   ·have h3:¬ x.shown>off:=by simpa using h3
    simp only[h3,if_false]at he;conv=>whnf
    refine af ?_;conv=>whnf
    refine af ?_;conv=>whnf
    refine ag (fun h4=>?_) (fun h4=>?_)
    ·have h4:p1>min p2 (x.shown+off+wear*(x.day-s.set)):=by simpa using h4
     simp only[h4,if_true]at he;rw[he]at fD;conv=>whnf
     refine af ?_;conv=>whnf
     exact⟨(wear+1,g0),by simp only;omega,⟨by simp only;omega,by simp only;omega,by simp only;rw[so];exact fD⟩,aI⟩
    ·have h4:¬ p1>min p2 (x.shown+off+wear*(x.day-s.set)):=by simpa using h4
     simp only[h4,if_false]at he;conv=>whnf
     refine af ?_;conv=>whnf
     exact⟨(p1,min p2 (x.shown+off+wear*(x.day-s.set))),⟨by simp only;omega,fun g hg=>Jg g (by simp[hg]),he⟩,aI⟩
  ·rintro ⟨p1,p2⟩ ⟨hp,_,he⟩
   rw[nQ]at he;rw[he]at fD;simp only[List.map_cons]at fD;conv=>whnf
   refine ag (fun h=>absurd h (by simp)) (fun _=>?_);conv=>whnf
   refine uF (ds:=[wi (wear,(p1,p2))]) fD rfl rfl (fun s' Hi=>?_) (fun s' Hi=>?_)
   ·conv=>whnf
    refine af ?_;conv=>whnf
    exact⟨(wear+1,s'),by simp only;omega,⟨by simp only;omega,by simp only;omega,by simp only;rw[so];exact Hi⟩,aI⟩
   ·conv=>whnf
    exact an 0 rfl ⟨rfl,Hi⟩
 ·have hb:¬ wear<=s.wear.hi:=by simpa using hb
  rw[show(s.wear.hi+1-wear).toNat=0 by omega,je]at fD;conv=>whnf
  exact an 0 rfl ⟨rfl,fD⟩
theorem OW(s:bK)(off:Int)(gs:List cT):aX Tryz.prog 114 [.agg (cZ s off),fZ gs] (.clo 144 [.ref (cZ s off),.ref [fZ gs]]):=by
 refine aB Tryz.func114 rfl (ft:=Pd) 2 fun {σ} Y st=>?_;conv=>whnf
 exact an 1 rfl ⟨⟨rfl,rfl⟩,rfl⟩
theorem TO(t:Int×(Int×Int))(s:bK)(off day:Int)(h1:0<=t.1/\t.1<=1000000)(h2:0<=t.2.1/\t.2.1<=1000000)(h3:0<=t.2.2/\t.2.2<=1000000)(h4:0<=day/\day<=1000000)(h5:0<=s.set/\s.set<=1000000) :
  aX Tryz.prog 115 [wi t,.agg (cZ s off),i64 day] (Span.d ⟨vF s.set t.2.1 t.1 day,vF s.set t.2.2 t.1 day⟩):=by
 refine aB Tryz.func115 rfl (ft:=Pe) 3 fun {σ} Y st=>?_;conv=>whnf
 have EO:=D0 (wear:=t.1) (day:=day) (set:=s.set) h1 h4 h5;refine af ?_;conv=>whnf
 refine af ?_;conv=>whnf
 refine af ?_;conv=>whnf
 refine af ?_;conv=>whnf
 exact ae
def fp(set day:Int)(acc:Span×Bool)(t:Int×(Int×Int)):Span×Bool:=
 let out:=if acc.2 then acc.1 else ⟨vF set t.2.1 t.1 day,vF set t.2.2 t.1 day⟩
 (⟨min out.lo (vF set t.2.1 t.1 day),max out.hi (vF set t.2.2 t.1 day)⟩,true)
theorem wh(set off day:Int)(new:Int×Int)(gs:List cT):∀ (n:Nat) (wear:Int) (acc:Span×Bool),zD set off day new gs n wear acc=(je set off new gs n wear).foldl (fp set day) acc
 | 0,wear,acc=>rfl
 | n+1,wear,acc=>by
  simp only[zD,je]
  cases nQ set off wear new gs with
  | none=>exact wh set off day new gs n (wear+1) acc
  | some f=>exact wh set off day new gs n (wear+1) _
theorem tB(s:bK)(off:Int)(gs:List cT)(day:Int):dU s off gs day=(ll s off gs).foldl (fp s.set day) (⟨0,0⟩,false):=wh _ _ _ _ _ _ _ _
theorem qB{set off:Int}{new:Int×Int}{gs:List cT}(hn:0<=new.1/\new.1<=new.2/\new.2<=1000000):∀ (n:Nat) (wear:Int),0<=wear->wear+n<=1000000 -> ∀ t∈je set off new gs n wear,(0<=t.1/\t.1<=1000000)/\(0<=t.2.1/\t.2.1<=1000000)/\(0<=t.2.2/\t.2.2<=1000000)
 | 0,wear,h0,h1,t,ht=>by cases ht
 | n+1,wear,h0,h1,t,ht=>by
  simp only[je]at ht;split at ht
  ·exact qB hn n (wear+1) (by omega) (by omega) t ht
  ·rename_i f hf
   rcases List.mem_cons.1 ht with rfl|ht
   ·have:=Ay hn.2.1 hf
    simp only;omega
   ·exact qB hn n (wear+1) (by omega) (by omega) t ht
theorem wj{s:bK}{off:Int}{gs:List cT}(h:lq s off gs):∀ t∈ll s off gs,(0<=t.1/\t.1<=1000000)/\(0<=t.2.1/\t.2.1<=1000000)/\(0<=t.2.2/\t.2.2<=1000000):=by
 obtain⟨nq,⟨EW,rk,RK⟩,hg,hlen⟩:=h;exact qB (by simp only;omega) _ _ (by omega) (by omega)
theorem OK(s:bK)(off day:Int)(h:lq s off s.aY)(Mm:0<=day/\day<=1000000) :
  aX Tryz.prog 77 [.agg (cZ s off),i64 day] (.tup [(dU s off s.aY day).1.d,.bool (dU s off s.aY day).2]):=by
 refine aB Tryz.func77 rfl (ft:=UO) 2 fun {σ} Y st=>?_;conv=>whnf
 refine ah (OW s off s.aY) rfl rfl ?_;conv=>whnf
 refine ji ao (by exact ai mixed ao (by decide +kernel)) (by exact ai mixed ao (by decide +kernel)) rfl 1500000 1600000 [2,3,4,5] (yw s off s.aY h)
  (fun(x:Span×Bool)=>([(1500000,.box (.dd (cZ s off))),(1500001,.box (.dd [i64 day])),(1500002,.box (.dd x.1.cells)),(1500003,.box (.dd [.bool x.2]))],st))
  (fun rest x=>(∀ t∈rest,(0<=t.1/\t.1<=1000000)/\(0<=t.2.1/\t.2.1<=1000000)/\(0<=t.2.2/\t.2.2<=1000000))/\dU s off s.aY day=rest.foldl (fp s.set day) x) (⟨0,0⟩,false)
  rfl rfl rfl ⟨wj h,tB s off s.aY day⟩ ?_ ?_
 ·rintro t rest ⟨out,is⟩ ⟨eg,he⟩ Q hQ _
  refine⟨⟨rfl,rfl⟩,?_⟩;rw[List.foldl_cons]at he;obtain⟨h1,h2,h3⟩:=eg t (by simp);conv=>whnf
  refine ah (ds:=[wi t,.agg (cZ s off),i64 day]) (TO t s off day h1 h2 h3 Mm h.Sa.set) rfl rfl ?_;conv=>whnf
  have next:∀ (x':Span×Bool) {dm:St σ},x'=fp s.set day (out,is) t->Wk dm ⟨[],[(1500000,.box (.dd (cZ s off))),(1500001,.box (.dd [i64 day])),(1500002,.box (.dd x'.1.cells)),(1500003,.box (.dd [.bool x'.2]))],st⟩ ->
    ∃ x',Wk dm ⟨[],[(1500000,.box (.dd (cZ s off))),(1500001,.box (.dd [i64 day])),(1500002,.box (.dd x'.1.cells)),(1500003,.box (.dd [.bool x'.2]))],st⟩/\true=true/\Q (.d (.bool true)) [] (.go x'):=by
   intro x' dm hx hw;exact⟨x',hw,rfl,hQ x' ⟨fun u hu=>eg u (by simp[hu]),by rw[hx];exact he⟩⟩
  cases is with
  | false=>
   conv=>whnf
   exact next (⟨min (vF s.set t.2.1 t.1 day) (vF s.set t.2.1 t.1 day),max (vF s.set t.2.2 t.1 day) (vF s.set t.2.2 t.1 day)⟩,true) rfl aI
  | true=>
   conv=>whnf
   refine ag (fun h5=>?_) (fun h5=>?_)
   ·conv=>whnf
    have h5:vF s.set t.2.1 t.1 day=out.lo/\vF s.set t.2.2 t.1 day=out.hi:=by simpa using h5
    refine next (⟨min (vF s.set t.2.1 t.1 day) (vF s.set t.2.1 t.1 day),max (vF s.set t.2.2 t.1 day) (vF s.set t.2.2 t.1 day)⟩,true) ?_ aI
    simp only[fp,h5.1,h5.2,if_true]
   ·conv=>whnf
    exact next (⟨min out.lo (vF s.set t.2.1 t.1 day),max out.hi (vF s.set t.2.2 t.1 day)⟩,true) rfl aI
 ·rintro ⟨out,is⟩ ⟨_,he⟩
  conv=>whnf
  rw[he];exact ae
theorem TG(s:bK)(off:Int)(gs:List cT)(h:lq s off gs):aX Tryz.prog 81 [.agg (cZ s off),fZ gs] (.bool (!(ll s off gs).isEmpty)):=by
 refine aB Tryz.func81 rfl (ft:=UR) 2 fun {σ} Y st=>?_;conv=>whnf
 refine ah (OW s off gs) rfl rfl ?_;conv=>whnf
 refine ji ao (by exact ai mixed ao (by decide +kernel)) (by exact ai mixed ao (by decide +kernel)) rfl 1500000 1600000 [2,4] (yw s off gs h)
  (fun(_:Unit)=>([(1500000,.box (.dd (cZ s off))),(1500001,.box (.dd [.bool false]))],st))
  (fun rest _=>(ll s off gs).isEmpty=rest.isEmpty) () rfl rfl rfl rfl ?_ ?_
 ·rintro t rest _ he Q _ hQ
  refine⟨⟨rfl,rfl⟩,?_⟩;have he:(ll s off gs).isEmpty=false:=he;conv=>whnf
  refine⟨[(1500000,.box (.dd (cZ s off))),(1500001,.box (.dd [.bool true]))],st,aI,rfl,hQ _ _ _ ?_⟩;conv=>whnf
  rw[he];exact ae
 ·intro _ he
  have he:(ll s off gs).isEmpty=true:=he;conv=>whnf
  rw[he];exact ae
end Go.PX
