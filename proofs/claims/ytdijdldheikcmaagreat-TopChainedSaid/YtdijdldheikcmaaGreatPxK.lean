import Derived.Test.YtdijdldheikcmaaGreatPxJ
import Derived.Test.YtdijdldheikcmaaGreatPxI
import Derived.Laws.RangeString
set_option linter.all false
set_option maxRecDepth 10000
namespace Go.PX
open Go.Proofs
def uE(s:bH):Int:=
 if bc s.eh 1 40&&bc s.set 0 40000 && !decide (spread 1 60000 [s.new] 0=7) && !decide (spread 0 20 [s.wear] 0=7) then
  (if decide (spread 1 60000 [s.new] 0=0)&&decide (spread 0 20 [s.wear] 0=0) then (if 6<s.aQ.length then 3 else gF s.set none s.aQ) else 2)
 else 7
theorem Q1(s:bH):aW Tryz.prog 66 [s.d] (i64 (uE s)):=by
 refine aA Tryz.func66 rfl (ft:=R2) 1 fun {σ} Y st=>?_;conv=>whnf
 refine aj (ds:=[s.new.d,i64 1,i64 60000]) (tn s.new 1 60000) rfl rfl ?_;conv=>whnf
 refine aj (ds:=[s.wear.d,i64 0,i64 20]) (tn s.wear 0 20) rfl rfl ?_;conv=>whnf
 unfold uE;generalize spread 1 60000 [s.new] 0=a;generalize spread 0 20 [s.wear] 0=b;refine ae (ds:=[i64 s.eh,i64 1,i64 40]) (iX _ _ _) rfl rfl ?_;conv=>whnf
 have seven:∀ {c:Bool},c=false -> ∀ {x:Int},(if c=true then x else 7)=7:=by
  intro c hc x;rw[hc];rfl
 have GL:∀ {c:Bool} {x:Int} {h:ar},c=false->sU [V.d (i64 7)] h st fun v h' s'=>(v=V.d (i64 (if c=true then x else 7))/\h' = [])/\s'=st:=by
  intro c x h hc;rw[seven hc];exact af
 refine ai (fun h1=>?_) (fun h1=>?_)
 ·conv=>whnf
  exact GL (by simp at h1;simp[h1])
 ·conv=>whnf
  refine ae (ds:=[i64 s.set,i64 0,i64 40000]) (iX _ _ _) rfl rfl ?_;conv=>whnf
  refine ai (fun h2=>?_) (fun h2=>?_)
  ·conv=>whnf
   exact GL (by simp at h2;simp[h2])
  ·conv=>whnf
   refine ai (fun h3=>?_) (fun h3=>?_)
   ·conv=>whnf
    exact GL (by simp at h3;simp[h3])
   ·conv=>whnf
    refine ai (fun h4=>?_) (fun h4=>?_)
    ·conv=>whnf
     exact GL (by simp at h4;simp[h4])
    ·conv=>whnf
     have hc:(bc s.eh 1 40&&bc s.set 0 40000 && !decide (a=7) && !decide (b=7))=true:=by
      simp at h1 h2 h3 h4;simp[h1,h2,h3,h4]
     rw[if_pos hc];refine ai (fun h5=>?_) (fun h5=>?_)
     ·conv=>whnf
      rw[if_neg (by simp at h5;simp[h5])];exact af
     ·conv=>whnf
      refine ai (fun h6=>?_) (fun h6=>?_)
      ·conv=>whnf
       rw[if_neg (by simp at h6;simp[h6])];exact af
      ·conv=>whnf
       rw[if_pos (by simp at h5 h6;simp[h5,h6])];refine ae (ds:=[s.d]) (Ms s) rfl rfl ?_;conv=>whnf
       exact af
def zV(l:List ByteArray):D:=.vs (l.map fun s=>[.str s])
theorem Mr(l:List ByteArray)(x:ByteArray)(hl:l.length<1000000):aW Tryz.prog 105 [zV l,.str x] (i64 (indexOf (fun y=>decide (y=x)) l 0)):=by
 refine aA Tryz.func105 rfl (ft:=MM) 2 fun {σ} Y st=>?_;conv=>whnf
 refine bV (T:=tys) ao (by exact ah mixed ao (by decide +kernel)) (α:=Nat)
  (fun i=>⟨[(0,.d (zV l)),(1,.d (.str x)),(5,.d (i64 i))],[],st⟩) (fun i=>i<=l.length/\indexOf (fun y=>decide (y=x)) l 0=indexOf (fun y=>decide (y=x)) (l.drop i) i) (fun i=>l.length-i) 0
  av (by simp) ?_
 rintro i ⟨hi,he⟩;conv=>whnf
 refine ai (fun hb=>?_) (fun hb=>?_)
 ·have hb:i<l.length:=by simpa using hb
  have hd:l.drop i=l[i]::l.drop (i+1):=List.drop_eq_getElem_cons hb;rw[hd,indexOf]at he;conv=>whnf
  refine bZ [.str l[i]] (by simp[hb]) ?_;conv=>whnf
  refine ai (fun h1=>?_) (fun h1=>?_)
  ·conv=>whnf
   rw[if_pos h1]at he;rw[he];exact af
  ·conv=>whnf
   rw[if_neg (by rw[h1];simp)]at he;refine ab ?_;conv=>whnf
   exact⟨i+1,by omega,⟨hb,by rw[he];rfl⟩,Wk.sub ⟨rfl,rfl,rfl,trivial⟩ trivial⟩
 ·have hb:¬ i<l.length:=by simpa using hb
  conv=>whnf
  rw[List.drop_of_length_le (by omega)]at he;rw[he];exact af
theorem gD(lo hi:Int):aW Tryz.prog 33 [i64 lo,i64 hi] (Span.d ⟨lo,hi⟩):=by
 refine aA Tryz.func33 rfl (ft:=Rt) 2 fun {σ} Y st=>?_;conv=>whnf
 exact af
def oS(b:List UInt8)(i:Nat)(c:UInt8):Bool:=
 (decide (97<=c.toNat)&&decide (c.toNat<=122))||(decide (c.toNat=45)&&decide (i≠0)&&decide (i+1≠b.length)&&(match b[i-1]? with
  | some p=>decide (p.toNat≠45)
  | none=>false))
def ld(b:List UInt8):Nat->List UInt8->Bool
 | _,[]=>true
 | i,c::r=>oS b i c&&ld b (i+1) r
def gW(s:ByteArray):Bool:=bc s.size 1 14&&ld s.data.toList 0 s.data.toList
theorem Mq(s:ByteArray):aW Tryz.prog 104 [.str s] (.bool (gW s)):=by
 refine aA Tryz.func104 rfl (ft:=ML) 1 fun {σ} Y st=>?_;have cM:s.size=s.data.toList.length:=by simp
 conv=>whnf
 refine ae (ds:=[i64 s.size,i64 1,i64 14]) (pN _ _ _) rfl rfl ?_;conv=>whnf
 refine ai (fun h0=>?_) (fun h0=>?_)
 ·conv=>whnf
  have:gW s=false:=by simp at h0;simp[gW,h0]
  rw[this];exact af
 ·have h0:bc s.size 1 14=true:=by simpa using h0
  have hlen:s.data.toList.length<=14:=by
   simp only[bc,Bool.and_eq_true,decide_eq_true_eq]at h0;omega
  have hn:gW s=ld s.data.toList 0 s.data.toList:=by simp[gW,h0]
  rw[hn];conv=>whnf
  refine bV (T:=tys) ao (by exact ah mixed ao (by decide +kernel)) (α:=Nat)
   (fun i=>⟨[(0,.d (.str s)),(3,.d (i64 i))],[],st⟩) (fun i=>i<=s.data.toList.length/\ld s.data.toList 0 s.data.toList=ld s.data.toList i (s.data.toList.drop i)) (fun i=>s.data.toList.length-i) 0
   av (by simp) ?_
  rintro i ⟨hi,he⟩;conv=>whnf
  refine ai (fun hc=>?_) (fun hc=>?_)
  ·have hc:i<s.data.toList.length:=by
    have:=of_decide_eq_true hc;omega
   obtain⟨c,GW⟩:∃ c,s.data.toList[i]?=some c:=⟨_,List.getElem?_eq_getElem hc⟩;have hd:s.data.toList.drop i=c::s.data.toList.drop (i+1):=by
    rw[List.drop_eq_getElem_cons hc];rw[List.getElem?_eq_getElem hc]at GW;rw[Option.some.inj GW]
   rw[hd,ld]at he;have bad:oS s.data.toList i c=false->sU [V.d (.bool false)] [] st fun v h' s'=>(v=V.d (.bool (ld s.data.toList 0 s.data.toList))/\h' = [])/\s'=st:=by
    intro hb;rw[he,hb];exact af
   have JS:oS s.data.toList i c=true -> ∀ {dj:St σ},Wk dj ⟨[(0,.d (.str s)),(3,.d (i64 ((i:Int)+1)))],[],st⟩ -> ∃ y,s.data.toList.length-y<s.data.toList.length-i/\(y<=s.data.toList.length/\ld s.data.toList 0 s.data.toList=ld s.data.toList y (s.data.toList.drop y)) /\
     Wk dj ⟨[(0,.d (.str s)),(3,.d (i64 (y:Nat)))],[],st⟩:=by
    intro hb dj hw;exact⟨i+1,by omega,⟨hc,by rw[he,hb];rfl⟩,by simpa using hw⟩
   conv=>whnf
   refine cD c (by simpa using GW) ?_;conv=>whnf
   refine ai (fun h1=>?_) (fun h1=>?_)
   ·have h1:97<=c.toNat:=by
     have:=of_decide_eq_true h1;omega
    conv=>whnf
    refine cD c (by simpa using GW) ?_;conv=>whnf
    refine ai (fun h2=>?_) (fun h2=>?_)
    ·have h2:c.toNat<=122:=by
      have:=of_decide_eq_true h2;omega
     conv=>whnf
     refine ab ?_;conv=>whnf
     exact JS (by simp[oS,h1,h2]) av
    ·have h2:¬ c.toNat<=122:=by
      have:=of_decide_eq_false h2;omega
     conv=>whnf
     refine cD c (by simpa using GW) ?_;conv=>whnf
     refine ai (fun k1=>?_) (fun k1=>?_)
     ·have k1:c.toNat≠45:=by
       have:=k1;simp at this;omega
      conv=>whnf
      exact bad (by simp[oS,k1];omega)
     ·have k1:c.toNat=45:=by
       have:=k1;simp at this;omega
      conv=>whnf
      refine ai (fun k2=>?_) (fun k2=>?_)
      ·have k2:i=0:=by
        have:=of_decide_eq_true k2;omega
       conv=>whnf
       exact bad (by simp[oS,k1,k2])
      ·have k2:i≠0:=by
        have:=of_decide_eq_false k2;omega
       conv=>whnf
       refine ab ?_;conv=>whnf
       refine ai (fun k3=>?_) (fun k3=>?_)
       ·have k3:i+1=s.data.toList.length:=by
         have:=of_decide_eq_true k3;omega
        conv=>whnf
        exact bad (by simp only[oS,k1,k3];simp)
       ·have k3:i+1≠s.data.toList.length:=by
         have:=of_decide_eq_false k3;omega
        obtain⟨p,hp⟩:∃ p,s.data.toList[i-1]?=some p:=⟨_,List.getElem?_eq_getElem (by omega)⟩;conv=>whnf
        refine ab ?_;conv=>whnf
        refine bo (by simp;omega) ?_;conv=>whnf
        refine cD p (by rw[show((i:Int)-1).toNat=i-1 by omega];exact hp) ?_;conv=>whnf
        refine ai (fun k4=>?_) (fun k4=>?_)
        ·have k4:p.toNat=45:=by
          have:=of_decide_eq_true k4;omega
         conv=>whnf
         exact bad (by simp only[oS,hp,k4,k1];simp)
        ·have k4:p.toNat≠45:=by
          have:=of_decide_eq_false k4;omega
         conv=>whnf
         refine ab ?_;conv=>whnf
         exact JS (by simp only[oS,hp,k1];simp[k2,k4];omega) av
   ·have h1:¬ 97<=c.toNat:=by
     have:=of_decide_eq_false h1;omega
    conv=>whnf
    refine cD c (by simpa using GW) ?_;conv=>whnf
    refine ai (fun k1=>?_) (fun k1=>?_)
    ·have k1:c.toNat≠45:=by
      have:=k1;simp at this;omega
     conv=>whnf
     exact bad (by simp[oS,k1];omega)
    ·have k1:c.toNat=45:=by
      have:=k1;simp at this;omega
     conv=>whnf
     refine ai (fun k2=>?_) (fun k2=>?_)
     ·have k2:i=0:=by
       have:=of_decide_eq_true k2;omega
      conv=>whnf
      exact bad (by simp[oS,k1,k2])
     ·have k2:i≠0:=by
       have:=of_decide_eq_false k2;omega
      conv=>whnf
      refine ab ?_;conv=>whnf
      refine ai (fun k3=>?_) (fun k3=>?_)
      ·have k3:i+1=s.data.toList.length:=by
        have:=of_decide_eq_true k3;omega
       conv=>whnf
       exact bad (by simp only[oS,k1,k3];simp)
      ·have k3:i+1≠s.data.toList.length:=by
        have:=of_decide_eq_false k3;omega
       obtain⟨p,hp⟩:∃ p,s.data.toList[i-1]?=some p:=⟨_,List.getElem?_eq_getElem (by omega)⟩;conv=>whnf
       refine ab ?_;conv=>whnf
       refine bo (by simp;omega) ?_;conv=>whnf
       refine cD p (by rw[show((i:Int)-1).toNat=i-1 by omega];exact hp) ?_;conv=>whnf
       refine ai (fun k4=>?_) (fun k4=>?_)
       ·have k4:p.toNat=45:=by
         have:=of_decide_eq_true k4;omega
        conv=>whnf
        exact bad (by simp only[oS,hp,k4,k1];simp)
       ·have k4:p.toNat≠45:=by
         have:=of_decide_eq_false k4;omega
        conv=>whnf
        refine ab ?_;conv=>whnf
        exact JS (by simp only[oS,hp,k1];simp[k2,k4];omega) av
  ·have hc:¬ i<s.data.toList.length:=by
    have:=of_decide_eq_false hc;omega
   conv=>whnf
   rw[List.drop_of_length_le (by omega)]at he;rw[he];exact af
def eo(x:ByteArray)(before:List ByteArray):Int:=
 if gW x then (if before.any fun y=>decide (y=x) then 5 else 0) else 6
theorem JR(x:ByteArray)(l:List ByteArray)(hl:l.length<1000000):aW Tryz.prog 65 [.str x,zV l] (i64 (eo x l)):=by
 refine aA Tryz.func65 rfl (ft:=R1) 2 fun {σ} Y st=>?_;conv=>whnf
 refine ae (ds:=[.str x]) (Mq x) rfl rfl ?_;conv=>whnf
 refine ai (fun h1=>?_) (fun h1=>?_)
 ·have h1:gW x=false:=by simpa using h1
  conv=>whnf
  simp only[eo,h1];exact af
 ·have h1:gW x=true:=by simpa using h1
  conv=>whnf
  refine ae (ds:=[zV l,.str x]) (Mr l x hl) rfl rfl ?_;conv=>whnf
  have uZ:=eY (fun y=>decide (y=x)) l 0 (by omega);refine ai (fun h2=>?_) (fun h2=>?_)
  ·have h2:(l.any fun y=>decide (y=x))=true:=by rw[<- uZ];exact h2
   conv=>whnf
   simp only[eo,h1,h2];exact af
  ·have h2:(l.any fun y=>decide (y=x))=false:=by rw[<- uZ];exact h2
   conv=>whnf
   simp only[eo,h1,h2];exact af
structure cb where
 depth:Span
 bk:Span
 current:Span
 bm:Span
def cb.cells(w:cb):List D:=[i64 w.depth.lo,i64 w.depth.hi,i64 w.bk.lo,i64 w.bk.hi,i64 w.current.lo,i64 w.current.hi,i64 w.bm.lo,i64 w.bm.hi]
def cb.d(w:cb):D:=.agg w.cells
def lA:List Int->Int->Int
 | [],e=>e
 | x::r,e=>if x=7 then 7 else lA r (if x≠0 then x else e)
def nj(w:cb):List Int:=[spread 1 1000 [w.depth] 0,spread 0 80 [w.bk] 0,spread 0 80 [w.current] 0,spread 0 150 [w.bm] 0]
def lu(w:cb):Int:=lA (nj w) 0
theorem QQ(w:cb):aW Tryz.prog 18 [w.d] (i64 (lu w)):=by
 refine aA Tryz.func18 rfl (ft:=Re) 1 fun {σ} Y st=>?_;conv=>whnf
 refine aj (ds:=[w.depth.d,i64 1,i64 1000]) (tn _ _ _) rfl rfl ?_;conv=>whnf
 refine aj (ds:=[w.bk.d,i64 0,i64 80]) (tn _ _ _) rfl rfl ?_;conv=>whnf
 refine aj (ds:=[w.current.d,i64 0,i64 80]) (tn _ _ _) rfl rfl ?_;conv=>whnf
 refine aj (ds:=[w.bm.d,i64 0,i64 150]) (tn _ _ _) rfl rfl ?_;conv=>whnf
 unfold lu;obtain⟨l,hl⟩:∃ l,l=nj w:=⟨_,rfl⟩;have hlen:l.length=4:=by rw[hl];rfl
 rw[<- hl];refine bV (T:=tys) ao (by exact ah mixed ao (by decide +kernel)) (α:=Nat×Int)
  (fun x=>⟨[(3,.sl 18 1 0 4),(4,.d (i64 x.2)),(5,.d (i64 x.1))],[(18,.arr 1 (.dd (l.map fun n=>[i64 n])))],st⟩) (fun x=>x.1<=l.length/\lA l 0=lA (l.drop x.1) x.2) (fun x=>l.length-x.1) (0,0)
  (by rw[hl];exact Wk.sub ⟨rfl,rfl,rfl,trivial⟩ ⟨rfl,trivial⟩) (by simp) ?_
 rintro ⟨i,e⟩ ⟨hi,he⟩;simp only at hi he;conv=>whnf
 refine ai (fun hb=>?_) (fun hb=>?_)
 ·have hb:i<l.length:=by
   have:=of_decide_eq_true hb;simp at this;omega
  have hd:l.drop i=l[i]::l.drop (i+1):=List.drop_eq_getElem_cons hb;rw[hd,lA]at he;conv=>whnf
  refine bo (by simp;omega) ?_;conv=>whnf
  refine cD [i64 l[i]] (by simp[hb]) ?_;conv=>whnf
  refine ai (fun h1=>?_) (fun h1=>?_)
  ·have h1:l[i]=7:=of_decide_eq_true h1
   conv=>whnf
   refine bo (by simp;omega) ?_;conv=>whnf
   refine cD [i64 l[i]] (by simp[hb]) ?_;conv=>whnf
   rw[if_pos h1]at he;rw[he,h1];exact af
  ·have h1:l[i]≠7:=of_decide_eq_false h1
   rw[if_neg h1]at he;conv=>whnf
   refine bo (by simp;omega) ?_;conv=>whnf
   refine cD [i64 l[i]] (by simp[hb]) ?_;conv=>whnf
   refine ai (fun h2=>?_) (fun h2=>?_)
   ·have h2:l[i]≠0:=by
     intro e;rw[e]at h2;simp at h2
    rw[if_pos h2]at he;conv=>whnf
    refine bo (by simp;omega) ?_;conv=>whnf
    refine cD [i64 l[i]] (by simp[hb]) ?_;conv=>whnf
    refine ab ?_;conv=>whnf
    exact⟨(i+1,l[i]),by simp only;omega,⟨hb,he⟩,Wk.sub ⟨rfl,rfl,rfl,trivial⟩ ⟨rfl,trivial⟩⟩
   ·have h2:l[i]=0:=by
     have:=h2;simp at this;exact this
    rw[if_neg (by simp[h2])]at he;conv=>whnf
    refine ab ?_;conv=>whnf
    exact⟨(i+1,e),by simp only;omega,⟨hb,he⟩,Wk.sub ⟨rfl,rfl,rfl,trivial⟩ ⟨rfl,trivial⟩⟩
 ·have hb:¬ i<l.length:=by
   have:=of_decide_eq_false hb;simp at this;omega
  conv=>whnf
  rw[List.drop_of_length_le (by omega)]at he;rw[he];exact af
structure r5 where
 bk:Int
 current:Int
 bm:Int
 yh:Int
structure Case where
 chain:jo
 ee:r5
 day:Int
 aE:List cb
def nH(l:List cb):D:=.vs (l.map cb.cells)
def Case.cells(c:Case):List D:=[fQ c.chain.au,i64 c.chain.dm,i64 c.chain.gH,i64 c.chain.err,i64 c.chain.hold.lo,i64 c.chain.hold.hi,ot c.chain.rows,
 i64 c.ee.bk,i64 c.ee.current,i64 c.ee.bm,i64 c.ee.yh,i64 c.day,nH c.aE]
def Case.d(c:Case):D:=.agg c.cells
def kH(off day:Int):List bH->Int->Int
 | [],e=>e
 | s::r,e=>if e=0 then kH off day r (if (dw s off s.aQ day).2 then e else 8) else e
theorem l4(lo hi n:Int):(decide (n<lo)||decide (n>hi)) = !bc n lo hi:=by
 simp only[bc];by_cases h1:lo<=n<;>by_cases h2:n<=hi<;>simp[h1,h2]<;>omega
theorem aW.cast{P:Program}{f:FuncId}{ds:List D}{r r':D}(h:aW P f ds r)(e:r=r'):aW P f ds r':=by subst e;exact h
theorem cK(lo hi a:Int):aW Tryz.prog 71 [i64 lo,i64 hi,.vs [[i64 a]]] (.bool (!bc a lo hi)):=by
 exact aW.cast (JL lo hi [a] (by simp)) (by simp[l4])
theorem iJ(lo hi a b:Int):aW Tryz.prog 71 [i64 lo,i64 hi,.vs [[i64 a],[i64 b]]] (.bool (!(bc a lo hi&&bc b lo hi))):=by
 exact aW.cast (JL lo hi [a,b] (by simp)) (by simp[l4])
theorem xf(lo hi a b c:Int):aW Tryz.prog 71 [i64 lo,i64 hi,.vs [[i64 a],[i64 b],[i64 c]]] (.bool (!(bc a lo hi&&(bc b lo hi&&bc c lo hi)))):=by
 exact aW.cast (JL lo hi [a,b,c] (by simp)) (by simp[l4])
theorem Q0(s:Span):aW Tryz.prog 140 [s.d] (.bool (decide (s.lo>s.hi))):=by
 refine aA Tryz.func140 rfl (ft:=Nf) 1 fun {σ} Y st=>?_;conv=>whnf
 exact af
theorem Mp(l:List Span)(g:FuncId)(aM:List D)(p:Span->Bool)(hl:l.length<4000000000000000000)(hp:∀ x∈l,aW Tryz.prog g (x.d::aM) (.bool (p x))) :
  aW Tryz.prog 153 [dc l,.clo g aM] (i64 (indexOf p l 0)):=by
 refine aA Tryz.func153 rfl (ft:=Nr) 2 fun {σ} Y st=>?_;conv=>whnf
 refine wO (T:=tys) ao (by exact ah mixed ao (by decide +kernel)) l (fun i (_:Unit)=>⟨[(0,.d (dc l)),(1,.d (.clo g aM)),(7,.d (i64 l.length)),(8,.d (i64 i))],[],st⟩) (fun r _=>(∀ x∈r,aW Tryz.prog g (x.d::aM) (.bool (p x)))/\indexOf p l 0=indexOf p r (l.length-r.length)) ()
  (Wk.sub ⟨rfl,rfl,by simp[PX.get],rfl,trivial⟩ trivial) ⟨hp,by simp⟩ ?_ ?_
 ·intro i x r _ hx hi hr ⟨hp,he⟩
  rw[indexOf]at he;conv=>whnf
  refine ai (fun _=>?_) (fun h=>absurd hi (by simpa using h));conv=>whnf
  refine ax hx ?_;conv=>whnf
  refine ae (ds:=x.d::aM) (hp x (by simp)) rfl rfl ?_;conv=>whnf
  refine ai (fun h1=>?_) (fun h1=>?_)
  ·conv=>whnf
   rw[if_pos h1]at he;rw[he];have:((l.length:Int)-((x::r).length:Nat))=i:=by simp;omega
   rw[this];exact af
  ·conv=>whnf
   rw[if_neg (by simp[h1])]at he;refine ab ?_;conv=>whnf
   exact⟨(),⟨fun y hy=>hp y (by simp[hy]),by rw[he];congr 1;simp;omega⟩,Wk.sub ⟨rfl,rfl,rfl,rfl,trivial⟩ trivial⟩
 ·intro _ ⟨_,he⟩
  conv=>whnf
  refine ai (fun h=>absurd h (by simp)) (fun _=>?_);conv=>whnf
  rw[he];exact af
theorem QZ(l:List Span)(g:FuncId)(aM:List D)(p:Span->Bool)(hl:l.length<4000000000000000000)(hp:∀ x∈l,aW Tryz.prog g (x.d::aM) (.bool (p x))) :
  aW Tryz.prog 139 [dc l,.clo g aM] (.bool (l.any p)):=by
 refine aA Tryz.func139 rfl (ft:=Nd) 2 fun {σ} Y st=>?_;conv=>whnf
 refine ae (Mp l g aM p hl hp) rfl rfl ?_;conv=>whnf
 refine al 0 rfl ⟨⟨?_,rfl⟩,rfl⟩;rw[<- eY p l 0 (by omega)];rfl
theorem JM(l:List Span)(hl:l.length<4000000000000000000):aW Tryz.prog 98 [dc l] (.bool (l.any fun s=>decide (s.lo>s.hi))):=by
 refine aA Tryz.func98 rfl (ft:=Sw) 1 fun {σ} Y st=>?_;conv=>whnf
 refine ae (QZ l 140 [] (fun s=>decide (s.lo>s.hi)) hl fun x _=>Q0 x) rfl rfl ?_;conv=>whnf
 exact af
def eJ(c:jo):Int:=
 if bc c.au.length 1 7&&bc c.rows.length 1 6 then
  (if bc c.dm 1 50&&(bc c.gH 0 200&&(bc c.err 0 2000&&(bc c.hold.lo 0 200000&&bc c.hold.hi 0 200000))) then (if c.hold.lo>c.hold.hi then 2 else 0) else 7)
 else 3
theorem xg(a b:Int):aW Tryz.prog 98 [.vs [[i64 a,i64 b]]] (.bool (decide (a>b))):=
 aW.cast (JM [⟨a,b⟩] (by simp)) (by simp)
theorem xh(a b c d:Int):aW Tryz.prog 98 [.vs [[i64 a,i64 b],[i64 c,i64 d]]] (.bool (decide (a>b)||decide (c>d))):=
 aW.cast (JM [⟨a,b⟩,⟨c,d⟩] (by simp)) (by simp)
theorem QM(c:jo):aW Tryz.prog 92 [c.d] (i64 (eJ c)):=by
 refine aA Tryz.func92 rfl (ft:=So) 1 fun {σ} Y st=>?_;conv=>whnf
 repeat' (first
  | (refine ae (cK _ _ _) rfl rfl ?_;conv=>whnf)
  | (refine ag (cK _ _ _) rfl 1 rfl ?_;conv=>whnf)
  | (refine aj (cK _ _ _) rfl rfl ?_;conv=>whnf)
  | (refine aq (cK _ _ _) rfl 1 rfl ?_;conv=>whnf)
  | (refine ae (iJ _ _ _ _) rfl rfl ?_;conv=>whnf)
  | (refine ag (iJ _ _ _ _) rfl 1 rfl ?_;conv=>whnf)
  | (refine aj (iJ _ _ _ _) rfl rfl ?_;conv=>whnf)
  | (refine aq (iJ _ _ _ _) rfl 1 rfl ?_;conv=>whnf)
  | (refine ae (xg _ _) rfl rfl ?_;conv=>whnf)
  | (refine ag (xg _ _) rfl 1 rfl ?_;conv=>whnf)
  | (refine aj (xg _ _) rfl rfl ?_;conv=>whnf)
  | (refine aq (xg _ _) rfl 1 rfl ?_;conv=>whnf)
  | (refine ab ?_;conv=>whnf)
  | (refine ai (fun h=>?_) (fun h=>?_)<;>conv=>whnf))
 all_goals (refine al 0 rfl ⟨⟨?_,rfl⟩,rfl⟩;first|(simp_all[bF,eJ];done)|(simp_all[bF,eJ];grind)|grind [bF,eJ])
def fE(set:Int):Int->List cH->Int
 | _,[]=>0
 | last,g::r=>if bc g.day set 40000&&bc g.shown 0 60000 then (if g.day<last then 2 else fE set g.day r) else 7
def jt(s:bH):Int:=
 if bc s.eh 1 40&&(bc s.set 0 40000&&(bc s.new.lo 1 60000&&bc s.new.hi 1 60000&&(bc s.wear.lo 0 20&&bc s.wear.hi 0 20))) then
  (if s.new.lo>s.new.hi\/s.wear.lo>s.wear.hi then 2 else (if 6<s.aQ.length then 3 else fE s.set s.set s.aQ))
 else 7
theorem QO(s:bH)(off:Int):aW Tryz.prog 96 [.agg (s.cells ++ [i64 off])] (i64 (jt s)):=by
 refine aA Tryz.func96 rfl (ft:=Su) 1 fun {σ} Y st=>?_;conv=>whnf
 repeat' (first
  | (refine ae (cK _ _ _) rfl rfl ?_;conv=>whnf)
  | (refine ag (cK _ _ _) rfl 1 rfl ?_;conv=>whnf)
  | (refine aj (cK _ _ _) rfl rfl ?_;conv=>whnf)
  | (refine aq (cK _ _ _) rfl 1 rfl ?_;conv=>whnf)
  | (refine ae (iJ _ _ _ _) rfl rfl ?_;conv=>whnf)
  | (refine ag (iJ _ _ _ _) rfl 1 rfl ?_;conv=>whnf)
  | (refine aj (iJ _ _ _ _) rfl rfl ?_;conv=>whnf)
  | (refine aq (iJ _ _ _ _) rfl 1 rfl ?_;conv=>whnf)
  | (refine ae (xh _ _ _ _) rfl rfl ?_;conv=>whnf)
  | (refine ag (xh _ _ _ _) rfl 1 rfl ?_;conv=>whnf)
  | (refine aj (xh _ _ _ _) rfl rfl ?_;conv=>whnf)
  | (refine aq (xh _ _ _ _) rfl 1 rfl ?_;conv=>whnf)
  | (refine ab ?_;conv=>whnf)
  | (refine ai (fun h=>?_) (fun h=>?_)<;>conv=>whnf))
 all_goals first
  | (refine al 0 rfl ⟨⟨?_,rfl⟩,rfl⟩;grind [bF,jt])
  | skip
 have hlen:s.aQ.length<=6:=by simp_all;omega
 have hF:jt s=fE s.set s.set s.aQ:=by grind [jt]
 rw[hF];refine wO (T:=tys) ao (by exact ah mixed ao (by decide +kernel)) s.aQ (fun i (last:Int)=>⟨[(1,.ptr 1 0),(3,.d (i64 last)),(63,.d (fp s.aQ)),(64,.d (i64 s.aQ.length)),(65,.d (i64 i))],[(1,.box (.dd (s.cells ++ [i64 off])))],st⟩) (fun r last=>fE s.set s.set s.aQ=fE s.set last r) s.set
  av rfl ?_ ?_
 ·intro i g r last hx hi hr he
  rw[fE]at he;conv=>whnf
  refine ai (fun _=>?_) (fun h=>absurd hi (by simpa using h));conv=>whnf
  refine ax hx ?_;conv=>whnf
  repeat' (first
   | (refine ae (cK _ _ _) rfl rfl ?_;conv=>whnf)
   | (refine ag (cK _ _ _) rfl 1 rfl ?_;conv=>whnf)
   | (refine aj (cK _ _ _) rfl rfl ?_;conv=>whnf)
   | (refine aq (cK _ _ _) rfl 1 rfl ?_;conv=>whnf)
   | (refine ab ?_;conv=>whnf)
   | (refine ai (fun h=>?_) (fun h=>?_)<;>conv=>whnf))
  all_goals first
   | (refine al 0 rfl ⟨⟨?_,rfl⟩,rfl⟩;grind [bF])
   | exact⟨g.day,by grind,Wk.sub ⟨rfl,rfl,rfl,rfl,rfl,trivial⟩ ⟨rfl,trivial⟩⟩
 ·intro last he
  conv=>whnf
  refine ai (fun h=>absurd h (by simp)) (fun _=>?_);conv=>whnf
  rw[he];exact af
end Go.PX
namespace Go.PX
open Go.Proofs
open Go
theorem QN(s:bH)(n:bH):aW Tryz.prog 95 [s.d,.ref n.cells] (.bool (decide (s.name=n.name))):=by
 refine aA Tryz.func95 rfl (ft:=Sr) 2 fun {σ} Y st=>?_;conv=>whnf
 exact af
theorem GP(s:bH)(c:Case):aW Tryz.prog 97 [s.d,.ref c.cells] (.bool (decide (s.set>c.day))):=by
 refine aA Tryz.func97 rfl (ft:=Sv) 2 fun {σ} Y st=>?_;conv=>whnf
 exact af
theorem QY(l:List bH)(g:FuncId)(aM:List D)(p:bH->Bool)(hl:l.length<4000000000000000000)(hp:∀ x∈l,aW Tryz.prog g (x.d::aM) (.bool (p x))) :
  aW Tryz.prog 138 [fQ l,.clo g aM] (i64 (indexOf p l 0)):=by
 refine aA Tryz.func138 rfl (ft:=Nc) 2 fun {σ} Y st=>?_;conv=>whnf
 refine wO (T:=tys) ao (by exact ah mixed ao (by decide +kernel)) l (fun i (_:Unit)=>⟨[(0,.d (fQ l)),(1,.d (.clo g aM)),(7,.d (i64 l.length)),(8,.d (i64 i))],[],st⟩) (fun r _=>(∀ x∈r,aW Tryz.prog g (x.d::aM) (.bool (p x)))/\indexOf p l 0=indexOf p r (l.length-r.length)) ()
  av ⟨hp,by simp⟩ ?_ ?_
 ·intro i x r _ hx hi hr ⟨hp,he⟩
  rw[indexOf]at he;conv=>whnf
  refine ai (fun _=>?_) (fun h=>absurd hi (by simpa using h));conv=>whnf
  refine ax hx ?_;conv=>whnf
  refine ae (ds:=x.d::aM) (hp x (by simp)) rfl rfl ?_;conv=>whnf
  refine ai (fun h1=>?_) (fun h1=>?_)
  ·conv=>whnf
   rw[if_pos h1]at he;rw[he];have:((l.length:Int)-((x::r).length:Nat))=i:=by simp;omega
   rw[this];exact af
  ·conv=>whnf
   rw[if_neg (by simp[h1])]at he;refine ab ?_;conv=>whnf
   exact⟨(),⟨fun y hy=>hp y (by simp[hy]),by rw[he];congr 1;simp;omega⟩,Wk.sub ⟨rfl,rfl,rfl,rfl,trivial⟩ trivial⟩
 ·intro _ ⟨_,he⟩
  conv=>whnf
  refine ai (fun h=>absurd h (by simp)) (fun _=>?_);conv=>whnf
  rw[he];exact af
theorem Es(l:List bH)(g:FuncId)(aM:List D)(p:bH->Bool)(hl:l.length<4000000000000000000)(hp:∀ x∈l,aW Tryz.prog g (x.d::aM) (.bool (p x))) :
  aW Tryz.prog 94 [fQ l,.clo g aM] (.bool (l.any p)):=by
 refine aA Tryz.func94 rfl (ft:=Sq) 2 fun {σ} Y st=>?_;conv=>whnf
 refine ae (QY l g aM p hl hp) rfl rfl ?_;conv=>whnf
 refine al 0 rfl ⟨⟨?_,rfl⟩,rfl⟩;rw[<- eY p l 0 (by omega)];rfl
def iK:Nat->List UInt8->Bool
 | last,[]=>decide (last≠45)
 | last,c::r=>if 97<=c.toNat/\c.toNat<=122 then iK c.toNat r else if c.toNat=45/\last≠45 then iK 45 r else false
theorem v5(b:List UInt8):∀ (r:List UInt8) (i last:Nat),r ≠ []->r=b.drop i->(i=0->last=45)->(∀ p,i≠0->b[i-1]?=some p->last=p.toNat)->iK last r=ld b i r
 | [],i,last,h,_,_,_=>absurd rfl h
 | c::r,i,last,_,hd,h0,h1=>by
  have hlen:i+1+r.length=b.length:=by
   have:=congrArg List.length hd;simp at this;omega
  have tG:b[i]?=some c:=by
   have:=congrArg (fun l=>l[0]?) hd;simpa using this.symm
  have hr:r=b.drop (i+1):=by
   have:=congrArg List.tail hd;simpa using this
  have ih:∀ B0,B0=c.toNat->r ≠ []->iK B0 r=ld b (i+1) r:=fun B0 hl eX=>
   v5 b r (i+1) B0 eX hr (fun h=>by omega) (fun p _ hp=>by simp at hp;rw[tG]at hp;cases hp;exact hl)
  have Ow:i≠0 -> ∃ p,b[i-1]?=some p/\last=p.toNat:=fun hi=>by
   have:i-1<b.length:=by omega
   exact⟨_,List.getElem?_eq_getElem this,h1 _ hi (List.getElem?_eq_getElem this)⟩
  simp only[iK,ld,oS];by_cases ha:97<=c.toNat/\c.toNat<=122
  ·rw[if_pos ha]
   simp only[ha.1,ha.2,decide_true,Bool.and_self,Bool.true_or,Bool.true_and];by_cases eX:r = []
   ·subst eX
    simp[iK,ld];omega
   ·exact ih _ rfl eX
  ·rw[if_neg ha]
   have hf:(decide (97<=c.toNat)&&decide (c.toNat<=122))=false:=by
    simp only[Bool.and_eq_false_iff,decide_eq_false_iff_not];omega
   rw[hf,Bool.false_or];by_cases hc:c.toNat=45
   ·by_cases hi:i=0
    ·have:=h0 hi
     simp[hc,hi,this]
    ·obtain⟨p,hp,hl⟩:=Ow hi
     rw[hp];by_cases qA:p.toNat=45
     ·simp[hc,hl,qA]
     ·by_cases eX:r = []
      ·have:i+1=b.length:=by subst eX;simpa using hlen
       subst eX;simp[hc,hl,qA,iK,this]
      ·have:i+1≠b.length:=by
        have:=List.length_pos_iff.2 eX;omega
       rw[if_pos ⟨hc,by rw[hl];exact qA⟩,ih 45 hc.symm eX];simp[hc,hi,qA,this]
   ·simp[hc]
theorem Fc(s:ByteArray):gW s=(decide (s.size<=14)&&iK 45 s.data.toList):=by
 have cM:s.size=s.data.toList.length:=by simp
 unfold gW bc
 cases hb:s.data.toList with
 | nil=>
  have:s.size=0:=by rw[cM,hb];rfl
  simp[this,iK]
 | cons c r=>
  rw[<- hb,v5 s.data.toList s.data.toList 0 45 (by rw[hb];simp) rfl (fun _=>rfl) (fun p h=>absurd rfl h)];have h1:1<=s.size:=by rw[cM,hb];simp
  have e1:decide ((1:Int)<=(s.size:Int))=true:=by simp;omega
  have e2:decide ((s.size:Int)<=14)=decide (s.size<=14):=by simp;omega
  rw[e1,e2];simp
theorem Ao(s:ByteArray)(i:Nat)(h:¬ (s.get! (i+0)).toNat<128):128<=(Utf8.decode s i).1:=by
 unfold Utf8.decode;simp only[h,if_false];split
 ·split
  ·simp only;omega
  ·simp[Utf8.runeError]
 ·split
  ·split
   ·rename_i h1
    simp only[Bool.and_eq_true,decide_eq_true_eq]at h1;simp only;omega
   ·simp[Utf8.runeError]
  ·split
   ·split
    ·rename_i h1
     simp only[Bool.and_eq_true,decide_eq_true_eq]at h1;simp only;omega
    ·simp[Utf8.runeError]
   ·simp[Utf8.runeError]
theorem JK(s:ByteArray):aW Tryz.prog 93 [.str s] (.bool (gW s)):=by
 refine aA Tryz.func93 rfl (ft:=Sp) 1 fun {σ} Y st=>?_;conv=>whnf
 refine bV (T:=tys) ao (by exact ah mixed ao (by decide +kernel)) (α:=Nat×Nat)
  (fun x=>⟨[(0,.d (.str s)),(3,.d (.int .i32 x.2)),(7,.it 7)],[(7,.iter s x.1)],st⟩) (fun x=>x.1<=s.size/\gW s=(decide (s.size<=14)&&iK x.2 (s.data.toList.drop x.1))) (fun x=>s.size-x.1) (0,45)
  av ⟨by simp,by rw[Fc];rfl⟩ ?_
 rintro ⟨p,last⟩ ⟨hp,he⟩;simp only at hp he;have cM:s.size=s.data.toList.length:=by simp
 conv=>whnf
 refine ai (fun h1=>?_) (fun h1=>?_)
 ·have h1:p<s.size:=of_decide_eq_true h1
  have hd:s.data.toList.drop p=s[p]::s.data.toList.drop (p+1):=by
   rw[List.drop_eq_getElem_cons (by omega)];rfl
  rw[hd,iK]at he;refine⟨?_⟩;by_cases hb:s[p].toNat<128
  ·rw[decode_ascii s p h1 hb]
   conv=>whnf
   refine ai (fun h2=>?_) (fun h2=>?_)
   ·have h2:97<=s[p].toNat:=by have:=of_decide_eq_true h2;omega
    conv=>whnf
    refine ai (fun h3=>?_) (fun h3=>?_)
    ·have h3:s[p].toNat<=122:=by have:=of_decide_eq_true h3;omega
     conv=>whnf
     rw[if_pos ⟨h2,h3⟩]at he;exact⟨(p+1,s[p].toNat),by simp only;omega,⟨h1,he⟩,av⟩
    ·have h3:¬ s[p].toNat<=122:=by have:=of_decide_eq_false h3;omega
     conv=>whnf
     rw[if_neg (by omega),if_neg (by omega)]at he;refine ai (fun h4=>?_) (fun h4=>?_)
     ·conv=>whnf
      rw[he,Bool.and_false];exact af
     ·exact absurd h4 (by simp;omega)
   ·have h2:¬ 97<=s[p].toNat:=by have:=of_decide_eq_false h2;omega
    conv=>whnf
    rw[if_neg (by omega)]at he;refine ai (fun h4=>?_) (fun h4=>?_)
    ·have h4:s[p].toNat≠45:=by simp at h4;omega
     conv=>whnf
     rw[if_neg (by omega)]at he;rw[he,Bool.and_false];exact af
    ·have h4:s[p].toNat=45:=by simp at h4;omega
     conv=>whnf
     refine ai (fun h5=>?_) (fun h5=>?_)
     ·have h5:last=45:=by have:=of_decide_eq_true h5;omega
      conv=>whnf
      rw[if_neg (by omega)]at he;rw[he,Bool.and_false];exact af
     ·have h5:last≠45:=by have:=of_decide_eq_false h5;omega
      conv=>whnf
      rw[if_pos ⟨h4,h5⟩]at he;exact⟨(p+1,45),by simp only;omega,⟨h1,he⟩,by rw[<- h4];exact av⟩
  ·have gG:=Ao s p (by
    have e:s.get! (p+0)=s[p]'h1:=by
     show s.get! p=_;simp[ByteArray.get!,getElem!_pos,h1];rfl
    rw[e];exact hb)
   generalize (Utf8.decode s p).1=c at gG;generalize (Utf8.decode s p).2=n;rw[if_neg (by omega),if_neg (by omega)]at he;conv=>whnf
   refine ai (fun h2=>?_) (fun h2=>?_)
   ·conv=>whnf
    refine ai (fun h3=>?_) (fun h3=>?_)
    ·have:=of_decide_eq_true h3;omega
    ·conv=>whnf
     refine ai (fun h4=>?_) (fun h4=>?_)
     ·conv=>whnf
      rw[he,Bool.and_false];exact af
     ·exact absurd h4 (by simp;omega)
   ·have:=of_decide_eq_false h2;omega
 ·have h1:¬ p<s.size:=of_decide_eq_false h1
  conv=>whnf
  have xy:s.data.toList.drop p = []:=List.drop_of_length_le (by omega);rw[xy,iK]at he;refine ai (fun h2=>?_) (fun h2=>?_)
  ·conv=>whnf
   refine al 0 rfl ⟨⟨?_,rfl⟩,rfl⟩;have h2:s.size<=14:=by have:=of_decide_eq_true h2;omega
   rw[he];show V.d (.bool (!decide ((last:Int)=45)))=_;simp[h2];omega
  ·conv=>whnf
   refine al 0 rfl ⟨⟨?_,rfl⟩,rfl⟩;have h2:¬ s.size<=14:=by have:=of_decide_eq_false h2;omega
   rw[he];simp[h2,bF]
end Go.PX
namespace Go.PX
open Go.Proofs
def a8{α:Type}(f:List α->α->Int):List α->List α->Int->Int×Int
 | _,[],_=>(0,0)
 | b,x::r,i=>if f b x=0 then a8 f (b ++ [x]) r (i+1) else (i,f b x)
def fc(b:List bH)(x:bH):Int:=if gW x.name then (if b.any (fun y=>decide (y.name=x.name)) then 5 else jt x) else 6
def tS(b:List Row):Row:=b.getLast?.getD ⟨0,0⟩
def l7(b:List Row)(r:Row):Int:=
 if bc r.scope 1 200&&bc r.holds 1 1000 then (if r.scope<=(tS b).scope\/r.holds<=(tS b).holds then 2 else 0) else 7
def cA(_:List cb)(w:cb):Int:=
 if bc w.depth.lo 1 1000&&bc w.depth.hi 1 1000&&(bc w.bk.lo 0 80&&bc w.bk.hi 0 80&&(bc w.current.lo 0 80&&bc w.current.hi 0 80&&(bc w.bm.lo 0 150&&bc w.bm.hi 0 150))) then
  (if w.depth.lo>w.depth.hi\/w.bk.lo>w.bk.hi\/w.current.lo>w.current.hi\/w.bm.lo>w.bm.hi then 2 else 0) else 7
def mu(c:Case):Int×Int×Int:=
  if bc c.ee.bk 0 10000&&(bc c.ee.current 0 10000&&bc c.ee.bm 0 10000)&&bc c.ee.yh 0 20 then
    (if bc c.day 0 40000 then
      (if c.chain.au.any (fun s=>decide (s.set>c.day)) then (5,0,2) else
        (if bc c.aE.length 1 6 then
          (let p:=a8 cA [] c.aE 0
           if p.2=0 then (0,0,0) else (6,p.1,p.2))
        else (6,0,3)))
    else (5,0,7))
  else (4,0,7)
def zE(c:Case):Int×Int×Int:=
 let p:=a8 l7 [] c.chain.rows 0
 if p.2=0 then mu c else (3,p.1,p.2)
def bJ(c:Case):Int×Int×Int:=
  if eJ c.chain=0 then
    (let p:=a8 fc [] c.chain.au 0
     if p.2=0 then zE c else (2,p.1,p.2))
  else (1,0,eJ c.chain)
def vj(p:Int×Int×Int):D:=.tup [i64 p.1,i64 p.2.1,i64 p.2.2]
theorem xi(a b c d e f g h:Int):aW Tryz.prog 98 [.vs [[i64 a,i64 b],[i64 c,i64 d],[i64 e,i64 f],[i64 g,i64 h]]] (.bool (decide (a>b)||(decide (c>d)||(decide (e>f)||decide (g>h))))):=
 aW.cast (JM [⟨a,b⟩,⟨c,d⟩,⟨e,f⟩,⟨g,h⟩] (by simp)) (by simp)
theorem oU{c:jo}(h:eJ c=0):c.au.length<=7/\c.rows.length<=6:=by
 unfold eJ bc at h;split at h
 ·rename_i h1
  simp only[Bool.and_eq_true,decide_eq_true_eq]at h1;omega
 ·cases h
theorem wi{c:Case}(h1:(bc c.ee.bk 0 10000&&(bc c.ee.current 0 10000&&bc c.ee.bm 0 10000))=true)(h2:bc c.ee.yh 0 20=true)(h3:bc c.day 0 40000=true)(h4:(c.chain.au.any fun s=>decide (s.set>c.day))=false)(h5:bc c.aE.length 1 6=true) :
  mu c=(if (a8 cA [] c.aE 0).2=0 then (0,0,0) else (6,(a8 cA [] c.aE 0).1,(a8 cA [] c.aE 0).2)):=by
 simp[mu,h1,h2,h3,h4,h5]
theorem Er(c:Case):aW Tryz.prog 49 [c.d] (vj (bJ c)):=by
 refine aA Tryz.func49 rfl (ft:=RJ) 1 fun {σ} Y st=>?_;conv=>whnf
 refine ae (QM c.chain) rfl rfl ?_;conv=>whnf
 refine ai (fun h0=>?_) (fun h0=>?_)
 ·conv=>whnf
  refine al 0 rfl ⟨⟨?_,rfl⟩,rfl⟩;have h0:eJ c.chain≠0:=by simpa using h0
  simp[bJ,h0,vj,bF]
 have h0:eJ c.chain=0:=by simpa using h0
 obtain⟨rF,Gj⟩:=oU h0;conv=>whnf
 have hE:bJ c=(if (a8 fc [] c.chain.au 0).2=0 then zE c else (2,(a8 fc [] c.chain.au 0).1,(a8 fc [] c.chain.au 0).2)):=by simp[bJ,h0]
 rw[hE];refine aZ (T:=tys) ao (by exact ah mixed ao (by decide +kernel)) c.chain.au (fun i (_:Unit)=>⟨[(1,.ptr 1 0),(20,.d (fQ c.chain.au)),(21,.d (i64 c.chain.au.length)),(22,.d (i64 i))],[(1,.box (.dd c.cells))],st⟩) (fun i r _=>a8 fc [] c.chain.au 0=a8 fc (c.chain.au.take i) r i) ()
  av rfl ?_ ?_
 ·intro i x r _ hx hi hr he
  rw[a8]at he;have u5:c.chain.au.take (i+1)=c.chain.au.take i ++ [x]:=by rw[List.take_succ,hx];rfl
  conv=>whnf
  refine ai (fun _=>?_) (fun h=>absurd hi (by simpa using h));conv=>whnf
  refine ax hx ?_;conv=>whnf
  refine ae (JK x.name) rfl rfl ?_;conv=>whnf
  refine ai (fun h1=>?_) (fun h1=>?_)
  ·conv=>whnf
   refine al 0 rfl ⟨⟨?_,rfl⟩,rfl⟩;have h1:gW x.name=false:=by simpa using h1
   rw[he];simp[fc,h1,bF,vj]
  have h1:gW x.name=true:=by simpa using h1
  conv=>whnf
  refine bo (by simp;omega) ?_;conv=>whnf
  refine bo (by cases c.chain.au<;>rfl) ?_;conv=>whnf
  refine ag (ds:=[fQ (c.chain.au.take i),.clo 95 [.ref x.cells]]) (Es (c.chain.au.take i) 95 [.ref x.cells] (fun y=>decide (y.name=x.name)) (by simp;omega) fun y _=>QN y x) rfl 1 (by show some _=some _;simp[fQ,List.map_take];rfl) ?_;conv=>whnf
  refine ai (fun h2=>?_) (fun h2=>?_)
  ·conv=>whnf
   refine al 0 rfl ⟨⟨?_,rfl⟩,rfl⟩;rw[he];simp[fc,h1,h2,bF,vj]
  conv=>whnf
  refine ae (QO x 0) rfl rfl ?_;conv=>whnf
  refine ai (fun h3=>?_) (fun h3=>?_)
  ·conv=>whnf
   refine al 0 rfl ⟨⟨?_,rfl⟩,rfl⟩;have h3:jt x≠0:=by simpa using h3
   rw[he];simp[fc,h1,h2,h3,bF,vj]
  have h3:jt x=0:=by simpa using h3
  conv=>whnf
  refine ab ?_;conv=>whnf
  have hs:fc (c.chain.au.take i) x=0:=by simp[fc,h1,h2,h3]
  rw[if_pos hs,<- u5]at he;exact⟨(),he,av⟩
 intro _ he;rw[List.take_length,a8]at he;rw[he];simp only[if_true];conv=>whnf
 refine ai (fun h=>absurd h (by simp)) (fun _=>?_);conv=>whnf
 have hR:zE c=(if (a8 l7 [] c.chain.rows 0).2=0 then mu c else (3,(a8 l7 [] c.chain.rows 0).1,(a8 l7 [] c.chain.rows 0).2)):=rfl;rw[hR];refine aZ (T:=tys) ao (by exact ah mixed ao (by decide +kernel)) c.chain.rows (fun i (last:Row)=>⟨[(1,.ptr 1 0),(7,.ptr 7 0),(53,.d (ot c.chain.rows)),(54,.d (i64 c.chain.rows.length)),(55,.d (i64 i))],[(1,.box (.dd c.cells)),(7,.box (.dd last.cells))],st⟩) (fun i r last=>last=tS (c.chain.rows.take i)/\a8 l7 [] c.chain.rows 0=a8 l7 (c.chain.rows.take i) r i) ⟨0,0⟩
  av ⟨rfl,rfl⟩ ?_ ?_
 ·intro i x r last hx hi hr ⟨We,he⟩
  rw[a8]at he;have u5:c.chain.rows.take (i+1)=c.chain.rows.take i ++ [x]:=by rw[List.take_succ,hx];rfl
  conv=>whnf
  refine ai (fun _=>?_) (fun h=>absurd hi (by simpa using h));conv=>whnf
  refine ax hx ?_;conv=>whnf
  repeat' (first
   | (refine ae (cK _ _ _) rfl rfl ?_;conv=>whnf)
   | (refine ag (cK _ _ _) rfl 1 rfl ?_;conv=>whnf)
   | (refine aj (cK _ _ _) rfl rfl ?_;conv=>whnf)
   | (refine aq (cK _ _ _) rfl 1 rfl ?_;conv=>whnf)
   | (refine ab ?_;conv=>whnf)
   | (refine ai (fun h=>?_) (fun h=>?_)<;>conv=>whnf))
  all_goals first
   | (refine al 0 rfl ⟨⟨?_,rfl⟩,rfl⟩;rw[he];grind [l7,bF,vj])
   | (rw[if_pos (by grind [l7]),<- u5]at he;exact⟨x,⟨by rw[u5];simp[tS],he⟩,av⟩)
 intro last ⟨_,he⟩;rw[List.take_length,a8]at he;rw[he];simp only[if_true];conv=>whnf
 refine ai (fun h=>absurd h (by simp)) (fun _=>?_);conv=>whnf
 repeat' (first
  | (refine ae (cK _ _ _) rfl rfl ?_;conv=>whnf)
  | (refine ag (cK _ _ _) rfl 1 rfl ?_;conv=>whnf)
  | (refine aj (cK _ _ _) rfl rfl ?_;conv=>whnf)
  | (refine aq (cK _ _ _) rfl 1 rfl ?_;conv=>whnf)
  | (refine ae (xf _ _ _ _ _) rfl rfl ?_;conv=>whnf)
  | (refine ag (xf _ _ _ _ _) rfl 1 rfl ?_;conv=>whnf)
  | (refine aj (xf _ _ _ _ _) rfl rfl ?_;conv=>whnf)
  | (refine aq (xf _ _ _ _ _) rfl 1 rfl ?_;conv=>whnf)
  | (refine ae (Es c.chain.au 97 [.ref c.cells] (fun s=>decide (s.set>c.day)) (by omega) (fun y _=>GP y c)) rfl rfl ?_;conv=>whnf)
  | (refine ag (Es c.chain.au 97 [.ref c.cells] (fun s=>decide (s.set>c.day)) (by omega) (fun y _=>GP y c)) rfl 1 rfl ?_;conv=>whnf)
  | (refine aj (Es c.chain.au 97 [.ref c.cells] (fun s=>decide (s.set>c.day)) (by omega) (fun y _=>GP y c)) rfl rfl ?_;conv=>whnf)
  | (refine aq (Es c.chain.au 97 [.ref c.cells] (fun s=>decide (s.set>c.day)) (by omega) (fun y _=>GP y c)) rfl 1 rfl ?_;conv=>whnf)
  | (refine ab ?_;conv=>whnf)
  | (refine ai (fun h=>?_) (fun h=>?_)<;>conv=>whnf))
 all_goals first
  | (refine al 0 rfl ⟨⟨?_,rfl⟩,rfl⟩;grind [mu,bF,vj])
  | skip
 rename_i h1 h2 h3 h4 h5;have hw:c.aE.length<=6:=by
  have:bc (c.aE.length:Nat) 1 6=true:=by simp_all
  simp only[bc,Bool.and_eq_true,decide_eq_true_eq]at this;omega
 have hE:mu c=(if (a8 cA [] c.aE 0).2=0 then (0,0,0) else (6,(a8 cA [] c.aE 0).1,(a8 cA [] c.aE 0).2)):=by
  apply wi<;>simp_all
 rw[hE];refine aZ (T:=tys) ao (by exact ah mixed ao (by decide +kernel)) c.aE (fun i (_:Unit)=>⟨[(125,.d (nH c.aE)),(126,.d (i64 c.aE.length)),(127,.d (i64 i))],[],st⟩) (fun i r _=>a8 cA [] c.aE 0=a8 cA (c.aE.take i) r i) ()
  av rfl ?_ ?_
 ·intro i x r _ hx hi hr he
  rw[a8]at he;have u5:c.aE.take (i+1)=c.aE.take i ++ [x]:=by rw[List.take_succ,hx];rfl
  conv=>whnf
  refine ai (fun _=>?_) (fun h=>absurd hi (by simpa using h));conv=>whnf
  refine ax hx ?_;conv=>whnf
  repeat' (first
   | (refine ae (iJ _ _ _ _) rfl rfl ?_;conv=>whnf)
   | (refine ag (iJ _ _ _ _) rfl 1 rfl ?_;conv=>whnf)
   | (refine aj (iJ _ _ _ _) rfl rfl ?_;conv=>whnf)
   | (refine aq (iJ _ _ _ _) rfl 1 rfl ?_;conv=>whnf)
   | (refine ae (xi _ _ _ _ _ _ _ _) rfl rfl ?_;conv=>whnf)
   | (refine ag (xi _ _ _ _ _ _ _ _) rfl 1 rfl ?_;conv=>whnf)
   | (refine aj (xi _ _ _ _ _ _ _ _) rfl rfl ?_;conv=>whnf)
   | (refine aq (xi _ _ _ _ _ _ _ _) rfl 1 rfl ?_;conv=>whnf)
   | (refine ab ?_;conv=>whnf)
   | (refine ai (fun h=>?_) (fun h=>?_)<;>conv=>whnf))
  all_goals first
   | (refine al 0 rfl ⟨⟨?_,rfl⟩,rfl⟩;rw[he];grind [cA,bF,vj])
   | (rw[if_pos (by grind [cA]),<- u5]at he;exact⟨(),he,av⟩)
 ·intro _ he
  rw[List.take_length,a8]at he;rw[he];conv=>whnf
  refine ai (fun h=>absurd h (by simp)) (fun _=>?_);conv=>whnf
  exact af
theorem mg(lo hi:Int)(s:Span):spread lo hi [s] 0=if bc s.lo lo hi&&bc s.hi lo hi then (if s.lo>s.hi then 2 else 0) else 7:=by
 simp[spread]
theorem pR(set:Int):∀ (d:Int) (l:List cH),gF set (some d) l=fE set d l
 | d,[]=>rfl
 | d,g::r=>by
  simp only[gF,fE,pR set g.day r,decide_eq_true_eq]
theorem xo(set:Int):∀ (l:List cH),gF set none l=fE set set l
 | []=>rfl
 | g::r=>by
  simp only[gF,fE,pR set g.day r];by_cases h:(bc g.day set 40000&&bc g.shown 0 60000)=true
  ·have:¬ g.day<set:=by
    simp only[bc,Bool.and_eq_true,decide_eq_true_eq]at h;omega
   simp[h,this]
  ·simp[h]
theorem FP(s:bH):uE s=jt s:=by
 unfold uE jt;rw[mg,mg,xo]
 grind
theorem z9(b:List cb)(w:cb):lu w=cA b w:=by
 unfold lu nj cA;simp only[lA,mg]
 grind
theorem FO(b:List bH)(x:bH):fc b x=if eo x.name (b.map (·.name))=0 then uE x else eo x.name (b.map (·.name)):=by
 rw[FP];unfold fc eo;simp only[List.any_map];have:((fun y=>decide (y=x.name))∘fun s:bH=>s.name)=fun y:bH=>decide (y.name=x.name):=rfl;rw[this]
 grind
def iI(c:jo):Int×Int×Int:=
  if eJ c=0 then
    (let p:=a8 fc [] c.au 0
     if p.2=0 then (let p:=a8 l7 [] c.rows 0
      if p.2=0 then (0,0,0) else (3,p.1,p.2)) else (2,p.1,p.2))
  else (1,0,eJ c)
theorem uq(c:jo):eJ c=if bc c.au.length 1 7&&bc c.rows.length 1 6 then (if bc c.dm 1 50&&(bc c.gH 0 200&&bc c.err 0 2000) then spread 0 200000 [c.hold] 0 else 7) else 3:=by
 unfold eJ;rw[mg]
 grind
theorem AK{l:List Row}{i:Nat}{p:Row}(hi:i≠0)(h:l[i-1]?=some p):tS (l.take i)=p:=by
 have:i=(i-1)+1:=by omega
 rw[this,List.take_succ,h];simp[tS]
theorem Dm{l:List Row}{i:Nat}{p:Row}(hi:i≠0)(h:l[i-1]?=some p):0<=(i:Int)-1/\(l.map Row.cells)[((i:Int)-1).toNat]?=some p.cells:=by
 have:((i:Int)-1).toNat=i-1:=by omega
 rw[this];exact⟨by omega,by simp[h]⟩
theorem QP(c:jo):aW Tryz.prog 16 [c.d] (vj (iI c)):=by
 refine aA Tryz.func16 rfl (ft:=Rb) 1 fun {σ} Y st=>?_;conv=>whnf
 repeat' (first
  | (refine ae (iX _ _ _) rfl rfl ?_;conv=>whnf)
  | (refine ag (iX _ _ _) rfl 1 rfl ?_;conv=>whnf)
  | (refine aj (iX _ _ _) rfl rfl ?_;conv=>whnf)
  | (refine aq (iX _ _ _) rfl 1 rfl ?_;conv=>whnf)
  | (refine ae (tn c.hold 0 200000) rfl rfl ?_;conv=>whnf)
  | (refine ag (tn c.hold 0 200000) rfl 1 rfl ?_;conv=>whnf)
  | (refine aj (tn c.hold 0 200000) rfl rfl ?_;conv=>whnf)
  | (refine aq (tn c.hold 0 200000) rfl 1 rfl ?_;conv=>whnf)
  | (refine ab ?_;conv=>whnf)
  | (refine ai (fun h=>?_) (fun h=>?_)<;>conv=>whnf))
 all_goals first
  | (refine al 0 rfl ⟨⟨?_,rfl⟩,rfl⟩;rw[iI,uq];grind [bF,vj])
  | skip
 have h0:eJ c=0:=by rw[uq];simp_all
 obtain⟨rF,Gj⟩:=oU h0;have hE:iI c=(if (a8 fc [] c.au 0).2=0 then (if (a8 l7 [] c.rows 0).2=0 then (0,0,0) else (3,(a8 l7 [] c.rows 0).1,(a8 l7 [] c.rows 0).2)) else (2,(a8 fc [] c.au 0).1,(a8 fc [] c.au 0).2)):=by simp[iI,h0]
 rw[hE];refine aZ (T:=tys) ao (by exact ah mixed ao (by decide +kernel)) c.au (fun i (_:Unit)=>⟨[(1,.ptr 1 0),(6,.sl 68 1 0 i),(7,.d (i64 i))],[(1,.box (.dd c.cells)),(68,.arr 1 (.dd (((c.au.take i).map (·.name)).map fun s=>[.str s])))],st⟩) (fun i r _=>a8 fc [] c.au 0=a8 fc (c.au.take i) r i) ()
  ((Wk.born 6 68 1 rfl rfl rfl).trans av) rfl ?_ ?_
 ·intro i x r _ hx hi hr he
  rw[a8]at he;have u5:c.au.take (i+1)=c.au.take i ++ [x]:=by rw[List.take_succ,hx];rfl
  have hE:=FO (c.au.take i) x;conv=>whnf
  refine ai (fun _=>?_) (fun h=>absurd hi (by simpa using h));conv=>whnf
  refine ax hx ?_;conv=>whnf
  refine ag (ds:=[.str x.name,zV ((c.au.take i).map (·.name))]) (JR x.name ((c.au.take i).map (·.name)) (by simp;omega)) rfl 1 (aF rfl (aF (bR rfl (by simp;omega)) rfl)) ?_;conv=>whnf
  refine ax hx ?_;conv=>whnf
  refine aL rfl ?_;conv=>whnf
  refine m5.mk (by simp[aI.len];omega) ?_;conv=>whnf
  refine bo (by simp[aI.len,aI.part,aI.cons,V.cells];omega) ?_;conv=>whnf
  have G9:min i c.au.length=i:=by omega
  generalize eo x.name ((c.au.take i).map (·.name))=F at hE ⊢;have next:∀ {dj:St σ},fc (c.au.take i) x=0->Wk dj ⟨[(1,.ptr 1 0),(6,.sl 68 1 0 (i+1)),(7,.d (i64 (i+1:Nat)))],[(1,.box (.dd c.cells)),(68,.arr 1 (.dd (((c.au.take i).map (·.name)).map (fun s=>[D.str s]) ++ [[.str x.name]])))],st⟩ ->
    ∃ nJ:Unit,a8 fc [] c.au 0=a8 fc (c.au.take (i+1)) r ((i+1:Nat):Int)/\Wk dj ⟨[(1,.ptr 1 0),(6,.sl 68 1 0 (i+1)),(7,.d (i64 (i+1:Nat)))],[(1,.box (.dd c.cells)),(68,.arr 1 (.dd (((c.au.take (i+1)).map (·.name)).map fun s=>[.str s])))],st⟩:=by
   intro dj hs hw;rw[if_pos hs,<- u5]at he;refine⟨(),he,?_⟩;rw[u5];simpa using hw
  refine ai (fun h2=>?_) (fun h2=>?_)
  ·have h2:F=0:=by simpa using h2
   rw[if_pos h2]at hE;conv=>whnf
   refine ax hx ?_;conv=>whnf
   refine ae (Q1 x) rfl rfl ?_;conv=>whnf
   refine ai (fun h3=>?_) (fun h3=>?_)
   ·have h3:uE x≠0:=by simpa using h3
    conv=>whnf
    refine al 0 rfl ⟨⟨?_,rfl⟩,rfl⟩;rw[he,hE];simp[h3,bF,vj]
   ·have h3:uE x=0:=by simpa using h3
    conv=>whnf
    refine ab ?_;conv=>whnf
    exact next (by rw[hE,h3]) (Wk.sub ⟨rfl,by simp[PX.get,aI.len,aI.part,aI.cons,V.cells,G9],rfl,trivial⟩ ⟨rfl,by simp[PX.get,aI.app,aI.part,aI.cons,V.cells,G9,List.take_take],trivial⟩)
  ·have h2:F≠0:=by simpa using h2
   rw[if_neg h2]at hE;conv=>whnf
   refine ai (fun h3=>?_) (fun h3=>absurd h2 (by simpa using h3));conv=>whnf
   refine al 0 rfl ⟨⟨?_,rfl⟩,rfl⟩;rw[he,hE];simp[h2,bF,vj]
 intro _ he;rw[List.take_length,a8]at he;rw[he];simp only[if_true];conv=>whnf
 refine ai (fun h=>absurd h (by simp)) (fun _=>?_);conv=>whnf
 refine aZ (T:=tys) ao (by exact ah mixed ao (by decide +kernel)) c.rows (fun i (_:Unit)=>⟨[(1,.ptr 1 0),(9,.d (i64 i))],[(1,.box (.dd c.cells))],st⟩) (fun i r _=>a8 l7 [] c.rows 0=a8 l7 (c.rows.take i) r i) ()
  av rfl ?_ ?_
 ·intro i x r _ hx hi hr he
  rw[a8]at he;have u5:c.rows.take (i+1)=c.rows.take i ++ [x]:=by rw[List.take_succ,hx];rfl
  conv=>whnf
  refine ai (fun _=>?_) (fun h=>absurd hi (by simpa using h));conv=>whnf
  refine ax hx ?_;conv=>whnf
  repeat' (first
   | (refine ae (iX _ _ _) rfl rfl ?_;conv=>whnf)
   | (refine ag (iX _ _ _) rfl 1 rfl ?_;conv=>whnf)
   | (refine aj (iX _ _ _) rfl rfl ?_;conv=>whnf)
   | (refine aq (iX _ _ _) rfl 1 rfl ?_;conv=>whnf)
   | (refine ab ?_;conv=>whnf)
   | (refine ai (fun h=>?_) (fun h=>?_)<;>conv=>whnf))
  all_goals first
   | (refine al 0 rfl ⟨⟨?_,rfl⟩,rfl⟩;rw[he];grind [l7,bF,vj])
   | skip
  ·rename_i k1 k2
   have PI:i≠0:=by simp at h;omega
   have hp:=List.getElem?_eq_getElem (l:=c.rows) (i:=i-1) (by omega);generalize c.rows[i-1]=p at hp;have We:=AK PI hp;repeat' (first
    | (refine ae (iX _ _ _) rfl rfl ?_;conv=>whnf)
    | (refine ag (iX _ _ _) rfl 1 rfl ?_;conv=>whnf)
    | (refine aj (iX _ _ _) rfl rfl ?_;conv=>whnf)
    | (refine aq (iX _ _ _) rfl 1 rfl ?_;conv=>whnf)
    | (refine bZ p.cells (Dm PI hp) ?_;conv=>whnf)
    | (refine ab ?_;conv=>whnf)
    | (refine ai (fun h=>?_) (fun h=>?_)<;>conv=>whnf))
   all_goals first
    | (refine al 0 rfl ⟨⟨?_,rfl⟩,rfl⟩;rw[he];grind [l7,bF,vj])
    | (rw[if_pos (by grind [l7]),<- u5]at he;exact⟨(),he,av⟩)
  ·rename_i k1 k2
   have PI:i=0:=by simp at h;omega
   subst PI;rw[if_pos (by simp[l7,tS];simp[bc]at k1 k2;simp[bc,k1,k2];omega),<- u5]at he;exact⟨(),he,av⟩
 ·intro _ he
  rw[List.take_length,a8]at he;rw[he];conv=>whnf
  refine ai (fun h=>absurd h (by simp)) (fun _=>?_);conv=>whnf
  exact af
theorem ta(c:Case):bJ c=if (iI c.chain).2.2=0 then mu c else iI c.chain:=by
 unfold bJ iI zE;by_cases h0:eJ c.chain=0
 ·simp only[h0,if_true]
  grind
 ·simp[h0]
theorem rz{c:jo}(h:(iI c).2.2=0):c.au.length<=7/\c.rows.length<=6:=by
 apply oU;unfold iI at h;by_cases h0:eJ c=0
 ·exact h0
 ·rw[if_neg h0]at h;exact h
theorem QB(c:Case):aW Tryz.prog 4 [c.d] (vj (bJ c)):=by
 refine aA Tryz.func4 rfl (ft:=Vu) 1 fun {σ} Y st=>?_;conv=>whnf
 refine ae (ds:=[c.chain.d]) (QP c.chain) rfl rfl ?_;rw[ta];have hlen:=rz (c:=c.chain);generalize iI c.chain=q at hlen ⊢;obtain⟨q1,q2,q3⟩:=q;conv=>whnf
 refine ai (fun h0=>?_) (fun h0=>?_)
 ·conv=>whnf
  refine al 0 rfl ⟨⟨?_,rfl⟩,rfl⟩;have h0:q3≠0:=by simpa using h0
  simp[h0,bF,vj]
 have h0:q3=0:=by simpa using h0
 rw[if_pos h0];obtain⟨rF,Gj⟩:=hlen h0;conv=>whnf
 repeat' (first
  | (refine ae (iX _ _ _) rfl rfl ?_;conv=>whnf)
  | (refine ag (iX _ _ _) rfl 1 rfl ?_;conv=>whnf)
  | (refine aj (iX _ _ _) rfl rfl ?_;conv=>whnf)
  | (refine aq (iX _ _ _) rfl 1 rfl ?_;conv=>whnf)
  | (refine ab ?_;conv=>whnf)
  | (refine ai (fun h=>?_) (fun h=>?_)<;>conv=>whnf))
 all_goals first
  | (refine al 0 rfl ⟨⟨?_,rfl⟩,rfl⟩;grind [mu,bF,vj])
  | skip
 refine aZ (T:=tys) ao (by exact ah mixed ao (by decide +kernel)) c.chain.au (fun i (_:Unit)=>⟨[(1,.ptr 1 0),(9,.d (i64 i))],[(1,.box (.dd c.cells))],st⟩) (fun i r _=>(c.chain.au.any fun s=>decide (s.set>c.day))=r.any fun s=>decide (s.set>c.day)) ()
  av rfl ?_ ?_
 ·intro i x r _ hx hi hr he
  rw[List.any_cons]at he;conv=>whnf
  refine ai (fun _=>?_) (fun h=>absurd hi (by simpa using h));conv=>whnf
  refine ax hx ?_;conv=>whnf
  refine ai (fun h1=>?_) (fun h1=>?_)
  ·conv=>whnf
   refine al 0 rfl ⟨⟨?_,rfl⟩,rfl⟩;have h1:x.set>c.day:=by simpa using h1
   rw[decide_eq_true h1,Bool.true_or]at he;simp_all[mu,bF,vj]
  ·conv=>whnf
   refine ab ?_;conv=>whnf
   have h1:¬ x.set>c.day:=by simpa using h1
   rw[decide_eq_false h1,Bool.false_or]at he;exact⟨(),he,av⟩
 intro _ uZ;replace uZ:(c.chain.au.any fun s=>decide (s.set>c.day))=false:=uZ;conv=>whnf
 refine ai (fun h=>absurd h (by simp)) (fun _=>?_);conv=>whnf
 repeat' (first
  | (refine ae (iX _ _ _) rfl rfl ?_;conv=>whnf)
  | (refine ag (iX _ _ _) rfl 1 rfl ?_;conv=>whnf)
  | (refine aj (iX _ _ _) rfl rfl ?_;conv=>whnf)
  | (refine aq (iX _ _ _) rfl 1 rfl ?_;conv=>whnf)
  | (refine ab ?_;conv=>whnf)
  | (refine ai (fun h=>?_) (fun h=>?_)<;>conv=>whnf))
 all_goals first
  | (refine al 0 rfl ⟨⟨?_,rfl⟩,rfl⟩;rw[mu,uZ];grind [bF,vj])
  | skip
 have hw:c.aE.length<=6:=by
  have:bc (c.aE.length:Nat) 1 6=true:=by simp_all
  simp only[bc,Bool.and_eq_true,decide_eq_true_eq]at this;omega
 have hE:mu c=(if (a8 cA [] c.aE 0).2=0 then (0,0,0) else (6,(a8 cA [] c.aE 0).1,(a8 cA [] c.aE 0).2)):=by
  refine wi ?_ ?_ ?_ uZ ?_<;>simp_all
 rw[hE];refine aZ (T:=tys) ao (by exact ah mixed ao (by decide +kernel)) c.aE (fun i (_:Unit)=>⟨[(1,.ptr 1 0),(10,.d (i64 i))],[(1,.box (.dd c.cells))],st⟩) (fun i r _=>a8 cA [] c.aE 0=a8 cA (c.aE.take i) r i) ()
  av rfl ?_ ?_
 ·intro i x r _ hx hi hr he
  rw[a8,<- z9]at he;have u5:c.aE.take (i+1)=c.aE.take i ++ [x]:=by rw[List.take_succ,hx];rfl
  conv=>whnf
  refine ai (fun _=>?_) (fun h=>absurd hi (by simpa using h));conv=>whnf
  refine ax hx ?_;conv=>whnf
  refine ae (QQ x) rfl rfl ?_;conv=>whnf
  refine ai (fun h1=>?_) (fun h1=>?_)
  ·conv=>whnf
   refine al 0 rfl ⟨⟨?_,rfl⟩,rfl⟩;have h1:lu x≠0:=by simpa using h1
   rw[he];simp[h1,bF,vj]
  ·conv=>whnf
   refine ab ?_;conv=>whnf
   have h1:lu x=0:=by simpa using h1
   rw[if_pos h1,<- u5]at he;exact⟨(),he,av⟩
 ·intro _ he
  rw[List.take_length,a8]at he;rw[he];conv=>whnf
  refine ai (fun h=>absurd h (by simp)) (fun _=>?_);conv=>whnf
  exact af
def il(set off:Int)(new:Int×Int)(gs:List cH):Nat->Int->List (Int×(Int×Int))
 | 0,_=>[]
 | n+1,wear=>match mP set off wear new gs with
  | none=>il set off new gs n (wear+1)
  | some f=>(wear,f)::il set off new gs n (wear+1)
def kl(s:bH)(off:Int)(gs:List cH):List (Int×(Int×Int)):=il s.set off (s.new.lo,s.new.hi) gs (s.wear.hi+1-s.wear.lo).toNat s.wear.lo
def uK(t:Int×(Int×Int)):D:=.agg [i64 t.1,i64 t.2.1,i64 t.2.2]
def cL(s:bH)(off:Int):List D:=s.cells ++ [i64 off]
structure kn(s:bH)(off:Int)(gs:List cH):Prop where
 off:0<=off/\off<=1000000
 O3:Ji s
 VA:∀ g∈gs,xm g
 len:gs.length<1000000
theorem B3{wear day set:Int}(hw:0<=wear/\wear<=1000000)(hd:0<=day/\day<=1000000)(hs:0<=set/\set<=1000000) : -1000000000000<=wear*(day-set)/\wear*(day-set)<=1000000000000:=by
 have:=AN (a:=wear) (b:=day-set) 1000000 1000000 (by omega) (by omega);omega
theorem wH(s:bH)(off:Int)(gs:List cH)(h:kn s off gs):Yields Tryz.prog 143 [.ref (cL s off),.ref [fp gs]] ((kl s off gs).map fun t=>([.d (uK t)],[])):=by
 intro γ Y g0 Q fF;obtain⟨nM,⟨C0,pW,OF⟩,hg,hlen⟩:=h;refine ek mixed ao Tryz.func143 rfl (ft:=IG) (args:=[.yld,.d (.ref (cL s off)),.d (.ref [fp gs])]) (show uQ IG Tryz.f143 3=true from by decide +kernel) ?_;replace fF:=fF.np;generalize Y.np=Y at fF ⊢;conv=>whnf
 refine bV (T:=tys) ao (by exact ah mixed ao (by decide +kernel)) (α:=Int×γ)
  (fun x=>⟨[(0,.yld),(1,.d (.ref (cL s off))),(2,.d (.ref [fp gs])),(4,.d (i64 x.1))],[],x.2⟩)
  (fun x=>s.wear.lo<=x.1/\x.1<=max s.wear.lo (s.wear.hi+1)/\iterate Y ((il s.set off (s.new.lo,s.new.hi) gs (s.wear.hi+1-x.1).toNat x.1).map fun t=>([.d (uK t)],[])) x.2 Q) (fun x=>(s.wear.hi+1-x.1).toNat) (s.wear.lo,g0)
  av ⟨by simp only;omega,by simp only;omega,fF⟩ ?_
 clear fF g0;rintro ⟨wear,g0⟩ ⟨h1,h2,fF⟩;simp only at h1 h2 fF;conv=>whnf
 refine ai (fun hb=>?_) (fun hb=>?_)
 ·have hb:wear<=s.wear.hi:=by simpa using hb
  obtain⟨n,hn⟩:∃ n,(s.wear.hi+1-wear).toNat=n+1:=⟨(s.wear.hi-wear).toNat,by omega⟩;have u1:(s.wear.hi+1-(wear+1)).toNat=n:=by omega
  rw[hn,il]at fF;conv=>whnf
  refine aZ (T:=tys) ao (by exact ah mixed ao (by decide +kernel)) gs (fun i (p:Int×Int)=>⟨[(0,.yld),(1,.d (.ref (cL s off))),(2,.d (.ref [fp gs])),(4,.d (i64 wear)),(5,.ptr 5 0),(26,.d (fp gs)),(27,.d (i64 gs.length)),(28,.d (i64 i))],[(5,.box (.dd [i64 wear,i64 p.1,i64 p.2]))],g0⟩)
   (fun i r p=>(0<=p.1/\p.1<=p.2/\p.2<=1000000)/\(∀ g∈r,xm g)/\mP s.set off wear (s.new.lo,s.new.hi) gs=mP s.set off wear p r) (s.new.lo,s.new.hi)
   av ⟨by simp only;omega,hg,rfl⟩ ?_ ?_
  ·rintro i x r ⟨p1,p2⟩ hx hi hr ⟨hp,G1,he⟩
   simp only at hp;obtain⟨g1,g2,g3,g4⟩:=G1 x (by simp);have CW:=B3 (wear:=wear) (day:=x.day) (set:=s.set) (by omega) (by omega) (by omega);rw[mP]at he;simp only[sx]at he;conv=>whnf
   refine ai (fun _=>?_) (fun h=>absurd hi (by simpa using h));conv=>whnf
   refine ax hx ?_;conv=>whnf
   refine ab ?_;conv=>whnf
   refine ab ?_;conv=>whnf
   refine ai (fun h3=>?_) (fun h3=>?_)
   ·have h3:x.shown>off:=by simpa using h3
    simp only[h3,if_true]at he;conv=>whnf
    refine ab ?_;conv=>whnf
    refine ab ?_;conv=>whnf
    refine ab ?_;conv=>whnf
    refine ab ?_;conv=>whnf
    refine ai (fun h4=>?_) (fun h4=>?_)
    ·have h4:max p1 (x.shown-off+wear*(x.day-s.set))>min p2 (x.shown+off+wear*(x.day-s.set)):=by simpa using h4
     simp only[h4,if_true]at he;rw[he]at fF;conv=>whnf
     refine ab ?_;conv=>whnf
     exact⟨(wear+1,g0),by simp only;omega,⟨by simp only;omega,by simp only;omega,by simp only;rw[u1];exact fF⟩,av⟩
    ·have h4:¬ max p1 (x.shown-off+wear*(x.day-s.set))>min p2 (x.shown+off+wear*(x.day-s.set)):=by simpa using h4
     simp only[h4,if_false]at he;conv=>whnf
     refine ab ?_;conv=>whnf
     exact⟨(max p1 (x.shown-off+wear*(x.day-s.set)),min p2 (x.shown+off+wear*(x.day-s.set))),⟨by simp only;omega,fun g hg=>G1 g (by simp[hg]),he⟩,av⟩
   ·have h3:¬ x.shown>off:=by simpa using h3
    simp only[h3,if_false]at he;conv=>whnf
    refine ab ?_;conv=>whnf
    refine ab ?_;conv=>whnf
    refine ai (fun h4=>?_) (fun h4=>?_)
    ·have h4:p1>min p2 (x.shown+off+wear*(x.day-s.set)):=by simpa using h4
     simp only[h4,if_true]at he;rw[he]at fF;conv=>whnf
     refine ab ?_;conv=>whnf
     exact⟨(wear+1,g0),by simp only;omega,⟨by simp only;omega,by simp only;omega,by simp only;rw[u1];exact fF⟩,av⟩
    ·have h4:¬ p1>min p2 (x.shown+off+wear*(x.day-s.set)):=by simpa using h4
     simp only[h4,if_false]at he;conv=>whnf
     refine ab ?_;conv=>whnf
     exact⟨(p1,min p2 (x.shown+off+wear*(x.day-s.set))),⟨by simp only;omega,fun g hg=>G1 g (by simp[hg]),he⟩,av⟩
  ·rintro ⟨p1,p2⟩ ⟨hp,_,he⟩
   rw[mP]at he;rw[he]at fF;simp only[List.map_cons]at fF;conv=>whnf
   refine ai (fun h=>absurd h (by simp)) (fun _=>?_);conv=>whnf
   refine wT (ds:=[uK (wear,(p1,p2))]) fF rfl rfl (fun s' EX=>?_) (fun s' EX=>?_)
   ·conv=>whnf
    refine ab ?_;conv=>whnf
    exact⟨(wear+1,s'),by simp only;omega,⟨by simp only;omega,by simp only;omega,by simp only;rw[u1];exact EX⟩,av⟩
   ·conv=>whnf
    exact al 0 rfl ⟨rfl,EX⟩
 ·have hb:¬ wear<=s.wear.hi:=by simpa using hb
  rw[show(s.wear.hi+1-wear).toNat=0 by omega,il]at fF;conv=>whnf
  exact al 0 rfl ⟨rfl,fF⟩
theorem MG(s:bH)(off:Int)(gs:List cH):aW Tryz.prog 111 [.agg (cL s off),fp gs] (.clo 143 [.ref (cL s off),.ref [fp gs]]):=by
 refine aA Tryz.func111 rfl (ft:=MS) 2 fun {σ} Y st=>?_;conv=>whnf
 exact al 1 rfl ⟨⟨rfl,rfl⟩,rfl⟩
theorem Q2(t:Int×(Int×Int))(s:bH)(off day:Int)(h1:0<=t.1/\t.1<=1000000)(h2:0<=t.2.1/\t.2.1<=1000000)(h3:0<=t.2.2/\t.2.2<=1000000)(h4:0<=day/\day<=1000000)(h5:0<=s.set/\s.set<=1000000) :
  aW Tryz.prog 112 [uK t,.agg (cL s off),i64 day] (Span.d ⟨uc s.set t.2.1 t.1 day,uc s.set t.2.2 t.1 day⟩):=by
 refine aA Tryz.func112 rfl (ft:=MT) 3 fun {σ} Y st=>?_;conv=>whnf
 have CW:=B3 (wear:=t.1) (day:=day) (set:=s.set) h1 h4 h5;refine ab ?_;conv=>whnf
 refine ab ?_;conv=>whnf
 refine ab ?_;conv=>whnf
 refine ab ?_;conv=>whnf
 exact af
def eD(set day:Int)(acc:Span×Bool)(t:Int×(Int×Int)):Span×Bool:=
 let out:=if acc.2 then acc.1 else ⟨uc set t.2.1 t.1 day,uc set t.2.2 t.1 day⟩
 (⟨min out.lo (uc set t.2.1 t.1 day),max out.hi (uc set t.2.2 t.1 day)⟩,true)
theorem uJ(set off day:Int)(new:Int×Int)(gs:List cH):∀ (n:Nat) (wear:Int) (acc:Span×Bool),xN set off day new gs n wear acc=(il set off new gs n wear).foldl (eD set day) acc
 | 0,wear,acc=>rfl
 | n+1,wear,acc=>by
  simp only[xN,il]
  cases mP set off wear new gs with
  | none=>exact uJ set off day new gs n (wear+1) acc
  | some f=>exact uJ set off day new gs n (wear+1) _
theorem rR(s:bH)(off:Int)(gs:List cH)(day:Int):dw s off gs day=(kl s off gs).foldl (eD s.set day) (⟨0,0⟩,false):=uJ _ _ _ _ _ _ _ _
theorem pa{set off:Int}{new:Int×Int}{gs:List cH}(hn:0<=new.1/\new.1<=new.2/\new.2<=1000000):∀ (n:Nat) (wear:Int),0<=wear->wear+n<=1000000 -> ∀ t∈il set off new gs n wear,(0<=t.1/\t.1<=1000000)/\(0<=t.2.1/\t.2.1<=1000000)/\(0<=t.2.2/\t.2.2<=1000000)
 | 0,wear,h0,h1,t,ht=>by cases ht
 | n+1,wear,h0,h1,t,ht=>by
  simp only[il]at ht;split at ht
  ·exact pa hn n (wear+1) (by omega) (by omega) t ht
  ·rename_i f hf
   rcases List.mem_cons.1 ht with rfl|ht
   ·have:=yG hn.2.1 hf
    simp only;omega
   ·exact pa hn n (wear+1) (by omega) (by omega) t ht
theorem uL{s:bH}{off:Int}{gs:List cH}(h:kn s off gs):∀ t∈kl s off gs,(0<=t.1/\t.1<=1000000)/\(0<=t.2.1/\t.2.1<=1000000)/\(0<=t.2.2/\t.2.2<=1000000):=by
 obtain⟨nM,⟨C0,pW,OF⟩,hg,hlen⟩:=h;exact pa (by simp only;omega) _ _ (by omega) (by omega)
theorem Mw(s:bH)(off day:Int)(h:kn s off s.aQ)(J1:0<=day/\day<=1000000) :
  aW Tryz.prog 72 [.agg (cL s off),i64 day] (.tup [(dw s off s.aQ day).1.d,.bool (dw s off s.aQ day).2]):=by
 refine aA Tryz.func72 rfl (ft:=R7) 2 fun {σ} Y st=>?_;conv=>whnf
 refine ae (MG s off s.aQ) rfl rfl ?_;conv=>whnf
 refine cO ao (by exact ah mixed ao (by decide +kernel)) (by exact ah mixed ao (by decide +kernel)) rfl 1500000 1600000 [2,3,4,5] (wH s off s.aQ h)
  (fun(x:Span×Bool)=>([(1500000,.box (.dd (cL s off))),(1500001,.box (.dd [i64 day])),(1500002,.box (.dd x.1.cells)),(1500003,.box (.dd [.bool x.2]))],st))
  (fun rest x=>(∀ t∈rest,(0<=t.1/\t.1<=1000000)/\(0<=t.2.1/\t.2.1<=1000000)/\(0<=t.2.2/\t.2.2<=1000000))/\dw s off s.aQ day=rest.foldl (eD s.set day) x) (⟨0,0⟩,false)
  rfl rfl rfl ⟨uL h,rR s off s.aQ day⟩ ?_ ?_
 ·rintro t rest ⟨out,is⟩ ⟨ec,he⟩ Q hQ _
  refine⟨⟨rfl,rfl⟩,?_⟩;rw[List.foldl_cons]at he;obtain⟨h1,h2,h3⟩:=ec t (by simp);conv=>whnf
  refine ae (ds:=[uK t,.agg (cL s off),i64 day]) (Q2 t s off day h1 h2 h3 J1 h.O3.set) rfl rfl ?_;conv=>whnf
  have next:∀ (x':Span×Bool) {dj:St σ},x'=eD s.set day (out,is) t->Wk dj ⟨[],[(1500000,.box (.dd (cL s off))),(1500001,.box (.dd [i64 day])),(1500002,.box (.dd x'.1.cells)),(1500003,.box (.dd [.bool x'.2]))],st⟩ ->
    ∃ x',Wk dj ⟨[],[(1500000,.box (.dd (cL s off))),(1500001,.box (.dd [i64 day])),(1500002,.box (.dd x'.1.cells)),(1500003,.box (.dd [.bool x'.2]))],st⟩/\true=true/\Q (.d (.bool true)) [] (.go x'):=by
   intro x' dj hx hw;exact⟨x',hw,rfl,hQ x' ⟨fun u hu=>ec u (by simp[hu]),by rw[hx];exact he⟩⟩
  cases is with
  | false=>
   conv=>whnf
   exact next (⟨min (uc s.set t.2.1 t.1 day) (uc s.set t.2.1 t.1 day),max (uc s.set t.2.2 t.1 day) (uc s.set t.2.2 t.1 day)⟩,true) rfl av
  | true=>
   conv=>whnf
   refine ai (fun h5=>?_) (fun h5=>?_)
   ·conv=>whnf
    have h5:uc s.set t.2.1 t.1 day=out.lo/\uc s.set t.2.2 t.1 day=out.hi:=by simpa using h5
    refine next (⟨min (uc s.set t.2.1 t.1 day) (uc s.set t.2.1 t.1 day),max (uc s.set t.2.2 t.1 day) (uc s.set t.2.2 t.1 day)⟩,true) ?_ av
    simp only[eD,h5.1,h5.2,if_true]
   ·conv=>whnf
    exact next (⟨min out.lo (uc s.set t.2.1 t.1 day),max out.hi (uc s.set t.2.2 t.1 day)⟩,true) rfl av
 ·rintro ⟨out,is⟩ ⟨_,he⟩
  conv=>whnf
  rw[he];exact af
theorem QU(s:bH)(off:Int)(gs:List cH)(h:kn s off gs):aW Tryz.prog 76 [.agg (cL s off),fp gs] (.bool (!(kl s off gs).isEmpty)):=by
 refine aA Tryz.func76 rfl (ft:=Sa) 2 fun {σ} Y st=>?_;conv=>whnf
 refine ae (MG s off gs) rfl rfl ?_;conv=>whnf
 refine cO ao (by exact ah mixed ao (by decide +kernel)) (by exact ah mixed ao (by decide +kernel)) rfl 1500000 1600000 [2,4] (wH s off gs h)
  (fun(_:Unit)=>([(1500000,.box (.dd (cL s off))),(1500001,.box (.dd [.bool false]))],st))
  (fun rest _=>(kl s off gs).isEmpty=rest.isEmpty) () rfl rfl rfl rfl ?_ ?_
 ·rintro t rest _ he Q _ hQ
  refine⟨⟨rfl,rfl⟩,?_⟩;have he:(kl s off gs).isEmpty=false:=he;conv=>whnf
  refine⟨[(1500000,.box (.dd (cL s off))),(1500001,.box (.dd [.bool true]))],st,av,rfl,hQ _ _ _ ?_⟩;conv=>whnf
  rw[he];exact af
 ·intro _ he
  have he:(kl s off gs).isEmpty=true:=he;conv=>whnf
  rw[he];exact af
end Go.PX
