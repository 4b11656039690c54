import Derived.Test.YtmbefpmbnhdbpaaGreatDoorPxL
import Derived.Test.YtmbefpmbnhdbpaaGreatDoorPxJ
import Derived.Test.YtmbefpmbnhdbpaaGreatDoorPxK
import Derived.Test.YtmbefpmbnhdbpaaGreatDoorPxI
set_option linter.all false
set_option maxRecDepth 10000
namespace Go.PX
open Go.Proofs
def nR(l:aN)(i:Int):au:=(l.an[i.toNat]?).getD ⟨.empty,⟨0,0⟩,⟨0,0⟩,[]⟩
def bC(l:aN):Int:=(gf l).2.2
def ED(l:aN):Bool×Int:=if bC l=0 then (gV l 0 [],0) else (false,bC l)
def RE(l:aN)(book:Int):List Span:=(List.range (dF (nR l book).ar+1)).map fun(n:Nat)=>cZ (bI l 0 []) ⟨book,n⟩ .right
def zR(l:aN)(book:Int):List Span×Int:=
 if bC l=0 then
  if gi book 0 ((l.an.length:Int)-1) then ([],4)
  else if gV l 0 [] then (RE l book,0) else ([],9)
 else ([],bC l)
def uC(l:aN)(x:dt):Bool:=!gi x.book 0 ((l.an.length:Int)-1) && !gi x.entry 0 (((nR l x.book).ar.length:Int)-1)
def hU(l:aN)(xs:List dt):Int:=if bC l=0 then (if xs.all (uC l) then 0 else 4) else bC l
def qu(l:aN)(xs:List dt):Int:=if hU l xs=0 then (if gV l 0 [] then 0 else 9) else hU l xs
def Ac(l:aN)(x:dt):cz:=xl (bI l 0 []).pers x
def iV(l:aN)(x:dt):Span:=
 ⟨(lE l x).shown-(cZ (bI l 0 []) (Ac l x) .right).hi,(lE l x).shown-(cZ (bI l 0 []) (Ac l x) .right).lo⟩
def qQ(l:aN)(x:dt):Span×Int:=if qu l [x]=0 then (iV l x,0) else (⟨0,0⟩,qu l [x])
def my(l:aN)(a b:dt):Span:=
 ⟨((lE l b).shown-(lE l a).shown)-(cZ (bI l 0 []) (Ac l b) (Ac l a)).hi,((lE l b).shown-(lE l a).shown)-(cZ (bI l 0 []) (Ac l b) (Ac l a)).lo⟩
def HA(s:Span):Int:=if s=⟨0,0⟩ then 3 else if 0<s.lo then 1 else if s.hi<0 then 2 else 0
def oY(l:aN)(a b:dt):Span×Int×Int:=if qu l [a,b]=0 then (my l a b,HA (my l a b),0) else (⟨0,0⟩,0,qu l [a,b])
def N4(l:aN)(x:dt)(i k:Nat)(y:aZ):Bool:=
 !decide ((i:Int)=x.book)&&(decide (y.kind=1)&&(decide (y.word=(lE l x).word)&&(decide ((my l x ⟨i,k⟩).lo<=l.near)&&decide (-l.near<=(my l x ⟨i,k⟩).hi))))
def Ce(l:aN)(x:dt)(i:Nat):Nat->List aZ->List dt
 | _,[]=>[]
 | k,y::r=>if N4 l x i k y then ⟨i,k⟩::Ce l x i (k+1) r else Ce l x i (k+1) r
def tC(l:aN)(x:dt):Nat->List au->List dt
 | _,[]=>[]
 | i,b::r=>Ce l x i 0 b.ar++tC l x (i+1) r
def Jl(l:aN)(x:dt):List dt×Int:=
 if hU l [x]=0 then
  if (lE l x).kind=1 then (if gV l 0 [] then (tC l x 0 l.an,0) else ([],9)) else ([],2)
 else ([],hU l [x])
def ij(mC:Int->Bool):Nat->Int->Int->Int
 | 0,_,hi=>hi
 | k+1,lo,hi=>if hi-lo>1 then (if mC ((lo+hi)/2) then ij mC k lo ((lo+hi)/2) else ij mC k ((lo+hi)/2) hi) else hi
def Fu(l:aN):Int×Int:=
 if bC l=0 then (if gV l 1048576 [] then (ij (fun w=>gV l w []) 40 (-1) 1048576,0) else (0,9)) else (0,bC l)
def uq(b:au)(n:Int):Nat:=(b.ar.filter fun y=>decide (y.kind=3/\y.number=n)).length
def Dg(l:aN)(n:Int):Nat:=(l.an.filter fun b=>decide (0<uq b n)).length
def Jc(l:aN)(n:Int):Nat:=(l.an.map fun b=>uq b n).foldl max 0
def ye(l:aN):List Int:=((List.range' 0 100).map fun(n:Nat)=>(n:Int)).filter fun n=>decide (1<Dg l n)
def ll(of:List Int):Nat->List Int->Nat->List (List Int)
 | 0,p,_=>[p]
 | left+1,p,start=>(List.range' start (of.length-left-start)).flatMap fun(i:Nat)=>ll of left (p ++ [(of[i]?).getD 0]) (i+1)
def zG(of:List Int):List (List Int):=(List.range' 0 (of.length+1)).flatMap fun(n:Nat)=>ll of n [] 0
def Iy(l:aN):List Int×Int:=
 if bC l=0 then (match (zG (ye l)).find? (gV l 0) with
  | some c=>(c,0)
  | none=>([],9)) else ([],bC l)
def xo(l:aN):List aZ:=(l.an.flatMap au.ar).filter fun y=>decide (y.kind=3)
def rC:List (Int×ByteArray)->List aZ->Bool
 | _,[]=>false
 | m,y::r=>match bD m y.number with
  | some w=>if w=y.word then rC (cW m y.number y.word) r else true
  | none=>rC (cW m y.number y.word) r
def uI(l:aN):Int:=(xo l).foldl (fun m y=>max m y.number) 0
def RB(l:aN):List Int:=((List.range' 1 (uI l).toNat).map fun(n:Nat)=>(n:Int)).filter fun n=>decide (Dg l n=0)
def QM(l:aN):List Int:=((List.range' 1 (uI l).toNat).map fun(n:Nat)=>(n:Int)).filter fun n=>decide (Dg l n≠0)&&decide (1<Jc l n)
def NX(l:aN):List Int×List Int×Int:=
 if bC l=0 then (if rC [] (xo l) then ([],[],5) else (RB l,QM l,0)) else ([],[],bC l)
theorem Ex:∀ {r:List aZ} {k:Nat},(∀ x∈r,sd x=0)->lG r k=(0,0)
 | [],_,_=>rfl
 | y::r,k,h=>by rw[lG,if_pos (h y (List.mem_cons_self ..))];exact Ex fun x hx=>h x (List.mem_cons_of_mem _ hx)
theorem Ey:∀ {r:List aZ} {k:Nat},(lG r k).2=0 -> ∀ x∈r,sd x=0
 | [],_,_,x,hx=>by cases hx
 | y::r,k,h,x,hx=>by
  rw[lG]at h;split at h
  ·rename_i h1
   rcases List.mem_cons.1 hx with rfl|hx
   ·exact h1
   ·exact Ey h x hx
  ·rename_i h1;exact absurd h h1
theorem yC:∀ {bs pre:List au} {i:Nat},(iO pre bs i).2.2=0 ↔ ∀ k b,bs[k]?=some b->qF (pre++bs.take k) b=0 /\ ∀ x∈b.ar,sd x=0
 | [],pre,i=>by simp[iO]
 | c::r,pre,i=>by
  rw[iO];by_cases h1:qF pre c=0
  ·rw[if_pos h1]
   by_cases h2:(lG c.ar 0).2=0
   ·rw[if_pos h2,yC]
    constructor
    ·intro h k b hb
     cases k with
     | zero=>
      rw[List.getElem?_cons_zero]at hb;cases hb;rw[List.take_zero,List.append_nil];exact⟨h1,Ey h2⟩
     | succ k=>
      rw[List.getElem?_cons_succ]at hb;have:=h k b hb;rw[List.take_succ_cons]
      rwa [List.append_assoc]at this
    ·intro h k b hb
     have:=h (k+1) b (by rw[List.getElem?_cons_succ];exact hb);rw[List.take_succ_cons]at this
     rwa [List.append_assoc]
   ·rw[if_neg h2]
    constructor
    ·intro h;exact absurd h h2
    ·intro h
     have:=(h 0 c rfl).2;exact absurd (by rw[Ex this]) h2
  ·rw[if_neg h1]
   constructor
   ·intro h;exact absurd h h1
   ·intro h
    have:=(h 0 c rfl).1;rw[List.take_zero,List.append_nil]at this;exact absurd this h1
theorem I1{n lo hi:Int}:cF n lo hi=true↔lo<=n/\n<=hi:=by
 unfold cF;rw[Bool.and_eq_true,decide_eq_true_eq,decide_eq_true_eq]
theorem ea{n lo hi:Int}:gi n lo hi=false↔lo<=n/\n<=hi:=by
 unfold gi;rw[Bool.not_eq_false',I1]
theorem l8{l:aN}:bC l=0↔(0<=l.near/\l.near<=60)/\(1<=l.an.length/\l.an.length<=3) /\ ∀ k b,l.an[k]?=some b->qF (l.an.take k) b=0 /\ ∀ x∈b.ar,sd x=0:=by
 unfold bC gf
 cases h1:gi l.near 0 60 with
 | true=>
  simp only[if_true];constructor
  ·intro h;cases h
  ·intro h
   have:=ea.2 h.1;rw[h1]at this;cases this
 | false=>
  simp only[Bool.false_eq_true,if_false];have h1:=ea.1 h1
  cases h2:gi l.an.length 1 3 with
  | true=>
   simp only[if_true];constructor
   ·intro h;cases h
   ·intro h
    have:=ea (n:=l.an.length) (lo:=1) (hi:=3) |>.2 (by omega)
    rw[h2]at this;cases this
  | false=>
   simp only[Bool.false_eq_true,if_false];have h2:=ea.1 h2;rw[yC];simp only[List.nil_append];exact⟨fun h=>⟨h1,by omega,h⟩,fun h=>h.2.2⟩
theorem km{l:aN}(h:bC l=0):gf l=(0,0,0):=by
 have key:∀ {bs pre:List au} {i:Nat},(iO pre bs i).2.2=0->iO pre bs i=(0,0,0):=by
  intro bs
  induction bs with
  | nil=>intros;rfl
  | cons c r ih=>
   intro pre i h;rw[iO]at h ⊢;by_cases h1:qF pre c=0
   ·rw[if_pos h1]at h ⊢
    by_cases h2:(lG c.ar 0).2=0
    ·rw[if_pos h2]at h ⊢
     exact ih h
    ·rw[if_neg h2]at h;exact absurd h h2
   ·rw[if_neg h1]at h;exact absurd h h1
 have hi:=l8.1 h;have h1:=ea.2 hi.1;have h2:=ea (n:=l.an.length) (lo:=1) (hi:=3) |>.2 (by omega)
 unfold bC gf at h;unfold gf;rw[h1,h2]at h ⊢;simp only[Bool.false_eq_true,if_false]at h ⊢;exact key h
structure Cz(x:aZ):Prop where
 shown:0<=x.shown/\x.shown<=20000
 kind:1<=x.kind/\x.kind<=3
 number:0<=x.number/\x.number<=99
 pass:x.kind=1->fm x.word=true/\x.number=0
 set:x.kind=2->x.word = .empty/\x.number=0
 rep:x.kind=3->fm x.word=true/\1<=x.number
theorem yK{x:aZ}:sd x=0↔Cz x:=by
 unfold sd
 cases h0:gi x.shown 0 20000 with
 | true=>
  simp only[if_true];refine⟨fun h=>(by cases h),fun h=>?_⟩;have:=ea.2 h.shown;rw[h0]at this;cases this
 | false=>
  have h0:=ea.1 h0;simp only[Bool.false_eq_true,if_false];by_cases h1:x.kind=1
  ·rw[if_pos h1]
   constructor
   ·intro h
    split at h;case isFalse=>cases h
    rename_i h2;rw[Bool.and_eq_true,decide_eq_true_eq]at h2;exact⟨h0,by omega,by omega,fun _=>h2,fun h=>by omega,fun h=>by omega⟩
   ·intro h
    rw[if_pos (by rw[(h.pass h1).1,decide_eq_true (h.pass h1).2];rfl)]
  ·rw[if_neg h1]
   by_cases h2:x.kind=2
   ·rw[if_pos h2]
    constructor
    ·intro h
     split at h;case isFalse=>cases h
     rename_i h3;rw[Bool.and_eq_true,decide_eq_true_eq,decide_eq_true_eq]at h3;exact⟨h0,by omega,by omega,fun h=>by omega,fun _=>h3,fun h=>by omega⟩
    ·intro h
     rw[if_pos (by rw[decide_eq_true (h.set h2).1,decide_eq_true (h.set h2).2];rfl)]
   ·rw[if_neg h2]
    by_cases h3:x.kind=3
    ·rw[if_pos h3]
     constructor
     ·intro h
      split at h;case isFalse=>cases h
      rename_i h4;rw[Bool.and_eq_true,Bool.not_eq_true',ea]at h4;exact⟨h0,by omega,by omega,fun h=>by omega,fun h=>by omega,fun _=>⟨h4.1,h4.2.1⟩⟩
     ·intro h
      have:=ea (n:=x.number) (lo:=1) (hi:=99) |>.2 ⟨(h.rep h3).2,h.number.2⟩
      rw[if_pos (by rw[(h.rep h3).1,this];rfl)]
    ·rw[if_neg h3]
     exact⟨fun h=>(by cases h),fun h=>by have:=h.kind;omega⟩
structure UK(pre:List au)(b:au):Prop where
 name:fm b.name=true
 fresh:∀ x∈pre,x.name≠b.name
 off : -720<=b.off.lo/\b.off.lo<=b.off.hi/\b.off.hi<=720
 set : -720<=b.set.lo/\b.set.lo<=b.set.hi/\b.set.hi<=720
 ar:b.ar.length<=8
theorem ov{pre:List au}{b:au}:qF pre b=0↔UK pre b:=by
 unfold qF
 cases h1:fm b.name with
 | false=>
  simp only[Bool.false_eq_true,if_false];exact⟨fun h=>(by cases h),fun h=>by rw[h.name]at h1;cases h1⟩
 | true=>
  simp only[if_true]
  cases h2:pre.any fun x=>decide (x.name=b.name) with
  | true=>
   simp only[if_true];refine⟨fun h=>(by cases h),fun h=>?_⟩;rw[List.any_eq_true]at h2;obtain⟨x,hx,he⟩:=h2;exact absurd (of_decide_eq_true he) (h.fresh x hx)
  | false=>
   simp only[Bool.false_eq_true,if_false];have D0:∀ x∈pre,x.name≠b.name:=fun x hx he=>by
    rw[List.any_eq_false]at h2;exact h2 x hx (decide_eq_true he)
   cases h3:gi b.off.lo (-720) 720||gi b.off.hi (-720) 720||gi b.set.lo (-720) 720||gi b.set.hi (-720) 720 with
   | true=>
    simp only[if_true];refine⟨fun h=>(by cases h),fun h=>?_⟩;have ho:=h.off;have hs:=h.set;rw[ea.2 (by omega),ea.2 (by omega),ea.2 (by omega),ea.2 (by omega)]at h3;cases h3
   | false=>
    simp only[Bool.or_eq_false_iff,ea]at h3;simp only[Bool.false_eq_true,if_false]
    cases h4:decide (b.off.lo>b.off.hi)||decide (b.set.lo>b.set.hi) with
    | true=>
     simp only[if_true];refine⟨fun h=>(by cases h),fun h=>?_⟩;have ho:=h.off;have hs:=h.set;rw[decide_eq_false (by omega),decide_eq_false (by omega)]at h4;cases h4
    | false=>
     simp only[Bool.or_eq_false_iff,decide_eq_false_iff_not]at h4;simp only[Bool.false_eq_true,if_false];split
     ·rename_i h5
      exact⟨fun h=>(by cases h),fun h=>by have:=h.ar;omega⟩
     ·exact⟨fun _=>⟨h1,D0,by omega,by omega,by omega⟩,fun _=>rfl⟩
theorem fI{l:aN}(h:bC l=0):qh l:=by
 obtain⟨h1,h2,h3⟩:=l8.1 h;refine⟨h1,h2,fun b hb=>?_⟩;obtain⟨k,hk⟩:=List.getElem?_of_mem hb;obtain⟨h4,h5⟩:=h3 k b hk;have h4:=ov.1 h4;exact⟨h4.off,h4.set,h4.ar,fun x hx=>by have:=yK.1 (h5 x hx);exact⟨this.shown,this.kind,this.number⟩⟩
theorem vP{l:aN}(hR:qh l){w:Int}(hw:0<=w/\w<=1048576)(conf:List Int):wF (bI l w conf):=by
 refine⟨Nn hR w conf,fun e he=>TF hR hw (Fq e he),?_⟩;have h:=zI (N:=eB l) (l:=l) (wider:=w) (conf:=conf) (by simp[eB]) l.an (i:=0) (done:=[]) (s:=⟨[],0,[],[]⟩) ⟨fun e he=>(by cases he),fun x hx=>(by cases hx),rfl,fun p hp=>(by cases hp)⟩ (fun p hp=>List.mem_cons_of_mem _ hp);have hm:(bI l w conf).many=((jk 0 l.an).length:Nat):=by have:=h.many;rwa [List.nil_append]at this
 rw[hm,zQ];have key:∀ bs:List au,(∀ b∈bs,Ii b)->qZ bs<=9*bs.length:=by
  intro bs
  induction bs with
  | nil=>intro _;exact Nat.le_refl _
  | cons b r ih=>
   intro h;have:=ih fun c hc=>h c (List.mem_cons_of_mem _ hc);have h2:=oL b;have h3:=(h b (List.mem_cons_self ..)).ar;rw[th,List.length_cons];omega
 have:=key l.an hR.book;have:=hR.an;omega
theorem iW{l:aN}{x:dt}:uC l x=true ↔ ∃ (i k:Nat) (b:au) (y:aZ),x=⟨i,k⟩/\At l i k b y:=by
 unfold uC;rw[Bool.and_eq_true,Bool.not_eq_true',Bool.not_eq_true',ea,ea];constructor
 ·rintro ⟨⟨h1,h2⟩,h3,h4⟩
  obtain⟨b,hb⟩:∃ b,l.an[x.book.toNat]?=some b:=⟨_,List.getElem?_eq_getElem (by omega)⟩;have MD:nR l x.book=b:=by unfold nR;rw[hb];rfl
  rw[MD]at h4;obtain⟨y,hy⟩:∃ y,b.ar[x.entry.toNat]?=some y:=⟨_,List.getElem?_eq_getElem (by omega)⟩;refine⟨x.book.toNat,x.entry.toNat,b,y,?_,hb,hy⟩;cases x;simp only[dt.mk.injEq];simp only at h1 h3;omega
 ·rintro ⟨i,k,b,y,rfl,h⟩
  have h1:=(List.getElem?_eq_some_iff.1 h.book).1;have h2:=(List.getElem?_eq_some_iff.1 h.fV).1;have MD:nR l ((⟨i,k⟩:dt).book)=b:=by unfold nR;simp only[Int.toNat_natCast,h.book,Option.getD_some]
  rw[MD];simp only;omega
theorem lV{l:aN}{i k:Nat}{b:au}{y:aZ}(h:At l i k b y):Ac l ⟨i,k⟩=⟨i,bE b k⟩:=
 iv h ((rY l 0 []).pers.2 i b h.book (El h))
theorem FI{l:aN}{i n:Nat}{b:au}(h:l.an[i]?=some b)(hn:n<=dF b.ar):(⟨i,n⟩:cz)∈eB l:=List.mem_of_getElem? (Nu h hn)
theorem kq{l:aN}{x:dt}(h0:uC l x=true):Ac l x∈eB l:=by
 obtain⟨i,k,b,y,rfl,h⟩:=iW.1 h0;rw[lV h];exact FI h.book (nb b k)
theorem ku(l:aN):cz.right∈eB l:=List.mem_cons_self ..
theorem xT{l:aN}{w:Int}{conf:List Int}(hf:gV l w conf=true){p:cz}(hp:p∈eB l):uh (bI l w conf) (gk (bI l w conf) p)=true:=by
 have hs:=rZ l w conf;exact(hs.fit hp).2 ((hs.fit hs.right).1 hf)
structure nP(l:aN)(w:Int)(conf:List Int)(t:cz->Int):Prop where
 right:t .right=0
 off:∀ (i:Nat) b,l.an[i]?=some b->b.off.lo-w<=t ⟨i,0⟩/\t ⟨i,0⟩<=b.off.hi+w
 set:∀ (i:Nat) b (n:Nat),l.an[i]?=some b->1<=n->n<=dF b.ar->b.set.lo-w<=t ⟨i,n⟩/\t ⟨i,n⟩<=b.set.hi+w
 ord:∀ (i k:Nat) b x y,At l i k b x->At l i (k+1) b y->x.shown-t ⟨i,bE b k⟩<=y.shown-t ⟨i,bE b (k+1)⟩
 rep:∀ (i j m n:Nat) b c x y num,Rep l conf i j m n b c x y num->x.shown-t ⟨i,bE b m⟩=y.shown-t ⟨j,bE c n⟩
theorem yf{w:Int}{p:cz}{s:Span}{t:cz->Int}(h0:t .right=0):(∀ e∈ek w p s,t e.b<=t e.a+e.w)↔s.lo-w<=t p/\t p<=s.hi+w:=by
 unfold ek;constructor
 ·intro h
  have h1:=h _ (List.mem_cons_self ..);have h2:=h ⟨p,.right,w-s.lo⟩ (by simp);simp only at h1 h2;omega
 ·intro h e he
  simp only[List.mem_cons,List.not_mem_nil,or_false]at he;rcases he with rfl|rfl
  ·simp only;omega
  ·simp only;omega
theorem r9{l:aN}{w:Int}{conf:List Int}{t:cz->Int}:yq l w conf t↔nP l w conf t:=by
 constructor
 ·intro h
  refine⟨h.right,fun i b hb=>(yf h.right).1 fun e he=>h.ok e (.off i b hb e he),fun i b n hb h1 h2=>(yf h.right).1 fun e he=>h.ok e (.set i b hb n h1 h2 e he),fun i k b x y hx hy=>?_,fun i j m n b c x y num hr=>?_⟩
  ·have:=h.ok _ (.ord i k b x y hx hy)
   unfold kX at this;simp only at this;omega
  ·have h1:=h.ok _ (.rep i j m n b c x y num hr)
   have h2:=h.ok _ (.rep j i n m c b y x num ⟨hr.hb,hr.ha,hr.fb,hr.fa,hr.no⟩);unfold kX at h1 h2;simp only at h1 h2;omega
 ·intro h
  refine⟨h.right,fun e he=>?_⟩
  cases he with
  | off i b hb e he=>exact(yf h.right).2 (h.off i b hb) e he
  | set i b hb n h1 h2 e he=>exact(yf h.right).2 (h.set i b n hb h1 h2) e he
  | ord i k b x y hx hy=>
   have:=h.ord i k b x y hx hy;unfold kX;simp only;omega
  | rep i j m n b c x y num hr=>
   have:=h.rep i j m n b c x y num hr;unfold kX;simp only;omega
theorem IC{l:aN}{w:Int}{conf:List Int}:gV l w conf=true ↔ ∃ t,nP l w conf t:=by
 rw[Ml];constructor
 ·rintro ⟨t,h⟩;exact⟨t,r9.1 h⟩
 ·rintro ⟨t,h⟩;exact⟨t,r9.2 h⟩
def Mj(l:aN)(w:Int)(conf:List Int)(p q:cz):Int:=lC (gk (bI l w conf) p) q
theorem Mk{l:aN}{w:Int}{conf:List Int}{t:cz->Int}(ht:nP l w conf t){p q:cz}(hp:p∈eB l)(hq:q∈eB l):t q-t p<=Mj l w conf p q:=by
 have:=(LG (IC.2 ⟨t,ht⟩) (r9.2 ht) hq hp).2;exact this
theorem Bt{l:aN}{w:Int}{conf:List Int}(hf:gV l w conf=true){p q:cz}(hp:p∈eB l)(hq:q∈eB l):∃ t,nP l w conf t/\t q-t p=Mj l w conf p q:=by
 obtain⟨t,ht,he⟩:=(Eg hf hq hp).1;exact⟨t,r9.1 ht,he⟩
def ox(l:aN)(t:cz->Int)(x:dt):Int:=(lE l x).shown-t (Ac l x)
theorem zt(l:aN)(x:dt):iV l x=⟨(lE l x).shown-Mj l 0 [] .right (Ac l x),(lE l x).shown+Mj l 0 [] (Ac l x) .right⟩:=by
 unfold iV cZ Mj;simp only[Int.sub_neg]
theorem I3{l:aN}{t:cz->Int}(ht:nP l 0 [] t){x:dt}(hx:uC l x=true):(iV l x).lo<=ox l t x/\ox l t x<=(iV l x).hi:=by
 have h1:=Mk ht (kq hx) (ku l);have h2:=Mk ht (ku l) (kq hx);have h0:=ht.right;rw[zt];unfold ox;simp only;omega
theorem PD{l:aN}(hf:gV l 0 []=true){x:dt}(hx:uC l x=true):∃ t,nP l 0 [] t/\ox l t x=(iV l x).lo:=by
 obtain⟨t,ht,he⟩:=Bt hf (ku l) (kq hx);refine⟨t,ht,?_⟩;have h0:=ht.right;rw[zt];unfold ox;simp only;omega
theorem PC{l:aN}(hf:gV l 0 []=true){x:dt}(hx:uC l x=true):∃ t,nP l 0 [] t/\ox l t x=(iV l x).hi:=by
 obtain⟨t,ht,he⟩:=Bt hf (kq hx) (ku l);refine⟨t,ht,?_⟩;have h0:=ht.right;rw[zt];unfold ox;simp only;omega
theorem KX(a r:List aZ):dF (a++r)=dF a+dF r:=by
 unfold dF;rw[List.filter_append,List.length_append]
def cy(l:List Int)(n:Nat):Int:=(l[n%l.length]?).getD 0
def gb(s:Span)(n:Int):Int:=s.lo+n%(s.hi-s.lo+1)
theorem jn{s:Span}(h:s.lo<=s.hi)(n:Int):s.lo<=gb s n/\gb s n<=s.hi:=by
 unfold gb;have h1:=Int.emod_nonneg n (show s.hi-s.lo+1≠0 by omega);have h2:=Int.emod_lt_of_pos n (show 0<s.hi-s.lo+1 by omega);omega
structure CF where
 ar:List aZ
 times:List Int
 mine:List Int
 off:Int
 now:Int
 w:List Int
def o4(w:List Int)(n:Int):Int:=(w[n.toNat]?).getD 0
def yY(s:CF)(z:aZ):Bool:=decide (z.kind=3)&&(cP s.ar z.number 0).isNone
def Jm(y:List Int)(b i:Nat)(z:aZ)(s:CF):Int:=
 if yY s z&&decide (0<o4 s.w z.number) then o4 s.w z.number else s.now+cy y (5*b+i+1)%60
def sn(y:List Int)(b i:Nat)(z:aZ)(s:CF):Bool:=decide (Jm y b i z s<s.now)||(decide (Jm y b i z s+s.off<0)||decide (20000<Jm y b i z s+s.off))
def sr(x y:List Int)(b i:Nat)(set:Span)(z:aZ)(s:CF):CF:=
 if sn y b i z s then s else
  ⟨s.ar ++ [{ z with shown:=Jm y b i z s+s.off }],s.times ++ [Jm y b i z s],
   if z.kind=2 then s.mine ++ [gb set (cy x (7*b+i+1))] else s.mine,
   if z.kind=2 then gb set (cy x (7*b+i+1)) else s.off,
   Jm y b i z s,
   if yY s z then s.w.set z.number.toNat (Jm y b i z s) else s.w⟩
def Ax(x y:List Int)(b:Nat)(set:Span):Nat->List aZ->CF->CF
 | _,[],s=>s
 | i,z::r,s=>Ax x y b set (i+1) r (sr x y b i set z s)
structure Io where
 an:List au
 times:List (List Int)
 lU:List (List Int)
 w:List Int
def wo(x y:List Int)(b:Nat)(bk:au)(w:List Int):CF:=⟨[],[],[gb bk.off (cy x (7*b))],gb bk.off (cy x (7*b)),1000+cy y (5*b)%100,w⟩
def Zc(x y:List Int)(b:Nat)(bk:au)(s:Io):Io:=
 let e:=Ax x y b bk.set 0 bk.ar (wo x y b bk s.w)
 ⟨s.an ++ [{ bk with ar:=e.ar }],s.times ++ [e.times],s.lU ++ [e.mine],e.w⟩
def Of(x y:List Int):Nat->List au->Io->Io
 | _,[],s=>s
 | b,bk::r,s=>Of x y (b+1) r (Zc x y b bk s)
def oN(l:aN)(x y:List Int):Io:=Of x y 0 l.an ⟨[],[],[],List.replicate 100 0⟩
def RP(l:aN)(x y:List Int):aN:=⟨l.near,(oN l x y).an⟩
structure D9(b:au)(T O w:List Int):Prop where
 tl:T.length=b.ar.length
 ol:O.length=dF b.ar+1
 off:∀ o,O[0]?=some o->b.off.lo<=o/\o<=b.off.hi
 set:∀ (n:Nat) o,1<=n->O[n]?=some o->b.set.lo<=o/\o<=b.set.hi
 time:∀ (k:Nat) e,b.ar[k]?=some e -> ∃ o,O[bE b k]?=some o/\T[k]?=some (e.shown-o)
 ord:∀ (k:Nat) u v,T[k]?=some u->T[k+1]?=some v->u<=v
 rep:∀ num (m:Nat),cP b.ar num 0=some m -> ∃ u,T[m]?=some u/\0<u/\o4 w num=u
 fV:∀ e∈b.ar,Cz e
structure UQ(off set:Span)(s:CF)(name:ByteArray):Prop where
 book:D9 ⟨name,off,set,s.ar⟩ s.times s.mine s.w
 last:s.mine[dF s.ar]?=some s.off
 le:∀ (k:Nat) u,s.times[k]?=some u->u<=s.now
 pos:0<s.now
 wl:s.w.length=100
theorem wP{n:Int}{y:aZ}:∀ {r:List aZ} {k:Nat},cP (r ++ [y]) n k=match cP r n k with
  | some m=>some m
  | none=>if y.kind=3/\y.number=n then some (k+r.length) else none
 | [],k=>by
  rw[List.nil_append,cP,cP];split<;>simp[cP]
 | z::r,k=>by
  rw[List.cons_append,cP,cP];split
  ·rfl
  ·rw[wP (r:=r) (k:=k+1)]
   cases cP r n (k+1) with
   | some m=>rfl
   | none=>
    simp only[List.length_cons];rw[show k+1+r.length=k+(r.length+1) by omega]
theorem HK{name:ByteArray}{off set:Span}{r:List aZ}{y:aZ}{k:Nat}(hk:k<=r.length):bE ⟨name,off,set,r ++ [y]⟩ k=bE ⟨name,off,set,r⟩ k:=by
 unfold bE;simp only;rw[List.take_append_of_le_length hk]
theorem Is{w:List Int}{n m v:Int}(hn:0<=n)(hn9:n.toNat<w.length)(hm:0<=m):o4 (w.set n.toNat v) m=if m=n then v else o4 w m:=by
 unfold o4;rw[List.getElem?_set];by_cases h:m=n
 ·subst h
  rw[if_pos rfl,if_pos hn9,if_pos rfl];rfl
 ·rw[if_neg (by omega),if_neg h]
theorem Qz{x y:List Int}{b i:Nat}{off set:Span}{name:ByteArray}{z:aZ}{s:CF}(jP:set.lo<=set.hi)(hz:Cz z)(hy:∀ n∈y,0<=n)(h:UQ off set s name):UQ off set (sr x y b i set z s) name/\(∀ n,0<=n->0<o4 s.w n->o4 (sr x y b i set z s).w n=o4 s.w n):=by
 have Rm:∀ n,0<=cy y n:=fun n=>by
  unfold cy
  cases h:y[n%y.length]? with
  | none=>simp
  | some v=>exact hy v (List.mem_of_getElem? h)
 unfold sr
 cases ho:sn y b i z s with
 | true=>rw[if_pos rfl];exact⟨h,fun n _ _=>rfl⟩
 | false=>
  simp only[Bool.false_eq_true,if_false];unfold sn at ho;simp only[Bool.or_eq_false_iff,decide_eq_false_iff_not]at ho;obtain⟨S7,ho2,ho3⟩:=ho;generalize OC:Jm y b i z s=to at S7 ho2 ho3 ⊢;have vI:=h.pos;have hB:=h.book;have Kb:=hB.tl;have MY:=hB.ol;simp only at Kb MY;have qH:=hz.number;have M8:=h.wl;have Gz:∀ n,0<=n->0<o4 s.w n->o4 (if yY s z then s.w.set z.number.toNat to else s.w) n=o4 s.w n:=fun n hn hp=>by
   split
   ·rename_i hf
    rw[Is qH.1 (by omega) hn];split
    ·rename_i he
     subst he;rw[<- OC];unfold Jm;rw[hf,decide_eq_true hp];rfl
    ·rfl
   ·rfl
  have hsn:dF (s.ar ++ [{ z with shown:=to+s.off }])=dF s.ar+if z.kind=2 then 1 else 0:=by
   rw[KX];show dF s.ar+dF [({ z with shown:=to+s.off }:aZ)]=_;rw[tD];rfl
  have Tc:bE ⟨name,off,set,s.ar ++ [{ z with shown:=to+s.off }]⟩ s.ar.length=dF s.ar:=by
   unfold bE;simp only;rw[List.take_left' rfl]
  have Y1:∀ n o,s.mine[n]?=some o->(if z.kind=2 then s.mine ++ [gb set (cy x (7*b+i+1))] else s.mine)[n]?=some o:=fun n o ob=>by
   split
   ·rw[List.getElem?_append_left (List.getElem?_eq_some_iff.1 ob).1];exact ob
   ·exact ob
  refine⟨⟨⟨?_,?_,?_,?_,?_,?_,?_,?_⟩,?_,?_,?_,?_⟩,Gz⟩
  ·simp only[List.length_append,List.length_singleton];omega
  ·simp only
   rw[hsn];split
   ·simp only[List.length_append,List.length_singleton];omega
   ·omega
  ·intro o h0
   obtain⟨o',J5⟩:∃ o',s.mine[0]?=some o':=⟨_,List.getElem?_eq_getElem (by omega)⟩;have:=Y1 0 o' J5;simp only at h0;rw[h0]at this;cases this;exact hB.off o J5
  ·intro n o hn ob
   simp only at ob;by_cases dh:n<s.mine.length
   ·obtain⟨o',J5⟩:∃ o',s.mine[n]?=some o':=⟨_,List.getElem?_eq_getElem dh⟩
    have:=Y1 n o' J5;rw[ob]at this;cases this;exact hB.set n o hn J5
   ·split at ob
    ·rw[List.getElem?_append_right (by omega)]at ob
     have:=List.mem_of_getElem? ob;rw[List.mem_singleton]at this;rw[this];exact jn jP _
    ·rw[List.getElem?_eq_none (by omega)]at ob;cases ob
  ·intro k e hk
   simp only at hk ⊢;by_cases dh:k<s.ar.length
   ·rw[List.getElem?_append_left dh]at hk
    obtain⟨o,h1,h2⟩:=hB.time k e hk;refine⟨o,?_,?_⟩
    ·rw[HK (by omega)];exact Y1 _ _ h1
    ·rw[List.getElem?_append_left (by omega)];exact h2
   ·rw[List.getElem?_append_right (by omega)]at hk
    have A0:k=s.ar.length:=by
     have:=(List.getElem?_eq_some_iff.1 hk).1;simp at this;omega
    subst A0;rw[Nat.sub_self,List.getElem?_cons_zero]at hk;cases hk;refine⟨s.off,?_,?_⟩
    ·rw[Tc];exact Y1 _ _ h.last
    ·rw[List.getElem?_append_right (by omega),Kb,Nat.sub_self,List.getElem?_cons_zero]
     simp only
     congr 1;omega
  ·intro k u v hu hv
   simp only at hu hv;by_cases dh:k+1<s.times.length
   ·rw[List.getElem?_append_left (by omega)]at hu
    rw[List.getElem?_append_left dh]at hv;exact hB.ord k u v hu hv
   ·rw[List.getElem?_append_right (by omega)]at hv
    have:=List.mem_of_getElem? hv;rw[List.mem_singleton]at this;have hkl:k+1-s.times.length<1:=by have:=(List.getElem?_eq_some_iff.1 hv).1;simpa using this
    rw[List.getElem?_append_left (by omega)]at hu;have:=h.le k u hu;omega
  ·intro num m hm
   simp only at hm ⊢;rw[wP]at hm
   cases hf:cP s.ar num 0 with
   | some m'=>
    rw[hf]at hm;cases hm;obtain⟨u,h1,h2,h3⟩:=hB.rep num m hf;obtain⟨e,_,he,_,IS,_⟩:=nD hf;have s8:=(List.getElem?_eq_some_iff.1 he).1;have MV:0<=num:=by
     have:=(hB.fV e (List.mem_of_getElem? he)).number;omega
    refine⟨u,?_,h2,?_⟩
    ·rw[List.getElem?_append_left (by omega)];exact h1
    ·rw[Gz num MV (by omega)];exact h3
   | none=>
    rw[hf]at hm;simp only at hm;split at hm;case isFalse=>cases hm
    rename_i TB;cases hm
    (try simp only at TB)
    have Ww:yY s z=true:=by
     unfold yY;rw[decide_eq_true TB.1,TB.2,hf];rfl
    rw[Nat.zero_add];refine⟨to,?_,by omega,?_⟩
    ·rw[List.getElem?_append_right (by omega),Kb,Nat.sub_self];rfl
    ·rw[if_pos Ww,<- TB.2,Is qH.1 (by omega) qH.1,if_pos rfl]
  ·intro e he
   simp only at he;rcases List.mem_append.1 he with he|he
   ·exact hB.fV e he
   ·rw[List.mem_singleton]at he
    subst he;exact⟨by simp only;omega,hz.kind,hz.number,hz.pass,hz.set,hz.rep⟩
  ·simp only
   rw[hsn];split
   ·rw[List.getElem?_append_right (by omega),show dF s.ar+1-s.mine.length=0 by omega];rfl
   ·rw[Nat.add_zero];exact h.last
  ·intro k u hu
   simp only at hu ⊢;by_cases dh:k<s.times.length
   ·rw[List.getElem?_append_left dh]at hu
    have:=h.le k u hu;omega
   ·rw[List.getElem?_append_right (by omega)]at hu
    have:=List.mem_of_getElem? hu;rw[List.mem_singleton]at this;omega
  ·simp only;omega
  ·simp only
   split
   ·rw[List.length_set];exact M8
   ·exact M8
theorem D9.mono{b:au}{T O w w':List Int}(h:D9 b T O w)(hw:∀ n,0<=n->0<o4 w n->o4 w' n=o4 w n):D9 b T O w':=by
 refine⟨h.tl,h.ol,h.off,h.set,h.time,h.ord,fun num m hm=>?_,h.fV⟩;obtain⟨u,h1,h2,h3⟩:=h.rep num m hm;obtain⟨e,_,he,_,IS,_⟩:=nD hm;have MV:0<=num:=by
  have:=(h.fV e (List.mem_of_getElem? he)).number;omega
 exact⟨u,h1,h2,by rw[hw num MV (by omega)];exact h3⟩
theorem Gg{x y:List Int}{b:Nat}{off set:Span}{name:ByteArray}(jP:set.lo<=set.hi)(hy:∀ n∈y,0<=n):∀ (r:List aZ) {i:Nat} {s:CF},(∀ z∈r,Cz z)->UQ off set s name->UQ off set (Ax x y b set i r s) name/\(∀ n,0<=n->0<o4 s.w n->o4 (Ax x y b set i r s).w n=o4 s.w n)
 | [],i,s,_,h=>⟨h,fun n _ _=>rfl⟩
 | z::r,i,s,hr,h=>by
  obtain⟨h1,h2⟩:=Qz (x:=x) (b:=b) (i:=i) jP (hr z (List.mem_cons_self ..)) hy h;obtain⟨h3,h4⟩:=Gg jP hy r (i:=i+1) (fun u hu=>hr u (List.mem_cons_of_mem _ hu)) h1;exact⟨h3,fun n h0 hn=>by
   have:=h2 n h0 hn;rw[Ax,h4 n h0 (by omega),this]⟩
structure ss(bs:List au)(z:Io):Prop where
 bl:z.an.length=bs.length
 tl:z.times.length=bs.length
 ol:z.lU.length=bs.length
 wl:z.w.length=100
 book:∀ (i:Nat) b,z.an[i]?=some b -> ∃ b0 T O,bs[i]?=some b0/\b.name=b0.name/\b.off=b0.off/\b.set=b0.set/\z.times[i]?=some T/\z.lU[i]?=some O/\D9 b T O z.w/\b.ar.length<=b0.ar.length
theorem Og{x y:List Int}{b:Nat}{set:Span}:∀ (r:List aZ) {i:Nat} {s:CF},(Ax x y b set i r s).ar.length<=s.ar.length+r.length
 | [],i,s=>Nat.le_refl _
 | z::r,i,s=>by
  have h1:=Og (x:=x) (y:=y) (b:=b) (set:=set) r (i:=i+1) (s:=sr x y b i set z s);have h2:(sr x y b i set z s).ar.length<=s.ar.length+1:=by
   unfold sr;split
   ·omega
   ·simp
  rw[Ax,List.length_cons];omega
theorem K5{x y:List Int}{bs:List au}{bk:au}{z:Io}(h:ss bs z)(ho:bk.off.lo<=bk.off.hi)(hs:bk.set.lo<=bk.set.hi)(he:∀ e∈bk.ar,Cz e)(hy:∀ n∈y,0<=n):ss (bs ++ [bk]) (Zc x y bs.length bk z):=by
 have Rm:∀ n,0<=cy y n:=fun n=>by
  unfold cy
  cases h:y[n%y.length]? with
  | none=>simp
  | some v=>exact hy v (List.mem_of_getElem? h)
 have h0:UQ bk.off bk.set (wo x y bs.length bk z.w) bk.name:=by
  refine⟨⟨rfl,rfl,fun o hoo=>?_,fun n o hn ob=>?_,fun k e hk=>by simp[wo]at hk,fun k u v hu=>by simp[wo]at hu,fun num m hm=>(by cases hm),fun e he=>(by cases he)⟩,rfl,fun k u hu=>by simp[wo]at hu,?_,h.wl⟩
  ·simp only[wo,List.getElem?_cons_zero]at hoo
   cases hoo;exact jn ho _
  ·obtain⟨n,rfl⟩:∃ m,n=m+1:=⟨n-1,by omega⟩
   simp[wo]at ob
  ·have:=Rm (5*bs.length)
   show 0<1000+cy y (5*bs.length)%100;omega
 obtain⟨h1,h2⟩:=Gg (x:=x) (b:=bs.length) hs hy bk.ar (i:=0) he h0;have hlen:=Og (x:=x) (y:=y) (b:=bs.length) (set:=bk.set) bk.ar (i:=0) (s:=wo x y bs.length bk z.w);unfold Zc;simp only;generalize Ax x y bs.length bk.set 0 bk.ar (wo x y bs.length bk z.w)=e at h1 h2 hlen;have Xm:(wo x y bs.length bk z.w).w=z.w:=rfl;have IV:(wo x y bs.length bk z.w).ar.length=0:=rfl;rw[Xm]at h2;have xV:=h.bl;have Kb:=h.tl;have MY:=h.ol;refine⟨by simp[h.bl],by simp[h.tl],by simp[h.ol],h1.wl,fun i b hb=>?_⟩;simp only at hb ⊢;by_cases dh:i<bs.length
 ·rw[List.getElem?_append_left (by omega)]at hb
  obtain⟨b0,T,O,g1,g2,g3,g4,g5,g6,g7,g8⟩:=h.book i b hb;exact⟨b0,T,O,by rw[List.getElem?_append_left dh];exact g1,g2,g3,g4,by rw[List.getElem?_append_left (by omega)];exact g5,by rw[List.getElem?_append_left (by omega)];exact g6,g7.mono h2,g8⟩
 ·have hi:i=bs.length:=by
   have:=(List.getElem?_eq_some_iff.1 hb).1;simp at this;omega
  subst hi;rw[List.getElem?_append_right (by omega),xV,Nat.sub_self,List.getElem?_cons_zero]at hb;cases hb;refine⟨bk,e.times,e.mine,by rw[List.getElem?_append_right (Nat.le_refl _),Nat.sub_self];rfl,rfl,rfl,rfl,by rw[List.getElem?_append_right (by omega),Kb,Nat.sub_self];rfl,by rw[List.getElem?_append_right (by omega),MY,Nat.sub_self];rfl,h1.book,by simp only;omega⟩
theorem Gh{x y:List Int}(hy:∀ n∈y,0<=n):∀ (r bs:List au) {z:Io},ss bs z->(∀ bk∈r,bk.off.lo<=bk.off.hi/\bk.set.lo<=bk.set.hi /\ ∀ e∈bk.ar,Cz e)->ss (bs++r) (Of x y bs.length r z)
 | [],bs,z,h,_=>by rw[List.append_nil];exact h
 | bk::r,bs,z,h,hr=>by
  obtain⟨h1,h2,h3⟩:=hr bk (List.mem_cons_self ..);have h4:=K5 (x:=x) h h1 h2 h3 hy;have h5:=Gh (x:=x) hy r (bs ++ [bk]) h4 fun b hb=>hr b (List.mem_cons_of_mem _ hb);rw[List.append_assoc,List.length_append]at h5;exact h5
theorem Ud{l:aN}(hb:∀ bk∈l.an,bk.off.lo<=bk.off.hi/\bk.set.lo<=bk.set.hi /\ ∀ e∈bk.ar,Cz e){x y:List Int}(hy:∀ n∈y,0<=n):ss l.an (oN l x y):=by
 have h0:ss [] ⟨[],[],[],List.replicate 100 0⟩:=⟨rfl,rfl,rfl,by simp,fun i b h=>by simp at h⟩;have:=Gh (x:=x) hy l.an [] h0 hb;exact this
def Hw(O:List (List Int))(p:cz):Int:=if p.book<0 then 0 else (((O[p.book.toNat]?).getD [])[p.n.toNat]?).getD 0
theorem H3{l:aN}{bs:List au}{z:Io}(h:ss bs z)(hl:l.an=z.an):nP l 0 [] (Hw z.lU):=by
 have ev:∀ {i n:Nat} {O:List Int} {o:Int},z.lU[i]?=some O->O[n]?=some o->Hw z.lU ⟨i,n⟩=o:=fun {i n O o} h1 h2=>by
  unfold Hw;rw[if_neg (by simp only;omega)];simp only[Int.toNat_natCast,h1,Option.getD_some,h2]
 refine⟨rfl,fun i b hb=>?_,fun i b n hb h1 h2=>?_,fun i k b u v hu hv=>?_,fun i j m n b c u v num hr=>?_⟩
 ·rw[hl]at hb
  obtain⟨b0,T,O,_,_,_,_,_,g6,g7,_⟩:=h.book i b hb;obtain⟨o,ho⟩:∃ o,O[0]?=some o:=⟨_,List.getElem?_eq_getElem (by rw[g7.ol];omega)⟩;have e0:(⟨(i:Int),0⟩:cz)=⟨i,(0:Nat)⟩:=rfl;rw[e0,ev g6 ho];have:=g7.off o ho;omega
 ·rw[hl]at hb
  obtain⟨b0,T,O,_,_,_,_,_,g6,g7,_⟩:=h.book i b hb;obtain⟨o,ho⟩:∃ o,O[n]?=some o:=⟨_,List.getElem?_eq_getElem (by rw[g7.ol];omega)⟩;rw[ev g6 ho];have:=g7.set n o h1 ho;omega
 ·have hb:=hu.book
  rw[hl]at hb;obtain⟨b0,T,O,_,_,_,_,_,g6,g7,_⟩:=h.book i b hb;obtain⟨o,h1,h2⟩:=g7.time k u hu.fV;obtain⟨o',h3,h4⟩:=g7.time (k+1) v hv.fV;rw[ev g6 h1,ev g6 h3];exact g7.ord k _ _ h2 h4
 ·have hb:=hr.ha.book
  have hc:=hr.hb.book;rw[hl]at hb hc;obtain⟨b0,T,O,_,_,_,_,_,g6,g7,_⟩:=h.book i b hb;obtain⟨c0,T',O',_,_,_,_,_,k6,k7,_⟩:=h.book j c hc;obtain⟨o,h1,h2⟩:=g7.time m u hr.ha.fV;obtain⟨o',h3,h4⟩:=k7.time n v hr.hb.fV;rw[ev g6 h1,ev k6 h3];obtain⟨p,h5,_,h6⟩:=g7.rep num m hr.fa;obtain⟨q,h7,_,h8⟩:=k7.rep num n hr.fb;rw[h2]at h5;rw[h4]at h7;cases h5;cases h7;rw[<- h6,<- h8]
theorem K4{l:aN}{bs:List au}{z:Io}(h:ss bs z)(hl:l.an=z.an){i k:Nat}{b:au}{e:aZ}(hA:At l i k b e):∃ T u,z.times[i]?=some T/\T[k]?=some u/\ox l (Hw z.lU) ⟨i,k⟩=u:=by
 have hb:=hA.book;rw[hl]at hb;obtain⟨b0,T,O,_,_,_,_,g5,g6,g7,_⟩:=h.book i b hb;obtain⟨o,h1,h2⟩:=g7.time k e hA.fV;refine⟨T,_,g5,h2,?_⟩;unfold ox;rw[lV hA,eJ hA];unfold Hw;rw[if_neg (by simp only;omega)];simp only[Int.toNat_natCast,g6,Option.getD_some,h1]
end Go.PX
namespace Go.PX
open Go.Proofs Go.RowKit Go.ChangeShapes
theorem c3:Tryz.prog.cellsOf 3=1:=by kernel_rfl
theorem c5:Tryz.prog.cellsOf 5=1:=by kernel_rfl
theorem c9:Tryz.prog.cellsOf 9=1:=by kernel_rfl
theorem c22:Tryz.prog.cellsOf 22=1:=by kernel_rfl
theorem c24:Tryz.prog.cellsOf 24=2:=by kernel_rfl
theorem c49:Tryz.prog.cellsOf 49=2:=by kernel_rfl
theorem c29:Tryz.prog.cellsOf 29=1:=by kernel_rfl
theorem c30:Tryz.prog.cellsOf 30=2*1:=by kernel_rfl
theorem c31:Tryz.prog.cellsOf 31=2*1:=by kernel_rfl
theorem c84:Tryz.prog.cellsOf 84=4:=by kernel_rfl
theorem Zr:Tryz.prog.cellsOf 240=1:=by kernel_rfl
theorem c77:Tryz.prog.cellsOf 77=1:=by kernel_rfl
theorem c79:Tryz.prog.cellsOf 79=6:=by kernel_rfl
theorem Sa{n:Int}(h:(Lit.int .u8 n).wf=true):0<=n/\n<=255:=by
 simp only[Lit.wf,Bool.and_eq_true,decide_eq_true_eq]at h;exact h
theorem Yx{n:Int}(h:(Lit.int .u16 n).wf=true):0<=n/\n<=65535:=by
 simp only[Lit.wf,Bool.and_eq_true,decide_eq_true_eq]at h;exact h
theorem Rd.Xs{P:Program}{W:World}{t:TypeId}{k:IntKind}(ht:P.underlying t=some (.int k)):Rd P W t fun ds=>∃ n,ds = [.int k n]/\(Lit.int k n).wf=true:=by
 refine⟨?_⟩;intro H enc sp held fuel cs x h;obtain⟨n,rfl,_,hw⟩:=DataW.trod_int ht h;exact⟨[.int k n],⟨n,rfl,hw⟩,_,[],rfl,rfl,rfl⟩
section
variable (W : World)
theorem rl:Rd Tryz.prog W 3 fun ds=>∃ n,ds = [i64 n]:=Rd.int Tryz.underlying3
theorem RJ:Rd Tryz.prog W 9 fun ds=>∃ s,ds = [.str s]:=Rd.str Tryz.underlying9
theorem HP:Rd Tryz.prog W 5 fun ds=>∃ n,ds = [.int .u8 n]/\0<=n/\n<=255:=(Rd.Xs Tryz.underlying5).mono fun ds ⟨n,h,w⟩=>⟨n,h,Sa w⟩
theorem Yn:Rd Tryz.prog W 240 fun ds=>∃ n,ds = [.int .u16 n]/\0<=n/\n<=65535:=(Rd.Xs Tryz.underlying240).mono fun ds ⟨n,h,w⟩=>⟨n,h,Yx w⟩
theorem Af:Rd Tryz.prog W 49 fun ds=>∃ p:Span,ds=p.cells:=
 (Rd.struct Tryz.underlying49 c49 (.cons rfl c3 (rl W) (.cons rfl c3 (rl W) (.nil _)))).mono fun ds h=>by
  obtain⟨_,_,rfl,⟨a,rfl⟩,_,_,rfl,⟨b,rfl⟩,rfl⟩:=h;exact⟨⟨a,b⟩,rfl⟩
theorem Yl:Rd Tryz.prog W 84 fun ds=>∃ x:aZ,ds=x.cells:=
 (Rd.struct Tryz.underlying84 c84 (.cons rfl c3 (rl W) (.cons rfl c3 (rl W) (.cons rfl c9 (RJ W) (.cons rfl c3 (rl W) (.nil _)))))).mono fun ds h=>by
  obtain⟨_,_,rfl,⟨a,rfl⟩,_,_,rfl,⟨b,rfl⟩,_,_,rfl,⟨c,rfl⟩,_,_,rfl,⟨d,rfl⟩,rfl⟩:=h;exact⟨⟨a,b,c,d⟩,rfl⟩
theorem T7:Rd Tryz.prog W 77 fun ds=>∃ l:List aZ,ds = [lF l]:=
 (Rd.slice Tryz.underlying77 c84 (by omega) (Yl W)).mono fun ds h=>by
  obtain⟨es,rfl,he⟩:=h;obtain⟨l,rfl⟩:=rX (f:=aZ.cells) (fun _ h=>h) he;exact⟨l,rfl⟩
theorem T5:Rd Tryz.prog W 79 fun ds=>∃ b:au,ds=b.cells:=
 (Rd.struct Tryz.underlying79 c79 (.cons rfl c9 (RJ W) (.cons rfl c49 (Af W) (.cons rfl c49 (Af W) (.cons rfl c77 (T7 W) (.nil _)))))).mono fun ds h=>by
  obtain⟨_,_,rfl,⟨a,rfl⟩,_,_,rfl,⟨b,rfl⟩,_,_,rfl,⟨c,rfl⟩,_,_,rfl,⟨d,rfl⟩,rfl⟩:=h;exact⟨⟨a,b,c,d⟩,rfl⟩
theorem Ql:Rd Tryz.prog W 22 fun ds=>∃ l:List au,ds = [bF l]:=
 (Rd.slice Tryz.underlying22 c79 (by omega) (T5 W)).mono fun ds h=>by
  obtain⟨es,rfl,he⟩:=h;obtain⟨l,rfl⟩:=rX (f:=au.cells) (fun _ h=>h) he;exact⟨l,rfl⟩
theorem Ym:Rd Tryz.prog W 24 fun ds=>∃ c:aN,ds=c.cells:=
 (Rd.struct Tryz.underlying24 c24 (.cons rfl c3 (rl W) (.cons rfl c22 (Ql W) (.nil _)))).mono fun ds h=>by
  obtain⟨_,_,rfl,⟨a,rfl⟩,_,_,rfl,⟨b,rfl⟩,rfl⟩:=h;exact⟨⟨a,b⟩,rfl⟩
theorem Ua:Rd Tryz.prog W 29 fun ds=>∃ l:List Int,ds = [.vs (l.map fun b=>[D.int .u16 b])] /\ ∀ x∈l,0<=x/\x<=65535:=
 (Rd.slice Tryz.underlying29 Zr (by omega) (Yn W)).mono fun ds h=>by
  obtain⟨es,rfl,he⟩:=h;have:∃ l:List Int,es=l.map (fun b=>[D.int .u16 b]) /\ ∀ x∈l,0<=x/\x<=65535:=by
   induction es with
   | nil=>exact⟨[],rfl,fun b h=>by cases h⟩
   | cons e r ih=>
    obtain⟨l,h1,h2⟩:=ih fun x hx=>he x (by simp[hx]);obtain⟨n,h3,h4⟩:=he e (by simp);refine⟨n::l,by rw[h3,h1];rfl,fun b hb=>?_⟩;rcases List.mem_cons.1 hb with rfl|hb
    ·exact h4
    ·exact h2 b hb
  obtain⟨l,rfl,h2⟩:=this;exact⟨l,rfl,h2⟩
theorem Qq:DU Tryz.prog W 30 fun ds=>∃ a b:List Int,ds = [.vs (a.map fun b=>[D.int .u16 b]),.vs (b.map fun b=>[D.int .u16 b])]/\(∀ x∈a,0<=x/\x<=65535)/\(∀ x∈b,0<=x/\x<=65535):=
 (DU.array Tryz.underlying30 c30 c29 (Rd.z (Ua W))).mono fun ds h=>by
  obtain⟨Gt,rfl,hl,hd⟩:=h
  match Gt,hl with
  | [x,y],_=>
   obtain⟨a,rfl,ha⟩:=hd x (by simp);obtain⟨b,rfl,hb⟩:=hd y (by simp);exact⟨a,b,rfl,ha,hb⟩
theorem Yk:DU Tryz.prog W 31 fun ds=>∃ a b:Int,ds = [.int .u8 a,.int .u8 b]/\(0<=a/\a<=255)/\(0<=b/\b<=255):=
 (DU.array Tryz.underlying31 c31 c5 (Rd.z (HP W))).mono fun ds h=>by
  obtain⟨Gt,rfl,hl,hd⟩:=h
  match Gt,hl with
  | [x,y],_=>
   obtain⟨a,rfl,ha⟩:=hd x (by simp);obtain⟨b,rfl,hb⟩:=hd y (by simp);exact⟨a,b,rfl,ha,hb⟩
end
end Go.PX
namespace Go.PX
open Go.Proofs
def qy{α:Type}(f:List α->α->Int):List α->List α->Int->Int×Int
 | _,[],_=>(0,0)
 | b,x::r,i=>if f b x=0 then qy f (b ++ [x]) r (i+1) else (i,f b x)
def Zd(p:Int×Int×Int):D:=.tup [i64 p.1,i64 p.2.1,i64 p.2.2]
theorem BD(n lo hi:Int):bq Tryz.prog 72 [i64 n,i64 lo,i64 hi] (.bool (cF n lo hi)):=by
 refine mH mixed av Tryz.func72 rfl (ft:=Z6) 3 (by decide +kernel) rfl fun {σ} Y s=>?_;conv=>whnf
 refine ag (fun hb=>?_) (fun hb=>?_)
 ·conv=>whnf
  refine aO 0 rfl ⟨⟨?_,rfl⟩,rfl⟩;simp[j9,cF]at hb ⊢;simp[hb]
 ·conv=>whnf
  refine aO 0 rfl ⟨⟨?_,rfl⟩,rfl⟩;simp[j9,cF]at hb ⊢;omega
theorem U4(n lo hi:Int):bq Tryz.prog 159 [i64 n,.ref [i64 lo],.ref [i64 hi]] (.bool (decide (n<lo)||decide (n>hi))):=by
 refine mH mixed av Tryz.func159 rfl (ft:=VG) 3 (by decide +kernel) rfl fun {σ} Y s=>?_;conv=>whnf
 refine ag (fun hb=>?_) (fun hb=>?_)
 ·conv=>whnf
  refine aO 0 rfl ⟨⟨?_,rfl⟩,rfl⟩;have hb:n<lo:=by simpa using hb
  simp[j9,hb]
 ·conv=>whnf
  refine aO 0 rfl ⟨⟨?_,rfl⟩,rfl⟩;have hb:¬ n<lo:=by simpa using hb
  simp[j9,hb]
theorem ID(lo hi:Int)(l:List Int)(hl:l.length<4000000000000000000):bq Tryz.prog 93 [i64 lo,i64 hi,aV l] (.bool (l.any fun n=>decide (n<lo)||decide (n>hi))):=by
 refine mH mixed av Tryz.func93 rfl (ft:=aaq) 3 (by decide +kernel) rfl fun {σ} Y s=>?_;conv=>whnf
 refine aA (U3 l 159 [.ref [i64 lo],.ref [i64 hi]] (fun n=>decide (n<lo)||decide (n>hi)) hl fun x _=>U4 x lo hi) rfl 1 rfl ?_;conv=>whnf
 exact ai
theorem U5(s:Span)(lo hi:Int):bq Tryz.prog 131 [s.d,i64 lo,i64 hi] (i64 (spread lo hi [s] 0)):=by
 refine aY Tryz.func131 rfl (ft:=Vi) 3 fun {σ} Y st=>?_;conv=>whnf
 refine aA (QP [s] lo hi (by simp)) rfl 1 rfl ?_;conv=>whnf
 exact ai
theorem qA(lo hi:Int):bq Tryz.prog 88 [i64 lo,i64 hi] (Span.d ⟨lo,hi⟩):=by
 refine aY Tryz.func88 rfl (ft:=aal) 2 fun {σ} Y st=>?_;conv=>whnf
 exact ai
theorem lN(lo hi a:Int):bq Tryz.prog 93 [i64 lo,i64 hi,.vs [[i64 a]]] (.bool (!cF a lo hi)):=by
 exact bq.cast (ID lo hi [a] (by simp)) (by simp[zZ])
theorem xU(lo hi a b:Int):bq Tryz.prog 93 [i64 lo,i64 hi,.vs [[i64 a],[i64 b]]] (.bool (!(cF a lo hi&&cF b lo hi))):=by
 exact bq.cast (ID lo hi [a,b] (by simp)) (by simp[zZ])
theorem cj{n lo hi:Int}:cF n lo hi=true↔lo<=n/\n<=hi:=by
 simp[cF]
structure bL where
 bT:Int
 lit:List Span
 start:Span
 speed:Span
 gG:Int
 night:Int
 deriving DecidableEq
structure dW where
 second:Int
 lit:Bool
 deriving DecidableEq
structure bG where
 aB:bL
 az:List Int
 bW:List dW
 deriving DecidableEq
def bL.cells(x:bL):List D:=[i64 x.bT,dH x.lit,i64 x.start.lo,i64 x.start.hi,i64 x.speed.lo,i64 x.speed.hi,i64 x.gG,i64 x.night]
def bL.d(x:bL):D:=.agg x.cells
def dW.cells(s:dW):List D:=[i64 s.second,.bool s.lit]
def pJ(l:List dW):D:=.vs (l.map dW.cells)
def bG.cells(c:bG):List D:=[i64 c.aB.bT,dH c.aB.lit,i64 c.aB.start.lo,i64 c.aB.start.hi,i64 c.aB.speed.lo,i64 c.aB.speed.hi,i64 c.aB.gG,i64 c.aB.night,aV c.az,pJ c.bW]
def bG.d(c:bG):D:=.agg c.cells
def pA(bT:Int):Int->List Span->Int->Int×Int
 | _,[],_=>(0,0)
 | last,s::r,i=>if cF s.lo 0 (bT-1)&&cF s.hi 0 (bT-1) then (if s.lo>s.hi||s.lo<=last then (i,2) else pA bT s.hi r (i+1)) else (i,7)
def iB(x:bL):Int×Int×Int:=
 if cF x.bT 2 120&&(cF x.gG 1 200&&cF x.night 1 200) then
  (if 4<x.lit.length then (1,0,3)
  else if (pA x.bT (-1) x.lit 0).2=0 then
   (if (cF x.start.lo 0 (x.bT-1)&&cF x.start.hi 0 (x.bT-1))&&(cF x.speed.lo 1 40&&cF x.speed.hi 1 40) then
    (if cF (x.start.hi-x.start.lo) 0 12&&cF (x.speed.hi-x.speed.lo) 0 4 then (0,0,0) else (3,0,2))
   else (3,0,7))
  else (2,(pA x.bT (-1) x.lit 0).1,(pA x.bT (-1) x.lit 0).2))
 else (1,0,7)
set_option maxHeartbeats 1000000 in
theorem abo(x:bL):bq Tryz.prog 157 [x.d] (Zd (iB x)):=by
 refine aY Tryz.func157 rfl (ft:=VE) 1 fun {σ} Y st=>?_;conv=>whnf
 refine aA (lN 2 120 x.bT) rfl 1 rfl ?_;conv=>whnf
 by_cases h1:cF x.bT 2 120=true;case neg=>
  have h1:cF x.bT 2 120=false:=by simpa using h1
  rw[h1];conv=>whnf
  unfold iB;rw[h1];exact ai
 rw[h1];conv=>whnf
 refine aA (xU 1 200 x.gG x.night) rfl 1 rfl ?_;conv=>whnf
 by_cases h2:(cF x.gG 1 200&&cF x.night 1 200)=true;case neg=>
  have h2:(cF x.gG 1 200&&cF x.night 1 200)=false:=by simpa using h2
  rw[h2];conv=>whnf
  unfold iB;rw[h1,h2];exact ai
 rw[h2];conv=>whnf
 have hw:iB x=if 4<x.lit.length then (1,0,3)
  else if (pA x.bT (-1) x.lit 0).2=0 then
   (if (cF x.start.lo 0 (x.bT-1)&&cF x.start.hi 0 (x.bT-1))&&(cF x.speed.lo 1 40&&cF x.speed.hi 1 40) then
    (if cF (x.start.hi-x.start.lo) 0 12&&cF (x.speed.hi-x.speed.lo) 0 4 then (0,0,0) else (3,0,2))
   else (3,0,7))
  else (2,(pA x.bT (-1) x.lit 0).1,(pA x.bT (-1) x.lit 0).2):=by
  unfold iB;rw[h1,h2];rfl
 rw[hw];have hd:=cj.1 h1;refine ag (fun h3=>?_) (fun h3=>?_)
 ·have h3:4<x.lit.length:=by have:=of_decide_eq_true h3;simp at this;omega
  conv=>whnf
  rw[if_pos h3];exact ai
 have h3:¬ 4<x.lit.length:=by have:=of_decide_eq_false h3;simp at this;omega
 rw[if_neg h3];conv=>whnf
 refine bB (T:=tys) av (by exact aj mixed av (by decide +kernel)) x.lit (fun i (p:Int×List D)=>⟨[(1,.ptr 1 0),(5,.d (i64 p.1)),(27,.d (dH x.lit)),(28,.d (i64 x.lit.length)),(29,.d (i64 i))],[(1,.box (.dd x.cells))],st⟩) (fun i r p=>pA x.bT (-1) x.lit 0=pA x.bT p.1 r i /\ -1<=p.1/\p.1<=1000) ((-1),[]) aw ⟨rfl,by simp only;omega,by simp only;omega⟩ ?_ ?_
 ·intro i s r p hx hi hr he
  obtain⟨last,_⟩:=p;obtain⟨he,zd,S1⟩:=he;simp only at he zd S1;rw[pA]at he;conv=>whnf
  refine ag (fun _=>?_) (fun h=>absurd hi (by simpa using h));conv=>whnf
  refine aG hx ?_;conv=>whnf
  refine ae ?_;conv=>whnf
  refine aA (xU 0 (x.bT-1) s.lo s.hi) rfl 1 rfl ?_;conv=>whnf
  by_cases h4:(cF s.lo 0 (x.bT-1)&&cF s.hi 0 (x.bT-1))=true;case neg=>
   have h4:(cF s.lo 0 (x.bT-1)&&cF s.hi 0 (x.bT-1))=false:=by simpa using h4
   rw[h4]at he ⊢;rw[if_neg (by simp)]at he;conv=>whnf
   rw[he];exact ai
  rw[h4]at he ⊢;rw[if_pos rfl]at he;simp only[Bool.and_eq_true,cj]at h4;conv=>whnf
  refine ag (fun h5=>?_) (fun h5=>?_)
  ·have h5:s.lo>s.hi:=by simpa using h5
   rw[if_pos (by simp[h5])]at he;conv=>whnf
   rw[he];exact ai
  have h5:¬ s.lo>s.hi:=by simpa using h5
  conv=>whnf
  refine ag (fun h6=>?_) (fun h6=>?_)
  ·have h6:s.lo<=last:=by simpa using h6
   rw[if_pos (by simp[h6])]at he;conv=>whnf
   rw[he];exact ai
  have h6:¬ s.lo<=last:=by simpa using h6
  rw[if_neg (by simp[h5,h6])]at he;conv=>whnf
  refine ae ?_;conv=>whnf
  exact⟨(s.hi,[]),⟨by simpa using he,by simp only;omega,by simp only;omega⟩,aw⟩
 ·rintro ⟨last,_⟩ ⟨he,_,_⟩
  simp only[pA]at he;conv=>whnf
  refine ag (fun h=>absurd h (by simp)) (fun _=>?_);conv=>whnf
  rw[he];simp only[if_true];refine ae ?_;conv=>whnf
  refine aA (xU 0 (x.bT-1) x.start.lo x.start.hi) rfl 1 rfl ?_;conv=>whnf
  by_cases h4:(cF x.start.lo 0 (x.bT-1)&&cF x.start.hi 0 (x.bT-1))=true;case neg=>
   have h4:(cF x.start.lo 0 (x.bT-1)&&cF x.start.hi 0 (x.bT-1))=false:=by simpa using h4
   rw[h4];conv=>whnf
   exact ai
  rw[h4];simp only[Bool.and_eq_true,cj]at h4;conv=>whnf
  refine aA (xU 1 40 x.speed.lo x.speed.hi) rfl 1 rfl ?_;conv=>whnf
  by_cases h5:(cF x.speed.lo 1 40&&cF x.speed.hi 1 40)=true;case neg=>
   have h5:(cF x.speed.lo 1 40&&cF x.speed.hi 1 40)=false:=by simpa using h5
   rw[h5];conv=>whnf
   exact ai
  rw[h5];simp only[Bool.and_eq_true,cj]at h5;conv=>whnf
  refine ae ?_;conv=>whnf
  refine aA (lN 0 12 (x.start.hi-x.start.lo)) rfl 1 rfl ?_;conv=>whnf
  by_cases h6:cF (x.start.hi-x.start.lo) 0 12=true;case neg=>
   have h6:cF (x.start.hi-x.start.lo) 0 12=false:=by simpa using h6
   rw[h6];conv=>whnf
   exact ai
  rw[h6];conv=>whnf
  refine ae ?_;conv=>whnf
  refine aA (lN 0 4 (x.speed.hi-x.speed.lo)) rfl 1 rfl ?_;conv=>whnf
  by_cases h7:cF (x.speed.hi-x.speed.lo) 0 4=true;case neg=>
   have h7:cF (x.speed.hi-x.speed.lo) 0 4=false:=by simpa using h7
   rw[h7];conv=>whnf
   exact ai
  rw[h7];conv=>whnf
  exact ai
structure jH(x:bL):Prop where
 bT:2<=x.bT/\x.bT<=120
 gG:1<=x.gG/\x.gG<=200
 night:1<=x.night/\x.night<=200
 lits:x.lit.length<=4
 lit:∀ s∈x.lit,0<=s.lo/\s.lo<=s.hi/\s.hi<=x.bT-1
 start:0<=x.start.lo/\x.start.lo<=x.start.hi/\x.start.hi<=x.bT-1
 speed:1<=x.speed.lo/\x.speed.lo<=x.speed.hi/\x.speed.hi<=40/\x.speed.hi<=x.speed.lo+4
theorem Ja{bT:Int}:∀ {l:List Span} {last i:Int},(pA bT last l i).2=0 -> ∀ s∈l,0<=s.lo/\s.lo<=s.hi/\s.hi<=bT-1
 | [],_,_,_,s,hs=>by cases hs
 | x::r,last,i,h,s,hs=>by
  rw[pA]at h;split at h
  ·rename_i h1
   simp only[Bool.and_eq_true,cj]at h1;split at h
   ·cases h
   ·rename_i h2
    simp only[Bool.or_eq_true,decide_eq_true_eq,not_or]at h2;rcases List.mem_cons.1 hs with rfl|hs
    ·omega
    ·exact Ja h s hs
  ·cases h
theorem AF{x:bL}(h:(iB x).2.2=0):jH x:=by
 unfold iB at h;split at h;case isFalse=>cases h
 rename_i h1;simp only[Bool.and_eq_true,cj]at h1;split at h
 ·cases h
 rename_i h2;split at h;case isFalse=>rename_i h3;exact absurd h h3
 rename_i h3;split at h;case isFalse=>cases h
 rename_i h4;simp only[Bool.and_eq_true,cj]at h4;split at h;case isFalse=>cases h
 rename_i h5;simp only[Bool.and_eq_true,cj]at h5;exact⟨h1.1,h1.2.1,h1.2.2,by omega,Ja h3,by omega,by omega⟩
theorem La{x:bL}(h:(iB x).2.2=0):x.start.hi<=x.start.lo+12:=by
 unfold iB at h;split at h;case isFalse=>cases h
 split at h
 ·cases h
 split at h;case isFalse=>rename_i h3;exact absurd h h3
 split at h;case isFalse=>cases h
 split at h;case isFalse=>cases h
 rename_i h5;simp only[Bool.and_eq_true,cj]at h5;omega
def ka(night:Int):Int->List Int->Int->Int×Int
 | _,[],_=>(0,0)
 | last,s::r,i=>if cF s 1 (night-1) then (if s<=last then (i,2) else ka night s r (i+1)) else (i,7)
def gP(night:Int):List dW->Int->Int×Int
 | [],_=>(0,0)
 | s::r,i=>if cF s.second 0 (night-1) then gP night r (i+1) else (i,7)
def bN(c:bG):Int×Int×Int:=
 if (iB c.aB).2.2=0 then
  (if 2<c.az.length then (4,0,3)
  else if (ka c.aB.night 0 c.az 0).2=0 then
   (if 8<c.bW.length then (5,0,3)
   else if (gP c.aB.night c.bW 0).2=0 then (0,0,0)
   else (5,(gP c.aB.night c.bW 0).1,(gP c.aB.night c.bW 0).2))
  else (4,(ka c.aB.night 0 c.az 0).1,(ka c.aB.night 0 c.az 0).2))
 else iB c.aB
set_option maxHeartbeats 1000000 in
theorem Ni(c:bG):bq Tryz.prog 92 [c.d] (Zd (bN c)):=by
 refine aY Tryz.func92 rfl (ft:=aap) 1 fun {σ} Y st=>?_;conv=>whnf
 refine af (abo c.aB) rfl rfl ?_;conv=>whnf
 unfold bN;refine ag (fun h1=>?_) (fun h1=>?_)
 ·have h1:¬ (iB c.aB).2.2=0:=by simpa using h1
  conv=>whnf
  rw[if_neg h1];exact ai
 have h1:(iB c.aB).2.2=0:=by simpa using h1
 rw[if_pos h1];have hR:=AF h1;have hn:=hR.night;conv=>whnf
 refine ag (fun h2=>?_) (fun h2=>?_)
 ·have h2:2<c.az.length:=by have:=of_decide_eq_true h2;simp at this;omega
  conv=>whnf
  rw[if_pos h2];exact ai
 have h2:¬ 2<c.az.length:=by have:=of_decide_eq_false h2;simp at this;omega
 rw[if_neg h2];conv=>whnf
 refine bB (T:=tys) av (by exact aj mixed av (by decide +kernel)) c.az (fun i (last:Int)=>⟨[(1,.ptr 1 0),(5,.d (i64 last)),(27,.d (aV c.az)),(28,.d (i64 c.az.length)),(29,.d (i64 i))],[(1,.box (.dd c.cells))],st⟩) (fun i r last=>ka c.aB.night 0 c.az 0=ka c.aB.night last r i) 0 aw rfl ?_ ?_
 ·intro i s r last hx hi hr he
  rw[ka]at he;conv=>whnf
  refine ag (fun _=>?_) (fun h=>absurd hi (by simpa using h));conv=>whnf
  refine aG hx ?_;conv=>whnf
  refine ae ?_;conv=>whnf
  refine aA (lN 1 (c.aB.night-1) s) rfl 1 rfl ?_;conv=>whnf
  by_cases h3:cF s 1 (c.aB.night-1)=true;case neg=>
   have h3:cF s 1 (c.aB.night-1)=false:=by simpa using h3
   rw[h3]at he ⊢;rw[if_neg (by simp)]at he;conv=>whnf
   rw[he];exact ai
  rw[h3]at he ⊢;rw[if_pos rfl]at he;conv=>whnf
  refine ag (fun h4=>?_) (fun h4=>?_)
  ·have h4:s<=last:=by simpa using h4
   rw[if_pos h4]at he;conv=>whnf
   rw[he];exact ai
  have h4:¬ s<=last:=by simpa using h4
  rw[if_neg h4]at he;conv=>whnf
  refine ae ?_;conv=>whnf
  exact⟨s,by simpa using he,aw⟩
 ·intro last he
  simp only[ka]at he;conv=>whnf
  refine ag (fun h=>absurd h (by simp)) (fun _=>?_);rw[he];simp only[if_true];conv=>whnf
  refine ag (fun h2=>?_) (fun h2=>?_)
  ·have h2:8<c.bW.length:=by have:=of_decide_eq_true h2;simp at this;omega
   conv=>whnf
   rw[if_pos h2];exact ai
  have h2:¬ 8<c.bW.length:=by have:=of_decide_eq_false h2;simp at this;omega
  rw[if_neg h2];conv=>whnf
  refine bB (T:=tys) av (by exact aj mixed av (by decide +kernel)) c.bW (fun i (_:Unit)=>⟨[(1,.ptr 1 0),(55,.d (pJ c.bW)),(56,.d (i64 c.bW.length)),(57,.d (i64 i))],[(1,.box (.dd c.cells))],st⟩) (fun i r _=>gP c.aB.night c.bW 0=gP c.aB.night r i) () aw rfl ?_ ?_
  ·intro i s r _ hx hi hr he
   rw[gP]at he;conv=>whnf
   refine ag (fun _=>?_) (fun h=>absurd hi (by simpa using h));conv=>whnf
   refine aG hx ?_;conv=>whnf
   refine ae ?_;conv=>whnf
   refine aA (lN 0 (c.aB.night-1) s.second) rfl 1 rfl ?_;conv=>whnf
   by_cases h3:cF s.second 0 (c.aB.night-1)=true;case neg=>
    have h3:cF s.second 0 (c.aB.night-1)=false:=by simpa using h3
    rw[h3]at he ⊢;rw[if_neg (by simp)]at he;conv=>whnf
    rw[he];exact ai
   rw[h3]at he ⊢;rw[if_pos rfl]at he;conv=>whnf
   refine ae ?_;conv=>whnf
   exact⟨(),by simpa using he,aw⟩
  ·intro _ he
   simp only[gP]at he;conv=>whnf
   refine ag (fun h=>absurd h (by simp)) (fun _=>?_);rw[he];simp only[if_true];conv=>whnf
   exact ai
structure cu where
 ia:Span
 mA:Span
 deriving DecidableEq
structure ct where
 name:ByteArray
 bK:List cu
 deriving DecidableEq
def cu.cells(p:cu):List D:=[i64 p.ia.lo,i64 p.ia.hi,i64 p.mA.lo,i64 p.mA.hi]
def dQ(l:List cu):D:=.vs (l.map cu.cells)
def ct.cells(x:ct):List D:=[.str x.name,dQ x.bK]
def ct.d(x:ct):D:=.agg x.cells
def iH(l:List ct):D:=.vs (l.map ct.cells)
theorem Xw(l:List ct)(g:FuncId)(bc:List D)(p:ct->Bool)(hl:l.length<4000000000000000000)(hp:∀ x∈l,bq Tryz.prog g (.agg x.cells::bc) (.bool (p x))) :
  bq Tryz.prog 196 [iH l,.clo g bc] (i64 (indexOf p l 0)):=by
 refine aY Tryz.func196 rfl (ft:=VS) 2 fun {σ} Y st=>?_;conv=>whnf
 refine bB (T:=tys) av (by exact aj mixed av (by decide +kernel)) l (fun i (_:Unit)=>⟨[(0,.d (iH l)),(1,.d (.clo g bc)),(7,.d (i64 l.length)),(8,.d (i64 i))],[],st⟩) (fun i r _=>indexOf p l 0=indexOf p r i) () aw rfl ?_ ?_
 ·intro i x r _ hx hi hr he
  rw[indexOf]at he;conv=>whnf
  refine ag (fun _=>?_) (fun h=>absurd hi (by simpa using h));conv=>whnf
  refine aG hx ?_;conv=>whnf
  refine af (hp x (List.mem_of_getElem? hx)) rfl rfl ?_;conv=>whnf
  refine ag (fun h1=>?_) (fun h1=>?_)
  ·conv=>whnf
   rw[he,if_pos h1];exact ai
  ·rw[if_neg (by simp[h1])]at he
   conv=>whnf
   refine ae ?_;conv=>whnf
   exact⟨(),he,aw⟩
 ·intro _ he
  conv=>whnf
  refine ag (fun h=>absurd h (by simp)) (fun _=>?_);conv=>whnf
  rw[he];exact ai
theorem abq(l:List ct)(g:FuncId)(bc:List D)(p:ct->Bool)(hl:l.length<4000000000000000000)(hp:∀ x∈l,bq Tryz.prog g (.agg x.cells::bc) (.bool (p x))) :
  bq Tryz.prog 152 [iH l,.clo g bc] (.bool (l.any p)):=by
 refine aY Tryz.func152 rfl (ft:=Vz) 2 fun {σ} Y st=>?_;conv=>whnf
 refine af (Xw l g bc p hl hp) rfl rfl ?_;conv=>whnf
 refine aO 0 rfl ⟨⟨?_,rfl⟩,rfl⟩;rw[<- ig p l 0 (by omega)];rfl
theorem Xx(l:List cu)(g:FuncId)(bc:List D)(p:cu->Bool)(hl:l.length<4000000000000000000)(hp:∀ x∈l,bq Tryz.prog g (.agg x.cells::bc) (.bool (p x))) :
  bq Tryz.prog 197 [dQ l,.clo g bc] (i64 (indexOf p l 0)):=by
 refine aY Tryz.func197 rfl (ft:=VT) 2 fun {σ} Y st=>?_;conv=>whnf
 refine bB (T:=tys) av (by exact aj mixed av (by decide +kernel)) l (fun i (_:Unit)=>⟨[(0,.d (dQ l)),(1,.d (.clo g bc)),(7,.d (i64 l.length)),(8,.d (i64 i))],[],st⟩) (fun i r _=>indexOf p l 0=indexOf p r i) () aw rfl ?_ ?_
 ·intro i x r _ hx hi hr he
  rw[indexOf]at he;conv=>whnf
  refine ag (fun _=>?_) (fun h=>absurd hi (by simpa using h));conv=>whnf
  refine aG hx ?_;conv=>whnf
  refine af (hp x (List.mem_of_getElem? hx)) rfl rfl ?_;conv=>whnf
  refine ag (fun h1=>?_) (fun h1=>?_)
  ·conv=>whnf
   rw[he,if_pos h1];exact ai
  ·rw[if_neg (by simp[h1])]at he
   conv=>whnf
   refine ae ?_;conv=>whnf
   exact⟨(),he,aw⟩
 ·intro _ he
  conv=>whnf
  refine ag (fun h=>absurd h (by simp)) (fun _=>?_);conv=>whnf
  rw[he];exact ai
theorem XI(l:List cu)(g:FuncId)(bc:List D)(p:cu->Bool)(hl:l.length<4000000000000000000)(hp:∀ x∈l,bq Tryz.prog g (.agg x.cells::bc) (.bool (p x))) :
  bq Tryz.prog 154 [dQ l,.clo g bc] (.bool (l.any p)):=by
 refine aY Tryz.func154 rfl (ft:=VB) 2 fun {σ} Y st=>?_;conv=>whnf
 refine af (Xx l g bc p hl hp) rfl rfl ?_;conv=>whnf
 refine aO 0 rfl ⟨⟨?_,rfl⟩,rfl⟩;rw[<- ig p l 0 (by omega)];rfl
theorem abr(y x:ct):bq Tryz.prog 153 [.agg y.cells,.ref x.cells] (.bool (decide (y.name=x.name))):=by
 refine aY Tryz.func153 rfl (ft:=VA) 2 fun {σ} Y st=>?_;conv=>whnf
 exact ai
theorem O2(lo hi a b c d:Int):bq Tryz.prog 93 [i64 lo,i64 hi,.vs [[i64 a],[i64 b],[i64 c],[i64 d]]] (.bool (!((cF a lo hi&&cF b lo hi)&&(cF c lo hi&&cF d lo hi)))):=by
 exact bq.cast (ID lo hi [a,b,c,d] (by simp)) (by simp only[List.any_cons,List.any_nil,zZ];cases cF a lo hi<;>cases cF b lo hi<;>cases cF c lo hi<;>cases cF d lo hi<;>rfl)
def nK(p:cu):Bool:=(cF p.ia.lo 1 200&&cF p.ia.hi 1 200)&&(cF p.mA.lo 1 200&&cF p.mA.hi 1 200)
def lW(p:cu):Bool:=decide (p.ia.lo>p.ia.hi)||decide (p.mA.lo>p.mA.hi)
theorem abt(p:cu):bq Tryz.prog 155 [.agg p.cells] (.bool (!nK p)):=by
 refine aY Tryz.func155 rfl (ft:=VC) 1 fun {σ} Y st=>?_;conv=>whnf
 refine aA (O2 1 200 p.ia.lo p.ia.hi p.mA.lo p.mA.hi) rfl 1 rfl ?_;conv=>whnf
 exact ai
theorem abu(p:cu):bq Tryz.prog 156 [.agg p.cells] (.bool (lW p)):=by
 refine aY Tryz.func156 rfl (ft:=VD) 1 fun {σ} Y st=>?_;conv=>whnf
 unfold lW;refine ag (fun h1=>?_) (fun h1=>?_)
 ·rw[h1]
  conv=>whnf
  exact ai
 ·rw[h1]
  conv=>whnf
  exact ai
def lX(l:List cu):Int:=
 if cF l.length 1 3 then (if l.any (fun p=>!nK p) then 7 else if l.any lW then 2 else 0) else 3
def qX(b:List ct)(x:ct):Int:=
 if fm x.name then (if b.any (fun y=>decide (y.name=x.name)) then 5 else lX x.bK) else 6
def lQ(l:List ct):Int×Int:=
 if cF l.length 1 6 then qy qX [] l 0 else (0,3)
set_option maxHeartbeats 1000000 in
theorem XB(l:List ct):bq Tryz.prog 87 [iH l] (.tup [i64 (lQ l).1,i64 (lQ l).2]):=by
 refine aY Tryz.func87 rfl (ft:=aak) 1 fun {σ} Y st=>?_;conv=>whnf
 refine aA (lN 1 6 l.length) rfl 1 (by simp;rfl) ?_;conv=>whnf
 unfold lQ;by_cases h0:cF l.length 1 6=true;case neg=>
  have h0:cF l.length 1 6=false:=by simpa using h0
  rw[h0];conv=>whnf
  exact ai
 rw[h0];rw[cj]at h0;simp only[if_true];conv=>whnf
 refine bB (T:=tys) av (by exact aj mixed av (by decide +kernel)) l (fun i (_:Unit)=>⟨[(0,.d (iH l)),(10,.d (iH l)),(11,.d (i64 l.length)),(12,.d (i64 i))],[],st⟩) (fun i r _=>qy qX [] l 0=qy qX (l.take i) r i) () aw rfl ?_ ?_
 ·intro i x r _ hx hi hr he
  rw[qy]at he;have Gy:l.take (i+1)=l.take i ++ [x]:=by rw[List.take_succ,hx];rfl
  conv=>whnf
  refine ag (fun _=>?_) (fun h=>absurd hi (by simpa using h));conv=>whnf
  refine aG hx ?_;conv=>whnf
  refine af (O1 x.name) rfl rfl ?_;conv=>whnf
  refine ag (fun h4=>?_) (fun h4=>?_)
  ·conv=>whnf
   have h4:fm x.name=false:=by simpa using h4
   rw[he];simp only[qX,h4];exact ai
  have h4:fm x.name=true:=by simpa using h4
  conv=>whnf
  refine aM (by simp;omega) ?_;conv=>whnf
  refine aM (by cases l<;>rfl) ?_;conv=>whnf
  refine aA (ds:=[iH (l.take i),.clo 153 [.ref x.cells]]) (abq (l.take i) 153 [.ref x.cells] (fun y=>decide (y.name=x.name)) (by simp;omega) fun y _=>abr y x) rfl 1 (by show some _=some _;simp[iH,List.map_take];rfl) ?_;conv=>whnf
  refine ag (fun h5=>?_) (fun h5=>?_)
  ·conv=>whnf
   rw[he];simp only[qX,h4,h5];exact ai
  have hlf:qX (l.take i) x=lX x.bK:=by simp only[qX,h4,h5];rfl
  rw[hlf]at he;conv=>whnf
  refine aA (lN 1 3 x.bK.length) rfl 1 (by simp;rfl) ?_;conv=>whnf
  by_cases h6:cF x.bK.length 1 3=true;case neg=>
   have h6:cF x.bK.length 1 3=false:=by simpa using h6
   rw[h6];conv=>whnf
   rw[he];simp only[lX,h6];exact ai
  rw[h6];have rS:x.bK.length<4000000000000000000:=by rw[cj]at h6;omega
  conv=>whnf
  refine af (XI x.bK 155 [] (fun p=>!nK p) rS fun p _=>abt p) rfl rfl ?_;conv=>whnf
  by_cases h7:x.bK.any (fun p=>!nK p)=true
  ·rw[h7]
   conv=>whnf
   rw[he];simp only[lX,h6,h7];exact ai
  have h7:x.bK.any (fun p=>!nK p)=false:=by simpa using h7
  rw[h7];conv=>whnf
  refine af (XI x.bK 156 [] lW rS fun p _=>abu p) rfl rfl ?_;conv=>whnf
  by_cases h8:x.bK.any lW=true
  ·rw[h8]
   conv=>whnf
   rw[he];simp only[lX,h6,h7,h8];exact ai
  have h8:x.bK.any lW=false:=by simpa using h8
  rw[h8];have hs:lX x.bK=0:=by simp[lX,h6,h7,h8]
  rw[if_pos hs,<- Gy]at he;conv=>whnf
  refine ae ?_;conv=>whnf
  exact⟨(),he,aw⟩
 intro _ he;rw[List.take_length,qy]at he;rw[he];conv=>whnf
 refine ag (fun h=>absurd h (by simp)) (fun _=>?_);conv=>whnf
 exact ai
noncomputable def sR(p:Nat->Bool):List D:=Classical.choose (⟨(List.range 120).map fun k=>.bool (p k),rfl⟩:∃ l,l=(List.range 120).map fun k=>D.bool (p k))
theorem tV(p:Nat->Bool):sR p=(List.range 120).map fun k=>.bool (p k):=Classical.choose_spec (⟨(List.range 120).map fun k=>.bool (p k),rfl⟩:∃ l,l=(List.range 120).map fun k=>D.bool (p k))
theorem Em(p:Nat->Bool):(sR p).length=120:=by rw[tV];simp
theorem LV(p:Nat->Bool){n:Nat}(h:n<120):(sR p)[n]?=some (.bool (p n)):=by rw[tV];simp[h]
theorem LW(p:Nat->Bool){n:Nat}(h:n<120):(sR p).set n (.bool true)=sR fun k=>p k||k ==n:=by
 rw[tV,tV];apply List.ext_getElem?;intro i;rw[List.getElem?_set];by_cases hi:n=i
 ·subst hi;simp[h]
 ·simp[hi,Ne.symm hi]
  by_cases h2:i<120
  ·simp[h2];intro e;exact absurd e.symm hi
  ·simp[h2]
theorem gJ{l:List D}{K:List D->Prop}(h:K l):CU l K:=by rw[sZ];exact h
def eP(x:bL)(k:Int):Bool:=x.lit.any fun s=>cF k s.lo s.hi
noncomputable def iX(x:bL):List D:=x.cells++sR fun(k:Nat)=>eP x k
def na(x:bL)(i:Nat)(k:Nat):Bool:=(x.lit.take i).any fun s=>cF k s.lo s.hi
theorem Hz{x:bL}{i:Nat}{s:Span}(h:x.lit[i]?=some s)(k:Nat):na x (i+1) k=(na x i k||cF k s.lo s.hi):=by
 unfold na;rw[List.take_succ,h];simp
theorem KZ(x:bL)(p:Nat->Bool){n:Nat}(h:n<120):(x.cells++sR p).take (8+n) ++ [D.bool true]++(x.cells++sR p).drop (8+n+1)=x.cells++sR fun k=>p k||k ==n:=by
 have hc:x.cells.length=8:=rfl;rw[<- LW p h,List.set_eq_take_append_cons_drop,if_pos (by rw[Em];exact h)];rw[List.take_append,List.drop_append,hc];rw[List.take_of_length_le (by omega),List.drop_eq_nil_of_le (by omega)];have e1:8+n-8=n:=by omega
 have e2:8+n+1-8=n+1:=by omega
 rw[e1,e2];simp
set_option maxHeartbeats 1000000 in
theorem PQ(x:bL)(hR:jH x):bq Tryz.prog 137 [x.d] (.ref (iX x)):=by
 refine aY Tryz.func137 rfl (ft:=Vn) 1 fun {σ} Y st=>?_;conv=>whnf
 refine bB (T:=tys) av (by exact aj mixed av (by decide +kernel)) x.lit (fun i (_:Unit)=>⟨[(1,.ptr 1 0),(3,.ptr 9 0),(11,.d (dH x.lit)),(12,.d (i64 x.lit.length)),(13,.d (i64 i))],[(1,.box (.dd x.cells)),(9,.box (.dd (x.cells++sR (na x i))))],st⟩) (fun i r _=>∀ s∈r,s∈x.lit) () ?wk (fun s h=>h) ?_ ?_;case wk=>
  refine Wk.sub ⟨rfl,rfl,rfl,by simp[PX.get],rfl,trivial⟩ ⟨rfl,?_,trivial⟩;rw[tV];rfl
 ·intro i s r _ hx hi hr hs
  obtain⟨h1,h2,h3⟩:=hR.lit s (hs s (by simp));have hd:=hR.bT;conv=>whnf
  refine ag (fun _=>?_) (fun h=>absurd hi (by simpa using h));conv=>whnf
  repeat (refine gJ ?_;conv=>whnf)
  refine aG hx ?_;conv=>whnf
  repeat (refine gJ ?_;conv=>whnf)
  refine cD (T:=tys) av (by exact aj mixed av (by decide +kernel)) (α:=Nat)
   (fun k=>⟨[(1,.ptr 1 0),(3,.ptr 9 0),(5,.ptr 5 0),(6,.d (i64 (s.lo+(k:Int)))),(11,.d (dH x.lit)),(12,.d (i64 x.lit.length)),(13,.d (i64 i))],[(1,.box (.dd x.cells)),(9,.box (.dd (x.cells++sR fun j=>na x i j||cF j s.lo (s.lo+k-1)))),(5,.box (.dd s.cells))],st⟩)
   (fun k=>s.lo+k<=s.hi+1) (fun k=>(s.hi+1-s.lo).toNat-k) 0 ?wk (by omega) ?_
  case wk=>
   refine Wk.sub ⟨rfl,rfl,rfl,by simp[PX.get],rfl,rfl,rfl,trivial⟩ ⟨rfl,?_,rfl,trivial⟩;have:(fun(j:Nat)=>na x i j||cF j s.lo (s.lo+(0:Nat)-1))=na x i:=by
    funext j
    have:cF (j:Int) s.lo (s.lo+(0:Nat)-1)=false:=by
     rw[Bool.eq_false_iff];intro h;rw[cj]at h;omega
    rw[this,Bool.or_false]
   rw[this];rfl
  intro k hk;conv=>whnf
  repeat (refine gJ ?_;conv=>whnf)
  refine ag (fun h4=>?_) (fun h4=>?_)
  ·have h4:s.lo+(k:Int)<=s.hi:=by simpa using h4
   conv=>whnf
   repeat (refine gJ ?_;conv=>whnf)
   refine aM (by simp;omega) ?_;conv=>whnf
   repeat (refine gJ ?_;conv=>whnf)
   refine aM (Nat.ble_eq_true_of_le (by
    show 0+8+(s.lo+(k:Int)).toNat*1+1<=(x.cells++sR _).length;rw[List.length_append,Em];have:x.cells.length=8:=rfl;omega)) ?_
   conv=>whnf
   repeat (refine gJ ?_;conv=>whnf)
   refine ae ?_;conv=>whnf
   refine⟨k+1,by omega,by omega,Wk.sub ⟨rfl,rfl,rfl,?_,rfl,rfl,rfl,trivial⟩ ⟨rfl,?_,rfl,trivial⟩⟩
   ·show some (V.d (i64 (s.lo+(k:Int)+1)))=some (V.d (i64 (s.lo+((k+1:Nat):Int))))
    rw[show s.lo+(k:Int)+1=s.lo+((k+1:Nat):Int) by omega]
   ·show some (Obj.box (Cells.dd ((x.cells++sR fun j=>na x i j||cF j s.lo (s.lo+k-1)).take (0+8+(s.lo+(k:Int)).toNat*1) ++ [D.bool true]++(x.cells++sR fun j=>na x i j||cF j s.lo (s.lo+k-1)).drop (0+8+(s.lo+(k:Int)).toNat*1+1))))=_
    have hn:(s.lo+(k:Int)).toNat<120:=by omega
    rw[show 0+8+(s.lo+(k:Int)).toNat*1=8+(s.lo+(k:Int)).toNat by omega,KZ x _ hn];have:(fun(j:Nat)=>(na x i j||cF (j:Int) s.lo (s.lo+(k:Int)-1))||j ==(s.lo+(k:Int)).toNat)=fun(j:Nat)=>na x i j||cF (j:Int) s.lo (s.lo+((k+1:Nat):Int)-1):=by
     funext j
     rw[Bool.or_assoc]
     congr 1
     rw[Bool.eq_iff_iff];simp only[Bool.or_eq_true,cj,beq_iff_eq];omega
    rw[this]
  ·have h4:¬ s.lo+(k:Int)<=s.hi:=by simpa using h4
   conv=>whnf
   repeat (refine gJ ?_;conv=>whnf)
   refine jI (wrap_i64 (by have:=hR.lits;omega)) ?_;conv=>whnf
   repeat (refine gJ ?_;conv=>whnf)
   refine⟨(),fun s mM=>hs s (by simp[mM]),Wk.sub ⟨rfl,rfl,rfl,rfl,rfl,trivial⟩ ⟨rfl,?_,trivial⟩⟩;have:(fun(j:Nat)=>na x i j||cF (j:Int) s.lo (s.lo+(k:Int)-1))=na x (i+1):=by
    funext j
    rw[Hz hx,show s.lo+(k:Int)-1=s.hi by omega]
   rw[<- this];rfl
 ·intro _ _
  conv=>whnf
  repeat (refine gJ ?_;conv=>whnf)
  refine ag (fun h=>absurd h (by simp)) (fun _=>?_);conv=>whnf
  repeat (refine gJ ?_;conv=>whnf)
  refine aO 1 (ds:=[.ref (iX x)]) ?_ ⟨⟨rfl,rfl⟩,rfl⟩;have:na x x.lit.length=fun(k:Nat)=>eP x k:=by
   funext k
   simp only[na,eP,List.take_length]
  rw[this];rfl
end Go.PX
