import Derived.Test.YtdadolcglibjdaaGreatPxK
import Derived.Test.YtdadolcglibjdaaGreatPxI
set_option linter.all false
set_option maxRecDepth 10000
namespace Go.PX
open Go.Proofs
def gW(c:Case)(i:Int):Int:=
 if (bx c).2.2=0 then (if a6 i 0 ((c.chain.av.length:Int)-1) then 0 else 4) else (bx c).2.2
theorem DU{l:List bK}{i:Int}(h:a6 i 0 ((l.length:Int)-1)=true):∃ s,0<=i/\l[i.toNat]?=some s:=by
 simp only[a6,Bool.and_eq_true,decide_eq_true_eq]at h;exact⟨_,h.1,List.getElem?_eq_getElem (by omega)⟩
def jM(c:Case)(i:Int):D:=
 if gW c i=0 then (match c.chain.av[i.toNat]? with
  | some s=>.agg (cZ s c.chain.err)
  | none=>.nilp) else .agg [.str ⟨#[]⟩,i64 0,i64 0,i64 0,i64 0,i64 0,i64 0,.nils,i64 0]
theorem xl{c:Case}(h:(bx c).2.2=0):(iM c.chain).2.2=0:=by
 rw[uO]at h;by_cases h0:(iM c.chain).2.2=0
 ·exact h0
 ·rw[if_neg h0]at h;exact absurd h h0
theorem Ev{c:Case}(h:(bx c).2.2=0):c.chain.av.length<=7/\c.chain.rows.length<=6:=sZ (xl h)
theorem LV(c:Case)(i:Int):aX Tryz.prog 75 [c.d,i64 i] (.tup [jM c i,i64 (gW c i)]):=by
 refine aB Tryz.func75 rfl (ft:=UN) 2 fun {σ} Y st=>?_;conv=>whnf
 refine ah (GB c) rfl rfl ?_;conv=>whnf
 have hl:=Ev (c:=c);refine ag (fun h0=>?_) (fun h0=>?_)
 ·have h0:(bx c).2.2≠0:=by simpa using h0
  conv=>whnf
  refine an 0 rfl ⟨⟨?_,rfl⟩,rfl⟩;simp[jM,gW,h0,bL]
 have h0:(bx c).2.2=0:=by simpa using h0
 obtain⟨hl,_⟩:=hl h0;conv=>whnf
 refine nK (wrap_i64 (by simp;omega)) ?_;conv=>whnf
 refine ak (cW _ _ _) rfl 1 rfl ?_;conv=>whnf
 have hlen:((c.chain.av.map bK.cells).length:Int)=c.chain.av.length:=by simp
 refine ag (fun h1=>?_) (fun h1=>?_)
 ·have h1:a6 i 0 ((c.chain.av.length:Int)-1)=false:=by rw[<- hlen];simpa using h1
  conv=>whnf
  refine an 0 rfl ⟨⟨?_,rfl⟩,rfl⟩;simp[jM,gW,h0,h1,bL]
 ·have h1:a6 i 0 ((c.chain.av.length:Int)-1)=true:=by rw[<- hlen];simpa using h1
  obtain⟨s,hi,hs⟩:=DU h1;conv=>whnf
  refine bY s.cells ⟨hi,by simp[hs]⟩ ?_;conv=>whnf
  refine an 0 rfl ⟨⟨?_,rfl⟩,rfl⟩;simp[jM,gW,h0,h1,hs,bL];rfl
theorem my{α:Type}{f:List α->α->Int}:∀ {l:List α} {b:List α} {i:Int},(a5 f b l i).2=0 -> ∀ x∈l,∃ b',f b' x=0
 | [],_,_,_,x,hx=>by cases hx
 | y::r,b,i,h,x,hx=>by
  simp only[a5]at h;split at h
  ·rename_i h0
   rcases List.mem_cons.1 hx with rfl|hx
   ·exact⟨b,h0⟩
   ·exact my h x hx
  ·rename_i h0;exact absurd h h0
theorem bq{n lo hi:Int}:a6 n lo hi=true↔lo<=n/\n<=hi:=by
 simp[a6]
theorem uX{set:Int}:∀ {l:List cT} {last:Int},gw set last l=0 -> ∀ g∈l,(set<=g.day/\g.day<=40000)/\(0<=g.shown/\g.shown<=60000)
 | [],_,_,g,hg=>by cases hg
 | x::r,last,h,g,hg=>by
  simp only[gw]at h;split at h
  ·rename_i h1
   simp only[Bool.and_eq_true,bq]at h1;split at h
   ·cases h
   ·rcases List.mem_cons.1 hg with rfl|hg
    ·exact h1
    ·exact uX h g hg
  ·cases h
structure Ga(s:bK):Prop where
 ff:1<=s.ff/\s.ff<=40
 set:0<=s.set/\s.set<=40000
 new:1<=s.new.lo/\s.new.lo<=s.new.hi/\s.new.hi<=60000
 wear:0<=s.wear.lo/\s.wear.lo<=s.wear.hi/\s.wear.hi<=20
 len:s.aY.length<=6
 aY:∀ g∈s.aY,(s.set<=g.day/\g.day<=40000)/\(0<=g.shown/\g.shown<=60000)
theorem Ey{s:bK}(h:hU s=0):Ga s:=by
 unfold hU at h;split at h
 ·rename_i h1
  simp only[Bool.and_eq_true,bq]at h1;split at h
  ·cases h
  ·split at h
   ·cases h
   ·refine⟨by omega,by omega,by omega,by omega,by omega,uX h⟩
 ·cases h
structure gb(c:Case):Prop where
 lens:1<=c.chain.av.length/\c.chain.av.length<=7
 R6:1<=c.chain.rows.length/\c.chain.rows.length<=6
 tS:1<=c.chain.tS/\c.chain.tS<=50
 fC:0<=c.chain.fC/\c.chain.fC<=200
 err:0<=c.chain.err/\c.chain.err<=2000
 hold:0<=c.chain.hold.lo/\c.chain.hold.lo<=c.chain.hold.hi/\c.chain.hold.hi<=200000
 av:∀ s∈c.chain.av,Ga s/\s.set<=c.day
 rows:∀ r∈c.chain.rows,(1<=r.scope/\r.scope<=200)/\(1<=r.holds/\r.holds<=1000)
 dj:(0<=c.dj.bf/\c.dj.bf<=10000)/\(0<=c.dj.current/\c.dj.current<=10000)/\(0<=c.dj.aW/\c.dj.aW<=10000)/\(0<=c.dj.wF/\c.dj.wF<=20)
 day:0<=c.day/\c.day<=40000
 Dh:1<=c.aD.length/\c.aD.length<=6
 aD:∀ w∈c.aD,(1<=w.depth.lo/\w.depth.lo<=w.depth.hi/\w.depth.hi<=1000)/\(0<=w.bf.lo/\w.bf.lo<=w.bf.hi/\w.bf.hi<=80)/\(0<=w.current.lo/\w.current.lo<=w.current.hi/\w.current.hi<=80)/\(0<=w.aW.lo/\w.aW.lo<=w.aW.hi/\w.aW.hi<=150)
theorem eV{c:Case}(h:(bx c).2.2=0):gb c:=by
 unfold bx at h;split at h;case isFalse h0=>exact absurd h h0
 rename_i hp;simp only at h;split at h;case isFalse h0=>exact absurd h h0
 rename_i hs;unfold vZ at h;simp only at h;split at h;case isFalse h0=>exact absurd h h0
 rename_i hr;unfold lg at h;split at h;case isFalse=>cases h
 rename_i h1;split at h;case isFalse=>cases h
 rename_i h2;split at h;case isTrue=>cases h
 rename_i h3;split at h;case isFalse=>cases h
 rename_i h4;simp only at h;split at h;case isFalse h0=>exact absurd h h0
 rename_i hw;unfold e6 at hp;split at hp;case isFalse=>cases hp
 rename_i p1;split at hp;case isFalse=>cases hp
 rename_i p2;split at hp;case isTrue=>cases hp
 rename_i p3;simp only[Bool.and_eq_true,bq]at h1 h2 h4 p1 p2;refine⟨by omega,by omega,by omega,by omega,by omega,by omega,fun s hm=>⟨?_,?_⟩,fun r hm=>?_,by omega,by omega,by omega,fun w hm=>?_⟩
 ·obtain⟨b,hb⟩:=my hs s hm
  unfold eH at hb;split at hb
  ·split at hb
   ·cases hb
   ·exact Ey hb
  ·cases hb
 ·rw[Bool.not_eq_true,List.any_eq_false]at h3
  have:=h3 s hm;simp at this;exact this
 ·obtain⟨b,hb⟩:=my hr r hm
  unfold kI at hb;split at hb
  ·rename_i q;simp only[Bool.and_eq_true,bq]at q;exact q
  ·cases hb
 ·obtain⟨b,hb⟩:=my hw w hm
  unfold bV at hb;split at hb
  ·rename_i q
   simp only[Bool.and_eq_true,bq]at q;split at hb
   ·cases hb
   ·omega
  ·cases hb
theorem gb.look{c:Case}(h:gb c){s:bK}(hs:s∈c.chain.av):lq s c.chain.err s.aY:=by
 obtain⟨⟨h1,h2,h3,h4,h5,h6⟩,h7⟩:=h.av s hs;have he:=h.err;refine⟨by omega,⟨by omega,by omega,by omega⟩,fun g hg=>?_,by omega⟩;have:=h6 g hg;unfold y7;omega
def oG(c:Case)(i day:Int):Span×Int:=
 if gW c i=0 then (match c.chain.av[i.toNat]? with
  | some s=>if a6 day s.set 40000 then (if (dU s c.chain.err s.aY day).2 then ((dU s c.chain.err s.aY day).1,0) else (⟨0,0⟩,9)) else (⟨0,0⟩,7)
  | none=>(⟨0,0⟩,0)) else (⟨0,0⟩,gW c i)
theorem vH{c:Case}{i:Int}(h:gW c i=0):(bx c).2.2=0 /\ ∃ s,0<=i/\c.chain.av[i.toNat]?=some s:=by
 unfold gW at h;split at h
 ·rename_i h0
  split at h
  ·rename_i h1
   obtain⟨s,h2,h3⟩:=DU h1;exact⟨h0,s,h2,h3⟩
  ·cases h
 ·rename_i h0;exact absurd h h0
theorem OI(c:Case)(i day:Int):aX Tryz.prog 37 [c.d,i64 i,i64 day] (.tup [(oG c i day).1.d,i64 (oG c i day).2]):=by
 refine aB Tryz.func37 rfl (ft:=Uj) 3 fun {σ} Y st=>?_;conv=>whnf
 refine ah (ds:=[c.d,i64 i]) (LV c i) rfl rfl ?_;by_cases h0:gW c i=0
 ·obtain⟨hc,s,hi,hs⟩:=vH h0
  have hR:=eV hc;have hm:=List.mem_of_getElem? hs;have hL:=hR.look hm;have hr:=(hR.av s hm).1;have hD:jM c i = .agg (cZ s c.chain.err):=by simp[jM,h0,hs]
  rw[hD,h0];conv=>whnf
  refine ak (cW s.set 40000 day) rfl 1 rfl ?_;conv=>whnf
  refine ag (fun h1=>?_) (fun h1=>?_)
  ·have h1:a6 day s.set 40000=false:=by simpa using h1
   conv=>whnf
   refine an 0 rfl ⟨⟨?_,rfl⟩,rfl⟩;simp[oG,h0,hs,h1,bL];rfl
  ·have h1:a6 day s.set 40000=true:=by simpa using h1
   have za:=bq.1 h1;have EW:=hr.set;conv=>whnf
   refine ah (ds:=[.agg (cZ s c.chain.err),i64 day]) (OK s c.chain.err day hL (by omega)) rfl rfl ?_;conv=>whnf
   refine ag (fun h2=>?_) (fun h2=>?_)
   ·have h2:(dU s c.chain.err s.aY day).2=false:=by simpa using h2
    conv=>whnf
    refine an 0 rfl ⟨⟨?_,rfl⟩,rfl⟩;simp[oG,h0,hs,h1,h2,bL];rfl
   ·have h2:(dU s c.chain.err s.aY day).2=true:=by simpa using h2
    conv=>whnf
    refine an 0 rfl ⟨⟨?_,rfl⟩,rfl⟩;simp[oG,h0,hs,h1,h2,bL];rfl
 ·have hD:jM c i = .agg [.str ⟨#[]⟩,i64 0,i64 0,i64 0,i64 0,i64 0,i64 0,.nils,i64 0]:=by simp[jM,h0]
  rw[hD];conv=>whnf
  refine ag (fun h1=>?_) (fun h1=>absurd h0 (by simpa using h1));conv=>whnf
  refine an 0 rfl ⟨⟨?_,rfl⟩,rfl⟩;simp[oG,h0,bL];rfl
def ig{τ:Type}(wf:List Int->τ×Bool)(many:Nat):Nat->List Int->Nat->Option (List Int×τ)
 | 0,p,_=>if (wf p).2 then some (p,(wf p).1) else none
 | left+1,p,start=>(List.range' start (many-left-start)).findSome? fun(i:Nat)=>ig wf many left (p ++ [(i:Int)]) (i+1)
def dx(l:List Int):List (List D):=l.map fun n=>[i64 n]
def lR(start left:Nat):List V:=[.d (i64 start),.d (i64 left),.ptr 1000000 0,.ptr 1000001 0,.ptr 1000002 0,.ptr 1000003 0,.ptr 1000004 0,.ptr 1000005 0]
def Gy:List V:=[.ptr 1000000 0,.ptr 1000001 0,.ptr 1000002 0,.ptr 1000003 0,.ptr 1000004 0,.ptr 1000005 0]
def nb(f g:FuncId)(aL:List D)(many:Nat)(k:Nat)(n:Nat)(p:List Int)(x is:D):aq:=
 [(1000000,.box (.dd [.clo g aL])),(1000001,.box (.vv [.sl k 1 0 n])),(1000002,.box (.dd [x])),(1000003,.box (.dd [is])),(1000004,.box (.dd [i64 many])),(1000005,.box (.vv [.clo f Gy])),(k,.arr 1 (.dd (dx p)))]
def yz(g:FuncId)(aL:List D)(wf:List Int->Int×Bool)(many left:Nat):Prop:=
 ∀ (start:Nat) (p:List Int) (x:Int) (b:Bool),left<=many->start<=many+1->p.length+left<=many->(∀ i∈p,0<=i/\i<many) -> ∀ {σ:Type} (Y:Hd σ) (s:σ),
   FM Tryz.prog Y 116 (lR start left) (nb 116 g aL many 1000006 p.length p (i64 x) (.bool b)) s fun v h' s'=>s'=s /\ ∃ (q:List Int) (y:Int) (b':Bool),h'=nb 116 g aL many 2000000 q.length q (i64 y) (.bool b') /\
    (match ig wf many left p start with
    | some (q',y')=>v = .d (.bool true)/\q=q'/\y=y'/\b'=true
    | none=>v = .d (.bool false)/\q=p)
def yH(g:FuncId)(aL:List D)(wf:List Int->Int×Bool)(many:Nat):Prop:=
 ∀ q:List Int,(∀ i∈q,0<=i/\i<many)->q.length<=many->aX Tryz.prog g (bS q::aL) (.tup [i64 (wf q).1,.bool (wf q).2])
theorem Aw{g:FuncId}{aL:List D}{wf:List Int->Int×Bool}{many:Nat}(hm:many<=1000)(hw:yH g aL wf many):yz g aL wf many 0:=by
 intro start p x b hl hf hp py σ Y s;refine cX mixed ao Tryz.func116 rfl (ft:=DE) (args:=lR start 0) (show qC DE Tryz.f116 8=true from by decide +kernel) ?_;conv=>whnf
 have xF:(dx p).length=p.length:=by simp[dx]
 refine ak (ds:=bS p::aL) (hw p py (by omega)) rfl 1 (aG (cB rfl (by simp[dx])) (sQ aL)) ?_;conv=>whnf
 refine cd [1000006] [.d (.bool (wf p).2)] (nb 116 g aL many 2000000 p.length p (i64 (wf p).1) (.bool (wf p).2)) rfl ⟨rfl,rfl,rfl,rfl,rfl,rfl,rfl,trivial⟩ rfl ?_;refine⟨rfl,p,(wf p).1,(wf p).2,rfl,?_⟩;simp only[ig];cases hb:(wf p).2<;>simp[vQ]
theorem Av{g:FuncId}{aL:List D}{wf:List Int->Int×Bool}{many left:Nat}(hm:many<=1000)(WU:yz g aL wf many left):yz g aL wf many (left+1):=by
 intro start p x b hl hf hp py σ Y s;refine cX mixed ao Tryz.func116 rfl (ft:=DE) (args:=lR start (left+1)) (show qC DE Tryz.f116 8=true from by decide +kernel) ?_;conv=>whnf
 refine bP (T:=tys) ao (by exact ai mixed ao (by decide +kernel)) (α:=Nat×Int×Bool)
  (fun x=>⟨[(1,.d (i64 (left+1:Nat))),(2,.ptr 1000000 0),(3,.ptr 1000001 0),(4,.ptr 1000002 0),(5,.ptr 1000003 0),(6,.ptr 1000004 0),(7,.ptr 1000005 0),(11,.d (i64 x.1))],nb 116 g aL many 900000 p.length p (i64 x.2.1) (.bool x.2.2),s⟩)
  (fun x=>x.1<=many+1/\ig wf many (left+1) p start=(List.range' x.1 (many-left-x.1)).findSome? fun(i:Nat)=>ig wf many left (p ++ [(i:Int)]) (i+1)) (fun x=>many+1-x.1) (start,x,b)
  ((Wk.move 1000006 900000 rfl rfl).trans aI) ⟨hf,rfl⟩ ?_
 clear hf x b;rintro ⟨i,x,b⟩ ⟨hi,he⟩;simp only at hi he;conv=>whnf
 refine af ?_;conv=>whnf
 refine ag (fun h1=>?_) (fun h1=>?_)
 ·have h1:i<=many-(left+1):=by have:=of_decide_eq_true h1;omega
  obtain⟨m,BX⟩:∃ m,many-left-i=m+1:=⟨many-left-i-1,by omega⟩;rw[BX,List.range'_succ,List.findSome?_cons]at he;have nr:(dx p).length=p.length:=by simp[dx]
  conv=>whnf
  refine aK rfl ?_;conv=>whnf
  refine ny.mk (by simp[a7.len,nr]) ?_;conv=>whnf
  refine bc (by simp[a7.len,a7.part,a7.cons,V.cells,nr];omega) ?_;conv=>whnf
  refine aA (((i+1:Nat):Int)) (by(try dsimp only);omega) (wrap_i64 (by(try dsimp only);omega)) ?_;conv=>whnf
  refine aA ((left:Int)) (by(try dsimp only);omega) (wrap_i64 (by(try dsimp only);omega)) ?_;conv=>whnf
  have MB:∀ j∈p ++ [(i:Int)],0<=j/\j<many:=by
   intro j hj;rcases List.mem_append.1 hj with hj|hj
   ·exact py j hj
   ·rw[List.mem_singleton]at hj;subst hj;omega
  have ih:=WU (i+1) (p ++ [(i:Int)]) x b (by omega) (by omega) (by simp;omega) MB Y.np s;refine qH ih [1000000,1000001,1000002,1000003,1000004,1000005,32] rfl ⟨_,_,rfl,rfl,_,_,rfl,(by
    show some (Obj.box (Cells.vv [V.sl 32 1 0 ((((dx p).drop 0).take p.length).length+1)]))=some (Obj.box (Cells.vv [V.sl 32 1 0 (p ++ [(i:Int)]).length]));simp[dx]),_,_,rfl,rfl,_,_,rfl,rfl,_,_,rfl,rfl,_,_,rfl,rfl,_,_,rfl,(by
    show some (Obj.arr 1 (a7.dd ((((dx p).drop 0).take p.length) ++ [[i64 (i:Int)]])))=some (Obj.arr 1 (a7.dd (dx (p ++ [(i:Int)]))));simp[dx,List.take_of_length_le]),rfl⟩ rfl rfl ?_
  rintro v h1 s' ⟨rfl,q,y,b',rfl,il⟩
  cases hF:ig wf many left (p ++ [(i:Int)]) (i+1) with
  | some r=>
   obtain⟨q',y'⟩:=r;rw[hF]at il he;obtain⟨rfl,rfl,rfl,rfl⟩:=il;refine⟨rfl,?_⟩;conv=>whnf
   refine cd [102432] [.d (.bool true)] (nb 116 g aL many 2000000 q.length q (i64 y) (.bool true)) rfl ⟨rfl,qP rfl ⟨⟨rfl,rfl,rfl,rfl⟩,trivial⟩,rfl,rfl,rfl,qP rfl ⟨⟨rfl,⟨rfl,rfl⟩,⟨rfl,rfl⟩,⟨rfl,rfl⟩,⟨rfl,rfl⟩,⟨rfl,rfl⟩,⟨rfl,rfl⟩,trivial⟩,trivial⟩,rfl,trivial⟩ rfl ?_;refine⟨rfl,q,y,true,rfl,?_⟩;rw[he];exact⟨rfl,rfl,rfl,rfl⟩
  | none=>
   rw[hF]at il he;obtain⟨rfl,rfl⟩:=il;refine⟨rfl,?_⟩;conv=>whnf
   refine aA (p.length:Int) (by simp) (wrap_i64 (by omega)) ?_;conv=>whnf
   refine bc (by simp;omega) ?_;conv=>whnf
   refine aA (((i+1:Nat):Int)) (by(try dsimp only);omega) (wrap_i64 (by(try dsimp only);omega)) ?_;conv=>whnf
   have zi:many-left-(i+1)=m:=by omega
   refine⟨(i+1,y,b'),by simp only;omega,⟨by simp only;omega,by simp only;rw[zi];exact he⟩,(Wk.move 102432 900000 rfl rfl).trans ((Wk.shrink 900000 p.length rfl).trans ?_)⟩;have Ww:(dx (p ++ [(i:Int)])).take p.length=dx p:=by simp[dx,List.take_left']
   refine Wk.sub ⟨rfl,rfl,rfl,rfl,rfl,rfl,rfl,rfl,trivial⟩ ⟨rfl,?_,rfl,rfl,rfl,rfl,?_,trivial⟩
   ·rfl
   ·show some (Obj.arr 1 (a7.dd ((dx (p ++ [(i:Int)])).take p.length)))=_
    rw[Ww]
 ·have h1:¬ (i:Int)<=(many:Int)-((left+1:Nat):Int):=of_decide_eq_false h1
  rw[show many-left-i=0 by omega]at he;conv=>whnf
  refine cd [900000] [.d (.bool false)] (nb 116 g aL many 2000000 p.length p (i64 x) (.bool b)) rfl ⟨rfl,rfl,rfl,rfl,rfl,rfl,rfl,trivial⟩ rfl ?_;refine⟨rfl,p,x,b,rfl,?_⟩;rw[he];exact⟨rfl,rfl⟩
theorem LO{g:FuncId}{aL:List D}{wf:List Int->Int×Bool}{many:Nat}(hm:many<=1000)(hw:yH g aL wf many)(left:Nat):yz g aL wf many left:=by
 induction left with
 | zero=>exact Aw hm hw
 | succ n ih=>exact Av hm ih
theorem OX(p:List Int)(hp:p.length<1000000):aX Tryz.prog 117 [bS p] (bS p):=by
 refine aB Tryz.func117 rfl (ft:=Pf) 1 fun {σ} Y st=>?_;conv=>whnf
 refine⟨fun b hb=>?_⟩
 cases b with
 | true=>
  have wN:p = []:=by
   cases p with
   | nil=>rfl
   | cons a r=>exact absurd (hb (by simp)) (by simp)
  subst wN;conv=>whnf
  refine gM ?_;exact ae
 | false=>
  conv=>whnf
  refine ny.mk rfl ?_;conv=>whnf
  refine bc (by
   show(fE 1 (p.map fun n=>[i64 n])&&true)=true;rw[dG (fun x=>⟨rfl,rfl⟩)];rfl) ?_
  conv=>whnf
  refine bc (by simp[a7.len,a7.part];omega) ?_;conv=>whnf
  exact Ds (es:=p.map fun n=>[i64 n]) rfl (by simp[a7.len,a7.part]) ⟨⟨rfl,rfl⟩,rfl⟩
def kX{τ:Type}(wf:List Int->τ×Bool)(many:Nat):Option (List Int×τ):=(List.range' 0 (many+1)).findSome? fun(n:Nat)=>ig wf many n [] 0
theorem sd{τ:Type}{wf:List Int->τ×Bool}{many:Nat}:∀ {left:Nat} {p:List Int} {start:Nat} {q:List Int} {y:τ},ig wf many left p start=some (q,y)->q.length=p.length+left
 | 0,p,start,q,y,h=>by
  simp only[ig]at h;split at h
  ·cases h;rfl
  ·cases h
 | left+1,p,start,q,y,h=>by
  simp only[ig]at h;obtain⟨i,hi,h1⟩:=List.exists_of_findSome?_eq_some h;have:=sd h1;simp at this;omega
theorem TD(g:FuncId)(aL:List D)(wf:List Int->Int×Bool)(many:Nat)(hm:many<=1000)(hw:yH g aL wf many){σ:Type}(Y:Hd σ)(s:σ) :
  FM Tryz.prog Y 78 [.d (i64 many),.d (.clo g aL)] [] s fun v h' s'=>s'=s/\h' = []/\(match kX wf many with
   | some (q,y)=>v = .d (.tup [bS q,i64 y,.bool true])
   | none=>∃ y,v = .d (.tup [bS [],i64 y,.bool false])):=by
 refine cX mixed ao Tryz.func78 rfl (ft:=Qi) (args:=[.d (i64 many),.d (.clo g aL)]) (show qC Qi Tryz.f78 2=true from by decide +kernel) ?_;conv=>whnf
 refine af ?_;conv=>whnf
 refine bP (T:=tys) ao (by exact ai mixed ao (by decide +kernel)) (α:=Nat×Int×Bool)
  (fun x=>⟨[(2,.ptr 2 0),(3,.ptr 3 0),(4,.ptr 4 0),(5,.ptr 5 0),(6,.ptr 6 0),(7,.ptr 7 0),(11,.d (i64 (many+1:Nat))),(12,.d (i64 x.1))],
   [(2,.box (.dd [i64 many])),(3,.box (.dd [.clo g aL])),(4,.box (.vv [.sl 900000 1 0 0])),(5,.box (.dd [i64 x.2.1])),(6,.box (.dd [.bool x.2.2])),(7,.box (.vv [.clo 116 [.ptr 3 0,.ptr 4 0,.ptr 5 0,.ptr 6 0,.ptr 2 0,.ptr 7 0]])),(900000,.arr 1 (.dd []))],s⟩)
  (fun x=>x.1<=many+1/\kX wf many=(List.range' x.1 (many+1-x.1)).findSome? fun(n:Nat)=>ig wf many n [] 0) (fun x=>many+1-x.1) (0,0,false)
  ((Wk.Dx 4 900000 1 rfl rfl rfl rfl).trans aI) ⟨by simp,rfl⟩ ?_
 rintro ⟨n,x,b⟩ ⟨hn,he⟩;simp only at hn he;conv=>whnf
 refine ag (fun h1=>?_) (fun h1=>?_)
 ·have h1:n<many+1:=by have:=of_decide_eq_true h1;omega
  obtain⟨m,BX⟩:∃ m,many+1-n=m+1:=⟨many-n,by omega⟩;have zi:many+1-(n+1)=m:=by omega
  rw[BX,List.range'_succ,List.findSome?_cons]at he;conv=>whnf
  refine Dp (LO hm hw n 0 [] x b (by omega) (by omega) (by simp;omega) (by simp) Y.np s) [3,4,5,6,2,7,900000] rfl ⟨_,_,rfl,rfl,_,_,rfl,rfl,_,_,rfl,rfl,_,_,rfl,rfl,_,_,rfl,rfl,_,_,rfl,rfl,_,_,rfl,rfl,rfl⟩ rfl rfl ?_;rintro v h1 s' ⟨rfl,q,y,b',rfl,il⟩
  cases hF:ig wf many n [] 0 with
  | some r=>
   obtain⟨q',y'⟩:=r;rw[hF]at il he;obtain⟨rfl,rfl,rfl,rfl⟩:=il;refine⟨rfl,?_⟩;conv=>whnf
   refine⟨⟨[(4,.ptr 4 0),(5,.ptr 5 0),(6,.ptr 6 0),(17,.d (.bool true))],[(4,.box (.dd [bS q])),(5,.box (.dd [i64 y])),(6,.box (.dd [.bool true]))],s'⟩,(Wk.OY 1 [101088]).trans (Wk.sub ⟨rfl,rfl,rfl,rfl,trivial⟩ ⟨?_,rfl,rfl,trivial⟩),?_⟩
   ·exact DG (id:=101088) (sz:=1) (n:=q.length) rfl (cB (es:=dx q) rfl (by simp[dx]))
   conv=>whnf
   refine al (OX q (by have:=sd hF;simp at this;omega)) rfl rfl ?_;conv=>whnf
   refine an 0 rfl ⟨rfl,rfl,?_⟩;rw[he];rfl
  | none=>
   rw[hF]at il he;obtain⟨rfl,rfl⟩:=il;refine⟨rfl,?_⟩;conv=>whnf
   refine⟨⟨[(2,.ptr 2 0),(3,.ptr 3 0),(4,.ptr 4 0),(5,.ptr 5 0),(6,.ptr 6 0),(7,.ptr 7 0),(11,.d (i64 (many+1:Nat))),(12,.d (i64 n)),(17,.d (.bool false))],
    [(2,.box (.dd [i64 many])),(3,.box (.dd [.clo g aL])),(4,.box (.vv [.sl 900000 1 0 0])),(5,.box (.dd [i64 y])),(6,.box (.dd [.bool b'])),(7,.box (.vv [.clo 116 [.ptr 3 0,.ptr 4 0,.ptr 5 0,.ptr 6 0,.ptr 2 0,.ptr 7 0]])),(900000,.arr 1 (.dd []))],s'⟩,
    (Wk.move 101088 900000 rfl rfl).trans aI,?_⟩
   conv=>whnf
   refine af ?_;conv=>whnf
   exact⟨(n+1,y,b'),by simp only;omega,⟨by simp only;omega,by simp only;rw[zi];exact he⟩,aI⟩
 ·have h1:¬ n<many+1:=by have:=of_decide_eq_false h1;omega
  rw[show many+1-n=0 by omega]at he;conv=>whnf
  refine gM ?_;refine an 0 rfl ⟨rfl,rfl,?_⟩;rw[he];exact⟨x,rfl⟩
theorem TP(l:List Int)(v:Int)(hl:l.length<4000000000000000000):aX Tryz.prog 118 [bS l,i64 v] (i64 (indexOf (fun x=>decide (v=x)) l 0)):=by
 refine aB Tryz.func118 rfl (ft:=Pg) 2 fun {σ} Y st=>?_;conv=>whnf
 refine ba (T:=tys) ao (by exact ai mixed ao (by decide +kernel)) l (fun i (_:Unit)=>⟨[(0,.d (bS l)),(1,.d (i64 v)),(7,.d (i64 l.length)),(8,.d (i64 i))],[],st⟩) (fun i r _=>indexOf (fun x=>decide (v=x)) l 0=indexOf (fun x=>decide (v=x)) r i) ()
  aI rfl ?_ ?_
 ·intro i x r _ hx hi hr he
  rw[indexOf]at he;conv=>whnf
  refine ag (fun _=>?_) (fun h=>absurd hi (by simpa using h));conv=>whnf
  refine au hx ?_;conv=>whnf
  refine ag (fun h1=>?_) (fun h1=>?_)
  ·conv=>whnf
   rw[if_pos h1]at he;rw[he];exact ae
  ·conv=>whnf
   rw[if_neg (by simp[h1])]at he;refine af ?_;conv=>whnf
   exact⟨(),he,aI⟩
 ·intro _ he
  conv=>whnf
  refine ag (fun h=>absurd h (by simp)) (fun _=>?_);conv=>whnf
  rw[he];exact ae
theorem TF(l:List Int)(v:Int)(hl:l.length<4000000000000000000):aX Tryz.prog 80 [bS l,i64 v] (.bool (decide (v∈l))):=by
 refine aB Tryz.func80 rfl (ft:=UQ) 2 fun {σ} Y st=>?_;conv=>whnf
 refine ah (TP l v hl) rfl rfl ?_;conv=>whnf
 refine an 0 rfl ⟨⟨?_,rfl⟩,rfl⟩;have h1:=eO (fun x=>decide (v=x)) l 0 (by omega);have h2:(l.any fun x=>decide (v=x))=decide (v∈l):=by
  rw[Bool.eq_iff_iff];simp
 rw[<- h2,<- h1];rfl
def r9(s:bK)(off:Int)(q:List Int):Int×Bool:=((dO q s.aY 0).length,!(ll s off (dO q s.aY 0)).isEmpty)
theorem m8{α:Type}{q:List Int}:∀ {l:List α} {i:Int},∀ x∈dO q l i,x∈l
 | [],i,x,h=>by cases h
 | a::r,i,x,h=>by
  simp only[dO]at h;split at h
  ·exact List.mem_cons_of_mem _ (m8 x h)
  ·rcases List.mem_cons.1 h with rfl|h
   ·simp
   ·exact List.mem_cons_of_mem _ (m8 x h)
theorem m7{α:Type}{q:List Int}:∀ {l:List α} {i:Int},(dO q l i).length<=l.length
 | [],i=>by simp[dO]
 | a::r,i=>by
  simp only[dO];split
  ·have:=m7 (q:=q) (l:=r) (i:=i+1);simp;omega
  ·have:=m7 (q:=q) (l:=r) (i:=i+1);simp;omega
theorem lq.sub{s:bK}{off:Int}{gs Vq:List cT}(h:lq s off gs)(hm:∀ g∈Vq,g∈gs)(hl:Vq.length<=gs.length):lq s off Vq:=⟨h.off,h.Sa,fun g hg=>h.YA g (hm g hg),by have:=h.len;omega⟩
theorem TE(s:bK)(off:Int)(q:List Int)(h:lq s off s.aY)(hq:q.length<1000000):aX Tryz.prog 79 [bS q,.ref (cZ s off)] (.tup [i64 (r9 s off q).1,.bool (r9 s off q).2]):=by
 refine aB Tryz.func79 rfl (ft:=UP) 2 fun {σ} Y st=>?_;conv=>whnf
 have hlen:=h.len;refine ba (T:=tys) ao (by exact ai mixed ao (by decide +kernel)) s.aY (fun i (acc:List cT)=>⟨[(0,.d (bS q)),(1,.d (.ref (cZ s off))),(5,.sl 24 2 0 acc.length),(10,.d (fZ s.aY)),(11,.d (i64 s.aY.length)),(12,.d (i64 i))],[(24,.arr 2 (.dd (acc.map cT.cells)))],st⟩)
  (fun i r acc=>acc.length<=i/\dO q s.aY 0=acc++dO q r i) []
  ((Wk.born 5 24 2 rfl rfl rfl).trans aI) ⟨by simp,rfl⟩ ?_ ?_
 ·intro i x r acc hx hi hr ⟨ha,he⟩
  rw[dO]at he;conv=>whnf
  refine ag (fun _=>?_) (fun h=>absurd hi (by simpa using h));conv=>whnf
  refine au hx ?_;conv=>whnf
  refine ah (TF q i (by omega)) rfl rfl ?_;conv=>whnf
  refine ag (fun h1=>?_) (fun h1=>?_)
  ·have h1:(i:Int)∉q:=by simpa using h1
   rw[if_neg h1]at he;conv=>whnf
   refine aK rfl ?_;conv=>whnf
   refine ny.mk (by simp[a7.len]) ?_;conv=>whnf
   refine bc (by simp[a7.len,a7.part,a7.cons,V.cells];omega) ?_;conv=>whnf
   refine af ?_;conv=>whnf
   refine⟨acc ++ [x],⟨by simp;omega,by rw[he,List.append_assoc];rfl⟩,Wk.sub ⟨rfl,rfl,?_,rfl,rfl,rfl,trivial⟩ ⟨?_,trivial⟩⟩
   ·simp[PX.get,a7.len,a7.part,a7.cons,V.cells]
   ·simp[PX.get,a7.app,a7.part,a7.cons,V.cells,cT.cells,Il]
  ·have h1:(i:Int)∈q:=by simpa using h1
   rw[if_pos h1]at he;conv=>whnf
   refine af ?_;conv=>whnf
   exact⟨acc,⟨by omega,he⟩,aI⟩
 ·intro acc ⟨ha,he⟩
  rw[dO,List.append_nil]at he;conv=>whnf
  refine ag (fun h=>absurd h (by simp)) (fun _=>?_);conv=>whnf
  rw[<- he]at ha ⊢;refine ak (ds:=[.agg (cZ s off),fZ (dO q s.aY 0)]) (TG s off (dO q s.aY 0) (h.sub (fun g hg=>m8 g hg) m7)) rfl 1 (aG rfl (aG (cB rfl (by simp)) rfl)) ?_;conv=>whnf
  exact ae
def yT(s:bK)(off:Int):List Int:=
 match kX (r9 s off) s.aY.length with
 | some (q,_)=>q
 | none=>[]
def qT(c:Case)(i:Int):List Int:=
 if gW c i=0 then (match c.chain.av[i.toNat]? with
  | some s=>yT s c.chain.err
  | none=>[]) else []
theorem Tp(c:Case)(i:Int):aX Tryz.prog 39 [c.d,i64 i] (.tup [bS (qT c i),i64 (gW c i)]):=by
 refine aB Tryz.func39 rfl (ft:=Uk) 2 fun {σ} Y st=>?_;conv=>whnf
 refine ah (ds:=[c.d,i64 i]) (LV c i) rfl rfl ?_;by_cases h0:gW c i=0
 ·obtain⟨hc,s,hi,hs⟩:=vH h0
  have hR:=eV hc;have hm:=List.mem_of_getElem? hs;have hL:=hR.look hm;have hr:=(hR.av s hm).1;have hlen:=hr.len;have hD:jM c i = .agg (cZ s c.chain.err):=by simp[jM,h0,hs]
  rw[hD,h0];conv=>whnf
  have n4:yH 79 [.ref (cZ s c.chain.err)] (r9 s c.chain.err) s.aY.length:=fun q _ hq=>TE s c.chain.err q hL (by omega);refine w8 1 [6] ?_;refine xa (e':=[(2,.ptr 2 0),(4,.d .nils),(7,.d (i64 0))]) (h':=[]) (args':=[.d (i64 s.aY.length),.d (.clo 79 [.ref (cZ s c.chain.err)])]) ⟨rfl,rfl,rfl,trivial⟩ trivial (by simp only[List.length_map];rfl) ?_;refine qH (TD 79 [.ref (cZ s c.chain.err)] (r9 s c.chain.err) s.aY.length (by omega) n4 Y st) [] rfl rfl rfl rfl ?_;rintro v h1 s' ⟨rfl,rfl,hv⟩
  cases hF:kX (r9 s c.chain.err) s.aY.length with
  | some r=>
   obtain⟨q,y⟩:=r;rw[hF]at hv;simp only at hv;subst hv;refine⟨rfl,?_⟩;conv=>whnf
   refine an 0 rfl ⟨⟨?_,rfl⟩,rfl⟩;simp[qT,yT,h0,hs,hF,bL]
  | none=>
   rw[hF]at hv;obtain⟨y,rfl⟩:=hv;refine⟨rfl,?_⟩;conv=>whnf
   refine an 0 rfl ⟨⟨?_,rfl⟩,rfl⟩;simp[qT,yT,h0,hs,hF,bL]
 ·have hD:jM c i = .agg [.str ⟨#[]⟩,i64 0,i64 0,i64 0,i64 0,i64 0,i64 0,.nils,i64 0]:=by simp[jM,h0]
  rw[hD];conv=>whnf
  refine ag (fun h1=>?_) (fun h1=>absurd h0 (by simpa using h1));conv=>whnf
  refine gM ?_;refine an 0 rfl ⟨⟨?_,rfl⟩,rfl⟩;simp[qT,h0,bL,bS]
structure dL where
 depth:Int
 bf:Int
 current:Int
 aW:Int
 hold:Int
 dn:List Int
def dL.cells(t:dL):List D:=[i64 t.depth,i64 t.bf,i64 t.current,i64 t.aW,i64 t.hold,bS t.dn]
def dL.d(t:dL):D:=.agg t.cells
def r4.cells(s:r4):List D:=[i64 s.bf,i64 s.current,i64 s.aW,i64 s.wF]
def mA(s:r4)(t:dL):D:=.agg (s.cells++t.cells)
structure ja(s:r4)(t:dL):Prop where
 bf:0<=s.bf/\s.bf<=10000
 current:0<=s.current/\s.current<=10000
 aW:0<=s.aW/\s.aW<=10000
 wF:0<=s.wF/\s.wF<=20
 Ns:0<=t.depth/\t.depth<=1000
 Ek:0<=t.bf/\t.bf<=80
 rQ:0<=t.current/\t.current<=80
 zQ:0<=t.aW/\t.aW<=150
 Sb:0<=t.hold/\t.hold<=200000
theorem ev{a b:Int}(A B:Int)(ha:0<=a/\a<=A)(hb:0<=b/\b<=B):0<=a*b/\a*b<=A*B:=
 ⟨Int.mul_nonneg ha.1 hb.1,Int.mul_le_mul ha.2 hb.2 hb.1 (by omega)⟩
theorem TQ(s:r4)(t:dL)(h:ja s t):aX Tryz.prog 119 [mA s t] (i64 (t.bf*t.bf*s.bf)):=by
 refine aB Tryz.func119 rfl (ft:=Ph) 1 fun {σ} Y st=>?_;conv=>whnf
 have h1:=ev 80 80 h.Ek h.Ek;have h2:=ev 6400 10000 h1 h.bf;refine af ?_;conv=>whnf
 refine af ?_;conv=>whnf
 exact ae
theorem Ou(s:r4)(t:dL)(h:ja s t):aX Tryz.prog 120 [mA s t] (i64 (t.current*t.current*s.current)):=by
 refine aB Tryz.func120 rfl (ft:=Pj) 1 fun {σ} Y st=>?_;conv=>whnf
 have h1:=ev 80 80 h.rQ h.rQ;have h2:=ev 6400 10000 h1 h.current;refine af ?_;conv=>whnf
 refine af ?_;conv=>whnf
 exact ae
theorem Ov(s:r4)(t:dL)(h:ja s t):aX Tryz.prog 122 [mA s t] (i64 (t.aW*s.aW)):=by
 refine aB Tryz.func122 rfl (ft:=Pl) 1 fun {σ} Y st=>?_;conv=>whnf
 have h1:=ev 150 10000 h.zQ h.aW;refine af ?_;conv=>whnf
 exact ae
def w7(n b:Int):Int:=(n+b-1).tdiv b
def nj(s:r4)(t:dL)(out:Int):Int:=w7 ((w7 (t.bf*t.bf*s.bf+t.current*t.current*s.current) 100+t.aW*s.aW)*(1000+s.wF*out)) 1000
theorem Db{n b:Int}(N:Int)(hn:0<=n/\n<=N)(hb:1<=b):0<=w7 n b/\w7 n b<=N+b:=by
 unfold w7;rw[Int.tdiv_eq_ediv_of_nonneg (by omega)];constructor
 ·exact Int.ediv_nonneg (by omega) (by omega)
 ·exact Int.le_trans (Int.ediv_le_self _ (by omega)) (by omega)
theorem Bt{s:r4}{t:dL}(h:ja s t){out:Int}(ho:0<=out/\out<=1000) :
  (0<=t.bf*t.bf*s.bf/\t.bf*t.bf*s.bf<=64000000)/\(0<=t.current*t.current*s.current/\t.current*t.current*s.current<=64000000) /\
  (0<=w7 (t.bf*t.bf*s.bf+t.current*t.current*s.current) 100/\w7 (t.bf*t.bf*s.bf+t.current*t.current*s.current) 100<=128000100) /\
  (0<=t.aW*s.aW/\t.aW*s.aW<=1500000)/\(0<=s.wF*out/\s.wF*out<=20000) /\
  (0<=(w7 (t.bf*t.bf*s.bf+t.current*t.current*s.current) 100+t.aW*s.aW)*(1000+s.wF*out)/\(w7 (t.bf*t.bf*s.bf+t.current*t.current*s.current) 100+t.aW*s.aW)*(1000+s.wF*out)<=130000000*21000) /\
  (0<=nj s t out/\nj s t out<=3000000000000):=by
 have h1:=ev 6400 10000 (ev 80 80 h.Ek h.Ek) h.bf;have h2:=ev 6400 10000 (ev 80 80 h.rQ h.rQ) h.current;have h3:=Db (n:=t.bf*t.bf*s.bf+t.current*t.current*s.current) (b:=100) 128000000 (by omega) (by omega);have h4:=ev 150 10000 h.zQ h.aW;have h5:=ev 20 1000 h.wF ho;have h6:=ev (a:=w7 (t.bf*t.bf*s.bf+t.current*t.current*s.current) 100+t.aW*s.aW) (b:=1000+s.wF*out) 130000000 21000 (by omega) (by omega);have h7:=Db (n:=(w7 (t.bf*t.bf*s.bf+t.current*t.current*s.current) 100+t.aW*s.aW)*(1000+s.wF*out)) (b:=1000) (130000000*21000) h6 (by omega);refine⟨by omega,by omega,by omega,by omega,by omega,h6,?_⟩;unfold nj;omega
theorem OM(s:r4)(t:dL)(out:Int)(h:ja s t)(ho:0<=out/\out<=1000):aX Tryz.prog 83 [mA s t,i64 out] (i64 (nj s t out)):=by
 refine aB Tryz.func83 rfl (ft:=UT) 2 fun {σ} Y st=>?_;conv=>whnf
 obtain⟨b1,b2,b3,b4,b5,b6,b7⟩:=Bt h ho;refine bP (T:=tys) ao (by exact ai mixed ao (by decide +kernel)) (α:=Nat×Int)
  (fun x=>⟨[(1,.d (i64 out)),(2,.ptr 2 0),(5,.d (i64 x.2)),(12,.d (.agg [.mth 119 [mA s t],.mth 120 [mA s t]])),(13,.d (i64 x.1))],[(2,.box (.dd (s.cells++t.cells)))],st⟩)
  (fun x=>(x.1=0/\x.2=0)\/(x.1=1/\x.2=t.bf*t.bf*s.bf)\/(x.1=2/\x.2=t.bf*t.bf*s.bf+t.current*t.current*s.current)) (fun x=>2-x.1) (0,0)
  aI (.inl ⟨rfl,rfl⟩) ?_
 rintro ⟨n,sum⟩ hn;simp only at hn;rcases hn with⟨rfl,rfl⟩|⟨rfl,rfl⟩|⟨rfl,rfl⟩
 ·conv=>whnf
  refine ah (TQ s t h) rfl rfl ?_;conv=>whnf
  refine af ?_;conv=>whnf
  refine af ?_;conv=>whnf
  refine⟨(1,t.bf*t.bf*s.bf),by simp,.inr (.inl ⟨rfl,rfl⟩),Wk.sub ⟨rfl,rfl,by simp[PX.get],rfl,rfl,trivial⟩ ⟨rfl,trivial⟩⟩
 ·conv=>whnf
  refine ah (Ou s t h) rfl rfl ?_;conv=>whnf
  refine af ?_;conv=>whnf
  refine af ?_;conv=>whnf
  refine⟨(2,t.bf*t.bf*s.bf+t.current*t.current*s.current),by simp,.inr (.inr ⟨rfl,rfl⟩),aI⟩
 ·conv=>whnf
  refine al (ds:=[i64 (t.bf*t.bf*s.bf+t.current*t.current*s.current),i64 100]) (Gz _ 100 (by omega) (by omega)) rfl rfl ?_;conv=>whnf
  refine al (ds:=[mA s t]) (Ov s t h) rfl rfl ?_;conv=>whnf
  have e1:(t.bf*t.bf*s.bf+t.current*t.current*s.current+100-1).tdiv 100=w7 (t.bf*t.bf*s.bf+t.current*t.current*s.current) 100:=rfl;rw[e1];refine af ?_;conv=>whnf
  refine af ?_;conv=>whnf
  refine af ?_;conv=>whnf
  refine af ?_;conv=>whnf
  refine ah (ds:=[i64 ((w7 (t.bf*t.bf*s.bf+t.current*t.current*s.current) 100+t.aW*s.aW)*(1000+s.wF*out)),i64 1000]) (Gz _ 1000 (by omega) (by omega)) rfl rfl ?_;conv=>whnf
  exact ae
def bI:List bK->Int->List (D×D)
 | [],_=>[]
 | s::r,i=>(i64 i,s.new.d)::bI r (i+1)
theorem pK:∀ (l:List bK) (x:bK) (i:Int),bI (l ++ [x]) i=bI l i ++ [(i64 (i+l.length),x.new.d)]
 | [],x,i=>by simp[bI]
 | s::r,x,i=>by
  have:i+1+(r.length:Int)=i+((s::r).length:Nat):=by simp only[List.length_cons];omega
  simp only[List.cons_append,bI,pK r x (i+1),this]
theorem s8:∀ (l:List bK) (i n:Int) (j:Nat),i+l.length<=n->findD (i64 n) (bI l i) j=some none
 | [],i,n,j,_=>rfl
 | s::r,i,n,j,h=>by
  simp only[List.length_cons]at h;have:decide (n=i)=false:=by simp;omega
  simp only[bI,findD,gY,decide_true,this];exact s8 r (i+1) n (j+1) (by omega)
theorem s9:∀ (l:List bK) (i:Int) (k j:Nat) (s:bK),l[k]?=some s->findD (i64 (i+k)) (bI l i) j=some (some (j+k,s.new.d))
 | [],i,k,j,s,h=>by simp at h
 | x::r,i,0,j,s,h=>by
  simp at h;subst h;simp[bI,findD,gY]
 | x::r,i,k+1,j,s,h=>by
  have h:r[k]?=some s:=by simpa using h
  have:decide (i+((k+1:Nat):Int)=i)=false:=by simp;omega
  simp only[bI,findD,gY,decide_true,this];have:=s9 r (i+1) k (j+1) s h;rw[show i+((k+1:Nat):Int)=i+1+(k:Int) by omega,this]
  congr 3;omega
def aM(c:Case):List Span:=c.chain.av.map fun s=>(dU s c.chain.err s.aY c.day).1
def lI(c:Case):Int:=lJ c.chain.err c.day c.chain.av 0
def Ld(c:Case):List D:=c.cells ++ [cw (aM c),.mv (bI c.chain.av 0)]
def Hy(c:Case):D:=.ref (Ld c)
theorem rN{off day:Int}:∀ (l:List bK),lJ off day l 8=8
 | []=>rfl
 | x::r=>by simp[lJ]
theorem LW(c:Case)(e:Int)(hc:e=0->gb c):aX Tryz.prog 56 [c.d,i64 e] (.tup [if e=0 then (if lI c=0 then Hy c else .nilp) else .nilp,i64 (if e=0 then lI c else e)]):=by
 refine aB Tryz.func56 rfl (ft:=Uz) 2 fun {σ} Y st=>?_;conv=>whnf
 refine ag (fun h1=>?_) (fun h1=>?_)
 ·have h1:e≠0:=by simpa using h1
  conv=>whnf
  refine an 0 rfl ⟨⟨?_,rfl⟩,rfl⟩;simp[h1,bL]
 have h1:e=0:=by simpa using h1
 have hR:=hc h1;subst h1;simp only[if_true];have hlen:=hR.lens;obtain⟨sE,XK⟩:∃ x,x=lI c:=⟨_,rfl⟩;rw[<- XK];conv=>whnf
 refine ba (T:=tys) ao (by exact ai mixed ao (by decide +kernel)) c.chain.av (fun i (_:Unit)=>⟨[(2,.ptr 2 0),(6,.ptr 17 0),(20,.d (gq c.chain.av)),(21,.d (i64 c.chain.av.length)),(22,.d (i64 i))],
   [(2,.box (.dd c.cells)),(17,.box (.vv (inj c.cells ++ [.sl 47 2 0 i,.mp 15]))),(47,.arr 2 (.dd (((aM c).take i).map Span.cells))),(15,.map (bI (c.chain.av.take i) 0))],st⟩)
  (fun i r _=>(∀ s∈r,s∈c.chain.av)/\sE=lJ c.chain.err c.day r 0) ()
  ((Wk.Lt 17 47 2 (inj c.cells) [.mp 15] rfl rfl rfl rfl).trans aI) ⟨fun _ h=>h,XK⟩ ?_ ?_
 ·intro i x r _ hx hi hr ⟨hm,he⟩
  have Zq:=hm x (by simp);have hL:=hR.look Zq;have Mm:=hR.day;rw[lJ,if_pos rfl]at he;have vh:c.chain.av.take (i+1)=c.chain.av.take i ++ [x]:=by rw[List.take_succ,hx];rfl
  have ZF:(aM c).take (i+1)=(aM c).take i ++ [(dU x c.chain.err x.aY c.day).1]:=by
   rw[List.take_succ];simp[aM,hx]
  have dI:((aM c).take i).length=i:=by simp[aM];omega
  have Ha:min i (aM c).length=i:=by simpa using dI
  conv=>whnf
  refine ag (fun _=>?_) (fun h=>absurd hi (by simpa using h));conv=>whnf
  refine au hx ?_;conv=>whnf
  refine ah (ds:=[.agg (cZ x c.chain.err),i64 c.day]) (OK x c.chain.err c.day hL (by omega)) rfl rfl ?_;conv=>whnf
  refine ag (fun h2=>?_) (fun h2=>?_)
  ·have h2:(dU x c.chain.err x.aY c.day).2=false:=by simpa using h2
   rw[h2]at he;simp only[Bool.false_eq_true,if_false,rN]at he;conv=>whnf
   rw[he];exact ae
  ·have h2:(dU x c.chain.err x.aY c.day).2=true:=by simpa using h2
   rw[h2]at he;simp only[if_true]at he;conv=>whnf
   refine aK rfl ?_;conv=>whnf
   refine ny.mk (by simp[a7.len,Ha]) ?_;conv=>whnf
   refine bc (by simp[a7.len,a7.part,a7.cons,V.cells,Ha];omega) ?_;conv=>whnf
   refine⟨none,s8 _ 0 i 0 (by simp;omega),?_⟩;conv=>whnf
   refine af ?_;conv=>whnf
   refine⟨(),⟨fun s hs=>hm s (by simp[hs]),he⟩,Wk.sub ⟨rfl,rfl,rfl,rfl,rfl,trivial⟩ ⟨rfl,?_,?_,?_,trivial⟩⟩
   ·show some (Obj.box (.vv (inj c.cells ++ [.sl 47 2 0 ((((((aM c).take i).map Span.cells).drop 0).take i).length+1),.mp 15])))=_
    rw[List.drop_zero,List.take_of_length_le (by simp;omega)];simp only[List.length_map,dI]
   ·show some (Obj.arr 2 (.dd (((((aM c).take i).map Span.cells).drop 0).take i ++ [(dU x c.chain.err x.aY c.day).1.cells])))=_
    rw[List.drop_zero,List.take_of_length_le (by simp;omega),ZF];simp
   ·show some (Obj.map (bI (c.chain.av.take i) 0 ++ [(i64 i,x.new.d)]))=_
    rw[vh,pK];have:((c.chain.av.take i).length:Int)=i:=by simp;omega
    rw[this,Int.zero_add]
 ·intro _ ⟨_,he⟩
  rw[lJ]at he;subst he;conv=>whnf
  refine ag (fun h=>absurd h (by simp)) (fun _=>?_);conv=>whnf
  have M8:(aM c).take c.chain.av.length=aM c:=List.take_of_length_le (by simp[aM]);refine an 2 (ds:=[.ref (c.cells ++ [cw (aM c),.mv (bI (c.chain.av.take c.chain.av.length) 0)]),i64 0]) (aG (sR rfl (iZ (aG (eK (es':=(aM c).map Span.cells) rfl (by rw[M8]) (by simp[aM])) (aG (It rfl) rfl)))) rfl) ⟨⟨?_,rfl⟩,rfl⟩;rw[List.take_length];simp[bL,Hy,Ld]
theorem HF{set fresh wear day:Int}(hf:0<=fresh)(hw:0<=wear)(hd:set<=day):0<=vF set fresh wear day/\vF set fresh wear day<=fresh:=by
 have:=Int.mul_nonneg hw (show 0<=day-set by omega);unfold vF;omega
theorem DC{set day:Int}(hd:set<=day):∀ (l:List (Int×(Int×Int))) (acc:Span×Bool),(∀ t∈l,(0<=t.1/\t.1<=1000000)/\(0<=t.2.1/\t.2.1<=1000000)/\(0<=t.2.2/\t.2.2<=1000000)) ->
  (0<=acc.1.lo/\acc.1.lo<=1000000)/\(0<=acc.1.hi/\acc.1.hi<=1000000)->(0<=(l.foldl (fp set day) acc).1.lo/\(l.foldl (fp set day) acc).1.lo<=1000000)/\(0<=(l.foldl (fp set day) acc).1.hi/\(l.foldl (fp set day) acc).1.hi<=1000000)
 | [],acc,_,h=>h
 | t::l,acc,ht,h=>by
  rw[List.foldl_cons];refine DC hd l _ (fun u hu=>ht u (by simp[hu])) ?_;obtain⟨h1,h2,h3⟩:=ht t (by simp);have k1:=HF (set:=set) (fresh:=t.2.1) (wear:=t.1) (day:=day) h2.1 h1.1 hd;have k2:=HF (set:=set) (fresh:=t.2.2) (wear:=t.1) (day:=day) h3.1 h1.1 hd;unfold fp;cases acc.2<;>simp only[if_true,Bool.false_eq_true,if_false]<;>omega
theorem xX{s:bK}{off:Int}{gs:List cT}{day:Int}(h:lq s off gs)(hd:s.set<=day):(0<=(dU s off gs day).1.lo/\(dU s off gs day).1.lo<=1000000)/\(0<=(dU s off gs day).1.hi/\(dU s off gs day).1.hi<=1000000):=by
 rw[tB];exact DC hd _ _ (wj h) (by simp)
def cr(c:Case)(e:Int):Int:=if e=0 then lI c else e
def mq(c:Case)(i:Int):Span×Int:=
 if cr c (gW c i)=0 then (match (aM c)[i.toNat]? with
  | some s=>(⟨gA s.lo,gA s.hi⟩,0)
  | none=>(⟨0,0⟩,0)) else (⟨0,0⟩,cr c (gW c i))
theorem gI{c:Case}{e:Int}(h:cr c e=0):e=0/\lI c=0:=by
 unfold cr at h;split at h
 ·rename_i h0;exact⟨h0,h⟩
 ·rename_i h0;exact absurd h h0
theorem FB{c:Case}{i:Nat}{s:bK}(h:c.chain.av[i]?=some s):(aM c)[i]?=some (dU s c.chain.err s.aY c.day).1:=by
 simp[aM,h]
theorem Tq(c:Case)(i:Int):aX Tryz.prog 40 [c.d,i64 i] (.tup [(mq c i).1.d,i64 (mq c i).2]):=by
 refine aB Tryz.func40 rfl (ft:=Ul) 2 fun {σ} Y st=>?_;conv=>whnf
 refine ah (ds:=[c.d,i64 i]) (LV c i) rfl rfl ?_;by_cases h0:gW c i=0
 ·obtain⟨hc,s,hi,hs⟩:=vH h0
  have hR:=eV hc;have hm:=List.mem_of_getElem? hs;have hL:=hR.look hm;have hsd:=(hR.av s hm).2;have Mm:=hR.day;have hD:jM c i = .agg (cZ s c.chain.err):=by simp[jM,h0,hs]
  have WB:=FB hs;obtain⟨b1,b2⟩:=xX hL (day:=c.day) (by omega);rw[hD,h0];conv=>whnf
  refine ah (ds:=[c.d,i64 0]) (LW c 0 (fun _=>hR)) rfl rfl ?_;simp only[if_true];by_cases h1:lI c=0
  ·have hE:mq c i=(⟨gA (dU s c.chain.err s.aY c.day).1.lo,gA (dU s c.chain.err s.aY c.day).1.hi⟩,0):=by
    simp[mq,cr,h0,h1,WB]
   rw[hE,h1];simp only[if_true];generalize dU s c.chain.err s.aY c.day=rr at *;conv=>whnf
   refine bY rr.1.cells ⟨hi,by rw[List.getElem?_map,WB];rfl⟩ ?_;conv=>whnf
   refine al (LX rr.1.lo ⟨by omega,by omega⟩) rfl rfl ?_;conv=>whnf
   refine bY rr.1.cells ⟨hi,by rw[List.getElem?_map,WB];rfl⟩ ?_;conv=>whnf
   refine al (LX rr.1.hi ⟨by omega,by omega⟩) rfl rfl ?_;conv=>whnf
   exact ae
  ·have hE:mq c i=(⟨0,0⟩,lI c):=by
    simp[mq,cr,h0,h1]
   rw[hE];simp only[h1,if_false];conv=>whnf
   refine ag (fun _=>?_) (fun h=>absurd h (by simpa using h1));conv=>whnf
   exact ae
 ·have hD:jM c i = .agg [.str ⟨#[]⟩,i64 0,i64 0,i64 0,i64 0,i64 0,i64 0,.nils,i64 0]:=by simp[jM,h0]
  have hE:mq c i=(⟨0,0⟩,gW c i):=by simp[mq,cr,h0]
  rw[hD,hE];conv=>whnf
  refine ah (ds:=[c.d,i64 (gW c i)]) (LW c (gW c i) (fun h=>absurd h h0)) rfl rfl ?_;simp only[h0,if_false];conv=>whnf
  refine ag (fun _=>?_) (fun h=>absurd h (by simpa using h0));conv=>whnf
  exact ae
def mD(c:Case)(th:List Span)(fr:List (D×D)):D:=.ref (c.cells ++ [cw th,.mv fr])
structure ke(c:Case)(th:List Span):Prop where
 case:gb c
 len:th.length=c.chain.av.length
 th:∀ s∈th,(0<=s.lo/\s.lo<=1000000)/\(0<=s.hi/\s.hi<=1000000)
def jj(l:List Row):Nat->List (Int×Row)
 | 0=>[]
 | n+1=>((n:Int),l[n]?.getD ⟨0,0⟩)::jj l n
def Ee(p:Int×Row):List V×aq:=([.d (i64 p.1),.d (.agg p.2.cells)],[])
theorem FJ(rows:List Row)(h:rows.length<1000000):Yields Tryz.prog 161 [.ref [oz rows]] ((jj rows rows.length).map Ee):=by
 intro γ Y g0 Q fD;refine cX mixed ao Tryz.func161 rfl (ft:=KI) (args:=[.yld,.d (.ref [oz rows])]) (show qC KI Tryz.f161 2=true from by decide +kernel) ?_;replace fD:=fD.np;generalize Y.np=Y at fD ⊢;conv=>whnf
 refine aA ((rows.length:Int)-1) (by simp) (wrap_i64 (by omega)) ?_;conv=>whnf
 refine bP (T:=tys) ao (by exact ai mixed ao (by decide +kernel)) (α:=Int×γ)
  (fun x=>⟨[(0,.yld),(1,.d (.ref [oz rows])),(3,.d (i64 x.1))],[],x.2⟩)
  (fun x=>-1<=x.1/\x.1<rows.length/\iterate Y ((jj rows (x.1+1).toNat).map Ee) x.2 Q) (fun x=>(x.1+1).toNat) ((rows.length:Int)-1,g0)
  aI ⟨by simp only;omega,by simp only;omega,by simpa using fD⟩ ?_
 clear fD g0;rintro ⟨i,g0⟩ ⟨h1,h2,fD⟩;simp only at h1 h2 fD;conv=>whnf
 refine ag (fun hb=>?_) (fun hb=>?_)
 ·have hb:0<=i:=by simpa using hb
  have hn:(i+1).toNat=i.toNat+1:=by omega
  have dI:i.toNat<rows.length:=by omega
  rw[hn,jj,List.getElem?_eq_getElem dI,Option.getD_some,show((i.toNat:Nat):Int)=i by omega]at fD;conv=>whnf
  refine bY rows[i.toNat].cells ⟨hb,by simp[dI]⟩ ?_;conv=>whnf
  refine uF (ds:=[i64 i,.agg rows[i.toNat].cells]) fD rfl rfl (fun s' Hi=>?_) (fun s' Hi=>?_)
  ·conv=>whnf
   refine af ?_;conv=>whnf
   exact⟨(i-1,s'),by simp only;omega,⟨by simp only;omega,by simp only;omega,by simp only;rw[show(i-1+1).toNat=i.toNat by omega];exact Hi⟩,aI⟩
  ·conv=>whnf
   exact an 0 rfl ⟨rfl,Hi⟩
 ·have hb:¬ 0<=i:=by simpa using hb
  have hi:(i+1).toNat=0:=by omega
  rw[hi,jj]at fD;conv=>whnf
  exact an 0 rfl ⟨rfl,fD⟩
theorem OG(rows:List Row):aX Tryz.prog 145 [oz rows] (.clo 161 [.ref [oz rows]]):=by
 refine aB Tryz.func145 rfl (ft:=PD) 1 fun {σ} Y st=>?_;conv=>whnf
 exact an 1 rfl ⟨⟨rfl,rfl⟩,rfl⟩
def vY(c:Case)(t:dL)(out:Int)(r:Row):Bool:=decide (r.scope*(t.depth+w7 t.aW 2)<=10*c.chain.tS*out)
def qy(c:Case)(t:dL)(out:Int):Row:=(((jj c.chain.rows c.chain.rows.length).find? fun p=>vY c t out p.2).getD (0,⟨0,0⟩)).2
theorem r6{l:List Row}:∀ {n:Nat},n<=l.length -> ∀ p∈jj l n,p.2∈l
 | 0,_,p,h=>by simp[jj]at h
 | n+1,hn,p,h=>by
  simp only[jj,List.mem_cons]at h;rcases h with rfl|h
  ·rw[List.getElem?_eq_getElem (by omega)];exact List.getElem_mem (by omega)
  ·exact r6 (by omega) p h
theorem Ed{c:Case}(h:gb c)(t:dL)(out:Int):(0<=(qy c t out).scope/\(qy c t out).scope<=200)/\(0<=(qy c t out).holds/\(qy c t out).holds<=1000):=by
 unfold qy
 cases hf:(jj c.chain.rows c.chain.rows.length).find? fun p=>vY c t out p.2 with
 | none=>simp
 | some p=>
  have:=h.rows p.2 (r6 (Nat.le_refl _) p (List.mem_of_find?_eq_some hf));simp only[Option.getD_some];omega
theorem OA(c:Case)(th:List Span)(fr:List (D×D))(t:dL)(out:Int)(hc:gb c)(ht:ja c.dj t)(ho:0<=out/\out<=1000) :
  aX Tryz.prog 123 [mD c th fr,t.d,i64 out] (.agg (qy c t out).cells):=by
 refine aB Tryz.func123 rfl (ft:=Pm) 3 fun {σ} Y st=>?_;conv=>whnf
 have hlen:=hc.R6;have XE:=hc.tS;have hu:=Db (n:=t.aW) (b:=2) 150 ht.zQ (by omega);have htd:=ht.Ns;have hts:=ht.zQ;refine ah (ds:=[oz c.chain.rows]) (OG c.chain.rows) rfl rfl ?_;conv=>whnf
 refine ji ao (by exact ai mixed ao (by decide +kernel)) (by exact ai mixed ao (by decide +kernel)) rfl 1500000 1600000 [3,4,5,6] (by exact FJ c.chain.rows (by omega))
  (fun(_:Unit)=>([(1500000,.box (.dd [mD c th fr])),(1500001,.box (.dd t.cells)),(1500002,.box (.dd [i64 out])),(1500003,.box (.dd [i64 0,i64 0]))],st))
  (fun rest _=>(∀ p∈rest,p.2∈c.chain.rows)/\qy c t out=((rest.find? fun p=>vY c t out p.2).getD (0,⟨0,0⟩)).2) () rfl rfl rfl ⟨r6 (Nat.le_refl _),rfl⟩ ?_ ?_
 ·rintro p rest _ ⟨hm,he⟩ Q FO hQ
  refine⟨⟨rfl,rfl⟩,?_⟩;have hr:=hc.rows p.2 (hm p (by simp));have b1:=ev (a:=p.2.scope) (b:=t.depth+w7 t.aW 2) 200 10000 (by omega) (by omega);have b2:=ev (a:=10*c.chain.tS) (b:=out) 500 1000 (by omega) (by omega);have e1:(t.aW+2-1).tdiv 2=w7 t.aW 2:=rfl;conv=>whnf
  refine al (Gz t.aW 2 (by omega) (by omega)) rfl rfl ?_;conv=>whnf
  rw[e1];refine af ?_;conv=>whnf
  refine af ?_;conv=>whnf
  refine af ?_;conv=>whnf
  refine af ?_;conv=>whnf
  refine ag (fun hb=>?_) (fun hb=>?_)
  ·have hk:vY c t out p.2=true:=hb
   rw[List.find?_cons_of_pos (by exact hk)]at he;conv=>whnf
   refine⟨[(1500000,.box (.dd [mD c th fr])),(1500001,.box (.dd t.cells)),(1500002,.box (.dd [i64 out])),(1500003,.box (.dd p.2.cells))],st,aI,rfl,hQ _ _ _ ?_⟩;conv=>whnf
   rw[he];exact ae
  ·have hk:¬ vY c t out p.2=true:=by rw[show vY c t out p.2=false from hb];simp
   rw[List.find?_cons_of_neg (by exact hk)]at he;conv=>whnf
   exact⟨(),aI,rfl,FO () ⟨fun q hq=>hm q (by simp[hq]),he⟩⟩
 ·rintro _ ⟨_,he⟩
  conv=>whnf
  rw[he];exact ae
theorem pd{g:Nat->Option DO}{cs:List V}{l:List D}(h:bZ g cs=some l):cA g (.agg cs)=some (.agg l):=by simp[cA,h]
theorem Wk.IL{σ:Type}{e:Env}{h:aq}{s:σ}(b k sz:Nat)(A B:List D){l:List D}(hk:Nat.blt k 1000000=true)(hs:Nat.blt 0 sz=true)(hb:get h b=some (.box (.dd l)))(hl:l=A ++ .nils::B)(j8:Nat.beq b k=false) :
  Wk (⟨e,h,s⟩:St σ) ⟨ct (aE (aZ k)) e,put ((k,.arr sz (.dd []))::ct (Obj.aE (aZ k)) (cut h k)) b (.box (.vv (inj A ++ .sl k sz 0 0::inj B))),s⟩:=by
 have hk:=Nat.le_of_ble_eq_true hk;have hs:=Nat.le_of_ble_eq_true hs;have ef:b≠k:=by rintro rfl;simp at j8
 have h1:Wk (⟨e,h,s⟩:St σ) ⟨ct (aE (aZ k)) e,(k,.arr sz (.dd []))::ct (Obj.aE (aZ k)) (cut h k),s⟩:=by
  intro cx r m L F a w hg;exact⟨_,F,hg.kB k sz (by unfold pinned;omega) hs (.dd []) rfl,Tr.refl F w⟩
 refine h1.trans (Wk.Eb b (o:=.box (.dd l)) _ (by rw[dQ,if_neg ef,bs,dP,if_neg ef,hb];rfl) (fun yv L F w h=>?_) fun L hb=>hb);obtain⟨c,T,hc,hr⟩:=h;have hr:aj yv L F w (inj l) c.toList:=hr;rw[hl,mK]at hr;exact⟨c,T,hc,aj.CJ k sz hs hr⟩
def dv(c:Case)(th:List Span)(w:bB):dL:=⟨w.depth.hi,w.bf.hi,w.current.hi,w.aW.hi,c.chain.hold.lo,th.map Span.lo⟩
def RW(s:Span):List D:=[i64 s.lo]
theorem OQ(c:Case)(th:List Span)(fr:List (D×D))(w:bB)(hl:th.length<1000000) :
  aX Tryz.prog 84 [mD c th fr,w.d] (dv c th w).d:=by
 refine aB Tryz.func84 rfl (ft:=UU) 2 fun {σ} Y st=>?_;conv=>whnf
 refine ba (T:=tys) ao (by exact ai mixed ao (by decide +kernel)) th (fun i (_:Unit)=>⟨[(0,.d (mD c th fr)),(4,.ptr 4 0),(30,.d (cw th)),(31,.d (i64 th.length)),(32,.d (i64 i))],
   [(4,.box (.vv [.d (i64 w.depth.hi),.d (i64 w.bf.hi),.d (i64 w.current.hi),.d (i64 w.aW.hi),.d (i64 c.chain.hold.lo),.sl 41 1 0 i])),(41,.arr 1 (.dd ((th.take i).map RW)))],st⟩)
  (fun i r _=>True) ()
  ((Wk.IL 4 41 1 [i64 w.depth.hi,i64 w.bf.hi,i64 w.current.hi,i64 w.aW.hi,i64 c.chain.hold.lo] [] rfl rfl rfl rfl rfl).trans aI) trivial ?_ ?_
 ·intro i x r _ hx hi hr _
  have vh:th.take (i+1)=th.take i ++ [x]:=by rw[List.take_succ,hx];rfl
  have dI:(th.take i).length=i:=by simp;omega
  have Ha:min i th.length=i:=by simpa using dI
  conv=>whnf
  refine ag (fun _=>?_) (fun h=>absurd hi (by simpa using h));conv=>whnf
  refine au hx ?_;conv=>whnf
  refine aK rfl ?_;conv=>whnf
  refine ny.mk (by simp[a7.len,Ha]) ?_;conv=>whnf
  refine bc (by simp[a7.len,a7.part,a7.cons,V.cells,Ha];omega) ?_;conv=>whnf
  refine af ?_;conv=>whnf
  refine⟨(),trivial,Wk.sub ⟨rfl,rfl,rfl,rfl,rfl,trivial⟩ ⟨?_,?_,trivial⟩⟩
  ·show some (Obj.box (.vv [.d (i64 w.depth.hi),.d (i64 w.bf.hi),.d (i64 w.current.hi),.d (i64 w.aW.hi),.d (i64 c.chain.hold.lo),.sl 41 1 0 (((((th.take i).map RW).drop 0).take i).length+1)]))=_
   rw[List.drop_zero,List.take_of_length_le (by simp;omega)];simp only[List.length_map,dI]
  ·show some (Obj.arr 1 (.dd ((((th.take i).map RW).drop 0).take i ++ [RW x])))=_
   rw[List.drop_zero,List.take_of_length_le (by simp;omega),vh];simp
 ·intro _ _
  conv=>whnf
  refine ag (fun h=>absurd h (by simp)) (fun _=>?_);conv=>whnf
  have M8:th.take th.length=th:=List.take_of_length_le (by simp);refine an 3 (ds:=[.agg (dv c th w).cells]) (aG (pd (aG rfl (aG rfl (aG rfl (aG rfl (aG rfl (aG (eK (es':=(th.map Span.lo).map fun n=>[i64 n]) rfl ?_ (by simp)) rfl))))))) rfl) ⟨⟨rfl,rfl⟩,rfl⟩;rw[M8];simp[RW]
def mM(fC pull out:Int):List bK->List Int->Int->Int->Int×Int
 | s::r,t::ts,n,i=>if n≥out then (0,0) else if gA t<pull+fC*min (n+s.ff) out then (2,i) else mM fC pull out r ts (n+s.ff) (i+1)
 | _,_,_,_=>(0,0)
def ku(c:Case)(t:dL)(out:Int):Int×Int:=
 if nj c.dj t out*1000>t.hold*(qy c t out).holds then (1,0) else mM c.chain.fC (nj c.dj t out) out c.chain.av t.dn 0 0
theorem OR(c:Case)(th:List Span)(fr:List (D×D))(t:dL)(out:Int)(hc:gb c)(ht:ja c.dj t)(ho:0<=out/\out<=1000)(hl:t.dn.length=c.chain.av.length)(hb:∀ n∈t.dn,bd n) :
  aX Tryz.prog 85 [mD c th fr,t.d,i64 out] (.tup [i64 (ku c t out).1,i64 (ku c t out).2]):=by
 refine aB Tryz.func85 rfl (ft:=UW) 3 fun {σ} Y st=>?_;conv=>whnf
 obtain⟨_,_,_,_,_,_,hp⟩:=Bt ht ho;have MV:=(Ed hc t out).2;have Xz:=ev 200000 1000 ht.Sb MV;have hlen:=hc.lens;have My:=hc.fC;refine al (ds:=[mA c.dj t,i64 out]) (OM c.dj t out ht ho) rfl rfl ?_;conv=>whnf
 unfold ku;generalize nj c.dj t out=pull at *;refine af ?_;conv=>whnf
 refine al (ds:=[mD c th fr,t.d,i64 out]) (OA c th fr t out hc ht ho) rfl rfl ?_;conv=>whnf
 refine af ?_;conv=>whnf
 refine ag (fun h1=>?_) (fun h1=>?_)
 ·have h1:pull*1000>t.hold*(qy c t out).holds:=by simpa using h1
  conv=>whnf
  simp only[h1,if_true];exact ae
 have h1:¬ pull*1000>t.hold*(qy c t out).holds:=by simpa using h1
 simp only[h1,if_false];conv=>whnf
 refine ba (T:=tys) ao (by exact ai mixed ao (by decide +kernel)) c.chain.av (fun i (n:Int)=>⟨[(0,.d (mD c th fr)),(2,.d (i64 out)),(4,.ptr 4 0),(8,.d (i64 pull)),(9,.d (i64 n)),(37,.d (gq c.chain.av)),(38,.d (i64 c.chain.av.length)),(39,.d (i64 i))],
   [(4,.box (.dd t.cells))],st⟩)
  (fun i r n=>(0<=n/\n<=i*40)/\(∀ s∈r,Ga s)/\mM c.chain.fC pull out c.chain.av t.dn 0 0=mM c.chain.fC pull out r (t.dn.drop i) n i) 0
  aI ⟨by omega,fun s hs=>(hc.av s hs).1,rfl⟩ ?_ ?_
 ·intro i x r n hx hi hr ⟨hn,hm,he⟩
  have BY:=(hm x (by simp)).ff;have fk:i<t.dn.length:=by omega
  have WE:t.dn[i]?=some t.dn[i]:=List.getElem?_eq_getElem fk;have Mj:=hb _ (List.getElem_mem fk);rw[List.drop_eq_getElem_cons fk,mM]at he;generalize t.dn[i]=v at *;have hi7:i<7:=by omega
  have MH:=ev (a:=c.chain.fC) (b:=min (n+x.ff) out) 200 1000 My (by omega);conv=>whnf
  refine ag (fun _=>?_) (fun h=>absurd hi (by simpa using h));conv=>whnf
  refine au hx ?_;conv=>whnf
  refine ag (fun h2=>?_) (fun h2=>?_)
  ·have h2:n≥out:=by simpa using h2
   simp only[h2,if_true]at he;conv=>whnf
   rw[he];exact ae
  have h2:¬ n≥out:=by simpa using h2
  simp only[h2,if_false]at he;conv=>whnf
  refine af ?_;conv=>whnf
  refine au WE ?_;conv=>whnf
  refine al (LX v Mj) rfl rfl ?_;conv=>whnf
  refine af ?_;conv=>whnf
  refine af ?_;conv=>whnf
  refine ag (fun h3=>?_) (fun h3=>?_)
  ·have h3:gA v<pull+c.chain.fC*min (n+x.ff) out:=by simpa using h3
   simp only[h3,if_true]at he;conv=>whnf
   rw[he];exact ae
  ·have h3:¬ gA v<pull+c.chain.fC*min (n+x.ff) out:=by simpa using h3
   simp only[h3,if_false]at he;conv=>whnf
   refine af ?_;conv=>whnf
   exact⟨n+x.ff,⟨by omega,fun s hs=>hm s (by simp[hs]),he⟩,aI⟩
 ·rintro n ⟨_,_,he⟩
  rw[show ∀ ts n i,mM c.chain.fC pull out [] ts n i=(0,0) from fun ts n i=>by cases ts<;>rfl]at he;conv=>whnf
  refine ag (fun h=>absurd h (by simp)) (fun _=>?_);conv=>whnf
  rw[he];exact ae
theorem Iv{c:Case}{th:List Span}(h:ke c th){w:bB}(hw:w∈c.aD):ja c.dj (dv c th w):=by
 obtain⟨hd,XP,Xv,RF⟩:=h.case.aD w hw
 obtain⟨s1,s2,s3,s4⟩:=h.case.dj
 have hh:=h.case.hold
 exact⟨s1,s2,s3,s4,by simp only[dv];omega,by simp only[dv];omega,by simp only[dv];omega,by simp only[dv];omega,by simp only[dv];omega⟩
def jE(c:Case)(th:List Span)(out:Int)(w:bB):Int×Int:=ku c (dv c th w) out
def nM(c:Case)(th:List Span)(out:Int):List bB->Int->Int×Int×Int
 | [],_=>(0,0,0)
 | w::r,i=>if (jE c th out w).1≠0 then ((jE c th out w).1,i,(jE c th out w).2) else nM c th out r (i+1)
def jA(c:Case)(th:List Span)(out:Int):Int×Int×Int:=nM c th out c.aD 0
theorem KC(c:Case)(th:List Span)(fr:List (D×D))(w:bB)(out:Int)(h:ke c th)(hw:w∈c.aD)(ho:0<=out/\out<=1000) :
  aX Tryz.prog 85 [mD c th fr,(dv c th w).d,i64 out] (.tup [i64 (jE c th out w).1,i64 (jE c th out w).2]):=
 OR c th fr (dv c th w) out h.case (Iv h hw) ho (by simp[dv,h.len]) (by
  intro n hn;simp only[dv,List.mem_map]at hn;obtain⟨s,hs,rfl⟩:=hn;have:=(h.th s hs).1;exact⟨by omega,by omega⟩)
theorem ON(c:Case)(th:List Span)(fr:List (D×D))(out:Int)(h:ke c th)(ho:0<=out/\out<=1000) :
  aX Tryz.prog 59 [mD c th fr,i64 out] (w6 (jA c th out)):=by
 refine aB Tryz.func59 rfl (ft:=UC) 2 fun {σ} Y st=>?_;conv=>whnf
 have NO:=h.case.Dh
 have MX:=h.case.lens
 have M8:=h.len;refine ba (T:=tys) ao (by exact ai mixed ao (by decide +kernel)) c.aD (fun i (_:Unit)=>⟨[(0,.d (mD c th fr)),(1,.d (i64 out)),(13,.d (pf c.aD)),(14,.d (i64 c.aD.length)),(15,.d (i64 i))],[],st⟩)
  (fun i r _=>(∀ w∈r,w∈c.aD)/\jA c th out=nM c th out r i) ()
  aI ⟨fun _ h=>h,rfl⟩ ?_ ?_
 ·intro i x r _ hx hi hr ⟨hm,he⟩
  have JB:=hm x (by simp);rw[nM]at he;conv=>whnf
  refine ag (fun _=>?_) (fun h=>absurd hi (by simpa using h));conv=>whnf
  refine au hx ?_;conv=>whnf
  refine ah (ds:=[mD c th fr,x.d]) (OQ c th fr x (by omega)) rfl rfl ?_;conv=>whnf
  refine ah (ds:=[mD c th fr,(dv c th x).d,i64 out]) (KC c th fr x out h JB ho) rfl rfl ?_;conv=>whnf
  refine ag (fun h2=>?_) (fun h2=>?_)
  ·have h2:(jE c th out x).1≠0:=by simpa using h2
   rw[if_pos h2]at he;conv=>whnf
   rw[he];exact ae
  ·have h2:¬ (jE c th out x).1≠0:=by simpa using h2
   rw[if_neg h2]at he;conv=>whnf
   refine af ?_;conv=>whnf
   exact⟨(),⟨fun s hs=>hm s (by simp[hs]),he⟩,aI⟩
 ·rintro _ ⟨_,he⟩
  rw[nM]at he;conv=>whnf
  refine ag (fun h=>absurd h (by simp)) (fun _=>?_);conv=>whnf
  rw[he];exact ae
theorem GH(lo hi:Int):aX Tryz.prog 76 [i64 lo,i64 hi,.nils] (.bool false):=by
 refine aB Tryz.func76 rfl (ft:=Qh) 3 fun {σ} Y st=>?_;conv=>whnf
 refine B0 ?_;refine ak (I0 [] 113 [.ref [i64 lo],.ref [i64 hi]] (fun n=>decide (n<lo)||decide (n>hi)) (by simp) (fun x _=>OS x lo hi)) rfl 1 rfl ?_;conv=>whnf
 exact ae
def rf(c:Case)(out:Int)(bad:Bool):Int:=
 if (bx c).2.2≠0 then (bx c).2.2 else if bad then 4 else if a6 out 1 (ca c.chain.av) then 0 else 7
theorem vw{c:Case}(h:gb c):∀ s∈c.chain.av,bd s.ff:=fun s hs=>by
 have:=(h.av s hs).1.ff;exact⟨by omega,by omega⟩
theorem xQ:∀ {l:List bK},(∀ s∈l,1<=s.ff/\s.ff<=40)->(l.length:Int)<=ca l/\ca l<=40*l.length
 | [],_=>by simp[ca]
 | s::r,h=>by
  have h1:=h s (by simp);have h2:=xQ (l:=r) fun x hx=>h x (by simp[hx]);simp only[ca,List.length_cons];omega
theorem vx{c:Case}(h:gb c):1<=ca c.chain.av/\ca c.chain.av<=280:=by
 have h1:=xQ fun s hs=>(h.av s hs).1.ff;have h2:=h.lens;omega
theorem ko{c:Case}{out:Int}{bad:Bool}(h:rf c out bad=0):gb c/\bad=false/\1<=out/\out<=ca c.chain.av/\out<=1000:=by
 unfold rf at h;split at h
 ·rename_i h1;exact absurd h h1
 ·rename_i h1
  have hR:=eV (c:=c) (by simpa using h1);have hl:=vx hR;split at h
  ·cases h
  ·rename_i h2
   split at h
   ·rename_i h3
    rw[bq]at h3;exact⟨hR,by simpa using h2,by omega,by omega,by omega⟩
   ·cases h
theorem IY(c:Case)(out:Int)(d:D)(bad:Bool)(hd:aX Tryz.prog 76 [i64 0,i64 ((c.aD.length:Int)-1),d] (.bool bad)) :
  aX Tryz.prog 58 [c.d,i64 out,d] (i64 (rf c out bad)):=by
 refine aB Tryz.func58 rfl (ft:=UB) 3 fun {σ} Y st=>?_;conv=>whnf
 refine ah (GB c) rfl rfl ?_;conv=>whnf
 unfold rf;by_cases h0:(bx c).2.2=0
 ·have hR:=eV h0
  have hw:=hR.Dh;rw[h0];conv=>whnf
  refine aA ((c.aD.length:Int)-1) (by simp) (wrap_i64 (by omega)) ?_;conv=>whnf
  refine ah (ds:=[i64 0,i64 ((c.aD.length:Int)-1),d]) hd rfl rfl ?_;conv=>whnf
  cases bad with
  | true=>
   conv=>whnf
   rw[if_neg (by simpa using h0),if_pos rfl];exact ae
  | false=>
   have hk:=vw hR;rw[if_neg (by simpa using h0),if_neg (by simp)];conv=>whnf
   refine ah (LY c.chain (by have:=hR.lens;omega) hk) rfl rfl ?_;conv=>whnf
   refine ak (cW 1 (ca c.chain.av) out) rfl 1 rfl ?_;conv=>whnf
   refine ag (fun h3=>?_) (fun h3=>?_)
   ·have h3:a6 out 1 (ca c.chain.av)=false:=by simpa using h3
    conv=>whnf
    rw[if_neg (by simp[h3])];exact ae
   ·have h3:a6 out 1 (ca c.chain.av)=true:=by simpa using h3
    conv=>whnf
    rw[if_pos h3];exact ae
 ·conv=>whnf
  refine ag (fun _=>?_) (fun h=>absurd h (by simpa using h0));conv=>whnf
  rw[if_pos (by simpa using h0)];exact ae
theorem nf(n lo hi:Int):aX Tryz.prog 16 [i64 n,i64 lo,i64 hi] (.bool (a6 n lo hi)):=by
 refine iP mixed ao Tryz.func16 rfl (ft:=TY) 3 (by decide +kernel) rfl fun {σ} Y s=>?_;conv=>whnf
 refine ag (fun hb=>?_) (fun hb=>?_)
 ·conv=>whnf
  refine an 0 rfl ⟨⟨?_,rfl⟩,rfl⟩;simp[bL,a6]at hb ⊢;simp[hb]
 ·conv=>whnf
  refine an 0 rfl ⟨⟨?_,rfl⟩,rfl⟩;simp[bL,a6]at hb ⊢;omega
theorem OU(n lo hi:Int):aX Tryz.prog 109 [i64 n,.ref [i64 lo],.ref [i64 hi]] (.bool (decide (n<lo)||decide (n>hi))):=by
 refine iP mixed ao Tryz.func109 rfl (ft:=O9) 3 (by decide +kernel) rfl fun {σ} Y s=>?_;conv=>whnf
 refine ag (fun hb=>?_) (fun hb=>?_)
 ·conv=>whnf
  refine an 0 rfl ⟨⟨?_,rfl⟩,rfl⟩;have hb:n<lo:=by simpa using hb
  simp[bL,hb]
 ·conv=>whnf
  refine an 0 rfl ⟨⟨?_,rfl⟩,rfl⟩;have hb:¬ n<lo:=by simpa using hb
  simp[bL,hb]
theorem GF(lo hi:Int)(l:List Int)(hl:l.length<4000000000000000000):aX Tryz.prog 67 [i64 lo,i64 hi,bS l] (.bool (l.any fun n=>decide (n<lo)||decide (n>hi))):=by
 refine iP mixed ao Tryz.func67 rfl (ft:=UK) 3 (by decide +kernel) rfl fun {σ} Y s=>?_;conv=>whnf
 refine ak (I0 l 109 [.ref [i64 lo],.ref [i64 hi]] (fun n=>decide (n<lo)||decide (n>hi)) hl fun x _=>OU x lo hi) rfl 1 rfl ?_;conv=>whnf
 exact ae
theorem s7(lo hi:Int):aX Tryz.prog 35 [i64 lo,i64 hi] (Span.d ⟨lo,hi⟩):=by
 refine aB Tryz.func35 rfl (ft:=Uh) 2 fun {σ} Y st=>?_;conv=>whnf
 exact ae
theorem OV(n lo hi:Int):aX Tryz.prog 167 [i64 n,.ref [i64 lo],.ref [i64 hi]] (.bool (decide (n<lo)||decide (n>hi))):=by
 refine iP mixed ao Tryz.func167 rfl (ft:=PZ) 3 (by decide +kernel) rfl fun {σ} Y s=>?_;conv=>whnf
 refine ag (fun hb=>?_) (fun hb=>?_)
 ·conv=>whnf
  refine an 0 rfl ⟨⟨?_,rfl⟩,rfl⟩;have hb:n<lo:=by simpa using hb
  simp[bL,hb]
 ·conv=>whnf
  refine an 0 rfl ⟨⟨?_,rfl⟩,rfl⟩;have hb:¬ n<lo:=by simpa using hb
  simp[bL,hb]
theorem GG(lo hi:Int)(l:List Int)(hl:l.length<4000000000000000000):aX Tryz.prog 155 [i64 lo,i64 hi,bS l] (.bool (l.any fun n=>decide (n<lo)||decide (n>hi))):=by
 refine iP mixed ao Tryz.func155 rfl (ft:=PN) 3 (by decide +kernel) rfl fun {σ} Y s=>?_;conv=>whnf
 refine ak (I0 l 167 [.ref [i64 lo],.ref [i64 hi]] (fun n=>decide (n<lo)||decide (n>hi)) hl fun x _=>OV x lo hi) rfl 1 rfl ?_;conv=>whnf
 exact ae
theorem oR(lo hi a:Int):aX Tryz.prog 155 [i64 lo,i64 hi,.vs [[i64 a]]] (.bool (!a6 a lo hi)):=by
 exact aX.cast (GG lo hi [a] (by simp)) (by simp[mS])
theorem DB(lo hi a b:Int):aX Tryz.prog 155 [i64 lo,i64 hi,.vs [[i64 a],[i64 b]]] (.bool (!(a6 a lo hi&&a6 b lo hi))):=by
 exact aX.cast (GG lo hi [a,b] (by simp)) (by simp[mS])
end Go.PX
namespace Go.PX
def An:List Nat->List Wr
 | []=>[]
 | i::r=>.del i::An r
theorem qO{σ:Type}:∀ (l:List Nat) (st:St σ),aF st (An l)=⟨st.env,tJ st.heap l,st.s⟩
 | [],st=>rfl
 | i::r,st=>by
  show aF (bm st (.del i)) (An r)=_;rw[qO r];rfl
theorem nI{σ:Type}:∀ (a b:List Wr) (st:St σ),aF st (a++b)=aF (aF st a) b
 | [],b,st=>rfl
 | w::a,b,st=>nI a b (bm st w)
section
variable {P : Program} {σ : Type}
theorem Good.I2{cx:Cx σ}{r:Option Nat}{m:List Nat}{L:Loc}{F:Nat->Nat}{st:St σ}{a:Act}{w:World}(hg:Good cx r m L F st a w){h:aq}(n3:cN h st.heap)(n:Nat) :
  ∃ F1,Good cx r m L F1 (aF st (An (fQ h))) a w/\Tr F w F1 w /\ ∀ args a9 ds,bZ (dJ h n) args=some ds->aj cx.yv L F w args a9->aS F1 w ds a9:=by
 have eg:bp cx L F h st.s w:=(hg.sub (e:=st.env) (h:=h) (fun _ _ h=>h) n3).heap;have tr:=fY eg;have wH:∀ b,cx.C st.s b->eC L F h w b=F b:=fun b hb=>nT eg hb;have rh:∀ id o,get st.heap id=some o->id∉fQ h->aJ L id o->eC L F h w (L.ρ id)=F (L.ρ id):=by
  intro id o hi hn hb;refine fX ?_;rintro ⟨j,p,hj,jv,px⟩;have:=hg.heap.inj j id p o (n3 j p hj) hi jv hb px;subst this;exact hn (mN hj)
 have BV:=eY eg;have qo:=oi eg n;generalize eC L F h w=F1 at tr wH rh BV qo;rw[qO];have lC:∀ i o,get (tJ st.heap (fQ h)) i=some o->i∉fQ h/\get st.heap i=some o:=by
  intro i o hi;rw[nV]at hi;split at hi
  ·cases hi
  ·rename_i hn;exact⟨hn,hi⟩
 refine⟨F1,⟨⟨cx.eJ hg.heap.hg tr BV fun b hb=>⟨rfl,wH b hb⟩,hg.heap.j6,BV,?_,?_,?_⟩,?_,hg.wA,hg.pR,hg.wS,hg.lk,hg.mT,hg.wm⟩,tr,fun args a9 ds hv hr=>iC tr qo args a9 ds hv hr⟩
 ·intro i o hi
  exact bF.mono tr i o (fun _ _=>⟨rfl,rfl⟩) ⟨rfl,rfl⟩ (fun _=>rfl) (hg.heap.obj i o (lC i o hi).2)
 ·intro i o hi hb
  obtain⟨hn,h0⟩:=lC i o hi;rw[rh i o h0 hn hb];exact hg.heap.own i o h0 hb
 ·intro i j o p hi hj md jv he
  exact hg.heap.inj i j o p (lC i o hi).2 (lC j p hj).2 md jv he
 ·intro t v ht
  obtain⟨x,hx,hr⟩:=hg.env t v ht;exact⟨x,hx,aT.mono tr v x (fun _ _=>⟨rfl,rfl⟩) hr⟩
theorem CO{f:FuncId}{ds:List D}{res:D}(hf:aX P f ds res)(n:Nat){e:Env}{h:aq}{d:Option Nat}{args:List V}(hv:bZ (dJ h n) args=some ds)(hd:Nat.ble (d.getD 0) 10000=true) :
  fx P e h d f args (An (fQ h)++aO d (.d res)):=by
 have ho:=sx (P:=P) hf (e:=[]) (h:=[]) (d:=d) (args:=inj ds) rfl hd;refine⟨ho.1,fun {σ} cx tN r m L F st a w a9 he hh hg VS hr=>?_⟩;obtain⟨F1,fP,yq,ZK⟩:=hg.I2 hh n;rw[nI];refine(ho.2 cx tN r m L F1 (aF st (An (fQ h))) a w a9 (fun _ _ h=>by cases h) (fun _ _ h=>by cases h) fP VS (aj.inj.2 (ZK _ _ _ hv hr))).mono ?_;rintro en w' ⟨x,rfl,L',F',eL,nA⟩;exact⟨x,rfl,L',F',eL,Tr.trans yq nA⟩
theorem jg{Y:Hd σ}{f:FuncId}{ds:List D}{res:D}(hf:aX P f ds res)(n:Nat){e:Env}{h:aq}{s:σ}{d:Option Nat}{args:List V}(ids:List Nat)(hv:bZ (dJ (aQ ids h) n) args=some ds)(hd:Nat.ble (d.getD 0) 10000=true)
  {K:St σ->Prop} (hk:bg (An (fQ (aQ ids h))++aO d (.d res)) e h fun e h=>K ⟨e,h,s⟩):dK P Y ⟨e,h,s⟩ d f args K:=by
 have ho:=CO (P:=P) hf n (e:=e) (h:=aQ ids h) (d:=d) (args:=args) hv hd;refine dH (ws:=An (fQ (aQ ids h))++aO d (.d res)) ⟨ho.1,fun {σ} cx tN r m L F st a w a9 he hh hg VS hr=>?_⟩ hk;exact ho.2 cx tN r m L F st a w a9 he (fun i o hi=>hh i o (g6 ids h i o hi)) hg VS hr
end
end Go.PX
