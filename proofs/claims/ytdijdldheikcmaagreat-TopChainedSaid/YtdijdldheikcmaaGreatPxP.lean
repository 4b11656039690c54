import Derived.Test.YtdijdldheikcmaaGreatPxO
import Derived.Test.YtdijdldheikcmaaGreatPxN
import Derived.Test.YtdijdldheikcmaaGreatPxL
set_option linter.all false
set_option maxRecDepth 10000
namespace Go.PX
open Go.Proofs
def eB(ok:Int->Bool):Nat->Int->Int->List Span
 | 0,_,_=>[]
 | r+1,k,a=>
  if ok k&&decide (a=0) then eB ok r (k+1) (k+1)
  else if !ok k&&decide (a>0) then ⟨a,k⟩::eB ok r (k+1) 0
  else eB ok r (k+1) a
theorem nD{ok:Int->Bool}{n:Nat}:∀ (r:Nat) (k a:Int) (acc:List Span),acc.length<n->sn ok n r k a acc=acc++(eB ok r k a).take (n-acc.length)
 | 0,k,a,acc,h=>by simp[sn,eB]
 | r+1,k,a,acc,h=>by
  rw[sn,eB];split
  ·exact nD r _ _ _ h
  ·split
   ·split
    ·rename_i h1
     rw[show n-acc.length=1 by omega];simp
    ·rename_i h1
     have hl:(acc ++ [Span.mk a k]).length=acc.length+1:=by simp
     rw[nD r _ _ _ (by rw[hl];omega),hl,List.append_assoc,show n-acc.length=(n-(acc.length+1))+1 by omega];simp
   ·exact nD r _ _ _ h
def Gu:Int->List Span->Prop
 | _,[]=>True
 | b,s::r=>b<=s.lo/\s.lo<=s.hi/\Gu (s.hi+2) r
theorem Gu.Pp{b b':Int}(h:b'<=b):∀ {l:List Span},Gu b l->Gu b' l
 | [],_=>trivial
 | s::r,⟨h1,h2,h3⟩=>⟨by omega,h2,h3⟩
theorem rU{ok:Int->Bool}{k:Int}(h:ok k=true)(r:Nat):eB ok (r+1) k 0=eB ok r (k+1) (k+1):=by simp[eB,h]
theorem wq{ok:Int->Bool}{k a:Int}(h:ok k=false)(ha:0<a)(r:Nat):eB ok (r+1) k a=⟨a,k⟩::eB ok r (k+1) 0:=by simp[eB,h,ha]
theorem zJ{ok:Int->Bool}{k a:Int}(h:ok k=true)(ha:0<a)(r:Nat):eB ok (r+1) k a=eB ok r (k+1) a:=by
 have:a≠0:=by omega
 simp[eB,h,this]
theorem wu{ok:Int->Bool}{k:Int}(h:ok k=false)(r:Nat):eB ok (r+1) k 0=eB ok r (k+1) 0:=by simp[eB,h]
theorem lh(ok:Int->Bool):∀ (r:Nat) (k a:Int),0<=k->(a=0->Gu (k+1) (eB ok r k a))/\(0<a/\a<=k->Gu a (eB ok r k a))
 | 0,k,a,_=>⟨fun _=>trivial,fun _=>trivial⟩
 | r+1,k,a,hk=>by
  refine⟨fun h=>?_,fun h=>?_⟩
  ·subst h
   cases ec:ok k with
   | true=>rw[rU ec];exact(lh ok r (k+1) (k+1) (by omega)).2 (by omega)
   | false=>rw[wu ec];exact((lh ok r (k+1) 0 (by omega)).1 rfl).Pp (by omega)
  ·cases ec:ok k with
   | true=>rw[zJ ec h.1];exact(lh ok r (k+1) a (by omega)).2 (by omega)
   | false=>rw[wq ec h.1];exact⟨Int.le_refl _,h.2,((lh ok r (k+1) 0 (by omega)).1 rfl).Pp (by simp only;omega)⟩
def Lk(x:Int)(l:List Span):Prop:=∃ s∈l,s.lo<=x/\x<=s.hi
theorem nE(ok:Int->Bool)(x:Int):∀ (r:Nat) (k a:Int),0<=k->0<=a/\a<=k->(r=0->a=0)->(0<r->ok (k+r-1)=false) ->
  (Lk x (eB ok r k a)↔((0<a/\a<=x/\x<=k)\/(k+1<=x/\x<=k+r/\ok (x-1)=true)))
 | 0,k,a,hk,ha,h0,_=>by
  have:=h0 rfl;simp only[eB,Lk,List.not_mem_nil,false_and,exists_false,false_iff];omega
 | r+1,k,a,hk,ha,_,pU=>by
  have pU:=pU (by omega);rw[show k+((r+1:Nat):Int)-1=k+r by omega]at pU;have hx:∀ b,ok k=b->(x=k+1->ok (x-1)=b):=fun b hb h=>by rw[h,show k+1-1=k by omega,hb]
  cases ec:ok k with
  | true=>
   have hr:0<r:=by
    rcases Nat.eq_zero_or_pos r with h|h
    ·subst h;rw[show k+((0:Nat):Int)=k by omega,ec]at pU;cases pU
    ·exact h
   have hx:=hx true ec;by_cases SK:0<a
   ·rw[zJ ec SK,nE ok x r (k+1) a (by omega) (by omega) (by omega) (fun _=>by rw[show k+1+(r:Int)-1=k+r by omega];exact pU)]
    constructor
    ·rintro (h|⟨h1,h2,h3⟩)
     ·by_cases he:x=k+1
      ·exact .inr ⟨by omega,by omega,hx he⟩
      ·exact .inl (by omega)
     ·exact .inr ⟨by omega,by omega,h3⟩
    ·rintro (h|⟨h1,h2,h3⟩)
     ·exact .inl (by omega)
     ·by_cases he:x=k+1
      ·exact .inl (by omega)
      ·exact .inr ⟨by omega,by omega,h3⟩
   ·have JY:a=0:=by omega
    subst JY;rw[rU ec,nE ok x r (k+1) (k+1) (by omega) (by omega) (by omega) (fun _=>by rw[show k+1+(r:Int)-1=k+r by omega];exact pU)];constructor
    ·rintro (h|⟨h1,h2,h3⟩)
     ·exact .inr ⟨by omega,by omega,hx (by omega)⟩
     ·exact .inr ⟨by omega,by omega,h3⟩
    ·rintro (h|⟨h1,h2,h3⟩)
     ·omega
     ·by_cases he:x=k+1
      ·exact .inl (by omega)
      ·exact .inr ⟨by omega,by omega,h3⟩
  | false=>
   have hx:=hx false ec;have eX:ok (x-1)=true->x≠k+1:=fun h he=>by rw[hx he]at h;cases h
   have ih:=nE ok x r (k+1) 0 (by omega) (by omega) (by omega) (fun _=>by rw[show k+1+(r:Int)-1=k+r by omega];exact pU);by_cases SK:0<a
   ·rw[wq ec SK]
    have e:Lk x (⟨a,k⟩::eB ok r (k+1) 0)↔((a<=x/\x<=k)\/Lk x (eB ok r (k+1) 0)):=by
     simp[Lk]
    rw[e,ih];constructor
    ·rintro (h|h|⟨h1,h2,h3⟩)
     ·exact .inl (by omega)
     ·omega
     ·exact .inr ⟨by omega,by omega,h3⟩
    ·rintro (h|⟨h1,h2,h3⟩)
     ·exact .inl (by omega)
     ·have:=eX h3
      exact .inr (.inr ⟨by omega,by omega,h3⟩)
   ·have JY:a=0:=by omega
    subst JY;rw[wu ec,ih];constructor
    ·rintro (h|⟨h1,h2,h3⟩)
     ·omega
     ·exact .inr ⟨by omega,by omega,h3⟩
    ·rintro (h|⟨h1,h2,h3⟩)
     ·omega
     ·have:=eX h3
      exact .inr ⟨by omega,by omega,h3⟩
def jY(c:Case)(th:List Span):List Span:=eB (dO c th) (bK c.chain.au+1).toNat 0 0
theorem xT(c:Case)(th:List Span){n:Int}(hn:1<=n):dQ c th n=(jY c th).take n.toNat:=by
 unfold dQ jY;have:=nD (ok:=dO c th) (n:=n.toNat) (bK c.chain.au+1).toNat 0 0 [] (by simp;omega);rw[show((n.toNat:Nat):Int)=n by omega]at this;simpa using this
theorem yp(c:Case)(th:List Span):Gu 1 (jY c th):=(lh _ _ 0 0 (by omega)).1 rfl
theorem rq{c:Case}(h:fU c)(th:List Span)(x:Int):Lk x (jY c th)↔(1<=x/\x<=bK c.chain.au/\(lH c th x).1=0):=by
 have hl:=qb h;unfold jY;rw[nE (dO c th) x _ 0 0 (by omega) (by omega) (by omega) (fun _=>by
  have:(0:Int)+((bK c.chain.au+1).toNat:Int)-1=bK c.chain.au:=by omega
  rw[this];simp[dO])]
 constructor
 ·rintro (h|⟨h1,h2,h3⟩)
  ·omega
  ·simp only[dO,Bool.and_eq_true,decide_eq_true_eq]at h3
   rw[show x-1+1=x by omega]at h3;exact⟨by omega,by omega,h3.2⟩
 ·rintro ⟨h1,h2,h3⟩
  refine .inr ⟨by omega,by omega,?_⟩;simp only[dO,Bool.and_eq_true,decide_eq_true_eq];rw[show x-1+1=x by omega];exact⟨by omega,h3⟩
theorem Gu.get{l:List Span}:∀ {b:Int} {i:Nat} {x:Span},Gu b l->l[i]?=some x->b<=x.lo/\x.lo<=x.hi:=by
 induction l with
 | nil=>intro b i x h hx;simp at hx
 | cons s r ih=>
  intro b i x ⟨h1,h2,h3⟩ hx
  cases i with
  | zero=>simp at hx;subst hx;exact⟨h1,h2⟩
  | succ i=>
   have:=ih h3 (by simpa using hx);exact⟨by omega,this.2⟩
theorem A8{c:Case}(h:uG c=0):fA c=(match jY c (aO c) with | []=>(0,9)|s::r=>(s.lo,0)):=by
 have h':cg c (bJ c).2.2=0:=h;unfold fA;rw[if_pos h',xT c _ (by omega)];cases jY c (aO c)<;>rfl
theorem Co{c:Case}(hR:fU c)(he:uG c=0){out:Int}(ho:1<=out/\out<=bK c.chain.au):nO c out=(lH c (aO c) out,0):=by
 have h':cg c (bJ c).2.2=0:=he;obtain⟨h0,hs⟩:=fN h';have hg:pS c out false=0:=by
  unfold pS;rw[if_neg (by simp[h0]),if_neg (by simp),if_pos (bg.2 ho)]
 have:cg c (pS c out false)=0:=by rw[hg];simp[cg,hs]
 unfold nO;rw[if_pos this]
def q2(p0 p1:Int):D:=.agg [.int .u16 p0,.int .u16 p1]
def jZ(f:Nat->Bool):Nat->Nat
 | 0=>0
 | n+1=>jZ f n ||| (if f n then 2^n else 0)
theorem cV(f:Nat->Bool):∀ (n j:Nat),(jZ f n).testBit j=(decide (j<n)&&f j)
 | 0,j=>by simp[jZ]
 | n+1,j=>by
  rw[jZ,Nat.testBit_or,cV f n j];by_cases hj:j=n
  ·subst hj
   cases hf:f j<;>simp[Nat.testBit_two_pow_self]
  ·have h1:(if f n=true then 2^n else 0).testBit j=false:=by
    split
    ·rw[Nat.testBit_two_pow];simp;omega
    ·simp
   rw[h1,Bool.or_false]
   congr 1
   exact decide_eq_decide.2 (by omega)
theorem D5(f:Nat->Bool)(n:Nat):jZ f n<2^n:=by
 apply Nat.lt_pow_two_of_testBit;intro j hj;rw[cV,decide_eq_false (by omega)];rfl
theorem vw{f g:Nat->Bool}{n:Nat}(h:∀ j,j<n->f j=g j):jZ f n=jZ g n:=by
 apply Nat.eq_of_testBit_eq;intro j;rw[cV,cV];by_cases hj:j<n
 ·rw[h j hj]
 ·rw[decide_eq_false hj];rfl
theorem D6(f:Nat->Bool){n j:Nat}(hj:j<n):jZ f n ||| 2^j=jZ (fun i=>decide (i=j)||f i) n:=by
 apply Nat.eq_of_testBit_eq;intro i;rw[Nat.testBit_or,cV,cV,Nat.testBit_two_pow];by_cases h:i=j
 ·subst h;simp[hj]
 ·have h2:¬ j=i:=fun e=>h e.symm
  simp[h,h2]
theorem Cv(f g:Nat->Bool)(n:Nat):jZ f n &&& jZ g n=jZ (fun i=>f i&&g i) n:=by
 apply Nat.eq_of_testBit_eq;intro i;rw[Nat.testBit_and,cV,cV,cV];cases decide (i<n)<;>cases f i<;>cases g i<;>rfl
theorem s6{f:Nat->Bool}{n:Nat}:jZ f n=0 ↔ ∀ j,j<n->f j=false:=by
 constructor
 ·intro h j hj
  have:=cV f n j;rw[h]at this;simpa[hj]using this.symm
 ·intro h
  apply Nat.eq_of_testBit_eq;intro j;rw[cV];by_cases hj:j<n
  ·rw[h j hj];simp
  ·rw[decide_eq_false hj];simp
abbrev u64(n:Nat):D:=.int .u64 (n:Int)
theorem qz{n:Int}(h:0<=n/\n<18446744073709551616):IntKind.u64.wrap n=n:=by
 show n%2^64=n;rw[show(2:Int)^64=18446744073709551616 from by decide];exact Int.emod_eq_of_lt h.1 h.2
theorem xZ{a:Nat}(h:a<2^64):0<=(a:Int)/\(a:Int)<18446744073709551616:=by
 have:(2:Nat)^64=18446744073709551616:=by decide
 omega
theorem BB{a:Nat}(h:a<2^64):(BitVec.ofInt 64 (a:Int)).toNat=a:=by
 rw[BitVec.ofInt_natCast,BitVec.toNat_ofNat,Nat.mod_eq_of_lt h]
theorem KW{a b:Nat}(ha:a<2^64)(hb:b<2^64):im .or .u64 a b=((a ||| b:Nat):Int):=by
 show IntKind.u64.wrap ((BitVec.ofInt 64 (a:Int) ||| BitVec.ofInt 64 (b:Int)).toNat:Int)=_;rw[BitVec.toNat_or,BB ha,BB hb];exact qz (xZ (Nat.or_lt_two_pow ha hb))
theorem Bw{a b:Nat}(ha:a<2^64)(hb:b<2^64):im .and .u64 a b=((a &&& b:Nat):Int):=by
 show IntKind.u64.wrap ((BitVec.ofInt 64 (a:Int) &&& BitVec.ofInt 64 (b:Int)).toNat:Int)=_;rw[BitVec.toNat_and,BB ha,BB hb];exact qz (xZ (Nat.and_lt_two_pow _ hb))
theorem H2(a j:Nat)(hj:j<64):(a:Int).fdiv (2^min ((j:Nat):Int).toNat IntKind.u64.bits)=((a >>> j:Nat):Int):=by
 have h1:min ((j:Nat):Int).toNat IntKind.u64.bits=j:=by
  show min j 64=j;omega
 rw[h1,Nat.shiftRight_eq_div_pow,Int.fdiv_eq_ediv_of_nonneg _ (by exact Int.le_of_lt (Int.pow_pos (by decide)))];simp
theorem Gz{a j:Nat}(ha:a<2^64):decide (im .and .u64 ((a >>> j:Nat):Int) 1=1)=a.testBit j:=by
 have h:im .and .u64 ((a >>> j:Nat):Int) ((1:Nat):Int)=(((a >>> j) &&& 1:Nat):Int):=Bw (Nat.lt_of_le_of_lt (by rw[Nat.shiftRight_eq_div_pow];exact Nat.div_le_self _ _) ha) (by decide);have h:im .and .u64 ((a >>> j:Nat):Int) 1=(((a >>> j) &&& 1:Nat):Int):=h;rw[h,Nat.testBit,Nat.and_comm];rcases Nat.mod_two_eq_zero_or_one (a >>> j) with h0|h0
 ·have:1 &&& (a >>> j)=0:=by rw[Nat.one_and_eq_mod_two,h0]
  simp[this]
 ·have:1 &&& (a >>> j)=1:=by rw[Nat.one_and_eq_mod_two,h0]
  simp[this]
theorem H0{j:Nat}(hj:j<64):(1:Int)*2^min ((j:Nat):Int).toNat IntKind.u64.bits=((2^j:Nat):Int):=by
 have h1:min ((j:Nat):Int).toNat IntKind.u64.bits=j:=by
  show min j 64=j;omega
 rw[h1,Int.one_mul];simp
def bj(f:Nat->Bool)(k:Nat):Nat:=jZ (fun j=>f (64*k+j)) 64
def cp(f:Nat->Bool):List D:=[u64 (bj f 0),u64 (bj f 1),u64 (bj f 2),u64 (bj f 3),u64 (bj f 4)]
def ln(f:Nat->Bool):D:=.agg (cp f)
theorem qy(f:Nat->Bool)(k:Nat):bj f k<2^64:=D5 _ _
theorem Dw{f g:Nat->Bool}{k:Nat}(h:∀ j,j<64->f (64*k+j)=g (64*k+j)):bj f k=bj g k:=vw h
def kD(f:Nat->Bool)(i:Nat):Nat->Bool:=fun j=>decide (j=i)||f j
theorem F9(f:Nat->Bool){i:Nat}:bj f (i/64) ||| 2^(i%64)=bj (kD f i) (i/64):=by
 unfold bj;rw[D6 _ (Nat.mod_lt _ (by decide))];refine vw fun j hj=>?_;unfold kD
 congr 1
 exact decide_eq_decide.2 (by omega)
theorem Bl(f:Nat->Bool){i k:Nat}(h:k≠i/64):bj (kD f i) k=bj f k:=by
 refine Dw fun j hj=>?_;unfold kD;rw[decide_eq_false (by omega)];rfl
theorem F8(f g:Nat->Bool)(k:Nat):bj f k &&& bj g k=bj (fun j=>f j&&g j) k:=Cv _ _ _
theorem Dx(f:Nat->Bool)(i:Nat):(bj f (i/64)).testBit (i%64)=f i:=by
 unfold bj;rw[cV,decide_eq_true (Nat.mod_lt _ (by decide)),Bool.true_and,show 64*(i/64)+i%64=i by omega]
structure bQ where
 iq:vn
 anchor:ow
 ring:Span
 mA:Int
structure bO where
 minute:Int
 iy:Int
 points:Int
 box:ow
def bQ.cells(m:bQ):List D:=[xD m.iq.marks,rf m.iq.cB,i64 m.anchor.x.lo,i64 m.anchor.x.hi,i64 m.anchor.y.lo,i64 m.anchor.y.hi,i64 m.ring.lo,i64 m.ring.hi,i64 m.mA]
def bQ.d(m:bQ):D:=.agg m.cells
def bO.cells(x:bO):List D:=[i64 x.minute,i64 x.iy,i64 x.points,i64 x.box.x.lo,i64 x.box.x.hi,i64 x.box.y.lo,i64 x.box.y.hi]
def bO.d(x:bO):D:=.agg x.cells
def bG(l:List bO):D:=.vs (l.map bO.cells)
def mz(b:ow):Int:=
 if (bc b.x.lo (-9000) 9000&&bc b.x.hi (-9000) 9000)&&(bc b.y.lo (-9000) 9000&&bc b.y.hi (-9000) 9000) then (if bc b.x.hi b.x.lo (b.x.lo+16) then (if bc b.y.hi b.y.lo (b.y.lo+16) then 0 else 2) else 2) else 7
structure rn(b:ow):Prop where
 x1 : -9000<=b.x.lo
 x2:b.x.lo<=b.x.hi
 x3:b.x.hi<=9000
 x4:b.x.hi<=b.x.lo+16
 y1 : -9000<=b.y.lo
 y2:b.y.lo<=b.y.hi
 y3:b.y.hi<=9000
 y4:b.y.hi<=b.y.lo+16
theorem BA{b:ow}(h:mz b=0):rn b:=by
 unfold mz at h;split at h;case isFalse=>cases h
 rename_i h1;split at h;case isFalse=>cases h
 rename_i h2;split at h;case isFalse=>cases h
 rename_i h3;simp only[Bool.and_eq_true,bg]at h1 h2 h3;exact⟨by omega,by omega,by omega,by omega,by omega,by omega,by omega,by omega⟩
theorem wZ{b:ow}(h:rn b):mz b=0:=by
 obtain⟨h1,h2,h3,h4,h5,h6,h7,h8⟩:=h;unfold mz;rw[if_pos (by simp only[Bool.and_eq_true,bg];omega),if_pos (bg.2 (by omega)),if_pos (bg.2 (by omega))]
def gy(m:bQ):Int×Int:=
 if (cC m.iq).2.2=0 then (if mz m.anchor=0 then (if bc m.ring.lo 0 200&&bc m.ring.hi 0 200 then (if bc m.mA 0 20000 then (if m.ring.hi<m.ring.lo then (3,2) else (0,0)) else (3,7)) else (3,7)) else (2,mz m.anchor)) else (1,(cC m.iq).2.2)
structure jr(m:bQ):Prop where
 iq:(cC m.iq).2.2=0
 box:rn m.anchor
 FF:0<=m.ring.lo
 FG:m.ring.lo<=m.ring.hi
 FH:m.ring.hi<=200
 OP:0<=m.mA
 OQ:m.mA<=20000
theorem vy{m:bQ}(h:(gy m).2=0):jr m:=by
 unfold gy at h;split at h;case isFalse=>rename_i h1;exact absurd h h1
 rename_i h1;split at h;case isFalse=>rename_i h2;exact absurd h h2
 rename_i h2;split at h;case isFalse=>cases h
 rename_i h3;split at h;case isFalse=>cases h
 rename_i h4;split at h
 ·cases h
 rename_i h5;simp only[Bool.and_eq_true,bg]at h3 h4;exact⟨h1,BA h2,by omega,by omega,by omega,by omega,by omega⟩
theorem CC{m:bQ}(h:jr m):gy m=(0,0):=by
 obtain⟨h1,h2,h3,h4,h5,h6,h7⟩:=h;unfold gy;rw[if_pos h1,if_pos (wZ h2),if_pos (by simp only[Bool.and_eq_true,bg];omega),if_pos (bg.2 (by omega)),if_neg (by omega)]
def Gt(o:Option Int)(x:bO):Int:=
 if mz x.box=7 then 7 else if bc x.minute 0 100000 then (if bc x.iy 0 31 then (if bc x.points 1 32 then (if mz x.box=0 then (match o with
  | some n=>if x.minute<=n then 2 else 0
  | none=>0) else mz x.box) else 7) else 7) else 7
def mq:Option Int->Int->List bO->Int×Int
 | _,_,[]=>(0,0)
 | o,i,x::r=>if Gt o x=0 then mq (some x.minute) (i+1) r else (i,Gt o x)
def ix(m:bQ)(l:List bO):Int×Int:=if (gy m).2=0 then (if l.length>8 then (0,3) else mq none 0 l) else (0,(gy m).2)
structure nP(x:bO):Prop where
 box:rn x.box
 PZ:0<=x.minute
 P0:x.minute<=100000
 KY:0<=x.iy
 KZ:x.iy<=31
 HJ:1<=x.points
 HK:x.points<=32
theorem KQ{o:Option Int}{x:bO}(h:Gt o x=0):nP x:=by
 unfold Gt at h;split at h
 ·cases h
 split at h;case isFalse=>cases h
 rename_i h2;split at h;case isFalse=>cases h
 rename_i h3;split at h;case isFalse=>cases h
 rename_i h4;split at h;case isFalse=>rename_i h5;exact absurd h h5
 rename_i h5;rw[bg]at h2 h3 h4;exact⟨BA h5,by omega,by omega,by omega,by omega,by omega,by omega⟩
theorem KP{o:Option Int}{x:bO}(h:nP x)(ho:∀ n,o=some n->n<x.minute):Gt o x=0:=by
 obtain⟨h1,h2,h3,h4,h5,h6,h7⟩:=h;unfold Gt;rw[if_neg (by rw[wZ h1];decide),if_pos (bg.2 (by omega)),if_pos (bg.2 (by omega)),if_pos (bg.2 (by omega)),if_pos (wZ h1)]
 cases o with
 | none=>rfl
 | some n=>have:=ho n rfl;simp only;rw[if_neg (by omega)]
theorem yI:∀ {l:List bO} {o:Option Int} {i:Int},(mq o i l).2=0 -> ∀ x∈l,nP x
 | [],_,_,_,x,hx=>by cases hx
 | y::r,o,i,h,x,hx=>by
  rw[mq]at h;split at h;case isFalse=>rename_i h1;exact absurd h h1
  rename_i h1;rcases List.mem_cons.1 hx with rfl|hx
  ·exact KQ h1
  ·exact yI h x hx
structure Jg(m:bQ)(l:List bO):Prop where
 sj:jr m
 len:l.length<=8
 look:∀ x∈l,nP x
theorem ij{m:bQ}{l:List bO}(h:(ix m l).2=0):Jg m l:=by
 unfold ix at h;split at h;case isFalse=>rename_i h1;exact absurd h h1
 rename_i h1;split at h
 ·cases h
 exact⟨vy h1,by omega,yI h⟩
def Ec(b:ow)(x:Int):List Pt:=(yg (b.y.hi-b.y.lo+1).toNat b.y.lo).map fun y=>⟨x,y⟩
def xR(b:ow)(k:Nat)(x:Int):List Pt:=(yg k x).flatMap (Ec b)
def bf(b:ow):List Pt:=xR b (b.x.hi-b.x.lo+1).toNat b.x.lo
def eA:Nat->List Pt->List (Nat×Pt)
 | _,[]=>[]
 | n,p::r=>(n,p)::eA (n+1) r
def Hy(x:Nat×Pt):List V×ar:=([.d (i64 x.1),.d x.2.d],[])
theorem zo:∀ (l m:List Pt) (n:Nat),eA n (l++m)=eA n l++eA (n+l.length) m
 | [],m,n=>rfl
 | p::r,m,n=>by rw[List.cons_append,eA,eA,List.cons_append,zo r m (n+1),List.length_cons,show n+1+r.length=n+(r.length+1) by omega]
theorem GF(b:ow)(x:Int):(Ec b x).length=(b.y.hi-b.y.lo+1).toNat:=by unfold Ec;rw[List.length_map,sM]
theorem Cf(b:ow):∀ (k:Nat) (x:Int),(xR b k x).length=k*(b.y.hi-b.y.lo+1).toNat
 | 0,x=>by simp[xR,yg]
 | k+1,x=>by
  have:=Cf b k (x+1);unfold xR at this ⊢;rw[yg,List.flatMap_cons,List.length_append,this,GF,Nat.add_mul,Nat.one_mul];omega
theorem et{b:ow}(h:rn b):(bf b).length<=289:=by
 obtain⟨h1,h2,h3,h4,h5,h6,h7,h8⟩:=h;unfold bf;rw[Cf];have e1:(b.x.hi-b.x.lo+1).toNat<=17:=by omega
 have e2:(b.y.hi-b.y.lo+1).toNat<=17:=by omega
 exact Nat.mul_le_mul e1 e2
theorem B4:∀ {k:Nat} {v x:Int},x∈yg k v↔v<=x/\x<v+k
 | 0,v,x=>by
  constructor
  ·intro h;cases h
  ·intro h;omega
 | k+1,v,x=>by
  rw[yg,List.mem_cons,B4];omega
theorem lX{b:ow}{p:Pt}:p∈bf b↔(b.x.lo<=p.x/\p.x<=b.x.hi)/\(b.y.lo<=p.y/\p.y<=b.y.hi):=by
 unfold bf xR Ec;simp only[List.mem_flatMap,List.mem_map,B4];constructor
 ·rintro ⟨x,hx,y,hy,rfl⟩
  simp only;exact⟨by omega,by omega⟩
 ·rintro ⟨hx,hy⟩
  exact⟨p.x,by omega,p.y,by omega,rfl⟩
theorem e7{b:ow}(h:rn b){p:Pt}(hp:p∈bf b):eE 9000 p:=by
 obtain⟨h1,h2⟩:=lX.1 hp;have:=h.x1;have:=h.x3;have:=h.y1;have:=h.y3;exact⟨by omega,by omega⟩
def rW(v:Pt)(p:Int):Bool:=decide (0<aC (uN (p.tmod 32)) v)
def zN(x:bO)(v:Pt)(q:Nat):Bool:=!rW v (x.iy+8*(q:Int))&&rW v (x.iy+8*(q:Int)+min 8 (x.points-8*(q:Int)))
def Ch(x:bO)(v:Pt):Bool:=(List.range ((x.points+7)/8).toNat).any (zN x v)
def gl(m:bQ)(x:bO)(a p:Pt):Bool:=
 if bc p.x x.box.x.lo x.box.x.hi then (if bc p.y x.box.y.lo x.box.y.hi then (if bc (zU (p.sub a)) (m.ring.lo*m.ring.lo) (m.ring.hi*m.ring.hi) then
  (if zU (p.sub a)=0 then true else if x.points=32 then true else Ch x (p.sub a)) else false) else false) else false
def pT(m:bQ)(x:bO)(i:Nat):Bool:=match (bf m.anchor)[i]? with
 | some a=>(bf x.box).any (gl m x a)
 | none=>false
def dW(m:bQ)(i:Nat):Bool:=decide (i<(bf m.anchor).length)
def iT(f g:Nat->Bool):Nat->Bool:=fun i=>f i&&g i
def mn(f:Nat->Bool):List (Nat->Bool)->Nat->Bool
 | []=>f
 | g::r=>mn (iT f g) r
theorem iW(lo hi a:Int):aW Tryz.prog 86 [i64 lo,i64 hi,.vs [[i64 a]]] (.bool (!bc a lo hi)):=by
 exact aW.cast (Et lo hi [a] (by simp)) (by simp only[List.any_cons,List.any_nil,l4];cases bc a lo hi<;>rfl)
theorem GN(lo hi a b:Int):aW Tryz.prog 86 [i64 lo,i64 hi,.vs [[i64 a],[i64 b]]] (.bool (!(bc a lo hi&&bc b lo hi))):=by
 exact aW.cast (Et lo hi [a,b] (by simp)) (by simp only[List.any_cons,List.any_nil,l4];cases bc a lo hi<;>cases bc b lo hi<;>rfl)
theorem BH(lo hi a b c d:Int):aW Tryz.prog 86 [i64 lo,i64 hi,.vs [[i64 a],[i64 b],[i64 c],[i64 d]]] (.bool (!((bc a lo hi&&bc b lo hi)&&(bc c lo hi&&bc d lo hi)))):=by
 exact aW.cast (Et lo hi [a,b,c,d] (by simp)) (by simp only[List.any_cons,List.any_nil,l4];cases bc a lo hi<;>cases bc b lo hi<;>cases bc c lo hi<;>cases bc d lo hi<;>rfl)
theorem Ja(b:ow):aW Tryz.prog 129 [b.d] (i64 (mz b)):=by
 refine aA Tryz.func129 rfl (ft:=M5) 1 fun {σ} Y st=>?_;conv=>whnf
 refine ag (BH (-9000) 9000 b.x.lo b.x.hi b.y.lo b.y.hi) rfl 1 rfl ?_;conv=>whnf
 unfold mz
 cases h1:(bc b.x.lo (-9000) 9000&&bc b.x.hi (-9000) 9000)&&(bc b.y.lo (-9000) 9000&&bc b.y.hi (-9000) 9000) with
 | false=>
  conv=>whnf
  exact af
 | true=>
  simp only[Bool.and_eq_true,bg]at h1;conv=>whnf
  refine ab ?_;conv=>whnf
  refine ag (iW b.x.lo (b.x.lo+16) b.x.hi) rfl 1 rfl ?_;conv=>whnf
  cases h2:bc b.x.hi b.x.lo (b.x.lo+16) with
  | false=>
   conv=>whnf
   exact af
  | true=>
   conv=>whnf
   refine ab ?_;conv=>whnf
   refine ag (iW b.y.lo (b.y.lo+16) b.y.hi) rfl 1 rfl ?_;conv=>whnf
   cases h3:bc b.y.hi b.y.lo (b.y.lo+16) with
   | false=>
    conv=>whnf
    exact af
   | true=>
    conv=>whnf
    exact af
theorem O6(m:bQ):aW Tryz.prog 126 [m.d] (.tup [i64 (gy m).1,i64 (gy m).2]):=by
 refine aA Tryz.func126 rfl (ft:=M1) 1 fun {σ} Y st=>?_;conv=>whnf
 refine ag (ds:=[m.iq.d]) (L9 m.iq) rfl 1 rfl ?_;conv=>whnf
 unfold gy;by_cases h0:(cC m.iq).2.2=0;case neg=>
  rw[if_neg h0];refine ai (fun _=>?_) (fun h1=>absurd h1 (by simp[h0]));conv=>whnf
  exact af
 rw[if_pos h0];refine ai (fun h1=>absurd h1 (by simp[h0])) (fun _=>?_);conv=>whnf
 refine ag (ds:=[m.anchor.d]) (Ja m.anchor) rfl 1 rfl ?_;conv=>whnf
 by_cases h1:mz m.anchor=0;case neg=>
  rw[if_neg h1];refine ai (fun _=>?_) (fun h2=>absurd h2 (by simp[h1]));conv=>whnf
  exact af
 rw[if_pos h1];refine ai (fun h2=>absurd h2 (by simp[h1])) (fun _=>?_);conv=>whnf
 refine ag (GN 0 200 m.ring.lo m.ring.hi) rfl 1 rfl ?_;conv=>whnf
 cases h3:bc m.ring.lo 0 200&&bc m.ring.hi 0 200 with
 | false=>
  conv=>whnf
  exact af
 | true=>
  conv=>whnf
  refine ag (iW 0 20000 m.mA) rfl 1 rfl ?_;conv=>whnf
  cases h4:bc m.mA 0 20000 with
  | false=>
   conv=>whnf
   exact af
  | true=>
   conv=>whnf
   refine ai (fun h5=>?_) (fun h5=>?_)
   ·have h5:m.ring.hi<m.ring.lo:=of_decide_eq_true h5
    rw[if_pos rfl,if_pos rfl,if_pos h5];conv=>whnf
    exact af
   ·have h5:¬ m.ring.hi<m.ring.lo:=of_decide_eq_false h5
    rw[if_pos rfl,if_pos rfl,if_neg h5];conv=>whnf
    exact af
def wa(l:List bO)(i:Nat):Option Int:=match i with
 | 0=>none
 | k+1=>(l[k]?).map bO.minute
set_option maxHeartbeats 1000000 in
theorem O8(l:List bO)(i:Nat)(x:bO)(hi:i<=l.length)(hl:l.length<=8):aW Tryz.prog 128 [i64 i,.agg x.cells,.ref [bG l]] (i64 (Gt (wa l i) x)):=by
 refine aA Tryz.func128 rfl (ft:=M4) 3 fun {σ} Y st=>?_;conv=>whnf
 refine ag (ds:=[x.box.d]) (Ja x.box) rfl 1 rfl ?_;conv=>whnf
 unfold Gt;by_cases h0:mz x.box=7
 ·rw[if_pos h0,decide_eq_true h0]
  conv=>whnf
  exact af
 rw[if_neg h0,decide_eq_false h0];conv=>whnf
 refine ag (iW 0 100000 x.minute) rfl 1 rfl ?_;conv=>whnf
 cases h1:bc x.minute 0 100000 with
 | false=>
  conv=>whnf
  exact af
 | true=>
  conv=>whnf
  refine ag (iW 0 31 x.iy) rfl 1 rfl ?_;conv=>whnf
  cases h2:bc x.iy 0 31 with
  | false=>
   conv=>whnf
   exact af
  | true=>
   conv=>whnf
   refine ag (iW 1 32 x.points) rfl 1 rfl ?_;conv=>whnf
   cases h3:bc x.points 1 32 with
   | false=>
    conv=>whnf
    exact af
   | true=>
    conv=>whnf
    by_cases h4:mz x.box=0
    ·rw[if_pos rfl,if_pos rfl,if_pos rfl,if_pos h4,decide_eq_true h4]
     conv=>whnf
     cases i with
     | zero=>
      conv=>whnf
      rw[h4];exact af
     | succ k=>
      obtain⟨y,hy⟩:∃ y,l[k]?=some y:=⟨l[k]'(by omega),by simp⟩;rw[show decide (0<((k+1:Nat):Int))=true from decide_eq_true (by omega)];conv=>whnf
      refine aK ((k:Int)) (by(try dsimp only);omega) (wrap_i64 (by(try dsimp only);omega)) ?_;conv=>whnf
      refine ax hy ?_;conv=>whnf
      have hp:wa l (k+1)=some y.minute:=by show(l[k]?).map bO.minute=_;rw[hy];rfl
      rw[hp];refine ai (fun h5=>?_) (fun h5=>?_)
      ·have h5:x.minute<=y.minute:=of_decide_eq_true h5
       simp only;rw[if_pos h5];conv=>whnf
       exact af
      ·have h5:¬ x.minute<=y.minute:=of_decide_eq_false h5
       simp only;rw[if_neg h5,h4];conv=>whnf
       exact af
    ·rw[if_pos rfl,if_pos rfl,if_pos rfl,if_neg h4,decide_eq_false h4]
     conv=>whnf
     exact af
theorem O7(l:List bO)(hl:l.length<=8):aW Tryz.prog 127 [bG l,.clo 128 [.ref [bG l]]] (.tup [i64 (mq none 0 l).1,i64 (mq none 0 l).2]):=by
 refine aA Tryz.func127 rfl (ft:=M3) 2 fun {σ} Y st=>?_;conv=>whnf
 refine aZ (T:=tys) ao (by exact ah mixed ao (by decide +kernel)) l (fun i (_:Unit)=>⟨[(1,.d (.clo 128 [.ref [bG l]])),(9,.d (bG l)),(10,.d (i64 (l.map bO.cells).length)),(11,.d (i64 i))],[],st⟩) (fun i r _=>mq none 0 l=mq (wa l i) i r) () av rfl ?_ ?_
 ·rintro i x r _ Gq hi hr he
  have hle:i<l.length:=by have:=hi;simpa using this
  rw[mq]at he;conv=>whnf
  refine ai (fun _=>?_) (fun h=>absurd hi (by simpa using h));conv=>whnf
  refine ax Gq ?_;conv=>whnf
  refine ae (O8 l i x (by omega) hl) rfl rfl ?_;conv=>whnf
  have hp:wa l (i+1)=some x.minute:=by show(l[i]?).map bO.minute=_;rw[Gq];rfl
  refine ai (fun h1=>?_) (fun h1=>?_)
  ·have h1:¬ Gt (wa l i) x=0:=by simpa using h1
   rw[if_neg h1]at he;rw[he];conv=>whnf
   exact af
  ·have h1:Gt (wa l i) x=0:=by simpa using h1
   rw[if_pos h1]at he;conv=>whnf
   refine ab ?_;conv=>whnf
   exact⟨(),by rw[he,hp];rfl,av⟩
 ·rintro _ he
  rw[he,mq];conv=>whnf
  refine ai (fun h=>absurd h (by simp)) (fun _=>?_);conv=>whnf
  exact af
theorem Ld(m:bQ)(l:List bO):aW Tryz.prog 85 [m.d,bG l] (.tup [i64 (ix m l).1,i64 (ix m l).2]):=by
 refine aA Tryz.func85 rfl (ft:=Sh) 2 fun {σ} Y st=>?_;conv=>whnf
 unfold ix;refine ag (ds:=[m.d]) (O6 m) rfl 1 rfl ?_;conv=>whnf
 by_cases h0:(gy m).2=0;case neg=>
  rw[if_neg h0];refine ai (fun _=>?_) (fun h1=>absurd h1 (by simp[h0]));conv=>whnf
  exact af
 rw[if_pos h0];refine ai (fun h1=>absurd h1 (by simp[h0])) (fun _=>?_);conv=>whnf
 refine ai (fun h1=>?_) (fun h1=>?_)
 ·have h1:l.length>8:=by have:=of_decide_eq_true h1;simp at this;omega
  rw[if_pos h1];conv=>whnf
  exact af
 ·have h1:¬ l.length>8:=by have:=of_decide_eq_false h1;simp at this;omega
  rw[if_neg h1];conv=>whnf
  refine ag (ds:=[bG l,.clo 128 [.ref [bG l]]]) (O7 l (by omega)) rfl 1 rfl ?_;conv=>whnf
  exact af
theorem Ij:∀ k:Fin 32,-1000<=(pb ((k:Nat):Int)).x/\(pb ((k:Nat):Int)).x<=1000 /\ -1000<=(pb ((k:Nat):Int)).y/\(pb ((k:Nat):Int)).y<=1000:=by decide +kernel
theorem FZ(n:Int):eE 1000 (uN n):=by
 unfold uN;split
 ·rename_i h
  rw[bg]at h;have:=Ij ⟨n.toNat,by omega⟩;rw[show(((⟨n.toNat,by omega⟩:Fin 32):Nat):Int)=n from by simp only;omega]at this;exact⟨by omega,by omega⟩
 ·exact⟨by decide,by decide⟩
theorem Jb(v:Pt)(n:Int)(hv:eE 100000 v):aW Tryz.prog 132 [i64 n,.ref v.cells] (.bool (rW v n)):=by
 refine aA Tryz.func132 rfl (ft:=M7) 2 fun {σ} Y st=>?_;conv=>whnf
 refine ag (Qi (n.tmod 32)) rfl 1 rfl ?_;conv=>whnf
 have hq:=FZ (n.tmod 32);have h1:=j9 (hq.mono (show(1000:Int)<=1000000000 by decide)).x (hv.mono (show(100000:Int)<=1000000000 by decide)).y;have h2:=j9 (hq.mono (show(1000:Int)<=1000000000 by decide)).y (hv.mono (show(100000:Int)<=1000000000 by decide)).x;refine ab ?_;conv=>whnf
 refine ab ?_;conv=>whnf
 refine ab ?_;conv=>whnf
 exact af
theorem jQ{a k:Int}(h : -k<=a/\a<=k)(hk:k<=100000):0<=a*a/\a*a<=10000000000:=by
 refine⟨sq_nonneg a,?_⟩;rcases Int.le_total 0 a with h0|h0
 ·exact Int.le_trans (Int.mul_le_mul (show a<=100000 by omega) (show a<=100000 by omega) h0 (by decide)) (by decide)
 ·have:(-a)*(-a)<=100000*100000:=Int.mul_le_mul (by omega) (by omega) (by omega) (by decide)
  rw[Int.neg_mul_neg]at this;exact Int.le_trans this (by decide)
set_option maxHeartbeats 2000000 in
theorem Le(m:bQ)(f:Nat->Bool)(x:bO)(a p:Pt)(hm:jr m)(hx:nP x)(ha:eE 20000 a)(hp:eE 20000 p):aW Tryz.prog 88 [.agg (m.cells++cp f),x.d,a.d,p.d] (.bool (gl m x a p)):=by
 refine aA Tryz.func88 rfl (ft:=Sk) 4 fun {σ} Y st=>?_;conv=>whnf
 have JY:=ha.x;have Xd:=ha.y;have AB:=hp.x;have Lt:=hp.y;have Lw:=hm.FF;have TD:=hm.FG;have Xp:=hm.FH;refine ab ?_;conv=>whnf
 refine ab ?_;conv=>whnf
 have E1:eE 100000 (p.sub a):=⟨by show _<=p.x-a.x/\p.x-a.x<=_;omega,by show _<=p.y-a.y/\p.y-a.y<=_;omega⟩;have s1:=jQ E1.x (by decide);have s2:=jQ E1.y (by decide);have s3:=jQ (a:=m.ring.lo) (k:=200) (by omega) (by decide);have s4:=jQ (a:=m.ring.hi) (k:=200) (by omega) (by decide);have e1:(p.sub a).x=p.x-a.x:=rfl;have e2:(p.sub a).y=p.y-a.y:=rfl;rw[e1]at s1;rw[e2]at s2;refine ab ?_;conv=>whnf
 refine ab ?_;conv=>whnf
 refine ab ?_;conv=>whnf
 unfold gl;have Oz:zU (p.sub a)=(p.x-a.x)*(p.x-a.x)+(p.y-a.y)*(p.y-a.y):=rfl;rw[Oz];generalize (p.x-a.x)*(p.x-a.x)+(p.y-a.y)*(p.y-a.y)=QA;refine ag (iW x.box.x.lo x.box.x.hi p.x) rfl 1 rfl ?_;conv=>whnf
 cases h1:bc p.x x.box.x.lo x.box.x.hi with
 | false=>
  conv=>whnf
  exact af
 | true=>
  conv=>whnf
  refine ag (iW x.box.y.lo x.box.y.hi p.y) rfl 1 rfl ?_;conv=>whnf
  cases h2:bc p.y x.box.y.lo x.box.y.hi with
  | false=>
   conv=>whnf
   exact af
  | true=>
   conv=>whnf
   refine ab ?_;conv=>whnf
   refine ab ?_;conv=>whnf
   refine ag (iW (m.ring.lo*m.ring.lo) (m.ring.hi*m.ring.hi) QA) rfl 1 rfl ?_;conv=>whnf
   cases h3:bc QA (m.ring.lo*m.ring.lo) (m.ring.hi*m.ring.hi) with
   | false=>
    conv=>whnf
    exact af
   | true=>
    rw[if_pos rfl,if_pos rfl,if_pos rfl];conv=>whnf
    by_cases h4:QA=0
    ·rw[if_pos h4,decide_eq_true h4]
     conv=>whnf
     exact af
    rw[if_neg h4,decide_eq_false h4];conv=>whnf
    by_cases h5:x.points=32
    ·rw[if_pos h5,decide_eq_true h5]
     conv=>whnf
     exact af
    rw[if_neg h5,decide_eq_false h5];conv=>whnf
    have Lu:=hx.HJ;have Lv:=hx.HK;have Xm:=hx.KY;have Xn:=hx.KZ;unfold Ch;generalize hn:((x.points+7)/8).toNat=n;have u2:x.points<=8*n:=by omega
    have Ko:8*(n:Int)<x.points+8:=by omega
    refine aZ (T:=tys) ao (by exact ah mixed ao (by decide +kernel)) (List.range n) (fun i (_:Unit)=>⟨[(5,.ptr 5 0),(11,.clo 132 [.ptr 9 0]),(12,.d (i64 (8*(i:Int))))],[(5,.box (.dd x.cells)),(9,.box (.dd (p.sub a).cells))],st⟩) (fun i r _=>(List.range n).any (zN x (p.sub a))=r.any (zN x (p.sub a))) () av rfl ?_ ?_
    ·rintro i q r _ Kv hi Xh he
     have hi:i<n:=by simpa using hi
     have hq:q=i:=by
      rw[List.getElem?_range hi]at Kv;cases Kv;rfl
     subst hq;rw[List.any_cons]at he;rw[he];conv=>whnf
     refine ai (fun _=>?_) (fun h=>absurd h (by simp;omega));conv=>whnf
     refine ab ?_;conv=>whnf
     conv=>whnf
     refine ab ?_;conv=>whnf
     refine ag (ds:=[i64 (x.iy+8*(q:Int)),.ref (p.sub a).cells]) (Jb (p.sub a) (x.iy+8*(q:Int)) E1) rfl 2 rfl ?_;have KD:zN x (p.sub a) q=(!rW (p.sub a) (x.iy+8*(q:Int))&&rW (p.sub a) (x.iy+8*(q:Int)+min 8 (x.points-8*(q:Int)))):=rfl
     cases h6:rW (p.sub a) (x.iy+8*(q:Int)) with
     | true=>
      rw[h6]at KD;rw[KD]at he ⊢;conv=>whnf
      refine ab ?_;conv=>whnf
      exact⟨(),rfl,Wk.sub ⟨rfl,rfl,congrArg (fun z=>some (V.d (i64 z))) (by omega),trivial⟩ ⟨rfl,rfl,trivial⟩⟩
     | false=>
      rw[h6]at KD;conv=>whnf
      refine ab ?_;conv=>whnf
      conv=>whnf
      refine ab ?_;conv=>whnf
      refine ag (ds:=[i64 (x.iy+8*(q:Int)+min 8 (x.points-8*(q:Int))),.ref (p.sub a).cells]) (Jb (p.sub a) (x.iy+8*(q:Int)+min 8 (x.points-8*(q:Int))) E1) rfl 2 rfl ?_;conv=>whnf
      cases h7:rW (p.sub a) (x.iy+8*(q:Int)+min 8 (x.points-8*(q:Int))) with
      | true=>
       rw[h7]at KD;rw[KD];conv=>whnf
       exact af
      | false=>
       rw[h7]at KD;rw[KD]at he ⊢;conv=>whnf
       refine ab ?_;conv=>whnf
       exact⟨(),rfl,Wk.sub ⟨rfl,rfl,congrArg (fun z=>some (V.d (i64 z))) (by omega),trivial⟩ ⟨rfl,rfl,trivial⟩⟩
    ·rintro _ he
     rw[he];conv=>whnf
     refine ai (fun h=>absurd h (by simp;omega)) (fun _=>?_);conv=>whnf
     exact af
theorem Ds(b:ow):aW Tryz.prog 63 [b.d] (.clo 103 [.ref b.cells]):=by
 refine aA Tryz.func63 rfl (ft:=RZ) 1 fun {σ} Y st=>?_;conv=>whnf
 exact al 1 rfl ⟨⟨rfl,rfl⟩,rfl⟩
theorem jm(b:ow)(hb:rn b):Yields Tryz.prog 103 [.ref b.cells] ((eA 0 (bf b)).map Hy):=by
 intro γ Y g0 Q fF;obtain⟨q1,q2,q3,q4,q5,q6,q7,q8⟩:=hb;refine ek mixed ao Tryz.func103 rfl (ft:=IA) (args:=[.yld,.d (.ref b.cells)]) (show uQ IA Tryz.f103 2=true from by decide +kernel) ?_;replace fF:=fF.np;generalize Y.np=Y at fF ⊢;conv=>whnf
 refine bV (T:=tys) ao (by exact ah mixed ao (by decide +kernel)) (α:=Nat×Nat×γ)
  (fun z=>⟨[(0,.yld),(1,.d (.ref b.cells)),(3,.d (i64 z.1)),(4,.d (i64 (b.x.lo+z.2.1)))],[],z.2.2⟩)
  (fun z=>z.1<=17*z.2.1/\z.2.1<=(b.x.hi-b.x.lo+1).toNat/\iterate Y ((eA z.1 (xR b ((b.x.hi-b.x.lo+1).toNat-z.2.1) (b.x.lo+z.2.1))).map Hy) z.2.2 Q) (fun z=>(b.x.hi-b.x.lo+1).toNat-z.2.1) (0,0,g0) ?wk ⟨by simp,by simp,by simpa[bf]using fF⟩ ?_
 case wk=>exact Wk.sub ⟨rfl,rfl,rfl,congrArg (fun z=>some (V.d (i64 z))) (by simp),trivial⟩ trivial
 clear fF g0;rintro ⟨n,i,g0⟩ ⟨hn,hi,fF⟩;simp only at hn hi fF;conv=>whnf
 refine ai (fun h1=>?_) (fun h1=>?_)
 ·have h1:b.x.lo+(i:Int)<=b.x.hi:=of_decide_eq_true h1
  obtain⟨m,hm⟩:∃ m,(b.x.hi-b.x.lo+1).toNat-i=m+1:=⟨(b.x.hi-b.x.lo).toNat-i,by omega⟩;have sy:(b.x.hi-b.x.lo+1).toNat-(i+1)=m:=by omega
  rw[hm,xR,yg,List.flatMap_cons,zo,List.map_append]at fF;conv=>whnf
  refine bV (T:=tys) ao (by exact ah mixed ao (by decide +kernel)) (α:=Nat×Nat×γ)
   (fun z=>⟨[(0,.yld),(1,.d (.ref b.cells)),(3,.d (i64 z.1)),(4,.d (i64 (b.x.lo+i))),(5,.d (i64 (b.y.lo+z.2.1)))],[],z.2.2⟩)
   (fun z=>z.1=n+z.2.1/\z.2.1<=(b.y.hi-b.y.lo+1).toNat/\iterate Y (((eA z.1 ((yg ((b.y.hi-b.y.lo+1).toNat-z.2.1) (b.y.lo+z.2.1)).map fun y=>⟨b.x.lo+i,y⟩)).map Hy)++((eA (n+(b.y.hi-b.y.lo+1).toNat) (xR b m (b.x.lo+(i+1:Nat)))).map Hy)) z.2.2 Q) (fun z=>(b.y.hi-b.y.lo+1).toNat-z.2.1) (n,0,g0) ?wk2 ⟨by simp,by simp,by simpa[Ec,sM,xR,Int.add_assoc]using fF⟩ ?_
  case wk2=>exact Wk.sub ⟨rfl,rfl,rfl,rfl,congrArg (fun z=>some (V.d (i64 z))) (by simp),trivial⟩ trivial
  clear fF;rintro ⟨c,j,g1⟩ ⟨hc,hj,fF⟩;simp only at hc hj fF;subst hc;conv=>whnf
  refine ai (fun h2=>?_) (fun h2=>?_)
  ·have h2:b.y.lo+(j:Int)<=b.y.hi:=of_decide_eq_true h2
   obtain⟨k,hk⟩:∃ k,(b.y.hi-b.y.lo+1).toNat-j=k+1:=⟨(b.y.hi-b.y.lo).toNat-j,by omega⟩;have ji:(b.y.hi-b.y.lo+1).toNat-(j+1)=k:=by omega
   rw[hk,yg,List.map_cons,eA,List.map_cons,List.cons_append]at fF;conv=>whnf
   refine wT (ds:=[i64 ((n+j:Nat):Int),Pt.d ⟨b.x.lo+i,b.y.lo+j⟩]) fF rfl rfl (fun s' Kk=>?_) (fun s' DL=>?_)
   ·conv=>whnf
    refine ab ?_;conv=>whnf
    conv=>whnf
    refine ab ?_;conv=>whnf
    exact⟨(n+(j+1),j+1,s'),by simp only;omega,⟨rfl,by simp only;omega,by simp only;rw[ji,show(b.y.lo+((j+1:Nat):Int))=b.y.lo+j+1 by omega];exact Kk⟩,Wk.sub ⟨rfl,rfl,congrArg (fun z=>some (V.d (i64 z))) (by simp only;omega),rfl,congrArg (fun z=>some (V.d (i64 z))) (by simp only;omega),trivial⟩ trivial⟩
   ·conv=>whnf
    exact al 0 rfl ⟨rfl,DL⟩
  ·have h2:¬ b.y.lo+(j:Int)<=b.y.hi:=of_decide_eq_false h2
   rw[show(b.y.hi-b.y.lo+1).toNat-j=0 by omega,yg]at fF;conv=>whnf
   refine ab ?_;conv=>whnf
   exact⟨(n+(b.y.hi-b.y.lo+1).toNat,i+1,g1),by simp only;omega,⟨by simp only;omega,by simp only;omega,by simp only;rw[sy,<- show n+j=n+(b.y.hi-b.y.lo+1).toNat by omega];rw[<- show n+j=n+(b.y.hi-b.y.lo+1).toNat by omega]at fF;exact fF⟩,Wk.sub ⟨rfl,rfl,congrArg (fun z=>some (V.d (i64 z))) (by simp only;omega),congrArg (fun z=>some (V.d (i64 z))) (by simp only;omega),trivial⟩ trivial⟩
 ·have h1:¬ b.x.lo+(i:Int)<=b.x.hi:=of_decide_eq_false h1
  rw[show(b.x.hi-b.x.lo+1).toNat-i=0 by omega]at fF;conv=>whnf
  exact al 0 rfl ⟨rfl,fF⟩
theorem mK(f g:Nat->Bool)(k:Nat):im .and .u64 ((bj f k:Nat):Int) ((bj g k:Nat):Int)=((bj (iT f g) k:Nat):Int):=by
 rw[Bw (qy _ _) (qy _ _),F8];rfl
def Qx(f g:Nat->Bool)(i:Nat):List D:=[u64 (if 0<i then bj (iT f g) 0 else 0),u64 (if 1<i then bj (iT f g) 1 else 0),u64 (if 2<i then bj (iT f g) 2 else 0),u64 (if 3<i then bj (iT f g) 3 else 0),u64 (if 4<i then bj (iT f g) 4 else 0)]
theorem Ie(f g:Nat->Bool):aW Tryz.prog 61 [ln f,ln g] (ln (iT f g)):=by
 refine aA Tryz.func61 rfl (ft:=RX) 2 fun {σ} Y st=>?_;conv=>whnf
 refine aZ (T:=tys) ao (by exact ah mixed ao (by decide +kernel)) (List.range 5) (fun i (_:Unit)=>⟨[(3,.ptr 3 0),(4,.ptr 4 0),(7,.d (ln f)),(8,.d (i64 i))],[(3,.box (.dd (cp g))),(4,.box (.dd (Qx f g i)))],st⟩) (fun i r _=>True) () av trivial ?_ ?_
 ·rintro i x r _ Gq hi hr _
  have hi:i<5:=by simpa using hi
  have h5:i=0\/i=1\/i=2\/i=3\/i=4:=by omega
  rcases h5 with rfl|rfl|rfl|rfl|rfl
  ·conv=>whnf
   rw[mK f g 0];refine ab ?_;conv=>whnf
   exact⟨(),trivial,av⟩
  ·conv=>whnf
   rw[mK f g 1];refine ab ?_;conv=>whnf
   exact⟨(),trivial,av⟩
  ·conv=>whnf
   rw[mK f g 2];refine ab ?_;conv=>whnf
   exact⟨(),trivial,av⟩
  ·conv=>whnf
   rw[mK f g 3];refine ab ?_;conv=>whnf
   exact⟨(),trivial,av⟩
  ·conv=>whnf
   rw[mK f g 4];refine ab ?_;conv=>whnf
   exact⟨(),trivial,av⟩
 ·rintro _ _
  conv=>whnf
  exact af
theorem D4(f:Nat->Bool)(i k:Nat)(hk:i/64=k):decide (im .and .u64 (((bj f k:Nat):Int).fdiv (2^min ((i:Int).tmod 64).toNat IntKind.u64.bits)) 1=1)=f i:=by
 subst hk;have h2:(i:Int).tmod 64=((i%64:Nat):Int):=by simp[Int.tmod_eq_emod_of_nonneg]
 rw[h2,H2 _ _ (Nat.mod_lt _ (by decide)),Gz (qy _ _),Dx]
theorem uu{j:Nat}(hj:j<64):2^j<2^64:=Nat.pow_lt_pow_right (by decide) hj
theorem FM(i:Nat):(1:Int)*2^min ((i:Int).tmod 64).toNat IntKind.u64.bits=((2^(i%64):Nat):Int):=by
 have h2:(i:Int).tmod 64=((i%64:Nat):Int):=by simp[Int.tmod_eq_emod_of_nonneg]
 rw[h2];exact H0 (Nat.mod_lt _ (by decide))
theorem B8(f:Nat->Bool)(i k:Nat)(hk:i/64=k):im .or .u64 ((bj f k:Nat):Int) ((2^(i%64):Nat):Int)=((bj (kD f i) k:Nat):Int):=by
 subst hk;rw[KW (qy _ _) (uu (Nat.mod_lt _ (by decide))),F9]
theorem Pg(f:Nat->Bool)(i:Nat)(hi:i<320):aW Tryz.prog 64 [ln f,i64 i] (.bool (f i)):=by
 refine aA Tryz.func64 rfl (ft:=R0) 2 fun {σ} Y st=>?_;conv=>whnf
 have hk:i/64=0\/i/64=1\/i/64=2\/i/64=3\/i/64=4:=by omega
 have h1:(i:Int).tdiv 64=((i/64:Nat):Int):=by simp[Int.tdiv_eq_ediv_of_nonneg]
 generalize hm:i/64=k at h1 hk;refine aK ((k:Nat):Int) h1 (wrap_i64 (by omega)) ?_;rcases hk with rfl|rfl|rfl|rfl|rfl;all_goals
  conv=>whnf
  refine al 0 rfl ⟨⟨?_,rfl⟩,rfl⟩;rw[<- D4 f i _ hm];rfl
theorem ea(f:Nat->Bool){i k j:Nat}(hk:i/64=k)(h:j≠k):u64 (bj (kD f i) j)=u64 (bj f j):=by
 rw[Bl f (by omega)]
def T0(f g:Nat->Bool):Nat->List D
 | 0=>[u64 (bj g 0),u64 (bj f 1),u64 (bj f 2),u64 (bj f 3),u64 (bj f 4)]
 | 1=>[u64 (bj f 0),u64 (bj g 1),u64 (bj f 2),u64 (bj f 3),u64 (bj f 4)]
 | 2=>[u64 (bj f 0),u64 (bj f 1),u64 (bj g 2),u64 (bj f 3),u64 (bj f 4)]
 | 3=>[u64 (bj f 0),u64 (bj f 1),u64 (bj f 2),u64 (bj g 3),u64 (bj f 4)]
 | _=>[u64 (bj f 0),u64 (bj f 1),u64 (bj f 2),u64 (bj f 3),u64 (bj g 4)]
theorem zO{f:Nat->Bool}{i k:Nat}(hm:i/64=k)(hk:k=0\/k=1\/k=2\/k=3\/k=4):cp (kD f i)=T0 f (kD f i) k:=by
 unfold cp;rcases hk with rfl|rfl|rfl|rfl|rfl
 ·rw[ea (j:=1) f hm (by decide),ea (j:=2) f hm (by decide),ea (j:=3) f hm (by decide),ea (j:=4) f hm (by decide)];rfl
 ·rw[ea (j:=0) f hm (by decide),ea (j:=2) f hm (by decide),ea (j:=3) f hm (by decide),ea (j:=4) f hm (by decide)];rfl
 ·rw[ea (j:=0) f hm (by decide),ea (j:=1) f hm (by decide),ea (j:=3) f hm (by decide),ea (j:=4) f hm (by decide)];rfl
 ·rw[ea (j:=0) f hm (by decide),ea (j:=1) f hm (by decide),ea (j:=2) f hm (by decide),ea (j:=4) f hm (by decide)];rfl
 ·rw[ea (j:=0) f hm (by decide),ea (j:=1) f hm (by decide),ea (j:=2) f hm (by decide),ea (j:=3) f hm (by decide)];rfl
theorem O9(f:Nat->Bool)(i:Nat)(hi:i<320):Cr Tryz.prog 131 [.ptr 1000000 0,.d (i64 i)] [(1000000,.box (.dd (cp f)))] fun v h'=>v = .d (.tup [])/\h' = [(1000000,.box (.dd (cp (kD f i))))]:=by
 intro σ Y s;refine ek mixed ao Tryz.func131 rfl (ft:=BO) (args:=[.ptr 1000000 0,.d (i64 i)]) (show uQ BO Tryz.f131 2=true from by decide +kernel) ?_;conv=>whnf
 have hk:i/64=0\/i/64=1\/i/64=2\/i/64=3\/i/64=4:=by omega
 have h1:(i:Int).tdiv 64=((i/64:Nat):Int):=by simp[Int.tdiv_eq_ediv_of_nonneg]
 generalize hm:i/64=k at h1 hk;have hs:=zO (f:=f) hm hk;refine aK ((k:Nat):Int) h1 (wrap_i64 (by omega)) ?_;rcases hk with rfl|rfl|rfl|rfl|rfl;all_goals
  conv=>whnf
  refine aK ((2^(i%64):Nat):Int) (FM i) (qz (xZ (uu (Nat.mod_lt _ (by decide))))) ?_;conv=>whnf
  rw[B8 f i _ hm];refine bY [] [] [(1000000,.box (.dd ([] ++cp (kD f i))))] rfl ⟨?_,trivial⟩ rfl ⟨⟨rfl,rfl⟩,rfl⟩;rw[hs];rfl
theorem Lb(m:bQ)(f:Nat->Bool)(i:Nat)(hi:i<320):Cr Tryz.prog 131 [.ptr 1000000 9,.d (i64 i)] [(1000000,.box (.dd (m.cells++cp f)))] fun v h'=>v = .d (.tup [])/\h' = [(1000000,.box (.dd (m.cells++cp (kD f i))))]:=by
 intro σ Y s;refine ek mixed ao Tryz.func131 rfl (ft:=BO) (args:=[.ptr 1000000 9,.d (i64 i)]) (show uQ BO Tryz.f131 2=true from by decide +kernel) ?_;conv=>whnf
 have hk:i/64=0\/i/64=1\/i/64=2\/i/64=3\/i/64=4:=by omega
 have h1:(i:Int).tdiv 64=((i/64:Nat):Int):=by simp[Int.tdiv_eq_ediv_of_nonneg]
 generalize hm:i/64=k at h1 hk;have hs:=zO (f:=f) hm hk;refine aK ((k:Nat):Int) h1 (wrap_i64 (by omega)) ?_;rcases hk with rfl|rfl|rfl|rfl|rfl;all_goals
  conv=>whnf
  refine aK ((2^(i%64):Nat):Int) (FM i) (qz (xZ (uu (Nat.mod_lt _ (by decide))))) ?_;conv=>whnf
  rw[B8 f i _ hm];refine bY [] [] [(1000000,.box (.dd (m.cells ++cp (kD f i))))] rfl ⟨?_,trivial⟩ rfl ⟨⟨rfl,rfl⟩,rfl⟩;rw[hs];rfl
def A0(f:Nat->Bool):List (Nat×Pt)->Nat->Bool
 | []=>f
 | x::r=>A0 (kD f x.1) r
theorem zA:∀ (l:List Pt) (n:Nat) (f:Nat->Bool) (j:Nat),A0 f (eA n l) j=(f j||(decide (n<=j)&&decide (j<n+l.length)))
 | [],n,f,j=>by
  have:¬ (n<=j/\j<n+0):=by omega
  show f j=_;simp;omega
 | p::r,n,f,j=>by
  rw[eA,A0,zA r (n+1)];unfold kD;simp only[List.length_cons];by_cases h1:j=n
  ·subst h1;simp
  ·by_cases h2:n+1<=j
   ·have:n<=j:=by omega
    simp[h1,h2,this]
    congr 1
    exact decide_eq_decide.2 (by omega)
   ·have:¬ n<=j:=by omega
    simp[h1,h2,this]
theorem Fy(m:bQ):A0 (fun _=>false) (eA 0 (bf m.anchor))=dW m:=by
 funext j
 rw[zA];unfold dW;simp
theorem j8:∀ {l:List Pt} {n:Nat} {x:Nat×Pt},x∈eA n l->n<=x.1/\x.1<n+l.length/\x.2∈l
 | [],n,x,h=>by cases h
 | p::r,n,x,h=>by
  rw[eA]at h;rcases List.mem_cons.1 h with rfl|h
  ·simp
  ·have:=j8 h
   simp only[List.length_cons,List.mem_cons];exact⟨by omega,by omega,.inr this.2.2⟩
def Cq:List D:=[.int .u64 0,.int .u64 0,.int .u64 0,.int .u64 0,.int .u64 0]
theorem I7:cp (fun _=>false)=Cq:=by
 have h:∀ k,bj (fun _=>false) k=0:=fun k=>s6.2 fun _ _=>rfl;unfold cp;simp only[h];rfl
def Gd:List D:=[.nils,.nils,i64 0,i64 0,i64 0,i64 0,i64 0,i64 0,i64 0]
set_option maxHeartbeats 1000000 in
theorem Ph(m:bQ)(hm:jr m):aW Tryz.prog 87 [m.d] (.agg (m.cells++cp (dW m))):=by
 refine aA Tryz.func87 rfl (ft:=Sj) 1 fun {σ} Y st=>?_;conv=>whnf
 refine ae (Ds m.anchor) rfl rfl ?_;conv=>whnf
 have hlen:=et hm.box;have hw:∀ x∈eA 0 (bf m.anchor),x.1<320:=fun x hx=>by have:=j8 hx;omega
 refine fI.wk (Wk.sub (e':=[(2,.ptr 2 0),(3,.ptr 3 0),(9,.d (.clo 103 [.ref m.anchor.cells]))]) (h':=[(3,.box (.dd (m.cells++cp fun _=>false))),(2,.box (.dd (Gd++Cq)))]) ⟨rfl,rfl,rfl,trivial⟩ ⟨by rw[I7];rfl,rfl,trivial⟩) ?_;refine cO ao (by exact ah mixed ao (by decide +kernel)) (by exact ah mixed ao (by decide +kernel)) rfl 1500000 1600000 [3,2] (jm m.anchor hm.box)
  (fun(f:Nat->Bool)=>([(1500000,.box (.dd (m.cells++cp f))),(1500001,.box (.dd (Gd++Cq)))],st))
  (fun rest f=>dW m=A0 f rest /\ ∀ x∈rest,x.1<320) (fun _=>false) rfl rfl rfl ⟨(Fy m).symm,hw⟩ ?_ ?_
 ·rintro ⟨i,p⟩ rest f ⟨hk,hl⟩ Q Ab NP
  refine⟨⟨rfl,rfl⟩,?_⟩;have hi:i<320:=hl (i,p) (by simp);rw[A0]at hk;simp only at hk;conv=>whnf
  refine jn (Lb m f i hi) [1500000] rfl ⟨_,_,rfl,rfl,rfl⟩ rfl ?_;conv=>whnf
  exact⟨kD f i,av,rfl,Ab _ ⟨hk,fun x hx=>hl x (by simp[hx])⟩⟩
 ·rintro f ⟨hk,_⟩
  rw[A0]at hk;rw[hk];conv=>whnf
  exact af
def tE(m:bQ)(x:bO):(Nat->Bool)->List (Nat×Pt)->Nat->Bool
 | f,[]=>f
 | f,y::r=>tE m x (if (bf x.box).any (gl m x y.2) then kD f y.1 else f) r
theorem vN(m:bQ)(x:bO):∀ (l:List Pt) (n:Nat) (f:Nat->Bool) (j:Nat),tE m x f (eA n l) j=(f j||(decide (n<=j)&&match l[j-n]? with
  | some a=>(bf x.box).any (gl m x a)
  | none=>false))
 | [],n,f,j=>by
  show f j=_;simp
 | p::r,n,f,j=>by
  rw[eA,tE,vN m x r (n+1)];simp only;by_cases h1:j=n
  ·subst h1
   cases h2:(bf x.box).any (gl m x p)<;>simp[kD,h2]
   omega
  ·have h3:(if (bf x.box).any (gl m x p)=true then kD f n else f) j=f j:=by
    split
    ·unfold kD;simp[h1]
    ·rfl
   rw[h3]
   congr 1
   by_cases h2:n+1<=j
   ·obtain⟨k,rfl⟩:∃ k,j=n+1+k:=⟨j-(n+1),by omega⟩
    rw[show n+1+k-n=k+1 by omega,show n+1+k-(n+1)=k by omega,decide_eq_true h2,decide_eq_true (show n<=n+1+k by omega)];rfl
   ·rw[decide_eq_false h2,decide_eq_false (show ¬ n<=j by omega)]
    rfl
theorem CQ(m:bQ)(x:bO):tE m x (fun _=>false) (eA 0 (bf m.anchor))=pT m x:=by
 funext j
 rw[vN];unfold pT;simp;all_goals rfl
theorem Bx(P:Pt->Bool):∀ (l:List Pt) (n:Nat),(eA n l).any (fun y=>P y.2)=l.any P
 | [],n=>rfl
 | p::r,n=>by rw[eA,List.any_cons,List.any_cons,Bx P r (n+1)]
set_option maxHeartbeats 2000000 in
theorem O4(m:bQ)(hm:jr m)(x:bO)(hx:nP x)(g:Nat->Bool):aW Tryz.prog 102 [.agg (m.cells++cp g),x.d] (ln (pT m x)):=by
 refine aA Tryz.func102 rfl (ft:=MK) 2 fun {σ} Y st=>?_;conv=>whnf
 refine ae (Ds m.anchor) rfl rfl ?_;conv=>whnf
 have hlen:=et hm.box;have hw:∀ y∈eA 0 (bf m.anchor),y.1<320/\eE 9000 y.2:=fun y hy=>by
  have:=j8 hy;exact⟨by omega,e7 hm.box this.2.2⟩
 have IY:∀ y∈eA 0 (bf x.box),eE 9000 y.2:=fun y hy=>e7 hx.box (j8 hy).2.2;refine fI.wk (Wk.sub (e':=[(2,.ptr 2 0),(3,.ptr 3 0),(4,.ptr 4 0),(12,.d (.clo 103 [.ref m.anchor.cells]))]) (h':=[(2,.box (.dd (m.cells++cp g))),(3,.box (.dd x.cells)),(4,.box (.dd (cp fun _=>false)))]) ⟨rfl,rfl,rfl,rfl,trivial⟩ ⟨rfl,rfl,by rw[I7];rfl,trivial⟩) ?_;refine cO ao (by exact ah mixed ao (by decide +kernel)) (by exact ah mixed ao (by decide +kernel)) rfl 1500000 1600000 [2,3,4] (jm m.anchor hm.box)
  (fun(f:Nat->Bool)=>([(1500000,.box (.dd (m.cells++cp g))),(1500001,.box (.dd x.cells)),(1500002,.box (.dd (cp f)))],st))
  (fun rest f=>pT m x=tE m x f rest /\ ∀ y∈rest,y.1<320/\eE 9000 y.2) (fun _=>false) rfl rfl rfl ⟨(CQ m x).symm,hw⟩ ?_ ?_
 ·rintro ⟨i,a⟩ rest f ⟨hk,hl⟩ Q Ab NP
  refine⟨⟨rfl,rfl⟩,?_⟩;obtain⟨hi,ha⟩:=hl (i,a) (by simp);simp only at hi ha;rw[tE]at hk;simp only at hk;have UY:∀ y∈rest,y.1<320/\eE 9000 y.2:=fun y hy=>hl y (by simp[hy]);clear hl NP;conv=>whnf
  refine ae (Ds x.box) rfl rfl ?_;conv=>whnf
  refine fI.wk (Wk.sub (e':=[(2,.ptr 1500000 0),(3,.ptr 1500001 0),(4,.ptr 1500002 0),(5,.ptr 5 0),(6,.ptr 6 0),(17,.d (.clo 103 [.ref x.box.cells]))]) (h':=[(1500000,.box (.dd (m.cells++cp g))),(1500001,.box (.dd x.cells)),(1500002,.box (.dd (cp f))),(5,.box (.dd [i64 i])),(6,.box (.dd a.cells))]) ⟨rfl,rfl,rfl,rfl,rfl,rfl,trivial⟩ ⟨rfl,rfl,rfl,rfl,rfl,trivial⟩) ?_;refine cO ao (by exact ah mixed ao (by decide +kernel)) (by exact ah mixed ao (by decide +kernel)) rfl 1700000 1800000 [5,6] (jm x.box hx.box)
   (fun(_:Unit)=>([(1500000,.box (.dd (m.cells++cp g))),(1500001,.box (.dd x.cells)),(1500002,.box (.dd (cp f))),(1700000,.box (.dd [i64 i])),(1700001,.box (.dd a.cells))],st))
   (fun rT _=>(bf x.box).any (gl m x a)=rT.any (fun y=>gl m x a y.2) /\ ∀ y∈rT,eE 9000 y.2) () rfl rfl rfl ⟨(Bx _ _ _).symm,IY⟩ ?_ ?_
  ·rintro ⟨j,p⟩ rT _ ⟨eW,iF⟩ Q' GU JX
   refine⟨⟨rfl,rfl⟩,?_⟩;have hp:=iF (j,p) (by simp);simp only at hp;rw[List.any_cons]at eW;simp only at eW;conv=>whnf
   refine ag (ds:=[.agg (m.cells++cp g),x.d,a.d,p.d]) (Le m g x a p hm hx (ha.mono (by decide)) (hp.mono (by decide))) rfl 1 rfl ?_;conv=>whnf
   cases hL:gl m x a p with
   | true=>
    rw[hL]at eW;conv=>whnf
    refine jn (O9 f i hi) [1500002] rfl ⟨_,_,rfl,rfl,rfl⟩ rfl ?_;conv=>whnf
    have ji:(bf x.box).any (gl m x a)=true:=eW;rw[ji,if_pos rfl]at hk;refine⟨[(1500000,.box (.dd (m.cells++cp g))),(1500001,.box (.dd x.cells)),(1500002,.box (.dd (cp (kD f i)))),(1700000,.box (.dd [i64 i])),(1700001,.box (.dd a.cells))],st,av,rfl,JX _ _ _ ?_⟩;conv=>whnf
    exact⟨kD f i,av,rfl,Ab _ ⟨hk,UY⟩⟩
   | false=>
    rw[hL]at eW;conv=>whnf
    exact⟨(),av,rfl,GU _ ⟨eW,fun y hy=>iF y (by simp[hy])⟩⟩
  ·rintro _ ⟨eW,_⟩
   rw[eW,List.any_nil,if_neg (by decide)]at hk;conv=>whnf
   exact⟨f,av,rfl,Ab _ ⟨hk,UY⟩⟩
 ·rintro f ⟨hk,_⟩
  rw[tE]at hk;rw[hk];conv=>whnf
  exact af
def oe(m:bQ)(x:bO)(a p:Pt):Int:=if (ix m [x]).2=0 then (if (bc a.x (-9000) 9000&&bc a.y (-9000) 9000)&&(bc p.x (-9000) 9000&&bc p.y (-9000) 9000) then 0 else 7) else (ix m [x]).2
def qa(m:bQ)(x:bO)(a p:Pt):Bool:=if oe m x a p=0 then gl m x a p else false
theorem Pc(m:bQ)(x:bO)(a p:Pt):aW Tryz.prog 42 [m.d,x.d,a.d,p.d] (.tup [.bool (qa m x a p),i64 (oe m x a p)]):=by
 refine aA Tryz.func42 rfl (ft:=RC) 4 fun {σ} Y st=>?_;conv=>whnf
 refine ag (ds:=[m.d,bG [x]]) (Ld m [x]) rfl 1 rfl ?_;conv=>whnf
 by_cases h0:(ix m [x]).2=0;case neg=>
  have he:oe m x a p=(ix m [x]).2:=by unfold oe;rw[if_neg h0]
  have hv:qa m x a p=false:=by unfold qa;rw[he,if_neg h0]
  rw[he,hv];refine ai (fun _=>?_) (fun h1=>absurd h1 (by simp[h0]));conv=>whnf
  exact af
 have hR:=ij h0;refine ai (fun h1=>absurd h1 (by simp[h0])) (fun _=>?_);conv=>whnf
 refine ag (BH (-9000) 9000 a.x a.y p.x p.y) rfl 1 rfl ?_;conv=>whnf
 cases h1:(bc a.x (-9000) 9000&&bc a.y (-9000) 9000)&&(bc p.x (-9000) 9000&&bc p.y (-9000) 9000) with
 | false=>
  have he:oe m x a p=7:=by unfold oe;rw[if_pos h0,h1];rfl
  have hv:qa m x a p=false:=by unfold qa;rw[he];rfl
  rw[he,hv];conv=>whnf
  exact af
 | true=>
  have he:oe m x a p=0:=by unfold oe;rw[if_pos h0,h1];rfl
  have hv:qa m x a p=gl m x a p:=by unfold qa;rw[he];rfl
  rw[he,hv];simp only[Bool.and_eq_true,bg]at h1;conv=>whnf
  refine aj (ds:=[m.d]) (Ph m hR.sj) rfl rfl ?_;conv=>whnf
  refine aq (ds:=[.agg (m.cells++cp (dW m)),x.d,a.d,p.d]) (Le m (dW m) x a p hR.sj (hR.look x (by simp)) ⟨by omega,by omega⟩ ⟨by omega,by omega⟩) rfl 1 rfl ?_;conv=>whnf
  exact af
def dh(m:bQ)(l:List bO):List (Nat->Bool):=l.map (pT m)
def iD(l:List (Nat->Bool)):D:=.vs (l.map cp)
theorem FV(m:bQ)(l:List bO)(h:(ix m l).2=0):aW Tryz.prog 60 [m.d,bG l] (.tup [.agg (m.cells++cp (dW m)),iD (dh m l),i64 0]):=by
 refine aA Tryz.func60 rfl (ft:=RW) 2 fun {σ} Y st=>?_;conv=>whnf
 have hR:=ij h;refine ag (ds:=[m.d,bG l]) (Ld m l) rfl 1 rfl ?_;conv=>whnf
 refine ai (fun h1=>absurd h1 (by simp[h])) (fun _=>?_);rw[h];conv=>whnf
 refine ae (ds:=[m.d]) (Ph m hR.sj) rfl rfl ?_;conv=>whnf
 have Gk:=hR.len;generalize hH:dh m l=H;refine aZ (T:=tys) ao (by exact ah mixed ao (by decide +kernel)) l (fun i (acc:List (Nat->Bool))=>⟨[(4,.ptr 4 0),(5,.sl 32 5 0 acc.length),(6,.d (i64 0)),(21,.d (bG l)),(22,.d (i64 (l.map bO.cells).length)),(23,.d (i64 i))],[(32,.arr 5 (.dd (acc.map cp))),(4,.box (.dd (m.cells++cp (dW m))))],st⟩) (fun i r acc=>acc.length=i/\H=acc++dh m r) [] ((Wk.born 5 32 5 rfl rfl rfl).trans av) ⟨rfl,hH.symm⟩ ?_ ?_
 ·rintro i x r acc Gq hi hr ⟨BQ,hk⟩
  have hk:H=(acc ++ [pT m x])++dh m r:=by rw[hk];simp[dh]
  conv=>whnf
  refine ai (fun _=>?_) (fun h=>absurd hi (by simpa using h));conv=>whnf
  refine ax Gq ?_;conv=>whnf
  refine ae (ds:=[.agg (m.cells++cp (dW m)),x.d]) (O4 m hR.sj x (hR.look x (List.mem_of_getElem? Gq)) (dW m)) rfl rfl ?_;conv=>whnf
  refine aL rfl ?_;conv=>whnf
  refine aL (by simp[aI.len]) ?_;conv=>whnf
  refine bo (decide_eq_true (by
   show((acc.map cp).length+1)*40<=140737488355328;rw[List.length_map];omega)) ?_
  conv=>whnf
  refine ab ?_;conv=>whnf
  exact⟨acc ++ [pT m x],⟨by simp;omega,hk⟩,Wk.sub ⟨rfl,congrArg (fun z:Nat=>some (V.sl 32 5 0 z)) (by simp[aI.len]),rfl,rfl,rfl,rfl,trivial⟩ ⟨congrArg (fun z=>some (Obj.arr 5 (.dd z))) (by simp),rfl,trivial⟩⟩
 ·rintro acc ⟨BQ,hk⟩
  have hk:H=acc:=by rw[hk];simp[dh]
  rw[hk];conv=>whnf
  refine ai (fun h=>absurd h (by simp)) (fun _=>?_);conv=>whnf
  refine al 1 (ds:=[.agg (m.cells++cp (dW m)),iD acc,i64 0]) ?_ ⟨⟨rfl,rfl⟩,rfl⟩;exact aF rfl (aF (bR rfl (by simp)) rfl)
theorem Pf(s:Nat->Bool)(l:List (Nat->Bool))(hl:l.length<=8):aW Tryz.prog 62 [ln s,iD l] (ln (mn s l)):=by
 refine aA Tryz.func62 rfl (ft:=RY) 2 fun {σ} Y st=>?_;conv=>whnf
 refine aZ (T:=tys) ao (by exact ah mixed ao (by decide +kernel)) l (fun i (f:Nat->Bool)=>⟨[(2,.ptr 2 0),(4,.ptr 4 0),(8,.d (iD l)),(9,.d (i64 (l.map cp).length)),(10,.d (i64 i))],[(2,.box (.dd (cp f))),(4,.box (.dd Cq))],st⟩) (fun i r f=>mn s l=mn f r) s av rfl ?_ ?_
 ·rintro i g r f Gq hi hr he
  rw[mn]at he;conv=>whnf
  refine ai (fun _=>?_) (fun h=>absurd hi (by simpa using h));conv=>whnf
  refine ax Gq ?_;conv=>whnf
  refine ae (ds:=[ln f,ln g]) (Ie f g) rfl rfl ?_;conv=>whnf
  refine ab ?_;conv=>whnf
  exact⟨iT f g,he,av⟩
 ·rintro f he
  rw[mn]at he;rw[he];conv=>whnf
  refine ai (fun h=>absurd h (by simp)) (fun _=>?_);conv=>whnf
  exact af
theorem mZ:∀ (l:List Pt) (n:Nat),(eA n l).length=l.length
 | [],n=>rfl
 | p::r,n=>by rw[eA,List.length_cons,List.length_cons,mZ r (n+1)]
def fM(f:Nat->Bool):Bool:=(List.range 320).all fun j=>!f j
theorem lz(f:Nat->Bool)(k:Nat):decide (((bj f k:Nat):Int)=0)=(List.range 64).all fun j=>!f (64*k+j):=by
 rw[Bool.eq_iff_iff,decide_eq_true_iff,List.all_eq_true];have h:=s6 (f:=fun j=>f (64*k+j)) (n:=64);constructor
 ·intro h1 j hj
  have h1:bj f k=0:=by omega
  rw[h.1 h1 j (List.mem_range.1 hj)];rfl
 ·intro h1
  have:bj f k=0:=h.2 fun j hj=>by simpa using h1 j (List.mem_range.2 hj)
  omega
theorem empty_eq(f:Nat->Bool):(decide (((bj f 0:Nat):Int)=0)&&(decide (((bj f 1:Nat):Int)=0)&&(decide (((bj f 2:Nat):Int)=0)&&(decide (((bj f 3:Nat):Int)=0)&&(decide (((bj f 4:Nat):Int)=0)&&true)))))=fM f:=by
 rw[lz,lz,lz,lz,lz];unfold fM;rw[Bool.eq_iff_iff];simp only[Bool.and_eq_true,List.all_eq_true,List.mem_range,and_true];constructor
 ·rintro ⟨h0,h1,h2,h3,h4⟩ j hj
  rcases (show j<64\/(64<=j/\j<128)\/(128<=j/\j<192)\/(192<=j/\j<256)\/256<=j by omega) with h|h|h|h|h
  ·have:=h0 j h;rwa [show 64*0+j=j by omega]at this
  ·have:=h1 (j-64) (by omega);rwa [show 64*1+(j-64)=j by omega]at this
  ·have:=h2 (j-128) (by omega);rwa [show 64*2+(j-128)=j by omega]at this
  ·have:=h3 (j-192) (by omega);rwa [show 64*3+(j-192)=j by omega]at this
  ·have:=h4 (j-256) (by omega);rwa [show 64*4+(j-256)=j by omega]at this
 ·intro h
  exact⟨fun j hj=>h _ (by omega),fun j hj=>h _ (by omega),fun j hj=>h _ (by omega),fun j hj=>h _ (by omega),fun j hj=>h _ (by omega)⟩
def kR:(Nat->Bool)->Int->List (Nat->Bool)->Int×Int
 | _,_,[]=>(0,4)
 | s,i,g::r=>if fM (iT s g) then (i,0) else kR (iT s g) (i+1) r
theorem H7(m:bQ)(l:List bO)(h:(ix m l).2=0):aW Tryz.prog 14 [m.d,bG l] (.tup [i64 (kR (dW m) 0 (dh m l)).1,i64 (kR (dW m) 0 (dh m l)).2]):=by
 refine aA Tryz.func14 rfl (ft:=Q9) 2 fun {σ} Y st=>?_;conv=>whnf
 have hR:=ij h;have Gk:=hR.len;refine ae (ds:=[m.d,bG l]) (FV m l h) rfl rfl ?_;conv=>whnf
 have DF:(dh m l).length<=8:=by simp[dh];omega
 generalize dh m l=H at DF ⊢;refine aZ (T:=tys) ao (by exact ah mixed ao (by decide +kernel)) H (fun i (f:Nat->Bool)=>⟨[(9,.ptr 9 0),(24,.d (iD H)),(25,.d (i64 (H.map cp).length)),(26,.d (i64 i))],[(9,.box (.dd (cp f)))],st⟩) (fun i r f=>kR (dW m) 0 H=kR f i r) (dW m) av rfl ?_ ?_
 ·rintro i g r f Gq hi hr he
  rw[kR]at he;conv=>whnf
  refine ai (fun _=>?_) (fun h=>absurd hi (by simpa using h));conv=>whnf
  refine ax Gq ?_;conv=>whnf
  refine ae (ds:=[ln f,ln g]) (Ie f g) rfl rfl ?_;conv=>whnf
  rw[empty_eq]
  cases hE:fM (iT f g) with
  | true=>
   rw[hE]at he;rw[he];conv=>whnf
   exact af
  | false=>
   rw[hE]at he;conv=>whnf
   refine ab ?_;conv=>whnf
   exact⟨iT f g,he,av⟩
 ·rintro f he
  rw[kR]at he;rw[he];conv=>whnf
  refine ai (fun h=>absurd h (by simp)) (fun _=>?_);conv=>whnf
  exact af
def r6(s:Nat->Bool)(l:List (Nat×Pt)):List Pt:=(l.filter fun y=>s y.1).map (·.2)
def fB(m:bQ)(l:List bO):List Pt:=r6 (mn (dW m) (dh m l)) (eA 0 (bf m.anchor))
theorem Lc(m:bQ)(l:List bO)(h:(ix m l).2=0):aW Tryz.prog 15 [m.d,bG l] (.tup [e8 (fB m l),i64 0]):=by
 refine aA Tryz.func15 rfl (ft:=Ra) 2 fun {σ} Y st=>?_;conv=>whnf
 have hR:=ij h;have Gk:=hR.len;refine ae (ds:=[m.d,bG l]) (FV m l h) rfl rfl ?_;conv=>whnf
 have DF:(dh m l).length<=8:=by simp[dh];omega
 unfold fB;generalize dh m l=H at DF ⊢;refine ae (ds:=[ln (dW m),iD H]) (Pf (dW m) H DF) rfl rfl ?_;generalize mn (dW m) H=S;conv=>whnf
 refine ae (Ds m.anchor) rfl rfl ?_;conv=>whnf
 have hlen:=et hR.sj.box;have hw:∀ x∈eA 0 (bf m.anchor),x.1<320:=fun x hx=>by have:=j8 hx;omega
 refine fI.wk ((Wk.pA 4 36 2 rfl rfl rfl rfl).trans (Wk.sub (e':=[(4,.ptr 4 0),(8,.ptr 8 0),(27,.d (.clo 103 [.ref m.anchor.cells]))]) (h':=[(36,.arr 2 (.dd [])),(4,.box (.vv [.sl 36 2 0 0])),(8,.box (.dd (cp S)))]) ⟨rfl,rfl,rfl,trivial⟩ ⟨rfl,rfl,rfl,trivial⟩)) ?_;have iZ:(eA 0 (bf m.anchor)).length<=289:=by rw[mZ];exact hlen
 generalize hA:r6 S (eA 0 (bf m.anchor))=A;refine cO ao (by exact ah mixed ao (by decide +kernel)) (by exact ah mixed ao (by decide +kernel)) rfl 1500000 1600000 [4,8] (jm m.anchor hR.sj.box)
  (fun(acc:List Pt)=>([(36,.arr 2 (.dd (acc.map Pt.cells))),(1500000,.box (.vv [.sl 36 2 0 acc.length])),(1500001,.box (.dd (cp S)))],st))
  (fun rest acc=>A=acc++r6 S rest/\acc.length+rest.length<=289 /\ ∀ x∈rest,x.1<320) [] rfl rfl rfl ⟨hA.symm,by simpa using iZ,hw⟩ ?_ ?_
 ·rintro ⟨i,p⟩ rest acc ⟨hk,BQ,hl⟩ Q Ab -
  refine⟨⟨rfl,rfl⟩,?_⟩;have hi:i<320:=hl (i,p) (by simp);have BQ:acc.length+rest.length+1<=289:=by simp only[List.length_cons]at BQ;omega
  conv=>whnf
  refine ae (ds:=[ln S,i64 i]) (Pg S i hi) rfl rfl ?_;conv=>whnf
  cases hS:S i with
  | false=>
   have hk:A=acc++r6 S rest:=by rw[hk];simp[r6,hS]
   conv=>whnf
   exact⟨acc,av,rfl,Ab _ ⟨hk,by omega,fun x hx=>hl x (by simp[hx])⟩⟩
  | true=>
   have hk:A=(acc ++ [p])++r6 S rest:=by rw[hk];simp[r6,hS]
   conv=>whnf
   refine aL rfl ?_;conv=>whnf
   refine aL (by simp[aI.len]) ?_;conv=>whnf
   refine bo (decide_eq_true (by
    show((acc.map Pt.cells).length+1)*16<=140737488355328;rw[List.length_map];omega)) ?_
   conv=>whnf
   exact⟨acc ++ [p],Wk.sub trivial ⟨congrArg (fun z=>some (Obj.arr 2 (.dd z))) (by simp;rfl),congrArg (fun z:Nat=>some (Obj.box (.vv [V.sl 36 2 0 z]))) (by simp[aI.len]),rfl,trivial⟩,rfl,Ab _ ⟨hk,by simp;omega,fun x hx=>hl x (by simp[hx])⟩⟩
 ·rintro acc ⟨hk,_,_⟩
  have hk:A=acc:=by rw[hk];simp[r6]
  rw[hk];conv=>whnf
  refine al 1 (ds:=[e8 acc,i64 0]) ?_ ⟨⟨rfl,rfl⟩,rfl⟩;exact aF (bR rfl (by simp)) rfl
def Ea(m:bQ)(x:bO)(s:Nat->Bool)(p:Pt):Bool:=(eA 0 (bf m.anchor)).any fun y=>s y.1&&gl m x y.2 p
def Cb(m:bQ)(l:List bO):Nat->Bool:=mn (dW m) (dh m l)
def m8(m:bQ)(l:List bO)(x:bO):List Pt:=if fM (Cb m l) then [] else (bf x.box).filter (Ea m x (Cb m l))
def uo(m:bQ)(l:List bO):Int:=if fM (Cb m l) then 9 else 0
theorem map_snd:∀ (l:List Pt) (n:Nat),(eA n l).map (·.2)=l
 | [],n=>rfl
 | p::r,n=>by rw[eA,List.map_cons,map_snd r (n+1)]
set_option maxHeartbeats 4000000 in
theorem Pd(m:bQ)(l:List bO)(x:bO)(h:(ix m l).2=0)(hx:(ix m [x]).2=0):aW Tryz.prog 45 [m.d,bG l,x.d] (.tup [e8 (m8 m l x),i64 (uo m l)]):=by
 refine aA Tryz.func45 rfl (ft:=RF) 3 fun {σ} Y st=>?_;conv=>whnf
 have hR:=ij h;have Gk:=hR.len;have KM:=(ij hx).look x (by simp);refine ae (ds:=[m.d,bG l]) (FV m l h) rfl rfl ?_;conv=>whnf
 refine ag (ds:=[m.d,bG [x]]) (Ld m [x]) rfl 1 rfl ?_;conv=>whnf
 refine ai (fun h1=>absurd h1 (by simp[hx])) (fun _=>?_);rw[hx];conv=>whnf
 have DF:(dh m l).length<=8:=by simp[dh];omega
 unfold m8 uo Cb;generalize dh m l=H at DF ⊢;refine ae (ds:=[ln (dW m),iD H]) (Pf (dW m) H DF) rfl rfl ?_;generalize mn (dW m) H=S;conv=>whnf
 rw[empty_eq]
 cases hE:fM S with
 | true=>
  conv=>whnf
  exact lE 0 rfl rfl ⟨⟨rfl,rfl⟩,rfl⟩
 | false=>
 rw[if_neg (by decide),if_neg (by decide)];conv=>whnf
 refine ae (Ds x.box) rfl rfl ?_;conv=>whnf
 have hlen:=et KM.box;have hw:∀ y∈eA 0 (bf x.box),eE 9000 y.2:=fun y hy=>e7 KM.box (j8 hy).2.2;have IY:∀ y∈eA 0 (bf m.anchor),y.1<320/\eE 9000 y.2:=fun y hy=>by
  have:=j8 hy;have:=et hR.sj.box;exact⟨by omega,e7 hR.sj.box (j8 hy).2.2⟩
 refine fI.wk ((Wk.pA 6 65 2 rfl rfl rfl rfl).trans (Wk.sub (e':=[(3,.ptr 3 0),(5,.ptr 5 0),(6,.ptr 6 0),(8,.ptr 8 0),(10,.ptr 10 0),(44,.d (.clo 103 [.ref x.box.cells]))]) (h':=[(65,.arr 2 (.dd [])),(3,.box (.dd m.cells)),(5,.box (.dd x.cells)),(6,.box (.vv [.sl 65 2 0 0])),(8,.box (.dd (m.cells++cp (dW m)))),(10,.box (.dd (cp S)))]) ⟨rfl,rfl,rfl,rfl,rfl,rfl,trivial⟩ ⟨rfl,rfl,rfl,rfl,rfl,rfl,trivial⟩)) ?_;have iZ:(eA 0 (bf x.box)).length<=289:=by rw[mZ];exact hlen
 generalize hA:(bf x.box).filter (Ea m x S)=A;refine cO ao (by exact ah mixed ao (by decide +kernel)) (by exact ah mixed ao (by decide +kernel)) rfl 1500000 1600000 [3,5,6,8,10] (jm x.box KM.box)
  (fun(acc:List Pt)=>([(65,.arr 2 (.dd (acc.map Pt.cells))),(1500000,.box (.dd m.cells)),(1500001,.box (.dd x.cells)),(1500002,.box (.vv [.sl 65 2 0 acc.length])),(1500003,.box (.dd (m.cells++cp (dW m)))),(1500004,.box (.dd (cp S)))],st))
  (fun rest acc=>A=acc++(rest.map (·.2)).filter (Ea m x S)/\acc.length+rest.length<=289 /\ ∀ y∈rest,eE 9000 y.2) [] rfl rfl rfl ⟨by rw[map_snd];exact hA.symm,by simpa using iZ,hw⟩ ?_ ?_
 ·rintro ⟨i,p⟩ rest acc ⟨hk,BQ,hl⟩ Q Ab -
  refine⟨⟨rfl,rfl⟩,?_⟩;have hp:eE 9000 p:=hl (i,p) (by simp);have gf:∀ y∈rest,eE 9000 y.2:=fun y hy=>hl y (by simp[hy]);have BQ:acc.length+rest.length+1<=289:=by simp only[List.length_cons]at BQ;omega
  rw[List.map_cons,List.filter_cons]at hk;simp only at hk;clear hl;conv=>whnf
  refine ae (Ds m.anchor) rfl rfl ?_;conv=>whnf
  refine fI.wk (Wk.sub (e':=[(3,.ptr 1500000 0),(5,.ptr 1500001 0),(6,.ptr 1500002 0),(8,.ptr 1500003 0),(10,.ptr 1500004 0),(12,.ptr 12 0),(49,.d (.clo 103 [.ref m.anchor.cells]))]) (h':=[(65,.arr 2 (.dd (acc.map Pt.cells))),(1500000,.box (.dd m.cells)),(1500001,.box (.dd x.cells)),(1500002,.box (.vv [.sl 65 2 0 acc.length])),(1500003,.box (.dd (m.cells++cp (dW m)))),(1500004,.box (.dd (cp S))),(12,.box (.dd p.cells))]) ⟨rfl,rfl,rfl,rfl,rfl,rfl,rfl,trivial⟩ ⟨rfl,rfl,rfl,rfl,rfl,rfl,rfl,trivial⟩) ?_;refine cO ao (by exact ah mixed ao (by decide +kernel)) (by exact ah mixed ao (by decide +kernel)) rfl 1700000 1800000 [12] (jm m.anchor hR.sj.box)
   (fun(_:Unit)=>([(65,.arr 2 (.dd (acc.map Pt.cells))),(1500000,.box (.dd m.cells)),(1500001,.box (.dd x.cells)),(1500002,.box (.vv [.sl 65 2 0 acc.length])),(1500003,.box (.dd (m.cells++cp (dW m)))),(1500004,.box (.dd (cp S))),(1700000,.box (.dd p.cells))],st))
   (fun rT _=>Ea m x S p=rT.any (fun y=>S y.1&&gl m x y.2 p) /\ ∀ y∈rT,y.1<320/\eE 9000 y.2) () rfl rfl rfl ⟨rfl,IY⟩ ?_ ?_
  ·rintro ⟨j,a⟩ rT _ ⟨eW,iF⟩ Q' GU JX
   refine⟨⟨rfl,rfl⟩,?_⟩;obtain⟨hj,ha⟩:=iF (j,a) (by simp);simp only at hj ha;rw[List.any_cons]at eW;simp only at eW;have Gj:∀ y∈rT,y.1<320/\eE 9000 y.2:=fun y hy=>iF y (by simp[hy]);conv=>whnf
   refine ae (ds:=[ln S,i64 j]) (Pg S j hj) rfl rfl ?_;conv=>whnf
   cases hS:S j with
   | false=>
    rw[hS]at eW;conv=>whnf
    exact⟨(),av,rfl,GU _ ⟨eW,Gj⟩⟩
   | true=>
    rw[hS]at eW;conv=>whnf
    refine ag (ds:=[.agg (m.cells++cp (dW m)),x.d,a.d,p.d]) (Le m (dW m) x a p hR.sj KM (ha.mono (by decide)) (hp.mono (by decide))) rfl 1 rfl ?_;conv=>whnf
    cases hL:gl m x a p with
    | false=>
     rw[hL]at eW;conv=>whnf
     exact⟨(),av,rfl,GU _ ⟨eW,Gj⟩⟩
    | true=>
     rw[hL]at eW;have ji:Ea m x S p=true:=eW;rw[ji,if_pos rfl]at hk;conv=>whnf
     refine aL rfl ?_;conv=>whnf
     refine aL (by simp[aI.len]) ?_;conv=>whnf
     refine bo (decide_eq_true (by
      show((acc.map Pt.cells).length+1)*16<=140737488355328;rw[List.length_map];omega)) ?_
     conv=>whnf
     refine⟨[(65,.arr 2 (.dd ((acc ++ [p]).map Pt.cells))),(1500000,.box (.dd m.cells)),(1500001,.box (.dd x.cells)),(1500002,.box (.vv [.sl 65 2 0 (acc ++ [p]).length])),(1500003,.box (.dd (m.cells++cp (dW m)))),(1500004,.box (.dd (cp S))),(1700000,.box (.dd p.cells))],st,Wk.sub trivial ⟨congrArg (fun z=>some (Obj.arr 2 (.dd z))) (by simp;rfl),rfl,rfl,congrArg (fun z:Nat=>some (Obj.box (.vv [V.sl 65 2 0 z]))) (by simp[aI.len]),rfl,rfl,rfl,trivial⟩,rfl,JX _ _ _ ?_⟩;conv=>whnf
     exact⟨acc ++ [p],av,rfl,Ab _ ⟨by rw[hk];simp,by simp;omega,gf⟩⟩
  ·rintro _ ⟨eW,_⟩
   rw[eW,List.any_nil,if_neg (by decide)]at hk;conv=>whnf
   exact⟨acc,av,rfl,Ab _ ⟨hk,by omega,gf⟩⟩
 ·rintro acc ⟨hk,_,_⟩
  have hk:A=acc:=by rw[hk];simp
  rw[hk];conv=>whnf
  refine al 1 (ds:=[e8 acc,i64 0]) ?_ ⟨⟨rfl,rfl⟩,rfl⟩;exact aF (bR rfl (by simp)) rfl
def An(m:bQ):List Pt->Pt×Int×Int
 | []=>(⟨0,0⟩,0,4)
 | p::r=>match KV m.iq p with
  | k::_=>(p,k,0)
  | []=>if m.mA*m.mA<zU p then (p,-1,0) else An m r
def yu(m:bQ)(l:List bO)(x:bO):Pt×Int×Int:=if uo m l=0 then An m (m8 m l x) else (⟨0,0⟩,0,uo m l)
theorem Fx{m:bQ}{l:List bO}{x:bO}{p:Pt}(h:p∈m8 m l x):p∈bf x.box:=by
 unfold m8 at h;split at h
 ·cases h
 ·exact(List.mem_filter.1 h).1
set_option maxHeartbeats 2000000 in
theorem T5(m:bQ)(l:List bO)(x:bO)(h:(ix m l).2=0)(hx:(ix m [x]).2=0):aW Tryz.prog 46 [m.d,bG l,x.d] (.tup [(yu m l x).1.d,i64 (yu m l x).2.1,i64 (yu m l x).2.2]):=by
 refine aA Tryz.func46 rfl (ft:=RG) 3 fun {σ} Y st=>?_;conv=>whnf
 have hR:=ij h;have KM:=(ij hx).look x (by simp);have u2:=hR.sj.OP;have Ko:=hR.sj.OQ;have Gl:=jQ (a:=m.mA) (k:=20000) (by omega) (by decide);refine ae (ds:=[m.d,bG l,x.d]) (Pd m l x h hx) rfl rfl ?_;conv=>whnf
 by_cases h0:uo m l=0;case neg=>
  have hd:yu m l x=(⟨0,0⟩,0,uo m l):=by unfold yu;rw[if_neg h0]
  rw[hd,decide_eq_false h0];conv=>whnf
  exact af
 have hd:yu m l x=An m (m8 m l x):=by unfold yu;rw[if_pos h0]
 rw[hd,decide_eq_true h0];conv=>whnf
 have Oq:∀ p∈m8 m l x,eE 9000 p:=fun p hp=>e7 KM.box (Fx hp);have hlen:(m8 m l x).length<=289:=by
  unfold m8;split
  ·simp
  ·exact Nat.le_trans (List.length_filter_le _ _) (et KM.box)
 generalize m8 m l x=P at Oq hlen ⊢;refine aZ (T:=tys) ao (by exact ah mixed ao (by decide +kernel)) P (fun i (_:Unit)=>⟨[(3,.ptr 3 0),(6,.ptr 6 0),(26,.d (e8 P)),(27,.d (i64 (P.map Pt.cells).length)),(28,.d (i64 i))],[(3,.box (.dd m.cells)),(6,.box (.dd [i64 0,i64 0]))],st⟩) (fun i r _=>An m P=An m r) () av rfl ?_ ?_
 ·rintro i p r _ yd hi hr he
  have hp:=Oq p (List.mem_of_getElem? yd);have s1:=jQ hp.x (by decide);have s2:=jQ hp.y (by decide);rw[An]at he;conv=>whnf
  refine ai (fun _=>?_) (fun h=>absurd hi (by simpa using h));conv=>whnf
  refine ax yd ?_;conv=>whnf
  refine ae (ds:=[m.iq.d,p.d]) (Qk m.iq p) rfl rfl ?_;conv=>whnf
  cases hB:KV m.iq p with
  | cons k t=>
   rw[hB]at he;simp only at he;rw[he];refine ai (fun _=>?_) (fun h=>absurd h (by simp));conv=>whnf
   exact af
  | nil=>
   rw[hB]at he;simp only at he;conv=>whnf
   refine ab ?_;conv=>whnf
   refine ab ?_;conv=>whnf
   refine ab ?_;conv=>whnf
   refine ab ?_;conv=>whnf
   refine ai (fun h5=>?_) (fun h5=>?_)
   ·have h5:m.mA*m.mA<zU p:=of_decide_eq_true h5
    rw[if_pos h5]at he;rw[he];conv=>whnf
    exact af
   ·have h5:¬ m.mA*m.mA<zU p:=of_decide_eq_false h5
    rw[if_neg h5]at he;conv=>whnf
    refine ab ?_;conv=>whnf
    exact⟨(),he,av⟩
 ·rintro _ he
  rw[An]at he;rw[he];conv=>whnf
  refine ai (fun h=>absurd h (by simp)) (fun _=>?_);conv=>whnf
  exact af
end Go.PX
