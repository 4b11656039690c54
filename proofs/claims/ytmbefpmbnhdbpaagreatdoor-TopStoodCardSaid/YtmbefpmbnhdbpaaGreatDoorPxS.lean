import Derived.Test.YtmbefpmbnhdbpaaGreatDoorPxR
import Derived.Test.YtmbefpmbnhdbpaaGreatDoorPxM
import Derived.Test.YtmbefpmbnhdbpaaGreatDoorPxK
set_option linter.all false
set_option maxRecDepth 10000
namespace Go.PX
open Go.Proofs
open Go.RowKit
theorem aat(x:aW):bq Tryz.prog 24 [x.d] (i64 (qO x)):=by
 obtain⟨sh,kd,wd,nm⟩:=x;refine aI mixed ak Tryz.func24 rfl (ft:=X1) 1 (by decide +kernel) (by rfl) fun {σ} Y st=>?_;conv=>whnf
 refine ai (ds:=[i64 sh,i64 0,i64 20000]) (IE sh 0 20000) rfl rfl ?_;unfold qO fP
 cases h0:fX sh 0 20000 with
 | false=>
  conv=>whnf
  exact ab 0 rfl ⟨⟨rfl,rfl⟩,rfl⟩
 | true=>
 conv=>whnf
 refine ai (ds:=[i64 kd,i64 1,i64 3]) (IE kd 1 3) rfl rfl ?_
 cases h1:fX kd 1 3 with
 | false=>
  have hk:¬ (kd=1)/\¬ (kd=2)/\¬ (kd=3):=by
   refine⟨?_,?_,?_⟩<;>rintro rfl<;>simp[fX]at h1
  conv=>whnf
  simp only[Bool.not_true,Bool.false_eq_true,if_false,if_neg hk.1,if_neg hk.2.1,if_neg hk.2.2];exact ab 0 rfl ⟨⟨rfl,rfl⟩,rfl⟩
 | true=>
 have hk:kd=1\/kd=2\/kd=3:=by
  unfold fX at h1;simp at h1;omega
 simp only[Bool.not_true,Bool.false_eq_true,if_false];conv=>whnf
 rcases hk with rfl|rfl|rfl
 ·refine af (fun hA=>?_) (fun hA=>?_)
  ·conv=>whnf
   refine ai (ds:=[.str wd]) (Di wd) rfl rfl ?_
   cases hn:eH wd with
   | false=>
    conv=>whnf
    exact ab 0 rfl ⟨⟨rfl,rfl⟩,rfl⟩
   | true=>
    conv=>whnf
    refine af (fun hB=>?_) (fun hB=>?_)
    ·have hB:¬ nm=0:=by simpa using hB
     conv=>whnf
     rw[decide_eq_false hB];exact ab 0 rfl ⟨⟨rfl,rfl⟩,rfl⟩
    ·have hB:nm=0:=by simpa using hB
     conv=>whnf
     rw[decide_eq_true hB];exact ab 0 rfl ⟨⟨rfl,rfl⟩,rfl⟩
  ·conv=>whnf
   refine ai (ds:=[.str wd]) (Di wd) rfl rfl ?_
   cases hn:eH wd with
   | false=>
    conv=>whnf
    exact ab 0 rfl ⟨⟨rfl,rfl⟩,rfl⟩
   | true=>
    conv=>whnf
    refine af (fun hB=>?_) (fun hB=>?_)
    ·have hB:¬ nm=0:=by simpa using hB
     conv=>whnf
     rw[decide_eq_false hB];exact ab 0 rfl ⟨⟨rfl,rfl⟩,rfl⟩
    ·have hB:nm=0:=by simpa using hB
     conv=>whnf
     rw[decide_eq_true hB];exact ab 0 rfl ⟨⟨rfl,rfl⟩,rfl⟩
 ·have B2:decide (wd = .empty)=decide (wd=(⟨#[]⟩:ByteArray)):=rfl
  simp only[if_neg (show ¬ (2:Int)=1 by decide),if_pos,B2];refine af (fun hA=>?_) (fun hA=>?_)
  ·rw[hA]
   conv=>whnf
   refine af (fun hB=>?_) (fun hB=>?_)
   ·have hB:¬ nm=0:=by simpa using hB
    conv=>whnf
    rw[decide_eq_false hB];exact ab 0 rfl ⟨⟨rfl,rfl⟩,rfl⟩
   ·have hB:nm=0:=by simpa using hB
    conv=>whnf
    rw[decide_eq_true hB];exact ab 0 rfl ⟨⟨rfl,rfl⟩,rfl⟩
  ·rw[hA]
   conv=>whnf
   exact ab 0 rfl ⟨⟨rfl,rfl⟩,rfl⟩
 ·simp only[if_neg (show ¬ (3:Int)=1 by decide),if_neg (show ¬ (3:Int)=2 by decide),if_pos,Bool.not_not]
  refine af (fun hA=>?_) (fun hA=>?_)
  ·conv=>whnf
   refine ai (ds:=[.str wd]) (Di wd) rfl rfl ?_
   cases hn:eH wd with
   | false=>
    conv=>whnf
    exact ab 0 rfl ⟨⟨rfl,rfl⟩,rfl⟩
   | true=>
    conv=>whnf
    refine ai (ds:=[i64 nm,i64 1,i64 99]) (IE nm 1 99) rfl rfl ?_
    cases h4:fX nm 1 99 with
    | false=>
     conv=>whnf
     exact ab 0 rfl ⟨⟨rfl,rfl⟩,rfl⟩
    | true=>
     conv=>whnf
     exact ab 0 rfl ⟨⟨rfl,rfl⟩,rfl⟩
  ·conv=>whnf
   refine ai (ds:=[.str wd]) (Di wd) rfl rfl ?_
   cases hn:eH wd with
   | false=>
    conv=>whnf
    exact ab 0 rfl ⟨⟨rfl,rfl⟩,rfl⟩
   | true=>
    conv=>whnf
    refine ai (ds:=[i64 nm,i64 1,i64 99]) (IE nm 1 99) rfl rfl ?_
    cases h4:fX nm 1 99 with
    | false=>
     conv=>whnf
     exact ab 0 rfl ⟨⟨rfl,rfl⟩,rfl⟩
    | true=>
     conv=>whnf
     exact ab 0 rfl ⟨⟨rfl,rfl⟩,rfl⟩
def gD(l:List au):List ByteArray:=l.map (·.name)
theorem Lg(pre:List au)(b:au):pP pre b=if kA b.name (gD pre)=0 then (if spread (-720) 720 [b.off,b.set] 0=0 then (if b.ar.length>8 then 3 else 0) else spread (-720) 720 [b.off,b.set] 0) else kA b.name (gD pre):=by
 have h:((gD pre).any fun y=>decide (y=b.name))=pre.any fun y=>decide (y.name=b.name):=by
  unfold gD;rw[List.any_map];rfl
 unfold pP kA spread spread spread fP;rw[h];cases eH b.name<;>cases (pre.any fun y=>decide (y.name=b.name))<;>cases fX b.off.lo (-720) 720<;>cases fX b.off.hi (-720) 720<;>cases fX b.set.lo (-720) 720<;>cases fX b.set.hi (-720) 720<;>simp
 by_cases h1:b.off.hi<b.off.lo<;>by_cases h2:b.set.hi<b.set.lo<;>simp[h1,h2]
set_option maxHeartbeats 2000000 in
theorem aag(l:aM):bq Tryz.prog 5 [l.d] (Wn (fK l)):=by
 refine aI mixed ak Tryz.func5 rfl (ft:=ft5) 1 (by decide +kernel) (by rfl) fun {σ} Y st=>?_;conv=>whnf
 unfold fK;refine ai (ds:=[i64 l.near,i64 0,i64 60]) (IE l.near 0 60) rfl rfl ?_;unfold fP
 cases h0:fX l.near 0 60 with
 | false=>
  conv=>whnf
  exact ab 0 rfl ⟨⟨rfl,rfl⟩,rfl⟩
 | true=>
  conv=>whnf
  rw[List.length_map];refine ai (ds:=[i64 l.aj.length,i64 1,i64 3]) (IE l.aj.length 1 3) rfl rfl ?_
  cases h1:fX l.aj.length 1 3 with
  | false=>
   conv=>whnf
   exact ab 0 rfl ⟨⟨rfl,rfl⟩,rfl⟩
  | true=>
   have hlen:l.aj.length<=3:=by
    have h1:=h1;unfold fX at h1;simp at h1;omega
   simp only[Bool.not_true,if_false,Bool.false_eq_true];conv=>whnf
   generalize hK:iv [] l.aj 0=K;refine bx (T:=tys) ak (by exact an mixed ak (by decide +kernel)) l.aj (fun i (_:Unit)=>⟨[(1,.ptr 1 0),(5,.sl 40 1 0 i),(6,.d (i64 i))],[(1,.box (.dd l.cells)),(40,.arr 1 (.dd ((gD (l.aj.take i)).map fun s=>[.str s])))],st⟩)
    (fun i r _=>iv (l.aj.take i) r i=K) () ((Wk.born 5 40 1 rfl rfl rfl).trans (Wk.sub (by repeat' first|constructor|simp[PX.get]) (by repeat' first|constructor|simp[PX.get]))) hK ?_ ?_
   ·rintro i b r _ hx hi hr he
    rw[iv,Lg]at he;have wg:l.aj.take (i+1)=l.aj.take i ++ [b]:=by rw[List.take_succ,hx];rfl
    have nt:(gD (l.aj.take i)).length=i:=by unfold gD;simp;omega
    conv=>whnf
    refine af (fun _=>?_) (fun h=>absurd hi (by have:=of_decide_eq_false h;simp at this;omega));conv=>whnf
    refine aw hx ?_;conv=>whnf
    refine aB (ds:=[.str b.name,Bc (gD (l.aj.take i))]) (Tl b.name (gD (l.aj.take i)) (by omega)) rfl 1 (az rfl (az (bH rfl (by simp[nt])) rfl)) ?_;conv=>whnf
    refine ag rfl ?_;conv=>whnf
    refine ag (by simp[aK.len,nt]) ?_;conv=>whnf
    refine aQ (decide_eq_true (by
     show(((gD (l.aj.take i)).map fun s=>[D.str s]).length+1)*16<=140737488355328;rw[List.length_map];omega)) ?_
    conv=>whnf
    generalize kA b.name (gD (l.aj.take i))=F at he ⊢;have AI:(gD (l.aj.take i)).map (fun s=>[D.str s]) ++ [[.str b.name]]=(gD (l.aj.take (i+1))).map fun s=>[.str s]:=by
     rw[wg];simp[gD]
    have Rn:((gD (l.aj.take i)).map fun s=>[D.str s]).length+1=i+1:=by rw[List.length_map,nt]
    refine af (fun h2=>?_) (fun h2=>?_)
    ·have h2:F=0:=of_decide_eq_true h2
     subst h2;simp only[if_true]at he;conv=>whnf
     refine aB (ds:=[iD [b.off,b.set],i64 (-720),i64 720]) (Ti [b.off,b.set] (-720) 720 (by simp)) rfl 1 (az (bH rfl rfl) rfl) ?_;generalize spread (-720) 720 [b.off,b.set] 0=S at he ⊢;conv=>whnf
     refine af (fun h3=>?_) (fun h3=>?_)
     ·have h3:S=0:=by simpa using h3
      subst h3;simp only[if_true]at he;conv=>whnf
      refine af (fun h8=>?_) (fun h8=>?_)
      ·have h8:b.ar.length>8:=by have:=of_decide_eq_true h8;simp at this;omega
       rw[if_pos h8,if_neg (by decide)]at he;conv=>whnf
       refine ae (wrap_i64 (by(try dsimp only);omega)) ?_;conv=>whnf
       rw[<- he];exact ab 0 rfl ⟨⟨rfl,rfl⟩,rfl⟩
      ·have h8:¬ b.ar.length>8:=by have:=of_decide_eq_false h8;simp at this;omega
       rw[if_neg h8,if_pos rfl]at he;conv=>whnf
       generalize hE:kK b.ar 0=E at he;refine bx (T:=tys) ak (by exact an mixed ak (by decide +kernel)) b.ar (fun k (_:Unit)=>⟨[(1,.ptr 1 0),(5,.sl 40 1 0 (i+1)),(6,.d (i64 i)),(7,.ptr 7 0),(9,.d (i64 k))],[(1,.box (.dd l.cells)),(40,.arr 1 (.dd ((gD (l.aj.take (i+1))).map fun s=>[.str s]))),(7,.box (.dd b.cells))],st⟩)
        (fun k r _=>kK r k=E) () (Wk.sub ⟨rfl,(by
         show some (V.sl 40 1 0 (((gD (l.aj.take i)).map fun s=>[D.str s]).length+1))=_;rw[Rn]),rfl,rfl,rfl,trivial⟩ ⟨rfl,(by
         show some (Obj.arr 1 (aK.dd ((gD (l.aj.take i)).map (fun s=>[D.str s]) ++ [[.str b.name]])))=_;rw[AI]),rfl,trivial⟩) hE ?_ ?_
       ·rintro k y r2 _ hy hk wK kL
        rw[kK]at kL;conv=>whnf
        refine af (fun _=>?_) (fun h=>absurd hk (by have:=of_decide_eq_false h;simp at this;omega));conv=>whnf
        refine aw hy ?_;conv=>whnf
        refine ai (aat y) rfl rfl ?_;conv=>whnf
        refine af (fun h4=>?_) (fun h4=>?_)
        ·have h4:¬ qO y=0:=by simpa using h4
         rw[if_neg h4]at kL;subst kL;rw[if_neg h4]at he;conv=>whnf
         refine ae (wrap_i64 (by(try dsimp only);omega)) ?_;conv=>whnf
         rw[<- he];exact ab 0 rfl ⟨⟨rfl,rfl⟩,rfl⟩
        ·have h4:qO y=0:=by simpa using h4
         rw[if_pos h4]at kL;conv=>whnf
         refine ae (wrap_i64 (by(try dsimp only);omega)) ?_;conv=>whnf
         exact⟨(),kL,(Wk.sub (by repeat' first|constructor|simp[PX.get]) (by repeat' first|constructor|simp[PX.get]))⟩
       ·rintro _ kL
        have kL:((0,0):Int×Int)=E:=kL;subst kL;rw[if_pos rfl,<- wg]at he;conv=>whnf
        refine af (fun h=>absurd h (by simp)) (fun _=>?_);conv=>whnf
        refine ae (wrap_i64 (by(try dsimp only);omega)) ?_;conv=>whnf
        exact⟨(),he,(Wk.sub (by repeat' first|constructor|simp[PX.get]) (by repeat' first|constructor|simp[PX.get]))⟩
     ·have h3:¬ S=0:=by simpa using h3
      conv=>whnf
      refine af (fun _=>?_) (fun h=>absurd h (by simp[h3]));rw[if_neg h3,if_neg h3]at he;conv=>whnf
      refine ae (wrap_i64 (by(try dsimp only);omega)) ?_;conv=>whnf
      rw[<- he];exact ab 0 rfl ⟨⟨rfl,rfl⟩,rfl⟩
    ·have h2:¬ F=0:=of_decide_eq_false h2
     conv=>whnf
     refine af (fun h=>absurd (of_decide_eq_true h) h2) (fun _=>?_);conv=>whnf
     refine af (fun _=>?_) (fun h=>absurd h (by simp[h2]));rw[if_neg h2,if_neg h2]at he;conv=>whnf
     refine ae (wrap_i64 (by(try dsimp only);omega)) ?_;conv=>whnf
     rw[<- he];exact ab 0 rfl ⟨⟨rfl,rfl⟩,rfl⟩
   ·rintro _ he
    rw[iv]at he;subst he;conv=>whnf
    refine af (fun h=>absurd h (by simp)) (fun _=>?_);conv=>whnf
    exact ab 0 rfl ⟨⟨rfl,rfl⟩,rfl⟩
end Go.PX
namespace Go.PX
open Go.Proofs
def jY{α:Type}(f:α->Int):List α->Int
 | []=>0
 | x::r=>if f x=0 then jY f r else f x
def cB(c:aA)(rota:List (List Int)):Int:=
 if (gB c).2.2=0 then (if rota.length>40 then 3 else jY (kx c.bQ.length (-1)) rota) else (gB c).2.2
def Ag(c:aA)(set:Int):List D:=[tz c.bQ,Co c.bp,i64 c.run,i64 c.rest,i64 set]
def bC(c:aA)(set:Int):D:=.ref (Ag c set)
def aN(c:aA):Int:=2^c.bQ.length-1
structure WR(c:aA):Prop where
 bQ:1<=c.bQ.length/\c.bQ.length<=5
 bp:1<=c.bp.length/\c.bp.length<=6
 run:1<=c.run/\c.run<=3
 rest:1<=c.rest/\c.rest<=3
 slot:∀ s∈c.bp,(1<=s.bQ/\s.bQ<=2)/\(0<=s.least/\s.least<=3)
 man:∀ m∈c.bQ,(0<=m.kind/\m.kind<=3)/\kx c.bp.length (-1) m.no=0
 zero:gB c=(0,0,0)
theorem wR{c:aA}(h:(gB c).2.2=0):WR c:=by
 have hz:=h;unfold gB at h;split at h;case isFalse=>cases h
 rename_i h0;split at h;case isFalse=>cases h
 rename_i h1;simp only[Bool.and_eq_true,gv]at h0 h1;dsimp only at h;by_cases h2:(eY l8 [] c.bp 0).2=0
 ·rw[if_pos h2]at h
  unfold xv at h;dsimp only at h;by_cases h3:(eY (qU c.bp.length) [] c.bQ 0).2=0
  ·have hs:=rL h2
   have hm:=rL h3;refine⟨by omega,by omega,h1.1,h1.2,fun s RB=>?_,fun m Ob=>?_,?_⟩
   ·obtain⟨b,hb⟩:=hs s RB
    unfold l8 at hb;split at hb;case isFalse=>cases hb
    rename_i h4;simpa only[Bool.and_eq_true,gv]using h4
   ·obtain⟨b,hb⟩:=hm m Ob
    unfold qU at hb;split at hb;case isFalse=>cases hb
    split at hb
    ·cases hb
    split at hb;case isFalse=>cases hb
    rename_i h4;exact⟨by simpa only[gv]using h4,hb⟩
   ·simp[gB,xv,h2,h3,gv,h0,h1]
  ·rw[if_neg h3]at h;exact absurd h h3
 ·rw[if_neg h2]at h;exact absurd h h2
theorem ET(c:aA)(rota:List (List Int)):bq Tryz.prog 61 [c.d,bt rota] (.tup [if cB c rota=0 then bC c (aN c) else .nilp,i64 (cB c rota)]):=by
 refine aI mixed ak Tryz.func61 rfl (ft:=Yx) 2 (by decide +kernel) (by rfl) fun {σ} Y st=>?_;conv=>whnf
 refine ai (aaO c) rfl rfl ?_;conv=>whnf
 refine af (fun h0=>?_) (fun h0=>?_)
 ·have h0:(gB c).2.2≠0:=by simpa using h0
  conv=>whnf
  have:cB c rota=(gB c).2.2:=by simp[cB,h0]
  rw[this,if_neg h0];exact ab 0 rfl ⟨⟨rfl,rfl⟩,rfl⟩
 have h0:(gB c).2.2=0:=by simpa using h0
 have hR:=wR h0;conv=>whnf
 refine af (fun h1=>?_) (fun h1=>?_)
 ·have h1:rota.length>40:=by simp at h1;omega
  conv=>whnf
  have:cB c rota=3:=by simp[cB,h0,h1]
  rw[this];exact ab 0 rfl ⟨⟨rfl,rfl⟩,rfl⟩
 have h1:¬ rota.length>40:=by simp at h1;omega
 have hE:cB c rota=jY (kx c.bQ.length (-1)) rota:=by simp[cB,h0,h1]
 rw[hE];conv=>whnf
 refine bx (T:=tys) ak (by exact an mixed ak (by decide +kernel)) rota (fun i (_:Unit)=>⟨[(2,.ptr 2 0),(25,.d (bt rota)),(26,.d (i64 rota.length)),(27,.d (i64 i))],[(2,.box (.dd c.cells))],st⟩) (fun i r _=>jY (kx c.bQ.length (-1)) rota=jY (kx c.bQ.length (-1)) r) () (Wk.sub (by repeat' first|constructor|simp[PX.get]) ⟨(by first|rfl|simp[PX.get]),trivial⟩) rfl ?_ ?_
 ·intro i x r _ hx hi hr he
  rw[jY]at he;have hm:=hR.bQ;conv=>whnf
  refine af (fun _=>?_) (fun h=>absurd hi (by simpa using h));conv=>whnf
  refine aw hx ?_;conv=>whnf
  refine ai (WE x _ (by simp only[List.length_map];omega)) rfl rfl ?_;generalize hF:kx (List.map sD.cells c.bQ).length (-1) x=E;rw[List.length_map]at hF;conv=>whnf
  refine af (fun h7=>?_) (fun h7=>?_)
  ·have h7:E≠0:=by simpa using h7
   conv=>whnf
   rw[he,hF,if_neg h7,if_neg h7];exact ab 0 rfl ⟨⟨rfl,rfl⟩,rfl⟩
  have h7:E=0:=by simpa using h7
  rw[hF,if_pos h7]at he;conv=>whnf
  refine ae (wrap_i64 (by(try dsimp only);omega)) ?_;conv=>whnf
  exact⟨(),he,(Wk.sub (by repeat' first|constructor|simp[PX.get]) ⟨(by first|rfl|simp[PX.get]),trivial⟩)⟩
 intro _ he;rw[jY]at he;rw[he];conv=>whnf
 refine af (fun h=>absurd h (by simp)) (fun _=>?_);conv=>whnf
 have hm:=hR.bQ;have h5:(c.bQ.length=1\/c.bQ.length=2\/c.bQ.length=3\/c.bQ.length=4\/c.bQ.length=5):=by omega
 have hp:(1:Int)<=2^c.bQ.length/\(2:Int)^c.bQ.length<=32:=by rcases h5 with h|h|h|h|h<;>rw[h]<;>decide
 refine ao (2^c.bQ.length) (by
  have:min (↑(List.map sD.cells c.bQ).length:Int).toNat IntKind.i64.bits=c.bQ.length:=by
   rw[List.length_map];have:IntKind.i64.bits=64:=rfl;omega
  rw[this];omega) (wrap_i64 (by omega)) ?_
 conv=>whnf
 refine ao (aN c) rfl (wrap_i64 (by unfold aN;omega)) ?_;conv=>whnf
 exact ab 1 rfl ⟨⟨rfl,rfl⟩,rfl⟩
structure av where
 slot:Int
 m0:Int
 m1:Int
 m2:Int
 m3:Int
 m4:Int
 deriving DecidableEq
def av.cells(t:av):List D:=[i64 t.slot,i64 t.m0,i64 t.m1,i64 t.m2,i64 t.m3,i64 t.m4]
def av.d(t:av):D:=.agg t.cells
def av.zero:av:=⟨0,0,0,0,0,0⟩
def av.get(t:av):Nat->Int
 | 0=>t.m0
 | 1=>t.m1
 | 2=>t.m2
 | 3=>t.m3
 | _=>t.m4
def av.set(t:av)(i:Nat)(x:Int):av:=
 match i with
 | 0=>{ t with m0:=x }
 | 1=>{ t with m1:=x }
 | 2=>{ t with m2:=x }
 | 3=>{ t with m3:=x }
 | _=>{ t with m4:=x }
def dJ(rest:Int)(is:Bool)(n:Int):Int:=
 if is then n+1 else if n>0 then 1-rest else if n<0 then n+1 else n
def kG(rest:Int)(group:List Int):Nat->av->av
 | 0,t=>t
 | n+1,t=>(kG rest group n t).set n (dJ rest (decide ((n:Int)∈group)) ((kG rest group n t).get n))
def eb(c:aA)(t:av)(group:List Int):av:=
 kG c.rest group c.bQ.length { t with slot:=(t.slot+1).tmod c.bp.length }
structure Pk(t:av):Prop where
 slot:0<=t.slot/\t.slot<=1000
 m0 : -1000<=t.m0/\t.m0<=1000
 m1 : -1000<=t.m1/\t.m1<=1000
 m2 : -1000<=t.m2/\t.m2<=1000
 m3 : -1000<=t.m3/\t.m3<=1000
 m4 : -1000<=t.m4/\t.m4<=1000
structure TB(t:av)(k:Int):Prop where
 m0 : -k<=t.m0/\t.m0<=k
 m1 : -k<=t.m1/\t.m1<=k
 m2 : -k<=t.m2/\t.m2<=k
 m3 : -k<=t.m3/\t.m3<=k
 m4 : -k<=t.m4/\t.m4<=k
theorem WH(c:aA)(hR:WR c)(set:Int)(t:av)(ht:Pk t)(group:List Int)(hg:group.length<4000000000000000000):bq Tryz.prog 130 [bC c set,t.d,ax group] (eb c t group).d:=by
 refine aI mixed ak Tryz.func130 rfl (ft:=TK) 3 (by decide +kernel) (by rfl) fun {σ} Y st=>?_;conv=>whnf
 obtain⟨CM,SN,RL,IX,ht3,ht4⟩:=ht;have hm:=hR.bQ;have hs:=hR.bp;have hr:=hR.rest;refine ae (wrap_i64 (by(try dsimp only);omega)) ?_;conv=>whnf
 refine aQ (decide_eq_true (by rw[List.length_map];omega)) ?_;conv=>whnf
 rw[List.length_map];generalize hu:av.mk ((t.slot+1).tmod c.bp.length) t.m0 t.m1 t.m2 t.m3 t.m4=u0;have hu0:TB u0 1000:=by subst hu;exact⟨SN,RL,IX,ht3,ht4⟩
 have hB:eb c t group=kG c.rest group c.bQ.length u0:=by subst hu;rfl
 rw[hB];refine bx (T:=tys) ak (by exact an mixed ak (by decide +kernel)) c.bQ (fun i (u:av)=>⟨[(0,.d (bC c set)),(2,.d (ax group)),(4,.ptr 4 0),(6,.ptr 6 0),(25,.d (i64 c.bQ.length)),(26,.d (i64 i))],[(4,.box (.dd u.cells)),(6,.box (.dd av.zero.cells))],st⟩) (fun i r u=>u=kG c.rest group i u0/\TB u (1000+i)) u0 (by subst hu;exact(Wk.sub (by repeat' first|constructor|simp[PX.get]) (by repeat' first|constructor|simp[PX.get]))) ⟨rfl,by simpa using hu0⟩ ?_ ?_
 ·intro i x r u hx hi FG he
  obtain⟨he,hb⟩:=he;have h5:i=0\/i=1\/i=2\/i=3\/i=4:=by omega
  have bU:(kG c.rest group (i+1) u0)=u.set i (dJ c.rest (decide ((i:Int)∈group)) (u.get i)):=by rw[kG,he]
  obtain⟨iN,pa,mn,JU,W0⟩:=hb;rcases h5 with rfl|rfl|rfl|rfl|rfl
  ·conv=>whnf
   refine af (fun _=>?_) (fun h=>absurd hi (by have:=of_decide_eq_false h;omega));conv=>whnf
   refine ai (Ax group _ hg) rfl rfl ?_;conv=>whnf
   refine af (fun h1=>?_) (fun h1=>?_)
   ·rw[h1]at bU
    conv=>whnf
    repeat' (first
     | (refine ae (wrap_i64 (by(try dsimp only);omega)) ?_;conv=>whnf)
     | (refine aw (by assumption) ?_;conv=>whnf)
     | (refine ag (by first|rfl|assumption|(simp[aK.len];done)|(simp[aK.len];omega)) ?_;conv=>whnf)
     | (refine aQ (by first|(exact decide_eq_true (by(try simp only[List.length_map]);omega))|(simp[aK.len,aK.cons,V.cells,aK.bm,aG];done)|(simp[aK.len,aK.cons,V.cells,aK.bm,aG];omega)) ?_;conv=>whnf)
     | fail)
    exact⟨u.set 0 (u.get 0+1),⟨bU.symm,by constructor<;>simp only[av.set,av.get]<;>omega⟩,(Wk.sub (by repeat' first|constructor|simp[PX.get]) (by repeat' first|constructor|simp[PX.get]))⟩
   rw[h1]at bU;conv=>whnf
   refine af (fun h2=>?_) (fun h2=>?_)
   ·have h2:u.get 0>0:=of_decide_eq_true h2
    have hv:dJ c.rest false (u.get 0)=0-c.rest+1:=by simp only[dJ,h2];simp;omega
    rw[hv]at bU;conv=>whnf
    repeat' (first
     | (refine ae (wrap_i64 (by(try dsimp only);omega)) ?_;conv=>whnf)
     | (refine aw (by assumption) ?_;conv=>whnf)
     | (refine ag (by first|rfl|assumption|(simp[aK.len];done)|(simp[aK.len];omega)) ?_;conv=>whnf)
     | (refine aQ (by first|(exact decide_eq_true (by(try simp only[List.length_map]);omega))|(simp[aK.len,aK.cons,V.cells,aK.bm,aG];done)|(simp[aK.len,aK.cons,V.cells,aK.bm,aG];omega)) ?_;conv=>whnf)
     | fail)
    exact⟨u.set 0 (0-c.rest+1),⟨bU.symm,by constructor<;>simp only[av.set,av.get]<;>omega⟩,(Wk.sub (by repeat' first|constructor|simp[PX.get]) (by repeat' first|constructor|simp[PX.get]))⟩
   have h2:¬ u.get 0>0:=of_decide_eq_false h2;conv=>whnf
   refine af (fun h3=>?_) (fun h3=>?_)
   ·have h3:u.get 0<0:=of_decide_eq_true h3
    have hv:dJ c.rest false (u.get 0)=u.get 0+1:=by simp[dJ,h2,h3]
    rw[hv]at bU;conv=>whnf
    repeat' (first
     | (refine ae (wrap_i64 (by(try dsimp only);omega)) ?_;conv=>whnf)
     | (refine aw (by assumption) ?_;conv=>whnf)
     | (refine ag (by first|rfl|assumption|(simp[aK.len];done)|(simp[aK.len];omega)) ?_;conv=>whnf)
     | (refine aQ (by first|(exact decide_eq_true (by(try simp only[List.length_map]);omega))|(simp[aK.len,aK.cons,V.cells,aK.bm,aG];done)|(simp[aK.len,aK.cons,V.cells,aK.bm,aG];omega)) ?_;conv=>whnf)
     | fail)
    exact⟨u.set 0 (u.get 0+1),⟨bU.symm,by constructor<;>simp only[av.set,av.get]<;>omega⟩,(Wk.sub (by repeat' first|constructor|simp[PX.get]) (by repeat' first|constructor|simp[PX.get]))⟩
   have h3:¬ u.get 0<0:=of_decide_eq_false h3;have hv:dJ c.rest false (u.get 0)=u.get 0:=by simp[dJ,h2,h3]
   rw[hv]at bU;conv=>whnf
   repeat' (first
    | (refine ae (wrap_i64 (by(try dsimp only);omega)) ?_;conv=>whnf)
    | (refine aw (by assumption) ?_;conv=>whnf)
    | (refine ag (by first|rfl|assumption|(simp[aK.len];done)|(simp[aK.len];omega)) ?_;conv=>whnf)
    | (refine aQ (by first|(exact decide_eq_true (by(try simp only[List.length_map]);omega))|(simp[aK.len,aK.cons,V.cells,aK.bm,aG];done)|(simp[aK.len,aK.cons,V.cells,aK.bm,aG];omega)) ?_;conv=>whnf)
    | fail)
   exact⟨u.set 0 (u.get 0),⟨bU.symm,by constructor<;>simp only[av.set,av.get]<;>omega⟩,(Wk.sub (by repeat' first|constructor|simp[PX.get]) (by repeat' first|constructor|simp[PX.get]))⟩
  ·conv=>whnf
   refine af (fun _=>?_) (fun h=>absurd hi (by have:=of_decide_eq_false h;omega));conv=>whnf
   refine ai (Ax group _ hg) rfl rfl ?_;conv=>whnf
   refine af (fun h1=>?_) (fun h1=>?_)
   ·rw[h1]at bU
    conv=>whnf
    repeat' (first
     | (refine ae (wrap_i64 (by(try dsimp only);omega)) ?_;conv=>whnf)
     | (refine aw (by assumption) ?_;conv=>whnf)
     | (refine ag (by first|rfl|assumption|(simp[aK.len];done)|(simp[aK.len];omega)) ?_;conv=>whnf)
     | (refine aQ (by first|(exact decide_eq_true (by(try simp only[List.length_map]);omega))|(simp[aK.len,aK.cons,V.cells,aK.bm,aG];done)|(simp[aK.len,aK.cons,V.cells,aK.bm,aG];omega)) ?_;conv=>whnf)
     | fail)
    exact⟨u.set 1 (u.get 1+1),⟨bU.symm,by constructor<;>simp only[av.set,av.get]<;>omega⟩,(Wk.sub (by repeat' first|constructor|simp[PX.get]) (by repeat' first|constructor|simp[PX.get]))⟩
   rw[h1]at bU;conv=>whnf
   refine af (fun h2=>?_) (fun h2=>?_)
   ·have h2:u.get 1>0:=of_decide_eq_true h2
    have hv:dJ c.rest false (u.get 1)=0-c.rest+1:=by simp only[dJ,h2];simp;omega
    rw[hv]at bU;conv=>whnf
    repeat' (first
     | (refine ae (wrap_i64 (by(try dsimp only);omega)) ?_;conv=>whnf)
     | (refine aw (by assumption) ?_;conv=>whnf)
     | (refine ag (by first|rfl|assumption|(simp[aK.len];done)|(simp[aK.len];omega)) ?_;conv=>whnf)
     | (refine aQ (by first|(exact decide_eq_true (by(try simp only[List.length_map]);omega))|(simp[aK.len,aK.cons,V.cells,aK.bm,aG];done)|(simp[aK.len,aK.cons,V.cells,aK.bm,aG];omega)) ?_;conv=>whnf)
     | fail)
    exact⟨u.set 1 (0-c.rest+1),⟨bU.symm,by constructor<;>simp only[av.set,av.get]<;>omega⟩,(Wk.sub (by repeat' first|constructor|simp[PX.get]) (by repeat' first|constructor|simp[PX.get]))⟩
   have h2:¬ u.get 1>0:=of_decide_eq_false h2;conv=>whnf
   refine af (fun h3=>?_) (fun h3=>?_)
   ·have h3:u.get 1<0:=of_decide_eq_true h3
    have hv:dJ c.rest false (u.get 1)=u.get 1+1:=by simp[dJ,h2,h3]
    rw[hv]at bU;conv=>whnf
    repeat' (first
     | (refine ae (wrap_i64 (by(try dsimp only);omega)) ?_;conv=>whnf)
     | (refine aw (by assumption) ?_;conv=>whnf)
     | (refine ag (by first|rfl|assumption|(simp[aK.len];done)|(simp[aK.len];omega)) ?_;conv=>whnf)
     | (refine aQ (by first|(exact decide_eq_true (by(try simp only[List.length_map]);omega))|(simp[aK.len,aK.cons,V.cells,aK.bm,aG];done)|(simp[aK.len,aK.cons,V.cells,aK.bm,aG];omega)) ?_;conv=>whnf)
     | fail)
    exact⟨u.set 1 (u.get 1+1),⟨bU.symm,by constructor<;>simp only[av.set,av.get]<;>omega⟩,(Wk.sub (by repeat' first|constructor|simp[PX.get]) (by repeat' first|constructor|simp[PX.get]))⟩
   have h3:¬ u.get 1<0:=of_decide_eq_false h3;have hv:dJ c.rest false (u.get 1)=u.get 1:=by simp[dJ,h2,h3]
   rw[hv]at bU;conv=>whnf
   repeat' (first
    | (refine ae (wrap_i64 (by(try dsimp only);omega)) ?_;conv=>whnf)
    | (refine aw (by assumption) ?_;conv=>whnf)
    | (refine ag (by first|rfl|assumption|(simp[aK.len];done)|(simp[aK.len];omega)) ?_;conv=>whnf)
    | (refine aQ (by first|(exact decide_eq_true (by(try simp only[List.length_map]);omega))|(simp[aK.len,aK.cons,V.cells,aK.bm,aG];done)|(simp[aK.len,aK.cons,V.cells,aK.bm,aG];omega)) ?_;conv=>whnf)
    | fail)
   exact⟨u.set 1 (u.get 1),⟨bU.symm,by constructor<;>simp only[av.set,av.get]<;>omega⟩,(Wk.sub (by repeat' first|constructor|simp[PX.get]) (by repeat' first|constructor|simp[PX.get]))⟩
  ·conv=>whnf
   refine af (fun _=>?_) (fun h=>absurd hi (by have:=of_decide_eq_false h;omega));conv=>whnf
   refine ai (Ax group _ hg) rfl rfl ?_;conv=>whnf
   refine af (fun h1=>?_) (fun h1=>?_)
   ·rw[h1]at bU
    conv=>whnf
    repeat' (first
     | (refine ae (wrap_i64 (by(try dsimp only);omega)) ?_;conv=>whnf)
     | (refine aw (by assumption) ?_;conv=>whnf)
     | (refine ag (by first|rfl|assumption|(simp[aK.len];done)|(simp[aK.len];omega)) ?_;conv=>whnf)
     | (refine aQ (by first|(exact decide_eq_true (by(try simp only[List.length_map]);omega))|(simp[aK.len,aK.cons,V.cells,aK.bm,aG];done)|(simp[aK.len,aK.cons,V.cells,aK.bm,aG];omega)) ?_;conv=>whnf)
     | fail)
    exact⟨u.set 2 (u.get 2+1),⟨bU.symm,by constructor<;>simp only[av.set,av.get]<;>omega⟩,(Wk.sub (by repeat' first|constructor|simp[PX.get]) (by repeat' first|constructor|simp[PX.get]))⟩
   rw[h1]at bU;conv=>whnf
   refine af (fun h2=>?_) (fun h2=>?_)
   ·have h2:u.get 2>0:=of_decide_eq_true h2
    have hv:dJ c.rest false (u.get 2)=0-c.rest+1:=by simp only[dJ,h2];simp;omega
    rw[hv]at bU;conv=>whnf
    repeat' (first
     | (refine ae (wrap_i64 (by(try dsimp only);omega)) ?_;conv=>whnf)
     | (refine aw (by assumption) ?_;conv=>whnf)
     | (refine ag (by first|rfl|assumption|(simp[aK.len];done)|(simp[aK.len];omega)) ?_;conv=>whnf)
     | (refine aQ (by first|(exact decide_eq_true (by(try simp only[List.length_map]);omega))|(simp[aK.len,aK.cons,V.cells,aK.bm,aG];done)|(simp[aK.len,aK.cons,V.cells,aK.bm,aG];omega)) ?_;conv=>whnf)
     | fail)
    exact⟨u.set 2 (0-c.rest+1),⟨bU.symm,by constructor<;>simp only[av.set,av.get]<;>omega⟩,(Wk.sub (by repeat' first|constructor|simp[PX.get]) (by repeat' first|constructor|simp[PX.get]))⟩
   have h2:¬ u.get 2>0:=of_decide_eq_false h2;conv=>whnf
   refine af (fun h3=>?_) (fun h3=>?_)
   ·have h3:u.get 2<0:=of_decide_eq_true h3
    have hv:dJ c.rest false (u.get 2)=u.get 2+1:=by simp[dJ,h2,h3]
    rw[hv]at bU;conv=>whnf
    repeat' (first
     | (refine ae (wrap_i64 (by(try dsimp only);omega)) ?_;conv=>whnf)
     | (refine aw (by assumption) ?_;conv=>whnf)
     | (refine ag (by first|rfl|assumption|(simp[aK.len];done)|(simp[aK.len];omega)) ?_;conv=>whnf)
     | (refine aQ (by first|(exact decide_eq_true (by(try simp only[List.length_map]);omega))|(simp[aK.len,aK.cons,V.cells,aK.bm,aG];done)|(simp[aK.len,aK.cons,V.cells,aK.bm,aG];omega)) ?_;conv=>whnf)
     | fail)
    exact⟨u.set 2 (u.get 2+1),⟨bU.symm,by constructor<;>simp only[av.set,av.get]<;>omega⟩,(Wk.sub (by repeat' first|constructor|simp[PX.get]) (by repeat' first|constructor|simp[PX.get]))⟩
   have h3:¬ u.get 2<0:=of_decide_eq_false h3;have hv:dJ c.rest false (u.get 2)=u.get 2:=by simp[dJ,h2,h3]
   rw[hv]at bU;conv=>whnf
   repeat' (first
    | (refine ae (wrap_i64 (by(try dsimp only);omega)) ?_;conv=>whnf)
    | (refine aw (by assumption) ?_;conv=>whnf)
    | (refine ag (by first|rfl|assumption|(simp[aK.len];done)|(simp[aK.len];omega)) ?_;conv=>whnf)
    | (refine aQ (by first|(exact decide_eq_true (by(try simp only[List.length_map]);omega))|(simp[aK.len,aK.cons,V.cells,aK.bm,aG];done)|(simp[aK.len,aK.cons,V.cells,aK.bm,aG];omega)) ?_;conv=>whnf)
    | fail)
   exact⟨u.set 2 (u.get 2),⟨bU.symm,by constructor<;>simp only[av.set,av.get]<;>omega⟩,(Wk.sub (by repeat' first|constructor|simp[PX.get]) (by repeat' first|constructor|simp[PX.get]))⟩
  ·conv=>whnf
   refine af (fun _=>?_) (fun h=>absurd hi (by have:=of_decide_eq_false h;omega));conv=>whnf
   refine ai (Ax group _ hg) rfl rfl ?_;conv=>whnf
   refine af (fun h1=>?_) (fun h1=>?_)
   ·rw[h1]at bU
    conv=>whnf
    repeat' (first
     | (refine ae (wrap_i64 (by(try dsimp only);omega)) ?_;conv=>whnf)
     | (refine aw (by assumption) ?_;conv=>whnf)
     | (refine ag (by first|rfl|assumption|(simp[aK.len];done)|(simp[aK.len];omega)) ?_;conv=>whnf)
     | (refine aQ (by first|(exact decide_eq_true (by(try simp only[List.length_map]);omega))|(simp[aK.len,aK.cons,V.cells,aK.bm,aG];done)|(simp[aK.len,aK.cons,V.cells,aK.bm,aG];omega)) ?_;conv=>whnf)
     | fail)
    exact⟨u.set 3 (u.get 3+1),⟨bU.symm,by constructor<;>simp only[av.set,av.get]<;>omega⟩,(Wk.sub (by repeat' first|constructor|simp[PX.get]) (by repeat' first|constructor|simp[PX.get]))⟩
   rw[h1]at bU;conv=>whnf
   refine af (fun h2=>?_) (fun h2=>?_)
   ·have h2:u.get 3>0:=of_decide_eq_true h2
    have hv:dJ c.rest false (u.get 3)=0-c.rest+1:=by simp only[dJ,h2];simp;omega
    rw[hv]at bU;conv=>whnf
    repeat' (first
     | (refine ae (wrap_i64 (by(try dsimp only);omega)) ?_;conv=>whnf)
     | (refine aw (by assumption) ?_;conv=>whnf)
     | (refine ag (by first|rfl|assumption|(simp[aK.len];done)|(simp[aK.len];omega)) ?_;conv=>whnf)
     | (refine aQ (by first|(exact decide_eq_true (by(try simp only[List.length_map]);omega))|(simp[aK.len,aK.cons,V.cells,aK.bm,aG];done)|(simp[aK.len,aK.cons,V.cells,aK.bm,aG];omega)) ?_;conv=>whnf)
     | fail)
    exact⟨u.set 3 (0-c.rest+1),⟨bU.symm,by constructor<;>simp only[av.set,av.get]<;>omega⟩,(Wk.sub (by repeat' first|constructor|simp[PX.get]) (by repeat' first|constructor|simp[PX.get]))⟩
   have h2:¬ u.get 3>0:=of_decide_eq_false h2;conv=>whnf
   refine af (fun h3=>?_) (fun h3=>?_)
   ·have h3:u.get 3<0:=of_decide_eq_true h3
    have hv:dJ c.rest false (u.get 3)=u.get 3+1:=by simp[dJ,h2,h3]
    rw[hv]at bU;conv=>whnf
    repeat' (first
     | (refine ae (wrap_i64 (by(try dsimp only);omega)) ?_;conv=>whnf)
     | (refine aw (by assumption) ?_;conv=>whnf)
     | (refine ag (by first|rfl|assumption|(simp[aK.len];done)|(simp[aK.len];omega)) ?_;conv=>whnf)
     | (refine aQ (by first|(exact decide_eq_true (by(try simp only[List.length_map]);omega))|(simp[aK.len,aK.cons,V.cells,aK.bm,aG];done)|(simp[aK.len,aK.cons,V.cells,aK.bm,aG];omega)) ?_;conv=>whnf)
     | fail)
    exact⟨u.set 3 (u.get 3+1),⟨bU.symm,by constructor<;>simp only[av.set,av.get]<;>omega⟩,(Wk.sub (by repeat' first|constructor|simp[PX.get]) (by repeat' first|constructor|simp[PX.get]))⟩
   have h3:¬ u.get 3<0:=of_decide_eq_false h3;have hv:dJ c.rest false (u.get 3)=u.get 3:=by simp[dJ,h2,h3]
   rw[hv]at bU;conv=>whnf
   repeat' (first
    | (refine ae (wrap_i64 (by(try dsimp only);omega)) ?_;conv=>whnf)
    | (refine aw (by assumption) ?_;conv=>whnf)
    | (refine ag (by first|rfl|assumption|(simp[aK.len];done)|(simp[aK.len];omega)) ?_;conv=>whnf)
    | (refine aQ (by first|(exact decide_eq_true (by(try simp only[List.length_map]);omega))|(simp[aK.len,aK.cons,V.cells,aK.bm,aG];done)|(simp[aK.len,aK.cons,V.cells,aK.bm,aG];omega)) ?_;conv=>whnf)
    | fail)
   exact⟨u.set 3 (u.get 3),⟨bU.symm,by constructor<;>simp only[av.set,av.get]<;>omega⟩,(Wk.sub (by repeat' first|constructor|simp[PX.get]) (by repeat' first|constructor|simp[PX.get]))⟩
  ·conv=>whnf
   refine af (fun _=>?_) (fun h=>absurd hi (by have:=of_decide_eq_false h;omega));conv=>whnf
   refine ai (Ax group _ hg) rfl rfl ?_;conv=>whnf
   refine af (fun h1=>?_) (fun h1=>?_)
   ·rw[h1]at bU
    conv=>whnf
    repeat' (first
     | (refine ae (wrap_i64 (by(try dsimp only);omega)) ?_;conv=>whnf)
     | (refine aw (by assumption) ?_;conv=>whnf)
     | (refine ag (by first|rfl|assumption|(simp[aK.len];done)|(simp[aK.len];omega)) ?_;conv=>whnf)
     | (refine aQ (by first|(exact decide_eq_true (by(try simp only[List.length_map]);omega))|(simp[aK.len,aK.cons,V.cells,aK.bm,aG];done)|(simp[aK.len,aK.cons,V.cells,aK.bm,aG];omega)) ?_;conv=>whnf)
     | fail)
    exact⟨u.set 4 (u.get 4+1),⟨bU.symm,by constructor<;>simp only[av.set,av.get]<;>omega⟩,(Wk.sub (by repeat' first|constructor|simp[PX.get]) (by repeat' first|constructor|simp[PX.get]))⟩
   rw[h1]at bU;conv=>whnf
   refine af (fun h2=>?_) (fun h2=>?_)
   ·have h2:u.get 4>0:=of_decide_eq_true h2
    have hv:dJ c.rest false (u.get 4)=0-c.rest+1:=by simp only[dJ,h2];simp;omega
    rw[hv]at bU;conv=>whnf
    repeat' (first
     | (refine ae (wrap_i64 (by(try dsimp only);omega)) ?_;conv=>whnf)
     | (refine aw (by assumption) ?_;conv=>whnf)
     | (refine ag (by first|rfl|assumption|(simp[aK.len];done)|(simp[aK.len];omega)) ?_;conv=>whnf)
     | (refine aQ (by first|(exact decide_eq_true (by(try simp only[List.length_map]);omega))|(simp[aK.len,aK.cons,V.cells,aK.bm,aG];done)|(simp[aK.len,aK.cons,V.cells,aK.bm,aG];omega)) ?_;conv=>whnf)
     | fail)
    exact⟨u.set 4 (0-c.rest+1),⟨bU.symm,by constructor<;>simp only[av.set,av.get]<;>omega⟩,(Wk.sub (by repeat' first|constructor|simp[PX.get]) (by repeat' first|constructor|simp[PX.get]))⟩
   have h2:¬ u.get 4>0:=of_decide_eq_false h2;conv=>whnf
   refine af (fun h3=>?_) (fun h3=>?_)
   ·have h3:u.get 4<0:=of_decide_eq_true h3
    have hv:dJ c.rest false (u.get 4)=u.get 4+1:=by simp[dJ,h2,h3]
    rw[hv]at bU;conv=>whnf
    repeat' (first
     | (refine ae (wrap_i64 (by(try dsimp only);omega)) ?_;conv=>whnf)
     | (refine aw (by assumption) ?_;conv=>whnf)
     | (refine ag (by first|rfl|assumption|(simp[aK.len];done)|(simp[aK.len];omega)) ?_;conv=>whnf)
     | (refine aQ (by first|(exact decide_eq_true (by(try simp only[List.length_map]);omega))|(simp[aK.len,aK.cons,V.cells,aK.bm,aG];done)|(simp[aK.len,aK.cons,V.cells,aK.bm,aG];omega)) ?_;conv=>whnf)
     | fail)
    exact⟨u.set 4 (u.get 4+1),⟨bU.symm,by constructor<;>simp only[av.set,av.get]<;>omega⟩,(Wk.sub (by repeat' first|constructor|simp[PX.get]) (by repeat' first|constructor|simp[PX.get]))⟩
   have h3:¬ u.get 4<0:=of_decide_eq_false h3;have hv:dJ c.rest false (u.get 4)=u.get 4:=by simp[dJ,h2,h3]
   rw[hv]at bU;conv=>whnf
   repeat' (first
    | (refine ae (wrap_i64 (by(try dsimp only);omega)) ?_;conv=>whnf)
    | (refine aw (by assumption) ?_;conv=>whnf)
    | (refine ag (by first|rfl|assumption|(simp[aK.len];done)|(simp[aK.len];omega)) ?_;conv=>whnf)
    | (refine aQ (by first|(exact decide_eq_true (by(try simp only[List.length_map]);omega))|(simp[aK.len,aK.cons,V.cells,aK.bm,aG];done)|(simp[aK.len,aK.cons,V.cells,aK.bm,aG];omega)) ?_;conv=>whnf)
    | fail)
   exact⟨u.set 4 (u.get 4),⟨bU.symm,by constructor<;>simp only[av.set,av.get]<;>omega⟩,(Wk.sub (by repeat' first|constructor|simp[PX.get]) (by repeat' first|constructor|simp[PX.get]))⟩
 ·intro u he
  obtain⟨he,hb⟩:=he;conv=>whnf
  refine af (fun h=>absurd h (by simp)) (fun _=>?_);conv=>whnf
  rw[<- he];exact ab 0 rfl ⟨⟨rfl,rfl⟩,rfl⟩
def oY(c:aA)(m:Int):sD:=(c.bQ[m.toNat]?).getD ⟨⟨#[]⟩,0,[]⟩
def jb(set m:Int):Bool:=!decide (gF .and .i64 (set.fdiv (2^(min m.toNat 64))) 1=0)
theorem Wt(c:aA)(set:Int)(s:Slot)(k:Nat)(x:sD)(hx:c.bQ[k]?=some x):bq Tryz.prog 184 [i64 k,.ref [bC c set],.ref s.cells] (.bool (decide (x.kind≥s.least))):=by
 refine aI mixed ak Tryz.func184 rfl (ft:=TZ) 3 (by decide +kernel) (by rfl) fun {σ} Y st=>?_;conv=>whnf
 refine aw hx ?_;conv=>whnf
 exact ab 0 rfl ⟨⟨rfl,rfl⟩,rfl⟩
theorem Ww(t:av)(k:Nat)(hk:k<5):bq Tryz.prog 187 [i64 k,.ref t.cells] (.bool (decide (t.get k<0))):=by
 refine aI mixed ak Tryz.func187 rfl (ft:=T6) 2 (by decide +kernel) (by rfl) fun {σ} Y st=>?_;conv=>whnf
 have h5:k=0\/k=1\/k=2\/k=3\/k=4:=by omega
 rcases h5 with rfl|rfl|rfl|rfl|rfl
 ·conv=>whnf
  exact ab 0 rfl ⟨⟨rfl,rfl⟩,rfl⟩
 ·conv=>whnf
  exact ab 0 rfl ⟨⟨rfl,rfl⟩,rfl⟩
 ·conv=>whnf
  exact ab 0 rfl ⟨⟨rfl,rfl⟩,rfl⟩
 ·conv=>whnf
  exact ab 0 rfl ⟨⟨rfl,rfl⟩,rfl⟩
 ·conv=>whnf
  exact ab 0 rfl ⟨⟨rfl,rfl⟩,rfl⟩
theorem Wv(c:aA)(set:Int)(t:av)(k:Nat)(hk:k<5):bq Tryz.prog 186 [i64 k,.ref t.cells,.ref [bC c set]] (.bool (decide (t.get k≥c.run))):=by
 refine aI mixed ak Tryz.func186 rfl (ft:=T5) 3 (by decide +kernel) (by rfl) fun {σ} Y st=>?_;conv=>whnf
 have h5:k=0\/k=1\/k=2\/k=3\/k=4:=by omega
 rcases h5 with rfl|rfl|rfl|rfl|rfl
 ·conv=>whnf
  exact ab 0 rfl ⟨⟨rfl,rfl⟩,rfl⟩
 ·conv=>whnf
  exact ab 0 rfl ⟨⟨rfl,rfl⟩,rfl⟩
 ·conv=>whnf
  exact ab 0 rfl ⟨⟨rfl,rfl⟩,rfl⟩
 ·conv=>whnf
  exact ab 0 rfl ⟨⟨rfl,rfl⟩,rfl⟩
 ·conv=>whnf
  exact ab 0 rfl ⟨⟨rfl,rfl⟩,rfl⟩
theorem Wu(c:aA)(set:Int)(t:av)(k:Nat)(x:sD)(hx:c.bQ[k]?=some x)(hn:x.no.length<4000000000000000000):bq Tryz.prog 185 [i64 k,.ref [bC c set],.ref t.cells] (.bool (!jb set k||decide (t.slot∈x.no))):=by
 refine aI mixed ak Tryz.func185 rfl (ft:=T4) 3 (by decide +kernel) (by rfl) fun {σ} Y st=>?_;conv=>whnf
 have hb:decide (gF .and .i64 (set.fdiv (2^min (k:Int).toNat IntKind.i64.bits)) 1=0) = !jb set k:=by
  unfold jb;rw[Bool.not_not];rfl
 rw[hb];cases hs:jb set k
 ·conv=>whnf
  exact ab 0 rfl ⟨⟨rfl,rfl⟩,rfl⟩
 conv=>whnf
 refine aw hx ?_;conv=>whnf
 refine aH (Ax x.no t.slot hn) rfl rfl ?_;conv=>whnf
 exact ab 0 rfl ⟨⟨rfl,rfl⟩,rfl⟩
def qs(c:aA)(set:Int)(t:av)(s:Slot)(group:List Int):Int×Int:=
 if (group.length:Int)≠s.bQ then (1,0)
 else if !group.any (fun m=>decide ((oY c m).kind≥s.least)) then (2,0)
 else match group.find? (fun m=>!jb set m||decide (t.slot∈(oY c m).no)) with
  | some m=>(3,m)
  | none=>match group.find? (fun m=>decide (t.get m.toNat≥c.run)) with
   | some m=>(4,m)
   | none=>match group.find? (fun m=>decide (t.get m.toNat<0)) with
    | some m=>(5,m)
    | none=>(0,0)
def xf(c:aA)(group:List Int):Prop:=∀ m∈group,0<=m/\m<c.bQ.length
theorem pz{many:Int}:∀ {l:List Int} {last:Int},kx many last l=0->l = []\/(l.length:Int)+last<many
 | [],_,_=>.inl rfl
 | i::r,last,h=>by
  rw[kx]at h;split at h;case isFalse=>cases h
  rename_i h1;split at h
  ·cases h
  rename_i h2;rw[gv]at h1;right;rcases pz h with rfl|h3
  ·simp;omega
  ·simp only[List.length_cons];omega
theorem find_index{α:Type}{p:α->Bool}:∀ {l:List α} (i:Nat),(l.find? p=none->indexOf p l i = -1)/\(∀ m,l.find? p=some m -> ∃ j:Nat,indexOf p l i=((i+j:Nat):Int)/\l[j]?=some m)
 | [],i=>⟨fun _=>rfl,fun m h=>by simp at h⟩
 | x::r,i=>by
  obtain⟨h1,h2⟩:=find_index (p:=p) (l:=r) (i+1);by_cases hp:p x=true
  ·refine⟨fun h=>by simp[hp]at h,fun m h=>?_⟩
   simp[hp]at h;exact⟨0,by simp[indexOf,hp],by simp[h]⟩
  ·refine⟨fun h=>?_,fun m h=>?_⟩
   ·simp[hp]at h
    have:=h1 (by simpa using h);simp only[indexOf,hp,if_false,Bool.false_eq_true];exact this
   ·simp[hp]at h
    obtain⟨j,h3,h4⟩:=h2 m h;refine⟨j+1,?_,by simpa using h4⟩;simp only[indexOf,hp,if_false,Bool.false_eq_true];rw[show(i:Int)+1=((i+1:Nat):Int) from by omega,h3];omega
theorem WG(c:aA)(hR:WR c)(set:Int)(t:av)(s:Slot)(hs:c.bp[t.slot.toNat]?=some s)(ht:0<=t.slot)(group:List Int)(hg:xf c group)(wG:group.length<4000000000000000000) :
  bq Tryz.prog 129 [bC c set,t.d,ax group] (.tup [i64 (qs c set t s group).1,i64 (qs c set t s group).2]):=by
 refine aI mixed ak Tryz.func129 rfl (ft:=TJ) 3 (by decide +kernel) (by rfl) fun {σ} Y st=>?_;conv=>whnf
 rw[show decide (0<=t.slot)=true from decide_eq_true ht,show(List.map Slot.cells c.bp)[t.slot.toNat]?=some s.cells from by simp[hs]];conv=>whnf
 unfold qs;refine af (fun h0=>?_) (fun h0=>?_)
 ·have h0:(group.length:Int)≠s.bQ:=by simpa using h0
  conv=>whnf
  rw[if_pos h0];exact ab 0 rfl ⟨⟨rfl,rfl⟩,rfl⟩
 have h0:(group.length:Int)=s.bQ:=by simpa using h0
 rw[if_neg (by simpa using h0)];have CH:∀ m∈group,∃ (k:Nat) (x:sD),m=(k:Int)/\c.bQ[k]?=some x/\oY c m=x/\k<5:=by
  intro m hm;obtain⟨h1,h2⟩:=hg m hm;have UX:=hR.bQ;have hk:m.toNat<c.bQ.length:=by omega
  refine⟨m.toNat,c.bQ[m.toNat],by omega,by simp[hk],?_,by omega⟩;simp[oY,hk]
 conv=>whnf
 refine aB (ds:=[ax group,.clo 184 [.ref [bC c set],.ref s.cells]]) (QM group 184 [.ref [bC c set],.ref s.cells] (fun m=>decide ((oY c m).kind≥s.least)) wG fun m hm=>by
  obtain⟨k,x,rfl,hx,RR,_⟩:=CH m hm;rw[RR];exact fun {σ}=>Wt c set s k x hx) rfl 1 rfl ?_
 conv=>whnf
 refine af (fun h1=>?_) (fun h1=>?_)
 ·conv=>whnf
  rw[if_pos h1];exact ab 0 rfl ⟨⟨rfl,rfl⟩,rfl⟩
 rw[if_neg (by simpa using h1)];conv=>whnf
 generalize PS:group.find? (fun m=>!jb set m||decide (t.slot∈(oY c m).no))=f1;generalize hf2:group.find? (fun m=>decide (t.get m.toNat≥c.run))=f2;generalize hf3:group.find? (fun m=>decide (t.get m.toNat<0))=f3;refine dh (T:=tys) ak (by exact an mixed ak (by decide +kernel)) (α:=Nat) (fun i=>⟨[(2,.d (ax group)),(38,.sl 38 2 0 3),(39,.d (i64 3)),(40,.d (i64 i))],[(3,.box (.dd [bC c set])),(4,.box (.dd t.cells)),(38,.arr 2 (.vv [[.d (i64 3),.clo 185 [.ptr 3 0,.ptr 4 0]],[.d (i64 4),.clo 186 [.ptr 4 0,.ptr 3 0]],[.d (i64 5),.clo 187 [.ptr 4 0]]]))],st⟩)
  (fun i=>i<=3/\(1<=i->f1=none)/\(2<=i->f2=none)/\(3<=i->f3=none)) (fun i=>3-i) 0 (Wk.sub (by repeat' first|constructor|simp[PX.get]) (by repeat' first|constructor|simp[PX.get])) (by omega) ?_
 intro i ⟨hi,wa,uC,hi3⟩;have h4:i=0\/i=1\/i=2\/i=3:=by omega
 rcases h4 with rfl|rfl|rfl|rfl
 ·conv=>whnf
  have hI:=find_index (p:=fun m=>!jb set m||decide (t.slot∈(oY c m).no)) (l:=group) 0;refine aB (ds:=[ax group,.clo 185 [.ref [bC c set],.ref t.cells]]) (Hg group 185 [.ref [bC c set],.ref t.cells] (fun m=>!jb set m||decide (t.slot∈(oY c m).no)) wG fun m hm=>by
   obtain⟨k,x,rfl,hx,RR,_⟩:=CH m hm;rw[RR];exact fun {σ}=>Wu c set t k x hx (by
    have h6:=pz ((hR.man x (List.mem_of_getElem? hx)).2);have h7:=hR.bp;rcases h6 with h6|h6
    ·rw[h6];simp
    ·omega)) rfl 1 rfl ?_
  cases f1 with
  | none=>
   have hv:indexOf (fun m=>!jb set m||decide (t.slot∈(oY c m).no)) group 0 = -1:=hI.1 PS;rw[hv];conv=>whnf
   refine ae (wrap_i64 (by(try dsimp only);omega)) ?_;conv=>whnf
   exact⟨1,by omega,⟨by omega,fun _=>rfl,by omega,by omega⟩,(Wk.sub (by repeat' first|constructor|simp[PX.get]) (by repeat' first|constructor|simp[PX.get]))⟩
  | some m=>
   obtain⟨j,hj,UN⟩:=hI.2 m PS;rw[Nat.zero_add]at hj;have hv:indexOf (fun m=>!jb set m||decide (t.slot∈(oY c m).no)) group 0=(j:Int):=hj;rw[hv];conv=>whnf
   refine aw UN ?_;conv=>whnf
   exact ab 0 rfl ⟨⟨rfl,rfl⟩,rfl⟩
 ·conv=>whnf
  cases wa (by omega)
  have hI:=find_index (p:=fun m=>decide (t.get m.toNat≥c.run)) (l:=group) 0;refine aB (ds:=[ax group,.clo 186 [.ref t.cells,.ref [bC c set]]]) (Hg group 186 [.ref t.cells,.ref [bC c set]] (fun m=>decide (t.get m.toNat≥c.run)) wG fun m hm=>by
   obtain⟨k,x,rfl,hx,RR,hk⟩:=CH m hm;exact fun {σ}=>Wv c set t k hk) rfl 1 rfl ?_
  cases f2 with
  | none=>
   have hv:indexOf (fun m=>decide (t.get m.toNat≥c.run)) group 0 = -1:=hI.1 hf2;rw[hv];conv=>whnf
   refine ae (wrap_i64 (by(try dsimp only);omega)) ?_;conv=>whnf
   exact⟨2,by omega,⟨by omega,fun _=>rfl,fun _=>rfl,by omega⟩,(Wk.sub (by repeat' first|constructor|simp[PX.get]) (by repeat' first|constructor|simp[PX.get]))⟩
  | some m=>
   obtain⟨j,hj,UN⟩:=hI.2 m hf2;rw[Nat.zero_add]at hj;have hv:indexOf (fun m=>decide (t.get m.toNat≥c.run)) group 0=(j:Int):=hj;rw[hv];conv=>whnf
   refine aw UN ?_;conv=>whnf
   exact ab 0 rfl ⟨⟨rfl,rfl⟩,rfl⟩
 ·conv=>whnf
  cases wa (by omega)
  cases uC (by omega)
  have hI:=find_index (p:=fun m=>decide (t.get m.toNat<0)) (l:=group) 0;refine aB (ds:=[ax group,.clo 187 [.ref t.cells]]) (Hg group 187 [.ref t.cells] (fun m=>decide (t.get m.toNat<0)) wG fun m hm=>by
   obtain⟨k,x,rfl,hx,RR,hk⟩:=CH m hm;exact fun {σ}=>Ww t k hk) rfl 1 rfl ?_
  cases f3 with
  | none=>
   have hv:indexOf (fun m=>decide (t.get m.toNat<0)) group 0 = -1:=hI.1 hf3;rw[hv];conv=>whnf
   refine ae (wrap_i64 (by(try dsimp only);omega)) ?_;conv=>whnf
   exact⟨3,by omega,⟨by omega,fun _=>rfl,fun _=>rfl,fun _=>rfl⟩,(Wk.sub (by repeat' first|constructor|simp[PX.get]) (by repeat' first|constructor|simp[PX.get]))⟩
  | some m=>
   obtain⟨j,hj,UN⟩:=hI.2 m hf3;rw[Nat.zero_add]at hj;have hv:indexOf (fun m=>decide (t.get m.toNat<0)) group 0=(j:Int):=hj;rw[hv];conv=>whnf
   refine aw UN ?_;conv=>whnf
   exact ab 0 rfl ⟨⟨rfl,rfl⟩,rfl⟩
 ·cases wa (by omega)
  cases uC (by omega)
  cases hi3 (by omega)
  conv=>whnf
  exact ab 0 rfl ⟨⟨rfl,rfl⟩,rfl⟩
def mT(c:aA)(t:av):Slot:=(c.bp[t.slot.toNat]?).getD ⟨0,0⟩
def M8(c:aA)(set:Int)(t:av)(group:List Int):Int×Int:=qs c set t (mT c t) group
def bO(c:aA)(set:Int):av->List (List Int)->Int->(Int×Int×Int)×av
 | t,[],_=>((-1,0,0),t)
 | t,r::rest,i=>if (M8 c set t r).1=0 then bO c set (eb c t r) rest (i+1) else ((i,M8 c set t r),t)
structure TG(c:aA)(t:av):Prop where
 slot:0<=t.slot/\t.slot<c.bp.length
 bd:TB t 100
theorem TG.zero{c:aA}(h:WR c):TG c av.zero:=⟨by have:=h.bp;simp[av.zero];omega,by constructor<;>simp[av.zero]⟩
theorem O3(t:av)(x:Int){n j:Nat}(hn:n<5)(hj:j<5):(t.set n x).get j=if j=n then x else t.get j:=by
 have h1:n=0\/n=1\/n=2\/n=3\/n=4:=by omega
 have h2:j=0\/j=1\/j=2\/j=3\/j=4:=by omega
 rcases h1 with rfl|rfl|rfl|rfl|rfl<;>rcases h2 with rfl|rfl|rfl|rfl|rfl<;>rfl
theorem MP(t:av)(n:Nat)(x:Int):(t.set n x).slot=t.slot:=by
 unfold av.set;split<;>rfl
theorem oP{rest:Int}{group:List Int}{t:av}:∀ {n j:Nat},n<=5->j<5->(kG rest group n t).get j=if j<n then dJ rest (decide ((j:Int)∈group)) (t.get j) else t.get j
 | 0,j,_,_=>by simp[kG]
 | n+1,j,hn,hj=>by
  rw[kG,O3 _ _ (by omega) hj];by_cases h:j=n
  ·subst h
   rw[if_pos rfl,if_pos (by omega),oP (by omega) hj,if_neg (by omega)]
  ·rw[if_neg h,oP (by omega) hj]
   by_cases h2:j<n
   ·rw[if_pos h2,if_pos (by omega)]
   ·rw[if_neg h2,if_neg (by omega)]
theorem vS{rest:Int}{group:List Int}{t:av}:∀ {n:Nat},(kG rest group n t).slot=t.slot
 | 0=>rfl
 | n+1=>by rw[kG,MP,vS]
theorem TB.get{t:av}{k:Int}(h:TB t k){j:Nat}(hj:j<5) : -k<=t.get j/\t.get j<=k:=by
 have h2:j=0\/j=1\/j=2\/j=3\/j=4:=by omega
 rcases h2 with rfl|rfl|rfl|rfl|rfl
 ·exact h.m0
 ·exact h.m1
 ·exact h.m2
 ·exact h.m3
 ·exact h.m4
theorem TB.of{t:av}{k:Int}(h:∀ j,j<5 -> -k<=t.get j/\t.get j<=k):TB t k:=
 ⟨h 0 (by decide),h 1 (by decide),h 2 (by decide),h 3 (by decide),h 4 (by decide)⟩
theorem Ab{c:aA}(hR:WR c){t:av}{group:List Int}{k:Int}(hk:3<=k)(h:TB t k):TB (eb c t group) (k+1):=by
 have hm:=hR.bQ;have hr:=hR.rest;refine .of fun j hj=>?_;unfold eb;rw[oP (by omega) hj];have h1:=h.get hj;have h2:(av.mk ((t.slot+1).tmod c.bp.length) t.m0 t.m1 t.m2 t.m3 t.m4).get j=t.get j:=by
  have h2:j=0\/j=1\/j=2\/j=3\/j=4:=by omega
  rcases h2 with rfl|rfl|rfl|rfl|rfl<;>rfl
 show -(k+1)<=(if j<c.bQ.length then dJ c.rest (decide ((j:Int)∈group)) ((av.mk ((t.slot+1).tmod c.bp.length) t.m0 t.m1 t.m2 t.m3 t.m4).get j) else (av.mk ((t.slot+1).tmod c.bp.length) t.m0 t.m1 t.m2 t.m3 t.m4).get j)/\(if j<c.bQ.length then dJ c.rest (decide ((j:Int)∈group)) ((av.mk ((t.slot+1).tmod c.bp.length) t.m0 t.m1 t.m2 t.m3 t.m4).get j) else (av.mk ((t.slot+1).tmod c.bp.length) t.m0 t.m1 t.m2 t.m3 t.m4).get j)<=k+1;rw[h2];unfold dJ;split
 ·split
  ·omega
  ·split
   ·omega
   ·split<;>omega
 ·omega
theorem pA{c:aA}(hR:WR c){t:av}{group:List Int}(h:0<=t.slot):0<=(eb c t group).slot/\(eb c t group).slot<c.bp.length:=by
 have hs:=hR.bp;unfold eb;rw[vS];show 0<=(t.slot+1).tmod _/\(t.slot+1).tmod _<_;exact⟨Int.tmod_nonneg _ (by omega),Int.tmod_lt_of_pos _ (by omega)⟩
def WJ(p:(Int×Int×Int)×av):D:=.tup [i64 p.1.1,i64 p.1.2.1,i64 p.1.2.2,p.2.d]
theorem Pf(c:aA)(hR:WR c)(set:Int)(t:av)(ht:0<=t.slot/\t.slot<c.bp.length)(hb:TB t 100)(rota:List (List Int))(hg:∀ r∈rota,xf c r/\r.length<4000000000000000000)(hl:rota.length<=40) :
  bq Tryz.prog 99 [bC c set,t.d,bt rota] (WJ (bO c set t rota 0)):=by
 refine aI mixed ak Tryz.func99 rfl (ft:=YH) 3 (by decide +kernel) (by rfl) fun {σ} Y st=>?_;conv=>whnf
 refine bx (T:=tys) ak (by exact an mixed ak (by decide +kernel)) rota (fun i (u:av)=>⟨[(0,.d (bC c set)),(4,.ptr 4 0),(9,.ptr 9 0),(12,.d (bt rota)),(13,.d (i64 rota.length)),(14,.d (i64 i))],[(4,.box (.dd u.cells)),(9,.box (.dd av.zero.cells))],st⟩)
  (fun i r u=>bO c set t rota 0=bO c set u r i/\(0<=u.slot/\u.slot<c.bp.length)/\TB u (100+i)) t (Wk.sub (by repeat' first|constructor|simp[PX.get]) (by repeat' first|constructor|simp[PX.get])) ⟨rfl,ht,by simpa using hb⟩ ?_ ?_
 ·intro i x r u hx hi hr he
  obtain⟨he,hs,SP⟩:=he;rw[bO]at he;have Lm:=hg x (List.mem_of_getElem? hx);obtain⟨s,zz⟩:∃ s,c.bp[u.slot.toNat]?=some s:=⟨c.bp[u.slot.toNat]'(by omega),by simp⟩;have hw:M8 c set u x=qs c set u s x:=by simp[M8,mT,zz]
  rw[hw]at he;conv=>whnf
  refine af (fun _=>?_) (fun h=>absurd hi (by have:=of_decide_eq_false h;omega));conv=>whnf
  refine aw hx ?_;conv=>whnf
  refine ai (ds:=[bC c set,u.d,ax x]) (WG c hR set u s zz hs.1 x Lm.1 Lm.2) rfl rfl ?_;conv=>whnf
  refine af (fun h1=>?_) (fun h1=>?_)
  ·have h1:(qs c set u s x).1≠0:=by simpa using h1
   rw[he,if_neg h1];conv=>whnf
   exact ab 0 rfl ⟨⟨rfl,rfl⟩,rfl⟩
  have h1:(qs c set u s x).1=0:=by simpa using h1
  rw[if_pos h1]at he;conv=>whnf
  have pV:Pk u:=⟨by have:=hR.bp;omega,by have:=SP.m0;omega,by have:=SP.m1;omega,by have:=SP.m2;omega,by have:=SP.m3;omega,by have:=SP.m4;omega⟩;refine ai (ds:=[bC c set,u.d,ax x]) (WH c hR set u pV x Lm.2) rfl rfl ?_;conv=>whnf
  refine ae (wrap_i64 (by(try dsimp only);omega)) ?_;conv=>whnf
  refine⟨eb c u x,⟨he,pA hR hs.1,?_⟩,(Wk.sub (by repeat' first|constructor|simp[PX.get]) (by repeat' first|constructor|simp[PX.get]))⟩;have:=Ab hR (group:=x) (k:=100+i) (by omega) SP;rw[show(100:Int)+((i+1:Nat):Int)=100+(i:Int)+1 by omega];exact this
 ·intro u he
  obtain⟨he,_,_⟩:=he;rw[bO]at he;conv=>whnf
  refine af (fun h=>absurd h (by simp)) (fun _=>?_);conv=>whnf
  rw[he];exact ab 0 rfl ⟨⟨rfl,rfl⟩,rfl⟩
theorem kz{c:aA}{rota:List (List Int)}(h:cB c rota=0):WR c/\rota.length<=40/\(∀ r∈rota,kx c.bQ.length (-1) r=0):=by
 unfold cB at h;split at h
 ·rename_i h0
  split at h
  ·cases h
  ·rename_i h1
   refine⟨wR h0,by omega,?_⟩;revert h;clear h1 h0
   induction rota with
   | nil=>intro _ r hr;cases hr
   | cons x l ih=>
    intro h r hr;rw[jY]at h;split at h
    ·rename_i h2
     rcases List.mem_cons.1 hr with rfl|hr
     ·exact h2
     ·exact ih h r hr
    ·rename_i h2;exact absurd h h2
 ·rename_i h0;exact absurd h h0
theorem Ko{many:Int}:∀ {l:List Int} {last:Int},kx many last l=0 -> ∀ m∈l,0<=m/\m<many
 | [],_,_=>by simp
 | i::r,last,h=>by
  rw[kx]at h;split at h;case isFalse=>cases h
  rename_i h1;split at h
  ·cases h
  rw[gv]at h1;intro m hm;rcases List.mem_cons.1 hm with rfl|hm
  ·omega
  ·exact Ko h m hm
theorem wS{c:aA}{rota:List (List Int)}(h:cB c rota=0):∀ r∈rota,xf c r/\r.length<4000000000000000000:=fun r hr=>by
 obtain⟨hR,hl,cn⟩:=kz h;refine⟨Ko (cn r hr),?_⟩;have hm:=hR.bQ;rcases pz (cn r hr) with h1|h1
 ·rw[h1];simp
 ·omega
def Io(c:aA)(rota:List (List Int)):Int×Int×Int×Int:=
 if cB c rota=0 then ((bO c (aN c) .zero rota 0).1.1,(bO c (aN c) .zero rota 0).1.2.1,(bO c (aN c) .zero rota 0).1.2.2,0) else (0,0,0,cB c rota)
theorem aaQ(c:aA)(rota:List (List Int)):bq Tryz.prog 28 [c.d,bt rota] (.tup [i64 (Io c rota).1,i64 (Io c rota).2.1,i64 (Io c rota).2.2.1,i64 (Io c rota).2.2.2]):=by
 refine aI mixed ak Tryz.func28 rfl (ft:=X4) 2 (by decide +kernel) (by rfl) fun {σ} Y st=>?_;conv=>whnf
 refine ai (ET c rota) rfl rfl ?_;conv=>whnf
 unfold Io;by_cases h0:cB c rota=0
 ·obtain⟨hR,hl,_⟩:=kz h0
  have hz:=TG.zero hR;rw[h0];simp only[if_true];conv=>whnf
  refine ai (ds:=[bC c (aN c),av.zero.d,bt rota]) (Pf c hR (aN c) .zero hz.slot hz.bd rota (wS h0) hl) rfl rfl ?_;conv=>whnf
  exact ab 0 rfl ⟨⟨rfl,rfl⟩,rfl⟩
 ·rw[if_neg h0,if_neg h0]
  conv=>whnf
  refine af (fun _=>?_) (fun h1=>absurd h1 (by simp[h0]));conv=>whnf
  exact ab 0 rfl ⟨⟨rfl,rfl⟩,rfl⟩
def gr(c:aA)(rota:List (List Int)):Int:=
 if cB c rota=0 then (if (bO c (aN c) .zero rota 0).1.1≥0 then 9 else 0) else cB c rota
def pN(c:aA)(rota:List (List Int)):av:=(bO c (aN c) .zero rota 0).2
theorem Sr(c:aA)(rota:List (List Int)):bq Tryz.prog 100 [c.d,bt rota] (.tup [if gr c rota=0 then bC c (aN c) else .nilp,if gr c rota=0 then (pN c rota).d else av.zero.d,i64 (gr c rota)]):=by
 refine aI mixed ak Tryz.func100 rfl (ft:=Tp) 2 (by decide +kernel) (by rfl) fun {σ} Y st=>?_;conv=>whnf
 refine ai (ET c rota) rfl rfl ?_;conv=>whnf
 by_cases h0:cB c rota=0
 ·obtain⟨hR,hl,_⟩:=kz h0
  have hz:=TG.zero hR;have hg:gr c rota=if (bO c (aN c) .zero rota 0).1.1≥0 then 9 else 0:=by simp[gr,h0]
  rw[hg];rw[h0];simp only[if_true];conv=>whnf
  refine ai (ds:=[bC c (aN c),av.zero.d,bt rota]) (Pf c hR (aN c) .zero hz.slot hz.bd rota (wS h0) hl) rfl rfl ?_;conv=>whnf
  refine af (fun h1=>?_) (fun h1=>?_)
  ·have h1:(bO c (aN c) .zero rota 0).1.1≥0:=of_decide_eq_true h1
   conv=>whnf
   rw[if_pos h1];exact ab 0 rfl ⟨⟨rfl,rfl⟩,rfl⟩
  have h1:¬ (bO c (aN c) .zero rota 0).1.1≥0:=of_decide_eq_false h1;conv=>whnf
  rw[if_neg h1];exact ab 0 rfl ⟨⟨rfl,rfl⟩,rfl⟩
 ·have hg:gr c rota=cB c rota:=by simp[gr,h0]
  rw[hg];rw[if_neg h0,if_neg h0];conv=>whnf
  refine af (fun _=>?_) (fun h1=>absurd h1 (by simp[h0]));conv=>whnf
  exact ab 0 rfl ⟨⟨rfl,rfl⟩,rfl⟩
def bump(l:List Int)(m:Int):List Int:=l.set m.toNat (l.getD m.toNat 0+1)
def zh(n:Nat)(rota:List (List Int)):List Int:=rota.foldl (fun l r=>r.foldl bump l) (List.replicate n 0)
theorem Kw(l:List Int)(m:Int):(bump l m).length=l.length:=by simp[bump]
theorem aaR(c:aA)(rota:List (List Int)):bq Tryz.prog 30 [c.d,bt rota] (.tup [if gr c rota=0 then ax (zh c.bQ.length rota) else .nils,i64 (gr c rota)]):=by
 refine aI mixed ak Tryz.func30 rfl (ft:=X6) 2 (by decide +kernel) (by rfl) fun {σ} Y st=>?_;conv=>whnf
 refine ai (Sr c rota) rfl rfl ?_;conv=>whnf
 by_cases h0:gr c rota=0
 ·have hE:cB c rota=0:=by
   unfold gr at h0;split at h0
   ·assumption
   ·exact h0
  obtain⟨hR,hl,cn⟩:=kz hE;have hm:=hR.bQ;rw[h0];simp only[if_true];conv=>whnf
  refine aQ (by simp;rfl) ?_;conv=>whnf
  refine aQ (decide_eq_true (by simp only[List.length_map];omega)) ?_;conv=>whnf
  have fF:∀ r∈rota,∀ m∈r,0<=m/\m<c.bQ.length:=fun r hr=>(wS hE r hr).1;refine bx (T:=tys) ak (by exact an mixed ak (by decide +kernel)) rota (fun i (acc:List Int)=>⟨[(9,.sl 27 1 0 c.bQ.length),(28,.d (bt rota)),(29,.d (i64 rota.length)),(30,.d (i64 i))],[(27,.arr 1 (.dd (acc.map fun n=>[i64 n])))],st⟩)
   (fun i r acc=>acc.length=c.bQ.length/\(∀ x∈acc,0<=x/\x<=1000*i)/\zh c.bQ.length rota=r.foldl (fun l r=>r.foldl bump l) acc /\ ∀ x∈r,x∈rota) (List.replicate c.bQ.length 0) ?wk ⟨by simp,by simp,rfl,fun x h=>h⟩ ?_ ?_
  case wk=>exact(Wk.sub (by repeat' first|constructor|simp[PX.get]) ⟨(by first|rfl|simp[PX.get]),trivial⟩)
  ·intro i x r acc hx hi hr he
   obtain⟨ha,hb,he,ji⟩:=he;rw[List.foldl_cons]at he;conv=>whnf
   refine af (fun _=>?_) (fun h=>absurd hi (by have:=of_decide_eq_false h;omega));conv=>whnf
   refine aw hx ?_;conv=>whnf
   have Xk:x∈rota:=ji x (by simp);have HF:x.length<=5:=by
    rcases pz (cn x Xk) with h1|h1
    ·rw[h1];simp
    ·omega
   refine bx (T:=tys) ak (by exact an mixed ak (by decide +kernel)) x (fun k (ac:List Int)=>⟨[(9,.sl 27 1 0 c.bQ.length),(28,.d (bt rota)),(29,.d (i64 rota.length)),(30,.d (i64 i)),(34,.d (ax x)),(35,.d (i64 x.length)),(36,.d (i64 k))],[(27,.arr 1 (.dd (ac.map fun n=>[i64 n])))],st⟩)
    (fun k r2 ac=>ac.length=c.bQ.length/\(∀ y∈ac,0<=y/\y<=1000*(i:Int)+k)/\zh c.bQ.length rota=r.foldl (fun l r=>r.foldl bump l) (r2.foldl bump ac)) acc ?wk ⟨ha,by simpa using hb,he⟩ ?_ ?_
   case wk=>exact(Wk.sub (by repeat' first|constructor|simp[PX.get]) ⟨(by first|rfl|simp[PX.get]),trivial⟩)
   ·intro k m r2 ac FC hk wK uC
    obtain⟨Y1,mn,kL⟩:=uC;rw[List.foldl_cons]at kL;obtain⟨Lv,zx⟩:=fF x Xk m (List.mem_of_getElem? FC);have uF:m.toNat<ac.length:=by omega
    have hv:ac[m.toNat]?=some ac[m.toNat]:=List.getElem?_eq_getElem uF;obtain⟨hv0,Vi⟩:=mn ac[m.toNat] (List.getElem_mem ..);conv=>whnf
    refine af (fun _=>?_) (fun h=>absurd hk (by have:=of_decide_eq_false h;omega));conv=>whnf
    refine aw FC ?_;conv=>whnf
    have EZ:(decide (0<=m)&&decide (m<(c.bQ.length:Int)))=true:=by simp;omega
    refine aQ EZ ?_;conv=>whnf
    refine cD [i64 ac[m.toNat]] (by simp[hv]) ?_;conv=>whnf
    refine ae (wrap_i64 (by(try dsimp only);omega)) ?_;conv=>whnf
    refine aQ EZ ?_;conv=>whnf
    refine cD [i64 ac[m.toNat]] (by simp[hv]) ?_;conv=>whnf
    refine ae (wrap_i64 (by(try dsimp only);omega)) ?_;conv=>whnf
    refine⟨bump ac m,⟨by rw[Kw];exact Y1,fun y hy=>?_,kL⟩,(Wk.sub ⟨rfl,rfl,rfl,rfl,rfl,rfl,rfl,trivial⟩ ⟨?_,trivial⟩)⟩
    ·unfold bump at hy
     rcases List.mem_or_eq_of_mem_set hy with hy|rfl
     ·have:=mn y hy;omega
     ·simp only[List.getD_eq_getElem?_getD,hv,Option.getD_some];omega
    ·simp only[PX.get,bump,List.map_set,List.getD_eq_getElem?_getD,hv,Option.getD_some,Nat.zero_add]
     rfl
   ·intro ac uC
    obtain⟨Y1,mn,kL⟩:=uC;conv=>whnf
    refine af (fun h=>absurd h (by simp)) (fun _=>?_);conv=>whnf
    refine ae (wrap_i64 (by(try dsimp only);omega)) ?_;conv=>whnf
    refine⟨ac,⟨Y1,fun y hy=>?_,kL,fun z hz=>ji z (by simp[hz])⟩,(Wk.sub (by repeat' first|constructor|simp[PX.get]) ⟨(by first|rfl|simp[PX.get]),trivial⟩)⟩;have:=mn y hy;omega
  ·intro acc he
   obtain⟨ha,_,he,_⟩:=he;conv=>whnf
   refine af (fun h=>absurd h (by simp)) (fun _=>?_);conv=>whnf
   refine ab 1 (ds:=[ax acc,i64 0]) ?_ ⟨⟨?_,rfl⟩,rfl⟩
   ·have e2:c.bQ.length.ble c.bQ.length=true:=by rw[Nat.ble_eq];exact Nat.le_refl _
    simp[cI,dA,ek,PX.get,ax,e2,List.take_of_length_le,ha]
   ·have he:zh c.bQ.length rota=acc:=he
    simp[js,he,h0]
 ·rw[if_neg h0,if_neg h0]
  conv=>whnf
  refine af (fun _=>?_) (fun h1=>absurd h1 (by simp[h0]));conv=>whnf
  rw[if_neg h0];exact ab 0 rfl ⟨⟨rfl,rfl⟩,rfl⟩
def et(c:aA)(set:Int)(t:av)(s:Slot):Nat->List Int->Nat->List (List Int×av)
 | 0,p,_=>if (qs c set t s p).1=0 then [(p,eb c t p)] else []
 | left+1,p,start=>(List.range' start (c.bQ.length-start)).flatMap fun(i:Nat)=>et c set t s left (p ++ [(i:Int)]) (i+1)
def cW(c:aA)(set:Int)(t:av):List (List Int×av):=et c set t (mT c t) (mT c t).bQ.toNat [] 0
def vx(x:List Int×av):List V×Heap:=([.sl 1000000 1 0 x.1.length,.d x.2.d],[(1000000,.arr 1 (.dd (ba x.1)))])
def NV(c:aA)(set:Int)(t:av):List V:=[.ptr 1000000 0,.d (.ref [bC c set]),.d (.ref t.cells),.ptr 1000001 0,.ptr 1000002 0]
def BS(c:aA)(set:Int)(t:av)(start:Nat):List V:=[.d (i64 start),.ptr 1000000 0,.d (.ref [bC c set]),.d (.ref t.cells),.ptr 1000001 0,.ptr 1000002 0]
def Dr(c:aA)(set:Int)(t:av)(k n:Nat)(p:List Int):Heap:=
 [(1000000,.box (.vv [.sl k 1 0 n])),(1000001,.box (.vv [.yld])),(1000002,.box (.vv [.clo 128 (NV c set t)])),(k,.arr 1 (.dd (ba p)))]
def BQ:FT:=⟨K3.ks,cut K3.tb 3⟩
def aaF:RT:=match get K3.tb 3 with
 | some r=>r
 | none=>⟨[],[]⟩
def GW(c:aA)(set:Int)(t:av)(s:Slot)(left:Nat):Prop:=
 ∀ (start:Nat) (p:List Int),p.length+left=s.bQ.toNat->start<=c.bQ.length->xf c p -> ∀ {σ:Type} (Y:Hd σ) (s0:σ) (rest:List (List V×Heap)) (Q:σ->Prop),
  iterate Y.np ((et c set t s left p start).map vx++rest) s0 Q->Nx Tryz.prog Y 128 (BS c set t start) (Dr c set t 1000003 p.length p) s0 fun v h' s'=>
   ∃ q,h'=Dr c set t 2000000 q.length q/\((v = .d (.bool true)/\q=p/\iterate Y.np rest s' Q)\/(v = .d (.bool false)/\Q s'))
theorem Fp{c:aA}(hR:WR c){set:Int}{t:av}{s:Slot}(hs:c.bp[t.slot.toNat]?=some s)(ht:0<=t.slot)(pV:Pk t)(AJ:1<=s.bQ/\s.bQ<=2):GW c set t s 0:=by
 intro start p hp jA DK σ Y s0 rest Q hit;refine dQ mixed ak Tryz.func128 rfl (ft:=BQ) (args:=BS c set t start) (show nS BQ Tryz.f128 6=true from by decide +kernel) ?_;generalize Y.np=Y at hit ⊢;conv=>whnf
 rw[show decide (0<=t.slot)=true from decide_eq_true ht,show(List.map Slot.cells c.bp)[t.slot.toNat]?=some s.cells from by simp[hs]];conv=>whnf
 have rR:(ba p).length=p.length:=by simp[ba]
 refine af (fun h0=>?_) (fun h0=>absurd h0 (by simp;omega));conv=>whnf
 refine aB (ds:=[bC c set,t.d,ax p]) (WG c hR set t s hs ht p DK (by omega)) rfl 1 (az (g:=_) rfl (az rfl (az (bH rfl (by simp[ba])) rfl))) ?_;conv=>whnf
 refine CT mixed ak aaF 9 (by decide +kernel) (by decide +kernel) ?_;conv=>whnf
 have wG:et c set t s 0 p start=if (qs c set t s p).1=0 then [(p,eb c t p)] else []:=rfl
 refine af (fun h1=>?_) (fun h1=>?_)
 ·have h1:¬ (qs c set t s p).1=0:=by simpa using h1
  rw[wG,if_neg h1]at hit;conv=>whnf
  refine aC [1000003] [.d (.bool true)] (Dr c set t 2000000 p.length p) rfl ⟨rfl,rfl,rfl,rfl,trivial⟩ rfl ?_;exact⟨p,rfl,.inl ⟨rfl,rfl,hit⟩⟩
 ·have h1:(qs c set t s p).1=0:=by simpa using h1
  rw[wG,if_pos h1]at hit;conv=>whnf
  refine a7 (ds:=[bC c set,t.d,ax p]) (WH c hR set t pV p (by omega)) rfl 1 (az (g:=_) rfl (az rfl (az (bH rfl (by simp[ba])) rfl))) ?_;conv=>whnf
  refine Kh [1000003] (args0:=(vx (p,eb c t p)).1) (h0:=(vx (p,eb c t p)).2) hit rfl ⟨_,_,rfl,rfl,rfl⟩ rfl rfl ?_;rintro v h1 s' ⟨rfl,hv⟩;rcases hv with⟨rfl,hi⟩|⟨rfl,hq⟩
  ·refine⟨rfl,?_⟩
   conv=>whnf
   refine aC [1000003] [.d (.bool true)] (Dr c set t 2000000 p.length p) rfl ⟨rfl,rfl,rfl,rfl,trivial⟩ rfl ?_;exact⟨p,rfl,.inl ⟨rfl,rfl,hi⟩⟩
  ·refine⟨rfl,?_⟩
   conv=>whnf
   refine aC [1000003] [.d (.bool false)] (Dr c set t 2000000 p.length p) rfl ⟨rfl,rfl,rfl,rfl,trivial⟩ rfl ?_;exact⟨p,rfl,.inr ⟨rfl,hq⟩⟩
theorem Fo{c:aA}(hR:WR c){set:Int}{t:av}{s:Slot}(hs:c.bp[t.slot.toNat]?=some s)(ht:0<=t.slot)(AJ:1<=s.bQ/\s.bQ<=2){left:Nat}(ihl:GW c set t s left):GW c set t s (left+1):=by
 intro start p hp jA DK σ Y s0 rest Q hit;refine dQ mixed ak Tryz.func128 rfl (ft:=BQ) (args:=BS c set t start) (show nS BQ Tryz.f128 6=true from by decide +kernel) ?_;generalize Y.np=Y at hit ⊢;conv=>whnf
 rw[show decide (0<=t.slot)=true from decide_eq_true ht,show(List.map Slot.cells c.bp)[t.slot.toNat]?=some s.cells from by simp[hs]];conv=>whnf
 have rR:(ba p).length=p.length:=by simp[ba]
 have UX:=hR.bQ;refine af (fun h0=>absurd h0 (by simp;omega)) (fun h0=>?_);conv=>whnf
 have wG:et c set t s (left+1) p start=(List.range' start (c.bQ.length-start)).flatMap fun(i:Nat)=>et c set t s left (p ++ [(i:Int)]) (i+1):=rfl;rw[wG]at hit;refine dh (T:=tys) ak (by exact an mixed ak (by decide +kernel)) (α:=Nat×σ)
  (fun x=>⟨[(1,.ptr 1000000 0),(2,.d (.ref [bC c set])),(3,.d (.ref t.cells)),(4,.ptr 1000001 0),(5,.ptr 1000002 0),(7,.d (.bool false)),(10,.d (i64 x.1))],Dr c set t 900000 p.length p,x.2⟩)
  (fun x=>x.1<=c.bQ.length/\iterate Y (((List.range' x.1 (c.bQ.length-x.1)).flatMap fun(i:Nat)=>et c set t s left (p ++ [(i:Int)]) (i+1)).map vx++rest) x.2 Q) (fun x=>c.bQ.length-x.1) (start,s0)
  ((Wk.move 1000003 900000 rfl rfl).trans (Wk.sub ⟨rfl,rfl,rfl,rfl,rfl,rfl,rfl,trivial⟩ ⟨rfl,rfl,rfl,rfl,trivial⟩)) ⟨jA,hit⟩ ?_
 clear hit jA s0;rintro ⟨i,s0⟩ ⟨hi,hit⟩;simp only at hi hit;conv=>whnf
 refine af (fun h1=>?_) (fun h1=>?_)
 ·have h1:i<c.bQ.length:=by have:=of_decide_eq_true h1;simp at this;omega
  obtain⟨m,zx⟩:∃ m,c.bQ.length-i=m+1:=⟨c.bQ.length-i-1,by omega⟩;rw[zx,List.range'_succ,List.flatMap_cons,List.map_append,List.append_assoc]at hit;conv=>whnf
  refine ag rfl ?_;conv=>whnf
  refine Js.mk (by simp[aK.len,rR]) ?_;conv=>whnf
  refine aQ (by simp[aK.len,aK.part,rR];omega) ?_;conv=>whnf
  refine ao (((i+1:Nat):Int)) (by(try dsimp only);omega) (wrap_i64 (by(try dsimp only);omega)) ?_;conv=>whnf
  have ih:=ihl (i+1) (p ++ [(i:Int)]) (by simp;omega) (by omega) (by
   intro j hj;rcases List.mem_append.1 hj with hj|hj
   ·exact DK j hj
   ·rw[List.mem_singleton]at hj;subst hj;omega) Y s0 _ Q hit.np
  refine qv ih [1000000,1000001,1000002,56] rfl ⟨_,_,rfl,(by
    show some (Obj.box (Cells.vv [V.sl 56 1 0 ((((ba p).drop 0).take p.length).length+1)]))=some (Obj.box (Cells.vv [V.sl 56 1 0 (p ++ [(i:Int)]).length]));simp[ba]),_,_,rfl,rfl,_,_,rfl,rfl,_,_,rfl,(by
    show some (Obj.arr 1 (aK.dd ((((ba p).drop 0).take p.length) ++ [[i64 (i:Int)]])))=some (Obj.arr 1 (aK.dd (ba (p ++ [(i:Int)]))));simp[ba,List.take_of_length_le]),rfl⟩ rfl rfl ?_
  rintro v h1 s' ⟨q,rfl,ri⟩;rw[lP]at ri;rcases ri with⟨rfl,rfl,uC⟩|⟨rfl,hq⟩
  ·refine⟨rfl,?_⟩
   conv=>whnf
   refine ao (p.length:Int) (by simp) (wrap_i64 (by omega)) ?_;conv=>whnf
   refine aQ (by simp;omega) ?_;conv=>whnf
   refine ao (((i+1:Nat):Int)) (by(try dsimp only);omega) (wrap_i64 (by(try dsimp only);omega)) ?_;conv=>whnf
   have FC:c.bQ.length-(i+1)=m:=by omega
   refine⟨(i+1,s'),by simp only;omega,⟨by simp only;omega,by simp only;rw[FC];exact uC⟩,(Wk.move 103840 900000 rfl rfl).trans ((Wk.shrink 900000 p.length rfl).trans ?_)⟩;have JZ:(ba (p ++ [(i:Int)])).take p.length=ba p:=by simp[ba,List.take_left']
   refine Wk.sub ⟨rfl,rfl,rfl,rfl,rfl,rfl,rfl,trivial⟩ ⟨?_,rfl,?_,?_,trivial⟩
   ·rfl
   ·exact bK rfl ⟨⟨rfl,⟨rfl,rfl⟩,rfl,rfl,⟨rfl,rfl⟩,⟨rfl,rfl⟩,trivial⟩,trivial⟩
   ·show some (Obj.arr 1 (aK.dd ((ba (p ++ [(i:Int)])).take p.length)))=_
    rw[JZ]
  ·refine⟨rfl,?_⟩
   conv=>whnf
   refine aC [103840] [.d (.bool false)] (Dr c set t 2000000 q.length q) rfl ⟨bK rfl ⟨⟨rfl,rfl,rfl,rfl⟩,trivial⟩,rfl,bK rfl ⟨⟨rfl,⟨rfl,rfl⟩,rfl,rfl,⟨rfl,rfl⟩,⟨rfl,rfl⟩,trivial⟩,trivial⟩,rfl,trivial⟩ rfl ?_;exact⟨q,rfl,.inr ⟨rfl,hq⟩⟩
 ·have h1:¬ i<c.bQ.length:=by have:=of_decide_eq_false h1;simp at this;omega
  rw[show c.bQ.length-i=0 by omega]at hit;conv=>whnf
  refine aC [900000] [.d (.bool true)] (Dr c set t 2000000 p.length p) rfl ⟨bK rfl ⟨⟨rfl,rfl,rfl,rfl⟩,trivial⟩,rfl,bK rfl ⟨⟨rfl,⟨rfl,rfl⟩,rfl,rfl,⟨rfl,rfl⟩,⟨rfl,rfl⟩,trivial⟩,trivial⟩,rfl,trivial⟩ rfl ?_;exact⟨p,rfl,.inl ⟨rfl,rfl,hit⟩⟩
theorem Um{c:aA}(hR:WR c){set:Int}{t:av}{s:Slot}(hs:c.bp[t.slot.toNat]?=some s)(ht:0<=t.slot)(pV:Pk t)(AJ:1<=s.bQ/\s.bQ<=2)(left:Nat):GW c set t s left:=by
 induction left with
 | zero=>exact Fp hR hs ht pV AJ
 | succ n ih=>exact Fo hR hs ht AJ ih
theorem GO(c:aA)(set:Int)(t:av):bq Tryz.prog 64 [bC c set,t.d] (.clo 127 [.ref [bC c set],.ref t.cells]):=by
 refine aI mixed ak Tryz.func64 rfl (ft:=Yy) 2 (by decide +kernel) (by rfl) fun {σ} Y st=>?_;conv=>whnf
 exact ab 1 rfl ⟨⟨rfl,rfl⟩,rfl⟩
theorem mb(c:aA)(hR:WR c)(set:Int)(t:av)(pV:Pk t)(CM:t.slot<c.bp.length):Yields Tryz.prog 127 [.ref [bC c set],.ref t.cells] ((cW c set t).map vx):=by
 intro γ Y g0 Q hit;obtain⟨s,hs⟩:∃ s,c.bp[t.slot.toNat]?=some s:=⟨c.bp[t.slot.toNat]'(by have:=pV.slot;omega),by simp⟩;have ht:=pV.slot.1;have AJ:=(hR.slot s (List.mem_of_getElem? hs)).1;have hsa:mT c t=s:=by simp[mT,hs]
 refine dQ mixed ak Tryz.func127 rfl (ft:=PB) (args:=[.yld,.d (.ref [bC c set]),.d (.ref t.cells)]) (show nS PB Tryz.f127 3=true from by decide +kernel) ?_;replace hit:=hit.np;generalize Y.np=Y at hit ⊢;conv=>whnf
 have ZB:iterate Y ((et c set t s s.bQ.toNat [] 0).map vx ++ []) g0 Q:=by
  rw[List.append_nil];unfold cW at hit;rw[hsa]at hit;exact hit
 refine qv (Um hR hs ht pV AJ s.bQ.toNat 0 [] (by simp) (by omega) (by intro m hm;cases hm) Y g0 [] Q ZB.np) [4,3,5,6] rfl ⟨_,_,rfl,rfl,_,_,rfl,rfl,_,_,rfl,rfl,_,_,rfl,rfl,rfl⟩ rfl rfl ?_;rintro v h1 s' ⟨q,rfl,ri⟩;rcases ri with⟨rfl,_,hi⟩|⟨rfl,hq⟩
 ·refine⟨rfl,?_⟩
  conv=>whnf
  exact ab 0 rfl ⟨rfl,hi⟩
 ·refine⟨rfl,?_⟩
  conv=>whnf
  exact ab 0 rfl ⟨rfl,hq⟩
end Go.PX
