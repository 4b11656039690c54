import Derived.Test.YtdijdldheikcmaaGreatPxM
import Derived.Test.YtdijdldheikcmaaGreatPxL
import Derived.Test.YtdijdldheikcmaaGreatPxI
set_option linter.all false
set_option maxRecDepth 10000
namespace Go.PX
open Go.Proofs
def eI(t:Nat)(x y:Int):Prop:=
 match t with
 | 0=>0<195*y-981*x
 | 1=>195*y-981*x<=0/\0<383*y-924*x
 | 2=>383*y-924*x<=0/\0<556*y-831*x
 | 3=>556*y-831*x<=0/\0<707*y-707*x
 | 4=>707*y-707*x<=0/\0<831*y-556*x
 | 5=>831*y-556*x<=0/\0<924*y-383*x
 | 6=>924*y-383*x<=0/\0<981*y-195*x
 | 7=>981*y-195*x<=0
 | _=>False
theorem nr{x y:Int}(hx:0<=x)(hy:0<y)(m:Int):∃ t:Nat,t<8/\fK ⟨x,y⟩ cq m=m+t+1/\eI t x y:=by
 by_cases c1:195*y-981*x<=0;case neg=>
  have h0:aC ⟨0,1000⟩ (⟨x,y⟩:Pt)<=0:=by show 0*y-1000*x<=0;omega
  have h1:¬ aC ⟨195,981⟩ (⟨x,y⟩:Pt)<=0:=by show ¬ 195*y-981*x<=0;omega
  have h2:¬ aC ⟨383,924⟩ (⟨x,y⟩:Pt)<=0:=by show ¬ 383*y-924*x<=0;omega
  have h3:¬ aC ⟨556,831⟩ (⟨x,y⟩:Pt)<=0:=by show ¬ 556*y-831*x<=0;omega
  have h4:¬ aC ⟨707,707⟩ (⟨x,y⟩:Pt)<=0:=by show ¬ 707*y-707*x<=0;omega
  have h5:¬ aC ⟨831,556⟩ (⟨x,y⟩:Pt)<=0:=by show ¬ 831*y-556*x<=0;omega
  have h6:¬ aC ⟨924,383⟩ (⟨x,y⟩:Pt)<=0:=by show ¬ 924*y-383*x<=0;omega
  have h7:¬ aC ⟨981,195⟩ (⟨x,y⟩:Pt)<=0:=by show ¬ 981*y-195*x<=0;omega
  refine⟨0,by omega,?_,(by show _<_;omega)⟩;show fK _ [⟨0,1000⟩,⟨195,981⟩,⟨383,924⟩,⟨556,831⟩,⟨707,707⟩,⟨831,556⟩,⟨924,383⟩,⟨981,195⟩] m=_;simp only[fK,if_pos h0,if_neg h1,if_neg h2,if_neg h3,if_neg h4,if_neg h5,if_neg h6,if_neg h7];omega
 by_cases c2:383*y-924*x<=0;case neg=>
  have h0:aC ⟨0,1000⟩ (⟨x,y⟩:Pt)<=0:=by show 0*y-1000*x<=0;omega
  have h1:aC ⟨195,981⟩ (⟨x,y⟩:Pt)<=0:=by show 195*y-981*x<=0;omega
  have h2:¬ aC ⟨383,924⟩ (⟨x,y⟩:Pt)<=0:=by show ¬ 383*y-924*x<=0;omega
  have h3:¬ aC ⟨556,831⟩ (⟨x,y⟩:Pt)<=0:=by show ¬ 556*y-831*x<=0;omega
  have h4:¬ aC ⟨707,707⟩ (⟨x,y⟩:Pt)<=0:=by show ¬ 707*y-707*x<=0;omega
  have h5:¬ aC ⟨831,556⟩ (⟨x,y⟩:Pt)<=0:=by show ¬ 831*y-556*x<=0;omega
  have h6:¬ aC ⟨924,383⟩ (⟨x,y⟩:Pt)<=0:=by show ¬ 924*y-383*x<=0;omega
  have h7:¬ aC ⟨981,195⟩ (⟨x,y⟩:Pt)<=0:=by show ¬ 981*y-195*x<=0;omega
  refine⟨1,by omega,?_,⟨by omega,by omega⟩⟩;show fK _ [⟨0,1000⟩,⟨195,981⟩,⟨383,924⟩,⟨556,831⟩,⟨707,707⟩,⟨831,556⟩,⟨924,383⟩,⟨981,195⟩] m=_;simp only[fK,if_pos h0,if_pos h1,if_neg h2,if_neg h3,if_neg h4,if_neg h5,if_neg h6,if_neg h7];omega
 by_cases c3:556*y-831*x<=0;case neg=>
  have h0:aC ⟨0,1000⟩ (⟨x,y⟩:Pt)<=0:=by show 0*y-1000*x<=0;omega
  have h1:aC ⟨195,981⟩ (⟨x,y⟩:Pt)<=0:=by show 195*y-981*x<=0;omega
  have h2:aC ⟨383,924⟩ (⟨x,y⟩:Pt)<=0:=by show 383*y-924*x<=0;omega
  have h3:¬ aC ⟨556,831⟩ (⟨x,y⟩:Pt)<=0:=by show ¬ 556*y-831*x<=0;omega
  have h4:¬ aC ⟨707,707⟩ (⟨x,y⟩:Pt)<=0:=by show ¬ 707*y-707*x<=0;omega
  have h5:¬ aC ⟨831,556⟩ (⟨x,y⟩:Pt)<=0:=by show ¬ 831*y-556*x<=0;omega
  have h6:¬ aC ⟨924,383⟩ (⟨x,y⟩:Pt)<=0:=by show ¬ 924*y-383*x<=0;omega
  have h7:¬ aC ⟨981,195⟩ (⟨x,y⟩:Pt)<=0:=by show ¬ 981*y-195*x<=0;omega
  refine⟨2,by omega,?_,⟨by omega,by omega⟩⟩;show fK _ [⟨0,1000⟩,⟨195,981⟩,⟨383,924⟩,⟨556,831⟩,⟨707,707⟩,⟨831,556⟩,⟨924,383⟩,⟨981,195⟩] m=_;simp only[fK,if_pos h0,if_pos h1,if_pos h2,if_neg h3,if_neg h4,if_neg h5,if_neg h6,if_neg h7];omega
 by_cases c4:707*y-707*x<=0;case neg=>
  have h0:aC ⟨0,1000⟩ (⟨x,y⟩:Pt)<=0:=by show 0*y-1000*x<=0;omega
  have h1:aC ⟨195,981⟩ (⟨x,y⟩:Pt)<=0:=by show 195*y-981*x<=0;omega
  have h2:aC ⟨383,924⟩ (⟨x,y⟩:Pt)<=0:=by show 383*y-924*x<=0;omega
  have h3:aC ⟨556,831⟩ (⟨x,y⟩:Pt)<=0:=by show 556*y-831*x<=0;omega
  have h4:¬ aC ⟨707,707⟩ (⟨x,y⟩:Pt)<=0:=by show ¬ 707*y-707*x<=0;omega
  have h5:¬ aC ⟨831,556⟩ (⟨x,y⟩:Pt)<=0:=by show ¬ 831*y-556*x<=0;omega
  have h6:¬ aC ⟨924,383⟩ (⟨x,y⟩:Pt)<=0:=by show ¬ 924*y-383*x<=0;omega
  have h7:¬ aC ⟨981,195⟩ (⟨x,y⟩:Pt)<=0:=by show ¬ 981*y-195*x<=0;omega
  refine⟨3,by omega,?_,⟨by omega,by omega⟩⟩;show fK _ [⟨0,1000⟩,⟨195,981⟩,⟨383,924⟩,⟨556,831⟩,⟨707,707⟩,⟨831,556⟩,⟨924,383⟩,⟨981,195⟩] m=_;simp only[fK,if_pos h0,if_pos h1,if_pos h2,if_pos h3,if_neg h4,if_neg h5,if_neg h6,if_neg h7];omega
 by_cases c5:831*y-556*x<=0;case neg=>
  have h0:aC ⟨0,1000⟩ (⟨x,y⟩:Pt)<=0:=by show 0*y-1000*x<=0;omega
  have h1:aC ⟨195,981⟩ (⟨x,y⟩:Pt)<=0:=by show 195*y-981*x<=0;omega
  have h2:aC ⟨383,924⟩ (⟨x,y⟩:Pt)<=0:=by show 383*y-924*x<=0;omega
  have h3:aC ⟨556,831⟩ (⟨x,y⟩:Pt)<=0:=by show 556*y-831*x<=0;omega
  have h4:aC ⟨707,707⟩ (⟨x,y⟩:Pt)<=0:=by show 707*y-707*x<=0;omega
  have h5:¬ aC ⟨831,556⟩ (⟨x,y⟩:Pt)<=0:=by show ¬ 831*y-556*x<=0;omega
  have h6:¬ aC ⟨924,383⟩ (⟨x,y⟩:Pt)<=0:=by show ¬ 924*y-383*x<=0;omega
  have h7:¬ aC ⟨981,195⟩ (⟨x,y⟩:Pt)<=0:=by show ¬ 981*y-195*x<=0;omega
  refine⟨4,by omega,?_,⟨by omega,by omega⟩⟩;show fK _ [⟨0,1000⟩,⟨195,981⟩,⟨383,924⟩,⟨556,831⟩,⟨707,707⟩,⟨831,556⟩,⟨924,383⟩,⟨981,195⟩] m=_;simp only[fK,if_pos h0,if_pos h1,if_pos h2,if_pos h3,if_pos h4,if_neg h5,if_neg h6,if_neg h7];omega
 by_cases c6:924*y-383*x<=0;case neg=>
  have h0:aC ⟨0,1000⟩ (⟨x,y⟩:Pt)<=0:=by show 0*y-1000*x<=0;omega
  have h1:aC ⟨195,981⟩ (⟨x,y⟩:Pt)<=0:=by show 195*y-981*x<=0;omega
  have h2:aC ⟨383,924⟩ (⟨x,y⟩:Pt)<=0:=by show 383*y-924*x<=0;omega
  have h3:aC ⟨556,831⟩ (⟨x,y⟩:Pt)<=0:=by show 556*y-831*x<=0;omega
  have h4:aC ⟨707,707⟩ (⟨x,y⟩:Pt)<=0:=by show 707*y-707*x<=0;omega
  have h5:aC ⟨831,556⟩ (⟨x,y⟩:Pt)<=0:=by show 831*y-556*x<=0;omega
  have h6:¬ aC ⟨924,383⟩ (⟨x,y⟩:Pt)<=0:=by show ¬ 924*y-383*x<=0;omega
  have h7:¬ aC ⟨981,195⟩ (⟨x,y⟩:Pt)<=0:=by show ¬ 981*y-195*x<=0;omega
  refine⟨5,by omega,?_,⟨by omega,by omega⟩⟩;show fK _ [⟨0,1000⟩,⟨195,981⟩,⟨383,924⟩,⟨556,831⟩,⟨707,707⟩,⟨831,556⟩,⟨924,383⟩,⟨981,195⟩] m=_;simp only[fK,if_pos h0,if_pos h1,if_pos h2,if_pos h3,if_pos h4,if_pos h5,if_neg h6,if_neg h7];omega
 by_cases c7:981*y-195*x<=0;case neg=>
  have h0:aC ⟨0,1000⟩ (⟨x,y⟩:Pt)<=0:=by show 0*y-1000*x<=0;omega
  have h1:aC ⟨195,981⟩ (⟨x,y⟩:Pt)<=0:=by show 195*y-981*x<=0;omega
  have h2:aC ⟨383,924⟩ (⟨x,y⟩:Pt)<=0:=by show 383*y-924*x<=0;omega
  have h3:aC ⟨556,831⟩ (⟨x,y⟩:Pt)<=0:=by show 556*y-831*x<=0;omega
  have h4:aC ⟨707,707⟩ (⟨x,y⟩:Pt)<=0:=by show 707*y-707*x<=0;omega
  have h5:aC ⟨831,556⟩ (⟨x,y⟩:Pt)<=0:=by show 831*y-556*x<=0;omega
  have h6:aC ⟨924,383⟩ (⟨x,y⟩:Pt)<=0:=by show 924*y-383*x<=0;omega
  have h7:¬ aC ⟨981,195⟩ (⟨x,y⟩:Pt)<=0:=by show ¬ 981*y-195*x<=0;omega
  refine⟨6,by omega,?_,⟨by omega,by omega⟩⟩;show fK _ [⟨0,1000⟩,⟨195,981⟩,⟨383,924⟩,⟨556,831⟩,⟨707,707⟩,⟨831,556⟩,⟨924,383⟩,⟨981,195⟩] m=_;simp only[fK,if_pos h0,if_pos h1,if_pos h2,if_pos h3,if_pos h4,if_pos h5,if_pos h6,if_neg h7];omega
 have h0:aC ⟨0,1000⟩ (⟨x,y⟩:Pt)<=0:=by show 0*y-1000*x<=0;omega
 have h1:aC ⟨195,981⟩ (⟨x,y⟩:Pt)<=0:=by show 195*y-981*x<=0;omega
 have h2:aC ⟨383,924⟩ (⟨x,y⟩:Pt)<=0:=by show 383*y-924*x<=0;omega
 have h3:aC ⟨556,831⟩ (⟨x,y⟩:Pt)<=0:=by show 556*y-831*x<=0;omega
 have h4:aC ⟨707,707⟩ (⟨x,y⟩:Pt)<=0:=by show 707*y-707*x<=0;omega
 have h5:aC ⟨831,556⟩ (⟨x,y⟩:Pt)<=0:=by show 831*y-556*x<=0;omega
 have h6:aC ⟨924,383⟩ (⟨x,y⟩:Pt)<=0:=by show 924*y-383*x<=0;omega
 have h7:aC ⟨981,195⟩ (⟨x,y⟩:Pt)<=0:=by show 981*y-195*x<=0;omega
 refine⟨7,by omega,?_,(by show _<=_;omega)⟩;show fK _ [⟨0,1000⟩,⟨195,981⟩,⟨383,924⟩,⟨556,831⟩,⟨707,707⟩,⟨831,556⟩,⟨924,383⟩,⟨981,195⟩] m=_;simp only[fK,if_pos h0,if_pos h1,if_pos h2,if_pos h3,if_pos h4,if_pos h5,if_pos h6,if_pos h7];omega
def a9:List Pt:=[⟨0,1000⟩,⟨195,981⟩,⟨383,924⟩,⟨556,831⟩,⟨707,707⟩,⟨831,556⟩,⟨924,383⟩,⟨981,195⟩,⟨1000,0⟩,⟨981,-195⟩,⟨924,-383⟩,⟨831,-556⟩,⟨707,-707⟩,⟨556,-831⟩,⟨383,-924⟩,⟨195,-981⟩,⟨0,-1000⟩,⟨-195,-981⟩,⟨-383,-924⟩,⟨-556,-831⟩,⟨-707,-707⟩,⟨-831,-556⟩,⟨-924,-383⟩,⟨-981,-195⟩,⟨-1000,0⟩,⟨-981,195⟩,⟨-924,383⟩,⟨-831,556⟩,⟨-707,707⟩,⟨-556,831⟩,⟨-383,924⟩,⟨-195,981⟩]
theorem Ee:∀ p:Nat,p<32->(pb p).x=((a9[p]?).getD ⟨0,0⟩).x/\(pb p).y=((a9[p]?).getD ⟨0,0⟩).y:=by decide +kernel
theorem Ed(p:Nat)(hp:p<32):pb p=(a9[p]?).getD ⟨0,0⟩:=by
 obtain⟨h1,h2⟩:=Ee p hp;cases hv:pb p
 cases hw:(a9[p]?).getD ⟨0,0⟩
 rw[hv,hw]at h1 h2;simp only at h1 h2;rw[h1,h2]
def aJ(v:Pt)(p:Nat):Prop:=0<aC ((a9[p]?).getD ⟨0,0⟩) v\/aC ((a9[(p+1)%32]?).getD ⟨0,0⟩) v<=0
set_option maxHeartbeats 4000000 in
theorem Uc{x y:Int}(hx:0<=x)(hy:0<y)(t:Nat)(ht:t<8)(hl:eI t (x) (y))(p:Nat):(p<0+t->aJ ⟨x,y⟩ p)/\(p=0+t->¬ aJ ⟨x,y⟩ p):=by
 have e:∀ a b:Int,aC ⟨a,b⟩ (⟨x,y⟩:Pt)=a*y-b*x:=fun _ _=>rfl
 match t,ht,hl with
 | 0,_,hl=>
  simp only[eI]at hl;refine⟨fun hp=>?_,fun hp=>?_⟩
  ·omega
  ·have hq:p=0:=by omega
   subst hq;simp only[aJ,a9,List.getElem?_cons_succ,List.getElem?_cons_zero,Option.getD_some,Nat.reduceAdd,Nat.reduceMod,e];omega
 | 1,_,hl=>
  simp only[eI]at hl;refine⟨fun hp=>?_,fun hp=>?_⟩
  ·have hq:p=0:=by omega
   rcases hq with rfl<;>
   ·simp only[aJ,a9,List.getElem?_cons_succ,List.getElem?_cons_zero,Option.getD_some,Nat.reduceAdd,Nat.reduceMod,e]
    omega
  ·have hq:p=1:=by omega
   subst hq;simp only[aJ,a9,List.getElem?_cons_succ,List.getElem?_cons_zero,Option.getD_some,Nat.reduceAdd,Nat.reduceMod,e];omega
 | 2,_,hl=>
  simp only[eI]at hl;refine⟨fun hp=>?_,fun hp=>?_⟩
  ·have hq:p=0\/p=1:=by omega
   rcases hq with rfl|rfl<;>
   ·simp only[aJ,a9,List.getElem?_cons_succ,List.getElem?_cons_zero,Option.getD_some,Nat.reduceAdd,Nat.reduceMod,e]
    omega
  ·have hq:p=2:=by omega
   subst hq;simp only[aJ,a9,List.getElem?_cons_succ,List.getElem?_cons_zero,Option.getD_some,Nat.reduceAdd,Nat.reduceMod,e];omega
 | 3,_,hl=>
  simp only[eI]at hl;refine⟨fun hp=>?_,fun hp=>?_⟩
  ·have hq:p=0\/p=1\/p=2:=by omega
   rcases hq with rfl|rfl|rfl<;>
   ·simp only[aJ,a9,List.getElem?_cons_succ,List.getElem?_cons_zero,Option.getD_some,Nat.reduceAdd,Nat.reduceMod,e]
    omega
  ·have hq:p=3:=by omega
   subst hq;simp only[aJ,a9,List.getElem?_cons_succ,List.getElem?_cons_zero,Option.getD_some,Nat.reduceAdd,Nat.reduceMod,e];omega
 | 4,_,hl=>
  simp only[eI]at hl;refine⟨fun hp=>?_,fun hp=>?_⟩
  ·have hq:p=0\/p=1\/p=2\/p=3:=by omega
   rcases hq with rfl|rfl|rfl|rfl<;>
   ·simp only[aJ,a9,List.getElem?_cons_succ,List.getElem?_cons_zero,Option.getD_some,Nat.reduceAdd,Nat.reduceMod,e]
    omega
  ·have hq:p=4:=by omega
   subst hq;simp only[aJ,a9,List.getElem?_cons_succ,List.getElem?_cons_zero,Option.getD_some,Nat.reduceAdd,Nat.reduceMod,e];omega
 | 5,_,hl=>
  simp only[eI]at hl;refine⟨fun hp=>?_,fun hp=>?_⟩
  ·have hq:p=0\/p=1\/p=2\/p=3\/p=4:=by omega
   rcases hq with rfl|rfl|rfl|rfl|rfl<;>
   ·simp only[aJ,a9,List.getElem?_cons_succ,List.getElem?_cons_zero,Option.getD_some,Nat.reduceAdd,Nat.reduceMod,e]
    omega
  ·have hq:p=5:=by omega
   subst hq;simp only[aJ,a9,List.getElem?_cons_succ,List.getElem?_cons_zero,Option.getD_some,Nat.reduceAdd,Nat.reduceMod,e];omega
 | 6,_,hl=>
  simp only[eI]at hl;refine⟨fun hp=>?_,fun hp=>?_⟩
  ·have hq:p=0\/p=1\/p=2\/p=3\/p=4\/p=5:=by omega
   rcases hq with rfl|rfl|rfl|rfl|rfl|rfl<;>
   ·simp only[aJ,a9,List.getElem?_cons_succ,List.getElem?_cons_zero,Option.getD_some,Nat.reduceAdd,Nat.reduceMod,e]
    omega
  ·have hq:p=6:=by omega
   subst hq;simp only[aJ,a9,List.getElem?_cons_succ,List.getElem?_cons_zero,Option.getD_some,Nat.reduceAdd,Nat.reduceMod,e];omega
 | 7,_,hl=>
  simp only[eI]at hl;refine⟨fun hp=>?_,fun hp=>?_⟩
  ·have hq:p=0\/p=1\/p=2\/p=3\/p=4\/p=5\/p=6:=by omega
   rcases hq with rfl|rfl|rfl|rfl|rfl|rfl|rfl<;>
   ·simp only[aJ,a9,List.getElem?_cons_succ,List.getElem?_cons_zero,Option.getD_some,Nat.reduceAdd,Nat.reduceMod,e]
    omega
  ·have hq:p=7:=by omega
   subst hq;simp only[aJ,a9,List.getElem?_cons_succ,List.getElem?_cons_zero,Option.getD_some,Nat.reduceAdd,Nat.reduceMod,e];omega
set_option maxHeartbeats 4000000 in
theorem Ud{x y:Int}(hx:0 <= -y)(hy:0<x)(t:Nat)(ht:t<8)(hl:eI t (-y) (x))(p:Nat):(p<8+t->aJ ⟨x,y⟩ p)/\(p=8+t->¬ aJ ⟨x,y⟩ p):=by
 have e:∀ a b:Int,aC ⟨a,b⟩ (⟨x,y⟩:Pt)=a*y-b*x:=fun _ _=>rfl
 match t,ht,hl with
 | 0,_,hl=>
  simp only[eI]at hl;refine⟨fun hp=>?_,fun hp=>?_⟩
  ·have hq:p=0\/p=1\/p=2\/p=3\/p=4\/p=5\/p=6\/p=7:=by omega
   rcases hq with rfl|rfl|rfl|rfl|rfl|rfl|rfl|rfl<;>
   ·simp only[aJ,a9,List.getElem?_cons_succ,List.getElem?_cons_zero,Option.getD_some,Nat.reduceAdd,Nat.reduceMod,e]
    omega
  ·have hq:p=8:=by omega
   subst hq;simp only[aJ,a9,List.getElem?_cons_succ,List.getElem?_cons_zero,Option.getD_some,Nat.reduceAdd,Nat.reduceMod,e];omega
 | 1,_,hl=>
  simp only[eI]at hl;refine⟨fun hp=>?_,fun hp=>?_⟩
  ·have hq:p=0\/p=1\/p=2\/p=3\/p=4\/p=5\/p=6\/p=7\/p=8:=by omega
   rcases hq with rfl|rfl|rfl|rfl|rfl|rfl|rfl|rfl|rfl<;>
   ·simp only[aJ,a9,List.getElem?_cons_succ,List.getElem?_cons_zero,Option.getD_some,Nat.reduceAdd,Nat.reduceMod,e]
    omega
  ·have hq:p=9:=by omega
   subst hq;simp only[aJ,a9,List.getElem?_cons_succ,List.getElem?_cons_zero,Option.getD_some,Nat.reduceAdd,Nat.reduceMod,e];omega
 | 2,_,hl=>
  simp only[eI]at hl;refine⟨fun hp=>?_,fun hp=>?_⟩
  ·have hq:p=0\/p=1\/p=2\/p=3\/p=4\/p=5\/p=6\/p=7\/p=8\/p=9:=by omega
   rcases hq with rfl|rfl|rfl|rfl|rfl|rfl|rfl|rfl|rfl|rfl<;>
   ·simp only[aJ,a9,List.getElem?_cons_succ,List.getElem?_cons_zero,Option.getD_some,Nat.reduceAdd,Nat.reduceMod,e]
    omega
  ·have hq:p=10:=by omega
   subst hq;simp only[aJ,a9,List.getElem?_cons_succ,List.getElem?_cons_zero,Option.getD_some,Nat.reduceAdd,Nat.reduceMod,e];omega
 | 3,_,hl=>
  simp only[eI]at hl;refine⟨fun hp=>?_,fun hp=>?_⟩
  ·have hq:p=0\/p=1\/p=2\/p=3\/p=4\/p=5\/p=6\/p=7\/p=8\/p=9\/p=10:=by omega
   rcases hq with rfl|rfl|rfl|rfl|rfl|rfl|rfl|rfl|rfl|rfl|rfl<;>
   ·simp only[aJ,a9,List.getElem?_cons_succ,List.getElem?_cons_zero,Option.getD_some,Nat.reduceAdd,Nat.reduceMod,e]
    omega
  ·have hq:p=11:=by omega
   subst hq;simp only[aJ,a9,List.getElem?_cons_succ,List.getElem?_cons_zero,Option.getD_some,Nat.reduceAdd,Nat.reduceMod,e];omega
 | 4,_,hl=>
  simp only[eI]at hl;refine⟨fun hp=>?_,fun hp=>?_⟩
  ·have hq:p=0\/p=1\/p=2\/p=3\/p=4\/p=5\/p=6\/p=7\/p=8\/p=9\/p=10\/p=11:=by omega
   rcases hq with rfl|rfl|rfl|rfl|rfl|rfl|rfl|rfl|rfl|rfl|rfl|rfl<;>
   ·simp only[aJ,a9,List.getElem?_cons_succ,List.getElem?_cons_zero,Option.getD_some,Nat.reduceAdd,Nat.reduceMod,e]
    omega
  ·have hq:p=12:=by omega
   subst hq;simp only[aJ,a9,List.getElem?_cons_succ,List.getElem?_cons_zero,Option.getD_some,Nat.reduceAdd,Nat.reduceMod,e];omega
 | 5,_,hl=>
  simp only[eI]at hl;refine⟨fun hp=>?_,fun hp=>?_⟩
  ·have hq:p=0\/p=1\/p=2\/p=3\/p=4\/p=5\/p=6\/p=7\/p=8\/p=9\/p=10\/p=11\/p=12:=by omega
   rcases hq with rfl|rfl|rfl|rfl|rfl|rfl|rfl|rfl|rfl|rfl|rfl|rfl|rfl<;>
   ·simp only[aJ,a9,List.getElem?_cons_succ,List.getElem?_cons_zero,Option.getD_some,Nat.reduceAdd,Nat.reduceMod,e]
    omega
  ·have hq:p=13:=by omega
   subst hq;simp only[aJ,a9,List.getElem?_cons_succ,List.getElem?_cons_zero,Option.getD_some,Nat.reduceAdd,Nat.reduceMod,e];omega
 | 6,_,hl=>
  simp only[eI]at hl;refine⟨fun hp=>?_,fun hp=>?_⟩
  ·have hq:p=0\/p=1\/p=2\/p=3\/p=4\/p=5\/p=6\/p=7\/p=8\/p=9\/p=10\/p=11\/p=12\/p=13:=by omega
   rcases hq with rfl|rfl|rfl|rfl|rfl|rfl|rfl|rfl|rfl|rfl|rfl|rfl|rfl|rfl<;>
   ·simp only[aJ,a9,List.getElem?_cons_succ,List.getElem?_cons_zero,Option.getD_some,Nat.reduceAdd,Nat.reduceMod,e]
    omega
  ·have hq:p=14:=by omega
   subst hq;simp only[aJ,a9,List.getElem?_cons_succ,List.getElem?_cons_zero,Option.getD_some,Nat.reduceAdd,Nat.reduceMod,e];omega
 | 7,_,hl=>
  simp only[eI]at hl;refine⟨fun hp=>?_,fun hp=>?_⟩
  ·have hq:p=0\/p=1\/p=2\/p=3\/p=4\/p=5\/p=6\/p=7\/p=8\/p=9\/p=10\/p=11\/p=12\/p=13\/p=14:=by omega
   rcases hq with rfl|rfl|rfl|rfl|rfl|rfl|rfl|rfl|rfl|rfl|rfl|rfl|rfl|rfl|rfl<;>
   ·simp only[aJ,a9,List.getElem?_cons_succ,List.getElem?_cons_zero,Option.getD_some,Nat.reduceAdd,Nat.reduceMod,e]
    omega
  ·have hq:p=15:=by omega
   subst hq;simp only[aJ,a9,List.getElem?_cons_succ,List.getElem?_cons_zero,Option.getD_some,Nat.reduceAdd,Nat.reduceMod,e];omega
set_option maxHeartbeats 4000000 in
theorem Ue{x y:Int}(hx:0 <= -x)(hy:0 < -y)(t:Nat)(ht:t<8)(hl:eI t (-x) (-y))(p:Nat):(p<16+t->aJ ⟨x,y⟩ p)/\(p=16+t->¬ aJ ⟨x,y⟩ p):=by
 have e:∀ a b:Int,aC ⟨a,b⟩ (⟨x,y⟩:Pt)=a*y-b*x:=fun _ _=>rfl
 match t,ht,hl with
 | 0,_,hl=>
  simp only[eI]at hl;refine⟨fun hp=>?_,fun hp=>?_⟩
  ·have hq:p=0\/p=1\/p=2\/p=3\/p=4\/p=5\/p=6\/p=7\/p=8\/p=9\/p=10\/p=11\/p=12\/p=13\/p=14\/p=15:=by omega
   rcases hq with rfl|rfl|rfl|rfl|rfl|rfl|rfl|rfl|rfl|rfl|rfl|rfl|rfl|rfl|rfl|rfl<;>
   ·simp only[aJ,a9,List.getElem?_cons_succ,List.getElem?_cons_zero,Option.getD_some,Nat.reduceAdd,Nat.reduceMod,e]
    omega
  ·have hq:p=16:=by omega
   subst hq;simp only[aJ,a9,List.getElem?_cons_succ,List.getElem?_cons_zero,Option.getD_some,Nat.reduceAdd,Nat.reduceMod,e];omega
 | 1,_,hl=>
  simp only[eI]at hl;refine⟨fun hp=>?_,fun hp=>?_⟩
  ·have hq:p=0\/p=1\/p=2\/p=3\/p=4\/p=5\/p=6\/p=7\/p=8\/p=9\/p=10\/p=11\/p=12\/p=13\/p=14\/p=15\/p=16:=by omega
   rcases hq with rfl|rfl|rfl|rfl|rfl|rfl|rfl|rfl|rfl|rfl|rfl|rfl|rfl|rfl|rfl|rfl|rfl<;>
   ·simp only[aJ,a9,List.getElem?_cons_succ,List.getElem?_cons_zero,Option.getD_some,Nat.reduceAdd,Nat.reduceMod,e]
    omega
  ·have hq:p=17:=by omega
   subst hq;simp only[aJ,a9,List.getElem?_cons_succ,List.getElem?_cons_zero,Option.getD_some,Nat.reduceAdd,Nat.reduceMod,e];omega
 | 2,_,hl=>
  simp only[eI]at hl;refine⟨fun hp=>?_,fun hp=>?_⟩
  ·have hq:p=0\/p=1\/p=2\/p=3\/p=4\/p=5\/p=6\/p=7\/p=8\/p=9\/p=10\/p=11\/p=12\/p=13\/p=14\/p=15\/p=16\/p=17:=by omega
   rcases hq with rfl|rfl|rfl|rfl|rfl|rfl|rfl|rfl|rfl|rfl|rfl|rfl|rfl|rfl|rfl|rfl|rfl|rfl<;>
   ·simp only[aJ,a9,List.getElem?_cons_succ,List.getElem?_cons_zero,Option.getD_some,Nat.reduceAdd,Nat.reduceMod,e]
    omega
  ·have hq:p=18:=by omega
   subst hq;simp only[aJ,a9,List.getElem?_cons_succ,List.getElem?_cons_zero,Option.getD_some,Nat.reduceAdd,Nat.reduceMod,e];omega
 | 3,_,hl=>
  simp only[eI]at hl;refine⟨fun hp=>?_,fun hp=>?_⟩
  ·have hq:p=0\/p=1\/p=2\/p=3\/p=4\/p=5\/p=6\/p=7\/p=8\/p=9\/p=10\/p=11\/p=12\/p=13\/p=14\/p=15\/p=16\/p=17\/p=18:=by omega
   rcases hq with rfl|rfl|rfl|rfl|rfl|rfl|rfl|rfl|rfl|rfl|rfl|rfl|rfl|rfl|rfl|rfl|rfl|rfl|rfl<;>
   ·simp only[aJ,a9,List.getElem?_cons_succ,List.getElem?_cons_zero,Option.getD_some,Nat.reduceAdd,Nat.reduceMod,e]
    omega
  ·have hq:p=19:=by omega
   subst hq;simp only[aJ,a9,List.getElem?_cons_succ,List.getElem?_cons_zero,Option.getD_some,Nat.reduceAdd,Nat.reduceMod,e];omega
 | 4,_,hl=>
  simp only[eI]at hl;refine⟨fun hp=>?_,fun hp=>?_⟩
  ·have hq:p=0\/p=1\/p=2\/p=3\/p=4\/p=5\/p=6\/p=7\/p=8\/p=9\/p=10\/p=11\/p=12\/p=13\/p=14\/p=15\/p=16\/p=17\/p=18\/p=19:=by omega
   rcases hq with rfl|rfl|rfl|rfl|rfl|rfl|rfl|rfl|rfl|rfl|rfl|rfl|rfl|rfl|rfl|rfl|rfl|rfl|rfl|rfl<;>
   ·simp only[aJ,a9,List.getElem?_cons_succ,List.getElem?_cons_zero,Option.getD_some,Nat.reduceAdd,Nat.reduceMod,e]
    omega
  ·have hq:p=20:=by omega
   subst hq;simp only[aJ,a9,List.getElem?_cons_succ,List.getElem?_cons_zero,Option.getD_some,Nat.reduceAdd,Nat.reduceMod,e];omega
 | 5,_,hl=>
  simp only[eI]at hl;refine⟨fun hp=>?_,fun hp=>?_⟩
  ·have hq:p=0\/p=1\/p=2\/p=3\/p=4\/p=5\/p=6\/p=7\/p=8\/p=9\/p=10\/p=11\/p=12\/p=13\/p=14\/p=15\/p=16\/p=17\/p=18\/p=19\/p=20:=by omega
   rcases hq with rfl|rfl|rfl|rfl|rfl|rfl|rfl|rfl|rfl|rfl|rfl|rfl|rfl|rfl|rfl|rfl|rfl|rfl|rfl|rfl|rfl<;>
   ·simp only[aJ,a9,List.getElem?_cons_succ,List.getElem?_cons_zero,Option.getD_some,Nat.reduceAdd,Nat.reduceMod,e]
    omega
  ·have hq:p=21:=by omega
   subst hq;simp only[aJ,a9,List.getElem?_cons_succ,List.getElem?_cons_zero,Option.getD_some,Nat.reduceAdd,Nat.reduceMod,e];omega
 | 6,_,hl=>
  simp only[eI]at hl;refine⟨fun hp=>?_,fun hp=>?_⟩
  ·have hq:p=0\/p=1\/p=2\/p=3\/p=4\/p=5\/p=6\/p=7\/p=8\/p=9\/p=10\/p=11\/p=12\/p=13\/p=14\/p=15\/p=16\/p=17\/p=18\/p=19\/p=20\/p=21:=by omega
   rcases hq with rfl|rfl|rfl|rfl|rfl|rfl|rfl|rfl|rfl|rfl|rfl|rfl|rfl|rfl|rfl|rfl|rfl|rfl|rfl|rfl|rfl|rfl<;>
   ·simp only[aJ,a9,List.getElem?_cons_succ,List.getElem?_cons_zero,Option.getD_some,Nat.reduceAdd,Nat.reduceMod,e]
    omega
  ·have hq:p=22:=by omega
   subst hq;simp only[aJ,a9,List.getElem?_cons_succ,List.getElem?_cons_zero,Option.getD_some,Nat.reduceAdd,Nat.reduceMod,e];omega
 | 7,_,hl=>
  simp only[eI]at hl;refine⟨fun hp=>?_,fun hp=>?_⟩
  ·have hq:p=0\/p=1\/p=2\/p=3\/p=4\/p=5\/p=6\/p=7\/p=8\/p=9\/p=10\/p=11\/p=12\/p=13\/p=14\/p=15\/p=16\/p=17\/p=18\/p=19\/p=20\/p=21\/p=22:=by omega
   rcases hq with rfl|rfl|rfl|rfl|rfl|rfl|rfl|rfl|rfl|rfl|rfl|rfl|rfl|rfl|rfl|rfl|rfl|rfl|rfl|rfl|rfl|rfl|rfl<;>
   ·simp only[aJ,a9,List.getElem?_cons_succ,List.getElem?_cons_zero,Option.getD_some,Nat.reduceAdd,Nat.reduceMod,e]
    omega
  ·have hq:p=23:=by omega
   subst hq;simp only[aJ,a9,List.getElem?_cons_succ,List.getElem?_cons_zero,Option.getD_some,Nat.reduceAdd,Nat.reduceMod,e];omega
set_option maxHeartbeats 4000000 in
theorem Uf{x y:Int}(hx:0<=y)(hy:0 < -x)(t:Nat)(ht:t<8)(hl:eI t (y) (-x))(p:Nat):(p<24+t->aJ ⟨x,y⟩ p)/\(p=24+t->¬ aJ ⟨x,y⟩ p):=by
 have e:∀ a b:Int,aC ⟨a,b⟩ (⟨x,y⟩:Pt)=a*y-b*x:=fun _ _=>rfl
 match t,ht,hl with
 | 0,_,hl=>
  simp only[eI]at hl;refine⟨fun hp=>?_,fun hp=>?_⟩
  ·have hq:p=0\/p=1\/p=2\/p=3\/p=4\/p=5\/p=6\/p=7\/p=8\/p=9\/p=10\/p=11\/p=12\/p=13\/p=14\/p=15\/p=16\/p=17\/p=18\/p=19\/p=20\/p=21\/p=22\/p=23:=by omega
   rcases hq with rfl|rfl|rfl|rfl|rfl|rfl|rfl|rfl|rfl|rfl|rfl|rfl|rfl|rfl|rfl|rfl|rfl|rfl|rfl|rfl|rfl|rfl|rfl|rfl<;>
   ·simp only[aJ,a9,List.getElem?_cons_succ,List.getElem?_cons_zero,Option.getD_some,Nat.reduceAdd,Nat.reduceMod,e]
    omega
  ·have hq:p=24:=by omega
   subst hq;simp only[aJ,a9,List.getElem?_cons_succ,List.getElem?_cons_zero,Option.getD_some,Nat.reduceAdd,Nat.reduceMod,e];omega
 | 1,_,hl=>
  simp only[eI]at hl;refine⟨fun hp=>?_,fun hp=>?_⟩
  ·have hq:p=0\/p=1\/p=2\/p=3\/p=4\/p=5\/p=6\/p=7\/p=8\/p=9\/p=10\/p=11\/p=12\/p=13\/p=14\/p=15\/p=16\/p=17\/p=18\/p=19\/p=20\/p=21\/p=22\/p=23\/p=24:=by omega
   rcases hq with rfl|rfl|rfl|rfl|rfl|rfl|rfl|rfl|rfl|rfl|rfl|rfl|rfl|rfl|rfl|rfl|rfl|rfl|rfl|rfl|rfl|rfl|rfl|rfl|rfl<;>
   ·simp only[aJ,a9,List.getElem?_cons_succ,List.getElem?_cons_zero,Option.getD_some,Nat.reduceAdd,Nat.reduceMod,e]
    omega
  ·have hq:p=25:=by omega
   subst hq;simp only[aJ,a9,List.getElem?_cons_succ,List.getElem?_cons_zero,Option.getD_some,Nat.reduceAdd,Nat.reduceMod,e];omega
 | 2,_,hl=>
  simp only[eI]at hl;refine⟨fun hp=>?_,fun hp=>?_⟩
  ·have hq:p=0\/p=1\/p=2\/p=3\/p=4\/p=5\/p=6\/p=7\/p=8\/p=9\/p=10\/p=11\/p=12\/p=13\/p=14\/p=15\/p=16\/p=17\/p=18\/p=19\/p=20\/p=21\/p=22\/p=23\/p=24\/p=25:=by omega
   rcases hq with rfl|rfl|rfl|rfl|rfl|rfl|rfl|rfl|rfl|rfl|rfl|rfl|rfl|rfl|rfl|rfl|rfl|rfl|rfl|rfl|rfl|rfl|rfl|rfl|rfl|rfl<;>
   ·simp only[aJ,a9,List.getElem?_cons_succ,List.getElem?_cons_zero,Option.getD_some,Nat.reduceAdd,Nat.reduceMod,e]
    omega
  ·have hq:p=26:=by omega
   subst hq;simp only[aJ,a9,List.getElem?_cons_succ,List.getElem?_cons_zero,Option.getD_some,Nat.reduceAdd,Nat.reduceMod,e];omega
 | 3,_,hl=>
  simp only[eI]at hl;refine⟨fun hp=>?_,fun hp=>?_⟩
  ·have hq:p=0\/p=1\/p=2\/p=3\/p=4\/p=5\/p=6\/p=7\/p=8\/p=9\/p=10\/p=11\/p=12\/p=13\/p=14\/p=15\/p=16\/p=17\/p=18\/p=19\/p=20\/p=21\/p=22\/p=23\/p=24\/p=25\/p=26:=by omega
   rcases hq with rfl|rfl|rfl|rfl|rfl|rfl|rfl|rfl|rfl|rfl|rfl|rfl|rfl|rfl|rfl|rfl|rfl|rfl|rfl|rfl|rfl|rfl|rfl|rfl|rfl|rfl|rfl<;>
   ·simp only[aJ,a9,List.getElem?_cons_succ,List.getElem?_cons_zero,Option.getD_some,Nat.reduceAdd,Nat.reduceMod,e]
    omega
  ·have hq:p=27:=by omega
   subst hq;simp only[aJ,a9,List.getElem?_cons_succ,List.getElem?_cons_zero,Option.getD_some,Nat.reduceAdd,Nat.reduceMod,e];omega
 | 4,_,hl=>
  simp only[eI]at hl;refine⟨fun hp=>?_,fun hp=>?_⟩
  ·have hq:p=0\/p=1\/p=2\/p=3\/p=4\/p=5\/p=6\/p=7\/p=8\/p=9\/p=10\/p=11\/p=12\/p=13\/p=14\/p=15\/p=16\/p=17\/p=18\/p=19\/p=20\/p=21\/p=22\/p=23\/p=24\/p=25\/p=26\/p=27:=by omega
   rcases hq with rfl|rfl|rfl|rfl|rfl|rfl|rfl|rfl|rfl|rfl|rfl|rfl|rfl|rfl|rfl|rfl|rfl|rfl|rfl|rfl|rfl|rfl|rfl|rfl|rfl|rfl|rfl|rfl<;>
   ·simp only[aJ,a9,List.getElem?_cons_succ,List.getElem?_cons_zero,Option.getD_some,Nat.reduceAdd,Nat.reduceMod,e]
    omega
  ·have hq:p=28:=by omega
   subst hq;simp only[aJ,a9,List.getElem?_cons_succ,List.getElem?_cons_zero,Option.getD_some,Nat.reduceAdd,Nat.reduceMod,e];omega
 | 5,_,hl=>
  simp only[eI]at hl;refine⟨fun hp=>?_,fun hp=>?_⟩
  ·have hq:p=0\/p=1\/p=2\/p=3\/p=4\/p=5\/p=6\/p=7\/p=8\/p=9\/p=10\/p=11\/p=12\/p=13\/p=14\/p=15\/p=16\/p=17\/p=18\/p=19\/p=20\/p=21\/p=22\/p=23\/p=24\/p=25\/p=26\/p=27\/p=28:=by omega
   rcases hq with rfl|rfl|rfl|rfl|rfl|rfl|rfl|rfl|rfl|rfl|rfl|rfl|rfl|rfl|rfl|rfl|rfl|rfl|rfl|rfl|rfl|rfl|rfl|rfl|rfl|rfl|rfl|rfl|rfl<;>
   ·simp only[aJ,a9,List.getElem?_cons_succ,List.getElem?_cons_zero,Option.getD_some,Nat.reduceAdd,Nat.reduceMod,e]
    omega
  ·have hq:p=29:=by omega
   subst hq;simp only[aJ,a9,List.getElem?_cons_succ,List.getElem?_cons_zero,Option.getD_some,Nat.reduceAdd,Nat.reduceMod,e];omega
 | 6,_,hl=>
  simp only[eI]at hl;refine⟨fun hp=>?_,fun hp=>?_⟩
  ·have hq:p=0\/p=1\/p=2\/p=3\/p=4\/p=5\/p=6\/p=7\/p=8\/p=9\/p=10\/p=11\/p=12\/p=13\/p=14\/p=15\/p=16\/p=17\/p=18\/p=19\/p=20\/p=21\/p=22\/p=23\/p=24\/p=25\/p=26\/p=27\/p=28\/p=29:=by omega
   rcases hq with rfl|rfl|rfl|rfl|rfl|rfl|rfl|rfl|rfl|rfl|rfl|rfl|rfl|rfl|rfl|rfl|rfl|rfl|rfl|rfl|rfl|rfl|rfl|rfl|rfl|rfl|rfl|rfl|rfl|rfl<;>
   ·simp only[aJ,a9,List.getElem?_cons_succ,List.getElem?_cons_zero,Option.getD_some,Nat.reduceAdd,Nat.reduceMod,e]
    omega
  ·have hq:p=30:=by omega
   subst hq;simp only[aJ,a9,List.getElem?_cons_succ,List.getElem?_cons_zero,Option.getD_some,Nat.reduceAdd,Nat.reduceMod,e];omega
 | 7,_,hl=>
  simp only[eI]at hl;refine⟨fun hp=>?_,fun hp=>?_⟩
  ·have hq:p=0\/p=1\/p=2\/p=3\/p=4\/p=5\/p=6\/p=7\/p=8\/p=9\/p=10\/p=11\/p=12\/p=13\/p=14\/p=15\/p=16\/p=17\/p=18\/p=19\/p=20\/p=21\/p=22\/p=23\/p=24\/p=25\/p=26\/p=27\/p=28\/p=29\/p=30:=by omega
   rcases hq with rfl|rfl|rfl|rfl|rfl|rfl|rfl|rfl|rfl|rfl|rfl|rfl|rfl|rfl|rfl|rfl|rfl|rfl|rfl|rfl|rfl|rfl|rfl|rfl|rfl|rfl|rfl|rfl|rfl|rfl|rfl<;>
   ·simp only[aJ,a9,List.getElem?_cons_succ,List.getElem?_cons_zero,Option.getD_some,Nat.reduceAdd,Nat.reduceMod,e]
    omega
  ·have hq:p=31:=by omega
   subst hq;simp only[aJ,a9,List.getElem?_cons_succ,List.getElem?_cons_zero,Option.getD_some,Nat.reduceAdd,Nat.reduceMod,e];omega
theorem z7{v:Pt}(hz:NZ v)(p:Nat):((p:Int)<jS v->aJ v p)/\((p:Int)=jS v->¬ aJ v p):=by
 obtain⟨x,y⟩:=v;unfold NZ at hz;simp only at hz;have key:∀ (n t:Nat),jS ⟨x,y⟩=8*n+t->((p<8*n+t->aJ ⟨x,y⟩ p)/\(p=8*n+t->¬ aJ ⟨x,y⟩ p))->((p:Int)<jS ⟨x,y⟩->aJ ⟨x,y⟩ p)/\((p:Int)=jS ⟨x,y⟩->¬ aJ ⟨x,y⟩ p):=by
  intro n t h1 h2;rw[h1];exact⟨fun h=>h2.1 (by omega),fun h=>h2.2 (by omega)⟩
 by_cases c0:0<=x/\0<y
 ·have hq:gX ⟨x,y⟩=0:=if_pos c0
  obtain⟨t,ht,hc,hl⟩:=nr c0.1 c0.2 0;refine key 0 t ?_ (by simpa using Uc c0.1 c0.2 t ht hl p);unfold jS;rw[hq];show fK ⟨x,y⟩ cq 0-1=_;rw[hc];omega
 by_cases c1:0<x/\y<=0
 ·have hq:gX ⟨x,y⟩=1:=by unfold gX;rw[if_neg c0,if_pos c1]
  obtain⟨t,ht,hc,hl⟩:=nr (x:=-y) (y:=x) (by omega) c1.1 8;refine key 1 t ?_ (by simpa using Ud (x:=x) (y:=y) (by omega) c1.1 t ht hl p);unfold jS;rw[hq];show fK ⟨-y,x⟩ cq 8-1=_;rw[hc];omega
 by_cases c2:x<=0/\y<0
 ·have hq:gX ⟨x,y⟩=2:=by unfold gX;rw[if_neg c0,if_neg c1,if_pos c2]
  obtain⟨t,ht,hc,hl⟩:=nr (x:=-x) (y:=-y) (by omega) (by omega) 16;refine key 2 t ?_ (by simpa using Ue (x:=x) (y:=y) (by omega) (by omega) t ht hl p);unfold jS;rw[hq];show fK ⟨-x,-y⟩ cq 16-1=_;rw[hc];omega
 ·have hq:gX ⟨x,y⟩=3:=by unfold gX;rw[if_neg c0,if_neg c1,if_neg c2]
  obtain⟨t,ht,hc,hl⟩:=nr (x:=y) (y:=-x) (by omega) (by omega) 24;refine key 3 t ?_ (by simpa using Uf (x:=x) (y:=y) (by omega) (by omega) t ht hl p);unfold jS;rw[hq];show fK ⟨- -y,-x⟩ cq 24-1=_;rw[Int.neg_neg,hc];omega
def gS(p:Nat):Pt:=(a9[p]?).getD ⟨0,0⟩
theorem yt(p:Nat)(hp:p<32):aW Tryz.prog 101 [i64 p] (gS p).d:=by
 have h:=@Qo (p:Int) ⟨by omega,by omega⟩;rw[Ed p hp]at h;exact fun {σ}=>h
theorem BD(p:Nat)(hp:p<32):eE 1000 (gS p):=by
 have h:∀ p:Nat,p<32->(-1000<=(gS p).x/\(gS p).x<=1000)/\(-1000<=(gS p).y/\(gS p).y<=1000):=by decide +kernel
 obtain⟨h1,h2⟩:=h p hp;exact⟨h1,h2⟩
set_option maxHeartbeats 2000000 in
theorem Qv(v:Pt)(hp:eE 1000000 v)(hz:NZ v):aW Tryz.prog 57 [v.d] (i64 (jS v)):=by
 refine aA Tryz.func57 rfl (ft:=RR) 1 fun {σ} Y st=>?_;conv=>whnf
 have ht:=sL hz;refine bV (T:=tys) ao (by exact ah mixed ao (by decide +kernel)) (α:=Nat) (fun p=>⟨[(1,.ptr 1 0),(3,.d (i64 p))],[(1,.box (.dd v.cells))],st⟩) (fun p=>(p:Int)<=jS v) (fun p=>32-p) 0 av (by simp;omega) ?_;rintro p Hh;obtain⟨g9,lQ⟩:=z7 hz p;have He:p<32:=by omega
 have Od:(p+1)%32<32:=by omega
 have qQ:((p:Int)+1).tmod 32=(((p+1)%32:Nat):Int):=by
  rw[Int.tmod_eq_emod_of_nonneg (by omega)];omega
 have vQ:aJ v p↔(0<aC (gS p) v\/aC (gS ((p+1)%32)) v<=0):=Iff.rfl;generalize hk:(p+1)%32=k at *;conv=>whnf
 refine aj (ds:=[i64 p]) (yt p He) rfl rfl ?_;conv=>whnf
 refine aj (ds:=[(gS p).d,v.d]) (JC (gS p) v ((BD p He).mono (by omega)) (hp.mono (by omega))) rfl rfl ?_;conv=>whnf
 have fin:aJ v p->(p:Int)+1<=jS v:=fun h=>by
  rcases Int.lt_or_eq_of_le Hh with h1|h1
  ·omega
  ·exact absurd h (lQ h1)
 refine ai (fun h1=>?_) (fun h1=>?_)
 ·have h1:0<aC (gS p) v:=of_decide_eq_true h1
  have h2:=fin (vQ.2 (.inl h1));conv=>whnf
  refine ab ?_;conv=>whnf
  exact⟨p+1,by omega,by show((p+1:Nat):Int)<=jS v;omega,Wk.sub ⟨rfl,congrArg (fun z=>some (V.d (i64 z))) (by omega),trivial⟩ ⟨rfl,trivial⟩⟩
 have h1:¬ 0<aC (gS p) v:=of_decide_eq_false h1;conv=>whnf
 refine ab ?_;conv=>whnf
 rw[qQ];refine aj (ds:=[i64 k]) (yt k Od) rfl rfl ?_;conv=>whnf
 refine aj (ds:=[(gS k).d,v.d]) (JC (gS k) v ((BD k Od).mono (by omega)) (hp.mono (by omega))) rfl rfl ?_;conv=>whnf
 refine ai (fun h2=>?_) (fun h2=>?_)
 ·have h2:aC (gS k) v<=0:=of_decide_eq_true h2
  have h3:=fin (vQ.2 (.inr h2));conv=>whnf
  refine ab ?_;conv=>whnf
  exact⟨p+1,by omega,by show((p+1:Nat):Int)<=jS v;omega,Wk.sub ⟨rfl,congrArg (fun z=>some (V.d (i64 z))) (by omega),trivial⟩ ⟨rfl,trivial⟩⟩
 ·have h2:¬ aC (gS k) v<=0:=of_decide_eq_false h2
  have he:(p:Int)=jS v:=by
   rcases Int.lt_or_eq_of_le Hh with h3|h3
   ·rcases vQ.1 (g9 h3) with h4|h4
    ·exact absurd h4 h1
    ·exact absurd h4 h2
   ·exact h3
  rw[<- he];conv=>whnf
  exact af
def gC{τ:Type}(wf:List Int->τ×Bool)(many:Nat):Nat->List Int->Nat->Option (List Int×τ)
 | 0,p,_=>if (wf p).2 then some (p,(wf p).1) else none
 | left+1,p,start=>(List.range' start (many-left-start)).findSome? fun(i:Nat)=>gC wf many left (p ++ [(i:Int)]) (i+1)
def cZ(l:List Int):List (List D):=l.map fun n=>[i64 n]
def kS(start left:Nat):List V:=[.d (i64 start),.d (i64 left),.ptr 1000000 0,.ptr 1000001 0,.ptr 1000002 0,.ptr 1000003 0,.ptr 1000004 0,.ptr 1000005 0]
def Em:List V:=[.ptr 1000000 0,.ptr 1000001 0,.ptr 1000002 0,.ptr 1000003 0,.ptr 1000004 0,.ptr 1000005 0]
def ml(f g:FuncId)(aM:List D)(many:Nat)(k:Nat)(n:Nat)(p:List Int)(x is:D):ar:=
 [(1000000,.box (.dd [.clo g aM])),(1000001,.box (.vv [.sl k 1 0 n])),(1000002,.box (.dd [x])),(1000003,.box (.dd [is])),(1000004,.box (.dd [i64 many])),(1000005,.box (.vv [.clo f Em])),(k,.arr 1 (.dd (cZ p)))]
def wM(g:FuncId)(aM:List D)(wf:List Int->Int×Bool)(many left:Nat):Prop:=
 ∀ (start:Nat) (p:List Int) (x:Int) (b:Bool),left<=many->start<=many+1->p.length+left<=many->(∀ i∈p,0<=i/\i<many) -> ∀ {σ:Type} (Y:Hd σ) (s:σ),
   DD Tryz.prog Y 113 (kS start left) (ml 113 g aM many 1000006 p.length p (i64 x) (.bool b)) s fun v h' s'=>s'=s /\ ∃ (q:List Int) (y:Int) (b':Bool),h'=ml 113 g aM many 2000000 q.length q (i64 y) (.bool b') /\
    (match gC wf many left p start with
    | some (q',y')=>v = .d (.bool true)/\q=q'/\y=y'/\b'=true
    | none=>v = .d (.bool false)/\q=p)
def wS(g:FuncId)(aM:List D)(wf:List Int->Int×Bool)(many:Nat):Prop:=
 ∀ q:List Int,(∀ i∈q,0<=i/\i<many)->q.length<=many->aW Tryz.prog g (bx q::aM) (.tup [i64 (wf q).1,.bool (wf q).2])
theorem yE{g:FuncId}{aM:List D}{wf:List Int->Int×Bool}{many:Nat}(hm:many<=1000)(hw:wS g aM wf many):wM g aM wf many 0:=by
 intro start p x b hl hf hp pd σ Y s;refine ek mixed ao Tryz.func113 rfl (ft:=BM) (args:=kS start 0) (show uQ BM Tryz.f113 8=true from by decide +kernel) ?_;conv=>whnf
 have Ae:(cZ p).length=p.length:=by simp[cZ]
 refine ag (ds:=bx p::aM) (hw p pd (by omega)) rfl 1 (aF (bR rfl (by simp[cZ])) (rl aM)) ?_;conv=>whnf
 refine bY [1000006] [.d (.bool (wf p).2)] (ml 113 g aM many 2000000 p.length p (i64 (wf p).1) (.bool (wf p).2)) rfl ⟨rfl,rfl,rfl,rfl,rfl,rfl,rfl,trivial⟩ rfl ?_;refine⟨rfl,p,(wf p).1,(wf p).2,rfl,?_⟩;simp only[gC];cases hb:(wf p).2<;>simp[AY]
theorem yD{g:FuncId}{aM:List D}{wf:List Int->Int×Bool}{many left:Nat}(hm:many<=1000)(TY:wM g aM wf many left):wM g aM wf many (left+1):=by
 intro start p x b hl hf hp pd σ Y s;refine ek mixed ao Tryz.func113 rfl (ft:=BM) (args:=kS start (left+1)) (show uQ BM Tryz.f113 8=true from by decide +kernel) ?_;conv=>whnf
 refine bV (T:=tys) ao (by exact ah mixed ao (by decide +kernel)) (α:=Nat×Int×Bool)
  (fun x=>⟨[(1,.d (i64 (left+1:Nat))),(2,.ptr 1000000 0),(3,.ptr 1000001 0),(4,.ptr 1000002 0),(5,.ptr 1000003 0),(6,.ptr 1000004 0),(7,.ptr 1000005 0),(11,.d (i64 x.1))],ml 113 g aM many 900000 p.length p (i64 x.2.1) (.bool x.2.2),s⟩)
  (fun x=>x.1<=many+1/\gC wf many (left+1) p start=(List.range' x.1 (many-left-x.1)).findSome? fun(i:Nat)=>gC wf many left (p ++ [(i:Int)]) (i+1)) (fun x=>many+1-x.1) (start,x,b)
  ((Wk.move 1000006 900000 rfl rfl).trans av) ⟨hf,rfl⟩ ?_
 clear hf x b;rintro ⟨i,x,b⟩ ⟨hi,he⟩;simp only at hi he;conv=>whnf
 refine ab ?_;conv=>whnf
 refine ai (fun h1=>?_) (fun h1=>?_)
 ·have h1:i<=many-(left+1):=by have:=of_decide_eq_true h1;omega
  obtain⟨m,yU⟩:∃ m,many-left-i=m+1:=⟨many-left-i-1,by omega⟩;rw[yU,List.range'_succ,List.findSome?_cons]at he;have qA:(cZ p).length=p.length:=by simp[cZ]
  conv=>whnf
  refine aL rfl ?_;conv=>whnf
  refine m5.mk (by simp[aI.len,qA]) ?_;conv=>whnf
  refine bo (by simp[aI.len,aI.part,aI.cons,V.cells,qA];omega) ?_;conv=>whnf
  refine aK (((i+1:Nat):Int)) (by(try dsimp only);omega) (wrap_i64 (by(try dsimp only);omega)) ?_;conv=>whnf
  refine aK ((left:Int)) (by(try dsimp only);omega) (wrap_i64 (by(try dsimp only);omega)) ?_;conv=>whnf
  have Ki:∀ j∈p ++ [(i:Int)],0<=j/\j<many:=by
   intro j hj;rcases List.mem_append.1 hj with hj|hj
   ·exact pd j hj
   ·rw[List.mem_singleton]at hj;subst hj;omega
  have ih:=TY (i+1) (p ++ [(i:Int)]) x b (by omega) (by omega) (by simp;omega) Ki Y.np s;refine pn ih [1000000,1000001,1000002,1000003,1000004,1000005,32] rfl ⟨_,_,rfl,rfl,_,_,rfl,(by
    show some (Obj.box (Cells.vv [V.sl 32 1 0 ((((cZ p).drop 0).take p.length).length+1)]))=some (Obj.box (Cells.vv [V.sl 32 1 0 (p ++ [(i:Int)]).length]));simp[cZ]),_,_,rfl,rfl,_,_,rfl,rfl,_,_,rfl,rfl,_,_,rfl,rfl,_,_,rfl,(by
    show some (Obj.arr 1 (aI.dd ((((cZ p).drop 0).take p.length) ++ [[i64 (i:Int)]])))=some (Obj.arr 1 (aI.dd (cZ (p ++ [(i:Int)]))));simp[cZ,List.take_of_length_le]),rfl⟩ rfl rfl ?_
  rintro v h1 s' ⟨rfl,q,y,b',rfl,gI⟩
  cases hF:gC wf many left (p ++ [(i:Int)]) (i+1) with
  | some r=>
   obtain⟨q',y'⟩:=r;rw[hF]at gI he;obtain⟨rfl,rfl,rfl,rfl⟩:=gI;refine⟨rfl,?_⟩;conv=>whnf
   refine bY [102432] [.d (.bool true)] (ml 113 g aM many 2000000 q.length q (i64 y) (.bool true)) rfl ⟨rfl,pB rfl ⟨⟨rfl,rfl,rfl,rfl⟩,trivial⟩,rfl,rfl,rfl,pB rfl ⟨⟨rfl,⟨rfl,rfl⟩,⟨rfl,rfl⟩,⟨rfl,rfl⟩,⟨rfl,rfl⟩,⟨rfl,rfl⟩,⟨rfl,rfl⟩,trivial⟩,trivial⟩,rfl,trivial⟩ rfl ?_;refine⟨rfl,q,y,true,rfl,?_⟩;rw[he];exact⟨rfl,rfl,rfl,rfl⟩
  | none=>
   rw[hF]at gI he;obtain⟨rfl,rfl⟩:=gI;refine⟨rfl,?_⟩;conv=>whnf
   refine aK (p.length:Int) (by simp) (wrap_i64 (by omega)) ?_;conv=>whnf
   refine bo (by simp;omega) ?_;conv=>whnf
   refine aK (((i+1:Nat):Int)) (by(try dsimp only);omega) (wrap_i64 (by(try dsimp only);omega)) ?_;conv=>whnf
   have sy:many-left-(i+1)=m:=by omega
   refine⟨(i+1,y,b'),by simp only;omega,⟨by simp only;omega,by simp only;rw[sy];exact he⟩,(Wk.move 102432 900000 rfl rfl).trans ((Wk.shrink 900000 p.length rfl).trans ?_)⟩;have TH:(cZ (p ++ [(i:Int)])).take p.length=cZ p:=by simp[cZ,List.take_left']
   refine Wk.sub ⟨rfl,rfl,rfl,rfl,rfl,rfl,rfl,rfl,trivial⟩ ⟨rfl,?_,rfl,rfl,rfl,rfl,?_,trivial⟩
   ·rfl
   ·show some (Obj.arr 1 (aI.dd ((cZ (p ++ [(i:Int)])).take p.length)))=_
    rw[TH]
 ·have h1:¬ (i:Int)<=(many:Int)-((left+1:Nat):Int):=of_decide_eq_false h1
  rw[show many-left-i=0 by omega]at he;conv=>whnf
  refine bY [900000] [.d (.bool false)] (ml 113 g aM many 2000000 p.length p (i64 x) (.bool b)) rfl ⟨rfl,rfl,rfl,rfl,rfl,rfl,rfl,trivial⟩ rfl ?_;refine⟨rfl,p,x,b,rfl,?_⟩;rw[he];exact⟨rfl,rfl⟩
theorem JH{g:FuncId}{aM:List D}{wf:List Int->Int×Bool}{many:Nat}(hm:many<=1000)(hw:wS g aM wf many)(left:Nat):wM g aM wf many left:=by
 induction left with
 | zero=>exact yE hm hw
 | succ n ih=>exact yD hm ih
theorem MH(p:List Int)(hp:p.length<1000000):aW Tryz.prog 114 [bx p] (bx p):=by
 refine aA Tryz.func114 rfl (ft:=MU) 1 fun {σ} Y st=>?_;conv=>whnf
 refine⟨fun b hb=>?_⟩
 cases b with
 | true=>
  have xz:p = []:=by
   cases p with
   | nil=>rfl
   | cons a r=>exact absurd (hb (by simp)) (by simp)
  subst xz;conv=>whnf
  refine fV ?_;exact af
 | false=>
  conv=>whnf
  refine m5.mk rfl ?_;conv=>whnf
  refine bo (by
   show(ig 1 (p.map fun n=>[i64 n])&&true)=true;rw[gj (fun x=>⟨rfl,rfl⟩)];rfl) ?_
  conv=>whnf
  refine bo (by simp[aI.len,aI.part];omega) ?_;conv=>whnf
  exact Gw (es:=p.map fun n=>[i64 n]) rfl (by simp[aI.len,aI.part]) ⟨⟨rfl,rfl⟩,rfl⟩
def j5{τ:Type}(wf:List Int->τ×Bool)(many:Nat):Option (List Int×τ):=(List.range' 0 (many+1)).findSome? fun(n:Nat)=>gC wf many n [] 0
theorem qL{τ:Type}{wf:List Int->τ×Bool}{many:Nat}:∀ {left:Nat} {p:List Int} {start:Nat} {q:List Int} {y:τ},gC wf many left p start=some (q,y)->q.length=p.length+left
 | 0,p,start,q,y,h=>by
  simp only[gC]at h;split at h
  ·cases h;rfl
  ·cases h
 | left+1,p,start,q,y,h=>by
  simp only[gC]at h;obtain⟨i,hi,h1⟩:=List.exists_of_findSome?_eq_some h;have:=qL h1;simp at this;omega
theorem QR(g:FuncId)(aM:List D)(wf:List Int->Int×Bool)(many:Nat)(hm:many<=1000)(hw:wS g aM wf many){σ:Type}(Y:Hd σ)(s:σ) :
  DD Tryz.prog Y 73 [.d (i64 many),.d (.clo g aM)] [] s fun v h' s'=>s'=s/\h' = []/\(match j5 wf many with
   | some (q,y)=>v = .d (.tup [bx q,i64 y,.bool true])
   | none=>∃ y,v = .d (.tup [bx [],i64 y,.bool false])):=by
 refine ek mixed ao Tryz.func73 rfl (ft:=ND) (args:=[.d (i64 many),.d (.clo g aM)]) (show uQ ND Tryz.f73 2=true from by decide +kernel) ?_;conv=>whnf
 refine ab ?_;conv=>whnf
 refine bV (T:=tys) ao (by exact ah mixed ao (by decide +kernel)) (α:=Nat×Int×Bool)
  (fun x=>⟨[(2,.ptr 2 0),(3,.ptr 3 0),(4,.ptr 4 0),(5,.ptr 5 0),(6,.ptr 6 0),(7,.ptr 7 0),(11,.d (i64 (many+1:Nat))),(12,.d (i64 x.1))],
   [(2,.box (.dd [i64 many])),(3,.box (.dd [.clo g aM])),(4,.box (.vv [.sl 900000 1 0 0])),(5,.box (.dd [i64 x.2.1])),(6,.box (.dd [.bool x.2.2])),(7,.box (.vv [.clo 113 [.ptr 3 0,.ptr 4 0,.ptr 5 0,.ptr 6 0,.ptr 2 0,.ptr 7 0]])),(900000,.arr 1 (.dd []))],s⟩)
  (fun x=>x.1<=many+1/\j5 wf many=(List.range' x.1 (many+1-x.1)).findSome? fun(n:Nat)=>gC wf many n [] 0) (fun x=>many+1-x.1) (0,0,false)
  ((Wk.pA 4 900000 1 rfl rfl rfl rfl).trans av) ⟨by simp,rfl⟩ ?_
 rintro ⟨n,x,b⟩ ⟨hn,he⟩;simp only at hn he;conv=>whnf
 refine ai (fun h1=>?_) (fun h1=>?_)
 ·have h1:n<many+1:=by have:=of_decide_eq_true h1;omega
  obtain⟨m,yU⟩:∃ m,many+1-n=m+1:=⟨many-n,by omega⟩;have sy:many+1-(n+1)=m:=by omega
  rw[yU,List.range'_succ,List.findSome?_cons]at he;conv=>whnf
  refine Br (JH hm hw n 0 [] x b (by omega) (by omega) (by simp;omega) (by simp) Y.np s) [3,4,5,6,2,7,900000] rfl ⟨_,_,rfl,rfl,_,_,rfl,rfl,_,_,rfl,rfl,_,_,rfl,rfl,_,_,rfl,rfl,_,_,rfl,rfl,_,_,rfl,rfl,rfl⟩ rfl rfl ?_;rintro v h1 s' ⟨rfl,q,y,b',rfl,gI⟩
  cases hF:gC wf many n [] 0 with
  | some r=>
   obtain⟨q',y'⟩:=r;rw[hF]at gI he;obtain⟨rfl,rfl,rfl,rfl⟩:=gI;refine⟨rfl,?_⟩;conv=>whnf
   refine⟨⟨[(4,.ptr 4 0),(5,.ptr 5 0),(6,.ptr 6 0),(17,.d (.bool true))],[(4,.box (.dd [bx q])),(5,.box (.dd [i64 y])),(6,.box (.dd [.bool true]))],s'⟩,(Wk.Pw 1 [101088]).trans (Wk.sub ⟨rfl,rfl,rfl,rfl,trivial⟩ ⟨?_,rfl,rfl,trivial⟩),?_⟩
   ·exact BP (id:=101088) (sz:=1) (n:=q.length) rfl (bR (es:=cZ q) rfl (by simp[cZ]))
   conv=>whnf
   refine aj (MH q (by have:=qL hF;simp at this;omega)) rfl rfl ?_;conv=>whnf
   refine al 0 rfl ⟨rfl,rfl,?_⟩;rw[he];rfl
  | none=>
   rw[hF]at gI he;obtain⟨rfl,rfl⟩:=gI;refine⟨rfl,?_⟩;conv=>whnf
   refine⟨⟨[(2,.ptr 2 0),(3,.ptr 3 0),(4,.ptr 4 0),(5,.ptr 5 0),(6,.ptr 6 0),(7,.ptr 7 0),(11,.d (i64 (many+1:Nat))),(12,.d (i64 n)),(17,.d (.bool false))],
    [(2,.box (.dd [i64 many])),(3,.box (.dd [.clo g aM])),(4,.box (.vv [.sl 900000 1 0 0])),(5,.box (.dd [i64 y])),(6,.box (.dd [.bool b'])),(7,.box (.vv [.clo 113 [.ptr 3 0,.ptr 4 0,.ptr 5 0,.ptr 6 0,.ptr 2 0,.ptr 7 0]])),(900000,.arr 1 (.dd []))],s'⟩,
    (Wk.move 101088 900000 rfl rfl).trans av,?_⟩
   conv=>whnf
   refine ab ?_;conv=>whnf
   exact⟨(n+1,y,b'),by simp only;omega,⟨by simp only;omega,by simp only;rw[sy];exact he⟩,av⟩
 ·have h1:¬ n<many+1:=by have:=of_decide_eq_false h1;omega
  rw[show many+1-n=0 by omega]at he;conv=>whnf
  refine fV ?_;refine al 0 rfl ⟨rfl,rfl,?_⟩;rw[he];exact⟨x,rfl⟩
theorem Q3(l:List Int)(v:Int)(hl:l.length<4000000000000000000):aW Tryz.prog 115 [bx l,i64 v] (i64 (indexOf (fun x=>decide (v=x)) l 0)):=by
 refine aA Tryz.func115 rfl (ft:=MV) 2 fun {σ} Y st=>?_;conv=>whnf
 refine aZ (T:=tys) ao (by exact ah mixed ao (by decide +kernel)) l (fun i (_:Unit)=>⟨[(0,.d (bx l)),(1,.d (i64 v)),(7,.d (i64 l.length)),(8,.d (i64 i))],[],st⟩) (fun i r _=>indexOf (fun x=>decide (v=x)) l 0=indexOf (fun x=>decide (v=x)) r i) ()
  av rfl ?_ ?_
 ·intro i x r _ hx hi hr he
  rw[indexOf]at he;conv=>whnf
  refine ai (fun _=>?_) (fun h=>absurd hi (by simpa using h));conv=>whnf
  refine ax hx ?_;conv=>whnf
  refine ai (fun h1=>?_) (fun h1=>?_)
  ·conv=>whnf
   rw[if_pos h1]at he;rw[he];exact af
  ·conv=>whnf
   rw[if_neg (by simp[h1])]at he;refine ab ?_;conv=>whnf
   exact⟨(),he,av⟩
 ·intro _ he
  conv=>whnf
  refine ai (fun h=>absurd h (by simp)) (fun _=>?_);conv=>whnf
  rw[he];exact af
theorem QT(l:List Int)(v:Int)(hl:l.length<4000000000000000000):aW Tryz.prog 75 [bx l,i64 v] (.bool (decide (v∈l))):=by
 refine aA Tryz.func75 rfl (ft:=R9) 2 fun {σ} Y st=>?_;conv=>whnf
 refine ae (Q3 l v hl) rfl rfl ?_;conv=>whnf
 refine al 0 rfl ⟨⟨?_,rfl⟩,rfl⟩;have h1:=eY (fun x=>decide (v=x)) l 0 (by omega);have h2:(l.any fun x=>decide (v=x))=decide (v∈l):=by
  rw[Bool.eq_iff_iff];simp
 rw[<- h2,<- h1];rfl
def qI(s:bH)(off:Int)(q:List Int):Int×Bool:=((dr q s.aQ 0).length,!(kl s off (dr q s.aQ 0)).isEmpty)
theorem mi{α:Type}{q:List Int}:∀ {l:List α} {i:Int},∀ x∈dr q l i,x∈l
 | [],i,x,h=>by cases h
 | a::r,i,x,h=>by
  simp only[dr]at h;split at h
  ·exact List.mem_cons_of_mem _ (mi x h)
  ·rcases List.mem_cons.1 h with rfl|h
   ·simp
   ·exact List.mem_cons_of_mem _ (mi x h)
theorem mh{α:Type}{q:List Int}:∀ {l:List α} {i:Int},(dr q l i).length<=l.length
 | [],i=>by simp[dr]
 | a::r,i=>by
  simp only[dr];split
  ·have:=mh (q:=q) (l:=r) (i:=i+1);simp;omega
  ·have:=mh (q:=q) (l:=r) (i:=i+1);simp;omega
theorem kn.sub{s:bH}{off:Int}{gs Sz:List cH}(h:kn s off gs)(hm:∀ g∈Sz,g∈gs)(hl:Sz.length<=gs.length):kn s off Sz:=⟨h.off,h.O3,fun g hg=>h.VA g (hm g hg),by have:=h.len;omega⟩
theorem QS(s:bH)(off:Int)(q:List Int)(h:kn s off s.aQ)(hq:q.length<1000000):aW Tryz.prog 74 [bx q,.ref (cL s off)] (.tup [i64 (qI s off q).1,.bool (qI s off q).2]):=by
 refine aA Tryz.func74 rfl (ft:=R8) 2 fun {σ} Y st=>?_;conv=>whnf
 have hlen:=h.len;refine aZ (T:=tys) ao (by exact ah mixed ao (by decide +kernel)) s.aQ (fun i (acc:List cH)=>⟨[(0,.d (bx q)),(1,.d (.ref (cL s off))),(5,.sl 24 2 0 acc.length),(10,.d (fp s.aQ)),(11,.d (i64 s.aQ.length)),(12,.d (i64 i))],[(24,.arr 2 (.dd (acc.map cH.cells)))],st⟩)
  (fun i r acc=>acc.length<=i/\dr q s.aQ 0=acc++dr q r i) []
  ((Wk.born 5 24 2 rfl rfl rfl).trans av) ⟨by simp,rfl⟩ ?_ ?_
 ·intro i x r acc hx hi hr ⟨ha,he⟩
  rw[dr]at he;conv=>whnf
  refine ai (fun _=>?_) (fun h=>absurd hi (by simpa using h));conv=>whnf
  refine ax hx ?_;conv=>whnf
  refine ae (QT q i (by omega)) rfl rfl ?_;conv=>whnf
  refine ai (fun h1=>?_) (fun h1=>?_)
  ·have h1:(i:Int)∉q:=by simpa using h1
   rw[if_neg h1]at he;conv=>whnf
   refine aL rfl ?_;conv=>whnf
   refine m5.mk (by simp[aI.len]) ?_;conv=>whnf
   refine bo (by simp[aI.len,aI.part,aI.cons,V.cells];omega) ?_;conv=>whnf
   refine ab ?_;conv=>whnf
   refine⟨acc ++ [x],⟨by simp;omega,by rw[he,List.append_assoc];rfl⟩,Wk.sub ⟨rfl,rfl,?_,rfl,rfl,rfl,trivial⟩ ⟨?_,trivial⟩⟩
   ·simp[PX.get,aI.len,aI.part,aI.cons,V.cells]
   ·simp[PX.get,aI.app,aI.part,aI.cons,V.cells,cH.cells,FW]
  ·have h1:(i:Int)∈q:=by simpa using h1
   rw[if_pos h1]at he;conv=>whnf
   refine ab ?_;conv=>whnf
   exact⟨acc,⟨by omega,he⟩,av⟩
 ·intro acc ⟨ha,he⟩
  rw[dr,List.append_nil]at he;conv=>whnf
  refine ai (fun h=>absurd h (by simp)) (fun _=>?_);conv=>whnf
  rw[<- he]at ha ⊢;refine ag (ds:=[.agg (cL s off),fp (dr q s.aQ 0)]) (QU s off (dr q s.aQ 0) (h.sub (fun g hg=>mi g hg) mh)) rfl 1 (aF rfl (aF (bR rfl (by simp)) rfl)) ?_;conv=>whnf
  exact af
def w9(s:bH)(off:Int):List Int:=
 match j5 (qI s off) s.aQ.length with
 | some (q,_)=>q
 | none=>[]
def pF(c:Case)(i:Int):List Int:=
 if gr c i=0 then (match c.chain.au[i.toNat]? with
  | some s=>w9 s c.chain.err
  | none=>[]) else []
theorem QC(c:Case)(i:Int):aW Tryz.prog 25 [c.d,i64 i] (.tup [bx (pF c i),i64 (gr c i)]):=by
 refine aA Tryz.func25 rfl (ft:=Rk) 2 fun {σ} Y st=>?_;conv=>whnf
 refine ae (ds:=[c.d,i64 i]) (JN c i) rfl rfl ?_;by_cases h0:gr c i=0
 ·obtain⟨hc,s,hi,hs⟩:=ue h0
  have hR:=fj hc;have hm:=List.mem_of_getElem? hs;have hL:=hR.look hm;have hr:=(hR.au s hm).1;have hlen:=hr.len;have hD:iQ c i = .agg (cL s c.chain.err):=by simp[iQ,h0,hs]
  rw[hD,h0];conv=>whnf
  have od:wS 74 [.ref (cL s c.chain.err)] (qI s c.chain.err) s.aQ.length:=fun q _ hq=>QS s c.chain.err q hL (by omega);refine vk 1 [6] ?_;refine vm (e':=[(2,.ptr 2 0),(4,.d .nils),(7,.d (i64 0))]) (h':=[]) (args':=[.d (i64 s.aQ.length),.d (.clo 74 [.ref (cL s c.chain.err)])]) ⟨rfl,rfl,rfl,trivial⟩ trivial (by simp only[List.length_map];rfl) ?_;refine pn (QR 74 [.ref (cL s c.chain.err)] (qI s c.chain.err) s.aQ.length (by omega) od Y st) [] rfl rfl rfl rfl ?_;rintro v h1 s' ⟨rfl,rfl,hv⟩
  cases hF:j5 (qI s c.chain.err) s.aQ.length with
  | some r=>
   obtain⟨q,y⟩:=r;rw[hF]at hv;simp only at hv;subst hv;refine⟨rfl,?_⟩;conv=>whnf
   refine al 0 rfl ⟨⟨?_,rfl⟩,rfl⟩;simp[pF,w9,h0,hs,hF,bF]
  | none=>
   rw[hF]at hv;obtain⟨y,rfl⟩:=hv;refine⟨rfl,?_⟩;conv=>whnf
   refine al 0 rfl ⟨⟨?_,rfl⟩,rfl⟩;simp[pF,w9,h0,hs,hF,bF]
 ·have hD:iQ c i = .agg [.str ⟨#[]⟩,i64 0,i64 0,i64 0,i64 0,i64 0,i64 0,.nils,i64 0]:=by simp[iQ,h0]
  rw[hD];conv=>whnf
  refine ai (fun h1=>?_) (fun h1=>absurd h0 (by simpa using h1));conv=>whnf
  refine fV ?_;refine al 0 rfl ⟨⟨?_,rfl⟩,rfl⟩;simp[pF,h0,bF,bx]
structure dU where
 depth:Int
 bk:Int
 current:Int
 bm:Int
 hold:Int
 dq:List Int
def dU.cells(t:dU):List D:=[i64 t.depth,i64 t.bk,i64 t.current,i64 t.bm,i64 t.hold,bx t.dq]
def dU.d(t:dU):D:=.agg t.cells
def r5.cells(s:r5):List D:=[i64 s.bk,i64 s.current,i64 s.bm,i64 s.yh]
def lN(s:r5)(t:dU):D:=.agg (s.cells++t.cells)
structure ib(s:r5)(t:dU):Prop where
 bk:0<=s.bk/\s.bk<=10000
 current:0<=s.current/\s.current<=10000
 bm:0<=s.bm/\s.bm<=10000
 yh:0<=s.yh/\s.yh<=20
 Lf:0<=t.depth/\t.depth<=1000
 Ck:0<=t.bk/\t.bk<=80
 qw:0<=t.current/\t.current<=80
 xY:0<=t.bm/\t.bm<=150
 Pj:0<=t.hold/\t.hold<=200000
theorem dP{a b:Int}(A B:Int)(ha:0<=a/\a<=A)(hb:0<=b/\b<=B):0<=a*b/\a*b<=A*B:=
 ⟨Int.mul_nonneg ha.1 hb.1,Int.mul_le_mul ha.2 hb.2 hb.1 (by omega)⟩
theorem Q4(s:r5)(t:dU)(h:ib s t):aW Tryz.prog 116 [lN s t] (i64 (t.bk*t.bk*s.bk)):=by
 refine aA Tryz.func116 rfl (ft:=MW) 1 fun {σ} Y st=>?_;conv=>whnf
 have h1:=dP 80 80 h.Ck h.Ck;have h2:=dP 6400 10000 h1 h.bk;refine ab ?_;conv=>whnf
 refine ab ?_;conv=>whnf
 exact af
theorem Mh(s:r5)(t:dU)(h:ib s t):aW Tryz.prog 117 [lN s t] (i64 (t.current*t.current*s.current)):=by
 refine aA Tryz.func117 rfl (ft:=MX) 1 fun {σ} Y st=>?_;conv=>whnf
 have h1:=dP 80 80 h.qw h.qw;have h2:=dP 6400 10000 h1 h.current;refine ab ?_;conv=>whnf
 refine ab ?_;conv=>whnf
 exact af
theorem Mi(s:r5)(t:dU)(h:ib s t):aW Tryz.prog 119 [lN s t] (i64 (t.bm*s.bm)):=by
 refine aA Tryz.func119 rfl (ft:=MZ) 1 fun {σ} Y st=>?_;conv=>whnf
 have h1:=dP 150 10000 h.xY h.bm;refine ab ?_;conv=>whnf
 exact af
def Ag(n b:Int):Int:=(n+b-1).tdiv b
def ql(s:r5)(t:dU)(out:Int):Int:=Ag ((Ag (t.bk*t.bk*s.bk+t.current*t.current*s.current) 100+t.bm*s.bm)*(1000+s.yh*out)) 1000
theorem Bf{n b:Int}(N:Int)(hn:0<=n/\n<=N)(hb:1<=b):0<=Ag n b/\Ag n b<=N+b:=by
 unfold Ag;rw[Int.tdiv_eq_ediv_of_nonneg (by omega)];constructor
 ·exact Int.ediv_nonneg (by omega) (by omega)
 ·exact Int.le_trans (Int.ediv_le_self _ (by omega)) (by omega)
theorem zz{s:r5}{t:dU}(h:ib s t){out:Int}(ho:0<=out/\out<=1000) :
  (0<=t.bk*t.bk*s.bk/\t.bk*t.bk*s.bk<=64000000)/\(0<=t.current*t.current*s.current/\t.current*t.current*s.current<=64000000) /\
  (0<=Ag (t.bk*t.bk*s.bk+t.current*t.current*s.current) 100/\Ag (t.bk*t.bk*s.bk+t.current*t.current*s.current) 100<=128000100) /\
  (0<=t.bm*s.bm/\t.bm*s.bm<=1500000)/\(0<=s.yh*out/\s.yh*out<=20000) /\
  (0<=(Ag (t.bk*t.bk*s.bk+t.current*t.current*s.current) 100+t.bm*s.bm)*(1000+s.yh*out)/\(Ag (t.bk*t.bk*s.bk+t.current*t.current*s.current) 100+t.bm*s.bm)*(1000+s.yh*out)<=130000000*21000) /\
  (0<=ql s t out/\ql s t out<=3000000000000):=by
 have h1:=dP 6400 10000 (dP 80 80 h.Ck h.Ck) h.bk;have h2:=dP 6400 10000 (dP 80 80 h.qw h.qw) h.current;have h3:=Bf (n:=t.bk*t.bk*s.bk+t.current*t.current*s.current) (b:=100) 128000000 (by omega) (by omega);have h4:=dP 150 10000 h.xY h.bm;have h5:=dP 20 1000 h.yh ho;have h6:=dP (a:=Ag (t.bk*t.bk*s.bk+t.current*t.current*s.current) 100+t.bm*s.bm) (b:=1000+s.yh*out) 130000000 21000 (by omega) (by omega);have h7:=Bf (n:=(Ag (t.bk*t.bk*s.bk+t.current*t.current*s.current) 100+t.bm*s.bm)*(1000+s.yh*out)) (b:=1000) (130000000*21000) h6 (by omega);refine⟨by omega,by omega,by omega,by omega,by omega,h6,?_⟩;unfold ql;omega
theorem My(s:r5)(t:dU)(out:Int)(h:ib s t)(ho:0<=out/\out<=1000):aW Tryz.prog 78 [lN s t,i64 out] (i64 (ql s t out)):=by
 refine aA Tryz.func78 rfl (ft:=Sc) 2 fun {σ} Y st=>?_;conv=>whnf
 obtain⟨b1,b2,b3,b4,b5,b6,b7⟩:=zz h ho;refine bV (T:=tys) ao (by exact ah mixed ao (by decide +kernel)) (α:=Nat×Int)
  (fun x=>⟨[(1,.d (i64 out)),(2,.ptr 2 0),(5,.d (i64 x.2)),(12,.d (.agg [.mth 116 [lN s t],.mth 117 [lN s t]])),(13,.d (i64 x.1))],[(2,.box (.dd (s.cells++t.cells)))],st⟩)
  (fun x=>(x.1=0/\x.2=0)\/(x.1=1/\x.2=t.bk*t.bk*s.bk)\/(x.1=2/\x.2=t.bk*t.bk*s.bk+t.current*t.current*s.current)) (fun x=>2-x.1) (0,0)
  av (.inl ⟨rfl,rfl⟩) ?_
 rintro ⟨n,sum⟩ hn;simp only at hn;rcases hn with⟨rfl,rfl⟩|⟨rfl,rfl⟩|⟨rfl,rfl⟩
 ·conv=>whnf
  refine ae (Q4 s t h) rfl rfl ?_;conv=>whnf
  refine ab ?_;conv=>whnf
  refine ab ?_;conv=>whnf
  refine⟨(1,t.bk*t.bk*s.bk),by simp,.inr (.inl ⟨rfl,rfl⟩),Wk.sub ⟨rfl,rfl,by simp[PX.get],rfl,rfl,trivial⟩ ⟨rfl,trivial⟩⟩
 ·conv=>whnf
  refine ae (Mh s t h) rfl rfl ?_;conv=>whnf
  refine ab ?_;conv=>whnf
  refine ab ?_;conv=>whnf
  refine⟨(2,t.bk*t.bk*s.bk+t.current*t.current*s.current),by simp,.inr (.inr ⟨rfl,rfl⟩),av⟩
 ·conv=>whnf
  refine aj (ds:=[i64 (t.bk*t.bk*s.bk+t.current*t.current*s.current),i64 100]) (Eo _ 100 (by omega) (by omega)) rfl rfl ?_;conv=>whnf
  refine aj (ds:=[lN s t]) (Mi s t h) rfl rfl ?_;conv=>whnf
  have e1:(t.bk*t.bk*s.bk+t.current*t.current*s.current+100-1).tdiv 100=Ag (t.bk*t.bk*s.bk+t.current*t.current*s.current) 100:=rfl;rw[e1];refine ab ?_;conv=>whnf
  refine ab ?_;conv=>whnf
  refine ab ?_;conv=>whnf
  refine ab ?_;conv=>whnf
  refine ae (ds:=[i64 ((Ag (t.bk*t.bk*s.bk+t.current*t.current*s.current) 100+t.bm*s.bm)*(1000+s.yh*out)),i64 1000]) (Eo _ 1000 (by omega) (by omega)) rfl rfl ?_;conv=>whnf
  exact af
def bB:List bH->Int->List (D×D)
 | [],_=>[]
 | s::r,i=>(i64 i,s.new.d)::bB r (i+1)
theorem nX:∀ (l:List bH) (x:bH) (i:Int),bB (l ++ [x]) i=bB l i ++ [(i64 (i+l.length),x.new.d)]
 | [],x,i=>by simp[bB]
 | s::r,x,i=>by
  have:i+1+(r.length:Int)=i+((s::r).length:Nat):=by simp only[List.length_cons];omega
  simp only[List.cons_append,bB,nX r x (i+1),this]
theorem rB:∀ (l:List bH) (i n:Int) (j:Nat),i+l.length<=n->findD (i64 n) (bB l i) j=some none
 | [],i,n,j,_=>rfl
 | s::r,i,n,j,h=>by
  simp only[List.length_cons]at h;have:decide (n=i)=false:=by simp;omega
  simp only[bB,findD,gO,decide_true,this];exact rB r (i+1) n (j+1) (by omega)
theorem rC:∀ (l:List bH) (i:Int) (k j:Nat) (s:bH),l[k]?=some s->findD (i64 (i+k)) (bB l i) j=some (some (j+k,s.new.d))
 | [],i,k,j,s,h=>by simp at h
 | x::r,i,0,j,s,h=>by
  simp at h;subst h;simp[bB,findD,gO]
 | x::r,i,k+1,j,s,h=>by
  have h:r[k]?=some s:=by simpa using h
  have:decide (i+((k+1:Nat):Int)=i)=false:=by simp;omega
  simp only[bB,findD,gO,decide_true,this];have:=rC r (i+1) k (j+1) s h;rw[show i+((k+1:Nat):Int)=i+1+(k:Int) by omega,this]
  congr 3;omega
def aO(c:Case):List Span:=c.chain.au.map fun s=>(dw s c.chain.err s.aQ c.day).1
def kG(c:Case):Int:=kH c.chain.err c.day c.chain.au 0
def I3(c:Case):List D:=c.cells ++ [dc (aO c),.mv (bB c.chain.au 0)]
def Fb(c:Case):D:=.ref (I3 c)
theorem qt{off day:Int}:∀ (l:List bH),kH off day l 8=8
 | []=>rfl
 | x::r=>by simp[kH]
theorem JO(c:Case)(e:Int)(hc:e=0->fU c):aW Tryz.prog 50 [c.d,i64 e] (.tup [if e=0 then (if kG c=0 then Fb c else .nilp) else .nilp,i64 (if e=0 then kG c else e)]):=by
 refine aA Tryz.func50 rfl (ft:=RK) 2 fun {σ} Y st=>?_;conv=>whnf
 refine ai (fun h1=>?_) (fun h1=>?_)
 ·have h1:e≠0:=by simpa using h1
  conv=>whnf
  refine al 0 rfl ⟨⟨?_,rfl⟩,rfl⟩;simp[h1,bF]
 have h1:e=0:=by simpa using h1
 have hR:=hc h1;subst h1;simp only[if_true];have hlen:=hR.lens;obtain⟨sE,UR⟩:∃ x,x=kG c:=⟨_,rfl⟩;rw[<- UR];conv=>whnf
 refine aZ (T:=tys) ao (by exact ah mixed ao (by decide +kernel)) c.chain.au (fun i (_:Unit)=>⟨[(2,.ptr 2 0),(6,.ptr 17 0),(20,.d (fQ c.chain.au)),(21,.d (i64 c.chain.au.length)),(22,.d (i64 i))],
   [(2,.box (.dd c.cells)),(17,.box (.vv (inj c.cells ++ [.sl 47 2 0 i,.mp 15]))),(47,.arr 2 (.dd (((aO c).take i).map Span.cells))),(15,.map (bB (c.chain.au.take i) 0))],st⟩)
  (fun i r _=>(∀ s∈r,s∈c.chain.au)/\sE=kH c.chain.err c.day r 0) ()
  ((Wk.Jp 17 47 2 (inj c.cells) [.mp 15] rfl rfl rfl rfl).trans av) ⟨fun _ h=>h,UR⟩ ?_ ?_
 ·intro i x r _ hx hi hr ⟨hm,he⟩
  have Wm:=hm x (by simp);have hL:=hR.look Wm;have J1:=hR.day;rw[kH,if_pos rfl]at he;have u5:c.chain.au.take (i+1)=c.chain.au.take i ++ [x]:=by rw[List.take_succ,hx];rfl
  have Wz:(aO c).take (i+1)=(aO c).take i ++ [(dw x c.chain.err x.aQ c.day).1]:=by
   rw[List.take_succ];simp[aO,hx]
  have dN:((aO c).take i).length=i:=by simp[aO];omega
  have EP:min i (aO c).length=i:=by simpa using dN
  conv=>whnf
  refine ai (fun _=>?_) (fun h=>absurd hi (by simpa using h));conv=>whnf
  refine ax hx ?_;conv=>whnf
  refine ae (ds:=[.agg (cL x c.chain.err),i64 c.day]) (Mw x c.chain.err c.day hL (by omega)) rfl rfl ?_;conv=>whnf
  refine ai (fun h2=>?_) (fun h2=>?_)
  ·have h2:(dw x c.chain.err x.aQ c.day).2=false:=by simpa using h2
   rw[h2]at he;simp only[Bool.false_eq_true,if_false,qt]at he;conv=>whnf
   rw[he];exact af
  ·have h2:(dw x c.chain.err x.aQ c.day).2=true:=by simpa using h2
   rw[h2]at he;simp only[if_true]at he;conv=>whnf
   refine aL rfl ?_;conv=>whnf
   refine m5.mk (by simp[aI.len,EP]) ?_;conv=>whnf
   refine bo (by simp[aI.len,aI.part,aI.cons,V.cells,EP];omega) ?_;conv=>whnf
   refine⟨none,rB _ 0 i 0 (by simp;omega),?_⟩;conv=>whnf
   refine ab ?_;conv=>whnf
   refine⟨(),⟨fun s hs=>hm s (by simp[hs]),he⟩,Wk.sub ⟨rfl,rfl,rfl,rfl,rfl,trivial⟩ ⟨rfl,?_,?_,?_,trivial⟩⟩
   ·show some (Obj.box (.vv (inj c.cells ++ [.sl 47 2 0 ((((((aO c).take i).map Span.cells).drop 0).take i).length+1),.mp 15])))=_
    rw[List.drop_zero,List.take_of_length_le (by simp;omega)];simp only[List.length_map,dN]
   ·show some (Obj.arr 2 (.dd (((((aO c).take i).map Span.cells).drop 0).take i ++ [(dw x c.chain.err x.aQ c.day).1.cells])))=_
    rw[List.drop_zero,List.take_of_length_le (by simp;omega),Wz];simp
   ·show some (Obj.map (bB (c.chain.au.take i) 0 ++ [(i64 i,x.new.d)]))=_
    rw[u5,nX];have:((c.chain.au.take i).length:Int)=i:=by simp;omega
    rw[this,Int.zero_add]
 ·intro _ ⟨_,he⟩
  rw[kH]at he;subst he;conv=>whnf
  refine ai (fun h=>absurd h (by simp)) (fun _=>?_);conv=>whnf
  have KK:(aO c).take c.chain.au.length=aO c:=List.take_of_length_le (by simp[aO]);refine al 2 (ds:=[.ref (c.cells ++ [dc (aO c),.mv (bB (c.chain.au.take c.chain.au.length) 0)]),i64 0]) (aF (rm rfl (nG (aF (gx (es':=(aO c).map Span.cells) rfl (by rw[KK]) (by simp[aO])) (aF (F7 rfl) rfl)))) rfl) ⟨⟨?_,rfl⟩,rfl⟩;rw[List.take_length];simp[bF,Fb,I3]
theorem Fg{set fresh wear day:Int}(hf:0<=fresh)(hw:0<=wear)(hd:set<=day):0<=uc set fresh wear day/\uc set fresh wear day<=fresh:=by
 have:=Int.mul_nonneg hw (show 0<=day-set by omega);unfold uc;omega
theorem BJ{set day:Int}(hd:set<=day):∀ (l:List (Int×(Int×Int))) (acc:Span×Bool),(∀ t∈l,(0<=t.1/\t.1<=1000000)/\(0<=t.2.1/\t.2.1<=1000000)/\(0<=t.2.2/\t.2.2<=1000000)) ->
  (0<=acc.1.lo/\acc.1.lo<=1000000)/\(0<=acc.1.hi/\acc.1.hi<=1000000)->(0<=(l.foldl (eD set day) acc).1.lo/\(l.foldl (eD set day) acc).1.lo<=1000000)/\(0<=(l.foldl (eD set day) acc).1.hi/\(l.foldl (eD set day) acc).1.hi<=1000000)
 | [],acc,_,h=>h
 | t::l,acc,ht,h=>by
  rw[List.foldl_cons];refine BJ hd l _ (fun u hu=>ht u (by simp[hu])) ?_;obtain⟨h1,h2,h3⟩:=ht t (by simp);have k1:=Fg (set:=set) (fresh:=t.2.1) (wear:=t.1) (day:=day) h2.1 h1.1 hd;have k2:=Fg (set:=set) (fresh:=t.2.2) (wear:=t.1) (day:=day) h3.1 h1.1 hd;unfold eD;cases acc.2<;>simp only[if_true,Bool.false_eq_true,if_false]<;>omega
theorem wc{s:bH}{off:Int}{gs:List cH}{day:Int}(h:kn s off gs)(hd:s.set<=day):(0<=(dw s off gs day).1.lo/\(dw s off gs day).1.lo<=1000000)/\(0<=(dw s off gs day).1.hi/\(dw s off gs day).1.hi<=1000000):=by
 rw[rR];exact BJ hd _ _ (uL h) (by simp)
def cg(c:Case)(e:Int):Int:=if e=0 then kG c else e
def lG(c:Case)(i:Int):Span×Int:=
 if cg c (gr c i)=0 then (match (aO c)[i.toNat]? with
  | some s=>(⟨kg s.lo,kg s.hi⟩,0)
  | none=>(⟨0,0⟩,0)) else (⟨0,0⟩,cg c (gr c i))
theorem fN{c:Case}{e:Int}(h:cg c e=0):e=0/\kG c=0:=by
 unfold cg at h;split at h
 ·rename_i h0;exact⟨h0,h⟩
 ·rename_i h0;exact absurd h h0
theorem Dt{c:Case}{i:Nat}{s:bH}(h:c.chain.au[i]?=some s):(aO c)[i]?=some (dw s c.chain.err s.aQ c.day).1:=by
 simp[aO,h]
theorem QD(c:Case)(i:Int):aW Tryz.prog 26 [c.d,i64 i] (.tup [(lG c i).1.d,i64 (lG c i).2]):=by
 refine aA Tryz.func26 rfl (ft:=Rl) 2 fun {σ} Y st=>?_;conv=>whnf
 refine ae (ds:=[c.d,i64 i]) (JN c i) rfl rfl ?_;by_cases h0:gr c i=0
 ·obtain⟨hc,s,hi,hs⟩:=ue h0
  have hR:=fj hc;have hm:=List.mem_of_getElem? hs;have hL:=hR.look hm;have Xs:=(hR.au s hm).2;have J1:=hR.day;have hD:iQ c i = .agg (cL s c.chain.err):=by simp[iQ,h0,hs]
  have TM:=Dt hs;obtain⟨b1,b2⟩:=wc hL (day:=c.day) (by omega);rw[hD,h0];conv=>whnf
  refine ae (ds:=[c.d,i64 0]) (JO c 0 (fun _=>hR)) rfl rfl ?_;simp only[if_true];by_cases h1:kG c=0
  ·have hE:lG c i=(⟨kg (dw s c.chain.err s.aQ c.day).1.lo,kg (dw s c.chain.err s.aQ c.day).1.hi⟩,0):=by
    simp[lG,cg,h0,h1,TM]
   rw[hE,h1];simp only[if_true];generalize dw s c.chain.err s.aQ c.day=rr at *;conv=>whnf
   refine bZ rr.1.cells ⟨hi,by rw[List.getElem?_map,TM];rfl⟩ ?_;conv=>whnf
   refine aj (JP rr.1.lo ⟨by omega,by omega⟩) rfl rfl ?_;conv=>whnf
   refine bZ rr.1.cells ⟨hi,by rw[List.getElem?_map,TM];rfl⟩ ?_;conv=>whnf
   refine aj (JP rr.1.hi ⟨by omega,by omega⟩) rfl rfl ?_;conv=>whnf
   exact af
  ·have hE:lG c i=(⟨0,0⟩,kG c):=by
    simp[lG,cg,h0,h1]
   rw[hE];simp only[h1,if_false];conv=>whnf
   refine ai (fun _=>?_) (fun h=>absurd h (by simpa using h1));conv=>whnf
   exact af
 ·have hD:iQ c i = .agg [.str ⟨#[]⟩,i64 0,i64 0,i64 0,i64 0,i64 0,i64 0,.nils,i64 0]:=by simp[iQ,h0]
  have hE:lG c i=(⟨0,0⟩,gr c i):=by simp[lG,cg,h0]
  rw[hD,hE];conv=>whnf
  refine ae (ds:=[c.d,i64 (gr c i)]) (JO c (gr c i) (fun h=>absurd h h0)) rfl rfl ?_;simp only[h0,if_false];conv=>whnf
  refine ai (fun _=>?_) (fun h=>absurd h (by simpa using h0));conv=>whnf
  exact af
def mD(c:Case)(th:List Span)(fr:List (D×D)):D:=.ref (c.cells ++ [dc th,.mv fr])
structure jq(c:Case)(th:List Span):Prop where
 case:fU c
 len:th.length=c.chain.au.length
 th:∀ s∈th,(0<=s.lo/\s.lo<=1000000)/\(0<=s.hi/\s.hi<=1000000)
def nT(l:List Row):Nat->List (Int×Row)
 | 0=>[]
 | n+1=>((n:Int),l[n]?.getD ⟨0,0⟩)::nT l n
def Ce(p:Int×Row):List V×ar:=([.d (i64 p.1),.d (.agg p.2.cells)],[])
theorem DC(rows:List Row)(h:rows.length<1000000):Yields Tryz.prog 154 [.ref [ot rows]] ((nT rows rows.length).map Ce):=by
 intro γ Y g0 Q fF;refine ek mixed ao Tryz.func154 rfl (ft:=IH) (args:=[.yld,.d (.ref [ot rows])]) (show uQ IH Tryz.f154 2=true from by decide +kernel) ?_;replace fF:=fF.np;generalize Y.np=Y at fF ⊢;conv=>whnf
 refine aK ((rows.length:Int)-1) (by simp) (wrap_i64 (by omega)) ?_;conv=>whnf
 refine bV (T:=tys) ao (by exact ah mixed ao (by decide +kernel)) (α:=Int×γ)
  (fun x=>⟨[(0,.yld),(1,.d (.ref [ot rows])),(3,.d (i64 x.1))],[],x.2⟩)
  (fun x=>-1<=x.1/\x.1<rows.length/\iterate Y ((nT rows (x.1+1).toNat).map Ce) x.2 Q) (fun x=>(x.1+1).toNat) ((rows.length:Int)-1,g0)
  av ⟨by simp only;omega,by simp only;omega,by simpa using fF⟩ ?_
 clear fF g0;rintro ⟨i,g0⟩ ⟨h1,h2,fF⟩;simp only at h1 h2 fF;conv=>whnf
 refine ai (fun hb=>?_) (fun hb=>?_)
 ·have hb:0<=i:=by simpa using hb
  have hn:(i+1).toNat=i.toNat+1:=by omega
  have dN:i.toNat<rows.length:=by omega
  rw[hn,nT,List.getElem?_eq_getElem dN,Option.getD_some,show((i.toNat:Nat):Int)=i by omega]at fF;conv=>whnf
  refine bZ rows[i.toNat].cells ⟨hb,by simp[dN]⟩ ?_;conv=>whnf
  refine wT (ds:=[i64 i,.agg rows[i.toNat].cells]) fF rfl rfl (fun s' EX=>?_) (fun s' EX=>?_)
  ·conv=>whnf
   refine ab ?_;conv=>whnf
   exact⟨(i-1,s'),by simp only;omega,⟨by simp only;omega,by simp only;omega,by simp only;rw[show(i-1+1).toNat=i.toNat by omega];exact EX⟩,av⟩
  ·conv=>whnf
   exact al 0 rfl ⟨rfl,EX⟩
 ·have hb:¬ 0<=i:=by simpa using hb
  have hi:(i+1).toNat=0:=by omega
  rw[hi,nT]at fF;conv=>whnf
  exact al 0 rfl ⟨rfl,fF⟩
theorem Mt(rows:List Row):aW Tryz.prog 144 [ot rows] (.clo 154 [.ref [ot rows]]):=by
 refine aA Tryz.func144 rfl (ft:=Ni) 1 fun {σ} Y st=>?_;conv=>whnf
 exact al 1 rfl ⟨⟨rfl,rfl⟩,rfl⟩
def wm(c:Case)(t:dU)(out:Int)(r:Row):Bool:=decide (r.scope*(t.depth+Ag t.bm 2)<=10*c.chain.dm*out)
def vh(c:Case)(t:dU)(out:Int):Row:=(((nT c.chain.rows c.chain.rows.length).find? fun p=>wm c t out p.2).getD (0,⟨0,0⟩)).2
theorem qG{l:List Row}:∀ {n:Nat},n<=l.length -> ∀ p∈nT l n,p.2∈l
 | 0,_,p,h=>by simp[nT]at h
 | n+1,hn,p,h=>by
  simp only[nT,List.mem_cons]at h;rcases h with rfl|h
  ·rw[List.getElem?_eq_getElem (by omega)];exact List.getElem_mem (by omega)
  ·exact qG (by omega) p h
theorem HX{c:Case}(h:fU c)(t:dU)(out:Int):(0<=(vh c t out).scope/\(vh c t out).scope<=200)/\(0<=(vh c t out).holds/\(vh c t out).holds<=1000):=by
 unfold vh
 cases hf:(nT c.chain.rows c.chain.rows.length).find? fun p=>wm c t out p.2 with
 | none=>simp
 | some p=>
  have:=h.rows p.2 (qG (Nat.le_refl _) p (List.mem_of_find?_eq_some hf));simp only[Option.getD_some];omega
theorem Mn(c:Case)(th:List Span)(fr:List (D×D))(t:dU)(out:Int)(hc:fU c)(ht:ib c.ee t)(ho:0<=out/\out<=1000) :
  aW Tryz.prog 120 [mD c th fr,t.d,i64 out] (.agg (vh c t out).cells):=by
 refine aA Tryz.func120 rfl (ft:=M0) 3 fun {σ} Y st=>?_;conv=>whnf
 have hlen:=hc.O0;have UK:=hc.dm;have hu:=Bf (n:=t.bm) (b:=2) 150 ht.xY (by omega);have Xu:=ht.Lf;have Xv:=ht.xY;refine ae (ds:=[ot c.chain.rows]) (Mt c.chain.rows) rfl rfl ?_;conv=>whnf
 refine cO ao (by exact ah mixed ao (by decide +kernel)) (by exact ah mixed ao (by decide +kernel)) rfl 1500000 1600000 [3,4,5,6] (by exact DC c.chain.rows (by omega))
  (fun(_:Unit)=>([(1500000,.box (.dd [mD c th fr])),(1500001,.box (.dd t.cells)),(1500002,.box (.dd [i64 out])),(1500003,.box (.dd [i64 0,i64 0]))],st))
  (fun rest _=>(∀ p∈rest,p.2∈c.chain.rows)/\vh c t out=((rest.find? fun p=>wm c t out p.2).getD (0,⟨0,0⟩)).2) () rfl rfl rfl ⟨qG (Nat.le_refl _),rfl⟩ ?_ ?_
 ·rintro p rest _ ⟨hm,he⟩ Q Ab hQ
  refine⟨⟨rfl,rfl⟩,?_⟩;have hr:=hc.rows p.2 (hm p (by simp));have b1:=dP (a:=p.2.scope) (b:=t.depth+Ag t.bm 2) 200 10000 (by omega) (by omega);have b2:=dP (a:=10*c.chain.dm) (b:=out) 500 1000 (by omega) (by omega);have e1:(t.bm+2-1).tdiv 2=Ag t.bm 2:=rfl;conv=>whnf
  refine aj (Eo t.bm 2 (by omega) (by omega)) rfl rfl ?_;conv=>whnf
  rw[e1];refine ab ?_;conv=>whnf
  refine ab ?_;conv=>whnf
  refine ab ?_;conv=>whnf
  refine ab ?_;conv=>whnf
  refine ai (fun hb=>?_) (fun hb=>?_)
  ·have hk:wm c t out p.2=true:=hb
   rw[List.find?_cons_of_pos (by exact hk)]at he;conv=>whnf
   refine⟨[(1500000,.box (.dd [mD c th fr])),(1500001,.box (.dd t.cells)),(1500002,.box (.dd [i64 out])),(1500003,.box (.dd p.2.cells))],st,av,rfl,hQ _ _ _ ?_⟩;conv=>whnf
   rw[he];exact af
  ·have hk:¬ wm c t out p.2=true:=by rw[show wm c t out p.2=false from hb];simp
   rw[List.find?_cons_of_neg (by exact hk)]at he;conv=>whnf
   exact⟨(),av,rfl,Ab () ⟨fun q hq=>hm q (by simp[hq]),he⟩⟩
 ·rintro _ ⟨_,he⟩
  conv=>whnf
  rw[he];exact af
end Go.PX
