import Derived.Test.YtpocldjdlookjaaPxJ
import Derived.Test.YtpocldjdlookjaaPxI
import Derived.Test.YtpocldjdlookjaaPxH
set_option linter.all false
set_option maxRecDepth 10000
namespace Go.PX
open Go.Proofs
structure ag where
 slot:Int
 m0:Int
 m1:Int
 m2:Int
 m3:Int
 m4:Int
 deriving DecidableEq
def ag.cells(t:ag):List D:=[i64 t.slot,i64 t.m0,i64 t.m1,i64 t.m2,i64 t.m3,i64 t.m4]
def ag.d(t:ag):D:=.agg t.cells
def ag.zero:ag:=⟨0,0,0,0,0,0⟩
def ag.get(t:ag):Nat->Int
 | 0=>t.m0
 | 1=>t.m1
 | 2=>t.m2
 | 3=>t.m3
 | _=>t.m4
def ag.set(t:ag)(i:Nat)(x:Int):ag:=
 match i with
 | 0=>{ t with m0:=x }
 | 1=>{ t with m1:=x }
 | 2=>{ t with m2:=x }
 | 3=>{ t with m3:=x }
 | _=>{ t with m4:=x }
def bn(rest:Int)(is:Bool)(n:Int):Int:=
 if is then n+1 else if n>0 then 1-rest else if n<0 then n+1 else n
def jk(rest:Int)(group:List Int):Nat->ag->ag
 | 0,t=>t
 | n+1,t=>(jk rest group n t).set n (bn rest (decide ((n:Int)∈group)) ((jk rest group n t).get n))
def aZ(c:ao)(t:ag)(group:List Int):ag:=
 jk c.rest group c.aL.length { t with slot:=(t.slot+1).tmod c.aS.length }
structure DM(t:ag):Prop where
 slot:0<=t.slot/\t.slot<=1000
 m0 : -1000<=t.m0/\t.m0<=1000
 m1 : -1000<=t.m1/\t.m1<=1000
 m2 : -1000<=t.m2/\t.m2<=1000
 m3 : -1000<=t.m3/\t.m3<=1000
 m4 : -1000<=t.m4/\t.m4<=1000
structure TB(t:ag)(k:Int):Prop where
 m0 : -k<=t.m0/\t.m0<=k
 m1 : -k<=t.m1/\t.m1<=k
 m2 : -k<=t.m2/\t.m2<=k
 m3 : -k<=t.m3/\t.m3<=k
 m4 : -k<=t.m4/\t.m4<=k
theorem MO(c:ao)(hR:WR c)(set:Int)(t:ag)(ht:DM t)(group:List Int)(hg:group.length<4000000000000000000):cy Try.prog 92 [bh c set,t.d,aj group] (aZ c t group).d:=by
 refine bx Try.func92 rfl (ft:=Oz) 3 fun {σ} Y st=>?_;conv=>whnf
 obtain⟨su,H4,JW,P1,P2,P3⟩:=ht;have hm:=hR.aL;have hs:=hR.aS;have hr:=hR.rest;refine ah ?_;conv=>whnf
 refine aR (decide_eq_true (by rw[List.length_map];omega)) ?_;conv=>whnf
 rw[List.length_map];generalize hu:ag.mk ((t.slot+1).tmod c.aS.length) t.m0 t.m1 t.m2 t.m3 t.m4=u0;have Te:TB u0 1000:=by subst hu;exact⟨H4,JW,P1,P2,P3⟩
 have hB:aZ c t group=jk c.rest group c.aL.length u0:=by subst hu;rfl
 rw[hB];refine bt (T:=tys) aI (by exact au mixed aI (by decide +kernel)) c.aL (fun i (u:ag)=>⟨[(0,.d (bh c set)),(2,.d (aj group)),(4,.ptr 4 0),(6,.ptr 6 0),(25,.d (i64 c.aL.length)),(26,.d (i64 i))],[(4,.box (.dd u.cells)),(6,.box (.dd ag.zero.cells))],st⟩) (fun i r u=>u=jk c.rest group i u0/\TB u (1000+i)) u0 (by subst hu;exact aw) ⟨rfl,by simpa using Te⟩ ?_ ?_
 ·intro i x r u hx hi zP he
  obtain⟨he,hb⟩:=he;have h5:i=0\/i=1\/i=2\/i=3\/i=4:=by omega
  have dn:(jk c.rest group (i+1) u0)=u.set i (bn c.rest (decide ((i:Int)∈group)) (u.get i)):=by rw[jk,he]
  obtain⟨nf,n9,mI,DA,M9⟩:=hb;rcases h5 with rfl|rfl|rfl|rfl|rfl
  ·conv=>whnf
   refine ak (fun _=>?_) (fun h=>absurd hi (by have:=of_decide_eq_false h;omega));conv=>whnf
   refine aH (Cv group _ hg) rfl rfl ?_;conv=>whnf
   refine ak (fun h1=>?_) (fun h1=>?_)
   ·rw[h1]at dn
    conv=>whnf
    repeat' (first
     | (refine ah ?_;conv=>whnf)
     | (refine ai (by assumption) ?_;conv=>whnf)
     | (refine ar (by first|rfl|assumption|(simp[aC.len];done)|(simp[aC.len];omega)) ?_;conv=>whnf)
     | (refine aR (by first|(exact decide_eq_true (by(try simp only[List.length_map]);omega))|(simp[aC.len,aC.cons,V.cells,aC.aU,aO];done)|(simp[aC.len,aC.cons,V.cells,aC.aU,aO];omega)) ?_;conv=>whnf)
     | fail)
    exact⟨u.set 0 (u.get 0+1),⟨dn.symm,by constructor<;>simp only[ag.set,ag.get]<;>omega⟩,aw⟩
   rw[h1]at dn;conv=>whnf
   refine ak (fun h2=>?_) (fun h2=>?_)
   ·have h2:u.get 0>0:=of_decide_eq_true h2
    have hv:bn c.rest false (u.get 0)=0-c.rest+1:=by simp only[bn,h2];simp;omega
    rw[hv]at dn;conv=>whnf
    repeat' (first
     | (refine ah ?_;conv=>whnf)
     | (refine ai (by assumption) ?_;conv=>whnf)
     | (refine ar (by first|rfl|assumption|(simp[aC.len];done)|(simp[aC.len];omega)) ?_;conv=>whnf)
     | (refine aR (by first|(exact decide_eq_true (by(try simp only[List.length_map]);omega))|(simp[aC.len,aC.cons,V.cells,aC.aU,aO];done)|(simp[aC.len,aC.cons,V.cells,aC.aU,aO];omega)) ?_;conv=>whnf)
     | fail)
    exact⟨u.set 0 (0-c.rest+1),⟨dn.symm,by constructor<;>simp only[ag.set,ag.get]<;>omega⟩,aw⟩
   have h2:¬ u.get 0>0:=of_decide_eq_false h2;conv=>whnf
   refine ak (fun h3=>?_) (fun h3=>?_)
   ·have h3:u.get 0<0:=of_decide_eq_true h3
    have hv:bn c.rest false (u.get 0)=u.get 0+1:=by simp[bn,h2,h3]
    rw[hv]at dn;conv=>whnf
    repeat' (first
     | (refine ah ?_;conv=>whnf)
     | (refine ai (by assumption) ?_;conv=>whnf)
     | (refine ar (by first|rfl|assumption|(simp[aC.len];done)|(simp[aC.len];omega)) ?_;conv=>whnf)
     | (refine aR (by first|(exact decide_eq_true (by(try simp only[List.length_map]);omega))|(simp[aC.len,aC.cons,V.cells,aC.aU,aO];done)|(simp[aC.len,aC.cons,V.cells,aC.aU,aO];omega)) ?_;conv=>whnf)
     | fail)
    exact⟨u.set 0 (u.get 0+1),⟨dn.symm,by constructor<;>simp only[ag.set,ag.get]<;>omega⟩,aw⟩
   have h3:¬ u.get 0<0:=of_decide_eq_false h3;have hv:bn c.rest false (u.get 0)=u.get 0:=by simp[bn,h2,h3]
   rw[hv]at dn;conv=>whnf
   repeat' (first
    | (refine ah ?_;conv=>whnf)
    | (refine ai (by assumption) ?_;conv=>whnf)
    | (refine ar (by first|rfl|assumption|(simp[aC.len];done)|(simp[aC.len];omega)) ?_;conv=>whnf)
    | (refine aR (by first|(exact decide_eq_true (by(try simp only[List.length_map]);omega))|(simp[aC.len,aC.cons,V.cells,aC.aU,aO];done)|(simp[aC.len,aC.cons,V.cells,aC.aU,aO];omega)) ?_;conv=>whnf)
    | fail)
   exact⟨u.set 0 (u.get 0),⟨dn.symm,by constructor<;>simp only[ag.set,ag.get]<;>omega⟩,aw⟩
  ·conv=>whnf
   refine ak (fun _=>?_) (fun h=>absurd hi (by have:=of_decide_eq_false h;omega));conv=>whnf
   refine aH (Cv group _ hg) rfl rfl ?_;conv=>whnf
   refine ak (fun h1=>?_) (fun h1=>?_)
   ·rw[h1]at dn
    conv=>whnf
    repeat' (first
     | (refine ah ?_;conv=>whnf)
     | (refine ai (by assumption) ?_;conv=>whnf)
     | (refine ar (by first|rfl|assumption|(simp[aC.len];done)|(simp[aC.len];omega)) ?_;conv=>whnf)
     | (refine aR (by first|(exact decide_eq_true (by(try simp only[List.length_map]);omega))|(simp[aC.len,aC.cons,V.cells,aC.aU,aO];done)|(simp[aC.len,aC.cons,V.cells,aC.aU,aO];omega)) ?_;conv=>whnf)
     | fail)
    exact⟨u.set 1 (u.get 1+1),⟨dn.symm,by constructor<;>simp only[ag.set,ag.get]<;>omega⟩,aw⟩
   rw[h1]at dn;conv=>whnf
   refine ak (fun h2=>?_) (fun h2=>?_)
   ·have h2:u.get 1>0:=of_decide_eq_true h2
    have hv:bn c.rest false (u.get 1)=0-c.rest+1:=by simp only[bn,h2];simp;omega
    rw[hv]at dn;conv=>whnf
    repeat' (first
     | (refine ah ?_;conv=>whnf)
     | (refine ai (by assumption) ?_;conv=>whnf)
     | (refine ar (by first|rfl|assumption|(simp[aC.len];done)|(simp[aC.len];omega)) ?_;conv=>whnf)
     | (refine aR (by first|(exact decide_eq_true (by(try simp only[List.length_map]);omega))|(simp[aC.len,aC.cons,V.cells,aC.aU,aO];done)|(simp[aC.len,aC.cons,V.cells,aC.aU,aO];omega)) ?_;conv=>whnf)
     | fail)
    exact⟨u.set 1 (0-c.rest+1),⟨dn.symm,by constructor<;>simp only[ag.set,ag.get]<;>omega⟩,aw⟩
   have h2:¬ u.get 1>0:=of_decide_eq_false h2;conv=>whnf
   refine ak (fun h3=>?_) (fun h3=>?_)
   ·have h3:u.get 1<0:=of_decide_eq_true h3
    have hv:bn c.rest false (u.get 1)=u.get 1+1:=by simp[bn,h2,h3]
    rw[hv]at dn;conv=>whnf
    repeat' (first
     | (refine ah ?_;conv=>whnf)
     | (refine ai (by assumption) ?_;conv=>whnf)
     | (refine ar (by first|rfl|assumption|(simp[aC.len];done)|(simp[aC.len];omega)) ?_;conv=>whnf)
     | (refine aR (by first|(exact decide_eq_true (by(try simp only[List.length_map]);omega))|(simp[aC.len,aC.cons,V.cells,aC.aU,aO];done)|(simp[aC.len,aC.cons,V.cells,aC.aU,aO];omega)) ?_;conv=>whnf)
     | fail)
    exact⟨u.set 1 (u.get 1+1),⟨dn.symm,by constructor<;>simp only[ag.set,ag.get]<;>omega⟩,aw⟩
   have h3:¬ u.get 1<0:=of_decide_eq_false h3;have hv:bn c.rest false (u.get 1)=u.get 1:=by simp[bn,h2,h3]
   rw[hv]at dn;conv=>whnf
   repeat' (first
    | (refine ah ?_;conv=>whnf)
    | (refine ai (by assumption) ?_;conv=>whnf)
    | (refine ar (by first|rfl|assumption|(simp[aC.len];done)|(simp[aC.len];omega)) ?_;conv=>whnf)
    | (refine aR (by first|(exact decide_eq_true (by(try simp only[List.length_map]);omega))|(simp[aC.len,aC.cons,V.cells,aC.aU,aO];done)|(simp[aC.len,aC.cons,V.cells,aC.aU,aO];omega)) ?_;conv=>whnf)
    | fail)
   exact⟨u.set 1 (u.get 1),⟨dn.symm,by constructor<;>simp only[ag.set,ag.get]<;>omega⟩,aw⟩
  ·conv=>whnf
   refine ak (fun _=>?_) (fun h=>absurd hi (by have:=of_decide_eq_false h;omega));conv=>whnf
   refine aH (Cv group _ hg) rfl rfl ?_;conv=>whnf
   refine ak (fun h1=>?_) (fun h1=>?_)
   ·rw[h1]at dn
    conv=>whnf
    repeat' (first
     | (refine ah ?_;conv=>whnf)
     | (refine ai (by assumption) ?_;conv=>whnf)
     | (refine ar (by first|rfl|assumption|(simp[aC.len];done)|(simp[aC.len];omega)) ?_;conv=>whnf)
     | (refine aR (by first|(exact decide_eq_true (by(try simp only[List.length_map]);omega))|(simp[aC.len,aC.cons,V.cells,aC.aU,aO];done)|(simp[aC.len,aC.cons,V.cells,aC.aU,aO];omega)) ?_;conv=>whnf)
     | fail)
    exact⟨u.set 2 (u.get 2+1),⟨dn.symm,by constructor<;>simp only[ag.set,ag.get]<;>omega⟩,aw⟩
   rw[h1]at dn;conv=>whnf
   refine ak (fun h2=>?_) (fun h2=>?_)
   ·have h2:u.get 2>0:=of_decide_eq_true h2
    have hv:bn c.rest false (u.get 2)=0-c.rest+1:=by simp only[bn,h2];simp;omega
    rw[hv]at dn;conv=>whnf
    repeat' (first
     | (refine ah ?_;conv=>whnf)
     | (refine ai (by assumption) ?_;conv=>whnf)
     | (refine ar (by first|rfl|assumption|(simp[aC.len];done)|(simp[aC.len];omega)) ?_;conv=>whnf)
     | (refine aR (by first|(exact decide_eq_true (by(try simp only[List.length_map]);omega))|(simp[aC.len,aC.cons,V.cells,aC.aU,aO];done)|(simp[aC.len,aC.cons,V.cells,aC.aU,aO];omega)) ?_;conv=>whnf)
     | fail)
    exact⟨u.set 2 (0-c.rest+1),⟨dn.symm,by constructor<;>simp only[ag.set,ag.get]<;>omega⟩,aw⟩
   have h2:¬ u.get 2>0:=of_decide_eq_false h2;conv=>whnf
   refine ak (fun h3=>?_) (fun h3=>?_)
   ·have h3:u.get 2<0:=of_decide_eq_true h3
    have hv:bn c.rest false (u.get 2)=u.get 2+1:=by simp[bn,h2,h3]
    rw[hv]at dn;conv=>whnf
    repeat' (first
     | (refine ah ?_;conv=>whnf)
     | (refine ai (by assumption) ?_;conv=>whnf)
     | (refine ar (by first|rfl|assumption|(simp[aC.len];done)|(simp[aC.len];omega)) ?_;conv=>whnf)
     | (refine aR (by first|(exact decide_eq_true (by(try simp only[List.length_map]);omega))|(simp[aC.len,aC.cons,V.cells,aC.aU,aO];done)|(simp[aC.len,aC.cons,V.cells,aC.aU,aO];omega)) ?_;conv=>whnf)
     | fail)
    exact⟨u.set 2 (u.get 2+1),⟨dn.symm,by constructor<;>simp only[ag.set,ag.get]<;>omega⟩,aw⟩
   have h3:¬ u.get 2<0:=of_decide_eq_false h3;have hv:bn c.rest false (u.get 2)=u.get 2:=by simp[bn,h2,h3]
   rw[hv]at dn;conv=>whnf
   repeat' (first
    | (refine ah ?_;conv=>whnf)
    | (refine ai (by assumption) ?_;conv=>whnf)
    | (refine ar (by first|rfl|assumption|(simp[aC.len];done)|(simp[aC.len];omega)) ?_;conv=>whnf)
    | (refine aR (by first|(exact decide_eq_true (by(try simp only[List.length_map]);omega))|(simp[aC.len,aC.cons,V.cells,aC.aU,aO];done)|(simp[aC.len,aC.cons,V.cells,aC.aU,aO];omega)) ?_;conv=>whnf)
    | fail)
   exact⟨u.set 2 (u.get 2),⟨dn.symm,by constructor<;>simp only[ag.set,ag.get]<;>omega⟩,aw⟩
  ·conv=>whnf
   refine ak (fun _=>?_) (fun h=>absurd hi (by have:=of_decide_eq_false h;omega));conv=>whnf
   refine aH (Cv group _ hg) rfl rfl ?_;conv=>whnf
   refine ak (fun h1=>?_) (fun h1=>?_)
   ·rw[h1]at dn
    conv=>whnf
    repeat' (first
     | (refine ah ?_;conv=>whnf)
     | (refine ai (by assumption) ?_;conv=>whnf)
     | (refine ar (by first|rfl|assumption|(simp[aC.len];done)|(simp[aC.len];omega)) ?_;conv=>whnf)
     | (refine aR (by first|(exact decide_eq_true (by(try simp only[List.length_map]);omega))|(simp[aC.len,aC.cons,V.cells,aC.aU,aO];done)|(simp[aC.len,aC.cons,V.cells,aC.aU,aO];omega)) ?_;conv=>whnf)
     | fail)
    exact⟨u.set 3 (u.get 3+1),⟨dn.symm,by constructor<;>simp only[ag.set,ag.get]<;>omega⟩,aw⟩
   rw[h1]at dn;conv=>whnf
   refine ak (fun h2=>?_) (fun h2=>?_)
   ·have h2:u.get 3>0:=of_decide_eq_true h2
    have hv:bn c.rest false (u.get 3)=0-c.rest+1:=by simp only[bn,h2];simp;omega
    rw[hv]at dn;conv=>whnf
    repeat' (first
     | (refine ah ?_;conv=>whnf)
     | (refine ai (by assumption) ?_;conv=>whnf)
     | (refine ar (by first|rfl|assumption|(simp[aC.len];done)|(simp[aC.len];omega)) ?_;conv=>whnf)
     | (refine aR (by first|(exact decide_eq_true (by(try simp only[List.length_map]);omega))|(simp[aC.len,aC.cons,V.cells,aC.aU,aO];done)|(simp[aC.len,aC.cons,V.cells,aC.aU,aO];omega)) ?_;conv=>whnf)
     | fail)
    exact⟨u.set 3 (0-c.rest+1),⟨dn.symm,by constructor<;>simp only[ag.set,ag.get]<;>omega⟩,aw⟩
   have h2:¬ u.get 3>0:=of_decide_eq_false h2;conv=>whnf
   refine ak (fun h3=>?_) (fun h3=>?_)
   ·have h3:u.get 3<0:=of_decide_eq_true h3
    have hv:bn c.rest false (u.get 3)=u.get 3+1:=by simp[bn,h2,h3]
    rw[hv]at dn;conv=>whnf
    repeat' (first
     | (refine ah ?_;conv=>whnf)
     | (refine ai (by assumption) ?_;conv=>whnf)
     | (refine ar (by first|rfl|assumption|(simp[aC.len];done)|(simp[aC.len];omega)) ?_;conv=>whnf)
     | (refine aR (by first|(exact decide_eq_true (by(try simp only[List.length_map]);omega))|(simp[aC.len,aC.cons,V.cells,aC.aU,aO];done)|(simp[aC.len,aC.cons,V.cells,aC.aU,aO];omega)) ?_;conv=>whnf)
     | fail)
    exact⟨u.set 3 (u.get 3+1),⟨dn.symm,by constructor<;>simp only[ag.set,ag.get]<;>omega⟩,aw⟩
   have h3:¬ u.get 3<0:=of_decide_eq_false h3;have hv:bn c.rest false (u.get 3)=u.get 3:=by simp[bn,h2,h3]
   rw[hv]at dn;conv=>whnf
   repeat' (first
    | (refine ah ?_;conv=>whnf)
    | (refine ai (by assumption) ?_;conv=>whnf)
    | (refine ar (by first|rfl|assumption|(simp[aC.len];done)|(simp[aC.len];omega)) ?_;conv=>whnf)
    | (refine aR (by first|(exact decide_eq_true (by(try simp only[List.length_map]);omega))|(simp[aC.len,aC.cons,V.cells,aC.aU,aO];done)|(simp[aC.len,aC.cons,V.cells,aC.aU,aO];omega)) ?_;conv=>whnf)
    | fail)
   exact⟨u.set 3 (u.get 3),⟨dn.symm,by constructor<;>simp only[ag.set,ag.get]<;>omega⟩,aw⟩
  ·conv=>whnf
   refine ak (fun _=>?_) (fun h=>absurd hi (by have:=of_decide_eq_false h;omega));conv=>whnf
   refine aH (Cv group _ hg) rfl rfl ?_;conv=>whnf
   refine ak (fun h1=>?_) (fun h1=>?_)
   ·rw[h1]at dn
    conv=>whnf
    repeat' (first
     | (refine ah ?_;conv=>whnf)
     | (refine ai (by assumption) ?_;conv=>whnf)
     | (refine ar (by first|rfl|assumption|(simp[aC.len];done)|(simp[aC.len];omega)) ?_;conv=>whnf)
     | (refine aR (by first|(exact decide_eq_true (by(try simp only[List.length_map]);omega))|(simp[aC.len,aC.cons,V.cells,aC.aU,aO];done)|(simp[aC.len,aC.cons,V.cells,aC.aU,aO];omega)) ?_;conv=>whnf)
     | fail)
    exact⟨u.set 4 (u.get 4+1),⟨dn.symm,by constructor<;>simp only[ag.set,ag.get]<;>omega⟩,aw⟩
   rw[h1]at dn;conv=>whnf
   refine ak (fun h2=>?_) (fun h2=>?_)
   ·have h2:u.get 4>0:=of_decide_eq_true h2
    have hv:bn c.rest false (u.get 4)=0-c.rest+1:=by simp only[bn,h2];simp;omega
    rw[hv]at dn;conv=>whnf
    repeat' (first
     | (refine ah ?_;conv=>whnf)
     | (refine ai (by assumption) ?_;conv=>whnf)
     | (refine ar (by first|rfl|assumption|(simp[aC.len];done)|(simp[aC.len];omega)) ?_;conv=>whnf)
     | (refine aR (by first|(exact decide_eq_true (by(try simp only[List.length_map]);omega))|(simp[aC.len,aC.cons,V.cells,aC.aU,aO];done)|(simp[aC.len,aC.cons,V.cells,aC.aU,aO];omega)) ?_;conv=>whnf)
     | fail)
    exact⟨u.set 4 (0-c.rest+1),⟨dn.symm,by constructor<;>simp only[ag.set,ag.get]<;>omega⟩,aw⟩
   have h2:¬ u.get 4>0:=of_decide_eq_false h2;conv=>whnf
   refine ak (fun h3=>?_) (fun h3=>?_)
   ·have h3:u.get 4<0:=of_decide_eq_true h3
    have hv:bn c.rest false (u.get 4)=u.get 4+1:=by simp[bn,h2,h3]
    rw[hv]at dn;conv=>whnf
    repeat' (first
     | (refine ah ?_;conv=>whnf)
     | (refine ai (by assumption) ?_;conv=>whnf)
     | (refine ar (by first|rfl|assumption|(simp[aC.len];done)|(simp[aC.len];omega)) ?_;conv=>whnf)
     | (refine aR (by first|(exact decide_eq_true (by(try simp only[List.length_map]);omega))|(simp[aC.len,aC.cons,V.cells,aC.aU,aO];done)|(simp[aC.len,aC.cons,V.cells,aC.aU,aO];omega)) ?_;conv=>whnf)
     | fail)
    exact⟨u.set 4 (u.get 4+1),⟨dn.symm,by constructor<;>simp only[ag.set,ag.get]<;>omega⟩,aw⟩
   have h3:¬ u.get 4<0:=of_decide_eq_false h3;have hv:bn c.rest false (u.get 4)=u.get 4:=by simp[bn,h2,h3]
   rw[hv]at dn;conv=>whnf
   repeat' (first
    | (refine ah ?_;conv=>whnf)
    | (refine ai (by assumption) ?_;conv=>whnf)
    | (refine ar (by first|rfl|assumption|(simp[aC.len];done)|(simp[aC.len];omega)) ?_;conv=>whnf)
    | (refine aR (by first|(exact decide_eq_true (by(try simp only[List.length_map]);omega))|(simp[aC.len,aC.cons,V.cells,aC.aU,aO];done)|(simp[aC.len,aC.cons,V.cells,aC.aU,aO];omega)) ?_;conv=>whnf)
    | fail)
   exact⟨u.set 4 (u.get 4),⟨dn.symm,by constructor<;>simp only[ag.set,ag.get]<;>omega⟩,aw⟩
 ·intro u he
  obtain⟨he,hb⟩:=he;conv=>whnf
  refine ak (fun h=>absurd h (by simp)) (fun _=>?_);conv=>whnf
  rw[<- he];exact ax
def ec(c:ao)(m:Int):oq:=(c.aL[m.toNat]?).getD ⟨⟨#[]⟩,0,[]⟩
def eJ(set m:Int):Bool:=!decide (fb .and .i64 (set.fdiv (2^(min m.toNat 64))) 1=0)
theorem My(c:ao)(set:Int)(s:Slot)(k:Nat)(x:oq)(hx:c.aL[k]?=some x):cy Try.prog 104 [i64 k,.ref [bh c set],.ref s.cells] (.bool (decide (x.kind≥s.least))):=by
 refine bx Try.func104 rfl (ft:=Kx) 3 fun {σ} Y st=>?_;conv=>whnf
 refine ai hx ?_;conv=>whnf
 exact ax
theorem MB(t:ag)(k:Nat)(hk:k<5):cy Try.prog 108 [i64 k,.ref t.cells] (.bool (decide (t.get k<0))):=by
 refine bx Try.func108 rfl (ft:=KB) 2 fun {σ} Y st=>?_;conv=>whnf
 have h5:k=0\/k=1\/k=2\/k=3\/k=4:=by omega
 rcases h5 with rfl|rfl|rfl|rfl|rfl
 ·conv=>whnf
  exact ax
 ·conv=>whnf
  exact ax
 ·conv=>whnf
  exact ax
 ·conv=>whnf
  exact ax
 ·conv=>whnf
  exact ax
theorem MA(c:ao)(set:Int)(t:ag)(k:Nat)(hk:k<5):cy Try.prog 107 [i64 k,.ref t.cells,.ref [bh c set]] (.bool (decide (t.get k≥c.run))):=by
 refine bx Try.func107 rfl (ft:=KA) 3 fun {σ} Y st=>?_;conv=>whnf
 have h5:k=0\/k=1\/k=2\/k=3\/k=4:=by omega
 rcases h5 with rfl|rfl|rfl|rfl|rfl
 ·conv=>whnf
  exact ax
 ·conv=>whnf
  exact ax
 ·conv=>whnf
  exact ax
 ·conv=>whnf
  exact ax
 ·conv=>whnf
  exact ax
theorem Mz(c:ao)(set:Int)(t:ag)(k:Nat)(x:oq)(hx:c.aL[k]?=some x)(hn:x.no.length<4000000000000000000):cy Try.prog 105 [i64 k,.ref [bh c set],.ref t.cells] (.bool (!eJ set k||decide (t.slot∈x.no))):=by
 refine bx Try.func105 rfl (ft:=Ky) 3 fun {σ} Y st=>?_;conv=>whnf
 have hb:decide (fb .and .i64 (set.fdiv (2^min (k:Int).toNat IntKind.i64.bits)) 1=0) = !eJ set k:=by
  unfold eJ;rw[Bool.not_not];rfl
 rw[hb];cases hs:eJ set k
 ·conv=>whnf
  exact ax
 conv=>whnf
 refine ai hx ?_;conv=>whnf
 refine aE (Cv x.no t.slot hn) rfl rfl ?_;conv=>whnf
 exact ax
def kV(c:ao)(set:Int)(t:ag)(s:Slot)(group:List Int):Int×Int:=
 if (group.length:Int)≠s.aL then (1,0)
 else if !group.any (fun m=>decide ((ec c m).kind≥s.least)) then (2,0)
 else match group.find? (fun m=>!eJ set m||decide (t.slot∈(ec c m).no)) with
  | some m=>(3,m)
  | none=>match group.find? (fun m=>decide (t.get m.toNat≥c.run)) with
   | some m=>(4,m)
   | none=>match group.find? (fun m=>decide (t.get m.toNat<0)) with
    | some m=>(5,m)
    | none=>(0,0)
def pK(c:ao)(group:List Int):Prop:=∀ m∈group,0<=m/\m<c.aL.length
theorem gM{many:Int}:∀ {l:List Int} {last:Int},ek many last l=0->l = []\/(l.length:Int)+last<many
 | [],_,_=>.inl rfl
 | i::r,last,h=>by
  rw[ek]at h;split at h;case isFalse=>cases h
  rename_i h1;split at h
  ·cases h
  rename_i h2;rw[eS]at h1;right;rcases gM h with rfl|h3
  ·simp;omega
  ·simp only[List.length_cons];omega
theorem l5{α:Type}{p:α->Bool}:∀ {l:List α} (i:Nat),(l.find? p=none->indexOf p l i = -1)/\(∀ m,l.find? p=some m -> ∃ j:Nat,indexOf p l i=((i+j:Nat):Int)/\l[j]?=some m)
 | [],i=>⟨fun _=>rfl,fun m h=>by simp at h⟩
 | x::r,i=>by
  obtain⟨h1,h2⟩:=l5 (p:=p) (l:=r) (i+1);by_cases hp:p x=true
  ·refine⟨fun h=>by simp[hp]at h,fun m h=>?_⟩
   simp[hp]at h;exact⟨0,by simp[indexOf,hp],by simp[h]⟩
  ·refine⟨fun h=>?_,fun m h=>?_⟩
   ·simp[hp]at h
    have:=h1 (by simpa using h);simp only[indexOf,hp,if_false,Bool.false_eq_true];exact this
   ·simp[hp]at h
    obtain⟨j,h3,h4⟩:=h2 m h;refine⟨j+1,?_,by simpa using h4⟩;simp only[indexOf,hp,if_false,Bool.false_eq_true];rw[show(i:Int)+1=((i+1:Nat):Int) from by omega,h3];omega
theorem MN(c:ao)(hR:WR c)(set:Int)(t:ag)(s:Slot)(hs:c.aS[t.slot.toNat]?=some s)(ht:0<=t.slot)(group:List Int)(hg:pK c group)(tW:group.length<4000000000000000000) :
  cy Try.prog 91 [bh c set,t.d,aj group] (.tup [i64 (kV c set t s group).1,i64 (kV c set t s group).2]):=by
 refine bx Try.func91 rfl (ft:=Oy) 3 fun {σ} Y st=>?_;conv=>whnf
 rw[show decide (0<=t.slot)=true from decide_eq_true ht,show(List.map Slot.cells c.aS)[t.slot.toNat]?=some s.cells from by simp[hs]];conv=>whnf
 unfold kV;refine ak (fun h0=>?_) (fun h0=>?_)
 ·have h0:(group.length:Int)≠s.aL:=by simpa using h0
  conv=>whnf
  rw[if_pos h0];exact ax
 have h0:(group.length:Int)=s.aL:=by simpa using h0
 rw[if_neg (by simpa using h0)];have sk:∀ m∈group,∃ (k:Nat) (x:oq),m=(k:Int)/\c.aL[k]?=some x/\ec c m=x/\k<5:=by
  intro m hm;obtain⟨h1,h2⟩:=hg m hm;have GG:=hR.aL;have hk:m.toNat<c.aL.length:=by omega
  refine⟨m.toNat,c.aL[m.toNat],by omega,by simp[hk],?_,by omega⟩;simp[ec,hk]
 conv=>whnf
 refine a8 (ds:=[aj group,.clo 104 [.ref [bh c set],.ref s.cells]]) (Kr group 104 [.ref [bh c set],.ref s.cells] (fun m=>decide ((ec c m).kind≥s.least)) tW fun m hm=>by
  obtain⟨k,x,rfl,hx,Jj,_⟩:=sk m hm;rw[Jj];exact fun {σ}=>My c set s k x hx) rfl 1 rfl ?_
 conv=>whnf
 refine ak (fun h1=>?_) (fun h1=>?_)
 ·conv=>whnf
  rw[if_pos h1];exact ax
 rw[if_neg (by simpa using h1)];conv=>whnf
 generalize HR:group.find? (fun m=>!eJ set m||decide (t.slot∈(ec c m).no))=f1;generalize hf2:group.find? (fun m=>decide (t.get m.toNat≥c.run))=f2;generalize hf3:group.find? (fun m=>decide (t.get m.toNat<0))=f3;refine fM (T:=tys) aI (by exact au mixed aI (by decide +kernel)) (α:=Nat) (fun i=>⟨[(2,.d (aj group)),(38,.sl 38 2 0 3),(39,.d (i64 3)),(40,.d (i64 i))],[(3,.box (.dd [bh c set])),(4,.box (.dd t.cells)),(38,.arr 2 (.vv [[.d (i64 3),.clo 105 [.ptr 3 0,.ptr 4 0]],[.d (i64 4),.clo 107 [.ptr 4 0,.ptr 3 0]],[.d (i64 5),.clo 108 [.ptr 4 0]]]))],st⟩)
  (fun i=>i<=3/\(1<=i->f1=none)/\(2<=i->f2=none)/\(3<=i->f3=none)) (fun i=>3-i) 0 aw (by omega) ?_
 intro i ⟨hi,vp,vq,SF⟩;have h4:i=0\/i=1\/i=2\/i=3:=by omega
 rcases h4 with rfl|rfl|rfl|rfl
 ·conv=>whnf
  have hI:=l5 (p:=fun m=>!eJ set m||decide (t.slot∈(ec c m).no)) (l:=group) 0;refine a8 (ds:=[aj group,.clo 105 [.ref [bh c set],.ref t.cells]]) (Bt group 105 [.ref [bh c set],.ref t.cells] (fun m=>!eJ set m||decide (t.slot∈(ec c m).no)) tW fun m hm=>by
   obtain⟨k,x,rfl,hx,Jj,_⟩:=sk m hm;rw[Jj];exact fun {σ}=>Mz c set t k x hx (by
    have h6:=gM ((hR.Ql x (List.mem_of_getElem? hx)).2);have h7:=hR.aS;rcases h6 with h6|h6
    ·rw[h6];simp
    ·omega)) rfl 1 rfl ?_
  cases f1 with
  | none=>
   have hv:indexOf (fun m=>!eJ set m||decide (t.slot∈(ec c m).no)) group 0 = -1:=hI.1 HR;rw[hv];conv=>whnf
   refine ah ?_;conv=>whnf
   exact⟨1,by omega,⟨by omega,fun _=>rfl,by omega,by omega⟩,aw⟩
  | some m=>
   obtain⟨j,hj,Li⟩:=hI.2 m HR;rw[Nat.zero_add]at hj;have hv:indexOf (fun m=>!eJ set m||decide (t.slot∈(ec c m).no)) group 0=(j:Int):=hj;rw[hv];conv=>whnf
   refine ai Li ?_;conv=>whnf
   exact ax
 ·conv=>whnf
  cases vp (by omega)
  have hI:=l5 (p:=fun m=>decide (t.get m.toNat≥c.run)) (l:=group) 0;refine a8 (ds:=[aj group,.clo 107 [.ref t.cells,.ref [bh c set]]]) (Bt group 107 [.ref t.cells,.ref [bh c set]] (fun m=>decide (t.get m.toNat≥c.run)) tW fun m hm=>by
   obtain⟨k,x,rfl,hx,Jj,hk⟩:=sk m hm;exact fun {σ}=>MA c set t k hk) rfl 1 rfl ?_
  cases f2 with
  | none=>
   have hv:indexOf (fun m=>decide (t.get m.toNat≥c.run)) group 0 = -1:=hI.1 hf2;rw[hv];conv=>whnf
   refine ah ?_;conv=>whnf
   exact⟨2,by omega,⟨by omega,fun _=>rfl,fun _=>rfl,by omega⟩,aw⟩
  | some m=>
   obtain⟨j,hj,Li⟩:=hI.2 m hf2;rw[Nat.zero_add]at hj;have hv:indexOf (fun m=>decide (t.get m.toNat≥c.run)) group 0=(j:Int):=hj;rw[hv];conv=>whnf
   refine ai Li ?_;conv=>whnf
   exact ax
 ·conv=>whnf
  cases vp (by omega)
  cases vq (by omega)
  have hI:=l5 (p:=fun m=>decide (t.get m.toNat<0)) (l:=group) 0;refine a8 (ds:=[aj group,.clo 108 [.ref t.cells]]) (Bt group 108 [.ref t.cells] (fun m=>decide (t.get m.toNat<0)) tW fun m hm=>by
   obtain⟨k,x,rfl,hx,Jj,hk⟩:=sk m hm;exact fun {σ}=>MB t k hk) rfl 1 rfl ?_
  cases f3 with
  | none=>
   have hv:indexOf (fun m=>decide (t.get m.toNat<0)) group 0 = -1:=hI.1 hf3;rw[hv];conv=>whnf
   refine ah ?_;conv=>whnf
   exact⟨3,by omega,⟨by omega,fun _=>rfl,fun _=>rfl,fun _=>rfl⟩,aw⟩
  | some m=>
   obtain⟨j,hj,Li⟩:=hI.2 m hf3;rw[Nat.zero_add]at hj;have hv:indexOf (fun m=>decide (t.get m.toNat<0)) group 0=(j:Int):=hj;rw[hv];conv=>whnf
   refine ai Li ?_;conv=>whnf
   exact ax
 ·cases vp (by omega)
  cases vq (by omega)
  cases SF (by omega)
  conv=>whnf
  exact ax
def bf(c:ao)(t:ag):Slot:=(c.aS[t.slot.toNat]?).getD ⟨0,0⟩
def xO(c:ao)(set:Int)(t:ag)(group:List Int):Int×Int:=kV c set t (bf c t) group
def bP(c:ao)(set:Int):ag->List (List Int)->Int->(Int×Int×Int)×ag
 | t,[],_=>((-1,0,0),t)
 | t,r::rest,i=>if (xO c set t r).1=0 then bP c set (aZ c t r) rest (i+1) else ((i,xO c set t r),t)
structure TG(c:ao)(t:ag):Prop where
 slot:0<=t.slot/\t.slot<c.aS.length
 bd:TB t 100
theorem TG.zero{c:ao}(h:WR c):TG c ag.zero:=⟨by have:=h.aS;simp[ag.zero];omega,by constructor<;>simp[ag.zero]⟩
theorem B3(t:ag)(x:Int){n j:Nat}(hn:n<5)(hj:j<5):(t.set n x).get j=if j=n then x else t.get j:=by
 have h1:n=0\/n=1\/n=2\/n=3\/n=4:=by omega
 have h2:j=0\/j=1\/j=2\/j=3\/j=4:=by omega
 rcases h1 with rfl|rfl|rfl|rfl|rfl<;>rcases h2 with rfl|rfl|rfl|rfl|rfl<;>rfl
theorem zu(t:ag)(n:Nat)(x:Int):(t.set n x).slot=t.slot:=by
 unfold ag.set;split<;>rfl
theorem mC{rest:Int}{group:List Int}{t:ag}:∀ {n j:Nat},n<=5->j<5->(jk rest group n t).get j=if j<n then bn rest (decide ((j:Int)∈group)) (t.get j) else t.get j
 | 0,j,_,_=>by simp[jk]
 | n+1,j,hn,hj=>by
  rw[jk,B3 _ _ (by omega) hj];by_cases h:j=n
  ·subst h
   rw[if_pos rfl,if_pos (by omega),mC (by omega) hj,if_neg (by omega)]
  ·rw[if_neg h,mC (by omega) hj]
   by_cases h2:j<n
   ·rw[if_pos h2,if_pos (by omega)]
   ·rw[if_neg h2,if_neg (by omega)]
theorem kF{rest:Int}{group:List Int}{t:ag}:∀ {n:Nat},(jk rest group n t).slot=t.slot
 | 0=>rfl
 | n+1=>by rw[jk,zu,kF]
theorem TB.get{t:ag}{k:Int}(h:TB t k){j:Nat}(hj:j<5) : -k<=t.get j/\t.get j<=k:=by
 have h2:j=0\/j=1\/j=2\/j=3\/j=4:=by omega
 rcases h2 with rfl|rfl|rfl|rfl|rfl
 ·exact h.m0
 ·exact h.m1
 ·exact h.m2
 ·exact h.m3
 ·exact h.m4
theorem TB.of{t:ag}{k:Int}(h:∀ j,j<5 -> -k<=t.get j/\t.get j<=k):TB t k:=
 ⟨h 0 (by decide),h 1 (by decide),h 2 (by decide),h 3 (by decide),h 4 (by decide)⟩
theorem vL{c:ao}(hR:WR c){t:ag}{group:List Int}{k:Int}(hk:3<=k)(h:TB t k):TB (aZ c t group) (k+1):=by
 have hm:=hR.aL;have hr:=hR.rest;refine .of fun j hj=>?_;unfold aZ;rw[mC (by omega) hj];have h1:=h.get hj;have h2:(ag.mk ((t.slot+1).tmod c.aS.length) t.m0 t.m1 t.m2 t.m3 t.m4).get j=t.get j:=by
  have h2:j=0\/j=1\/j=2\/j=3\/j=4:=by omega
  rcases h2 with rfl|rfl|rfl|rfl|rfl<;>rfl
 show -(k+1)<=(if j<c.aL.length then bn c.rest (decide ((j:Int)∈group)) ((ag.mk ((t.slot+1).tmod c.aS.length) t.m0 t.m1 t.m2 t.m3 t.m4).get j) else (ag.mk ((t.slot+1).tmod c.aS.length) t.m0 t.m1 t.m2 t.m3 t.m4).get j)/\(if j<c.aL.length then bn c.rest (decide ((j:Int)∈group)) ((ag.mk ((t.slot+1).tmod c.aS.length) t.m0 t.m1 t.m2 t.m3 t.m4).get j) else (ag.mk ((t.slot+1).tmod c.aS.length) t.m0 t.m1 t.m2 t.m3 t.m4).get j)<=k+1;rw[h2];unfold bn;split
 ·split
  ·omega
  ·split
   ·omega
   ·split<;>omega
 ·omega
theorem mW{c:ao}(hR:WR c){t:ag}{group:List Int}(h:0<=t.slot):0<=(aZ c t group).slot/\(aZ c t group).slot<c.aS.length:=by
 have hs:=hR.aS;unfold aZ;rw[kF];show 0<=(t.slot+1).tmod _/\(t.slot+1).tmod _<_;exact⟨Int.tmod_nonneg _ (by omega),Int.tmod_lt_of_pos _ (by omega)⟩
def MS(p:(Int×Int×Int)×ag):D:=.tup [i64 p.1.1,i64 p.1.2.1,i64 p.1.2.2,p.2.d]
theorem Hu(c:ao)(hR:WR c)(set:Int)(t:ag)(ht:0<=t.slot/\t.slot<c.aS.length)(hb:TB t 100)(rota:List (List Int))(hg:∀ r∈rota,pK c r/\r.length<4000000000000000000)(hl:rota.length<=40) :
  cy Try.prog 64 [bh c set,t.d,aJ rota] (MS (bP c set t rota 0)):=by
 refine bx Try.func64 rfl (ft:=Of) 3 fun {σ} Y st=>?_;conv=>whnf
 refine bt (T:=tys) aI (by exact au mixed aI (by decide +kernel)) rota (fun i (u:ag)=>⟨[(0,.d (bh c set)),(4,.ptr 4 0),(9,.ptr 9 0),(12,.d (aJ rota)),(13,.d (i64 rota.length)),(14,.d (i64 i))],[(4,.box (.dd u.cells)),(9,.box (.dd ag.zero.cells))],st⟩)
  (fun i r u=>bP c set t rota 0=bP c set u r i/\(0<=u.slot/\u.slot<c.aS.length)/\TB u (100+i)) t aw ⟨rfl,ht,by simpa using hb⟩ ?_ ?_
 ·intro i x r u hx hi hr he
  obtain⟨he,hs,JZ⟩:=he;rw[bP]at he;have EC:=hg x (List.mem_of_getElem? hx);obtain⟨s,zQ⟩:∃ s,c.aS[u.slot.toNat]?=some s:=⟨c.aS[u.slot.toNat]'(by omega),by simp⟩;have hw:xO c set u x=kV c set u s x:=by simp[xO,bf,zQ]
  rw[hw]at he;conv=>whnf
  refine ak (fun _=>?_) (fun h=>absurd hi (by have:=of_decide_eq_false h;omega));conv=>whnf
  refine ai hx ?_;conv=>whnf
  refine aH (ds:=[bh c set,u.d,aj x]) (MN c hR set u s zQ hs.1 x EC.1 EC.2) rfl rfl ?_;conv=>whnf
  refine ak (fun h1=>?_) (fun h1=>?_)
  ·have h1:(kV c set u s x).1≠0:=by simpa using h1
   rw[he,if_neg h1];conv=>whnf
   exact ax
  have h1:(kV c set u s x).1=0:=by simpa using h1
  rw[if_pos h1]at he;conv=>whnf
  have sW:DM u:=⟨by have:=hR.aS;omega,by have:=JZ.m0;omega,by have:=JZ.m1;omega,by have:=JZ.m2;omega,by have:=JZ.m3;omega,by have:=JZ.m4;omega⟩;refine aH (ds:=[bh c set,u.d,aj x]) (MO c hR set u sW x EC.2) rfl rfl ?_;conv=>whnf
  refine ah ?_;conv=>whnf
  refine⟨aZ c u x,⟨he,mW hR hs.1,?_⟩,aw⟩;have:=vL hR (group:=x) (k:=100+i) (by omega) JZ;rw[show(100:Int)+((i+1:Nat):Int)=100+(i:Int)+1 by omega];exact this
 ·intro u he
  obtain⟨he,_,_⟩:=he;rw[bP]at he;conv=>whnf
  refine ak (fun h=>absurd h (by simp)) (fun _=>?_);conv=>whnf
  rw[he];exact ax
theorem eZ{c:ao}{rota:List (List Int)}(h:b0 c rota=0):WR c/\rota.length<=40/\(∀ r∈rota,ek c.aL.length (-1) r=0):=by
 unfold b0 at h;split at h
 ·rename_i h0
  split at h
  ·cases h
  ·rename_i h1
   refine⟨wR h0,by omega,?_⟩;revert h;clear h1 h0
   induction rota with
   | nil=>intro _ r hr;cases hr
   | cons x l ih=>
    intro h r hr;rw[dr]at h;split at h
    ·rename_i h2
     rcases List.mem_cons.1 hr with rfl|hr
     ·exact h2
     ·exact ih h r hr
    ·rename_i h2;exact absurd h h2
 ·rename_i h0;exact absurd h h0
theorem zW{many:Int}:∀ {l:List Int} {last:Int},ek many last l=0 -> ∀ m∈l,0<=m/\m<many
 | [],_,_=>by simp
 | i::r,last,h=>by
  rw[ek]at h;split at h;case isFalse=>cases h
  rename_i h1;split at h
  ·cases h
  rw[eS]at h1;intro m hm;rcases List.mem_cons.1 hm with rfl|hm
  ·omega
  ·exact zW h m hm
theorem qK{c:ao}{rota:List (List Int)}(h:b0 c rota=0):∀ r∈rota,pK c r/\r.length<4000000000000000000:=fun r hr=>by
 obtain⟨hR,hl,gS⟩:=eZ h;refine⟨zW (gS r hr),?_⟩;have hm:=hR.aL;rcases gM (gS r hr) with h1|h1
 ·rw[h1];simp
 ·omega
def Cj(c:ao)(rota:List (List Int)):Int×Int×Int×Int:=
 if b0 c rota=0 then ((bP c (aB c) .zero rota 0).1.1,(bP c (aB c) .zero rota 0).1.2.1,(bP c (aB c) .zero rota 0).1.2.2,0) else (0,0,0,b0 c rota)
theorem QA(c:ao)(rota:List (List Int)):cy Try.prog 17 [c.d,aJ rota] (.tup [i64 (Cj c rota).1,i64 (Cj c rota).2.1,i64 (Cj c rota).2.2.1,i64 (Cj c rota).2.2.2]):=by
 refine bx Try.func17 rfl (ft:=NN) 2 fun {σ} Y st=>?_;conv=>whnf
 refine aH (zE c rota) rfl rfl ?_;conv=>whnf
 unfold Cj;by_cases h0:b0 c rota=0
 ·obtain⟨hR,hl,_⟩:=eZ h0
  have hz:=TG.zero hR;rw[h0];simp only[if_true];conv=>whnf
  refine aH (ds:=[bh c (aB c),ag.zero.d,aJ rota]) (Hu c hR (aB c) .zero hz.slot hz.bd rota (qK h0) hl) rfl rfl ?_;conv=>whnf
  exact ax
 ·rw[if_neg h0,if_neg h0]
  conv=>whnf
  refine ak (fun _=>?_) (fun h1=>absurd h1 (by simp[h0]));conv=>whnf
  exact ax
def df(c:ao)(rota:List (List Int)):Int:=
 if b0 c rota=0 then (if (bP c (aB c) .zero rota 0).1.1≥0 then 9 else 0) else b0 c rota
def na(c:ao)(rota:List (List Int)):ag:=(bP c (aB c) .zero rota 0).2
theorem JA(c:ao)(rota:List (List Int)):cy Try.prog 66 [c.d,aJ rota] (.tup [if df c rota=0 then bh c (aB c) else .nilp,if df c rota=0 then (na c rota).d else ag.zero.d,i64 (df c rota)]):=by
 refine bx Try.func66 rfl (ft:=Oh) 2 fun {σ} Y st=>?_;conv=>whnf
 refine aH (zE c rota) rfl rfl ?_;conv=>whnf
 by_cases h0:b0 c rota=0
 ·obtain⟨hR,hl,_⟩:=eZ h0
  have hz:=TG.zero hR;have hg:df c rota=if (bP c (aB c) .zero rota 0).1.1≥0 then 9 else 0:=by simp[df,h0]
  rw[hg];rw[h0];simp only[if_true];conv=>whnf
  refine aH (ds:=[bh c (aB c),ag.zero.d,aJ rota]) (Hu c hR (aB c) .zero hz.slot hz.bd rota (qK h0) hl) rfl rfl ?_;conv=>whnf
  refine ak (fun h1=>?_) (fun h1=>?_)
  ·have h1:(bP c (aB c) .zero rota 0).1.1≥0:=of_decide_eq_true h1
   conv=>whnf
   rw[if_pos h1];exact ax
  have h1:¬ (bP c (aB c) .zero rota 0).1.1≥0:=of_decide_eq_false h1;conv=>whnf
  rw[if_neg h1];exact ax
 ·have hg:df c rota=b0 c rota:=by simp[df,h0]
  rw[hg];rw[if_neg h0,if_neg h0];conv=>whnf
  refine ak (fun _=>?_) (fun h1=>absurd h1 (by simp[h0]));conv=>whnf
  exact ax
def w6(l:List Int)(m:Int):List Int:=l.set m.toNat (l.getD m.toNat 0+1)
def uX(n:Nat)(rota:List (List Int)):List Int:=rota.foldl (fun l r=>r.foldl w6 l) (List.replicate n 0)
theorem DU(l:List Int)(m:Int):(w6 l m).length=l.length:=by simp[w6]
theorem QB(c:ao)(rota:List (List Int)):cy Try.prog 19 [c.d,aJ rota] (.tup [if df c rota=0 then aj (uX c.aL.length rota) else .nils,i64 (df c rota)]):=by
 refine bx Try.func19 rfl (ft:=NO) 2 fun {σ} Y st=>?_;conv=>whnf
 refine aH (JA c rota) rfl rfl ?_;conv=>whnf
 by_cases h0:df c rota=0
 ·have hE:b0 c rota=0:=by
   unfold df at h0;split at h0
   ·assumption
   ·exact h0
  obtain⟨hR,hl,gS⟩:=eZ hE;have hm:=hR.aL;rw[h0];simp only[if_true];conv=>whnf
  refine aR (by simp;rfl) ?_;conv=>whnf
  refine aR (decide_eq_true (by simp only[List.length_map];omega)) ?_;conv=>whnf
  have iY:∀ r∈rota,∀ m∈r,0<=m/\m<c.aL.length:=fun r hr=>(qK hE r hr).1;refine bt (T:=tys) aI (by exact au mixed aI (by decide +kernel)) rota (fun i (acc:List Int)=>⟨[(9,.sl 27 1 0 c.aL.length),(28,.d (aJ rota)),(29,.d (i64 rota.length)),(30,.d (i64 i))],[(27,.arr 1 (.dd (acc.map fun n=>[i64 n])))],st⟩)
   (fun i r acc=>acc.length=c.aL.length/\(∀ x∈acc,0<=x/\x<=1000*i)/\uX c.aL.length rota=r.foldl (fun l r=>r.foldl w6 l) acc /\ ∀ x∈r,x∈rota) (List.replicate c.aL.length 0) ?wk ⟨by simp,by simp,rfl,fun x h=>h⟩ ?_ ?_
  case wk=>exact aw
  ·intro i x r acc hx hi hr he
   obtain⟨ha,hb,he,gY⟩:=he;rw[List.foldl_cons]at he;conv=>whnf
   refine ak (fun _=>?_) (fun h=>absurd hi (by have:=of_decide_eq_false h;omega));conv=>whnf
   refine ai hx ?_;conv=>whnf
   have ET:x∈rota:=gY x (by simp);have AH:x.length<=5:=by
    rcases gM (gS x ET) with h1|h1
    ·rw[h1];simp
    ·omega
   refine bt (T:=tys) aI (by exact au mixed aI (by decide +kernel)) x (fun k (ac:List Int)=>⟨[(9,.sl 27 1 0 c.aL.length),(28,.d (aJ rota)),(29,.d (i64 rota.length)),(30,.d (i64 i)),(34,.d (aj x)),(35,.d (i64 x.length)),(36,.d (i64 k))],[(27,.arr 1 (.dd (ac.map fun n=>[i64 n])))],st⟩)
    (fun k r2 ac=>ac.length=c.aL.length/\(∀ y∈ac,0<=y/\y<=1000*(i:Int)+k)/\uX c.aL.length rota=r.foldl (fun l r=>r.foldl w6 l) (r2.foldl w6 ac)) acc ?wk ⟨ha,by simpa using hb,he⟩ ?_ ?_
   case wk=>exact aw
   ·intro k m r2 ac JT hk wb vq
    obtain⟨OV,mI,JQ⟩:=vq;rw[List.foldl_cons]at JQ;obtain⟨Ry,CV⟩:=iY x ET m (List.mem_of_getElem? JT);have GH:m.toNat<ac.length:=by omega
    have hv:ac[m.toNat]?=some ac[m.toNat]:=List.getElem?_eq_getElem GH;obtain⟨RG,J1⟩:=mI ac[m.toNat] (List.getElem_mem ..);conv=>whnf
    refine ak (fun _=>?_) (fun h=>absurd hk (by have:=of_decide_eq_false h;omega));conv=>whnf
    refine ai JT ?_;conv=>whnf
    have xU:(decide (0<=m)&&decide (m<(c.aL.length:Int)))=true:=by simp;omega
    refine aR xU ?_;conv=>whnf
    refine gf [i64 ac[m.toNat]] (by simp[hv]) ?_;conv=>whnf
    refine ah ?_;conv=>whnf
    refine aR xU ?_;conv=>whnf
    refine gf [i64 ac[m.toNat]] (by simp[hv]) ?_;conv=>whnf
    refine ah ?_;conv=>whnf
    refine⟨w6 ac m,⟨by rw[DU];exact OV,fun y hy=>?_,JQ⟩,(Wk.sub ⟨rfl,rfl,rfl,rfl,rfl,rfl,rfl,trivial⟩ ⟨?_,trivial⟩)⟩
    ·unfold w6 at hy
     rcases List.mem_or_eq_of_mem_set hy with hy|rfl
     ·have:=mI y hy;omega
     ·simp only[List.getD_eq_getElem?_getD,hv,Option.getD_some];omega
    ·simp only[PX.get,w6,List.map_set,List.getD_eq_getElem?_getD,hv,Option.getD_some,Nat.zero_add]
     rfl
   ·intro ac vq
    obtain⟨OV,mI,JQ⟩:=vq;conv=>whnf
    refine ak (fun h=>absurd h (by simp)) (fun _=>?_);conv=>whnf
    refine ah ?_;conv=>whnf
    refine⟨ac,⟨OV,fun y hy=>?_,JQ,fun z hz=>gY z (by simp[hz])⟩,aw⟩;have:=mI y hy;omega
  ·intro acc he
   obtain⟨ha,_,he,_⟩:=he;conv=>whnf
   refine ak (fun h=>absurd h (by simp)) (fun _=>?_);conv=>whnf
   refine ba 1 (ds:=[aj acc,i64 0]) ?_ ⟨⟨?_,rfl⟩,rfl⟩
   ·have e2:c.aL.length.ble c.aL.length=true:=by rw[Nat.ble_eq];exact Nat.le_refl _
    simp[cS,eP,fm,PX.get,aj,e2,List.take_of_length_le,ha]
   ·have he:uX c.aL.length rota=acc:=he
    simp[j6,he,h0]
 ·rw[if_neg h0,if_neg h0]
  conv=>whnf
  refine ak (fun _=>?_) (fun h1=>absurd h1 (by simp[h0]));conv=>whnf
  rw[if_neg h0];exact ax
end Go.PX
namespace Go.PX
def pS:List Nat->List Wr
 | []=>[]
 | i::r=>.del i::pS r
theorem fO{σ:Type}:∀ (l:List Nat) (st:St σ),aK st (pS l)=⟨st.env,kJ st.heap l,st.s⟩
 | [],st=>rfl
 | i::r,st=>by
  show aK (bE st (.del i)) (pS r)=_;rw[fO r];rfl
theorem jF{σ:Type}:∀ (a b:List Wr) (st:St σ),aK st (a++b)=aK (aK st a) b
 | [],b,st=>rfl
 | w::a,b,st=>jF a b (bE st w)
section
variable {P : Program} {σ : Type}
theorem Good.Bv{cx:Cx σ}{r:Option Nat}{m:List Nat}{L:Loc}{F:Nat->Nat}{st:St σ}{a:Act}{w:World}(hg:Good cx r m L F st a w){h:av}(gY:cM h st.heap)(n:Nat) :
  ∃ F1,Good cx r m L F1 (aK st (pS (cv h))) a w/\Tr F w F1 w /\ ∀ args aX ds,cS (fm h n) args=some ds->aq cx.yv L F w args aX->aY F1 w ds aX:=by
 have e7:bo cx L F h st.s w:=(hg.sub (e:=st.env) (h:=h) (fun _ _ h=>h) gY).heap;have tr:=fT e7;have q9:∀ b,cx.C st.s b->dP L F h w b=F b:=fun b hb=>ll e7 hb;have tQ:∀ id o,get st.heap id=some o->id∉cv h->aN L id o->dP L F h w (L.ρ id)=F (L.ρ id):=by
  intro id o hi hn hb;refine eQ ?_;rintro ⟨j,p,hj,gJ,jN⟩;have:=hg.heap.inj j id p o (gY j p hj) hi gJ hb jN;subst this;exact hn (jU hj)
 have As:=dX e7;have mM:=nB e7 n;generalize dP L F h w=F1 at tr q9 tQ As mM;rw[fO];have kQ:∀ i o,get (kJ st.heap (cv h)) i=some o->i∉cv h/\get st.heap i=some o:=by
  intro i o hi;rw[gR]at hi;split at hi
  ·cases hi
  ·rename_i hn;exact⟨hn,hi⟩
 refine⟨F1,⟨⟨cx.eV hg.heap.hg tr As fun b hb=>⟨rfl,q9 b hb⟩,hg.heap.iW,As,?_,?_,?_⟩,?_,hg.sI,hg.oe,hg.uy,hg.lk,hg.lG,hg.sD⟩,tr,fun args aX ds hv hr=>jv tr mM args aX ds hv hr⟩
 ·intro i o hi
  exact bG.mono tr i o (fun _ _=>⟨rfl,rfl⟩) ⟨rfl,rfl⟩ (fun _=>rfl) (hg.heap.obj i o (kQ i o hi).2)
 ·intro i o hi hb
  obtain⟨hn,h0⟩:=kQ i o hi;rw[tQ i o h0 hn hb];exact hg.heap.own i o h0 hb
 ·intro i j o p hi hj kj gJ he
  exact hg.heap.inj i j o p (kQ i o hi).2 (kQ j p hj).2 kj gJ he
 ·intro t v ht
  obtain⟨x,hx,hr⟩:=hg.env t v ht;exact⟨x,hx,a6.mono tr v x (fun _ _=>⟨rfl,rfl⟩) hr⟩
theorem uI{f:FuncId}{ds:List D}{res:D}(hf:cy P f ds res)(n:Nat){e:Env}{h:av}{d:Option Nat}{args:List V}(hv:cS (fm h n) args=some ds)(hd:Nat.ble (d.getD 0) 10000=true) :
  iw P e h d f args (pS (cv h)++a9 d (.d res)):=by
 have ho:=rk (P:=P) hf (e:=[]) (h:=[]) (d:=d) (args:=inj ds) rfl hd;refine⟨ho.1,fun {σ} cx sr r m L F st a w aX he hh hg Gx hr=>?_⟩;obtain⟨F1,db,vh,LX⟩:=hg.Bv hh n;rw[jF];refine(ho.2 cx sr r m L F1 (aK st (pS (cv h))) a w aX (fun _ _ h=>by cases h) (fun _ _ h=>by cases h) db Gx (aq.inj.2 (LX _ _ _ hv hr))).mono ?_;rintro en w' ⟨x,rfl,L',F',dY,lL⟩;exact⟨x,rfl,L',F',dY,Tr.trans vh lL⟩
theorem jD{Y:Hd σ}{f:FuncId}{ds:List D}{res:D}(hf:cy P f ds res)(n:Nat){e:Env}{h:av}{s:σ}{d:Option Nat}{args:List V}(ids:List Nat)(hv:cS (fm (aP ids h) n) args=some ds)(hd:Nat.ble (d.getD 0) 10000=true)
  {K:St σ->Prop} (hk:bk (pS (cv (aP ids h))++a9 d (.d res)) e h fun e h=>K ⟨e,h,s⟩):eE P Y ⟨e,h,s⟩ d f args K:=by
 have ho:=uI (P:=P) hf n (e:=e) (h:=aP ids h) (d:=d) (args:=args) hv hd;refine nN (ws:=pS (cv (aP ids h))++a9 d (.d res)) ⟨ho.1,fun {σ} cx sr r m L F st a w aX he hh hg Gx hr=>?_⟩ hk;exact ho.2 cx sr r m L F st a w aX he (fun i o hi=>hh i o (dS ids h i o hi)) hg Gx hr
theorem gx{f:FuncId}{ds:List D}{res:D}(hf:cy P f ds res)(n:Nat){e:Env}{h:av}{d:Option Nat}{args:List V}(hv:cS (fm h n) args=some ds)(hd:Nat.ble (d.getD 0) 10000=true)
  {K:List Wr->Prop} (hk:K (pS (cv h)++a9 d (.d res))):c8 P e h d f args K:=⟨_,hk,uI hf n hv hd⟩
end
theorem gu{g:Nat->Option DO}{vs:List (List V)}{ds:List (List D)}(h:gr g vs=some ds):∀ (es:List (List D)),gr g (aO es++vs)=some (es++ds)
 | []=>h
 | e::r=>by
  show gr g (inj e::(aO r++vs))=_;rw[gr,gu h r];have:cS g (inj e)=some e:=by
   have:=wO (g:=g) (a:=e) (r:=[]) (r':=[]) rfl;simpa using this
  rw[this];rfl
theorem gv{g:Nat->Option DO}{v:List V}{d:List D}(h:cS g v=some d):gr g [v]=some [d]:=by
 rw[gr,h];rfl
theorem uA(i:Nat):∀ l:List D,dJ i (inj l)=false
 | []=>rfl
 | d::r=>by
  show(oG i (.d d)||dJ i (inj r))=false;rw[uA i r];rfl
theorem oH(i:Nat):∀ a b:List V,dJ i (a++b)=(dJ i a||dJ i b)
 | [],b=>rfl
 | v::a,b=>by
  show(oG i v||dJ i (a++b))=((oG i v||dJ i a)||dJ i b);rw[oH i a b,Bool.or_assoc]
theorem iS(i:Nat)(vs:List (List V)):∀ es:List (List D),dJ i ((aO es++vs).flatten)=dJ i vs.flatten
 | []=>rfl
 | e::r=>by
  show dJ i (inj e++(aO r++vs).flatten)=_;rw[oH,uA,iS i vs r];rfl
section
variable {σ : Type}
theorem Co{e:Env}{h:av}{s:σ}(l:List Nat):aK (⟨e,h,s⟩:St σ) (pS l)=⟨e,kJ h l,s⟩:=fO l _
theorem Wk.l7{e:Env}{h:av}{s:σ}(n:Nat)(ids:List Nat)(k:Nat){sz:Nat}{vs:List (List V)}{ds:List (List D)}(hk:get (kJ h (cv (aP ids h))) k=some (.arr sz (.vv vs)))(hv:gr (fm (aP ids h) n) vs=some ds) :
  Wk (⟨e,h,s⟩:St σ) ⟨e,put (kJ h (cv (aP ids h))) k (.arr sz (.dd ds)),s⟩:=by
 intro cx r m L F a w hg;obtain⟨F1,db,tr,LX⟩:=hg.Bv (h:=aP ids h) (dS ids h) n;rw[Co]at db;have h0:bG cx.yv L F w k (.arr sz (.vv vs)):=by
  rw[gR]at hk;split at hk
  ·cases hk
  ·exact hg.heap.obj k _ hk
 obtain⟨f1,f2,f3⟩:=nJ hv;have oc:bG cx.yv L F1 w k (.arr sz (.dd ds)):=by
  obtain⟨c1,c2,c3⟩:=h0;have hl:(aC.dd ds).aU.length=ds.length:=by rw[<- aC.gU];rfl
  have rP:(aC.dd ds).aU.flatten=inj ds.flatten:=by
   show(aO ds).flatten=_;clear hl f1 f2 f3 hv
   induction ds with
   | nil=>rfl
   | cons d r ih=>
    show inj d++(aO r).flatten=_;rw[ih,List.flatten_cons,md]
  refine⟨c1,?_,?_⟩
  ·have h3:=f3 sz c2
   intro x hx;show x.length=sz;have:∀ (l:List (List D)),(∀ d∈l,d.length=sz) -> ∀ x∈aO l,x.length=sz:=by
    intro l
    induction l with
    | nil=>intro _ x hx;cases hx
    | cons d r ih=>
     intro hd x hx;rcases List.mem_cons.1 hx with rfl|hx
     ·rw[dI];exact hd d (by simp)
     ·exact ih (fun d Er=>hd d (by simp[Er])) x hx
   exact this ds h3 x hx
  ·rcases c3 with⟨c4,c5⟩|⟨c,T,c4,c5,c6,c7⟩
   ·left
    refine⟨?_,c5⟩;have H7:vs = []:=c4;have:ds = []:=by
     have:ds.length=0:=by rw[f2,H7];rfl
     exact List.length_eq_zero_iff.1 this
    rw[this];rfl
   ·right
    have e1:(aC.vv vs).aU=vs:=rfl;rw[e1]at c6 c7;refine⟨c,T,c4,c5,by rw[hl,f2];exact c6,?_⟩;rw[rP,hl,f2];exact aq.inj.2 (LX _ _ _ f1 c7)
 have key:∀ i q,get (put (kJ h (cv (aP ids h))) k (.arr sz (.dd ds))) i=some q->(i=k/\q = .arr sz (.dd ds))\/get (kJ h (cv (aP ids h))) i=some q:=by
  intro i q hi;rw[cH]at hi;split at hi
  ·rename_i e1;cases hi;exact .inl ⟨e1,rfl⟩
  ·exact .inr hi
 refine⟨L,F1,⟨⟨db.heap.hg,db.heap.iW,db.heap.fresh,fun i q hi=>?_,fun i q hi kO=>?_,fun i j q p hi hj kj gJ e=>?_⟩,db.env,db.sI,db.oe,db.uy,db.lk,db.lG,db.sD⟩,tr⟩
 ·rcases key i q hi with⟨rfl,rfl⟩|hi
  ·exact oc
  ·exact db.heap.obj i q hi
 ·rcases key i q hi with⟨rfl,rfl⟩|hi
  ·exact db.heap.own i _ hk kO
  ·exact db.heap.own i q hi kO
 ·rcases key i q hi with⟨e1,e2⟩|vp<;>rcases key j p hj with⟨e3,e4⟩|EE
  ·rw[e1,e3]
  ·subst e1;subst e2
   exact db.heap.inj _ _ _ _ hk EE kj gJ e
  ·subst e3;subst e4
   exact db.heap.inj _ _ _ _ vp hk kj gJ e
  ·exact db.heap.inj _ _ _ _ vp EE kj gJ e
end
end Go.PX
namespace Go.PX
open Go.RowKit
theorem lb{ops:Array Oper}{aT:Array Bool}(vn:∀ (j:Nat) (o:Oper),aT.getD j false=true->ops[j]?=some o -> ∀ e∈o.after,Region.binds .any e=true->aT.getD e.on false=true){ev:List OT}(hb:mn 0 ops.toList=true)(hA:n4 ev 0 ops.toList ev=true)(hlen:ops.toList.length=ev.length) :
  ∀ (n j:Nat) (o:Oper) (t:OT),j<n->ops[j]?=some o->ev[j]?=some t->(∀ e∈o.after,Region.binds .any e=true->aT.getD e.on false=true) -> ∀ i,i<j->i∉t.gZ->aT.getD i false=true
 | 0,_,_,_,hj,_,_,_,_,_,_=>by omega
 | n+1,j,o,t,hj,ho,ht,hl,i,hi,hn=>by
  rcases ml hA j o t (by simpa using ho) ht i (by omega) with h1|⟨e,he,xU,GL⟩
  ·exact absurd h1 hn
  have eC:=eO hb j o (by simpa using ho) e he xU;rcases GL with rfl|⟨CU,u,hu,JS⟩
  ·exact hl e he xU
  ·have HT:j<ops.size:=(Array.getElem?_eq_some_iff.1 ho).1
   have mQ:ops[e.on]?=some ops[e.on]:=Array.getElem?_eq_getElem (by omega);exact lb vn hb hA hlen n e.on _ u (by omega) mQ hu (vn e.on _ (hl e he xU) mQ) i CU JS
structure vJ(ops:Array Oper)(b:Nat)(l:List Rec)(aT:Array Bool):Prop where
 mem:∀ i,((∃ q∈l,q.idx=i)\/(b<=i/\i<ops.size))↔aT.getD i true=false
 size:aT.size=ops.size
 closed:∀ (j:Nat) (o:Oper),aT.getD j false=true->ops[j]?=some o -> ∀ e∈o.after,Region.binds .any e=true->aT.getD e.on false=true
def G2(ev:List OT)(b:Nat):Bool:=(ev.drop b).all fun t=>t.gZ.isEmpty
theorem wq{ev:List OT}{b:Nat}(h:G2 ev b=true){j:Nat}{t:OT}(hj:b<=j)(ht:ev[j]?=some t):t.gZ = []:=by
 have h1:=List.all_eq_true.1 h t (by
  refine List.mem_of_getElem? (i:=j-b) ?_;rw[List.getElem?_drop,show b+(j-b)=j by omega];exact ht)
 simpa using h1
section
variable {P : Program} {σ : Type} {cx : Cx σ} {r : Option Nat} {m : List Nat}
theorem Dy(sr:oO P cx){ops:Array Oper}{rt:RT}(kX:gn ops.toList rt=true){b:Nat}(DB:b<=ops.size)(qe:G2 rt.ev b=true){Q:Exit->Act->World->Prop}{f':Fs}{s:σ}{n0:Nat}{F0:Nat->Nat}{w0:World}{k:Nat}
  (hd:∀ o∈ops.toList,∀ d,o.dst=some d->d<n0)
  (CM:∀ a w L F (st:St σ) aT,bW st=f'->st.s=s->Good cx r m L F st a w->Tr F0 w0 F w->a.tmps.size=n0->vJ ops b [] aT->wpAnyIn (fr r) 0 P .any ops Q k aT a w) :
  ∀ (n:Nat) {l:List Rec} {aT:Array Bool} {st:St σ} {a:Act} {w:World} {L:Loc} {F:Nat->Nat},l.length=n->(∀ q∈l,q.idx<b) ->
  Rs P ops rt.ev l->Good cx r m L F st a w->st.s=s->Tr F0 w0 F w->a.tmps.size=n0->(∀ q∈l,∀ id∈bB q.ws,ot (bW st) id)->mJ l (bW st) f'->vJ ops b l aT ->
  wpAnyIn (fr r) 0 P .any ops Q (k+n) aT a w:=by
 simp only[gn,Bool.and_eq_true]at kX;obtain⟨⟨⟨⟨hlen,gz⟩,jd⟩,je⟩,nh⟩:=kX;have hlen:=Nat.eq_of_beq_eq_true hlen;intro n
 induction n with
 | zero=>
  intro l aT st a w L F ni yC nX hg hs tr hn hu bA ht;have hl:l = []:=List.length_eq_zero_iff.1 ni;subst hl;have bA:f'=bW st:=bA;exact CM a w L F st aT bA.symm hs hg tr hn ht
 | succ n ih=>
  intro l aT st a w L F ni yC nX hg hs tr hn hu bA ht;have o9:∃ q l',l=q::l':=by
   cases l with
   | nil=>simp at ni
   | cons q l'=>exact⟨q,l',rfl⟩
  refine⟨fun hr=>?_,fun j hj=>?_⟩
  ·exfalso
   obtain⟨q,l',rfl⟩:=o9;have LM:=yC q (List.mem_cons_self ..);have hi:=(ht.mem q.idx).1 (.inl ⟨q,List.mem_cons_self ..,rfl⟩);have e6:q.idx∈Region.ready .any ops aT:=by
    rw[mem_ready];refine⟨hi,ops[q.idx]'(by omega),Array.getElem?_eq_getElem (by omega),fun e he hb=>?_⟩;have eC:=eO gz q.idx (ops[q.idx]'(by omega)) (by simp) e he hb;refine iz (by rw[ht.size];omega) fun hf=>?_;rcases (ht.mem e.on).2 hf with⟨q',BJ,HP⟩|⟨h1,_⟩
    ·rcases List.mem_cons.1 BJ with h|h
     ·subst h;omega
     ·have:=((List.pairwise_cons.1 nX.pw).1 _ h).lt
      omega
    ·omega
   rw[hr]at e6;cases e6
  ·obtain⟨EF,oj,sU,gl⟩:=mem_ready.1 hj
   have HT:j<ops.size:=(Array.getElem?_eq_some_iff.1 sU).1;have LL:∃ q∈l,q.idx=j:=by
    rcases (ht.mem j).2 EF with h|⟨h,_⟩
    ·exact h
    ·exfalso
     obtain⟨q,l',rfl⟩:=o9;have LM:=yC q (List.mem_cons_self ..);have Az:rt.ev[j]?=some (rt.ev[j]'(by rw[<- hlen];simpa using HT)):=List.getElem?_eq_getElem _;have h1:=lb ht.closed gz jd hlen (j+1) j oj _ (by omega) sU Az gl q.idx (by omega) (by rw[wq qe h Az];simp);have h2:=fU h1;rw[(ht.mem q.idx).1 (.inl ⟨q,List.mem_cons_self ..,rfl⟩)]at h2;cases h2
   obtain⟨q,hq,rfl⟩:=LL;obtain⟨l1,l2,rfl⟩:=List.append_of_mem hq;have mR:=List.pairwise_append.1 nX.pw;obtain⟨t,LO,LN⟩:=nX.gZ q hq;have dB:∀ p∈l1,Cf p q:=by
    intro p hp;have FW:=mR.2.2 p hp q (List.mem_cons_self ..);refine FW.free (Classical.byContradiction fun wa=>?_);rw[LN]at wa;have:=lb ht.closed gz jd hlen (q.idx+1) q.idx oj t (by omega) sU LO gl p.idx FW.lt wa;have h3:=fU this;rw[(ht.mem p.idx).1 (.inl ⟨p,List.mem_append_left _ hp,rfl⟩)]at h3;cases h3
   obtain⟨gY,fe⟩:=mJ.front dB bA;have I4:=nX.news q hq;have rS:bW (aK st q.ws)=bz (bW st) q.ws:=sP q.ws st I4 (hu q hq);refine nX.snd q hq cx sr r m L F st a w gY.1 gY.2 hg (fun o ho k hk=>?_) _ _ fun a' L' F' w' cU dY lL=>?_
   ·rw[hn]
    exact hd o (by simpa using Array.mem_of_getElem? ho) k hk
   ·have e6:∀ p,p∈l1++l2->p∈l1++q::l2:=fun p hp=>by
     rcases List.mem_append.1 hp with h|h
     ·exact List.mem_append_left _ h
     ·exact List.mem_append_right _ (List.mem_cons_of_mem _ h)
    have eA:∀ p∈l1++l2,p.idx≠q.idx:=by
     intro p hp;rcases List.mem_append.1 hp with h|h
     ·have:=(mR.2.2 p h q (List.mem_cons_self ..)).lt;omega
     ·have:=((List.pairwise_cons.1 mR.2.1).1 p h).lt;omega
    refine ih (l:=l1++l2) (by simp at ni ⊢;omega) (fun p hp=>yC p (e6 p hp)) ⟨?_,fun p hp=>nX.snd p (e6 p hp),fun p hp=>nX.news p (e6 p hp),fun p hp=>nX.gZ p (e6 p hp)⟩ dY ((cT _ _).trans hs) (Tr.trans tr lL) (cU.trans hn) ?_ (by rw[rS];exact fe) ⟨fun i=>?_,?_,?_⟩
    ·exact List.pairwise_append.2 ⟨mR.1,(List.pairwise_cons.1 mR.2.1).2,fun x hx y hy=>mR.2.2 x hx y (List.mem_cons_of_mem _ hy)⟩
    ·intro p hp id dZ
     rw[rS];refine(hu p (e6 p hp) id dZ).bz ?_ ?_
     ·rcases List.mem_append.1 hp with h|h
      ·exact(dB p h).l.news id dZ
      ·exact((List.pairwise_cons.1 mR.2.1).1 p h).names id dZ
     ·rcases List.mem_append.1 hp with h|h
      ·exact(dB p h).l.y5 id (fI dZ)
      ·exact((List.pairwise_cons.1 mR.2.1).1 p h).y5 id dZ
    ·by_cases jN:q.idx=i
     ·subst jN
      have eC:q.idx<aT.size:=by rw[ht.size];exact(Array.getElem?_eq_some_iff.1 sU).1
      have LM:=yC q hq;constructor
      ·rintro (⟨p,hp,he⟩|⟨h,_⟩)
       ·exact absurd he (eA p hp)
       ·omega
      ·intro h;simp[eC]at h
     ·rw[getD_set_ne true jN,<- ht.mem i]
      constructor
      ·rintro (⟨p,hp,he⟩|h)
       ·exact .inl ⟨p,e6 p hp,he⟩
       ·exact .inr h
      ·rintro (⟨p,hp,he⟩|h)
       ·refine .inl ⟨p,?_,he⟩
        rcases List.mem_append.1 hp with h|h
        ·exact List.mem_append_left _ h
        ·rcases List.mem_cons.1 h with rfl|h
         ·exact absurd he jN
         ·exact List.mem_append_right _ h
       ·exact .inr h
    ·rw[Array.size_setIfInBounds];exact ht.size
    ·intro k o' hk xp e he hb
     by_cases yB:q.idx=k
     ·subst yB
      rw[sU]at xp;cases xp;exact getD_set_true (gl e he hb)
     ·rw[getD_set_ne false yB]at hk
      exact getD_set_true (ht.closed k o' hk xp e he hb)
theorem Dx{ops:Array Oper}{rt:RT}(kX:gn ops.toList rt=true){b:Nat}(qe:G2 rt.ev b=true){Q:Exit->Act->World->Prop} :
  ∀ (n i:Nat) {aT:Array Bool} {a:Act} {w:World},i+n=ops.size->b<=i->vJ ops i [] aT->wpOpsIn (fr r) 0 P ops Q (List.range' i n) a w->wpAnyIn (fr r) 0 P .any ops Q n aT a w:=by
 simp only[gn,Bool.and_eq_true]at kX;obtain⟨⟨⟨⟨hlen,gz⟩,jd⟩,je⟩,nh⟩:=kX;have hlen:=Nat.eq_of_beq_eq_true hlen;intro n
 induction n with
 | zero=>
  intro i aT a w hi hb ht h;refine⟨?_,h⟩
  cases hr:Region.ready .any ops aT with
  | nil=>rfl
  | cons j _=>
   have hj:j∈Region.ready .any ops aT:=by rw[hr];exact List.mem_cons_self ..
   rcases (ht.mem j).2 (mem_ready.1 hj).1 with⟨q,hq,_⟩|⟨h1,h2⟩
   ·cases hq
   ·omega
 | succ n ih=>
  intro i aT a w hi hb ht h;rw[List.range'_succ,wpOpsIn_cons]at h;refine⟨fun hr=>?_,fun j hj=>?_⟩
  ·exfalso
   have hu:=(ht.mem i).1 (.inr ⟨Nat.le_refl _,by omega⟩);have e6:i∈Region.ready .any ops aT:=by
    rw[mem_ready];refine⟨hu,ops[i]'(by omega),Array.getElem?_eq_getElem (by omega),fun e he xU=>?_⟩;have eC:=eO gz i (ops[i]'(by omega)) (by simp) e he xU;refine iz (by rw[ht.size];omega) fun hf=>?_;rcases (ht.mem e.on).2 hf with⟨q',BJ,_⟩|⟨h1,_⟩
    ·cases BJ
    ·omega
   rw[hr]at e6;cases e6
  ·obtain⟨EF,oj,sU,gl⟩:=mem_ready.1 hj
   have HT:j<ops.size:=(Array.getElem?_eq_some_iff.1 sU).1;have Pq:j=i:=by
    rcases (ht.mem j).2 EF with⟨q,hq,_⟩|⟨h1,_⟩
    ·cases hq
    rcases Nat.lt_or_ge i j with h2|h2
    ·exfalso
     have Az:rt.ev[j]?=some (rt.ev[j]'(by rw[<- hlen];simpa using HT)):=List.getElem?_eq_getElem _;have h3:=lb ht.closed gz jd hlen (j+1) j oj _ (by omega) sU Az gl i h2 (by rw[wq qe (by omega) Az];simp);have h4:=fU h3;rw[(ht.mem i).1 (.inr ⟨Nat.le_refl _,by omega⟩)]at h4;cases h4
    ·omega
   subst Pq;refine wpOpIn_mono (fun a' w' h'=>ih (j+1) (by omega) (by omega) ⟨fun k=>?_,?_,?_⟩ h') h
   ·by_cases yB:j=k
    ·subst yB
     have:j<aT.size:=by rw[ht.size];exact HT
     constructor
     ·rintro (⟨q,hq,_⟩|⟨h1,_⟩)
      ·cases hq
      ·omega
     ·intro h;simp[this]at h
    ·rw[getD_set_ne true yB,<- ht.mem k]
     constructor
     ·rintro (⟨q,hq,_⟩|⟨h1,h2⟩)
      ·cases hq
      ·exact .inr ⟨by omega,h2⟩
     ·rintro (⟨q,hq,_⟩|⟨h1,h2⟩)
      ·cases hq
      ·exact .inr ⟨by omega,h2⟩
   ·rw[Array.size_setIfInBounds];exact ht.size
   ·intro k o' hk xp e he hb
    by_cases yB:j=k
    ·subst yB
     rw[sU]at xp;cases xp;exact getD_set_true (gl e he hb)
    ·rw[getD_set_ne false yB]at hk
     exact getD_set_true (ht.closed k o' hk xp e he hb)
end
section
variable {P : Program} {T : dM} {ft : FT} {σ : Type} {Y : Hd σ}
theorem x6(hm:P.follows .mixedOrders=true)(hT:bj P T)(rt:RT)(b:Nat){id:Nat}{ops:Array Oper}(kX:gn ops.toList rt=true)(qe:(Nat.ble b ops.toList.length&&G2 rt.ev b)=true){e:Env}{h:av}{s:σ}{K:ew->St σ->Prop}
  (hk:pN rt.made e h fun e h=>Bf P T rt.made ops.toList ((ops.toList.zip rt.ev).take b) [] e h fun e h=>wpOps P T Y ops.toList (ops.toList.drop b) e h s fun e h s=>dx (aP ft.ks e) fun e=>K .normal ⟨e,h,s⟩):pI P ft Y id ops ⟨e,h,s⟩ K:=by
 refine⟨fun cx hY r m L F a w hg hc=>?_⟩;rw[Bool.and_eq_true]at qe;have DB:b<=ops.size:=by have:=Nat.le_of_ble_eq_true qe.1;simpa using this
 have yJ:=kX;simp only[gn,Bool.and_eq_true]at yJ;obtain⟨⟨⟨⟨hlen,gz⟩,jd⟩,je⟩,nh⟩:=yJ;have hlen:=Nat.eq_of_beq_eq_true hlen;have hd:=nD hc;obtain⟨e1,h1,L1,hk,db,hu⟩:=sF rt.made (fun d Er=>by
  have:=List.all_eq_true.1 nh d Er;exact Nat.le_of_ble_eq_true this) hg hk (fun _=>False) (fun _ h=>h.elim)
 obtain⟨R,eN,hN,k1,k2,k3,k4,k5,k6⟩:=Cb hT je ((ops.toList.zip rt.ev).take b) [] (fun j p hp=>by
  rw[List.getElem?_take]at hp;split at hp
  ·have:=List.getElem?_zip_eq_some.1 hp
   simpa using this
  ·cases hp) (fun k q hq=>by simp at hq) List.Pairwise.nil hk
 simp only[List.nil_append]at k4 k5;have By:R.length=b:=by
  rw[k3,List.length_take,List.length_zip,hlen];have:ops.toList.length=ops.size:=by simp
  omega
 have Av:∀ q∈R,q.idx<b:=fun q hq=>by
  obtain⟨k,fK,pD⟩:=List.mem_iff_getElem.1 hq;have:=(k4 k q (by rw[List.getElem?_eq_getElem fK,pD])).1;omega
 have FA:Tr F w F { w with drawn:=w.drawn+1 }:=Tr.drew _;refine wpIn_mono (wpIn_region_any (id:=id) (Q:=la Y cx r m F w a.tmps.size (fun e h s=>dx (aP ft.ks e) fun e=>K .normal ⟨e,h,s⟩)) hm ?_) fun ex a' w' hq=>?_
 ·have IW:ops.size=(ops.size-b)+b:=by omega
  rw[IW];refine Dy (cx:=cx) hY.laid (r:=r) (m:=m) (s:=s) (n0:=a.tmps.size) (F0:=F) (w0:=w) (f':=⟨get eN,get hN⟩) kX DB qe.2 hd (fun a' w' L' F' st aT hf hs dY tr hn ht=>?_) b (l:=R) (st:=⟨e1,h1,s⟩) By Av
   ⟨k5,fun q hq=>?_,fun q hq=>?_,fun q hq=>?_⟩ (db.same (w':={ w with drawn:=w.drawn+1 }) rfl rfl rfl rfl) rfl FA rfl (fun q hq x hx=>hu x (.inl (k6 q hq x hx))) k2 ⟨fun i=>?_,by simp;omega,fun j o hj=>?_⟩
  ·have he:get st.env=get eN:=congrArg Fs.env hf
   have hh:get st.heap=get hN:=congrArg Fs.heap hf;have iX:=dY.sub (e:=eN) (h:=hN) (fun x v hx=>by rw[he];exact hx) (fun x v hx=>by rw[hh];exact hx);rw[hs]at iX;refine Dx kX qe.2 (ops.size-b) b (by omega) (Nat.le_refl _) ht ?_;have:=nL hT hY (ops.toList.drop b) b (fun j=>by simp) iX hn (fun o ho=>hd o (List.mem_of_mem_drop ho)) tr k1;simpa using this
  ·obtain⟨k,fK,pD⟩:=List.mem_iff_getElem.1 hq
   exact(k4 k q (by rw[List.getElem?_eq_getElem fK,pD])).2.snd
  ·obtain⟨k,fK,pD⟩:=List.mem_iff_getElem.1 hq
   exact(k4 k q (by rw[List.getElem?_eq_getElem fK,pD])).2.news
  ·obtain⟨k,fK,pD⟩:=List.mem_iff_getElem.1 hq
   obtain⟨o,t,h1,h2,h3,_⟩:=(k4 k q (by rw[List.getElem?_eq_getElem fK,pD])).2.op;exact⟨t,h2,h3⟩
  ·rw[<- IW,Array.getD_eq_getD_getElem?,Array.getElem?_replicate]
   constructor
   ·rintro (⟨q,hq,rfl⟩|⟨h1,h2⟩)
    ·have:=Av q hq
     rw[if_pos (by omega)];rfl
    ·rw[if_pos h2];rfl
   ·intro hi
    by_cases GA:i<b
    ·exact .inl ⟨R[i],List.getElem_mem ..,(k4 i R[i] (List.getElem?_eq_getElem (by omega))).1⟩
    ·by_cases vq:i<ops.size
     ·exact .inr ⟨by omega,vq⟩
     ·rw[if_neg vq]at hi;simp at hi
  ·rw[<- IW,Array.getD_eq_getD_getElem?,Array.getElem?_replicate]at hj
   split at hj<;>cases hj
 ·rcases hq with⟨e',h',s',L',F',hex,hk,dY,tr,hs⟩|hp
  case inr=>exact .inr hp
  rw[eY]at hk;exact .inl ⟨.normal,_,m,L',F',hex,hk,dY.sub (dS ft.ks e') (fun _ _ h=>h),tr,hs⟩
end
def Fx{σ:Type}(P:Program)(T:dM)(Y:Hd σ)(ops:List Oper)(o:Option Oper)(e:Env)(h:av)(s:σ)(go:Env->av->σ->Prop):Prop:=
 match o with
 | some ⟨dst,op,_,_,_,guard⟩=>kM ops e guard (fun w=>bk w e h fun e h=>zx P T Y dst op e h s go) (fun w=>bk w e h fun e h=>bk (a9 dst (.d (.tup []))) e h fun e h=>go e h s)
 | none=>False
def isTrue:List Bool->Nat->Bool
 | [],_=>true
 | b::_,0=>b
 | _::r,n+1=>isTrue r n
def pM(ls:List Bool):List Nat->Bool
 | []=>true
 | i::r=>isTrue ls i&&pM ls r
def px(ls:List Bool):Nat->List (List Nat)->List Bool->List Nat
 | _,[],_=>[]
 | _,_,[]=>[]
 | i,d::ds,b::bs=>match b,pM ls d with
  | false,true=>i::px ls (i+1) ds bs
  | _,_=>px ls (i+1) ds bs
def A7:List Bool->Nat->List Bool
 | [],_=>[]
 | _::r,0=>true::r
 | b::r,n+1=>b::A7 r n
noncomputable def DQ(l:List Nat)(f:Nat->Prop):Prop:=
 List.rec (motive:=fun _=>Prop) True (fun i _ ih=>f i/\ih) l
theorem x9{f:Nat->Prop}:∀ {l:List Nat},DQ l f ↔ ∀ i∈l,f i
 | []=>by simp[DQ]
 | i::r=>by
  have:=x9 (f:=f) (l:=r);simp only[DQ]at this ⊢;rw[this];simp
noncomputable def xP{σ:Type}(P:Program)(T:dM)(Y:Hd σ)(ops:List Oper)(iH:List (List Nat))(n:Nat):List Bool->Env->av->σ->(Env->av->σ->Prop)->Prop:=
 Nat.rec (motive:=fun _=>List Bool->Env->av->σ->(Env->av->σ->Prop)->Prop) (fun _ e h s K=>K e h s)
  (fun _ ih ls e h s K=>DQ (px ls 0 iH ls) fun i=>Fx P T Y ops ops[i]? e h s fun e h s=>ih (A7 ls i) e h s K) n
def mY:List Oper->List (List Nat)->Bool
 | [],[]=>true
 | o::r,d::ds=>d.all (fun i=>o.after.toList.any fun e=>Region.binds .any e&&Nat.beq e.on i)&&mY r ds
 | _,_=>false
theorem kp:∀ {l:List Oper} {ds:List (List Nat)},mY l ds=true->l.length=ds.length /\ ∀ (i:Nat) (o:Oper) (d:List Nat),l[i]?=some o->ds[i]?=some d -> ∀ j∈d,∃ e∈o.after,Region.binds .any e=true/\e.on=j
 | [],[],_=>⟨rfl,fun i o d h=>by simp at h⟩
 | [],_::_,h=>by simp[mY]at h
 | _::_,[],h=>by simp[mY]at h
 | o::r,d::ds,h=>by
  simp only[mY,Bool.and_eq_true,List.all_eq_true]at h;obtain⟨h1,h2⟩:=kp h.2;refine⟨by simp[h1],fun i o' d' ho hd j hj=>?_⟩
  cases i with
  | zero=>
   simp at ho hd;subst ho;subst hd;have:=h.1 j hj;simp only[List.any_eq_true,Bool.and_eq_true]at this;obtain⟨e,he,hb,hq⟩:=this;exact⟨e,by simpa using he,hb,Nat.eq_of_beq_eq_true hq⟩
  | succ i=>exact h2 i o' d' (by simpa using ho) (by simpa using hd) j hj
theorem uk:∀ {ls:List Bool} {i:Nat},isTrue ls i=ls.toArray.getD i true
 | [],i=>by simp[isTrue,Array.getD_eq_getD_getElem?]
 | b::r,0=>by simp[isTrue,Array.getD_eq_getD_getElem?]
 | b::r,n+1=>by
  have:=uk (ls:=r) (i:=n);simp only[isTrue,this,Array.getD_eq_getD_getElem?];simp
theorem tj{ls:List Bool}:∀ {d:List Nat},(∀ j∈d,isTrue ls j=true)->pM ls d=true
 | [],_=>rfl
 | i::r,h=>by
  have h1:=tj (ls:=ls) (d:=r) fun j hj=>h j (List.mem_cons_of_mem _ hj);simp[pM,h i (by simp),h1]
theorem ux{ls:List Bool}:∀ {ds:List (List Nat)} {bs:List Bool} {k i:Nat} {d:List Nat},ds[i]?=some d->bs[i]?=some false->pM ls d=true->k+i∈px ls k ds bs
 | [],_,_,i,d,h,_,_=>by simp at h
 | _::_,[],_,i,d,_,h,_=>by simp at h
 | x::ds,b::bs,k,i,d,hd,hb,ha=>by
  cases i with
  | zero=>
   simp at hd hb;subst hd;subst hb;simp[px,ha]
  | succ i=>
   have:=ux (ls:=ls) (ds:=ds) (bs:=bs) (k:=k+1) (i:=i) (by simpa using hd) (by simpa using hb) ha;rw[show k+(i+1)=k+1+i by omega];simp only[px];split
   ·exact List.mem_cons_of_mem _ this
   ·exact this
theorem s7:∀ {ls:List Bool} {i:Nat},A7 ls i=ls.set i true
 | [],i=>by simp[A7]
 | b::r,0=>rfl
 | b::r,n+1=>by simp[A7,s7 (ls:=r)]
def xM:List Bool->Nat
 | []=>0
 | true::r=>xM r
 | false::r=>xM r+1
theorem B7:∀ {ls:List Bool} {i:Nat},ls[i]?=some false->xM (ls.set i true)+1=xM ls
 | [],i,h=>by simp at h
 | b::r,0,h=>by
  simp at h;subst h;simp[xM]
 | b::r,i+1,h=>by
  have:=B7 (ls:=r) (i:=i) (by simpa using h);cases b<;>simp[xM,this]
theorem B6:∀ {ls:List Bool},0<xM ls -> ∃ i:Nat,ls[i]?=some false /\ ∀ j:Nat,j<i->ls[j]?=some true
 | [],h=>by simp[xM]at h
 | false::r,_=>⟨0,rfl,fun j hj=>by omega⟩
 | true::r,h=>by
  obtain⟨i,h1,h2⟩:=B6 (ls:=r) (by simpa[xM]using h);refine⟨i+1,by simpa using h1,fun j hj=>?_⟩
  cases j with
  | zero=>rfl
  | succ j=>simpa using h2 j (by omega)
theorem zB:∀ {ls:List Bool},xM ls=0 -> ∀ i:Nat,ls[i]?≠some false
 | [],_,i=>by simp
 | false::r,h,i=>by simp[xM]at h
 | true::r,h,i=>by
  cases i with
  | zero=>simp
  | succ i=>simpa using zB (ls:=r) (by simpa[xM]using h) i
section
variable {P : Program} {T : dM} {σ : Type} {Y : Hd σ} {cx : Cx σ} {r : Option Nat} {m : List Nat}
theorem l8{ls:List Bool}{i:Nat}:ls.toArray.getD i true=false↔ls[i]?=some false:=by
 rw[Array.getD_eq_getD_getElem?];simp only[List.getElem?_toArray]
 cases ls[i]? with
 | none=>simp
 | some b=>simp
theorem ox{ls:List Bool}{i:Nat}:ls.toArray.getD i false=true↔ls[i]?=some true:=by
 rw[Array.getD_eq_getD_getElem?];simp only[List.getElem?_toArray]
 cases ls[i]? with
 | none=>simp
 | some b=>simp
theorem qS(hT:bj P T)(hY:cX P Y cx){ops:Array Oper}{iH:List (List Nat)}(gz:mn 0 ops.toList=true)(Lc:mY ops.toList iH=true){F0:Nat->Nat}{w0:World}{n0:Nat}(hd:∀ o∈ops.toList,∀ d,o.dst=some d->d<n0){K:Env->av->σ->Prop} :
  ∀ (n:Nat) {ls:List Bool} {e:Env} {h:av} {s:σ} {L:Loc} {F:Nat->Nat} {a:Act} {w:World},ls.length=ops.size->xM ls=n->Good cx r m L F ⟨e,h,s⟩ a w->a.tmps.size=n0->Tr F0 w0 F w ->
   xP P T Y ops.toList iH n ls e h s K->wpAnyIn (fr r) 0 P .any ops (la Y cx r m F0 w0 n0 K) n ls.toArray a w:=by
 obtain⟨BB,CJ⟩:=kp Lc;have BB:ops.size=iH.length:=by simpa using BB
 intro n
 induction n with
 | zero=>
  intro ls e h s L F a w hl hu hg hs tr hk;refine⟨?_,.inl ⟨e,h,s,L,F,rfl,hk,hg,tr,hs⟩⟩
  cases hr:Region.ready .any ops ls.toArray with
  | nil=>rfl
  | cons i _=>
   have:i∈Region.ready .any ops ls.toArray:=by rw[hr];exact List.mem_cons_self ..
   have:=l8.1 (mem_ready.1 this).1;exact absurd this (zB hu i)
 | succ n ih=>
  intro ls e h s L F a w hl hu hg hs tr hk;refine⟨fun hr=>?_,fun i hi=>?_⟩
  ·exfalso
   obtain⟨i,h1,h2⟩:=B6 (ls:=ls) (by omega);have Ng:i<ops.size:=by rw[<- hl];exact(List.getElem?_eq_some_iff.1 h1).1
   have:i∈Region.ready .any ops ls.toArray:=by
    rw[mem_ready];refine⟨l8.2 h1,ops[i],Array.getElem?_eq_getElem Ng,fun e he hb=>?_⟩;have eC:=eO gz i ops[i] (by simp) e he hb;exact ox.2 (h2 e.on (by omega))
   rw[hr]at this;cases this
  ·obtain⟨EF,oj,sU,gl⟩:=mem_ready.1 hi
   have Ng:i<ops.size:=(Array.getElem?_eq_some_iff.1 sU).1;have Rx:=l8.1 EF;have hk:DQ (px ls 0 iH ls) fun i=>Fx P T Y ops.toList ops.toList[i]? e h s fun e h s=>xP P T Y ops.toList iH n (A7 ls i) e h s K:=hk;have Rq:iH[i]?=some (iH[i]'(by omega)):=List.getElem?_eq_getElem _;have FP:=x9.1 hk i (by
    have:=ux (ls:=ls) (ds:=iH) (bs:=ls) (k:=0) (i:=i) Rq Rx (tj fun j hj=>by
     obtain⟨e,he,hb,rfl⟩:=CJ i oj _ (by simpa using sU) Rq j hj;have:=gl e he hb;rw[uk];have:=ox.1 this;rw[Array.getD_eq_getD_getElem?];simp[this])
    simpa using this)
   have Az:ops.toList[i]?=some oj:=by simpa using sU
   rw[Az]at FP;obtain⟨dst,op,ty,pos,after,guard⟩:=oj;refine ve hT hY sU hg (fun d O4=>by rw[hs];exact hd _ (List.mem_of_getElem? Az) d O4) FP (fun e' h' s' L' F' a' w' dY Jc lL fK=>?_) fun e' a' w' hp=>.inr (hp.trans tr hs);have mN:ls.toArray.setIfInBounds i true=(A7 ls i).toArray:=by rw[s7];simp
   rw[mN];refine ih (by rw[s7];simpa using hl) ?_ dY (Jc.trans hs) (Tr.trans tr lL) fK;rw[s7];have:=B7 Rx;omega
variable {ft : FT}
theorem x5(hm:P.follows .mixedOrders=true)(hT:bj P T)(iH:List (List Nat)){id:Nat}{ops:Array Oper}(kX:(mn 0 ops.toList&&mY ops.toList iH)=true){e:Env}{h:av}{s:σ}{K:ew->St σ->Prop}
  (hk:xP P T Y ops.toList iH iH.length (iH.map fun _=>false) e h s fun e h s=>dx (aP ft.ks e) fun e=>K .normal ⟨e,h,s⟩):pI P ft Y id ops ⟨e,h,s⟩ K:=by
 refine⟨fun cx hY r m L F a w hg hc=>?_⟩;rw[Bool.and_eq_true]at kX;obtain⟨BB,_⟩:=kp kX.2;have BB:ops.size=iH.length:=by simpa using BB
 refine wpIn_mono (wpIn_region_any (id:=id) (Q:=la Y cx r m F w a.tmps.size (fun e h s=>dx (aP ft.ks e) fun e=>K .normal ⟨e,h,s⟩)) hm ?_) fun ex a' w' hq=>?_
 ·have AB:Array.replicate ops.size false=(iH.map fun _=>false).toArray:=by
   rw[BB];have:∀ l:List (List Nat),(l.map fun _=>false)=List.replicate l.length false:=by
    intro l
    induction l with
    | nil=>rfl
    | cons x r ih=>rw[List.map_cons,ih];rfl
   rw[this];simp
  have P7:∀ l:List (List Nat),xM (l.map fun _=>false)=l.length:=by
   intro l
   induction l with
   | nil=>rfl
   | cons x r ih=>simp[xM,ih]
  rw[AB,BB];exact qS hT hY kX.1 kX.2 (nD hc) iH.length (by simp[BB]) (P7 iH) (hg.same (w':={ w with drawn:=w.drawn+1 }) rfl rfl rfl rfl) rfl (Tr.drew _) hk
 ·rcases hq with⟨e',h',s',L',F',hex,hk,dY,tr,hs⟩|hp
  case inr=>exact .inr hp
  rw[eY]at hk;exact .inl ⟨.normal,_,m,L',F',hex,hk,dY.sub (dS ft.ks e') (fun _ _ h=>h),tr,hs⟩
end
end Go.PX
