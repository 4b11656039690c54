import Derived.Test.YtmbefpmbnhdbpaaGreatDoorPxV
import Derived.Test.YtmbefpmbnhdbpaaGreatDoorPxQ
import Derived.Test.YtmbefpmbnhdbpaaGreatDoorPxM
import Derived.Test.YtmbefpmbnhdbpaaGreatDoorPxU
import Derived.Test.YtmbefpmbnhdbpaaGreatDoorPxK
import Derived.Lib.AtoiAllCases
import Derived.Laws.IdiomStrings
import Derived.Test.YtmbefpmbnhdbpaaGreatDoorPxP
set_option linter.all false
set_option maxRecDepth 10000
namespace Go.PX
open Go.Proofs
open Go.RowKit
theorem abS(x:aZ):bq Tryz.prog 24 [x.d] (i64 (sd x)):=by
 obtain⟨sh,kd,wd,nm⟩:=x;refine aY Tryz.func24 rfl (ft:=ZH) 1 fun {σ} Y st=>?_;conv=>whnf
 refine af (ds:=[i64 sh,i64 0,i64 20000]) (JO sh 0 20000) rfl rfl ?_;unfold sd gi
 cases h0:cF sh 0 20000 with
 | false=>
  conv=>whnf
  exact ai
 | true=>
 conv=>whnf
 refine af (ds:=[i64 kd,i64 1,i64 3]) (JO kd 1 3) rfl rfl ?_
 cases h1:cF kd 1 3 with
 | false=>
  have hk:¬ (kd=1)/\¬ (kd=2)/\¬ (kd=3):=by
   refine⟨?_,?_,?_⟩<;>rintro rfl<;>simp[cF]at h1
  conv=>whnf
  simp only[Bool.not_true,Bool.false_eq_true,if_false,if_neg hk.1,if_neg hk.2.1,if_neg hk.2.2];exact ai
 | true=>
 have hk:kd=1\/kd=2\/kd=3:=by
  unfold cF at h1;simp at h1;omega
 simp only[Bool.not_true,Bool.false_eq_true,if_false];conv=>whnf
 rcases hk with rfl|rfl|rfl
 ·refine ag (fun hA=>?_) (fun hA=>?_)
  ·conv=>whnf
   refine af (ds:=[.str wd]) (EE wd) rfl rfl ?_
   cases hn:fm wd with
   | false=>
    conv=>whnf
    exact ai
   | true=>
    conv=>whnf
    refine ag (fun hB=>?_) (fun hB=>?_)
    ·have hB:¬ nm=0:=by simpa using hB
     conv=>whnf
     rw[decide_eq_false hB];exact ai
    ·have hB:nm=0:=by simpa using hB
     conv=>whnf
     rw[decide_eq_true hB];exact ai
  ·conv=>whnf
   refine af (ds:=[.str wd]) (EE wd) rfl rfl ?_
   cases hn:fm wd with
   | false=>
    conv=>whnf
    exact ai
   | true=>
    conv=>whnf
    refine ag (fun hB=>?_) (fun hB=>?_)
    ·have hB:¬ nm=0:=by simpa using hB
     conv=>whnf
     rw[decide_eq_false hB];exact ai
    ·have hB:nm=0:=by simpa using hB
     conv=>whnf
     rw[decide_eq_true hB];exact ai
 ·have Dc:decide (wd = .empty)=decide (wd=(⟨#[]⟩:ByteArray)):=rfl
  simp only[if_neg (show ¬ (2:Int)=1 by decide),if_pos,Dc];refine ag (fun hA=>?_) (fun hA=>?_)
  ·rw[hA]
   conv=>whnf
   refine ag (fun hB=>?_) (fun hB=>?_)
   ·have hB:¬ nm=0:=by simpa using hB
    conv=>whnf
    rw[decide_eq_false hB];exact ai
   ·have hB:nm=0:=by simpa using hB
    conv=>whnf
    rw[decide_eq_true hB];exact ai
  ·rw[hA]
   conv=>whnf
   exact ai
 ·simp only[if_neg (show ¬ (3:Int)=1 by decide),if_neg (show ¬ (3:Int)=2 by decide),if_pos,Bool.not_not]
  refine ag (fun hA=>?_) (fun hA=>?_)
  ·conv=>whnf
   refine af (ds:=[.str wd]) (EE wd) rfl rfl ?_
   cases hn:fm wd with
   | false=>
    conv=>whnf
    exact ai
   | true=>
    conv=>whnf
    refine af (ds:=[i64 nm,i64 1,i64 99]) (JO nm 1 99) rfl rfl ?_
    cases h4:cF nm 1 99 with
    | false=>
     conv=>whnf
     exact ai
    | true=>
     conv=>whnf
     exact ai
  ·conv=>whnf
   refine af (ds:=[.str wd]) (EE wd) rfl rfl ?_
   cases hn:fm wd with
   | false=>
    conv=>whnf
    exact ai
   | true=>
    conv=>whnf
    refine af (ds:=[i64 nm,i64 1,i64 99]) (JO nm 1 99) rfl rfl ?_
    cases h4:cF nm 1 99 with
    | false=>
     conv=>whnf
     exact ai
    | true=>
     conv=>whnf
     exact ai
def gO(l:List au):List ByteArray:=l.map (·.name)
theorem MI(pre:List au)(b:au):qF pre b=if qB b.name (gO pre)=0 then (if spread (-720) 720 [b.off,b.set] 0=0 then (if b.ar.length>8 then 3 else 0) else spread (-720) 720 [b.off,b.set] 0) else qB b.name (gO pre):=by
 have h:((gO pre).any fun y=>decide (y=b.name))=pre.any fun y=>decide (y.name=b.name):=by
  unfold gO;rw[List.any_map];rfl
 unfold qF qB spread spread spread gi;rw[h];cases fm b.name<;>cases (pre.any fun y=>decide (y.name=b.name))<;>cases cF b.off.lo (-720) 720<;>cases cF b.off.hi (-720) 720<;>cases cF b.set.lo (-720) 720<;>cases cF b.set.hi (-720) 720<;>simp
 by_cases h1:b.off.hi<b.off.lo<;>by_cases h2:b.set.hi<b.set.lo<;>simp[h1,h2]
set_option maxHeartbeats 2000000 in
theorem abF(l:aN):bq Tryz.prog 5 [l.d] (Yw (gf l)):=by
 refine aY Tryz.func5 rfl (ft:=ft5) 1 fun {σ} Y st=>?_;conv=>whnf
 unfold gf;refine af (ds:=[i64 l.near,i64 0,i64 60]) (JO l.near 0 60) rfl rfl ?_;unfold gi
 cases h0:cF l.near 0 60 with
 | false=>
  conv=>whnf
  exact ai
 | true=>
  conv=>whnf
  rw[List.length_map];refine af (ds:=[i64 l.an.length,i64 1,i64 3]) (JO l.an.length 1 3) rfl rfl ?_
  cases h1:cF l.an.length 1 3 with
  | false=>
   conv=>whnf
   exact ai
  | true=>
   have hlen:l.an.length<=3:=by
    have h1:=h1;unfold cF at h1;simp at h1;omega
   simp only[Bool.not_true,if_false,Bool.false_eq_true];conv=>whnf
   generalize hK:iO [] l.an 0=K;refine bB (T:=tys) av (by exact aj mixed av (by decide +kernel)) l.an (fun i (_:Unit)=>⟨[(1,.ptr 1 0),(5,.sl 40 1 0 i),(6,.d (i64 i))],[(1,.box (.dd l.cells)),(40,.arr 1 (.dd ((gO (l.an.take i)).map fun s=>[.str s])))],st⟩)
    (fun i r _=>iO (l.an.take i) r i=K) () ((Wk.born 5 40 1 rfl rfl rfl).trans aw) hK ?_ ?_
   ·rintro i b r _ hx hi hr he
    rw[iO,MI]at he;have Gy:l.an.take (i+1)=l.an.take i ++ [b]:=by rw[List.take_succ,hx];rfl
    have pq:(gO (l.an.take i)).length=i:=by unfold gO;simp;omega
    conv=>whnf
    refine ag (fun _=>?_) (fun h=>absurd hi (by have:=of_decide_eq_false h;simp at this;omega));conv=>whnf
    refine aG hx ?_;conv=>whnf
    refine aA (ds:=[.str b.name,Ge (gO (l.an.take i))]) (Zu b.name (gO (l.an.take i)) (by omega)) rfl 1 (aC rfl (aC (cH rfl (by simp[pq])) rfl)) ?_;conv=>whnf
    refine ak rfl ?_;conv=>whnf
    refine ak (by simp[bx.len,pq]) ?_;conv=>whnf
    refine aM (decide_eq_true (by
     show(((gO (l.an.take i)).map fun s=>[D.str s]).length+1)*16<=140737488355328;rw[List.length_map];omega)) ?_
    conv=>whnf
    generalize qB b.name (gO (l.an.take i))=F at he ⊢;have sA:(gO (l.an.take i)).map (fun s=>[D.str s]) ++ [[.str b.name]]=(gO (l.an.take (i+1))).map fun s=>[.str s]:=by
     rw[Gy];simp[gO]
    have aa4:((gO (l.an.take i)).map fun s=>[D.str s]).length+1=i+1:=by rw[List.length_map,pq]
    refine ag (fun h2=>?_) (fun h2=>?_)
    ·have h2:F=0:=of_decide_eq_true h2
     subst h2;simp only[if_true]at he;conv=>whnf
     refine aA (ds:=[dH [b.off,b.set],i64 (-720),i64 720]) (QP [b.off,b.set] (-720) 720 (by simp)) rfl 1 (aC (cH rfl rfl) rfl) ?_;generalize spread (-720) 720 [b.off,b.set] 0=S at he ⊢;conv=>whnf
     refine ag (fun h3=>?_) (fun h3=>?_)
     ·have h3:S=0:=by simpa using h3
      subst h3;simp only[if_true]at he;conv=>whnf
      refine ag (fun h8=>?_) (fun h8=>?_)
      ·have h8:b.ar.length>8:=by have:=of_decide_eq_true h8;simp at this;omega
       rw[if_pos h8,if_neg (by decide)]at he;conv=>whnf
       refine ae ?_;conv=>whnf
       rw[<- he];exact ai
      ·have h8:¬ b.ar.length>8:=by have:=of_decide_eq_false h8;simp at this;omega
       rw[if_neg h8,if_pos rfl]at he;conv=>whnf
       generalize hE:lG b.ar 0=E at he;refine bB (T:=tys) av (by exact aj mixed av (by decide +kernel)) b.ar (fun k (_:Unit)=>⟨[(1,.ptr 1 0),(5,.sl 40 1 0 (i+1)),(6,.d (i64 i)),(7,.ptr 7 0),(9,.d (i64 k))],[(1,.box (.dd l.cells)),(40,.arr 1 (.dd ((gO (l.an.take (i+1))).map fun s=>[.str s]))),(7,.box (.dd b.cells))],st⟩)
        (fun k r _=>lG r k=E) () (Wk.sub ⟨rfl,(by
         show some (V.sl 40 1 0 (((gO (l.an.take i)).map fun s=>[D.str s]).length+1))=_;rw[aa4]),rfl,rfl,rfl,trivial⟩ ⟨rfl,(by
         show some (Obj.arr 1 (bx.dd ((gO (l.an.take i)).map (fun s=>[D.str s]) ++ [[.str b.name]])))=_;rw[sA]),rfl,trivial⟩) hE ?_ ?_
       ·rintro k y r2 _ hy hk D7 nt
        rw[lG]at nt;conv=>whnf
        refine ag (fun _=>?_) (fun h=>absurd hk (by have:=of_decide_eq_false h;simp at this;omega));conv=>whnf
        refine aG hy ?_;conv=>whnf
        refine af (abS y) rfl rfl ?_;conv=>whnf
        refine ag (fun h4=>?_) (fun h4=>?_)
        ·have h4:¬ sd y=0:=by simpa using h4
         rw[if_neg h4]at nt;subst nt;rw[if_neg h4]at he;conv=>whnf
         refine ae ?_;conv=>whnf
         rw[<- he];exact ai
        ·have h4:sd y=0:=by simpa using h4
         rw[if_pos h4]at nt;conv=>whnf
         refine ae ?_;conv=>whnf
         exact⟨(),nt,aw⟩
       ·rintro _ nt
        have nt:((0,0):Int×Int)=E:=nt;subst nt;rw[if_pos rfl,<- Gy]at he;conv=>whnf
        refine ag (fun h=>absurd h (by simp)) (fun _=>?_);conv=>whnf
        refine ae ?_;conv=>whnf
        exact⟨(),he,aw⟩
     ·have h3:¬ S=0:=by simpa using h3
      conv=>whnf
      refine ag (fun _=>?_) (fun h=>absurd h (by simp[h3]));rw[if_neg h3,if_neg h3]at he;conv=>whnf
      refine ae ?_;conv=>whnf
      rw[<- he];exact ai
    ·have h2:¬ F=0:=of_decide_eq_false h2
     conv=>whnf
     refine ag (fun h=>absurd (of_decide_eq_true h) h2) (fun _=>?_);conv=>whnf
     refine ag (fun _=>?_) (fun h=>absurd h (by simp[h2]));rw[if_neg h2,if_neg h2]at he;conv=>whnf
     refine ae ?_;conv=>whnf
     rw[<- he];exact ai
   ·rintro _ he
    rw[iO]at he;subst he;conv=>whnf
    refine ag (fun h=>absurd h (by simp)) (fun _=>?_);conv=>whnf
    exact ai
def yL(l:aN)(w1 w2:Int):dt×Bool:=
 match l.an[w1.toNat%l.an.length]? with
 | some b=>if b.ar.length=0 then (⟨0,0⟩,false) else (⟨(w1.toNat%l.an.length:Nat),(w2.toNat%b.ar.length:Nat)⟩,true)
 | none=>(⟨0,0⟩,false)
theorem ab6(l:aN)(w1 w2:Int)(hl:1<=l.an.length/\l.an.length<=3)(hb:∀ b∈l.an,b.ar.length<=8)(h1:0<=w1/\w1<=255)(h2:0<=w2/\w2<=255):bq Tryz.prog 10 [l.d,.agg [.int .u8 w1,.int .u8 w2]] (.tup [(yL l w1 w2).1.d,.bool (yL l w1 w2).2]):=by
 obtain⟨a,rfl⟩:∃ a:Nat,w1=a:=⟨w1.toNat,by omega⟩;obtain⟨k,rfl⟩:∃ k:Nat,w2=k:=⟨w2.toNat,by omega⟩;have hi:a%l.an.length<l.an.length:=Nat.mod_lt _ (by omega);obtain⟨b,hg⟩:∃ b,l.an[a%l.an.length]?=some b:=⟨_,List.getElem?_eq_getElem hi⟩;have xV:=hb b (List.mem_of_getElem? hg);unfold yL;simp only[Int.toNat_natCast,hg];obtain⟨i,hia⟩:∃ i,a%l.an.length=i:=⟨_,rfl⟩;rw[hia]at hi hg ⊢;show bq Tryz.prog 10 [l.d,.agg [.int .u8 a,.int .u8 k]] _;refine aY Tryz.func10 rfl (ft:=Zx) 2 fun {σ} Y st=>?_;conv=>whnf
 refine ao (a:Int) rfl (wrap_i64 (by omega)) ?_;conv=>whnf
 refine aM (decide_eq_true (by rw[List.length_map];omega)) ?_;conv=>whnf
 rw[show((a:Int).tmod ((List.map au.cells l.an).length:Nat))=(i:Int) by rw[List.length_map,Int.tmod_eq_emod_of_nonneg (by omega)];omega];refine aG hg ?_;conv=>whnf
 refine ag (fun h0=>?_) (fun h0=>?_)
 ·have h0:b.ar.length=0:=by have:=of_decide_eq_true h0;rw[List.length_map]at this;omega
  rw[if_pos h0];conv=>whnf
  exact ai
 ·have h0:¬ b.ar.length=0:=by have:=of_decide_eq_false h0;rw[List.length_map]at this;omega
  rw[if_neg h0];have Rf:k%b.ar.length<b.ar.length:=Nat.mod_lt _ (by omega);conv=>whnf
  refine ao (k:Int) rfl (wrap_i64 (by omega)) ?_;conv=>whnf
  refine aG hg ?_;conv=>whnf
  refine aM (decide_eq_true (by rw[List.length_map];omega)) ?_;conv=>whnf
  rw[show((k:Int).tmod ((List.map aZ.cells b.ar).length:Nat))=((k%b.ar.length:Nat):Int) by rw[List.length_map,Int.tmod_eq_emod_of_nonneg (by omega)];omega];exact ai
theorem NO(s:Span)(n:Int)(h:s.lo<=s.hi)(h1 : -10000<=s.lo)(h2:s.hi<=10000)(hn:0<=n/\n<=65535):bq Tryz.prog 57 [s.d,i64 n] (i64 (gb s n)):=by
 have gN:=jn h n;have hm:=Int.emod_nonneg n (show s.hi-s.lo+1≠0 by omega);have Gx:=Int.emod_lt_of_pos n (show 0<s.hi-s.lo+1 by omega);show bq Tryz.prog 57 [s.d,i64 n] _;refine aY Tryz.func57 rfl (ft:=ZW) 2 fun {σ} Y st=>?_;conv=>whnf
 refine ao (s.hi-s.lo) (by rfl) (wrap_i64 (by omega)) ?_;conv=>whnf
 refine ao (s.hi-s.lo+1) (by rfl) (wrap_i64 (by omega)) ?_;conv=>whnf
 refine aM (decide_eq_true (by omega)) ?_;conv=>whnf
 rw[Int.tmod_eq_emod_of_nonneg hn.1];refine ao (gb s n) (by rfl) (wrap_i64 (by omega)) ?_;conv=>whnf
 exact ai
def vu(b:au)(n:Int):Int:=match cP b.ar n 0 with
 | some k=>k
 | none=>-1
theorem abO(b:au)(n:Int)(hb:b.ar.length<1000000):bq Tryz.prog 60 [.agg b.cells,i64 n] (i64 (vu b n)):=by
 unfold vu;refine aY Tryz.func60 rfl (ft:=ZZ) 2 fun {σ} Y st=>?_;conv=>whnf
 refine bB (T:=tys) av (by exact aj mixed av (by decide +kernel)) b.ar (fun i (_:Unit)=>⟨[(1,.d (i64 n)),(2,.ptr 2 0),(5,.d (i64 i))],[(2,.box (.dd b.cells))],st⟩) (fun i r _=>cP b.ar n 0=cP r n i) () aw rfl ?_ ?_
 ·intro i x r _ hx hi hr he
  rw[cP]at he;conv=>whnf
  refine ag (fun _=>?_) (fun h=>absurd hi (by have:=of_decide_eq_false h;simp at this;omega));conv=>whnf
  refine aG hx ?_;conv=>whnf
  refine ag (fun h=>?_) (fun h=>?_)
  ·have h:x.kind=3:=of_decide_eq_true h
   conv=>whnf
   refine aG hx ?_;conv=>whnf
   refine ag (fun h2=>?_) (fun h2=>?_)
   ·have h2:x.number=n:=of_decide_eq_true h2
    rw[if_pos ⟨h,h2⟩]at he;conv=>whnf
    rw[he];exact ai
   ·have h2:¬ x.number=n:=of_decide_eq_false h2
    rw[if_neg fun h3=>h2 h3.2]at he;conv=>whnf
    refine ae ?_;conv=>whnf
    exact⟨(),he,aw⟩
  ·have h:¬ x.kind=3:=of_decide_eq_false h
   rw[if_neg fun h3=>h h3.1]at he;conv=>whnf
   refine ae ?_;conv=>whnf
   exact⟨(),he,aw⟩
 ·intro _ he
  conv=>whnf
  refine ag (fun h=>absurd h (by simp)) (fun _=>?_);conv=>whnf
  rw[he];exact ai
def db(l:List Int):D:=.vs (l.map fun b=>[D.int .u16 b])
def Uj(l:List Int):Prop:=∀ x∈l,0<=x/\x<=65535
theorem XT:bq Tryz.prog 59 [] (i64 60):=by
 refine aY Tryz.func59 rfl (ft:=ZY) 0 fun {σ} Y st=>?_;conv=>whnf
 exact ai
theorem Aa(x:List Int)(hx:Uj x)(n:Nat):bq Tryz.prog 58 [db x,i64 n] (i64 (cy x n)):=by
 show bq Tryz.prog 58 [db x,i64 n] _;refine aY Tryz.func58 rfl (ft:=ZX) 2 fun {σ} Y st=>?_;conv=>whnf
 by_cases h:x = []
 ·subst h
  conv=>whnf
  exact ai
 ·have hl:0<x.length:=List.length_pos_iff.2 h
  refine ag (fun h1=>absurd h1 (by simp[h])) (fun _=>?_);conv=>whnf
  refine aM (decide_eq_true (by rw[List.length_map];omega)) ?_;conv=>whnf
  rw[List.length_map];have hm:=Nat.mod_lt n hl;have he:((n:Int).tmod (x.length:Int))=((n%x.length:Nat):Int):=by
   rw[Int.tmod_eq_emod_of_nonneg (by omega)];omega
  rw[he];have hg:x[n%x.length]?=some (x[n%x.length]):=List.getElem?_eq_getElem hm;refine aG hg ?_;conv=>whnf
  have hb:=hx _ (List.mem_of_getElem? hg);have ht:cy x n=x[n%x.length]:=by
   unfold cy;rw[hg];rfl
  rw[<- ht]at hb ⊢;refine ae ?_;conv=>whnf
  exact ai
theorem Jo{x:List Int}(hx:Uj x)(n:Nat):0<=cy x n/\cy x n<=65535:=by
 unfold cy
 cases h:x[n%x.length]? with
 | none=>simp
 | some v=>exact hx v (List.mem_of_getElem? h)
def gn(ls:List (List Int)):List (List D):=ls.map fun r=>[aV r]
def cM(l:List Int):List (List D):=l.map fun x=>[i64 x]
structure Ui(b k:Nat)(s:CF):Prop where
 wl:s.w.length=100
 w:∀ n,0<=o4 s.w n/\o4 s.w n<=1100+60*(8*b+k)
 now:0<=s.now/\s.now<=1100+60*(8*b+k)
 off : -720<=s.off/\s.off<=720
 el:s.ar.length<=k
 tl:s.times.length=s.ar.length
 ml:s.mine.length<=k+1
theorem PE{w:List Int}{n:Int}(h0:0<=n)(h:n.toNat<w.length):(cM w)[0+n.toNat]?=some [i64 (o4 w n)]:=by
 unfold cM o4;rw[Nat.zero_add,List.getElem?_map,List.getElem?_eq_getElem h];rfl
theorem uB(w:List Int)(n:Nat)(v:Int):(cM w).set (0+n) [i64 v]=cM (w.set n v):=by
 unfold cM;rw[Nat.zero_add,List.map_set]
theorem fF(w:List Int)(v:Int):cM w ++ [[i64 v]]=cM (w ++ [v]):=by
 unfold cM;rw[List.map_append];rfl
theorem kK(w:List Int):(cM w).length=w.length:=by unfold cM;rw[List.length_map]
theorem Sl(name:ByteArray)(off set:Span)(es:List aZ)(n:Int):decide (vu ⟨name,off,set,es⟩ n<0)=(cP es n 0).isNone:=by
 unfold vu
 cases cP es n 0 with
 | none=>rfl
 | some k=>simp
theorem Ui.mono{b k:Nat}{s:CF}(h:Ui b k s):Ui b (k+1) s:=
 ⟨h.wl,fun n=>by have:=h.w n;omega,by have:=h.now;omega,h.off,by have:=h.el;omega,h.tl,by have:=h.ml;omega⟩
def Cl(a:CF)(z:aZ)(F:Bool)(to M:Int):CF:=
 ⟨a.ar ++ [{ z with shown:=to+a.off }],a.times ++ [to],if z.kind=2 then a.mine ++ [M] else a.mine,if z.kind=2 then M else a.off,to,if F then a.w.set z.number.toNat to else a.w⟩
theorem kY{b k:Nat}{a:CF}{z:aZ}{F:Bool}{to M:Int}(h:Ui b k a)(hz:0<=z.number/\z.number<=99)(ht:0<=to/\to<=1100+60*(8*b+(k+1:Nat)))(hM : -720<=M/\M<=720):Ui b (k+1) (Cl a z F to M):=by
 have M8:=h.wl;have O8:=h.el;have Kb:=h.tl;have s8:=h.ml;unfold Cl;refine⟨?_,fun n=>?_,ht,?_,by simp;omega,by simp;omega,?_⟩
 ·simp only
  split
  ·rw[List.length_set];exact M8
  ·exact M8
 ·have:=h.w n
  simp only;split
  ·unfold o4 at this ⊢
   rw[List.getElem?_set];split
   ·split
    ·simp only[Option.getD_some];omega
    ·simp only[Option.getD_none];omega
   ·omega
  ·omega
 ·simp only
  split
  ·exact hM
  ·exact h.off
 ·simp only
  split
  ·simp;omega
  ·omega
theorem xx{x y:List Int}{b i:Nat}{set:Span}{z:aZ}{s:CF}{F:Bool}{to M:Int}(ho:sn y b i z s=false)(ht:Jm y b i z s=to)(hF:yY s z=F)(hM:z.kind=2->gb set (cy x (7*b+i+1))=M):sr x y b i set z s=Cl s z F to M:=by
 unfold sr Cl;rw[ho,ht,hF];simp only[Bool.false_eq_true,if_false];by_cases h:z.kind=2
 ·rw[hM h]
 ·simp only[if_neg h]
theorem Ug{h:Heap}{k n j:Nat}{nm:ByteArray}{a1 a2 a3 a4:Int}{es:List aZ}{x:D}(hg:get h j=some (.arr 4 (.dd (es.map aZ.cells))))(hn:n=es.length) :
  cS (fp h (k+1)) [.agg [.d (.str nm),.d (i64 a1),.d (i64 a2),.d (i64 a3),.d (i64 a4),.sl j 4 0 n],.d x]=some [.agg (⟨nm,⟨a1,a2⟩,⟨a3,a4⟩,es⟩:au).cells,x]:=by
 have e:dP (fp h (k+1)) (.sl j 4 0 n)=some (lF es):=fq hg rfl (by rw[hn,List.length_map]);refine aC ?_ (aC rfl rfl);rw[dP,aC rfl (aC rfl (aC rfl (aC rfl (aC rfl (aC e rfl)))))];rfl
set_option maxHeartbeats 4000000 in
theorem abN(l:aN)(hc:bC l=0)(x y:List Int)(hx:Uj x)(hy:Uj y):bq Tryz.prog 9 [l.d,db x,db y] (.tup [(RP l x y).d,.vs (gn (oN l x y).times),.vs (gn (oN l x y).lU)]):=by
 have hR:=fI hc;have hlen:=hR.an;unfold RP;obtain⟨S,hS⟩:∃ S,oN l x y=S:=⟨_,rfl⟩;rw[hS];unfold oN at hS;have qL:(List.replicate (Int.toNat 100) [D.int IntKind.i64 0])=cM (List.replicate 100 0):=by
  unfold cM;rw[List.map_replicate];rfl
 show bq Tryz.prog 9 [l.d,db x,db y] _;refine aY Tryz.func9 rfl (ft:=ft9) 3 fun {σ} Y st=>?_;conv=>whnf
 rw[qL];have Xm:(List.replicate 100 (0:Int)).length=100:=List.length_replicate;have Dc:∀ n,o4 (List.replicate 100 (0:Int)) n=0:=fun n=>by
  unfold o4;rw[List.getElem?_replicate];split<;>rfl
 generalize List.replicate 100 (0:Int)=w0 at Xm Dc hS;refine bB (T:=tys) av (by exact aj mixed av (by decide +kernel)) l.an (fun i (s:Io)=>⟨[(1,.d (db x)),(2,.d (db y)),(3,.ptr 3 0),(6,.ptr 6 0),(9,.ptr 9 0),(10,.sl 168 1 0 s.times.length),(11,.sl 172 1 0 s.lU.length),(12,.sl 28 1 0 100),(13,.d (i64 i))],[(3,.box (.dd l.cells)),(6,.box (.dd [i64 0,.nils])),(9,.box (.vv [.d (i64 l.near),.sl 164 6 0 s.an.length])),(28,.arr 1 (.dd (cM s.w))),(164,.arr 6 (.dd (s.an.map au.cells))),(168,.arr 1 (.dd (gn s.times))),(172,.arr 1 (.dd (gn s.lU)))],st⟩)
  (fun i r s=>Of x y i r s=S/\s.an.length=i/\s.times.length=i/\s.lU.length=i/\s.w.length=100 /\ ∀ n,0<=o4 s.w n/\o4 s.w n<=1100+60*(8*i)) ⟨[],[],[],w0⟩
  ((Wk.born 10 168 1 rfl rfl rfl).trans ((Wk.born 11 172 1 rfl rfl rfl).trans ((Wk.tT 9 164 6 [i64 l.near] [] rfl rfl rfl rfl rfl).trans aw))) ⟨hS,rfl,rfl,rfl,Xm,fun n=>by rw[Dc];omega⟩ ?_ ?_
 ·rintro i b r s hbx hi hr ⟨xW,xV,Kb,MY,M8,hwb⟩
  have hbR:=hR.book b (List.mem_of_getElem? hbx);have O8:=hbR.ar;have qJ:=hbR.off;have jP:=hbR.set;have ns:=(kn hc (List.mem_of_getElem? hbx)).2.2.2;have Xf:=fun n=>Jo hx n;have Rn:=fun n=>Jo hy n;rw[Of]at xW;conv=>whnf
  refine ag (fun _=>?_) (fun h=>absurd hi (by have:=of_decide_eq_false h;simp at this;omega));conv=>whnf
  refine aG hbx ?_;conv=>whnf
  obtain⟨O0,hO0⟩:∃ v,gb b.off (cy x (7*i))=v:=⟨_,rfl⟩;have hO1:=jn qJ.2.1 (cy x (7*i));rw[hO0]at hO1;have UT:bq Tryz.prog 58 [db x,i64 (7*i:Nat)] (i64 (cy x (7*i))):=Aa x hx (7*i);have c53:bq Tryz.prog 57 [b.off.d,i64 (cy x (7*i))] (i64 O0):=by
   rw[<- hO0];exact NO b.off (cy x (7*i)) qJ.2.1 (by omega) (by omega) (Xf _)
  generalize cy x (7*i)=T0 at UT c53;have D3:i<3:=by omega
  refine ao ((7*i:Nat):Int) (by omega) (wrap_i64 (by omega)) ?_;conv=>whnf
  refine ax (ds:=[db x,i64 (7*i:Nat)]) UT rfl rfl ?_;conv=>whnf
  refine ax (ds:=[b.off.d,i64 T0]) c53 rfl rfl ?_;conv=>whnf
  obtain⟨N0,GU⟩:∃ v,1000+cy y (5*i)%100=v:=⟨_,rfl⟩;have c1:bq Tryz.prog 58 [db y,i64 (5*i:Nat)] (i64 (cy y (5*i))):=Aa y hy (5*i);have kC:wo x y i b s.w=⟨[],[],[O0],O0,N0,s.w⟩:=by unfold wo;rw[hO0,GU]
  have Xg:=Rn (5*i);generalize cy y (5*i)=T1 at c1 GU Xg;unfold Zc at xW;rw[kC]at xW;refine ao ((5*i:Nat):Int) (by omega) (wrap_i64 (by omega)) ?_;conv=>whnf
  refine af (ds:=[db y,i64 (5*i:Nat)]) c1 rfl rfl ?_;conv=>whnf
  refine ao N0 (by rw[Int.tmod_eq_emod_of_nonneg Xg.1];exact GU) (wrap_i64 (by omega)) ?_;conv=>whnf
  obtain⟨E,hE⟩:∃ E,Ax x y i b.set 0 b.ar ⟨[],[],[O0],O0,N0,s.w⟩=E:=⟨_,rfl⟩;rw[hE]at xW;refine bB (T:=tys) av (by exact aj mixed av (by decide +kernel)) b.ar (fun k (a:CF)=>⟨[(1,.d (db x)),(2,.d (db y)),(3,.ptr 3 0),(6,.ptr 6 0),(9,.ptr 9 0),(10,.sl 168 1 0 s.times.length),(11,.sl 172 1 0 s.lU.length),(12,.sl 28 1 0 100),(13,.d (i64 i)),(14,.ptr 14 0),(15,.ptr 15 0),(16,.d (i64 a.off)),(17,.sl 159 1 0 a.mine.length),(18,.sl 141 1 0 a.times.length),(19,.d (i64 a.now)),(20,.d (i64 k))],
    [(3,.box (.dd l.cells)),(6,.box (.dd [i64 0,.nils])),(9,.box (.vv [.d (i64 l.near),.sl 164 6 0 s.an.length])),(14,.box (.dd b.cells)),(15,.box (.vv [.d (.str b.name),.d (i64 b.off.lo),.d (i64 b.off.hi),.d (i64 b.set.lo),.d (i64 b.set.hi),.sl 137 4 0 a.ar.length])),(28,.arr 1 (.dd (cM a.w))),(137,.arr 4 (.dd (a.ar.map aZ.cells))),(141,.arr 1 (.dd (cM a.times))),(159,.arr 1 (.dd (cM a.mine))),(164,.arr 6 (.dd (s.an.map au.cells))),(168,.arr 1 (.dd (gn s.times))),(172,.arr 1 (.dd (gn s.lU)))],st⟩)
   (fun k r a=>Ax x y i b.set k r a=E/\Ui i k a) ⟨[],[],[O0],O0,N0,s.w⟩
   ((Wk.move 56 159 rfl rfl).trans ((Wk.born 18 141 1 rfl rfl rfl).trans ((Wk.tT 15 137 4 [.str b.name,i64 b.off.lo,i64 b.off.hi,i64 b.set.lo,i64 b.set.hi] [] rfl rfl rfl rfl rfl).trans aw))) ⟨hE,⟨M8,fun n=>by have:=hwb n;simp only;omega,by simp only;omega,by simp only;omega,Nat.le_refl _,rfl,Nat.le_refl _⟩⟩ ?_ ?_
  ·rintro k z r2 a hz hk D7 ⟨e7,hN⟩
   rw[Ax]at e7;have hzR:=ns z (List.mem_of_getElem? hz);have nwl:=hN.wl;have nw:=hN.w;have acn:=hN.now;have aco:=hN.off;have nel:=hN.el;have ntl:=hN.tl;have nml:=hN.ml;have qH:=hzR.number;have hkl:k<8:=by omega
   have Xh:=Rn (5*i+k+1);have c2:bq Tryz.prog 58 [db y,i64 (5*i+k+1:Nat)] (i64 (cy y (5*i+k+1))):=Aa y hy (5*i+k+1);have OC:Jm y i k z a=if yY a z&&decide (0<o4 a.w z.number) then o4 a.w z.number else a.now+cy y (5*i+k+1)%60:=rfl
   have Ww:yY a z=(decide (z.kind=3)&&(cP a.ar z.number 0).isNone):=rfl;have UU:bq Tryz.prog 60 [.agg (⟨b.name,b.off,b.set,a.ar⟩:au).cells,i64 z.number] (i64 (vu ⟨b.name,b.off,b.set,a.ar⟩ z.number)):=abO _ _ (by simp only;omega);have hfx:=Sl b.name b.off b.set a.ar z.number;generalize cy y (5*i+k+1)=T2 at Xh c2 OC;generalize vu ⟨b.name,b.off,b.set,a.ar⟩ z.number=FX at UU hfx;have UA:=nw z.number;have pV:(cM a.w)[0+z.number.toNat]?=some [i64 (o4 a.w z.number)]:=PE qH.1 (by omega);conv=>whnf
   refine ag (fun _=>?_) (fun h=>absurd hk (by have:=of_decide_eq_false h;simp at this;omega));conv=>whnf
   refine aG hz ?_;conv=>whnf
   refine ao ((5*i:Nat):Int) (by omega) (wrap_i64 (by omega)) ?_;conv=>whnf
   refine ao ((5*i+k:Nat):Int) (by omega) (wrap_i64 (by omega)) ?_;conv=>whnf
   refine ao ((5*i+k+1:Nat):Int) (by omega) (wrap_i64 (by omega)) ?_;conv=>whnf
   refine af (ds:=[db y,i64 (5*i+k+1:Nat)]) c2 rfl rfl ?_;conv=>whnf
   refine af (ds:=[]) XT rfl rfl ?_;conv=>whnf
   refine ao (a.now+T2%60) (by rw[Int.tmod_eq_emod_of_nonneg Xh.1]) (wrap_i64 (by omega)) ?_;conv=>whnf
   refine ag (fun h3=>?_) (fun h3=>?_)
   ·have h3:z.kind=3:=of_decide_eq_true h3
    conv=>whnf
    refine aA (ds:=[.agg (⟨b.name,b.off,b.set,a.ar⟩:au).cells,i64 z.number]) UU rfl 1 (Ug rfl rfl) ?_;conv=>whnf
    rw[hfx]
    cases hI:(cP a.ar z.number 0).isNone with
    | false=>
     have hF:yY a z=false:=by rw[Ww,hI,Bool.and_false]
     have px:Jm y i k z a=a.now+T2%60:=by rw[OC,hF];rfl
     have tc:0<=a.now+T2%60/\a.now+T2%60<=1100+60*(8*i+(k+1:Nat)):=by omega
     generalize a.now+T2%60=to at px tc ⊢;obtain⟨F,JT⟩:∃ F,F=false:=⟨_,rfl⟩;rw[<- JT]at hF;conv=>whnf
     refine ao (to+a.off) rfl (wrap_i64 (by omega)) ?_;conv=>whnf
     have fQ:sn y i k z a=(decide (to<a.now)||(decide (to+a.off<0)||decide (20000<to+a.off))):=by unfold sn;rw[px]
     refine ag (fun o1=>?_) (fun o1=>?_)
     ·have e:sr x y i k b.set z a=a:=by unfold sr;rw[fQ,decide_eq_true (of_decide_eq_true o1),Bool.true_or];rfl
      rw[e]at e7;conv=>whnf
      refine ae ?_;conv=>whnf
      exact⟨a,⟨e7,hN.mono⟩,aw⟩
     ·conv=>whnf
      refine ag (fun o2=>?_) (fun o2=>?_)
      ·have e:sr x y i k b.set z a=a:=by unfold sr;rw[fQ,decide_eq_true (of_decide_eq_true o2),Bool.true_or,Bool.or_true];rfl
       rw[e]at e7;conv=>whnf
       refine ae ?_;conv=>whnf
       exact⟨a,⟨e7,hN.mono⟩,aw⟩
      ·conv=>whnf
       refine ag (fun o3=>?_) (fun o3=>?_)
       ·have e:sr x y i k b.set z a=a:=by unfold sr;rw[fQ,decide_eq_true (show 20000<to+a.off from of_decide_eq_true o3),Bool.or_true,Bool.or_true];rfl
        rw[e]at e7;conv=>whnf
        refine ae ?_;conv=>whnf
        exact⟨a,⟨e7,hN.mono⟩,aw⟩
       ·have gN:sn y i k z a=false:=by rw[fQ,decide_eq_false (of_decide_eq_false o1),decide_eq_false (of_decide_eq_false o2),decide_eq_false (show ¬ 20000<to+a.off from of_decide_eq_false o3)];rfl
        conv=>whnf
        refine ak rfl ?_;conv=>whnf
        refine ak (by simp[bx.len]) ?_;conv=>whnf
        refine aM (decide_eq_true (by
         show((a.ar.map aZ.cells).length+1)*40<=140737488355328;rw[List.length_map];omega)) ?_
        conv=>whnf
        refine ak rfl ?_;conv=>whnf
        refine ak (by simp[bx.len,cM]) ?_;conv=>whnf
        refine aM (decide_eq_true (by
         show((cM a.times).length+1)*8<=140737488355328;rw[kK];omega)) ?_
        conv=>whnf
        refine ag (fun k2=>?_) (fun k2=>?_)
        ·have k2:z.kind=2:=of_decide_eq_true k2
         have c3:bq Tryz.prog 58 [db x,i64 (7*i+k+1:Nat)] (i64 (cy x (7*i+k+1))):=Aa x hx (7*i+k+1);have c4:bq Tryz.prog 57 [b.set.d,i64 (cy x (7*i+k+1))] (i64 (gb b.set (cy x (7*i+k+1)))):=NO b.set (cy x (7*i+k+1)) jP.2.1 (by omega) (by omega) (Xf _);have hM:=jn jP.2.1 (cy x (7*i+k+1));have e:=xx (x:=x) (set:=b.set) gN px hF fun _=>rfl;generalize gb b.set (cy x (7*i+k+1))=M at hM c4 e;generalize cy x (7*i+k+1)=T3 at c3 c4;rw[e]at e7;conv=>whnf
         refine ao ((7*i:Nat):Int) (by omega) (wrap_i64 (by omega)) ?_;conv=>whnf
         refine ao ((7*i+k:Nat):Int) (by omega) (wrap_i64 (by omega)) ?_;conv=>whnf
         refine ao ((7*i+k+1:Nat):Int) (by omega) (wrap_i64 (by omega)) ?_;conv=>whnf
         refine ax (ds:=[db x,i64 (7*i+k+1:Nat)]) c3 rfl rfl ?_;conv=>whnf
         refine ax (ds:=[b.set.d,i64 T3]) c4 rfl rfl ?_;conv=>whnf
         refine ak rfl ?_;conv=>whnf
         refine ak (by simp[bx.len,cM]) ?_;conv=>whnf
         refine aM (decide_eq_true (by
          show((cM a.mine).length+1)*8<=140737488355328;rw[kK];omega)) ?_
         conv=>whnf
         refine ae ?_;conv=>whnf
         have e2:Cl a z F to M=⟨a.ar ++ [{ z with shown:=to+a.off }],a.times ++ [to],a.mine ++ [M],M,to,if F then a.w.set z.number.toNat to else a.w⟩:=by unfold Cl;rw[if_pos k2,if_pos k2]
         have y8:=kY (F:=F) hN qH tc (M:=M) (by omega);rw[e2]at e7 y8;refine⟨_,⟨e7,y8⟩,Wk.sub ⟨rfl,rfl,rfl,rfl,rfl,rfl,rfl,rfl,rfl,rfl,rfl,rfl,?_,?_,rfl,rfl,trivial⟩ ⟨rfl,rfl,rfl,rfl,?_,?_,?_,?_,?_,rfl,rfl,rfl,trivial⟩⟩
         ·show some (V.sl 159 1 0 ((cM a.mine).length+1))=_
          simp[cM]
         ·show some (V.sl 141 1 0 ((cM a.times).length+1))=_
          simp[cM]
         ·show some (Obj.box (.vv [.d (.str b.name),.d (i64 b.off.lo),.d (i64 b.off.hi),.d (i64 b.set.lo),.d (i64 b.set.hi),.sl 137 4 0 ((a.ar.map aZ.cells).length+1)]))=_
          simp
         ·rw[JT];rfl
         ·show some (Obj.arr 4 (.dd (a.ar.map aZ.cells ++ [({ z with shown:=to+a.off }:aZ).cells])))=_
          simp
         ·show some (Obj.arr 1 (.dd (cM a.times ++ [[i64 to]])))=_
          rw[fF]
         ·show some (Obj.arr 1 (.dd (cM a.mine ++ [[i64 M]])))=_
          rw[fF]
        ·have k2:¬ z.kind=2:=of_decide_eq_false k2
         have e:=xx (x:=x) (set:=b.set) (M:=0) gN px hF fun h=>absurd h k2;have e2:Cl a z F to 0=⟨a.ar ++ [{ z with shown:=to+a.off }],a.times ++ [to],a.mine,a.off,to,if F then a.w.set z.number.toNat to else a.w⟩:=by unfold Cl;rw[if_neg k2,if_neg k2]
         have y8:=kY (F:=F) hN qH tc (M:=0) (by omega);rw[e,e2]at e7;rw[e2]at y8;conv=>whnf
         refine ae ?_;conv=>whnf
         refine⟨_,⟨e7,y8⟩,Wk.sub ⟨rfl,rfl,rfl,rfl,rfl,rfl,rfl,rfl,rfl,rfl,rfl,rfl,rfl,?_,rfl,rfl,trivial⟩ ⟨rfl,rfl,rfl,rfl,?_,?_,?_,?_,rfl,rfl,rfl,rfl,trivial⟩⟩
         ·show some (V.sl 141 1 0 ((cM a.times).length+1))=_
          simp[cM]
         ·show some (Obj.box (.vv [.d (.str b.name),.d (i64 b.off.lo),.d (i64 b.off.hi),.d (i64 b.set.lo),.d (i64 b.set.hi),.sl 137 4 0 ((a.ar.map aZ.cells).length+1)]))=_
          simp
         ·rw[JT];rfl
         ·show some (Obj.arr 4 (.dd (a.ar.map aZ.cells ++ [({ z with shown:=to+a.off }:aZ).cells])))=_
          simp
         ·show some (Obj.arr 1 (.dd (cM a.times ++ [[i64 to]])))=_
          rw[fF]
    | true=>
     have hF:yY a z=true:=by rw[Ww,hI,decide_eq_true h3];rfl
     rw[hF,Bool.true_and]at OC;obtain⟨F,JT⟩:∃ F,F=true:=⟨_,rfl⟩;rw[<- JT]at hF;conv=>whnf
     refine ag (fun _=>?_) (fun h=>absurd h (by simp;omega));conv=>whnf
     refine cJ [i64 (o4 a.w z.number)] pV ?_;conv=>whnf
     refine ag (fun h4=>?_) (fun h4=>?_)
     ·rw[h4,if_pos rfl]at OC
      have h4:0<o4 a.w z.number:=of_decide_eq_true h4;conv=>whnf
      refine ag (fun _=>?_) (fun h=>absurd h (by simp;omega));conv=>whnf
      refine cJ [i64 (o4 a.w z.number)] pV ?_;have tc:0<=o4 a.w z.number/\o4 a.w z.number<=1100+60*(8*i+(k+1:Nat)):=by omega
      have px:=OC;generalize o4 a.w z.number=to at px tc ⊢;conv=>whnf
      refine ao (to+a.off) rfl (wrap_i64 (by omega)) ?_;conv=>whnf
      have fQ:sn y i k z a=(decide (to<a.now)||(decide (to+a.off<0)||decide (20000<to+a.off))):=by unfold sn;rw[px]
      refine ag (fun o1=>?_) (fun o1=>?_)
      ·have e:sr x y i k b.set z a=a:=by unfold sr;rw[fQ,decide_eq_true (of_decide_eq_true o1),Bool.true_or];rfl
       rw[e]at e7;conv=>whnf
       refine ae ?_;conv=>whnf
       exact⟨a,⟨e7,hN.mono⟩,aw⟩
      ·conv=>whnf
       refine ag (fun o2=>?_) (fun o2=>?_)
       ·have e:sr x y i k b.set z a=a:=by unfold sr;rw[fQ,decide_eq_true (of_decide_eq_true o2),Bool.true_or,Bool.or_true];rfl
        rw[e]at e7;conv=>whnf
        refine ae ?_;conv=>whnf
        exact⟨a,⟨e7,hN.mono⟩,aw⟩
       ·conv=>whnf
        refine ag (fun o3=>?_) (fun o3=>?_)
        ·have e:sr x y i k b.set z a=a:=by unfold sr;rw[fQ,decide_eq_true (show 20000<to+a.off from of_decide_eq_true o3),Bool.or_true,Bool.or_true];rfl
         rw[e]at e7;conv=>whnf
         refine ae ?_;conv=>whnf
         exact⟨a,⟨e7,hN.mono⟩,aw⟩
        ·have gN:sn y i k z a=false:=by rw[fQ,decide_eq_false (of_decide_eq_false o1),decide_eq_false (of_decide_eq_false o2),decide_eq_false (show ¬ 20000<to+a.off from of_decide_eq_false o3)];rfl
         conv=>whnf
         refine ag (fun _=>?_) (fun h=>absurd h (by simp;omega));conv=>whnf
         refine cJ [i64 (o4 a.w z.number)] pV ?_;conv=>whnf
         refine ak rfl ?_;conv=>whnf
         refine ak (by simp[bx.len]) ?_;conv=>whnf
         refine aM (decide_eq_true (by
          show((a.ar.map aZ.cells).length+1)*40<=140737488355328;rw[List.length_map];omega)) ?_
         conv=>whnf
         refine ak rfl ?_;conv=>whnf
         refine ak (by simp[bx.len,cM]) ?_;conv=>whnf
         refine aM (decide_eq_true (by
          show((cM a.times).length+1)*8<=140737488355328;rw[kK];omega)) ?_
         conv=>whnf
         refine ag (fun k2=>?_) (fun k2=>?_)
         ·have k2:z.kind=2:=of_decide_eq_true k2
          have c3:bq Tryz.prog 58 [db x,i64 (7*i+k+1:Nat)] (i64 (cy x (7*i+k+1))):=Aa x hx (7*i+k+1);have c4:bq Tryz.prog 57 [b.set.d,i64 (cy x (7*i+k+1))] (i64 (gb b.set (cy x (7*i+k+1)))):=NO b.set (cy x (7*i+k+1)) jP.2.1 (by omega) (by omega) (Xf _);have hM:=jn jP.2.1 (cy x (7*i+k+1));have e:=xx (x:=x) (set:=b.set) gN px hF fun _=>rfl;generalize gb b.set (cy x (7*i+k+1))=M at hM c4 e;generalize cy x (7*i+k+1)=T3 at c3 c4;rw[e]at e7;conv=>whnf
          refine ao ((7*i:Nat):Int) (by omega) (wrap_i64 (by omega)) ?_;conv=>whnf
          refine ao ((7*i+k:Nat):Int) (by omega) (wrap_i64 (by omega)) ?_;conv=>whnf
          refine ao ((7*i+k+1:Nat):Int) (by omega) (wrap_i64 (by omega)) ?_;conv=>whnf
          refine ax (ds:=[db x,i64 (7*i+k+1:Nat)]) c3 rfl rfl ?_;conv=>whnf
          refine ax (ds:=[b.set.d,i64 T3]) c4 rfl rfl ?_;conv=>whnf
          refine ak rfl ?_;conv=>whnf
          refine ak (by simp[bx.len,cM]) ?_;conv=>whnf
          refine aM (decide_eq_true (by
           show((cM a.mine).length+1)*8<=140737488355328;rw[kK];omega)) ?_
          conv=>whnf
          refine ae ?_;conv=>whnf
          have e2:Cl a z F to M=⟨a.ar ++ [{ z with shown:=to+a.off }],a.times ++ [to],a.mine ++ [M],M,to,if F then a.w.set z.number.toNat to else a.w⟩:=by unfold Cl;rw[if_pos k2,if_pos k2]
          have y8:=kY (F:=F) hN qH tc (M:=M) (by omega);rw[e2]at e7 y8;refine⟨_,⟨e7,y8⟩,Wk.sub ⟨rfl,rfl,rfl,rfl,rfl,rfl,rfl,rfl,rfl,rfl,rfl,rfl,?_,?_,rfl,rfl,trivial⟩ ⟨rfl,rfl,rfl,rfl,?_,?_,?_,?_,?_,rfl,rfl,rfl,trivial⟩⟩
          ·show some (V.sl 159 1 0 ((cM a.mine).length+1))=_
           simp[cM]
          ·show some (V.sl 141 1 0 ((cM a.times).length+1))=_
           simp[cM]
          ·show some (Obj.box (.vv [.d (.str b.name),.d (i64 b.off.lo),.d (i64 b.off.hi),.d (i64 b.set.lo),.d (i64 b.set.hi),.sl 137 4 0 ((a.ar.map aZ.cells).length+1)]))=_
           simp
          ·show some (Obj.arr 1 (.dd ((cM a.w).set (0+z.number.toNat) [i64 to])))=_
           rw[JT,uB];rfl
          ·show some (Obj.arr 4 (.dd (a.ar.map aZ.cells ++ [({ z with shown:=to+a.off }:aZ).cells])))=_
           simp
          ·show some (Obj.arr 1 (.dd (cM a.times ++ [[i64 to]])))=_
           rw[fF]
          ·show some (Obj.arr 1 (.dd (cM a.mine ++ [[i64 M]])))=_
           rw[fF]
         ·have k2:¬ z.kind=2:=of_decide_eq_false k2
          have e:=xx (x:=x) (set:=b.set) (M:=0) gN px hF fun h=>absurd h k2;have e2:Cl a z F to 0=⟨a.ar ++ [{ z with shown:=to+a.off }],a.times ++ [to],a.mine,a.off,to,if F then a.w.set z.number.toNat to else a.w⟩:=by unfold Cl;rw[if_neg k2,if_neg k2]
          have y8:=kY (F:=F) hN qH tc (M:=0) (by omega);rw[e,e2]at e7;rw[e2]at y8;conv=>whnf
          refine ae ?_;conv=>whnf
          refine⟨_,⟨e7,y8⟩,Wk.sub ⟨rfl,rfl,rfl,rfl,rfl,rfl,rfl,rfl,rfl,rfl,rfl,rfl,rfl,?_,rfl,rfl,trivial⟩ ⟨rfl,rfl,rfl,rfl,?_,?_,?_,?_,rfl,rfl,rfl,rfl,trivial⟩⟩
          ·show some (V.sl 141 1 0 ((cM a.times).length+1))=_
           simp[cM]
          ·show some (Obj.box (.vv [.d (.str b.name),.d (i64 b.off.lo),.d (i64 b.off.hi),.d (i64 b.set.lo),.d (i64 b.set.hi),.sl 137 4 0 ((a.ar.map aZ.cells).length+1)]))=_
           simp
          ·show some (Obj.arr 1 (.dd ((cM a.w).set (0+z.number.toNat) [i64 to])))=_
           rw[JT,uB];rfl
          ·show some (Obj.arr 4 (.dd (a.ar.map aZ.cells ++ [({ z with shown:=to+a.off }:aZ).cells])))=_
           simp
          ·show some (Obj.arr 1 (.dd (cM a.times ++ [[i64 to]])))=_
           rw[fF]
     ·have h5:decide (0<o4 a.w z.number)=false:=by simpa using h4
      rw[h5]at OC;have px:Jm y i k z a=a.now+T2%60:=OC;have tc:0<=a.now+T2%60/\a.now+T2%60<=1100+60*(8*i+(k+1:Nat)):=by omega
      generalize a.now+T2%60=to at px tc ⊢;conv=>whnf
      refine ao (to+a.off) rfl (wrap_i64 (by omega)) ?_;conv=>whnf
      have fQ:sn y i k z a=(decide (to<a.now)||(decide (to+a.off<0)||decide (20000<to+a.off))):=by unfold sn;rw[px]
      refine ag (fun o1=>?_) (fun o1=>?_)
      ·have e:sr x y i k b.set z a=a:=by unfold sr;rw[fQ,decide_eq_true (of_decide_eq_true o1),Bool.true_or];rfl
       rw[e]at e7;conv=>whnf
       refine ae ?_;conv=>whnf
       exact⟨a,⟨e7,hN.mono⟩,aw⟩
      ·conv=>whnf
       refine ag (fun o2=>?_) (fun o2=>?_)
       ·have e:sr x y i k b.set z a=a:=by unfold sr;rw[fQ,decide_eq_true (of_decide_eq_true o2),Bool.true_or,Bool.or_true];rfl
        rw[e]at e7;conv=>whnf
        refine ae ?_;conv=>whnf
        exact⟨a,⟨e7,hN.mono⟩,aw⟩
       ·conv=>whnf
        refine ag (fun o3=>?_) (fun o3=>?_)
        ·have e:sr x y i k b.set z a=a:=by unfold sr;rw[fQ,decide_eq_true (show 20000<to+a.off from of_decide_eq_true o3),Bool.or_true,Bool.or_true];rfl
         rw[e]at e7;conv=>whnf
         refine ae ?_;conv=>whnf
         exact⟨a,⟨e7,hN.mono⟩,aw⟩
        ·have gN:sn y i k z a=false:=by rw[fQ,decide_eq_false (of_decide_eq_false o1),decide_eq_false (of_decide_eq_false o2),decide_eq_false (show ¬ 20000<to+a.off from of_decide_eq_false o3)];rfl
         conv=>whnf
         refine ag (fun _=>?_) (fun h=>absurd h (by simp;omega));conv=>whnf
         refine cJ [i64 (o4 a.w z.number)] pV ?_;conv=>whnf
         refine ak rfl ?_;conv=>whnf
         refine ak (by simp[bx.len]) ?_;conv=>whnf
         refine aM (decide_eq_true (by
          show((a.ar.map aZ.cells).length+1)*40<=140737488355328;rw[List.length_map];omega)) ?_
         conv=>whnf
         refine ak rfl ?_;conv=>whnf
         refine ak (by simp[bx.len,cM]) ?_;conv=>whnf
         refine aM (decide_eq_true (by
          show((cM a.times).length+1)*8<=140737488355328;rw[kK];omega)) ?_
         conv=>whnf
         refine ag (fun k2=>?_) (fun k2=>?_)
         ·have k2:z.kind=2:=of_decide_eq_true k2
          have c3:bq Tryz.prog 58 [db x,i64 (7*i+k+1:Nat)] (i64 (cy x (7*i+k+1))):=Aa x hx (7*i+k+1);have c4:bq Tryz.prog 57 [b.set.d,i64 (cy x (7*i+k+1))] (i64 (gb b.set (cy x (7*i+k+1)))):=NO b.set (cy x (7*i+k+1)) jP.2.1 (by omega) (by omega) (Xf _);have hM:=jn jP.2.1 (cy x (7*i+k+1));have e:=xx (x:=x) (set:=b.set) gN px hF fun _=>rfl;generalize gb b.set (cy x (7*i+k+1))=M at hM c4 e;generalize cy x (7*i+k+1)=T3 at c3 c4;rw[e]at e7;conv=>whnf
          refine ao ((7*i:Nat):Int) (by omega) (wrap_i64 (by omega)) ?_;conv=>whnf
          refine ao ((7*i+k:Nat):Int) (by omega) (wrap_i64 (by omega)) ?_;conv=>whnf
          refine ao ((7*i+k+1:Nat):Int) (by omega) (wrap_i64 (by omega)) ?_;conv=>whnf
          refine ax (ds:=[db x,i64 (7*i+k+1:Nat)]) c3 rfl rfl ?_;conv=>whnf
          refine ax (ds:=[b.set.d,i64 T3]) c4 rfl rfl ?_;conv=>whnf
          refine ak rfl ?_;conv=>whnf
          refine ak (by simp[bx.len,cM]) ?_;conv=>whnf
          refine aM (decide_eq_true (by
           show((cM a.mine).length+1)*8<=140737488355328;rw[kK];omega)) ?_
          conv=>whnf
          refine ae ?_;conv=>whnf
          have e2:Cl a z F to M=⟨a.ar ++ [{ z with shown:=to+a.off }],a.times ++ [to],a.mine ++ [M],M,to,if F then a.w.set z.number.toNat to else a.w⟩:=by unfold Cl;rw[if_pos k2,if_pos k2]
          have y8:=kY (F:=F) hN qH tc (M:=M) (by omega);rw[e2]at e7 y8;refine⟨_,⟨e7,y8⟩,Wk.sub ⟨rfl,rfl,rfl,rfl,rfl,rfl,rfl,rfl,rfl,rfl,rfl,rfl,?_,?_,rfl,rfl,trivial⟩ ⟨rfl,rfl,rfl,rfl,?_,?_,?_,?_,?_,rfl,rfl,rfl,trivial⟩⟩
          ·show some (V.sl 159 1 0 ((cM a.mine).length+1))=_
           simp[cM]
          ·show some (V.sl 141 1 0 ((cM a.times).length+1))=_
           simp[cM]
          ·show some (Obj.box (.vv [.d (.str b.name),.d (i64 b.off.lo),.d (i64 b.off.hi),.d (i64 b.set.lo),.d (i64 b.set.hi),.sl 137 4 0 ((a.ar.map aZ.cells).length+1)]))=_
           simp
          ·show some (Obj.arr 1 (.dd ((cM a.w).set (0+z.number.toNat) [i64 to])))=_
           rw[JT,uB];rfl
          ·show some (Obj.arr 4 (.dd (a.ar.map aZ.cells ++ [({ z with shown:=to+a.off }:aZ).cells])))=_
           simp
          ·show some (Obj.arr 1 (.dd (cM a.times ++ [[i64 to]])))=_
           rw[fF]
          ·show some (Obj.arr 1 (.dd (cM a.mine ++ [[i64 M]])))=_
           rw[fF]
         ·have k2:¬ z.kind=2:=of_decide_eq_false k2
          have e:=xx (x:=x) (set:=b.set) (M:=0) gN px hF fun h=>absurd h k2;have e2:Cl a z F to 0=⟨a.ar ++ [{ z with shown:=to+a.off }],a.times ++ [to],a.mine,a.off,to,if F then a.w.set z.number.toNat to else a.w⟩:=by unfold Cl;rw[if_neg k2,if_neg k2]
          have y8:=kY (F:=F) hN qH tc (M:=0) (by omega);rw[e,e2]at e7;rw[e2]at y8;conv=>whnf
          refine ae ?_;conv=>whnf
          refine⟨_,⟨e7,y8⟩,Wk.sub ⟨rfl,rfl,rfl,rfl,rfl,rfl,rfl,rfl,rfl,rfl,rfl,rfl,rfl,?_,rfl,rfl,trivial⟩ ⟨rfl,rfl,rfl,rfl,?_,?_,?_,?_,rfl,rfl,rfl,rfl,trivial⟩⟩
          ·show some (V.sl 141 1 0 ((cM a.times).length+1))=_
           simp[cM]
          ·show some (Obj.box (.vv [.d (.str b.name),.d (i64 b.off.lo),.d (i64 b.off.hi),.d (i64 b.set.lo),.d (i64 b.set.hi),.sl 137 4 0 ((a.ar.map aZ.cells).length+1)]))=_
           simp
          ·show some (Obj.arr 1 (.dd ((cM a.w).set (0+z.number.toNat) [i64 to])))=_
           rw[JT,uB];rfl
          ·show some (Obj.arr 4 (.dd (a.ar.map aZ.cells ++ [({ z with shown:=to+a.off }:aZ).cells])))=_
           simp
          ·show some (Obj.arr 1 (.dd (cM a.times ++ [[i64 to]])))=_
           rw[fF]
   ·have h3:¬ z.kind=3:=of_decide_eq_false h3
    conv=>whnf
    have hF:yY a z=false:=by rw[Ww,decide_eq_false h3];rfl
    have px:Jm y i k z a=a.now+T2%60:=by rw[OC,hF];rfl
    have tc:0<=a.now+T2%60/\a.now+T2%60<=1100+60*(8*i+(k+1:Nat)):=by omega
    generalize a.now+T2%60=to at px tc ⊢;obtain⟨F,JT⟩:∃ F,F=false:=⟨_,rfl⟩;rw[<- JT]at hF;refine ao (to+a.off) rfl (wrap_i64 (by omega)) ?_;conv=>whnf
    have fQ:sn y i k z a=(decide (to<a.now)||(decide (to+a.off<0)||decide (20000<to+a.off))):=by unfold sn;rw[px]
    refine ag (fun o1=>?_) (fun o1=>?_)
    ·have e:sr x y i k b.set z a=a:=by unfold sr;rw[fQ,decide_eq_true (of_decide_eq_true o1),Bool.true_or];rfl
     rw[e]at e7;conv=>whnf
     refine ae ?_;conv=>whnf
     exact⟨a,⟨e7,hN.mono⟩,aw⟩
    ·conv=>whnf
     refine ag (fun o2=>?_) (fun o2=>?_)
     ·have e:sr x y i k b.set z a=a:=by unfold sr;rw[fQ,decide_eq_true (of_decide_eq_true o2),Bool.true_or,Bool.or_true];rfl
      rw[e]at e7;conv=>whnf
      refine ae ?_;conv=>whnf
      exact⟨a,⟨e7,hN.mono⟩,aw⟩
     ·conv=>whnf
      refine ag (fun o3=>?_) (fun o3=>?_)
      ·have e:sr x y i k b.set z a=a:=by unfold sr;rw[fQ,decide_eq_true (show 20000<to+a.off from of_decide_eq_true o3),Bool.or_true,Bool.or_true];rfl
       rw[e]at e7;conv=>whnf
       refine ae ?_;conv=>whnf
       exact⟨a,⟨e7,hN.mono⟩,aw⟩
      ·have gN:sn y i k z a=false:=by rw[fQ,decide_eq_false (of_decide_eq_false o1),decide_eq_false (of_decide_eq_false o2),decide_eq_false (show ¬ 20000<to+a.off from of_decide_eq_false o3)];rfl
       conv=>whnf
       refine ak rfl ?_;conv=>whnf
       refine ak (by simp[bx.len]) ?_;conv=>whnf
       refine aM (decide_eq_true (by
        show((a.ar.map aZ.cells).length+1)*40<=140737488355328;rw[List.length_map];omega)) ?_
       conv=>whnf
       refine ak rfl ?_;conv=>whnf
       refine ak (by simp[bx.len,cM]) ?_;conv=>whnf
       refine aM (decide_eq_true (by
        show((cM a.times).length+1)*8<=140737488355328;rw[kK];omega)) ?_
       conv=>whnf
       refine ag (fun k2=>?_) (fun k2=>?_)
       ·have k2:z.kind=2:=of_decide_eq_true k2
        have c3:bq Tryz.prog 58 [db x,i64 (7*i+k+1:Nat)] (i64 (cy x (7*i+k+1))):=Aa x hx (7*i+k+1);have c4:bq Tryz.prog 57 [b.set.d,i64 (cy x (7*i+k+1))] (i64 (gb b.set (cy x (7*i+k+1)))):=NO b.set (cy x (7*i+k+1)) jP.2.1 (by omega) (by omega) (Xf _);have hM:=jn jP.2.1 (cy x (7*i+k+1));have e:=xx (x:=x) (set:=b.set) gN px hF fun _=>rfl;generalize gb b.set (cy x (7*i+k+1))=M at hM c4 e;generalize cy x (7*i+k+1)=T3 at c3 c4;rw[e]at e7;conv=>whnf
        refine ao ((7*i:Nat):Int) (by omega) (wrap_i64 (by omega)) ?_;conv=>whnf
        refine ao ((7*i+k:Nat):Int) (by omega) (wrap_i64 (by omega)) ?_;conv=>whnf
        refine ao ((7*i+k+1:Nat):Int) (by omega) (wrap_i64 (by omega)) ?_;conv=>whnf
        refine ax (ds:=[db x,i64 (7*i+k+1:Nat)]) c3 rfl rfl ?_;conv=>whnf
        refine ax (ds:=[b.set.d,i64 T3]) c4 rfl rfl ?_;conv=>whnf
        refine ak rfl ?_;conv=>whnf
        refine ak (by simp[bx.len,cM]) ?_;conv=>whnf
        refine aM (decide_eq_true (by
         show((cM a.mine).length+1)*8<=140737488355328;rw[kK];omega)) ?_
        conv=>whnf
        refine ae ?_;conv=>whnf
        have e2:Cl a z F to M=⟨a.ar ++ [{ z with shown:=to+a.off }],a.times ++ [to],a.mine ++ [M],M,to,if F then a.w.set z.number.toNat to else a.w⟩:=by unfold Cl;rw[if_pos k2,if_pos k2]
        have y8:=kY (F:=F) hN qH tc (M:=M) (by omega);rw[e2]at e7 y8;refine⟨_,⟨e7,y8⟩,Wk.sub ⟨rfl,rfl,rfl,rfl,rfl,rfl,rfl,rfl,rfl,rfl,rfl,rfl,?_,?_,rfl,rfl,trivial⟩ ⟨rfl,rfl,rfl,rfl,?_,?_,?_,?_,?_,rfl,rfl,rfl,trivial⟩⟩
        ·show some (V.sl 159 1 0 ((cM a.mine).length+1))=_
         simp[cM]
        ·show some (V.sl 141 1 0 ((cM a.times).length+1))=_
         simp[cM]
        ·show some (Obj.box (.vv [.d (.str b.name),.d (i64 b.off.lo),.d (i64 b.off.hi),.d (i64 b.set.lo),.d (i64 b.set.hi),.sl 137 4 0 ((a.ar.map aZ.cells).length+1)]))=_
         simp
        ·rw[JT];rfl
        ·show some (Obj.arr 4 (.dd (a.ar.map aZ.cells ++ [({ z with shown:=to+a.off }:aZ).cells])))=_
         simp
        ·show some (Obj.arr 1 (.dd (cM a.times ++ [[i64 to]])))=_
         rw[fF]
        ·show some (Obj.arr 1 (.dd (cM a.mine ++ [[i64 M]])))=_
         rw[fF]
       ·have k2:¬ z.kind=2:=of_decide_eq_false k2
        have e:=xx (x:=x) (set:=b.set) (M:=0) gN px hF fun h=>absurd h k2;have e2:Cl a z F to 0=⟨a.ar ++ [{ z with shown:=to+a.off }],a.times ++ [to],a.mine,a.off,to,if F then a.w.set z.number.toNat to else a.w⟩:=by unfold Cl;rw[if_neg k2,if_neg k2]
        have y8:=kY (F:=F) hN qH tc (M:=0) (by omega);rw[e,e2]at e7;rw[e2]at y8;conv=>whnf
        refine ae ?_;conv=>whnf
        refine⟨_,⟨e7,y8⟩,Wk.sub ⟨rfl,rfl,rfl,rfl,rfl,rfl,rfl,rfl,rfl,rfl,rfl,rfl,rfl,?_,rfl,rfl,trivial⟩ ⟨rfl,rfl,rfl,rfl,?_,?_,?_,?_,rfl,rfl,rfl,rfl,trivial⟩⟩
        ·show some (V.sl 141 1 0 ((cM a.times).length+1))=_
         simp[cM]
        ·show some (Obj.box (.vv [.d (.str b.name),.d (i64 b.off.lo),.d (i64 b.off.hi),.d (i64 b.set.lo),.d (i64 b.set.hi),.sl 137 4 0 ((a.ar.map aZ.cells).length+1)]))=_
         simp
        ·rw[JT];rfl
        ·show some (Obj.arr 4 (.dd (a.ar.map aZ.cells ++ [({ z with shown:=to+a.off }:aZ).cells])))=_
         simp
        ·show some (Obj.arr 1 (.dd (cM a.times ++ [[i64 to]])))=_
         rw[fF]
  ·rintro a ⟨e7,hN⟩
   have e7:a=E:=e7;rw[<- e7]at xW;have nel:=hN.el;have ntl:=hN.tl;have nml:=hN.ml;conv=>whnf
   refine ag (fun h=>absurd h (by simp)) (fun _=>?_);conv=>whnf
   have hAl:(s.an.map au.cells).length=i:=by simp;omega
   have hTl:(gn s.times).length=i:=by simp[gn];omega
   have hOl:(gn s.lU).length=i:=by simp[gn];omega
   generalize hA:s.an.map au.cells=A at hAl ⊢;generalize hT:gn s.times=T at hTl ⊢;generalize hO:gn s.lU=O at hOl ⊢;refine ak rfl ?_;conv=>whnf
   refine ak (by show s.an.length=A.length;omega) ?_;conv=>whnf
   refine aM (by
    show(true && !eU 164 (List.flatten (bg A ++ [[.d (.str b.name),.d (i64 b.off.lo),.d (i64 b.off.hi),.d (i64 b.set.lo),.d (i64 b.set.hi),.sl 137 4 0 a.ar.length]])))=true;rw[il];rfl) ?_
   conv=>whnf
   refine aM (decide_eq_true (by
    show(A.length+1)*72<=140737488355328;omega)) ?_
   conv=>whnf
   refine ak rfl ?_;conv=>whnf
   refine ak (by show s.times.length=T.length;omega) ?_;conv=>whnf
   refine aM (by
    show(true && !eU 168 (List.flatten (bg T ++ [[V.sl 141 1 0 a.times.length]])))=true;rw[il];rfl) ?_
   conv=>whnf
   refine aM (decide_eq_true (by
    show(T.length+1)*24<=140737488355328;omega)) ?_
   conv=>whnf
   refine ak rfl ?_;conv=>whnf
   refine ak (by show s.lU.length=O.length;omega) ?_;conv=>whnf
   refine aM (by
    show(true && !eU 172 (List.flatten (bg O ++ [[V.sl 159 1 0 a.mine.length]])))=true;rw[il];rfl) ?_
   conv=>whnf
   refine aM (decide_eq_true (by
    show(O.length+1)*24<=140737488355328;omega)) ?_
   conv=>whnf
   refine ae ?_;conv=>whnf
   have xX:∀ f X,aX f (bg A++X)=bg A++aX f X:=fun f X=>aE ..;refine⟨⟨s.an ++ [{ b with ar:=a.ar }],s.times ++ [a.times],s.lU ++ [a.mine],a.w⟩,⟨xW,by simp;omega,by simp;omega,by simp;omega,hN.wl,fun n=>by have:=hN.w n;simp only;omega⟩,?_⟩;refine(Wk.sub (e':=[(1,.d (db x)),(2,.d (db y)),(3,.ptr 3 0),(6,.ptr 6 0),(9,.ptr 9 0),(10,.sl 168 1 0 (T.length+1)),(11,.sl 172 1 0 (O.length+1)),(12,.sl 28 1 0 100),(13,.d (i64 (i+1:Nat)))])
    (h':=[(3,.box (.dd l.cells)),(6,.box (.dd [i64 0,.nils])),(9,.box (.vv [.d (i64 l.near),.sl 164 6 0 (A.length+1)])),(28,.arr 1 (.dd (cM a.w))),(137,.arr 4 (.dd (a.ar.map aZ.cells))),(141,.arr 1 (.dd (cM a.times))),(159,.arr 1 (.dd (cM a.mine))),(164,.arr 6 (.vv (bg A ++ [[.d (.str b.name),.d (i64 b.off.lo),.d (i64 b.off.hi),.d (i64 b.set.lo),.d (i64 b.set.hi),.sl 137 4 0 a.ar.length]]))),(168,.arr 1 (.vv (bg T ++ [[.sl 141 1 0 a.times.length]]))),(172,.arr 1 (.vv (bg O ++ [[.sl 159 1 0 a.mine.length]])))])
    ⟨rfl,rfl,rfl,rfl,rfl,rfl,rfl,rfl,rfl,trivial⟩ ⟨rfl,rfl,rfl,rfl,rfl,rfl,rfl,?_,?_,rfl,trivial⟩).trans ?_
   ·show some (Obj.arr 6 (.vv (aX _ (aX _ (aX _ (aX _ (bg A++_)))))))=_
    rw[aE,aE,aE,aE];rfl
   ·show some (Obj.arr 1 (.vv (aX _ (aX _ (bg T++_)))))=_
    rw[aE,aE];rfl
   refine(Wk.s4 1 [137] 164 (sz:=6) (vs:=bg A ++ [[.d (.str b.name),.d (i64 b.off.lo),.d (i64 b.off.hi),.d (i64 b.set.lo),.d (i64 b.set.hi),.sl 137 4 0 a.ar.length]]) (ds:=A ++ [({ b with ar:=a.ar }:au).cells]) rfl (iA (jm (aC rfl (aC rfl (aC rfl (aC rfl (aC rfl (aC (fq (es':=a.ar.map aZ.cells) rfl rfl (by simp)) rfl))))))) _)).trans ?_;refine(Wk.s4 1 [141] 168 (sz:=1) (vs:=bg T ++ [[.sl 141 1 0 a.times.length]]) (ds:=T ++ [[aV a.times]]) rfl (iA (jm (aC (fq (es':=cM a.times) rfl rfl (by simp[cM])) rfl)) _)).trans ?_;refine(Wk.s4 1 [159] 172 (sz:=1) (vs:=bg O ++ [[.sl 159 1 0 a.mine.length]]) (ds:=O ++ [[aV a.mine]]) rfl (iA (jm (aC (fq (es':=cM a.mine) rfl rfl (by simp[cM])) rfl)) _)).trans ?_;subst hA hT hO;refine Wk.sub ⟨rfl,rfl,rfl,rfl,rfl,?_,?_,rfl,rfl,trivial⟩ ⟨rfl,rfl,?_,rfl,?_,?_,?_,trivial⟩
   ·show some (V.sl 168 1 0 ((gn s.times).length+1))=_
    simp[gn]
   ·show some (V.sl 172 1 0 ((gn s.lU).length+1))=_
    simp[gn]
   ·show some (Obj.box (.vv [.d (i64 l.near),.sl 164 6 0 ((s.an.map au.cells).length+1)]))=_
    simp
   ·show some (Obj.arr 6 (.dd (s.an.map au.cells ++ [({ b with ar:=a.ar }:au).cells])))=_
    simp
   ·show some (Obj.arr 1 (.dd (gn s.times ++ [[aV a.times]])))=_
    simp[gn]
   ·show some (Obj.arr 1 (.dd (gn s.lU ++ [[aV a.mine]])))=_
    simp[gn]
 ·rintro s ⟨xW,xV,Kb,MY,M8,hwb⟩
  have xW:s=S:=xW;subst xW;conv=>whnf
  refine ag (fun h=>absurd h (by simp)) (fun _=>?_);conv=>whnf
  refine aO 1 (ds:=[(⟨l.near,s.an⟩:aN).d,.vs (gn s.times),.vs (gn s.lU)]) (aC (show dP _ (.agg [.d (i64 l.near),.sl 164 6 0 s.an.length])=_ from by
   rw[dP,aC rfl (aC (fq (es':=s.an.map au.cells) rfl rfl (by simp)) rfl)];rfl) (aC (fq (es':=gn s.times) rfl rfl (by simp[gn])) (aC (fq (es':=gn s.lU) rfl rfl (by simp[gn])) rfl))) ⟨⟨rfl,rfl⟩,rfl⟩
end Go.PX
namespace Go.PX
open Go.Proofs
theorem BT{k v j:Int}:∀ {m:List (Int×Int)},jx (vg m k v) j=if j=k then v else jx m j
 | []=>by simp[vg,jx]
 | (a,b)::r=>by
  rw[vg];by_cases h:k=a
  ·rw[if_pos h,jx,jx]
   by_cases h2:j=k
   ·simp[h2]
   ·rw[if_neg h2,if_neg h2,if_neg (by rw[<- h];exact h2)]
  ·rw[if_neg h,jx,jx,BT]
   by_cases h2:j=a
   ·rw[if_pos h2,if_pos h2,if_neg (by rw[h2];exact fun e=>h e.symm)]
   ·rw[if_neg h2,if_neg h2]
def j7(a b:Bool):Int:=(if a then 1 else 0)+(if b then 2 else 0)
theorem Ep(a b l:Bool):iT .or .i64 (j7 a b) (Jq l)=j7 (a || !l) (b||l):=by
 cases a<;>cases b<;>cases l<;>decide +kernel
theorem JF(a b l:Bool):decide (iT .and .i64 (j7 a b) (if l then 1 else 2)=0) = !(if l then a else b):=by
 cases a<;>cases b<;>cases l<;>decide +kernel
theorem BV{s:Int}:∀ {l:List dW} {m:List (Int×Int)} {a b:Bool},jx m s=j7 a b->jx (l.foldl eL m) s=j7 (a||l.any fun x=>decide (x.second=s) && !x.lit) (b||l.any fun x=>decide (x.second=s)&&x.lit)
 | [],m,a,b,h=>by simpa using h
 | x::r,m,a,b,h=>by
  rw[List.foldl_cons];have h1:jx (eL m x) s=j7 (a||(decide (x.second=s) && !x.lit)) (b||(decide (x.second=s)&&x.lit)):=by
   unfold eL;rw[BT];by_cases hs:s=x.second
   ·rw[if_pos hs,<- hs,h,Ep]
    simp[hs]
   ·rw[if_neg hs,h]
    have:decide (x.second=s)=false:=decide_eq_false fun e=>hs e.symm;simp[this]
  rw[BV h1];simp only[List.any_cons,Bool.or_assoc]
theorem Gl(l:List dW)(s:Int)(b:Bool):sL (vi l) s b = !(l.any fun x=>decide (x.second=s)&&(x.lit !=b)):=by
 unfold sL vi;rw[BV (a:=false) (b:=false) (by rfl),JF]
 cases b with
 | true=>
  simp
 | false=>
  simp
theorem Jf{wf:Int->Bool->Bool}:∀ {L:List Bool} {s:Int},okW wf s L=true ↔ ∀ k b,L[k]?=some b->wf (s+(k:Nat)) b=true
 | [],s=>by simp[okW]
 | b::r,s=>by
  rw[okW,Bool.and_eq_true,Jf];constructor
  ·rintro ⟨h1,h2⟩ k c hk
   cases k with
   | zero=>
    have:b=c:=by simpa using hk
    subst this;simpa using h1
   | succ k=>
    have:=h2 k c (by simpa using hk);rw[show s+((k+1:Nat):Int)=s+1+(k:Nat) by omega];exact this
  ·intro h
   refine⟨by simpa using h 0 b rfl,fun k c hk=>?_⟩;have:=h (k+1) c (by simpa using hk);rw[show s+((k+1:Nat):Int)=s+1+(k:Nat) by omega]at this;exact this
theorem pQ{lit:List Bool}:∀ {l:List dW} {i:Int},jZ lit l i = [] ↔ ∀ x∈l,lit.getD x.second.toNat false=x.lit
 | [],i=>by simp[jZ]
 | x::r,i=>by
  rw[jZ];by_cases h:lit.getD x.second.toNat false=x.lit
  ·rw[if_pos h,pQ,List.forall_mem_cons]
   exact⟨fun h2=>⟨h,h2⟩,fun h2=>h2.2⟩
  ·rw[if_neg h]
   constructor
   ·intro h2;cases h2
   ·intro h2;exact absurd (h2 x (by simp)) h
theorem yt{l:List dW}{L:List Bool}(hl:∀ s∈l,0<=s.second/\s.second<L.length):okW (sL (vi l)) 0 L=decide (jZ L l 0 = []):=by
 rw[Bool.eq_iff_iff,decide_eq_true_eq,Jf,pQ];constructor
 ·intro h x hx
  obtain⟨h1,h2⟩:=hl x hx;have hk:x.second.toNat<L.length:=by omega
  have:=h x.second.toNat L[x.second.toNat] (List.getElem?_eq_getElem hk);rw[Gl,Bool.not_eq_true']at this;have hq:=List.any_eq_false.1 this x hx;have e:decide (x.second=0+(x.second.toNat:Int))=true:=decide_eq_true (by omega);rw[e,Bool.true_and]at hq;have hq:x.lit=L[x.second.toNat]:=by simpa using hq
  simp[List.getD_eq_getElem?_getD,hk,hq]
 ·intro h k b hk
  rw[Gl,Bool.not_eq_true'];refine List.any_eq_false.2 fun x hx=>?_;by_cases hs:x.second=0+(k:Int)
  ·have:=h x hx
   rw[show x.second.toNat=k by omega,List.getD_eq_getElem?_getD,hk]at this;have:b=x.lit:=by simpa using this
   simp[this]
  ·rw[decide_eq_false hs];simp
theorem Ek{s:Int}:∀ {l:List (bm×List Bool)} {a b:Bool},l.foldl (qo s) (j7 a b)=j7 (a||l.any fun p=>!(p.2.getD s.toNat false)) (b||l.any fun p=>p.2.getD s.toNat false)
 | [],a,b=>by simp
 | p::r,a,b=>by
  rw[List.foldl_cons];have h1:qo s (j7 a b) p=j7 (a || !(p.2.getD s.toNat false)) (b||p.2.getD s.toNat false):=Ep a b _;rw[h1,Ek];simp only[List.any_cons,Bool.or_assoc]
theorem R4(l:List (bm×List Bool))(s:Int):AP l s=j7 (l.any fun p=>!(p.2.getD s.toNat false)) (l.any fun p=>p.2.getD s.toNat false):=by
 have h:=Ek (s:=s) (l:=l) (a:=false) (b:=false);rw[Bool.false_or,Bool.false_or]at h;exact h
theorem P0{c:bG}(h0:(bN c).2.2=0){p:bm×List Bool}:p∈iS c↔ld c p.1/\p.2=bX c.aB c.az p.1 /\ ∀ s∈c.bW,p.2.getD s.second.toNat false=s.lit:=by
 have hR:=ed h0;have hs:∀ t s,s∈c.bW->0<=s.second/\s.second<(bX c.aB c.az t).length:=fun t s hs=>by
  have h1:=hR.N8 s hs;have h2:=(nA (w:=c.az) (t:=t) hR.aB).2.2;omega
 unfold iS;rw[rA (nu.up h0).1];obtain⟨t,L⟩:=p;constructor
 ·intro h
  obtain⟨u,hu,he⟩:=List.mem_map.1 h;obtain⟨h1,h2⟩:=List.mem_filter.1 hu;have e1:u=t:=congrArg Prod.fst he;have e2:bX c.aB c.az u=L:=congrArg Prod.snd he;subst e1;rw[yt (hs u),decide_eq_true_eq,pQ]at h2;subst e2;exact⟨uM.1 h1,rfl,h2⟩
 ·rintro ⟨h1,h2,h3⟩
  have h2:L=bX c.aB c.az t:=h2;subst h2;refine List.mem_map.2 ⟨t,List.mem_filter.2 ⟨uM.2 h1,?_⟩,rfl⟩;rw[yt (hs t),decide_eq_true_eq,pQ];exact h3
theorem R5{c:bG}(h0:(bN c).2.2=0){s:Int}(hs:0<=s/\s<c.aB.night){p:bm×List Bool}(hp:p∈iS c) :
  JA c s=0/\(wJ c s=0\/wJ c s=1\/wJ c s=2)/\(wJ c s=1 -> ∀ q∈iS c,q.2.getD s.toNat false=true)/\(wJ c s=0 -> ∀ q∈iS c,q.2.getD s.toNat false=false) /\
   ((∀ q∈iS c,q.2.getD s.toNat false=true)->wJ c s=1)/\((∀ q∈iS c,q.2.getD s.toNat false=false)->wJ c s=0):=by
 have gN:cF s 0 (c.aB.night-1)=true:=by rw[cj];omega
 have hk:=R4 (iS c) s;generalize hA:(iS c).any (fun p=>!(p.2.getD s.toNat false))=A at hk;generalize hB:(iS c).any (fun p=>p.2.getD s.toNat false)=B at hk;have Sv:A=true\/B=true:=by
  cases hb:p.2.getD s.toNat false with
  | true=>right;rw[<- hB];exact List.any_eq_true.2 ⟨p,hp,hb⟩
  | false=>left;rw[<- hA];exact List.any_eq_true.2 ⟨p,hp,by rw[hb];rfl⟩
 have er:AP (iS c) s≠0:=by
  rw[hk];rcases Sv with h|h<;>rw[h]<;>cases A<;>cases B<;>simp[j7]at *
 have hE:JA c s=0:=by unfold JA;rw[if_pos h0,if_pos gN,if_neg er]
 have hV:wJ c s=if AP (iS c) s=1 then 0 else if AP (iS c) s=2 then 1 else 2:=by unfold wJ;rw[hE,if_pos rfl]
 have hAf:A=false -> ∀ q∈iS c,q.2.getD s.toNat false=true:=fun h q hq=>by
  rw[h]at hA;simpa using List.any_eq_false.1 hA q hq
 have hBf:B=false -> ∀ q∈iS c,q.2.getD s.toNat false=false:=fun h q hq=>by
  rw[h]at hB;simpa using List.any_eq_false.1 hB q hq
 have YL:A=true->¬ ∀ q∈iS c,q.2.getD s.toNat false=true:=fun h h2=>by
  rw[h]at hA;obtain⟨q,hq,h3⟩:=List.any_eq_true.1 hA;rw[h2 q hq]at h3;cases h3
 have hBt:B=true->¬ ∀ q∈iS c,q.2.getD s.toNat false=false:=fun h h2=>by
  rw[h]at hB;obtain⟨q,hq,h3⟩:=List.any_eq_true.1 hB;rw[h2 q hq]at h3;cases h3
 rw[hV,hk];refine⟨hE,?_⟩;cases A<;>cases B
 ·rcases Sv with h|h<;>cases h
 ·rw[show(if j7 false true=1 then (0:Int) else if j7 false true=2 then 1 else 2)=1 from by decide]
  exact⟨.inr (.inl rfl),fun _=>hAf rfl,fun h=>absurd h (by decide),fun _=>rfl,fun h=>absurd h (hBt rfl)⟩
 ·rw[show(if j7 true false=1 then (0:Int) else if j7 true false=2 then 1 else 2)=0 from by decide]
  exact⟨.inl rfl,fun h=>absurd h (by decide),fun _=>hBf rfl,fun h=>absurd h (YL rfl),fun _=>rfl⟩
 ·rw[show(if j7 true true=1 then (0:Int) else if j7 true true=2 then 1 else 2)=2 from by decide]
  exact⟨.inr (.inr rfl),fun h=>absurd h (by decide),fun h=>absurd h (by decide),fun h=>absurd h (YL rfl),fun h=>absurd h (hBt rfl)⟩
theorem Au{night:Int}{f:dW->dW}(hf:∀ s,(f s).second=s.second):∀ {l:List dW} {i:Int},gP night (l.map f) i=gP night l i
 | [],_=>rfl
 | s::r,i=>by rw[List.map_cons,gP,gP,hf,Au hf]
def Kr(L:List Bool)(s:dW):dW:=⟨s.second,L.getD s.second.toNat false⟩
def oM(c:bG)(t:bm):bG:={ c with bW:=c.bW.map (Kr (bX c.aB c.az t)) }
theorem Az(c:bG)(t:bm):(bN (oM c t)).2.2=(bN c).2.2:=by
 unfold bN oM;simp only[List.length_map,Au (f:=Kr (bX c.aB c.az t)) fun _=>rfl]
theorem Gi{c:bG}{t u:bm}(h:ld c u):ld (oM c t) u:=⟨h.start,h.len,h.speed⟩
theorem H2{c:bG}(h0:(bN c).2.2=0){t:bm}(hT:ld c t):(t,bX c.aB c.az t)∈iS (oM c t):=by
 refine(P0 (by rw[Az];exact h0)).2 ⟨Gi hT,rfl,fun s hs=>?_⟩;obtain⟨y,hy,rfl⟩:=List.mem_map.1 hs;rfl
theorem abn(c:bG)(hR:nu c)(t:bm)(hT:ld c t):bq Tryz.prog 18 [c.d,t.d,.int .u8 0] (oM c t).d:=by
 refine aY Tryz.func18 rfl (ft:=ZB) 3 fun {σ} Y st=>?_;conv=>whnf
 refine af (XF c.aB c.az t (Ls.of hR hT)) rfl rfl ?_;conv=>whnf
 have hL:=(nA (w:=c.az) (t:=t) hR.aB);have hsi:=hR.N8;have hsn:=hR.bW;have hz:(oM c t).bW=c.bW.map (Kr (bX c.aB c.az t)):=rfl;have zn:(oM c t).aB=c.aB/\(oM c t).az=c.az:=⟨rfl,rfl⟩;generalize oM c t=z at hz zn ⊢;generalize bX c.aB c.az t=L at hL hz;refine bB (T:=tys) av (by exact aj mixed av (by decide +kernel)) c.bW (fun i (acc:List dW)=>⟨[(2,.d (.int .u8 0)),(3,.ptr 3 0),(4,.ptr 4 0),(6,.ptr 6 0),(7,.d (dj L)),(8,.sl 44 2 0 acc.length),(9,.d (i64 i))],[(3,.box (.dd c.cells)),(4,.box (.dd t.cells)),(6,.box (.dd [i64 0,.nils,i64 0,i64 0,i64 0,i64 0,i64 0,i64 0,.nils,.nils])),(44,.arr 2 (.dd (acc.map dW.cells)))],st⟩)
  (fun i r acc=>acc.length<=i/\z.bW=acc++r.map (Kr L)) [] ((Wk.born 8 44 2 rfl rfl rfl).trans aw) ⟨by simp,hz⟩ ?_ ?_
 ·rintro i s r acc hx hi hr ⟨AV,he⟩
  have hs:=hsi s (List.mem_of_getElem? hx);have dh:s.second.toNat<L.length:=by omega
  obtain⟨b,hb⟩:∃ b,L[s.second.toNat]?=some b:=⟨_,List.getElem?_eq_getElem dh⟩;have Ut:Kr L s=⟨s.second,b⟩:=by simp[Kr,List.getD_eq_getElem?_getD,hb]
  rw[List.map_cons,Ut]at he;conv=>whnf
  refine ag (fun _=>?_) (fun h=>absurd hi (by have:=of_decide_eq_false h;simp at this;omega));conv=>whnf
  refine aG hx ?_;conv=>whnf
  refine aU [.bool b] ⟨hs.1,by simp[hb]⟩ ?_;conv=>whnf
  refine ax (A6 _ _) rfl rfl ?_;conv=>whnf
  refine ak rfl ?_;conv=>whnf
  refine ak (by simp[bx.len]) ?_;conv=>whnf
  refine aM (decide_eq_true (by
   show((acc.map dW.cells).length+1)*16<=140737488355328;rw[List.length_map];omega)) ?_
  conv=>whnf
  refine ae ?_;conv=>whnf
  refine⟨acc ++ [⟨s.second,b⟩],⟨by simp;omega,by simpa using he⟩,Wk.sub ⟨rfl,rfl,rfl,rfl,rfl,?_,rfl,trivial⟩ ⟨rfl,rfl,rfl,?_,trivial⟩⟩
  ·show some (V.sl 44 2 0 ((acc.map dW.cells).length+1))=_
   simp
  ·simp[PX.get,dW.cells]
 ·rintro acc ⟨_,he⟩
  have he:z.bW=acc:=by simpa using he
  conv=>whnf
  refine ag (fun h=>absurd h (by simp)) (fun _=>?_);conv=>whnf
  have hd:z.d = .agg [i64 c.aB.bT,dH c.aB.lit,i64 c.aB.start.lo,i64 c.aB.start.hi,i64 c.aB.speed.lo,i64 c.aB.speed.hi,i64 c.aB.gG,i64 c.aB.night,aV c.az,pJ acc]:=by
   obtain⟨zl,zw,zs⟩:=z;obtain⟨rfl,rfl⟩:=zn;have he:zs=acc:=he;subst he;rfl
  rw[hd];refine aO 2 (ds:=[.agg [i64 c.aB.bT,dH c.aB.lit,i64 c.aB.start.lo,i64 c.aB.start.hi,i64 c.aB.speed.lo,i64 c.aB.speed.hi,i64 c.aB.gG,i64 c.aB.night,aV c.az,pJ acc]]) ?_ ⟨⟨rfl,rfl⟩,rfl⟩;exact aC (wv (ky (a:=[i64 c.aB.bT,dH c.aB.lit,i64 c.aB.start.lo,i64 c.aB.start.hi,i64 c.aB.speed.lo,i64 c.aB.speed.hi,i64 c.aB.gG,i64 c.aB.night,aV c.az]) (aC (cH rfl (by simp)) rfl))) rfl
end Go.PX
