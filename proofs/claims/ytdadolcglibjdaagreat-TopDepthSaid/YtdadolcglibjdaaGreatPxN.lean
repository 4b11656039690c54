import Derived.Test.YtdadolcglibjdaaGreatPxM
import Derived.Test.YtdadolcglibjdaaGreatPxL
import Derived.Test.YtdadolcglibjdaaGreatPxH
import Derived.Test.YtdadolcglibjdaaGreatPxI
import Derived.RecoverIn
import Derived.Recover
set_option linter.all false
set_option maxRecDepth 10000
namespace Go.PX
open Go.Proofs
theorem LJ(o w:Pt)(ho:jZ 1000000000 o)(hw:jZ 1000000000 w):aX Tryz.prog 130 [o.d,w.d] (i64 (aR o w)):=by
 refine aB Tryz.func130 rfl (ft:=Pp) 2 fun {σ} Y st=>?_;conv=>whnf
 have h1:=um ho.x hw.y;have h2:=um ho.y hw.x;refine af ?_;conv=>whnf
 refine af ?_;conv=>whnf
 refine af ?_;conv=>whnf
 exact ae
theorem LI(a b:Pt)(ha:jZ 1000000000000 a)(hb:jZ 1000000000000 b):aX Tryz.prog 93 [a.d,b.d] (a.sub b).d:=by
 refine aB Tryz.func93 rfl (ft:=U2) 2 fun {σ} Y st=>?_;conv=>whnf
 have h1:=ha.x;have h2:=ha.y;have h3:=hb.x;have h4:=hb.y;refine af ?_;conv=>whnf
 refine af ?_;conv=>whnf
 exact ae
theorem Lw(p:Pt)(m:Int)(hm:0<=m/\m<=1000000000):aX Tryz.prog 60 [p.d,i64 m] (.bool (bW m p)):=by
 refine aB Tryz.func60 rfl (ft:=UD) 2 fun {σ} Y st=>?_;conv=>whnf
 refine aA ((-m)) (by(try dsimp only);omega) (wrap_i64 (by(try dsimp only);omega)) ?_;conv=>whnf
 refine ak (nS p.x (-m) m) rfl 1 rfl ?_;unfold bW
 cases h:a6 p.x (-m) m with
 | false=>
  conv=>whnf
  exact ae
 | true=>
  conv=>whnf
  refine aA ((-m)) (by(try dsimp only);omega) (wrap_i64 (by(try dsimp only);omega)) ?_;conv=>whnf
  refine ak (nS p.y (-m) m) rfl 1 rfl ?_;conv=>whnf
  exact ae
theorem Ob(v:Pt)(hv:jZ 1000000000 v):aX Tryz.prog 146 [v.d] (H3 v).d:=by
 refine aB Tryz.func146 rfl (ft:=PE) 1 fun {σ} Y st=>?_;conv=>whnf
 have h1:=hv.x;have h2:=hv.y;refine aA ((-v.x)) (by(try dsimp only);omega) (wrap_i64 (by(try dsimp only);omega)) ?_;conv=>whnf
 exact ae
theorem yc:∀ (n:Nat) (v:Pt),CY (n+1) v=H3 (CY n v)
 | 0,_=>rfl
 | n+1,v=>yc n (H3 v)
theorem Ec:∀ (n:Nat) {v:Pt},jZ 1000 v->jZ 1000 (CY n v)
 | 0,_,h=>h
 | n+1,v,h=>Ec n ⟨h.y,by have:=h.x;show -1000 <= -v.x /\ -v.x<=1000;omega⟩
theorem Lx:aX Tryz.prog 131 [i64 0] (Pt.d ⟨0,1000⟩):=by
 refine aB Tryz.func131 rfl (ft:=q9) 1 fun {σ} Y st=>?_;conv=>whnf
 exact an 1 rfl ⟨⟨rfl,rfl⟩,rfl⟩
theorem Ly:aX Tryz.prog 131 [i64 1] (Pt.d ⟨195,981⟩):=by
 refine aB Tryz.func131 rfl (ft:=q9) 1 fun {σ} Y st=>?_;conv=>whnf
 exact an 1 rfl ⟨⟨rfl,rfl⟩,rfl⟩
theorem Lz:aX Tryz.prog 131 [i64 2] (Pt.d ⟨383,924⟩):=by
 refine aB Tryz.func131 rfl (ft:=q9) 1 fun {σ} Y st=>?_;conv=>whnf
 exact an 1 rfl ⟨⟨rfl,rfl⟩,rfl⟩
theorem LA:aX Tryz.prog 131 [i64 3] (Pt.d ⟨556,831⟩):=by
 refine aB Tryz.func131 rfl (ft:=q9) 1 fun {σ} Y st=>?_;conv=>whnf
 exact an 1 rfl ⟨⟨rfl,rfl⟩,rfl⟩
theorem LB:aX Tryz.prog 131 [i64 4] (Pt.d ⟨707,707⟩):=by
 refine aB Tryz.func131 rfl (ft:=q9) 1 fun {σ} Y st=>?_;conv=>whnf
 exact an 1 rfl ⟨⟨rfl,rfl⟩,rfl⟩
theorem LC:aX Tryz.prog 131 [i64 5] (Pt.d ⟨831,556⟩):=by
 refine aB Tryz.func131 rfl (ft:=q9) 1 fun {σ} Y st=>?_;conv=>whnf
 exact an 1 rfl ⟨⟨rfl,rfl⟩,rfl⟩
theorem LD:aX Tryz.prog 131 [i64 6] (Pt.d ⟨924,383⟩):=by
 refine aB Tryz.func131 rfl (ft:=q9) 1 fun {σ} Y st=>?_;conv=>whnf
 exact an 1 rfl ⟨⟨rfl,rfl⟩,rfl⟩
theorem LF:aX Tryz.prog 131 [i64 7] (Pt.d ⟨981,195⟩):=by
 refine aB Tryz.func131 rfl (ft:=q9) 1 fun {σ} Y st=>?_;conv=>whnf
 exact an 1 rfl ⟨⟨rfl,rfl⟩,rfl⟩
theorem Ok(m k:Nat)(hk:k<8)(hm:m+1<4)(v:Pt)(hi:aX Tryz.prog 131 [i64 ((8*m+k:Nat):Int)] v.d)(hq:jZ 1000 v):aX Tryz.prog 131 [i64 ((8*(m+1)+k:Nat):Int)] (H3 v).d:=by
 refine aB Tryz.func131 rfl (ft:=q9) 1 fun {σ} Y st=>?_;conv=>whnf
 refine ag (fun _=>?_) (fun h=>absurd h (by simp;omega));conv=>whnf
 refine aA (((8*m+k:Nat):Int)) (by(try dsimp only);omega) (wrap_i64 (by(try dsimp only);omega)) ?_;conv=>whnf
 refine ah (hi) rfl rfl ?_;conv=>whnf
 refine ak (ds:=[v.d]) (Ob v (hq.mono (by omega))) rfl 1 rfl ?_;conv=>whnf
 exact ae
set_option maxHeartbeats 1000000 in
theorem Oj(m:Nat):∀ (k:Nat) (hk:k<8) (hm:m<4),aX Tryz.prog 131 [i64 ((8*m+k:Nat):Int)] (CY m ((cj[k]?).getD ⟨0,0⟩)).d:=by
 induction m with
 | zero=>
  intro k hk hm
  match k,hk with
  | 0,_=>exact fun {σ}=>Lx
  | 1,_=>exact fun {σ}=>Ly
  | 2,_=>exact fun {σ}=>Lz
  | 3,_=>exact fun {σ}=>LA
  | 4,_=>exact fun {σ}=>LB
  | 5,_=>exact fun {σ}=>LC
  | 6,_=>exact fun {σ}=>LD
  | 7,_=>exact fun {σ}=>LF
 | succ m ih=>
  intro k hk hm;have hi:aX Tryz.prog 131 [i64 ((8*m+k:Nat):Int)] (CY m ((cj[k]?).getD ⟨0,0⟩)).d:=fun {σ}=>ih k hk (by omega);have hq:=Ec m (vV hk);rw[yc];exact fun {σ}=>Ok m k hk hm _ hi hq
theorem Ta(p:Int)(hp:0<=p/\p<=31):aX Tryz.prog 131 [i64 p] (FE p).d:=by
 have h:aX Tryz.prog 131 [i64 ((8*(p/8).toNat+(p%8).toNat:Nat):Int)] (FE p).d:=fun {σ}=>Oj (p/8).toNat (p%8).toNat (by omega) (by omega);rw[show((8*(p/8).toNat+(p%8).toNat:Nat):Int)=p by omega]at h;exact fun {σ}=>h
set_option maxHeartbeats 2000000 in
theorem Td(l:List e9):aX Tryz.prog 61 [ix l] (i64 (fw l)):=by
 refine aB Tryz.func61 rfl (ft:=UE) 1 fun {σ} Y st=>?_;conv=>whnf
 refine ak (nS l.length 1 4) rfl 1 (by simp;rfl) ?_;unfold fw
 cases h:a6 (l.length:Int) 1 4 with
 | false=>
  conv=>whnf
  exact ae
 | true=>
  rw[bq]at h;conv=>whnf
  refine ba (T:=tys) ao (by exact ai mixed ao (by decide +kernel)) l (fun i (last:Int)=>⟨[(0,.d (ix l)),(3,.d (i64 i))],[],st⟩) (fun i r last=>ot (-1) l=ot last r/\(i=0->last = -1)/\(∀ j,i=j+1 -> ∃ q,l[j]?=some q/\q.day=last)) (-1) aI ⟨rfl,fun _=>rfl,fun j hj=>by omega⟩ ?_ ?_
  ·rintro i p r last hp hi hr ⟨he,BW,qD⟩
   rw[ot]at he;conv=>whnf
   refine ag (fun _=>?_) (fun h=>absurd hi (by simpa using h));conv=>whnf
   refine au hp ?_;conv=>whnf
   refine ak (nS p.day 0 40000) rfl 1 rfl ?_
   cases h1:a6 p.day 0 40000 with
   | false=>
    rw[h1,Bool.false_and,if_neg (by simp)]at he;rw[he];conv=>whnf
    exact ae
   | true=>
    conv=>whnf
    refine au hp ?_;conv=>whnf
    refine ak (nS p.kl 0 4) rfl 1 rfl ?_
    cases h2:a6 p.kl 0 4 with
    | false=>
     rw[h1,h2,Bool.and_false,if_neg (by simp)]at he;rw[he];conv=>whnf
     exact ae
    | true=>
     have za:=h1;rw[bq]at za;rw[h1,h2,Bool.and_true,if_pos rfl]at he;conv=>whnf
     refine ag (fun h3=>?_) (fun h3=>?_)
     ·have h3:0<i:=by have:=of_decide_eq_true h3;omega
      obtain⟨j,rfl⟩:∃ j,i=j+1:=⟨i-1,by omega⟩;obtain⟨q,hq,Zz⟩:=qD j rfl;subst Zz;conv=>whnf
      refine bY p.cells ⟨by omega,by
       show(l.map e9.cells)[(((j+1:Nat):Int)).toNat]?=some p.cells;rw[Int.toNat_natCast];simp[hp]⟩ ?_
      conv=>whnf
      refine aA (((j:Nat):Int)) (by(try dsimp only);omega) (wrap_i64 (by(try dsimp only);omega)) ?_;conv=>whnf
      refine bY q.cells ⟨by omega,by
       show(l.map e9.cells)[((j:Int)).toNat]?=some q.cells;rw[Int.toNat_natCast];simp[hq]⟩ ?_
      conv=>whnf
      refine ag (fun h4=>?_) (fun h4=>?_)
      ·rw[if_pos (of_decide_eq_true h4)]at he
       rw[he];conv=>whnf
       exact ae
      ·rw[if_neg (of_decide_eq_false h4)]at he
       conv=>whnf
       refine af ?_;conv=>whnf
       exact⟨p.day,⟨he,fun h=>by omega,fun j2 hj=>⟨p,by rw[show j2=j+1 by omega];exact hp,rfl⟩⟩,aI⟩
     ·have h3:i=0:=by have:=of_decide_eq_false h3;omega
      have:=BW h3;subst this;rw[if_neg (by omega)]at he;conv=>whnf
      refine af ?_;conv=>whnf
      exact⟨p.day,⟨he,fun h=>by omega,fun j hj=>⟨p,by rw[show j=i by omega];exact hp,rfl⟩⟩,aI⟩
  ·rintro last ⟨he,_⟩
   conv=>whnf
   refine ag (fun h=>absurd h (by simp)) (fun _=>?_);conv=>whnf
   rw[he];exact ae
theorem C4(m:Int)(b:zZ):nL m b=if spread (-m) m [b.x,b.y] 0=0/\(b.x.hi-b.x.lo>40\/b.y.hi-b.y.lo>40) then 2 else spread (-m) m [b.x,b.y] 0:=by
 unfold nL;simp only[spread,a6,Bool.and_eq_true,decide_eq_true_eq];repeat' split
 all_goals first|rfl|omega|(simp_all<;>omega)
theorem FA{m:Int}{b:zZ}(h:spread (-m) m [b.x,b.y] 0=0):(-m<=b.x.lo/\b.x.hi<=m/\b.x.lo<=b.x.hi) /\ -m<=b.y.lo/\b.y.hi<=m/\b.y.lo<=b.y.hi:=by
 simp only[spread,a6,Bool.and_eq_true,decide_eq_true_eq]at h;repeat' split at h
 all_goals omega
set_option maxHeartbeats 1000000 in
theorem S8(b:zZ)(m:Int)(hm:0<=m/\m<=1000000000):aX Tryz.prog 105 [b.d,i64 (-m),i64 m] (i64 (nL m b)):=by
 rw[C4];refine aB Tryz.func105 rfl (ft:=O5) 3 fun {σ} Y st=>?_;conv=>whnf
 refine ak (GA [b.x,b.y] (-m) m (by simp)) rfl 1 rfl ?_;conv=>whnf
 by_cases h0:spread (-m) m [b.x,b.y] 0=0;case neg=>
  rw[if_neg (fun h=>h0 h.1),decide_eq_false h0];conv=>whnf
  exact ae
 have hb:=FA h0;rw[decide_eq_true h0];conv=>whnf
 refine af ?_;conv=>whnf
 refine ag (fun h1=>?_) (fun h1=>?_)
 ·rw[if_pos ⟨h0,.inl (of_decide_eq_true h1)⟩]
  conv=>whnf
  exact ae
 ·have h1:¬ 40<b.x.hi-b.x.lo:=of_decide_eq_false h1
  conv=>whnf
  refine af ?_;conv=>whnf
  refine ag (fun h2=>?_) (fun h2=>?_)
  ·rw[if_pos ⟨h0,.inr (of_decide_eq_true h2)⟩]
   conv=>whnf
   exact ae
  ·have h2:¬ 40<b.y.hi-b.y.lo:=of_decide_eq_false h2
   rw[if_neg (fun h=>by have:=h.2;omega)];conv=>whnf
   exact ae
def rF(day:Int):List e9->Int->Int
 | [],a=>a
 | p::r,a=>rF day r (if p.day<=day then p.kl else a)
theorem xV(day:Int)(p:e9):∀ (l:List e9) (a:Int),rF day (l ++ [p]) a=if p.day<=day then p.kl else rF day l a
 | [],a=>rfl
 | q::r,a=>by
  rw[List.cons_append,rF,xV day p r,rF]
theorem Bs(day:Int)(l:List e9):∀ k,k<=l.length->rF day (l.take k) 0=uP day (m9 l k)
 | 0,_=>by simp[rF,m9,uP]
 | k+1,h=>by
  have h1:k<l.length:=by omega
  rw[List.take_succ_eq_append_getElem h1,xV,Bs day l k (by omega),m9,List.getElem?_eq_getElem h1];rfl
theorem On(m:Mark)(day:Int)(hl:m.cg.length<1000000):aX Tryz.prog 129 [m.d,i64 day] (i64 (rF day m.cg 0)):=by
 refine aB Tryz.func129 rfl (ft:=Po) 2 fun {σ} Y st=>?_;conv=>whnf
 refine ba (T:=tys) ao (by exact ai mixed ao (by decide +kernel)) m.cg (fun i (a:Int)=>⟨[(1,.d (i64 day)),(2,.ptr 2 0),(5,.d (i64 a)),(6,.d (i64 i))],[(2,.box (.dd m.cells))],st⟩) (fun i r a=>rF day m.cg 0=rF day r a) 0 aI rfl ?_ ?_
 ·rintro i p r a hp hi hr he
  replace he:rF day m.cg 0=_:=he;conv at he=>rhs;rw[rF]
  conv=>whnf
  refine ag (fun _=>?_) (fun h=>absurd hi (by simpa using h));conv=>whnf
  refine au hp ?_;conv=>whnf
  refine ag (fun h1=>?_) (fun h1=>?_)
  ·rw[if_pos (of_decide_eq_true h1)]at he
   conv=>whnf
   refine au hp ?_;conv=>whnf
   refine af ?_;conv=>whnf
   exact⟨p.kl,he,aI⟩
  ·rw[if_neg (of_decide_eq_false h1)]at he
   conv=>whnf
   refine af ?_;conv=>whnf
   exact⟨a,he,aI⟩
 ·rintro a he
  rw[rF]at he;conv=>whnf
  refine ag (fun h=>absurd h (by simp)) (fun _=>?_);conv=>whnf
  rw[he];exact ae
def gd(l:List Pt)(i:Nat):Pt:=(l[i]?).getD ⟨0,0⟩
def lQ(l:List Pt)(i n:Nat):Bool:=decide (n=i)||decide (n=(i+1)%l.length)||decide (0<aR ((gd l ((i+1)%l.length)).sub (gd l i)) ((gd l n).sub (gd l i)))
def qz(l:List Pt)(i:Nat):Bool:=(List.range l.length).all (lQ l i)
def qx(l:List Pt):Bool:=(List.range l.length).all (qz l)
theorem tY{l:List Pt}{i:Nat}(h:i<l.length):l[i]?=some (gd l i):=by
 unfold gd;simp[h]
theorem yN{l:List Pt}{i:Nat}(h:i<l.length):gd l i∈l:=by
 unfold gd;rw[List.getElem?_eq_getElem h];exact List.getElem_mem h
theorem xY{n i q:Nat}(h:(List.range n)[i]?=some q):q=i:=by
 have hi:i<n:=by simpa using (List.getElem?_eq_some_iff.1 h).1
 rw[List.getElem?_range hi]at h;cases h;rfl
set_option maxHeartbeats 2000000 in
theorem Of(l:List Pt)(hl:l.length<1000)(hp:∀ p∈l,jZ 10000 p):aX Tryz.prog 106 [g9 l] (.bool (qx l)):=by
 refine aB Tryz.func106 rfl (ft:=O6) 1 fun {σ} Y st=>?_;conv=>whnf
 refine ba (T:=tys) ao (by exact ai mixed ao (by decide +kernel)) (List.range l.length) (fun i (_:Unit)=>⟨[(0,.d (g9 l)),(3,.d (i64 i))],[],st⟩) (fun i r _=>qx l=r.all (qz l)) () aI rfl ?_ ?_
 ·rintro i q r _ Wq hi hr hk
  have hq:=xY Wq;subst hq;have Cm:q<l.length:=by simpa using hi
  rw[List.all_cons]at hk;conv=>whnf
  refine ag (fun _=>?_) (fun h=>absurd h (by simp;omega));conv=>whnf
  refine af ?_;conv=>whnf
  have EM:((q:Int)+1).tmod (((l.map Pt.cells).length:Nat):Int)=(((q+1)%l.length:Nat):Int):=by
   rw[List.length_map,Int.tmod_eq_emod_of_nonneg (by omega)];first|exact(Int.natCast_mod _ _).symm|exact(Int.natCast_emod _ _).symm|norm_cast
  rw[EM];have Rj:(q+1)%l.length<l.length:=Nat.mod_lt _ (by omega);generalize sk:(q+1)%l.length=k at Rj;refine ag (fun _=>?_) (fun h=>absurd h (by simp;rintro rfl;simp at Cm));conv=>whnf
  refine ba (T:=tys) ao (by exact ai mixed ao (by decide +kernel)) (List.range l.length) (fun n (_:Unit)=>⟨[(0,.d (g9 l)),(3,.d (i64 q)),(4,.d (i64 k)),(5,.d (i64 n))],[],st⟩) (fun n r _=>qz l q=r.all (lQ l q)) () aI rfl ?_ ?_
  ·rintro n n' r2 _ AR hn MP iQ
   have Zy:=xY AR;subst Zy;have nh:n'<l.length:=by simpa using hn
   rw[List.all_cons]at iQ;have XG:=hp _ (yN Rj);have FU:=hp _ (yN Cm);have K0:=hp _ (yN nh);conv=>whnf
   refine ag (fun _=>?_) (fun h=>absurd h (by simp;omega));conv=>whnf
   have zd:lQ l q n'=(decide (n'=q)||decide (n'=k)||decide (0<aR ((gd l k).sub (gd l q)) ((gd l n').sub (gd l q)))):=by unfold lQ;rw[sk]
   refine ag (fun h1=>?_) (fun h1=>?_)
   ·have h1:n'≠q:=by simp at h1;omega
    conv=>whnf
    refine ag (fun h2=>?_) (fun h2=>?_)
    ·have h2:n'≠k:=by simp at h2;omega
     rw[decide_eq_false h1,decide_eq_false h2,Bool.false_or,Bool.false_or]at zd;conv=>whnf
     refine au (tY Rj) ?_;conv=>whnf
     refine au (tY Cm) ?_;conv=>whnf
     refine al (ds:=[(gd l k).d,(gd l q).d]) (LI (gd l k) (gd l q) (XG.mono (by omega)) (FU.mono (by omega))) rfl rfl ?_;conv=>whnf
     refine au (tY nh) ?_;conv=>whnf
     refine au (tY Cm) ?_;conv=>whnf
     refine al (ds:=[(gd l n').d,(gd l q).d]) (LI (gd l n') (gd l q) (K0.mono (by omega)) (FU.mono (by omega))) rfl rfl ?_;conv=>whnf
     refine al (ds:=[((gd l k).sub (gd l q)).d,((gd l n').sub (gd l q)).d]) (LJ _ _ ((XG.sub FU).mono (by omega)) ((K0.sub FU).mono (by omega))) rfl rfl ?_;conv=>whnf
     refine ag (fun h3=>?_) (fun h3=>?_)
     ·have h3:aR ((gd l k).sub (gd l q)) ((gd l n').sub (gd l q))<=0:=of_decide_eq_true h3
      rw[decide_eq_false (by omega)]at zd;rw[zd,Bool.false_and]at iQ;rw[iQ,Bool.false_and]at hk;rw[hk];conv=>whnf
      exact ae
     ·have h3:¬ aR ((gd l k).sub (gd l q)) ((gd l n').sub (gd l q))<=0:=of_decide_eq_false h3
      rw[decide_eq_true (by omega)]at zd;rw[zd,Bool.true_and]at iQ;conv=>whnf
      refine af ?_;conv=>whnf
      exact⟨(),iQ,Wk.sub ⟨rfl,rfl,rfl,congrArg (fun z=>some (V.d (i64 z))) (by omega),trivial⟩ trivial⟩
    ·have h2:n'=k:=by simp at h2;omega
     rw[decide_eq_true h2,Bool.or_true,Bool.true_or]at zd;rw[zd,Bool.true_and]at iQ;conv=>whnf
     refine af ?_;conv=>whnf
     exact⟨(),iQ,Wk.sub ⟨rfl,rfl,rfl,congrArg (fun z=>some (V.d (i64 z))) (by omega),trivial⟩ trivial⟩
   ·have h1:n'=q:=by simp at h1;omega
    rw[decide_eq_true h1,Bool.true_or,Bool.true_or]at zd;rw[zd,Bool.true_and]at iQ;conv=>whnf
    refine af ?_;conv=>whnf
    exact⟨(),iQ,Wk.sub ⟨rfl,rfl,rfl,congrArg (fun z=>some (V.d (i64 z))) (by omega),trivial⟩ trivial⟩
  ·rintro _ iQ
   conv=>whnf
   refine ag (fun h=>absurd h (by simp)) (fun _=>?_);rw[iQ]at hk;conv=>whnf
   refine af ?_;conv=>whnf
   exact⟨(),hk,Wk.sub ⟨rfl,congrArg (fun z=>some (V.d (i64 z))) (by omega),trivial⟩ trivial⟩
 ·rintro _ hk
  conv=>whnf
  refine ag (fun h=>absurd h (by simp)) (fun _=>?_);conv=>whnf
  rw[hk];exact ae
def oC(s:gC):Int:=
 if a6 s.az.length 3 8 then (if (s.az.all fun p=>bW 10000 p) then (if nL 500 s.dS=0 then (if qx s.az then 0 else 9) else nL 500 s.dS) else 7) else 3
set_option maxHeartbeats 2000000 in
theorem Te(s:gC):aX Tryz.prog 62 [s.d] (i64 (oC s)):=by
 refine aB Tryz.func62 rfl (ft:=UF) 1 fun {σ} Y st=>?_;conv=>whnf
 refine ak (nS s.az.length 3 8) rfl 1 (by simp;rfl) ?_
 cases h1:a6 (s.az.length:Int) 3 8 with
 | false=>
  have he:oC s=3:=by unfold oC;rw[h1];rfl
  rw[he];conv=>whnf
  exact ae
 | true=>
  have QK:=h1;rw[bq]at h1;have he:oC s=if (s.az.all fun p=>bW 10000 p) then (if nL 500 s.dS=0 then (if qx s.az then 0 else 9) else nL 500 s.dS) else 7:=by unfold oC;rw[QK,if_pos rfl]
  conv=>whnf
  refine ba (T:=tys) ao (by exact ai mixed ao (by decide +kernel)) s.az (fun i (_:Unit)=>⟨[(1,.ptr 1 0),(3,.d (i64 i))],[(1,.box (.dd s.cells))],st⟩) (fun i r _=>(s.az.all fun p=>bW 10000 p)=r.all fun p=>bW 10000 p) () aI rfl ?_ ?_
  ·rintro i p r _ Hf hi hr hk
   rw[List.all_cons]at hk;conv=>whnf
   refine ag (fun _=>?_) (fun h=>absurd hi (by simpa using h));conv=>whnf
   refine au Hf ?_;conv=>whnf
   refine ak (ds:=[p.d,i64 10000]) (Lw p 10000 (by omega)) rfl 1 rfl ?_
   cases hw:bW 10000 p with
   | false=>
    rw[hw,Bool.false_and]at hk;rw[hk,if_neg (by simp)]at he;rw[he];conv=>whnf
    exact ae
   | true=>
    rw[hw,Bool.true_and]at hk;conv=>whnf
    refine af ?_;conv=>whnf
    exact⟨(),hk,aI⟩
  ·rintro _ hk
   have hk:(s.az.all fun p=>bW 10000 p)=true:=hk;rw[hk,if_pos rfl]at he;have hp:∀ p∈s.az,jZ 10000 p:=by
    intro p hp;exact within_iff.1 (List.all_eq_true.1 hk p hp)
   conv=>whnf
   refine ag (fun h=>absurd h (by simp)) (fun _=>?_);conv=>whnf
   refine ak (ds:=[s.dS.d,i64 (-500),i64 500]) (S8 s.dS 500 (by omega)) rfl 1 rfl ?_;conv=>whnf
   refine ag (fun h3=>?_) (fun h3=>?_)
   ·have h3:nL 500 s.dS=0:=by simpa using h3
    rw[if_pos h3]at he;rw[h3];conv=>whnf
    refine ak (ds:=[g9 s.az]) (Of s.az (by omega) hp) rfl 1 rfl ?_
    cases hr:qx s.az with
    | true=>
     rw[hr,if_pos rfl]at he;rw[he];conv=>whnf
     exact ae
    | false=>
     rw[hr,if_neg (by simp)]at he;rw[he];conv=>whnf
     exact ae
   ·have h3:¬ nL 500 s.dS=0:=by simpa using h3
    rw[if_neg h3]at he;rw[he];conv=>whnf
    exact ae
def ky(ns:List ByteArray)(m:Mark):Int:=
 if dM m.name ns=0 then (if Au m then 7 else fw m.cg) else dM m.name ns
def lF:List ByteArray->Int->List Mark->(Int×Int) ⊕ List ByteArray
 | ns,_,[]=>.inr ns
 | ns,i,m::r=>if ky ns m=0 then lF (ns ++ [m.name]) (i+1) r else .inl (i,ky ns m)
def mX(ns:List ByteArray)(s:gC):Int:=if dM s.name ns=0 then oC s else dM s.name ns
def mY:List ByteArray->Int->List gC->Int×Int×Int
 | _,_,[]=>(0,0,0)
 | ns,i,s::r=>if mX ns s=0 then mY (ns ++ [s.name]) (i+1) r else (2,i,mX ns s)
def hX(c:pE):Int×Int×Int:=
 if c.marks.length>8 then (1,0,3) else match lF [] 0 c.marks with
 | .inl (i,e)=>(1,i,e)
 | .inr ns=>if c.eR.length>4 then (2,0,3) else mY ns 0 c.eR
def fU(l:List ByteArray):List (List D):=l.map fun s=>[.str s]
set_option maxHeartbeats 4000000 in
theorem S4(c:pE):aX Tryz.prog 15 [c.d] (.tup [i64 (hX c).1,i64 (hX c).2.1,i64 (hX c).2.2]):=by
 refine aB Tryz.func15 rfl (ft:=TX) 1 fun {σ} Y st=>?_;conv=>whnf
 refine ag (fun h0=>?_) (fun h0=>?_)
 ·have h0:c.marks.length>8:=by have:=of_decide_eq_true h0;simp at this;omega
  have he:hX c=(1,0,3):=by unfold hX;rw[if_pos h0]
  rw[he];conv=>whnf
  exact ae
 have h0:¬ c.marks.length>8:=by have:=of_decide_eq_false h0;simp at this;omega
 have he:hX c=match lF [] 0 c.marks with
  | .inl (i,e)=>(1,i,e)
  | .inr ns=>if c.eR.length>4 then (2,0,3) else mY ns 0 c.eR:=by unfold hX;rw[if_neg h0]
 conv=>whnf
 refine ba (T:=tys) ao (by exact ai mixed ao (by decide +kernel)) c.marks (fun i (ns:List ByteArray)=>⟨[(1,.ptr 1 0),(5,.sl 900001 1 0 ns.length),(6,.d (i64 i))],[(1,.box (.dd c.cells)),(900001,.arr 1 (.dd (fU ns)))],st⟩) (fun i r ns=>ns.length<=i/\lF [] 0 c.marks=lF ns i r) [] ((Wk.born 5 900001 1 rfl rfl rfl).trans aI) ⟨by simp,rfl⟩ ?_ ?_
 ·rintro i m r ns AQ hi hr ⟨zY,hk⟩
  rw[lF]at hk;conv=>whnf
  refine ag (fun _=>?_) (fun h=>absurd hi (by simpa using h));conv=>whnf
  refine au AQ ?_;conv=>whnf
  refine ak (I1 m.name ns (by omega)) rfl 1 (aG rfl (aG (cB rfl (by simp[fU])) rfl)) ?_;conv=>whnf
  refine aK rfl ?_;conv=>whnf
  refine aK (by simp[a7.len,fU]) ?_;conv=>whnf
  refine bc (decide_eq_true (by show((fU ns).length+1)*16<=_;simp only[fU,List.length_map];omega)) ?_;conv=>whnf
  by_cases hf:dM m.name ns=0;case neg=>
   have hm:ky ns m=dM m.name ns:=by unfold ky;rw[if_neg hf]
   rw[hm,if_neg hf]at hk;have u7:hX c=(1,(i:Int),dM m.name ns):=by rw[he,hk]
   rw[u7,decide_eq_false hf];conv=>whnf
   refine ag (fun h=>absurd h (by simp[hf])) (fun _=>?_);conv=>whnf
   refine ag (fun _=>?_) (fun h=>absurd h (by simp[hf]));conv=>whnf
   exact ae
  rw[decide_eq_true hf];conv=>whnf
  refine ak (ds:=[m.jz.d,i64 30000]) (Lw m.jz 30000 (by omega)) rfl 1 rfl ?_
  cases hw:bW 30000 m.jz with
  | false=>
   have hm:ky ns m=7:=by unfold ky Au;rw[if_pos hf,hw];rfl
   rw[hm,if_neg (by simp)]at hk;have u7:hX c=(1,(i:Int),7):=by rw[he,hk]
   rw[u7];conv=>whnf
   exact ae
  | true=>
   have hm:ky ns m=fw m.cg:=by unfold ky Au;rw[if_pos hf,hw];rfl
   rw[hm]at hk;conv=>whnf
   refine ag (fun _=>?_) (fun h=>absurd h (by simp[hf]));conv=>whnf
   refine ah (Td m.cg) rfl rfl ?_;conv=>whnf
   refine ag (fun hp=>?_) (fun hp=>?_)
   ·have hp:¬ fw m.cg=0:=by simpa using hp
    rw[if_neg hp]at hk;have u7:hX c=(1,(i:Int),fw m.cg):=by rw[he,hk]
    rw[u7];conv=>whnf
    exact ae
   ·have hp:fw m.cg=0:=by simpa using hp
    rw[if_pos hp]at hk;conv=>whnf
    refine af ?_;conv=>whnf
    exact⟨ns ++ [m.name],⟨by simp;omega,hk⟩,(Wk.move 35 900001 rfl rfl).trans (Wk.sub ⟨rfl,congrArg (fun z:Nat=>some (V.sl 900001 1 0 z)) (by simp[a7.len,fU]),congrArg (fun z=>some (V.d (i64 z))) (by omega),trivial⟩ ⟨rfl,congrArg (fun z=>some (Obj.arr 1 (.dd z))) (by simp[fU]),trivial⟩)⟩
 ·rintro ns ⟨zY,hk⟩
  have u7:hX c=if c.eR.length>4 then (2,0,3) else mY ns 0 c.eR:=by rw[he,hk,lF]
  conv=>whnf
  refine ag (fun h=>absurd h (by simp)) (fun _=>?_);conv=>whnf
  refine ag (fun h1=>?_) (fun h1=>?_)
  ·have h1:c.eR.length>4:=by have:=of_decide_eq_true h1;simp at this;omega
   rw[if_pos h1]at u7;rw[u7];conv=>whnf
   exact ae
  have h1:¬ c.eR.length>4:=by have:=of_decide_eq_false h1;simp at this;omega
  rw[if_neg h1]at u7;conv=>whnf
  refine ba (T:=tys) ao (by exact ai mixed ao (by decide +kernel)) c.eR (fun i (ns:List ByteArray)=>⟨[(1,.ptr 1 0),(5,.sl 900001 1 0 ns.length),(9,.d (i64 i))],[(1,.box (.dd c.cells)),(900001,.arr 1 (.dd (fU ns)))],st⟩) (fun i r ns=>ns.length<=8+i/\hX c=mY ns i r) ns aI ⟨by omega,u7⟩ ?_ ?_
  ·rintro i m r ns AQ hi hr ⟨zY,hk⟩
   rw[mY]at hk;conv=>whnf
   refine ag (fun _=>?_) (fun h=>absurd hi (by simpa using h));conv=>whnf
   refine au AQ ?_;conv=>whnf
   refine ak (I1 m.name ns (by omega)) rfl 1 (aG rfl (aG (cB rfl (by simp[fU])) rfl)) ?_;conv=>whnf
   refine au AQ ?_;conv=>whnf
   refine aK rfl ?_;conv=>whnf
   refine aK (by simp[a7.len,fU]) ?_;conv=>whnf
   refine bc (decide_eq_true (by show((fU ns).length+1)*16<=_;simp only[fU,List.length_map];omega)) ?_;conv=>whnf
   by_cases hf:dM m.name ns=0;case neg=>
    have hm:mX ns m=dM m.name ns:=by unfold mX;rw[if_neg hf]
    rw[hm,if_neg hf]at hk;rw[hk,decide_eq_false hf];conv=>whnf
    refine ag (fun _=>?_) (fun h=>absurd h (by simp[hf]));conv=>whnf
    exact ae
   have hm:mX ns m=oC m:=by unfold mX;rw[if_pos hf]
   rw[hm]at hk;rw[decide_eq_true hf];conv=>whnf
   refine au AQ ?_;conv=>whnf
   refine ak (ds:=[m.d]) (Te m) rfl 1 rfl ?_;conv=>whnf
   refine ag (fun hp=>?_) (fun hp=>?_)
   ·have hp:¬ oC m=0:=by simpa using hp
    rw[if_neg hp]at hk;rw[hk];conv=>whnf
    exact ae
   ·have hp:oC m=0:=by simpa using hp
    rw[if_pos hp]at hk;conv=>whnf
    refine af ?_;conv=>whnf
    exact⟨ns ++ [m.name],⟨by simp;omega,hk⟩,(Wk.move 80 900001 rfl rfl).trans (Wk.sub ⟨rfl,congrArg (fun z:Nat=>some (V.sl 900001 1 0 z)) (by simp[a7.len,fU]),congrArg (fun z=>some (V.d (i64 z))) (by omega),trivial⟩ ⟨rfl,congrArg (fun z=>some (Obj.arr 1 (.dd z))) (by simp[fU]),trivial⟩)⟩
  ·rintro ns ⟨zY,hk⟩
   rw[mY]at hk;rw[hk];conv=>whnf
   refine ag (fun h=>absurd h (by simp)) (fun _=>?_);conv=>whnf
   exact ae
theorem rH(x:Pt×Pt):∀ (l:List Pt) (n:Int),lH x l n=n+(l.countP fun p=>decide (aR x.2 (p.sub x.1)<=0):Nat)
 | [],n=>by simp[lH]
 | p::r,n=>by
  rw[lH,rH x r,List.countP_cons];by_cases h:aR x.2 (p.sub x.1)<=0
  ·simp[h];omega
  ·simp[h]
theorem JI(l:List Pt):(List.range l.length).map (gd l)=l:=by
 apply List.ext_getElem
 ·simp
 ·intro i h1 h2
  simp[gd,h2]
theorem Ez{l:List Nat}(hn:l.Nodup){i k:Nat}(hi:i∈l)(hk:k∈l)(V3:i≠k)(g:Nat->Bool)(gi:g i=true)(gk:g k=true):l.countP g=2 ↔ ∀ n∈l,n≠i->n≠k->g n=false:=by
 have dC:k∈l.erase i:=(List.mem_erase_of_ne (Ne.symm V3)).2 hk;have e1:l.countP g=(l.erase i).countP g+1:=by
  rw[(List.perm_cons_erase hi).countP_eq g,List.countP_cons_of_pos gi]
 have e2:(l.erase i).countP g=((l.erase i).erase k).countP g+1:=by
  rw[(List.perm_cons_erase dC).countP_eq g,List.countP_cons_of_pos gk]
 have e3:l.countP g=2↔((l.erase i).erase k).countP g=0:=by omega
 rw[e3,List.countP_eq_zero];have sq:(l.erase i).Nodup:=hn.erase i;constructor
 ·intro h n so h1 h2
  have:=h n (sq.mem_erase_iff.2 ⟨h2,hn.mem_erase_iff.2 ⟨h1,so⟩⟩);simpa using this
 ·intro h n so
  obtain⟨h2,h3⟩:=sq.mem_erase_iff.1 so;obtain⟨h1,h4⟩:=hn.mem_erase_iff.1 h3;simp[h n h4 h1 h2]
theorem BK{s:gC}(h3:3<=s.az.length){i k:Nat}(hi:i<s.az.length)(hk:k<s.az.length)(V3:i≠k)(EN:(i+1)%s.az.length=k) :
  iA s (gd s.az i,(gd s.az k).sub (gd s.az i))=qz s.az i:=by
 have hz:∀ b:Pt,aR b ⟨0,0⟩=0:=fun b=>by simp[aR]
 have hb:∀ b:Pt,aR b b=0:=fun b=>by simp[aR,Int.mul_comm]
 have hs:∀ b:Pt,b.sub b=⟨0,0⟩:=fun b=>by simp[Pt.sub]
 generalize hl:s.az=l at *;generalize QY:(gd l k).sub (gd l i)=b
 let g:Nat->Bool:=fun n=>decide (aR b ((gd l n).sub (gd l i))<=0)
 have gi:g i=true:=by show decide _=true;rw[hs,hz];rfl
 have gk:g k=true:=by show decide _=true;rw[QY,hb];rfl
 have VO:lH (gd l i,b) l 0=2 ↔ ∀ n<l.length,n≠i->n≠k->g n=false:=by
  have h1:=rH (gd l i,b) l 0;have h2:(l.countP fun p=>decide (aR b (p.sub (gd l i))<=0))=(List.range l.length).countP g:=by
   have h5:=List.countP_map (p:=fun p=>decide (aR b (p.sub (gd l i))<=0)) (f:=gd l) (l:=List.range l.length);rw[JI]at h5;exact h5
  have h3:=Ez (List.nodup_range (n:=l.length)) (List.mem_range.2 hi) (List.mem_range.2 hk) V3 g gi gk;rw[h1,h2];constructor
  ·intro h n hn
   exact h3.1 (by omega) n (List.mem_range.2 hn)
  ·intro h
   have:=h3.2 fun n hn=>h n (List.mem_range.1 hn);omega
 obtain⟨t,ht,fk,vh⟩:∃ t<l.length,t≠i/\t≠k:=by
  by_cases h0:0≠i/\0≠k
  ·exact⟨0,by omega,h0⟩
  by_cases h1:1≠i/\1≠k
  ·exact⟨1,by omega,h1⟩
  ·exact⟨2,by omega,by omega,by omega⟩
 have MV:qz l i=true ↔ ∀ n<l.length,n≠i->n≠k->0<aR b ((gd l n).sub (gd l i)):=by
  unfold qz;rw[List.all_eq_true];constructor
  ·intro h n hn h1 h2
   have:=h n (List.mem_range.2 hn);unfold lQ at this;rw[EN,QY]at this;simpa[h1,h2]using this
  ·intro h n hn
   have hn:=List.mem_range.1 hn;unfold lQ;rw[EN,QY];by_cases h1:n=i
   ·simp[h1]
   by_cases h2:n=k
   ·simp[h2]
   ·simp[h n hn h1 h2]
 rw[Bool.eq_iff_iff,MV];unfold iA;simp only[hl,Bool.and_eq_true,decide_eq_true_eq,Bool.not_eq_true',Bool.and_eq_false_imp,decide_eq_false_iff_not];rw[VO];constructor
 ·rintro ⟨h1,_⟩ n hn AR Zs
  have:=h1 n hn AR Zs;have:¬ aR b ((gd l n).sub (gd l i))<=0:=by simpa[g]using this
  omega
 ·intro h
  refine⟨fun n hn h1 h2=>?_,fun hx hy=>?_⟩
  ·have:=h n hn h1 h2
   show decide _=false;exact decide_eq_false (by omega)
  ·have:=h t ht fk vh
   unfold aR at this;rw[hx,hy]at this;simp at this
theorem wb:∀ (l:List Pt) (a:Pt),m3 a l=(List.range l.length).map fun j=>((if j=0 then a else gd l (j-1)),(gd l j).sub (if j=0 then a else gd l (j-1)))
 | [],_=>rfl
 | p::r,a=>by
  rw[m3,wb r p,List.length_cons,List.range_succ_eq_map,List.map_cons,List.map_map]
  congr 1
  apply List.map_congr_left;intro j hj;have h1:(if j=0 then p else gd r (j-1))=gd (p::r) j:=by
   cases j with
   | zero=>rfl
   | succ j=>simp[gd]
  have h2:gd (p::r) (j+1)=gd r j:=by simp[gd]
  show((if j=0 then p else gd r (j-1)),(gd r j).sub (if j=0 then p else gd r (j-1)))=_;simp only[Function.comp,Nat.succ_ne_zero,if_false,Nat.succ_sub_one,h1];rw[show Nat.succ j=j+1 from rfl,h2]
theorem BL{s:gC}(h3:3<=s.az.length):(kK s).all (iA s)=qx s.az:=by
 have Rl:A4 s.az=gd s.az (s.az.length-1):=rfl;unfold kK qx;rw[wb,Rl,List.all_map];have K6:∀ j<s.az.length,((iA s)∘fun j=>((if j=0 then gd s.az (s.az.length-1) else gd s.az (j-1)),(gd s.az j).sub (if j=0 then gd s.az (s.az.length-1) else gd s.az (j-1)))) j=qz s.az (if j=0 then s.az.length-1 else j-1):=by
  intro j hj;show iA s _=_;by_cases h0:j=0
  ·subst h0
   simp only[if_true];exact BK h3 (by omega) hj (by omega) (by rw[Nat.sub_add_cancel (by omega),Nat.mod_self])
  ·simp only[if_neg h0]
   exact BK h3 (by omega) hj (by omega) (by rw[Nat.sub_add_cancel (by omega),Nat.mod_eq_of_lt hj])
 rw[Bool.eq_iff_iff,List.all_eq_true,List.all_eq_true];constructor
 ·intro h i hi
  have hi:=List.mem_range.1 hi;have hk:(i+1)%s.az.length<s.az.length:=Nat.mod_lt _ (by omega);have:=h ((i+1)%s.az.length) (List.mem_range.2 hk);rw[K6 _ hk]at this;have he:(if (i+1)%s.az.length=0 then s.az.length-1 else (i+1)%s.az.length-1)=i:=by
   by_cases hl:i+1<s.az.length
   ·rw[Nat.mod_eq_of_lt hl,if_neg (by omega)];omega
   ·have:i+1=s.az.length:=by omega
    rw[this,Nat.mod_self,if_pos rfl];omega
  rw[he]at this;exact this
 ·intro h j hj
  have hj:=List.mem_range.1 hj;rw[K6 j hj];refine h _ (List.mem_range.2 ?_);split<;>omega
theorem Kb(s:gC):iH s=oC s:=by
 unfold iH oC
 cases h1:a6 (s.az.length:Int) 3 8 with
 | false=>rfl
 | true=>
  rw[bq]at h1;have e:(s.az.any fun p=>!bW 10000 p) = !(s.az.all fun p=>bW 10000 p):=by
   rw[List.any_eq_not_all_not];simp
  rw[e,BL (by omega)];cases s.az.all fun p=>bW 10000 p<;>simp
def Ac(m:uz)(ns:List ByteArray):Prop:=∀ n,0<=(getM m n).getD 0/\(0<(getM m n).getD 0↔n∈ns)
theorem Ac.inc{m:uz}{ns:List ByteArray}(h:Ac m ns)(n:ByteArray):Ac (kS m n) (ns ++ [n]):=by
 intro u;unfold kS;rw[re];split
 ·rename_i hu
  subst hu;have:=(h u).1;simp;omega
 ·rename_i hu
  have:=h u;refine⟨this.1,?_⟩;rw[this.2];simp[hu]
theorem Az{m:uz}{ns:List ByteArray}(h:Ac m ns)(n:ByteArray):dB m n=dM n ns:=by
 have hn:=h n;unfold dB dM;have wI:(ns.any fun y=>decide (y=n))=true↔n∈ns:=by simp
 by_cases hm:n∈ns
 ·have:=hn.2.2 hm
  rw[if_pos (show(getM m n).getD 0+1>1 by omega),if_pos (wI.2 hm)]
 ·have:¬ 0<(getM m n).getD 0:=fun h=>hm (hn.2.1 h)
  rw[if_neg (show ¬ (getM m n).getD 0+1>1 by omega),if_neg (fun h=>hm (wI.1 h))]
theorem Bc:∀ (l:List Mark) (m:uz) (ns:List ByteArray) (i:Int),Ac m ns->(∃ e,iv m i l = .inl e/\lF ns i l = .inl e) \/ ∃ m' Nf,iv m i l = .inr m'/\lF ns i l = .inr Nf/\Ac m' Nf
 | [],m,ns,i,h=>.inr ⟨m,ns,rfl,rfl,h⟩
 | x::r,m,ns,i,h=>by
  have he:oc m x=ky ns x:=by unfold oc ky;rw[Az h]
  rw[iv,lF,he];by_cases h0:ky ns x=0
  ·rw[if_pos h0,if_pos h0]
   exact Bc r _ _ _ (h.inc x.name)
  ·rw[if_neg h0,if_neg h0]
   exact .inl ⟨_,rfl,rfl⟩
theorem BG:∀ (l:List gC) (m:uz) (ns:List ByteArray) (i:Int),Ac m ns->kJ m i l=mY ns i l
 | [],_,_,_,_=>rfl
 | x::r,m,ns,i,h=>by
  have he:mW m x=mX ns x:=by unfold mW mX;rw[Az h,Kb]
  rw[kJ,mY,he];by_cases h0:mX ns x=0
  ·rw[if_pos h0,if_pos h0]
   exact BG r _ _ _ (h.inc x.name)
  ·rw[if_neg h0,if_neg h0]
theorem Gm(c:pE):cD c=hX c:=by
 unfold cD hX;have h0:Ac [] []:=fun n=>by simp[getM]
 rcases Bc c.marks [] [] 0 h0 with⟨e,h1,h2⟩|⟨m',Nf,h1,h2,h3⟩
 ·rw[h1,h2]
 ·rw[h1,h2]
  simp only;rw[BG c.eR m' Nf 0 h3]
theorem Kz(c:pE):aX Tryz.prog 15 [c.d] (.tup [i64 (cD c).1,i64 (cD c).2.1,i64 (cD c).2.2]):=aX.cast (S4 c) (by rw[Gm])
theorem Tf(c:pE)(day k:Int):aX Tryz.prog 128 [c.d,i64 day,i64 k] (i64 (ga c day k)):=by
 refine aB Tryz.func128 rfl (ft:=Pn) 3 fun {σ} Y st=>?_;conv=>whnf
 refine ah (Kz c) rfl rfl ?_;conv=>whnf
 by_cases h0:(cD c).2.2=0;case neg=>
  have he:ga c day k=(cD c).2.2:=by unfold ga;rw[if_neg h0]
  rw[he,decide_eq_false h0];conv=>whnf
  refine ag (fun h=>absurd h (by simp[h0])) (fun _=>?_);conv=>whnf
  exact ae
 have he:ga c day k=if a6 day 0 40000 then (if a6 k 0 ((c.marks.length:Int)-1) then 0 else 4) else 7:=by unfold ga;rw[if_pos h0]
 have KW:=(fj h0).marks;rw[decide_eq_true h0];conv=>whnf
 refine ah (nS day 0 40000) rfl rfl ?_;conv=>whnf
 cases h1:a6 day 0 40000 with
 | false=>
  rw[h1,if_neg (by simp)]at he;rw[he];conv=>whnf
  exact ae
 | true=>
  rw[h1,if_pos rfl]at he;conv=>whnf
  refine ag (fun _=>?_) (fun h=>absurd h (by simp[h0]));conv=>whnf
  refine aA ((c.marks.length:Int)-1) (by simp) (wrap_i64 (by omega)) ?_;conv=>whnf
  refine ah (nS k 0 ((c.marks.length:Int)-1)) rfl rfl ?_;conv=>whnf
  cases h2:a6 k 0 ((c.marks.length:Int)-1) with
  | false=>
   rw[h2,if_neg (by simp)]at he;rw[he];conv=>whnf
   exact ae
  | true=>
   rw[h2,if_pos rfl]at he;rw[he,h0];conv=>whnf
   exact ae
theorem vz{c:pE}{day k:Int}(h:ga c day k=0):∃ j:Nat,k=j/\c.marks[j]?=some (gl c day k):=by
 have he:=h;unfold ga at h;split at h;case isFalse=>rename_i h1;exact absurd h h1
 split at h;case isFalse=>cases h
 split at h;case isFalse=>cases h
 rename_i h3;rw[bq]at h3;refine⟨k.toNat,by omega,?_⟩;have hk:k.toNat<c.marks.length:=by omega
 unfold gl;rw[if_pos he,List.getElem?_eq_getElem hk];rfl
theorem D1{c:pE}{day k:Int}(h:ga c day k=0):(gl c day k).cg.length<1000000:=by
 obtain⟨hR,hm⟩:=zq h;have h2:=(hR.mark _ hm).2;unfold fw at h2;split at h2;case isFalse=>cases h2
 rename_i h3;rw[bq]at h3;omega
theorem Bb{c:pE}{day k:Int}(h:ga c day k=0):rF day (gl c day k).cg 0=oa c day k:=by
 unfold oa;rw[if_pos h,<- Bs day _ _ (Nat.le_refl _),List.take_length]
theorem Ti(c:pE)(day k:Int):aX Tryz.prog 91 [c.d,i64 day,i64 k] (i64 (nz c day k)):=by
 refine aB Tryz.func91 rfl (ft:=U0) 3 fun {σ} Y st=>?_;conv=>whnf
 refine ah (Tf c day k) rfl rfl ?_;conv=>whnf
 by_cases h0:ga c day k=0;case neg=>
  have he:nz c day k=ga c day k:=by unfold nz;rw[if_neg h0]
  rw[he,decide_eq_false h0];conv=>whnf
  exact ae
 have he:nz c day k=if oa c day k=0 then 9 else 0:=by unfold nz;rw[if_pos h0]
 obtain⟨j,rfl,hj⟩:=vz h0;have hm:=D1 h0;have hp:=Bb h0;rw[he,h0];generalize gl c day j=m at *;conv=>whnf
 refine au hj ?_;conv=>whnf
 refine ak (ds:=[m.d,i64 day]) (On m day hm) rfl 1 rfl ?_;rw[hp];conv=>whnf
 refine ag (fun h1=>?_) (fun h1=>?_)
 ·rw[if_pos (of_decide_eq_true h1)]
  conv=>whnf
  exact ae
 ·rw[if_neg (of_decide_eq_false h1)]
  conv=>whnf
  exact ae
theorem yR(v:Pt):∀ (l:List Pt) (n:Int),n<=fJ v l n/\fJ v l n<=n+l.length
 | [],n=>by simp[fJ]
 | q::r,n=>by
  have:=yR v r (if aR q v<=0 then n+1 else n);rw[fJ,List.length_cons];split at this<;>split<;>first|omega|contradiction
theorem Da{v:Pt}(hz:NZ v):0<=(wo (dq v) v).x:=by
 unfold NZ at hz;unfold dq;split
 ·show 0<=v.x;omega
 ·split
  ·show 0 <= -v.y;omega
  ·split
   ·show 0 <= -v.x;omega
   ·show 0 <= - -v.y;omega
theorem zO{v:Pt}(hz:NZ v):0<=jX v/\jX v<=31:=by
 have hx:=Da hz;have hq:=D9 v;unfold jX;generalize wo (dq v) v=u at hx ⊢;have h1:aR ⟨0,1000⟩ u<=0:=by
  unfold aR;simp only;omega
 have h2:=yR u cj (8*dq v);have h3:fJ u cj (8*dq v)=fJ u cj.tail (8*dq v+1):=by
  show fJ u (⟨0,1000⟩::cj.tail) _=_;rw[fJ,if_pos h1]
 have h4:=yR u cj.tail (8*dq v+1);have h5:cj.length=8:=rfl;omega
def Xf(f:Nat->Int):List D:=[i64 (f 0),i64 (f 1),i64 (f 2),i64 (f 3),i64 (f 4),i64 (f 5),i64 (f 6),i64 (f 7),i64 (f 8),i64 (f 9),i64 (f 10),i64 (f 11),i64 (f 12),i64 (f 13),i64 (f 14),i64 (f 15),i64 (f 16),i64 (f 17),i64 (f 18),i64 (f 19),i64 (f 20),i64 (f 21),i64 (f 22),i64 (f 23),i64 (f 24),i64 (f 25),i64 (f 26),i64 (f 27),i64 (f 28),i64 (f 29),i64 (f 30),i64 (f 31)]
def fv(t:Nat)(x y:Int):Prop:=
 match t with
 | 0=>0<195*y-981*x
 | 1=>195*y-981*x<=0/\0<383*y-924*x
 | 2=>383*y-924*x<=0/\0<556*y-831*x
 | 3=>556*y-831*x<=0/\0<707*y-707*x
 | 4=>707*y-707*x<=0/\0<831*y-556*x
 | 5=>831*y-556*x<=0/\0<924*y-383*x
 | 6=>924*y-383*x<=0/\0<981*y-195*x
 | 7=>981*y-195*x<=0
 | _=>False
theorem oN{x y:Int}(hx:0<=x)(hy:0<y)(m:Int):∃ t:Nat,t<8/\fJ ⟨x,y⟩ cj m=m+t+1/\fv t x y:=by
 by_cases c1:195*y-981*x<=0;case neg=>
  have h0:aR ⟨0,1000⟩ (⟨x,y⟩:Pt)<=0:=by show 0*y-1000*x<=0;omega
  have h1:¬ aR ⟨195,981⟩ (⟨x,y⟩:Pt)<=0:=by show ¬ 195*y-981*x<=0;omega
  have h2:¬ aR ⟨383,924⟩ (⟨x,y⟩:Pt)<=0:=by show ¬ 383*y-924*x<=0;omega
  have h3:¬ aR ⟨556,831⟩ (⟨x,y⟩:Pt)<=0:=by show ¬ 556*y-831*x<=0;omega
  have h4:¬ aR ⟨707,707⟩ (⟨x,y⟩:Pt)<=0:=by show ¬ 707*y-707*x<=0;omega
  have h5:¬ aR ⟨831,556⟩ (⟨x,y⟩:Pt)<=0:=by show ¬ 831*y-556*x<=0;omega
  have h6:¬ aR ⟨924,383⟩ (⟨x,y⟩:Pt)<=0:=by show ¬ 924*y-383*x<=0;omega
  have h7:¬ aR ⟨981,195⟩ (⟨x,y⟩:Pt)<=0:=by show ¬ 981*y-195*x<=0;omega
  refine⟨0,by omega,?_,(by show _<_;omega)⟩;show fJ _ [⟨0,1000⟩,⟨195,981⟩,⟨383,924⟩,⟨556,831⟩,⟨707,707⟩,⟨831,556⟩,⟨924,383⟩,⟨981,195⟩] m=_;simp only[fJ,if_pos h0,if_neg h1,if_neg h2,if_neg h3,if_neg h4,if_neg h5,if_neg h6,if_neg h7];omega
 by_cases c2:383*y-924*x<=0;case neg=>
  have h0:aR ⟨0,1000⟩ (⟨x,y⟩:Pt)<=0:=by show 0*y-1000*x<=0;omega
  have h1:aR ⟨195,981⟩ (⟨x,y⟩:Pt)<=0:=by show 195*y-981*x<=0;omega
  have h2:¬ aR ⟨383,924⟩ (⟨x,y⟩:Pt)<=0:=by show ¬ 383*y-924*x<=0;omega
  have h3:¬ aR ⟨556,831⟩ (⟨x,y⟩:Pt)<=0:=by show ¬ 556*y-831*x<=0;omega
  have h4:¬ aR ⟨707,707⟩ (⟨x,y⟩:Pt)<=0:=by show ¬ 707*y-707*x<=0;omega
  have h5:¬ aR ⟨831,556⟩ (⟨x,y⟩:Pt)<=0:=by show ¬ 831*y-556*x<=0;omega
  have h6:¬ aR ⟨924,383⟩ (⟨x,y⟩:Pt)<=0:=by show ¬ 924*y-383*x<=0;omega
  have h7:¬ aR ⟨981,195⟩ (⟨x,y⟩:Pt)<=0:=by show ¬ 981*y-195*x<=0;omega
  refine⟨1,by omega,?_,⟨by omega,by omega⟩⟩;show fJ _ [⟨0,1000⟩,⟨195,981⟩,⟨383,924⟩,⟨556,831⟩,⟨707,707⟩,⟨831,556⟩,⟨924,383⟩,⟨981,195⟩] m=_;simp only[fJ,if_pos h0,if_pos h1,if_neg h2,if_neg h3,if_neg h4,if_neg h5,if_neg h6,if_neg h7];omega
 by_cases c3:556*y-831*x<=0;case neg=>
  have h0:aR ⟨0,1000⟩ (⟨x,y⟩:Pt)<=0:=by show 0*y-1000*x<=0;omega
  have h1:aR ⟨195,981⟩ (⟨x,y⟩:Pt)<=0:=by show 195*y-981*x<=0;omega
  have h2:aR ⟨383,924⟩ (⟨x,y⟩:Pt)<=0:=by show 383*y-924*x<=0;omega
  have h3:¬ aR ⟨556,831⟩ (⟨x,y⟩:Pt)<=0:=by show ¬ 556*y-831*x<=0;omega
  have h4:¬ aR ⟨707,707⟩ (⟨x,y⟩:Pt)<=0:=by show ¬ 707*y-707*x<=0;omega
  have h5:¬ aR ⟨831,556⟩ (⟨x,y⟩:Pt)<=0:=by show ¬ 831*y-556*x<=0;omega
  have h6:¬ aR ⟨924,383⟩ (⟨x,y⟩:Pt)<=0:=by show ¬ 924*y-383*x<=0;omega
  have h7:¬ aR ⟨981,195⟩ (⟨x,y⟩:Pt)<=0:=by show ¬ 981*y-195*x<=0;omega
  refine⟨2,by omega,?_,⟨by omega,by omega⟩⟩;show fJ _ [⟨0,1000⟩,⟨195,981⟩,⟨383,924⟩,⟨556,831⟩,⟨707,707⟩,⟨831,556⟩,⟨924,383⟩,⟨981,195⟩] m=_;simp only[fJ,if_pos h0,if_pos h1,if_pos h2,if_neg h3,if_neg h4,if_neg h5,if_neg h6,if_neg h7];omega
 by_cases c4:707*y-707*x<=0;case neg=>
  have h0:aR ⟨0,1000⟩ (⟨x,y⟩:Pt)<=0:=by show 0*y-1000*x<=0;omega
  have h1:aR ⟨195,981⟩ (⟨x,y⟩:Pt)<=0:=by show 195*y-981*x<=0;omega
  have h2:aR ⟨383,924⟩ (⟨x,y⟩:Pt)<=0:=by show 383*y-924*x<=0;omega
  have h3:aR ⟨556,831⟩ (⟨x,y⟩:Pt)<=0:=by show 556*y-831*x<=0;omega
  have h4:¬ aR ⟨707,707⟩ (⟨x,y⟩:Pt)<=0:=by show ¬ 707*y-707*x<=0;omega
  have h5:¬ aR ⟨831,556⟩ (⟨x,y⟩:Pt)<=0:=by show ¬ 831*y-556*x<=0;omega
  have h6:¬ aR ⟨924,383⟩ (⟨x,y⟩:Pt)<=0:=by show ¬ 924*y-383*x<=0;omega
  have h7:¬ aR ⟨981,195⟩ (⟨x,y⟩:Pt)<=0:=by show ¬ 981*y-195*x<=0;omega
  refine⟨3,by omega,?_,⟨by omega,by omega⟩⟩;show fJ _ [⟨0,1000⟩,⟨195,981⟩,⟨383,924⟩,⟨556,831⟩,⟨707,707⟩,⟨831,556⟩,⟨924,383⟩,⟨981,195⟩] m=_;simp only[fJ,if_pos h0,if_pos h1,if_pos h2,if_pos h3,if_neg h4,if_neg h5,if_neg h6,if_neg h7];omega
 by_cases c5:831*y-556*x<=0;case neg=>
  have h0:aR ⟨0,1000⟩ (⟨x,y⟩:Pt)<=0:=by show 0*y-1000*x<=0;omega
  have h1:aR ⟨195,981⟩ (⟨x,y⟩:Pt)<=0:=by show 195*y-981*x<=0;omega
  have h2:aR ⟨383,924⟩ (⟨x,y⟩:Pt)<=0:=by show 383*y-924*x<=0;omega
  have h3:aR ⟨556,831⟩ (⟨x,y⟩:Pt)<=0:=by show 556*y-831*x<=0;omega
  have h4:aR ⟨707,707⟩ (⟨x,y⟩:Pt)<=0:=by show 707*y-707*x<=0;omega
  have h5:¬ aR ⟨831,556⟩ (⟨x,y⟩:Pt)<=0:=by show ¬ 831*y-556*x<=0;omega
  have h6:¬ aR ⟨924,383⟩ (⟨x,y⟩:Pt)<=0:=by show ¬ 924*y-383*x<=0;omega
  have h7:¬ aR ⟨981,195⟩ (⟨x,y⟩:Pt)<=0:=by show ¬ 981*y-195*x<=0;omega
  refine⟨4,by omega,?_,⟨by omega,by omega⟩⟩;show fJ _ [⟨0,1000⟩,⟨195,981⟩,⟨383,924⟩,⟨556,831⟩,⟨707,707⟩,⟨831,556⟩,⟨924,383⟩,⟨981,195⟩] m=_;simp only[fJ,if_pos h0,if_pos h1,if_pos h2,if_pos h3,if_pos h4,if_neg h5,if_neg h6,if_neg h7];omega
 by_cases c6:924*y-383*x<=0;case neg=>
  have h0:aR ⟨0,1000⟩ (⟨x,y⟩:Pt)<=0:=by show 0*y-1000*x<=0;omega
  have h1:aR ⟨195,981⟩ (⟨x,y⟩:Pt)<=0:=by show 195*y-981*x<=0;omega
  have h2:aR ⟨383,924⟩ (⟨x,y⟩:Pt)<=0:=by show 383*y-924*x<=0;omega
  have h3:aR ⟨556,831⟩ (⟨x,y⟩:Pt)<=0:=by show 556*y-831*x<=0;omega
  have h4:aR ⟨707,707⟩ (⟨x,y⟩:Pt)<=0:=by show 707*y-707*x<=0;omega
  have h5:aR ⟨831,556⟩ (⟨x,y⟩:Pt)<=0:=by show 831*y-556*x<=0;omega
  have h6:¬ aR ⟨924,383⟩ (⟨x,y⟩:Pt)<=0:=by show ¬ 924*y-383*x<=0;omega
  have h7:¬ aR ⟨981,195⟩ (⟨x,y⟩:Pt)<=0:=by show ¬ 981*y-195*x<=0;omega
  refine⟨5,by omega,?_,⟨by omega,by omega⟩⟩;show fJ _ [⟨0,1000⟩,⟨195,981⟩,⟨383,924⟩,⟨556,831⟩,⟨707,707⟩,⟨831,556⟩,⟨924,383⟩,⟨981,195⟩] m=_;simp only[fJ,if_pos h0,if_pos h1,if_pos h2,if_pos h3,if_pos h4,if_pos h5,if_neg h6,if_neg h7];omega
 by_cases c7:981*y-195*x<=0;case neg=>
  have h0:aR ⟨0,1000⟩ (⟨x,y⟩:Pt)<=0:=by show 0*y-1000*x<=0;omega
  have h1:aR ⟨195,981⟩ (⟨x,y⟩:Pt)<=0:=by show 195*y-981*x<=0;omega
  have h2:aR ⟨383,924⟩ (⟨x,y⟩:Pt)<=0:=by show 383*y-924*x<=0;omega
  have h3:aR ⟨556,831⟩ (⟨x,y⟩:Pt)<=0:=by show 556*y-831*x<=0;omega
  have h4:aR ⟨707,707⟩ (⟨x,y⟩:Pt)<=0:=by show 707*y-707*x<=0;omega
  have h5:aR ⟨831,556⟩ (⟨x,y⟩:Pt)<=0:=by show 831*y-556*x<=0;omega
  have h6:aR ⟨924,383⟩ (⟨x,y⟩:Pt)<=0:=by show 924*y-383*x<=0;omega
  have h7:¬ aR ⟨981,195⟩ (⟨x,y⟩:Pt)<=0:=by show ¬ 981*y-195*x<=0;omega
  refine⟨6,by omega,?_,⟨by omega,by omega⟩⟩;show fJ _ [⟨0,1000⟩,⟨195,981⟩,⟨383,924⟩,⟨556,831⟩,⟨707,707⟩,⟨831,556⟩,⟨924,383⟩,⟨981,195⟩] m=_;simp only[fJ,if_pos h0,if_pos h1,if_pos h2,if_pos h3,if_pos h4,if_pos h5,if_pos h6,if_neg h7];omega
 have h0:aR ⟨0,1000⟩ (⟨x,y⟩:Pt)<=0:=by show 0*y-1000*x<=0;omega
 have h1:aR ⟨195,981⟩ (⟨x,y⟩:Pt)<=0:=by show 195*y-981*x<=0;omega
 have h2:aR ⟨383,924⟩ (⟨x,y⟩:Pt)<=0:=by show 383*y-924*x<=0;omega
 have h3:aR ⟨556,831⟩ (⟨x,y⟩:Pt)<=0:=by show 556*y-831*x<=0;omega
 have h4:aR ⟨707,707⟩ (⟨x,y⟩:Pt)<=0:=by show 707*y-707*x<=0;omega
 have h5:aR ⟨831,556⟩ (⟨x,y⟩:Pt)<=0:=by show 831*y-556*x<=0;omega
 have h6:aR ⟨924,383⟩ (⟨x,y⟩:Pt)<=0:=by show 924*y-383*x<=0;omega
 have h7:aR ⟨981,195⟩ (⟨x,y⟩:Pt)<=0:=by show 981*y-195*x<=0;omega
 refine⟨7,by omega,?_,(by show _<=_;omega)⟩;show fJ _ [⟨0,1000⟩,⟨195,981⟩,⟨383,924⟩,⟨556,831⟩,⟨707,707⟩,⟨831,556⟩,⟨924,383⟩,⟨981,195⟩] m=_;simp only[fJ,if_pos h0,if_pos h1,if_pos h2,if_pos h3,if_pos h4,if_pos h5,if_pos h6,if_pos h7];omega
def br:List Pt:=[⟨0,1000⟩,⟨195,981⟩,⟨383,924⟩,⟨556,831⟩,⟨707,707⟩,⟨831,556⟩,⟨924,383⟩,⟨981,195⟩,⟨1000,0⟩,⟨981,-195⟩,⟨924,-383⟩,⟨831,-556⟩,⟨707,-707⟩,⟨556,-831⟩,⟨383,-924⟩,⟨195,-981⟩,⟨0,-1000⟩,⟨-195,-981⟩,⟨-383,-924⟩,⟨-556,-831⟩,⟨-707,-707⟩,⟨-831,-556⟩,⟨-924,-383⟩,⟨-981,-195⟩,⟨-1000,0⟩,⟨-981,195⟩,⟨-924,383⟩,⟨-831,556⟩,⟨-707,707⟩,⟨-556,831⟩,⟨-383,924⟩,⟨-195,981⟩]
theorem Gr:∀ p:Nat,p<32->(FE p).x=((br[p]?).getD ⟨0,0⟩).x/\(FE p).y=((br[p]?).getD ⟨0,0⟩).y:=by decide +kernel
theorem Gq(p:Nat)(hp:p<32):FE p=(br[p]?).getD ⟨0,0⟩:=by
 obtain⟨h1,h2⟩:=Gr p hp;cases hv:FE p
 cases hw:(br[p]?).getD ⟨0,0⟩
 rw[hv,hw]at h1 h2;simp only at h1 h2;rw[h1,h2]
def aN(v:Pt)(p:Nat):Prop:=0<aR ((br[p]?).getD ⟨0,0⟩) v\/aR ((br[(p+1)%32]?).getD ⟨0,0⟩) v<=0
set_option maxHeartbeats 4000000 in
theorem W0{x y:Int}(hx:0<=x)(hy:0<y)(t:Nat)(ht:t<8)(hl:fv t (x) (y))(p:Nat):(p<0+t->aN ⟨x,y⟩ p)/\(p=0+t->¬ aN ⟨x,y⟩ p):=by
 have e:∀ a b:Int,aR ⟨a,b⟩ (⟨x,y⟩:Pt)=a*y-b*x:=fun _ _=>rfl
 match t,ht,hl with
 | 0,_,hl=>
  simp only[fv]at hl;refine⟨fun hp=>?_,fun hp=>?_⟩
  ·omega
  ·have hq:p=0:=by omega
   subst hq;simp only[aN,br,List.getElem?_cons_succ,List.getElem?_cons_zero,Option.getD_some,Nat.reduceAdd,Nat.reduceMod,e];omega
 | 1,_,hl=>
  simp only[fv]at hl;refine⟨fun hp=>?_,fun hp=>?_⟩
  ·have hq:p=0:=by omega
   rcases hq with rfl<;>
   ·simp only[aN,br,List.getElem?_cons_succ,List.getElem?_cons_zero,Option.getD_some,Nat.reduceAdd,Nat.reduceMod,e]
    omega
  ·have hq:p=1:=by omega
   subst hq;simp only[aN,br,List.getElem?_cons_succ,List.getElem?_cons_zero,Option.getD_some,Nat.reduceAdd,Nat.reduceMod,e];omega
 | 2,_,hl=>
  simp only[fv]at hl;refine⟨fun hp=>?_,fun hp=>?_⟩
  ·have hq:p=0\/p=1:=by omega
   rcases hq with rfl|rfl<;>
   ·simp only[aN,br,List.getElem?_cons_succ,List.getElem?_cons_zero,Option.getD_some,Nat.reduceAdd,Nat.reduceMod,e]
    omega
  ·have hq:p=2:=by omega
   subst hq;simp only[aN,br,List.getElem?_cons_succ,List.getElem?_cons_zero,Option.getD_some,Nat.reduceAdd,Nat.reduceMod,e];omega
 | 3,_,hl=>
  simp only[fv]at hl;refine⟨fun hp=>?_,fun hp=>?_⟩
  ·have hq:p=0\/p=1\/p=2:=by omega
   rcases hq with rfl|rfl|rfl<;>
   ·simp only[aN,br,List.getElem?_cons_succ,List.getElem?_cons_zero,Option.getD_some,Nat.reduceAdd,Nat.reduceMod,e]
    omega
  ·have hq:p=3:=by omega
   subst hq;simp only[aN,br,List.getElem?_cons_succ,List.getElem?_cons_zero,Option.getD_some,Nat.reduceAdd,Nat.reduceMod,e];omega
 | 4,_,hl=>
  simp only[fv]at hl;refine⟨fun hp=>?_,fun hp=>?_⟩
  ·have hq:p=0\/p=1\/p=2\/p=3:=by omega
   rcases hq with rfl|rfl|rfl|rfl<;>
   ·simp only[aN,br,List.getElem?_cons_succ,List.getElem?_cons_zero,Option.getD_some,Nat.reduceAdd,Nat.reduceMod,e]
    omega
  ·have hq:p=4:=by omega
   subst hq;simp only[aN,br,List.getElem?_cons_succ,List.getElem?_cons_zero,Option.getD_some,Nat.reduceAdd,Nat.reduceMod,e];omega
 | 5,_,hl=>
  simp only[fv]at hl;refine⟨fun hp=>?_,fun hp=>?_⟩
  ·have hq:p=0\/p=1\/p=2\/p=3\/p=4:=by omega
   rcases hq with rfl|rfl|rfl|rfl|rfl<;>
   ·simp only[aN,br,List.getElem?_cons_succ,List.getElem?_cons_zero,Option.getD_some,Nat.reduceAdd,Nat.reduceMod,e]
    omega
  ·have hq:p=5:=by omega
   subst hq;simp only[aN,br,List.getElem?_cons_succ,List.getElem?_cons_zero,Option.getD_some,Nat.reduceAdd,Nat.reduceMod,e];omega
 | 6,_,hl=>
  simp only[fv]at hl;refine⟨fun hp=>?_,fun hp=>?_⟩
  ·have hq:p=0\/p=1\/p=2\/p=3\/p=4\/p=5:=by omega
   rcases hq with rfl|rfl|rfl|rfl|rfl|rfl<;>
   ·simp only[aN,br,List.getElem?_cons_succ,List.getElem?_cons_zero,Option.getD_some,Nat.reduceAdd,Nat.reduceMod,e]
    omega
  ·have hq:p=6:=by omega
   subst hq;simp only[aN,br,List.getElem?_cons_succ,List.getElem?_cons_zero,Option.getD_some,Nat.reduceAdd,Nat.reduceMod,e];omega
 | 7,_,hl=>
  simp only[fv]at hl;refine⟨fun hp=>?_,fun hp=>?_⟩
  ·have hq:p=0\/p=1\/p=2\/p=3\/p=4\/p=5\/p=6:=by omega
   rcases hq with rfl|rfl|rfl|rfl|rfl|rfl|rfl<;>
   ·simp only[aN,br,List.getElem?_cons_succ,List.getElem?_cons_zero,Option.getD_some,Nat.reduceAdd,Nat.reduceMod,e]
    omega
  ·have hq:p=7:=by omega
   subst hq;simp only[aN,br,List.getElem?_cons_succ,List.getElem?_cons_zero,Option.getD_some,Nat.reduceAdd,Nat.reduceMod,e];omega
set_option maxHeartbeats 4000000 in
theorem W2{x y:Int}(hx:0 <= -y)(hy:0<x)(t:Nat)(ht:t<8)(hl:fv t (-y) (x))(p:Nat):(p<8+t->aN ⟨x,y⟩ p)/\(p=8+t->¬ aN ⟨x,y⟩ p):=by
 have e:∀ a b:Int,aR ⟨a,b⟩ (⟨x,y⟩:Pt)=a*y-b*x:=fun _ _=>rfl
 match t,ht,hl with
 | 0,_,hl=>
  simp only[fv]at hl;refine⟨fun hp=>?_,fun hp=>?_⟩
  ·have hq:p=0\/p=1\/p=2\/p=3\/p=4\/p=5\/p=6\/p=7:=by omega
   rcases hq with rfl|rfl|rfl|rfl|rfl|rfl|rfl|rfl<;>
   ·simp only[aN,br,List.getElem?_cons_succ,List.getElem?_cons_zero,Option.getD_some,Nat.reduceAdd,Nat.reduceMod,e]
    omega
  ·have hq:p=8:=by omega
   subst hq;simp only[aN,br,List.getElem?_cons_succ,List.getElem?_cons_zero,Option.getD_some,Nat.reduceAdd,Nat.reduceMod,e];omega
 | 1,_,hl=>
  simp only[fv]at hl;refine⟨fun hp=>?_,fun hp=>?_⟩
  ·have hq:p=0\/p=1\/p=2\/p=3\/p=4\/p=5\/p=6\/p=7\/p=8:=by omega
   rcases hq with rfl|rfl|rfl|rfl|rfl|rfl|rfl|rfl|rfl<;>
   ·simp only[aN,br,List.getElem?_cons_succ,List.getElem?_cons_zero,Option.getD_some,Nat.reduceAdd,Nat.reduceMod,e]
    omega
  ·have hq:p=9:=by omega
   subst hq;simp only[aN,br,List.getElem?_cons_succ,List.getElem?_cons_zero,Option.getD_some,Nat.reduceAdd,Nat.reduceMod,e];omega
 | 2,_,hl=>
  simp only[fv]at hl;refine⟨fun hp=>?_,fun hp=>?_⟩
  ·have hq:p=0\/p=1\/p=2\/p=3\/p=4\/p=5\/p=6\/p=7\/p=8\/p=9:=by omega
   rcases hq with rfl|rfl|rfl|rfl|rfl|rfl|rfl|rfl|rfl|rfl<;>
   ·simp only[aN,br,List.getElem?_cons_succ,List.getElem?_cons_zero,Option.getD_some,Nat.reduceAdd,Nat.reduceMod,e]
    omega
  ·have hq:p=10:=by omega
   subst hq;simp only[aN,br,List.getElem?_cons_succ,List.getElem?_cons_zero,Option.getD_some,Nat.reduceAdd,Nat.reduceMod,e];omega
 | 3,_,hl=>
  simp only[fv]at hl;refine⟨fun hp=>?_,fun hp=>?_⟩
  ·have hq:p=0\/p=1\/p=2\/p=3\/p=4\/p=5\/p=6\/p=7\/p=8\/p=9\/p=10:=by omega
   rcases hq with rfl|rfl|rfl|rfl|rfl|rfl|rfl|rfl|rfl|rfl|rfl<;>
   ·simp only[aN,br,List.getElem?_cons_succ,List.getElem?_cons_zero,Option.getD_some,Nat.reduceAdd,Nat.reduceMod,e]
    omega
  ·have hq:p=11:=by omega
   subst hq;simp only[aN,br,List.getElem?_cons_succ,List.getElem?_cons_zero,Option.getD_some,Nat.reduceAdd,Nat.reduceMod,e];omega
 | 4,_,hl=>
  simp only[fv]at hl;refine⟨fun hp=>?_,fun hp=>?_⟩
  ·have hq:p=0\/p=1\/p=2\/p=3\/p=4\/p=5\/p=6\/p=7\/p=8\/p=9\/p=10\/p=11:=by omega
   rcases hq with rfl|rfl|rfl|rfl|rfl|rfl|rfl|rfl|rfl|rfl|rfl|rfl<;>
   ·simp only[aN,br,List.getElem?_cons_succ,List.getElem?_cons_zero,Option.getD_some,Nat.reduceAdd,Nat.reduceMod,e]
    omega
  ·have hq:p=12:=by omega
   subst hq;simp only[aN,br,List.getElem?_cons_succ,List.getElem?_cons_zero,Option.getD_some,Nat.reduceAdd,Nat.reduceMod,e];omega
 | 5,_,hl=>
  simp only[fv]at hl;refine⟨fun hp=>?_,fun hp=>?_⟩
  ·have hq:p=0\/p=1\/p=2\/p=3\/p=4\/p=5\/p=6\/p=7\/p=8\/p=9\/p=10\/p=11\/p=12:=by omega
   rcases hq with rfl|rfl|rfl|rfl|rfl|rfl|rfl|rfl|rfl|rfl|rfl|rfl|rfl<;>
   ·simp only[aN,br,List.getElem?_cons_succ,List.getElem?_cons_zero,Option.getD_some,Nat.reduceAdd,Nat.reduceMod,e]
    omega
  ·have hq:p=13:=by omega
   subst hq;simp only[aN,br,List.getElem?_cons_succ,List.getElem?_cons_zero,Option.getD_some,Nat.reduceAdd,Nat.reduceMod,e];omega
 | 6,_,hl=>
  simp only[fv]at hl;refine⟨fun hp=>?_,fun hp=>?_⟩
  ·have hq:p=0\/p=1\/p=2\/p=3\/p=4\/p=5\/p=6\/p=7\/p=8\/p=9\/p=10\/p=11\/p=12\/p=13:=by omega
   rcases hq with rfl|rfl|rfl|rfl|rfl|rfl|rfl|rfl|rfl|rfl|rfl|rfl|rfl|rfl<;>
   ·simp only[aN,br,List.getElem?_cons_succ,List.getElem?_cons_zero,Option.getD_some,Nat.reduceAdd,Nat.reduceMod,e]
    omega
  ·have hq:p=14:=by omega
   subst hq;simp only[aN,br,List.getElem?_cons_succ,List.getElem?_cons_zero,Option.getD_some,Nat.reduceAdd,Nat.reduceMod,e];omega
 | 7,_,hl=>
  simp only[fv]at hl;refine⟨fun hp=>?_,fun hp=>?_⟩
  ·have hq:p=0\/p=1\/p=2\/p=3\/p=4\/p=5\/p=6\/p=7\/p=8\/p=9\/p=10\/p=11\/p=12\/p=13\/p=14:=by omega
   rcases hq with rfl|rfl|rfl|rfl|rfl|rfl|rfl|rfl|rfl|rfl|rfl|rfl|rfl|rfl|rfl<;>
   ·simp only[aN,br,List.getElem?_cons_succ,List.getElem?_cons_zero,Option.getD_some,Nat.reduceAdd,Nat.reduceMod,e]
    omega
  ·have hq:p=15:=by omega
   subst hq;simp only[aN,br,List.getElem?_cons_succ,List.getElem?_cons_zero,Option.getD_some,Nat.reduceAdd,Nat.reduceMod,e];omega
set_option maxHeartbeats 4000000 in
theorem W3{x y:Int}(hx:0 <= -x)(hy:0 < -y)(t:Nat)(ht:t<8)(hl:fv t (-x) (-y))(p:Nat):(p<16+t->aN ⟨x,y⟩ p)/\(p=16+t->¬ aN ⟨x,y⟩ p):=by
 have e:∀ a b:Int,aR ⟨a,b⟩ (⟨x,y⟩:Pt)=a*y-b*x:=fun _ _=>rfl
 match t,ht,hl with
 | 0,_,hl=>
  simp only[fv]at hl;refine⟨fun hp=>?_,fun hp=>?_⟩
  ·have hq:p=0\/p=1\/p=2\/p=3\/p=4\/p=5\/p=6\/p=7\/p=8\/p=9\/p=10\/p=11\/p=12\/p=13\/p=14\/p=15:=by omega
   rcases hq with rfl|rfl|rfl|rfl|rfl|rfl|rfl|rfl|rfl|rfl|rfl|rfl|rfl|rfl|rfl|rfl<;>
   ·simp only[aN,br,List.getElem?_cons_succ,List.getElem?_cons_zero,Option.getD_some,Nat.reduceAdd,Nat.reduceMod,e]
    omega
  ·have hq:p=16:=by omega
   subst hq;simp only[aN,br,List.getElem?_cons_succ,List.getElem?_cons_zero,Option.getD_some,Nat.reduceAdd,Nat.reduceMod,e];omega
 | 1,_,hl=>
  simp only[fv]at hl;refine⟨fun hp=>?_,fun hp=>?_⟩
  ·have hq:p=0\/p=1\/p=2\/p=3\/p=4\/p=5\/p=6\/p=7\/p=8\/p=9\/p=10\/p=11\/p=12\/p=13\/p=14\/p=15\/p=16:=by omega
   rcases hq with rfl|rfl|rfl|rfl|rfl|rfl|rfl|rfl|rfl|rfl|rfl|rfl|rfl|rfl|rfl|rfl|rfl<;>
   ·simp only[aN,br,List.getElem?_cons_succ,List.getElem?_cons_zero,Option.getD_some,Nat.reduceAdd,Nat.reduceMod,e]
    omega
  ·have hq:p=17:=by omega
   subst hq;simp only[aN,br,List.getElem?_cons_succ,List.getElem?_cons_zero,Option.getD_some,Nat.reduceAdd,Nat.reduceMod,e];omega
 | 2,_,hl=>
  simp only[fv]at hl;refine⟨fun hp=>?_,fun hp=>?_⟩
  ·have hq:p=0\/p=1\/p=2\/p=3\/p=4\/p=5\/p=6\/p=7\/p=8\/p=9\/p=10\/p=11\/p=12\/p=13\/p=14\/p=15\/p=16\/p=17:=by omega
   rcases hq with rfl|rfl|rfl|rfl|rfl|rfl|rfl|rfl|rfl|rfl|rfl|rfl|rfl|rfl|rfl|rfl|rfl|rfl<;>
   ·simp only[aN,br,List.getElem?_cons_succ,List.getElem?_cons_zero,Option.getD_some,Nat.reduceAdd,Nat.reduceMod,e]
    omega
  ·have hq:p=18:=by omega
   subst hq;simp only[aN,br,List.getElem?_cons_succ,List.getElem?_cons_zero,Option.getD_some,Nat.reduceAdd,Nat.reduceMod,e];omega
 | 3,_,hl=>
  simp only[fv]at hl;refine⟨fun hp=>?_,fun hp=>?_⟩
  ·have hq:p=0\/p=1\/p=2\/p=3\/p=4\/p=5\/p=6\/p=7\/p=8\/p=9\/p=10\/p=11\/p=12\/p=13\/p=14\/p=15\/p=16\/p=17\/p=18:=by omega
   rcases hq with rfl|rfl|rfl|rfl|rfl|rfl|rfl|rfl|rfl|rfl|rfl|rfl|rfl|rfl|rfl|rfl|rfl|rfl|rfl<;>
   ·simp only[aN,br,List.getElem?_cons_succ,List.getElem?_cons_zero,Option.getD_some,Nat.reduceAdd,Nat.reduceMod,e]
    omega
  ·have hq:p=19:=by omega
   subst hq;simp only[aN,br,List.getElem?_cons_succ,List.getElem?_cons_zero,Option.getD_some,Nat.reduceAdd,Nat.reduceMod,e];omega
 | 4,_,hl=>
  simp only[fv]at hl;refine⟨fun hp=>?_,fun hp=>?_⟩
  ·have hq:p=0\/p=1\/p=2\/p=3\/p=4\/p=5\/p=6\/p=7\/p=8\/p=9\/p=10\/p=11\/p=12\/p=13\/p=14\/p=15\/p=16\/p=17\/p=18\/p=19:=by omega
   rcases hq with rfl|rfl|rfl|rfl|rfl|rfl|rfl|rfl|rfl|rfl|rfl|rfl|rfl|rfl|rfl|rfl|rfl|rfl|rfl|rfl<;>
   ·simp only[aN,br,List.getElem?_cons_succ,List.getElem?_cons_zero,Option.getD_some,Nat.reduceAdd,Nat.reduceMod,e]
    omega
  ·have hq:p=20:=by omega
   subst hq;simp only[aN,br,List.getElem?_cons_succ,List.getElem?_cons_zero,Option.getD_some,Nat.reduceAdd,Nat.reduceMod,e];omega
 | 5,_,hl=>
  simp only[fv]at hl;refine⟨fun hp=>?_,fun hp=>?_⟩
  ·have hq:p=0\/p=1\/p=2\/p=3\/p=4\/p=5\/p=6\/p=7\/p=8\/p=9\/p=10\/p=11\/p=12\/p=13\/p=14\/p=15\/p=16\/p=17\/p=18\/p=19\/p=20:=by omega
   rcases hq with rfl|rfl|rfl|rfl|rfl|rfl|rfl|rfl|rfl|rfl|rfl|rfl|rfl|rfl|rfl|rfl|rfl|rfl|rfl|rfl|rfl<;>
   ·simp only[aN,br,List.getElem?_cons_succ,List.getElem?_cons_zero,Option.getD_some,Nat.reduceAdd,Nat.reduceMod,e]
    omega
  ·have hq:p=21:=by omega
   subst hq;simp only[aN,br,List.getElem?_cons_succ,List.getElem?_cons_zero,Option.getD_some,Nat.reduceAdd,Nat.reduceMod,e];omega
 | 6,_,hl=>
  simp only[fv]at hl;refine⟨fun hp=>?_,fun hp=>?_⟩
  ·have hq:p=0\/p=1\/p=2\/p=3\/p=4\/p=5\/p=6\/p=7\/p=8\/p=9\/p=10\/p=11\/p=12\/p=13\/p=14\/p=15\/p=16\/p=17\/p=18\/p=19\/p=20\/p=21:=by omega
   rcases hq with rfl|rfl|rfl|rfl|rfl|rfl|rfl|rfl|rfl|rfl|rfl|rfl|rfl|rfl|rfl|rfl|rfl|rfl|rfl|rfl|rfl|rfl<;>
   ·simp only[aN,br,List.getElem?_cons_succ,List.getElem?_cons_zero,Option.getD_some,Nat.reduceAdd,Nat.reduceMod,e]
    omega
  ·have hq:p=22:=by omega
   subst hq;simp only[aN,br,List.getElem?_cons_succ,List.getElem?_cons_zero,Option.getD_some,Nat.reduceAdd,Nat.reduceMod,e];omega
 | 7,_,hl=>
  simp only[fv]at hl;refine⟨fun hp=>?_,fun hp=>?_⟩
  ·have hq:p=0\/p=1\/p=2\/p=3\/p=4\/p=5\/p=6\/p=7\/p=8\/p=9\/p=10\/p=11\/p=12\/p=13\/p=14\/p=15\/p=16\/p=17\/p=18\/p=19\/p=20\/p=21\/p=22:=by omega
   rcases hq with rfl|rfl|rfl|rfl|rfl|rfl|rfl|rfl|rfl|rfl|rfl|rfl|rfl|rfl|rfl|rfl|rfl|rfl|rfl|rfl|rfl|rfl|rfl<;>
   ·simp only[aN,br,List.getElem?_cons_succ,List.getElem?_cons_zero,Option.getD_some,Nat.reduceAdd,Nat.reduceMod,e]
    omega
  ·have hq:p=23:=by omega
   subst hq;simp only[aN,br,List.getElem?_cons_succ,List.getElem?_cons_zero,Option.getD_some,Nat.reduceAdd,Nat.reduceMod,e];omega
set_option maxHeartbeats 4000000 in
theorem W5{x y:Int}(hx:0<=y)(hy:0 < -x)(t:Nat)(ht:t<8)(hl:fv t (y) (-x))(p:Nat):(p<24+t->aN ⟨x,y⟩ p)/\(p=24+t->¬ aN ⟨x,y⟩ p):=by
 have e:∀ a b:Int,aR ⟨a,b⟩ (⟨x,y⟩:Pt)=a*y-b*x:=fun _ _=>rfl
 match t,ht,hl with
 | 0,_,hl=>
  simp only[fv]at hl;refine⟨fun hp=>?_,fun hp=>?_⟩
  ·have hq:p=0\/p=1\/p=2\/p=3\/p=4\/p=5\/p=6\/p=7\/p=8\/p=9\/p=10\/p=11\/p=12\/p=13\/p=14\/p=15\/p=16\/p=17\/p=18\/p=19\/p=20\/p=21\/p=22\/p=23:=by omega
   rcases hq with rfl|rfl|rfl|rfl|rfl|rfl|rfl|rfl|rfl|rfl|rfl|rfl|rfl|rfl|rfl|rfl|rfl|rfl|rfl|rfl|rfl|rfl|rfl|rfl<;>
   ·simp only[aN,br,List.getElem?_cons_succ,List.getElem?_cons_zero,Option.getD_some,Nat.reduceAdd,Nat.reduceMod,e]
    omega
  ·have hq:p=24:=by omega
   subst hq;simp only[aN,br,List.getElem?_cons_succ,List.getElem?_cons_zero,Option.getD_some,Nat.reduceAdd,Nat.reduceMod,e];omega
 | 1,_,hl=>
  simp only[fv]at hl;refine⟨fun hp=>?_,fun hp=>?_⟩
  ·have hq:p=0\/p=1\/p=2\/p=3\/p=4\/p=5\/p=6\/p=7\/p=8\/p=9\/p=10\/p=11\/p=12\/p=13\/p=14\/p=15\/p=16\/p=17\/p=18\/p=19\/p=20\/p=21\/p=22\/p=23\/p=24:=by omega
   rcases hq with rfl|rfl|rfl|rfl|rfl|rfl|rfl|rfl|rfl|rfl|rfl|rfl|rfl|rfl|rfl|rfl|rfl|rfl|rfl|rfl|rfl|rfl|rfl|rfl|rfl<;>
   ·simp only[aN,br,List.getElem?_cons_succ,List.getElem?_cons_zero,Option.getD_some,Nat.reduceAdd,Nat.reduceMod,e]
    omega
  ·have hq:p=25:=by omega
   subst hq;simp only[aN,br,List.getElem?_cons_succ,List.getElem?_cons_zero,Option.getD_some,Nat.reduceAdd,Nat.reduceMod,e];omega
 | 2,_,hl=>
  simp only[fv]at hl;refine⟨fun hp=>?_,fun hp=>?_⟩
  ·have hq:p=0\/p=1\/p=2\/p=3\/p=4\/p=5\/p=6\/p=7\/p=8\/p=9\/p=10\/p=11\/p=12\/p=13\/p=14\/p=15\/p=16\/p=17\/p=18\/p=19\/p=20\/p=21\/p=22\/p=23\/p=24\/p=25:=by omega
   rcases hq with rfl|rfl|rfl|rfl|rfl|rfl|rfl|rfl|rfl|rfl|rfl|rfl|rfl|rfl|rfl|rfl|rfl|rfl|rfl|rfl|rfl|rfl|rfl|rfl|rfl|rfl<;>
   ·simp only[aN,br,List.getElem?_cons_succ,List.getElem?_cons_zero,Option.getD_some,Nat.reduceAdd,Nat.reduceMod,e]
    omega
  ·have hq:p=26:=by omega
   subst hq;simp only[aN,br,List.getElem?_cons_succ,List.getElem?_cons_zero,Option.getD_some,Nat.reduceAdd,Nat.reduceMod,e];omega
 | 3,_,hl=>
  simp only[fv]at hl;refine⟨fun hp=>?_,fun hp=>?_⟩
  ·have hq:p=0\/p=1\/p=2\/p=3\/p=4\/p=5\/p=6\/p=7\/p=8\/p=9\/p=10\/p=11\/p=12\/p=13\/p=14\/p=15\/p=16\/p=17\/p=18\/p=19\/p=20\/p=21\/p=22\/p=23\/p=24\/p=25\/p=26:=by omega
   rcases hq with rfl|rfl|rfl|rfl|rfl|rfl|rfl|rfl|rfl|rfl|rfl|rfl|rfl|rfl|rfl|rfl|rfl|rfl|rfl|rfl|rfl|rfl|rfl|rfl|rfl|rfl|rfl<;>
   ·simp only[aN,br,List.getElem?_cons_succ,List.getElem?_cons_zero,Option.getD_some,Nat.reduceAdd,Nat.reduceMod,e]
    omega
  ·have hq:p=27:=by omega
   subst hq;simp only[aN,br,List.getElem?_cons_succ,List.getElem?_cons_zero,Option.getD_some,Nat.reduceAdd,Nat.reduceMod,e];omega
 | 4,_,hl=>
  simp only[fv]at hl;refine⟨fun hp=>?_,fun hp=>?_⟩
  ·have hq:p=0\/p=1\/p=2\/p=3\/p=4\/p=5\/p=6\/p=7\/p=8\/p=9\/p=10\/p=11\/p=12\/p=13\/p=14\/p=15\/p=16\/p=17\/p=18\/p=19\/p=20\/p=21\/p=22\/p=23\/p=24\/p=25\/p=26\/p=27:=by omega
   rcases hq with rfl|rfl|rfl|rfl|rfl|rfl|rfl|rfl|rfl|rfl|rfl|rfl|rfl|rfl|rfl|rfl|rfl|rfl|rfl|rfl|rfl|rfl|rfl|rfl|rfl|rfl|rfl|rfl<;>
   ·simp only[aN,br,List.getElem?_cons_succ,List.getElem?_cons_zero,Option.getD_some,Nat.reduceAdd,Nat.reduceMod,e]
    omega
  ·have hq:p=28:=by omega
   subst hq;simp only[aN,br,List.getElem?_cons_succ,List.getElem?_cons_zero,Option.getD_some,Nat.reduceAdd,Nat.reduceMod,e];omega
 | 5,_,hl=>
  simp only[fv]at hl;refine⟨fun hp=>?_,fun hp=>?_⟩
  ·have hq:p=0\/p=1\/p=2\/p=3\/p=4\/p=5\/p=6\/p=7\/p=8\/p=9\/p=10\/p=11\/p=12\/p=13\/p=14\/p=15\/p=16\/p=17\/p=18\/p=19\/p=20\/p=21\/p=22\/p=23\/p=24\/p=25\/p=26\/p=27\/p=28:=by omega
   rcases hq with rfl|rfl|rfl|rfl|rfl|rfl|rfl|rfl|rfl|rfl|rfl|rfl|rfl|rfl|rfl|rfl|rfl|rfl|rfl|rfl|rfl|rfl|rfl|rfl|rfl|rfl|rfl|rfl|rfl<;>
   ·simp only[aN,br,List.getElem?_cons_succ,List.getElem?_cons_zero,Option.getD_some,Nat.reduceAdd,Nat.reduceMod,e]
    omega
  ·have hq:p=29:=by omega
   subst hq;simp only[aN,br,List.getElem?_cons_succ,List.getElem?_cons_zero,Option.getD_some,Nat.reduceAdd,Nat.reduceMod,e];omega
 | 6,_,hl=>
  simp only[fv]at hl;refine⟨fun hp=>?_,fun hp=>?_⟩
  ·have hq:p=0\/p=1\/p=2\/p=3\/p=4\/p=5\/p=6\/p=7\/p=8\/p=9\/p=10\/p=11\/p=12\/p=13\/p=14\/p=15\/p=16\/p=17\/p=18\/p=19\/p=20\/p=21\/p=22\/p=23\/p=24\/p=25\/p=26\/p=27\/p=28\/p=29:=by omega
   rcases hq with rfl|rfl|rfl|rfl|rfl|rfl|rfl|rfl|rfl|rfl|rfl|rfl|rfl|rfl|rfl|rfl|rfl|rfl|rfl|rfl|rfl|rfl|rfl|rfl|rfl|rfl|rfl|rfl|rfl|rfl<;>
   ·simp only[aN,br,List.getElem?_cons_succ,List.getElem?_cons_zero,Option.getD_some,Nat.reduceAdd,Nat.reduceMod,e]
    omega
  ·have hq:p=30:=by omega
   subst hq;simp only[aN,br,List.getElem?_cons_succ,List.getElem?_cons_zero,Option.getD_some,Nat.reduceAdd,Nat.reduceMod,e];omega
 | 7,_,hl=>
  simp only[fv]at hl;refine⟨fun hp=>?_,fun hp=>?_⟩
  ·have hq:p=0\/p=1\/p=2\/p=3\/p=4\/p=5\/p=6\/p=7\/p=8\/p=9\/p=10\/p=11\/p=12\/p=13\/p=14\/p=15\/p=16\/p=17\/p=18\/p=19\/p=20\/p=21\/p=22\/p=23\/p=24\/p=25\/p=26\/p=27\/p=28\/p=29\/p=30:=by omega
   rcases hq with rfl|rfl|rfl|rfl|rfl|rfl|rfl|rfl|rfl|rfl|rfl|rfl|rfl|rfl|rfl|rfl|rfl|rfl|rfl|rfl|rfl|rfl|rfl|rfl|rfl|rfl|rfl|rfl|rfl|rfl|rfl<;>
   ·simp only[aN,br,List.getElem?_cons_succ,List.getElem?_cons_zero,Option.getD_some,Nat.reduceAdd,Nat.reduceMod,e]
    omega
  ·have hq:p=31:=by omega
   subst hq;simp only[aN,br,List.getElem?_cons_succ,List.getElem?_cons_zero,Option.getD_some,Nat.reduceAdd,Nat.reduceMod,e];omega
theorem Iq{v:Pt}(hz:NZ v)(p:Nat):((p:Int)<jX v->aN v p)/\((p:Int)=jX v->¬ aN v p):=by
 obtain⟨x,y⟩:=v;unfold NZ at hz;simp only at hz;have key:∀ (n t:Nat),jX ⟨x,y⟩=8*n+t->((p<8*n+t->aN ⟨x,y⟩ p)/\(p=8*n+t->¬ aN ⟨x,y⟩ p))->((p:Int)<jX ⟨x,y⟩->aN ⟨x,y⟩ p)/\((p:Int)=jX ⟨x,y⟩->¬ aN ⟨x,y⟩ p):=by
  intro n t h1 h2;rw[h1];exact⟨fun h=>h2.1 (by omega),fun h=>h2.2 (by omega)⟩
 by_cases c0:0<=x/\0<y
 ·have hq:dq ⟨x,y⟩=0:=if_pos c0
  obtain⟨t,ht,hc,hl⟩:=oN c0.1 c0.2 0;refine key 0 t ?_ (by simpa using W0 c0.1 c0.2 t ht hl p);unfold jX;rw[hq];show fJ ⟨x,y⟩ cj 0-1=_;rw[hc];omega
 by_cases c1:0<x/\y<=0
 ·have hq:dq ⟨x,y⟩=1:=by unfold dq;rw[if_neg c0,if_pos c1]
  obtain⟨t,ht,hc,hl⟩:=oN (x:=-y) (y:=x) (by omega) c1.1 8;refine key 1 t ?_ (by simpa using W2 (x:=x) (y:=y) (by omega) c1.1 t ht hl p);unfold jX;rw[hq];show fJ ⟨-y,x⟩ cj 8-1=_;rw[hc];omega
 by_cases c2:x<=0/\y<0
 ·have hq:dq ⟨x,y⟩=2:=by unfold dq;rw[if_neg c0,if_neg c1,if_pos c2]
  obtain⟨t,ht,hc,hl⟩:=oN (x:=-x) (y:=-y) (by omega) (by omega) 16;refine key 2 t ?_ (by simpa using W3 (x:=x) (y:=y) (by omega) (by omega) t ht hl p);unfold jX;rw[hq];show fJ ⟨-x,-y⟩ cj 16-1=_;rw[hc];omega
 ·have hq:dq ⟨x,y⟩=3:=by unfold dq;rw[if_neg c0,if_neg c1,if_neg c2]
  obtain⟨t,ht,hc,hl⟩:=oN (x:=y) (y:=-x) (by omega) (by omega) 24;refine key 3 t ?_ (by simpa using W5 (x:=x) (y:=y) (by omega) (by omega) t ht hl p);unfold jX;rw[hq];show fJ ⟨- -y,-x⟩ cj 24-1=_;rw[Int.neg_neg,hc];omega
def pn(p:Nat):Pt:=(br[p]?).getD ⟨0,0⟩
theorem Am(p:Nat)(hp:p<32):aX Tryz.prog 131 [i64 p] (pn p).d:=by
 have h:=@Ta (p:Int) ⟨by omega,by omega⟩;rw[Gq p hp]at h;exact fun {σ}=>h
theorem Dz(p:Nat)(hp:p<32):jZ 1000 (pn p):=by
 have h:∀ p:Nat,p<32->(-1000<=(pn p).x/\(pn p).x<=1000)/\(-1000<=(pn p).y/\(pn p).y<=1000):=by decide +kernel
 obtain⟨h1,h2⟩:=h p hp;exact⟨h1,h2⟩
set_option maxHeartbeats 2000000 in
theorem Tj(v:Pt)(hp:jZ 1000000 v)(hz:NZ v):aX Tryz.prog 92 [v.d] (i64 (jX v)):=by
 refine aB Tryz.func92 rfl (ft:=U1) 1 fun {σ} Y st=>?_;conv=>whnf
 have ht:=zO hz;refine bP (T:=tys) ao (by exact ai mixed ao (by decide +kernel)) (α:=Nat) (fun p=>⟨[(1,.ptr 1 0),(3,.d (i64 p))],[(1,.box (.dd v.cells))],st⟩) (fun p=>(p:Int)<=jX v) (fun p=>32-p) 0 aI (by simp;omega) ?_;rintro p SF;obtain⟨fP,mf⟩:=Iq hz p;have Rw:p<32:=by omega
 have Ri:(p+1)%32<32:=by omega
 have sk:((p:Int)+1).tmod 32=(((p+1)%32:Nat):Int):=by
  rw[Int.tmod_eq_emod_of_nonneg (by omega)];omega
 have AL:aN v p↔(0<aR (pn p) v\/aR (pn ((p+1)%32)) v<=0):=Iff.rfl;generalize hk:(p+1)%32=k at *;conv=>whnf
 refine al (ds:=[i64 p]) (Am p Rw) rfl rfl ?_;conv=>whnf
 refine al (ds:=[(pn p).d,v.d]) (LJ (pn p) v ((Dz p Rw).mono (by omega)) (hp.mono (by omega))) rfl rfl ?_;conv=>whnf
 have fin:aN v p->(p:Int)+1<=jX v:=fun h=>by
  rcases Int.lt_or_eq_of_le SF with h1|h1
  ·omega
  ·exact absurd h (mf h1)
 refine ag (fun h1=>?_) (fun h1=>?_)
 ·have h1:0<aR (pn p) v:=of_decide_eq_true h1
  have h2:=fin (AL.2 (.inl h1));conv=>whnf
  refine af ?_;conv=>whnf
  exact⟨p+1,by omega,by show((p+1:Nat):Int)<=jX v;omega,Wk.sub ⟨rfl,congrArg (fun z=>some (V.d (i64 z))) (by omega),trivial⟩ ⟨rfl,trivial⟩⟩
 have h1:¬ 0<aR (pn p) v:=of_decide_eq_false h1;conv=>whnf
 refine af ?_;conv=>whnf
 rw[sk];refine al (ds:=[i64 k]) (Am k Ri) rfl rfl ?_;conv=>whnf
 refine al (ds:=[(pn k).d,v.d]) (LJ (pn k) v ((Dz k Ri).mono (by omega)) (hp.mono (by omega))) rfl rfl ?_;conv=>whnf
 refine ag (fun h2=>?_) (fun h2=>?_)
 ·have h2:aR (pn k) v<=0:=of_decide_eq_true h2
  have h3:=fin (AL.2 (.inr h2));conv=>whnf
  refine af ?_;conv=>whnf
  exact⟨p+1,by omega,by show((p+1:Nat):Int)<=jX v;omega,Wk.sub ⟨rfl,congrArg (fun z=>some (V.d (i64 z))) (by omega),trivial⟩ ⟨rfl,trivial⟩⟩
 ·have h2:¬ aR (pn k) v<=0:=of_decide_eq_false h2
  have he:(p:Int)=jX v:=by
   rcases Int.lt_or_eq_of_le SF with h3|h3
   ·rcases AL.1 (fP h3) with h4|h4
    ·exact absurd h4 h1
    ·exact absurd h4 h2
   ·exact h3
  rw[<- he];conv=>whnf
  exact ae
set_option maxHeartbeats 2000000 in
theorem S7(c:pE)(day k:Int)(p:Pt):aX Tryz.prog 51 [c.d,i64 day,i64 k,p.d] (.tup [i64 (eG c day k p),i64 (iI c day k p)]):=by
 refine aB Tryz.func51 rfl (ft:=Uw) 4 fun {σ} Y st=>?_;conv=>whnf
 refine ah (Ti c day k) rfl rfl ?_;conv=>whnf
 by_cases h0:nz c day k=0;case neg=>
  have he:iI c day k p=nz c day k:=by unfold iI;rw[if_neg h0]
  have hv:eG c day k p=0:=by unfold eG;rw[he,if_neg h0]
  rw[he,hv,decide_eq_false h0];conv=>whnf
  refine ag (fun h=>absurd h (by simp[h0])) (fun _=>?_);conv=>whnf
  refine ag (fun _=>?_) (fun h=>absurd h (by simp[h0]));conv=>whnf
  exact ae
 obtain⟨hR,gF⟩:=zq (wc h0);have Rq:=(hR.mark _ gF).1;obtain⟨j,rfl,hj⟩:=vz (wc h0);have he:iI c day j p=if bW 30000 p then (if rI (gl c day j).jz p then 8 else 0) else 7:=by unfold iI;rw[if_pos h0]
 rw[decide_eq_true h0];conv=>whnf
 refine ak (ds:=[p.d,i64 30000]) (Lw p 30000 (by omega)) rfl 1 rfl ?_
 cases hw:bW 30000 p with
 | false=>
  rw[hw,if_neg (by simp)]at he;have hv:eG c day j p=0:=by unfold eG;rw[he];rfl
  rw[he,hv];conv=>whnf
  exact ae
 | true=>
  rw[hw,if_pos rfl]at he;have hp:=within_iff.1 hw;generalize hM:gl c day j=m at *;conv=>whnf
  refine ag (fun _=>?_) (fun h=>absurd h (by simp[h0]));conv=>whnf
  refine au hj ?_;conv=>whnf
  cases hs:rI m.jz p with
  | true=>
   rw[hs,if_pos rfl]at he;have hv:eG c day j p=0:=by unfold eG;rw[he];rfl
   rw[he,hv];refine ag (fun _=>?_) (fun h=>absurd (hs.symm.trans h) (by simp));conv=>whnf
   exact ae
  | false=>
   rw[hs,if_neg (by simp)]at he;have hv:eG c day j p=jX (m.jz.sub p):=by unfold eG;rw[he,hM];rfl
   have IC:NZ (m.jz.sub p):=by
    show m.jz.x-p.x≠0\/m.jz.y-p.y≠0;unfold rI at hs;simp at hs;omega
   rw[he,hv];refine ag (fun h=>absurd (hs.symm.trans h) (by simp)) (fun _=>?_);conv=>whnf
   refine ag (fun h=>absurd h (by simp[h0])) (fun _=>?_);conv=>whnf
   refine au hj ?_;conv=>whnf
   refine aw (ds:=[m.jz.d,p.d]) (LI m.jz p (Rq.mono (by omega)) (hp.mono (by omega))) rfl 1 rfl ?_;conv=>whnf
   refine al (ds:=[(m.jz.sub p).d]) (Tj (m.jz.sub p) ((Rq.sub hp).mono (by omega)) IC) rfl rfl ?_;conv=>whnf
   exact ae
end Go.PX
