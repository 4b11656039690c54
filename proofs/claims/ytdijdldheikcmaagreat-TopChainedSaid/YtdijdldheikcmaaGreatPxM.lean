import Derived.Test.YtdijdldheikcmaaGreatPxL
import Derived.Test.YtdijdldheikcmaaGreatPxH
import Derived.Test.YtdijdldheikcmaaGreatPxI
set_option linter.all false
set_option maxRecDepth 10000
namespace Go.PX
open Go.Proofs
theorem lE{σ:Type}{l:List V}{h:ar}{s:σ}{Q:V->ar->σ->Prop}(n:Nat){ds:List D}(hv:cR (gL h n) l=some ds){d:D}(hd:fb (bF ds)=d)(hq:Q (.d d) [] s):sU l h s Q:=by
 subst hd;refine⟨fun cx L F bh w hh hr=>?_⟩;have tr:=fZ hh;exact⟨_,[],L,eV L F h w,hq,vJ hh,bq.fb _ _ (B9 (je tr (oR hh n) l bh ds hv hr)),tr,fun _ _=>⟨rfl,rfl⟩⟩
def yg:Nat->Int->List Int
 | 0,_=>[]
 | k+1,v=>v::yg k (v+1)
theorem sM:∀ (k:Nat) (v:Int),(yg k v).length=k
 | 0,_=>rfl
 | k+1,v=>by rw[yg,List.length_cons,sM]
theorem Cl:∀ {k:Nat} {v:Int} {i:Nat} {x:Int},(yg k v)[i]?=some x->x=v+i/\i<k
 | 0,_,_,_,h=>by simp[yg]at h
 | k+1,v,0,x,h=>by simp[yg]at h;omega
 | k+1,v,i+1,x,h=>by
  rw[yg,List.getElem?_cons_succ]at h;have:=Cl h;omega
theorem wz:∀ {l:List ed} {ns:sO} {i:Int},(jO ns i l).2.2=0 -> ∀ s∈l,gY s=0
 | [],_,_,_,s,hs=>by cases hs
 | a::r,ns,i,h,s,hs=>by
  rw[jO]at h;split at h
  ·rename_i h1
   rcases List.mem_cons.1 hs with rfl|hs
   ·unfold l9 at h1
    split at h1
    ·exact h1
    ·rename_i h2;exact absurd h1 h2
   ·exact wz h s hs
  ·rename_i h1;exact absurd h h1
theorem tW:∀ {l:List Mark} {ns:sO} {i j e:Int},gK ns i l = .inl (j,e)->e≠0
 | [],_,_,_,_,h=>by cases h
 | m::r,ns,i,j,e,h=>by
  rw[gK]at h;split at h
  ·exact tW h
  ·rename_i h1;cases h;exact h1
theorem v3:∀ {l:List Mark} {ns KU:sO} {i:Int},gK ns i l = .inr KU -> ∀ m∈l,eE 30000 m.mE/\fy m.fP=0
 | [],_,_,_,_,m,hm=>by cases hm
 | a::r,ns,KU,i,h,m,hm=>by
  rw[gK]at h;split at h
  ·rename_i h1
   rcases List.mem_cons.1 hm with rfl|hm
   ·unfold mU at h1
    split at h1
    ·split at h1
     ·cases h1
     ·rename_i h2
      unfold yC at h2;exact⟨within_iff.1 (by simpa using h2),h1⟩
    ·rename_i h2;exact absurd h1 h2
   ·exact v3 h m hm
  ·cases h
structure LC(c:vn):Prop where
 marks:c.marks.length<=8
 cB:c.cB.length<=4
 mark:∀ m∈c.marks,eE 30000 m.mE/\fy m.fP=0
 T1:∀ s∈c.cB,DU s
theorem CD{c:vn}(h:(cC c).2.2=0):LC c:=by
 unfold cC at h;split at h
 ·cases h
 rename_i h1;split at h
 ·rename_i i e he
  exact absurd h (tW he)
 ·rename_i ns yc
  split at h
  ·cases h
  rename_i h2;exact⟨by omega,by omega,v3 yc,fun s hs=>FL (wz h s hs)⟩
theorem FQ(a b:Span):decide (a=b)=(decide (a.lo=b.lo)&&(decide (a.hi=b.hi)&&true)):=by
 cases a;cases b
 simp only[Span.mk.injEq,Bool.and_true,Bool.decide_and]
def P3(s:ed):List Int:=yg (s.b0.x.hi-s.b0.x.lo+1).toNat s.b0.x.lo
def DZ(s:ed)(p:Pt):Bool:=(P3 s).all fun x=>decide (iR s x p=s.b0.y)
def D0(s:ed)(p:Pt):Bool:=(P3 s).any fun x=>decide ((iR s x p).lo<=(iR s x p).hi)
def rY(p:Pt):Int->List ed->List Int
 | _,[]=>[]
 | i,s::r=>if DZ s p then i::rY p (i+1) r else rY p (i+1) r
def rX(p:Pt):Int->List ed->List Int
 | _,[]=>[]
 | i,s::r=>if D0 s p then i::rX p (i+1) r else rX p (i+1) r
def OS(c:vn)(p:Pt):List Int:=if m4 c p=0 then rY p 0 c.cB else []
def KV(c:vn)(p:Pt):List Int:=if m4 c p=0 then rX p 0 c.cB else []
theorem Fi{c:vn}{p:Pt}(h:m4 c p=0):LC c/\eE 10000 p:=by
 unfold m4 at h;split at h
 ·rename_i h1
  split at h
  ·rename_i h2;exact⟨CD h1,within_iff.1 h2⟩
  ·cases h
 ·rename_i h1;exact absurd h h1
set_option maxHeartbeats 4000000 in
theorem Qk(c:vn)(p:Pt):aW Tryz.prog 90 [c.d,p.d] (.tup [bx (OS c p),bx (KV c p),i64 (m4 c p)]):=by
 refine aA Tryz.func90 rfl (ft:=Sm) 2 fun {σ} Y st=>?_;conv=>whnf
 refine ae (Qt c p) rfl rfl ?_;conv=>whnf
 by_cases h0:m4 c p=0;case neg=>
  have ha:OS c p = []:=by unfold OS;rw[if_neg h0]
  have hb:KV c p = []:=by unfold KV;rw[if_neg h0]
  rw[ha,hb];refine ai (fun _=>?_) (fun h1=>absurd h1 (by simp[h0]));conv=>whnf
  exact lE 0 rfl rfl ⟨⟨rfl,rfl⟩,rfl⟩
 obtain⟨hR,hp⟩:=Fi h0;have DM:=hR.cB;have ha:OS c p=rY p 0 c.cB:=by unfold OS;rw[if_pos h0]
 have hb:KV c p=rX p 0 c.cB:=by unfold KV;rw[if_pos h0]
 rw[ha,hb];refine ai (fun h1=>absurd h1 (by simp[h0])) (fun _=>?_);conv=>whnf
 refine aZ (T:=tys) ao (by exact ah mixed ao (by decide +kernel)) c.cB (fun i (g:List Int×List Int)=>⟨[(2,.ptr 2 0),(3,.ptr 3 0),(4,.sl 84 1 0 g.1.length),(5,.sl 89 1 0 g.2.length),(21,.d (rf c.cB)),(22,.d (i64 (c.cB.map ed.cells).length)),(23,.d (i64 i))],[(2,.box (.dd c.cells)),(3,.box (.dd p.cells)),(84,.arr 1 (.dd (g.1.map fun n=>[i64 n]))),(89,.arr 1 (.dd (g.2.map fun n=>[i64 n])))],st⟩)
  (fun i r g=>rY p 0 c.cB=g.1++rY p i r/\rX p 0 c.cB=g.2++rX p i r/\g.1.length<=i/\g.2.length<=i) ([],[]) ((Wk.born 4 84 1 rfl rfl rfl).trans ((Wk.born 5 89 1 rfl rfl rfl).trans av)) ⟨rfl,rfl,by simp,by simp⟩ ?_ ?_
 ·rintro i s r ⟨A,B⟩ US hi hr ⟨hA,hB,Tg,Th⟩
  simp only at hA hB Tg Th;rw[rY]at hA;rw[rX]at hB;have hS:=hR.T1 s (List.mem_of_getElem? US);have hx:=hS.x;have hy:=hS.y;conv=>whnf
  refine ai (fun _=>?_) (fun h=>absurd hi (by simpa using h));conv=>whnf
  refine ax US ?_;conv=>whnf
  refine ab ?_;conv=>whnf
  refine ab ?_;conv=>whnf
  have hlen:(P3 s).length=(s.b0.x.hi-s.b0.x.lo+1).toNat:=sM _ _;refine aZ (T:=tys) ao (by exact ah mixed ao (by decide +kernel)) (P3 s) (fun j (g:Bool×Bool)=>⟨[(2,.ptr 2 0),(3,.ptr 3 0),(4,.sl 84 1 0 A.length),(5,.sl 89 1 0 B.length),(21,.d (rf c.cB)),(22,.d (i64 (c.cB.map ed.cells).length)),(23,.d (i64 i)),(7,.d (i64 i)),(9,.ptr 9 0),(10,.d (.bool g.1)),(11,.d (.bool g.2)),(41,.d (i64 (s.b0.x.hi-s.b0.x.lo+1))),(42,.d (i64 j))],[(2,.box (.dd c.cells)),(3,.box (.dd p.cells)),(84,.arr 1 (.dd (A.map fun n=>[i64 n]))),(89,.arr 1 (.dd (B.map fun n=>[i64 n]))),(9,.box (.dd s.cells))],st⟩)
   (fun j rest g=>DZ s p=(g.1&&rest.all fun x=>decide (iR s x p=s.b0.y))/\D0 s p=(g.2||rest.any fun x=>decide ((iR s x p).lo<=(iR s x p).hi))) (true,false) av ⟨rfl,rfl⟩ ?_ ?_
  ·rintro j x rest ⟨ga,gb⟩ PT hj Xq ⟨ka,kb⟩
   simp only at ka kb;rw[List.all_cons]at ka;rw[List.any_cons]at kb;obtain⟨Xw,Xx⟩:=Cl PT;conv=>whnf
   refine ai (fun _=>?_) (fun h=>absurd h (by simp;omega));conv=>whnf
   refine aK (x) (by(try dsimp only);omega) (wrap_i64 (by(try dsimp only);omega)) ?_;conv=>whnf
   refine ag (ds:=[.agg s.cells,i64 x,p.d]) (Qu s hS x (by omega) p hp) rfl 1 rfl ?_;conv=>whnf
   rw[FQ]at ka
   cases gb with
   | true=>
    rw[Bool.true_or]at kb;conv=>whnf
    cases ga with
    | true=>
     rw[Bool.true_and]at ka;conv=>whnf
     refine ab ?_;conv=>whnf
     exact⟨(decide ((iR s x p).lo=s.b0.y.lo)&&(decide ((iR s x p).hi=s.b0.y.hi)&&true),true),⟨ka,kb⟩,av⟩
    | false=>
     rw[Bool.false_and]at ka;conv=>whnf
     refine ab ?_;conv=>whnf
     exact⟨(false,true),⟨ka,kb⟩,av⟩
   | false=>
    rw[Bool.false_or]at kb;conv=>whnf
    cases ga with
    | true=>
     rw[Bool.true_and]at ka;conv=>whnf
     refine ab ?_;conv=>whnf
     exact⟨(decide ((iR s x p).lo=s.b0.y.lo)&&(decide ((iR s x p).hi=s.b0.y.hi)&&true),decide ((iR s x p).lo<=(iR s x p).hi)),⟨ka,kb⟩,av⟩
    | false=>
     rw[Bool.false_and]at ka;conv=>whnf
     refine ab ?_;conv=>whnf
     exact⟨(false,decide ((iR s x p).lo<=(iR s x p).hi)),⟨ka,kb⟩,av⟩
  ·rintro ⟨ga,gb⟩ ⟨ka,kb⟩
   simp only at ka kb;rw[List.all_nil,Bool.and_true]at ka;rw[List.any_nil,Bool.or_false]at kb;rw[ka]at hA;rw[kb]at hB;conv=>whnf
   refine ai (fun h=>absurd h (by simp;omega)) (fun _=>?_);conv=>whnf
   cases ga with
   | true=>
    rw[if_pos rfl]at hA;conv=>whnf
    refine aL rfl ?_;conv=>whnf
    refine aL (by simp[aI.len]) ?_;conv=>whnf
    refine bo (decide_eq_true (by
     show((A.map fun n=>[i64 n]).length+1)*8<=140737488355328;rw[List.length_map];omega)) ?_
    conv=>whnf
    cases gb with
    | true=>
     rw[if_pos rfl]at hB;conv=>whnf
     refine aL rfl ?_;conv=>whnf
     refine aL (by simp[aI.len]) ?_;conv=>whnf
     refine bo (decide_eq_true (by
      show((B.map fun n=>[i64 n]).length+1)*8<=140737488355328;rw[List.length_map];omega)) ?_
     conv=>whnf
     refine ab ?_;conv=>whnf
     exact⟨(A ++ [(i:Int)],B ++ [(i:Int)]),⟨by rw[hA];simp,by rw[hB];simp,by simp<;>omega,by simp<;>omega⟩,Wk.sub ⟨(by first|rfl|simp[PX.get,aI.len]),(by first|rfl|simp[PX.get,aI.len]),(by first|rfl|simp[PX.get,aI.len]),(by first|rfl|simp[PX.get,aI.len]),(by first|rfl|simp[PX.get,aI.len]),(by first|rfl|simp[PX.get,aI.len]),(by first|rfl|simp[PX.get,aI.len]),trivial⟩ ⟨(by first|rfl|simp[PX.get,aI.len]),(by first|rfl|simp[PX.get,aI.len]),(by first|rfl|simp[PX.get,aI.len]),(by first|rfl|simp[PX.get,aI.len]),trivial⟩⟩
    | false=>
     rw[if_neg (by simp)]at hB;conv=>whnf
     refine ab ?_;conv=>whnf
     exact⟨(A ++ [(i:Int)],B),⟨by rw[hA];simp,hB,by simp<;>omega,by simp<;>omega⟩,Wk.sub ⟨(by first|rfl|simp[PX.get,aI.len]),(by first|rfl|simp[PX.get,aI.len]),(by first|rfl|simp[PX.get,aI.len]),(by first|rfl|simp[PX.get,aI.len]),(by first|rfl|simp[PX.get,aI.len]),(by first|rfl|simp[PX.get,aI.len]),(by first|rfl|simp[PX.get,aI.len]),trivial⟩ ⟨(by first|rfl|simp[PX.get,aI.len]),(by first|rfl|simp[PX.get,aI.len]),(by first|rfl|simp[PX.get,aI.len]),(by first|rfl|simp[PX.get,aI.len]),trivial⟩⟩
   | false=>
    rw[if_neg (by simp)]at hA;conv=>whnf
    cases gb with
    | true=>
     rw[if_pos rfl]at hB;conv=>whnf
     refine aL rfl ?_;conv=>whnf
     refine aL (by simp[aI.len]) ?_;conv=>whnf
     refine bo (decide_eq_true (by
      show((B.map fun n=>[i64 n]).length+1)*8<=140737488355328;rw[List.length_map];omega)) ?_
     conv=>whnf
     refine ab ?_;conv=>whnf
     exact⟨(A,B ++ [(i:Int)]),⟨hA,by rw[hB];simp,by simp<;>omega,by simp<;>omega⟩,Wk.sub ⟨(by first|rfl|simp[PX.get,aI.len]),(by first|rfl|simp[PX.get,aI.len]),(by first|rfl|simp[PX.get,aI.len]),(by first|rfl|simp[PX.get,aI.len]),(by first|rfl|simp[PX.get,aI.len]),(by first|rfl|simp[PX.get,aI.len]),(by first|rfl|simp[PX.get,aI.len]),trivial⟩ ⟨(by first|rfl|simp[PX.get,aI.len]),(by first|rfl|simp[PX.get,aI.len]),(by first|rfl|simp[PX.get,aI.len]),(by first|rfl|simp[PX.get,aI.len]),trivial⟩⟩
    | false=>
     rw[if_neg (by simp)]at hB;conv=>whnf
     refine ab ?_;conv=>whnf
     exact⟨(A,B),⟨hA,hB,by simp<;>omega,by simp<;>omega⟩,Wk.sub ⟨(by first|rfl|simp[PX.get,aI.len]),(by first|rfl|simp[PX.get,aI.len]),(by first|rfl|simp[PX.get,aI.len]),(by first|rfl|simp[PX.get,aI.len]),(by first|rfl|simp[PX.get,aI.len]),(by first|rfl|simp[PX.get,aI.len]),(by first|rfl|simp[PX.get,aI.len]),trivial⟩ ⟨(by first|rfl|simp[PX.get,aI.len]),(by first|rfl|simp[PX.get,aI.len]),(by first|rfl|simp[PX.get,aI.len]),(by first|rfl|simp[PX.get,aI.len]),trivial⟩⟩
 ·rintro ⟨A,B⟩ ⟨hA,hB,Tg,Th⟩
  simp only at hA hB Tg Th;rw[rY,List.append_nil]at hA;rw[rX,List.append_nil]at hB;rw[hA,hB];conv=>whnf
  refine ai (fun h=>absurd h (by simp)) (fun _=>?_);conv=>whnf
  rw[h0];exact al 2 (ds:=[bx A,bx B,i64 0]) (aF (bR rfl (by simp)) (aF (bR rfl (by simp)) rfl)) ⟨⟨rfl,rfl⟩,rfl⟩
def Pm(v:Pt):Pt:=⟨-v.y,v.x⟩
def Cj:Nat->Pt->Pt
 | 0,v=>v
 | n+1,v=>Cj n (Pm v)
def gX(v:Pt):Nat:=if 0<=v.x/\0<v.y then 0 else if 0<v.x/\v.y<=0 then 1 else if v.x<=0/\v.y<0 then 2 else 3
def fK(v:Pt):List Pt->Int->Int
 | [],n=>n
 | q::r,n=>fK v r (if aC q v<=0 then n+1 else n)
def jS(v:Pt):Int:=fK (Cj (gX v) v) cq (8*gX v)-1
def NZ(v:Pt):Prop:=v.x≠0\/v.y≠0
theorem HM(v:Pt):gX v<=3:=by
 unfold gX;split
 ·omega
 ·split
  ·omega
  ·split<;>omega
theorem JC(o w:Pt)(ho:eE 1000000000 o)(hw:eE 1000000000 w):aW Tryz.prog 100 [o.d,w.d] (i64 (aC o w)):=by
 refine aA Tryz.func100 rfl (ft:=MJ) 2 fun {σ} Y st=>?_;conv=>whnf
 have h1:=j9 ho.x hw.y;have h2:=j9 ho.y hw.x;refine ab ?_;conv=>whnf
 refine ab ?_;conv=>whnf
 refine ab ?_;conv=>whnf
 exact af
def Pt.add(a b:Pt):Pt:=⟨a.x+b.x,a.y+b.y⟩
theorem Ql(a b:Pt)(ha:eE 1000000000000 a)(hb:eE 1000000000000 b):aW Tryz.prog 55 [a.d,b.d] (a.add b).d:=by
 refine aA Tryz.func55 rfl (ft:=RP) 2 fun {σ} Y st=>?_;conv=>whnf
 have h1:=ha.x;have h2:=ha.y;have h3:=hb.x;have h4:=hb.y;refine ab ?_;conv=>whnf
 refine ab ?_;conv=>whnf
 exact af
theorem GD(a b:Pt)(ha:eE 1000000000000 a)(hb:eE 1000000000000 b):aW Tryz.prog 13 [a.d,b.d] (a.sub b).d:=by
 refine aA Tryz.func13 rfl (ft:=Q8) 2 fun {σ} Y st=>?_;conv=>whnf
 have h1:=ha.x;have h2:=ha.y;have h3:=hb.x;have h4:=hb.y;refine ab ?_;conv=>whnf
 refine ab ?_;conv=>whnf
 exact af
theorem Jr(p:Pt)(m:Int)(hm:0<=m/\m<=1000000000):aW Tryz.prog 56 [p.d,i64 m] (.bool (bS m p)):=by
 refine aA Tryz.func56 rfl (ft:=RQ) 2 fun {σ} Y st=>?_;conv=>whnf
 refine aK ((-m)) (by(try dsimp only);omega) (wrap_i64 (by(try dsimp only);omega)) ?_;conv=>whnf
 refine ag (pN p.x (-m) m) rfl 1 rfl ?_;unfold bS
 cases h:bc p.x (-m) m with
 | false=>
  conv=>whnf
  exact af
 | true=>
  conv=>whnf
  refine aK ((-m)) (by(try dsimp only);omega) (wrap_i64 (by(try dsimp only);omega)) ?_;conv=>whnf
  refine ag (pN p.y (-m) m) rfl 1 rfl ?_;conv=>whnf
  exact af
theorem LU(v:Pt)(hv:eE 1000000000 v):aW Tryz.prog 141 [v.d] (Dq v).d:=by
 refine aA Tryz.func141 rfl (ft:=Ng) 1 fun {σ} Y st=>?_;conv=>whnf
 have h1:=hv.x;have h2:=hv.y;refine aK ((-v.x)) (by(try dsimp only);omega) (wrap_i64 (by(try dsimp only);omega)) ?_;conv=>whnf
 exact af
theorem wj:∀ (n:Nat) (v:Pt),xQ (n+1) v=Dq (xQ n v)
 | 0,_=>rfl
 | n+1,v=>wj n (Dq v)
theorem Cd:∀ (n:Nat) {v:Pt},eE 1000 v->eE 1000 (xQ n v)
 | 0,_,h=>h
 | n+1,v,h=>Cd n ⟨h.y,by have:=h.x;show -1000 <= -v.x /\ -v.x<=1000;omega⟩
theorem Js:aW Tryz.prog 101 [i64 0] (Pt.d ⟨0,1000⟩):=by
 refine aA Tryz.func101 rfl (ft:=pQ) 1 fun {σ} Y st=>?_;conv=>whnf
 exact al 1 rfl ⟨⟨rfl,rfl⟩,rfl⟩
theorem Jt:aW Tryz.prog 101 [i64 1] (Pt.d ⟨195,981⟩):=by
 refine aA Tryz.func101 rfl (ft:=pQ) 1 fun {σ} Y st=>?_;conv=>whnf
 exact al 1 rfl ⟨⟨rfl,rfl⟩,rfl⟩
theorem Ju:aW Tryz.prog 101 [i64 2] (Pt.d ⟨383,924⟩):=by
 refine aA Tryz.func101 rfl (ft:=pQ) 1 fun {σ} Y st=>?_;conv=>whnf
 exact al 1 rfl ⟨⟨rfl,rfl⟩,rfl⟩
theorem Jv:aW Tryz.prog 101 [i64 3] (Pt.d ⟨556,831⟩):=by
 refine aA Tryz.func101 rfl (ft:=pQ) 1 fun {σ} Y st=>?_;conv=>whnf
 exact al 1 rfl ⟨⟨rfl,rfl⟩,rfl⟩
theorem Jw:aW Tryz.prog 101 [i64 4] (Pt.d ⟨707,707⟩):=by
 refine aA Tryz.func101 rfl (ft:=pQ) 1 fun {σ} Y st=>?_;conv=>whnf
 exact al 1 rfl ⟨⟨rfl,rfl⟩,rfl⟩
theorem Jx:aW Tryz.prog 101 [i64 5] (Pt.d ⟨831,556⟩):=by
 refine aA Tryz.func101 rfl (ft:=pQ) 1 fun {σ} Y st=>?_;conv=>whnf
 exact al 1 rfl ⟨⟨rfl,rfl⟩,rfl⟩
theorem Jy:aW Tryz.prog 101 [i64 6] (Pt.d ⟨924,383⟩):=by
 refine aA Tryz.func101 rfl (ft:=pQ) 1 fun {σ} Y st=>?_;conv=>whnf
 exact al 1 rfl ⟨⟨rfl,rfl⟩,rfl⟩
theorem Jz:aW Tryz.prog 101 [i64 7] (Pt.d ⟨981,195⟩):=by
 refine aA Tryz.func101 rfl (ft:=pQ) 1 fun {σ} Y st=>?_;conv=>whnf
 exact al 1 rfl ⟨⟨rfl,rfl⟩,rfl⟩
theorem Mc(m k:Nat)(hk:k<8)(hm:m+1<4)(v:Pt)(hi:aW Tryz.prog 101 [i64 ((8*m+k:Nat):Int)] v.d)(hq:eE 1000 v):aW Tryz.prog 101 [i64 ((8*(m+1)+k:Nat):Int)] (Dq v).d:=by
 refine aA Tryz.func101 rfl (ft:=pQ) 1 fun {σ} Y st=>?_;conv=>whnf
 refine ai (fun _=>?_) (fun h=>absurd h (by simp;omega));conv=>whnf
 refine aK (((8*m+k:Nat):Int)) (by(try dsimp only);omega) (wrap_i64 (by(try dsimp only);omega)) ?_;conv=>whnf
 refine ae (hi) rfl rfl ?_;conv=>whnf
 refine ag (ds:=[v.d]) (LU v (hq.mono (by omega))) rfl 1 rfl ?_;conv=>whnf
 exact af
set_option maxHeartbeats 1000000 in
theorem Mb(m:Nat):∀ (k:Nat) (hk:k<8) (hm:m<4),aW Tryz.prog 101 [i64 ((8*m+k:Nat):Int)] (xQ m ((cq[k]?).getD ⟨0,0⟩)).d:=by
 induction m with
 | zero=>
  intro k hk hm
  match k,hk with
  | 0,_=>exact fun {σ}=>Js
  | 1,_=>exact fun {σ}=>Jt
  | 2,_=>exact fun {σ}=>Ju
  | 3,_=>exact fun {σ}=>Jv
  | 4,_=>exact fun {σ}=>Jw
  | 5,_=>exact fun {σ}=>Jx
  | 6,_=>exact fun {σ}=>Jy
  | 7,_=>exact fun {σ}=>Jz
 | succ m ih=>
  intro k hk hm;have hi:aW Tryz.prog 101 [i64 ((8*m+k:Nat):Int)] (xQ m ((cq[k]?).getD ⟨0,0⟩)).d:=fun {σ}=>ih k hk (by omega);have hq:=Cd m (ux hk);rw[wj];exact fun {σ}=>Mc m k hk hm _ hi hq
theorem Qo(p:Int)(hp:0<=p/\p<=31):aW Tryz.prog 101 [i64 p] (pb p).d:=by
 have h:aW Tryz.prog 101 [i64 ((8*(p/8).toNat+(p%8).toNat:Nat):Int)] (pb p).d:=fun {σ}=>Mb (p/8).toNat (p%8).toNat (by omega) (by omega);rw[show((8*(p/8).toNat+(p%8).toNat:Nat):Int)=p by omega]at h;exact fun {σ}=>h
set_option maxHeartbeats 2000000 in
theorem Qr(l:List jX):aW Tryz.prog 67 [nC l] (i64 (fy l)):=by
 refine aA Tryz.func67 rfl (ft:=R3) 1 fun {σ} Y st=>?_;conv=>whnf
 refine ag (pN l.length 1 4) rfl 1 (by simp;rfl) ?_;unfold fy
 cases h:bc (l.length:Int) 1 4 with
 | false=>
  conv=>whnf
  exact af
 | true=>
  rw[bg]at h;conv=>whnf
  refine aZ (T:=tys) ao (by exact ah mixed ao (by decide +kernel)) l (fun i (last:Int)=>⟨[(0,.d (nC l)),(3,.d (i64 i))],[],st⟩) (fun i r last=>m6 (-1) l=m6 last r/\(i=0->last = -1)/\(∀ j,i=j+1 -> ∃ q,l[j]?=some q/\q.day=last)) (-1) av ⟨rfl,fun _=>rfl,fun j hj=>by omega⟩ ?_ ?_
  ·rintro i p r last hp hi hr ⟨he,DI,rF⟩
   rw[m6]at he;conv=>whnf
   refine ai (fun _=>?_) (fun h=>absurd hi (by simpa using h));conv=>whnf
   refine ax hp ?_;conv=>whnf
   refine ag (pN p.day 0 40000) rfl 1 rfl ?_
   cases h1:bc p.day 0 40000 with
   | false=>
    rw[h1,Bool.false_and,if_neg (by simp)]at he;rw[he];conv=>whnf
    exact af
   | true=>
    conv=>whnf
    refine ax hp ?_;conv=>whnf
    refine ag (pN p.qH 0 4) rfl 1 rfl ?_
    cases h2:bc p.qH 0 4 with
    | false=>
     rw[h1,h2,Bool.and_false,if_neg (by simp)]at he;rw[he];conv=>whnf
     exact af
    | true=>
     have xp:=h1;rw[bg]at xp;rw[h1,h2,Bool.and_true,if_pos rfl]at he;conv=>whnf
     refine ai (fun h3=>?_) (fun h3=>?_)
     ·have h3:0<i:=by have:=of_decide_eq_true h3;omega
      obtain⟨j,rfl⟩:∃ j,i=j+1:=⟨i-1,by omega⟩;obtain⟨q,hq,Ww⟩:=rF j rfl;subst Ww;conv=>whnf
      refine bZ p.cells ⟨by omega,by
       show(l.map jX.cells)[(((j+1:Nat):Int)).toNat]?=some p.cells;rw[Int.toNat_natCast];simp[hp]⟩ ?_
      conv=>whnf
      refine aK (((j:Nat):Int)) (by(try dsimp only);omega) (wrap_i64 (by(try dsimp only);omega)) ?_;conv=>whnf
      refine bZ q.cells ⟨by omega,by
       show(l.map jX.cells)[((j:Int)).toNat]?=some q.cells;rw[Int.toNat_natCast];simp[hq]⟩ ?_
      conv=>whnf
      refine ai (fun h4=>?_) (fun h4=>?_)
      ·rw[if_pos (of_decide_eq_true h4)]at he
       rw[he];conv=>whnf
       exact af
      ·rw[if_neg (of_decide_eq_false h4)]at he
       conv=>whnf
       refine ab ?_;conv=>whnf
       exact⟨p.day,⟨he,fun h=>by omega,fun j2 hj=>⟨p,by rw[show j2=j+1 by omega];exact hp,rfl⟩⟩,av⟩
     ·have h3:i=0:=by have:=of_decide_eq_false h3;omega
      have:=DI h3;subst this;rw[if_neg (by omega)]at he;conv=>whnf
      refine ab ?_;conv=>whnf
      exact⟨p.day,⟨he,fun h=>by omega,fun j hj=>⟨p,by rw[show j=i by omega];exact hp,rfl⟩⟩,av⟩
  ·rintro last ⟨he,_⟩
   conv=>whnf
   refine ai (fun h=>absurd h (by simp)) (fun _=>?_);conv=>whnf
   rw[he];exact af
theorem A9(m:Int)(b:ow):mL m b=if spread (-m) m [b.x,b.y] 0=0/\(b.x.hi-b.x.lo>40\/b.y.hi-b.y.lo>40) then 2 else spread (-m) m [b.x,b.y] 0:=by
 unfold mL;simp only[spread,bc,Bool.and_eq_true,decide_eq_true_eq];repeat' split
 all_goals first|rfl|omega|(simp_all<;>omega)
theorem wC{m:Int}{b:ow}(h:spread (-m) m [b.x,b.y] 0=0):(-m<=b.x.lo/\b.x.hi<=m/\b.x.lo<=b.x.hi) /\ -m<=b.y.lo/\b.y.hi<=m/\b.y.lo<=b.y.hi:=by
 simp only[spread,bc,Bool.and_eq_true,decide_eq_true_eq]at h;repeat' split at h
 all_goals omega
set_option maxHeartbeats 1000000 in
theorem Qm(b:ow)(m:Int)(hm:0<=m/\m<=1000000000):aW Tryz.prog 107 [b.d,i64 (-m),i64 m] (i64 (mL m b)):=by
 rw[A9];refine aA Tryz.func107 rfl (ft:=MO) 3 fun {σ} Y st=>?_;conv=>whnf
 refine ag (Ep [b.x,b.y] (-m) m (by simp)) rfl 1 rfl ?_;conv=>whnf
 by_cases h0:spread (-m) m [b.x,b.y] 0=0;case neg=>
  rw[if_neg (fun h=>h0 h.1),decide_eq_false h0];conv=>whnf
  exact af
 have hb:=wC h0;rw[decide_eq_true h0];conv=>whnf
 refine ab ?_;conv=>whnf
 refine ai (fun h1=>?_) (fun h1=>?_)
 ·rw[if_pos ⟨h0,.inl (of_decide_eq_true h1)⟩]
  conv=>whnf
  exact af
 ·have h1:¬ 40<b.x.hi-b.x.lo:=of_decide_eq_false h1
  conv=>whnf
  refine ab ?_;conv=>whnf
  refine ai (fun h2=>?_) (fun h2=>?_)
  ·rw[if_pos ⟨h0,.inr (of_decide_eq_true h2)⟩]
   conv=>whnf
   exact af
  ·have h2:¬ 40<b.y.hi-b.y.lo:=of_decide_eq_false h2
   rw[if_neg (fun h=>by have:=h.2;omega)];conv=>whnf
   exact af
def fu(l:List Pt)(i:Nat):Pt:=(l[i]?).getD ⟨0,0⟩
def kQ(l:List Pt)(i n:Nat):Bool:=decide (n=i)||decide (n=(i+1)%l.length)||decide (0<aC ((fu l ((i+1)%l.length)).sub (fu l i)) ((fu l n).sub (fu l i)))
def o7(l:List Pt)(i:Nat):Bool:=(List.range l.length).all (kQ l i)
def oZ(l:List Pt):Bool:=(List.range l.length).all (o7 l)
theorem ss{l:List Pt}{i:Nat}(h:i<l.length):l[i]?=some (fu l i):=by
 unfold fu;simp[h]
theorem wW{l:List Pt}{i:Nat}(h:i<l.length):fu l i∈l:=by
 unfold fu;rw[List.getElem?_eq_getElem h];exact List.getElem_mem h
theorem we{n i q:Nat}(h:(List.range n)[i]?=some q):q=i:=by
 have hi:i<n:=by simpa using (List.getElem?_eq_some_iff.1 h).1
 rw[List.getElem?_range hi]at h;cases h;rfl
set_option maxHeartbeats 2000000 in
theorem LY(l:List Pt)(hl:l.length<1000)(hp:∀ p∈l,eE 10000 p):aW Tryz.prog 108 [e8 l] (.bool (oZ l)):=by
 refine aA Tryz.func108 rfl (ft:=MP) 1 fun {σ} Y st=>?_;conv=>whnf
 refine aZ (T:=tys) ao (by exact ah mixed ao (by decide +kernel)) (List.range l.length) (fun i (_:Unit)=>⟨[(0,.d (e8 l)),(3,.d (i64 i))],[],st⟩) (fun i r _=>oZ l=r.all (o7 l)) () av rfl ?_ ?_
 ·rintro i q r _ Kv hi hr hk
  have hq:=we Kv;subst hq;have Gi:q<l.length:=by simpa using hi
  rw[List.all_cons]at hk;conv=>whnf
  refine ai (fun _=>?_) (fun h=>absurd h (by simp;omega));conv=>whnf
  refine ab ?_;conv=>whnf
  have Ay:((q:Int)+1).tmod (((l.map Pt.cells).length:Nat):Int)=(((q+1)%l.length:Nat):Int):=by
   rw[List.length_map,Int.tmod_eq_emod_of_nonneg (by omega)];first|exact(Int.natCast_mod _ _).symm|exact(Int.natCast_emod _ _).symm|norm_cast
  rw[Ay];have Of:(q+1)%l.length<l.length:=Nat.mod_lt _ (by omega);generalize qQ:(q+1)%l.length=k at Of;refine ai (fun _=>?_) (fun h=>absurd h (by simp;rintro rfl;simp at Gi));conv=>whnf
  refine aZ (T:=tys) ao (by exact ah mixed ao (by decide +kernel)) (List.range l.length) (fun n (_:Unit)=>⟨[(0,.d (e8 l)),(3,.d (i64 q)),(4,.d (i64 k)),(5,.d (i64 n))],[],st⟩) (fun n r _=>o7 l q=r.all (kQ l q)) () av rfl ?_ ?_
  ·rintro n n' r2 _ DK hn TD ji
   have Lv:=we DK;subst Lv;have iZ:n'<l.length:=by simpa using hn
   rw[List.all_cons]at ji;have UM:=hp _ (wW Of);have IU:=hp _ (wW Gi);have Gn:=hp _ (wW iZ);conv=>whnf
   refine ai (fun _=>?_) (fun h=>absurd h (by simp;omega));conv=>whnf
   have xr:kQ l q n'=(decide (n'=q)||decide (n'=k)||decide (0<aC ((fu l k).sub (fu l q)) ((fu l n').sub (fu l q)))):=by unfold kQ;rw[qQ]
   refine ai (fun h1=>?_) (fun h1=>?_)
   ·have h1:n'≠q:=by simp at h1;omega
    conv=>whnf
    refine ai (fun h2=>?_) (fun h2=>?_)
    ·have h2:n'≠k:=by simp at h2;omega
     rw[decide_eq_false h1,decide_eq_false h2,Bool.false_or,Bool.false_or]at xr;conv=>whnf
     refine ax (ss Of) ?_;conv=>whnf
     refine ax (ss Gi) ?_;conv=>whnf
     refine aj (ds:=[(fu l k).d,(fu l q).d]) (GD (fu l k) (fu l q) (UM.mono (by omega)) (IU.mono (by omega))) rfl rfl ?_;conv=>whnf
     refine ax (ss iZ) ?_;conv=>whnf
     refine ax (ss Gi) ?_;conv=>whnf
     refine aj (ds:=[(fu l n').d,(fu l q).d]) (GD (fu l n') (fu l q) (Gn.mono (by omega)) (IU.mono (by omega))) rfl rfl ?_;conv=>whnf
     refine aj (ds:=[((fu l k).sub (fu l q)).d,((fu l n').sub (fu l q)).d]) (JC _ _ ((UM.sub IU).mono (by omega)) ((Gn.sub IU).mono (by omega))) rfl rfl ?_;conv=>whnf
     refine ai (fun h3=>?_) (fun h3=>?_)
     ·have h3:aC ((fu l k).sub (fu l q)) ((fu l n').sub (fu l q))<=0:=of_decide_eq_true h3
      rw[decide_eq_false (by omega)]at xr;rw[xr,Bool.false_and]at ji;rw[ji,Bool.false_and]at hk;rw[hk];conv=>whnf
      exact af
     ·have h3:¬ aC ((fu l k).sub (fu l q)) ((fu l n').sub (fu l q))<=0:=of_decide_eq_false h3
      rw[decide_eq_true (by omega)]at xr;rw[xr,Bool.true_and]at ji;conv=>whnf
      refine ab ?_;conv=>whnf
      exact⟨(),ji,Wk.sub ⟨rfl,rfl,rfl,congrArg (fun z=>some (V.d (i64 z))) (by omega),trivial⟩ trivial⟩
    ·have h2:n'=k:=by simp at h2;omega
     rw[decide_eq_true h2,Bool.or_true,Bool.true_or]at xr;rw[xr,Bool.true_and]at ji;conv=>whnf
     refine ab ?_;conv=>whnf
     exact⟨(),ji,Wk.sub ⟨rfl,rfl,rfl,congrArg (fun z=>some (V.d (i64 z))) (by omega),trivial⟩ trivial⟩
   ·have h1:n'=q:=by simp at h1;omega
    rw[decide_eq_true h1,Bool.true_or,Bool.true_or]at xr;rw[xr,Bool.true_and]at ji;conv=>whnf
    refine ab ?_;conv=>whnf
    exact⟨(),ji,Wk.sub ⟨rfl,rfl,rfl,congrArg (fun z=>some (V.d (i64 z))) (by omega),trivial⟩ trivial⟩
  ·rintro _ ji
   conv=>whnf
   refine ai (fun h=>absurd h (by simp)) (fun _=>?_);rw[ji]at hk;conv=>whnf
   refine ab ?_;conv=>whnf
   exact⟨(),hk,Wk.sub ⟨rfl,congrArg (fun z=>some (V.d (i64 z))) (by omega),trivial⟩ trivial⟩
 ·rintro _ hk
  conv=>whnf
  refine ai (fun h=>absurd h (by simp)) (fun _=>?_);conv=>whnf
  rw[hk];exact af
def nf(s:ed):Int:=
 if bc s.aw.length 3 8 then (if (s.aw.all fun p=>bS 10000 p) then (if mL 500 s.b0=0 then (if oZ s.aw then 0 else 9) else mL 500 s.b0) else 7) else 3
set_option maxHeartbeats 2000000 in
theorem Qs(s:ed):aW Tryz.prog 68 [s.d] (i64 (nf s)):=by
 refine aA Tryz.func68 rfl (ft:=R4) 1 fun {σ} Y st=>?_;conv=>whnf
 refine ag (pN s.aw.length 3 8) rfl 1 (by simp;rfl) ?_
 cases h1:bc (s.aw.length:Int) 3 8 with
 | false=>
  have he:nf s=3:=by unfold nf;rw[h1];rfl
  rw[he];conv=>whnf
  exact af
 | true=>
  have NH:=h1;rw[bg]at h1;have he:nf s=if (s.aw.all fun p=>bS 10000 p) then (if mL 500 s.b0=0 then (if oZ s.aw then 0 else 9) else mL 500 s.b0) else 7:=by unfold nf;rw[NH,if_pos rfl]
  conv=>whnf
  refine aZ (T:=tys) ao (by exact ah mixed ao (by decide +kernel)) s.aw (fun i (_:Unit)=>⟨[(1,.ptr 1 0),(3,.d (i64 i))],[(1,.box (.dd s.cells))],st⟩) (fun i r _=>(s.aw.all fun p=>bS 10000 p)=r.all fun p=>bS 10000 p) () av rfl ?_ ?_
  ·rintro i p r _ yd hi hr hk
   rw[List.all_cons]at hk;conv=>whnf
   refine ai (fun _=>?_) (fun h=>absurd hi (by simpa using h));conv=>whnf
   refine ax yd ?_;conv=>whnf
   refine ag (ds:=[p.d,i64 10000]) (Jr p 10000 (by omega)) rfl 1 rfl ?_
   cases hw:bS 10000 p with
   | false=>
    rw[hw,Bool.false_and]at hk;rw[hk,if_neg (by simp)]at he;rw[he];conv=>whnf
    exact af
   | true=>
    rw[hw,Bool.true_and]at hk;conv=>whnf
    refine ab ?_;conv=>whnf
    exact⟨(),hk,av⟩
  ·rintro _ hk
   have hk:(s.aw.all fun p=>bS 10000 p)=true:=hk;rw[hk,if_pos rfl]at he;have hp:∀ p∈s.aw,eE 10000 p:=by
    intro p hp;exact within_iff.1 (List.all_eq_true.1 hk p hp)
   conv=>whnf
   refine ai (fun h=>absurd h (by simp)) (fun _=>?_);conv=>whnf
   refine ag (ds:=[s.b0.d,i64 (-500),i64 500]) (Qm s.b0 500 (by omega)) rfl 1 rfl ?_;conv=>whnf
   refine ai (fun h3=>?_) (fun h3=>?_)
   ·have h3:mL 500 s.b0=0:=by simpa using h3
    rw[if_pos h3]at he;rw[h3];conv=>whnf
    refine ag (ds:=[e8 s.aw]) (LY s.aw (by omega) hp) rfl 1 rfl ?_
    cases hr:oZ s.aw with
    | true=>
     rw[hr,if_pos rfl]at he;rw[he];conv=>whnf
     exact af
    | false=>
     rw[hr,if_neg (by simp)]at he;rw[he];conv=>whnf
     exact af
   ·have h3:¬ mL 500 s.b0=0:=by simpa using h3
    rw[if_neg h3]at he;rw[he];conv=>whnf
    exact af
def jF(ns:List ByteArray)(m:Mark):Int:=
 if eo m.name ns=0 then (if yC m then 7 else fy m.fP) else eo m.name ns
def kC:List ByteArray->Int->List Mark->(Int×Int) ⊕ List ByteArray
 | ns,_,[]=>.inr ns
 | ns,i,m::r=>if jF ns m=0 then kC (ns ++ [m.name]) (i+1) r else .inl (i,jF ns m)
def ma(ns:List ByteArray)(s:ed):Int:=if eo s.name ns=0 then nf s else eo s.name ns
def mb:List ByteArray->Int->List ed->Int×Int×Int
 | _,_,[]=>(0,0,0)
 | ns,i,s::r=>if ma ns s=0 then mb (ns ++ [s.name]) (i+1) r else (2,i,ma ns s)
def gz(c:vn):Int×Int×Int:=
 if c.marks.length>8 then (1,0,3) else match kC [] 0 c.marks with
 | .inl (i,e)=>(1,i,e)
 | .inr ns=>if c.cB.length>4 then (2,0,3) else mb ns 0 c.cB
def kh(l:List ByteArray):List (List D):=l.map fun s=>[.str s]
set_option maxHeartbeats 4000000 in
theorem Qj(c:vn):aW Tryz.prog 19 [c.d] (.tup [i64 (gz c).1,i64 (gz c).2.1,i64 (gz c).2.2]):=by
 refine aA Tryz.func19 rfl (ft:=Rf) 1 fun {σ} Y st=>?_;conv=>whnf
 refine ai (fun h0=>?_) (fun h0=>?_)
 ·have h0:c.marks.length>8:=by have:=of_decide_eq_true h0;simp at this;omega
  have he:gz c=(1,0,3):=by unfold gz;rw[if_pos h0]
  rw[he];conv=>whnf
  exact af
 have h0:¬ c.marks.length>8:=by have:=of_decide_eq_false h0;simp at this;omega
 have he:gz c=match kC [] 0 c.marks with
  | .inl (i,e)=>(1,i,e)
  | .inr ns=>if c.cB.length>4 then (2,0,3) else mb ns 0 c.cB:=by unfold gz;rw[if_neg h0]
 conv=>whnf
 refine aZ (T:=tys) ao (by exact ah mixed ao (by decide +kernel)) c.marks (fun i (ns:List ByteArray)=>⟨[(1,.ptr 1 0),(5,.sl 900001 1 0 ns.length),(6,.d (i64 i))],[(1,.box (.dd c.cells)),(900001,.arr 1 (.dd (kh ns)))],st⟩) (fun i r ns=>ns.length<=i/\kC [] 0 c.marks=kC ns i r) [] ((Wk.born 5 900001 1 rfl rfl rfl).trans av) ⟨by simp,rfl⟩ ?_ ?_
 ·rintro i m r ns yV hi hr ⟨yc,hk⟩
  rw[kC]at hk;conv=>whnf
  refine ai (fun _=>?_) (fun h=>absurd hi (by simpa using h));conv=>whnf
  refine ax yV ?_;conv=>whnf
  refine ag (JR m.name ns (by omega)) rfl 1 (aF rfl (aF (bR rfl (by simp[kh])) rfl)) ?_;conv=>whnf
  refine aL rfl ?_;conv=>whnf
  refine aL (by simp[aI.len,kh]) ?_;conv=>whnf
  refine bo (decide_eq_true (by show((kh ns).length+1)*16<=_;simp only[kh,List.length_map];omega)) ?_;conv=>whnf
  by_cases hf:eo m.name ns=0;case neg=>
   have hm:jF ns m=eo m.name ns:=by unfold jF;rw[if_neg hf]
   rw[hm,if_neg hf]at hk;have tD:gz c=(1,(i:Int),eo m.name ns):=by rw[he,hk]
   rw[tD,decide_eq_false hf];conv=>whnf
   refine ai (fun h=>absurd h (by simp[hf])) (fun _=>?_);conv=>whnf
   refine ai (fun _=>?_) (fun h=>absurd h (by simp[hf]));conv=>whnf
   exact af
  rw[decide_eq_true hf];conv=>whnf
  refine ag (ds:=[m.mE.d,i64 30000]) (Jr m.mE 30000 (by omega)) rfl 1 rfl ?_
  cases hw:bS 30000 m.mE with
  | false=>
   have hm:jF ns m=7:=by unfold jF yC;rw[if_pos hf,hw];rfl
   rw[hm,if_neg (by simp)]at hk;have tD:gz c=(1,(i:Int),7):=by rw[he,hk]
   rw[tD];conv=>whnf
   exact af
  | true=>
   have hm:jF ns m=fy m.fP:=by unfold jF yC;rw[if_pos hf,hw];rfl
   rw[hm]at hk;conv=>whnf
   refine ai (fun _=>?_) (fun h=>absurd h (by simp[hf]));conv=>whnf
   refine ae (Qr m.fP) rfl rfl ?_;conv=>whnf
   refine ai (fun hp=>?_) (fun hp=>?_)
   ·have hp:¬ fy m.fP=0:=by simpa using hp
    rw[if_neg hp]at hk;have tD:gz c=(1,(i:Int),fy m.fP):=by rw[he,hk]
    rw[tD];conv=>whnf
    exact af
   ·have hp:fy m.fP=0:=by simpa using hp
    rw[if_pos hp]at hk;conv=>whnf
    refine ab ?_;conv=>whnf
    exact⟨ns ++ [m.name],⟨by simp;omega,hk⟩,(Wk.move 35 900001 rfl rfl).trans (Wk.sub ⟨rfl,congrArg (fun z:Nat=>some (V.sl 900001 1 0 z)) (by simp[aI.len,kh]),congrArg (fun z=>some (V.d (i64 z))) (by omega),trivial⟩ ⟨rfl,congrArg (fun z=>some (Obj.arr 1 (.dd z))) (by simp[kh]),trivial⟩)⟩
 ·rintro ns ⟨yc,hk⟩
  have tD:gz c=if c.cB.length>4 then (2,0,3) else mb ns 0 c.cB:=by rw[he,hk,kC]
  conv=>whnf
  refine ai (fun h=>absurd h (by simp)) (fun _=>?_);conv=>whnf
  refine ai (fun h1=>?_) (fun h1=>?_)
  ·have h1:c.cB.length>4:=by have:=of_decide_eq_true h1;simp at this;omega
   rw[if_pos h1]at tD;rw[tD];conv=>whnf
   exact af
  have h1:¬ c.cB.length>4:=by have:=of_decide_eq_false h1;simp at this;omega
  rw[if_neg h1]at tD;conv=>whnf
  refine aZ (T:=tys) ao (by exact ah mixed ao (by decide +kernel)) c.cB (fun i (ns:List ByteArray)=>⟨[(1,.ptr 1 0),(5,.sl 900001 1 0 ns.length),(9,.d (i64 i))],[(1,.box (.dd c.cells)),(900001,.arr 1 (.dd (kh ns)))],st⟩) (fun i r ns=>ns.length<=8+i/\gz c=mb ns i r) ns av ⟨by omega,tD⟩ ?_ ?_
  ·rintro i m r ns yV hi hr ⟨yc,hk⟩
   rw[mb]at hk;conv=>whnf
   refine ai (fun _=>?_) (fun h=>absurd hi (by simpa using h));conv=>whnf
   refine ax yV ?_;conv=>whnf
   refine ag (JR m.name ns (by omega)) rfl 1 (aF rfl (aF (bR rfl (by simp[kh])) rfl)) ?_;conv=>whnf
   refine ax yV ?_;conv=>whnf
   refine aL rfl ?_;conv=>whnf
   refine aL (by simp[aI.len,kh]) ?_;conv=>whnf
   refine bo (decide_eq_true (by show((kh ns).length+1)*16<=_;simp only[kh,List.length_map];omega)) ?_;conv=>whnf
   by_cases hf:eo m.name ns=0;case neg=>
    have hm:ma ns m=eo m.name ns:=by unfold ma;rw[if_neg hf]
    rw[hm,if_neg hf]at hk;rw[hk,decide_eq_false hf];conv=>whnf
    refine ai (fun _=>?_) (fun h=>absurd h (by simp[hf]));conv=>whnf
    exact af
   have hm:ma ns m=nf m:=by unfold ma;rw[if_pos hf]
   rw[hm]at hk;rw[decide_eq_true hf];conv=>whnf
   refine ax yV ?_;conv=>whnf
   refine ag (ds:=[m.d]) (Qs m) rfl 1 rfl ?_;conv=>whnf
   refine ai (fun hp=>?_) (fun hp=>?_)
   ·have hp:¬ nf m=0:=by simpa using hp
    rw[if_neg hp]at hk;rw[hk];conv=>whnf
    exact af
   ·have hp:nf m=0:=by simpa using hp
    rw[if_pos hp]at hk;conv=>whnf
    refine ab ?_;conv=>whnf
    exact⟨ns ++ [m.name],⟨by simp;omega,hk⟩,(Wk.move 80 900001 rfl rfl).trans (Wk.sub ⟨rfl,congrArg (fun z:Nat=>some (V.sl 900001 1 0 z)) (by simp[aI.len,kh]),congrArg (fun z=>some (V.d (i64 z))) (by omega),trivial⟩ ⟨rfl,congrArg (fun z=>some (Obj.arr 1 (.dd z))) (by simp[kh]),trivial⟩)⟩
  ·rintro ns ⟨yc,hk⟩
   rw[mb]at hk;rw[hk];conv=>whnf
   refine ai (fun h=>absurd h (by simp)) (fun _=>?_);conv=>whnf
   exact af
theorem qo(x:Pt×Pt):∀ (l:List Pt) (n:Int),kF x l n=n+(l.countP fun p=>decide (aC x.2 (p.sub x.1)<=0):Nat)
 | [],n=>by simp[kF]
 | p::r,n=>by
  rw[kF,qo x r,List.countP_cons];by_cases h:aC x.2 (p.sub x.1)<=0
  ·simp[h];omega
  ·simp[h]
theorem Hv(l:List Pt):(List.range l.length).map (fu l)=l:=by
 apply List.ext_getElem
 ·simp
 ·intro i h1 h2
  simp[fu,h2]
theorem CF{l:List Nat}(hn:l.Nodup){i k:Nat}(hi:i∈l)(hk:k∈l)(Ta:i≠k)(g:Nat->Bool)(gi:g i=true)(gk:g k=true):l.countP g=2 ↔ ∀ n∈l,n≠i->n≠k->g n=false:=by
 have dv:k∈l.erase i:=(List.mem_erase_of_ne (Ne.symm Ta)).2 hk;have e1:l.countP g=(l.erase i).countP g+1:=by
  rw[(List.perm_cons_erase hi).countP_eq g,List.countP_cons_of_pos gi]
 have e2:(l.erase i).countP g=((l.erase i).erase k).countP g+1:=by
  rw[(List.perm_cons_erase dv).countP_eq g,List.countP_cons_of_pos gk]
 have e3:l.countP g=2↔((l.erase i).erase k).countP g=0:=by omega
 rw[e3,List.countP_eq_zero];have u2:(l.erase i).Nodup:=hn.erase i;constructor
 ·intro h n u1 h1 h2
  have:=h n (u2.mem_erase_iff.2 ⟨h2,hn.mem_erase_iff.2 ⟨h1,u1⟩⟩);simpa using this
 ·intro h n u1
  obtain⟨h2,h3⟩:=u2.mem_erase_iff.1 u1;obtain⟨h1,h4⟩:=hn.mem_erase_iff.1 h3;simp[h n h4 h1 h2]
theorem zR{s:ed}(h3:3<=s.aw.length){i k:Nat}(hi:i<s.aw.length)(hk:k<s.aw.length)(Ta:i≠k)(CV:(i+1)%s.aw.length=k) :
  gP s (fu s.aw i,(fu s.aw k).sub (fu s.aw i))=o7 s.aw i:=by
 have hz:∀ b:Pt,aC b ⟨0,0⟩=0:=fun b=>by simp[aC]
 have hb:∀ b:Pt,aC b b=0:=fun b=>by simp[aC,Int.mul_comm]
 have hs:∀ b:Pt,b.sub b=⟨0,0⟩:=fun b=>by simp[Pt.sub]
 generalize hl:s.aw=l at *;generalize NU:(fu l k).sub (fu l i)=b
 let g:Nat->Bool:=fun n=>decide (aC b ((fu l n).sub (fu l i))<=0)
 have gi:g i=true:=by show decide _=true;rw[hs,hz];rfl
 have gk:g k=true:=by show decide _=true;rw[NU,hb];rfl
 have SV:kF (fu l i,b) l 0=2 ↔ ∀ n<l.length,n≠i->n≠k->g n=false:=by
  have h1:=qo (fu l i,b) l 0;have h2:(l.countP fun p=>decide (aC b (p.sub (fu l i))<=0))=(List.range l.length).countP g:=by
   have h5:=List.countP_map (p:=fun p=>decide (aC b (p.sub (fu l i))<=0)) (f:=fu l) (l:=List.range l.length);rw[Hv]at h5;exact h5
  have h3:=CF (List.nodup_range (n:=l.length)) (List.mem_range.2 hi) (List.mem_range.2 hk) Ta g gi gk;rw[h1,h2];constructor
  ·intro h n hn
   exact h3.1 (by omega) n (List.mem_range.2 hn)
  ·intro h
   have:=h3.2 fun n hn=>h n (List.mem_range.1 hn);omega
 obtain⟨t,ht,eC,u5⟩:∃ t<l.length,t≠i/\t≠k:=by
  by_cases h0:0≠i/\0≠k
  ·exact⟨0,by omega,h0⟩
  by_cases h1:1≠i/\1≠k
  ·exact⟨1,by omega,h1⟩
  ·exact⟨2,by omega,by omega,by omega⟩
 have KB:o7 l i=true ↔ ∀ n<l.length,n≠i->n≠k->0<aC b ((fu l n).sub (fu l i)):=by
  unfold o7;rw[List.all_eq_true];constructor
  ·intro h n hn h1 h2
   have:=h n (List.mem_range.2 hn);unfold kQ at this;rw[CV,NU]at this;simpa[h1,h2]using this
  ·intro h n hn
   have hn:=List.mem_range.1 hn;unfold kQ;rw[CV,NU];by_cases h1:n=i
   ·simp[h1]
   by_cases h2:n=k
   ·simp[h2]
   ·simp[h n hn h1 h2]
 rw[Bool.eq_iff_iff,KB];unfold gP;simp only[hl,Bool.and_eq_true,decide_eq_true_eq,Bool.not_eq_true',Bool.and_eq_false_imp,decide_eq_false_iff_not];rw[SV];constructor
 ·rintro ⟨h1,_⟩ n hn DK Wo
  have:=h1 n hn DK Wo;have:¬ aC b ((fu l n).sub (fu l i))<=0:=by simpa[g]using this
  omega
 ·intro h
  refine⟨fun n hn h1 h2=>?_,fun hx hy=>?_⟩
  ·have:=h n hn h1 h2
   show decide _=false;exact decide_eq_false (by omega)
  ·have:=h t ht eC u5
   unfold aC at this;rw[hx,hy]at this;simp at this
theorem uF:∀ (l:List Pt) (a:Pt),md a l=(List.range l.length).map fun j=>((if j=0 then a else fu l (j-1)),(fu l j).sub (if j=0 then a else fu l (j-1)))
 | [],_=>rfl
 | p::r,a=>by
  rw[md,uF r p,List.length_cons,List.range_succ_eq_map,List.map_cons,List.map_map]
  congr 1
  apply List.map_congr_left;intro j hj;have h1:(if j=0 then p else fu r (j-1))=fu (p::r) j:=by
   cases j with
   | zero=>rfl
   | succ j=>simp[fu]
  have h2:fu (p::r) (j+1)=fu r j:=by simp[fu]
  show((if j=0 then p else fu r (j-1)),(fu r j).sub (if j=0 then p else fu r (j-1)))=_;simp only[Function.comp,Nat.succ_ne_zero,if_false,Nat.succ_sub_one,h1];rw[show Nat.succ j=j+1 from rfl,h2]
theorem zS{s:ed}(h3:3<=s.aw.length):(iP s).all (gP s)=oZ s.aw:=by
 have Oh:ze s.aw=fu s.aw (s.aw.length-1):=rfl;unfold iP oZ;rw[uF,Oh,List.all_map];have IV:∀ j<s.aw.length,((gP s)∘fun j=>((if j=0 then fu s.aw (s.aw.length-1) else fu s.aw (j-1)),(fu s.aw j).sub (if j=0 then fu s.aw (s.aw.length-1) else fu s.aw (j-1)))) j=o7 s.aw (if j=0 then s.aw.length-1 else j-1):=by
  intro j hj;show gP s _=_;by_cases h0:j=0
  ·subst h0
   simp only[if_true];exact zR h3 (by omega) hj (by omega) (by rw[Nat.sub_add_cancel (by omega),Nat.mod_self])
  ·simp only[if_neg h0]
   exact zR h3 (by omega) hj (by omega) (by rw[Nat.sub_add_cancel (by omega),Nat.mod_eq_of_lt hj])
 rw[Bool.eq_iff_iff,List.all_eq_true,List.all_eq_true];constructor
 ·intro h i hi
  have hi:=List.mem_range.1 hi;have hk:(i+1)%s.aw.length<s.aw.length:=Nat.mod_lt _ (by omega);have:=h ((i+1)%s.aw.length) (List.mem_range.2 hk);rw[IV _ hk]at this;have he:(if (i+1)%s.aw.length=0 then s.aw.length-1 else (i+1)%s.aw.length-1)=i:=by
   by_cases hl:i+1<s.aw.length
   ·rw[Nat.mod_eq_of_lt hl,if_neg (by omega)];omega
   ·have:i+1=s.aw.length:=by omega
    rw[this,Nat.mod_self,if_pos rfl];omega
  rw[he]at this;exact this
 ·intro h j hj
  have hj:=List.mem_range.1 hj;rw[IV j hj];refine h _ (List.mem_range.2 ?_);split<;>omega
theorem HZ(s:ed):gY s=nf s:=by
 unfold gY nf
 cases h1:bc (s.aw.length:Int) 3 8 with
 | false=>rfl
 | true=>
  rw[bg]at h1;have e:(s.aw.any fun p=>!bS 10000 p) = !(s.aw.all fun p=>bS 10000 p):=by
   rw[List.any_eq_not_all_not];simp
  rw[e,zS (by omega)];cases s.aw.all fun p=>bS 10000 p<;>simp
def yn(m:sO)(ns:List ByteArray):Prop:=∀ n,0<=(getM m n).getD 0/\(0<(getM m n).getD 0↔n∈ns)
theorem yn.inc{m:sO}{ns:List ByteArray}(h:yn m ns)(n:ByteArray):yn (jV m n) (ns ++ [n]):=by
 intro u;unfold jV;rw[tv];split
 ·rename_i hu
  subst hu;have:=(h u).1;simp;omega
 ·rename_i hu
  have:=h u;refine⟨this.1,?_⟩;rw[this.2];simp[hu]
theorem yH{m:sO}{ns:List ByteArray}(h:yn m ns)(n:ByteArray):c8 m n=eo n ns:=by
 have hn:=h n;unfold c8 eo;have uZ:(ns.any fun y=>decide (y=n))=true↔n∈ns:=by simp
 by_cases hm:n∈ns
 ·have:=hn.2.2 hm
  rw[if_pos (show(getM m n).getD 0+1>1 by omega),if_pos (uZ.2 hm)]
 ·have:¬ 0<(getM m n).getD 0:=fun h=>hm (hn.2.1 h)
  rw[if_neg (show ¬ (getM m n).getD 0+1>1 by omega),if_neg (fun h=>hm (uZ.1 h))]
theorem zi:∀ (l:List Mark) (m:sO) (ns:List ByteArray) (i:Int),yn m ns->(∃ e,gK m i l = .inl e/\kC ns i l = .inl e) \/ ∃ m' KU,gK m i l = .inr m'/\kC ns i l = .inr KU/\yn m' KU
 | [],m,ns,i,h=>.inr ⟨m,ns,rfl,rfl,h⟩
 | x::r,m,ns,i,h=>by
  have he:mU m x=jF ns x:=by unfold mU jF;rw[yH h]
  rw[gK,kC,he];by_cases h0:jF ns x=0
  ·rw[if_pos h0,if_pos h0]
   exact zi r _ _ _ (h.inc x.name)
  ·rw[if_neg h0,if_neg h0]
   exact .inl ⟨_,rfl,rfl⟩
theorem zM:∀ (l:List ed) (m:sO) (ns:List ByteArray) (i:Int),yn m ns->jO m i l=mb ns i l
 | [],_,_,_,_=>rfl
 | x::r,m,ns,i,h=>by
  have he:l9 m x=ma ns x:=by unfold l9 ma;rw[yH h,HZ]
  rw[jO,mb,he];by_cases h0:ma ns x=0
  ·rw[if_pos h0,if_pos h0]
   exact zM r _ _ _ (h.inc x.name)
  ·rw[if_neg h0,if_neg h0]
theorem Eb(c:vn):cC c=gz c:=by
 unfold cC gz;have h0:yn [] []:=fun n=>by simp[getM]
 rcases zi c.marks [] [] 0 h0 with⟨e,h1,h2⟩|⟨m',KU,h1,h2,h3⟩
 ·rw[h1,h2]
 ·rw[h1,h2]
  simp only;rw[zM c.cB m' KU 0 h3]
theorem Ma(c:vn):aW Tryz.prog 19 [c.d] (.tup [i64 (cC c).1,i64 (cC c).2.1,i64 (cC c).2.2]):=aW.cast (Qj c) (by rw[Eb])
theorem w6(v:Pt):∀ (l:List Pt) (n:Int),n<=fK v l n/\fK v l n<=n+l.length
 | [],n=>by simp[fK]
 | q::r,n=>by
  have:=w6 v r (if aC q v<=0 then n+1 else n);rw[fK,List.length_cons];split at this<;>split<;>first|omega|contradiction
theorem Be{v:Pt}(hz:NZ v):0<=(Cj (gX v) v).x:=by
 unfold NZ at hz;unfold gX;split
 ·show 0<=v.x;omega
 ·split
  ·show 0 <= -v.y;omega
  ·split
   ·show 0 <= -v.x;omega
   ·show 0 <= - -v.y;omega
theorem sL{v:Pt}(hz:NZ v):0<=jS v/\jS v<=31:=by
 have hx:=Be hz;have hq:=HM v;unfold jS;generalize Cj (gX v) v=u at hx ⊢;have h1:aC ⟨0,1000⟩ u<=0:=by
  unfold aC;simp only;omega
 have h2:=w6 u cq (8*gX v);have h3:fK u cq (8*gX v)=fK u cq.tail (8*gX v+1):=by
  show fK u (⟨0,1000⟩::cq.tail) _=_;rw[fK,if_pos h1]
 have h4:=w6 u cq.tail (8*gX v+1);have h5:cq.length=8:=rfl;omega
end Go.PX
