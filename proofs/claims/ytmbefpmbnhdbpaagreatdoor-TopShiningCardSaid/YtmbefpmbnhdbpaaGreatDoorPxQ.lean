import Derived.Test.YtmbefpmbnhdbpaaGreatDoorPxP
import Derived.Test.YtmbefpmbnhdbpaaGreatDoorPxI
import Derived.Test.YtmbefpmbnhdbpaaGreatDoorPxM
import Derived.Test.YtmbefpmbnhdbpaaGreatDoorPxN
import Derived.Test.YtmbefpmbnhdbpaaGreatDoorPxK
import Derived.Test.YtmbefpmbnhdbpaaGreatDoorPxJ
import Derived.Shelf.Strings.Builder1
import Derived.Shelf.Strconv.Itoa3
import Derived.Shelf.Strconv.AtoiAll
import Derived.Shelf.Strings.Split
import Derived.Shelf.Strings.Cut
import Derived.Lib.ItoaNum
set_option linter.all false
set_option maxRecDepth 10000
namespace Go.PX
open Go.RowKit
def oy{γ:Type}(Y:Hd γ):List (List V×Heap)->γ->(γ->Prop)->Prop
 | [],g,Q=>Q g
 | (args,h)::r,g,Q=>Y.y args h g fun v h' g'=>h'=h/\v = .d (.bool true)/\oy Y r g' Q
def Iq(P:Program)(f:FuncId)(bc:List V)(h0 h1:Heap)(l:List (List V×Heap)):Prop:=
 ∀ {γ:Type} (Y:Hd γ) (g:γ) (Q:γ->Prop),oy Y l g Q->Lu P Y f (.yld::bc) h0 g fun v h' g'=>h'=h1/\Q g'
section
variable {P : Program} {T : fA} {ft : FT} {α σ : Type} {Y : Hd σ}
theorem CD(hT:bA P T){g:Operand}{ps:Array Tmp}{a b:Code}(Mx:dr P T ft a)(My:dr P T ft b){f:FuncId}{bc:List V}{e:Env}{h:Heap}{s:σ}{K:fu->St σ->Prop}(Pc:aR e g=some (.clo f bc))
  (lt:List Nat) (c1 c2:Nat) (tb:List Nat) {β:Type} {items:List β} {arg:β->List V} {hp:β->Heap} {h1:Heap} (hf:Iq P f bc (bh lt h) h1 (items.map fun b=>(arg b,hp b))) (nW:LL lt h1=true)
  (I:α->Heap×σ) (J:List β->α->Prop) (x0:α) (ns:tw c1 c2 tb e (lL h lt)=true) (dh:Nl c1 tb.length lt bc (bh lt h)=true) (hI:I x0=(ew (jG c1 tb) (lL h lt),s)) (C9:Ny c2 tb (I x0).1=true) (Wa:J items x0)
  (round:∀ it rest x,J (it::rest) x -> ∀ (Q:V->Heap->RS α σ->Prop),(∀ x',J rest x'->Q (.d (.bool true)) (hp it) (.go x')) ->
   (lr P T ft Y I ps a b (nh (jG c1 tb) e) c2 tb).y (arg it) (hp it) (.go x) Q)
  (fin:∀ x,J [] x->K .normal ⟨e,ew (lD c1 tb) (I x).1++h1,(I x).2⟩):kc P ft Y g ps a b ⟨e,h,s⟩ K:=by
 refine Ed hT Mx My Pc lt c1 c2 tb I x0 ns dh hI C9 fun L=>?_
 have key:∀ (l:List β) (x:α) (L:Loc),J l x->oy (uK (lr P T ft Y I ps a b (nh (jG c1 tb) e) c2 tb)) (l.map fun b=>(arg b,hp b)) (RS.go x,L) (fun g=>match g.1 with
   | .go x=>K .normal ⟨e,ew (lD c1 tb) (I x).1++h1,(I x).2⟩
   | .done ex hd s'=>K ex ⟨e,ew (lD c1 tb) hd++h1,s'⟩):=by
  intro l
  induction l with
  | nil=>exact fun x L hj=>fin x hj
  | cons it rest ih=>
   intro x L hj
   exact round it rest x hj (fun v h' g'=>∀ L',h'=hp it/\v = .d (.bool true)/\oy (uK (lr P T ft Y I ps a b (nh (jG c1 tb) e) c2 tb)) (rest.map fun b=>(arg b,hp b)) (g',L') (fun g=>match g.1 with
   | .go x=>K .normal ⟨e,ew (lD c1 tb) (I x).1++h1,(I x).2⟩
   | .done ex hd s'=>K ex ⟨e,ew (lD c1 tb) hd++h1,s'⟩)) (fun x' C4 L'=>⟨rfl,rfl,ih x' L' C4⟩)
 have hr:=hf (uK (lr P T ft Y I ps a b (nh (jG c1 tb) e) c2 tb)) (RS.go x0,L) _ (key items x0 L Wa);refine⟨hr.enter,fun cx hY L F aT w hh hv=>(gZ (hr.run cx hY L F aT w hh hv)).mono ?_⟩;rintro en w' ⟨x,rfl,v,h',gs,L',F',⟨rfl,hK⟩,dO⟩;exact⟨x,rfl,v,_,gs,L',F',⟨nW,hK⟩,dO⟩
theorem OJ{e:Env}{h:Heap}{s:σ}{d:Option Nat}{ds:List D}{r:List (List V×Heap)}{Q:σ->Prop}(hit:oy Y ((inj ds,[])::r) s Q){args:List V}(hv:args=inj ds)(hd:Nat.ble (d.getD 0) 10000=true){K:St σ->Prop}
  (kt:∀ s',oy Y r s' Q->bz (bw d (.d (.bool true))) e h fun e h=>K ⟨e,h,s'⟩):GD P Y ⟨e,h,s⟩ d args K:=by
 have hB:fU [] d (.d (.bool true)) []=true:=by
  simp only[fU,Bool.and_eq_true];refine⟨⟨⟨⟨⟨⟨⟨⟨⟨rfl,rfl⟩,rfl⟩,rfl⟩,rfl⟩,rfl⟩,rfl⟩,hd⟩,rfl⟩,?_⟩;cases d<;>rfl
 have Ha:∀ (R:Nat->Nat) (l:List D),sq R (inj l)=inj l:=by
  intro R l
  induction l with
  | nil=>rfl
  | cons c r ih=>show aJ (lZ R) (.d c)::dz (lZ R) (inj r) = .d c::inj r;rw[show dz (lZ R) (inj r)=inj r from ih];rfl
 refine DT [] hit (by rw[hv];exact Ha _ _) rfl rfl rfl ?_;rintro v h1 s' ⟨rfl,rfl,hi⟩;refine⟨hB,?_⟩;have:=kt s' hi;rw[cO s']at this;have hs:(aL (⟨e,h,s'⟩:St σ) (bw d (.d (.bool true)))).s=s':=dG _ _;show K (aL ⟨e,h,s'⟩ (bw d (.d (.bool true))));generalize aL (⟨e,h,s'⟩:St σ) (bw d (.d (.bool true)))=st at this hs;obtain⟨e1,h1,s1⟩:=st;simp only at hs;subst hs;exact this
end
end Go.PX
namespace Go.PX
open Go.Proofs
theorem AB:∀ {k:Nat} {v:Int},(upto k v).length=k
 | 0,_=>rfl
 | k+1,v=>by rw[upto,List.length_cons,AB]
theorem qW{α β:Type}{f:α->List β}{n:Nat}:∀ {l:List α},(∀ x∈l,(f x).length<=n)->(l.flatMap f).length<=l.length*n
 | [],_=>by simp
 | x::r,h=>by
  rw[List.flatMap_cons,List.length_append,List.length_cons,Nat.succ_mul];have h1:=h x (by simp);have h2:=qW (l:=r) fun y hy=>h y (by simp[hy]);omega
theorem xu{s:Span}(hs:s.hi<=s.lo+4):∀ {k:Nat},(gT s k).length<=5^k
 | 0=>by simp[gT]
 | k+1=>by
  rw[gT];have h1:=qW (l:=nN s) (f:=fun v=>(gT s k).map (v :: ·)) (n:=5^k) fun v _=>by simpa using xu hs
  have h2:(nN s).length<=5:=by unfold nN;rw[AB];omega
  have h3:=Nat.mul_le_mul_right (5^k) h2;rw[Nat.pow_succ];omega
theorem LI{c:bG}(hR:nu c):(Ej c.aB c.az).length<=2000:=by
 unfold Ej;have hk:5^(c.az.length+1)<=125:=by
  have:(5:Nat)^(c.az.length+1)<=5^3:=Nat.pow_le_pow_right (by omega) (by have:=hR.p8;omega);simpa using this
 have h1:=qW (l:=nN c.aB.start) (f:=fun st=>(gT c.aB.speed (c.az.length+1)).map fun l=>(⟨st,l⟩:bm)) (n:=125) fun v _=>by
  have:=xu (s:=c.aB.speed) hR.aB.speed.2.2.2 (k:=c.az.length+1);rw[List.length_map];omega
 have h2:(nN c.aB.start).length<=13:=by
  unfold nN;rw[AB];have:=hR.far;omega
 have:=Nat.mul_le_mul_right 125 h2;omega
theorem Ir{c:bG}(h0:(bN c).2.2=0):(iS c).length<=2000:=by
 unfold iS;rw[rA (nu.up h0).1,List.length_map];exact Nat.le_trans (List.length_filter_le _ _) (LI (ed h0))
def pg(x:bm×Int):D:=.agg [i64 x.1.start,aV x.1.aW,i64 x.2]
def dK(ps:List cu)(l:List (bm×List Bool)):List (bm×Int):=l.filterMap fun p=>if fD p.2 ps<0 then none else some (p.1,fD p.2 ps)
theorem abB(n:Nat)(hn:n<=100000):tH Tryz.prog 148 [.ptr 1000000 0] [(1000000,.box (.dd [i64 n]))] fun v h'=>v = .d (.tup [])/\h' = [(1000000,.box (.dd [i64 (n+1:Nat)]))]:=by
 intro σ Y s;refine ez mixed av Tryz.func148 rfl (ft:=QW) (args:=[.ptr 1000000 0]) (show oQ QW Tryz.f148 1=true from by decide +kernel) ?_;conv=>whnf
 refine ao (((n+1:Nat):Int)) (by(try dsimp only);omega) (wrap_i64 (by(try dsimp only);omega)) ?_;conv=>whnf
 exact aK [] [] [(1000000,.box (.dd [i64 (n+1:Nat)]))] rfl ⟨rfl,trivial⟩ rfl ⟨⟨rfl,rfl⟩,rfl⟩
theorem abC(x y:bm×Int)(hx : -1<=x.2/\x.2<=200)(hy : -1<=y.2/\y.2<=200):bq Tryz.prog 149 [pg x,pg y] (i64 (x.2-y.2)):=by
 refine aY Tryz.func149 rfl (ft:=Vw) 2 fun {σ} Y st=>?_;conv=>whnf
 refine ao (x.2-y.2) (by simp) (wrap_i64 (by omega)) ?_;conv=>whnf
 exact ai
def Ay(n:Nat):Heap:=[(1000000,.box (.vv [.clo 148 [.ptr 1000001 0]])),(1000001,.box (.dd [i64 n]))]
def IA(c:bG)(l:ct):List V:=[.d (.ref c.cells),.ptr 1000000 0,.d (.ref l.cells)]
theorem abA(c:bG)(l:ct)(n:Nat):tH Tryz.prog 147 [.d c.d,.d l.d,.clo 148 [.ptr 1000000 0]] [(1000000,.box (.dd [i64 n]))] fun v h'=>
  v = .clo 195 [.d (.ref c.cells),.ptr 2000000 0,.d (.ref l.cells)]/\h' = [(1000000,.box (.dd [i64 n])),(2000000,.box (.vv [.clo 148 [.ptr 1000000 0]]))]:=by
 intro σ Y s;refine ez mixed av Tryz.func147 rfl (ft:=QV) (args:=[.d c.d,.d l.d,.clo 148 [.ptr 1000000 0]]) (show oQ QV Tryz.f147 3=true from by decide +kernel) ?_;conv=>whnf
 refine oV (l':=[.clo 195 [.d (.ref c.cells),.ptr 5 0,.d (.ref l.cells)]]) (h':=[(5,.box (.vv [.clo 148 [.ptr 1000000 0]])),(1000000,.box (.dd [i64 n]))]) (Wk.trans (Wk.Zw 1 [3,4]) aw) rfl rfl ?_;exact aK [5] [.clo 195 [.d (.ref c.cells),.ptr 2000000 0,.d (.ref l.cells)]] [(1000000,.box (.dd [i64 n])),(2000000,.box (.vv [.clo 148 [.ptr 1000000 0]]))] rfl ⟨rfl,rfl,trivial⟩ rfl ⟨⟨rfl,rfl⟩,rfl⟩
theorem sW{l:List cu}:∀ {r:List Bool} {b:Bool} {A:List ab} {s:Int},mG l r b A s = -1\/(s<=mG l r b A s/\mG l r b A s<s+r.length)
 | [],_,_,_=>.inl rfl
 | x::r,b,A,s=>by
  rw[mG];split
  ·right;simp only[List.length_cons];omega
  ·rcases sW (r:=r) (b:=x) (A:=A.filterMap (gq l (x !=b))) (s:=s+1) with h|h
   ·exact .inl h
   ·right;simp only[List.length_cons];omega
theorem yQ{l:List cu}{lit:List Bool}(h:lit.length<=200) : -1<=fD lit l/\fD lit l<=200:=by
 unfold fD
 cases lit with
 | nil=>simp
 | cons b r=>
  simp only[List.length_cons]at h;have:=sW (l:=l) (r:=r) (b:=b) (A:=qP b l.length) (s:=1);simp only;omega
theorem Fg{γ:Type}{Y:Hd γ}:∀ (l:List (List V×Heap)),oy Y.np l=oy Y l
 | []=>rfl
 | x::r=>by
  funext g Q
  show(Y.y x.1 x.2 g fun v h' g'=>h'=x.2/\v = .d (.bool true)/\oy Y.np r g' Q)=_;rw[Fg r];rfl
theorem oy.np{γ:Type}{Y:Hd γ}{l:List (List V×Heap)}{g:γ}{Q:γ->Prop}(h:oy Y l g Q):oy Y.np l g Q:=by rw[Fg];exact h
set_option maxHeartbeats 1000000 in
theorem Le(c:bG)(l:ct)(h0:(bN c).2.2=0)(hl:sN l):Iq Tryz.prog 195 (IA c l) (Ay 0) (Ay (iS c).length) ((dK l.bK (iS c)).map fun x=>([.d (pg x)],[])):=by
 intro γ Y g0 Q hit;have hR:=ed h0;have hn:=hR.aB.night;refine ez mixed av Tryz.func195 rfl (ft:=Q2) (args:=.yld::IA c l) (show oQ Q2 Tryz.f195 4=true from by decide +kernel) ?_;replace hit:=hit.np;conv=>whnf
 refine af (PN c hR) rfl rfl ?_;conv=>whnf
 refine gl av (by exact aj mixed av (by decide +kernel)) (by exact aj mixed av (by decide +kernel)) rfl 1500000 1600000 [4] (by exact l7 h0)
  (fun(p:Nat×γ)=>([(1000000,.box (.vv [.clo 148 [.ptr 1000001 0]])),(1000001,.box (.dd [i64 p.1])),(1500000,.box (.vv [.yld]))],p.2))
  (fun(rest:List (bm×List Bool)) (p:Nat×γ)=>oy Y.np ((dK l.bK rest).map fun x=>([.d (pg x)],[])) p.2 Q/\(∀ q∈rest,q.2.length=c.aB.night.toNat)/\p.1+rest.length=(iS c).length) (0,g0) rfl rfl rfl ⟨hit,fun p hp=>(yr h0 hp).2.2,by simp⟩ ?_ ?_
 ·clear hit
  rintro ⟨t,lit⟩ rest ⟨n,g⟩ ⟨hit,wV,pW⟩ Q' xD YQ;refine⟨⟨rfl,rfl⟩,?_⟩;simp only at hit pW;have hlen:=wV (t,lit) (by simp);simp only at hlen;have dO:∀ q∈rest,q.2.length=c.aB.night.toNat:=fun q hq=>wV q (by simp[hq]);have er:lit ≠ []:=by rintro rfl;simp at hlen;omega
  have nV:=Ir h0;simp only[List.length_cons]at pW;conv=>whnf
  refine bH (abB n (by omega)) [1000001] rfl ⟨_,_,rfl,rfl,rfl⟩ rfl ?_;conv=>whnf
  refine af (PS lit l.bK er (by omega) hl.len) rfl rfl ?_;conv=>whnf
  have D0:=yQ (l:=l.bK) (lit:=lit) (by omega);refine ag (fun h1=>?_) (fun h1=>?_)
  ·have h1:fD lit l.bK<0:=by simpa using h1
   have he:dK l.bK ((t,lit)::rest)=dK l.bK rest:=by
    unfold dK;rw[List.filterMap_cons];simp only[if_pos h1]
   rw[he]at hit;conv=>whnf
   exact⟨(n+1,g),aw,rfl,xD _ ⟨hit,dO,by simp only;omega⟩⟩
  ·have h1:¬ fD lit l.bK<0:=by simpa using h1
   have he:dK l.bK ((t,lit)::rest)=(t,fD lit l.bK)::dK l.bK rest:=by
    unfold dK;rw[List.filterMap_cons];simp only[if_neg h1]
   rw[he,List.map_cons]at hit;conv=>whnf
   refine OJ (ds:=[pg (t,fD lit l.bK)]) hit rfl rfl (fun g1 hi=>?_);conv=>whnf
   exact⟨(n+1,g1),aw,rfl,xD _ ⟨hi,dO,by simp only;omega⟩⟩
 ·rintro ⟨n,g⟩ ⟨hit,_,pW⟩
  simp only[List.length_nil]at pW;conv=>whnf
  rw[show n=(iS c).length by omega];exact aK [] [] (Ay (iS c).length) rfl ⟨rfl,rfl,trivial⟩ rfl ⟨rfl,hit⟩
def Hn(acc:Option (bm×Int))(y:bm×Int):Option (bm×Int):=match acc with
 | none=>some y
 | some x=>if y.2-x.2<0 then some y else some x
def tf(l:List (bm×Int)):Option (bm×Int):=l.foldl Hn none
def PW(o:Option (bm×Int)):D:=match o with
 | none=>.tup [.agg [i64 0,.nils,i64 0],.bool false]
 | some x=>.tup [pg x,.bool true]
theorem AS{c:bG}(h0:(bN c).2.2=0){l:ct}{x:bm×Int}(hx:x∈dK l.bK (iS c)) : -1<=x.2/\x.2<=200:=by
 unfold dK at hx;obtain⟨p,hp,hpx⟩:=List.mem_filterMap.1 hx;have hn:=(ed h0).aB.night;have hl:=(yr h0 hp).2.2;split at hpx
 ·cases hpx
 ·cases hpx
  exact yQ (by omega)
set_option maxHeartbeats 1000000 in
theorem abz(c:bG)(l:ct)(h0:(bN c).2.2=0)(hl:sN l):tH Tryz.prog 146 [.clo 195 (IA c l),.d (.clo 149 [])] (Ay 0) fun v h'=>
  v = .d (PW (tf (dK l.bK (iS c))))/\h'=Ay (iS c).length:=by
 intro σ Y st;refine ez mixed av Tryz.func146 rfl (ft:=QU) (args:=[.clo 195 (IA c l),.d (.clo 149 [])]) (show oQ QU Tryz.f146 2=true from by decide +kernel) ?_;have Pp:=fun x hx=>AS h0 (l:=l) (x:=x) hx;have Tz:=fun {γ:Type}=>Le c l h0 hl (γ:=γ);generalize (iS c).length=n at Tz;generalize dK l.bK (iS c)=items at Pp Tz;conv=>whnf
 refine kc.wk (Wk.ord [3,4,5]) ?_;refine CD av (by exact aj mixed av (by decide +kernel)) (by exact aj mixed av (by decide +kernel)) rfl [1000000,1000001] 1500000 1600000 [3,4,5] (by exact Tz) rfl
  (fun(o:Option (bm×Int))=>(match o with
   | none=>[(1500000,.box (.dd [.clo 149 []])),(1500001,.box (.dd [i64 0,.nils,i64 0])),(1500002,.box (.dd [.bool false]))]
   | some x=>[(1500000,.box (.dd [.clo 149 []])),(1500001,.box (.dd [i64 x.1.start,aV x.1.aW,i64 x.2])),(1500002,.box (.dd [.bool true]))],st))
  (fun(rest:List (bm×Int)) (o:Option (bm×Int))=>tf items=rest.foldl Hn o/\(∀ x,o=some x -> -1<=x.2/\x.2<=200) /\ ∀ x∈rest,-1<=x.2/\x.2<=200) none rfl rfl rfl rfl ⟨rfl,⟨fun x (h:none=some x)=>(by cases h),Pp⟩⟩ ?_ ?_
 ·rintro y rest o ⟨hk,ho,hr⟩ Q xD
  refine⟨⟨rfl,rfl⟩,?_⟩;rw[List.foldl_cons]at hk;have hy:=hr y (by simp);have dO:∀ x∈rest,-1<=x.2/\x.2<=200:=fun l h=>hr l (by simp[h])
  cases o with
  | none=>
   conv=>whnf
   exact⟨some y,aw,rfl,xD _ ⟨hk,⟨fun x h=>(by cases h;exact hy),dO⟩⟩⟩
  | some x=>
   have hx:=ho x rfl;conv=>whnf
   refine af (abC y x hy hx) rfl rfl ?_;conv=>whnf
   rw[Hn]at hk;refine ag (fun h1=>?_) (fun h1=>?_)
   ·have h1:y.2-x.2<0:=by simpa using h1
    rw[if_pos h1]at hk;conv=>whnf
    exact⟨some y,aw,rfl,xD _ ⟨hk,⟨fun x h=>(by cases h;exact hy),dO⟩⟩⟩
   ·have h1:¬ y.2-x.2<0:=by simpa using h1
    rw[if_neg h1]at hk;conv=>whnf
    exact⟨some x,aw,rfl,xD _ ⟨hk,⟨ho,dO⟩⟩⟩
 ·rintro o ⟨hk,ho,_⟩
  simp only[List.foldl_nil]at hk;rw[hk]
  cases o with
  | none=>
   conv=>whnf
   exact aK [] [.d (.agg [i64 0,.nils,i64 0]),.d (.bool false)] (Ay n) rfl ⟨rfl,rfl,trivial⟩ rfl ⟨⟨rfl,rfl⟩,rfl⟩
  | some x=>
   conv=>whnf
   exact aK [] [.d (pg x),.d (.bool true)] (Ay n) rfl ⟨rfl,rfl,trivial⟩ rfl ⟨⟨rfl,rfl⟩,rfl⟩
def zy(c:bG)(l:ct):Int:=if jL c [l]=0 then (if iS c = [] then 9 else if tf (dK l.bK (iS c))=none then 4 else 0) else jL c [l]
def uF(c:bG)(l:ct):bm×Int:=if jL c [l]=0 then (tf (dK l.bK (iS c))).getD (⟨0,[]⟩,0) else (⟨0,[]⟩,0)
def Fh(c:bG)(l:ct):D:=.tup [(uF c l).1.d,i64 (uF c l).2,i64 (zy c l)]
set_option maxHeartbeats 1000000 in
theorem XD(c:bG)(l:ct):bq Tryz.prog 82 [c.d,l.d] (Fh c l):=by
 refine aY Tryz.func82 rfl (ft:=aaf) 2 fun {σ} Y st=>?_;conv=>whnf
 refine aA (PR c [l]) rfl 1 rfl ?_;conv=>whnf
 by_cases h0:jL c [l]=0;case neg=>
  have he:zy c l=jL c [l]:=by unfold zy;rw[if_neg h0]
  have hv:uF c l=(⟨0,[]⟩,0):=by unfold uF;rw[if_neg h0]
  rw[Fh,he,hv];refine ag (fun _=>?_) (fun h1=>absurd h1 (by simp[h0]));conv=>whnf
  exact dC 0 rfl rfl ⟨⟨rfl,rfl⟩,rfl⟩
 obtain⟨JS,hl⟩:=ue h0;have hl:=hl l (by simp);have he:zy c l=(if iS c = [] then 9 else if tf (dK l.bK (iS c))=none then 4 else 0):=by unfold zy;rw[if_pos h0]
 have hv:uF c l=(tf (dK l.bK (iS c))).getD (⟨0,[]⟩,0):=by unfold uF;rw[if_pos h0]
 rw[Fh,he,hv];refine ag (fun h1=>absurd h1 (by simp[h0])) (fun _=>?_);conv=>whnf
 refine bH (abA c l 0) [7] rfl ⟨_,_,rfl,rfl,rfl⟩ rfl ?_;conv=>whnf
 refine bH (abz c l JS hl) [101408,7] ?_ ?_ ?_ ?_
 ·exact mj _ _ ⟨⟨rfl,rfl,⟨rfl,rfl⟩,rfl,trivial⟩,rfl,trivial⟩
 ·exact⟨_,_,rfl,bS rfl ⟨⟨rfl,⟨rfl,rfl⟩,trivial⟩,trivial⟩,_,_,rfl,rfl,rfl⟩
 ·rfl
 have hlen:=Ir JS
 cases hX:tf (dK l.bK (iS c)) with
 | none=>
  conv=>whnf
  refine ag (fun h1=>?_) (fun h1=>?_)
  ·have h1:iS c = []:=by simpa using h1
   conv=>whnf
   rw[if_pos h1];exact dC 0 rfl rfl ⟨⟨rfl,rfl⟩,rfl⟩
  ·have h1:¬ iS c = []:=by simpa using h1
   conv=>whnf
   rw[if_neg h1];exact dC 0 rfl rfl ⟨⟨rfl,rfl⟩,rfl⟩
 | some x=>
  conv=>whnf
  refine ag (fun h1=>?_) (fun h1=>?_)
  ·have h1:iS c = []:=by simpa using h1
   rw[h1]at hX;cases hX
  ·have h1:¬ iS c = []:=by simpa using h1
   conv=>whnf
   rw[if_neg h1];exact ai
def zx(ps:List cu)(p:bm×List Bool):Bool:=decide (fD p.2 ps<0)
def rF(A:List (bm×List Bool)):List ct->Int->List Int
 | [],_=>[]
 | x::r,i=>if A.any (zx x.bK) then i::rF A r (i+1) else rF A r (i+1)
def wz(c:bG)(l:List ct):List Int:=if jL c l=0 then rF (iS c) l 0 else []
set_option maxHeartbeats 1000000 in
theorem abk(c:bG)(l:List ct):bq Tryz.prog 83 [c.d,iH l] (.tup [aV (wz c l),i64 (jL c l)]):=by
 refine aY Tryz.func83 rfl (ft:=aag) 2 fun {σ} Y st=>?_;conv=>whnf
 refine af (PR c l) rfl rfl ?_;conv=>whnf
 by_cases h0:jL c l=0;case neg=>
  have hv:wz c l = []:=by unfold wz;rw[if_neg h0]
  rw[hv];refine ag (fun _=>?_) (fun h1=>absurd h1 (by simp[h0]));conv=>whnf
  exact dC 0 rfl rfl ⟨⟨rfl,rfl⟩,rfl⟩
 obtain⟨JS,hl⟩:=ue h0;have hlen:l.length<=6:=by
  have:(lQ l).2=0:=by unfold jL at h0;rwa [if_pos JS]at h0
  exact(zF this).1.2
 have hR:=ed JS;have hn:=hR.aB.night;have hv:wz c l=rF (iS c) l 0:=by unfold wz;rw[if_pos h0]
 rw[hv];refine ag (fun h1=>absurd h1 (by simp[h0])) (fun _=>?_);conv=>whnf
 refine bB (T:=tys) av (by exact aj mixed av (by decide +kernel)) l (fun i (acc:List Int)=>⟨[(2,.ptr 2 0),(4,.ptr 4 0),(15,.d (iH l)),(16,.d (i64 l.length)),(17,.d (i64 i))],[(2,.box (.dd c.cells)),(4,.box (.vv [.sl 34 1 0 acc.length])),(34,.arr 1 (.dd (acc.map fun n=>[i64 n])))],st⟩)
  (fun i r acc=>rF (iS c) l 0=acc++rF (iS c) r i/\acc.length<=i /\ ∀ x∈r,sN x) [] ((Wk.CL 4 34 1 rfl rfl rfl rfl).trans aw) ⟨rfl,by simp,hl⟩ ?_ ?_
 ·intro i x r acc hx hi hr ⟨he,AV,Pk⟩
  rw[rF]at he;have hxR:=Pk x (by simp);have Pk:∀ y∈r,sN y:=fun y hy=>Pk y (by simp[hy]);conv=>whnf
  refine ag (fun _=>?_) (fun h=>absurd hi (by simpa using h));conv=>whnf
  refine aG hx ?_;conv=>whnf
  refine af (PN c hR) rfl rfl ?_;conv=>whnf
  refine gl av (by exact aj mixed av (by decide +kernel)) (by exact aj mixed av (by decide +kernel)) rfl 1500000 1600000 [2,4,6,7] (by exact l7 JS)
   (fun(_:Unit)=>([(34,.arr 1 (.dd (acc.map fun n=>[i64 n]))),(1500000,.box (.dd c.cells)),(1500001,.box (.vv [.sl 34 1 0 acc.length])),(1500002,.box (.dd [i64 i])),(1500003,.box (.dd x.cells))],st))
   (fun rest _=>(iS c).any (zx x.bK)=rest.any (zx x.bK) /\ ∀ p∈rest,p.2.length=c.aB.night.toNat) () rfl rfl rfl ⟨rfl,fun p hp=>(yr JS hp).2.2⟩ ?_ ?_
  ·rintro ⟨t,lit⟩ rest _ ⟨hk,wV⟩ Q xD YQ
   refine⟨⟨rfl,rfl⟩,?_⟩;have hlen:=wV (t,lit) (by simp);simp only at hlen;have dO:∀ q∈rest,q.2.length=c.aB.night.toNat:=fun q hq=>wV q (by simp[hq]);have er:lit ≠ []:=by rintro rfl;simp at hlen;omega
   rw[List.any_cons]at hk;conv=>whnf
   refine af (PS lit x.bK er (by omega) hxR.len) rfl rfl ?_;conv=>whnf
   refine ag (fun h1=>?_) (fun h1=>?_)
   ·have h1:zx x.bK (t,lit)=true:=h1
    rw[h1,Bool.true_or]at hk;rw[hk,if_pos rfl]at he;conv=>whnf
    refine ak rfl ?_;conv=>whnf
    refine ak (by simp[bx.len]) ?_;conv=>whnf
    refine aM (decide_eq_true (by
     show((acc.map fun n=>[i64 n]).length+1)*8<=140737488355328;rw[List.length_map];omega)) ?_
    conv=>whnf
    refine⟨[(1500000,.box (.dd c.cells)),(1500001,.box (.vv [.sl 34 1 0 (acc ++ [(i:Int)]).length])),(34,.arr 1 (.dd ((acc ++ [(i:Int)]).map fun n=>[i64 n])))],st,Wk.sub trivial ⟨rfl,?_,?_,trivial⟩,rfl,YQ _ _ _ ?_⟩
    ·simp[PX.get,bx.len]
    ·simp[PX.get]
    ·conv=>whnf
     refine ae ?_;conv=>whnf
     exact⟨acc ++ [(i:Int)],⟨by rw[he];simp,by simp;omega,Pk⟩,aw⟩
   ·have h1:zx x.bK (t,lit)=false:=h1
    rw[h1,Bool.false_or]at hk;conv=>whnf
    exact⟨(),aw,rfl,xD _ ⟨hk,dO⟩⟩
  ·rintro _ ⟨hk,_⟩
   rw[List.any_nil]at hk;rw[hk,if_neg (by simp)]at he;conv=>whnf
   refine ae ?_;conv=>whnf
   exact⟨acc,⟨he,by omega,Pk⟩,aw⟩
 ·intro acc ⟨he,AV,_⟩
  rw[rF,List.append_nil]at he;rw[he];conv=>whnf
  refine ag (fun h=>absurd h (by simp)) (fun _=>?_);conv=>whnf
  rw[h0];exact aO 1 (ds:=[aV acc,i64 0]) (aC (cH rfl (by simp)) rfl) ⟨⟨rfl,rfl⟩,rfl⟩
theorem uY:∀ l:List Span,tA (l.map Span.cells)=l.map Span.cells
 | []=>rfl
 | s::r=>by
  rw[List.map_cons,tA,uY r];rfl
def xQ(x:bL):bG:=⟨x,[],[]⟩
def qm(x:bL):bL:={ x with start:=⟨0,x.bT-1⟩ }
theorem abD(s:Int)(b:Bool):bq Tryz.prog 150 [i64 s,.bool b] (.bool true):=by
 refine aY Tryz.func150 rfl (ft:=Vx) 2 fun {σ} Y st=>?_;conv=>whnf
 exact ai
def R3(x:bL):List (bm×List Bool):=K6 (qm x) [] Oh
def oB(ps:List cu)(n:Int)(p:bm×List Bool):Int:=if fD p.2 ps≥0 then min n (fD p.2 ps) else n
def zH(x:bL)(ps:List cu):Int:=(R3 x).foldl (oB ps) x.night
def qY(x:bL)(l:ct):Int:=jL (xQ x) [l]
def jT(x:bL)(l:ct):Int:=if qY x l=0 then zH x l.bK else 0
theorem jH.any{x:bL}(h:jH x):jH (qm x):=⟨h.bT,h.gG,h.night,h.lits,h.lit,by
 have:=h.bT;show 0<=(0:Int)/\(0:Int)<=x.bT-1/\x.bT-1<=x.bT-1;omega,h.speed⟩
theorem JM{l:List cu}{lit:List Bool}(h:0<=fD lit l):1<=fD lit l:=by
 unfold fD at h ⊢
 cases lit with
 | nil=>simp at h
 | cons b r=>
  have:=sW (l:=l) (r:=r) (b:=b) (A:=qP b l.length) (s:=1);simp only at h ⊢;omega
theorem QF(x:bL):UH x []:=trivial
theorem QE{x:bL}(h:jH x):UG x 0 []:=by
 have:=h.night;show 0<=x.night;omega
theorem LJ{x:bL}(h:jH x){p:bm×List Bool}(hp:p∈R3 x):p.2.length=x.night.toNat:=by
 unfold R3 at hp;rw[rA (QE h.any)]at hp;obtain⟨t,_,rfl⟩:=List.mem_map.1 hp;simp only[bX,jr];rfl
set_option maxHeartbeats 1000000 in
theorem XE(x:bL)(l:ct):bq Tryz.prog 84 [x.d,l.d] (.tup [i64 (jT x l),i64 (qY x l)]):=by
 refine aY Tryz.func84 rfl (ft:=aah) 2 fun {σ} Y st=>?_;conv=>whnf
 refine rJ (args':=[.d (xQ x).d,.sl 13 2 0 1]) (fun yv L F w vs=>?_) ?_
 ·rintro ⟨a,r,rfl,ha,hr⟩
  refine⟨a,r,rfl,?_,hr⟩;have e:df (.agg (x.cells ++ [.nils,.nils]))=(xQ x).d:=by
   show D.agg (ng (x.cells ++ [.nils,.nils]))=_;simp only[bL.cells,List.cons_append,List.nil_append,ng,df,dH,uY];rfl
  exact e▸bR.df _ _ (show bR F w (.agg (x.cells ++ [.nils,.nils])) a from ha)
 refine aA (PR (xQ x) [l]) rfl 1 rfl ?_;conv=>whnf
 by_cases h0:qY x l=0;case neg=>
  have hv:jT x l=0:=by unfold jT;rw[if_neg h0]
  rw[hv];unfold qY at h0 ⊢;refine ag (fun _=>?_) (fun h1=>absurd h1 (by simp[h0]));conv=>whnf
  exact ai
 have hv:jT x l=zH x l.bK:=by unfold jT;rw[if_pos h0]
 rw[hv];unfold qY at h0 ⊢;obtain⟨JS,hl⟩:=ue h0;have hlR:=hl l (by simp);have Uo:=(ed JS).aB;have Uo:jH x:=Uo;have hR:=Uo.any;have hn:=Uo.night;have hd:=Uo.bT;refine ag (fun h1=>absurd h1 (by simp[h0])) (fun _=>?_);conv=>whnf
 refine ae ?_;conv=>whnf
 refine af (PQ (qm x) hR) rfl rfl ?_;conv=>whnf
 refine GB (af (TJ (qm x) [] 150 []) rfl rfl ?_);conv=>whnf
 refine gl av (by exact aj mixed av (by decide +kernel)) (by exact aj mixed av (by decide +kernel)) rfl 1500000 1600000 [2,3,7] (by exact fun {γ}=>wD hR (w:=[]) (by simp) (by simp) (QF _) (fun s b _=>abD s b))
  (fun(n:Int)=>([(13,.arr 2 (.dd [l.cells])),(1500000,.box (.dd (qm x).cells)),(1500001,.box (.dd l.cells)),(1500002,.box (.dd [i64 n]))],st))
  (fun rest n=>zH x l.bK=rest.foldl (oB l.bK) n /\ ∀ p∈rest,p.2.length=x.night.toNat) x.night rfl rfl rfl ⟨rfl,fun p hp=>LJ Uo hp⟩ ?_ ?_
 ·rintro ⟨t,lit⟩ rest n ⟨hk,wV⟩ Q xD -
  refine⟨⟨rfl,rfl⟩,?_⟩;rw[List.foldl_cons]at hk;have hlen:=wV (t,lit) (by simp);simp only at hlen;have dO:∀ q∈rest,q.2.length=x.night.toNat:=fun q hq=>wV q (by simp[hq]);have er:lit ≠ []:=by rintro rfl;simp at hlen;omega
  conv=>whnf
  refine af (PS lit l.bK er (by omega) hlR.len) rfl rfl ?_;conv=>whnf
  rw[oB]at hk;refine ag (fun h1=>?_) (fun h1=>?_)
  ·have h1:fD lit l.bK≥0:=by simpa using h1
   rw[if_pos h1]at hk;conv=>whnf
   exact⟨min n (fD lit l.bK),aw,rfl,xD _ ⟨hk,dO⟩⟩
  ·have h1:¬ fD lit l.bK≥0:=by simpa using h1
   rw[if_neg h1]at hk;conv=>whnf
   exact⟨n,aw,rfl,xD _ ⟨hk,dO⟩⟩
 ·rintro n ⟨hk,_⟩
  rw[List.foldl_nil]at hk;rw[hk];conv=>whnf
  rw[h0];exact ai
def rG(k:Nat)(n:Int):List Int:=(List.range k).map fun(i:Nat)=>((i:Int)+1)*n
def Cs(x:bL)(l:ct):List Int:=if qY x l=0 then rG ((x.night-1).tdiv (jT x l)).toNat (jT x l) else []
theorem Ib(k:Nat)(n:Int):rG (k+1) n=rG k n ++ [((k:Int)+1)*n]:=by
 unfold rG;rw[List.range_succ,List.map_append];rfl
theorem Lb(k:Nat)(n:Int):(rG k n).length=k:=by simp[rG]
theorem Ku{x:bL}{ps:List cu}(h:jH x):1<=zH x ps/\zH x ps<=x.night:=by
 have hn:=h.night;unfold zH;have key:∀ (l:List (bm×List Bool)) (n:Int),1<=n/\n<=x.night->1<=l.foldl (oB ps) n/\l.foldl (oB ps) n<=x.night:=by
  intro l
  induction l with
  | nil=>exact fun n h=>h
  | cons p r ih=>
   intro n hn;rw[List.foldl_cons];refine ih _ ?_;unfold oB;split
   ·rename_i h1
    have:=JM h1;omega
   ·exact hn
 exact key _ _ ⟨hn.1,Int.le_refl _⟩
theorem PY{x:bL}{l:ct}(h:qY x l=0):jH x/\sN l:=by
 obtain⟨h1,h2⟩:=ue h;exact⟨(ed h1).aB,h2 l (by simp)⟩
set_option maxHeartbeats 1000000 in
theorem abl(x:bL)(l:ct):bq Tryz.prog 86 [x.d,l.d] (.tup [aV (Cs x l),i64 (qY x l)]):=by
 refine aY Tryz.func86 rfl (ft:=aaj) 2 fun {σ} Y st=>?_;conv=>whnf
 refine af (XE x l) rfl rfl ?_;conv=>whnf
 by_cases h0:qY x l=0;case neg=>
  have hv:Cs x l = []:=by unfold Cs;rw[if_neg h0]
  rw[hv];refine ag (fun _=>?_) (fun h1=>absurd h1 (by simp[h0]));conv=>whnf
  exact dC 0 rfl rfl ⟨⟨rfl,rfl⟩,rfl⟩
 have hv:Cs x l=rG ((x.night-1).tdiv (jT x l)).toNat (jT x l):=by unfold Cs;rw[if_pos h0]
 have hR:=(PY h0).1;have hl:=Ku (ps:=l.bK) hR;have hlv:jT x l=zH x l.bK:=by unfold jT;rw[if_pos h0]
 rw[<- hlv]at hl;rw[hv];have hn:=hR.night;refine ag (fun h1=>absurd h1 (by simp[h0])) (fun _=>?_);conv=>whnf
 refine ae ?_;conv=>whnf
 refine aM (decide_eq_true (by omega)) ?_;conv=>whnf
 have hq:0<=(x.night-1).tdiv (jT x l)/\(x.night-1).tdiv (jT x l)*jT x l<=x.night-1:=by
  rw[Int.tdiv_eq_ediv_of_nonneg (by omega)];exact⟨Int.ediv_nonneg (by omega) (by omega),Int.ediv_mul_le _ (by omega)⟩
 have hq2:(x.night-1).tdiv (jT x l)<=200:=by
  rw[Int.tdiv_eq_ediv_of_nonneg (by omega)];have:=Int.ediv_le_self (a:=x.night-1) (jT x l) (by omega);omega
 generalize (x.night-1).tdiv (jT x l)=k at hq hq2;generalize jT x l=n at hl hq;obtain⟨K,rfl⟩:=Int.eq_ofNat_of_zero_le hq.1;refine ae ?_;conv=>whnf
 refine cD (T:=tys) av (by exact aj mixed av (by decide +kernel)) (α:=Nat)
  (fun i=>⟨[(4,.sl 31 1 0 i),(5,.d (i64 (qY x l))),(6,.d (i64 n)),(21,.d (i64 K)),(22,.d (i64 i))],[(31,.arr 1 (.dd ((rG i n).map fun n=>[i64 n])))],st⟩) (fun i=>i<=K) (fun i=>K-i) 0 ((Wk.born 4 31 1 rfl rfl rfl).trans aw) (Nat.zero_le _) ?_
 intro i hi;have D3:(rG i n).length=i:=Lb i n;conv=>whnf
 refine ag (fun h1=>?_) (fun h1=>?_)
 ·have h1:i<K:=by have:=of_decide_eq_true h1;omega
  have MR:0<=((i:Int)+1)*n:=Int.mul_nonneg (by omega) (by omega);have hm:((i:Int)+1)*n<=x.night-1:=Int.le_trans (Int.mul_le_mul_of_nonneg_right (by omega) (by omega)) hq.2;conv=>whnf
  refine ae ?_;conv=>whnf
  refine ae ?_;conv=>whnf
  refine ak rfl ?_;conv=>whnf
  refine ak (by simp[bx.len,D3]) ?_;conv=>whnf
  refine aM (decide_eq_true (by
   show(((rG i n).map fun n=>[i64 n]).length+1)*8<=140737488355328;rw[List.length_map];omega)) ?_
  conv=>whnf
  refine ae ?_;conv=>whnf
  refine⟨i+1,(by show K-(i+1)<K-i;omega),(by show i+1<=K;omega),Wk.sub ⟨?_,rfl,rfl,rfl,rfl,trivial⟩ ⟨?_,trivial⟩⟩
  ·simp[PX.get,bx.len,D3]
  ·rw[Ib];simp[PX.get]
 ·have h1:i=K:=by have:=of_decide_eq_false h1;omega
  subst h1;conv=>whnf
  rw[h0];exact aO 1 (ds:=[aV (rG i n),i64 0]) (aC (cH rfl (by simp[D3])) rfl) ⟨⟨rfl,rfl⟩,rfl⟩
theorem A6(s:Int)(b:Bool):bq Tryz.prog 74 [i64 s,.bool b] (.agg [i64 s,.bool b]):=by
 refine aY Tryz.func74 rfl (ft:=Z7) 2 fun {σ} Y st=>?_;conv=>whnf
 exact ai
def zA:bL:=⟨12,[⟨0,2⟩],⟨0,1⟩,⟨1,2⟩,100,24⟩
theorem Nj:bq Tryz.prog 85 [] zA.d:=by
 refine aY Tryz.func85 rfl (ft:=aai) 0 fun {σ} Y st=>?_;conv=>whnf
 refine af (ds:=[i64 0,i64 2]) (qA 0 2) rfl rfl ?_;conv=>whnf
 refine af (ds:=[i64 0,i64 1]) (qA 0 1) rfl rfl ?_;conv=>whnf
 refine af (ds:=[i64 1,i64 2]) (qA 1 2) rfl rfl ?_;conv=>whnf
 exact aO 2 rfl ⟨⟨rfl,rfl⟩,rfl⟩
def eI(l:List dW):bG:=⟨zA,[],[⟨3,false⟩,⟨12,true⟩]++l⟩
theorem vK:bq Tryz.prog 73 [.nils] (eI []).d:=by
 refine aY Tryz.func73 rfl (ft:=So) 1 fun {σ} Y st=>?_;conv=>whnf
 refine af (Nj) rfl rfl ?_;conv=>whnf
 refine af (ds:=[i64 3,.bool false]) (A6 3 false) rfl rfl ?_;conv=>whnf
 refine af (ds:=[i64 12,.bool true]) (A6 12 true) rfl rfl ?_;conv=>whnf
 refine ak rfl ?_;conv=>whnf
 exact dC 2 rfl rfl ⟨⟨rfl,rfl⟩,rfl⟩
theorem TH:bq Tryz.prog 73 [.vs [[i64 13,.bool false]]] (eI [⟨13,false⟩]).d:=by
 refine aY Tryz.func73 rfl (ft:=So) 1 fun {σ} Y st=>?_;conv=>whnf
 refine af (Nj) rfl rfl ?_;conv=>whnf
 refine af (ds:=[i64 3,.bool false]) (A6 3 false) rfl rfl ?_;conv=>whnf
 refine af (ds:=[i64 12,.bool true]) (A6 12 true) rfl rfl ?_;conv=>whnf
 refine ak rfl ?_;conv=>whnf
 exact dC 2 rfl rfl ⟨⟨rfl,rfl⟩,rfl⟩
theorem TI:bq Tryz.prog 73 [.vs [[i64 13,.bool false],[i64 18,.bool false]]] (eI [⟨13,false⟩,⟨18,false⟩]).d:=by
 refine aY Tryz.func73 rfl (ft:=So) 1 fun {σ} Y st=>?_;conv=>whnf
 refine af (Nj) rfl rfl ?_;conv=>whnf
 refine af (ds:=[i64 3,.bool false]) (A6 3 false) rfl rfl ?_;conv=>whnf
 refine af (ds:=[i64 12,.bool true]) (A6 12 true) rfl rfl ?_;conv=>whnf
 refine ak rfl ?_;conv=>whnf
 exact dC 2 rfl rfl ⟨⟨rfl,rfl⟩,rfl⟩
theorem XL(n:ByteArray)(a b c d:Int):bq Tryz.prog 145 [.str n,i64 a,i64 b,i64 c,i64 d] (ct.d ⟨n,[⟨⟨a,b⟩,⟨c,d⟩⟩]⟩):=by
 refine aY Tryz.func145 rfl (ft:=Vv) 5 fun {σ} Y st=>?_;conv=>whnf
 refine af (qA a b) rfl rfl ?_;conv=>whnf
 refine af (qA c d) rfl rfl ?_;conv=>whnf
 exact aO 2 rfl ⟨⟨rfl,rfl⟩,rfl⟩
def Oe:ByteArray:=⟨#[115,117,110,107]⟩
def Nw:ByteArray:=⟨#[110,111,114,101]⟩
def jX:ct:=⟨Oe,[⟨⟨1,2⟩,⟨4,5⟩⟩]⟩
def oG:ct:=⟨Nw,[⟨⟨1,3⟩,⟨3,9⟩⟩]⟩
theorem Km:bq Tryz.prog 80 [] jX.d:=by
 refine aY Tryz.func80 rfl (ft:=aad) 0 fun {σ} Y st=>?_;conv=>whnf
 refine af (ds:=[.str Oe,i64 1,i64 2,i64 4,i64 5]) (XL Oe 1 2 4 5) rfl rfl ?_;conv=>whnf
 exact ai
theorem PL:bq Tryz.prog 81 [] oG.d:=by
 refine aY Tryz.func81 rfl (ft:=aae) 0 fun {σ} Y st=>?_;conv=>whnf
 refine af (ds:=[.str Nw,i64 1,i64 3,i64 3,i64 9]) (XL Nw 1 3 3 9) rfl rfl ?_;conv=>whnf
 exact ai
theorem PK(s v:Int):bq Tryz.prog 76 [i64 s,i64 v] (bm.d ⟨s,[v]⟩):=by
 refine aY Tryz.func76 rfl (ft:=Z9) 2 fun {σ} Y st=>?_;conv=>whnf
 exact aO 2 rfl ⟨⟨rfl,rfl⟩,rfl⟩
theorem abj(a b:bm)(ha:a.aW.length<1000000):bq Tryz.prog 89 [a.d,b.d] (.bool (decide (a=b))):=by
 refine aY Tryz.func89 rfl (ft:=aam) 2 fun {σ} Y st=>?_;conv=>whnf
 have he:(decide (a=b))=(decide (a.start=b.start)&&decide (a.aW=b.aW)):=by
  rw[Bool.eq_iff_iff,Bool.and_eq_true,decide_eq_true_eq,decide_eq_true_eq,decide_eq_true_eq];constructor
  ·rintro rfl;exact⟨rfl,rfl⟩
  ·rintro ⟨h1,h2⟩;cases a;cases b;simp_all
 rw[he];by_cases h1:a.start=b.start
 ·rw[decide_eq_true h1]
  conv=>whnf
  refine af (OZ a.aW b.aW ha) rfl rfl ?_;conv=>whnf
  exact ai
 ·rw[decide_eq_false h1]
  conv=>whnf
  exact ai
theorem vS:Ar (eI []) ⟨1,[2]⟩=0/\xr (eI []) ⟨1,[2]⟩ = [⟨0,0⟩,⟨6,6⟩,⟨12,12⟩,⟨18,18⟩]:=by decide +kernel
theorem vR:vY (eI [⟨13,false⟩])=0/\vX (eI [⟨13,false⟩])=⟨1,1⟩/\r5 (eI [⟨13,false⟩]) = [⟨2,2⟩]:=by decide +kernel
theorem vA1:JA (eI []) 2=0/\wJ (eI []) 2=2:=by decide +kernel
theorem vA2:JA (eI [⟨13,false⟩]) 6=0/\wJ (eI [⟨13,false⟩]) 6=1:=by decide +kernel
theorem vW:(bN (eI [⟨13,false⟩,⟨18,false⟩])).2.2=0/\wA (eI [⟨13,false⟩,⟨18,false⟩]) = [2]:=by decide +kernel
theorem vF1:wO (eI []) jX ⟨0,[1]⟩=0/\uf (eI []) jX ⟨0,[1]⟩=2:=by decide +kernel
theorem vF2:wO (eI []) oG ⟨0,[1]⟩=0/\uf (eI []) oG ⟨0,[1]⟩ = -1:=by decide +kernel
theorem vK1:zy (eI []) jX=0/\uF (eI []) jX=(⟨0,[1]⟩,2):=by decide +kernel
theorem vK2:zy (eI [⟨13,false⟩]) jX=4:=by decide +kernel
theorem vWh:jL (eI []) [oG,jX]=0/\wz (eI []) [oG,jX] = [0,1]:=by decide +kernel
theorem vL:qY zA jX=0/\jT zA jX=2:=by decide +kernel
theorem vWi:Cs zA jX = [2,4,6,8,10,12,14,16,18,20,22]:=by decide +kernel
theorem vT:(lQ [oG,oG]).2=5:=by decide +kernel
theorem kS:bq Tryz.prog 75 [(eI []).d,bm.d ⟨1,[2]⟩] (.tup [dH [⟨0,0⟩,⟨6,6⟩,⟨12,12⟩,⟨18,18⟩],i64 0]):=bq.cast (abg _ _) (by rw[vS.1,vS.2])
theorem kR:bq Tryz.prog 77 [(eI [⟨13,false⟩]).d] (.tup [Span.d ⟨1,1⟩,dH [⟨2,2⟩],i64 0]):=bq.cast (abh _) (by rw[vR.1,vR.2.1,vR.2.2])
theorem kA1:bq Tryz.prog 19 [(eI []).d,i64 2] (.tup [i64 2,i64 0]):=bq.cast (TG _ _) (by rw[vA1.1,vA1.2])
theorem kA2:bq Tryz.prog 19 [(eI [⟨13,false⟩]).d,i64 6] (.tup [i64 1,i64 0]):=bq.cast (TG _ _) (by rw[vA2.1,vA2.2])
theorem kW:bq Tryz.prog 78 [(eI [⟨13,false⟩,⟨18,false⟩]).d] (.tup [aV [2],i64 0]):=bq.cast (abi _) (by rw[vW.1,vW.2])
theorem kF1:bq Tryz.prog 79 [(eI []).d,jX.d,bm.d ⟨0,[1]⟩] (.tup [i64 2,i64 0]):=bq.cast (XC _ _ _) (by rw[vF1.1,vF1.2])
theorem kF2:bq Tryz.prog 79 [(eI []).d,oG.d,bm.d ⟨0,[1]⟩] (.tup [i64 (-1),i64 0]):=bq.cast (XC _ _ _) (by rw[vF2.1,vF2.2])
theorem kK1:bq Tryz.prog 82 [(eI []).d,jX.d] (.tup [bm.d ⟨0,[1]⟩,i64 2,i64 0]):=bq.cast (XD _ _) (by rw[Fh,vK1.1,vK1.2])
theorem kK2:bq Tryz.prog 82 [(eI [⟨13,false⟩]).d,jX.d] (.tup [(uF (eI [⟨13,false⟩]) jX).1.d,i64 (uF (eI [⟨13,false⟩]) jX).2,i64 4]):=bq.cast (XD _ _) (by rw[Fh,vK2])
theorem kWh:bq Tryz.prog 83 [(eI []).d,iH [oG,jX]] (.tup [aV [0,1],i64 0]):=bq.cast (abk _ _) (by rw[vWh.1,vWh.2])
theorem kL:bq Tryz.prog 84 [zA.d,jX.d] (.tup [i64 2,i64 0]):=bq.cast (XE _ _) (by rw[vL.1,vL.2])
theorem kWi:bq Tryz.prog 86 [zA.d,jX.d] (.tup [aV [2,4,6,8,10,12,14,16,18,20,22],i64 0]):=bq.cast (abl _ _) (by rw[vWi,vL.1])
theorem kT:bq Tryz.prog 87 [iH [oG,oG]] (.tup [i64 (lQ [oG,oG]).1,i64 5]):=bq.cast (XB _) (by rw[vT])
set_option maxHeartbeats 4000000 in
theorem Kl:bq Tryz.prog 16 [] (.bool true):=by
 refine aY Tryz.func16 rfl (ft:=Zz) 0 fun {σ} Y st=>?_;conv=>whnf
 refine af (ds:=[i64 13,.bool false]) (A6 13 false) rfl rfl ?_;conv=>whnf
 refine gX TH 1 [32] rfl rfl ?_;conv=>whnf
 refine af vK rfl rfl ?_;conv=>whnf
 refine af (ds:=[i64 1,i64 2]) (PK 1 2) rfl rfl ?_;conv=>whnf
 refine af (kS) rfl rfl ?_;conv=>whnf
 refine af (kR) rfl rfl ?_;conv=>whnf
 refine af vK rfl rfl ?_;conv=>whnf
 refine af (kA1) rfl rfl ?_;conv=>whnf
 refine af (kA2) rfl rfl ?_;conv=>whnf
 refine af (ds:=[i64 13,.bool false]) (A6 13 false) rfl rfl ?_;conv=>whnf
 refine af (ds:=[i64 18,.bool false]) (A6 18 false) rfl rfl ?_;conv=>whnf
 refine gX TI 1 [59] rfl rfl ?_;conv=>whnf
 refine af (kW) rfl rfl ?_;conv=>whnf
 refine af vK rfl rfl ?_;conv=>whnf
 refine af (Km) rfl rfl ?_;conv=>whnf
 refine af (ds:=[i64 0,i64 1]) (PK 0 1) rfl rfl ?_;conv=>whnf
 refine af (kF1) rfl rfl ?_;conv=>whnf
 refine af vK rfl rfl ?_;conv=>whnf
 refine af (PL) rfl rfl ?_;conv=>whnf
 refine af (ds:=[i64 0,i64 1]) (PK 0 1) rfl rfl ?_;conv=>whnf
 refine af (kF2) rfl rfl ?_;conv=>whnf
 refine af vK rfl rfl ?_;conv=>whnf
 refine af (Km) rfl rfl ?_;conv=>whnf
 refine af (kK1) rfl rfl ?_;conv=>whnf
 refine ax Km rfl rfl ?_;conv=>whnf
 refine ax kK2 rfl rfl ?_;conv=>whnf
 refine af vK rfl rfl ?_;conv=>whnf
 refine af (PL) rfl rfl ?_;conv=>whnf
 refine af (Km) rfl rfl ?_;conv=>whnf
 refine gX kWh 1 [96] rfl rfl ?_;conv=>whnf
 refine af (Nj) rfl rfl ?_;conv=>whnf
 refine af (Km) rfl rfl ?_;conv=>whnf
 refine af (kL) rfl rfl ?_;conv=>whnf
 refine af (Nj) rfl rfl ?_;conv=>whnf
 refine af (Km) rfl rfl ?_;conv=>whnf
 refine af (kWi) rfl rfl ?_;conv=>whnf
 refine af (PL) rfl rfl ?_;conv=>whnf
 refine af (PL) rfl rfl ?_;conv=>whnf
 refine aA kT rfl 1 rfl ?_;conv=>whnf
 refine ax (ds:=[i64 0,i64 0]) (qA 0 0) rfl rfl ?_;conv=>whnf
 refine ax (ds:=[i64 6,i64 6]) (qA 6 6) rfl rfl ?_;conv=>whnf
 refine ax (ds:=[i64 12,i64 12]) (qA 12 12) rfl rfl ?_;conv=>whnf
 refine ax (ds:=[i64 18,i64 18]) (qA 18 18) rfl rfl ?_;conv=>whnf
 refine a8 (Si [⟨0,0⟩,⟨6,6⟩,⟨12,12⟩,⟨18,18⟩] [⟨0,0⟩,⟨6,6⟩,⟨12,12⟩,⟨18,18⟩] (by decide)) rfl 1 rfl ?_;conv=>whnf
 refine ax (ds:=[i64 1,i64 1]) (qA 1 1) rfl rfl ?_;conv=>whnf
 refine ax (ds:=[i64 2,i64 2]) (qA 2 2) rfl rfl ?_;conv=>whnf
 refine a8 (Si [⟨2,2⟩] [⟨2,2⟩] (by decide)) rfl 1 rfl ?_;conv=>whnf
 refine a8 (OZ [2] [2] (by decide)) rfl 1 rfl ?_;conv=>whnf
 refine ax (ds:=[i64 0,i64 1]) (PK 0 1) rfl rfl ?_;conv=>whnf
 refine ax (abj ⟨0,[1]⟩ ⟨0,[1]⟩ (by decide)) rfl rfl ?_;conv=>whnf
 refine a8 (OZ [0,1] [0,1] (by decide)) rfl 1 rfl ?_;conv=>whnf
 exact ai
def lj(l:List Int):D:=.vs (l.map fun b=>[.int .u8 b])
def gj(x:List Int)(n:Nat):Int:=if x = [] then 0 else x.getD (n%x.length) 0
theorem XG(x:List Int)(hx:∀ b∈x,0<=b/\b<=255)(n:Nat):bq Tryz.prog 91 [lj x,i64 n] (i64 (gj x n)):=by
 refine aY Tryz.func91 rfl (ft:=aao) 2 fun {σ} Y st=>?_;conv=>whnf
 by_cases h:x = []
 ·subst h
  conv=>whnf
  exact ai
 ·have hl:0<x.length:=List.length_pos_iff.2 h
  refine ag (fun h1=>absurd h1 (by simp[h])) (fun _=>?_);conv=>whnf
  refine aM (decide_eq_true (by rw[List.length_map];omega)) ?_;conv=>whnf
  rw[List.length_map];have hm:=Nat.mod_lt n hl;have he:((n:Int).tmod (x.length:Int))=((n%x.length:Nat):Int):=by
   rw[Int.tmod_eq_emod_of_nonneg (by omega)];omega
  rw[he];have hg:x[n%x.length]?=some (x[n%x.length]):=List.getElem?_eq_getElem hm;refine aG hg ?_;conv=>whnf
  have hb:=hx _ (List.mem_of_getElem? hg);have ht:gj x n=x[n%x.length]:=by
   unfold gj;rw[if_neg h,List.getD_eq_getElem?_getD,hg];rfl
  rw[<- ht]at hb ⊢;refine ae ?_;conv=>whnf
  exact ai
theorem vf{x:List Int}(hx:∀ b∈x,0<=b/\b<=255)(n:Nat):0<=gj x n/\gj x n<=255:=by
 unfold gj;split
 ·omega
 ·rename_i h
  have hm:=Nat.mod_lt n (List.length_pos_iff.2 h);rw[List.getD_eq_getElem?_getD,List.getElem?_eq_getElem hm];exact hx _ (List.getElem_mem _)
def gu(s:Span)(n:Int):Int:=s.lo+n.tmod (s.hi-s.lo+1)
theorem yu{s:Span}{n:Int}(hs:s.lo<=s.hi)(hn:0<=n):s.lo<=gu s n/\gu s n<=s.hi:=by
 have h1:=Int.tmod_nonneg (s.hi-s.lo+1) hn;have h2:=Int.tmod_lt_of_pos n (b:=s.hi-s.lo+1) (by omega);unfold gu;omega
theorem XH(s:Span)(n:Int)(hs:s.lo<=s.hi)(hb : -1000000<=s.lo/\s.hi<=1000000)(hn:0<=n/\n<=1000000):bq Tryz.prog 90 [s.d,i64 n] (i64 (gu s n)):=by
 refine aY Tryz.func90 rfl (ft:=aan) 2 fun {σ} Y st=>?_;conv=>whnf
 have h1:=yu hs hn.1;refine ae ?_;conv=>whnf
 refine ae ?_;conv=>whnf
 refine aM (decide_eq_true (by omega)) ?_;conv=>whnf
 refine jI (wrap_i64 (by unfold gu at h1;omega)) ?_;conv=>whnf
 exact ai
def yg(c:bG)(x:List Int):List Int:=(List.range (c.az.length+1)).map fun i=>gu c.aB.speed (gj x (i+1))
def rB(c:bG)(x:List Int):bm:=⟨gu c.aB.start (gj x 0),yg c x⟩
theorem K7{c:bG}(hR:nu c){x:List Int}(hx:∀ b∈x,0<=b/\b<=255):ld c (rB c x):=by
 have h1:=hR.aB.start;have h2:=hR.aB.speed;refine⟨yu (by omega) (vf hx 0).1,by simp[rB,yg],fun s hs=>?_⟩;obtain⟨i,_,rfl⟩:=List.mem_map.1 hs;exact yu (by omega) (vf hx _).1
theorem Wk.LS{σ:Type}{e:Env}{h:Heap}{s:σ}(b k sz:Nat)(A B:List D){l:List D}(hk:Nat.blt k 1000000=true)(hs:Nat.blt 0 sz=true)(hb:get h b=some (.box (.dd l)))(hl:l=A ++ .nils::B)(iU:Nat.beq b k=false) :
  Wk (⟨e,h,s⟩:St σ) ⟨dv (aJ (bp k)) e,put ((k,.arr sz (.dd []))::dv (Obj.aJ (bp k)) (cut h k)) b (.box (.vv (inj A ++ .sl k sz 0 0::inj B))),s⟩:=by
 have hk:=Nat.le_of_ble_eq_true hk;have hs:=Nat.le_of_ble_eq_true hs;have er:b≠k:=by rintro rfl;simp at iU
 have h1:Wk (⟨e,h,s⟩:St σ) ⟨dv (aJ (bp k)) e,(k,.arr sz (.dd []))::dv (Obj.aJ (bp k)) (cut h k),s⟩:=by
  intro cx r m L F a w hg;exact⟨_,F,hg.jU k sz (by unfold pinned;omega) hs (.dd []) rfl,Tr.refl F w⟩
 refine h1.trans (Wk.B9 b (o:=.box (.dd l)) _ (by rw[fW,if_neg er,bY,e5,if_neg er,hb];rfl) (fun yv L F w h=>?_) fun L hb=>hb);obtain⟨c,T,hc,hr⟩:=h;have hr:aq yv L F w (inj l) c.toList:=hr;rw[hl,ji]at hr;exact⟨c,T,hc,aq.zP k sz hs hr⟩
theorem abm(c:bG)(hR:nu c)(x:List Int)(hx:∀ b∈x,0<=b/\b<=255):bq Tryz.prog 17 [c.d,lj x] (rB c x).d:=by
 refine aY Tryz.func17 rfl (ft:=ZA) 2 fun {σ} Y st=>?_;conv=>whnf
 have ja:=hR.aB.start;have BM:=hR.aB.speed;have Lf:=hR.aB.bT;have hw:=hR.p8;have t0:=vf hx 0;refine ax (ds:=[lj x,i64 (0:Nat)]) (XG x hx 0) rfl rfl ?_;conv=>whnf
 refine ax (ds:=[c.aB.start.d,i64 (gj x 0)]) (XH c.aB.start (gj x 0) (by omega) (by omega) (by omega)) rfl rfl ?_;conv=>whnf
 have hsx:(rB c x).aW=yg c x:=rfl;generalize hS:yg c x=S at hsx;refine bB (T:=tys) av (by exact aj mixed av (by decide +kernel)) (List.range (c.az.length+1)) (fun i (acc:List Int)=>⟨[(1,.d (lj x)),(2,.ptr 2 0),(4,.ptr 4 0),(5,.ptr 5 0),(6,.d (i64 i))],[(2,.box (.dd c.cells)),(4,.box (.dd [i64 0,.nils])),(5,.box (.vv [.d (i64 (gu c.aB.start (gj x 0))),.sl 32 1 0 acc.length])),(32,.arr 1 (.dd (acc.map fun n=>[i64 n])))],st⟩)
  (fun i r acc=>acc.length<=i/\S=acc++r.map fun i=>gu c.aB.speed (gj x (i+1))) [] ((Wk.LS 5 32 1 [i64 (gu c.aB.start (gj x 0))] [] rfl rfl rfl rfl rfl).trans aw) ⟨by simp,hS.symm⟩ ?_ ?_
 ·rintro i y r acc hy hi hr ⟨AV,he⟩
  have Y5:i=y:=by
   rw[List.getElem?_range (by simpa using hi)]at hy;exact Option.some.inj hy
  subst Y5;have hiw:i<c.az.length+1:=by simpa using hi
  have t1:=vf hx (i+1);rw[List.map_cons]at he;conv=>whnf
  refine ag (fun _=>?_) (fun h=>absurd hiw (by have:=of_decide_eq_false h;simp at this;omega));conv=>whnf
  refine ao (((i+1:Nat):Int)) (by(try dsimp only);omega) (wrap_i64 (by(try dsimp only);omega)) ?_;conv=>whnf
  refine ax (ds:=[lj x,i64 (i+1:Nat)]) (XG x hx (i+1)) rfl rfl ?_;conv=>whnf
  refine ax (ds:=[c.aB.speed.d,i64 (gj x (i+1))]) (XH c.aB.speed (gj x (i+1)) (by omega) (by omega) (by omega)) rfl rfl ?_;conv=>whnf
  refine ak rfl ?_;conv=>whnf
  refine ak (by simp[bx.len]) ?_;conv=>whnf
  refine aM (decide_eq_true (by
   show((acc.map fun n=>[i64 n]).length+1)*8<=140737488355328;rw[List.length_map];omega)) ?_
  conv=>whnf
  refine ae ?_;conv=>whnf
  refine⟨acc ++ [gu c.aB.speed (gj x (i+1))],⟨by simp;omega,by simpa using he⟩,Wk.sub ⟨rfl,rfl,rfl,rfl,rfl,trivial⟩ ⟨rfl,rfl,?_,?_,trivial⟩⟩
  ·show some (Obj.box (.vv [.d (i64 (gu c.aB.start (gj x 0))),.sl 32 1 0 ((acc.map fun n=>[i64 n]).length+1)]))=_
   simp
  ·show some (Obj.arr 1 (bx.dd ((acc.map fun n=>[i64 n]) ++ [[i64 (gu c.aB.speed (gj x (i+1)))]])))=_
   simp
 ·rintro acc ⟨_,he⟩
  have he:S=acc:=by simpa using he
  rw[he]at hsx;conv=>whnf
  refine ag (fun h=>absurd h (by simp;omega)) (fun _=>?_);conv=>whnf
  have hd:(rB c x).d = .agg [i64 (gu c.aB.start (gj x 0)),aV acc]:=by
   show D.agg [_,aV (rB c x).aW]=_;rw[hsx];rfl
  rw[hd];refine aO 2 (ds:=[.agg [i64 (gu c.aB.start (gj x 0)),aV acc]]) ?_ ⟨⟨rfl,rfl⟩,rfl⟩;exact aC (wv (aC rfl (aC (cH rfl (by simp)) rfl))) rfl
end Go.PX
namespace Go.PX
open Go.Proofs Go.RowKit Go.ChangeShapes
theorem c4:Tryz.prog.cellsOf 4=1:=by kernel_rfl
theorem c56:Tryz.prog.cellsOf 56=1:=by kernel_rfl
theorem UU:Tryz.prog.cellsOf 58=8:=by kernel_rfl
theorem c52:Tryz.prog.cellsOf 52=1:=by kernel_rfl
theorem c59:Tryz.prog.cellsOf 59=1:=by kernel_rfl
theorem c61:Tryz.prog.cellsOf 61=10:=by kernel_rfl
theorem c162:Tryz.prog.cellsOf 162=2:=by kernel_rfl
theorem T6(W:World):Rd Tryz.prog W 4 fun ds=>∃ s,ds = [.bool s]:=Rd.bool Tryz.underlying4
theorem T8(W:World):Rd Tryz.prog W 52 fun ds=>∃ l:List Int,ds = [aV l]:=
 (Rd.slice Tryz.underlying52 c3 (by omega) (rl W)).mono fun ds h=>by
  obtain⟨es,rfl,he⟩:=h;obtain⟨l,rfl⟩:=rX (f:=fun n=>[i64 n]) (fun _ h=>h) he;exact⟨l,rfl⟩
theorem Qp(W:World):Rd Tryz.prog W 56 fun ds=>∃ l:List Span,ds = [dH l]:=
 (Rd.slice Tryz.underlying56 c49 (by omega) (Af W)).mono fun ds h=>by
  obtain⟨es,rfl,he⟩:=h;obtain⟨l,rfl⟩:=rX (f:=Span.cells) (fun _ h=>h) he;exact⟨l,rfl⟩
theorem Qo(W:World):Rd Tryz.prog W 162 fun ds=>∃ s:dW,ds=s.cells:=
 (Rd.struct Tryz.underlying162 c162 (.cons rfl c3 (rl W) (.cons rfl c4 (T6 W) (.nil _)))).mono fun ds h=>by
  obtain⟨_,_,rfl,⟨a,rfl⟩,_,_,rfl,⟨b,rfl⟩,rfl⟩:=h;exact⟨⟨a,b⟩,rfl⟩
theorem NU(W:World):Rd Tryz.prog W 59 fun ds=>∃ l:List dW,ds = [pJ l]:=
 (Rd.slice Tryz.underlying59 c162 (by omega) (Qo W)).mono fun ds h=>by
  obtain⟨es,rfl,he⟩:=h;obtain⟨l,rfl⟩:=rX (f:=dW.cells) (fun _ h=>h) he;exact⟨l,rfl⟩
theorem T9(W:World):Rd Tryz.prog W 58 fun ds=>∃ x:bL,ds=x.cells:=
 (Rd.struct Tryz.underlying58 UU (.cons rfl c3 (rl W) (.cons rfl c56 (Qp W) (.cons rfl c49 (Af W) (.cons rfl c49 (Af W) (.cons rfl c3 (rl W) (.cons rfl c3 (rl W) (.nil _)))))))).mono fun ds h=>by
  obtain⟨_,_,rfl,⟨a,rfl⟩,_,_,rfl,⟨b,rfl⟩,_,_,rfl,⟨c,rfl⟩,_,_,rfl,⟨d,rfl⟩,_,_,rfl,⟨e,rfl⟩,_,_,rfl,⟨f,rfl⟩,rfl⟩:=h;exact⟨⟨a,b,c,d,e,f⟩,rfl⟩
theorem Qn(W:World):Rd Tryz.prog W 61 fun ds=>∃ c:bG,ds=c.cells:=
 (Rd.struct Tryz.underlying61 c61 (.cons rfl UU (T9 W) (.cons rfl c52 (T8 W) (.cons rfl c59 (NU W) (.nil _))))).mono fun ds h=>by
  obtain⟨_,_,rfl,⟨a,rfl⟩,_,_,rfl,⟨b,rfl⟩,_,_,rfl,⟨c,rfl⟩,rfl⟩:=h;exact⟨⟨a,b,c⟩,rfl⟩
theorem c62:Tryz.prog.cellsOf 62=1:=by kernel_rfl
theorem Qm(W:World):Rd Tryz.prog W 62 fun ds=>∃ l:List Int,ds = [lj l] /\ ∀ b∈l,0<=b/\b<=255:=
 (Rd.slice Tryz.underlying62 c5 (by omega) (HP W)).mono fun ds h=>by
  obtain⟨es,rfl,he⟩:=h;have:∃ l:List Int,es=l.map (fun b=>[D.int .u8 b]) /\ ∀ b∈l,0<=b/\b<=255:=by
   induction es with
   | nil=>exact⟨[],rfl,fun b h=>by cases h⟩
   | cons e r ih=>
    obtain⟨l,h1,h2⟩:=ih fun x hx=>he x (by simp[hx]);obtain⟨n,h3,h4⟩:=he e (by simp);refine⟨n::l,by rw[h3,h1];rfl,fun b hb=>?_⟩;rcases List.mem_cons.1 hb with rfl|hb
    ·exact h4
    ·exact h2 b hb
  obtain⟨l,rfl,h2⟩:=this;exact⟨l,rfl,h2⟩
theorem c33:Tryz.prog.cellsOf 33=5:=by kernel_rfl
theorem c64:Tryz.prog.cellsOf 64=6:=by kernel_rfl
section
variable (W : World)
theorem HQ:DU Tryz.prog W 33 fun ds=>∃ (x y:List Int) (w1 w2 g:Int),ds = [.vs (x.map fun b=>[D.int .u16 b]),.vs (y.map fun b=>[D.int .u16 b]),.int .u8 w1,.int .u8 w2,.int .u8 g]/\(∀ b∈x,0<=b/\b<=65535)/\(∀ b∈y,0<=b/\b<=65535)/\(0<=w1/\w1<=255)/\(0<=w2/\w2<=255)/\(0<=g/\g<=255):=
 (DU.struct Tryz.underlying33 c33 (.cons rfl c30 (Qq W) (.cons rfl c31 (Yk W) (.cons rfl c5 (Rd.z (HP W)) (.nil _))))).mono fun ds h=>by
  obtain⟨_,_,rfl,⟨a,b,rfl,ha,hb⟩,_,_,rfl,⟨c,d,rfl,hc,hd⟩,_,_,rfl,⟨g,rfl,hg⟩,rfl⟩:=h;exact⟨a,b,c,d,g,rfl,ha,hb,hc,hd,hg⟩
theorem HR:DU Tryz.prog W 64 fun ds=>∃ (v x y:List Int) (w1 w2 g:Int),ds = [lj v,.vs (x.map fun b=>[D.int .u16 b]),.vs (y.map fun b=>[D.int .u16 b]),.int .u8 w1,.int .u8 w2,.int .u8 g]/\(∀ b∈v,0<=b/\b<=255)/\(∀ b∈x,0<=b/\b<=65535)/\(∀ b∈y,0<=b/\b<=65535)/\(0<=w1/\w1<=255)/\(0<=w2/\w2<=255)/\(0<=g/\g<=255):=
 (DU.struct Tryz.underlying64 c64 (.cons rfl c62 (Rd.z (Qm W)) (.cons rfl c33 (HQ W) (.nil _)))).mono fun ds h=>by
  obtain⟨_,_,rfl,⟨v,rfl,hv⟩,_,_,rfl,⟨x,y,w1,w2,g,rfl,hx,hy,h1,h2,hg⟩,rfl⟩:=h;exact⟨v,x,y,w1,w2,g,rfl,hv,hx,hy,h1,h2,hg⟩
end
end Go.PX
namespace Go.PX
open Go.Proofs
theorem LZ{l l':aN}(h:bC l=0)(hn:l'.near=l.near)(hl:l'.an.map au.name=l.an.map au.name)
  (hb:∀ b∈l'.an,(-720<=b.off.lo/\b.off.lo<=b.off.hi/\b.off.hi<=720)/\(-720<=b.set.lo/\b.set.lo<=b.set.hi/\b.set.hi<=720)/\b.ar.length<=8 /\ ∀ x∈b.ar,Cz x):bC l'=0:=by
 obtain⟨h1,h2,h3⟩:=l8.1 h;have hlen:l'.an.length=l.an.length:=by have:=congrArg List.length hl;simpa using this
 refine l8.2 ⟨by rw[hn];exact h1,by rw[hlen];exact h2,fun k b hk=>?_⟩;obtain⟨h4,h5,h6,h7⟩:=hb b (List.mem_of_getElem? hk);have hkl:=(List.getElem?_eq_some_iff.1 hk).1;obtain⟨c,hc⟩:∃ c,l.an[k]?=some c:=⟨_,List.getElem?_eq_getElem (by omega)⟩;have qG:b.name=c.name:=by
  have e1:(l'.an.map au.name)[k]?=some b.name:=by rw[List.getElem?_map,hk];rfl
  rw[hl,List.getElem?_map,hc]at e1;exact(Option.some.inj e1).symm
 have hh:=ov.1 (h3 k c hc).1;refine⟨ov.2 ⟨by rw[qG];exact hh.name,fun x hx=>?_,h4,h5,h6⟩,fun x hx=>yK.2 (h7 x hx)⟩;have:x.name∈(l'.an.take k).map au.name:=List.mem_map.2 ⟨x,hx,rfl⟩;rw[List.map_take,hl,<- List.map_take]at this;obtain⟨y,hy,he⟩:=List.mem_map.1 this;rw[<- he,qG];exact hh.fresh y hy
theorem kn{l:aN}(h:bC l=0){b:au}(hb:b∈l.an):(-720<=b.off.lo/\b.off.lo<=b.off.hi/\b.off.hi<=720)/\(-720<=b.set.lo/\b.set.lo<=b.set.hi/\b.set.hi<=720)/\b.ar.length<=8 /\ ∀ x∈b.ar,Cz x:=by
 obtain⟨h1,h2,h3⟩:=l8.1 h;obtain⟨k,hk⟩:=List.getElem?_of_mem hb;obtain⟨h4,h5⟩:=h3 k b hk;have h4:=ov.1 h4;exact⟨h4.off,h4.set,h4.ar,fun x hx=>yK.1 (h5 x hx)⟩
theorem BS{of:List Int}:∀ {n:Nat} {p:List Int} {start:Nat} {q:List Int},q∈ll of n p start -> ∃ s,q=p++s/\s.Sublist (of.drop start)/\s.length=n
 | 0,p,start,q,h=>by
  rw[ll,List.mem_singleton]at h;exact⟨[],by rw[h,List.append_nil],List.nil_sublist _,rfl⟩
 | n+1,p,start,q,h=>by
  rw[ll,List.mem_flatMap]at h;obtain⟨i,hi,h⟩:=h;rw[List.mem_range'_1]at hi;obtain⟨s,rfl,h2,h3⟩:=BS h;have D3:i<of.length:=by omega
  refine⟨of[i]::s,by rw[List.getElem?_eq_getElem D3];simp,?_,by rw[List.length_cons,h3]⟩;have e:of.drop i=of[i]::of.drop (i+1):=List.drop_eq_getElem_cons D3;have h4:(of[i]::s).Sublist (of.drop i):=by rw[e];exact h2.cons₂ _
  refine h4.trans ?_;rw[show i=start+(i-start) by omega,<- List.drop_drop];exact List.drop_sublist _ _
theorem Ko{of:List Int}{n:Nat}{q:List Int}(h:q∈ll of n [] 0):q.length=n:=by
 obtain⟨s,rfl,_,h3⟩:=BS h;simpa using h3
structure pR(l:aN)(z:Io):Prop where
 R:ss l.an z
 check:bC ⟨l.near,z.an⟩=0
 RQ:nP ⟨l.near,z.an⟩ 0 [] (Hw z.lU)
theorem Ue{l:aN}(h:bC l=0){x y:List Int}(hy:∀ n∈y,0<=n):pR l (oN l x y):=by
 have hR:ss l.an (oN l x y):=Ud (fun bk iU=>by
  obtain⟨h1,h2,_,h4⟩:=kn h iU;exact⟨h1.2.1,h2.2.1,h4⟩) hy
 refine⟨hR,?_,H3 hR rfl⟩;generalize oN l x y=z at hR;refine LZ h rfl ?_ fun b hb=>?_
 ·refine List.ext_getElem? fun i=>?_
  rw[List.getElem?_map,List.getElem?_map];show Option.map au.name z.an[i]?=_
  cases hz:z.an[i]? with
  | none=>
   rw[List.getElem?_eq_none_iff]at hz;have xV:=hR.bl;rw[List.getElem?_eq_none (by omega)]
  | some b=>
   obtain⟨b0,_,_,h1,h2,_⟩:=hR.book i b hz;rw[h1,Option.map_some,Option.map_some,h2]
 ·have hb:b∈z.an:=hb
  obtain⟨i,hi⟩:=List.getElem?_of_mem hb;obtain⟨b0,T,O,h1,_,h3,h4,_,_,h5,h6⟩:=hR.book i b hi;obtain⟨k1,k2,k3,_⟩:=kn h (List.mem_of_getElem? h1);exact⟨by rw[h3];exact k1,by rw[h4];exact k2,by omega,h5.fV⟩
section
variable {l : aN} {z : Io}
theorem pR.fit(h:pR l z):gV ⟨l.near,z.an⟩ 0 []=true:=IC.2 ⟨_,h.RQ⟩
theorem pR.fV(h:pR l z){i k:Nat}{T:List Int}{u:Int}(hT:z.times[i]?=some T)(hu:T[k]?=some u):∃ b e,At ⟨l.near,z.an⟩ i k b e/\ox ⟨l.near,z.an⟩ (Hw z.lU) ⟨i,k⟩=u:=by
 have hl:=(List.getElem?_eq_some_iff.1 hT).1;have h1:=h.R.bl;have h2:=h.R.tl;obtain⟨b,hb⟩:∃ b,z.an[i]?=some b:=⟨_,List.getElem?_eq_getElem (by omega)⟩;obtain⟨b0,T',O,_,_,_,_,h3,_,h5,_⟩:=h.R.book i b hb;rw[hT]at h3;cases h3;have hk:=(List.getElem?_eq_some_iff.1 hu).1;rw[h5.tl]at hk;obtain⟨e,he⟩:∃ e,b.ar[k]?=some e:=⟨_,List.getElem?_eq_getElem hk⟩;have hA:At ⟨l.near,z.an⟩ i k b e:=⟨hb,he⟩;obtain⟨T',u',h6,h7,h8⟩:=K4 h.R rfl hA;rw[hT]at h6;cases h6;rw[hu]at h7;cases h7;exact⟨b,e,hA,h8⟩
theorem OS(h:pR l z){xs:List dt}(hx:∀ x∈xs,uC ⟨l.near,z.an⟩ x=true):qu ⟨l.near,z.an⟩ xs=0:=by
 unfold qu hU;rw[if_pos h.check,if_pos (List.all_eq_true.2 hx),if_pos rfl,if_pos h.fit]
theorem pR.inst(h:pR l z){i k:Nat}{T:List Int}{u:Int}(hT:z.times[i]?=some T)(hu:T[k]?=some u):qQ ⟨l.near,z.an⟩ ⟨i,k⟩=(iV ⟨l.near,z.an⟩ ⟨i,k⟩,0)/\(iV ⟨l.near,z.an⟩ ⟨i,k⟩).lo<=u/\u<=(iV ⟨l.near,z.an⟩ ⟨i,k⟩).hi:=by
 obtain⟨b,e,hA,hi⟩:=h.fV hT hu;have hx:uC ⟨l.near,z.an⟩ ⟨i,k⟩=true:=iW.2 ⟨i,k,b,e,rfl,hA⟩;have:=I3 h.RQ hx;rw[hi]at this;refine⟨?_,this⟩;unfold qQ;rw[if_pos (OS h fun x zm=>by rw[List.mem_singleton]at zm;rw[zm];exact hx)]
end
theorem Nf{l:aN}(hc:bC l=0)(hf:gV l 0 []=true){x:dt}(hx:uC l x=true) : -720<=(iV l x).lo/\(iV l x).lo<=(iV l x).hi/\(iV l x).hi<=20720:=by
 have key:∀ t,nP l 0 [] t -> -720<=ox l t x/\ox l t x<=20720:=by
  intro t ht;obtain⟨i,k,b,y,rfl,hA⟩:=iW.1 hx;obtain⟨h1,h2,h3,h4⟩:=kn hc (List.mem_of_getElem? hA.book);have hy:=(h4 y (List.mem_of_getElem? hA.fV)).shown;unfold ox;rw[eJ hA,lV hA];by_cases h0:bE b k=0
  ·have:=ht.off i b hA.book
   rw[h0];show -720<=y.shown-t ⟨(i:Nat),0⟩/\y.shown-t ⟨(i:Nat),0⟩<=20720;omega
  ·have:=ht.set i b (bE b k) hA.book (by omega) (nb b k)
   omega
 obtain⟨t,ht,h1⟩:=PD hf hx;obtain⟨u,hu,h2⟩:=PC hf hx;have a:=key t ht;have b:=key u hu;have c:=I3 ht hx;omega
theorem pR.Zb{l:aN}{z:Io}(h:pR l z){i k:Nat}{T:List Int}{u:Int}(hT:z.times[i]?=some T)(hu:T[k]?=some u) : -720<=(iV ⟨l.near,z.an⟩ ⟨i,k⟩).lo/\(iV ⟨l.near,z.an⟩ ⟨i,k⟩).hi<=20720:=by
 obtain⟨b,e,hA,_⟩:=h.fV hT hu;have:=Nf h.check h.fit (x:=⟨i,k⟩) (iW.2 ⟨i,k,b,e,rfl,hA⟩);omega
end Go.PX
namespace Go.PX
open Go.RowKit
structure Grown(w w':World):Prop where
 os:w'.os=w.os
 tape:w'.tape=w.tape
 output:w'.output=w.output
 size:w.heap.size<=w'.heap.size
 heap:∀ b,b<w.heap.size->w'.heap[b]?=w.heap[b]?
theorem Grown.refl(w:World):Grown w w:=⟨rfl,rfl,rfl,Nat.le_refl _,fun _ _=>rfl⟩
theorem Grown.tr{w w':World}(h:Grown w w'){F F':Nat->Nat}(hf:∀ b,w.heap.size<=b->F b=0)(hF:∀ b,b<w.heap.size->F' b=F b):Tr F w F' w':=by
 have lt:∀ b o,o<F b->b<w.heap.size:=fun b o ho=>by
  rcases Nat.lt_or_ge b w.heap.size with h|h
  ·exact h
  ·rw[hf b h]at ho;omega
 refine⟨h.os,h.tape,h.output,h.size,fun b=>?_,fun b o ho=>kj (h.heap b (lt b o ho)),fun b e c hb hm=>by rw[h.heap b (lt b 0 hb)];exact hm⟩;rcases Nat.lt_or_ge b w.heap.size with h|h
 ·rw[hF b h];exact Nat.le_refl _
 ·rw[hf b h];exact Nat.zero_le _
theorem om{P:Program}{f:FuncId}{ds:List D}{r:D}(he:∀ (vs:Array Value) (w:World),(callFunc f vs).run P w = .ok (.enter f vs) w)
  (h:∀ (aT:Array Value) (w:World) (F:Nat->Nat),Laid P w->(∀ b,w.heap.size<=b->F b=0)->bt F w ds aT.toList ->
   Calls P f aT w fun e w'=>∃ x,e = .returned x/\Grown w w' /\ ∃ F',(∀ b,b<w.heap.size->F' b=F b)/\(∀ b,w'.heap.size<=b->F' b=0)/\bR F' w' r x):bq P f ds r:=by
 intro σ Y s;refine⟨he,fun cx hY L F aT w hh hr=>?_⟩;refine(callsIn_wide.2 (h aT w F (hY.laid _ _ _ hh.hg) hh.fresh (aq.inj.1 hr))).mono ?_;rintro e w' ⟨x,rfl,Pb,F',hF,hf',hx⟩;have tr:=Pb.tr hh.fresh hF;refine⟨x,rfl,_,[],s,L,F',⟨⟨rfl,rfl⟩,rfl⟩,⟨cx.gE hh.hg tr hf' fun b hb=>⟨Pb.heap b (hh.hP b hb),hF b (hh.hP b hb)⟩,fun b hb=>Nat.lt_of_lt_of_le (hh.hP b hb) Pb.size,hf',(fun _ _ h=>by cases h),(fun _ _ h=>by cases h),(fun _ _ _ _ h=>by cases h)⟩,hx,tr,fun _ _=>⟨rfl,rfl⟩⟩
theorem enters {P : Program} {f : FuncId} {fn : Func} {c : Code} (hf : P.funcs[f]? = some fn) (hb : fn.body = some c) (qG : (fn.name != "runtime.NumGoroutine") = true) (vs : Array Value) (w : World) : (callFunc f vs).run P w = .ok (.enter f vs) w := by
 simp only[bne_iff_ne,ne_eq]at qG;simp[callFunc,hf,qG,hb,Go.mark]
end Go.PX
namespace Go.PX
open Go.Proofs
open Go.RowKit Go.Proofs
set_option maxHeartbeats 1000000 in
set_option maxRecDepth 100000 in
theorem LO(b:Nat)(w:World)(h0:w.cell? ⟨b,0,none⟩=some (.pointer (some ⟨b,0,none⟩))) :
  Calls Tryz.prog 204 #[.pointer (some ⟨b,0,none⟩)] w fun e w'=>e = .returned (.tuple #[])/\w'=w:=by
 obtain⟨j,hj,hjs⟩:=Option.map_eq_some_iff.1 (show(Tryz.prog.info? 292).map (·.size)=some 2 by kernel_rfl)
 go_enter Tryz.func204,Tryz.ntmps204
 go_wp2
 rw[Lib.run_neq_ptr_same w _ Tryz.underlying290 hj]
 go_wp2
 go_end0
 exact⟨rfl,rfl⟩
set_option maxHeartbeats 1000000 in
set_option maxRecDepth 100000 in
theorem JB(b:Nat)(w:World)(h0:w.cell? ⟨b,0,none⟩=some (.pointer none))(OB:w.shape? b=some (292,2))(hfz:w.frozen? ⟨b,0,none⟩=false) :
  Calls Tryz.prog 204 #[.pointer (some ⟨b,0,none⟩)] w fun e w'=>e = .returned (.tuple #[])/\w'=w.setCell ⟨b,0,none⟩ (.pointer (some ⟨b,0,none⟩)):=by
 obtain⟨j,hj,hjs⟩:=Option.map_eq_some_iff.1 (show(Tryz.prog.info? 292).map (·.size)=some 2 by kernel_rfl)
 go_enter Tryz.func204,Tryz.ntmps204
 go_wp2
 rw[Lib.run_to_unsafe w ⟨b,0,none⟩ Tryz.underlying290 Tryz.underlying346 hj (by rw[hjs];decide) OB (Nat.zero_lt_succ 1)];simp only[Result.andThen];rw[Oper.upon_value]
 go_wp2
 rw[run_callFunc_extern Tryz.func217 (by kernel_rfl) (by kernel_rfl) (by kernel_rfl) (e:=Extern.AbiNoEscape.same) (by kernel_rfl)];rw[Lib.run_noEscape];simp only[Result.andThen];rw[Oper.upon_value]
 go_wp2
 rw[Lib.run_from_unsafe w ⟨b,0,none⟩ Tryz.underlying346 Tryz.underlying290 hj OB (by kernel_rfl)];simp only[Result.andThen];rw[Oper.upon_value]
 go_wp2
 go_end0
 exact⟨rfl,rfl⟩
set_option maxHeartbeats 1000000 in
set_option maxRecDepth 100000 in
theorem GH(b g cap:Nat)(p:Value)(s:ByteArray)(c:Array Value)(w:World)(hb:w.heap[b]?=some (.cells #[p,.slice (some ⟨g,0,none⟩) s.size cap] 292 (0,0)))(hg:w.heap[g]?=some (.cells c 5 (0,0)))
  (h0:0<s.size) (j6:s.size<=cap) (hc:s.size<=c.size) (hm:s.size<=140737488355328) (Xe:c.toList.take s.size=cg s) :
  Calls Tryz.prog 177 #[.pointer (some ⟨b,0,none⟩)] w fun e w'=>e = .returned (.string s)/\w'=(w.drew).freeze ⟨g,0,none⟩ s.size:=by
 have c1:w.drew.cell? ⟨b,1,none⟩=some (.slice (some ⟨g,0,none⟩) s.size cap):=by
  have:w.drew.heap[b]?=some (.cells #[p,.slice (some ⟨g,0,none⟩) s.size cap] 292 (0,0)):=hb;rw[Lib.cell_of_heap this];rfl
 have hSD:(Builtin.unsafeSliceData_ #[62] 340 #[.slice (some ⟨g,0,none⟩) s.size cap]).run Tryz.prog w.drew = .ok (.pointer (some ⟨g,0,none⟩)) w.drew:=
  Lib.run_unsafeSliceData_row _ _ _ _ _ _ (by omega)
 have zj:s.data.toList.length=s.size:=by rw[Array.length_toList];rfl
 have hUS:(Builtin.unsafeString_ #[340,3] 9 #[.pointer (some ⟨g,0,none⟩),.int .i64 s.size]).run Tryz.prog w.drew = .ok (.string s) (w.drew.freeze ⟨g,0,none⟩ s.size):=by
  have:=Lib.run_unsafeString_row (P:=Tryz.prog) w.drew 340 3 9 5 Tryz.underlying340 (by kernel_rfl) g c.size (by have dN:w.drew.heap[g]?=some (.cells c 5 (0,0)):=hg;simp[World.shape?,dN]) s.data.toList (by intro e;rw[e]at zj;simp at zj;omega) (by omega) (by omega) (by
   intro j x hx;have hj:j<s.size:=by rw[<- zj];exact(List.getElem?_eq_some_iff.1 hx).1
   have hv:(cg s)[j]?=some (.int .u8 x.toNat):=by simp[cg,hx]
   rw[<- Xe,List.getElem?_take_of_lt hj]at hv;have dN:w.drew.heap[g]?=some (.cells c 5 (0,0)):=hg;rw[fG,Nat.zero_add,Lib.cell_of_heap dN];simpa using hv)
  rw[zj]at this;exact this
 go_enter Tryz.func177,Tryz.ntmps177
 go_wp2
 go_region
 all_goals (go_wp2;go_ret;exact⟨rfl,rfl⟩)
end Go.PX
namespace Go.PX
open Go.RowKit
theorem a7.ab7{σ:Type}{cx:Cx σ}{L:Loc}{F:Nat->Nat}{h:Heap}{s:σ}{w w':World}(hh:a7 cx L F h s w)(g:Nat)(hF:F g=0)(hC:¬ cx.C s g)(Uu:w'.os=w.os)(ht:w'.tape=w.tape)(hu:w'.output=w.output)
  (dD:w'.heap.size=w.heap.size) (hk:∀ b,b≠g->w'.heap[b]?=w.heap[b]?) (er:∀ id o,get h id=some o->aS L id o->L.ρ id≠g):a7 cx L F h s w'/\Tr F w F w':=by
 have tr:Tr F w F w':=.jc Uu ht hu (by omega) (fun _=>Nat.le_refl _) hh.fresh fun b _ hF'=>hk b (by rintro rfl;omega);exact⟨hh.n5 tr (fun b hb=>hh.fresh b (by omega)) (fun b hb=>⟨hk b (by rintro rfl;exact hC hb),rfl⟩) fun id o hi hb=>⟨hk _ (er id o hi hb),rfl⟩,tr⟩
theorem vw{P:Program}{f:FuncId}{args:List V}{h0 h1:Heap}{v0:V}(he:∀ (vs:Array Value) (w:World),(callFunc f vs).run P w = .ok (.enter f vs) w)
  (h:∀ {σ:Type} (cx:Cx σ) (L:Loc) (F:Nat->Nat) (s:σ) (aT:Array Value) (w:World),a7 cx L F h0 s w->aq cx.yv L F w args aT.toList ->
   Calls P f aT w fun e w'=>∃ x,e = .returned x/\a7 cx L F h1 s w'/\br cx.yv L F w' v0 x/\Tr F w F w'):tH P f args h0 fun v h'=>v=v0/\h'=h1:=by
 intro σ Y s;refine⟨he,fun cx hY L F aT w hh hr=>?_⟩;refine(callsIn_wide.2 (h cx L F s aT w hh hr)).mono ?_;rintro e w' ⟨x,rfl,nn,hx,tr⟩;exact⟨x,rfl,_,_,s,L,F,⟨⟨rfl,rfl⟩,rfl⟩,nn,hx,tr,fun _ _=>⟨rfl,rfl⟩⟩
section
variable {P : Program} {σ : Type} {Y : Hd σ}
theorem mq(n:Nat)(ids:List Nat){e:Env}{h h':Heap}{s:σ}{d:Option Nat}{f:FuncId}{args args':List V}{K:St σ->Prop}(hv:jB (fp (bh ids h) n) args=args')(hh:lL h (dY (bh ids h))=h')
  (hk:eg P Y ⟨e,h',s⟩ d f args' K):eg P Y ⟨e,h,s⟩ d f args K:=by
 obtain⟨he,hk⟩:=hk;subst hh hv;refine⟨he,fun cx hY r m L F a w aT hg hd hr=>?_⟩;obtain⟨F1,dX,qd,Pv⟩:=hg.EH (h:=bh ids h) (fun i o hi=>eC ids h i o hi) n;rw[gv]at dX;refine(hk cx hY r m L F1 a w aT dX hd (Pv _ _ hr)).mono ?_;rintro en w' (⟨x,rfl,st',L',F',k1,k2,k3⟩|⟨pv,pe,ph,ps,L',F',he,hy,Pa,QB⟩)
 ·exact .inl ⟨x,rfl,st',L',F',k1,k2,Tr.trans qd k3⟩
 ·exact .inr ⟨pv,pe,ph,ps,L',F',he,hy,Pa,Tr.trans qd QB⟩
end
end Go.PX
namespace Go.PX
open Go.Proofs
open Go.RowKit
theorem vp{yv:Option Nat}{L:Loc}{F:Nat->Nat}{w:World}{v:V}{aT:Array Value}(h:aq yv L F w [v] aT.toList):∃ x,aT = #[x]/\br yv L F w v x:=by
 obtain⟨x,l',h1,h2,h3⟩:=h;have h3:l' = []:=h3;subst h3;exact⟨x,Array.ext' h1,h2⟩
def LN(i:Nat):Heap:=[(i,.tb 292 [.d .nilp,.d .nils])]
def lh(i k:Nat)(b:ByteArray):Heap:=[(i,.tb 292 [.ptr i 0,.sl k 1 0 b.size]),(k,.buf 5 b)]
theorem tv(b:ByteArray):tH Tryz.prog 204 [.ptr 1000000 0] (lh 1000000 1000001 b) fun v h'=>v = .d (.tup [])/\h'=lh 1000000 1000001 b:=by
 refine vw (enters Tryz.func204 rfl (by decide +kernel)) fun {σ} cx L F s aT w hh hr=>?_;obtain⟨x,rfl,hx⟩:=vp hr;have hx:x = .pointer (some ⟨L.ρ 1000000,0,none⟩):=hx;subst hx;obtain⟨c,hc,W6⟩:=hh.obj 1000000 _ rfl;obtain⟨x0,l',hl,h0,_⟩:=W6;have h0:x0 = .pointer (some ⟨L.ρ 1000000,0,none⟩):=h0;subst h0;refine(LO (L.ρ 1000000) w (by rw[cell_of_row _ _ _ _ _ _ hc,<- Array.getElem?_toList,hl];rfl)).mono ?_;rintro e w' ⟨rfl,rfl⟩;exact⟨_,rfl,hh,⟨#[],rfl,rfl⟩,Tr.refl F _⟩
theorem FH:tH Tryz.prog 204 [.ptr 1000000 0] (LN 1000000) fun v h'=>v = .d (.tup [])/\h' = [(1000000,.tb 292 [.ptr 1000000 0,.d .nils])]:=by
 refine vw (enters Tryz.func204 rfl (by decide +kernel)) fun {σ} cx L F s aT w hh hr=>?_;obtain⟨x,rfl,hx⟩:=vp hr;have hx:x = .pointer (some ⟨L.ρ 1000000,0,none⟩):=hx;subst hx;obtain⟨c,hc,W6⟩:=hh.obj 1000000 _ rfl;obtain⟨x0,l',hl,h0,x1,Xv,lH,h1,nY⟩:=W6;have h0:x0 = .pointer none:=h0;have h1:x1 = .slice none 0 0:=h1;have nY:Xv = []:=nY;subst h0 h1 nY lH;have rQ:c = #[.pointer none,.slice none 0 0]:=Array.ext' hl;subst rQ;refine(JB (L.ρ 1000000) w (by rw[cell_of_row _ _ _ _ _ _ hc];rfl) (by simp[World.shape?,hc]) (by simp[World.frozen?,hc])).mono ?_;rintro e w' ⟨rfl,rfl⟩;have hg:Good { cx with pρ:=L.ρ,pκ:=L.κ,base:=[] } none [] L F (⟨[],LN 1000000,s⟩:St σ) { tmps:=#[],defers:=[] } w:=
  ⟨⟨hh.hg,hh.hP,hh.fresh,hh.obj,hh.own,hh.inj⟩,fun t v ht=>(by cases ht),rfl,(fun b hb=>by cases hb),List.nodup_nil,(fun l hl=>by cases hl),fun _ _=>⟨rfl,rfl⟩,by simp⟩
 have SH:(w.setCell ⟨L.ρ 1000000,0,none⟩ (.pointer (some ⟨L.ρ 1000000,0,none⟩))).heap[L.ρ 1000000]?=some (.cells #[.pointer (some ⟨L.ρ 1000000,0,none⟩),.slice none 0 0] 292 (0,0)):=by
  simp[World.setCell,Array.getElem?_modify,hc]
 obtain⟨g1,g2⟩:=hg.obj (id:=1000000) (o:=.tb 292 [.ptr 1000000 0,.d .nils]) rfl trivial (w':=w.setCell ⟨L.ρ 1000000,0,none⟩ (.pointer (some ⟨L.ρ 1000000,0,none⟩))) rfl rfl rfl (by simp[World.setCell]) (fun b hb=>by simp[World.setCell,Array.getElem?_modify,Ne.symm hb])
  (by rw[hc];intro ds e;cases e) (by rw[hc];intro lp e;cases e) ⟨_,SH,_,_,rfl,rfl,_,_,rfl,rfl,rfl⟩
 have g3:=g1.heap;exact⟨_,rfl,⟨g3.hg,g3.hP,g3.fresh,g3.obj,g3.own,g3.inj⟩,⟨#[],rfl,rfl⟩,g2⟩
theorem XV(b:ByteArray)(h0:0<b.size)(hm:b.size<=140737488355328):tH Tryz.prog 177 [.ptr 1000000 0] (lh 1000000 1000001 b) fun v h'=>v = .d (.str b)/\h' = [(1000000,.tb 292 [.ptr 1000000 0,.unk])]:=by
 refine vw (enters Tryz.func177 rfl (by decide +kernel)) fun {σ} cx L F s aT w hh hr=>?_;obtain⟨x,rfl,hx⟩:=vp hr;have hx:x = .pointer (some ⟨L.ρ 1000000,0,none⟩):=hx;subst hx;obtain⟨c,hc,W6⟩:=hh.obj 1000000 _ rfl;obtain⟨x0,l',hl,h0',x1,Xv,lH,h1,nY⟩:=W6;have h0':x0 = .pointer (some ⟨L.ρ 1000000,0,none⟩):=h0';have nY:Xv = []:=nY;subst h0' nY lH;obtain⟨ad,cap,rfl,j6,_,hb⟩:=h1;rcases hb with⟨e,_⟩|⟨rfl,hb⟩
 ·omega
 rw[Nat.zero_add,Nat.mul_one]at hb;have rQ:c = #[.pointer (some ⟨L.ρ 1000000,0,none⟩),.slice (some ⟨L.ρ 1000001,0,none⟩) b.size cap]:=Array.ext' hl;subst rQ;obtain⟨c2,ou,j8,mM,M4⟩:=hh.obj 1000001 _ rfl;refine(GH (L.ρ 1000000) (L.ρ 1000001) cap _ b c2 w hc ou h0 j6 mM hm M4).mono ?_;rintro e w' ⟨rfl,rfl⟩;obtain⟨q1,q2⟩:=hh.own 1000001 _ rfl trivial;have er:L.ρ 1000000≠L.ρ 1000001:=fun e=>by
  have:=hh.inj 1000000 1000001 _ _ rfl rfl trivial trivial e;omega
 have Pd:a7 cx L F [(1000000,.tb 292 [.ptr 1000000 0,.unk])] s w:=by
  refine⟨hh.hg,hh.hP,hh.fresh,fun id o ho=>?_,fun id o ho hb=>?_,fun i j o p hi hj mf jt e=>?_⟩
  ·obtain⟨rfl,rfl⟩:id=1000000/\o = .tb 292 [.ptr 1000000 0,.unk]:=by
    simp only[get]at ho;split at ho
    ·rename_i he;cases ho;exact⟨(Nat.eq_of_beq_eq_true he).symm,rfl⟩
    ·cases ho
   exact⟨_,hc,_,_,rfl,rfl,_,_,rfl,rfl,rfl⟩
  ·obtain⟨rfl,rfl⟩:id=1000000/\o = .tb 292 [.ptr 1000000 0,.unk]:=by
    simp only[get]at ho;split at ho
    ·rename_i he;cases ho;exact⟨(Nat.eq_of_beq_eq_true he).symm,rfl⟩
    ·cases ho
   exact hh.own 1000000 _ rfl trivial
  ·simp only[get]at hi hj
   split at hi
   ·rename_i he
    split at hj
    ·rename_i nt
     rw[<- Nat.eq_of_beq_eq_true he,<- Nat.eq_of_beq_eq_true nt]
    ·cases hj
   ·cases hi
 obtain⟨r1,r2⟩:=Pd.ab7 (w':=w.drew.freeze ⟨L.ρ 1000001,0,none⟩ b.size) (L.ρ 1000001) q1 q2 (by simp[World.freeze];split<;>rfl) (by simp[World.freeze];split<;>rfl) (by simp[World.freeze];split<;>rfl) (by simp[World.freeze];split<;>simp)
  (fun x hx=>by
   simp only[World.freeze];split
   ·rfl
   ·simp[Array.getElem?_modify,Ne.symm hx];rfl) (fun id o ho hb e=>by
   simp only[get]at ho;split at ho
   ·rename_i he
    rw[<- Nat.eq_of_beq_eq_true he]at e;exact er e
   ·cases ho)
 exact⟨_,rfl,r1,rfl,r2⟩
def RV(s:ByteArray):D:=.tup [i64 s.size,.nili]
theorem KO(s:ByteArray)(h0:0<s.size)(hm:s.size<=140737488355328):tH Tryz.prog 175 [.ptr 1000000 0,.d (.str s)] (LN 1000000) fun v h'=>v = .d (RV s)/\h'=lh 1000000 2000000 s:=by
 intro σ Y st;refine ez mixed av Tryz.func175 rfl (ft:=IK) (args:=[.ptr 1000000 0,.d (.str s)]) (show oQ IK Tryz.f175 2=true from by decide +kernel) ?_;conv=>whnf
 refine bH FH [1000000] rfl ⟨_,_,rfl,rfl,rfl⟩ rfl ?_;conv=>whnf
 refine aM (by simp[h0,hm]) ?_;conv=>whnf
 exact aK [14] [.d (i64 s.size),.d .nili] (lh 1000000 2000000 s) rfl ⟨rfl,rfl,trivial⟩ rfl ⟨⟨rfl,rfl⟩,rfl⟩
theorem B4(b s:ByteArray)(h0:0<b.size)(hm:b.size+s.size<=140737488355328):tH Tryz.prog 175 [.ptr 1000000 0,.d (.str s)] (lh 1000000 1000001 b) fun v h'=>v = .d (RV s)/\h'=lh 1000000 2000000 (b++s):=by
 intro σ Y st;refine ez mixed av Tryz.func175 rfl (ft:=IK) (args:=[.ptr 1000000 0,.d (.str s)]) (show oQ IK Tryz.f175 2=true from by decide +kernel) ?_;conv=>whnf
 refine bH (tv b) [1000000,1000001] rfl ⟨_,_,rfl,rfl,_,_,rfl,rfl,rfl⟩ rfl ?_;conv=>whnf
 refine aM (by simp[h0,hm]) ?_;conv=>whnf
 exact aK [14] [.d (i64 s.size),.d .nili] (lh 1000000 2000000 (b++s)) rfl ⟨rfl,rfl,trivial⟩ rfl ⟨⟨rfl,rfl⟩,rfl⟩
theorem RF(b:ByteArray)(h0:0<b.size)(hm:b.size+1<=140737488355328):tH Tryz.prog 174 [.ptr 1000000 0,.d (.int .u8 10)] (lh 1000000 1000001 b) fun v h'=>v = .d .nili/\h'=lh 1000000 2000000 (b++⟨#[10]⟩):=by
 intro σ Y st;refine ez mixed av Tryz.func174 rfl (ft:=IJ) (args:=[.ptr 1000000 0,.d (.int .u8 10)]) (show oQ IJ Tryz.f174 2=true from by decide +kernel) ?_;conv=>whnf
 refine bH (tv b) [1000000,1000001] rfl ⟨_,_,rfl,rfl,_,_,rfl,rfl,rfl⟩ rfl ?_;conv=>whnf
 refine aM (by simp[h0];exact hm) ?_;conv=>whnf
 exact aK [14] [.d .nili] (lh 1000000 2000000 (b++⟨#[10]⟩)) rfl ⟨rfl,rfl,trivial⟩ rfl ⟨⟨rfl,rfl⟩,rfl⟩
end Go.PX
namespace Go.PX
open Go.Proofs
def GM:Nat->Nat->List UInt8
 | 0,_=>[]
 | f+1,u=>if u<10 then [UInt8.ofNat (48+u)] else GM f (u/10) ++ [UInt8.ofNat (48+u%10)]
theorem CN:∀ (f u:Nat),u<10^f->0<f->GM f u=Lib.decDigits u
 | 0,_,_,h=>absurd h (by omega)
 | f+1,u,hu,_=>by
  rw[GM,Lib.decDigits];by_cases h:u<10
  ·rw[if_pos h,dif_pos h]
  ·rw[if_neg h,dif_neg h]
   have h2:u/10<10^f:=by
    rw[Nat.pow_succ]at hu;exact Nat.div_lt_of_lt_mul (by omega)
   have hf:0<f:=by
    rcases Nat.eq_zero_or_pos f with rfl|h3
    ·simp at h2;omega
    ·exact h3
   rw[CN f (u/10) h2 hf]
theorem yI:∀ (f u:Nat),(GM f u).length<=f
 | 0,_=>Nat.le_refl _
 | f+1,u=>by
  rw[GM];split
  ·simp
  ·have:=yI f (u/10)
   simp;omega
def Nx(n:Int):List UInt8:=if n<0 then 45::GM 19 n.natAbs else GM 19 n.toNat
def tp(n:Int):ByteArray:=⟨(Nx n).toArray⟩
theorem P3{n:Int}(h : -1000000000000000000<=n/\n<=1000000000000000000):Nx n=Lib.itoa n:=by
  unfold Nx Lib.itoa;split
  · rw[CN 19 n.natAbs (by have:(10:Nat)^19=10000000000000000000:=(by decide);omega) (by omega)]
  · rw[CN 19 n.toNat (by have:(10:Nat)^19=10000000000000000000:=(by decide);omega) (by omega)]
theorem KA(n:Int):(tp n).size<=20:=by
 show(Nx n).toArray.size<=20;rw[List.size_toArray];unfold Nx;split
 ·have:=yI 19 n.natAbs;simp;omega
 ·have:=yI 19 n.toNat;omega
end Go.PX
