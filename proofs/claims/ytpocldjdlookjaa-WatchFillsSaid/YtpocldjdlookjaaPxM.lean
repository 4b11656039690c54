import Derived.Test.YtpocldjdlookjaaPxL
set_option linter.all false
set_option maxRecDepth 10000
namespace Go.PX
open Go.Proofs
theorem zS{c:ao}{set:Int}{t:ag}(h:alive c set t):∃ u∈gH c set t,alive c set u:=by
 refine Classical.byContradiction fun hn=>?_;have h1:∀ u∈gH c set t,∃ n,ez c set n u:=fun u hu=>Classical.byContradiction fun h2=>hn ⟨u,hu,fun n hd=>h2 ⟨n,hd⟩⟩;have h2:∀ l:List ag,(∀ u∈l,∃ n,ez c set n u) -> ∃ n,∀ u∈l,ez c set n u:=by
  intro l
  induction l with
  | nil=>exact fun _=>⟨0,fun u hu=>by cases hu⟩
  | cons a r ih=>
   intro hl;obtain⟨n,hn⟩:=ih fun u hu=>hl u (by simp[hu]);obtain⟨m,hm⟩:=hl a (by simp);refine⟨max n m,fun u hu=>?_⟩;rcases List.mem_cons.1 hu with rfl|hu
   ·exact gd hm (by omega)
   ·exact gd (hn u hu) (by omega)
 obtain⟨n,wa⟩:=h2 _ h1;exact h (n+1) wa
def Ae(c:ao)(t:ag):Option (List Int×ag):=(bQ c (aB c) t).find? fun p=>fh c (aB c) p.2
theorem Af{c:ao}(hR:WR c){t:ag}(ht:fJ c t)(h:fh c (aB c) t=true):∃ p,Ae c t=some p:=by
 obtain⟨u,hu,P6⟩:=zS ((tB hR ht).1 h);obtain⟨p,hp,rfl⟩:=List.mem_map.1 hu
 cases hf:Ae c t with
 | some q=>exact⟨q,rfl⟩
 | none=>
  have:=List.find?_eq_none.1 hf p hp;exact absurd ((tB hR (eR hR ht hp)).2 P6) this
def vR(c:ao):Nat->Kn->List (List Int)->ag->List (List Int)×Int
 | 0,_,_,_=>([],0)
 | n+1,seen,rota,t=>match cm seen t with
  | some i=>(rota,i)
  | none=>match Ae c t with
   | some p=>vR c n (cR seen t rota.length) (rota ++ [p.1]) p.2
   | none=>([],0)
def Bs(c:ao):List (List Int)×Int:=vR c (fX+1) [] [] .zero
def yd(c:ao)(kn:Kn):Nat:=((univ c).filter fun t=>cm kn t ==none).length
theorem DZ{c:ao}{kn:Kn}{t:ag}(ht:fJ c t)(h:cm kn t=none)(y:Int):yd c (cR kn t y)<yd c kn:=by
 refine filter_lt (fun u hu=>?_) ht.mem (by simp[h]) (by simp[bJ]);simp only[bJ,beq_iff_eq]at hu ⊢;split at hu
 ·cases hu
 ·exact hu
def HI(c:ao)(seen kn:Kn)(rota:List (List Int))(t:ag):av:=
 [(2,.box (.vv [.sl 900000 1 0 rota.length])),(900000,.arr 1 (.dd (rota.map fun r=>[aj r]))),(27,.map (kT seen)),(8,.box (.dd t.cells)),(101408,.map (kT kn)),(101409,.map []),(101410,.box (.vv [.d (bh c (aB c)),.mp 101408,.mp 101409])),(6,.box (.vv [.ptr 101410 0]))]
theorem QE(c:ao):cy Try.prog 30 [c.d] (.tup [if b0 c []=0/\fh c (aB c) .zero=true then aJ (Bs c).1 else .nils,i64 (if b0 c []=0/\fh c (aB c) .zero=true then (Bs c).2 else 0),i64 (if b0 c []=0 then (if fh c (aB c) .zero=true then 0 else 9) else b0 c [])]):=by
 refine bx Try.func30 rfl (ft:=(NV.more 17 [103328])) 1 fun {σ} Y st=>?_;conv=>whnf
 refine lO ?_;refine aH (ds:=[c.d,aJ []]) (zE c []) rfl rfl ?_;conv=>whnf
 by_cases h0:b0 c []=0
 ·obtain⟨hR,hl,_⟩:=eZ h0
  rw[h0];simp only[if_true,true_and];conv=>whnf
  refine cw (Hv c (aB c)) [] rfl rfl rfl ?_;conv=>whnf
  obtain⟨Me,dC,hE⟩:=iJ hR (set:=aB c) .nil [] (fJ.zero hR);refine cw hE [101410,101408,101409] rfl ?lent rfl ?_;case lent=>exact⟨_,_,rfl,dE rfl ⟨rfl,rfl,rfl,trivial⟩,_,_,rfl,rfl,_,_,rfl,rfl,rfl⟩
  cases hb:fh c (aB c) .zero with
  | false=>
   conv=>whnf
   exact ax
  | true=>
   simp only[if_true];conv=>whnf
   unfold Bs;generalize yF:vR c (fX+1) [] [] .zero=res;refine fM (T:=tys) aI (by exact au mixed aI (by decide +kernel)) (α:=Kn×Kn×List (List Int)×ag) (fun x=>⟨[(2,.ptr 2 0),(3,.d (i64 0)),(4,.d (i64 0)),(5,.d (bh c (aB c))),(6,.ptr 6 0),(7,.mp 27),(8,.ptr 8 0)],HI c x.1 x.2.1 x.2.2.1 x.2.2.2,st⟩)
    (fun x=>fJ c x.2.2.2/\iZ c (aB c) x.2.1/\fh c (aB c) x.2.2.2=true/\x.2.2.1.length+yd c x.1<=fX /\ ∃ n,yd c x.1<n/\vR c n x.1 x.2.2.1 x.2.2.2=res) (fun x=>yd c x.1) ([],Me,[],.zero)
    ((Wk.Gg 2 900000 1 rfl rfl rfl rfl).trans aw) ⟨fJ.zero hR,dC,hb,?_,fX+1,?_,yF⟩ ?_
   ·have h1:yd c []<=(univ c).length:=List.length_filter_le ..
    have:=n6 hR;simp;omega
   ·have h1:yd c []<=(univ c).length:=List.length_filter_le ..
    have:=n6 hR;show yd c []<fX+1;omega
   rintro ⟨seen,kn,rota,t⟩ ⟨ht,hk,ha,hlen,n,hn,hr⟩;simp only at ht hk ha hlen hn hr;conv=>whnf
   cases hs:cm seen t with
   | some v=>
    obtain⟨ix,DE,LY⟩:=dw hs 0;refine⟨_,DE,?_⟩;conv=>whnf
    obtain⟨m,rfl⟩:∃ m,n=m+1:=⟨n-1,by omega⟩;rw[vR,hs]at hr;rw[<- hr];refine ba 1 (ds:=[aJ rota,i64 v,i64 0]) ?_ ⟨⟨rfl,rfl⟩,rfl⟩;exact aV (bI (es:=rota.map fun r=>[aj r]) rfl (by simp)) rfl
   | none=>
    refine⟨none,cZ hs 0,?_⟩;conv=>whnf
    refine⟨none,cZ hs 0,?_⟩;conv=>whnf
    refine aH (Bd c (aB c) t) rfl rfl ?_;conv=>whnf
    obtain⟨m,rfl⟩:∃ m,n=m+1:=⟨n-1,by omega⟩;rw[vR,hs]at hr;obtain⟨⟨g0,u0⟩,hf⟩:=Af hR ht ha;rw[hf]at hr;simp only at hr;have Nc:=DZ ht hs rota.length;have xV:(g0,u0)∈bQ c (aB c) t:=List.mem_of_find?_eq_some hf;have Sj:fh c (aB c) u0=true:=by have:=List.find?_some hf;exact this
    obtain⟨sW,su⟩:=ht.tok hR;refine gK.wk (st':=⟨[(2,.ptr 2 0),(3,.d (i64 0)),(4,.d (i64 0)),(5,.d (bh c (aB c))),(6,.ptr 6 0),(7,.mp 27),(8,.ptr 8 0),(44,.d (.clo 93 [.ref [bh c (aB c)],.ref t.cells]))],HI c (cR seen t rota.length) kn rota t,st⟩) (Wk.sub ⟨rfl,rfl,rfl,rfl,rfl,rfl,rfl,rfl,trivial⟩ ⟨rfl,rfl,by rw[<- fF hs];rfl,rfl,rfl,rfl,rfl,rfl,trivial⟩) ?_;refine fp aI (by exact au mixed aI (by decide +kernel)) (by exact au mixed aI (by decide +kernel)) rfl 1500000 1600000 [2,900000,27,8,101408,101409,101410,6] (by exact kh c hR (aB c) t sW su)
     (fun(x:Kn)=>([(1500000,.box (.vv [.sl 1500001 1 0 rota.length])),(1500001,.arr 1 (.dd (rota.map fun r=>[aj r]))),(1500002,.map (kT (cR seen t rota.length))),(1500003,.box (.dd t.cells)),(1500004,.map (kT x)),(1500005,.map []),(1500006,.box (.vv [.d (bh c (aB c)),.mp 1500004,.mp 1500005])),(1500007,.box (.vv [.ptr 1500006 0]))],st))
     (fun(rest:List (List Int×ag)) x=>(rest.find? fun p=>fh c (aB c) p.2)=some (g0,u0)/\iZ c (aB c) x /\ ∀ p∈rest,p.1.length<=2/\fJ c p.2) kn rfl rfl rfl ⟨hf,hk,fun p hp=>⟨jK hR hp,eR hR ht hp⟩⟩ ?_ ?_
    ·rintro ⟨g,u⟩ rest x ⟨he,hx,BD⟩ Q vj hQ
     obtain⟨iX,hu⟩:=BD (g,u) (by simp);have tW:g.length<=1000:=by simp only at iX;omega
     refine⟨⟨rfl,jT _⟩,?_⟩;obtain⟨EX,fK,hE⟩:=iJ hR hx [] hu;conv=>whnf
     refine cw hE [1500006,1500004,1500005] rfl ?lent rfl ?_;case lent=>exact⟨_,_,rfl,dE rfl ⟨rfl,rfl,rfl,trivial⟩,_,_,rfl,rfl,_,_,rfl,rfl,rfl⟩
     cases mI:fh c (aB c) u with
     | false=>
      rw[List.find?_cons_of_neg (by simp[mI])]at he;conv=>whnf
      exact⟨EX,aw,rfl,vj _ ⟨he,fK,fun p hp=>BD p (by simp[hp])⟩⟩
     | true=>
      rw[List.find?_cons_of_pos (by simp[mI])]at he;cases he;conv=>whnf
      refine bY (u7 g0 tW) [1600000] rfl ⟨_,_,rfl,rfl,rfl⟩ rfl ?_;conv=>whnf
      refine ar rfl ?_;conv=>whnf
      refine ar (by simp[aC.len]) ?_;conv=>whnf
      have dB:(true && !dJ 54 ((aO (rota.map fun r=>[aj r]) ++ [[V.sl 103328 1 0 g0.length]]).flatten))=true:=by
       rw[iS];rfl
      refine aR dB ?_;conv=>whnf
      refine aR (decide_eq_true (by
       show((rota.map fun r=>[aj r]).length+1)*24<=140737488355328;unfold fX at hlen;rw[List.length_map];omega)) ?_
      conv=>whnf
      refine lj [103328,54] (by
       show bm ((aO (rota.map fun r=>[aj r]) ++ [[V.sl 103328 1 0 g0.length]]).flatten)++([54] ++ [])=_;rw[iD];rfl) ?_
      conv=>whnf
      refine⟨[(1500000,.box (.vv [.sl 54 1 0 (rota ++ [g0]).length])),(54,.arr 1 (.dd ((rota ++ [g0]).map fun r=>[aj r]))),(1500002,.map (kT (cR seen t rota.length))),(1500003,.box (.dd u0.cells)),(1500004,.map (kT EX)),(1500005,.map []),(1500006,.box (.vv [.d (bh c (aB c)),.mp 1500004,.mp 1500005])),(1500007,.box (.vv [.ptr 1500006 0]))],st,(Wk.l7 1 [103328] 54 (sz:=1) (vs:=aO (rota.map fun r=>[aj r]) ++ [[.sl 103328 1 0 g0.length]]) (ds:=(rota.map fun r=>[aj r]) ++ [[aj g0]]) ?_ (gu (gv (aV (bI rfl (by simp[aA])) rfl)) _)).trans ?_,rfl,hQ _ _ _ ?_⟩
      ·rfl
      ·refine Wk.sub trivial ⟨?_,?_,rfl,rfl,rfl,rfl,rfl,rfl,rfl,trivial⟩
       ·show some (Obj.box (Cells.vv [V.sl 54 1 0 ((rota.map fun r=>[aj r]).length+1)]))=some (Obj.box (Cells.vv [V.sl 54 1 0 (rota ++ [g0]).length]))
        simp
       ·show some (Obj.arr 1 (aC.dd ((rota.map fun r=>[aj r]) ++ [[aj g0]])))=some (Obj.arr 1 (aC.dd ((rota ++ [g0]).map fun r=>[aj r])))
        simp
      ·conv=>whnf
       refine⟨(cR seen t rota.length,EX,rota ++ [g0],u0),by simp only;omega,⟨hu,fK,Sj,by simp only[List.length_append,List.length_singleton];omega,m,by simp only;omega,hr⟩,(Wk.move 54 900000 rfl rfl).trans aw⟩
    ·rintro x ⟨he,_,_⟩
     simp at he
 ·simp only[h0,false_and,if_false]
  conv=>whnf
  exact ax
def Ds(n k:Int):Int:=n.fdiv (2^min k.toNat IntKind.u64.bits)
def Ms(n k:Int):Int:=IntKind.u64.wrap (n*2^min k.toNat IntKind.u64.bits)
def zU(a b:Int):Int:=fb .and .u64 a b
def RJ(a b:Int):Int:=fb .or .u64 a b
def Gc(a b:Int):Int:=IntKind.u64.wrap (a+b)
def Qo(n:Int):Int:=Gc (zU (Ds n 1) 6148914691236517205) (zU n 6148914691236517205)
def Qp(n:Int):Int:=Gc (zU (Ds n 2) 3689348814741910323) (zU n 3689348814741910323)
def Qq(n:Int):Int:=zU (Gc (Ds n 4) n) 1085102592571150095
def Ju(k n:Int):Int:=Gc n (Ds n k)
def Fk(n:Int):Int:=fb .and .i64 (IntKind.i64.wrap (Ju 32 (Ju 16 (Ju 8 (Qq (Qp (Qo n))))))) 127
theorem MC(n:Int):cy Try.prog 110 [.int .u64 n] (i64 (Fk n)):=by
 refine bx Try.func110 rfl (ft:=KC) 1 fun {σ} Y st=>?_;conv=>whnf
 repeat' (first|(refine arith.mk ?_;conv=>whnf)|fail)
 exact ax
def vB(k m n:Int):Int:=RJ (zU (Ds n k) m) (Ms (zU n m) k)
def Mm(n:Int):Int:=RJ (Ds (vB 16 281470681808895 (vB 8 71777214294589695 n)) 32) (Ms (vB 16 281470681808895 (vB 8 71777214294589695 n)) 32)
def Ft(n:Int):Int:=Mm (vB 4 1085102592571150095 (vB 2 3689348814741910323 (vB 1 6148914691236517205 n)))
theorem ME(n:Int):cy Try.prog 115 [.int .u64 n] (.int .u64 (Mm n)):=by
 refine bx Try.func115 rfl (ft:=KF) 1 fun {σ} Y st=>?_;conv=>whnf
 repeat' (first|(refine arith.mk ?_;conv=>whnf)|fail)
 exact ax
theorem MD(n:Int):cy Try.prog 112 [.int .u64 n] (.int .u64 (Ft n)):=by
 refine bx Try.func112 rfl (ft:=KD) 1 fun {σ} Y st=>?_;conv=>whnf
 repeat' (first|(refine arith.mk ?_;conv=>whnf)|fail)
 refine aH (ds:=[.int .u64 (vB 4 1085102592571150095 (vB 2 3689348814741910323 (vB 1 6148914691236517205 n)))]) (ME _) rfl rfl ?_;conv=>whnf
 exact ax
theorem MR(n:Int):cy Try.prog 99 [.int .u64 n] (i64 (Fk n)):=by
 refine bx Try.func99 rfl (ft:=OE) 1 fun {σ} Y st=>?_;conv=>whnf
 refine aH (ds:=[.int .u64 n]) (MC n) rfl rfl ?_;conv=>whnf
 exact ax
theorem Ig(n:Int):cy Try.prog 100 [.int .u64 n] (.int .u64 (Ft n)):=by
 refine bx Try.func100 rfl (ft:=Kt) 1 fun {σ} Y st=>?_;conv=>whnf
 refine aH (ds:=[.int .u64 n]) (MD n) rfl rfl ?_;conv=>whnf
 exact ax
def sB(n:Int):Int:=Fk (IntKind.u64.wrap n)
def Dq(n:Int):Int:=Ft (IntKind.u64.wrap n)
def gN(set ck:Int):Bool:=decide (ck<0)||decide (sB set<sB ck)||(decide (sB set=sB ck)&&decide (Dq ck<Dq set))
theorem FG(c:ao)(set:Int):zH Try.prog 72 [.ptr 1000000 0] [(1000000,.box (.dd (vO c set)))] fun v h'=>v = .ptr 2000002 0/\h' = [(2000000,.map []),(2000001,.map []),(2000002,.box (.vv [.d (bh c set),.mp 2000000,.mp 2000001]))]:=by
 intro σ Y s;refine ic mixed aI Try.func72 rfl (ft:=Gp) (args:=[.ptr 1000000 0]) (show zK Gp Try.f72 1=true from by decide +kernel) ?_;conv=>whnf
 refine nO ((Wk.MZ 1 [1000000]).trans (Wk.sub (e':=dO 0 [.ptr 7 0]) (h':=[(4,.map []),(5,.map []),(7,.box (.vv [.d (bh c set),.mp 4,.mp 5]))]) ⟨rfl,trivial⟩ ⟨rfl,rfl,rfl,trivial⟩)) rfl rfl ?_;exact bD [4,5,7] [.ptr 2000002 0] [(2000000,.map []),(2000001,.map []),(2000002,.box (.vv [.d (bh c set),.mp 2000000,.mp 2000001]))] rfl ⟨rfl,rfl,rfl,trivial⟩ rfl ⟨⟨rfl,rfl⟩,rfl⟩
theorem QS(c:ao)(hR:WR c)(set:Int):cy Try.prog 80 [i64 set,.ref c.cells] (.bool (fh c set .zero)):=by
 refine bx Try.func80 rfl (ft:=Oo) 2 fun {σ} Y st=>?_;conv=>whnf
 refine cw (FG c set) [7] rfl ⟨_,_,rfl,rfl,rfl⟩ rfl ?_;conv=>whnf
 obtain⟨Me,dC,hE⟩:=iJ hR (set:=set) .nil [] (fJ.zero hR);refine cw hE [100514,100512,100513] rfl ?lent rfl ?_;case lent=>exact⟨_,_,rfl,dE rfl ⟨rfl,rfl,rfl,trivial⟩,_,_,rfl,rfl,_,_,rfl,rfl,rfl⟩
 conv=>whnf
 exact ax
def g6(w:Int->Bool)(ck:Int)(set:Int):Int:=if gN set ck&&w set then set else ck
def Mr(many:Nat):List Int:=(List.range' 1 (2^many-1)).map fun(i:Nat)=>(i:Int)
def xd(w:Int->Bool)(many:Nat):Int:=(Mr many).foldl (g6 w) (-1)
def BS(set:Int)(many:Nat):List Int:=((List.range many).filter fun(i:Nat)=>decide (set≥0)&&eJ set i).map fun(i:Nat)=>(i:Int)
def yO(l:List Int):D:=match l with
 | []=>.nils
 | x::r=>aj (x::r)
theorem Ge(set:Int)(j:Nat):fb .and .i64 (set.fdiv (2^min (j:Int).toNat IntKind.i64.bits)) 1=0\/fb .and .i64 (set.fdiv (2^min (j:Int).toNat IntKind.i64.bits)) 1=1:=by
 generalize (set.fdiv (2^min (j:Int).toNat IntKind.i64.bits))=a;show IntKind.i64.wrap (BitVec.ofInt 64 a &&& BitVec.ofInt 64 1).toNat=0\/IntKind.i64.wrap (BitVec.ofInt 64 a &&& BitVec.ofInt 64 1).toNat=1;have h:(BitVec.ofInt 64 a &&& BitVec.ofInt 64 1).toNat=(BitVec.ofInt 64 a).toNat%2:=by
  rw[BitVec.toNat_and];exact Nat.and_one_is_mod _
 rw[h];have h2:(BitVec.ofInt 64 a).toNat%2=0\/(BitVec.ofInt 64 a).toNat%2=1:=by omega
 rcases h2 with h2|h2<;>rw[h2]
 ·left;decide
 ·right;decide
theorem QR(many:Nat)(hm:many<=5)(g:FuncId)(bS:List D)(w:Int->Bool)(hw:∀ set,cy Try.prog g (i64 set::bS) (.bool (w set))) :
  cy Try.prog 79 [i64 many,.clo g bS] (yO (BS (xd w many) many)):=by
 refine bx Try.func79 rfl (ft:=On) 2 fun {σ} Y st=>?_;conv=>whnf
 have hp:(2:Int)^many<=32:=by
  have:many=0\/many=1\/many=2\/many=3\/many=4\/many=5:=by omega
  rcases this with rfl|rfl|rfl|rfl|rfl|rfl<;>decide
 have JU:(2:Nat)^many<=32:=by
  have:many=0\/many=1\/many=2\/many=3\/many=4\/many=5:=by omega
  rcases this with rfl|rfl|rfl|rfl|rfl|rfl<;>decide
 have zO:1<=(2:Nat)^many:=Nat.one_le_two_pow;have S1:(2:Int)^many=((2^many:Nat):Int):=by simp
 generalize yF:xd w many=res;refine fM (T:=tys) aI (by exact au mixed aI (by decide +kernel)) (α:=Nat×Int) (fun x=>⟨[(0,.d (i64 many)),(1,.d (.clo g bS)),(4,.d .nils),(5,.d (i64 x.2)),(6,.d (i64 x.1))],[],st⟩)
  (fun x=>1<=x.1/\x.1<=2^many/\(-1<=x.2/\x.2<32)/\((List.range' x.1 (2^many-x.1)).map fun(i:Nat)=>(i:Int)).foldl (g6 w) x.2=res) (fun x=>2^many-x.1) (1,-1)
  aw ⟨by simp,zO,by simp,yF⟩ ?_
 clear yF;rintro ⟨i,ck⟩ ⟨h1,h2,hb,hr⟩;simp only at h1 h2 hb hr;conv=>whnf
 refine bg ((2^many:Nat):Int) (by
  rw[show min (many:Int).toNat IntKind.i64.bits=many by show min many 64=many;omega,Int.one_mul,S1]) (wrap_i64 (by omega)) ?_
 conv=>whnf
 refine ak (fun eC=>?_) (fun eC=>?_)
 ·have eC:i<2^many:=by have:=of_decide_eq_true eC;simp at this;omega
  obtain⟨k,hk⟩:∃ k,2^many-i=k+1:=⟨2^many-i-1,by omega⟩;have fj:2^many-(i+1)=k:=by omega
  rw[hk,List.range'_succ,List.map_cons,List.foldl_cons]at hr;conv=>whnf
  refine arith.mk ?_;conv=>whnf
  refine aH (ds:=[.int .u64 (IntKind.u64.wrap i)]) (MR _) rfl rfl ?_;conv=>whnf
  refine arith.mk ?_;conv=>whnf
  refine aH (ds:=[.int .u64 (IntKind.u64.wrap ck)]) (MR _) rfl rfl ?_;conv=>whnf
  refine ak (fun hA=>?_) (fun hA=>?_)
  ·have hB:gN i ck=true:=by unfold gN;rw[show decide (ck<0)=true from hA];rfl
   conv=>whnf
   refine aH (ds:=i64 i::bS) (hw i) rfl rfl ?_;conv=>whnf
   refine ak (fun hW=>?_) (fun hW=>?_)
   ·have hW:w i=true:=hW
    have Ao:g6 w ck i=i:=by unfold g6;rw[hB,hW];rfl
    rw[Ao]at hr;conv=>whnf
    refine bg (((i+1:Nat):Int)) (by(try dsimp only);omega) (wrap_i64 (by(try dsimp only);omega)) ?_;conv=>whnf
    exact⟨(i+1,(i:Int)),by simp only;omega,⟨by simp only;omega,by simp only;omega,by simp only;omega,by simp only;rw[fj];exact hr⟩,aw⟩
   ·have hW:w i=false:=hW
    have Ao:g6 w ck i=ck:=by unfold g6;rw[hB,hW];rfl
    rw[Ao]at hr;conv=>whnf
    refine bg (((i+1:Nat):Int)) (by(try dsimp only);omega) (wrap_i64 (by(try dsimp only);omega)) ?_;conv=>whnf
    exact⟨(i+1,ck),by simp only;omega,⟨by simp only;omega,by simp only;omega,hb,by simp only;rw[fj];exact hr⟩,aw⟩
  have hA:decide (ck<0)=false:=hA;conv=>whnf
  refine ak (fun CE=>?_) (fun CE=>?_)
  ·have CE:decide (sB i<sB ck)=true:=CE
   have hB:gN i ck=true:=by unfold gN;rw[hA,CE];rfl
   conv=>whnf
   refine aH (ds:=i64 i::bS) (hw i) rfl rfl ?_;conv=>whnf
   refine ak (fun hW=>?_) (fun hW=>?_)
   ·have hW:w i=true:=hW
    have Ao:g6 w ck i=i:=by unfold g6;rw[hB,hW];rfl
    rw[Ao]at hr;conv=>whnf
    refine bg (((i+1:Nat):Int)) (by(try dsimp only);omega) (wrap_i64 (by(try dsimp only);omega)) ?_;conv=>whnf
    exact⟨(i+1,(i:Int)),by simp only;omega,⟨by simp only;omega,by simp only;omega,by simp only;omega,by simp only;rw[fj];exact hr⟩,aw⟩
   ·have hW:w i=false:=hW
    have Ao:g6 w ck i=ck:=by unfold g6;rw[hB,hW];rfl
    rw[Ao]at hr;conv=>whnf
    refine bg (((i+1:Nat):Int)) (by(try dsimp only);omega) (wrap_i64 (by(try dsimp only);omega)) ?_;conv=>whnf
    exact⟨(i+1,ck),by simp only;omega,⟨by simp only;omega,by simp only;omega,hb,by simp only;rw[fj];exact hr⟩,aw⟩
  have CE:decide (sB i<sB ck)=false:=CE;conv=>whnf
  refine ak (fun hC=>?_) (fun hC=>?_)
  ·have hC:decide (sB i=sB ck)=true:=hC
   conv=>whnf
   refine arith.mk ?_;conv=>whnf
   refine aH (ds:=[.int .u64 (IntKind.u64.wrap i)]) (Ig _) rfl rfl ?_;conv=>whnf
   refine arith.mk ?_;conv=>whnf
   refine aH (ds:=[.int .u64 (IntKind.u64.wrap ck)]) (Ig _) rfl rfl ?_;conv=>whnf
   refine ak (fun hD=>?_) (fun hD=>?_)
   ·have hD:decide (Dq ck<Dq i)=true:=hD
    have hB:gN i ck=true:=by unfold gN;rw[hA,CE,hC,hD];rfl
    conv=>whnf
    refine aH (ds:=i64 i::bS) (hw i) rfl rfl ?_;conv=>whnf
    refine ak (fun hW=>?_) (fun hW=>?_)
    ·have hW:w i=true:=hW
     have Ao:g6 w ck i=i:=by unfold g6;rw[hB,hW];rfl
     rw[Ao]at hr;conv=>whnf
     refine bg (((i+1:Nat):Int)) (by(try dsimp only);omega) (wrap_i64 (by(try dsimp only);omega)) ?_;conv=>whnf
     exact⟨(i+1,(i:Int)),by simp only;omega,⟨by simp only;omega,by simp only;omega,by simp only;omega,by simp only;rw[fj];exact hr⟩,aw⟩
    ·have hW:w i=false:=hW
     have Ao:g6 w ck i=ck:=by unfold g6;rw[hB,hW];rfl
     rw[Ao]at hr;conv=>whnf
     refine bg (((i+1:Nat):Int)) (by(try dsimp only);omega) (wrap_i64 (by(try dsimp only);omega)) ?_;conv=>whnf
     exact⟨(i+1,ck),by simp only;omega,⟨by simp only;omega,by simp only;omega,hb,by simp only;rw[fj];exact hr⟩,aw⟩
   ·have hD:decide (Dq ck<Dq i)=false:=hD
    have hB:gN i ck=false:=by unfold gN;rw[hA,CE,hC,hD];rfl
    conv=>whnf
    refine bg (((i+1:Nat):Int)) (by(try dsimp only);omega) (wrap_i64 (by(try dsimp only);omega)) ?_;conv=>whnf
    have Ao:g6 w ck i=ck:=by unfold g6;rw[hB];rfl
    rw[Ao]at hr;exact⟨(i+1,ck),by simp only;omega,⟨by simp only;omega,by simp only;omega,hb,by simp only;rw[fj];exact hr⟩,aw⟩
  ·have hC:decide (sB i=sB ck)=false:=hC
   have hB:gN i ck=false:=by unfold gN;rw[hA,CE,hC];rfl
   conv=>whnf
   refine bg (((i+1:Nat):Int)) (by(try dsimp only);omega) (wrap_i64 (by(try dsimp only);omega)) ?_;conv=>whnf
   have Ao:g6 w ck i=ck:=by unfold g6;rw[hB];rfl
   rw[Ao]at hr;exact⟨(i+1,ck),by simp only;omega,⟨by simp only;omega,by simp only;omega,hb,by simp only;rw[fj];exact hr⟩,aw⟩
 ·have eC:¬ i<2^many:=by have:=of_decide_eq_false eC;simp at this;omega
  rw[show 2^many-i=0 by omega]at hr;have hr:ck=res:=hr;subst hr;conv=>whnf
  generalize hM:BS ck many=M
  refine bt (T:=tys) aI (by exact au mixed aI (by decide +kernel)) (List.range many) (fun j (acc:List Int)=>⟨[(4,match acc with
    | []=>.d .nils
    | x::r=>.sl 67 1 0 (x::r).length),(5,.d (i64 ck)),(51,.d (i64 many)),(52,.d (i64 j))],match acc with
    | []=>[]
    | x::r=>[(67,.arr 1 (.dd (aA (x::r))))],st⟩)
   (fun j r acc=>acc.length<=j/\M=acc++(r.filter fun(i:Nat)=>decide (ck≥0)&&eJ ck i).map fun(i:Nat)=>(i:Int)) [] aw ⟨by simp,hM.symm⟩ ?_ ?_
  ·intro j x r acc hx hj wb hi
   obtain⟨sQ,he⟩:=hi;have FX:j=x:=by
    rw[List.getElem?_range (by simpa using hj)]at hx;exact Option.some.inj hx
   subst FX;have BE:j<many:=by simpa using hj
   have K3:=Ge ck j;have mK:∀ b:Bool,(decide (ck≥0)&&eJ ck j)=b->((j::r).filter fun(i:Nat)=>decide (ck≥0)&&eJ ck i)=(if b then [j] else [])++r.filter fun(i:Nat)=>decide (ck≥0)&&eJ ck i:=by
    intro b hb;rw[List.filter_cons,hb];cases b<;>rfl
   cases acc with
   | nil=>
    conv=>whnf
    refine ak (fun _=>?_) (fun h=>absurd BE (by have:=of_decide_eq_false h;omega));conv=>whnf
    refine ak (fun h0=>?_) (fun h0=>?_)
    ·have h0:decide (ck≥0)=true:=h0
     conv=>whnf
     refine ak (fun h3=>?_) (fun h3=>?_)
     ·have h3:fb .and .i64 (ck.fdiv (2^min (j:Int).toNat IntKind.i64.bits)) 1=1:=of_decide_eq_true h3
      have h4:eJ ck j=true:=by
       show(!decide (fb .and .i64 (ck.fdiv (2^min (j:Int).toNat IntKind.i64.bits)) 1=0))=true;rw[h3];rfl
      rw[mK true (by rw[h0,h4];rfl)]at he;conv=>whnf
      refine ar rfl ?_;conv=>whnf
      refine ah ?_;conv=>whnf
      refine⟨[(j:Int)],⟨by simp,by simpa using he⟩,aw⟩
     ·have h3:¬ fb .and .i64 (ck.fdiv (2^min (j:Int).toNat IntKind.i64.bits)) 1=1:=of_decide_eq_false h3
      have h4:eJ ck j=false:=by
       show(!decide (fb .and .i64 (ck.fdiv (2^min (j:Int).toNat IntKind.i64.bits)) 1=0))=false;rcases K3 with nf|nf
       ·rw[nf];rfl
       ·exact absurd nf h3
      rw[mK false (by rw[h4,Bool.and_false])]at he;conv=>whnf
      refine ah ?_;conv=>whnf
      refine⟨[],⟨by simp,by simpa using he⟩,aw⟩
    ·have h0:decide (ck≥0)=false:=h0
     rw[mK false (by rw[h0];rfl)]at he;conv=>whnf
     refine ah ?_;conv=>whnf
     refine⟨[],⟨by simp,by simpa using he⟩,aw⟩
   | cons a l=>
    conv=>whnf
    refine ak (fun _=>?_) (fun h=>absurd BE (by have:=of_decide_eq_false h;omega));conv=>whnf
    refine ak (fun h0=>?_) (fun h0=>?_)
    ·have h0:decide (ck≥0)=true:=h0
     conv=>whnf
     refine ak (fun h3=>?_) (fun h3=>?_)
     ·have h3:fb .and .i64 (ck.fdiv (2^min (j:Int).toNat IntKind.i64.bits)) 1=1:=of_decide_eq_true h3
      have h4:eJ ck j=true:=by
       show(!decide (fb .and .i64 (ck.fdiv (2^min (j:Int).toNat IntKind.i64.bits)) 1=0))=true;rw[h3];rfl
      rw[mK true (by rw[h0,h4];rfl)]at he;conv=>whnf
      refine ar rfl ?_;conv=>whnf
      refine ar (by simp[aC.len,aA]) ?_;conv=>whnf
      refine aR (decide_eq_true (by
       show((aA (a::l)).length+1)*8<=140737488355328;simp[aA]at sQ ⊢;omega)) ?_
      conv=>whnf
      refine ah ?_;conv=>whnf
      refine⟨a::l ++ [(j:Int)],⟨by simp at sQ ⊢;omega,by simpa using he⟩,Wk.sub ⟨?_,rfl,rfl,rfl,trivial⟩ ⟨?_,trivial⟩⟩
      ·show some (V.sl 67 1 0 ((aA (a::l)).length+1))=some (V.sl 67 1 0 (a::(l ++ [(j:Int)])).length)
       simp[aA]
      ·show some (Obj.arr 1 (aC.dd (aA (a::l) ++ [[i64 (j:Int)]])))=some (Obj.arr 1 (aC.dd (aA (a::(l ++ [(j:Int)])))))
       simp[aA]
     ·have h3:¬ fb .and .i64 (ck.fdiv (2^min (j:Int).toNat IntKind.i64.bits)) 1=1:=of_decide_eq_false h3
      have h4:eJ ck j=false:=by
       show(!decide (fb .and .i64 (ck.fdiv (2^min (j:Int).toNat IntKind.i64.bits)) 1=0))=false;rcases K3 with nf|nf
       ·rw[nf];rfl
       ·exact absurd nf h3
      rw[mK false (by rw[h4,Bool.and_false])]at he;conv=>whnf
      refine ah ?_;conv=>whnf
      refine⟨a::l,⟨by simp at sQ ⊢;omega,by simpa using he⟩,aw⟩
    ·have h0:decide (ck≥0)=false:=h0
     rw[mK false (by rw[h0];rfl)]at he;conv=>whnf
     refine ah ?_;conv=>whnf
     refine⟨a::l,⟨by simp at sQ ⊢;omega,by simpa using he⟩,aw⟩
  ·rintro acc ⟨_,he⟩
   have he:M=acc:=by simpa using he
   rw[he]
   cases acc with
   | nil=>
    conv=>whnf
    refine ak (fun h=>absurd h (by simp)) (fun _=>?_);conv=>whnf
    exact ax
   | cons a l=>
    conv=>whnf
    refine ak (fun h=>absurd h (by simp)) (fun _=>?_);conv=>whnf
    refine ba 1 (ds:=[aj (a::l)]) ?_ ⟨⟨rfl,rfl⟩,rfl⟩;exact aV (bI (es:=aA (a::l)) rfl (by simp[aA])) rfl
def Ea(c:ao):List Int:=BS (xd (fun set=>fh c set .zero) c.aL.length) c.aL.length
theorem QF(c:ao):cy Try.prog 32 [c.d] (.tup [if b0 c []=0 then yO (Ea c) else .nils,i64 (if b0 c []=0 then (if Ea c = [] then 9 else 0) else b0 c [])]):=by
 refine bx Try.func32 rfl (ft:=NW) 1 fun {σ} Y st=>?_;conv=>whnf
 refine lO ?_;refine aH (ds:=[c.d,aJ []]) (zE c []) rfl rfl ?_;conv=>whnf
 by_cases h0:b0 c []=0
 ·obtain⟨hR,hl,_⟩:=eZ h0
  have hm:=hR.aL;rw[h0];simp only[if_true];conv=>whnf
  refine jD (ds:=[i64 c.aL.length,.clo 80 [.ref c.cells]]) (QR c.aL.length hm.2 80 [.ref c.cells] (fun set=>fh c set .zero) fun set=>QS c hR set) 2 [1] ?_ rfl ?_
  ·show some [D.int .i64 ((List.map oq.cells c.aL).length:Int),.clo 80 [.ref c.cells]]=_
   rw[List.length_map]
  have hf:BS (xd (fun set=>fh c set ag.zero) c.aL.length) c.aL.length=Ea c:=rfl;rw[hf]
  cases hL:Ea c with
  | nil=>
   conv=>whnf
   refine⟨fun b hb=>?_⟩;cases hb trivial
   conv=>whnf
   exact ax
  | cons a l=>
   conv=>whnf
   refine⟨fun b hb=>?_⟩;cases hb (by simp)
   conv=>whnf
   exact ax
 ·simp only[h0,if_false]
  conv=>whnf
  exact ax
def cN(c:ao)(m:Int):Int:=fb .andNot .i64 (aB c) (2^m.toNat)
def E3(c:ao):List Int:=((List.range c.aL.length).filter fun(i:Nat)=>!fh c (cN c i) .zero).map fun(i:Nat)=>(i:Int)
theorem QG(c:ao):cy Try.prog 34 [c.d] (.tup [if b0 c []=0/\fh c (aB c) .zero=true then yO (E3 c) else .nils,i64 (if b0 c []=0 then (if fh c (aB c) .zero=true then 0 else 9) else b0 c [])]):=by
 refine bx Try.func34 rfl (ft:=(NX.more 9 [102240,102241,102242])) 1 fun {σ} Y st=>?_;conv=>whnf
 refine lO ?_;refine aH (ds:=[c.d,aJ []]) (zE c []) rfl rfl ?_;conv=>whnf
 by_cases h0:b0 c []=0
 ·obtain⟨hR,hl,_⟩:=eZ h0
  have hm:=hR.aL;rw[h0];simp only[if_true,true_and];conv=>whnf
  refine cw (Hv c (aB c)) [] rfl rfl rfl ?_;conv=>whnf
  obtain⟨Me,dC,hE⟩:=iJ hR (set:=aB c) .nil [] (fJ.zero hR);refine cw hE [100962,100960,100961] rfl ?lent rfl ?_;case lent=>exact⟨_,_,rfl,dE rfl ⟨rfl,rfl,rfl,trivial⟩,_,_,rfl,rfl,_,_,rfl,rfl,rfl⟩
  cases hb:fh c (aB c) .zero with
  | false=>
   conv=>whnf
   exact ax
  | true=>
   simp only[if_true];conv=>whnf
   generalize hM:E3 c=M;rw[List.length_map]
   refine bt (T:=tys) aI (by exact au mixed aI (by decide +kernel)) (List.range c.aL.length) (fun j (acc:List Int)=>⟨[(1,.ptr 1 0),(2,match acc with
     | []=>.d .nils
     | x::r=>.sl 42 1 0 (x::r).length),(4,.d (bh c (aB c))),(21,.d (i64 c.aL.length)),(22,.d (i64 j))],match acc with
     | []=>[(1,.box (.dd c.cells))]
     | x::r=>[(1,.box (.dd c.cells)),(42,.arr 1 (.dd (aA (x::r))))],st⟩)
    (fun j r acc=>acc.length<=j/\M=acc++(r.filter fun(i:Nat)=>!fh c (cN c i) .zero).map fun(i:Nat)=>(i:Int)) [] aw ⟨by simp,hM.symm⟩ ?_ ?_
   ·intro j x r acc hx hj wb hi
    obtain⟨sQ,he⟩:=hi;have FX:j=x:=by
     rw[List.getElem?_range (by simpa using hj)]at hx;exact Option.some.inj hx
    subst FX;have BE:j<c.aL.length:=by simpa using hj
    have mR:(1:Int)*2^min (j:Int).toNat IntKind.i64.bits=2^((j:Int).toNat):=by
     rw[show min (j:Int).toNat IntKind.i64.bits=j by show min j 64=j;omega,Int.one_mul];rfl
    have S0:(2:Int)^((j:Int).toNat)<=32/\0<=(2:Int)^((j:Int).toNat):=by
     have:j=0\/j=1\/j=2\/j=3\/j=4:=by omega
     rcases this with rfl|rfl|rfl|rfl|rfl<;>decide
    have mK:∀ b:Bool,fh c (cN c j) .zero=b->((j::r).filter fun(i:Nat)=>!fh c (cN c i) .zero)=(if b then [] else [j])++r.filter fun(i:Nat)=>!fh c (cN c i) .zero:=by
     intro b hb;rw[List.filter_cons,hb];cases b<;>rfl
    cases acc with
    | nil=>
     conv=>whnf
     refine ak (fun _=>?_) (fun h=>absurd BE (by have:=of_decide_eq_false h;omega));conv=>whnf
     refine bg (2^((j:Int).toNat)) mR (wrap_i64 (by omega)) ?_;conv=>whnf
     refine bY (FG c (cN c j)) [34] rfl ⟨_,_,rfl,rfl,rfl⟩ rfl ?_;conv=>whnf
     obtain⟨TE,fj,OH⟩:=iJ hR (set:=cN c j) .nil [] (fJ.zero hR);refine bY OH [102242,102240,102241] rfl ?lent rfl ?_;case lent=>exact⟨_,_,rfl,dE rfl ⟨rfl,rfl,rfl,trivial⟩,_,_,rfl,rfl,_,_,rfl,rfl,rfl⟩
     cases IQ:fh c (cN c j) .zero with
     | true=>
      rw[mK true IQ]at he;conv=>whnf
      refine ah ?_;conv=>whnf
      refine⟨[],⟨by simp,by simpa using he⟩,aw⟩
     | false=>
      rw[mK false IQ]at he;conv=>whnf
      refine ar rfl ?_;conv=>whnf
      refine ah ?_;conv=>whnf
      refine⟨[(j:Int)],⟨by simp,by simpa using he⟩,aw⟩
    | cons a l=>
     conv=>whnf
     refine ak (fun _=>?_) (fun h=>absurd BE (by have:=of_decide_eq_false h;omega));conv=>whnf
     refine bg (2^((j:Int).toNat)) mR (wrap_i64 (by omega)) ?_;conv=>whnf
     refine bY (FG c (cN c j)) [34] rfl ⟨_,_,rfl,rfl,rfl⟩ rfl ?_;conv=>whnf
     obtain⟨TE,fj,OH⟩:=iJ hR (set:=cN c j) .nil [] (fJ.zero hR);refine bY OH [102242,102240,102241] rfl ?lent rfl ?_;case lent=>exact⟨_,_,rfl,dE rfl ⟨rfl,rfl,rfl,trivial⟩,_,_,rfl,rfl,_,_,rfl,rfl,rfl⟩
     cases IQ:fh c (cN c j) .zero with
     | true=>
      rw[mK true IQ]at he;conv=>whnf
      refine ah ?_;conv=>whnf
      refine⟨a::l,⟨by simp at sQ ⊢;omega,by simpa using he⟩,aw⟩
     | false=>
      rw[mK false IQ]at he;conv=>whnf
      refine ar rfl ?_;conv=>whnf
      refine ar (by simp[aC.len,aA]) ?_;conv=>whnf
      refine aR (decide_eq_true (by
       show((aA (a::l)).length+1)*8<=140737488355328;simp[aA]at sQ ⊢;omega)) ?_
      conv=>whnf
      refine ah ?_;conv=>whnf
      refine⟨a::l ++ [(j:Int)],⟨by simp at sQ ⊢;omega,by simpa using he⟩,Wk.sub ⟨rfl,?_,rfl,rfl,rfl,trivial⟩ ⟨rfl,?_,trivial⟩⟩
      ·show some (V.sl 42 1 0 ((aA (a::l)).length+1))=some (V.sl 42 1 0 (a::(l ++ [(j:Int)])).length)
       simp[aA]
      ·show some (Obj.arr 1 (aC.dd (aA (a::l) ++ [[i64 (j:Int)]])))=some (Obj.arr 1 (aC.dd (aA (a::(l ++ [(j:Int)])))))
       simp[aA]
   ·rintro acc ⟨_,he⟩
    have he:M=acc:=by simpa using he
    rw[he]
    cases acc with
    | nil=>
     conv=>whnf
     refine ak (fun h=>absurd h (by simp)) (fun _=>?_);conv=>whnf
     exact ax
    | cons a l=>
     conv=>whnf
     refine ak (fun h=>absurd h (by simp)) (fun _=>?_);conv=>whnf
     refine ba 1 (ds:=[aj (a::l),i64 0]) ?_ ⟨⟨rfl,rfl⟩,rfl⟩;exact aV (bI (es:=aA (a::l)) rfl (by simp[aA])) rfl
 ·simp only[h0,false_and,if_false]
  conv=>whnf
  exact ax
structure om where
 row:Int
 t:ag
 deriving DecidableEq
def om.cells(g:om):List D:=i64 g.row::g.t.cells
def om.d(g:om):D:=.agg g.cells
abbrev Kg:=List (om×Int)
def jV(kn:Kg):List (D×D):=kn.map fun p=>(p.1.d,i64 p.2)
def jI:Kg->om->Option Int
 | [],_=>none
 | (u,x)::r,t=>if t=u then some x else jI r t
def qH:Kg->om->Int->Kg
 | [],t,v=>[(t,v)]
 | (u,x)::r,t,v=>if t=u then (t,v)::r else (u,x)::qH r t v
theorem nI(t u:om):gE t.d u.d=some (decide (t=u)):=by
 have h1:=my t.t u.t;have h1:cd t.t.cells u.t.cells=some (decide (t.t=u.t)):=h1
 show(match lH (i64 t.row) (i64 u.row),cd t.t.cells u.t.cells with
  | some p,some q=>some (p&&q)
  | _,_=>none)=_
 rw[h1];show some (decide (t.row=u.row)&&decide (t.t=u.t))=_
 congr 1
 cases t;cases u
 simp
theorem pZ{kn:Kg}{t:om}(h:jI kn t=none):∀ n,findD t.d (jV kn) n=some none:=by
 induction kn with
 | nil=>intro n;rfl
 | cons p r ih=>
  obtain⟨u,x⟩:=p;intro n;rw[jI]at h;split at h
  ·cases h
  ·rename_i hu
   show(match gE t.d u.d with
    | some true=>some (some (n,i64 x))
    | some false=>findD t.d (jV r) (n+1)
    | none=>none)=_
   rw[nI,decide_eq_false hu];exact ih h (n+1)
theorem xc{kn:Kg}{t:om}{v:Int}(h:jI kn t=some v):∀ n,∃ i,findD t.d (jV kn) n=some (some (n+i,i64 v)) /\ ∀ y,(jV kn).set i (t.d,i64 y)=jV (qH kn t y):=by
 induction kn with
 | nil=>cases h
 | cons p r ih=>
  obtain⟨u,x⟩:=p;intro n;rw[jI]at h;split at h
  ·rename_i hu
   cases h;refine⟨0,?_,fun y=>?_⟩
   ·show(match gE t.d u.d with
     | some true=>some (some (n,i64 v))
     | some false=>findD t.d (jV r) (n+1)
     | none=>none)=_
    rw[nI,decide_eq_true hu];rfl
   ·rw[qH,if_pos hu];rfl
  ·rename_i hu
   obtain⟨i,h1,h2⟩:=ih h (n+1);refine⟨i+1,?_,fun y=>?_⟩
   ·show(match gE t.d u.d with
     | some true=>some (some (n,i64 x))
     | some false=>findD t.d (jV r) (n+1)
     | none=>none)=_
    rw[nI,decide_eq_false hu];show findD t.d (jV r) (n+1)=_;rw[h1,show n+1+i=n+(i+1) by omega]
   ·rw[qH,if_neg hu]
    show(u.d,i64 x)::(jV r).set i (t.d,i64 y)=(u.d,i64 x)::jV (qH r t y);rw[h2 y]
theorem zf{kn:Kg}{t:om}(h:jI kn t=none)(y:Int):jV kn ++ [(t.d,i64 y)]=jV (qH kn t y):=by
 induction kn with
 | nil=>rfl
 | cons p r ih=>
  obtain⟨u,x⟩:=p;rw[jI]at h;split at h
  ·cases h
  ·rename_i hu
   rw[qH,if_neg hu];show(u.d,i64 x)::(jV r ++ [(t.d,i64 y)])=_;rw[ih h];rfl
theorem oZ(kn:Kg)(t u:om)(y:Int):jI (qH kn t y) u=if u=t then some y else jI kn u:=by
 induction kn with
 | nil=>rfl
 | cons p r ih=>
  obtain⟨w,x⟩:=p;rw[qH];split
  ·rename_i h
   subst h;simp only[jI];split<;>rfl
  ·rename_i h
   simp only[jI];split
   ·rename_i h2
    subst h2;rw[if_neg (fun e=>h e.symm)]
   ·exact ih
def iK(R g:List Int):Bool:=decide (R.length=0)||decide (R=g)
def mO(R:List Int)(f:Kg->ag->Option (List (List Int))×Kg):Kg->List (List Int×ag)->Option (List (List Int))×Kg
 | kg,[]=>(none,kg)
 | kg,p::r=>if iK R p.1 then
   match (f kg p.2).1 with
   | some l=>(some (p.1::l),(f kg p.2).2)
   | none=>mO R f (f kg p.2).2 r
  else mO R f kg r
def cD(c:ao)(set:Int):List (List Int)->Int->ag->Kg->Option (List (List Int))×Kg
 | [],_,_,kg=>(some [],kg)
 | R::rest,row,t,kg=>if (jI kg ⟨row,t⟩).isSome then (none,kg) else
  match (mO R (fun kg u=>cD c set rest (row+1) u kg) kg (bQ c set t)).1 with
  | some l=>(some l,(mO R (fun kg u=>cD c set rest (row+1) u kg) kg (bQ c set t)).2)
  | none=>(none,qH (mO R (fun kg u=>cD c set rest (row+1) u kg) kg (bQ c set t)).2 ⟨row,t⟩ 1)
def xZ(kg:Kg):Prop:=∀ g v,jI kg g=some v->v=1
def Below(row:Int)(a b:Kg):Prop:=∀ g:om,g.row<row->jI b g=jI a g
theorem xL{R:List Int}{f:Kg->ag->Option (List (List Int))×Kg}{row:Int}(hf:∀ kg u,xZ kg->xZ (f kg u).2/\Below row kg (f kg u).2):∀ (l:List (List Int×ag)) (kg:Kg),xZ kg->xZ (mO R f kg l).2/\Below row kg (mO R f kg l).2
 | [],kg,h=>⟨h,fun _ _=>rfl⟩
 | p::r,kg,h=>by
  obtain⟨h1,h2⟩:=hf kg p.2 h;rw[mO];split
  ·split
   ·exact⟨h1,h2⟩
   ·obtain⟨h3,h4⟩:=xL hf r (f kg p.2).2 h1
    exact⟨h3,fun g hg=>(h4 g hg).trans (h2 g hg)⟩
  ·exact xL hf r kg h
theorem yo{c:ao}{set:Int}:∀ (rows:List (List Int)) (row:Int) (t:ag) (kg:Kg),xZ kg->xZ (cD c set rows row t kg).2/\Below row kg (cD c set rows row t kg).2
 | [],row,t,kg,h=>⟨h,fun _ _=>rfl⟩
 | R::rest,row,t,kg,h=>by
  obtain⟨h1,h2⟩:=xL (R:=R) (f:=fun kg u=>cD c set rest (row+1) u kg) (row:=row+1) (fun kg u hk=>yo rest (row+1) u kg hk) (bQ c set t) kg h;rw[cD];split
  ·exact⟨h,fun _ _=>rfl⟩
  split
  ·exact⟨h1,fun g hg=>h2 g (by omega)⟩
  ·refine⟨fun g v hv=>?_,fun g hg=>?_⟩
   ·simp only at hv
    rw[oZ]at hv;split at hv
    ·cases hv;rfl
    ·exact h1 g v hv
   ·show jI (qH _ _ _) g=_
    rw[oZ,if_neg (by rintro rfl;simp at hg)];exact h2 g (by omega)
def yn(n:Nat)(r:Option (List (List Int))×Kg):V:=match r.1 with
 | some _=>.tup [.sl 2000000 1 0 n,.d (.bool true)]
 | none=>.d (.tup [.nils,.bool false])
def qZ(row:Nat)(r:Option (List (List Int))×Kg):av:=match r.1 with
 | some l=>[(1000000,.map (jV r.2)),(2000000,.arr 1 (.dd (List.replicate row [.nils]++l.map fun r=>[aj r])))]
 | none=>[(1000000,.map (jV r.2))]
theorem Mx(a b:List Int)(ha:a.length<4000000000000000000)(hb:b.length<4000000000000000000):cy Try.prog 101 [aj a,aj b] (.bool (decide (a=b))):=by
 refine bx Try.func101 rfl (ft:=Ku) 2 fun {σ} Y st=>?_;conv=>whnf
 refine ak (fun h0=>?_) (fun h0=>?_)
 ·have h0:¬ a.length=b.length:=by
   have:¬ ((a.length:Int)=b.length):=by simpa using h0
   omega
  conv=>whnf
  rw[decide_eq_false (fun e=>h0 (by rw[e]))];exact ax
 have h0:a.length=b.length:=by
  have:((a.length:Int)=b.length):=by simpa using h0
  omega
 conv=>whnf
 refine bt (T:=tys) aI (by exact au mixed aI (by decide +kernel)) a (fun i (_:Unit)=>⟨[(0,.d (aj a)),(1,.d (aj b)),(4,.d (.bool false)),(12,.d (i64 a.length)),(13,.d (i64 i))],[],st⟩)
  (fun i r _=>(decide (a=b))=decide (r=b.drop i)) () aw rfl ?_ ?_
 ·intro i x r _ hx hi hr he
  have HS:i<b.length:=by omega
  have O3:b.drop i=b[i]::b.drop (i+1):=by rw[List.drop_eq_getElem_cons HS]
  rw[O3]at he;have Pf:b[i]?=some b[i]:=List.getElem?_eq_getElem HS;conv=>whnf
  refine ak (fun _=>?_) (fun h=>absurd hi (by have:=of_decide_eq_false h;omega));conv=>whnf
  refine ai hx ?_;conv=>whnf
  refine ai Pf ?_;conv=>whnf
  refine ak (fun h1=>?_) (fun h1=>?_)
  ·have h1:¬ x=b[i]:=by simpa using h1
   conv=>whnf
   rw[he,decide_eq_false (fun e=>h1 (List.cons.inj e).1)];exact ax
  ·have h1:x=b[i]:=by simpa using h1
   conv=>whnf
   refine ah ?_;conv=>whnf
   refine⟨(),?_,aw⟩;rw[he];exact decide_eq_decide.2 ⟨fun e=>(List.cons.inj e).2,fun e=>by rw[h1,e]⟩
 ·intro _ he
  conv=>whnf
  refine ak (fun h=>absurd h (by simp)) (fun _=>?_);conv=>whnf
  have hd:b.drop a.length = []:=by rw[h0];simp
  rw[he,hd];exact ax
theorem Bb{g:Nat->Option DO}(B:List (List D)):gr g (aO B)=some B:=by
 have:=gu (g:=g) (vs:=[]) (ds:=[]) rfl B;simpa using this
theorem u6{g:Nat->Option DO}{v:List V}{d:List D}(h:cS g v=some d)(A B:List (List D)):gr g (aO A++v::aO B)=some (A++d::B):=by
 refine gu ?_ A
 show(match cS g v,gr g (aO B) with
  | some a,some l=>some (a::l)
  | _,_=>none)=_
 rw[h,Bb B]
theorem qw(A B:List (List D))(v:List V):bm (aO A++v::aO B).flatten=bm v:=by
 rw[iD,List.flatten_cons,jq,cI,mh,List.append_nil]
theorem ug(B:List (List D))(x:List D)(y:List V):∀ A:List (List D),(aO (A++x::B)).set A.length y=aO A++y::aO B
 | []=>rfl
 | a::A=>by
  show inj a::(aO (A++x::B)).set A.length y=inj a::(aO A++y::aO B);rw[ug B x y A]
def wV(c:ao)(set:Int)(rota:List (List Int))(rows:List (List Int)):Prop:=
 ∀ (row:Nat) (t:ag) (kg:Kg),fJ c t->xZ kg->rota.drop row=rows->row+rows.length=rota.length->zH Try.prog 83 [.d (bh c set),.d (om.d ⟨row,t⟩),.d (aJ rota),.mp 1000000] [(1000000,.map (jV kg))] fun v h'=>
  v=yn rota.length (cD c set rows row t kg)/\h'=qZ row (cD c set rows row t kg)
theorem Ec{c:ao}{set:Int}{rota:List (List Int)}(hl:rota.length<=100):wV c set rota []:=by
 intro row t kg ht hk hd hlen σ Y s;refine ic mixed aI Try.func83 rfl (ft:=Gq) (args:=[.d (bh c set),.d (om.d ⟨row,t⟩),.d (aJ rota),.mp 1000000]) (show zK Gq Try.f83 4=true from by decide +kernel) ?_;conv=>whnf
 have CX:row=rota.length:=by simpa using hlen
 refine ak (fun h0=>?_) (fun h0=>absurd h0 (by simp[CX]));conv=>whnf
 refine aR (by simp;rfl) ?_;conv=>whnf
 refine aR (decide_eq_true (by dsimp only;simp;omega)) ?_;conv=>whnf
 have hn:((rota.map fun r=>[aj r]).length:Int).toNat=rota.length:=by simp
 rw[hn];refine bD [22] [.sl 2000000 1 0 rota.length,.d (.bool true)] [(1000000,.map (jV kg)),(2000000,.arr 1 (.dd (List.replicate rota.length [.nils])))] rfl ⟨rfl,rfl,trivial⟩ rfl ⟨⟨rfl,?_⟩,rfl⟩;rw[cD,<- CX];simp[qZ]
theorem iE(row:Nat)(l:List (List D)):List.replicate (row+1) [D.nils]++l=List.replicate row [.nils] ++ [.nils]::l:=by
 rw[List.replicate_succ'];simp
theorem xb{kg:Kg}{g:om}(h:jI kg g=none):findD g.d (jV kg ++ [(g.d,i64 0)]) 0=some (some ((jV kg).length,i64 0)):=by
 have key:∀ (kg:Kg) (n:Nat),jI kg g=none->findD g.d (jV kg ++ [(g.d,i64 0)]) n=some (some (n+(jV kg).length,i64 0)):=by
  intro kg
  induction kg with
  | nil=>
   intro n _
   show(match gE g.d g.d with
    | some true=>some (some (n,i64 0))
    | some false=>findD g.d [] (n+1)
    | none=>none)=_
   rw[nI,decide_eq_true rfl];rfl
  | cons p r ih=>
   obtain⟨u,v⟩:=p;intro n h;rw[jI]at h;split at h
   ·cases h
   ·rename_i hu
    show(match gE g.d u.d with
     | some true=>some (some (n,i64 v))
     | some false=>findD g.d (jV r ++ [(g.d,i64 0)]) (n+1)
     | none=>none)=_
    rw[nI,decide_eq_false hu];show findD g.d (jV r ++ [(g.d,i64 0)]) (n+1)=_;rw[ih (n+1) h];simp[jV];omega
 have:=key kg 0 h
 rwa [Nat.zero_add]at this
theorem r9(k:D)(v w:D):∀ l:List (D×D),mz (l ++ [(k,v)]) l.length w=l ++ [(k,w)]
 | []=>rfl
 | (a,b)::r=>by
  show(a,b)::mz (r ++ [(k,v)]) r.length w=_;rw[r9 k v w r];rfl
set_option maxHeartbeats 4000000 in
theorem Cu{c:ao}(hR:WR c){set:Int}{rota:List (List Int)}(hl:rota.length<=100)(jm:∀ r∈rota,r.length<1000){R:List Int}{rest:List (List Int)}(ih:wV c set rota rest):wV c set rota (R::rest):=by
 intro row t kg ht hk hd hlen σ Y s;refine ic mixed aI Try.func83 rfl (ft:=(Gq.more 12 [104096]).less 14) (args:=[.d (bh c set),.d (om.d ⟨row,t⟩),.d (aJ rota),.mp 1000000]) (show zK ((Gq.more 12 [104096]).less 14) Try.f83 4=true from by decide +kernel) ?_;conv=>whnf
 have CX:row<rota.length:=by simp at hlen;omega
 have KX:rota[row]?=some R:=by
  have:=List.getElem?_drop (xs:=rota) (i:=row) (j:=0);rw[hd]at this;simpa using this.symm
 have TV:R.length<1000:=jm R (List.mem_of_getElem? KX);have IM:rota.drop (row+1)=rest:=by
  rw[<- List.drop_drop,hd];rfl
 have Lv:row+1+rest.length=rota.length:=by simp at hlen;omega
 refine ak (fun h0=>absurd h0 (by simp;omega)) (fun _=>?_);conv=>whnf
 have H3:((row:Int)+1)=((row+1:Nat):Int):=by omega
 cases hg:jI kg ⟨row,t⟩ with
 | some v=>
  cases hk _ v hg
  obtain⟨ix,DE,LY⟩:=xc hg 0;refine⟨_,DE,?_⟩;conv=>whnf
  have hF:cD c set (R::rest) row t kg=(none,kg):=by rw[cD,hg];rfl
  rw[hF];exact bD [] [.d .nils,.d (.bool false)] [(1000000,.map (jV kg))] rfl ⟨rfl,trivial⟩ rfl ⟨⟨rfl,rfl⟩,rfl⟩
 | none=>
  refine⟨none,pZ hg 0,?_⟩;conv=>whnf
  refine aH (Bd c set t) rfl rfl ?_;conv=>whnf
  obtain⟨sW,su⟩:=ht.tok hR;generalize hT:mO R (fun kg u=>cD c set rest (row+1) u kg) kg (bQ c set t)=T
  have hF:cD c set (R::rest) row t kg=(match T.1 with
   | some l=>(some l,T.2)
   | none=>(none,qH T.2 ⟨row,t⟩ 1)):=by
   rw[cD,hg];simp only[Option.isSome_none,Bool.false_eq_true,if_false];rw[hT];all_goals (obtain⟨a,b⟩:=T;cases a<;>rfl)
  rw[hF];refine gK.wk (st':=⟨[(4,.ptr 4 0),(5,.ptr 5 0),(6,.ptr 6 0),(7,.ptr 7 0),(8,.ptr 8 0),(9,.ptr 9 0),(30,.d (.clo 93 [.ref [bh c set],.ref t.cells]))],[(1000000,.map (jV kg)),(4,.box (.dd [bh c set])),(5,.box (.dd (om.cells ⟨row,t⟩))),(6,.box (.dd [aJ rota])),(7,.box (.vv [.mp 1000000])),(8,.box (.dd [.nils])),(9,.box (.dd [.bool false]))],s⟩) aw ?_;refine fp aI (by exact au mixed aI (by decide +kernel)) (by exact au mixed aI (by decide +kernel)) rfl 1500000 1600000 [4,5,6,7,8,9] (by exact kh c hR set t sW su)
   (fun(x:Kg)=>([(1000000,.map (jV x)),(1500000,.box (.dd [bh c set])),(1500001,.box (.dd (om.cells ⟨row,t⟩))),(1500002,.box (.dd [aJ rota])),(1500003,.box (.vv [.mp 1000000])),(1500004,.box (.dd [.nils])),(1500005,.box (.dd [.bool false]))],s))
   (fun(l:List (List Int×ag)) x=>mO R (fun kg u=>cD c set rest (row+1) u kg) x l=T/\xZ x/\jI x ⟨row,t⟩=none /\ ∀ p∈l,p.1.length<=2/\fJ c p.2) kg rfl rfl rfl ⟨hT,hk,hg,fun p hp=>⟨jK hR hp,eR hR ht hp⟩⟩ ?_ ?_
  ·rintro ⟨g,u⟩ l x ⟨he,xm,EC,BD⟩ Q vj hQ
   clear hF;obtain⟨iX,hu⟩:=BD (g,u) (by simp);have tW:g.length<=1000:=by simp only at iX;omega
   have AD:∀ p∈l,p.1.length<=2/\fJ c p.2:=fun p hp=>BD p (by simp[hp]);refine⟨⟨rfl,jT _⟩,?_⟩;rw[mO]at he;conv=>whnf
   refine ai KX ?_;conv=>whnf
   have HR:=yo (c:=c) (set:=set) rest ((row+1:Nat):Int) u x xm;rw[<- H3]at HR;have hI:zH Try.prog 83 [.d (bh c set),.d (om.d ⟨(row+1:Nat),u⟩),.d (aJ rota),.mp 1000000] [(1000000,.map (jV x))] (fun v h'=>v=yn rota.length (cD c set rest ((row:Int)+1) u x)/\h'=qZ (row+1) (cD c set rest ((row:Int)+1) u x)):=by
    rw[H3];exact fun {σ}=>ih (row+1) u x hu xm IM Lv
   simp only at he;refine ak (fun h1=>?_) (fun h1=>?_)
   ·have h1:0<R.length:=by simpa using h1
    conv=>whnf
    refine a8 (ds:=[aj R,aj g]) (Mx R g (by omega) (by omega)) rfl 1 (aV rfl (aV (bI rfl (by simp[aA])) rfl)) ?_;conv=>whnf
    refine ak (fun h2=>?_) (fun h2=>?_)
    ·have h2:¬ R=g:=by simpa using h2
     have ob:iK R g=false:=by unfold iK;rw[decide_eq_false (by omega),decide_eq_false h2];rfl
     rw[ob]at he;conv=>whnf
     exact⟨x,aw,rfl,vj x ⟨he,xm,EC,AD⟩⟩
    ·have h2:R=g:=by simpa using h2
     have ob:iK R g=true:=by unfold iK;rw[decide_eq_true h2,Bool.or_true]
     rw[ob]at he;simp only[if_true]at he;generalize hF2:cD c set rest ((row:Int)+1) u x=r2 at he hI HR;obtain⟨o,BO⟩:=r2;obtain⟨fj,mI⟩:=HR
     cases o with
     | none=>
      conv=>whnf
      refine bg (((row+1:Nat):Int)) (by(try dsimp only);omega) (wrap_i64 (by(try dsimp only);omega)) ?_;conv=>whnf
      refine cw hI [1000000] rfl ⟨_,_,rfl,rfl,rfl⟩ rfl ?_;conv=>whnf
      exact⟨BO,aw,rfl,vj BO ⟨he,fj,(mI ⟨row,t⟩ (by simp only;omega)).trans EC,AD⟩⟩
     | some l2=>
      simp only at he;subst he;conv=>whnf
      refine bg (((row+1:Nat):Int)) (by(try dsimp only);omega) (wrap_i64 (by(try dsimp only);omega)) ?_;conv=>whnf
      refine cw hI [1000000] rfl ⟨_,_,rfl,rfl,rfl⟩ rfl ?_;conv=>whnf
      refine bY (u7 g tW) [1600000] rfl ⟨_,_,rfl,rfl,rfl⟩ rfl ?_;conv=>whnf
      refine aR (by simp;omega) ?_;conv=>whnf
      have H2:0+((row:Int)).toNat=row:=by simp
      have sk:(List.replicate (row+1) [D.nils]++l2.map fun r=>[aj r])[0+((row:Int)).toNat]?=some [.nils]:=by
       rw[H2,iE,List.getElem?_append_right (by simp)];simp
      have mN:∀ y:List V,(aO (List.replicate (row+1) [D.nils]++l2.map fun r=>[aj r])).set (0+((row:Int)).toNat) y=aO (List.replicate row [D.nils])++y::aO (l2.map fun r=>[aj r]):=by
       intro y;have h1:=ug (l2.map fun r=>[aj r]) [D.nils] y (List.replicate row [D.nils]);rw[List.length_replicate]at h1;rw[H2,iE];exact h1
      refine gf [.nils] sk ?_;conv=>whnf
      refine lj [104096] (by
       show bm (((aO (List.replicate (row+1) [D.nils]++l2.map fun r=>[aj r])).set (0+((row:Int)).toNat) [V.sl 104096 1 0 g.length]).flatten) ++ []=_;rw[mN,qw];rfl) ?_
      conv=>whnf
      refine⟨[(1000000,.map (jV BO)),(1500000,.box (.dd [bh c set])),(1500001,.box (.dd (om.cells ⟨row,t⟩))),(1500002,.box (.dd [aJ rota])),(1500003,.box (.vv [.mp 1000000])),(1500004,.box (.vv [.sl 103584 1 0 rota.length])),(1500005,.box (.dd [.bool true])),(103584,.arr 1 (.dd (List.replicate row [D.nils] ++ [aj g]::l2.map fun r=>[aj r])))],s,(Wk.l7 1 [104096] 103584 (sz:=1) (vs:=aO (List.replicate row [D.nils]) ++ [.sl 104096 1 0 g.length]::aO (l2.map fun r=>[aj r])) (ds:=List.replicate row [D.nils] ++ [aj g]::l2.map fun r=>[aj r]) ?_ (u6 (aV (bI rfl (by simp[aA])) rfl) _ _)).trans ?_,rfl,hQ _ _ _ ?_⟩
      ·show some (Obj.arr 1 (aC.vv ((aO (List.replicate (row+1) [D.nils]++l2.map fun r=>[aj r])).set (0+((row:Int)).toNat) [V.sl 104096 1 0 g.length])))=_
       rw[mN]
      ·exact aw
      ·clear hQ vj
       conv=>whnf
       refine nO (l':=[.sl 103584 1 0 rota.length,.d (.bool true)]) (h':=[(1000000,.map (jV BO)),(103584,.arr 1 (.dd (List.replicate row [D.nils] ++ [aj g]::l2.map fun r=>[aj r])))]) aw rfl rfl ?_;refine bD [103584] [.sl 2000000 1 0 rota.length,.d (.bool true)] [(1000000,.map (jV BO)),(2000000,.arr 1 (.dd (List.replicate row [.nils]++(g::l2).map fun r=>[aj r])))] rfl ⟨rfl,rfl,trivial⟩ rfl ⟨⟨rfl,rfl⟩,rfl⟩
   ·have h1:R.length=0:=by
     have:¬ 0<R.length:=by simpa using h1
     omega
    have ob:iK R g=true:=by unfold iK;rw[decide_eq_true h1];rfl
    rw[ob]at he;simp only[if_true]at he;generalize hF2:cD c set rest ((row:Int)+1) u x=r2 at he hI HR;obtain⟨o,BO⟩:=r2;obtain⟨fj,mI⟩:=HR
    cases o with
    | none=>
     conv=>whnf
     refine bg (((row+1:Nat):Int)) (by(try dsimp only);omega) (wrap_i64 (by(try dsimp only);omega)) ?_;conv=>whnf
     refine cw hI [1000000] rfl ⟨_,_,rfl,rfl,rfl⟩ rfl ?_;conv=>whnf
     exact⟨BO,aw,rfl,vj BO ⟨he,fj,(mI ⟨row,t⟩ (by simp only;omega)).trans EC,AD⟩⟩
    | some l2=>
     simp only at he;subst he;conv=>whnf
     refine bg (((row+1:Nat):Int)) (by(try dsimp only);omega) (wrap_i64 (by(try dsimp only);omega)) ?_;conv=>whnf
     refine cw hI [1000000] rfl ⟨_,_,rfl,rfl,rfl⟩ rfl ?_;conv=>whnf
     refine bY (u7 g tW) [1600000] rfl ⟨_,_,rfl,rfl,rfl⟩ rfl ?_;conv=>whnf
     refine aR (by simp;omega) ?_;conv=>whnf
     have H2:0+((row:Int)).toNat=row:=by simp
     have sk:(List.replicate (row+1) [D.nils]++l2.map fun r=>[aj r])[0+((row:Int)).toNat]?=some [.nils]:=by
      rw[H2,iE,List.getElem?_append_right (by simp)];simp
     have mN:∀ y:List V,(aO (List.replicate (row+1) [D.nils]++l2.map fun r=>[aj r])).set (0+((row:Int)).toNat) y=aO (List.replicate row [D.nils])++y::aO (l2.map fun r=>[aj r]):=by
      intro y;have h1:=ug (l2.map fun r=>[aj r]) [D.nils] y (List.replicate row [D.nils]);rw[List.length_replicate]at h1;rw[H2,iE];exact h1
     refine gf [.nils] sk ?_;conv=>whnf
     refine lj [104096] (by
      show bm (((aO (List.replicate (row+1) [D.nils]++l2.map fun r=>[aj r])).set (0+((row:Int)).toNat) [V.sl 104096 1 0 g.length]).flatten) ++ []=_;rw[mN,qw];rfl) ?_
     conv=>whnf
     refine⟨[(1000000,.map (jV BO)),(1500000,.box (.dd [bh c set])),(1500001,.box (.dd (om.cells ⟨row,t⟩))),(1500002,.box (.dd [aJ rota])),(1500003,.box (.vv [.mp 1000000])),(1500004,.box (.vv [.sl 103584 1 0 rota.length])),(1500005,.box (.dd [.bool true])),(103584,.arr 1 (.dd (List.replicate row [D.nils] ++ [aj g]::l2.map fun r=>[aj r])))],s,(Wk.l7 1 [104096] 103584 (sz:=1) (vs:=aO (List.replicate row [D.nils]) ++ [.sl 104096 1 0 g.length]::aO (l2.map fun r=>[aj r])) (ds:=List.replicate row [D.nils] ++ [aj g]::l2.map fun r=>[aj r]) ?_ (u6 (aV (bI rfl (by simp[aA])) rfl) _ _)).trans ?_,rfl,hQ _ _ _ ?_⟩
     ·show some (Obj.arr 1 (aC.vv ((aO (List.replicate (row+1) [D.nils]++l2.map fun r=>[aj r])).set (0+((row:Int)).toNat) [V.sl 104096 1 0 g.length])))=_
      rw[mN]
     ·exact aw
     ·clear hQ vj
      conv=>whnf
      refine nO (l':=[.sl 103584 1 0 rota.length,.d (.bool true)]) (h':=[(1000000,.map (jV BO)),(103584,.arr 1 (.dd (List.replicate row [D.nils] ++ [aj g]::l2.map fun r=>[aj r])))]) aw rfl rfl ?_;refine bD [103584] [.sl 2000000 1 0 rota.length,.d (.bool true)] [(1000000,.map (jV BO)),(2000000,.arr 1 (.dd (List.replicate row [.nils]++(g::l2).map fun r=>[aj r])))] rfl ⟨rfl,rfl,trivial⟩ rfl ⟨⟨rfl,rfl⟩,rfl⟩
  ·rintro x ⟨he,xm,EC,_⟩
   have he:(none,x)=T:=he;subst he;have hN:findD (om.d ⟨row,t⟩) (jV x) 0=some none:=pZ EC 0;have hS:findD (om.d ⟨row,t⟩) (jV x ++ [(om.d ⟨row,t⟩,i64 0)]) 0=some (some ((jV x).length,i64 0)):=xb EC;have hV:mz (jV x ++ [(om.d ⟨row,t⟩,i64 0)]) (jV x).length (i64 1)=jV (qH x ⟨row,t⟩ 1):=by
    rw[<- zf EC];exact r9 ..
   have hB:(decide ((0:Int)<=(jV x).length)&&decide (((jV x).length:Int)<(jV x ++ [(om.d ⟨row,t⟩,i64 0)]).length))=true:=by
    simp;omega
   conv=>whnf
   refine x5 mixed aI [[],[],[0,1],[2],[0,1],[4],[0,5,3]] (by decide +kernel) ?_;conv=>whnf
   repeat' (first
    | trivial
    | (refine And.intro ?_ ?_<;>conv=>whnf)
    | (refine vW.mk none hN ?_;conv=>whnf)
    | (refine vW.mk _ hS ?_;conv=>whnf)
    | (refine tn (by decide) ?_;conv=>whnf)
    | (refine aR hB ?_;conv=>whnf))
   all_goals exact bD [] [.d .nils,.d (.bool false)] [(1000000,.map (jV (qH x ⟨row,t⟩ 1)))] rfl ⟨(by rw[<- hV];rfl),trivial⟩ rfl ⟨⟨rfl,rfl⟩,rfl⟩
theorem xa{c:ao}(hR:WR c){set:Int}{rota:List (List Int)}(hl:rota.length<=100)(jm:∀ r∈rota,r.length<1000):∀ rows:List (List Int),wV c set rota rows
 | []=>Ec hl
 | _::rest=>Cu hR hl jm (xa hR hl jm rest)
def jc(rota:List (List Int)):Nat:=(rota.filter fun r=>decide (r.length=0)).length
theorem m5(x:List Int)(r:List (List Int)):jc (x::r)=(if x.length=0 then 1 else 0)+jc r:=by
 unfold jc;rw[List.filter_cons];by_cases h:x.length=0
 ·rw[if_pos (by simp[h]),if_pos h];simp;omega
 ·rw[if_neg (by simpa using h),if_neg h];omega
theorem u5{R:List Int}{f:Kg->ag->Option (List (List Int))×Kg}{n:Nat}(hf:∀ kg u l,(f kg u).1=some l->l.length=n):∀ (gs:List (List Int×ag)) (kg:Kg) (l:List (List Int)),(mO R f kg gs).1=some l->l.length=n+1
 | [],kg,l,h=>by simp[mO]at h
 | p::r,kg,l,h=>by
  rw[mO]at h;split at h
  ·split at h
   ·rename_i l2 EK
    cases h;simp[hf _ _ _ EK]
   ·exact u5 hf r _ l h
  ·exact u5 hf r kg l h
theorem vU{c:ao}{set:Int}:∀ (rows:List (List Int)) (row:Int) (t:ag) (kg:Kg) (l:List (List Int)),(cD c set rows row t kg).1=some l->l.length=rows.length
 | [],row,t,kg,l,h=>by cases h;rfl
 | R::rest,row,t,kg,l,h=>by
  rw[cD]at h;split at h
  ·cases h
  split at h
  ·rename_i l2 EK
   cases h;exact u5 (fun kg u l hl=>vU rest _ _ _ l hl) _ _ _ EK
  ·cases h
def rK(c:ao)(rota:List (List Int)):Option (List (List Int)):=(cD c (aB c) rota 0 .zero []).1
def fw(c:ao)(rota:List (List Int)):Int:=if b0 c rota=0 then (if (jc rota:Int)>12 then 7 else if (rK c rota).isSome then 0 else 9) else b0 c rota
def m6(c:ao)(rota:List (List Int)):List (List Int):=(rK c rota).getD []
theorem mu{c:ao}{rota:List (List Int)}(h:b0 c rota=0):∀ r∈rota,r.length<1000:=fun r hr=>by
 obtain⟨hR,hl,gS⟩:=eZ h;have hm:=hR.aL;rcases gM (gS r hr) with h1|h1
 ·rw[h1];simp
 ·omega
theorem MG(c:ao)(rota:List (List Int)):cy Try.prog 36 [c.d,aJ rota] (.tup [if fw c rota=0 then aJ (m6 c rota) else .nils,i64 (fw c rota)]):=by
 refine bx Try.func36 rfl (ft:=NY) 2 fun {σ} Y st=>?_;conv=>whnf
 refine aH (zE c rota) rfl rfl ?_;conv=>whnf
 by_cases h0:b0 c rota=0
 ·obtain⟨hR,hl,_⟩:=eZ h0
  have nX:=mu h0;rw[h0];simp only[if_true];conv=>whnf
  rw[List.length_map];refine bt (T:=tys) aI (by exact au mixed aI (by decide +kernel)) rota (fun i (n:Nat)=>⟨[(1,.d (aJ rota)),(4,.d .nils),(5,.d (i64 0)),(6,.d (bh c (aB c))),(8,.d (i64 n)),(22,.d (aJ rota)),(23,.d (i64 rota.length)),(24,.d (i64 i))],[],st⟩)
   (fun i r n=>n<=i/\jc rota=n+jc r) 0 aw ⟨by simp,by simp⟩ ?_ ?_
  ·rintro i x r n hx hi wb ⟨hn,he⟩
   conv=>whnf
   refine ak (fun _=>?_) (fun h=>absurd hi (by have:=of_decide_eq_false h;omega));conv=>whnf
   refine ai hx ?_;conv=>whnf
   refine ak (fun h1=>?_) (fun h1=>?_)
   ·have h1:x.length=0:=by
     have:((x.map fun n=>[i64 n]).length:Int)=0:=of_decide_eq_true h1;simpa using this
    conv=>whnf
    refine bg (((n+1:Nat):Int)) (by(try dsimp only);omega) (wrap_i64 (by(try dsimp only);omega)) ?_;conv=>whnf
    refine ah ?_;conv=>whnf
    refine⟨n+1,⟨by omega,?_⟩,aw⟩;rw[he,m5,if_pos h1];omega
   ·have h1:¬ x.length=0:=by
     have:¬ ((x.map fun n=>[i64 n]).length:Int)=0:=of_decide_eq_false h1;simpa using this
    conv=>whnf
    refine ah ?_;conv=>whnf
    refine⟨n,⟨by omega,?_⟩,aw⟩;rw[he,m5,if_neg h1];omega
  ·rintro n ⟨hn,he⟩
   have he:jc rota=n:=by simpa[jc]using he
   conv=>whnf
   refine ak (fun h=>absurd h (by simp)) (fun _=>?_);conv=>whnf
   refine ak (fun h1=>?_) (fun h1=>?_)
   ·have h1:(n:Int)>12:=of_decide_eq_true h1
    have hE:fw c rota=7:=by rw[fw,if_pos h0,if_pos (by rw[he];exact h1)]
    rw[hE];conv=>whnf
    exact ax
   have h1:¬ (n:Int)>12:=of_decide_eq_false h1;have hE:fw c rota=if (rK c rota).isSome then 0 else 9:=by rw[fw,if_pos h0,if_neg (by rw[he];exact h1)]
   have hI:zH Try.prog 83 [.d (bh c (aB c)),.d (om.d ⟨(0:Nat),.zero⟩),.d (aJ rota),.mp 1000000] [(1000000,.map (jV []))] (fun v h'=>v=yn rota.length (cD c (aB c) rota 0 .zero [])/\h'=qZ 0 (cD c (aB c) rota 0 .zero [])):=
    fun {σ}=>xa hR (by omega) nX rota 0 .zero [] (fJ.zero hR) (fun g v h=>by cases h) rfl (by simp)
   have hL:rK c rota=(cD c (aB c) rota 0 .zero []).1:=rfl;unfold m6;rw[hE];generalize cD c (aB c) rota 0 .zero []=r2 at hI hL;obtain⟨o,BO⟩:=r2;have hL:rK c rota=o:=hL;rw[hL]
   cases o with
   | none=>
    conv=>whnf
    refine cw hI [40] rfl ⟨_,_,rfl,rfl,rfl⟩ rfl ?_;conv=>whnf
    exact ax
   | some l=>
    conv=>whnf
    refine cw hI [40] rfl ⟨_,_,rfl,rfl,rfl⟩ rfl ?_;conv=>whnf
    have CT:l.length=rota.length:=vU rota 0 .zero [] l hL;refine ba 1 (ds:=[aJ l,i64 0]) ?_ ⟨⟨rfl,rfl⟩,rfl⟩;exact aV (bI (es:=l.map fun r=>[aj r]) rfl (by simp[CT])) rfl
 ·have hE:fw c rota=b0 c rota:=by rw[fw,if_neg h0]
  rw[hE];simp only[h0,if_false];conv=>whnf
  exact ax
theorem vc{c:ao}{set:Int}:∀ {l1 l2:List (List Int)} {t:ag} {i:Int},0<=i->(bP c set t (l1++l2) i).1.1 = -1->(bP c set t l1 i).1.1 = -1
 | [],l2,t,i,_,_=>rfl
 | r::l1,l2,t,i,hi,h=>by
  rw[List.cons_append,bP]at h;rw[bP];split
  ·rename_i h1
   rw[if_pos h1]at h;exact vc (by omega) h
  ·rename_i h1
   rw[if_neg h1]at h;exact h
def rW(c:ao)(rota:List (List Int))(from_:Int):ag:=(bP c (aB c) .zero (rota.take from_.toNat) 0).2
def ed(c:ao)(rota:List (List Int))(from_:Int):Int:=
 if b0 c rota=0 then (if ¬ (0<=from_/\from_<=rota.length)\/(rota.length:Int)-from_>12 then 7 else if (bP c (aB c) .zero rota 0).1.1≥0 then 9 else 0) else b0 c rota
def jl(c:ao)(t:ag)(n:Nat)(m:Int):Bool:=(cD c (cN c m) (List.replicate n []) 0 t []).1.isSome
def oE(c:ao)(rota:List (List Int))(from_:Int):List Int:=((List.range c.aL.length).filter fun(i:Nat)=>jl c (rW c rota from_) (rota.length-from_.toNat) i).map fun(i:Nat)=>(i:Int)
theorem py:∀ k:Nat,iq (List.replicate k [D.nils])=(List.replicate k ([]:List Int)).map fun r=>[aj r]
 | 0=>rfl
 | k+1=>by
  rw[List.replicate_succ,List.replicate_succ,iq,py k];rfl
theorem MI(c:ao)(rota:List (List Int))(from_:Int):cy Try.prog 38 [c.d,aJ rota,i64 from_] (.tup [if ed c rota from_=0 then yO (oE c rota from_) else .nils,i64 (ed c rota from_)]):=by
 refine bx Try.func38 rfl (ft:=(NZ.more 14 [105888])) 3 fun {σ} Y st=>?_;conv=>whnf
 refine aH (zE c rota) rfl rfl ?_;conv=>whnf
 by_cases h0:b0 c rota=0
 ·obtain⟨hR,hl,_⟩:=eZ h0
  have nX:=mu h0;have hm:=hR.aL;rw[h0];simp only[if_true];conv=>whnf
  rw[List.length_map];refine a8 (ds:=[i64 0,i64 rota.length,.vs [[i64 from_]]]) (mE 0 rota.length from_) rfl 1 rfl ?_;conv=>whnf
  refine ak (fun h1=>?_) (fun h1=>?_)
  ·have h1:¬ (0<=from_/\from_<=rota.length):=by
    intro h2;have:iN from_ 0 rota.length=true:=eS.2 h2;rw[this]at h1;cases h1
   have hE:ed c rota from_=7:=by rw[ed,if_pos h0,if_pos (.inl h1)]
   rw[hE];conv=>whnf
   exact ax
  have h1:0<=from_/\from_<=rota.length:=by
   have:iN from_ 0 rota.length=true:=by simpa using h1
   exact eS.1 this
  have FR:((rota.map fun r=>[aj r]).length:Int)=rota.length:=by simp
  conv=>whnf
  refine bg ((rota.length:Int)-from_) (by rw[FR]) (wrap_i64 (by omega)) ?_;conv=>whnf
  refine ak (fun h2=>?_) (fun h2=>?_)
  ·have h2:(rota.length:Int)-from_>12:=of_decide_eq_true h2
   have hE:ed c rota from_=7:=by rw[ed,if_pos h0,if_pos (.inr h2)]
   rw[hE];conv=>whnf
   exact ax
  have h2:¬ (rota.length:Int)-from_>12:=of_decide_eq_false h2;have hz:=TG.zero hR;have RD:=qK h0;conv=>whnf
  refine aH (ds:=[bh c (aB c),ag.zero.d,aJ rota]) (Hu c hR (aB c) .zero hz.slot hz.bd rota RD hl) rfl rfl ?_;conv=>whnf
  refine ak (fun h3=>?_) (fun h3=>?_)
  ·have h3:(bP c (aB c) .zero rota 0).1.1≥0:=of_decide_eq_true h3
   have hE:ed c rota from_=9:=by rw[ed,if_pos h0,if_neg (by omega),if_pos h3]
   rw[hE];conv=>whnf
   exact ax
  have h3:¬ (bP c (aB c) .zero rota 0).1.1≥0:=of_decide_eq_false h3;have hE:ed c rota from_=0:=by rw[ed,if_pos h0,if_neg (by omega),if_neg h3]
  rw[hE];have qc:(bP c (aB c) .zero rota 0).1.1 = -1:=by
   rcases s9 (c:=c) (set:=aB c) (rota:=rota) (t:=.zero) (i:=0) with h|h
   ·exact h
   ·omega
  have JR:(bP c (aB c) .zero (rota.take from_.toNat) 0).1.1 = -1:=vc (l2:=rota.drop from_.toNat) (Int.le_refl 0) (by rw[List.take_append_drop];exact qc);have hU:fJ c (rW c rota from_):=u9 hR (Int.le_refl 0) (fJ.zero hR) JR;conv=>whnf
  refine aR (by rw[FR];simp;omega) ?_;conv=>whnf
  refine aR (by cases rota<;>rfl) ?_;conv=>whnf
  have xW:(((rota.map fun r=>[aj r]).take from_.toNat).drop 0)=(rota.take from_.toNat).map fun r=>[aj r]:=by simp[List.map_take]
  rw[xW];refine aH (ds:=[bh c (aB c),ag.zero.d,aJ (rota.take from_.toNat)]) (Hu c hR (aB c) .zero hz.slot hz.bd (rota.take from_.toNat) (fun r hr=>RD r (List.mem_of_mem_take hr)) (by rw[List.length_take];omega)) rfl rfl ?_;conv=>whnf
  generalize hM:oE c rota from_=M;have Rj:(bP c (aB c) .zero (rota.take from_.toNat) 0).2=rW c rota from_:=rfl;have Rh:M=((List.range c.aL.length).filter fun(i:Nat)=>jl c (rW c rota from_) (rota.length-from_.toNat) i).map fun(i:Nat)=>(i:Int):=hM.symm;clear hM;generalize rW c rota from_=t at hU Rj Rh;rw[Rj,List.length_map]
  refine bt (T:=tys) aI (by exact au mixed aI (by decide +kernel)) (List.range c.aL.length) (fun j (acc:List Int)=>⟨[(1,.d (aJ rota)),(2,.d (i64 from_)),(3,.ptr 3 0),(6,match acc with
    | []=>.d .nils
    | x::r=>.sl 99 1 0 (x::r).length),(8,.d (bh c (aB c))),(16,.ptr 16 0),(68,.d (i64 c.aL.length)),(69,.d (i64 j))],match acc with
    | []=>[(3,.box (.dd c.cells)),(16,.box (.dd t.cells))]
    | x::r=>[(3,.box (.dd c.cells)),(16,.box (.dd t.cells)),(99,.arr 1 (.dd (aA (x::r))))],st⟩)
   (fun j r acc=>acc.length<=j/\M=acc++(r.filter fun(i:Nat)=>jl c t (rota.length-from_.toNat) i).map fun(i:Nat)=>(i:Int)) [] aw ⟨by simp,Rh⟩ ?_ ?_
  ·intro j x r acc hx hj wb hi
   obtain⟨sQ,he⟩:=hi;have FX:j=x:=by
    rw[List.getElem?_range (by simpa using hj)]at hx;exact Option.some.inj hx
   subst FX;have BE:j<c.aL.length:=by simpa using hj
   have mR:(1:Int)*2^min (j:Int).toNat IntKind.i64.bits=2^((j:Int).toNat):=by
    rw[show min (j:Int).toNat IntKind.i64.bits=j by show min j 64=j;omega,Int.one_mul];rfl
   have S0:(2:Int)^((j:Int).toNat)<=32/\0<=(2:Int)^((j:Int).toNat):=by
    have:j=0\/j=1\/j=2\/j=3\/j=4:=by omega
    rcases this with rfl|rfl|rfl|rfl|rfl<;>decide
   have mK:∀ b:Bool,jl c t (rota.length-from_.toNat) j=b->((j::r).filter fun(i:Nat)=>jl c t (rota.length-from_.toNat) i)=(if b then [j] else [])++r.filter fun(i:Nat)=>jl c t (rota.length-from_.toNat) i:=by
    intro b hb;rw[List.filter_cons,hb];cases b<;>rfl
   have hk:((rota.length:Int)-from_).toNat=rota.length-from_.toNat:=by omega
   cases acc with
   | nil=>
    conv=>whnf
    refine ak (fun _=>?_) (fun h=>absurd BE (by have:=of_decide_eq_false h;omega));conv=>whnf
    refine bg (2^((j:Int).toNat)) mR (wrap_i64 (by omega)) ?_;conv=>whnf
    refine bg ((rota.length:Int)-from_) (by rw[FR]) (wrap_i64 (by omega)) ?_;conv=>whnf
    refine aR (by rw[Bool.and_eq_true];exact⟨rfl,by simp;omega⟩) ?_;conv=>whnf
    refine aR (decide_eq_true (by dsimp only;omega)) ?_;conv=>whnf
    have hI:zH Try.prog 83 [.d (bh c (cN c j)),.d (om.d ⟨(0:Nat),t⟩),.d (aJ (List.replicate (rota.length-from_.toNat) [])),.mp 1000000] [(1000000,.map (jV []))] (fun v h'=>v=yn (List.replicate (rota.length-from_.toNat) ([]:List Int)).length (cD c (cN c j) (List.replicate (rota.length-from_.toNat) []) 0 t [])/\h'=qZ 0 (cD c (cN c j) (List.replicate (rota.length-from_.toNat) []) 0 t [])):=
     fun {σ}=>xa hR (by rw[List.length_replicate];omega) (fun r hr=>by rw[List.eq_of_mem_replicate hr];simp) (List.replicate (rota.length-from_.toNat) []) 0 t [] hU (fun g v h=>by cases h) rfl (by simp)
    have IJ:jl c t (rota.length-from_.toNat) j=(cD c (cN c j) (List.replicate (rota.length-from_.toNat) []) 0 t []).1.isSome:=rfl;refine oi 2 [81,90] ?_;refine lP (args':=[.d (bh c (cN c j)),.d (om.d ⟨(0:Nat),t⟩),.d (aJ (List.replicate (rota.length-from_.toNat) [])),.mp 91]) (fun yv L F w l h=>by
     obtain⟨x1,l1,rfl,h1,x2,l2,rfl,h2,x3,l3,rfl,h3,h4⟩:=h;refine⟨x1,_,rfl,h1,x2,_,rfl,h2,x3,_,rfl,?_,h4⟩;have h5:=bC.cL _ _ (Bm (d:=.vs (List.replicate (rota.length-from_.toNat) [D.nils])) h3 (n7 rfl (by rw[hk]) (by rw[hk];simp)));have h6:cL (.vs (List.replicate (rota.length-from_.toNat) [D.nils]))=aJ (List.replicate (rota.length-from_.toNat) []):=by
      show D.vs (iq _)=_;rw[py];rfl
     rw[h6]at h5;exact h5) ?_
    generalize cD c (cN c j) (List.replicate (rota.length-from_.toNat) []) 0 t []=r2 at hI IJ;obtain⟨o,BO⟩:=r2
    cases o with
    | none=>
     rw[mK false (by rw[IJ];rfl)]at he;conv=>whnf
     refine bY hI [91] rfl ⟨_,_,rfl,rfl,rfl⟩ rfl ?_;conv=>whnf
     refine ah ?_;conv=>whnf
     refine⟨[],⟨by simp,by simpa using he⟩,aw⟩
    | some l2=>
     rw[mK true (by rw[IJ];rfl)]at he;conv=>whnf
     refine bY hI [91] rfl ⟨_,_,rfl,rfl,rfl⟩ rfl ?_;conv=>whnf
     refine ar rfl ?_;conv=>whnf
     refine ah ?_;conv=>whnf
     refine⟨[(j:Int)],⟨by simp,by simpa using he⟩,aw⟩
   | cons a l=>
    conv=>whnf
    refine ak (fun _=>?_) (fun h=>absurd BE (by have:=of_decide_eq_false h;omega));conv=>whnf
    refine bg (2^((j:Int).toNat)) mR (wrap_i64 (by omega)) ?_;conv=>whnf
    refine bg ((rota.length:Int)-from_) (by rw[FR]) (wrap_i64 (by omega)) ?_;conv=>whnf
    refine aR (by rw[Bool.and_eq_true];exact⟨rfl,by simp;omega⟩) ?_;conv=>whnf
    refine aR (decide_eq_true (by dsimp only;omega)) ?_;conv=>whnf
    have hI:zH Try.prog 83 [.d (bh c (cN c j)),.d (om.d ⟨(0:Nat),t⟩),.d (aJ (List.replicate (rota.length-from_.toNat) [])),.mp 1000000] [(1000000,.map (jV []))] (fun v h'=>v=yn (List.replicate (rota.length-from_.toNat) ([]:List Int)).length (cD c (cN c j) (List.replicate (rota.length-from_.toNat) []) 0 t [])/\h'=qZ 0 (cD c (cN c j) (List.replicate (rota.length-from_.toNat) []) 0 t [])):=
     fun {σ}=>xa hR (by rw[List.length_replicate];omega) (fun r hr=>by rw[List.eq_of_mem_replicate hr];simp) (List.replicate (rota.length-from_.toNat) []) 0 t [] hU (fun g v h=>by cases h) rfl (by simp)
    have IJ:jl c t (rota.length-from_.toNat) j=(cD c (cN c j) (List.replicate (rota.length-from_.toNat) []) 0 t []).1.isSome:=rfl;refine oi 2 [81,90] ?_;refine lP (args':=[.d (bh c (cN c j)),.d (om.d ⟨(0:Nat),t⟩),.d (aJ (List.replicate (rota.length-from_.toNat) [])),.mp 91]) (fun yv L F w l h=>by
     obtain⟨x1,l1,rfl,h1,x2,l2,rfl,h2,x3,l3,rfl,h3,h4⟩:=h;refine⟨x1,_,rfl,h1,x2,_,rfl,h2,x3,_,rfl,?_,h4⟩;have h5:=bC.cL _ _ (Bm (d:=.vs (List.replicate (rota.length-from_.toNat) [D.nils])) h3 (n7 rfl (by rw[hk]) (by rw[hk];simp)));have h6:cL (.vs (List.replicate (rota.length-from_.toNat) [D.nils]))=aJ (List.replicate (rota.length-from_.toNat) []):=by
      show D.vs (iq _)=_;rw[py];rfl
     rw[h6]at h5;exact h5) ?_
    generalize cD c (cN c j) (List.replicate (rota.length-from_.toNat) []) 0 t []=r2 at hI IJ;obtain⟨o,BO⟩:=r2
    cases o with
    | none=>
     rw[mK false (by rw[IJ];rfl)]at he;conv=>whnf
     refine bY hI [91] rfl ⟨_,_,rfl,rfl,rfl⟩ rfl ?_;conv=>whnf
     refine ah ?_;conv=>whnf
     refine⟨a::l,⟨by simp at sQ ⊢;omega,by simpa using he⟩,aw⟩
    | some l2=>
     rw[mK true (by rw[IJ];rfl)]at he;conv=>whnf
     refine bY hI [91] rfl ⟨_,_,rfl,rfl,rfl⟩ rfl ?_;conv=>whnf
     refine ar rfl ?_;conv=>whnf
     refine ar (by simp[aC.len,aA]) ?_;conv=>whnf
     refine aR (decide_eq_true (by
      show((aA (a::l)).length+1)*8<=140737488355328;simp[aA]at sQ ⊢;omega)) ?_
     conv=>whnf
     refine ah ?_;conv=>whnf
     refine⟨a::l ++ [(j:Int)],⟨by simp at sQ ⊢;omega,by simpa using he⟩,Wk.sub ⟨rfl,rfl,rfl,?_,rfl,rfl,rfl,rfl,trivial⟩ ⟨rfl,rfl,?_,trivial⟩⟩
     ·show some (V.sl 99 1 0 ((aA (a::l)).length+1))=some (V.sl 99 1 0 (a::(l ++ [(j:Int)])).length)
      simp[aA]
     ·show some (Obj.arr 1 (aC.dd (aA (a::l) ++ [[i64 (j:Int)]])))=some (Obj.arr 1 (aC.dd (aA (a::(l ++ [(j:Int)])))))
      simp[aA]
  ·rintro acc ⟨_,he⟩
   have he:M=acc:=by simpa using he
   rw[he]
   cases acc with
   | nil=>
    conv=>whnf
    refine ak (fun h=>absurd h (by simp)) (fun _=>?_);conv=>whnf
    exact ax
   | cons a l=>
    conv=>whnf
    refine ak (fun h=>absurd h (by simp)) (fun _=>?_);conv=>whnf
    refine ba 1 (ds:=[aj (a::l),i64 0]) ?_ ⟨⟨rfl,rfl⟩,rfl⟩;exact aV (bI (es:=aA (a::l)) rfl (by simp[aA])) rfl
 ·have hE:ed c rota from_=b0 c rota:=by rw[ed,if_neg h0]
  rw[hE];simp only[h0,if_false];conv=>whnf
  exact ax
end Go.PX
