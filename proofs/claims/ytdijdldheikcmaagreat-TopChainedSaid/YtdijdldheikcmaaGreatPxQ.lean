import Derived.Test.YtdijdldheikcmaaGreatPxP
set_option linter.all false
set_option maxRecDepth 10000
namespace Go.PX
open Go.Proofs
theorem Pa(H:List (Nat->Bool))(s:Nat->Bool)(acc:List Int)(i:Nat)(hi:i<H.length)(hH:H.length<=8)(ha:acc.length<=8)(g:Nat->Bool)(hg:H[i]?=some g) :
  Cr Tryz.prog 134 [.d (i64 i),.ptr 1000000 0,.ptr 1000001 0,.ptr 1000002 0] [(1000000,.box (.vv [.sl 1000003 1 0 acc.length])),(1000001,.box (.dd [iD H])),(1000002,.box (.dd (cp s))),(1000003,.arr 1 (.dd (acc.map fun n=>[i64 n])))]
   fun v h'=>v = .d (.tup [])/\h' = [(1000000,.box (.vv [.sl 2000000 1 0 (acc.length+1)])),(1000001,.box (.dd [iD H])),(1000002,.box (.dd (cp g))),(2000000,.arr 1 (.dd ((acc ++ [(i:Int)]).map fun n=>[i64 n])))]:=by
 intro σ Y st;refine ek mixed ao Tryz.func134 rfl (ft:=IF) (args:=[.d (i64 i),.ptr 1000000 0,.ptr 1000001 0,.ptr 1000002 0]) (show uQ IF Tryz.f134 4=true from by decide +kernel) ?_;conv=>whnf
 refine aL rfl ?_;conv=>whnf
 refine aL (by simp[aI.len]) ?_;conv=>whnf
 refine bo (decide_eq_true (by
  show((acc.map fun n=>[i64 n]).length+1)*8<=140737488355328;rw[List.length_map];omega)) ?_
 conv=>whnf
 refine ax hg ?_;conv=>whnf
 refine bY [8] [] [(1000000,.box (.vv [.sl 2000000 1 0 (acc.length+1)])),(1000001,.box (.dd [iD H])),(1000002,.box (.dd (cp g))),(2000000,.arr 1 (.dd ((acc ++ [(i:Int)]).map fun n=>[i64 n])))] rfl ⟨?_,rfl,rfl,?_,trivial⟩ rfl ⟨⟨rfl,rfl⟩,rfl⟩
 ·exact congrArg (fun z:Nat=>some (Obj.box (.vv [V.sl 8 1 0 z]))) (by simp[aI.len])
 ·exact congrArg (fun z=>some (Obj.arr 1 (.dd z))) (by simp)
def nU:(Nat->Bool)->Nat->List Int->List (Nat->Bool)->List Int×Bool
 | _,_,acc,[]=>(acc,true)
 | s,i,acc,g::r=>if fM g then (acc,false) else if fM (iT s g) then nU g (i+1) (acc ++ [(i:Int)]) r else nU (iT s g) (i+1) acc r
set_option maxHeartbeats 2000000 in
theorem T9(m:bQ)(s:Nat->Bool)(H:List (Nat->Bool))(hH:H.length<=8):aW Tryz.prog 89 [.agg (m.cells++cp s),iD H] (.tup [bx (nU s 0 [] H).1,.bool (nU s 0 [] H).2]):=by
 refine aA Tryz.func89 rfl (ft:=Sl) 2 fun {σ} Y st=>?_;conv=>whnf
 refine aZ (T:=tys) ao (by exact ah mixed ao (by decide +kernel)) H (fun i (z:(Nat->Bool)×List Int)=>⟨[(4,.ptr 4 0),(6,.ptr 6 0),(7,.clo 134 [.ptr 4 0,.ptr 3 0,.ptr 6 0]),(13,.d (iD H)),(14,.d (i64 (H.map cp).length)),(15,.d (i64 i))],[(3,.box (.dd [iD H])),(4,.box (.vv [.sl 900000 1 0 z.2.length])),(6,.box (.dd (cp z.1))),(900000,.arr 1 (.dd (z.2.map fun n=>[i64 n])))],st⟩) (fun i r z=>z.2.length<=i/\nU s 0 [] H=nU z.1 i z.2 r) (s,[]) ((Wk.pA 4 900000 1 rfl rfl rfl rfl).trans av) ⟨by simp,rfl⟩ ?_ ?_
 ·rintro i g r ⟨f,acc⟩ PG hi hr ⟨BQ,he⟩
  simp only at BQ he;rw[nU]at he;conv=>whnf
  refine ai (fun _=>?_) (fun h=>absurd hi (by simpa using h));conv=>whnf
  refine ax PG ?_;conv=>whnf
  rw[empty_eq]
  cases hE:fM g with
  | true=>
   rw[hE,if_pos rfl]at he;rw[he];conv=>whnf
   refine al 1 (ds:=[bx acc,.bool false]) ?_ ⟨⟨rfl,rfl⟩,rfl⟩;exact aF (bR rfl (by simp)) rfl
  | false=>
   rw[hE,if_neg (by decide)]at he;conv=>whnf
   refine ae (ds:=[ln f,ln g]) (Ie f g) rfl rfl ?_;conv=>whnf
   rw[empty_eq]
   cases Ur:fM (iT f g) with
   | true=>
    rw[Ur,if_pos rfl]at he;conv=>whnf
    refine jn (Pa H (iT f g) acc i hi hH (by omega) g PG) [4,3,6,900000] rfl ⟨_,_,rfl,rfl,_,_,rfl,rfl,_,_,rfl,rfl,_,_,rfl,rfl,rfl⟩ rfl ?_;conv=>whnf
    refine ab ?_;conv=>whnf
    exact⟨(g,acc ++ [(i:Int)]),⟨by simp;omega,he⟩,(Wk.move 102048 900000 rfl rfl).trans (Wk.sub ⟨rfl,rfl,rfl,rfl,rfl,rfl,trivial⟩ ⟨rfl,congrArg (fun z:Nat=>some (Obj.box (.vv [V.sl 900000 1 0 z]))) (by simp),rfl,rfl,trivial⟩)⟩
   | false=>
    rw[Ur,if_neg (by decide)]at he;conv=>whnf
    refine ab ?_;conv=>whnf
    exact⟨(iT f g,acc),⟨by simp only;omega,he⟩,av⟩
 ·rintro ⟨f,acc⟩ ⟨BQ,he⟩
  rw[nU]at he;rw[he];conv=>whnf
  refine ai (fun h=>absurd h (by simp)) (fun _=>?_);conv=>whnf
  refine al 1 (ds:=[bx acc,.bool true]) ?_ ⟨⟨rfl,rfl⟩,rfl⟩;exact aF (bR rfl (by simp)) rfl
def tc(m:bQ)(l:List bO):List Int×Bool:=nU (dW m) 0 [] (dh m l)
theorem T4(m:bQ)(l:List bO)(h:(ix m l).2=0):aW Tryz.prog 44 [m.d,bG l] (.tup [bx (if (tc m l).2 then (tc m l).1 else []),i64 (if (tc m l).2 then 0 else 9)]):=by
 refine aA Tryz.func44 rfl (ft:=RE) 2 fun {σ} Y st=>?_;conv=>whnf
 have hR:=ij h;have Gk:=hR.len;refine ae (ds:=[m.d,bG l]) (FV m l h) rfl rfl ?_;conv=>whnf
 have DF:(dh m l).length<=8:=by simp[dh];omega
 unfold tc;generalize dh m l=H at DF ⊢;refine ae (ds:=[.agg (m.cells++cp (dW m)),iD H]) (T9 m (dW m) H DF) rfl rfl ?_;generalize nU (dW m) 0 [] H=D;conv=>whnf
 cases hD:D.2 with
 | true=>
  conv=>whnf
  exact af
 | false=>
  conv=>whnf
  exact lE 0 rfl rfl ⟨⟨rfl,rfl⟩,rfl⟩
theorem Jc(n:Int):aW Tryz.prog 152 [i64 n] (.bool false):=by
 refine aA Tryz.func152 rfl (ft:=Nq) 1 fun {σ} Y st=>?_;conv=>whnf
 refine al 0 rfl ⟨⟨?_,rfl⟩,rfl⟩;show V.d (D.bool (!decide (n=n)))=_;rw[decide_eq_true rfl];rfl
def CE(a b:Int):Int:=if a<b then -1 else if b<a then 1 else 0
theorem Pb(a b:Int):aW Tryz.prog 137 [i64 a,i64 b] (i64 (CE a b)):=by
 refine aA Tryz.func137 rfl (ft:=Nb) 2 fun {σ} Y st=>?_;conv=>whnf
 refine ae (Jc a) rfl rfl ?_;conv=>whnf
 refine ae (Jc b) rfl rfl ?_;conv=>whnf
 unfold CE;refine ai (fun h=>?_) (fun h=>?_)
 ·rw[if_pos (of_decide_eq_true h)]
  conv=>whnf
  exact af
 ·rw[if_neg (of_decide_eq_false h)]
  conv=>whnf
  refine ai (fun h=>?_) (fun h=>?_)
  ·rw[if_pos (of_decide_eq_true h)]
   conv=>whnf
   exact af
  ·rw[if_neg (of_decide_eq_false h)]
   conv=>whnf
   exact af
def r7:List Int->List Int->Int
 | [],[]=>0
 | [],_::_=>-1
 | _::_,[]=>1
 | a::r,b::s=>if CE a b=0 then r7 r s else CE a b
theorem Ua(p q:List Int)(hp:p.length<=100)(hq:q.length<=100):aW Tryz.prog 91 [bx p,bx q] (i64 (r7 p q)):=by
 refine aA Tryz.func91 rfl (ft:=Sn) 2 fun {σ} Y st=>?_;conv=>whnf
 refine aZ (T:=tys) ao (by exact ah mixed ao (by decide +kernel)) p (fun i (_:Unit)=>⟨[(0,.d (bx p)),(1,.d (bx q)),(9,.d (bx p)),(10,.d (i64 (p.map fun n=>[i64 n]).length)),(11,.d (i64 i))],[],st⟩) (fun i r _=>i<=q.length/\r7 p q=r7 r (q.drop i)) () av ⟨Nat.zero_le _,rfl⟩ ?_ ?_
 ·rintro i a r _ NR hi hr ⟨V7,he⟩
  conv=>whnf
  refine ai (fun _=>?_) (fun h=>absurd hi (by simpa using h));conv=>whnf
  refine ax (f:=fun n=>[i64 n]) NR ?_;conv=>whnf
  refine ai (fun h1=>?_) (fun h1=>?_)
  ·have h1:q.length<=i:=by have:=of_decide_eq_true h1;simp at this;omega
   rw[List.drop_of_length_le h1,r7]at he;rw[he];conv=>whnf
   exact af
  ·have h1:i<q.length:=by have:=of_decide_eq_false h1;simp at this;omega
   obtain⟨b,hb⟩:∃ b,q[i]?=some b:=⟨q[i],by simp⟩;have hd:q.drop i=b::q.drop (i+1):=by
    rw[List.drop_eq_getElem_cons h1];rw[List.getElem?_eq_getElem h1]at hb;rw[Option.some.inj hb]
   rw[hd,r7]at he;conv=>whnf
   refine ax (f:=fun n=>[i64 n]) hb ?_;conv=>whnf
   refine ae (Pb a b) rfl rfl ?_;conv=>whnf
   refine ai (fun h2=>?_) (fun h2=>?_)
   ·have h2:¬ CE a b=0:=by simpa using h2
    rw[if_neg h2]at he;rw[he];conv=>whnf
    exact af
   ·have h2:CE a b=0:=by simpa using h2
    rw[if_pos h2]at he;conv=>whnf
    refine ab ?_;conv=>whnf
    exact⟨(),⟨h1,he⟩,av⟩
 ·rintro _ ⟨V7,he⟩
  conv=>whnf
  refine ai (fun h=>absurd h (by simp)) (fun _=>?_);conv=>whnf
  refine ai (fun h1=>?_) (fun h1=>?_)
  ·have h1:p.length<q.length:=by have:=of_decide_eq_true h1;simp at this;omega
   obtain⟨b,t,hd⟩:∃ b t,q.drop p.length=b::t:=⟨_,_,List.drop_eq_getElem_cons h1⟩;rw[hd,r7]at he;rw[he];conv=>whnf
   exact af
  ·have h1:¬ p.length<q.length:=by have:=of_decide_eq_false h1;simp at this;omega
   rw[List.drop_of_length_le (by omega),r7]at he;rw[he];conv=>whnf
   exact af
def Jo(out:Int)(i:Nat):Bool:=decide (im .and .i64 (out.fdiv (2^min ((i:Nat):Int).toNat IntKind.i64.bits)) 1=1)
def Jd(found:Bool)(bl:Nat)(out:Int):Nat->List Int->(Nat->Bool)->List (Nat->Bool)->Option (List Int×(Nat->Bool))
 | _,sm,s,[]=>some (sm,s)
 | i,sm,s,g::r=>if Jo out i then (if found&&decide (bl<(sm ++ [(i:Int)]).length) then none else Jd found bl out (i+1) (sm ++ [(i:Int)]) s r)
  else (if found&&decide (bl<sm.length) then none else Jd found bl out (i+1) sm (iT s g) r)
def P2(H:List (Nat->Bool))(all:Nat->Bool)(z:Bool×List Int)(out:Nat):Bool×List Int:=match Jd z.1 z.2.length (out:Int) 0 [] all H with
 | none=>z
 | some q=>if fM q.2 then z else if z.1 then (if q.1.length<z.2.length then (true,q.1) else if r7 q.1 z.2<0 then (true,q.1) else z) else (true,q.1)
def Bo(m:bQ)(l:List bO):List Int:=((List.range (2^l.length)).foldl (P2 (dh m l) (dW m)) (false,[])).2
set_option maxHeartbeats 4000000 in
theorem T6(m:bQ)(l:List bO)(h:(ix m l).2=0):aW Tryz.prog 47 [m.d,bG l] (.tup [bx (Bo m l),i64 0]):=by
 refine aA Tryz.func47 rfl (ft:=RH) 2 fun {σ} Y st=>?_;conv=>whnf
 have hR:=ij h;have Gk:=hR.len;refine ae (ds:=[m.d,bG l]) (FV m l h) rfl rfl ?_;conv=>whnf
 have DF:(dh m l).length=l.length:=by simp[dh]
 unfold Bo;generalize dh m l=H at DF ⊢;generalize hA:dW m=A;have Wt:2^l.length<=256:=Nat.pow_le_pow_right (by decide) Gk;obtain⟨N,hN⟩:∃ N,N=2^l.length:=⟨_,rfl⟩;rw[<- hN]at Wt ⊢;refine aK (N:Int) ?_ (wrap_i64 (by omega)) ?_
 ·rw[List.length_map,Int.one_mul,show min ((l.length:Nat):Int).toNat IntKind.i64.bits=l.length from by show min l.length 64=_;omega,hN];simp
 conv=>whnf
 generalize hW:(List.range N).foldl (P2 H A) (false,[])=W;refine aZ (T:=tys) ao (by exact ah mixed ao (by decide +kernel)) (List.range N) (fun i (z:Bool×List Int)=>⟨[(4,.sl 900000 1 0 z.2.length),(6,.ptr 6 0),(7,.d (iD H)),(8,.d (.bool z.1)),(26,.d (i64 N)),(27,.d (i64 i))],[(6,.box (.dd (m.cells++cp A))),(900000,.arr 1 (.dd (z.2.map fun n=>[i64 n])))],st⟩) (fun i r z=>z.2.length<=8/\W=r.foldl (P2 H A) z) (false,[]) ((Wk.born 4 900000 1 rfl rfl rfl).trans av) ⟨by simp,hW.symm⟩ ?_ ?_
 ·rintro i q r ⟨found,gR⟩ Kv hi hr ⟨Lm,he⟩
  simp only at Lm;have hi:i<N:=by simpa using hi
  have hq:q=i:=by
   rw[List.getElem?_range hi]at Kv;cases Kv;rfl
  subst hq;rw[List.foldl_cons]at he
  have sB:P2 H A (found,gR) q=(match Jd found gR.length (q:Int) 0 [] A H with
   | none=>(found,gR)
   | some p=>if fM p.2 then (found,gR) else if found then (if p.1.length<gR.length then (true,p.1) else if r7 p.1 gR<0 then (true,p.1) else (found,gR)) else (true,p.1)):=rfl
  conv=>whnf
  refine ai (fun _=>?_) (fun h=>absurd h (by simp;omega));conv=>whnf
  refine aZ (T:=tys) ao (by exact ah mixed ao (by decide +kernel)) H (fun i (z:List Int×(Nat->Bool))=>⟨[(4,.sl 900000 1 0 gR.length),(6,.ptr 6 0),(7,.d (iD H)),(8,.d (.bool found)),(9,.d (i64 q)),(10,.sl 47 1 0 z.1.length),(11,.ptr 11 0),(26,.d (i64 N)),(27,.d (i64 q)),(32,.d (iD H)),(33,.d (i64 (H.map cp).length)),(34,.d (i64 i))],[(11,.box (.dd (cp z.2))),(6,.box (.dd (m.cells++cp A))),(900000,.arr 1 (.dd (gR.map fun n=>[i64 n]))),(47,.arr 1 (.dd (z.1.map fun n=>[i64 n])))],st⟩)
   (fun i r z=>z.1.length<=i/\Jd found gR.length (q:Int) 0 [] A H=Jd found gR.length (q:Int) i z.1 z.2 r) ([],A) ((Wk.born 10 47 1 rfl rfl rfl).trans av) ⟨by simp,rfl⟩ ?_ ?_
  ·rintro i g rr ⟨sm,s⟩ PG DG BV ⟨DM,hk⟩
   simp only at DM;rw[Jd]at hk;simp only at hk;conv=>whnf
   refine ai (fun _=>?_) (fun h=>absurd DG (by simpa using h));conv=>whnf
   refine ax PG ?_;conv=>whnf
   refine ai (fun h1=>?_) (fun h1=>?_)
   ·have h1:Jo q i=true:=h1
    rw[if_pos h1]at hk;conv=>whnf
    refine aL rfl ?_;conv=>whnf
    refine aL (by simp[aI.len]) ?_;conv=>whnf
    refine bo (decide_eq_true (by
     show((sm.map fun n=>[i64 n]).length+1)*8<=140737488355328;rw[List.length_map];omega)) ?_
    conv=>whnf
    cases found with
    | false=>
     rw[if_neg (by simp)]at hk;conv=>whnf
     refine ab ?_;conv=>whnf
     exact⟨(sm ++ [(i:Int)],s),⟨by simp;omega,hk⟩,Wk.sub ⟨rfl,rfl,rfl,rfl,rfl,congrArg (fun z:Nat=>some (V.sl 47 1 0 z)) (by simp[aI.len]),rfl,rfl,rfl,rfl,rfl,rfl,trivial⟩ ⟨rfl,rfl,rfl,congrArg (fun z=>some (Obj.arr 1 (.dd z))) (by simp),trivial⟩⟩
    | true=>
     conv=>whnf
     refine ai (fun h2=>?_) (fun h2=>?_)
     ·have h2:gR.length<(sm ++ [(i:Int)]).length:=by have:=of_decide_eq_true h2;simp[aI.len]at this ⊢;omega
      rw[if_pos (by simpa using h2)]at hk;rw[hk]at sB;rw[sB]at he;conv=>whnf
      refine ab ?_;conv=>whnf
      exact⟨(true,gR),⟨Lm,he⟩,av⟩
     ·have h2:¬ gR.length<(sm ++ [(i:Int)]).length:=by have:=of_decide_eq_false h2;simp[aI.len]at this ⊢;omega
      rw[if_neg (by simpa using h2)]at hk;conv=>whnf
      refine ab ?_;conv=>whnf
      exact⟨(sm ++ [(i:Int)],s),⟨by simp;omega,hk⟩,Wk.sub ⟨rfl,rfl,rfl,rfl,rfl,congrArg (fun z:Nat=>some (V.sl 47 1 0 z)) (by simp[aI.len]),rfl,rfl,rfl,rfl,rfl,rfl,trivial⟩ ⟨rfl,rfl,rfl,congrArg (fun z=>some (Obj.arr 1 (.dd z))) (by simp),trivial⟩⟩
   ·have h1:Jo q i=false:=h1
    rw[if_neg (by rw[h1];decide)]at hk;conv=>whnf
    refine ae (ds:=[ln s,ln g]) (Ie s g) rfl rfl ?_;conv=>whnf
    cases found with
    | false=>
     rw[if_neg (by simp)]at hk;conv=>whnf
     refine ab ?_;conv=>whnf
     exact⟨(sm,iT s g),⟨by simp only;omega,hk⟩,av⟩
    | true=>
     conv=>whnf
     refine ai (fun h2=>?_) (fun h2=>?_)
     ·have h2:gR.length<sm.length:=by have:=of_decide_eq_true h2;simp[aI.len]at this ⊢;omega
      rw[if_pos (by simpa using h2)]at hk;rw[hk]at sB;rw[sB]at he;conv=>whnf
      refine ab ?_;conv=>whnf
      exact⟨(true,gR),⟨Lm,he⟩,av⟩
     ·have h2:¬ gR.length<sm.length:=by have:=of_decide_eq_false h2;simp[aI.len]at this ⊢;omega
      rw[if_neg (by simpa using h2)]at hk;conv=>whnf
      refine ab ?_;conv=>whnf
      exact⟨(sm,iT s g),⟨by simp;omega,hk⟩,av⟩
  ·rintro ⟨sm,s⟩ ⟨DM,hk⟩
   rw[Jd]at hk;conv=>whnf
   refine ai (fun h=>absurd h (by simp)) (fun _=>?_);conv=>whnf
   rw[empty_eq];rw[hk]at sB;simp only at sB DM
   cases hE:fM s with
   | true=>
    rw[hE,if_pos rfl]at sB;rw[sB]at he;conv=>whnf
    refine ab ?_;conv=>whnf
    exact⟨(found,gR),⟨Lm,he⟩,av⟩
   | false=>
    rw[hE,if_neg (by decide)]at sB;conv=>whnf
    cases found with
    | false=>
     rw[if_neg (by decide)]at sB;rw[sB]at he;conv=>whnf
     refine ab ?_;conv=>whnf
     exact⟨(true,sm),⟨by simp only;omega,he⟩,(Wk.move 47 900000 rfl rfl).trans av⟩
    | true=>
     rw[if_pos rfl]at sB;conv=>whnf
     by_cases h3:sm.length<gR.length
     ·rw[if_pos h3]at sB
      rw[sB]at he;rw[show decide (((sm.length:Nat):Int)<((gR.length:Nat):Int))=true from decide_eq_true (by omega)];conv=>whnf
      refine ab ?_;conv=>whnf
      exact⟨(true,sm),⟨by simp only;omega,he⟩,(Wk.move 47 900000 rfl rfl).trans av⟩
     ·rw[if_neg h3]at sB
      rw[show decide (((sm.length:Nat):Int)<((gR.length:Nat):Int))=false from decide_eq_false (by omega)];conv=>whnf
      refine ag (ds:=[bx sm,bx gR]) (Ua sm gR (by omega) (by omega)) rfl 1 (aF (bR rfl (by simp)) (aF (bR rfl (by simp)) rfl)) ?_;conv=>whnf
      refine ai (fun h4=>?_) (fun h4=>?_)
      ·have h4:r7 sm gR<0:=of_decide_eq_true h4
       rw[if_pos h4]at sB;rw[sB]at he;conv=>whnf
       refine ab ?_;conv=>whnf
       exact⟨(true,sm),⟨by simp only;omega,he⟩,(Wk.move 47 900000 rfl rfl).trans av⟩
      ·have h4:¬ r7 sm gR<0:=of_decide_eq_false h4
       rw[if_neg h4]at sB;rw[sB]at he;conv=>whnf
       refine ab ?_;conv=>whnf
       exact⟨(true,gR),⟨Lm,he⟩,av⟩
 ·rintro ⟨found,gR⟩ ⟨Lm,he⟩
  rw[List.foldl_nil]at he;rw[he];conv=>whnf
  refine ai (fun h=>absurd h (by simp)) (fun _=>?_);conv=>whnf
  refine al 1 (ds:=[bx gR,i64 0]) ?_ ⟨⟨rfl,rfl⟩,rfl⟩;exact aF (bR rfl (by simp)) rfl
deriving instance DecidableEq for Pt
theorem zW(x y:Int):aW Tryz.prog 43 [i64 x,i64 y] (Pt.d ⟨x,y⟩):=by
 refine aA Tryz.func43 rfl (ft:=RD) 2 fun {σ} Y st=>?_;conv=>whnf
 exact af
def cu:bQ:=⟨⟨[],[⟨⟨#[107,110,111,108,108]⟩,[⟨100,0⟩,⟨120,0⟩,⟨120,20⟩,⟨100,20⟩],⟨⟨0,0⟩,⟨-5,5⟩⟩⟩]⟩,⟨⟨0,4⟩,⟨0,0⟩⟩,⟨95,100⟩,150⟩
def cQ:bO:=⟨0,8,1,⟨⟨100,101⟩,⟨0,0⟩⟩⟩
def jE:bO:=⟨60,24,1,⟨⟨-98,-97⟩,⟨0,0⟩⟩⟩
def lookW:bO:=⟨120,8,1,⟨⟨104,105⟩,⟨0,0⟩⟩⟩
theorem Ia:aW Tryz.prog 39 [] cQ.d:=by
 refine aA Tryz.func39 rfl (ft:=Rz) 0 fun {σ} Y st=>?_;conv=>whnf
 repeat' (first
  | (refine ae (eL _ _) rfl rfl ?_;conv=>whnf)
  | (refine ag (eL _ _) rfl 1 rfl ?_;conv=>whnf)
  | (refine aj (eL _ _) rfl rfl ?_;conv=>whnf)
  | (refine aq (eL _ _) rfl 1 rfl ?_;conv=>whnf)
  | (refine ab ?_;conv=>whnf)
  | (refine ax (by assumption) ?_;conv=>whnf)
  | (refine aL (by first|rfl|assumption|(simp[aI.len];done)|(simp[aI.len];omega)) ?_;conv=>whnf)
  | (refine bo (by first|(exact decide_eq_true (by(try simp only[List.length_map]);omega))|(simp[aI.len,aI.cons,V.cells,aI.a5,cw];done)|(simp[aI.len,aI.cons,V.cells,aI.a5,cw];omega)) ?_;conv=>whnf)
  | fail)
 exact af
theorem Ib:aW Tryz.prog 40 [] jE.d:=by
 refine aA Tryz.func40 rfl (ft:=RA) 0 fun {σ} Y st=>?_;conv=>whnf
 repeat' (first
  | (refine ae (eL _ _) rfl rfl ?_;conv=>whnf)
  | (refine ag (eL _ _) rfl 1 rfl ?_;conv=>whnf)
  | (refine aj (eL _ _) rfl rfl ?_;conv=>whnf)
  | (refine aq (eL _ _) rfl 1 rfl ?_;conv=>whnf)
  | (refine ab ?_;conv=>whnf)
  | (refine ax (by assumption) ?_;conv=>whnf)
  | (refine aL (by first|rfl|assumption|(simp[aI.len];done)|(simp[aI.len];omega)) ?_;conv=>whnf)
  | (refine bo (by first|(exact decide_eq_true (by(try simp only[List.length_map]);omega))|(simp[aI.len,aI.cons,V.cells,aI.a5,cw];done)|(simp[aI.len,aI.cons,V.cells,aI.a5,cw];omega)) ?_;conv=>whnf)
  | fail)
 exact af
theorem Ic:aW Tryz.prog 41 [] lookW.d:=by
 refine aA Tryz.func41 rfl (ft:=RB) 0 fun {σ} Y st=>?_;conv=>whnf
 repeat' (first
  | (refine ae (eL _ _) rfl rfl ?_;conv=>whnf)
  | (refine ag (eL _ _) rfl 1 rfl ?_;conv=>whnf)
  | (refine aj (eL _ _) rfl rfl ?_;conv=>whnf)
  | (refine aq (eL _ _) rfl 1 rfl ?_;conv=>whnf)
  | (refine ab ?_;conv=>whnf)
  | (refine ax (by assumption) ?_;conv=>whnf)
  | (refine aL (by first|rfl|assumption|(simp[aI.len];done)|(simp[aI.len];omega)) ?_;conv=>whnf)
  | (refine bo (by first|(exact decide_eq_true (by(try simp only[List.length_map]);omega))|(simp[aI.len,aI.cons,V.cells,aI.a5,cw];done)|(simp[aI.len,aI.cons,V.cells,aI.a5,cw];omega)) ?_;conv=>whnf)
  | fail)
 exact af
theorem H9(a b c:bO):aW Tryz.prog 38 [a.d,b.d,c.d] (bG [a,b,c]):=by
 refine aA Tryz.func38 rfl (ft:=Ry) 3 fun {σ} Y st=>?_;conv=>whnf
 exact al 1 rfl ⟨⟨rfl,rfl⟩,rfl⟩
theorem H8:aW Tryz.prog 37 [] cu.d:=by
 refine aA Tryz.func37 rfl (ft:=Rx) 0 fun {σ} Y st=>?_;conv=>whnf
 repeat' (first
  | (refine ae (zW _ _) rfl rfl ?_;conv=>whnf)
  | (refine ag (zW _ _) rfl 1 rfl ?_;conv=>whnf)
  | (refine aj (zW _ _) rfl rfl ?_;conv=>whnf)
  | (refine aq (zW _ _) rfl 1 rfl ?_;conv=>whnf)
  | (refine ae (eL _ _) rfl rfl ?_;conv=>whnf)
  | (refine ag (eL _ _) rfl 1 rfl ?_;conv=>whnf)
  | (refine aj (eL _ _) rfl rfl ?_;conv=>whnf)
  | (refine aq (eL _ _) rfl 1 rfl ?_;conv=>whnf)
  | (refine ab ?_;conv=>whnf)
  | (refine ax (by assumption) ?_;conv=>whnf)
  | (refine aL (by first|rfl|assumption|(simp[aI.len];done)|(simp[aI.len];omega)) ?_;conv=>whnf)
  | (refine bo (by first|(exact decide_eq_true (by(try simp only[List.length_map]);omega))|(simp[aI.len,aI.cons,V.cells,aI.a5,cw];done)|(simp[aI.len,aI.cons,V.cells,aI.a5,cw];omega)) ?_;conv=>whnf)
  | fail)
 exact lE 3 rfl rfl ⟨⟨rfl,rfl⟩,rfl⟩
theorem T7(a b:List Pt)(ha:a.length<1000000):aW Tryz.prog 48 [e8 a,e8 b] (.bool (decide (a=b))):=by
 refine aA Tryz.func48 rfl (ft:=RI) 2 fun {σ} Y st=>?_;conv=>whnf
 refine ai (fun h0=>?_) (fun h0=>?_)
 ·have h0:a.length≠b.length:=by
   intro e;simp[e]at h0
  conv=>whnf
  rw[decide_eq_false (by rintro rfl;exact h0 rfl)];exact af
 ·have h0:a.length=b.length:=by
   have:=h0;simp at this;omega
  conv=>whnf
  refine bV (T:=tys) ao (by exact ah mixed ao (by decide +kernel)) (α:=Nat) (fun i=>⟨[(0,.d (e8 a)),(1,.d (e8 b)),(5,.d (i64 i))],[],st⟩) (fun i=>i<=a.length/\a.take i=b.take i) (fun i=>a.length-i) 0
   av (by simp) ?_
  rintro i ⟨hi,he⟩;conv=>whnf
  refine ai (fun hc=>?_) (fun hc=>?_)
  ·have hc:i<a.length:=by simpa using hc
   have qP:i<b.length:=by omega
   conv=>whnf
   refine bZ a[i].cells (by simp[hc]) ?_;conv=>whnf
   refine bZ b[i].cells (by simp[qP]) ?_;conv=>whnf
   refine ai (fun h1=>?_) (fun h1=>?_)
   ·conv=>whnf
    have h1:a[i]≠b[i]:=by
     intro e;rw[e]at h1;simp at h1
    rw[decide_eq_false (by rintro rfl;exact h1 rfl)];exact af
   ·have h1:a[i]=b[i]:=by
     cases hx:a[i]with
     | mk x y=>
      cases hy:b[i]with
      | mk u v=>
       rw[hx,hy]at h1;simpa using h1
    refine ab ?_;conv=>whnf
    exact⟨i+1,by omega,⟨hc,by rw[List.take_succ_eq_append_getElem hc,List.take_succ_eq_append_getElem qP,he,h1]⟩,Wk.sub ⟨rfl,rfl,rfl,trivial⟩ trivial⟩
  ·have hc:¬ i<a.length:=by simpa using hc
   conv=>whnf
   rw[List.take_of_length_le (by omega),List.take_of_length_le (by omega)]at he;rw[decide_eq_true he];exact af
theorem n1:(ix cu [cQ,jE,lookW]).2=0:=by decide +kernel
theorem n2:(ix cu [cQ,jE]).2=0:=by decide +kernel
theorem n3:(ix cu [cQ,lookW]).2=0:=by decide +kernel
theorem n4:(ix cu [cQ]).2=0:=by decide +kernel
theorem n5:(ix cu []).2=0:=by decide +kernel
theorem n6:qa cu cQ ⟨3,0⟩ ⟨100,0⟩=true/\oe cu cQ ⟨3,0⟩ ⟨100,0⟩=0:=by decide +kernel
theorem n7:qa cu cQ ⟨3,0⟩ ⟨98,0⟩=false/\oe cu cQ ⟨3,0⟩ ⟨98,0⟩=0:=by decide +kernel
theorem n8:fB cu [cQ,jE] = [⟨0,0⟩,⟨1,0⟩,⟨2,0⟩,⟨3,0⟩]:=by decide +kernel
theorem n9:kR (dW cu) 0 (dh cu [cQ,jE,lookW])=(2,0):=by decide +kernel
theorem WT:tc cu [cQ,jE,lookW]=([2],true):=by decide +kernel
theorem U1:m8 cu [] cQ = [⟨100,0⟩,⟨101,0⟩]/\uo cu []=0:=by decide +kernel
theorem WU:yu cu [] cQ=(⟨100,0⟩,0,0):=by decide +kernel
theorem WV:Bo cu [cQ,jE,lookW] = [1]:=by decide +kernel
theorem WW:(kR (dW cu) 0 (dh cu [cQ,lookW])).2=4:=by decide +kernel
theorem b1:aW Tryz.prog 42 [cu.d,cQ.d,Pt.d ⟨3,0⟩,Pt.d ⟨100,0⟩] (.tup [.bool true,i64 0]):=aW.cast (Pc cu cQ ⟨3,0⟩ ⟨100,0⟩) (by rw[n6.1,n6.2])
theorem b2:aW Tryz.prog 42 [cu.d,cQ.d,Pt.d ⟨3,0⟩,Pt.d ⟨98,0⟩] (.tup [.bool false,i64 0]):=aW.cast (Pc cu cQ ⟨3,0⟩ ⟨98,0⟩) (by rw[n7.1,n7.2])
theorem b3:aW Tryz.prog 15 [cu.d,bG [cQ,jE]] (.tup [e8 [⟨0,0⟩,⟨1,0⟩,⟨2,0⟩,⟨3,0⟩],i64 0]):=aW.cast (Lc cu [cQ,jE] n2) (by rw[n8])
theorem b4:aW Tryz.prog 14 [cu.d,bG [cQ,jE,lookW]] (.tup [i64 2,i64 0]):=aW.cast (H7 cu [cQ,jE,lookW] n1) (by rw[n9])
theorem b5:aW Tryz.prog 44 [cu.d,bG [cQ,jE,lookW]] (.tup [bx [2],i64 0]):=aW.cast (T4 cu [cQ,jE,lookW] n1) (by rw[WT];rfl)
theorem b6:aW Tryz.prog 45 [cu.d,bG [],cQ.d] (.tup [e8 [⟨100,0⟩,⟨101,0⟩],i64 0]):=aW.cast (Pd cu [] cQ n5 n4) (by rw[U1.1,U1.2])
theorem b7:aW Tryz.prog 46 [cu.d,bG [],cQ.d] (.tup [Pt.d ⟨100,0⟩,i64 0,i64 0]):=aW.cast (T5 cu [] cQ n5 n4) (by rw[WU])
theorem b8:aW Tryz.prog 47 [cu.d,bG [cQ,jE,lookW]] (.tup [bx [1],i64 0]):=aW.cast (T6 cu [cQ,jE,lookW] n1) (by rw[WV])
theorem b9:aW Tryz.prog 14 [cu.d,bG [cQ,lookW]] (.tup [i64 (kR (dW cu) 0 (dh cu [cQ,lookW])).1,i64 4]):=aW.cast (H7 cu [cQ,lookW] n3) (by rw[WW])
theorem Ir(l:List Int)(hl:l.length<1000000):aW Tryz.prog 34 [bx l,bx l] (.bool true):=aW.cast (JI l l hl) (by simp)
theorem Is(l:List Pt)(hl:l.length<1000000):aW Tryz.prog 48 [e8 l,e8 l] (.bool true):=aW.cast (T7 l l hl) (by simp)
theorem uW{P:Program}{f:FuncId}{e:Env}{h:ar}{d:Option Nat}{a:V}{r:List V}{K:List Wr->Prop}(hk:cN P e h d f (a :: .d (.vs [])::r) K):cN P e h d f (a :: .d .nils::r) K:=by
 refine wL (fun yv L F w l h=>?_) hk;obtain⟨x,l',rfl,h1,y,XC,rfl,h2,h3⟩:=h;exact⟨x,_,rfl,h1,y,_,rfl,bq.fb .nils y h2,h3⟩
set_option maxHeartbeats 8000000 in
theorem LA:aW Tryz.prog 7 [] (.bool true):=by
 refine aA Tryz.func7 rfl (ft:=Vx) 0 fun {σ} Y st=>?_;conv=>whnf
 repeat' (first
  | (refine ae (H8) rfl rfl ?_;conv=>whnf)
  | (refine ag (H8) rfl 1 rfl ?_;conv=>whnf)
  | (refine aj (H8) rfl rfl ?_;conv=>whnf)
  | (refine aq (H8) rfl 1 rfl ?_;conv=>whnf)
  | (refine ae (Ia) rfl rfl ?_;conv=>whnf)
  | (refine ag (Ia) rfl 1 rfl ?_;conv=>whnf)
  | (refine aj (Ia) rfl rfl ?_;conv=>whnf)
  | (refine aq (Ia) rfl 1 rfl ?_;conv=>whnf)
  | (refine ae (Ib) rfl rfl ?_;conv=>whnf)
  | (refine ag (Ib) rfl 1 rfl ?_;conv=>whnf)
  | (refine aj (Ib) rfl rfl ?_;conv=>whnf)
  | (refine aq (Ib) rfl 1 rfl ?_;conv=>whnf)
  | (refine ae (Ic) rfl rfl ?_;conv=>whnf)
  | (refine ag (Ic) rfl 1 rfl ?_;conv=>whnf)
  | (refine aj (Ic) rfl rfl ?_;conv=>whnf)
  | (refine aq (Ic) rfl 1 rfl ?_;conv=>whnf)
  | (refine ae (H9 _ _ _) rfl rfl ?_;conv=>whnf)
  | (refine ag (H9 _ _ _) rfl 1 rfl ?_;conv=>whnf)
  | (refine aj (H9 _ _ _) rfl rfl ?_;conv=>whnf)
  | (refine aq (H9 _ _ _) rfl 1 rfl ?_;conv=>whnf)
  | (refine ae (zW _ _) rfl rfl ?_;conv=>whnf)
  | (refine ag (zW _ _) rfl 1 rfl ?_;conv=>whnf)
  | (refine aj (zW _ _) rfl rfl ?_;conv=>whnf)
  | (refine aq (zW _ _) rfl 1 rfl ?_;conv=>whnf)
  | (refine ae (b1) rfl rfl ?_;conv=>whnf)
  | (refine ag (b1) rfl 1 rfl ?_;conv=>whnf)
  | (refine aj (b1) rfl rfl ?_;conv=>whnf)
  | (refine aq (b1) rfl 1 rfl ?_;conv=>whnf)
  | (refine ae (b2) rfl rfl ?_;conv=>whnf)
  | (refine ag (b2) rfl 1 rfl ?_;conv=>whnf)
  | (refine aj (b2) rfl rfl ?_;conv=>whnf)
  | (refine aq (b2) rfl 1 rfl ?_;conv=>whnf)
  | (refine ae (b3) rfl rfl ?_;conv=>whnf)
  | (refine ag (b3) rfl 1 rfl ?_;conv=>whnf)
  | (refine aj (b3) rfl rfl ?_;conv=>whnf)
  | (refine aq (b3) rfl 1 rfl ?_;conv=>whnf)
  | (refine ae (b4) rfl rfl ?_;conv=>whnf)
  | (refine ag (b4) rfl 1 rfl ?_;conv=>whnf)
  | (refine aj (b4) rfl rfl ?_;conv=>whnf)
  | (refine aq (b4) rfl 1 rfl ?_;conv=>whnf)
  | (refine ae (b5) rfl rfl ?_;conv=>whnf)
  | (refine ag (b5) rfl 1 rfl ?_;conv=>whnf)
  | (refine aj (b5) rfl rfl ?_;conv=>whnf)
  | (refine aq (b5) rfl 1 rfl ?_;conv=>whnf)
  | (refine uW ?_;conv=>whnf)
  | (refine ae (b6) rfl rfl ?_;conv=>whnf)
  | (refine ag (b6) rfl 1 rfl ?_;conv=>whnf)
  | (refine aj (b6) rfl rfl ?_;conv=>whnf)
  | (refine aq (b6) rfl 1 rfl ?_;conv=>whnf)
  | (refine ae (b7) rfl rfl ?_;conv=>whnf)
  | (refine ag (b7) rfl 1 rfl ?_;conv=>whnf)
  | (refine aj (b7) rfl rfl ?_;conv=>whnf)
  | (refine aq (b7) rfl 1 rfl ?_;conv=>whnf)
  | (refine ae (b8) rfl rfl ?_;conv=>whnf)
  | (refine ag (b8) rfl 1 rfl ?_;conv=>whnf)
  | (refine aj (b8) rfl rfl ?_;conv=>whnf)
  | (refine aq (b8) rfl 1 rfl ?_;conv=>whnf)
  | (refine ae (b9) rfl rfl ?_;conv=>whnf)
  | (refine ag (b9) rfl 1 rfl ?_;conv=>whnf)
  | (refine aj (b9) rfl rfl ?_;conv=>whnf)
  | (refine aq (b9) rfl 1 rfl ?_;conv=>whnf)
  | (refine ae (Ir [2] (by decide)) rfl rfl ?_;conv=>whnf)
  | (refine ag (Ir [2] (by decide)) rfl 1 rfl ?_;conv=>whnf)
  | (refine aj (Ir [2] (by decide)) rfl rfl ?_;conv=>whnf)
  | (refine aq (Ir [2] (by decide)) rfl 1 rfl ?_;conv=>whnf)
  | (refine ae (Ir [1] (by decide)) rfl rfl ?_;conv=>whnf)
  | (refine ag (Ir [1] (by decide)) rfl 1 rfl ?_;conv=>whnf)
  | (refine aj (Ir [1] (by decide)) rfl rfl ?_;conv=>whnf)
  | (refine aq (Ir [1] (by decide)) rfl 1 rfl ?_;conv=>whnf)
  | (refine ae (Is [⟨0,0⟩,⟨1,0⟩,⟨2,0⟩,⟨3,0⟩] (by decide)) rfl rfl ?_;conv=>whnf)
  | (refine ag (Is [⟨0,0⟩,⟨1,0⟩,⟨2,0⟩,⟨3,0⟩] (by decide)) rfl 1 rfl ?_;conv=>whnf)
  | (refine aj (Is [⟨0,0⟩,⟨1,0⟩,⟨2,0⟩,⟨3,0⟩] (by decide)) rfl rfl ?_;conv=>whnf)
  | (refine aq (Is [⟨0,0⟩,⟨1,0⟩,⟨2,0⟩,⟨3,0⟩] (by decide)) rfl 1 rfl ?_;conv=>whnf)
  | (refine ae (Is [⟨100,0⟩,⟨101,0⟩] (by decide)) rfl rfl ?_;conv=>whnf)
  | (refine ag (Is [⟨100,0⟩,⟨101,0⟩] (by decide)) rfl 1 rfl ?_;conv=>whnf)
  | (refine aj (Is [⟨100,0⟩,⟨101,0⟩] (by decide)) rfl rfl ?_;conv=>whnf)
  | (refine aq (Is [⟨100,0⟩,⟨101,0⟩] (by decide)) rfl 1 rfl ?_;conv=>whnf)
  | (refine ab ?_;conv=>whnf)
  | (refine ax (by assumption) ?_;conv=>whnf)
  | (refine aL (by first|rfl|assumption|(simp[aI.len];done)|(simp[aI.len];omega)) ?_;conv=>whnf)
  | (refine bo (by first|(exact decide_eq_true (by(try simp only[List.length_map]);omega))|(simp[aI.len,aI.cons,V.cells,aI.a5,cw];done)|(simp[aI.len,aI.cons,V.cells,aI.a5,cw];omega)) ?_;conv=>whnf)
  | fail)
 exact af
theorem zT(b:ow):mz b=if spread (-9000) 9000 [b.x,b.y] 0=0/\(b.x.hi-b.x.lo>16\/b.y.hi-b.y.lo>16) then 2 else spread (-9000) 9000 [b.x,b.y] 0:=by
 unfold mz;simp only[spread,bc,Bool.and_eq_true,decide_eq_true_eq];repeat' split
 all_goals first|rfl|omega|(simp_all<;>omega)
set_option maxHeartbeats 1000000 in
theorem T3(b:ow):aW Tryz.prog 20 [b.d] (i64 (mz b)):=by
 rw[zT];refine aA Tryz.func20 rfl (ft:=Rg) 1 fun {σ} Y st=>?_;conv=>whnf
 refine ag (Ep [b.x,b.y] (-9000) 9000 (by simp)) rfl 1 rfl ?_;conv=>whnf
 by_cases h0:spread (-9000) 9000 [b.x,b.y] 0=0;case neg=>
  rw[if_neg (fun h=>h0 h.1),decide_eq_false h0];conv=>whnf
  exact af
 have hb:=wC h0;rw[decide_eq_true h0];conv=>whnf
 refine ab ?_;conv=>whnf
 refine ai (fun h1=>?_) (fun h1=>?_)
 ·rw[if_pos ⟨h0,.inl (of_decide_eq_true h1)⟩]
  conv=>whnf
  exact af
 ·have h1:¬ 16<b.x.hi-b.x.lo:=of_decide_eq_false h1
  conv=>whnf
  refine ab ?_;conv=>whnf
  refine ai (fun h2=>?_) (fun h2=>?_)
  ·rw[if_pos ⟨h0,.inr (of_decide_eq_true h2)⟩]
   conv=>whnf
   exact af
  ·have h2:¬ 16<b.y.hi-b.y.lo:=of_decide_eq_false h2
   rw[if_neg (fun h=>by have:=h.2;omega)];conv=>whnf
   exact af
def FI(m:bQ):Int×Int:=if spread 0 200 [m.ring] 0=7 then (3,7) else if bc m.mA 0 20000 then (if spread 0 200 [m.ring] 0=0 then (0,0) else (3,spread 0 200 [m.ring] 0)) else (3,7)
theorem HW(m:bQ):FI m=if bc m.ring.lo 0 200&&bc m.ring.hi 0 200 then (if bc m.mA 0 20000 then (if m.ring.hi<m.ring.lo then (3,2) else (0,0)) else (3,7)) else (3,7):=by
 unfold FI;simp only[spread,bc,Bool.and_eq_true,decide_eq_true_eq];repeat' split
 all_goals first|rfl|omega|(simp_all<;>omega)
set_option maxHeartbeats 1000000 in
theorem W0(m:bQ):aW Tryz.prog 5 [m.d] (.tup [i64 (gy m).1,i64 (gy m).2]):=by
 refine aA Tryz.func5 rfl (ft:=Vv) 1 fun {σ} Y st=>?_;conv=>whnf
 unfold gy;rw[<- HW];unfold FI;refine ag (ds:=[m.iq.d]) (Ma m.iq) rfl 1 rfl ?_;conv=>whnf
 by_cases h0:(cC m.iq).2.2=0;case neg=>
  rw[if_neg h0];refine ai (fun _=>?_) (fun h1=>absurd h1 (by simp[h0]));conv=>whnf
  exact af
 rw[if_pos h0];refine ai (fun h1=>absurd h1 (by simp[h0])) (fun _=>?_);conv=>whnf
 refine ag (ds:=[m.anchor.d]) (T3 m.anchor) rfl 1 rfl ?_;conv=>whnf
 by_cases h1:mz m.anchor=0;case neg=>
  rw[if_neg h1];refine ai (fun _=>?_) (fun h2=>absurd h2 (by simp[h1]));conv=>whnf
  exact af
 rw[if_pos h1];refine ai (fun h2=>absurd h2 (by simp[h1])) (fun _=>?_);conv=>whnf
 refine ag (ds:=[m.ring.d,i64 0,i64 200]) (tn m.ring 0 200) rfl 1 rfl ?_;conv=>whnf
 generalize spread 0 200 [m.ring] 0=e;by_cases h2:e=7
 ·rw[if_pos h2,decide_eq_true h2]
  conv=>whnf
  exact af
 rw[if_neg h2,decide_eq_false h2];conv=>whnf
 refine ag (Mv m.mA 0 20000) rfl 1 rfl ?_;conv=>whnf
 cases h3:bc m.mA 0 20000 with
 | false=>
  conv=>whnf
  exact af
 | true=>
  conv=>whnf
  by_cases h4:e=0
  ·rw[if_pos h4,decide_eq_true h4]
   conv=>whnf
   exact af
  ·rw[if_neg h4,decide_eq_false h4]
   conv=>whnf
   exact af
structure kM where
 a:Int
 b:Int
 lay:List Int
def I2(l:List Int):D:=.vs (l.map fun n=>[D.int .u16 n])
def kM.cells(x:kM):List D:=[.int .u8 x.a,.int .u8 x.b,I2 x.lay]
def kM.d(x:kM):D:=.agg x.cells
structure vq(x:kM):Prop where
 a1:0<=x.a
 a2:x.a<=255
 b1:0<=x.b
 b2:x.b<=255
 lay:∀ n∈x.lay,0<=n/\n<=65535
def Jm(s:Span)(n:Int):Int:=s.lo+n.tmod (s.hi-s.lo+1)
theorem Aj{s:Span}{n:Int}(h:s.lo<=s.hi)(hn:0<=n):s.lo<=Jm s n/\Jm s n<=s.hi:=by
 unfold Jm;rw[Int.tmod_eq_emod_of_nonneg hn];have:=Int.emod_nonneg n (show s.hi-s.lo+1≠0 by omega);have:=Int.emod_lt_of_pos n (show 0<s.hi-s.lo+1 by omega);omega
theorem Pe(s:Span)(n:Int)(h1 : -9000<=s.lo)(h2:s.lo<=s.hi)(h3:s.hi<=9000)(hn:0<=n/\n<=100000):aW Tryz.prog 59 [s.d,i64 n] (i64 (Jm s n)):=by
 refine aA Tryz.func59 rfl (ft:=RV) 2 fun {σ} Y st=>?_;conv=>whnf
 have:=Aj h2 hn.1;unfold Jm at this;refine ab ?_;conv=>whnf
 refine ab ?_;conv=>whnf
 refine bo (by simp;omega) ?_;conv=>whnf
 refine ab ?_;conv=>whnf
 exact af
def uY(m:bQ)(x:kM):Pt:=⟨Jm m.anchor.x x.a,Jm m.anchor.y x.b⟩
theorem La(m:bQ)(hm:jr m)(x:kM)(hx:vq x):aW Tryz.prog 12 [m.d,x.d] (uY m x).d:=by
 refine aA Tryz.func12 rfl (ft:=Q7) 2 fun {σ} Y st=>?_;conv=>whnf
 have h1:=hm.box.x1;have h2:=hm.box.x2;have h3:=hm.box.x3;have h4:=hm.box.y1;have h5:=hm.box.y2;have h6:=hm.box.y3;have h7:=hx.a1;have h8:=hx.a2;have h9:=hx.b1;have Un:=hx.b2;refine aK x.a rfl (wrap_i64 (by omega)) ?_;conv=>whnf
 refine aq (ds:=[m.anchor.x.d,i64 x.a]) (Pe m.anchor.x x.a h1 h2 h3 (by omega)) rfl 1 rfl ?_;conv=>whnf
 refine aK x.b rfl (wrap_i64 (by omega)) ?_;conv=>whnf
 refine aq (ds:=[m.anchor.y.d,i64 x.b]) (Pe m.anchor.y x.b h4 h5 h6 (by omega)) rfl 1 rfl ?_;conv=>whnf
 exact af
def u7(m:bQ)(a b:Int):Pt:=⟨a.tmod (2*m.ring.hi+1)-m.ring.hi,b.tmod (2*m.ring.hi+1)-m.ring.hi⟩
def E9(m:bQ)(a b:Int):Bool:=decide (m.ring.lo*m.ring.lo<=zU (u7 m a b))&&decide (zU (u7 m a b)<=m.ring.hi*m.ring.hi)
theorem T8(m:bQ)(hm:jr m)(a b:Int)(ha:0<=a/\a<=65535)(hb:0<=b/\b<=65535):aW Tryz.prog 54 [m.d,i64 a,i64 b] (.tup [(u7 m a b).d,.bool (E9 m a b)]):=by
 refine aA Tryz.func54 rfl (ft:=RO) 3 fun {σ} Y st=>?_;conv=>whnf
 have h1:=hm.FF;have h2:=hm.FG;have h3:=hm.FH;have k1:=Int.emod_nonneg a (show 2*m.ring.hi+1≠0 by omega);have k2:=Int.emod_lt_of_pos a (show 0<2*m.ring.hi+1 by omega);have k3:=Int.emod_nonneg b (show 2*m.ring.hi+1≠0 by omega);have k4:=Int.emod_lt_of_pos b (show 0<2*m.ring.hi+1 by omega);rw[<- Int.tmod_eq_emod_of_nonneg ha.1]at k1 k2;rw[<- Int.tmod_eq_emod_of_nonneg hb.1]at k3 k4;refine ab ?_;conv=>whnf
 refine ab ?_;conv=>whnf
 refine bo (by simp;omega) ?_;conv=>whnf
 refine ab ?_;conv=>whnf
 refine ab ?_;conv=>whnf
 refine ab ?_;conv=>whnf
 refine bo (by simp;omega) ?_;conv=>whnf
 refine ab ?_;conv=>whnf
 have s1:=jQ (a:=a.tmod (2*m.ring.hi+1)-m.ring.hi) (k:=200) (by omega) (by decide);have s2:=jQ (a:=b.tmod (2*m.ring.hi+1)-m.ring.hi) (k:=200) (by omega) (by decide);have s3:=jQ (a:=m.ring.lo) (k:=200) (by omega) (by decide);have s4:=jQ (a:=m.ring.hi) (k:=200) (by omega) (by decide);have hl:E9 m a b=(decide (m.ring.lo*m.ring.lo<=(a.tmod (2*m.ring.hi+1)-m.ring.hi)*(a.tmod (2*m.ring.hi+1)-m.ring.hi)+(b.tmod (2*m.ring.hi+1)-m.ring.hi)*(b.tmod (2*m.ring.hi+1)-m.ring.hi))&&decide ((a.tmod (2*m.ring.hi+1)-m.ring.hi)*(a.tmod (2*m.ring.hi+1)-m.ring.hi)+(b.tmod (2*m.ring.hi+1)-m.ring.hi)*(b.tmod (2*m.ring.hi+1)-m.ring.hi)<=m.ring.hi*m.ring.hi)):=rfl;rw[hl];refine ab ?_;conv=>whnf
 refine ab ?_;conv=>whnf
 refine ab ?_;conv=>whnf
 refine ab ?_;conv=>whnf
 generalize decide (m.ring.lo*m.ring.lo<=(a.tmod (2*m.ring.hi+1)-m.ring.hi)*(a.tmod (2*m.ring.hi+1)-m.ring.hi)+(b.tmod (2*m.ring.hi+1)-m.ring.hi)*(b.tmod (2*m.ring.hi+1)-m.ring.hi))=c
 cases c with
 | false=>
  conv=>whnf
  exact af
 | true=>
  conv=>whnf
  refine ab ?_;conv=>whnf
  exact af
def zj(c:Int):Int:=c.tmod 8
def Bk(d:Int):Int:=d.tmod 17
def oV(v:Pt):Int:=if v.x=0/\v.y=0 then 0 else jS v
def zX(mE:Pt)(d:Int):ow:=⟨⟨max (-9000) (mE.x-(Bk d).tdiv 2),min 9000 (mE.x-(Bk d).tdiv 2+Bk d)⟩,⟨max (-9000) (mE.y-(Bk d).tdiv 2),min 9000 (mE.y-(Bk d).tdiv 2+Bk d)⟩⟩
def my(k:Nat)(v mE:Pt)(c d:Int):bO:=⟨10*(k:Int),(oV v-zj c+32).tmod 32,1+2*zj c,zX mE d⟩
def lq(m:bQ)(an:Pt):List Int->List bO->List Pt->List bO×List Pt
 | a::b::c::d::r,ls,ps=>if ls.length<8 then (if E9 m a b then (if bS 9000 (an.add (u7 m a b)) then lq m an r (ls ++ [my ls.length (u7 m a b) (an.add (u7 m a b)) c d]) (ps ++ [an.add (u7 m a b)]) else lq m an r ls ps) else lq m an r ls ps) else (ls,ps)
 | _,ls,ps=>(ls,ps)
theorem zY(m:bQ)(an:Pt){l:List Int}(h:l.length<4)(ls:List bO)(ps:List Pt):lq m an l ls ps=(ls,ps):=by
 match l,h with
 | [],_=>rfl
 | [_],_=>rfl
 | [_,_],_=>rfl
 | [_,_,_],_=>rfl
 | _::_::_::_::_,h=>simp at h;omega
theorem Bc(m:bQ)(an:Pt){l:List Int}{ls:List bO}{ps:List Pt}(h:¬ ls.length<8):lq m an l ls ps=(ls,ps):=by
 match l with
 | []=>rfl
 | [_]=>rfl
 | [_,_]=>rfl
 | [_,_,_]=>rfl
 | a::b::c::d::r=>rw[lq,if_neg h]
theorem Me{l:List Int}{i:Nat}(h:i+3<l.length):∃ a b c d,l.drop i=a::b::c::d::l.drop (i+4)/\l[i]?=some a/\l[i+1]?=some b/\l[i+2]?=some c/\l[i+3]?=some d:=by
 refine⟨l[i],l[i+1],l[i+2],l[i+3],?_,by simp,by simp,by simp,by simp⟩;rw[List.drop_eq_getElem_cons (by omega),List.drop_eq_getElem_cons (by omega),List.drop_eq_getElem_cons (by omega),List.drop_eq_getElem_cons (by omega)]
def iS(m:bQ)(x:kM):List bO×List Pt:=lq m (uY m x) x.lay [] []
theorem sr{m:bQ}{x:kM}(hm:jr m)(hx:vq x):uY m x∈bf m.anchor:=lX.2 ⟨Aj hm.box.x2 hx.a1,Aj hm.box.y2 hx.b1⟩
theorem kj{n k:Int}(hn:0<=n)(hk:0<k):0<=n.tmod k/\n.tmod k<k:=by
 rw[Int.tmod_eq_emod_of_nonneg hn];exact⟨Int.emod_nonneg n (by omega),Int.emod_lt_of_pos n hk⟩
theorem Fa{m:bQ}(hm:jr m){a b:Int}(ha:0<=a)(hb:0<=b):eE 200 (u7 m a b):=by
 have h1:=hm.FF;have h2:=hm.FG;have h3:=hm.FH;have k1:=kj ha (show 0<2*m.ring.hi+1 by omega);have k2:=kj hb (show 0<2*m.ring.hi+1 by omega);exact⟨by show _<=_-_/\_-_<=_;omega,by show _<=_-_/\_-_<=_;omega⟩
theorem HI(v:Pt):0<=oV v/\oV v<=31:=by
 unfold oV;split
 ·omega
 ·rename_i h
  exact sL (show v.x≠0\/v.y≠0 by omega)
set_option maxHeartbeats 4000000 in
theorem O5(m:bQ)(hm:jr m)(x:kM)(hx:vq x)(hlen:x.lay.length<=100000000000000):aW Tryz.prog 11 [m.d,x.d] (.tup [bG (iS m x).1,e8 (iS m x).2]):=by
 refine aA Tryz.func11 rfl (ft:=Q6) 2 fun {σ} Y st=>?_;conv=>whnf
 refine ae (ds:=[m.d,x.d]) (La m hm x hx) rfl rfl ?_;conv=>whnf
 unfold iS;have Gf:=e7 hm.box (sr hm hx);generalize uY m x=an at Gf ⊢;generalize hT:lq m an x.lay [] []=T;refine bV (T:=tys) ao (by exact ah mixed ao (by decide +kernel)) (α:=Nat×List bO×List Pt) (fun z=>⟨[(2,.ptr 2 0),(3,.ptr 3 0),(6,.sl 900000 7 0 z.2.1.length),(7,.sl 900001 2 0 z.2.2.length),(8,.ptr 8 0),(9,.d (i64 z.1))],[(2,.box (.dd m.cells)),(3,.box (.dd x.cells)),(8,.box (.dd an.cells)),(900000,.arr 7 (.dd (z.2.1.map bO.cells))),(900001,.arr 2 (.dd (z.2.2.map Pt.cells)))],st⟩)
  (fun z=>z.1<=x.lay.length/\z.2.1.length=z.2.2.length/\z.2.1.length<=8/\T=lq m an (x.lay.drop z.1) z.2.1 z.2.2) (fun z=>x.lay.length-z.1) (0,[],[]) ((Wk.born 6 900000 7 rfl rfl rfl).trans ((Wk.born 7 900001 2 rfl rfl rfl).trans av)) ⟨by simp,rfl,by simp,hT.symm⟩ ?_
 rintro ⟨i,ls,ps⟩ ⟨hi,uT,Gk,he⟩;simp only at hi uT Gk he;conv=>whnf
 refine ab ?_;conv=>whnf
 by_cases hA:i+3<x.lay.length;case neg=>
  rw[show decide (((i:Nat):Int)+3<(((x.lay.map fun n=>[D.int .u16 n]).length:Nat):Int))=false from decide_eq_false (by rw[List.length_map];omega)];rw[zY m an (by rw[List.length_drop];omega)]at he;rw[he];conv=>whnf
  refine al 1 (ds:=[bG ls,e8 ps]) ?_ ⟨⟨rfl,rfl⟩,rfl⟩;exact aF (bR rfl (by simp)) (aF (bR rfl (by simp)) rfl)
 rw[show decide (((i:Nat):Int)+3<(((x.lay.map fun n=>[D.int .u16 n]).length:Nat):Int))=true from decide_eq_true (by rw[List.length_map];omega)];conv=>whnf
 by_cases hB:ls.length<8;case neg=>
  rw[show decide (((ls.length:Nat):Int)<8)=false from decide_eq_false (by omega)];rw[Bc m an hB]at he;rw[he];conv=>whnf
  refine al 1 (ds:=[bG ls,e8 ps]) ?_ ⟨⟨rfl,rfl⟩,rfl⟩;exact aF (bR rfl (by simp)) (aF (bR rfl (by simp)) rfl)
 rw[show decide (((ls.length:Nat):Int)<8)=true from decide_eq_true (by omega)];obtain⟨a,b,c,d,hd,ha,hb,hc,tC⟩:=Me hA;rw[hd,lq,if_pos hB]at he;have JY:=hx.lay a (List.mem_of_getElem? ha);have nY:=hx.lay b (List.mem_of_getElem? hb);have Ad:=hx.lay c (List.mem_of_getElem? hc);have VQ:=hx.lay d (List.mem_of_getElem? tC);conv=>whnf
 refine ax (f:=fun n=>[D.int .u16 n]) ha ?_;conv=>whnf
 refine aK a rfl (wrap_i64 (by omega)) ?_;conv=>whnf
 refine aK (((i+1:Nat):Int)) (by(try dsimp only);omega) (wrap_i64 (by(try dsimp only);omega)) ?_;conv=>whnf
 refine ax (f:=fun n=>[D.int .u16 n]) hb ?_;conv=>whnf
 refine aK b rfl (wrap_i64 (by omega)) ?_;conv=>whnf
 refine aj (ds:=[m.d,i64 a,i64 b]) (T8 m hm a b JY nY) rfl rfl ?_;conv=>whnf
 have E1:=Fa hm JY.1 nY.1;generalize u7 m a b=v at E1 he ⊢;refine ae (ds:=[an.d,v.d]) (Ql an v (Gf.mono (by decide)) (E1.mono (by decide))) rfl rfl ?_;conv=>whnf
 have PJ:i+4<=x.lay.length:=by omega
 cases hL:E9 m a b with
 | false=>
  rw[hL,if_neg (by decide)]at he;conv=>whnf
  refine aK (((i+4:Nat):Int)) (by(try dsimp only);omega) (wrap_i64 (by(try dsimp only);omega)) ?_;conv=>whnf
  exact⟨(i+4,ls,ps),by simp only;omega,⟨PJ,uT,Gk,he⟩,av⟩
 | true=>
  rw[hL,if_pos rfl]at he;conv=>whnf
  refine ag (ds:=[(an.add v).d,i64 9000]) (Jr (an.add v) 9000 (by omega)) rfl 1 rfl ?_
  cases hW:bS 9000 (an.add v) with
  | false=>
   rw[hW,if_neg (by decide)]at he;conv=>whnf
   refine aK (((i+4:Nat):Int)) (by(try dsimp only);omega) (wrap_i64 (by(try dsimp only);omega)) ?_;conv=>whnf
   exact⟨(i+4,ls,ps),by simp only;omega,⟨PJ,uT,Gk,he⟩,av⟩
  | true=>
   rw[hW,if_pos rfl]at he;have KL:=within_iff.1 hW;conv=>whnf
   refine aK (((i+2:Nat):Int)) (by(try dsimp only);omega) (wrap_i64 (by(try dsimp only);omega)) ?_;conv=>whnf
   refine ax (f:=fun n=>[D.int .u16 n]) hc ?_;conv=>whnf
   refine aK c rfl (wrap_i64 (by omega)) ?_;conv=>whnf
   have m1:=kj Ad.1 (show(0:Int)<8 by decide);have w1:=kj VQ.1 (show(0:Int)<17 by decide);have w2:0<=(d.tmod 17).tdiv 2/\(d.tmod 17).tdiv 2<=8:=by
    rw[Int.tdiv_eq_ediv_of_nonneg w1.1];omega
   have x1:=KL.x;have x2:=KL.y;have eH:∀ p,oV v=p->(my ls.length v (an.add v) c d).cells = [i64 (10*(ls.length:Int)),i64 ((p-c.tmod 8+32).tmod 32),i64 (1+2*c.tmod 8),i64 (max (-9000) ((an.add v).x-(d.tmod 17).tdiv 2)),i64 (min 9000 ((an.add v).x-(d.tmod 17).tdiv 2+d.tmod 17)),i64 (max (-9000) ((an.add v).y-(d.tmod 17).tdiv 2)),i64 (min 9000 ((an.add v).y-(d.tmod 17).tdiv 2+d.tmod 17))]:=by
    rintro p rfl;rfl
   generalize my ls.length v (an.add v) c d=K at he eH;generalize an.add v=w at he eH x1 x2 KL ⊢;refine ai (fun hz=>?_) (fun hz=>?_)
   ·have hz:v.x≠0\/v.y≠0:=by simp at hz;omega
    have hp:oV v=jS v:=by unfold oV;rw[if_neg (by omega)]
    have eH:=eH _ hp;have ht:=sL (show NZ v from hz);conv=>whnf
    refine ag (ds:=[v.d]) (Qv v (E1.mono (by decide)) hz) rfl 1 rfl ?_;generalize jS v=t at eH ht ⊢;conv=>whnf
    refine aK (((i+3:Nat):Int)) (by(try dsimp only);omega) (wrap_i64 (by(try dsimp only);omega)) ?_;conv=>whnf
    refine ax (f:=fun n=>[D.int .u16 n]) tC ?_;conv=>whnf
    refine aK d rfl (wrap_i64 (by omega)) ?_;conv=>whnf
    repeat' (first
     | (refine ae (eL _ _) rfl rfl ?_;conv=>whnf)
     | (refine ag (eL _ _) rfl 1 rfl ?_;conv=>whnf)
     | (refine aj (eL _ _) rfl rfl ?_;conv=>whnf)
     | (refine aq (eL _ _) rfl 1 rfl ?_;conv=>whnf)
     | (refine ab ?_;conv=>whnf)
     | (refine ax (by assumption) ?_;conv=>whnf)
     | (refine aL (by first|rfl|assumption|(simp[aI.len];done)|(simp[aI.len];omega)) ?_;conv=>whnf)
     | (refine bo (by first|(exact decide_eq_true (by(try simp only[List.length_map]);omega))|(simp[aI.len,aI.cons,V.cells,aI.a5,cw];done)|(simp[aI.len,aI.cons,V.cells,aI.a5,cw];omega)) ?_;conv=>whnf)
     | fail)
    refine⟨(i+4,ls ++ [K],ps ++ [w]),by simp only;omega,⟨PJ,by simp[uT],by simp;omega,he⟩,(Wk.move 127 900000 rfl rfl).trans ((Wk.move 131 900001 rfl rfl).trans (Wk.sub ⟨rfl,rfl,?_,?_,rfl,?_,trivial⟩ ⟨rfl,rfl,rfl,?_,?_,trivial⟩))⟩
    ·exact congrArg (fun z:Nat=>some (V.sl 900000 7 0 z)) (by simp[aI.len])
    ·exact congrArg (fun z:Nat=>some (V.sl 900001 2 0 z)) (by simp[aI.len])
    ·exact congrArg (fun z=>some (V.d (i64 z))) (by simp only;omega)
    ·exact congrArg (fun z=>some (Obj.arr 7 (.dd z))) (by rw[List.map_append,List.map_singleton,eH];rfl)
    ·exact congrArg (fun z=>some (Obj.arr 2 (.dd z))) (by rw[List.map_append,List.map_singleton];rfl)
   ·have hz:v.x=0/\v.y=0:=by simp at hz;omega
    have hp:oV v=0:=by unfold oV;rw[if_pos hz]
    have eH:=eH _ hp;conv=>whnf
    refine aK (((i+3:Nat):Int)) (by(try dsimp only);omega) (wrap_i64 (by(try dsimp only);omega)) ?_;conv=>whnf
    refine ax (f:=fun n=>[D.int .u16 n]) tC ?_;conv=>whnf
    refine aK d rfl (wrap_i64 (by omega)) ?_;conv=>whnf
    repeat' (first
     | (refine ae (eL _ _) rfl rfl ?_;conv=>whnf)
     | (refine ag (eL _ _) rfl 1 rfl ?_;conv=>whnf)
     | (refine aj (eL _ _) rfl rfl ?_;conv=>whnf)
     | (refine aq (eL _ _) rfl 1 rfl ?_;conv=>whnf)
     | (refine ab ?_;conv=>whnf)
     | (refine ax (by assumption) ?_;conv=>whnf)
     | (refine aL (by first|rfl|assumption|(simp[aI.len];done)|(simp[aI.len];omega)) ?_;conv=>whnf)
     | (refine bo (by first|(exact decide_eq_true (by(try simp only[List.length_map]);omega))|(simp[aI.len,aI.cons,V.cells,aI.a5,cw];done)|(simp[aI.len,aI.cons,V.cells,aI.a5,cw];omega)) ?_;conv=>whnf)
     | fail)
    refine⟨(i+4,ls ++ [K],ps ++ [w]),by simp only;omega,⟨PJ,by simp[uT],by simp;omega,he⟩,(Wk.move 127 900000 rfl rfl).trans ((Wk.move 131 900001 rfl rfl).trans (Wk.sub ⟨rfl,rfl,?_,?_,rfl,?_,trivial⟩ ⟨rfl,rfl,rfl,?_,?_,trivial⟩))⟩
    ·exact congrArg (fun z:Nat=>some (V.sl 900000 7 0 z)) (by simp[aI.len])
    ·exact congrArg (fun z:Nat=>some (V.sl 900001 2 0 z)) (by simp[aI.len])
    ·exact congrArg (fun z=>some (V.d (i64 z))) (by simp only;omega)
    ·exact congrArg (fun z=>some (Obj.arr 7 (.dd z))) (by rw[List.map_append,List.map_singleton,eH];rfl)
    ·exact congrArg (fun z=>some (Obj.arr 2 (.dd z))) (by rw[List.map_append,List.map_singleton];rfl)
theorem vU(a c e v:Pt):aC c e*aC a v=aC c v*aC a e-aC e v*aC a c:=by
 unfold aC;grind
theorem xU:∀ (p:Fin 32) (m:Fin 8),aC (gS p) (gS ((p+1)%32))<0 /\
  aC (uN (((((p:Nat):Int)-((m:Nat):Int)+32).tmod 32).tmod 32)) (gS p)<=0/\aC (uN (((((p:Nat):Int)-((m:Nat):Int)+32).tmod 32).tmod 32)) (gS ((p+1)%32))<=0 /\
  0<aC (uN (((((p:Nat):Int)-((m:Nat):Int)+32).tmod 32+min 8 (1+2*((m:Nat):Int))).tmod 32)) (gS p) /\
  0<=aC (uN (((((p:Nat):Int)-((m:Nat):Int)+32).tmod 32+min 8 (1+2*((m:Nat):Int))).tmod 32)) (gS ((p+1)%32)):=by decide +kernel
theorem Dr{k:Nat}{v mE:Pt}{c d:Int}(hc:0<=c)(hz:NZ v):Ch (my k v mE c d) v=true:=by
 have hm:=kj hc (show(0:Int)<8 by decide);have ht:=sL hz;obtain⟨p,hp⟩:∃ p:Nat,jS v=p:=⟨(jS v).toNat,by omega⟩;obtain⟨m,sy⟩:∃ m:Nat,zj c=m:=⟨(zj c).toNat,by unfold zj;omega⟩;have He:p<32:=by omega
 have Wj:m<8:=by unfold zj at sy;omega
 have Tw:oV v=p:=by
  unfold oV;have:v.x≠0\/v.y≠0:=hz;rw[if_neg (by omega),hp]
 have vQ:=(z7 hz p).2 hp.symm;have vQ:¬ (0<aC (gS p) v\/aC (gS ((p+1)%32)) v<=0):=vQ;have h1:aC (gS p) v<=0:=by omega
 have h2:0<aC (gS ((p+1)%32)) v:=by omega
 obtain⟨s1,s2,s3,s4,s5⟩:=xU ⟨p,He⟩ ⟨m,Wj⟩;simp only at s1 s2 s3 s4 s5;unfold Ch;rw[List.any_eq_true];have Hh:(my k v mE c d).points=1+2*(m:Int):=by show 1+2*zj c=_;rw[sy]
 have Gn:(my k v mE c d).iy=((p:Int)-(m:Int)+32).tmod 32:=by show(oV v-zj c+32).tmod 32=_;rw[sy,Tw]
 refine⟨0,List.mem_range.2 (by rw[Hh];omega),?_⟩;unfold zN rW;rw[Hh,Gn];rw[show((p:Int)-(m:Int)+32).tmod 32+8*((0:Nat):Int)=((p:Int)-(m:Int)+32).tmod 32 by simp,show(1+2*(m:Int))-8*((0:Nat):Int)=1+2*(m:Int) by simp];generalize uN ((((p:Int)-(m:Int)+32).tmod 32).tmod 32)=a at s2 s3 ⊢;generalize uN ((((p:Int)-(m:Int)+32).tmod 32+min 8 (1+2*(m:Int))).tmod 32)=b at s4 s5 ⊢;generalize gS p=cc at *;generalize gS ((p+1)%32)=e at *;have k1:=vU a cc e v;have k2:=vU b cc e v;have q1:¬ 0<aC a v:=by
  intro h;have t1:aC cc e*aC a v<0:=Int.mul_neg_of_neg_of_pos s1 h;have t2:0<=aC cc v*aC a e:=Int.mul_nonneg_of_nonpos_of_nonpos h1 s3;have t3:aC e v*aC a cc<=0:=Int.mul_nonpos_of_nonneg_of_nonpos (Int.le_of_lt h2) s2;omega
 have q2:0<aC b v:=by
  refine Decidable.byContradiction fun h=>?_;have t1:0<=aC cc e*aC b v:=Int.mul_nonneg_of_nonpos_of_nonpos (Int.le_of_lt s1) (by omega);have t2:aC cc v*aC b e<=0:=Int.mul_nonpos_of_nonpos_of_nonneg h1 s5;have t3:0<aC e v*aC b cc:=Int.mul_pos h2 s4;omega
 rw[decide_eq_false q1,decide_eq_true q2];rfl
theorem Bv(a v:Pt):(a.add v).sub a=v:=by
 cases v;unfold Pt.add Pt.sub;simp only[Pt.mk.injEq];omega
theorem H4{v:Pt}(h:¬ zU v=0):NZ v:=by
 unfold NZ;refine Decidable.byContradiction fun h0=>h ?_;have h1:v.x=0:=by omega
 have h2:v.y=0:=by omega
 unfold zU;rw[h1,h2];rfl
theorem FX{mE:Pt}{d:Int}(hd:0<=d)(hw:eE 9000 mE):rn (zX mE d)/\mE∈bf (zX mE d):=by
 have w1:=kj hd (show(0:Int)<17 by decide);have w2:0<=(d.tmod 17).tdiv 2/\2*(d.tmod 17).tdiv 2<=d.tmod 17:=by
  rw[Int.tdiv_eq_ediv_of_nonneg w1.1];omega
 have x1:=hw.x;have x2:=hw.y;rw[lX];unfold zX Bk;refine⟨⟨?_,?_,?_,?_,?_,?_,?_,?_⟩,?_,?_⟩<;>simp only<;>omega
theorem Du{m:bQ}{k:Nat}{an v:Pt}{c d:Int}(hk:k<=8)(hc:0<=c)(hd:0<=d)(hw:eE 9000 (an.add v))(h1:m.ring.lo*m.ring.lo<=zU v)(h2:zU v<=m.ring.hi*m.ring.hi) :
  nP (my k v (an.add v) c d)/\(bf (my k v (an.add v) c d).box).any (gl m (my k v (an.add v) c d) an)=true:=by
 obtain⟨b1,b2⟩:=FX hd hw;have hm:=kj hc (show(0:Int)<8 by decide);have hp:=HI v;have UN:0<=(oV v-c.tmod 8+32).tmod 32/\(oV v-c.tmod 8+32).tmod 32<32:=kj (by omega) (by decide);have hR:nP (my k v (an.add v) c d):=⟨b1,by show 0<=10*(k:Int);omega,by show 10*(k:Int)<=_;omega,UN.1,by have:=UN.2;show(oV v-c.tmod 8+32).tmod 32<=31;omega,by show 1<=1+2*c.tmod 8;omega,by show 1+2*c.tmod 8<=32;omega⟩;refine⟨hR,List.any_eq_true.2 ⟨an.add v,b2,?_⟩⟩;unfold gl;obtain⟨e1,e2⟩:=lX.1 b2;have Lo:(my k v (an.add v) c d).box=zX (an.add v) d:=rfl;have Hh:(my k v (an.add v) c d).points=1+2*c.tmod 8:=rfl;rw[Lo,Hh,if_pos (bg.2 e1),if_pos (bg.2 e2),Bv,if_pos (bg.2 ⟨h1,h2⟩)];by_cases h3:zU v=0
 ·rw[if_pos h3]
 ·rw[if_neg h3,if_neg (show ¬ (1+2*c.tmod 8=32) by omega)]
  exact Dr hc (H4 h3)
structure Bu(m:bQ)(an:Pt)(ls:List bO)(ps:List Pt):Prop where
 len:ls.length<=8
 both:ps.length=ls.length
 look:∀ (k:Nat) K,ls[k]?=some K->nP K/\K.minute=10*(k:Int)/\(bf K.box).any (gl m K an)=true
 place:∀ p∈ps,eE 9000 p/\zU (p.sub an)<=m.ring.hi*m.ring.hi
theorem sK{m:bQ}{an:Pt}:∀ (n:Nat) {l:List Int} {ls:List bO} {ps:List Pt},l.length<=n->(∀ x∈l,0<=x)->Bu m an ls ps->Bu m an (lq m an l ls ps).1 (lq m an l ls ps).2
 | n,[],ls,ps,_,_,h=>h
 | n,[_],ls,ps,_,_,h=>h
 | n,[_,_],ls,ps,_,_,h=>h
 | n,[_,_,_],ls,ps,_,_,h=>h
 | 0,a::b::c::d::r,ls,ps,hn,_,_=>by simp at hn
 | n+1,a::b::c::d::r,ls,ps,hn,hl,h=>by
  have hr:r.length<=n:=by simp at hn;omega
  have Gp:∀ x∈r,0<=x:=fun x hx=>hl x (by simp[hx]);have hc:0<=c:=hl c (by simp);have hd:0<=d:=hl d (by simp);rw[lq];split;case isFalse=>exact h
  rename_i h8;split;case isFalse=>exact sK n hr Gp h
  rename_i hL;split;case isFalse=>exact sK n hr Gp h
  rename_i hW;unfold E9 at hL;simp only[Bool.and_eq_true,decide_eq_true_iff]at hL;generalize u7 m a b=v at hL hW ⊢;obtain⟨q1,q2⟩:=Du (m:=m) (k:=ls.length) (an:=an) (v:=v) (c:=c) (d:=d) (by omega) hc hd (within_iff.1 hW) hL.1 hL.2;refine sK n hr Gp ⟨by simp;omega,by simp[h.both],?_,?_⟩
  ·intro k K hK
   by_cases Of:k<ls.length
   ·rw[List.getElem?_append_left Of]at hK
    exact h.look k K hK
   ·rw[List.getElem?_append_right (by omega)]at hK
    have Ay:k-ls.length=0:=by
     cases hk:k-ls.length with
     | zero=>rfl
     | succ j=>rw[hk]at hK;simp at hK
    rw[Ay]at hK;cases hK;exact⟨q1,by show 10*(ls.length:Int)=_;omega,q2⟩
  ·intro p hp
   rcases List.mem_append.1 hp with hp|hp
   ·exact h.place p hp
   ·simp at hp;subst hp;rw[Bv];exact⟨within_iff.1 hW,hL.2⟩
theorem BL:∀ {l:List bO} {j:Nat} {o:Option Int} {i:Int},(∀ (k:Nat) K,l[k]?=some K->nP K/\K.minute=10*((j+k:Nat):Int))->(∀ n,o=some n->n<10*(j:Int))->mq o i l=(0,0)
 | [],_,_,_,_,_=>rfl
 | x::r,j,o,i,h,ho=>by
  obtain⟨h1,h2⟩:=h 0 x rfl;have h2:x.minute=10*(j:Int):=by simpa using h2
  rw[mq,if_pos (KP h1 fun n hn=>by have:=ho n hn;omega)];refine BL (j:=j+1) (fun k K hK=>?_) (fun n hn=>?_)
  ·have:=h (k+1) K (by simpa using hK)
   refine⟨this.1,?_⟩;rw[this.2];omega
  ·cases hn;omega
theorem Bd{m:bQ}{an:Pt}{ls:List bO}{ps:List Pt}(hm:jr m)(h:Bu m an ls ps):(ix m ls).2=0:=by
 unfold ix;rw[CC hm,if_pos rfl,if_neg (by have:=h.len;omega),BL (j:=0) (fun k K hK=>by
  obtain⟨a,b,_⟩:=h.look k K hK;exact⟨a,by rw[b];simp⟩) (fun n hn=>by cases hn)]
theorem Gy{m:bQ}{an:Pt}(h:an∈bf m.anchor):∃ j:Nat,(bf m.anchor)[j]?=some an:=List.mem_iff_getElem?.1 h
theorem GZ{m:bQ}{an:Pt}{K:bO}{j:Nat}(hj:(bf m.anchor)[j]?=some an)(h:(bf K.box).any (gl m K an)=true):pT m K j=true:=by
 unfold pT;rw[hj];exact h
theorem BI:∀ {l:List (Nat->Bool)} {f:Nat->Bool} {j:Nat},f j=true->(∀ g∈l,g j=true)->mn f l j=true
 | [],f,j,h,_=>h
 | g::r,f,j,h,hl=>by
  rw[mn];exact BI (by unfold iT;rw[h,hl g (by simp)];rfl) fun q hq=>hl q (by simp[hq])
theorem BE:∀ {l:List (Nat->Bool)} {f:Nat->Bool} {i:Int} {j:Nat},j<320->f j=true->(∀ g∈l,g j=true)->kR f i l=(0,4)
 | [],f,i,j,_,_,_=>rfl
 | g::r,f,i,j,hj,h,hl=>by
  have hk:iT f g j=true:=by unfold iT;rw[h,hl g (by simp)];rfl
  rw[kR,if_neg,BE hj hk fun q hq=>hl q (by simp[hq])];intro he;unfold fM at he;have:=List.all_eq_true.1 he j (List.mem_range.2 hj);rw[hk]at this;cases this
theorem Hw{s:Nat->Bool}{l:List Pt}{n j:Nat}{p:Pt}(h:l[j]?=some p)(hs:s (n+j)=true):p∈r6 s (eA n l):=by
 unfold r6;rw[List.mem_map];refine⟨(n+j,p),List.mem_filter.2 ⟨?_,hs⟩,rfl⟩
 induction l generalizing n j with
 | nil=>cases h
 | cons q r ih=>
  rw[eA]
  cases j with
  | zero=>cases h;simp
  | succ j=>
   have:=ih (n:=n+1) (j:=j) (by simpa using h) (by rw[show n+1+j=n+(j+1) by omega];exact hs);rw[show n+1+j=n+(j+1) by omega]at this;exact List.mem_cons_of_mem _ this
theorem zZ{m:bQ}{x:kM}(hm:jr m)(hx:vq x):(ix m (iS m x).1).2=0/\kR (dW m) 0 (dh m (iS m x).1)=(0,4)/\uY m x∈fB m (iS m x).1 /\ ∀ p∈(iS m x).2,(eE 9000 p/\zU (p.sub (uY m x))<=m.ring.hi*m.ring.hi)/\(iS m x).2.length<=8:=by
 have hT:=sK (m:=m) (an:=uY m x) x.lay.length (l:=x.lay) (ls:=[]) (ps:=[]) (Nat.le_refl _) (fun n hn=>(hx.lay n hn).1) ⟨by simp,rfl,fun k K hK=>by simp at hK,fun p hp=>by cases hp⟩;have hT:Bu m (uY m x) (iS m x).1 (iS m x).2:=hT;generalize (iS m x).1=ls at hT ⊢;generalize (iS m x).2=ps at hT ⊢;obtain⟨j,hj⟩:=Gy (sr hm hx);have G5:j<(bf m.anchor).length:=(List.getElem?_eq_some_iff.1 hj).1;have hlen:=et hm.box;have h0:dW m j=true:=decide_eq_true G5;have r8:∀ g∈dh m ls,g j=true:=by
  intro g hg;obtain⟨K,hK,rfl⟩:=List.mem_map.1 hg;obtain⟨k,hk⟩:=List.mem_iff_getElem?.1 hK;exact GZ hj (hT.look k K hk).2.2
 refine⟨Bd hm hT,BE (by omega) h0 r8,Hw hj ?_,fun p hp=>⟨hT.place p hp,by rw[hT.both];exact hT.len⟩⟩;rw[Nat.zero_add];exact BI h0 r8
theorem wB{off day:Int}:∀ (l:List bH),kH off day l 0=0\/kH off day l 0=8
 | []=>.inl rfl
 | x::r=>by
  rw[kH,if_pos rfl];split
  ·exact wB r
  ·exact .inr (qt r)
def Gx(c:Case):Prop:=(∃ n,fA c=(n,0)/\(1<=n/\n<=bK c.chain.au)/\(nO c n).2=0/\(nO c n).1.1=0/\(1<n->(nO c (n-1)).2=0/\(nO c (n-1)).1.1≠0))\/fA c=(0,8)\/fA c=(0,9)
theorem FN{c:Case}(h0:(bJ c).2.2=0):Gx c:=by
 have hR:=fj h0;by_cases hs:kG c=0;case neg=>
  right;left;have h8:kG c=8:=by
   have:=wB (off:=c.chain.err) (day:=c.day) c.chain.au;unfold kG at hs ⊢;omega
  have hl:cg c (bJ c).2.2=8:=by unfold cg;rw[if_pos h0,h8]
  unfold fA;rw[hl,if_neg (by decide)]
 have ha:uG c=0:=by show cg c _=0;unfold cg;rw[if_pos h0,hs]
 have hE:=A8 ha
 cases hr:jY c (aO c) with
 | nil=>right;right;rw[hE,hr]
 | cons s r=>
  left;rw[hr]at hE;have NS:=yp c (aO c);rw[hr]at NS;obtain⟨a1,a2,a3⟩:=NS;have EG:=(rq hR (aO c) s.lo).1 ⟨s,by rw[hr];simp,Int.le_refl _,a2⟩;have hw:=Co hR ha ⟨EG.1,EG.2.1⟩;refine⟨s.lo,hE,⟨EG.1,EG.2.1⟩,by rw[hw],by rw[hw];exact EG.2.2,fun hn=>?_⟩;have IY:=Co hR ha (out:=s.lo-1) ⟨by omega,by omega⟩;refine⟨by rw[IY],?_⟩;rw[IY];intro hb;obtain⟨t,ht,t1,t2⟩:=(rq hR (aO c) (s.lo-1)).2 ⟨by omega,by omega,hb⟩;rw[hr]at ht;rcases List.mem_cons.1 ht with rfl|ht
  ·omega
  ·obtain⟨i,hi⟩:=List.mem_iff_getElem?.1 ht
   have:=a3.get hi;omega
def gU(m:bQ)(k:Int):bQ:=⟨m.iq,m.anchor,⟨0,min 200 (k.tdiv 10)⟩,m.mA⟩
theorem xc{m:bQ}(hm:jr m){k:Int}(hk:0<=k):jr (gU m k):=by
 obtain⟨h1,h2,h3,h4,h5,h6,h7⟩:=hm;have:0<=k.tdiv 10:=by rw[Int.tdiv_eq_ediv_of_nonneg hk];omega
 exact⟨h1,h2,Int.le_refl _,by show(0:Int)<=min 200 _;omega,by show min 200 _<=_;omega,h6,h7⟩
theorem El{k v:Int}(hk:0<=k)(hv:v<=min 200 (k.tdiv 10)*min 200 (k.tdiv 10)):100*v<=k*k:=by
 rw[Int.tdiv_eq_ediv_of_nonneg hk]at hv;have h1:0<=min 200 (k/10)/\10*min 200 (k/10)<=k:=by omega
 have h2:(10*min 200 (k/10))*(10*min 200 (k/10))<=k*k:=Int.mul_le_mul h1.2 h1.2 (by omega) hk;generalize min 200 (k/10)=r at hv h1 h2;have h3:(10*r)*(10*r)=100*(r*r):=by
  rw[Int.mul_assoc,Int.mul_left_comm r 10 r,<- Int.mul_assoc];rfl
 omega
theorem Cu:aW Tryz.prog 6 [] (.bool true):=QE
set_option maxHeartbeats 8000000 in
theorem WZ(c:Case)(m:bQ)(x:kM)(hx:vq x)(hlen:x.lay.length<=100000000000000):aW Tryz.prog 3 [c.d,m.d,x.d] (.bool true):=by
 refine aA Tryz.func3 rfl (ft:=Vt) 3 fun {σ} Y st=>?_;conv=>whnf
 refine ag (ds:=[c.d]) (QB c) rfl 1 rfl ?_;conv=>whnf
 refine ag (ds:=[m.d]) (W0 m) rfl 1 rfl ?_;conv=>whnf
 by_cases h0:(bJ c).2.2=0;case neg=>
  rw[decide_eq_false h0];conv=>whnf
  refine ae (Cu) rfl rfl ?_;conv=>whnf
  refine ae (LA) rfl rfl ?_;conv=>whnf
  exact af
 rw[decide_eq_true h0];conv=>whnf
 by_cases h1:(gy m).2=0;case neg=>
  rw[decide_eq_false h1];conv=>whnf
  refine ae (Cu) rfl rfl ?_;conv=>whnf
  refine ae (LA) rfl rfl ?_;conv=>whnf
  exact af
 rw[decide_eq_true h1];conv=>whnf
 have hR:=fj h0;have hM:=vy h1;refine ag (ds:=[c.d]) (JJ c) rfl 1 rfl ?_;rcases FN h0 with⟨n,hE,hn,w1,w2,w3⟩|hE|hE
 case inr.inl=>
  rw[hE];conv=>whnf
  refine ae (Cu) rfl rfl ?_;conv=>whnf
  refine ae (LA) rfl rfl ?_;conv=>whnf
  exact af
 case inr.inr=>
  rw[hE];conv=>whnf
  refine ae (Cu) rfl rfl ?_;conv=>whnf
  refine ae (LA) rfl rfl ?_;conv=>whnf
  exact af
 rw[hE];have DJ:=qb hR;have Tj:=hR.dm;have iZ:0<=n*c.chain.dm/\n*c.chain.dm<=280*50:=⟨Int.mul_nonneg (by omega) (by omega),Int.mul_le_mul (by omega) (by omega) (by omega) (by omega)⟩;have hq:0<=(n*c.chain.dm).tdiv 10/\(n*c.chain.dm).tdiv 10<=1400:=by rw[Int.tdiv_eq_ediv_of_nonneg iZ.1];omega
 have UG:0<=n*c.chain.dm*n/\n*c.chain.dm*n<=280*50*280:=⟨Int.mul_nonneg iZ.1 (by omega),Int.mul_le_mul iZ.2 (by omega) (by omega) (by omega)⟩;have Oe:0<=n*c.chain.dm*n*c.chain.dm/\n*c.chain.dm*n*c.chain.dm<=280*50*280*50:=⟨Int.mul_nonneg UG.1 (by omega),Int.mul_le_mul UG.2 (by omega) (by omega) (by omega)⟩;have UH:n*c.chain.dm*(n*c.chain.dm)=n*c.chain.dm*n*c.chain.dm:=(Int.mul_assoc _ _ _).symm;have hF:=xc hM iZ.1;have PB:(gU m (n*c.chain.dm)).ring.hi=min 200 ((n*c.chain.dm).tdiv 10):=rfl;conv=>whnf
 refine ag (ds:=[c.d,i64 n]) (GM c n) rfl 1 rfl ?_;rw[w1,w2];conv=>whnf
 rw[show decide (n<1)=false from decide_eq_false (by omega)];conv=>whnf
 refine ag (ds:=[c.chain.d]) (QH c.chain (by have:=hR.lens;omega) (fun s hs=>by have:=(hR.au s hs).1.eh;unfold bd;omega)) rfl 1 rfl ?_;conv=>whnf
 rw[show decide (bK c.chain.au<n)=false from decide_eq_false (by omega)];conv=>whnf
 by_cases u2:1<n
 ·obtain⟨w4,w5⟩:=w3 u2
  rw[show decide (1<n)=true from decide_eq_true u2];conv=>whnf
  refine ab ?_;conv=>whnf
  refine ag (ds:=[c.d,i64 (n-1)]) (GM c (n-1)) rfl 1 rfl ?_;rw[w4];conv=>whnf
  rw[decide_eq_false w5];conv=>whnf
  refine ab ?_;conv=>whnf
  refine ab ?_;conv=>whnf
  refine ae (ds:=[(gU m (n*c.chain.dm)).d,x.d]) (O5 (gU m (n*c.chain.dm)) (xc hM iZ.1) x hx hlen) rfl rfl ?_;conv=>whnf
  refine ae (ds:=[(gU m (n*c.chain.dm)).d,x.d]) (La (gU m (n*c.chain.dm)) hF x hx) rfl rfl ?_;have vP:=fun(v:Int)=>El (v:=v) iZ.1;rw[<- PB,UH]at vP;obtain⟨t1,t2,t3,t4⟩:=zZ hF hx;have Gf:=e7 hF.box (sr hF hx);generalize uY (gU m (n*c.chain.dm)) x=an at t3 t4 Gf ⊢;generalize (iS (gU m (n*c.chain.dm)) x).1=ls at t1 t2 t3 ⊢;generalize (iS (gU m (n*c.chain.dm)) x).2=ps at t4 ⊢;conv=>whnf
  clear PB;generalize hFe:gU m (n*c.chain.dm)=F at hF vP t1 t2 t3 t4 ⊢;refine aZ (T:=tys) ao (by exact ah mixed ao (by decide +kernel)) ps (fun i (_:Unit)=>⟨[(3,.ptr 3 0),(12,.d (i64 n)),(22,.ptr 22 0),(23,.d (bG ls)),(24,.d (e8 ps)),(25,.ptr 25 0),(26,.d (i64 i))],[(3,.box (.dd c.cells)),(22,.box (.dd F.cells)),(25,.box (.dd an.cells))],st⟩) (fun i r _=>i<=ps.length) () (Wk.sub ⟨rfl,rfl,rfl,rfl,rfl,rfl,rfl,trivial⟩ ⟨rfl,by rw[<- hFe];rfl,rfl,trivial⟩) (Nat.zero_le _) ?_ ?_
  ·rintro i p r _ yd hi hr _
   obtain⟨⟨p1,p2⟩,p3⟩:=t4 p (List.mem_of_getElem? yd);have gG:=vP _ p2;conv=>whnf
   refine ai (fun _=>?_) (fun h=>absurd hi (by simpa using h));conv=>whnf
   refine ax yd ?_;conv=>whnf
   refine aj (ds:=[p.d,an.d]) (GD p an (p1.mono (by decide)) (Gf.mono (by decide))) rfl rfl ?_;have hv:=p1.sub Gf;generalize p.sub an=v at gG hv ⊢;have s1:=jQ hv.x (by decide);have s2:=jQ hv.y (by decide);have Oz:zU v=v.x*v.x+v.y*v.y:=rfl;rw[Oz]at gG;conv=>whnf
   refine ab ?_;conv=>whnf
   refine ab ?_;conv=>whnf
   refine ab ?_;conv=>whnf
   refine ab ?_;conv=>whnf
   refine ab ?_;conv=>whnf
   refine ab ?_;conv=>whnf
   refine ab ?_;conv=>whnf
   rw[show decide (n*c.chain.dm*n*c.chain.dm<100*(v.x*v.x+v.y*v.y))=false from decide_eq_false (by omega)];conv=>whnf
   refine ab ?_;conv=>whnf
   exact⟨(),hi,av⟩
  ·rintro _ _
   conv=>whnf
   refine ai (fun h=>absurd h (by simp)) (fun _=>?_);conv=>whnf
   refine ag (ds:=[F.d,bG ls]) (H7 F ls t1) rfl 1 rfl ?_;rw[t2];conv=>whnf
   refine ae (ds:=[F.d,bG ls]) (Lc F ls t1) rfl rfl ?_;have BQ:(fB F ls).length<=289:=by
    unfold fB r6;rw[List.length_map];refine Nat.le_trans (List.length_filter_le _ _) ?_;rw[mZ];exact et hF.box
   generalize fB F ls=all at t3 BQ ⊢;conv=>whnf
   refine aZ (T:=tys) ao (by exact ah mixed ao (by decide +kernel)) all (fun i (b:Bool)=>⟨[(25,.ptr 25 0),(29,.d (i64 4)),(30,.d (e8 all)),(31,.d (i64 0)),(32,.d (.bool b)),(33,.d (i64 i))],[(25,.box (.dd an.cells))],st⟩) (fun i r b=>b=true\/an∈r) false av (.inr t3) ?_ ?_
   ·rintro i a r b NR hi hr hb
    conv=>whnf
    refine ai (fun _=>?_) (fun h=>absurd hi (by simpa using h));conv=>whnf
    cases b with
    | true=>
     conv=>whnf
     refine ab ?_;conv=>whnf
     exact⟨true,.inl rfl,av⟩
    | false=>
     conv=>whnf
     refine ax NR ?_;conv=>whnf
     conv=>whnf
     refine ab ?_;conv=>whnf
     refine⟨(decide (a.x=an.x)&&(decide (a.y=an.y)&&true)),?_,av⟩;rcases hb with hb|hb
     ·cases hb
     ·rcases List.mem_cons.1 hb with rfl|hb
      ·left;simp
      ·exact .inr hb
   ·rintro b hb
    have hb:b=true:=by
     rcases hb with hb|hb
     ·exact hb
     ·cases hb
    subst hb;conv=>whnf
    refine ai (fun h=>absurd h (by simp)) (fun _=>?_);conv=>whnf
    refine ae (Cu) rfl rfl ?_;conv=>whnf
    refine ae (LA) rfl rfl ?_;conv=>whnf
    exact af
 ·rw[show decide (1<n)=false from decide_eq_false u2]
  conv=>whnf
  refine ab ?_;conv=>whnf
  refine ab ?_;conv=>whnf
  refine ae (ds:=[(gU m (n*c.chain.dm)).d,x.d]) (O5 (gU m (n*c.chain.dm)) (xc hM iZ.1) x hx hlen) rfl rfl ?_;conv=>whnf
  refine ae (ds:=[(gU m (n*c.chain.dm)).d,x.d]) (La (gU m (n*c.chain.dm)) hF x hx) rfl rfl ?_;have vP:=fun(v:Int)=>El (v:=v) iZ.1;rw[<- PB,UH]at vP;obtain⟨t1,t2,t3,t4⟩:=zZ hF hx;have Gf:=e7 hF.box (sr hF hx);generalize uY (gU m (n*c.chain.dm)) x=an at t3 t4 Gf ⊢;generalize (iS (gU m (n*c.chain.dm)) x).1=ls at t1 t2 t3 ⊢;generalize (iS (gU m (n*c.chain.dm)) x).2=ps at t4 ⊢;conv=>whnf
  clear PB;generalize hFe:gU m (n*c.chain.dm)=F at hF vP t1 t2 t3 t4 ⊢;refine aZ (T:=tys) ao (by exact ah mixed ao (by decide +kernel)) ps (fun i (_:Unit)=>⟨[(3,.ptr 3 0),(12,.d (i64 n)),(22,.ptr 22 0),(23,.d (bG ls)),(24,.d (e8 ps)),(25,.ptr 25 0),(26,.d (i64 i))],[(3,.box (.dd c.cells)),(22,.box (.dd F.cells)),(25,.box (.dd an.cells))],st⟩) (fun i r _=>i<=ps.length) () (Wk.sub ⟨rfl,rfl,rfl,rfl,rfl,rfl,rfl,trivial⟩ ⟨rfl,by rw[<- hFe];rfl,rfl,trivial⟩) (Nat.zero_le _) ?_ ?_
  ·rintro i p r _ yd hi hr _
   obtain⟨⟨p1,p2⟩,p3⟩:=t4 p (List.mem_of_getElem? yd);have gG:=vP _ p2;conv=>whnf
   refine ai (fun _=>?_) (fun h=>absurd hi (by simpa using h));conv=>whnf
   refine ax yd ?_;conv=>whnf
   refine aj (ds:=[p.d,an.d]) (GD p an (p1.mono (by decide)) (Gf.mono (by decide))) rfl rfl ?_;have hv:=p1.sub Gf;generalize p.sub an=v at gG hv ⊢;have s1:=jQ hv.x (by decide);have s2:=jQ hv.y (by decide);have Oz:zU v=v.x*v.x+v.y*v.y:=rfl;rw[Oz]at gG;conv=>whnf
   refine ab ?_;conv=>whnf
   refine ab ?_;conv=>whnf
   refine ab ?_;conv=>whnf
   refine ab ?_;conv=>whnf
   refine ab ?_;conv=>whnf
   refine ab ?_;conv=>whnf
   refine ab ?_;conv=>whnf
   rw[show decide (n*c.chain.dm*n*c.chain.dm<100*(v.x*v.x+v.y*v.y))=false from decide_eq_false (by omega)];conv=>whnf
   refine ab ?_;conv=>whnf
   exact⟨(),hi,av⟩
  ·rintro _ _
   conv=>whnf
   refine ai (fun h=>absurd h (by simp)) (fun _=>?_);conv=>whnf
   refine ag (ds:=[F.d,bG ls]) (H7 F ls t1) rfl 1 rfl ?_;rw[t2];conv=>whnf
   refine ae (ds:=[F.d,bG ls]) (Lc F ls t1) rfl rfl ?_;have BQ:(fB F ls).length<=289:=by
    unfold fB r6;rw[List.length_map];refine Nat.le_trans (List.length_filter_le _ _) ?_;rw[mZ];exact et hF.box
   generalize fB F ls=all at t3 BQ ⊢;conv=>whnf
   refine aZ (T:=tys) ao (by exact ah mixed ao (by decide +kernel)) all (fun i (b:Bool)=>⟨[(25,.ptr 25 0),(29,.d (i64 4)),(30,.d (e8 all)),(31,.d (i64 0)),(32,.d (.bool b)),(33,.d (i64 i))],[(25,.box (.dd an.cells))],st⟩) (fun i r b=>b=true\/an∈r) false av (.inr t3) ?_ ?_
   ·rintro i a r b NR hi hr hb
    conv=>whnf
    refine ai (fun _=>?_) (fun h=>absurd hi (by simpa using h));conv=>whnf
    cases b with
    | true=>
     conv=>whnf
     refine ab ?_;conv=>whnf
     exact⟨true,.inl rfl,av⟩
    | false=>
     conv=>whnf
     refine ax NR ?_;conv=>whnf
     conv=>whnf
     refine ab ?_;conv=>whnf
     refine⟨(decide (a.x=an.x)&&(decide (a.y=an.y)&&true)),?_,av⟩;rcases hb with hb|hb
     ·cases hb
     ·rcases List.mem_cons.1 hb with rfl|hb
      ·left;simp
      ·exact .inr hb
   ·rintro b hb
    have hb:b=true:=by
     rcases hb with hb|hb
     ·exact hb
     ·cases hb
    subst hb;conv=>whnf
    refine ai (fun h=>absurd h (by simp)) (fun _=>?_);conv=>whnf
    refine ae (Cu) rfl rfl ?_;conv=>whnf
    refine ae (LA) rfl rfl ?_;conv=>whnf
    exact af
end Go.PX
