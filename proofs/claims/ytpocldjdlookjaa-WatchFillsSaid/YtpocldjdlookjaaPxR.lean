import Derived.Test.YtpocldjdlookjaaPxQ
import Derived.Test.YtpocldjdlookjaaPxN
import Derived.Test.YtpocldjdlookjaaPxP
set_option linter.all false
set_option maxRecDepth 10000
namespace Go.PX
def MU{σ:Type}(st st':St σ)(args:List V):Prop:=∀ (cx:Cx σ) (r:Option Nat) (m:List Nat) (L:Loc) (F:Nat->Nat) (a:Act) (w:World),Good cx r m L F st a w ->
 ∃ L' F',Good cx r m L' F' st' a w/\Tr F w F' w /\ ∀ l,aq cx.yv L F w args l->aq cx.yv L' F' w args l
theorem Ce{P:Program}{σ:Type}{Y:Hd σ}{st st':St σ}{d:Option Nat}{f:FuncId}{args:List V}{K:St σ->Prop}(hw:MU st st' args)(hc:eE P Y st' d f args K):eE P Y st d f args K:=by
 obtain⟨h1,h2⟩:=hc;refine⟨h1,fun cx hY r m L F a w aX hg hd hr=>?_⟩;obtain⟨L1,F1,db,tr,hv⟩:=hw cx r m L F a w hg;refine(h2 cx hY r m L1 F1 a w aX db hd (hv _ hr)).mono ?_;rintro en w' (⟨x,rfl,st',L',F',hk,dY,lL⟩|⟨pv,pe,ph,ps,L',F',he,hy,Gz,Hp⟩)
 ·exact .inl ⟨x,rfl,st',L',F',hk,dY,Tr.trans tr lL⟩
 ·exact .inr ⟨pv,pe,ph,ps,L',F',he,hy,Gz,Tr.trans tr Hp⟩
theorem Good.BZ{σ:Type}{cx:Cx σ}{r:Option Nat}{m:List Nat}{L:Loc}{F:Nat->Nat}{a:Act}{w:World}{e:Env}{h:av}{s:σ}(hh:Good cx r m L F ⟨e,h,s⟩ a w)(id:Nat){o:Obj}(o':Obj)(hg:get h id=some o)(hr:∀ (yv:Option Nat) (L:Loc) (F:Nat->Nat) (w:World),bG yv L F w id o->bG yv L F w id o')(hb:∀ L,aN L id o'->aN L id o) :
  Good cx r m L F ⟨e,put h id o',s⟩ a w:=by
 have key:∀ i q,get (put h id o') i=some q->(i=id/\q=o')\/get h i=some q:=by
  intro i q hi;rw[cH]at hi;split at hi
  ·rename_i e1;cases hi;exact .inl ⟨e1,rfl⟩
  ·exact .inr hi
 refine⟨⟨hh.heap.hg,hh.heap.iW,hh.heap.fresh,fun i q hi=>?_,fun i q hi kO=>?_,fun i j q p hi hj kj gJ e=>?_⟩,hh.env,hh.sI,hh.oe,hh.uy,hh.lk,hh.lG,hh.sD⟩
 ·rcases key i q hi with⟨rfl,rfl⟩|hi
  ·exact hr _ _ _ _ (hh.heap.obj i o hg)
  ·exact hh.heap.obj i q hi
 ·rcases key i q hi with⟨rfl,rfl⟩|hi
  ·exact hh.heap.own i o hg (hb L kO)
  ·exact hh.heap.own i q hi kO
 ·rcases key i q hi with⟨e1,e2⟩|vp<;>rcases key j p hj with⟨e3,e4⟩|EE
  ·rw[e1,e3]
  ·subst e1;subst e2
   exact hh.heap.inj _ _ _ _ hg EE (hb L kj) gJ e
  ·subst e3;subst e4
   exact hh.heap.inj _ _ _ _ vp hg kj (hb L gJ) e
  ·exact hh.heap.inj _ _ _ _ vp EE kj gJ e
theorem Good.HB{σ:Type}{cx:Cx σ}{r:Option Nat}{mm:List Nat}{F:Nat->Nat}{a:Act}{w:World}{e:Env}{h:av}{s:σ}{B sz:Nat}(hB:3000000<=B)(hs:0<sz)(he:lE (ns 0) e=true)(hH:uE (ns 0) h=true):∀ (m i:Nat) {L:Loc},Good cx r mm L F ⟨e,h,s⟩ a w ->
  ∃ L',Good cx r mm L' F ⟨e,h++aD B sz i (List.replicate m (.bw [])),s⟩ a w /\ ∀ x,x<3000000->L'.ρ x=L.ρ x/\L'.κ x=L.κ x
 | 0,i,L,hg=>⟨L,by rw[List.replicate_zero,aD,List.append_nil];exact hg,fun _ _=>⟨rfl,rfl⟩⟩
 | m+1,i,L,hg=>by
  obtain⟨L1,db,KV⟩:=Good.HB hB hs he hH m (i+1) hg;have h2:Good cx r mm ⟨L1.ρ,fun j=>if j=B+i then 0 else L1.κ j⟩ F ⟨cn (az (aQ (B+i))) e,(B+i,.arr sz (.dd []))::cn (Obj.az (aQ (B+i))) (cut (h++aD B sz (i+1) (List.replicate m (.bw []))) (B+i)),s⟩ a w:=db.lC (B+i) sz (by unfold pinned;omega) hs (.dd []) rfl;refine⟨_,h2.sub (e:=e) (h:=h++aD B sz i (List.replicate (m+1) (.bw []))) ?_ ?_,fun x hx=>⟨(KV x hx).1,?_⟩⟩
  ·intro k v hv
   show get (cn (az (aQ (B+i))) e) k=some v;rw[bl,hv];simp only[Option.map_some];rw[il (nm (K:=0) (.inr (by omega))) v (lF he hv)]
  ·intro k v hv
   show get ((B+i,Obj.arr sz (.dd []))::cn (Obj.az (aQ (B+i))) (cut (h++aD B sz (i+1) (List.replicate m (.bw []))) (B+i))) k=some v;rw[List.replicate_succ,aD,cG]at hv;rw[aF]
   cases hg:get h k with
   | some o=>
    rw[hg]at hv;cases hv;obtain⟨k1,k2⟩:=eL hH hg;have k3:=nt k1;rw[if_neg (by omega),bl,c0,if_neg (by omega),cG,hg];simp only[Option.map_some];rw[gB (nm (K:=0) (.inr (by omega))) v k2]
   | none=>
    rw[hg]at hv;simp only at hv;rw[aF]at hv;split at hv
    ·rename_i e1
     rw[if_pos e1];exact hv
    ·rename_i e1
     rw[if_neg e1,bl,c0,if_neg e1,cG,hg];simp only;rw[hv];rw[cz]at hv;split at hv
     ·split at hv
      ·cases hv;rfl
      ·cases hv
     ·cases hv
  ·show(if x=B+i then 0 else L1.κ x)=L.κ x
   rw[if_neg (by omega)];exact(KV x hx).2
theorem MU.Mg{σ:Type}{e:Env}{s:σ}{B sz O n:Nat}{F:av}{args:List V}(hB:3000000<=B)(hs:0<sz)(he:lE (ns 0) e=true)(hH:uE (ns 0) ((O,.arr 1 (.dd (List.replicate n [D.nils])))::F)=true)(ha:qB (ns 0) args=true) :
  MU (⟨e,(O,.arr 1 (.dd (List.replicate n [D.nils])))::F,s⟩:St σ) ⟨e,(O,bO B sz (List.replicate n (.bw [])))::(F++aD B sz 0 (List.replicate n (.bw []))),s⟩ args:=by
 intro cx r m L G a w hg;obtain⟨L1,db,hL⟩:=Good.HB hB hs he hH n 0 hg;refine⟨L1,G,?_,Tr.refl G w,fun l hl=>aq.mono (Tr.refl G w) args l (fun i hi=>hL i ?_) hl⟩
 ·refine(db.BZ O (o:=.arr 1 (.dd (List.replicate n [D.nils]))) (bO B sz (List.replicate n (.bw []))) (by rw[List.cons_append,aF,if_pos rfl]) (fun yv L F w h=>?_) fun L hb=>hb).sub (e:=e) (h:=(O,bO B sz (List.replicate n (.bw [])))::(F++aD B sz 0 (List.replicate n (.bw [])))) (fun _ _ h=>h) fun k v hv=>?_
  ·obtain⟨c1,c2,c3⟩:=h
   have jO:∀ m:Nat,(aO (List.replicate m [D.nils])).length=m:=by
    intro m
    induction m with
    | zero=>rfl
    | succ m ih=>rw[List.replicate_succ,aO,List.length_cons,ih]
   have EK:(cu B sz 0 (List.replicate n (Rw.bw []))).length=n:=by rw[tT,List.length_replicate]
   have c3:(aO (List.replicate n [D.nils]) = []/\L.κ O=0) \/ ∃ (c:Array Value) (T:TypeId),w.heap[L.ρ O]?=some (.cells c T (0,0))/\c.size=L.κ O/\(aO (List.replicate n [D.nils])).length*1<=c.size/\aq yv L F w (aO (List.replicate n [D.nils])).flatten (c.toList.take ((aO (List.replicate n [D.nils])).length*1)):=c3;refine⟨c1,fun x hx=>?_,?_⟩
   ·have hx:x∈cu B sz 0 (List.replicate n (Rw.bw [])):=hx
    obtain⟨j,hj⟩:=List.getElem?_of_mem hx;rw[iA]at hj
    cases hr:(List.replicate n (Rw.bw []))[j]? with
    | none=>rw[hr]at hj;cases hj
    | some r=>rw[hr]at hj;cases hj;rfl
   ·show(cu B sz 0 (List.replicate n (Rw.bw [])) = []/\L.κ O=0) \/ ∃ (c:Array Value) (T:TypeId),w.heap[L.ρ O]?=some (.cells c T (0,0))/\c.size=L.κ O/\(cu B sz 0 (List.replicate n (Rw.bw []))).length*1<=c.size/\aq yv L F w (cu B sz 0 (List.replicate n (Rw.bw []))).flatten (c.toList.take ((cu B sz 0 (List.replicate n (Rw.bw []))).length*1))
    rw[jO]at c3;rw[EK];rcases c3 with⟨h1,h2⟩|⟨c,T,h1,h2,h3,h4⟩
    ·refine .inl ⟨?_,h2⟩
     have:=congrArg List.length h1;rw[jO]at this;have hn:n=0:=this;subst hn;rfl
    ·exact .inr ⟨c,T,h1,h2,h3,uR hs n 0 _ h4⟩
  ·show get (put _ _ _) k=some v
   rw[cH];rw[aF]at hv;split at hv
   ·rename_i e1;rw[if_pos e1];exact hv
   ·rename_i e1
    rw[if_neg e1,List.cons_append,aF,if_neg e1];exact hv
 ·have hk:∀ (vs:List V),qB (ns 0) vs=true->bF vs i->i<3000000:=by
   intro vs
   induction vs with
   | nil=>exact fun _ h=>h.elim
   | cons v r ih=>
    intro h hn;rw[qB,Bool.and_eq_true]at h;rcases hn with hn|hn
    ·exact(nt (rj v h.1 i (dD i v hn))).1
    ·exact ih h.2 hn
  exact hk args ha hi
end Go.PX
namespace Go.PX
open Go.Proofs
def KG:FT:=⟨Iz.ks,cut Iz.tb 12⟩
def Qt:RT:=match get Iz.tb 12 with
 | some r=>r
 | none=>⟨[],[]⟩
def ND:List (List Nat):=[[],[],[],[],[],[],[],[6],[7],[7],[8],[9,10]]
theorem z7(n:Nat):(aW (List.replicate n [])).map Rw.bw=List.replicate n (Rw.bw []):=by
 unfold aW;rw[List.map_replicate,List.map_replicate];rfl
set_option maxHeartbeats 2000000 in
theorem QH(c:ao)(rota:List (List Int))(H2:rota.length<4000000000000000000):cy Try.prog 37 [c.d,aJ rota] (.tup [aJ (if fw c rota=0 then m6 c rota else []),i64 (fw c rota)]):=by
 refine bx Try.func37 rfl (ft:=KG) 2 fun {σ} Y st=>?_;conv=>whnf
 refine aH (Jz c rota) rfl rfl ?_;conv=>whnf
 refine bt (T:=tys) aI (by exact au mixed aI (by decide +kernel)) rota (fun i (n:Nat)=>⟨[(1,.d (aJ rota)),(2,.ptr 2 0),(4,.d .nils),(5,.d (i64 0)),(6,.d (i64 (b0 c rota))),(7,.d (i64 n)),(8,.d (i64 i))],[(2,.box (.dd c.cells))],st⟩)
  (fun i r n=>n<=i/\jc rota=n+jc r) 0 aw ⟨by simp,by simp⟩ ?_ ?_
 ·rintro i x r n hx hi wb ⟨hn,he⟩
  conv=>whnf
  refine ak (fun _=>?_) (fun h=>absurd hi (by have:=of_decide_eq_false h;simp at this;omega));conv=>whnf
  refine ai hx ?_;conv=>whnf
  rw[m5]at he;refine ak (fun h1=>?_) (fun h1=>?_)
  ·have h1:x.length=0:=by
    have:((x.map fun n=>[i64 n]).length:Int)=0:=of_decide_eq_true h1;simpa using this
   rw[if_pos h1]at he;conv=>whnf
   refine bg (((n+1:Nat):Int)) (by(try dsimp only);omega) (wrap_i64 (by(try dsimp only);omega)) ?_;conv=>whnf
   refine ah ?_;conv=>whnf
   exact⟨n+1,⟨by omega,by omega⟩,aw⟩
  ·have h1:¬ x.length=0:=by
    have:¬ ((x.map fun n=>[i64 n]).length:Int)=0:=of_decide_eq_false h1;simpa using this
   rw[if_neg h1]at he;conv=>whnf
   refine ah ?_;conv=>whnf
   exact⟨n,⟨by omega,by omega⟩,aw⟩
 ·rintro n ⟨hn,he⟩
  have he:jc rota=n:=by rw[he];rfl
  subst he;conv=>whnf
  refine ak (fun h=>absurd h (by simp)) (fun _=>?_);conv=>whnf
  rcases Classical.em (b0 c rota=0) with h0|h0
  case inr=>
   have hE:fw c rota=b0 c rota:=by rw[fw,if_neg h0]
   rw[hE,if_neg h0];refine ak (fun h=>absurd (of_decide_eq_true h) h0) (fun _=>?_);conv=>whnf
   refine ak (fun _=>?_) (fun h=>absurd h (by simp[h0]));conv=>whnf
   refine dR ?_;exact ax
  obtain⟨hR,hl,_⟩:=eZ h0;have nX:=mu h0;rw[h0];conv=>whnf
  refine ak (fun h1=>?_) (fun h1=>?_)
  ·have hE:fw c rota=7:=by rw[fw,if_pos h0,if_pos (by simpa using h1)]
   rw[hE];conv=>whnf
   refine dR ?_;exact ax
  have h1:¬ (jc rota:Int)>12:=by simpa using h1
  have hE:fw c rota=if (dF c (aB c) rota .zero).isSome then 0 else 9:=by
   rw[fw,if_pos h0,if_neg h1];unfold rK;rw[sO]
  have Sb:m6 c rota=(dF c (aB c) rota .zero).getD []:=by
   unfold m6 rK;rw[sO]
  rw[hE,Sb];conv=>whnf
  refine lQ mixed aI Qt 6 ND (by decide +kernel) (by decide +kernel) (by decide +kernel) ?_;conv=>whnf
  rw[List.length_map];refine aR (by rw[Bool.and_eq_true];exact⟨rfl,by simp⟩) ?_;conv=>whnf
  refine aR (decide_eq_true (by dsimp only;omega)) ?_;conv=>whnf
  refine⟨?_,trivial⟩;conv=>whnf
  rw[Int.toNat_natCast];obtain⟨B,hB⟩:∃ B:Nat,3000000<=B:=⟨3000000,Nat.le_refl _⟩;refine Ce (MU.Mg (O:=43) (n:=rota.length) (B:=B) (sz:=1) (F:=[(2,.box (.dd c.cells))]) hB (by decide) rfl rfl rfl) ?_;rw[<- z7 rota.length];refine Cc (Eb c hR rota hl (fun r hr=>by have:=nX r hr;omega) rota 0 .zero (List.replicate rota.length []) rfl (Nat.zero_le _) (mF.zero hR) g9.zero Y st) B 43 (F:=[(2,.box (.dd c.cells))]) hB (by unfold aW;rw[List.length_map,List.length_replicate];omega) (by decide) rfl rfl rfl rfl ?_;rintro dv LS ⟨l3,rfl,v7,_,rfl⟩ Pw;generalize (aW l3).map Rw.bw=dq;generalize dF c (aB c) rota .zero=o;conv=>whnf
  repeat (first
   | (refine ab (T':=aD B 1 0 dq) (by first|exact rfl|exact al (by omega)|exact an _|exact ae _ (by omega)) ?_;conv=>whnf)
   | (refine ab (T':=[]) (by exact af hB rfl) ?_;conv=>whnf))
  cases o with
  | none=>
   refine⟨?_,trivial⟩;conv=>whnf
   repeat (first
    | (refine ab (T':=aD B 1 0 dq) (by first|exact rfl|exact al (by omega)|exact an _|exact ae _ (by omega)) ?_;conv=>whnf)
    | (refine ab (T':=[]) (by exact af hB rfl) ?_;conv=>whnf))
   refine⟨?_,?_,trivial⟩
   ·conv=>whnf
    repeat (first
     | (refine ab (T':=aD B 1 0 dq) (by first|exact rfl|exact al (by omega)|exact an _|exact ae _ (by omega)) ?_;conv=>whnf)
     | (refine ab (T':=[]) (by exact af hB rfl) ?_;conv=>whnf))
    refine⟨?_,?_,trivial⟩
    ·conv=>whnf
     repeat (first
      | (refine ab (T':=aD B 1 0 dq) (by first|exact rfl|exact al (by omega)|exact an _|exact ae _ (by omega)) ?_;conv=>whnf)
      | (refine ab (T':=[]) (by exact af hB rfl) ?_;conv=>whnf))
     refine⟨?_,trivial⟩;conv=>whnf
     repeat (first
      | (refine ab (T':=aD B 1 0 dq) (by first|exact rfl|exact al (by omega)|exact an _|exact ae _ (by omega)) ?_;conv=>whnf)
      | (refine ab (T':=[]) (by exact af hB rfl) ?_;conv=>whnf))
     refine⟨?_,trivial⟩;conv=>whnf
     repeat (first
      | (refine ab (T':=aD B 1 0 dq) (by first|exact rfl|exact al (by omega)|exact an _|exact ae _ (by omega)) ?_;conv=>whnf)
      | (refine ab (T':=[]) (by exact af hB rfl) ?_;conv=>whnf))
     refine dR ?_;exact ax
    ·conv=>whnf
     repeat (first
      | (refine ab (T':=aD B 1 0 dq) (by first|exact rfl|exact al (by omega)|exact an _|exact ae _ (by omega)) ?_;conv=>whnf)
      | (refine ab (T':=[]) (by exact af hB rfl) ?_;conv=>whnf))
     refine⟨?_,trivial⟩;conv=>whnf
     repeat (first
      | (refine ab (T':=aD B 1 0 dq) (by first|exact rfl|exact al (by omega)|exact an _|exact ae _ (by omega)) ?_;conv=>whnf)
      | (refine ab (T':=[]) (by exact af hB rfl) ?_;conv=>whnf))
     refine⟨?_,trivial⟩;conv=>whnf
     repeat (first
      | (refine ab (T':=aD B 1 0 dq) (by first|exact rfl|exact al (by omega)|exact an _|exact ae _ (by omega)) ?_;conv=>whnf)
      | (refine ab (T':=[]) (by exact af hB rfl) ?_;conv=>whnf))
     refine dR ?_;exact ax
   ·conv=>whnf
    repeat (first
     | (refine ab (T':=aD B 1 0 dq) (by first|exact rfl|exact al (by omega)|exact an _|exact ae _ (by omega)) ?_;conv=>whnf)
     | (refine ab (T':=[]) (by exact af hB rfl) ?_;conv=>whnf))
    refine⟨?_,trivial⟩;conv=>whnf
    repeat (first
     | (refine ab (T':=aD B 1 0 dq) (by first|exact rfl|exact al (by omega)|exact an _|exact ae _ (by omega)) ?_;conv=>whnf)
     | (refine ab (T':=[]) (by exact af hB rfl) ?_;conv=>whnf))
    refine⟨?_,trivial⟩;conv=>whnf
    repeat (first
     | (refine ab (T':=aD B 1 0 dq) (by first|exact rfl|exact al (by omega)|exact an _|exact ae _ (by omega)) ?_;conv=>whnf)
     | (refine ab (T':=[]) (by exact af hB rfl) ?_;conv=>whnf))
    refine⟨?_,trivial⟩;conv=>whnf
    repeat (first
     | (refine ab (T':=aD B 1 0 dq) (by first|exact rfl|exact al (by omega)|exact an _|exact ae _ (by omega)) ?_;conv=>whnf)
     | (refine ab (T':=[]) (by exact af hB rfl) ?_;conv=>whnf))
    refine dR ?_;exact ax
  | some l=>
   refine⟨?_,trivial⟩;conv=>whnf
   repeat (first
    | (refine ab (T':=aD B 1 0 dq) (by first|exact rfl|exact al (by omega)|exact an _|exact ae _ (by omega)) ?_;conv=>whnf)
    | (refine ab (T':=[]) (by exact af hB rfl) ?_;conv=>whnf))
   refine⟨?_,?_,trivial⟩
   ·conv=>whnf
    repeat (first
     | (refine ab (T':=aD B 1 0 dq) (by first|exact rfl|exact al (by omega)|exact an _|exact ae _ (by omega)) ?_;conv=>whnf)
     | (refine ab (T':=[]) (by exact af hB rfl) ?_;conv=>whnf))
    refine⟨?_,?_,trivial⟩
    ·conv=>whnf
     repeat (first
      | (refine ab (T':=aD B 1 0 dq) (by first|exact rfl|exact al (by omega)|exact an _|exact ae _ (by omega)) ?_;conv=>whnf)
      | (refine ab (T':=[]) (by exact af hB rfl) ?_;conv=>whnf))
     refine⟨?_,trivial⟩;conv=>whnf
     repeat (first
      | (refine ab (T':=aD B 1 0 dq) (by first|exact rfl|exact al (by omega)|exact an _|exact ae _ (by omega)) ?_;conv=>whnf)
      | (refine ab (T':=[]) (by exact af hB rfl) ?_;conv=>whnf))
     refine⟨?_,trivial⟩;conv=>whnf
     repeat (first
      | (refine ab (T':=aD B 1 0 dq) (by first|exact rfl|exact al (by omega)|exact an _|exact ae _ (by omega)) ?_;conv=>whnf)
      | (refine ab (T':=[]) (by exact af hB rfl) ?_;conv=>whnf))
     exact ax
    ·conv=>whnf
     repeat (first
      | (refine ab (T':=aD B 1 0 dq) (by first|exact rfl|exact al (by omega)|exact an _|exact ae _ (by omega)) ?_;conv=>whnf)
      | (refine ab (T':=[]) (by exact af hB rfl) ?_;conv=>whnf))
     refine⟨?_,trivial⟩;conv=>whnf
     repeat (first
      | (refine ab (T':=aD B 1 0 dq) (by first|exact rfl|exact al (by omega)|exact an _|exact ae _ (by omega)) ?_;conv=>whnf)
      | (refine ab (T':=[]) (by exact af hB rfl) ?_;conv=>whnf))
     refine⟨?_,trivial⟩;conv=>whnf
     repeat (first
      | (refine ab (T':=aD B 1 0 dq) (by first|exact rfl|exact al (by omega)|exact an _|exact ae _ (by omega)) ?_;conv=>whnf)
      | (refine ab (T':=[]) (by exact af hB rfl) ?_;conv=>whnf))
     exact ax
   ·conv=>whnf
    repeat (first
     | (refine ab (T':=aD B 1 0 dq) (by first|exact rfl|exact al (by omega)|exact an _|exact ae _ (by omega)) ?_;conv=>whnf)
     | (refine ab (T':=[]) (by exact af hB rfl) ?_;conv=>whnf))
    refine⟨?_,trivial⟩;conv=>whnf
    repeat (first
     | (refine ab (T':=aD B 1 0 dq) (by first|exact rfl|exact al (by omega)|exact an _|exact ae _ (by omega)) ?_;conv=>whnf)
     | (refine ab (T':=[]) (by exact af hB rfl) ?_;conv=>whnf))
    refine⟨?_,trivial⟩;conv=>whnf
    repeat (first
     | (refine ab (T':=aD B 1 0 dq) (by first|exact rfl|exact al (by omega)|exact an _|exact ae _ (by omega)) ?_;conv=>whnf)
     | (refine ab (T':=[]) (by exact af hB rfl) ?_;conv=>whnf))
    refine⟨?_,trivial⟩;conv=>whnf
    repeat (first
     | (refine ab (T':=aD B 1 0 dq) (by first|exact rfl|exact al (by omega)|exact an _|exact ae _ (by omega)) ?_;conv=>whnf)
     | (refine ab (T':=[]) (by exact af hB rfl) ?_;conv=>whnf))
    exact ax
theorem Fo{p:Prop}[Decidable p](l:List (List Int))(a:D)(h:cL a=aJ l):cL (if p then a else .nils)=aJ (if p then l else []):=by
 split
 ·exact h
 ·rfl
theorem Dp{p:Prop}[Decidable p](l:List Int)(a:D)(h:cL a=aj l):cL (if p then a else .nils)=aj (if p then l else []):=by
 split
 ·exact h
 ·rfl
theorem zh(l:List Int):cL (yO l)=aj l:=by
 cases l with
 | nil=>rfl
 | cons a r=>exact uP (a::r)
theorem MH(c:ao)(rota:List (List Int)):cy Try.prog 36 [c.d,aJ rota] (.tup [aJ (if fw c rota=0 then m6 c rota else []),i64 (fw c rota)]):=
 cy.cL (fun {σ}=>MG c rota) (by show D.tup [cL _,_]=_;rw[Fo _ _ (AY _)];rfl)
theorem MJ(c:ao)(rota:List (List Int))(from_:Int):cy Try.prog 38 [c.d,aJ rota,i64 from_] (.tup [aj (if ed c rota from_=0 then oE c rota from_ else []),i64 (ed c rota from_)]):=
 cy.cL (fun {σ}=>MI c rota from_) (by show D.tup [cL _,_]=_;rw[Dp _ _ (zh _)];rfl)
theorem Ct{c:ao}{rota:List (List Int)}(h:fw c rota=0):(m6 c rota).length<1000000 /\ ∀ r∈m6 c rota,r.length<1000000:=by
 have h0:b0 c rota=0:=by
  unfold fw at h;split at h
  ·assumption
  ·exact h
 obtain⟨hR,hl,_⟩:=eZ h0;have hm:=hR.aL;unfold m6 rK;rw[sO]
 cases ho:dF c (aB c) rota .zero with
 | none=>exact⟨by simp,fun r hr=>by cases hr⟩
 | some l=>
  refine⟨?_,fun r hr=>?_⟩
  ·show l.length<1000000
   rw[nS ho];omega
  ·rcases gM ((yl (i:=0) ho).2.2 r hr) with h1|h1
   ·rw[h1];simp
   ·omega
theorem Da{c:ao}{rota:List (List Int)}{from_:Int}(h:ed c rota from_=0):(oE c rota from_).length<1000000:=by
 have h0:b0 c rota=0:=by
  unfold ed at h;split at h
  ·assumption
  ·exact h
 have hm:=(eZ h0).1.aL;unfold oE;rw[List.length_map];have:=List.length_filter_le (fun(i:Nat)=>jl c (rW c rota from_) (rota.length-from_.toNat) i) (List.range c.aL.length);rw[List.length_range]at this;omega
theorem TP(c:ao)(rota:List (List Int))(from_:Int)(H2:rota.length<4000000000000000000):cy Try.prog 5 [c.d,aJ rota,i64 from_] (.bool true):=by
 refine bx Try.func5 rfl (ft:=R2) 3 fun {σ} Y st=>?_;conv=>whnf
 have BC:∃ A,(if fw c rota=0 then m6 c rota else [])=A/\A.length<1000000 /\ ∀ r∈A,r.length<1000000:=by
  refine⟨_,rfl,?_⟩;split
  ·rename_i h0
   exact Ct h0
  ·exact⟨by simp,fun r hr=>by cases hr⟩
 have Lz:∃ A,(if ed c rota from_=0 then oE c rota from_ else [])=A/\A.length<1000000:=by
  refine⟨_,rfl,?_⟩;split
  ·rename_i h0
   exact Da h0
  ·simp
 have JH:=fun {σ}=>@MH c rota σ;have JI:=fun {σ}=>@QH c rota H2 σ;have JJ:=fun {σ}=>@MJ c rota from_ σ;have JK:=fun {σ}=>@QI c rota from_ σ;obtain⟨A1,e1,c1,c2⟩:=BC;obtain⟨A2,e2,c3⟩:=Lz;rw[e1]at JH JI;rw[e2]at JJ JK;generalize fw c rota=E1 at JH JI;generalize ed c rota from_=E2 at JJ JK;repeat' (first
  | (refine aH (JH) rfl rfl ?_;conv=>whnf)
  | (refine a8 (JH) rfl 1 rfl ?_;conv=>whnf)
  | (refine aE (JH) rfl rfl ?_;conv=>whnf)
  | (refine cW (JH) rfl 1 rfl ?_;conv=>whnf)
  | (refine aH (JI) rfl rfl ?_;conv=>whnf)
  | (refine a8 (JI) rfl 1 rfl ?_;conv=>whnf)
  | (refine aE (JI) rfl rfl ?_;conv=>whnf)
  | (refine cW (JI) rfl 1 rfl ?_;conv=>whnf)
  | (refine aH (JJ) rfl rfl ?_;conv=>whnf)
  | (refine a8 (JJ) rfl 1 rfl ?_;conv=>whnf)
  | (refine aE (JJ) rfl rfl ?_;conv=>whnf)
  | (refine cW (JJ) rfl 1 rfl ?_;conv=>whnf)
  | (refine aH (JK) rfl rfl ?_;conv=>whnf)
  | (refine a8 (JK) rfl 1 rfl ?_;conv=>whnf)
  | (refine aE (JK) rfl rfl ?_;conv=>whnf)
  | (refine cW (JK) rfl 1 rfl ?_;conv=>whnf)
  | (refine aH (vi A2 A2 c3) rfl rfl ?_;conv=>whnf)
  | (refine a8 (vi A2 A2 c3) rfl 1 rfl ?_;conv=>whnf)
  | (refine aE (vi A2 A2 c3) rfl rfl ?_;conv=>whnf)
  | (refine cW (vi A2 A2 c3) rfl 1 rfl ?_;conv=>whnf)
  | (refine aH (zD A1 A1 c1 c2) rfl rfl ?_;conv=>whnf)
  | (refine a8 (zD A1 A1 c1 c2) rfl 1 rfl ?_;conv=>whnf)
  | (refine aE (zD A1 A1 c1 c2) rfl rfl ?_;conv=>whnf)
  | (refine cW (zD A1 A1 c1 c2) rfl 1 rfl ?_;conv=>whnf)
  | (refine aH (Hs) rfl rfl ?_;conv=>whnf)
  | (refine a8 (Hs) rfl 1 rfl ?_;conv=>whnf)
  | (refine aE (Hs) rfl rfl ?_;conv=>whnf)
  | (refine cW (Hs) rfl 1 rfl ?_;conv=>whnf)
  | (simp only[eq_self,decide_true,Bool.not_true];conv=>whnf)
  | (refine ah ?_;conv=>whnf)
  | (refine ai (by assumption) ?_;conv=>whnf)
  | (refine ar (by first|rfl|assumption|(simp[aC.len];done)|(simp[aC.len];omega)) ?_;conv=>whnf)
  | (refine aR (by first|(exact decide_eq_true (by(try simp only[List.length_map]);omega))|(simp[aC.len,aC.cons,V.cells,aC.aU,aO];done)|(simp[aC.len,aC.cons,V.cells,aC.aU,aO];omega)) ?_;conv=>whnf)
  | fail)
 all_goals exact ax
end Go.PX
