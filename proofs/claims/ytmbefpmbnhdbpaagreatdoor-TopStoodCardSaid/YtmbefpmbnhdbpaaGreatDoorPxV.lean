import Derived.Test.YtmbefpmbnhdbpaaGreatDoorPxU
import Derived.Test.YtmbefpmbnhdbpaaGreatDoorPxT
import Derived.Test.YtmbefpmbnhdbpaaGreatDoorPxN
import Derived.Test.YtmbefpmbnhdbpaaGreatDoorPxR
import Derived.Test.YtmbefpmbnhdbpaaGreatDoorPxS
import Derived.Test.YtmbefpmbnhdbpaaGreatDoorPxM
import Derived.Test.YtmbefpmbnhdbpaaGreatDoorPxQ
import Derived.Test.YtmbefpmbnhdbpaaGreatDoorPxK
import Derived.Lib.AtoiAllCases
import Derived.Laws.IdiomStrings
set_option linter.all false
set_option maxRecDepth 10000
namespace Go.PX
open Go.Proofs
def gW(l:List sD):List ByteArray:=l.map (·.name)
theorem OA(n:Int)(b:List sD)(x:sD):qU n b x=if kA x.name (gW b)=0 then (if fX x.kind 0 3 then kx n (-1) x.no else 7) else kA x.name (gW b):=by
 have h:((gW b).any fun y=>decide (y=x.name))=b.any fun y=>decide (y.name=x.name):=by
  unfold gW;rw[List.any_map];rfl
 unfold qU kA;rw[h];cases eH x.name<;>cases (b.any fun y=>decide (y.name=x.name))<;>simp
theorem aaP(c:aA):bq Tryz.prog 6 [c.d] (tri (gB c)):=by
 refine aI mixed ak Tryz.func6 rfl (ft:=ft6) 1 (by decide +kernel) (by rfl) fun {σ} Y st=>?_;conv=>whnf
 unfold gB;rw[List.length_map];refine ai (ds:=[i64 c.bQ.length,i64 1,i64 5]) (ES _ 1 5) rfl rfl ?_
 cases h0:fX c.bQ.length 1 5 with
 | false=>
  conv=>whnf
  exact ab 0 rfl ⟨⟨rfl,rfl⟩,rfl⟩
 | true=>
 conv=>whnf
 rw[List.length_map];refine ai (ds:=[i64 c.bp.length,i64 1,i64 6]) (ES _ 1 6) rfl rfl ?_
 cases h1:fX c.bp.length 1 6 with
 | false=>
  conv=>whnf
  exact ab 0 rfl ⟨⟨rfl,rfl⟩,rfl⟩
 | true=>
 rw[gv]at h0 h1;conv=>whnf
 refine ai (ds:=[i64 c.run,i64 1,i64 3]) (ES _ 1 3) rfl rfl ?_
 cases h2:fX c.run 1 3 with
 | false=>
  conv=>whnf
  exact ab 0 rfl ⟨⟨rfl,rfl⟩,rfl⟩
 | true=>
 conv=>whnf
 refine ai (ds:=[i64 c.rest,i64 1,i64 3]) (ES _ 1 3) rfl rfl ?_
 cases h3:fX c.rest 1 3 with
 | false=>
  conv=>whnf
  exact ab 0 rfl ⟨⟨rfl,rfl⟩,rfl⟩
 | true=>
 simp only[Bool.and_self,if_true];conv=>whnf
 refine bx (T:=tys) ak (by exact an mixed ak (by decide +kernel)) c.bp (fun i (_:Unit)=>⟨[(1,.ptr 1 0),(5,.d (i64 i))],[(1,.box (.dd c.cells))],st⟩) (fun i r _=>eY l8 [] c.bp 0=eY l8 (c.bp.take i) r i) () (Wk.sub (by repeat' first|constructor|simp[PX.get]) ⟨(by first|rfl|simp[PX.get]),trivial⟩) rfl ?_ ?_
 ·intro i x r _ hx hi hr he
  rw[eY]at he;have wg:c.bp.take (i+1)=c.bp.take i ++ [x]:=by rw[List.take_succ,hx];rfl
  conv=>whnf
  refine af (fun _=>?_) (fun h=>absurd hi (by have:=of_decide_eq_false h;simp at this;omega));conv=>whnf
  refine aw hx ?_;conv=>whnf
  refine ai (ds:=[i64 x.bQ,i64 1,i64 2]) (ES _ 1 2) rfl rfl ?_
  cases h4:fX x.bQ 1 2 with
  | false=>
   conv=>whnf
   rw[he];simp only[l8,h4];exact ab 0 rfl ⟨⟨rfl,rfl⟩,rfl⟩
  | true=>
  conv=>whnf
  refine aw hx ?_;conv=>whnf
  refine ai (ds:=[i64 x.least,i64 0,i64 3]) (ES _ 0 3) rfl rfl ?_
  cases h5:fX x.least 0 3 with
  | false=>
   conv=>whnf
   rw[he];simp only[l8,h4,h5];exact ab 0 rfl ⟨⟨rfl,rfl⟩,rfl⟩
  | true=>
  have hs:l8 (c.bp.take i) x=0:=by simp[l8,h4,h5]
  rw[if_pos hs,<- wg]at he;conv=>whnf
  refine ae (wrap_i64 (by(try dsimp only);omega)) ?_;conv=>whnf
  exact⟨(),he,(Wk.sub (by repeat' first|constructor|simp[PX.get]) ⟨(by first|rfl|simp[PX.get]),trivial⟩)⟩
 intro _ he;rw[List.take_length,eY]at he;rw[he];simp only[if_true];conv=>whnf
 refine af (fun h=>absurd h (by simp)) (fun _=>?_);conv=>whnf
 unfold xv;refine bx (T:=tys) ak (by exact an mixed ak (by decide +kernel)) c.bQ (fun i (_:Unit)=>⟨[(1,.ptr 1 0),(6,.sl 80 1 0 i),(7,.d (i64 i))],[(1,.box (.dd c.cells)),(80,.arr 1 (.dd ((gW (c.bQ.take i)).map fun s=>[.str s])))],st⟩) (fun i r _=>eY (qU c.bp.length) [] c.bQ 0=eY (qU c.bp.length) (c.bQ.take i) r i) ()
  ((Wk.born 6 80 1 rfl rfl rfl).trans (Wk.sub (by repeat' first|constructor|simp[PX.get]) (by repeat' first|constructor|simp[PX.get]))) rfl ?_ ?_
 ·intro i x r _ hx hi hr he
  rw[eY]at he;have wg:c.bQ.take (i+1)=c.bQ.take i ++ [x]:=by rw[List.take_succ,hx];rfl
  have hE:=OA c.bp.length (c.bQ.take i) x;have nt:(gW (c.bQ.take i)).length=i:=by unfold gW;simp;omega
  conv=>whnf
  refine af (fun _=>?_) (fun h=>absurd hi (by have:=of_decide_eq_false h;simp at this;omega));conv=>whnf
  refine aw hx ?_;conv=>whnf
  refine aB (ds:=[.str x.name,Bc (gW (c.bQ.take i))]) (Tl x.name (gW (c.bQ.take i)) (by omega)) rfl 1 (az rfl (az (bH rfl (by simp[nt])) rfl)) ?_;conv=>whnf
  refine aw hx ?_;conv=>whnf
  refine ag rfl ?_;conv=>whnf
  refine ag (by simp[aK.len,nt]) ?_;conv=>whnf
  refine aQ (decide_eq_true (by
   show(((gW (c.bQ.take i)).map fun s=>[D.str s]).length+1)*16<=140737488355328;rw[List.length_map];omega)) ?_
  conv=>whnf
  generalize kA x.name (gW (c.bQ.take i))=F at hE ⊢;have AI:(gW (c.bQ.take i)).map (fun s=>[D.str s]) ++ [[.str x.name]]=(gW (c.bQ.take (i+1))).map fun s=>[.str s]:=by
   rw[wg];simp[gW]
  have Rn:((gW (c.bQ.take i)).map fun s=>[D.str s]).length+1=i+1:=by rw[List.length_map,nt]
  refine af (fun h2=>?_) (fun h2=>?_)
  ·have h2:F=0:=of_decide_eq_true h2
   subst h2;simp only[if_true]at hE;conv=>whnf
   refine aw hx ?_;conv=>whnf
   refine ai (ds:=[i64 x.kind,i64 0,i64 3]) (ES _ 0 3) rfl rfl ?_
   cases h3:fX x.kind 0 3 with
   | false=>
    rw[h3]at hE;simp only[Bool.false_eq_true,if_false]at hE;rw[hE]at he;conv=>whnf
    rw[he];exact ab 0 rfl ⟨⟨rfl,rfl⟩,rfl⟩
   | true=>
    rw[h3]at hE;simp only[if_true]at hE;conv=>whnf
    refine aw hx ?_;conv=>whnf
    rw[List.length_map];refine aH (ds:=[ax x.no,i64 c.bp.length]) (aa2 x.no c.bp.length (by omega)) rfl rfl ?_;generalize kx c.bp.length (-1) x.no=E at hE ⊢;conv=>whnf
    refine af (fun h4=>?_) (fun h4=>?_)
    ·have h4:¬ E=0:=by simpa using h4
     rw[hE,if_neg h4]at he;conv=>whnf
     rw[he];dsimp only;rw[if_neg h4];exact ab 0 rfl ⟨⟨rfl,rfl⟩,rfl⟩
    ·have h4:E=0:=by simpa using h4
     rw[hE,if_pos h4,<- wg]at he;conv=>whnf
     refine ae (wrap_i64 (by(try dsimp only);omega)) ?_;conv=>whnf
     refine⟨(),he,Wk.sub ⟨rfl,?_,rfl,trivial⟩ ⟨rfl,?_,trivial⟩⟩
     ·show some (V.sl 80 1 0 (((gW (c.bQ.take i)).map fun s=>[D.str s]).length+1))=_
      rw[Rn]
     ·show some (Obj.arr 1 (aK.dd ((gW (c.bQ.take i)).map (fun s=>[D.str s]) ++ [[.str x.name]])))=_
      rw[AI]
  ·have h2:¬ F=0:=of_decide_eq_false h2
   rw[if_neg h2]at hE;rw[hE,if_neg h2]at he;conv=>whnf
   refine af (fun h3=>absurd (of_decide_eq_true h3) h2) (fun _=>?_);conv=>whnf
   refine af (fun _=>?_) (fun h3=>absurd h3 (by simp[h2]));conv=>whnf
   rw[he];dsimp only;rw[if_neg h2];exact ab 0 rfl ⟨⟨rfl,rfl⟩,rfl⟩
 ·intro _ he
  rw[List.take_length,eY]at he;rw[he];conv=>whnf
  refine af (fun h=>absurd h (by simp)) (fun _=>?_);conv=>whnf
  exact ab 0 rfl ⟨⟨rfl,rfl⟩,rfl⟩
def sj(p:List Int):Nat:=match p.getLast? with
 | none=>0
 | some x=>(x+1).toNat
def oC(below:Nat):Nat->List Int->List (List Int)
 | 0,p=>[p]
 | many+1,p=>(List.range' (sj p) (below-sj p)).flatMap fun(i:Nat)=>oC below many (p ++ [(i:Int)])
theorem JI{below:Nat}{p:List Int}(hp:∀ x∈p,0<=x/\x<below):sj p<=below:=by
 unfold sj
 cases h:p.getLast? with
 | none=>simp
 | some x=>
  have:=hp x (List.mem_of_getLast? h);simp only;omega
theorem EH(p:List Int)(i:Nat):sj (p ++ [(i:Int)])=i+1:=by
 unfold sj;rw[List.getLast?_append];simp only[List.getLast?_singleton,Option.some_or];omega
theorem ta{c:aA}{set:Int}{t:av}{s:Slot}:∀ {left:Nat} {p:List Int} {start:Nat},sj p=start->et c set t s left p start=((oC c.bQ.length left p).filter fun g=>decide ((qs c set t s g).1=0)).map fun g=>(g,eb c t g)
 | 0,p,start,_=>by
  rw[et,oC,List.filter_cons];by_cases h:(qs c set t s p).1=0
  ·rw[if_pos h,if_pos (by simpa using h)];rfl
  ·rw[if_neg h,if_neg (by simpa using h)];rfl
 | left+1,p,start,hs=>by
  rw[et,oC,hs,List.filter_flatMap,List.map_flatMap]
  congr 1
  funext i
  exact ta (EH p i)
theorem DZ{below:Nat}:∀ {many:Nat} {p:List Int},(∀ x∈p,0<=x/\x<below) -> ∀ g∈oC below many p,g.length=p.length+many /\ ∀ x∈g,0<=x/\x<below
 | 0,p,hp,g,hg=>by
  rw[oC,List.mem_singleton]at hg;subst hg;exact⟨rfl,hp⟩
 | many+1,p,hp,g,hg=>by
  rw[oC,List.mem_flatMap]at hg;obtain⟨i,hi,hg⟩:=hg;rw[List.mem_range'_1]at hi;have h1:=JI hp;obtain⟨h2,h3⟩:=DZ (many:=many) (p:=p ++ [(i:Int)]) (fun x hx=>by
   rcases List.mem_append.1 hx with hx|hx
   ·exact hp x hx
   ·rw[List.mem_singleton]at hx;subst hx;omega) g hg
  refine⟨by rw[h2];simp;omega,h3⟩
def Bx:aA:={ dv 2 false with bQ:=[S7,Te] }
theorem aw1:Io (dv 2 false) (cz [0,2,0])=(2,5,0,0):=by decide +kernel
theorem aw2:gr (dv 2 false) (cz [0,2,1,0])=0/\zh 3 (cz [0,2,1,0]) = [2,1,1]:=by decide +kernel
theorem XK:gr (dv 2 false) (cz [0])=0/\Ir (dv 2 false) (cz [0])=cz [1,2]:=by decide +kernel
theorem aw4:Me (dv 2 false) (cz [0])=cz [2]:=by decide +kernel
theorem aw5:cB Bx []=0/\RY Bx=2:=by decide +kernel
theorem Ta:cB (dv 2 false) []=0/\fT (dv 2 false) (aN (dv 2 false)) .zero=true/\Ai (dv 2 false)=(cz [0,2,1,0,2],2):=by decide +kernel
theorem aw7:cB (dv 1 false) []=0/\KR (dv 1 false) = [0,1]:=by decide +kernel
theorem aw8:Mc (dv 2 false) = [0,1,2]:=by decide +kernel
theorem aw9:sZ (dv 2 false) [[],[2],[]]=0/\KS (dv 2 false) [[],[2],[]]=cz [0,2,1]:=by decide +kernel
theorem S9:nC (dv 2 false) (cz [0,2,1,0]) 3=0/\FZ (dv 2 false) (cz [0,2,1,0]) 3 = [1,2]:=by decide +kernel
theorem XJ:gr (dv 2 false) (cz [0,0])=9:=by decide +kernel
theorem kr(l:List Int)(x:Int)(r:List Int)(h:l=x::r)(hl:l.length<=1000):bq Tryz.prog 29 [ax l] (bt (cz l)):=by
 subst h;exact aaY _ hl
theorem k17:bq Tryz.prog 28 [(dv 2 false).d,bt (cz [0,2,0])] (.tup [i64 2,i64 5,i64 0,i64 0]):=
 bq.cast (aaQ _ _) (by rw[aw1])
theorem k19:bq Tryz.prog 30 [(dv 2 false).d,bt (cz [0,2,1,0])] (.tup [ax [2,1,1],i64 0]):=
 bq.cast (aaR _ _) (by rw[aw2.1,if_pos rfl,show(dv 2 false).bQ.length=3 from rfl,aw2.2])
theorem k22:bq Tryz.prog 31 [(dv 2 false).d,bt (cz [0])] (.tup [bt (cz [1,2]),i64 0]):=
 bq.cast (WB _ _) (by rw[XK.1,if_pos rfl,XK.2];rfl)
theorem k25:bq Tryz.prog 32 [(dv 2 false).d,bt (cz [0])] (.tup [bt (cz [2]),i64 0]):=
 bq.cast (aaS _ _) (by rw[XK.1,if_pos rfl,aw4];rfl)
theorem k28:bq Tryz.prog 33 [Bx.d] (.tup [i64 2,i64 0]):=
 bq.cast (aaT _) (by rw[aw5.1,if_pos rfl,aw5.2])
theorem k30:bq Tryz.prog 11 [(dv 2 false).d] (.tup [bt (cz [0,2,1,0,2]),i64 2,i64 0]):=
 bq.cast (WC _) (by rw[Ta.1,Ta.2.1,Ta.2.2];rfl)
theorem k32:bq Tryz.prog 34 [(dv 1 false).d] (.tup [ax [0,1],i64 0]):=
 bq.cast (aaU _) (by rw[aw7.1,aw7.2];rfl)
theorem k34:bq Tryz.prog 35 [(dv 2 false).d] (.tup [ax [0,1,2],i64 0]):=
 bq.cast (aaV _) (by rw[Ta.1,Ta.2.1,aw8];rfl)
theorem k36:bq Tryz.prog 36 [(dv 2 false).d,bt [[],[2],[]]] (.tup [bt (cz [0,2,1]),i64 0]):=
 bq.cast (aaW _ _) (by rw[aw9.1,aw9.2];rfl)
theorem k38:bq Tryz.prog 37 [(dv 2 false).d,bt (cz [0,2,1,0]),i64 3] (.tup [ax [1,2],i64 0]):=
 bq.cast (aaX _ _ _) (by rw[S9.1,S9.2];rfl)
theorem aae:bq Tryz.prog 31 [(dv 2 false).d,bt (cz [0,0])] (.tup [.nils,i64 9]):=
 bq.cast (WB _ _) (by rw[XJ];rfl)
theorem JO:bq Tryz.prog 7 [] (.bool true):=by
 refine aI mixed ak Tryz.func7 rfl (ft:=ft7) 0 (by decide +kernel) (by rfl) fun {σ} Y st=>?_;conv=>whnf
 refine ai (ds:=[i64 2,.bool false]) (Sq 2 false) rfl rfl ?_;conv=>whnf
 refine ai (ds:=[i64 2,.bool false]) (Sq 2 false) rfl rfl ?_;conv=>whnf
 refine iW (ds:=[ax [0,2,0]]) (kr [0,2,0] _ _ rfl (by simp)) 1 rfl rfl ?_;conv=>whnf
 refine aH (ds:=[(dv 2 false).d,bt (cz [0,2,0])]) k17 rfl rfl ?_;conv=>whnf
 refine iW (ds:=[ax [0,2,1,0]]) (kr [0,2,1,0] _ _ rfl (by simp)) 1 rfl rfl ?_;conv=>whnf
 refine aH (ds:=[(dv 2 false).d,bt (cz [0,2,1,0])]) k19 rfl rfl ?_;conv=>whnf
 refine iW (ds:=[ax [0]]) (kr [0] _ _ rfl (by simp)) 1 rfl rfl ?_;conv=>whnf
 refine aH (ds:=[(dv 2 false).d,bt (cz [0])]) k22 rfl rfl ?_;conv=>whnf
 refine iW (ds:=[ax [0]]) (kr [0] _ _ rfl (by simp)) 1 rfl rfl ?_;conv=>whnf
 refine aH (ds:=[(dv 2 false).d,bt (cz [0])]) k25 rfl rfl ?_;conv=>whnf
 refine aB (ds:=[Bx.d]) k28 rfl 2 rfl ?_;conv=>whnf
 refine ai (ds:=[(dv 2 false).d]) k30 rfl rfl ?_;conv=>whnf
 refine ai (ds:=[i64 1,.bool false]) (Sq 1 false) rfl rfl ?_;conv=>whnf
 refine ai (ds:=[(dv 1 false).d]) k32 rfl rfl ?_;conv=>whnf
 refine ai (ds:=[(dv 2 false).d]) k34 rfl rfl ?_;conv=>whnf
 refine Ie 2 [93,94] ?_;refine ue (args':=[.d (dv 2 false).d,.d (bt [[],[2],[]])]) (fun yv L F w l h=>by
  obtain⟨x1,l1,rfl,h1,x2,l2,rfl,h2,h3⟩:=h;exact⟨x1,_,rfl,h1,x2,_,rfl,bM.cO (.vs [[.nils],[ax [2]],[.nils]]) x2 h2,h3⟩) ?_
 refine ai (ds:=[(dv 2 false).d,bt [[],[2],[]]]) k36 rfl rfl ?_;conv=>whnf
 refine iW (ds:=[ax [0,2,1,0]]) (kr [0,2,1,0] _ _ rfl (by simp)) 1 rfl rfl ?_;conv=>whnf
 refine aH (ds:=[(dv 2 false).d,bt (cz [0,2,1,0]),i64 3]) k38 rfl rfl ?_;conv=>whnf
 refine iW (ds:=[ax [0,0]]) (kr [0,0] _ _ rfl (by simp)) 1 rfl rfl ?_;conv=>whnf
 refine aH (ds:=[(dv 2 false).d,bt (cz [0,0])]) aae rfl rfl ?_;conv=>whnf
 refine aB (ds:=[ax [2,1,1],ax [2,1,1]]) (ID [2,1,1] [2,1,1] (by simp)) rfl 1 rfl ?_;conv=>whnf
 refine gp (ds:=[ax [1,2]]) (kr [1,2] _ _ rfl (by simp)) 1 [173] rfl rfl ?_;conv=>whnf
 refine ai (ds:=[bt (cz [1,2]),bt (cz [1,2])]) (Pe (cz [1,2]) (cz [1,2]) (by decide) (by decide)) rfl rfl ?_;conv=>whnf
 refine gp (ds:=[ax [2]]) (kr [2] _ _ rfl (by simp)) 1 [179] rfl rfl ?_;conv=>whnf
 refine ai (ds:=[bt (cz [2]),bt (cz [2])]) (Pe (cz [2]) (cz [2]) (by decide) (by decide)) rfl rfl ?_;conv=>whnf
 refine gp (ds:=[ax [0,2,1,0,2]]) (kr [0,2,1,0,2] _ _ rfl (by simp)) 1 [189] rfl rfl ?_;conv=>whnf
 refine ai (ds:=[bt (cz [0,2,1,0,2]),bt (cz [0,2,1,0,2])]) (Pe (cz [0,2,1,0,2]) (cz [0,2,1,0,2]) (by decide) (by decide)) rfl rfl ?_;conv=>whnf
 refine aB (ds:=[ax [0,1],ax [0,1]]) (ID [0,1] [0,1] (by simp)) rfl 1 rfl ?_;conv=>whnf
 refine aB (ds:=[ax [0,1,2],ax [0,1,2]]) (ID [0,1,2] [0,1,2] (by simp)) rfl 1 rfl ?_;conv=>whnf
 refine gp (ds:=[ax [0,2,1]]) (kr [0,2,1] _ _ rfl (by simp)) 1 [209] rfl rfl ?_;conv=>whnf
 refine ai (ds:=[bt (cz [0,2,1]),bt (cz [0,2,1])]) (Pe (cz [0,2,1]) (cz [0,2,1]) (by decide) (by decide)) rfl rfl ?_;conv=>whnf
 refine aB (ds:=[ax [1,2],ax [1,2]]) (ID [1,2] [1,2] (by simp)) rfl 1 rfl ?_;conv=>whnf
 exact ab 0 rfl ⟨⟨rfl,rfl⟩,rfl⟩
def NO(c:aA)(rota:List (List Int)):av:=(bO c (aN c) .zero rota 0).2
def PK(c:aA)(rota:List (List Int)):Prop:=(bO c (aN c) .zero rota 0).1.1 = -1
theorem vU{c:aA}{set:Int}:∀ {l1 l2:List (List Int)} {t:av} {i:Int},0<=i->(bO c set t l1 i).1.1 = -1->bO c set t (l1++l2) i=bO c set (bO c set t l1 i).2 l2 (i+l1.length)
 | [],l2,t,i,_,_=>by simp[bO]
 | r::l1,l2,t,i,hi,h=>by
  rw[bO]at h;rw[List.cons_append,bO,bO];split
  ·rename_i h1
   rw[if_pos h1]at h;rw[vU (by omega) h]
   congr 1
   simp;omega
  ·rename_i h1
   rw[if_neg h1]at h;simp only at h;omega
theorem zo{c:aA}{set:Int}:∀ {l:List (List Int)} {t:av} {i j:Int},0<=i->0<=j->((bO c set t l i).1.1 = -1↔(bO c set t l j).1.1 = -1)/\(bO c set t l i).2=(bO c set t l j).2
 | [],t,i,j,_,_=>by simp[bO]
 | r::l,t,i,j,hi,hj=>by
  rw[bO,bO];split
  ·exact zo (by omega) (by omega)
  ·exact⟨⟨fun h=>by simp only at h;omega,fun h=>by simp only at h;omega⟩,rfl⟩
theorem Cu{c:aA}{set:Int}{l1 l2:List (List Int)}{t:av}(h:(bO c set t l1 0).1.1 = -1):((bO c set t (l1++l2) 0).1.1 = -1↔(bO c set (bO c set t l1 0).2 l2 0).1.1 = -1)/\(bO c set t (l1++l2) 0).2=(bO c set (bO c set t l1 0).2 l2 0).2:=by
 rw[vU (Int.le_refl 0) h];exact zo (by omega) (Int.le_refl 0)
theorem IJ{c:aA}{set:Int}{t:av}{x:List Int×av}(h:x∈cW c set t):(M8 c set t x.1).1=0/\x.2=eb c t x.1:=rP h
theorem K4{c:aA}{set:Int}{t:av}{x:List Int×av}(h:x∈cW c set t):xf c x.1:=by
 unfold cW at h;rw[ta (p:=[]) (start:=0) rfl,List.mem_map]at h;obtain⟨g,hg,rfl⟩:=h;exact(DZ (p:=[]) (fun x hx=>by cases hx) g (List.mem_filter.1 hg).1).2
structure J6(c:aA)(r:List (List Int)×Int):Prop where
 NU:PK c r.1
 WQ:0<=r.2/\r.2<r.1.length
 same:NO c (r.1.take r.2.toNat)=NO c r.1
 rows:∀ x∈r.1,xf c x/\x.length<=2
 len:r.1.length<=gq
theorem Hc{c:aA}(hR:WR c):∀ (n:Nat) (seen:Kn) (rota:List (List Int)) (t:av),jz c t->fT c (aN c) t=true->xA c seen<n->PK c rota->NO c rota=t ->
  (∀ u i,cP seen u=some i->(0<=i/\i<rota.length)/\NO c (rota.take i.toNat)=u)->(∀ x∈rota,xf c x/\x.length<=2)->rota.length+xA c seen<=gq->J6 c (vi c n seen rota t)
 | 0,_,_,_,_,_,h,_,_,_,_,_=>by omega
 | n+1,seen,rota,t,ht,ha,hn,hg,he,hs,hr,hl=>by
  rw[vi]
  cases hk:cP seen t with
  | some i=>
   obtain⟨h1,h2⟩:=hs t i hk;exact⟨hg,h1,by rw[h2,he],hr,by simp only;omega⟩
  | none=>
   obtain⟨⟨g,u⟩,hf⟩:=xL hR ht ha;rw[hf];simp only;have wb:(g,u)∈cW c (aN c) t:=List.mem_of_find?_eq_some hf;have Ng:fT c (aN c) u=true:=by have:=List.find?_some hf;exact this
   obtain⟨hw,hu⟩:=IJ wb;have hc:=CZ ht hk rota.length;have hlen:=lH hR wb;obtain⟨a1,a2⟩:=Cu (l2:=[g]) hg;have jA:(bO c (aN c) (bO c (aN c) .zero rota 0).2 [g] 0)=((-1,0,0),u):=by
    have Lf:(bO c (aN c) .zero rota 0).2=t:=he;rw[Lf,bO,if_pos hw,bO,<- hu]
   rw[jA]at a1 a2;refine Hc hR n _ _ u (gf hR ht wb) Ng (by omega) (a1.2 rfl) a2 (fun v i hv=>?_) (fun x hx=>?_) (by simp;omega)
   ·rw[bT]at hv
    split at hv
    ·rename_i e
     cases hv;subst e;refine⟨by simp;omega,?_⟩;simp only[Int.toNat_natCast,List.take_left'];exact he
    ·obtain⟨h1,h2⟩:=hs v i hv
     refine⟨by simp;omega,?_⟩;rw[List.take_append_of_le_length (by omega)];exact h2
   ·rcases List.mem_append.1 hx with hx|hx
    ·exact hr x hx
    ·rw[List.mem_singleton]at hx
     subst hx;exact⟨K4 wb,hlen⟩
theorem KL{c:aA}(hR:WR c)(h:fT c (aN c) .zero=true):J6 c (Ai c):=by
 have h1:xA c []<=(univ c).length:=List.length_filter_le ..;have:=nQ hR;exact Hc hR (gq+1) [] [] .zero (jz.zero hR) h (by omega) rfl rfl (fun u i h=>by cases h) (fun x hx=>by cases hx) (by simp;omega)
end Go.PX
namespace Go.PX
open Go.Proofs
open Go.RowKit
def fQ(r:List (List Int)×Int)(k:Nat):List Int:=r.1.getD (if k<r.1.length then k else r.2.toNat+(k-r.2.toNat)%(r.1.length-r.2.toNat)) []
theorem Wi(r:List (List Int)×Int)(k:Nat)(hf:0<=r.2/\r.2<r.1.length)(hl:r.1.length<=100000)(hk:k<=100000):bq Tryz.prog 13 [bt r.1,i64 r.2,i64 k] (ax (fQ r k)):=by
 obtain⟨rota,WQ⟩:=r;simp only at hf hl;obtain⟨f,rfl⟩:∃ f:Nat,WQ=f:=⟨WQ.toNat,by omega⟩;show bq Tryz.prog 13 [bt rota,i64 f,i64 k] _;refine aI mixed ak Tryz.func13 rfl (ft:=XW) 3 (by decide +kernel) (by rfl) fun {σ} Y st=>?_;conv=>whnf
 refine af (fun h1=>?_) (fun h1=>?_)
 ·have h1:k<rota.length:=by have:=of_decide_eq_true h1;simp at this;omega
  have e:fQ (rota,(f:Int)) k=rota[k]:=by
   unfold fQ;simp only;rw[if_pos h1,List.getD_eq_getElem?_getD,List.getElem?_eq_getElem h1];rfl
  rw[e];have hg:rota[k]?=some rota[k]:=List.getElem?_eq_getElem h1;conv=>whnf
  refine aw hg ?_;conv=>whnf
  exact ab 0 rfl ⟨⟨rfl,rfl⟩,rfl⟩
 ·have h1:rota.length<=k:=by have:=of_decide_eq_false h1;simp at this;omega
  have hm:(k-f)%(rota.length-f)<rota.length-f:=Nat.mod_lt _ (by omega);have e:fQ (rota,(f:Int)) k=rota[f+(k-f)%(rota.length-f)]:=by
   unfold fQ;simp only[Int.toNat_natCast];rw[if_neg (by omega),List.getD_eq_getElem?_getD,List.getElem?_eq_getElem (by omega)];rfl
  rw[e];have hg:rota[f+(k-f)%(rota.length-f)]?=some rota[f+(k-f)%(rota.length-f)]:=List.getElem?_eq_getElem (by omega);generalize rota[f+(k-f)%(rota.length-f)]=row at hg ⊢;conv=>whnf
  refine ao (((k-f:Nat):Int)) (by(try dsimp only);omega) (wrap_i64 (by(try dsimp only);omega)) ?_;conv=>whnf
  refine ao ((rota.length-f:Nat):Int) (by rw[List.length_map];omega) (wrap_i64 (by omega)) ?_;conv=>whnf
  refine aQ (decide_eq_true (by omega)) ?_;conv=>whnf
  have Xj:(((k-f:Nat):Int).tmod ((rota.length-f:Nat):Int))=(((k-f)%(rota.length-f):Nat):Int):=by
   rw[Int.tmod_eq_emod_of_nonneg (by omega)];omega
  refine ao ((f+(k-f)%(rota.length-f):Nat):Int) (by rw[Xj];omega) (wrap_i64 (by omega)) ?_;conv=>whnf
  refine aw hg ?_;conv=>whnf
  exact ab 0 rfl ⟨⟨rfl,rfl⟩,rfl⟩
def xG(l:aM)(w1 w2:Int):c8×Bool:=
 match l.aj[w1.toNat%l.aj.length]? with
 | some b=>if b.ar.length=0 then (⟨0,0⟩,false) else (⟨(w1.toNat%l.aj.length:Nat),(w2.toNat%b.ar.length:Nat)⟩,true)
 | none=>(⟨0,0⟩,false)
theorem aaK(l:aM)(w1 w2:Int)(hl:1<=l.aj.length/\l.aj.length<=3)(hb:∀ b∈l.aj,b.ar.length<=8)(h1:0<=w1/\w1<=255)(h2:0<=w2/\w2<=255):bq Tryz.prog 10 [l.d,.agg [.int .u8 w1,.int .u8 w2]] (.tup [(xG l w1 w2).1.d,.bool (xG l w1 w2).2]):=by
 obtain⟨a,rfl⟩:∃ a:Nat,w1=a:=⟨w1.toNat,by omega⟩;obtain⟨k,rfl⟩:∃ k:Nat,w2=k:=⟨w2.toNat,by omega⟩;have hi:a%l.aj.length<l.aj.length:=Nat.mod_lt _ (by omega);obtain⟨b,hg⟩:∃ b,l.aj[a%l.aj.length]?=some b:=⟨_,List.getElem?_eq_getElem hi⟩;have wF:=hb b (List.mem_of_getElem? hg);unfold xG;simp only[Int.toNat_natCast,hg];obtain⟨i,hia⟩:∃ i,a%l.aj.length=i:=⟨_,rfl⟩;rw[hia]at hi hg ⊢;show bq Tryz.prog 10 [l.d,.agg [.int .u8 a,.int .u8 k]] _;refine aI mixed ak Tryz.func10 rfl (ft:=XU) 2 (by decide +kernel) (by rfl) fun {σ} Y st=>?_;conv=>whnf
 refine ao (a:Int) rfl (wrap_i64 (by omega)) ?_;conv=>whnf
 refine aQ (decide_eq_true (by rw[List.length_map];omega)) ?_;conv=>whnf
 rw[show((a:Int).tmod ((List.map au.cells l.aj).length:Nat))=(i:Int) by rw[List.length_map,Int.tmod_eq_emod_of_nonneg (by omega)];omega];refine aw hg ?_;conv=>whnf
 refine af (fun h0=>?_) (fun h0=>?_)
 ·have h0:b.ar.length=0:=by have:=of_decide_eq_true h0;rw[List.length_map]at this;omega
  rw[if_pos h0];conv=>whnf
  exact ab 0 rfl ⟨⟨rfl,rfl⟩,rfl⟩
 ·have h0:¬ b.ar.length=0:=by have:=of_decide_eq_false h0;rw[List.length_map]at this;omega
  rw[if_neg h0];have Xf:k%b.ar.length<b.ar.length:=Nat.mod_lt _ (by omega);conv=>whnf
  refine ao (k:Int) rfl (wrap_i64 (by omega)) ?_;conv=>whnf
  refine aw hg ?_;conv=>whnf
  refine aQ (decide_eq_true (by rw[List.length_map];omega)) ?_;conv=>whnf
  rw[show((k:Int).tmod ((List.map aW.cells b.ar).length:Nat))=((k%b.ar.length:Nat):Int) by rw[List.length_map,Int.tmod_eq_emod_of_nonneg (by omega)];omega];exact ab 0 rfl ⟨⟨rfl,rfl⟩,rfl⟩
theorem Mv(s:Span)(n:Int)(h:s.lo<=s.hi)(h1 : -10000<=s.lo)(h2:s.hi<=10000)(hn:0<=n/\n<=65535):bq Tryz.prog 57 [s.d,i64 n] (i64 (fI s n)):=by
 have fF:=iX h n;have hm:=Int.emod_nonneg n (show s.hi-s.lo+1≠0 by omega);have FC:=Int.emod_lt_of_pos n (show 0<s.hi-s.lo+1 by omega);show bq Tryz.prog 57 [s.d,i64 n] _;refine aI mixed ak Tryz.func57 rfl (ft:=Yt) 2 (by decide +kernel) (by rfl) fun {σ} Y st=>?_;conv=>whnf
 refine ao (s.hi-s.lo) (by rfl) (wrap_i64 (by omega)) ?_;conv=>whnf
 refine ao (s.hi-s.lo+1) (by rfl) (wrap_i64 (by omega)) ?_;conv=>whnf
 refine aQ (decide_eq_true (by omega)) ?_;conv=>whnf
 rw[Int.tmod_eq_emod_of_nonneg hn.1];refine ao (fI s n) (by rfl) (wrap_i64 (by omega)) ?_;conv=>whnf
 exact ab 0 rfl ⟨⟨rfl,rfl⟩,rfl⟩
def uq(b:au)(n:Int):Int:=match cw b.ar n 0 with
 | some k=>k
 | none=>-1
theorem aap(b:au)(n:Int)(hb:b.ar.length<1000000):bq Tryz.prog 60 [.agg b.cells,i64 n] (i64 (uq b n)):=by
 unfold uq;refine aI mixed ak Tryz.func60 rfl (ft:=Yw) 2 (by decide +kernel) (by rfl) fun {σ} Y st=>?_;conv=>whnf
 refine bx (T:=tys) ak (by exact an mixed ak (by decide +kernel)) b.ar (fun i (_:Unit)=>⟨[(1,.d (i64 n)),(2,.ptr 2 0),(5,.d (i64 i))],[(2,.box (.dd b.cells))],st⟩) (fun i r _=>cw b.ar n 0=cw r n i) () (Wk.sub (by repeat' first|constructor|simp[PX.get]) ⟨(by first|rfl|simp[PX.get]),trivial⟩) rfl ?_ ?_
 ·intro i x r _ hx hi hr he
  rw[cw]at he;conv=>whnf
  refine af (fun _=>?_) (fun h=>absurd hi (by have:=of_decide_eq_false h;simp at this;omega));conv=>whnf
  refine aw hx ?_;conv=>whnf
  refine af (fun h=>?_) (fun h=>?_)
  ·have h:x.kind=3:=of_decide_eq_true h
   conv=>whnf
   refine aw hx ?_;conv=>whnf
   refine af (fun h2=>?_) (fun h2=>?_)
   ·have h2:x.number=n:=of_decide_eq_true h2
    rw[if_pos ⟨h,h2⟩]at he;conv=>whnf
    rw[he];exact ab 0 rfl ⟨⟨rfl,rfl⟩,rfl⟩
   ·have h2:¬ x.number=n:=of_decide_eq_false h2
    rw[if_neg fun h3=>h2 h3.2]at he;conv=>whnf
    refine ae (wrap_i64 (by(try dsimp only);omega)) ?_;conv=>whnf
    exact⟨(),he,(Wk.sub (by repeat' first|constructor|simp[PX.get]) ⟨(by first|rfl|simp[PX.get]),trivial⟩)⟩
  ·have h:¬ x.kind=3:=of_decide_eq_false h
   rw[if_neg fun h3=>h h3.1]at he;conv=>whnf
   refine ae (wrap_i64 (by(try dsimp only);omega)) ?_;conv=>whnf
   exact⟨(),he,(Wk.sub (by repeat' first|constructor|simp[PX.get]) ⟨(by first|rfl|simp[PX.get]),trivial⟩)⟩
 ·intro _ he
  conv=>whnf
  refine af (fun h=>absurd h (by simp)) (fun _=>?_);conv=>whnf
  rw[he];exact ab 0 rfl ⟨⟨rfl,rfl⟩,rfl⟩
def cM(l:List Int):D:=.vs (l.map fun b=>[D.int .u16 b])
def Sw(l:List Int):Prop:=∀ x∈l,0<=x/\x<=65535
theorem VC:bq Tryz.prog 59 [] (i64 60):=by
 refine aI mixed ak Tryz.func59 rfl (ft:=Yv) 0 (by decide +kernel) (by rfl) fun {σ} Y st=>?_;conv=>whnf
 exact ab 0 rfl ⟨⟨rfl,rfl⟩,rfl⟩
theorem yU(x:List Int)(hx:Sw x)(n:Nat):bq Tryz.prog 58 [cM x,i64 n] (i64 (cj x n)):=by
 show bq Tryz.prog 58 [cM x,i64 n] _;refine aI mixed ak Tryz.func58 rfl (ft:=Yu) 2 (by decide +kernel) (by rfl) fun {σ} Y st=>?_;conv=>whnf
 by_cases h:x = []
 ·subst h
  conv=>whnf
  exact ab 0 rfl ⟨⟨rfl,rfl⟩,rfl⟩
 ·have hl:0<x.length:=List.length_pos_iff.2 h
  refine af (fun h1=>absurd h1 (by simp[h])) (fun _=>?_);conv=>whnf
  refine aQ (decide_eq_true (by rw[List.length_map];omega)) ?_;conv=>whnf
  rw[List.length_map];have hm:=Nat.mod_lt n hl;have he:((n:Int).tmod (x.length:Int))=((n%x.length:Nat):Int):=by
   rw[Int.tmod_eq_emod_of_nonneg (by omega)];omega
  rw[he];have hg:x[n%x.length]?=some (x[n%x.length]):=List.getElem?_eq_getElem hm;refine aw hg ?_;conv=>whnf
  have hb:=hx _ (List.mem_of_getElem? hg);have ht:cj x n=x[n%x.length]:=by
   unfold cj;rw[hg];rfl
  rw[<- ht]at hb ⊢;refine ae (wrap_i64 (by(try dsimp only);omega)) ?_;conv=>whnf
  exact ab 0 rfl ⟨⟨rfl,rfl⟩,rfl⟩
theorem H8{x:List Int}(hx:Sw x)(n:Nat):0<=cj x n/\cj x n<=65535:=by
 unfold cj
 cases h:x[n%x.length]? with
 | none=>simp
 | some v=>exact hx v (List.mem_of_getElem? h)
def fZ(ls:List (List Int)):List (List D):=ls.map fun r=>[ax r]
def cu(l:List Int):List (List D):=l.map fun x=>[i64 x]
structure Sv(b k:Nat)(s:Bw):Prop where
 wl:s.w.length=100
 w:∀ n,0<=n9 s.w n/\n9 s.w n<=1100+60*(8*b+k)
 now:0<=s.now/\s.now<=1100+60*(8*b+k)
 off : -720<=s.off/\s.off<=720
 el:s.ar.length<=k
 tl:s.times.length=s.ar.length
 ml:s.mine.length<=k+1
theorem Oo{w:List Int}{n:Int}(h0:0<=n)(h:n.toNat<w.length):(cu w)[0+n.toNat]?=some [i64 (n9 w n)]:=by
 unfold cu n9;rw[Nat.zero_add,List.getElem?_map,List.getElem?_eq_getElem h];rfl
theorem tj(w:List Int)(n:Nat)(v:Int):(cu w).set (0+n) [i64 v]=cu (w.set n v):=by
 unfold cu;rw[Nat.zero_add,List.map_set]
theorem ff(w:List Int)(v:Int):cu w ++ [[i64 v]]=cu (w ++ [v]):=by
 unfold cu;rw[List.map_append];rfl
theorem j8(w:List Int):(cu w).length=w.length:=by unfold cu;rw[List.length_map]
theorem QN(name:ByteArray)(off set:Span)(es:List aW)(n:Int):decide (uq ⟨name,off,set,es⟩ n<0)=(cw es n 0).isNone:=by
 unfold uq
 cases cw es n 0 with
 | none=>rfl
 | some k=>simp
theorem Sv.mono{b k:Nat}{s:Bw}(h:Sv b k s):Sv b (k+1) s:=
 ⟨h.wl,fun n=>by have:=h.w n;omega,by have:=h.now;omega,h.off,by have:=h.el;omega,h.tl,by have:=h.ml;omega⟩
def Be(a:Bw)(z:aW)(F:Bool)(to M:Int):Bw:=
 ⟨a.ar ++ [{ z with shown:=to+a.off }],a.times ++ [to],if z.kind=2 then a.mine ++ [M] else a.mine,if z.kind=2 then M else a.off,to,if F then a.w.set z.number.toNat to else a.w⟩
theorem ko{b k:Nat}{a:Bw}{z:aW}{F:Bool}{to M:Int}(h:Sv b k a)(hz:0<=z.number/\z.number<=99)(ht:0<=to/\to<=1100+60*(8*b+(k+1:Nat)))(hM : -720<=M/\M<=720):Sv b (k+1) (Be a z F to M):=by
 have LM:=h.wl;have CH:=h.el;have LJ:=h.tl;have AH:=h.ml;unfold Be;refine⟨?_,fun n=>?_,ht,?_,by simp;omega,by simp;omega,?_⟩
 ·simp only
  split
  ·rw[List.length_set];exact LM
  ·exact LM
 ·have:=h.w n
  simp only;split
  ·unfold n9 at this ⊢
   rw[List.getElem?_set];split
   ·split
    ·simp only[Option.getD_some];omega
    ·simp only[Option.getD_none];omega
   ·omega
  ·omega
 ·simp only
  split
  ·exact hM
  ·exact h.off
 ·simp only
  split
  ·simp;omega
  ·omega
theorem vR{x y:List Int}{b i:Nat}{set:Span}{z:aW}{s:Bw}{F:Bool}{to M:Int}(ho:qV y b i z s=false)(ht:H5 y b i z s=to)(hF:xV s z=F)(hM:z.kind=2->fI set (cj x (7*b+i+1))=M):qX x y b i set z s=Be s z F to M:=by
 unfold qX Be;rw[ho,ht,hF];simp only[Bool.false_eq_true,if_false];by_cases h:z.kind=2
 ·rw[hM h]
 ·simp only[if_neg h]
theorem Sp{h:Heap}{k n j:Nat}{nm:ByteArray}{a1 a2 a3 a4:Int}{es:List aW}{x:D}(hg:get h j=some (.arr 4 (.dd (es.map aW.cells))))(hn:n=es.length) :
  cI (ek h (k+1)) [.agg [.d (.str nm),.d (i64 a1),.d (i64 a2),.d (i64 a3),.d (i64 a4),.sl j 4 0 n],.d x]=some [.agg (⟨nm,⟨a1,a2⟩,⟨a3,a4⟩,es⟩:au).cells,x]:=by
 have e:dA (ek h (k+1)) (.sl j 4 0 n)=some (kJ es):=dW hg rfl (by rw[hn,List.length_map]);refine az ?_ (az rfl rfl);rw[dA,az rfl (az rfl (az rfl (az rfl (az rfl (az e rfl)))))];rfl
set_option maxHeartbeats 4000000 in
theorem aao(l:aM)(hc:bB l=0)(x y:List Int)(hx:Sw x)(hy:Sw y):bq Tryz.prog 9 [l.d,cM x,cM y] (.tup [(Qo l x y).d,.vs (fZ (nO l x y).times),.vs (fZ (nO l x y).kV)]):=by
 have hR:=fk hc;have hlen:=hR.aj;unfold Qo;obtain⟨S,hS⟩:∃ S,nO l x y=S:=⟨_,rfl⟩;rw[hS];unfold nO at hS;have rU:(List.replicate (Int.toNat 100) [D.int IntKind.i64 0])=cu (List.replicate 100 0):=by
  unfold cu;rw[List.map_replicate];rfl
 show bq Tryz.prog 9 [l.d,cM x,cM y] _;refine aI mixed ak Tryz.func9 rfl (ft:=ft9) 3 (by decide +kernel) (by rfl) fun {σ} Y st=>?_;conv=>whnf
 rw[rU];have Vl:(List.replicate 100 (0:Int)).length=100:=List.length_replicate;have B2:∀ n,n9 (List.replicate 100 (0:Int)) n=0:=fun n=>by
  unfold n9;rw[List.getElem?_replicate];split<;>rfl
 generalize List.replicate 100 (0:Int)=w0 at Vl B2 hS;refine bx (T:=tys) ak (by exact an mixed ak (by decide +kernel)) l.aj (fun i (s:G0)=>⟨[(1,.d (cM x)),(2,.d (cM y)),(3,.ptr 3 0),(6,.ptr 6 0),(9,.ptr 9 0),(10,.sl 168 1 0 s.times.length),(11,.sl 172 1 0 s.kV.length),(12,.sl 28 1 0 100),(13,.d (i64 i))],[(3,.box (.dd l.cells)),(6,.box (.dd [i64 0,.nils])),(9,.box (.vv [.d (i64 l.near),.sl 164 6 0 s.aj.length])),(28,.arr 1 (.dd (cu s.w))),(164,.arr 6 (.dd (s.aj.map au.cells))),(168,.arr 1 (.dd (fZ s.times))),(172,.arr 1 (.dd (fZ s.kV)))],st⟩)
  (fun i r s=>MX x y i r s=S/\s.aj.length=i/\s.times.length=i/\s.kV.length=i/\s.w.length=100 /\ ∀ n,0<=n9 s.w n/\n9 s.w n<=1100+60*(8*i)) ⟨[],[],[],w0⟩
  ((Wk.born 10 168 1 rfl rfl rfl).trans ((Wk.born 11 172 1 rfl rfl rfl).trans ((Wk.sL 9 164 6 [i64 l.near] [] rfl rfl rfl rfl rfl).trans (Wk.sub (by repeat' first|constructor|simp[PX.get]) (by repeat' first|constructor|simp[PX.get]))))) ⟨hS,rfl,rfl,rfl,Vl,fun n=>by rw[B2];omega⟩ ?_ ?_
 ·rintro i b r s Za hi hr ⟨wH,wF,LJ,Rr,LM,hwb⟩
  have Y7:=hR.book b (List.mem_of_getElem? Za);have CH:=Y7.ar;have pU:=Y7.off;have iQ:=Y7.set;have nT:=(jK hc (List.mem_of_getElem? Za)).2.2.2;have Ve:=fun n=>H8 hx n;have P4:=fun n=>H8 hy n;rw[MX]at wH;conv=>whnf
  refine af (fun _=>?_) (fun h=>absurd hi (by have:=of_decide_eq_false h;simp at this;omega));conv=>whnf
  refine aw Za ?_;conv=>whnf
  obtain⟨O0,YW⟩:∃ v,fI b.off (cj x (7*i))=v:=⟨_,rfl⟩;have hO1:=iX pU.2.1 (cj x (7*i));rw[YW]at hO1;have Tc:bq Tryz.prog 58 [cM x,i64 (7*i:Nat)] (i64 (cj x (7*i))):=yU x hx (7*i);have c53:bq Tryz.prog 57 [b.off.d,i64 (cj x (7*i))] (i64 O0):=by
   rw[<- YW];exact Mv b.off (cj x (7*i)) pU.2.1 (by omega) (by omega) (Ve _)
  generalize cj x (7*i)=T0 at Tc c53;have Hv:i<3:=by omega
  refine ao ((7*i:Nat):Int) (by omega) (wrap_i64 (by omega)) ?_;conv=>whnf
  refine aH (ds:=[cM x,i64 (7*i:Nat)]) Tc rfl rfl ?_;conv=>whnf
  refine aH (ds:=[b.off.d,i64 T0]) c53 rfl rfl ?_;conv=>whnf
  obtain⟨N0,Ft⟩:∃ v,1000+cj y (5*i)%100=v:=⟨_,rfl⟩;have c1:bq Tryz.prog 58 [cM y,i64 (5*i:Nat)] (i64 (cj y (5*i))):=yU y hy (5*i);have iN:uY x y i b s.w=⟨[],[],[O0],O0,N0,s.w⟩:=by unfold uY;rw[YW,Ft]
  have Vf:=P4 (5*i);generalize cj y (5*i)=T1 at c1 Ft Vf;unfold Xv at wH;rw[iN]at wH;refine ao ((5*i:Nat):Int) (by omega) (wrap_i64 (by omega)) ?_;conv=>whnf
  refine ai (ds:=[cM y,i64 (5*i:Nat)]) c1 rfl rfl ?_;conv=>whnf
  refine ao N0 (by rw[Int.tmod_eq_emod_of_nonneg Vf.1];exact Ft) (wrap_i64 (by omega)) ?_;conv=>whnf
  obtain⟨E,hE⟩:∃ E,zi x y i b.set 0 b.ar ⟨[],[],[O0],O0,N0,s.w⟩=E:=⟨_,rfl⟩;rw[hE]at wH;refine bx (T:=tys) ak (by exact an mixed ak (by decide +kernel)) b.ar (fun k (a:Bw)=>⟨[(1,.d (cM x)),(2,.d (cM y)),(3,.ptr 3 0),(6,.ptr 6 0),(9,.ptr 9 0),(10,.sl 168 1 0 s.times.length),(11,.sl 172 1 0 s.kV.length),(12,.sl 28 1 0 100),(13,.d (i64 i)),(14,.ptr 14 0),(15,.ptr 15 0),(16,.d (i64 a.off)),(17,.sl 159 1 0 a.mine.length),(18,.sl 141 1 0 a.times.length),(19,.d (i64 a.now)),(20,.d (i64 k))],
    [(3,.box (.dd l.cells)),(6,.box (.dd [i64 0,.nils])),(9,.box (.vv [.d (i64 l.near),.sl 164 6 0 s.aj.length])),(14,.box (.dd b.cells)),(15,.box (.vv [.d (.str b.name),.d (i64 b.off.lo),.d (i64 b.off.hi),.d (i64 b.set.lo),.d (i64 b.set.hi),.sl 137 4 0 a.ar.length])),(28,.arr 1 (.dd (cu a.w))),(137,.arr 4 (.dd (a.ar.map aW.cells))),(141,.arr 1 (.dd (cu a.times))),(159,.arr 1 (.dd (cu a.mine))),(164,.arr 6 (.dd (s.aj.map au.cells))),(168,.arr 1 (.dd (fZ s.times))),(172,.arr 1 (.dd (fZ s.kV)))],st⟩)
   (fun k r a=>zi x y i b.set k r a=E/\Sv i k a) ⟨[],[],[O0],O0,N0,s.w⟩
   ((Wk.move 56 159 rfl rfl).trans ((Wk.born 18 141 1 rfl rfl rfl).trans ((Wk.sL 15 137 4 [.str b.name,i64 b.off.lo,i64 b.off.hi,i64 b.set.lo,i64 b.set.hi] [] rfl rfl rfl rfl rfl).trans (Wk.sub (by repeat' first|constructor|simp[PX.get]) (by repeat' first|constructor|simp[PX.get]))))) ⟨hE,⟨LM,fun n=>by have:=hwb n;simp only;omega,by simp only;omega,by simp only;omega,Nat.le_refl _,rfl,Nat.le_refl _⟩⟩ ?_ ?_
  ·rintro k z r2 a hz hk wK ⟨eO,hN⟩
   rw[zi]at eO;have hzR:=nT z (List.mem_of_getElem? hz);have nwl:=hN.wl;have nw:=hN.w;have abf:=hN.now;have abg:=hN.off;have nel:=hN.el;have ntl:=hN.tl;have nml:=hN.ml;have pT:=hzR.number;have ZG:k<8:=by omega
   have Vg:=P4 (5*i+k+1);have c2:bq Tryz.prog 58 [cM y,i64 (5*i+k+1:Nat)] (i64 (cj y (5*i+k+1))):=yU y hy (5*i+k+1);have pV:H5 y i k z a=if xV a z&&decide (0<n9 a.w z.number) then n9 a.w z.number else a.now+cj y (5*i+k+1)%60:=rfl
   have UI:xV a z=(decide (z.kind=3)&&(cw a.ar z.number 0).isNone):=rfl;have c58:bq Tryz.prog 60 [.agg (⟨b.name,b.off,b.set,a.ar⟩:au).cells,i64 z.number] (i64 (uq ⟨b.name,b.off,b.set,a.ar⟩ z.number)):=aap _ _ (by simp only;omega);have Rb:=QN b.name b.off b.set a.ar z.number;generalize cj y (5*i+k+1)=T2 at Vg c2 pV;generalize uq ⟨b.name,b.off,b.set,a.ar⟩ z.number=FX at c58 Rb;have SS:=nw z.number;have oX:(cu a.w)[0+z.number.toNat]?=some [i64 (n9 a.w z.number)]:=Oo pT.1 (by omega);conv=>whnf
   refine af (fun _=>?_) (fun h=>absurd hk (by have:=of_decide_eq_false h;simp at this;omega));conv=>whnf
   refine aw hz ?_;conv=>whnf
   refine ao ((5*i:Nat):Int) (by omega) (wrap_i64 (by omega)) ?_;conv=>whnf
   refine ao ((5*i+k:Nat):Int) (by omega) (wrap_i64 (by omega)) ?_;conv=>whnf
   refine ao ((5*i+k+1:Nat):Int) (by omega) (wrap_i64 (by omega)) ?_;conv=>whnf
   refine ai (ds:=[cM y,i64 (5*i+k+1:Nat)]) c2 rfl rfl ?_;conv=>whnf
   refine ai (ds:=[]) VC rfl rfl ?_;conv=>whnf
   refine ao (a.now+T2%60) (by rw[Int.tmod_eq_emod_of_nonneg Vg.1]) (wrap_i64 (by omega)) ?_;conv=>whnf
   refine af (fun h3=>?_) (fun h3=>?_)
   ·have h3:z.kind=3:=of_decide_eq_true h3
    conv=>whnf
    refine aB (ds:=[.agg (⟨b.name,b.off,b.set,a.ar⟩:au).cells,i64 z.number]) c58 rfl 1 (Sp rfl rfl) ?_;conv=>whnf
    rw[Rb]
    cases hI:(cw a.ar z.number 0).isNone with
    | false=>
     have hF:xV a z=false:=by rw[UI,hI,Bool.and_false]
     have oy:H5 y i k z a=a.now+T2%60:=by rw[pV,hF];rfl
     have rX:0<=a.now+T2%60/\a.now+T2%60<=1100+60*(8*i+(k+1:Nat)):=by omega
     generalize a.now+T2%60=to at oy rX ⊢;obtain⟨F,IL⟩:∃ F,F=false:=⟨_,rfl⟩;rw[<- IL]at hF;conv=>whnf
     refine ao (to+a.off) rfl (wrap_i64 (by omega)) ?_;conv=>whnf
     have fB:qV y i k z a=(decide (to<a.now)||(decide (to+a.off<0)||decide (20000<to+a.off))):=by unfold qV;rw[oy]
     refine af (fun o1=>?_) (fun o1=>?_)
     ·have e:qX x y i k b.set z a=a:=by unfold qX;rw[fB,decide_eq_true (of_decide_eq_true o1),Bool.true_or];rfl
      rw[e]at eO;conv=>whnf
      refine ae (wrap_i64 (by(try dsimp only);omega)) ?_;conv=>whnf
      exact⟨a,⟨eO,hN.mono⟩,(Wk.sub (by repeat' first|constructor|simp[PX.get]) (by repeat' first|constructor|simp[PX.get]))⟩
     ·conv=>whnf
      refine af (fun o2=>?_) (fun o2=>?_)
      ·have e:qX x y i k b.set z a=a:=by unfold qX;rw[fB,decide_eq_true (of_decide_eq_true o2),Bool.true_or,Bool.or_true];rfl
       rw[e]at eO;conv=>whnf
       refine ae (wrap_i64 (by(try dsimp only);omega)) ?_;conv=>whnf
       exact⟨a,⟨eO,hN.mono⟩,(Wk.sub (by repeat' first|constructor|simp[PX.get]) (by repeat' first|constructor|simp[PX.get]))⟩
      ·conv=>whnf
       refine af (fun o3=>?_) (fun o3=>?_)
       ·have e:qX x y i k b.set z a=a:=by unfold qX;rw[fB,decide_eq_true (show 20000<to+a.off from of_decide_eq_true o3),Bool.or_true,Bool.or_true];rfl
        rw[e]at eO;conv=>whnf
        refine ae (wrap_i64 (by(try dsimp only);omega)) ?_;conv=>whnf
        exact⟨a,⟨eO,hN.mono⟩,(Wk.sub (by repeat' first|constructor|simp[PX.get]) (by repeat' first|constructor|simp[PX.get]))⟩
       ·have fF:qV y i k z a=false:=by rw[fB,decide_eq_false (of_decide_eq_false o1),decide_eq_false (of_decide_eq_false o2),decide_eq_false (show ¬ 20000<to+a.off from of_decide_eq_false o3)];rfl
        conv=>whnf
        refine ag rfl ?_;conv=>whnf
        refine ag (by simp[aK.len]) ?_;conv=>whnf
        refine aQ (decide_eq_true (by
         show((a.ar.map aW.cells).length+1)*40<=140737488355328;rw[List.length_map];omega)) ?_
        conv=>whnf
        refine ag rfl ?_;conv=>whnf
        refine ag (by simp[aK.len,cu]) ?_;conv=>whnf
        refine aQ (decide_eq_true (by
         show((cu a.times).length+1)*8<=140737488355328;rw[j8];omega)) ?_
        conv=>whnf
        refine af (fun k2=>?_) (fun k2=>?_)
        ·have k2:z.kind=2:=of_decide_eq_true k2
         have c3:bq Tryz.prog 58 [cM x,i64 (7*i+k+1:Nat)] (i64 (cj x (7*i+k+1))):=yU x hx (7*i+k+1);have c4:bq Tryz.prog 57 [b.set.d,i64 (cj x (7*i+k+1))] (i64 (fI b.set (cj x (7*i+k+1)))):=Mv b.set (cj x (7*i+k+1)) iQ.2.1 (by omega) (by omega) (Ve _);have hM:=iX iQ.2.1 (cj x (7*i+k+1));have e:=vR (x:=x) (set:=b.set) fF oy hF fun _=>rfl;generalize fI b.set (cj x (7*i+k+1))=M at hM c4 e;generalize cj x (7*i+k+1)=T3 at c3 c4;rw[e]at eO;conv=>whnf
         refine ao ((7*i:Nat):Int) (by omega) (wrap_i64 (by omega)) ?_;conv=>whnf
         refine ao ((7*i+k:Nat):Int) (by omega) (wrap_i64 (by omega)) ?_;conv=>whnf
         refine ao ((7*i+k+1:Nat):Int) (by omega) (wrap_i64 (by omega)) ?_;conv=>whnf
         refine aH (ds:=[cM x,i64 (7*i+k+1:Nat)]) c3 rfl rfl ?_;conv=>whnf
         refine aH (ds:=[b.set.d,i64 T3]) c4 rfl rfl ?_;conv=>whnf
         refine ag rfl ?_;conv=>whnf
         refine ag (by simp[aK.len,cu]) ?_;conv=>whnf
         refine aQ (decide_eq_true (by
          show((cu a.mine).length+1)*8<=140737488355328;rw[j8];omega)) ?_
         conv=>whnf
         refine ae (wrap_i64 (by(try dsimp only);omega)) ?_;conv=>whnf
         have e2:Be a z F to M=⟨a.ar ++ [{ z with shown:=to+a.off }],a.times ++ [to],a.mine ++ [M],M,to,if F then a.w.set z.number.toNat to else a.w⟩:=by unfold Be;rw[if_pos k2,if_pos k2]
         have yc:=ko (F:=F) hN pT rX (M:=M) (by omega);rw[e2]at eO yc;refine⟨_,⟨eO,yc⟩,Wk.sub ⟨rfl,rfl,rfl,rfl,rfl,rfl,rfl,rfl,rfl,rfl,rfl,rfl,?_,?_,rfl,rfl,trivial⟩ ⟨rfl,rfl,rfl,rfl,?_,?_,?_,?_,?_,rfl,rfl,rfl,trivial⟩⟩
         ·show some (V.sl 159 1 0 ((cu a.mine).length+1))=_
          simp[cu]
         ·show some (V.sl 141 1 0 ((cu a.times).length+1))=_
          simp[cu]
         ·show some (Obj.box (.vv [.d (.str b.name),.d (i64 b.off.lo),.d (i64 b.off.hi),.d (i64 b.set.lo),.d (i64 b.set.hi),.sl 137 4 0 ((a.ar.map aW.cells).length+1)]))=_
          simp
         ·rw[IL];rfl
         ·show some (Obj.arr 4 (.dd (a.ar.map aW.cells ++ [({ z with shown:=to+a.off }:aW).cells])))=_
          simp
         ·show some (Obj.arr 1 (.dd (cu a.times ++ [[i64 to]])))=_
          rw[ff]
         ·show some (Obj.arr 1 (.dd (cu a.mine ++ [[i64 M]])))=_
          rw[ff]
        ·have k2:¬ z.kind=2:=of_decide_eq_false k2
         have e:=vR (x:=x) (set:=b.set) (M:=0) fF oy hF fun h=>absurd h k2;have e2:Be a z F to 0=⟨a.ar ++ [{ z with shown:=to+a.off }],a.times ++ [to],a.mine,a.off,to,if F then a.w.set z.number.toNat to else a.w⟩:=by unfold Be;rw[if_neg k2,if_neg k2]
         have yc:=ko (F:=F) hN pT rX (M:=0) (by omega);rw[e,e2]at eO;rw[e2]at yc;conv=>whnf
         refine ae (wrap_i64 (by(try dsimp only);omega)) ?_;conv=>whnf
         refine⟨_,⟨eO,yc⟩,Wk.sub ⟨rfl,rfl,rfl,rfl,rfl,rfl,rfl,rfl,rfl,rfl,rfl,rfl,rfl,?_,rfl,rfl,trivial⟩ ⟨rfl,rfl,rfl,rfl,?_,?_,?_,?_,rfl,rfl,rfl,rfl,trivial⟩⟩
         ·show some (V.sl 141 1 0 ((cu a.times).length+1))=_
          simp[cu]
         ·show some (Obj.box (.vv [.d (.str b.name),.d (i64 b.off.lo),.d (i64 b.off.hi),.d (i64 b.set.lo),.d (i64 b.set.hi),.sl 137 4 0 ((a.ar.map aW.cells).length+1)]))=_
          simp
         ·rw[IL];rfl
         ·show some (Obj.arr 4 (.dd (a.ar.map aW.cells ++ [({ z with shown:=to+a.off }:aW).cells])))=_
          simp
         ·show some (Obj.arr 1 (.dd (cu a.times ++ [[i64 to]])))=_
          rw[ff]
    | true=>
     have hF:xV a z=true:=by rw[UI,hI,decide_eq_true h3];rfl
     rw[hF,Bool.true_and]at pV;obtain⟨F,IL⟩:∃ F,F=true:=⟨_,rfl⟩;rw[<- IL]at hF;conv=>whnf
     refine af (fun _=>?_) (fun h=>absurd h (by simp;omega));conv=>whnf
     refine cD [i64 (n9 a.w z.number)] oX ?_;conv=>whnf
     refine af (fun h4=>?_) (fun h4=>?_)
     ·rw[h4,if_pos rfl]at pV
      have h4:0<n9 a.w z.number:=of_decide_eq_true h4;conv=>whnf
      refine af (fun _=>?_) (fun h=>absurd h (by simp;omega));conv=>whnf
      refine cD [i64 (n9 a.w z.number)] oX ?_;have rX:0<=n9 a.w z.number/\n9 a.w z.number<=1100+60*(8*i+(k+1:Nat)):=by omega
      have oy:=pV;generalize n9 a.w z.number=to at oy rX ⊢;conv=>whnf
      refine ao (to+a.off) rfl (wrap_i64 (by omega)) ?_;conv=>whnf
      have fB:qV y i k z a=(decide (to<a.now)||(decide (to+a.off<0)||decide (20000<to+a.off))):=by unfold qV;rw[oy]
      refine af (fun o1=>?_) (fun o1=>?_)
      ·have e:qX x y i k b.set z a=a:=by unfold qX;rw[fB,decide_eq_true (of_decide_eq_true o1),Bool.true_or];rfl
       rw[e]at eO;conv=>whnf
       refine ae (wrap_i64 (by(try dsimp only);omega)) ?_;conv=>whnf
       exact⟨a,⟨eO,hN.mono⟩,(Wk.sub (by repeat' first|constructor|simp[PX.get]) (by repeat' first|constructor|simp[PX.get]))⟩
      ·conv=>whnf
       refine af (fun o2=>?_) (fun o2=>?_)
       ·have e:qX x y i k b.set z a=a:=by unfold qX;rw[fB,decide_eq_true (of_decide_eq_true o2),Bool.true_or,Bool.or_true];rfl
        rw[e]at eO;conv=>whnf
        refine ae (wrap_i64 (by(try dsimp only);omega)) ?_;conv=>whnf
        exact⟨a,⟨eO,hN.mono⟩,(Wk.sub (by repeat' first|constructor|simp[PX.get]) (by repeat' first|constructor|simp[PX.get]))⟩
       ·conv=>whnf
        refine af (fun o3=>?_) (fun o3=>?_)
        ·have e:qX x y i k b.set z a=a:=by unfold qX;rw[fB,decide_eq_true (show 20000<to+a.off from of_decide_eq_true o3),Bool.or_true,Bool.or_true];rfl
         rw[e]at eO;conv=>whnf
         refine ae (wrap_i64 (by(try dsimp only);omega)) ?_;conv=>whnf
         exact⟨a,⟨eO,hN.mono⟩,(Wk.sub (by repeat' first|constructor|simp[PX.get]) (by repeat' first|constructor|simp[PX.get]))⟩
        ·have fF:qV y i k z a=false:=by rw[fB,decide_eq_false (of_decide_eq_false o1),decide_eq_false (of_decide_eq_false o2),decide_eq_false (show ¬ 20000<to+a.off from of_decide_eq_false o3)];rfl
         conv=>whnf
         refine af (fun _=>?_) (fun h=>absurd h (by simp;omega));conv=>whnf
         refine cD [i64 (n9 a.w z.number)] oX ?_;conv=>whnf
         refine ag rfl ?_;conv=>whnf
         refine ag (by simp[aK.len]) ?_;conv=>whnf
         refine aQ (decide_eq_true (by
          show((a.ar.map aW.cells).length+1)*40<=140737488355328;rw[List.length_map];omega)) ?_
         conv=>whnf
         refine ag rfl ?_;conv=>whnf
         refine ag (by simp[aK.len,cu]) ?_;conv=>whnf
         refine aQ (decide_eq_true (by
          show((cu a.times).length+1)*8<=140737488355328;rw[j8];omega)) ?_
         conv=>whnf
         refine af (fun k2=>?_) (fun k2=>?_)
         ·have k2:z.kind=2:=of_decide_eq_true k2
          have c3:bq Tryz.prog 58 [cM x,i64 (7*i+k+1:Nat)] (i64 (cj x (7*i+k+1))):=yU x hx (7*i+k+1);have c4:bq Tryz.prog 57 [b.set.d,i64 (cj x (7*i+k+1))] (i64 (fI b.set (cj x (7*i+k+1)))):=Mv b.set (cj x (7*i+k+1)) iQ.2.1 (by omega) (by omega) (Ve _);have hM:=iX iQ.2.1 (cj x (7*i+k+1));have e:=vR (x:=x) (set:=b.set) fF oy hF fun _=>rfl;generalize fI b.set (cj x (7*i+k+1))=M at hM c4 e;generalize cj x (7*i+k+1)=T3 at c3 c4;rw[e]at eO;conv=>whnf
          refine ao ((7*i:Nat):Int) (by omega) (wrap_i64 (by omega)) ?_;conv=>whnf
          refine ao ((7*i+k:Nat):Int) (by omega) (wrap_i64 (by omega)) ?_;conv=>whnf
          refine ao ((7*i+k+1:Nat):Int) (by omega) (wrap_i64 (by omega)) ?_;conv=>whnf
          refine aH (ds:=[cM x,i64 (7*i+k+1:Nat)]) c3 rfl rfl ?_;conv=>whnf
          refine aH (ds:=[b.set.d,i64 T3]) c4 rfl rfl ?_;conv=>whnf
          refine ag rfl ?_;conv=>whnf
          refine ag (by simp[aK.len,cu]) ?_;conv=>whnf
          refine aQ (decide_eq_true (by
           show((cu a.mine).length+1)*8<=140737488355328;rw[j8];omega)) ?_
          conv=>whnf
          refine ae (wrap_i64 (by(try dsimp only);omega)) ?_;conv=>whnf
          have e2:Be a z F to M=⟨a.ar ++ [{ z with shown:=to+a.off }],a.times ++ [to],a.mine ++ [M],M,to,if F then a.w.set z.number.toNat to else a.w⟩:=by unfold Be;rw[if_pos k2,if_pos k2]
          have yc:=ko (F:=F) hN pT rX (M:=M) (by omega);rw[e2]at eO yc;refine⟨_,⟨eO,yc⟩,Wk.sub ⟨rfl,rfl,rfl,rfl,rfl,rfl,rfl,rfl,rfl,rfl,rfl,rfl,?_,?_,rfl,rfl,trivial⟩ ⟨rfl,rfl,rfl,rfl,?_,?_,?_,?_,?_,rfl,rfl,rfl,trivial⟩⟩
          ·show some (V.sl 159 1 0 ((cu a.mine).length+1))=_
           simp[cu]
          ·show some (V.sl 141 1 0 ((cu a.times).length+1))=_
           simp[cu]
          ·show some (Obj.box (.vv [.d (.str b.name),.d (i64 b.off.lo),.d (i64 b.off.hi),.d (i64 b.set.lo),.d (i64 b.set.hi),.sl 137 4 0 ((a.ar.map aW.cells).length+1)]))=_
           simp
          ·show some (Obj.arr 1 (.dd ((cu a.w).set (0+z.number.toNat) [i64 to])))=_
           rw[IL,tj];rfl
          ·show some (Obj.arr 4 (.dd (a.ar.map aW.cells ++ [({ z with shown:=to+a.off }:aW).cells])))=_
           simp
          ·show some (Obj.arr 1 (.dd (cu a.times ++ [[i64 to]])))=_
           rw[ff]
          ·show some (Obj.arr 1 (.dd (cu a.mine ++ [[i64 M]])))=_
           rw[ff]
         ·have k2:¬ z.kind=2:=of_decide_eq_false k2
          have e:=vR (x:=x) (set:=b.set) (M:=0) fF oy hF fun h=>absurd h k2;have e2:Be a z F to 0=⟨a.ar ++ [{ z with shown:=to+a.off }],a.times ++ [to],a.mine,a.off,to,if F then a.w.set z.number.toNat to else a.w⟩:=by unfold Be;rw[if_neg k2,if_neg k2]
          have yc:=ko (F:=F) hN pT rX (M:=0) (by omega);rw[e,e2]at eO;rw[e2]at yc;conv=>whnf
          refine ae (wrap_i64 (by(try dsimp only);omega)) ?_;conv=>whnf
          refine⟨_,⟨eO,yc⟩,Wk.sub ⟨rfl,rfl,rfl,rfl,rfl,rfl,rfl,rfl,rfl,rfl,rfl,rfl,rfl,?_,rfl,rfl,trivial⟩ ⟨rfl,rfl,rfl,rfl,?_,?_,?_,?_,rfl,rfl,rfl,rfl,trivial⟩⟩
          ·show some (V.sl 141 1 0 ((cu a.times).length+1))=_
           simp[cu]
          ·show some (Obj.box (.vv [.d (.str b.name),.d (i64 b.off.lo),.d (i64 b.off.hi),.d (i64 b.set.lo),.d (i64 b.set.hi),.sl 137 4 0 ((a.ar.map aW.cells).length+1)]))=_
           simp
          ·show some (Obj.arr 1 (.dd ((cu a.w).set (0+z.number.toNat) [i64 to])))=_
           rw[IL,tj];rfl
          ·show some (Obj.arr 4 (.dd (a.ar.map aW.cells ++ [({ z with shown:=to+a.off }:aW).cells])))=_
           simp
          ·show some (Obj.arr 1 (.dd (cu a.times ++ [[i64 to]])))=_
           rw[ff]
     ·have h5:decide (0<n9 a.w z.number)=false:=by simpa using h4
      rw[h5]at pV;have oy:H5 y i k z a=a.now+T2%60:=pV;have rX:0<=a.now+T2%60/\a.now+T2%60<=1100+60*(8*i+(k+1:Nat)):=by omega
      generalize a.now+T2%60=to at oy rX ⊢;conv=>whnf
      refine ao (to+a.off) rfl (wrap_i64 (by omega)) ?_;conv=>whnf
      have fB:qV y i k z a=(decide (to<a.now)||(decide (to+a.off<0)||decide (20000<to+a.off))):=by unfold qV;rw[oy]
      refine af (fun o1=>?_) (fun o1=>?_)
      ·have e:qX x y i k b.set z a=a:=by unfold qX;rw[fB,decide_eq_true (of_decide_eq_true o1),Bool.true_or];rfl
       rw[e]at eO;conv=>whnf
       refine ae (wrap_i64 (by(try dsimp only);omega)) ?_;conv=>whnf
       exact⟨a,⟨eO,hN.mono⟩,(Wk.sub (by repeat' first|constructor|simp[PX.get]) (by repeat' first|constructor|simp[PX.get]))⟩
      ·conv=>whnf
       refine af (fun o2=>?_) (fun o2=>?_)
       ·have e:qX x y i k b.set z a=a:=by unfold qX;rw[fB,decide_eq_true (of_decide_eq_true o2),Bool.true_or,Bool.or_true];rfl
        rw[e]at eO;conv=>whnf
        refine ae (wrap_i64 (by(try dsimp only);omega)) ?_;conv=>whnf
        exact⟨a,⟨eO,hN.mono⟩,(Wk.sub (by repeat' first|constructor|simp[PX.get]) (by repeat' first|constructor|simp[PX.get]))⟩
       ·conv=>whnf
        refine af (fun o3=>?_) (fun o3=>?_)
        ·have e:qX x y i k b.set z a=a:=by unfold qX;rw[fB,decide_eq_true (show 20000<to+a.off from of_decide_eq_true o3),Bool.or_true,Bool.or_true];rfl
         rw[e]at eO;conv=>whnf
         refine ae (wrap_i64 (by(try dsimp only);omega)) ?_;conv=>whnf
         exact⟨a,⟨eO,hN.mono⟩,(Wk.sub (by repeat' first|constructor|simp[PX.get]) (by repeat' first|constructor|simp[PX.get]))⟩
        ·have fF:qV y i k z a=false:=by rw[fB,decide_eq_false (of_decide_eq_false o1),decide_eq_false (of_decide_eq_false o2),decide_eq_false (show ¬ 20000<to+a.off from of_decide_eq_false o3)];rfl
         conv=>whnf
         refine af (fun _=>?_) (fun h=>absurd h (by simp;omega));conv=>whnf
         refine cD [i64 (n9 a.w z.number)] oX ?_;conv=>whnf
         refine ag rfl ?_;conv=>whnf
         refine ag (by simp[aK.len]) ?_;conv=>whnf
         refine aQ (decide_eq_true (by
          show((a.ar.map aW.cells).length+1)*40<=140737488355328;rw[List.length_map];omega)) ?_
         conv=>whnf
         refine ag rfl ?_;conv=>whnf
         refine ag (by simp[aK.len,cu]) ?_;conv=>whnf
         refine aQ (decide_eq_true (by
          show((cu a.times).length+1)*8<=140737488355328;rw[j8];omega)) ?_
         conv=>whnf
         refine af (fun k2=>?_) (fun k2=>?_)
         ·have k2:z.kind=2:=of_decide_eq_true k2
          have c3:bq Tryz.prog 58 [cM x,i64 (7*i+k+1:Nat)] (i64 (cj x (7*i+k+1))):=yU x hx (7*i+k+1);have c4:bq Tryz.prog 57 [b.set.d,i64 (cj x (7*i+k+1))] (i64 (fI b.set (cj x (7*i+k+1)))):=Mv b.set (cj x (7*i+k+1)) iQ.2.1 (by omega) (by omega) (Ve _);have hM:=iX iQ.2.1 (cj x (7*i+k+1));have e:=vR (x:=x) (set:=b.set) fF oy hF fun _=>rfl;generalize fI b.set (cj x (7*i+k+1))=M at hM c4 e;generalize cj x (7*i+k+1)=T3 at c3 c4;rw[e]at eO;conv=>whnf
          refine ao ((7*i:Nat):Int) (by omega) (wrap_i64 (by omega)) ?_;conv=>whnf
          refine ao ((7*i+k:Nat):Int) (by omega) (wrap_i64 (by omega)) ?_;conv=>whnf
          refine ao ((7*i+k+1:Nat):Int) (by omega) (wrap_i64 (by omega)) ?_;conv=>whnf
          refine aH (ds:=[cM x,i64 (7*i+k+1:Nat)]) c3 rfl rfl ?_;conv=>whnf
          refine aH (ds:=[b.set.d,i64 T3]) c4 rfl rfl ?_;conv=>whnf
          refine ag rfl ?_;conv=>whnf
          refine ag (by simp[aK.len,cu]) ?_;conv=>whnf
          refine aQ (decide_eq_true (by
           show((cu a.mine).length+1)*8<=140737488355328;rw[j8];omega)) ?_
          conv=>whnf
          refine ae (wrap_i64 (by(try dsimp only);omega)) ?_;conv=>whnf
          have e2:Be a z F to M=⟨a.ar ++ [{ z with shown:=to+a.off }],a.times ++ [to],a.mine ++ [M],M,to,if F then a.w.set z.number.toNat to else a.w⟩:=by unfold Be;rw[if_pos k2,if_pos k2]
          have yc:=ko (F:=F) hN pT rX (M:=M) (by omega);rw[e2]at eO yc;refine⟨_,⟨eO,yc⟩,Wk.sub ⟨rfl,rfl,rfl,rfl,rfl,rfl,rfl,rfl,rfl,rfl,rfl,rfl,?_,?_,rfl,rfl,trivial⟩ ⟨rfl,rfl,rfl,rfl,?_,?_,?_,?_,?_,rfl,rfl,rfl,trivial⟩⟩
          ·show some (V.sl 159 1 0 ((cu a.mine).length+1))=_
           simp[cu]
          ·show some (V.sl 141 1 0 ((cu a.times).length+1))=_
           simp[cu]
          ·show some (Obj.box (.vv [.d (.str b.name),.d (i64 b.off.lo),.d (i64 b.off.hi),.d (i64 b.set.lo),.d (i64 b.set.hi),.sl 137 4 0 ((a.ar.map aW.cells).length+1)]))=_
           simp
          ·show some (Obj.arr 1 (.dd ((cu a.w).set (0+z.number.toNat) [i64 to])))=_
           rw[IL,tj];rfl
          ·show some (Obj.arr 4 (.dd (a.ar.map aW.cells ++ [({ z with shown:=to+a.off }:aW).cells])))=_
           simp
          ·show some (Obj.arr 1 (.dd (cu a.times ++ [[i64 to]])))=_
           rw[ff]
          ·show some (Obj.arr 1 (.dd (cu a.mine ++ [[i64 M]])))=_
           rw[ff]
         ·have k2:¬ z.kind=2:=of_decide_eq_false k2
          have e:=vR (x:=x) (set:=b.set) (M:=0) fF oy hF fun h=>absurd h k2;have e2:Be a z F to 0=⟨a.ar ++ [{ z with shown:=to+a.off }],a.times ++ [to],a.mine,a.off,to,if F then a.w.set z.number.toNat to else a.w⟩:=by unfold Be;rw[if_neg k2,if_neg k2]
          have yc:=ko (F:=F) hN pT rX (M:=0) (by omega);rw[e,e2]at eO;rw[e2]at yc;conv=>whnf
          refine ae (wrap_i64 (by(try dsimp only);omega)) ?_;conv=>whnf
          refine⟨_,⟨eO,yc⟩,Wk.sub ⟨rfl,rfl,rfl,rfl,rfl,rfl,rfl,rfl,rfl,rfl,rfl,rfl,rfl,?_,rfl,rfl,trivial⟩ ⟨rfl,rfl,rfl,rfl,?_,?_,?_,?_,rfl,rfl,rfl,rfl,trivial⟩⟩
          ·show some (V.sl 141 1 0 ((cu a.times).length+1))=_
           simp[cu]
          ·show some (Obj.box (.vv [.d (.str b.name),.d (i64 b.off.lo),.d (i64 b.off.hi),.d (i64 b.set.lo),.d (i64 b.set.hi),.sl 137 4 0 ((a.ar.map aW.cells).length+1)]))=_
           simp
          ·show some (Obj.arr 1 (.dd ((cu a.w).set (0+z.number.toNat) [i64 to])))=_
           rw[IL,tj];rfl
          ·show some (Obj.arr 4 (.dd (a.ar.map aW.cells ++ [({ z with shown:=to+a.off }:aW).cells])))=_
           simp
          ·show some (Obj.arr 1 (.dd (cu a.times ++ [[i64 to]])))=_
           rw[ff]
   ·have h3:¬ z.kind=3:=of_decide_eq_false h3
    conv=>whnf
    have hF:xV a z=false:=by rw[UI,decide_eq_false h3];rfl
    have oy:H5 y i k z a=a.now+T2%60:=by rw[pV,hF];rfl
    have rX:0<=a.now+T2%60/\a.now+T2%60<=1100+60*(8*i+(k+1:Nat)):=by omega
    generalize a.now+T2%60=to at oy rX ⊢;obtain⟨F,IL⟩:∃ F,F=false:=⟨_,rfl⟩;rw[<- IL]at hF;refine ao (to+a.off) rfl (wrap_i64 (by omega)) ?_;conv=>whnf
    have fB:qV y i k z a=(decide (to<a.now)||(decide (to+a.off<0)||decide (20000<to+a.off))):=by unfold qV;rw[oy]
    refine af (fun o1=>?_) (fun o1=>?_)
    ·have e:qX x y i k b.set z a=a:=by unfold qX;rw[fB,decide_eq_true (of_decide_eq_true o1),Bool.true_or];rfl
     rw[e]at eO;conv=>whnf
     refine ae (wrap_i64 (by(try dsimp only);omega)) ?_;conv=>whnf
     exact⟨a,⟨eO,hN.mono⟩,(Wk.sub (by repeat' first|constructor|simp[PX.get]) (by repeat' first|constructor|simp[PX.get]))⟩
    ·conv=>whnf
     refine af (fun o2=>?_) (fun o2=>?_)
     ·have e:qX x y i k b.set z a=a:=by unfold qX;rw[fB,decide_eq_true (of_decide_eq_true o2),Bool.true_or,Bool.or_true];rfl
      rw[e]at eO;conv=>whnf
      refine ae (wrap_i64 (by(try dsimp only);omega)) ?_;conv=>whnf
      exact⟨a,⟨eO,hN.mono⟩,(Wk.sub (by repeat' first|constructor|simp[PX.get]) (by repeat' first|constructor|simp[PX.get]))⟩
     ·conv=>whnf
      refine af (fun o3=>?_) (fun o3=>?_)
      ·have e:qX x y i k b.set z a=a:=by unfold qX;rw[fB,decide_eq_true (show 20000<to+a.off from of_decide_eq_true o3),Bool.or_true,Bool.or_true];rfl
       rw[e]at eO;conv=>whnf
       refine ae (wrap_i64 (by(try dsimp only);omega)) ?_;conv=>whnf
       exact⟨a,⟨eO,hN.mono⟩,(Wk.sub (by repeat' first|constructor|simp[PX.get]) (by repeat' first|constructor|simp[PX.get]))⟩
      ·have fF:qV y i k z a=false:=by rw[fB,decide_eq_false (of_decide_eq_false o1),decide_eq_false (of_decide_eq_false o2),decide_eq_false (show ¬ 20000<to+a.off from of_decide_eq_false o3)];rfl
       conv=>whnf
       refine ag rfl ?_;conv=>whnf
       refine ag (by simp[aK.len]) ?_;conv=>whnf
       refine aQ (decide_eq_true (by
        show((a.ar.map aW.cells).length+1)*40<=140737488355328;rw[List.length_map];omega)) ?_
       conv=>whnf
       refine ag rfl ?_;conv=>whnf
       refine ag (by simp[aK.len,cu]) ?_;conv=>whnf
       refine aQ (decide_eq_true (by
        show((cu a.times).length+1)*8<=140737488355328;rw[j8];omega)) ?_
       conv=>whnf
       refine af (fun k2=>?_) (fun k2=>?_)
       ·have k2:z.kind=2:=of_decide_eq_true k2
        have c3:bq Tryz.prog 58 [cM x,i64 (7*i+k+1:Nat)] (i64 (cj x (7*i+k+1))):=yU x hx (7*i+k+1);have c4:bq Tryz.prog 57 [b.set.d,i64 (cj x (7*i+k+1))] (i64 (fI b.set (cj x (7*i+k+1)))):=Mv b.set (cj x (7*i+k+1)) iQ.2.1 (by omega) (by omega) (Ve _);have hM:=iX iQ.2.1 (cj x (7*i+k+1));have e:=vR (x:=x) (set:=b.set) fF oy hF fun _=>rfl;generalize fI b.set (cj x (7*i+k+1))=M at hM c4 e;generalize cj x (7*i+k+1)=T3 at c3 c4;rw[e]at eO;conv=>whnf
        refine ao ((7*i:Nat):Int) (by omega) (wrap_i64 (by omega)) ?_;conv=>whnf
        refine ao ((7*i+k:Nat):Int) (by omega) (wrap_i64 (by omega)) ?_;conv=>whnf
        refine ao ((7*i+k+1:Nat):Int) (by omega) (wrap_i64 (by omega)) ?_;conv=>whnf
        refine aH (ds:=[cM x,i64 (7*i+k+1:Nat)]) c3 rfl rfl ?_;conv=>whnf
        refine aH (ds:=[b.set.d,i64 T3]) c4 rfl rfl ?_;conv=>whnf
        refine ag rfl ?_;conv=>whnf
        refine ag (by simp[aK.len,cu]) ?_;conv=>whnf
        refine aQ (decide_eq_true (by
         show((cu a.mine).length+1)*8<=140737488355328;rw[j8];omega)) ?_
        conv=>whnf
        refine ae (wrap_i64 (by(try dsimp only);omega)) ?_;conv=>whnf
        have e2:Be a z F to M=⟨a.ar ++ [{ z with shown:=to+a.off }],a.times ++ [to],a.mine ++ [M],M,to,if F then a.w.set z.number.toNat to else a.w⟩:=by unfold Be;rw[if_pos k2,if_pos k2]
        have yc:=ko (F:=F) hN pT rX (M:=M) (by omega);rw[e2]at eO yc;refine⟨_,⟨eO,yc⟩,Wk.sub ⟨rfl,rfl,rfl,rfl,rfl,rfl,rfl,rfl,rfl,rfl,rfl,rfl,?_,?_,rfl,rfl,trivial⟩ ⟨rfl,rfl,rfl,rfl,?_,?_,?_,?_,?_,rfl,rfl,rfl,trivial⟩⟩
        ·show some (V.sl 159 1 0 ((cu a.mine).length+1))=_
         simp[cu]
        ·show some (V.sl 141 1 0 ((cu a.times).length+1))=_
         simp[cu]
        ·show some (Obj.box (.vv [.d (.str b.name),.d (i64 b.off.lo),.d (i64 b.off.hi),.d (i64 b.set.lo),.d (i64 b.set.hi),.sl 137 4 0 ((a.ar.map aW.cells).length+1)]))=_
         simp
        ·rw[IL];rfl
        ·show some (Obj.arr 4 (.dd (a.ar.map aW.cells ++ [({ z with shown:=to+a.off }:aW).cells])))=_
         simp
        ·show some (Obj.arr 1 (.dd (cu a.times ++ [[i64 to]])))=_
         rw[ff]
        ·show some (Obj.arr 1 (.dd (cu a.mine ++ [[i64 M]])))=_
         rw[ff]
       ·have k2:¬ z.kind=2:=of_decide_eq_false k2
        have e:=vR (x:=x) (set:=b.set) (M:=0) fF oy hF fun h=>absurd h k2;have e2:Be a z F to 0=⟨a.ar ++ [{ z with shown:=to+a.off }],a.times ++ [to],a.mine,a.off,to,if F then a.w.set z.number.toNat to else a.w⟩:=by unfold Be;rw[if_neg k2,if_neg k2]
        have yc:=ko (F:=F) hN pT rX (M:=0) (by omega);rw[e,e2]at eO;rw[e2]at yc;conv=>whnf
        refine ae (wrap_i64 (by(try dsimp only);omega)) ?_;conv=>whnf
        refine⟨_,⟨eO,yc⟩,Wk.sub ⟨rfl,rfl,rfl,rfl,rfl,rfl,rfl,rfl,rfl,rfl,rfl,rfl,rfl,?_,rfl,rfl,trivial⟩ ⟨rfl,rfl,rfl,rfl,?_,?_,?_,?_,rfl,rfl,rfl,rfl,trivial⟩⟩
        ·show some (V.sl 141 1 0 ((cu a.times).length+1))=_
         simp[cu]
        ·show some (Obj.box (.vv [.d (.str b.name),.d (i64 b.off.lo),.d (i64 b.off.hi),.d (i64 b.set.lo),.d (i64 b.set.hi),.sl 137 4 0 ((a.ar.map aW.cells).length+1)]))=_
         simp
        ·rw[IL];rfl
        ·show some (Obj.arr 4 (.dd (a.ar.map aW.cells ++ [({ z with shown:=to+a.off }:aW).cells])))=_
         simp
        ·show some (Obj.arr 1 (.dd (cu a.times ++ [[i64 to]])))=_
         rw[ff]
  ·rintro a ⟨eO,hN⟩
   have eO:a=E:=eO;rw[<- eO]at wH;have nel:=hN.el;have ntl:=hN.tl;have nml:=hN.ml;conv=>whnf
   refine af (fun h=>absurd h (by simp)) (fun _=>?_);conv=>whnf
   have hAl:(s.aj.map au.cells).length=i:=by simp;omega
   have hTl:(fZ s.times).length=i:=by simp[fZ];omega
   have hOl:(fZ s.kV).length=i:=by simp[fZ];omega
   generalize hA:s.aj.map au.cells=A at hAl ⊢;generalize hT:fZ s.times=T at hTl ⊢;generalize hO:fZ s.kV=O at hOl ⊢;refine ag rfl ?_;conv=>whnf
   refine ag (by show s.aj.length=A.length;omega) ?_;conv=>whnf
   refine aQ (by
    show(true && !dF 164 (List.flatten (aG A ++ [[.d (.str b.name),.d (i64 b.off.lo),.d (i64 b.off.hi),.d (i64 b.set.lo),.d (i64 b.set.hi),.sl 137 4 0 a.ar.length]])))=true;rw[eh];rfl) ?_
   conv=>whnf
   refine aQ (decide_eq_true (by
    show(A.length+1)*72<=140737488355328;omega)) ?_
   conv=>whnf
   refine ag rfl ?_;conv=>whnf
   refine ag (by show s.times.length=T.length;omega) ?_;conv=>whnf
   refine aQ (by
    show(true && !dF 168 (List.flatten (aG T ++ [[V.sl 141 1 0 a.times.length]])))=true;rw[eh];rfl) ?_
   conv=>whnf
   refine aQ (decide_eq_true (by
    show(T.length+1)*24<=140737488355328;omega)) ?_
   conv=>whnf
   refine ag rfl ?_;conv=>whnf
   refine ag (by show s.kV.length=O.length;omega) ?_;conv=>whnf
   refine aQ (by
    show(true && !dF 172 (List.flatten (aG O ++ [[V.sl 159 1 0 a.mine.length]])))=true;rw[eh];rfl) ?_
   conv=>whnf
   refine aQ (decide_eq_true (by
    show(O.length+1)*24<=140737488355328;omega)) ?_
   conv=>whnf
   refine ae (wrap_i64 (by(try dsimp only);omega)) ?_;conv=>whnf
   have wI:∀ f X,aU f (aG A++X)=aG A++aU f X:=fun f X=>aE ..;refine⟨⟨s.aj ++ [{ b with ar:=a.ar }],s.times ++ [a.times],s.kV ++ [a.mine],a.w⟩,⟨wH,by simp;omega,by simp;omega,by simp;omega,hN.wl,fun n=>by have:=hN.w n;simp only;omega⟩,?_⟩;refine(Wk.sub (e':=[(1,.d (cM x)),(2,.d (cM y)),(3,.ptr 3 0),(6,.ptr 6 0),(9,.ptr 9 0),(10,.sl 168 1 0 (T.length+1)),(11,.sl 172 1 0 (O.length+1)),(12,.sl 28 1 0 100),(13,.d (i64 (i+1:Nat)))])
    (h':=[(3,.box (.dd l.cells)),(6,.box (.dd [i64 0,.nils])),(9,.box (.vv [.d (i64 l.near),.sl 164 6 0 (A.length+1)])),(28,.arr 1 (.dd (cu a.w))),(137,.arr 4 (.dd (a.ar.map aW.cells))),(141,.arr 1 (.dd (cu a.times))),(159,.arr 1 (.dd (cu a.mine))),(164,.arr 6 (.vv (aG A ++ [[.d (.str b.name),.d (i64 b.off.lo),.d (i64 b.off.hi),.d (i64 b.set.lo),.d (i64 b.set.hi),.sl 137 4 0 a.ar.length]]))),(168,.arr 1 (.vv (aG T ++ [[.sl 141 1 0 a.times.length]]))),(172,.arr 1 (.vv (aG O ++ [[.sl 159 1 0 a.mine.length]])))])
    ⟨rfl,rfl,rfl,rfl,rfl,rfl,rfl,rfl,rfl,trivial⟩ ⟨rfl,rfl,rfl,rfl,rfl,rfl,rfl,?_,?_,rfl,trivial⟩).trans ?_
   ·show some (Obj.arr 6 (.vv (aU _ (aU _ (aU _ (aU _ (aG A++_)))))))=_
    rw[aE,aE,aE,aE];rfl
   ·show some (Obj.arr 1 (.vv (aU _ (aU _ (aG T++_)))))=_
    rw[aE,aE];rfl
   refine(Wk.iB 1 [137] 164 (sz:=6) (vs:=aG A ++ [[.d (.str b.name),.d (i64 b.off.lo),.d (i64 b.off.hi),.d (i64 b.set.lo),.d (i64 b.set.hi),.sl 137 4 0 a.ar.length]]) (ds:=A ++ [({ b with ar:=a.ar }:au).cells]) rfl (dK (dL (az rfl (az rfl (az rfl (az rfl (az rfl (az (dW (es':=a.ar.map aW.cells) rfl rfl (by simp)) rfl))))))) _)).trans ?_;refine(Wk.iB 1 [141] 168 (sz:=1) (vs:=aG T ++ [[.sl 141 1 0 a.times.length]]) (ds:=T ++ [[ax a.times]]) rfl (dK (dL (az (dW (es':=cu a.times) rfl rfl (by simp[cu])) rfl)) _)).trans ?_;refine(Wk.iB 1 [159] 172 (sz:=1) (vs:=aG O ++ [[.sl 159 1 0 a.mine.length]]) (ds:=O ++ [[ax a.mine]]) rfl (dK (dL (az (dW (es':=cu a.mine) rfl rfl (by simp[cu])) rfl)) _)).trans ?_;subst hA hT hO;refine Wk.sub ⟨rfl,rfl,rfl,rfl,rfl,?_,?_,rfl,rfl,trivial⟩ ⟨rfl,rfl,?_,rfl,?_,?_,?_,trivial⟩
   ·show some (V.sl 168 1 0 ((fZ s.times).length+1))=_
    simp[fZ]
   ·show some (V.sl 172 1 0 ((fZ s.kV).length+1))=_
    simp[fZ]
   ·show some (Obj.box (.vv [.d (i64 l.near),.sl 164 6 0 ((s.aj.map au.cells).length+1)]))=_
    simp
   ·show some (Obj.arr 6 (.dd (s.aj.map au.cells ++ [({ b with ar:=a.ar }:au).cells])))=_
    simp
   ·show some (Obj.arr 1 (.dd (fZ s.times ++ [[ax a.times]])))=_
    simp[fZ]
   ·show some (Obj.arr 1 (.dd (fZ s.kV ++ [[ax a.mine]])))=_
    simp[fZ]
 ·rintro s ⟨wH,wF,LJ,Rr,LM,hwb⟩
  have wH:s=S:=wH;subst wH;conv=>whnf
  refine af (fun h=>absurd h (by simp)) (fun _=>?_);conv=>whnf
  refine ab 1 (ds:=[(⟨l.near,s.aj⟩:aM).d,.vs (fZ s.times),.vs (fZ s.kV)]) (az (show dA _ (.agg [.d (i64 l.near),.sl 164 6 0 s.aj.length])=_ from by
   rw[dA,az rfl (az (dW (es':=s.aj.map au.cells) rfl rfl (by simp)) rfl)];rfl) (az (dW (es':=fZ s.times) rfl rfl (by simp[fZ])) (az (dW (es':=fZ s.kV) rfl rfl (by simp[fZ])) rfl))) ⟨⟨rfl,rfl⟩,rfl⟩
end Go.PX
