import Derived.Test.YtpocldjdlookjaaPxM
import Derived.Test.YtpocldjdlookjaaPxJ
import Derived.Test.YtpocldjdlookjaaPxL
set_option linter.all false
set_option maxRecDepth 10000
namespace Go.PX
open Go.Proofs
def Kf:oq:=⟨⟨#[97,100,97]⟩,2,[]⟩
def NA:oq:=⟨⟨#[98,101,110]⟩,1,[]⟩
def Kl:oq:=⟨⟨#[99,105,100]⟩,0,[2]⟩
def NC:oq:=⟨⟨#[100,97,110]⟩,1,[]⟩
def cC(rest:Int)(HE:Bool):ao:=⟨[Kf,NA,Kl]++(if HE then [NC] else []),[⟨1,1⟩,⟨1,0⟩,⟨1,0⟩],1,rest⟩
theorem Jy(rest:Int)(HE:Bool):cy Try.prog 40 [i64 rest,.bool HE] (cC rest HE).d:=by
 refine cy.cL (r:=.agg ((.vs ([[.str ⟨#[97,100,97]⟩,i64 2,.nils],[.str ⟨#[98,101,110]⟩,i64 1,.nils],[.str ⟨#[99,105,100]⟩,i64 0,aj [2]]]++(if HE then [[.str ⟨#[100,97,110]⟩,i64 1,.nils]] else [])))::(cC rest HE).cells.tail)) ?_ (by cases HE<;>rfl)
 cases HE with
 | false=>
  refine bx Try.func40 rfl (ft:=KH) 2 fun {σ} Y st=>?_;conv=>whnf
  exact ba 3 rfl ⟨⟨rfl,rfl⟩,rfl⟩
 | true=>
  refine bx Try.func40 rfl (ft:=KH) 2 fun {σ} Y st=>?_;conv=>whnf
  refine ar rfl ?_;conv=>whnf
  refine ar rfl ?_;conv=>whnf
  exact ba 3 rfl ⟨⟨rfl,rfl⟩,rfl⟩
theorem zD(a b:List (List Int))(ha:a.length<1000000)(hr:∀ r∈a,r.length<1000000):cy Try.prog 24 [aJ a,aJ b] (.bool (decide (a=b))):=by
 refine bx Try.func24 rfl (ft:=NR) 2 fun {σ} Y st=>?_;conv=>whnf
 refine ak (fun h0=>?_) (fun h0=>?_)
 ·have h0:¬ a.length=b.length:=by
   have:¬ ((a.length:Int)=b.length):=by simpa using h0
   omega
  conv=>whnf
  rw[decide_eq_false (fun e=>h0 (by rw[e]))];exact ax
 have h0:a.length=b.length:=by
  have:((a.length:Int)=b.length):=by simpa using h0
  omega
 conv=>whnf
 refine bt (T:=tys) aI (by exact au mixed aI (by decide +kernel)) a (fun i (_:Unit)=>⟨[(0,.d (aJ a)),(1,.d (aJ b)),(4,.d (.bool false)),(5,.d (i64 i))],[],st⟩)
  (fun i r _=>(decide (a=b))=decide (r=b.drop i)) () aw rfl ?_ ?_
 ·intro i x r _ hx hi zP he
  have HS:i<b.length:=by omega
  have O3:b.drop i=b[i]::b.drop (i+1):=by rw[List.drop_eq_getElem_cons HS]
  rw[O3]at he;have Pf:b[i]?=some b[i]:=List.getElem?_eq_getElem HS;have L8:=hr x (List.mem_of_getElem? hx);conv=>whnf
  refine ak (fun _=>?_) (fun h=>absurd hi (by have:=of_decide_eq_false h;simp at this;omega));conv=>whnf
  refine ai hx ?_;conv=>whnf
  refine ai Pf ?_;conv=>whnf
  refine aE (ds:=[aj x,aj b[i]]) (vi x b[i] L8) rfl rfl ?_;conv=>whnf
  refine ak (fun h1=>?_) (fun h1=>?_)
  ·have h1:¬ x=b[i]:=by simpa using h1
   conv=>whnf
   rw[he,decide_eq_false (fun e=>h1 (List.cons.inj e).1)];exact ax
  ·have h1:x=b[i]:=by simpa using h1
   conv=>whnf
   refine ah ?_;conv=>whnf
   refine⟨(),?_,aw⟩;rw[he];exact decide_eq_decide.2 ⟨fun e=>(List.cons.inj e).2,fun e=>by rw[h1,e]⟩
 ·intro _ he
  conv=>whnf
  refine ak (fun h=>absurd h (by simp)) (fun _=>?_);conv=>whnf
  have hd:b.drop a.length = []:=by rw[h0];simp
  rw[he,hd];exact ax
def bV(aL:List Int):List (List Int):=aL.map fun m=>[m]
theorem QJ(aL:List Int)(hl:aL.length<=1000):cy Try.prog 42 [aj aL] (uS (bV aL)):=by
 refine bx Try.func42 rfl (ft:=N1) 1 fun {σ} Y st=>?_;conv=>whnf
 generalize hM:bV aL=M
 refine bt (T:=tys) aI (by exact au mixed aI (by decide +kernel)) aL (fun j (acc:List (List Int))=>⟨[(0,.d (aj aL)),(3,match acc with
   | []=>.d .nils
   | x::r=>.sl 18 1 0 (x::r).length),(4,.d (i64 j))],match acc with
   | []=>[]
   | x::r=>[(18,.arr 1 (.dd ((x::r).map fun r=>[aj r])))],st⟩)
  (fun j r acc=>acc.length=j/\M=acc++bV r) [] aw ⟨rfl,hM.symm⟩ ?_ ?_
 ·rintro j x r acc hx hj wb ⟨sQ,he⟩
  have he:M=(acc ++ [[x]])++bV r:=by rw[he];simp[bV]
  cases acc with
  | nil=>
   conv=>whnf
   refine ak (fun _=>?_) (fun h=>absurd hj (by have:=of_decide_eq_false h;simp at this;omega));conv=>whnf
   refine ai hx ?_;conv=>whnf
   refine ar rfl ?_;conv=>whnf
   refine ah ?_;conv=>whnf
   refine⟨[[x]],⟨by simp at sQ ⊢;omega,he⟩,(Wk.l7 1 [16] 18 (vs:=[[.sl 16 1 0 1]]) (ds:=[[aj [x]]]) rfl (gv (aV (bI (es:=[[i64 x]]) rfl rfl) rfl))).trans aw⟩
  | cons a l=>
   conv=>whnf
   refine ak (fun _=>?_) (fun h=>absurd hj (by have:=of_decide_eq_false h;simp at this;omega));conv=>whnf
   refine ai hx ?_;conv=>whnf
   refine ar rfl ?_;conv=>whnf
   refine ar (by simp[aC.len]) ?_;conv=>whnf
   have dB:(true && !dJ 18 ((aO ((a::l).map fun r=>[aj r]) ++ [[V.sl 16 1 0 1]]).flatten))=true:=by
    rw[iS];rfl
   refine aR dB ?_;conv=>whnf
   refine aR (decide_eq_true (by
    show(((a::l).map fun r=>[aj r]).length+1)*24<=140737488355328;rw[List.length_map];omega)) ?_
   conv=>whnf
   refine ah ?_;conv=>whnf
   refine⟨a::l ++ [[x]],⟨by simp at sQ ⊢;omega,he⟩,(Wk.l7 1 [16] 18 (sz:=1) (vs:=aO ((a::l).map fun r=>[aj r]) ++ [[.sl 16 1 0 1]]) (ds:=((a::l).map fun r=>[aj r]) ++ [[aj [x]]]) ?_ (gu (gv (aV (bI (es:=[[i64 x]]) rfl rfl) rfl)) _)).trans ?_⟩
   ·rfl
   ·refine Wk.sub ⟨rfl,?_,rfl,trivial⟩ ⟨?_,trivial⟩
    ·show some (V.sl 18 1 0 (((a::l).map fun r=>[aj r]).length+1))=some (V.sl 18 1 0 (a::(l ++ [[x]])).length)
     simp
    ·show some (Obj.arr 1 (aC.dd (((a::l).map fun r=>[aj r]) ++ [[aj [x]]])))=some (Obj.arr 1 (aC.dd ((a::(l ++ [[x]])).map fun r=>[aj r])))
     simp
 ·rintro acc ⟨_,he⟩
  have he:M=acc:=by simpa[bV]using he
  rw[he]
  cases acc with
  | nil=>
   conv=>whnf
   refine ak (fun h=>absurd h (by simp)) (fun _=>?_);conv=>whnf
   exact ax
  | cons a l=>
   conv=>whnf
   refine ak (fun h=>absurd h (by simp)) (fun _=>?_);conv=>whnf
   refine ba 1 (ds:=[aJ (a::l)]) ?_ ⟨⟨rfl,rfl⟩,rfl⟩;exact aV (bI (es:=(a::l).map fun r=>[aj r]) rfl (by simp)) rfl
theorem xN(n lo hi:Int):cy Try.prog 60 [i64 n,i64 lo,i64 hi] (.bool (iN n lo hi)):=by
 refine bx Try.func60 rfl (ft:=Ob) 3 fun {σ} Y st=>?_;conv=>whnf
 refine ak (fun hb=>?_) (fun hb=>?_)
 ·conv=>whnf
  refine ba 0 rfl ⟨⟨?_,rfl⟩,rfl⟩;simp[j6,iN]at hb ⊢;simp[hb]
 ·conv=>whnf
  refine ba 0 rfl ⟨⟨?_,rfl⟩,rfl⟩;simp[j6,iN]at hb ⊢;omega
theorem sE(l:List Int)(n:Int)(hl:l.length<4000000000000000000):cy Try.prog 49 [aj l,i64 n] (.bool (decide (n∈l))):=by
 refine bx Try.func49 rfl (ft:=N4) 2 fun {σ} Y st=>?_;conv=>whnf
 refine bt (T:=tys) aI (by exact au mixed aI (by decide +kernel)) l (fun i (_:Unit)=>⟨[(0,.d (aj l)),(1,.d (i64 n)),(4,.d (.bool false)),(5,.d (i64 i))],[],st⟩) (fun i r _=>decide (n∈l)=decide (n∈r)) () aw rfl ?_ ?_
 ·intro i x r _ hx hi hr he
  conv=>whnf
  refine ak (fun _=>?_) (fun h=>absurd hi (by have:=of_decide_eq_false h;simp at this;omega));conv=>whnf
  refine ai hx ?_;conv=>whnf
  refine ak (fun h1=>?_) (fun h1=>?_)
  ·have h1:x=n:=of_decide_eq_true h1
   conv=>whnf
   rw[he,decide_eq_true (by rw[h1];simp)];exact ax
  ·have h1:¬ x=n:=of_decide_eq_false h1
   conv=>whnf
   refine ah ?_;conv=>whnf
   refine⟨(),?_,aw⟩;rw[he];exact decide_eq_decide.2 ⟨fun h=>(List.mem_cons.1 h).elim (fun e=>absurd e.symm h1) id,fun h=>List.mem_cons_of_mem _ h⟩
 ·intro _ he
  conv=>whnf
  refine ak (fun h=>absurd h (by simp)) (fun _=>?_);conv=>whnf
  rw[he];exact ax
theorem Ht(l:List Int)(many:Int)(hm : -1000000<=many/\many<=1000000):cy Try.prog 62 [aj l,i64 many] (i64 (ek many (-1) l)):=by
 refine bx Try.func62 rfl (ft:=Od) 2 fun {σ} Y st=>?_;conv=>whnf
 refine bt (T:=tys) aI (by exact au mixed aI (by decide +kernel)) l (fun i (last:Int)=>⟨[(0,.d (aj l)),(1,.d (i64 many)),(4,.d (i64 0)),(5,.d (i64 i))],[],st⟩)
  (fun i r last=>ek many (-1) l=ek many last r/\((i=0/\last = -1)\/(0<i/\l[i-1]?=some last/\(i:Int)-1<=last/\last<=many-1))) (-1) aw ⟨rfl,.inl ⟨rfl,rfl⟩⟩ ?_ ?_
 ·rintro i x r last hx hi hr ⟨he,qd⟩
  rw[ek]at he;conv=>whnf
  refine ak (fun _=>?_) (fun h=>absurd hi (by have:=of_decide_eq_false h;simp at this;omega));conv=>whnf
  refine ai hx ?_;conv=>whnf
  refine ah ?_;conv=>whnf
  refine aH (ds:=[i64 x,i64 0,i64 (many-1)]) (xN x 0 (many-1)) rfl rfl ?_
  cases hb:iN x 0 (many-1) with
  | false=>
   rw[hb]at he;conv=>whnf
   rw[he];exact ax
  | true=>
   rw[hb]at he;have T3:=eS.1 hb;simp only[if_true]at he;conv=>whnf
   refine ak (fun h2=>?_) (fun h2=>?_)
   ·have h2:0<i:=by have:=of_decide_eq_true h2;simp at this;omega
    obtain⟨_,jO,EK,Pw⟩:=qd.resolve_left (fun h=>by omega);conv=>whnf
    refine ai hx ?_;conv=>whnf
    refine bg (((i-1:Nat):Int)) (by(try dsimp only);omega) (wrap_i64 (by(try dsimp only);omega)) ?_;conv=>whnf
    refine ai jO ?_;conv=>whnf
    refine ak (fun h3=>?_) (fun h3=>?_)
    ·have h3:x<=last:=of_decide_eq_true h3
     rw[if_pos h3]at he;conv=>whnf
     rw[he];exact ax
    ·have h3:¬ x<=last:=of_decide_eq_false h3
     rw[if_neg h3]at he;conv=>whnf
     refine ah ?_;conv=>whnf
     exact⟨x,⟨he,.inr ⟨by omega,by simpa using hx,by omega,by omega⟩⟩,aw⟩
   ·have h2:¬ 0<i:=by have:=of_decide_eq_false h2;simp at this;omega
    have jO:last = -1:=by
     rcases qd with h|h
     ·exact h.2
     ·omega
    rw[if_neg (by omega)]at he;conv=>whnf
    refine ah ?_;conv=>whnf
    exact⟨x,⟨he,.inr ⟨by omega,by simpa using hx,by omega,by omega⟩⟩,aw⟩
 ·rintro last ⟨he,_⟩
  conv=>whnf
  refine ak (fun h=>absurd h (by simp)) (fun _=>?_);conv=>whnf
  rw[he,ek];exact ax
def fE(l:List oq):List ByteArray:=l.map (·.name)
theorem G4(n:Int)(b:List oq)(x:oq):od n b x=if m9 x.name (fE b)=0 then (if iN x.kind 0 3 then ek n (-1) x.no else 7) else m9 x.name (fE b):=by
 have h:((fE b).any fun y=>decide (y=x.name))=b.any fun y=>decide (y.name=x.name):=by
  unfold fE;rw[List.any_map];rfl
 unfold od m9;rw[h];cases jn x.name<;>cases (b.any fun y=>decide (y.name=x.name))<;>simp
theorem Qz(c:ao):cy Try.prog 16 [c.d] (RL (fu c)):=by
 refine bx Try.func16 rfl (ft:=NM) 1 fun {σ} Y st=>?_;conv=>whnf
 unfold fu;rw[List.length_map];refine aH (ds:=[i64 c.aL.length,i64 1,i64 5]) (xN _ 1 5) rfl rfl ?_
 cases h0:iN c.aL.length 1 5 with
 | false=>
  conv=>whnf
  exact ax
 | true=>
 conv=>whnf
 rw[List.length_map];refine aH (ds:=[i64 c.aS.length,i64 1,i64 6]) (xN _ 1 6) rfl rfl ?_
 cases h1:iN c.aS.length 1 6 with
 | false=>
  conv=>whnf
  exact ax
 | true=>
 rw[eS]at h0 h1;conv=>whnf
 refine aH (ds:=[i64 c.run,i64 1,i64 3]) (xN _ 1 3) rfl rfl ?_
 cases h2:iN c.run 1 3 with
 | false=>
  conv=>whnf
  exact ax
 | true=>
 conv=>whnf
 refine aH (ds:=[i64 c.rest,i64 1,i64 3]) (xN _ 1 3) rfl rfl ?_
 cases h3:iN c.rest 1 3 with
 | false=>
  conv=>whnf
  exact ax
 | true=>
 simp only[Bool.and_self,if_true];conv=>whnf
 refine bt (T:=tys) aI (by exact au mixed aI (by decide +kernel)) c.aS (fun i (_:Unit)=>⟨[(1,.ptr 1 0),(5,.d (i64 i))],[(1,.box (.dd c.cells))],st⟩) (fun i r _=>dG kb [] c.aS 0=dG kb (c.aS.take i) r i) () aw rfl ?_ ?_
 ·intro i x r _ hx hi hr he
  rw[dG]at he;have xW:c.aS.take (i+1)=c.aS.take i ++ [x]:=by rw[List.take_succ,hx];rfl
  conv=>whnf
  refine ak (fun _=>?_) (fun h=>absurd hi (by have:=of_decide_eq_false h;simp at this;omega));conv=>whnf
  refine ai hx ?_;conv=>whnf
  refine aH (ds:=[i64 x.aL,i64 1,i64 2]) (xN _ 1 2) rfl rfl ?_
  cases h4:iN x.aL 1 2 with
  | false=>
   conv=>whnf
   rw[he];simp only[kb,h4];exact ax
  | true=>
  conv=>whnf
  refine ai hx ?_;conv=>whnf
  refine aH (ds:=[i64 x.least,i64 0,i64 3]) (xN _ 0 3) rfl rfl ?_
  cases h5:iN x.least 0 3 with
  | false=>
   conv=>whnf
   rw[he];simp only[kb,h4,h5];exact ax
  | true=>
  have hs:kb (c.aS.take i) x=0:=by simp[kb,h4,h5]
  rw[if_pos hs,<- xW]at he;conv=>whnf
  refine ah ?_;conv=>whnf
  exact⟨(),he,aw⟩
 intro _ he;rw[List.take_length,dG]at he;rw[he];simp only[if_true];conv=>whnf
 refine ak (fun h=>absurd h (by simp)) (fun _=>?_);conv=>whnf
 unfold tz;refine bt (T:=tys) aI (by exact au mixed aI (by decide +kernel)) c.aL (fun i (_:Unit)=>⟨[(1,.ptr 1 0),(6,.sl 80 1 0 i),(7,.d (i64 i))],[(1,.box (.dd c.cells)),(80,.arr 1 (.dd ((fE (c.aL.take i)).map fun s=>[.str s])))],st⟩) (fun i r _=>dG (od c.aS.length) [] c.aL 0=dG (od c.aS.length) (c.aL.take i) r i) ()
  ((Wk.born 6 80 1 rfl rfl rfl).trans aw) rfl ?_ ?_
 ·intro i x r _ hx hi hr he
  rw[dG]at he;have xW:c.aL.take (i+1)=c.aL.take i ++ [x]:=by rw[List.take_succ,hx];rfl
  have hE:=G4 c.aS.length (c.aL.take i) x;have mL:(fE (c.aL.take i)).length=i:=by unfold fE;simp;omega
  conv=>whnf
  refine ak (fun _=>?_) (fun h=>absurd hi (by have:=of_decide_eq_false h;simp at this;omega));conv=>whnf
  refine ai hx ?_;conv=>whnf
  refine a8 (ds:=[.str x.name,zy (fE (c.aL.take i))]) (NH x.name (fE (c.aL.take i)) (by omega)) rfl 1 (aV rfl (aV (bI rfl (by simp[mL])) rfl)) ?_;conv=>whnf
  refine ai hx ?_;conv=>whnf
  refine ar rfl ?_;conv=>whnf
  refine ar (by simp[aC.len,mL]) ?_;conv=>whnf
  refine aR (decide_eq_true (by
   show(((fE (c.aL.take i)).map fun s=>[D.str s]).length+1)*16<=140737488355328;rw[List.length_map];omega)) ?_
  conv=>whnf
  generalize m9 x.name (fE (c.aL.take i))=F at hE ⊢;have BF:(fE (c.aL.take i)).map (fun s=>[D.str s]) ++ [[.str x.name]]=(fE (c.aL.take (i+1))).map fun s=>[.str s]:=by
   rw[xW];simp[fE]
  have PG:((fE (c.aL.take i)).map fun s=>[D.str s]).length+1=i+1:=by rw[List.length_map,mL]
  refine ak (fun h2=>?_) (fun h2=>?_)
  ·have h2:F=0:=of_decide_eq_true h2
   subst h2;simp only[if_true]at hE;conv=>whnf
   refine ai hx ?_;conv=>whnf
   refine aH (ds:=[i64 x.kind,i64 0,i64 3]) (xN _ 0 3) rfl rfl ?_
   cases h3:iN x.kind 0 3 with
   | false=>
    rw[h3]at hE;simp only[Bool.false_eq_true,if_false]at hE;rw[hE]at he;conv=>whnf
    rw[he];exact ax
   | true=>
    rw[h3]at hE;simp only[if_true]at hE;conv=>whnf
    refine ai hx ?_;conv=>whnf
    rw[List.length_map];refine aE (ds:=[aj x.no,i64 c.aS.length]) (Ht x.no c.aS.length (by omega)) rfl rfl ?_;generalize ek c.aS.length (-1) x.no=E at hE ⊢;conv=>whnf
    refine ak (fun h4=>?_) (fun h4=>?_)
    ·have h4:¬ E=0:=by simpa using h4
     rw[hE,if_neg h4]at he;conv=>whnf
     rw[he];dsimp only;rw[if_neg h4];exact ax
    ·have h4:E=0:=by simpa using h4
     rw[hE,if_pos h4,<- xW]at he;conv=>whnf
     refine ah ?_;conv=>whnf
     refine⟨(),he,Wk.sub ⟨rfl,?_,rfl,trivial⟩ ⟨rfl,?_,trivial⟩⟩
     ·show some (V.sl 80 1 0 (((fE (c.aL.take i)).map fun s=>[D.str s]).length+1))=_
      rw[PG]
     ·show some (Obj.arr 1 (aC.dd ((fE (c.aL.take i)).map (fun s=>[D.str s]) ++ [[.str x.name]])))=_
      rw[BF]
  ·have h2:¬ F=0:=of_decide_eq_false h2
   rw[if_neg h2]at hE;rw[hE,if_neg h2]at he;conv=>whnf
   refine ak (fun h3=>absurd (of_decide_eq_true h3) h2) (fun _=>?_);conv=>whnf
   refine ak (fun _=>?_) (fun h3=>absurd h3 (by simp[h2]));conv=>whnf
   rw[he];dsimp only;rw[if_neg h2];exact ax
 ·intro _ he
  rw[List.take_length,dG]at he;rw[he];conv=>whnf
  refine ak (fun h=>absurd h (by simp)) (fun _=>?_);conv=>whnf
  exact ax
structure F9(c:ao)(rota:List (List Int))(e0:Int):Prop where
 eq:b0 c rota=(if e0=0 then dr (ek c.aL.length (-1)) rota else e0)
 bd:e0=0->c.aL.length<=5/\rota.length<=40
theorem Jz(c:ao)(rota:List (List Int)):cy Try.prog 65 [c.d,aJ rota] (i64 (b0 c rota)):=by
 refine bx Try.func65 rfl (ft:=Og) 2 fun {σ} Y st=>?_;conv=>whnf
 refine aH (Qz c) rfl rfl ?_;conv=>whnf
 have fin:∀ (e0:Int),b0 c rota=(if e0=0 then dr (ek c.aL.length (-1)) rota else e0)->(e0=0->c.aL.length<=5/\rota.length<=40)->F9 c rota e0:=fun e0 h1 h2=>⟨h1,h2⟩;refine ak (fun h0=>?_) (fun h0=>?_)
 ·have h0:(fu c).2.2=0:=of_decide_eq_true h0
  have hm:=(wR h0).aL;conv=>whnf
  refine ak (fun h1=>?_) (fun h1=>?_)
  ·have h1:rota.length>40:=by have:=of_decide_eq_true h1;simp at this;omega
   obtain⟨hE,hb⟩:=fin 3 (by rw[b0,if_pos h0,if_pos h1];rfl) (fun h=>by omega);conv=>whnf
   refine bt (T:=tys) aI (by exact au mixed aI (by decide +kernel)) rota (fun i (e:Int)=>⟨[(1,.d (aJ rota)),(2,.ptr 2 0),(4,.d (i64 0)),(7,.d (i64 e)),(8,.d (i64 i))],[(2,.box (.dd c.cells))],st⟩) (fun i r e=>(b0 c rota=if e=0 then dr (ek c.aL.length (-1)) r else e)/\(e=0->c.aL.length<=5/\rota.length<=40)) (3) aw ⟨hE,hb⟩ ?_ ?_
   ·rintro i x r e hx hi hr ⟨he,xU⟩
    conv=>whnf
    refine ak (fun _=>?_) (fun h=>absurd hi (by have:=of_decide_eq_false h;simp at this;omega));conv=>whnf
    refine ak (fun h2=>?_) (fun h2=>?_)
    ·have h2:e=0:=of_decide_eq_true h2
     subst h2;obtain⟨n9,mI⟩:=xU rfl;rw[if_pos rfl,dr]at he;conv=>whnf
     refine ai hx ?_;conv=>whnf
     rw[List.length_map];refine aE (ds:=[aj x,i64 c.aL.length]) (Ht x c.aL.length (by omega)) rfl rfl ?_;conv=>whnf
     refine ah ?_;conv=>whnf
     refine⟨ek c.aL.length (-1) x,⟨?_,fun _=>⟨n9,mI⟩⟩,aw⟩;rw[he]
    ·have h2:¬ e=0:=of_decide_eq_false h2
     rw[if_neg h2]at he;conv=>whnf
     rw[he];exact ax
   ·rintro e ⟨he,_⟩
    conv=>whnf
    refine ak (fun h=>absurd h (by simp)) (fun _=>?_);conv=>whnf
    have he:b0 c rota=e:=by
     rw[he];split
     ·rename_i h;rw[h];rfl
     ·rfl
    rw[he];exact ax
  ·have h1:¬ rota.length>40:=by have:=of_decide_eq_false h1;simp at this;omega
   obtain⟨hE,hb⟩:=fin 0 (by rw[b0,if_pos h0,if_neg h1];rfl) (fun _=>⟨hm.2,by omega⟩);rw[h0];conv=>whnf
   refine bt (T:=tys) aI (by exact au mixed aI (by decide +kernel)) rota (fun i (e:Int)=>⟨[(1,.d (aJ rota)),(2,.ptr 2 0),(4,.d (i64 0)),(7,.d (i64 e)),(8,.d (i64 i))],[(2,.box (.dd c.cells))],st⟩) (fun i r e=>(b0 c rota=if e=0 then dr (ek c.aL.length (-1)) r else e)/\(e=0->c.aL.length<=5/\rota.length<=40)) (0) aw ⟨hE,hb⟩ ?_ ?_
   ·rintro i x r e hx hi hr ⟨he,xU⟩
    conv=>whnf
    refine ak (fun _=>?_) (fun h=>absurd hi (by have:=of_decide_eq_false h;simp at this;omega));conv=>whnf
    refine ak (fun h2=>?_) (fun h2=>?_)
    ·have h2:e=0:=of_decide_eq_true h2
     subst h2;obtain⟨n9,mI⟩:=xU rfl;rw[if_pos rfl,dr]at he;conv=>whnf
     refine ai hx ?_;conv=>whnf
     rw[List.length_map];refine aE (ds:=[aj x,i64 c.aL.length]) (Ht x c.aL.length (by omega)) rfl rfl ?_;conv=>whnf
     refine ah ?_;conv=>whnf
     refine⟨ek c.aL.length (-1) x,⟨?_,fun _=>⟨n9,mI⟩⟩,aw⟩;rw[he]
    ·have h2:¬ e=0:=of_decide_eq_false h2
     rw[if_neg h2]at he;conv=>whnf
     rw[he];exact ax
   ·rintro e ⟨he,_⟩
    conv=>whnf
    refine ak (fun h=>absurd h (by simp)) (fun _=>?_);conv=>whnf
    have he:b0 c rota=e:=by
     rw[he];split
     ·rename_i h;rw[h];rfl
     ·rfl
    rw[he];exact ax
 ·have h0:¬ (fu c).2.2=0:=of_decide_eq_false h0
  obtain⟨hE,hb⟩:=fin (fu c).2.2 (by rw[b0,if_neg h0,if_neg h0]) (fun h=>absurd h h0);conv=>whnf
  refine bt (T:=tys) aI (by exact au mixed aI (by decide +kernel)) rota (fun i (e:Int)=>⟨[(1,.d (aJ rota)),(2,.ptr 2 0),(4,.d (i64 0)),(7,.d (i64 e)),(8,.d (i64 i))],[(2,.box (.dd c.cells))],st⟩) (fun i r e=>(b0 c rota=if e=0 then dr (ek c.aL.length (-1)) r else e)/\(e=0->c.aL.length<=5/\rota.length<=40)) ((fu c).2.2) aw ⟨hE,hb⟩ ?_ ?_
  ·rintro i x r e hx hi hr ⟨he,xU⟩
   conv=>whnf
   refine ak (fun _=>?_) (fun h=>absurd hi (by have:=of_decide_eq_false h;simp at this;omega));conv=>whnf
   refine ak (fun h2=>?_) (fun h2=>?_)
   ·have h2:e=0:=of_decide_eq_true h2
    subst h2;obtain⟨n9,mI⟩:=xU rfl;rw[if_pos rfl,dr]at he;conv=>whnf
    refine ai hx ?_;conv=>whnf
    rw[List.length_map];refine aE (ds:=[aj x,i64 c.aL.length]) (Ht x c.aL.length (by omega)) rfl rfl ?_;conv=>whnf
    refine ah ?_;conv=>whnf
    refine⟨ek c.aL.length (-1) x,⟨?_,fun _=>⟨n9,mI⟩⟩,aw⟩;rw[he]
   ·have h2:¬ e=0:=of_decide_eq_false h2
    rw[if_neg h2]at he;conv=>whnf
    rw[he];exact ax
  ·rintro e ⟨he,_⟩
   conv=>whnf
   refine ak (fun h=>absurd h (by simp)) (fun _=>?_);conv=>whnf
   have he:b0 c rota=e:=by
    rw[he];split
    ·rename_i h;rw[h];rfl
    ·rfl
   rw[he];exact ax
def g5(m:Int):List (List Int)->Int
 | []=>0
 | r::h=>if m∈r then g5 m h+1 else 0
def cV(m:Int):List (List Int)->Int
 | []=>-1
 | r::h=>if m∈r then 0 else if cV m h = -1 then -1 else cV m h+1
theorem B0{α:Type}{l:List α}{i:Nat}(hi:i<l.length):l[l.length-1-i]?=l.reverse[i]?:=by
 rw[List.getElem?_reverse hi]
theorem QW(rota:List (List Int))(m:Int)(hl:rota.length<1000000)(hr:∀ r∈rota,r.length<1000000):cy Try.prog 96 [aJ rota,i64 m] (i64 (g5 m rota.reverse)):=by
 refine bx Try.func96 rfl (ft:=OB) 2 fun {σ} Y st=>?_;conv=>whnf
 refine bt (T:=tys) aI (by exact au mixed aI (by decide +kernel)) rota.reverse (fun i (_:Unit)=>⟨[(0,.d (aJ rota)),(1,.d (i64 m)),(4,.d (i64 0)),(5,.d (i64 i))],[],st⟩) (fun i r _=>g5 m rota.reverse=i+g5 m r) () aw (by simp) ?_ ?_
 ·intro i x r _ hx hi wb he
  have Lo:i<rota.length:=by simpa using hi
  rw[<- B0 Lo]at hx;rw[g5]at he;have L8:=hr x (List.mem_of_getElem? hx);conv=>whnf
  refine ak (fun _=>?_) (fun h=>absurd Lo (by have:=of_decide_eq_false h;simp at this;omega));conv=>whnf
  refine bg ((rota.length:Int)-1) (by simp) (wrap_i64 (by omega)) ?_;conv=>whnf
  refine bg (((rota.length-1-i:Nat):Int)) (by(try dsimp only);omega) (wrap_i64 (by(try dsimp only);omega)) ?_;conv=>whnf
  refine ai hx ?_;conv=>whnf
  refine aH (ds:=[aj x,i64 m]) (sE x m (by omega)) rfl rfl ?_;conv=>whnf
  refine ak (fun h1=>?_) (fun h1=>?_)
  ·have h1:m∈x:=of_decide_eq_true h1
   rw[if_pos h1]at he;conv=>whnf
   refine ah ?_;conv=>whnf
   exact⟨(),by rw[he];omega,aw⟩
  ·have h1:¬ m∈x:=of_decide_eq_false h1
   rw[if_neg h1]at he;conv=>whnf
   rw[he];exact ax
 ·intro _ he
  conv=>whnf
  refine ak (fun h=>absurd h (by simp)) (fun _=>?_);conv=>whnf
  rw[he,g5];exact ax
theorem j9(m:Int):∀ h,-1<=cV m h
 | []=>by simp[cV]
 | r::h=>by
  have:=j9 m h;rw[cV];split
  ·omega
  ·split<;>omega
theorem JB(rota:List (List Int))(m:Int)(hl:rota.length<1000000)(hr:∀ r∈rota,r.length<1000000):cy Try.prog 95 [aJ rota,i64 m] (i64 (cV m rota.reverse)):=by
 refine bx Try.func95 rfl (ft:=OA) 2 fun {σ} Y st=>?_;conv=>whnf
 refine bt (T:=tys) aI (by exact au mixed aI (by decide +kernel)) rota.reverse (fun i (_:Unit)=>⟨[(0,.d (aJ rota)),(1,.d (i64 m)),(4,.d (i64 0)),(5,.d (i64 i))],[],st⟩) (fun i r _=>cV m rota.reverse=if cV m r = -1 then -1 else i+cV m r) () aw (by by_cases h:cV m rota.reverse = -1<;>simp[h]) ?_ ?_
 ·intro i x r _ hx hi wb he
  have Lo:i<rota.length:=by simpa using hi
  rw[<- B0 Lo]at hx;rw[cV]at he;have L8:=hr x (List.mem_of_getElem? hx);conv=>whnf
  refine ak (fun _=>?_) (fun h=>absurd Lo (by have:=of_decide_eq_false h;simp at this;omega));conv=>whnf
  refine bg ((rota.length:Int)-1) (by simp) (wrap_i64 (by omega)) ?_;conv=>whnf
  refine bg (((rota.length-1-i:Nat):Int)) (by(try dsimp only);omega) (wrap_i64 (by(try dsimp only);omega)) ?_;conv=>whnf
  refine ai hx ?_;conv=>whnf
  refine aH (ds:=[aj x,i64 m]) (sE x m (by omega)) rfl rfl ?_;conv=>whnf
  refine ak (fun h1=>?_) (fun h1=>?_)
  ·have h1:m∈x:=of_decide_eq_true h1
   rw[if_pos h1]at he;have he:cV m rota.reverse=i:=by simpa using he
   conv=>whnf
   rw[he];exact ax
  ·have h1:¬ m∈x:=of_decide_eq_false h1
   rw[if_neg h1]at he;conv=>whnf
   refine ah ?_;conv=>whnf
   refine⟨(),?_,aw⟩;have:=j9 m r;rw[he];by_cases h2:cV m r = -1
   ·simp[h2]
   ·simp only[h2,if_false]
    rw[if_neg (by omega)];omega
 ·intro _ he
  conv=>whnf
  refine ak (fun h=>absurd h (by simp)) (fun _=>?_);conv=>whnf
  rw[he];exact ax
def J2(c:ao)(k:Int)(m:Int):Bool:=decide (k∈(ec c m).no)
def Dr(c:ao)(h:List (List Int))(m:Int):Bool:=decide (g5 m h≥c.run)
def wF(c:ao)(h:List (List Int))(m:Int):Bool:=decide (cV m h>0)&&decide (cV m h<c.rest)
def fg(c:ao)(n:Nat):Int:=(n:Int).tmod c.aS.length
def rz(c:ao)(n:Nat):Slot:=(c.aS[(fg c n).toNat]?).getD ⟨0,0⟩
def FH(c:ao)(rota:List (List Int))(group:List Int):Int×Int:=
 if (group.length:Int)≠(rz c rota.length).aL then (1,0)
 else if !group.any (fun m=>decide ((ec c m).kind≥(rz c rota.length).least)) then (2,0)
 else match group.find? (J2 c (fg c rota.length)) with
  | some m=>(3,m)
  | none=>match group.find? (Dr c rota.reverse) with
   | some m=>(4,m)
   | none=>match group.find? (wF c rota.reverse) with
    | some m=>(5,m)
    | none=>(0,0)
theorem Fw{c:ao}(hR:WR c)(n:Nat):0<=fg c n/\fg c n<c.aS.length:=by
 have hs:=hR.aS;exact⟨Int.tmod_nonneg _ (by omega),Int.tmod_lt_of_pos _ (by omega)⟩
theorem QP(c:ao)(hR:WR c)(rota:List (List Int))(hl:rota.length<1000000)(hr:∀ r∈rota,r.length<1000000)(group:List Int)(hg:pK c group)(tW:group.length<1000000) :
  cy Try.prog 71 [c.d,aJ rota,aj group] (.tup [i64 (FH c rota group).1,i64 (FH c rota group).2]):=by
 refine bx Try.func71 rfl (ft:=Ok) 3 fun {σ} Y st=>?_;conv=>whnf
 have hm:=hR.aL;have hs:=hR.aS;have hk:=Fw hR rota.length;obtain⟨s,zQ⟩:∃ s,c.aS[(fg c rota.length).toNat]?=some s:=⟨c.aS[(fg c rota.length).toNat]'(by omega),by simp⟩;have Tc:rz c rota.length=s:=by simp[rz,zQ]
 have sk:∀ m∈group,∃ (j:Nat) (x:oq),m=(j:Int)/\c.aL[j]?=some x/\ec c m=x:=by
  intro m hm;obtain⟨h1,h2⟩:=hg m hm;have hk:m.toNat<c.aL.length:=by omega
  exact⟨m.toNat,c.aL[m.toNat],by omega,by simp[hk],by simp[ec,hk]⟩
 refine aR (decide_eq_true (by rw[List.length_map];omega)) ?_;conv=>whnf
 rw[List.length_map,List.length_map];have dt:((rota.length:Int).tmod (c.aS.length:Int))=fg c rota.length:=rfl;rw[dt];unfold FH;rw[Tc];refine fQ s.cells ⟨hk.1,by simp[zQ]⟩ ?_;conv=>whnf
 refine ak (fun h0=>?_) (fun h0=>?_)
 ·have h0:(group.length:Int)≠s.aL:=by simpa using h0
  conv=>whnf
  rw[if_pos h0];exact ax
 have h0:(group.length:Int)=s.aL:=by simpa using h0
 rw[if_neg (by simpa using h0)];conv=>whnf
 generalize Gu:group.any (fun m=>decide ((ec c m).kind≥s.least))=A;refine bt (T:=tys) aI (by exact au mixed aI (by decide +kernel)) group (fun i (b:Bool)=>⟨[(1,.d (aJ rota)),(2,.d (aj group)),(3,.ptr 3 0),(6,.d (i64 0)),(7,.d (i64 0)),(8,.d (i64 (fg c rota.length))),(9,.d (.bool b)),(10,.d (i64 i))],[(3,.box (.dd c.cells))],st⟩)
  (fun i r b=>A=(b||r.any fun m=>decide ((ec c m).kind≥s.least))) false aw (by rw[<- Gu];rfl) ?_ ?_
 ·intro i x r b hx hi wb he
  obtain⟨j,y,rfl,hj,HX⟩:=sk x (List.mem_of_getElem? hx);rw[List.any_cons,HX]at he;conv=>whnf
  refine ak (fun _=>?_) (fun h=>absurd hi (by have:=of_decide_eq_false h;simp at this;omega));conv=>whnf
  cases b with
  | true=>
   conv=>whnf
   refine ah ?_;conv=>whnf
   exact⟨true,by rw[he];rfl,aw⟩
  | false=>
   conv=>whnf
   refine ai hx ?_;conv=>whnf
   refine ai hj ?_;conv=>whnf
   refine fQ s.cells ⟨hk.1,by simp[zQ]⟩ ?_;conv=>whnf
   refine ah ?_;conv=>whnf
   exact⟨decide (y.kind≥s.least),by rw[he];rfl,aw⟩
 intro b he;have he:A=b:=by simpa using he
 subst he;conv=>whnf
 refine ak (fun h=>absurd h (by simp)) (fun _=>?_);conv=>whnf
 cases A with
 | false=>
  conv=>whnf
  exact ax
 | true=>
 conv=>whnf
 rw[if_neg (by simp)];generalize hf3:group.find? (J2 c (fg c rota.length))=f3;generalize hf4:group.find? (Dr c rota.reverse)=f4;generalize hf5:group.find? (wF c rota.reverse)=f5;refine fM (T:=tys) aI (by exact au mixed aI (by decide +kernel)) (α:=Nat) (fun w=>⟨[(1,.d (aJ rota)),(2,.d (aj group)),(3,.ptr 3 0),(6,.d (i64 0)),(7,.d (i64 0)),(8,.d (i64 (fg c rota.length))),(11,.d (i64 w))],[(3,.box (.dd c.cells))],st⟩)
  (fun w=>(3<=w/\w<=6)/\(4<=w->f3=none)/\(5<=w->f4=none)/\(6<=w->f5=none)) (fun w=>6-w) 3 aw ⟨by omega,by omega,by omega,by omega⟩ ?_
 rintro w ⟨hw,Qc,RH,Tj⟩;have h4:w=3\/w=4\/w=5\/w=6:=by omega
 rcases h4 with rfl|rfl|rfl|rfl
 ·conv=>whnf
  refine bt (T:=tys) aI (by exact au mixed aI (by decide +kernel)) group (fun i (_:Unit)=>⟨[(1,.d (aJ rota)),(2,.d (aj group)),(3,.ptr 3 0),(6,.d (i64 0)),(7,.d (i64 0)),(8,.d (i64 (fg c rota.length))),(11,.d (i64 3)),(12,.d (i64 i))],[(3,.box (.dd c.cells))],st⟩) (fun i r _=>f3=r.find? (J2 c (fg c rota.length))) () aw hf3.symm ?_ ?_
  ·intro i x r _ hx hi wb he
   obtain⟨j,y,rfl,hj,HX⟩:=sk x (List.mem_of_getElem? hx);conv=>whnf
   refine ak (fun _=>?_) (fun h=>absurd hi (by have:=of_decide_eq_false h;simp at this;omega));conv=>whnf
   refine ai hx ?_;conv=>whnf
   refine aH (ds:=[aJ rota,i64 j]) (JB rota j hl hr) rfl rfl ?_;conv=>whnf
   have BG:y.no.length<4000000000000000000:=by
    rcases gM ((hR.Ql y (List.mem_of_getElem? hj)).2) with h|h
    ·rw[h];simp
    ·omega
   have hp:J2 c (fg c rota.length) (j:Int)=decide (fg c rota.length∈y.no):=by unfold J2;rw[HX]
   rw[List.find?_cons,hp]at he;refine ai hj ?_;conv=>whnf
   refine aE (ds:=[aj y.no,i64 (fg c rota.length)]) (sE y.no _ BG) rfl rfl ?_;conv=>whnf
   refine ak (fun h1=>?_) (fun h1=>?_)
   ·rw[h1]at he
    simp only at he;conv=>whnf
    rw[he];exact ax
   ·rw[h1]at he
    simp only at he;conv=>whnf
    refine ah ?_;conv=>whnf
    exact⟨(),he,aw⟩
  ·intro _ he
   rw[List.find?_nil]at he;conv=>whnf
   refine ak (fun h=>absurd h (by simp)) (fun _=>?_);conv=>whnf
   refine ah ?_;conv=>whnf
   exact⟨4,by omega,⟨by omega,fun _=>he,by omega,by omega⟩,aw⟩
 ·cases Qc (by omega)
  conv=>whnf
  refine bt (T:=tys) aI (by exact au mixed aI (by decide +kernel)) group (fun i (_:Unit)=>⟨[(1,.d (aJ rota)),(2,.d (aj group)),(3,.ptr 3 0),(6,.d (i64 0)),(7,.d (i64 0)),(8,.d (i64 (fg c rota.length))),(11,.d (i64 4)),(12,.d (i64 i))],[(3,.box (.dd c.cells))],st⟩) (fun i r _=>f4=r.find? (Dr c rota.reverse)) () aw hf4.symm ?_ ?_
  ·intro i x r _ hx hi wb he
   obtain⟨j,y,rfl,hj,HX⟩:=sk x (List.mem_of_getElem? hx);conv=>whnf
   refine ak (fun _=>?_) (fun h=>absurd hi (by have:=of_decide_eq_false h;simp at this;omega));conv=>whnf
   refine ai hx ?_;conv=>whnf
   refine aH (ds:=[aJ rota,i64 j]) (JB rota j hl hr) rfl rfl ?_;conv=>whnf
   have hp:Dr c rota.reverse (j:Int)=decide (g5 (j:Int) rota.reverse≥c.run):=rfl;rw[List.find?_cons,hp]at he;refine aE (ds:=[aJ rota,i64 j]) (QW rota j hl hr) rfl rfl ?_;conv=>whnf
   refine ak (fun h1=>?_) (fun h1=>?_)
   ·have h1:decide (g5 (j:Int) rota.reverse≥c.run)=true:=h1
    rw[h1]at he;simp only at he;conv=>whnf
    rw[he];exact ax
   ·have h1:decide (g5 (j:Int) rota.reverse≥c.run)=false:=h1
    rw[h1]at he;simp only at he;conv=>whnf
    refine ah ?_;conv=>whnf
    exact⟨(),he,aw⟩
  ·intro _ he
   rw[List.find?_nil]at he;conv=>whnf
   refine ak (fun h=>absurd h (by simp)) (fun _=>?_);conv=>whnf
   refine ah ?_;conv=>whnf
   exact⟨5,by omega,⟨by omega,fun _=>rfl,fun _=>he,by omega⟩,aw⟩
 ·cases Qc (by omega)
  cases RH (by omega)
  conv=>whnf
  refine bt (T:=tys) aI (by exact au mixed aI (by decide +kernel)) group (fun i (_:Unit)=>⟨[(1,.d (aJ rota)),(2,.d (aj group)),(3,.ptr 3 0),(6,.d (i64 0)),(7,.d (i64 0)),(8,.d (i64 (fg c rota.length))),(11,.d (i64 5)),(12,.d (i64 i))],[(3,.box (.dd c.cells))],st⟩) (fun i r _=>f5=r.find? (wF c rota.reverse)) () aw hf5.symm ?_ ?_
  ·intro i x r _ hx hi wb he
   obtain⟨j,y,rfl,hj,HX⟩:=sk x (List.mem_of_getElem? hx);conv=>whnf
   refine ak (fun _=>?_) (fun h=>absurd hi (by have:=of_decide_eq_false h;simp at this;omega));conv=>whnf
   refine ai hx ?_;conv=>whnf
   refine aH (ds:=[aJ rota,i64 j]) (JB rota j hl hr) rfl rfl ?_;conv=>whnf
   have hp:wF c rota.reverse (j:Int)=(decide (cV (j:Int) rota.reverse>0)&&decide (cV (j:Int) rota.reverse<c.rest)):=rfl;rw[List.find?_cons,hp]at he;refine ak (fun h1=>?_) (fun h1=>?_)
   ·have h1:decide (cV (j:Int) rota.reverse>0)=true:=h1
    rw[h1]at he;conv=>whnf
    refine ak (fun h2=>?_) (fun h2=>?_)
    ·rw[h2]at he
     simp only[Bool.and_self]at he;conv=>whnf
     rw[he];exact ax
    ·rw[h2]at he
     simp only[Bool.true_and]at he;conv=>whnf
     refine ah ?_;conv=>whnf
     exact⟨(),he,aw⟩
   ·have h1:decide (cV (j:Int) rota.reverse>0)=false:=h1
    rw[h1]at he;simp only[Bool.false_and]at he;conv=>whnf
    refine ah ?_;conv=>whnf
    exact⟨(),he,aw⟩
  ·intro _ he
   rw[List.find?_nil]at he;conv=>whnf
   refine ak (fun h=>absurd h (by simp)) (fun _=>?_);conv=>whnf
   refine ah ?_;conv=>whnf
   exact⟨6,by omega,⟨by omega,fun _=>rfl,fun _=>rfl,fun _=>he⟩,aw⟩
 ·cases Qc (by omega)
  cases RH (by omega)
  cases Tj (by omega)
  conv=>whnf
  exact ax
structure xY(c:ao)(h:List (List Int))(t:ag):Prop where
 slot:t.slot=fg c h.length
 run:∀ j:Nat,j<c.aL.length->0<g5 j h->t.get j=g5 j h
 new:∀ j:Nat,j<c.aL.length->g5 j h=0->cV j h = -1->t.get j=0
 rest:∀ j:Nat,j<c.aL.length->g5 j h=0->0<cV j h->t.get j=min 0 (cV j h-c.rest)
theorem mr(m:Int):∀ h,0<=g5 m h
 | []=>by simp[g5]
 | r::h=>by
  have:=mr m h;rw[g5];split<;>omega
theorem nF(m:Int):∀ h,cV m h=0↔0<g5 m h
 | []=>by simp[cV,g5]
 | r::h=>by
  have h1:=mr m h;have h2:=j9 m h;rw[cV,g5];by_cases hm:m∈r
  ·rw[if_pos hm,if_pos hm];omega
  ·rw[if_neg hm,if_neg hm]
   by_cases h3:cV m h = -1
   ·rw[if_pos h3];omega
   ·rw[if_neg h3];omega
theorem xY.zero{c:ao}(hR:WR c):xY c [] .zero:=by
 have hm:=hR.aL;have hz:∀ j:Nat,j<c.aL.length->ag.zero.get j=0:=by
  intro j hj;have h2:j=0\/j=1\/j=2\/j=3\/j=4:=by omega
  rcases h2 with rfl|rfl|rfl|rfl|rfl<;>rfl
 refine⟨by simp[fg,ag.zero],fun j hj h=>by simp[g5]at h,fun j hj _ _=>hz j hj,fun j hj _ h=>by simp[cV]at h⟩
theorem Dt{c:ao}(hR:WR c)(n:Nat):(fg c n+1).tmod c.aS.length=fg c (n+1):=by
 have hs:=hR.aS;unfold fg;have h1:(0:Int)<=(n:Int).tmod c.aS.length:=Int.tmod_nonneg _ (by omega);rw[Int.tmod_eq_emod_of_nonneg (by omega),Int.tmod_eq_emod_of_nonneg (by omega),Int.tmod_eq_emod_of_nonneg (by omega),Int.emod_add_emod];rfl
theorem xY.step{c:ao}(hR:WR c){set:Int}{h:List (List Int)}{t:ag}{s:Slot}{g:List Int}(hh:xY c h t)(hw:(kV c set t s g).1=0):xY c (g::h) (aZ c t g):=by
 have hm:=hR.aL;have S8:=hR.rest;obtain⟨_,_,_,_,h5⟩:=vd hw;have hb:∀ j:Nat,j<c.aL.length->(aZ c t g).get j=bn c.rest (decide ((j:Int)∈g)) (t.get j):=fun j hj=>by
  rw[lU hR (by omega),if_pos hj]
 have ht:∀ j:Nat,j<c.aL.length->(0<g5 j h/\t.get j=g5 j h)\/(g5 j h=0/\cV j h = -1/\t.get j=0)\/(g5 j h=0/\0<cV j h/\t.get j=min 0 (cV j h-c.rest)):=by
  intro j hj;have h1:=mr (j:Int) h;have h2:=j9 (j:Int) h;have h3:=nF (j:Int) h;rcases Int.lt_or_eq_of_le h1 with h4|h4
  ·exact .inl ⟨h4,hh.run j hj h4⟩
  ·by_cases h6:cV (j:Int) h = -1
   ·exact .inr (.inl ⟨h4.symm,h6,hh.new j hj h4.symm h6⟩)
   ·have h7:0<cV (j:Int) h:=by omega
    exact .inr (.inr ⟨h4.symm,h7,hh.rest j hj h4.symm h7⟩)
 refine⟨?_,fun j hj hp=>?_,fun j hj hp hq=>?_,fun j hj hp hq=>?_⟩
 ·show(aZ c t g).slot=_
  unfold aZ;rw[kF];show(t.slot+1).tmod _=_;rw[hh.slot,Dt hR];rfl
 ·rw[g5]at hp ⊢
  split at hp
  ·rename_i iY
   rw[if_pos iY,hb j hj,bn,if_pos (by simpa using iY)];have h8:=h5 _ iY;simp only[Int.toNat_natCast]at h8;have:=ht j hj;omega
  ·omega
 ·rw[g5]at hp
  rw[cV]at hq;split at hp
  ·have:=mr (j:Int) h;omega
  ·rename_i iY
   rw[if_neg iY]at hq;have:=j9 (j:Int) h;rw[hb j hj,bn,if_neg (by simpa using iY)];have h9:=ht j hj;have h3:=nF (j:Int) h;split at hq
   ·have Ej:t.get j=0:=by omega
    rw[Ej];simp
   ·omega
 ·rw[g5]at hp
  rw[cV]at hq ⊢;split at hp
  ·have:=mr (j:Int) h;omega
  ·rename_i iY
   rw[if_neg iY]at hq ⊢;rw[hb j hj,bn,if_neg (by simpa using iY)];have h9:=ht j hj;have h3:=nF (j:Int) h;split at hq
   ·omega
   ·rename_i eA
    rw[if_neg eA];rcases h9 with⟨Ej,M1⟩|⟨Ej,M1,M3⟩|⟨Ej,M1,M3⟩
    ·have OF:=h3.2 Ej
     rw[if_pos (by omega),OF];omega
    ·omega
    ·rw[M3]
     split
     ·omega
     ·split<;>omega
theorem wg{c:ao}(hR:WR c){m:Int}(h:0<=m/\m<c.aL.length):eJ (aB c) m=true:=by
 have hm:=hR.aL;obtain⟨j,rfl⟩:∃ j:Nat,m=j:=⟨m.toNat,by omega⟩;unfold aB;generalize hn:c.aL.length=n at *;have h1:n=1\/n=2\/n=3\/n=4\/n=5:=by omega
 have h2:j=0\/j=1\/j=2\/j=3\/j=4:=by omega
 rcases h1 with rfl|rfl|rfl|rfl|rfl<;>rcases h2 with rfl|rfl|rfl|rfl|rfl<;>first|(exact absurd h.2 (by decide))|decide
theorem find_congr{α:Type}{p q:α->Bool}:∀ {l:List α},(∀ x∈l,p x=q x)->l.find? p=l.find? q
 | [],_=>rfl
 | x::r,h=>by
  rw[List.find?_cons,List.find?_cons,h x (by simp),find_congr fun y hy=>h y (by simp[hy])]
theorem JD{c:ao}(hR:WR c){rota:List (List Int)}{t:ag}(hh:xY c rota.reverse t){g:List Int}(hg:pK c g):FH c rota g=xO c (aB c) t g:=by
 have hm:=hR.aL;have T2:=hR.run;have hs:bf c t=rz c rota.length:=by
  unfold bf rz;rw[hh.slot,List.length_reverse]
 have zQ:t.slot=fg c rota.length:=by rw[hh.slot,List.length_reverse]
 have e3:g.find? (J2 c (fg c rota.length))=g.find? fun m=>!eJ (aB c) m||decide (t.slot∈(ec c m).no):=find_congr fun m Ay=>by
  rw[wg hR (hg m Ay),zQ];rfl
 have e4:g.find? (Dr c rota.reverse)=g.find? fun m=>decide (t.get m.toNat≥c.run):=find_congr fun m Ay=>by
  obtain⟨h1,h2⟩:=hg m Ay;obtain⟨j,rfl⟩:∃ j:Nat,m=j:=⟨m.toNat,by omega⟩;have hj:j<c.aL.length:=by omega
  unfold Dr;refine decide_eq_decide.2 ?_;simp only[Int.toNat_natCast];have h3:=mr (j:Int) rota.reverse;have h4:=j9 (j:Int) rota.reverse;have h5:=nF (j:Int) rota.reverse;have h6:=hh.run j hj;have h7:=hh.new j hj;have h8:=hh.rest j hj;rcases Int.lt_or_eq_of_le h3 with h9|h9
  ·rw[h6 h9]
  ·by_cases Ej:cV (j:Int) rota.reverse = -1
   ·have:=h7 h9.symm Ej;omega
   ·have:=h8 h9.symm (by omega);omega
 have e5:g.find? (wF c rota.reverse)=g.find? fun m=>decide (t.get m.toNat<0):=find_congr fun m Ay=>by
  obtain⟨h1,h2⟩:=hg m Ay;obtain⟨j,rfl⟩:∃ j:Nat,m=j:=⟨m.toNat,by omega⟩;have hj:j<c.aL.length:=by omega
  unfold wF;rw[<- Bool.decide_and];refine decide_eq_decide.2 ?_;simp only[Int.toNat_natCast];have h3:=mr (j:Int) rota.reverse;have h4:=j9 (j:Int) rota.reverse;have h5:=nF (j:Int) rota.reverse;have h6:=hh.run j hj;have h7:=hh.new j hj;have h8:=hh.rest j hj;rcases Int.lt_or_eq_of_le h3 with h9|h9
  ·have:=h6 h9;omega
  ·by_cases Ej:cV (j:Int) rota.reverse = -1
   ·have:=h7 h9.symm Ej;omega
   ·have:=h8 h9.symm (by omega);omega
 unfold FH xO kV;rw[e3,e4,e5,hs];all_goals
  generalize (g.find? fun m=>!eJ (aB c) m||decide (t.slot∈(ec c m).no))=f3;generalize (g.find? fun m=>decide (t.get m.toNat≥c.run))=f4;generalize (g.find? fun m=>decide (t.get m.toNat<0))=f5;cases f3<;>cases f4<;>cases f5<;>rfl
theorem QK(c:ao)(hR:WR c)(rota:List (List Int))(hl:rota.length<1000000)(hr:∀ r∈rota,pK c r/\r.length<1000000) :
  cy Try.prog 44 [c.d,aJ rota] (.tup [i64 (bP c (aB c) .zero rota 0).1.1,i64 (bP c (aB c) .zero rota 0).1.2.1,i64 (bP c (aB c) .zero rota 0).1.2.2]):=by
 refine bx Try.func44 rfl (ft:=N3) 2 fun {σ} Y st=>?_;conv=>whnf
 refine bt (T:=tys) aI (by exact au mixed aI (by decide +kernel)) rota (fun i (u:ag)=>⟨[(1,.d (aJ rota)),(2,.ptr 2 0),(4,.d (i64 0)),(5,.d (i64 0)),(6,.d (i64 0)),(7,.d (i64 i))],[(2,.box (.dd c.cells))],st⟩)
  (fun i r u=>bP c (aB c) .zero rota 0=bP c (aB c) u r i/\xY c (rota.take i).reverse u) .zero aw ⟨rfl,xY.zero hR⟩ ?_ ?_
 ·rintro i x r u hx hi wb ⟨he,hh⟩
  have ET:=List.mem_of_getElem? hx;have xW:rota.take (i+1)=rota.take i ++ [x]:=by rw[List.take_succ,hx];rfl
  have Qe:=JD hR hh (hr x ET).1;rw[bP]at he;conv=>whnf
  refine ak (fun _=>?_) (fun h=>absurd hi (by have:=of_decide_eq_false h;simp at this;omega));refine aR (by simp;omega) ?_;conv=>whnf
  refine aR (by cases rota<;>rfl) ?_;conv=>whnf
  refine ai hx ?_;conv=>whnf
  have Td:(((rota.map fun r=>[aj r]).take (i:Int).toNat).drop 0)=(rota.take i).map fun r=>[aj r]:=by simp[List.map_take]
  rw[Td];refine aE (ds:=[c.d,aJ (rota.take i),aj x]) (QP c hR (rota.take i) (by rw[List.length_take];omega) (fun r h=>(hr r (List.mem_of_mem_take h)).2) x (hr x ET).1 (hr x ET).2) rfl rfl ?_;rw[Qe];conv=>whnf
  refine ak (fun h1=>?_) (fun h1=>?_)
  ·have h1:¬ (xO c (aB c) u x).1=0:=by simpa using h1
   rw[if_neg h1]at he;conv=>whnf
   rw[he];exact ax
  ·have h1:(xO c (aB c) u x).1=0:=by simpa using h1
   rw[if_pos h1]at he;conv=>whnf
   refine ah ?_;conv=>whnf
   refine⟨aZ c u x,⟨he,?_⟩,aw⟩;rw[xW,List.reverse_append];exact hh.step hR h1
 ·rintro u ⟨he,_⟩
  rw[bP]at he;conv=>whnf
  refine ak (fun h=>absurd h (by simp)) (fun _=>?_);conv=>whnf
  rw[he];exact ax
theorem Hk{c:ao}{rota:List (List Int)}(h0:b0 c rota=0):∀ r∈rota,pK c r/\r.length<1000000:=fun r hr=>⟨(qK h0 r hr).1,by
 have:=mu h0 r hr;omega⟩
theorem QO(c:ao)(rota:List (List Int)):cy Try.prog 67 [c.d,aJ rota] (i64 (df c rota)):=by
 refine bx Try.func67 rfl (ft:=Oi) 2 fun {σ} Y st=>?_;conv=>whnf
 refine aH (Jz c rota) rfl rfl ?_;conv=>whnf
 unfold df;refine ak (fun h0=>?_) (fun h0=>?_)
 ·have h0:¬ b0 c rota=0:=by simpa using h0
  rw[if_neg h0];conv=>whnf
  exact ax
 ·have h0:b0 c rota=0:=by simpa using h0
  obtain⟨hR,hl,_⟩:=eZ h0;rw[if_pos h0];conv=>whnf
  refine aH (ds:=[c.d,aJ rota]) (QK c hR rota (by omega) (Hk h0)) rfl rfl ?_;conv=>whnf
  refine ak (fun h1=>?_) (fun h1=>?_)
  ·have h1:(bP c (aB c) .zero rota 0).1.1≥0:=of_decide_eq_true h1
   rw[if_pos h1];conv=>whnf
   exact ax
  ·have h1:¬ (bP c (aB c) .zero rota 0).1.1≥0:=of_decide_eq_false h1
   rw[if_neg h1];conv=>whnf
   exact ax
def jj(p:List Int):Nat:=match p.getLast? with
 | none=>0
 | some x=>(x+1).toNat
def cA(below:Nat):Nat->List Int->List (List Int)
 | 0,p=>[p]
 | many+1,p=>(List.range' (jj p) (below-jj p)).flatMap fun(i:Nat)=>cA below many (p ++ [(i:Int)])
theorem iQ{below:Nat}(hb:below<=5):∀ {many:Nat} {p:List Int},(cA below many p).length<=5^many
 | 0,p=>by simp[cA]
 | many+1,p=>by
  rw[cA];refine Nat.le_trans (m8 (k:=5^many) fun i _=>iQ hb) ?_;rw[List.length_range',Nat.pow_succ,Nat.mul_comm];exact Nat.mul_le_mul_left _ (by omega)
theorem rB{below:Nat}{p:List Int}(hp:∀ x∈p,0<=x/\x<below):jj p<=below:=by
 unfold jj
 cases h:p.getLast? with
 | none=>simp
 | some x=>
  have:=hp x (List.mem_of_getLast? h);simp only;omega
theorem MM(below:Nat)(hb:below<=5):∀ (many:Nat),many<=5 -> ∀ (p:List Int),(∀ x∈p,0<=x/\x<below)->p.length+many<=10->cy Try.prog 70 [aj p,i64 many,i64 below] (aJ (cA below many p))
 | 0,_,p,hp,hl=>by
  refine bx Try.func70 rfl (ft:=KJ) 3 fun {σ} Y st=>?_;conv=>whnf
  exact ba 1 rfl ⟨⟨rfl,rfl⟩,rfl⟩
 | many+1,hm,p,hp,hl=>by
  have ih:=MM below hb many (by omega);have kX:=rB hp;have h5:(5:Nat)^many<=625:=Nat.le_trans (Nat.pow_le_pow_right (by omega) (show many<=4 by omega)) (by decide);have gS:(cA below (many+1) p).length<=5^(many+1):=iQ hb;have h6:(5:Nat)^(many+1)<=3125:=by rw[Nat.pow_succ];omega
  refine bx Try.func70 rfl (ft:=KJ) 3 fun {σ} Y st=>?_;conv=>whnf
  have FR:((p.map fun n=>[i64 n]).length:Int)=p.length:=by simp
  generalize hM:cA below (many+1) p=M at gS ⊢;rw[cA]at hM
  cases qd:p.getLast? with
  | none=>
   have S3:p = []:=by simpa using qd
   have JV:jj p=0:=by unfold jj;rw[qd]
   rw[JV]at hM;refine ak (fun h=>absurd h (by rw[S3];simp)) (fun _=>?_);conv=>whnf
   refine fM (T:=tys) aI (by exact au mixed aI (by decide +kernel)) (α:=Nat×List (List Int)) (fun y=>⟨[(0,.d (aj p)),(1,.d (i64 (many+1:Nat))),(2,.d (i64 below)),(8,.sl 41 1 0 y.2.length),(9,.d (i64 y.1))],[(41,.arr 1 (.dd (y.2.map fun r=>[aj r])))],st⟩)
    (fun y=>y.1<=below/\M=y.2++(List.range' y.1 (below-y.1)).flatMap fun(i:Nat)=>cA below many (p ++ [(i:Int)])) (fun y=>below-y.1) (0,[])
    ((Wk.born 8 41 1 rfl rfl rfl).trans aw) ⟨by simp only;omega,hM.symm⟩ ?_
   rintro ⟨i,acc⟩ ⟨hi,he⟩;simp only at hi he;conv=>whnf
   refine ak (fun h1=>?_) (fun h1=>?_)
   ·have h1:i<below:=by have:=of_decide_eq_true h1;simp at this;omega
    obtain⟨k,hk⟩:∃ k,below-i=k+1:=⟨below-i-1,by omega⟩;have fj:below-(i+1)=k:=by omega
    rw[hk,List.range'_succ,List.flatMap_cons,<- List.append_assoc]at he;conv=>whnf
    refine ar rfl ?_;conv=>whnf
    refine aR (by rw[Bool.and_eq_true];exact⟨da (fun _=>⟨rfl,rfl⟩) p,rfl⟩) ?_;conv=>whnf
    refine aR (decide_eq_true (by
     show(0+(p.map fun n=>[i64 n]).length)*8<=140737488355328;rw[List.length_map];omega)) ?_
    conv=>whnf
    refine ar rfl ?_;conv=>whnf
    refine ar (by simp[aC.len]) ?_;conv=>whnf
    refine aR (decide_eq_true (by
     show(([]++p.map fun n=>[i64 n]).length+1)*8<=140737488355328;simp;omega)) ?_
    conv=>whnf
    refine bg ((many:Int)) (by(try dsimp only);omega) (wrap_i64 (by(try dsimp only);omega)) ?_;conv=>whnf
    have iY:∀ x∈p ++ [(i:Int)],0<=x/\x<below:=by
     intro x hx;rcases List.mem_append.1 hx with hx|hx
     ·exact hp x hx
     ·rw[List.mem_singleton]at hx;subst hx;omega
    refine jD (ds:=[aj (p ++ [(i:Int)]),i64 many,i64 below]) (ih (p ++ [(i:Int)]) iY (by simp;omega)) 1 [36] ?_ rfl ?_
    ·have IH:([]++(p.map fun n=>[i64 n])) ++ [[i64 (i:Int)]]=(p ++ [(i:Int)]).map fun n=>[i64 n]:=by simp
     refine aV (n7 rfl IH ?_) rfl;show(([]++p.map fun n=>[i64 n]).length+1)=_;simp
    conv=>whnf
    refine ar (by simp[aC.len]) ?_;conv=>whnf
    refine aR (by rw[Bool.and_eq_true];exact⟨da (fun _=>⟨rfl,rfl⟩) _,rfl⟩) ?_;conv=>whnf
    have sQ:acc.length<=3125:=by
     rw[he]at gS;simp only[List.length_append]at gS;omega
    have CT:(cA below many (p ++ [(i:Int)])).length<=5^many:=iQ hb;refine aR (decide_eq_true (by
     show((acc.map fun r=>[aj r]).length+((cA below many (p ++ [(i:Int)])).map fun r=>[aj r]).length)*24<=140737488355328;rw[List.length_map,List.length_map];omega)) ?_
    conv=>whnf
    refine bg (((i+1:Nat):Int)) (by(try dsimp only);omega) (wrap_i64 (by(try dsimp only);omega)) ?_;conv=>whnf
    refine⟨(i+1,acc++cA below many (p ++ [(i:Int)])),by simp only;omega,⟨by simp only;omega,by simp only;rw[fj];exact he⟩,Wk.sub ⟨rfl,rfl,rfl,?_,rfl,trivial⟩ ⟨?_,trivial⟩⟩
    ·show some (V.sl 41 1 0 ((acc.map fun r=>[aj r]).length+((cA below many (p ++ [(i:Int)])).map fun r=>[aj r]).length))=_
     simp
    ·show some (Obj.arr 1 (aC.dd ((acc.map fun r=>[aj r])++(cA below many (p ++ [(i:Int)])).map fun r=>[aj r])))=_
     simp
   ·have h1:¬ i<below:=by have:=of_decide_eq_false h1;simp at this;omega
    rw[show below-i=0 by omega]at he;have he:M=acc:=by simpa using he
    rw[he];conv=>whnf
    refine ba 1 (ds:=[aJ acc]) ?_ ⟨⟨rfl,rfl⟩,rfl⟩;exact aV (bI (es:=acc.map fun r=>[aj r]) rfl (by simp)) rfl
  | some x=>
   have hx:=hp x (List.mem_of_getLast? qd);have JV:jj p=(x+1).toNat:=by unfold jj;rw[qd]
   have sV:0<p.length:=by
    cases p with
    | nil=>simp at qd
    | cons _ _=>simp
   have S7:p[p.length-1]?=some x:=by rw[<- List.getLast?_eq_getElem?];exact qd
   rw[JV]at hM kX;refine ak (fun _=>?_) (fun h=>absurd sV (by have:=of_decide_eq_false h;rw[FR]at this;omega));conv=>whnf
   refine bg ((p.length-1:Nat):Int) (by simp;omega) (wrap_i64 (by omega)) ?_;conv=>whnf
   refine ai S7 ?_;conv=>whnf
   refine bg ((((x+1).toNat:Nat):Int)) (by(try dsimp only);omega) (wrap_i64 (by(try dsimp only);omega)) ?_;conv=>whnf
   refine fM (T:=tys) aI (by exact au mixed aI (by decide +kernel)) (α:=Nat×List (List Int)) (fun y=>⟨[(0,.d (aj p)),(1,.d (i64 (many+1:Nat))),(2,.d (i64 below)),(8,.sl 41 1 0 y.2.length),(9,.d (i64 y.1))],[(41,.arr 1 (.dd (y.2.map fun r=>[aj r])))],st⟩)
    (fun y=>y.1<=below/\M=y.2++(List.range' y.1 (below-y.1)).flatMap fun(i:Nat)=>cA below many (p ++ [(i:Int)])) (fun y=>below-y.1) ((x+1).toNat,[])
    ((Wk.born 8 41 1 rfl rfl rfl).trans aw) ⟨by simp only;omega,hM.symm⟩ ?_
   rintro ⟨i,acc⟩ ⟨hi,he⟩;simp only at hi he;conv=>whnf
   refine ak (fun h1=>?_) (fun h1=>?_)
   ·have h1:i<below:=by have:=of_decide_eq_true h1;simp at this;omega
    obtain⟨k,hk⟩:∃ k,below-i=k+1:=⟨below-i-1,by omega⟩;have fj:below-(i+1)=k:=by omega
    rw[hk,List.range'_succ,List.flatMap_cons,<- List.append_assoc]at he;conv=>whnf
    refine ar rfl ?_;conv=>whnf
    refine aR (by rw[Bool.and_eq_true];exact⟨da (fun _=>⟨rfl,rfl⟩) p,rfl⟩) ?_;conv=>whnf
    refine aR (decide_eq_true (by
     show(0+(p.map fun n=>[i64 n]).length)*8<=140737488355328;rw[List.length_map];omega)) ?_
    conv=>whnf
    refine ar rfl ?_;conv=>whnf
    refine ar (by simp[aC.len]) ?_;conv=>whnf
    refine aR (decide_eq_true (by
     show(([]++p.map fun n=>[i64 n]).length+1)*8<=140737488355328;simp;omega)) ?_
    conv=>whnf
    refine bg ((many:Int)) (by(try dsimp only);omega) (wrap_i64 (by(try dsimp only);omega)) ?_;conv=>whnf
    have iY:∀ x∈p ++ [(i:Int)],0<=x/\x<below:=by
     intro x hx;rcases List.mem_append.1 hx with hx|hx
     ·exact hp x hx
     ·rw[List.mem_singleton]at hx;subst hx;omega
    refine jD (ds:=[aj (p ++ [(i:Int)]),i64 many,i64 below]) (ih (p ++ [(i:Int)]) iY (by simp;omega)) 1 [36] ?_ rfl ?_
    ·have IH:([]++(p.map fun n=>[i64 n])) ++ [[i64 (i:Int)]]=(p ++ [(i:Int)]).map fun n=>[i64 n]:=by simp
     refine aV (n7 rfl IH ?_) rfl;show(([]++p.map fun n=>[i64 n]).length+1)=_;simp
    conv=>whnf
    refine ar (by simp[aC.len]) ?_;conv=>whnf
    refine aR (by rw[Bool.and_eq_true];exact⟨da (fun _=>⟨rfl,rfl⟩) _,rfl⟩) ?_;conv=>whnf
    have sQ:acc.length<=3125:=by
     rw[he]at gS;simp only[List.length_append]at gS;omega
    have CT:(cA below many (p ++ [(i:Int)])).length<=5^many:=iQ hb;refine aR (decide_eq_true (by
     show((acc.map fun r=>[aj r]).length+((cA below many (p ++ [(i:Int)])).map fun r=>[aj r]).length)*24<=140737488355328;rw[List.length_map,List.length_map];omega)) ?_
    conv=>whnf
    refine bg (((i+1:Nat):Int)) (by(try dsimp only);omega) (wrap_i64 (by(try dsimp only);omega)) ?_;conv=>whnf
    refine⟨(i+1,acc++cA below many (p ++ [(i:Int)])),by simp only;omega,⟨by simp only;omega,by simp only;rw[fj];exact he⟩,Wk.sub ⟨rfl,rfl,rfl,?_,rfl,trivial⟩ ⟨?_,trivial⟩⟩
    ·show some (V.sl 41 1 0 ((acc.map fun r=>[aj r]).length+((cA below many (p ++ [(i:Int)])).map fun r=>[aj r]).length))=_
     simp
    ·show some (Obj.arr 1 (aC.dd ((acc.map fun r=>[aj r])++(cA below many (p ++ [(i:Int)])).map fun r=>[aj r])))=_
     simp
   ·have h1:¬ i<below:=by have:=of_decide_eq_false h1;simp at this;omega
    rw[show below-i=0 by omega]at he;have he:M=acc:=by simpa using he
    rw[he];conv=>whnf
    refine ba 1 (ds:=[aJ acc]) ?_ ⟨⟨rfl,rfl⟩,rfl⟩;exact aV (bI (es:=acc.map fun r=>[aj r]) rfl (by simp)) rfl
theorem zw(p:List Int)(i:Nat):jj (p ++ [(i:Int)])=i+1:=by
 unfold jj;rw[List.getLast?_append];simp only[List.getLast?_singleton,Option.some_or];omega
theorem l9{c:ao}{set:Int}{t:ag}{s:Slot}:∀ {left:Nat} {p:List Int} {start:Nat},jj p=start->dh c set t s left p start=((cA c.aL.length left p).filter fun g=>decide ((kV c set t s g).1=0)).map fun g=>(g,aZ c t g)
 | 0,p,start,_=>by
  rw[dh,cA,List.filter_cons];by_cases h:(kV c set t s p).1=0
  ·rw[if_pos h,if_pos (by simpa using h)];rfl
  ·rw[if_neg h,if_neg (by simpa using h)];rfl
 | left+1,p,start,hs=>by
  rw[dh,cA,hs,List.filter_flatMap,List.map_flatMap]
  congr 1
  funext i
  exact l9 (zw p i)
theorem uw{below:Nat}:∀ {many:Nat} {p:List Int},(∀ x∈p,0<=x/\x<below) -> ∀ g∈cA below many p,g.length=p.length+many /\ ∀ x∈g,0<=x/\x<below
 | 0,p,hp,g,hg=>by
  rw[cA,List.mem_singleton]at hg;subst hg;exact⟨rfl,hp⟩
 | many+1,p,hp,g,hg=>by
  rw[cA,List.mem_flatMap]at hg;obtain⟨i,hi,hg⟩:=hg;rw[List.mem_range'_1]at hi;have h1:=rB hp;obtain⟨h2,h3⟩:=uw (many:=many) (p:=p ++ [(i:Int)]) (fun x hx=>by
   rcases List.mem_append.1 hx with hx|hx
   ·exact hp x hx
   ·rw[List.mem_singleton]at hx;subst hx;omega) g hg
  refine⟨by rw[h2];simp;omega,h3⟩
theorem Gr{c:ao}{rota:List (List Int)}(h0:df c rota=0):b0 c rota=0/\(bP c (aB c) .zero rota 0).1.1 = -1:=by
 have hE:b0 c rota=0:=by
  unfold df at h0;split at h0
  ·assumption
  ·exact h0
 refine⟨hE,?_⟩;rw[df,if_pos hE]at h0;split at h0
 ·cases h0
 ·rename_i h1
  rcases s9 (c:=c) (set:=aB c) (rota:=rota) (t:=.zero) (i:=0) with h|h
  ·exact h
  ·exact absurd h (by omega)
def wY:ao:={ cC 2 false with aL:=[Kf,Kl] }
theorem RO:Cj (cC 2 false) (bV [0,2,0])=(2,5,0,0):=by decide +kernel
theorem QX:df (cC 2 false) (bV [0,2,1,0])=0/\uX 3 (bV [0,2,1,0]) = [2,1,1]:=by decide +kernel
theorem Nz:df (cC 2 false) (bV [0])=0/\Cl (cC 2 false) (bV [0])=bV [1,2]:=by decide +kernel
theorem RP:E5 (cC 2 false) (bV [0])=bV [2]:=by decide +kernel
theorem QY:b0 wY []=0/\Jo wY=2:=by decide +kernel
theorem Kj:b0 (cC 2 false) []=0/\fh (cC 2 false) (aB (cC 2 false)) .zero=true/\Bs (cC 2 false)=(bV [0,2,1,0,2],2):=by decide +kernel
theorem QZ:b0 (cC 1 false) []=0/\Ea (cC 1 false) = [0,1]:=by decide +kernel
theorem RQ:E3 (cC 2 false) = [0,1,2]:=by decide +kernel
theorem Q0:fw (cC 2 false) [[],[2],[]]=0/\m6 (cC 2 false) [[],[2],[]]=bV [0,2,1]:=by decide +kernel
theorem Ki:ed (cC 2 false) (bV [0,2,1,0]) 3=0/\oE (cC 2 false) (bV [0,2,1,0]) 3 = [1,2]:=by decide +kernel
theorem Ny:df (cC 2 false) (bV [0,0])=9:=by decide +kernel
theorem kr(l:List Int)(x:Int)(r:List Int)(h:l=x::r)(hl:l.length<=1000):cy Try.prog 42 [aj l] (aJ (bV l)):=by
 subst h;exact QJ _ hl
theorem Tt:cy Try.prog 17 [(cC 2 false).d,aJ (bV [0,2,0])] (.tup [i64 2,i64 5,i64 0,i64 0]):=
 cy.cast (QA _ _) (by rw[RO])
theorem Tu:cy Try.prog 19 [(cC 2 false).d,aJ (bV [0,2,1,0])] (.tup [aj [2,1,1],i64 0]):=
 cy.cast (QB _ _) (by rw[QX.1,if_pos rfl,show(cC 2 false).aL.length=3 from rfl,QX.2])
theorem Tv:cy Try.prog 22 [(cC 2 false).d,aJ (bV [0])] (.tup [aJ (bV [1,2]),i64 0]):=
 cy.cast (MF _ _) (by rw[Nz.1,if_pos rfl,Nz.2];rfl)
theorem Tw:cy Try.prog 25 [(cC 2 false).d,aJ (bV [0])] (.tup [aJ (bV [2]),i64 0]):=
 cy.cast (QC _ _) (by rw[Nz.1,if_pos rfl,RP];rfl)
theorem Tx:cy Try.prog 28 [wY.d] (.tup [i64 2,i64 0]):=
 cy.cast (QD _) (by rw[QY.1,if_pos rfl,QY.2])
theorem Ty:cy Try.prog 30 [(cC 2 false).d] (.tup [aJ (bV [0,2,1,0,2]),i64 2,i64 0]):=
 cy.cast (QE _) (by rw[Kj.1,Kj.2.1,Kj.2.2];rfl)
theorem Tz:cy Try.prog 32 [(cC 1 false).d] (.tup [aj [0,1],i64 0]):=
 cy.cast (QF _) (by rw[QZ.1,QZ.2];rfl)
theorem TA:cy Try.prog 34 [(cC 2 false).d] (.tup [aj [0,1,2],i64 0]):=
 cy.cast (QG _) (by rw[Kj.1,Kj.2.1,RQ];rfl)
theorem TC:cy Try.prog 36 [(cC 2 false).d,aJ [[],[2],[]]] (.tup [aJ (bV [0,2,1]),i64 0]):=
 cy.cast (MG _ _) (by rw[Q0.1,Q0.2];rfl)
theorem TD:cy Try.prog 38 [(cC 2 false).d,aJ (bV [0,2,1,0]),i64 3] (.tup [aj [1,2],i64 0]):=
 cy.cast (MI _ _ _) (by rw[Ki.1,Ki.2];rfl)
theorem Qk:cy Try.prog 22 [(cC 2 false).d,aJ (bV [0,0])] (.tup [.nils,i64 9]):=
 cy.cast (MF _ _) (by rw[Ny];rfl)
theorem Hs:cy Try.prog 27 [] (.bool true):=by
 refine bx Try.func27 rfl (ft:=NT) 0 fun {σ} Y st=>?_;conv=>whnf
 refine aH (ds:=[i64 2,.bool false]) (Jy 2 false) rfl rfl ?_;conv=>whnf
 refine aH (ds:=[i64 2,.bool false]) (Jy 2 false) rfl rfl ?_;conv=>whnf
 refine gx (ds:=[aj [0,2,0]]) (kr [0,2,0] _ _ rfl (by simp)) 1 rfl rfl ?_;conv=>whnf
 refine aE (ds:=[(cC 2 false).d,aJ (bV [0,2,0])]) Tt rfl rfl ?_;conv=>whnf
 refine gx (ds:=[aj [0,2,1,0]]) (kr [0,2,1,0] _ _ rfl (by simp)) 1 rfl rfl ?_;conv=>whnf
 refine aE (ds:=[(cC 2 false).d,aJ (bV [0,2,1,0])]) Tu rfl rfl ?_;conv=>whnf
 refine gx (ds:=[aj [0]]) (kr [0] _ _ rfl (by simp)) 1 rfl rfl ?_;conv=>whnf
 refine aE (ds:=[(cC 2 false).d,aJ (bV [0])]) Tv rfl rfl ?_;conv=>whnf
 refine gx (ds:=[aj [0]]) (kr [0] _ _ rfl (by simp)) 1 rfl rfl ?_;conv=>whnf
 refine aE (ds:=[(cC 2 false).d,aJ (bV [0])]) Tw rfl rfl ?_;conv=>whnf
 refine a8 (ds:=[wY.d]) Tx rfl 2 rfl ?_;conv=>whnf
 refine aH (ds:=[(cC 2 false).d]) Ty rfl rfl ?_;conv=>whnf
 refine aH (ds:=[i64 1,.bool false]) (Jy 1 false) rfl rfl ?_;conv=>whnf
 refine aH (ds:=[(cC 1 false).d]) Tz rfl rfl ?_;conv=>whnf
 refine aH (ds:=[(cC 2 false).d]) TA rfl rfl ?_;conv=>whnf
 refine Cd 2 [93,94] ?_;refine vF (args':=[.d (cC 2 false).d,.d (aJ [[],[2],[]])]) (fun yv L F w l h=>by
  obtain⟨x1,l1,rfl,h1,x2,l2,rfl,h2,h3⟩:=h;exact⟨x1,_,rfl,h1,x2,_,rfl,bC.cL (.vs [[.nils],[aj [2]],[.nils]]) x2 h2,h3⟩) ?_
 refine aH (ds:=[(cC 2 false).d,aJ [[],[2],[]]]) TC rfl rfl ?_;conv=>whnf
 refine gx (ds:=[aj [0,2,1,0]]) (kr [0,2,1,0] _ _ rfl (by simp)) 1 rfl rfl ?_;conv=>whnf
 refine aE (ds:=[(cC 2 false).d,aJ (bV [0,2,1,0]),i64 3]) TD rfl rfl ?_;conv=>whnf
 refine gx (ds:=[aj [0,0]]) (kr [0,0] _ _ rfl (by simp)) 1 rfl rfl ?_;conv=>whnf
 refine aE (ds:=[(cC 2 false).d,aJ (bV [0,0])]) Qk rfl rfl ?_;conv=>whnf
 refine a8 (ds:=[aj [2,1,1],aj [2,1,1]]) (vi [2,1,1] [2,1,1] (by simp)) rfl 1 rfl ?_;conv=>whnf
 refine jD (ds:=[aj [1,2]]) (kr [1,2] _ _ rfl (by simp)) 1 [173] rfl rfl ?_;conv=>whnf
 refine aH (ds:=[aJ (bV [1,2]),aJ (bV [1,2])]) (zD (bV [1,2]) (bV [1,2]) (by decide) (by decide)) rfl rfl ?_;conv=>whnf
 refine jD (ds:=[aj [2]]) (kr [2] _ _ rfl (by simp)) 1 [179] rfl rfl ?_;conv=>whnf
 refine aH (ds:=[aJ (bV [2]),aJ (bV [2])]) (zD (bV [2]) (bV [2]) (by decide) (by decide)) rfl rfl ?_;conv=>whnf
 refine jD (ds:=[aj [0,2,1,0,2]]) (kr [0,2,1,0,2] _ _ rfl (by simp)) 1 [189] rfl rfl ?_;conv=>whnf
 refine aH (ds:=[aJ (bV [0,2,1,0,2]),aJ (bV [0,2,1,0,2])]) (zD (bV [0,2,1,0,2]) (bV [0,2,1,0,2]) (by decide) (by decide)) rfl rfl ?_;conv=>whnf
 refine a8 (ds:=[aj [0,1],aj [0,1]]) (vi [0,1] [0,1] (by simp)) rfl 1 rfl ?_;conv=>whnf
 refine a8 (ds:=[aj [0,1,2],aj [0,1,2]]) (vi [0,1,2] [0,1,2] (by simp)) rfl 1 rfl ?_;conv=>whnf
 refine jD (ds:=[aj [0,2,1]]) (kr [0,2,1] _ _ rfl (by simp)) 1 [209] rfl rfl ?_;conv=>whnf
 refine aH (ds:=[aJ (bV [0,2,1]),aJ (bV [0,2,1])]) (zD (bV [0,2,1]) (bV [0,2,1]) (by decide) (by decide)) rfl rfl ?_;conv=>whnf
 refine a8 (ds:=[aj [1,2],aj [1,2]]) (vi [1,2] [1,2] (by simp)) rfl 1 rfl ?_;conv=>whnf
 exact ax
def Ab(c:ao)(rota:List (List Int)):ag:=(bP c (aB c) .zero rota 0).2
def HK(c:ao)(rota:List (List Int)):Prop:=(bP c (aB c) .zero rota 0).1.1 = -1
theorem CD{c:ao}{set:Int}{t:ag}{x:List Int×ag}(h:x∈bQ c set t):(xO c set t x.1).1=0/\x.2=aZ c t x.1:=ig h
theorem ya{many:Int}:∀ {l:List Int} {last i:Int},ek many last l=0->(l.getLast?).getD last<i->0<=i->i<many->ek many last (l ++ [i])=0
 | [],last,i,_,h,h0,h1=>by
  have h:last<i:=by simpa using h
  have hb:iN i 0 (many-1)=true:=by rw[eS];omega
  simp only[List.nil_append,ek,hb,if_true];rw[if_neg (by omega)]
 | x::l,last,i,h,hi,h0,h1=>by
  rw[ek]at h;rw[List.cons_append,ek];split at h;case isFalse=>cases h
  rename_i hb;split at h
  ·cases h
  rename_i hx;rw[if_pos hb,if_neg hx];refine ya h ?_ h0 h1;rw[List.getLast?_cons]at hi;simpa using hi
theorem wu{below:Nat}:∀ {many:Nat} {p:List Int},(∀ x∈p,0<=x/\x<below)->ek below (-1) p=0 -> ∀ g∈cA below many p,ek below (-1) g=0
 | 0,p,_,ha,g,hg=>by
  rw[cA,List.mem_singleton]at hg;subst hg;exact ha
 | many+1,p,hp,ha,g,hg=>by
  rw[cA,List.mem_flatMap]at hg;obtain⟨i,hi,hg⟩:=hg;rw[List.mem_range'_1]at hi;have h1:=rB hp;refine wu (many:=many) (p:=p ++ [(i:Int)]) (fun x hx=>?_) (ya ha ?_ (by omega) (by omega)) g hg
  ·rcases List.mem_append.1 hx with hx|hx
   ·exact hp x hx
   ·rw[List.mem_singleton]at hx;subst hx;omega
  ·unfold jj at hi
   cases h:p.getLast? with
   | none=>rw[h]at hi;simp only[Option.getD_none];omega
   | some y=>rw[h]at hi;simp only[Option.getD_some]at hi ⊢;omega
theorem CC{c:ao}{set:Int}{t:ag}{x:List Int×ag}(h:x∈bQ c set t):ek c.aL.length (-1) x.1=0:=by
 unfold bQ at h;rw[l9 (p:=[]) (start:=0) rfl,List.mem_map]at h;obtain⟨g,hg,rfl⟩:=h;exact wu (p:=[]) (fun x hx=>by cases hx) rfl g (List.mem_filter.1 hg).1
structure kZ(c:ao)(rota:List (List Int)):Prop where
 Ak:HK c rota
 Nx:∀ r∈rota,ek c.aL.length (-1) r=0
theorem kZ.pre{c:ao}{a b:List (List Int)}(h:kZ c (a++b)):kZ c a:=⟨vc (l2:=b) (Int.le_refl 0) h.Ak,fun r hr=>h.Nx r (by simp[hr])⟩
theorem kZ.of{c:ao}{rota:List (List Int)}(h:df c rota=0):kZ c rota:=by
 obtain⟨hE,hw⟩:=Gr h;obtain⟨_,_,gS⟩:=eZ hE;exact⟨hw,gS⟩
theorem kZ.rows{c:ao}(hR:WR c){rota:List (List Int)}(h:kZ c rota):∀ r∈rota,pK c r/\r.length<1000000:=fun r hr=>by
 refine⟨zW (h.Nx r hr),?_⟩;have hm:=hR.aL;rcases gM (h.Nx r hr) with h1|h1
 ·rw[h1];simp
 ·omega
theorem JE{c:ao}{set:Int}{t:ag}{s:Slot}{p:List Int}(h1:(p.length:Int)=s.aL)(h2:∃ m∈p,(ec c m).kind≥s.least)(h3:∀ m∈p,eJ set m=true/\t.slot∉(ec c m).no)(h4:∀ m∈p,t.get m.toNat<c.run)(h5:∀ m∈p,0<=t.get m.toNat):(kV c set t s p).1=0:=by
 unfold kV;rw[if_neg (by simpa using h1)];have e2:(p.any fun m=>decide ((ec c m).kind≥s.least))=true:=by
  obtain⟨m,hm,hk⟩:=h2;exact List.any_eq_true.2 ⟨m,hm,decide_eq_true hk⟩
 rw[e2,if_neg (by simp)];have e3:p.find? (fun m=>!eJ set m||decide (t.slot∈(ec c m).no))=none:=List.find?_eq_none.2 fun m hm=>by
  obtain⟨a,b⟩:=h3 m hm;simp[a,b]
 have e4:p.find? (fun m=>decide (t.get m.toNat≥c.run))=none:=List.find?_eq_none.2 fun m hm=>by
  have:=h4 m hm;simp;omega
 have e5:p.find? (fun m=>decide (t.get m.toNat<0))=none:=List.find?_eq_none.2 fun m hm=>by
  have:=h5 m hm;simp;omega
 rw[e3,e4,e5]
theorem uP(r:List Int):cL (aj r)=aj r:=by
 show D.vs (iq (r.map fun n=>[i64 n]))=_
 congr 1
 induction r with
 | nil=>rfl
 | cons x r ih=>
  show j8 [i64 x]::iq (r.map fun n=>[i64 n])=_;rw[ih];rfl
theorem AY(l:List (List Int)):cL (aJ l)=aJ l:=by
 show D.vs (iq (l.map fun r=>[aj r]))=_
 congr 1
 induction l with
 | nil=>rfl
 | cons x r ih=>
  show j8 [aj x]::iq (r.map fun r=>[aj r])=_;rw[ih];show [cL (aj x)]::_=_;rw[uP];rfl
end Go.PX
namespace Go.PX
open Go.Proofs Go.RowKit Go.ChangeShapes
theorem aY.one{F:Nat->Nat}{w:World}{d:D}{v:Value}(h:aY F w [d] [v]):bC F w d v:=by
 obtain⟨x,l',h1,hd,hl⟩:=h;cases h1;exact hd
end Go.PX
namespace Go.PX
open Go.Proofs
theorem laid(W:World):Laid Try.prog W:=by
 have h1 : Try.prog.globalNamed "internal/strconv.uint64pow10" = none := by kernel_rfl
 have h2 : Try.prog.globalNamed "internal/bytealg.MaxLen" = none := by kernel_rfl
 have h3 : Try.prog.globalNamed "strconv.ErrSyntax" = none := by kernel_rfl
 have h4 : Try.prog.globalNamed "strconv.ErrRange" = none := by kernel_rfl
 exact⟨fun g h=>(by rw[h1]at h;cases h),fun g h=>(by rw[h2]at h;cases h),fun g h=>(by rw[h3]at h;cases h),fun g h=>(by rw[h4]at h;cases h)⟩
end Go.PX
namespace Go.PX
open Go.Proofs Go.RowKit Go.ChangeShapes
theorem RR:Try.prog.bytesOf 32=24:=by kernel_rfl
section
variable (W : World)
theorem Hh:Ga Try.prog W 26 fun ds=>∃ l:List (List Int),ds = [aJ l]/\l.length*24<=reachBytes:=
 (Ga.slice Try.underlying26 Q1 (by omega) (Rd.z (Fm W))).mono fun ds h=>by
  obtain⟨es,rfl,he,hz⟩:=h;obtain⟨l,rfl⟩:=qp (f:=fun r=>[aj r]) (fun _ h=>h) he;rw[RR,List.length_map]at hz;exact⟨l,rfl,hz⟩
end
end Go.PX
namespace Go.PX
open Go.Proofs
def gQ(R:List Int)(f:ag->Option (List (List Int))):List (List Int×ag)->Option (List (List Int))
 | []=>none
 | p::r=>if iK R p.1 then
   match f p.2 with
   | some l=>some (p.1::l)
   | none=>gQ R f r
  else gQ R f r
def dF(c:ao)(set:Int):List (List Int)->ag->Option (List (List Int))
 | [],_=>some []
 | R::rest,t=>gQ R (dF c set rest) (bQ c set t)
def qU(c:ao)(set:Int)(all:List (List Int))(kg:Kg):Prop:=∀ g v,jI kg g=some v -> ∃ k:Nat,g.row=k/\dF c set (all.drop k) g.t=none
theorem rC{c:ao}{set:Int}{all:List (List Int)}{R:List Int}{f:Kg->ag->Option (List (List Int))×Kg}{f0:ag->Option (List (List Int))}(hf:∀ kg u,qU c set all kg->(f kg u).1=f0 u/\qU c set all (f kg u).2) :
  ∀ (l:List (List Int×ag)) (kg:Kg),qU c set all kg->(mO R f kg l).1=gQ R f0 l/\qU c set all (mO R f kg l).2
 | [],kg,h=>⟨rfl,h⟩
 | p::r,kg,h=>by
  obtain⟨h1,h2⟩:=hf kg p.2 h;rw[mO,gQ];by_cases ob:iK R p.1=true
  ·rw[if_pos ob,if_pos ob,<- h1]
   cases hq:(f kg p.2).1 with
   | some l=>exact⟨rfl,h2⟩
   | none=>exact rC hf r (f kg p.2).2 h2
  ·rw[if_neg ob,if_neg ob]
   exact rC hf r kg h
theorem tF{c:ao}{set:Int}{all:List (List Int)}:∀ (rows:List (List Int)) (row:Int) (k:Nat) (t:ag) (kg:Kg),row=k->all.drop k=rows->qU c set all kg->(cD c set rows row t kg).1=dF c set rows t/\qU c set all (cD c set rows row t kg).2
 | [],row,k,t,kg,_,_,h=>⟨rfl,h⟩
 | R::rest,row,k,t,kg,hk,hd,h=>by
  have IM:all.drop (k+1)=rest:=by
   rw[<- List.tail_drop,hd];rfl
  obtain⟨h1,h2⟩:=rC (R:=R) (f:=fun kg u=>cD c set rest (row+1) u kg) (f0:=dF c set rest) (fun kg u SL=>tF rest (row+1) (k+1) u kg (by omega) IM SL) (bQ c set t) kg h;rw[cD,dF];split
  ·rename_i hs
   cases hg:jI kg ⟨row,t⟩ with
   | none=>rw[hg]at hs;cases hs
   | some v=>
    obtain⟨k',fK,hn⟩:=h ⟨row,t⟩ v hg;have:k'=k:=by simp only at fK;omega
    subst this;rw[hd]at hn;exact⟨hn.symm,h⟩
  ·cases hq:(mO R (fun kg u=>cD c set rest (row+1) u kg) kg (bQ c set t)).1 with
   | some l=>
    rw[hq]at h1;exact⟨h1,h2⟩
   | none=>
    rw[hq]at h1;refine⟨h1,fun g v hv=>?_⟩;simp only at hv;rw[oZ]at hv;split at hv
    ·rename_i e
     subst e;exact⟨k,hk,by rw[hd,dF];exact h1.symm⟩
    ·exact h2 g v hv
theorem sO{c:ao}{set:Int}{rows:List (List Int)}{t:ag}:(cD c set rows 0 t []).1=dF c set rows t:=
 (tF (all:=rows) rows 0 0 t [] rfl rfl (fun g v h=>by cases h)).1
def Mo:List Int->List Int->Prop
 | a::r,b::s=>a<b\/(a=b/\Mo r s)
 | _,_=>False
def Ed:List (List Int)->List (List Int)->Bool
 | [],[]=>true
 | R::rs,g::gs=>iK R g&&Ed rs gs
 | _,_=>false
theorem nT{R:List Int}{f:ag->Option (List (List Int))}:∀ {gs:List (List Int×ag)} {l:List (List Int)},gQ R f gs=some l -> ∃ p∈gs,∃ tl,iK R p.1=true/\f p.2=some tl/\l=p.1::tl
 | [],l,h=>by cases h
 | q::r,l,h=>by
  rw[gQ]at h;split at h
  ·rename_i hq
   split at h
   ·rename_i tl ht
    cases h;exact⟨q,by simp,tl,hq,ht,rfl⟩
   ·obtain⟨p,hp,h2⟩:=nT h
    exact⟨p,by simp[hp],h2⟩
  ·obtain⟨p,hp,h2⟩:=nT h
   exact⟨p,by simp[hp],h2⟩
theorem yl{c:ao}{set:Int}:∀ {rows l:List (List Int)} {t:ag} {i:Int},dF c set rows t=some l->Ed rows l=true/\(bP c set t l i).1.1 = -1 /\ ∀ r∈l,ek c.aL.length (-1) r=0
 | [],l,t,i,h=>by cases h;exact⟨rfl,rfl,fun r h=>by cases h⟩
 | R::rest,l,t,i,h=>by
  rw[dF]at h;obtain⟨p,hp,tl,h1,h2,rfl⟩:=nT h;obtain⟨h3,h4,h5⟩:=yl (i:=i+1) h2;obtain⟨hw,hu⟩:=CD hp;rw[hu]at h4;refine⟨by rw[Ed,h1,h3];rfl,by rw[bP,if_pos hw];exact h4,fun r hr=>?_⟩;rcases List.mem_cons.1 hr with rfl|hr
  ·exact CC hp
  ·exact h5 r hr
theorem C4{c:ao}(hR:WR c){j:Nat}(hj:j<c.aL.length){m:Int}(h:0<=m/\m<c.aL.length):eJ (cN c j) m=decide (m≠j):=by
 have hm:=hR.aL;obtain⟨k,rfl⟩:∃ k:Nat,m=k:=⟨m.toNat,by omega⟩;unfold cN aB;generalize hn:c.aL.length=n at *;have h1:n=1\/n=2\/n=3\/n=4\/n=5:=by omega
 have h2:j=0\/j=1\/j=2\/j=3\/j=4:=by omega
 have h3:k=0\/k=1\/k=2\/k=3\/k=4:=by omega
 rcases h1 with rfl|rfl|rfl|rfl|rfl<;>rcases h2 with rfl|rfl|rfl|rfl|rfl<;>first
  | (exact absurd hj (by decide))
  | (rcases h3 with rfl|rfl|rfl|rfl|rfl<;>first|(exact absurd h.2 (by decide))|decide)
end Go.PX
namespace Go.PX.KN
theorem wy:∀ {l m:List Nat},l.Nodup->(∀ x∈l,x∈m)->l.length<=m.length
 | [],m,_,_=>Nat.zero_le _
 | a::r,m,h,hs=>by
  obtain⟨h1,h2⟩:=List.nodup_cons.1 h;have ha:=hs a (by simp);have:=wy (l:=r) (m:=m.erase a) h2 fun x hx=>(List.mem_erase_of_ne (fun e=>h1 (by rw[<- e];exact hx))).2 (hs x (by simp[hx]));rw[List.length_erase_of_mem ha]at this;have:=List.length_pos_of_mem ha;simp only[List.length_cons];omega
theorem wx{n:Nat}{l:List Nat}(h:l.Nodup)(hl:∀ j∈l,j<n):l.length<=n:=by
 have:=wy (m:=List.range n) h fun x hx=>List.mem_range.2 (hl x hx);simpa using this
end Go.PX.KN
