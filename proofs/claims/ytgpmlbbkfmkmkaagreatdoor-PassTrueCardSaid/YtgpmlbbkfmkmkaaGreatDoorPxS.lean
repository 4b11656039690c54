import Derived.Test.YtgpmlbbkfmkmkaaGreatDoorPxR
set_option linter.all false
set_option maxRecDepth 10000
namespace Go.PX
open Go.Proofs
open Go.RowKit
theorem qqx{l:PLog}{i k:Nat}{b:PBook}{e:PEnt}(h:At l i k b e):FnV Tryz.prog 50 [l.d,PAt.d ⟨i,k⟩] e.d:=by
 have h1:=h.book;have h2:=h.ent;show FnV Tryz.prog 50 [l.d,PAt.d ⟨i,k⟩] _;refine qA mixed qj Tryz.func50 rfl (ft:=ft50) 2 (by decide +kernel) (by rfl) fun {σ} Y st=>?_;conv=>whnf
 refine qr h1 ?_;conv=>whnf
 refine qr h2 ?_;conv=>whnf
 exact qb 0 rfl ⟨⟨rfl,rfl⟩,rfl⟩
def qpv(Z:TdS)(q:List PAt):Prop:=∀ p∈q,∃ (i k:Nat) (T:List Int) (u:Int),p=⟨i,k⟩/\Z.times[i]?=some T/\T[k]?=some u
set_option maxHeartbeats 4000000 in
theorem pa8(l:PLog)(x y:List Int)(w1 w2:Int)(hx:U16 x)(hy:U16 y)(hw1:0<=w1/\w1<=255)(hw2:0<=w2/\w2<=255):FnV Tryz.prog 8 [l.d,.agg [zC x,zC y],.agg [.int .u8 w1,.int .u8 w2]] (.bool true):=by
 by_cases hc:qB l=0
 case neg=>
  have h19:FnV Tryz.prog 19 [l.d] (.tup [.bool false,i64 (qB l)]):=FnV.cast (qpB l) (by unfold qjS;rw[if_neg hc]);have h47:FnV Tryz.prog 47 [l.d] (.bool false):=FnV.cast (qqw l) (by rw[decide_eq_false hc]);generalize qB l=N at hc h19;refine qA mixed qj Tryz.func8 rfl (ft:=ft8) 3 (by decide +kernel) (by rfl) fun {σ} Y st=>?_;conv=>whnf
  refine qf (ds:=[l.d]) h47 rfl rfl ?_;conv=>whnf
  refine qf (ds:=[l.d]) h19 rfl rfl ?_;conv=>whnf
  refine qh (fun _=>?_) (fun h=>absurd h (by simp[hc]));conv=>whnf
  refine qf (qnR) rfl rfl ?_;conv=>whnf
  exact qb 0 rfl ⟨⟨rfl,rfl⟩,rfl⟩
 have h47:FnV Tryz.prog 47 [l.d] (.bool true):=FnV.cast (qqw l) (by rw[decide_eq_true hc]);have hO:=told_o hc (x:=x) (y:=y) fun n hn=>(hy n hn).1;have h48:FnV Tryz.prog 48 [l.d,zC x,zC y] (.tup [(⟨l.near,(qeZ l x y).books⟩:PLog).d,.vs ((qeZ l x y).times.map fun r=>[zd r]),.vs ((qeZ l x y).offs.map fun r=>[zd r])]):=pa48 l hc x y hx hy;generalize qeZ l x y=Z at hO h48;have hbl:=hO.R.bl;have htl:=hO.R.tl;have hol:=hO.R.ol;have hZR:=zX hO.check;have hZl:=hZR.books;have hnear:=hZR.near;have hbook:=hO.R.book;have hoffs:=fun {i:Nat} {b:PBook}=>@ToldO.offs l Z hO i b;have hoffin:=fun {i:Nat} {b:PBook} (hb:Z.books[i]?=some b) {O:List Int}=>@ToldO.offs_in l Z hO i b hb O;have hent:=fun {i k:Nat} {T:List Int} {u:Int}=>@ToldO.ent l Z hO i k T u;have hinst:=fun {i k:Nat} {T:List Int} {u:Int}=>@ToldO.inst l Z hO i k T u;have hapart:=fun {i k j m:Nat} {T T':List Int} {u v:Int}=>@ToldO.apart l Z hO i k j m T T' u v;have htime:=fun {i k:Nat} {T:List Int} {u:Int}=>@ToldO.time l Z hO i k T u;have hsame:=fun {i k j m:Nat} {b c:PBook} {e f:PEnt}=>@ToldO.same l Z hO i k j m b c e f;have h19:FnV Tryz.prog 19 [(⟨l.near,Z.books⟩:PLog).d] (.tup [.bool true,i64 0]):=FnV.cast (qpB _) (by rw[hO.fits]);have h32:FnV Tryz.prog 32 [(⟨l.near,Z.books⟩:PLog).d] (.tup [i64 0,i64 0]):=FnV.cast (qpY _) (by rw[hO.need]);have h34:FnV Tryz.prog 34 [(⟨l.near,Z.books⟩:PLog).d] (.tup [zd [],i64 0]):=FnV.cast (qqu _) (by rw[hO.conf]);have hWn:(⟨l.near,Z.books⟩:PLog).near=l.near:=rfl;have hWb:(⟨l.near,Z.books⟩:PLog).books=Z.books:=rfl;clear hO;generalize (⟨l.near,Z.books⟩:PLog)=W at h48 hZR hZl hnear hoffs hoffin hent hinst hapart hsame h19 h32 h34 hWn hWb;rw[<- hWb]at hbook hoffs hoffin hbl;rw[<- hWn]at hsame;refine qA mixed qj Tryz.func8 rfl (ft:=ft8) 3 (by decide +kernel) (by rfl) fun {σ} Y st=>?_;conv=>whnf
 refine qf (ds:=[l.d]) h47 rfl rfl ?_;conv=>whnf
 refine qf (ds:=[l.d,zC x,zC y]) h48 rfl rfl ?_;conv=>whnf
 refine qf (ds:=[W.d]) h19 rfl rfl ?_;conv=>whnf
 refine qf (ds:=[W.d]) h32 rfl rfl ?_;conv=>whnf
 refine qf (ds:=[W.d]) h34 rfl rfl ?_;conv=>whnf
 refine zc (T:=tys) qj (by exact qe mixed qj (by decide +kernel)) W.books (fun i (q:List PAt)=>⟨[(5,.ptr 5 0),(9,.ptr 9 0),(10,.d (.vs (Z.times.map fun r=>[zd r]))),(11,.d (.vs (Z.offs.map fun r=>[zd r]))),(18,.sl 179 2 0 q.length),(19,.d (i64 i))],[(5,.box (.dd [.int .u8 w1,.int .u8 w2])),(9,.box (.dd W.cells)),(179,.arr 2 (.dd (q.map PAt.cells)))],st⟩)
  (fun i r q=>qpv Z q/\q.length<=8*i) [] ((Wk.born 18 179 2 rfl rfl rfl).trans (Wk.sub (by repeat' first|exact trivial|refine⟨?_,?_⟩|rfl|(simp only[List.length_map];rfl)|simp[PX.get]) (by repeat' first|exact trivial|refine⟨?_,?_⟩|rfl|(simp only[List.length_map];rfl)|simp[PX.get]))) ⟨fun p hp=>(by cases hp),Nat.le_refl _⟩ ?_ ?_
 ·rintro i b r q hb hi hr ⟨hq,hql⟩
  obtain⟨b0,T,O,_,_,_,_,hT,hOO,hBT,hbl8⟩:=hbook i b hb;have hbR:=hZR.book b (List.mem_of_getElem? hb);have hel:=hbR.ents;have htl8:=hBT.tl;obtain⟨ho1,ho2⟩:=hoffin hb hOO;have h21:FnV Tryz.prog 21 [W.d,i64 i] (.tup [qax (qhi W i),i64 0]):=FnV.cast (qpD W i) (by rw[hoffs hb]);have hollen:(qhi W i).length<=9:=by
   have:=hBT.ol;have:=qcA b;omega
  generalize qhi W i=OS at ho1 ho2 h21 hollen;conv=>whnf
  refine qh (fun _=>?_) (fun h=>absurd hi (by have:=of_decide_eq_false h;simp at this;omega));conv=>whnf
  refine qf (ds:=[W.d,i64 i]) h21 rfl rfl ?_;conv=>whnf
  refine qr hOO ?_;conv=>whnf
  refine qh (fun h=>absurd h (by simp[ho1])) (fun _=>?_);conv=>whnf
  refine zc (T:=tys) qj (by exact qe mixed qj (by decide +kernel)) OS (fun n (_:Unit)=>⟨[(5,.ptr 5 0),(9,.ptr 9 0),(10,.d (.vs (Z.times.map fun r=>[zd r]))),(11,.d (.vs (Z.offs.map fun r=>[zd r]))),(18,.sl 179 2 0 q.length),(19,.d (i64 i)),(20,.d (qax OS)),(22,.d (i64 n))],[(5,.box (.dd [.int .u8 w1,.int .u8 w2])),(9,.box (.dd W.cells)),(179,.arr 2 (.dd (q.map PAt.cells)))],st⟩)
   (fun _ _ _=>True) () (Wk.sub (by repeat' first|exact trivial|refine⟨?_,?_⟩|rfl|(simp only[List.length_map];rfl)|simp[PX.get]) (by repeat' first|exact trivial|refine⟨?_,?_⟩|rfl|(simp only[List.length_map];rfl)|simp[PX.get])) trivial ?_ ?_
  ·rintro n s r2 _ hs hn hr2 _
   obtain⟨o,ho⟩:∃ o,O[n]?=some o:=⟨_,List.getElem?_eq_getElem (by omega)⟩;have c49:FnV Tryz.prog 49 [i64 o,s.d] (.bool true):=FnV.cast (qpZ o s) (by
    have:=ho2 n s o hs ho;rw[decide_eq_true this.1,decide_eq_true this.2];rfl)
   conv=>whnf
   refine qh (fun _=>?_) (fun h=>absurd hn (by have:=of_decide_eq_false h;simp at this;omega));conv=>whnf
   refine qr hOO ?_;conv=>whnf
   refine qr ho ?_;conv=>whnf
   refine qr hs ?_;conv=>whnf
   refine ql (ds:=[i64 o,s.d]) c49 rfl rfl ?_;conv=>whnf
   refine qc (qa (by(try dsimp only);omega)) ?_;conv=>whnf
   exact⟨(),trivial,(Wk.sub (by repeat' first|exact trivial|refine⟨?_,?_⟩|rfl|(simp only[List.length_map];rfl)|simp[PX.get]) (by repeat' first|exact trivial|refine⟨?_,?_⟩|rfl|(simp only[List.length_map];rfl)|simp[PX.get]))⟩
  ·rintro _ _
   conv=>whnf
   refine qh (fun h=>absurd h (by simp)) (fun _=>?_);conv=>whnf
   refine zc (T:=tys) qj (by exact qe mixed qj (by decide +kernel)) T (fun k (q:List PAt)=>⟨[(5,.ptr 5 0),(9,.ptr 9 0),(10,.d (.vs (Z.times.map fun r=>[zd r]))),(11,.d (.vs (Z.offs.map fun r=>[zd r]))),(18,.sl 179 2 0 q.length),(19,.d (i64 i)),(23,.d (i64 k))],[(5,.box (.dd [.int .u8 w1,.int .u8 w2])),(9,.box (.dd W.cells)),(179,.arr 2 (.dd (q.map PAt.cells)))],st⟩)
    (fun k _ q=>qpv Z q/\q.length<=8*i+k) q (Wk.sub (by repeat' first|exact trivial|refine⟨?_,?_⟩|rfl|(simp only[List.length_map];rfl)|simp[PX.get]) (by repeat' first|exact trivial|refine⟨?_,?_⟩|rfl|(simp only[List.length_map];rfl)|simp[PX.get])) ⟨hq,hql⟩ ?_ ?_
   ·rintro k u r3 q hu hk hr3 ⟨hq,hql⟩
    obtain⟨g1,g2⟩:=hinst hT hu;have h24:FnV Tryz.prog 24 [W.d,PAt.d ⟨i,k⟩] (.tup [(qeY W ⟨i,k⟩).d,i64 0]):=FnV.cast (qpC W ⟨i,k⟩) (by rw[g1]);generalize qeY W ⟨i,k⟩=s at g2 h24;have c49:FnV Tryz.prog 49 [i64 u,s.d] (.bool true):=FnV.cast (qpZ u s) (by rw[decide_eq_true g2.1,decide_eq_true g2.2];rfl);conv=>whnf
    refine qr hT ?_;conv=>whnf
    refine qh (fun _=>?_) (fun h=>absurd hk (by have:=of_decide_eq_false h;simp at this;omega));conv=>whnf
    refine ql (ds:=[i64 i,i64 k]) (qoL i k) rfl rfl ?_;conv=>whnf
    refine ql (ds:=[W.d,PAt.d ⟨i,k⟩]) h24 rfl rfl ?_;conv=>whnf
    refine qr hT ?_;conv=>whnf
    refine qr hu ?_;conv=>whnf
    refine ql (ds:=[i64 u,s.d]) c49 rfl rfl ?_;conv=>whnf
    refine qf (ds:=[i64 i,i64 k]) (qoL i k) rfl rfl ?_;conv=>whnf
    refine qd rfl ?_;conv=>whnf
    refine qd (by simp[Els.len]) ?_;conv=>whnf
    refine qV (decide_eq_true (by
     show((q.map PAt.cells).length+1)*16<=140737488355328;rw[List.length_map];omega)) ?_
    conv=>whnf
    refine qc (qa (by(try dsimp only);omega)) ?_;conv=>whnf
    refine⟨q ++ [⟨i,k⟩],⟨fun p hp=>?_,by simp;omega⟩,Wk.sub ⟨rfl,rfl,rfl,rfl,?_,rfl,rfl,trivial⟩ ⟨rfl,rfl,?_,trivial⟩⟩
    ·rcases List.mem_append.1 hp with hp | hp
     ·exact hq p hp
     ·rw[List.mem_singleton]at hp
      exact⟨i,k,T,u,hp,hT,hu⟩
    ·show some (V.sl 179 2 0 ((q.map PAt.cells).length+1))=_
     simp
    ·show some (Obj.arr 2 (.dd (q.map PAt.cells ++ [PAt.cells ⟨i,k⟩])))=_
     simp
   ·rintro q ⟨hq,hql⟩
    conv=>whnf
    refine qr hT ?_;conv=>whnf
    refine qh (fun h=>absurd h (by simp)) (fun _=>?_);conv=>whnf
    refine qc (qa (by(try dsimp only);omega)) ?_;conv=>whnf
    exact⟨q,⟨hq,by omega⟩,(Wk.sub (by repeat' first|exact trivial|refine⟨?_,?_⟩|rfl|(simp only[List.length_map];rfl)|simp[PX.get]) (by repeat' first|exact trivial|refine⟨?_,?_⟩|rfl|(simp only[List.length_map];rfl)|simp[PX.get]))⟩
 ·rintro q ⟨hq,hql⟩
  conv=>whnf
  refine qh (fun h=>absurd h (by simp)) (fun _=>?_);conv=>whnf
  refine qh (fun _=>?_) (fun h0=>?_)
  ·conv=>whnf
   refine qf (qnR) rfl rfl ?_;conv=>whnf
   exact qb 0 rfl ⟨⟨rfl,rfl⟩,rfl⟩
  ·have h0:0<q.length:=by
    have:=of_decide_eq_false h0;omega
   have hm1:=Nat.mod_lt w1.toNat h0;have hm2:=Nat.mod_lt w2.toNat h0;obtain⟨n1,hn1⟩:∃ n,w1.toNat%q.length=n:=⟨_,rfl⟩;obtain⟨n2,hn2⟩:∃ n,w2.toNat%q.length=n:=⟨_,rfl⟩;rw[hn1]at hm1;rw[hn2]at hm2;have e1:w1.tmod (q.length:Int)=(n1:Int):=by rw[qpt hw1.1,hn1]
   have e2:w2.tmod (q.length:Int)=(n2:Int):=by rw[qpt hw2.1,hn2]
   obtain⟨P1,hP1⟩:∃ P1,q[n1]?=some P1:=⟨_,List.getElem?_eq_getElem hm1⟩;obtain⟨P2,hP2⟩:∃ P2,q[n2]?=some P2:=⟨_,List.getElem?_eq_getElem hm2⟩;obtain⟨i,k,T,u,rfl,hT,hu⟩:=hq P1 (List.mem_of_getElem? hP1);obtain⟨j,m,T',v,rfl,hT',hv⟩:=hq P2 (List.mem_of_getElem? hP2);conv=>whnf
   refine qg w1 (by rfl) (qa (by omega)) ?_;conv=>whnf
   refine qV (decide_eq_true (by omega)) ?_;conv=>whnf
   rw[e1];refine qh (fun _=>?_) (fun h=>absurd h (by simp;omega));conv=>whnf
   refine zo (PAt.cells ⟨i,k⟩) (by rw[Nat.zero_add,Int.toNat_natCast,List.getElem?_map,hP1];rfl) ?_;conv=>whnf
   refine qg w2 (by rfl) (qa (by omega)) ?_;conv=>whnf
   refine qV (decide_eq_true (by omega)) ?_;conv=>whnf
   rw[e2];refine qh (fun _=>?_) (fun h=>absurd h (by simp;omega));conv=>whnf
   refine zo (PAt.cells ⟨j,m⟩) (by rw[Nat.zero_add,Int.toNat_natCast,List.getElem?_map,hP2];rfl) ?_;conv=>whnf
   have hub:=htime hT hu;have hvb:=htime hT' hv;obtain⟨s,o,g1,g2,g3,g4,g5,g6,g7⟩:=hapart hT hu hT' hv;have h27:FnV Tryz.prog 27 [W.d,PAt.d ⟨i,k⟩,PAt.d ⟨j,m⟩] (.tup [s.d,i64 o,i64 0]):=FnV.cast (qpW W ⟨i,k⟩ ⟨j,m⟩) (by rw[g1]);obtain⟨b,e,hA,_⟩:=hent hT hu;obtain⟨c,f,hB,_⟩:=hent hT' hv;have h50:=fun {σ}=>@qqx W i k b e hA σ;have h51:=fun {σ}=>@qqx W j m c f hB σ;refine qr hT' ?_;conv=>whnf
   refine qr hv ?_;conv=>whnf
   refine qr hT ?_;conv=>whnf
   refine qr hu ?_;conv=>whnf
   refine qg (v-u) rfl (qa (by omega)) ?_;have hsm:=fun h1 h2 h3 h4=>hsame hA hB h1 h2 h3 h4 g2;have hD:v-u<=22000 /\ -22000<=v-u:=by omega
   generalize v-u=D at g3 g4 g5 g6 g7 hD ⊢;have c49:FnV Tryz.prog 49 [i64 D,s.d] (.bool true):=FnV.cast (qpZ D s) (by rw[decide_eq_true g3,decide_eq_true g4];rfl);conv=>whnf
   refine qf (ds:=[W.d,PAt.d ⟨i,k⟩,PAt.d ⟨j,m⟩]) h27 rfl rfl ?_;conv=>whnf
   refine qf (ds:=[i64 D,s.d]) c49 rfl rfl ?_;conv=>whnf
   rcases (show o=1\/o=2\/o=3\/(o≠1/\o≠2/\o≠3) by omega) with o1 | o1 | o1 | o1
   all_goals
    repeat (first
     | (refine qh (fun h=>absurd h (by simp;omega)) (fun _=>?_);conv=>whnf)
     | (refine qh (fun _=>?_) (fun h=>absurd h (by simp;omega));conv=>whnf))
    refine ql (ds:=[W.d,PAt.d ⟨i,k⟩]) h50 rfl rfl ?_;conv=>whnf
    refine ql (ds:=[W.d,PAt.d ⟨j,m⟩]) h51 rfl rfl ?_;conv=>whnf
    refine qh (fun _=>?_) (fun a1=>?_)
    ·conv=>whnf
     refine qf (qnR) rfl rfl ?_;conv=>whnf
     exact qb 0 rfl ⟨⟨rfl,rfl⟩,rfl⟩
    conv=>whnf
    have a1:e.kind=1:=by simpa using a1
    refine qh (fun _=>?_) (fun a2=>?_)
    ·conv=>whnf
     refine qf (qnR) rfl rfl ?_;conv=>whnf
     exact qb 0 rfl ⟨⟨rfl,rfl⟩,rfl⟩
    conv=>whnf
    have a2:f.kind=1:=by simpa using a2
    refine qh (fun _=>?_) (fun a3=>?_)
    ·conv=>whnf
     refine qf (qnR) rfl rfl ?_;conv=>whnf
     exact qb 0 rfl ⟨⟨rfl,rfl⟩,rfl⟩
    conv=>whnf
    have a3:e.word=f.word:=by simpa using a3
    refine qh (fun _=>?_) (fun a4=>?_)
    ·conv=>whnf
     refine qf (qnR) rfl rfl ?_;conv=>whnf
     exact qb 0 rfl ⟨⟨rfl,rfl⟩,rfl⟩
    conv=>whnf
    have a4:i≠j:=by simp at a4;omega
    refine qh (fun _=>?_) (fun a5=>?_)
    ·conv=>whnf
     refine qf (qnR) rfl rfl ?_;conv=>whnf
     exact qb 0 rfl ⟨⟨rfl,rfl⟩,rfl⟩
    conv=>whnf
    have a5:D<=W.near:=by simp at a5;omega
    refine qg (-W.near) (by omega) (qa (by omega)) ?_;conv=>whnf
    refine qh (fun _=>?_) (fun a6=>?_)
    ·conv=>whnf
     refine qf (qnR) rfl rfl ?_;conv=>whnf
     exact qb 0 rfl ⟨⟨rfl,rfl⟩,rfl⟩
    conv=>whnf
    have a6 : -W.near<=D:=by simp at a6;omega
    obtain⟨S,k1,k2,k3⟩:=hsm a1 a2 a3 a4 (by omega) (by omega);have h29:FnV Tryz.prog 29 [W.d,PAt.d ⟨i,k⟩] (.tup [qhj S,i64 0]):=FnV.cast (qqs W ⟨i,k⟩) (by rw[k1]);refine qf (ds:=[W.d,PAt.d ⟨i,k⟩]) h29 rfl rfl ?_;conv=>whnf
    refine zc (T:=tys) qj (by exact qe mixed qj (by decide +kernel)) S (fun n (_:Unit)=>⟨[(27,.ptr 27 0),(34,.d (qhj S)),(35,.d (i64 0)),(36,.d (.bool ((S.take n).any fun p=>decide (p=⟨j,m⟩)))),(37,.d (i64 n))],[(27,.box (.dd [i64 j,i64 m]))],st⟩) (fun _ _ _=>True) () (Wk.sub (by repeat' first|exact trivial|refine⟨?_,?_⟩|rfl|(simp only[List.length_map];rfl)|simp[PX.get]) ⟨(by first | rfl | (simp only[List.length_map];rfl) | simp[PX.get]),trivial⟩) trivial ?_ ?_
    ·rintro n p r _ hp hn hr _
     have htk:((S.take (n+1)).any fun p=>decide (p=⟨j,m⟩))=(((S.take n).any fun p=>decide (p=⟨j,m⟩))||decide (p=⟨j,m⟩)):=by
      rw[List.take_succ,hp,List.any_append];simp
     generalize ((S.take n).any fun p=>decide (p=⟨j,m⟩))=B at htk ⊢;conv=>whnf
     refine qh (fun _=>?_) (fun h=>absurd hn (by have:=of_decide_eq_false h;simp at this;omega))
     cases B with
     | true=>
      conv=>whnf
      refine qc (qa (by(try dsimp only);omega)) ?_;conv=>whnf
      exact⟨(),trivial,Wk.sub ⟨rfl,rfl,rfl,by rw[htk];rfl,rfl,trivial⟩ ⟨rfl,trivial⟩⟩
     | false=>
      conv=>whnf
      refine qr hp ?_;conv=>whnf
      refine qc (qa (by(try dsimp only);omega)) ?_;conv=>whnf
      exact⟨(),trivial,Wk.sub ⟨rfl,rfl,rfl,by rw[htk,Bool.false_or,at_eq];rfl,rfl,trivial⟩ ⟨rfl,trivial⟩⟩
    ·rintro _ _
     rw[List.take_length];have hany:(S.any fun p=>decide (p=⟨j,m⟩))=true:=List.any_eq_true.2 ⟨_,k2,by simp⟩;rw[hany];conv=>whnf
     refine qh (fun h=>absurd h (by simp)) (fun _=>?_);conv=>whnf
     refine qf (qnR) rfl rfl ?_;conv=>whnf
     exact qb 0 rfl ⟨⟨rfl,rfl⟩,rfl⟩
end Go.PX
