import Derived.Test.YtgpmlbbkfmkmkaaGreatDoorPxR
import Derived.Test.YtgpmlbbkfmkmkaaGreatDoorPxT
import Derived.Test.YtgpmlbbkfmkmkaaGreatDoorPxP
set_option linter.all false
set_option maxRecDepth 10000
namespace Go.PX
open Go.Proofs
open Go.RowKit
theorem qwd(l:PLog):FnV Tryz.prog 18 [l.d] (.tup [i64 (qaQ l).1,i64 (qaQ l).2.1,i64 (qE l)]):=qAP l
end Go.PX
namespace Go.PX
open Go.Proofs
theorem qnX{es:List (PG.Step Nat)}{n:Nat}(hN:∀ e∈es,e.a<n/\e.b<n)(hs:∀ c l x,l.length<=n->PG.WL es (c::(l ++ [c])) x->0<=x):PG.NoNeg es:=by
 have hN2:∀ e∈es,e.a∈List.range n/\e.b∈List.range n:=fun e he=>⟨List.mem_range.2 (hN e he).1,List.mem_range.2 (hN e he).2⟩;intro c m x h;by_cases hc:c<n
 ·obtain⟨l,h1,h2,h3,h4⟩:=h.wl hN2 (List.mem_range.2 hc)
  cases hl:l.reverse with
  | nil=>
   have:l = []:=by simpa using hl
   subst this;cases h2;exact Int.le_refl _
  | cons d r=>
   have e1:l=r.reverse ++ [d]:=by
    have:=congrArg List.reverse hl;simpa using this
   subst e1;have:d=c:=by simpa[List.getLast?_cons,List.getLast?_append]using h3
   subst this;refine PG.closed_short (N:=List.range n) (fun c l x hl h=>hs c l x (by simpa using hl) h) r.reverse.length d r.reverse x (Nat.le_refl _) (fun v hv=>h4 v (by simp at hv ⊢;simp[hv])) h2
 ·cases h with
  | nil=>exact Int.le_refl _
  | snoc h e he hb=>exact absurd (hN e he).2 hc
theorem qsP{l:PLog}(hC:qE l=0){w:Int}(hw:0<=w/\w<=1048576){conf:List Int}(hno:PG.NoNeg (qiG l w conf)):jW l w conf=true:=by
 obtain⟨hI,hB⟩:=qzr hC hw conf;have hd:=PG.table_diag hB hno (1+zF l.books);obtain⟨_,hD⟩:=PG.table_good hB hd;generalize PG.stages nvr (1+zF l.books) (tbl (qsY l w conf)) (1+zF l.books)=S at hD;refine qbu.2 ⟨_,qiH hC ((hD 0 (by omega)).pot fun e he=>?_)⟩;obtain⟨e',_,hs⟩:=qfP he;obtain⟨_,_,hwk⟩:=qmI hC (w:=w) (conf:=conf) (zD l) hs.a;obtain⟨y,h2,_⟩:=(hD 0 (by omega)).le hwk;exact⟨y,h2⟩
theorem quy{a b:PG.Step Nat}(h1:a.a=b.a)(h2:a.b=b.b)(h3:a.w=b.w):a=b:=by
 cases a;cases b
 simp only at h1 h2 h3;subst h1 h2 h3;rfl
theorem quz{l:PLog}(hC:qE l=0){w w':Int}{conf:List Int}(hw:0<=w){e:PG.Step Nat}(he:e∈qiG l w conf):(e.a≠0/\e.b≠0/\e∈qiG l w' conf /\ -20000<=e.w)\/((e.a=0\/e.b=0)/\w-720<=e.w):=by
 obtain⟨e',hj,hs⟩:=qfP he;have hsp:∀ {p:Per} {s:Span},-720<=s.lo/\s.lo<=s.hi/\s.hi<=720->e'∈jh w p s->((e.a=0\/e.b=0)/\w-720<=e.w):=fun {p s} hb hm=>by
  unfold jh at hm;simp only[List.mem_cons,List.not_mem_nil,or_false]at hm;have ha:=hs.a;have hb':=hs.b;have hw':=hs.w;rcases hm with rfl|rfl
  ·exact⟨.inl (qbn ha (zD l)),by rw[hw'];simp only;omega⟩
  ·exact⟨.inr (qbn hb' (zD l)),by rw[hw'];simp only;omega⟩
 have hne:∀ {k:Nat} {i n:Nat},(qY l)[k]?=some (⟨i,n⟩:Per)->k≠0:=fun {k i n} h h0=>by
  subst h0;rw[zD]at h;injection h with h
  injection h with h _
  omega
 have other:∀ {e'':zu},e''=e'->Just l w' conf e''->e∈qiG l w' conf:=fun hee hj'=>by
  obtain⟨f,hf,hs'⟩:=qhi hC hj';subst hee;have:f=e:=quy (qbn hs'.a hs.a) (qbn hs'.b hs.b) (hs'.w.trans hs.w.symm);rw[<- this];exact hf
 have hR:=zK hC
 cases hj with
 | off i b hb e'' hm=>exact .inr (hsp (hR.book b (List.mem_of_getElem? hb)).off hm)
 | set i b hb n h1 h2 e'' hm=>exact .inr (hsp (hR.book b (List.mem_of_getElem? hb)).set hm)
 | ord i k b x y hx hy=>
  have h1:=(hR.book b (List.mem_of_getElem? hx.book)).ent x (List.mem_of_getElem? hx.ent);have h2:=(hR.book b (List.mem_of_getElem? hx.book)).ent y (List.mem_of_getElem? hy.ent);refine .inl ⟨hne hs.a,hne hs.b,other rfl (.ord i k b x y hx hy),?_⟩;rw[hs.w];unfold qcx;simp only;omega
 | rep i j m n b c x y num h=>
  have h1:=(hR.book b (List.mem_of_getElem? h.ha.book)).ent x (List.mem_of_getElem? h.ha.ent);have h2:=(hR.book c (List.mem_of_getElem? h.hb.book)).ent y (List.mem_of_getElem? h.hb.ent);refine .inl ⟨hne hs.a,hne hs.b,other rfl (.rep i j m n b c x y num h),?_⟩;rw[hs.w];unfold qcx;simp only;omega
theorem qxo{l:PLog}(hC:qE l=0){w w':Int}{conf:List Int}(hw:720<=w):∀ {L:List Nat} {x:Int},PG.WL (qiG l w conf) L x->((∀ v∈L,v≠0)->PG.WL (qiG l w' conf) L x) /\ -(20000*((L.length-1:Nat):Int))<=x/\(2<=L.length->(0:Nat)∈L->w-720-20000*((L.length-1:Nat):Int)<=x):=by
 intro L x h
 induction h with
 | one a=>exact⟨fun _=>.one a,by simp,fun h _=>by simp at h⟩
 | snoc h e he hb ih=>
  rename_i b r x;obtain⟨i1,i2,i3⟩:=ih;simp only[List.length_cons,Nat.add_sub_cancel]at i2 i3 ⊢;rcases quz hC (w':=w') (by omega) he with⟨h1,h2,h3,h4⟩|⟨h1,h2⟩
  ·refine⟨fun hv=>.snoc (i1 fun v hm=>hv v (List.mem_cons_of_mem _ hm)) e h3 hb,by omega,fun _ h0=>?_⟩
   rcases List.mem_cons.1 h0 with h0|h0
   ·exact absurd h0.symm h2
   ·rcases List.mem_cons.1 h0 with h5|h5
    ·exact absurd (hb.trans h5.symm) h1
    ·have hr:1<=r.length:=List.length_pos_of_mem h5
     have:=i3 (by omega) h0;omega
  ·refine⟨fun hv=>?_,by omega,fun _ _=>by omega⟩
   rcases h1 with h1|h1
   ·exact absurd (hb.symm.trans h1) (hv b (by simp))
   ·exact absurd h1 (hv e.b (by simp))
theorem qwe{l:PLog}(hC:qE l=0){conf:List Int}(h:jW l 1048576 conf=true):jW l 1000000 conf=true:=by
 obtain⟨t,ht⟩:=qbu.1 h;have hno:=PG.pot_noNeg (qeq ht);have hn:=qkX hC;refine qsP hC (by omega) (qnX (n:=1+zF l.books) (fun e he=>⟨(qgs hC (by omega) he).1,(qgs hC (by omega) he).2.1⟩) fun c r x hr hw=>?_);obtain⟨h1,_,h3⟩:=qxo hC (w':=1048576) (by omega) hw;by_cases h0:(0:Nat)∈c::(r ++ [c])
 ·have:=h3 (by simp) h0
  simp only[List.length_cons,List.length_append,List.length_nil]at this;omega
 ·have h4:=h1 fun v hv h5=>h0 (h5▸hv)
  have h5:=h4.walk (a:=c) (by rw[<- List.cons_append];exact List.getLast?_concat);exact hno _ _ _ h5
theorem qpi{l:PLog}{w w':Int}(hw:w<=w'){conf:List Int}(hf:jW l w conf=true):jW l w' conf=true:=by
 obtain⟨t,ht⟩:=qbu.1 hf;refine qbu.2 ⟨t,ht.right,fun i b hb=>?_,fun i b n hb h1 h2=>?_,ht.ord,ht.rep⟩
 ·have:=ht.off i b hb;omega
 ·have:=ht.set i b n hb h1 h2;omega
theorem quA{l:PLog}(h:qE l=0):(jW l 1000000 []=false/\qca l=(0,9))\/(jW l 1000000 []=true /\ ∃ N,qca l=(N,0)/\0<=N/\N<=1000000 /\ ∀ w,0<=w->jW l w []=decide (N<=w)):=by
 cases hf:jW l 1000000 []with
 | false=>
  left;refine⟨rfl,?_⟩;have:jW l 1048576 []=false:=by
   cases h2:jW l 1048576 []with
   | false=>rfl
   | true=>rw[qwe h h2]at hf;cases hf
  unfold qca;rw[if_pos h,this];rfl
 | true=>
  right;obtain⟨h1,_,h3,h4,h5⟩:=qvM h (qpi (by omega) hf);refine⟨rfl,(qca l).1,Prod.ext rfl h3,h1,?_,fun w hw=>?_⟩
  ·rcases Int.lt_or_le 1000000 (qca l).1 with hlt|hle
   ·have:=h5 1000000 (by omega) hlt
    rw[hf]at this;cases this
   ·exact hle
  ·by_cases hN:(qca l).1<=w
   ·rw[decide_eq_true hN];exact qpi hN h4
   ·rw[decide_eq_false hN];exact h5 w hw (by omega)
def qgW:Nat->List Int->List Int->List (List Int)
 | 0,p,_=>[p]
 | m+1,p,of=>(List.range of.length).flatMap fun i=>qgW m (p ++ [(of[i]?).getD 0]) (of.drop (i+1))
theorem qgu:∀ (m:Nat) (p of:List Int),of.length<m->qgW m p of = []
 | 0,p,of,h=>by omega
 | m+1,p,of,h=>by
  rw[qgW,List.flatMap_eq_nil_iff];intro i hi;rw[List.mem_range]at hi;exact qgu m _ _ (by rw[List.length_drop];omega)
theorem qgv{α:Type}{f:Nat->List α}{a b:Nat}(hab:a<=b)(h:∀ i,a<=i->i<b->f i = []):(List.range b).flatMap f=(List.range a).flatMap f:=by
 obtain⟨d,rfl⟩:∃ d,b=a+d:=⟨b-a,by omega⟩
 induction d with
 | zero=>rfl
 | succ d ih=>
  rw[show a+(d+1)=(a+d)+1 by omega,List.range_succ,List.flatMap_append,ih (by omega) fun i h1 h2=>h i h1 (by omega)];simp[h (a+d) (by omega) (by omega)]
theorem qgP{α β:Type}{f g:α->List β}:∀ (l:List α),(∀ x∈l,f x=g x)->l.flatMap f=l.flatMap g
 | [],_=>rfl
 | a::l,h=>by
  rw[List.flatMap_cons,List.flatMap_cons,h a (List.mem_cons_self ..),qgP l fun x hx=>h x (List.mem_cons_of_mem _ hx)]
theorem qsQ{of:List Int}:∀ (m:Nat) (p:List Int) (start:Nat),start<=of.length->qgW m p (of.drop start)=jR of m p start
 | 0,p,start,_=>rfl
 | m+1,p,start,hs=>by
  rw[qgW,jR,List.length_drop];have e:List.range' start (of.length-m-start)=(List.range (of.length-m-start)).map fun i=>start+i:=by
   rw[List.range_eq_range',List.map_add_range'];simp
  rw[e,List.flatMap_map];have e2:∀ i,i<of.length-start->qgW m (p ++ [((of.drop start)[i]?).getD 0]) ((of.drop start).drop (i+1))=jR of m (p ++ [(of[start+i]?).getD 0]) (start+i+1):=fun i hi=>by
   rw[List.drop_drop,List.getElem?_drop,show start+(i+1)=start+i+1 by omega];exact qsQ m _ _ (by omega)
  have e3:(List.range (of.length-start)).flatMap (fun i=>qgW m (p ++ [((of.drop start)[i]?).getD 0]) ((of.drop start).drop (i+1)))=(List.range (of.length-m-start)).flatMap fun i=>qgW m (p ++ [((of.drop start)[i]?).getD 0]) ((of.drop start).drop (i+1)):=
   qgv (by omega) fun i h1 h2=>qgu m _ _ (by rw[List.length_drop,List.length_drop];omega)
  rw[e3];exact qgP _ fun i hi=>e2 i (by rw[List.mem_range]at hi;omega)
theorem quB(n:Int)(b:PBook):qkW n b=decide (0<qfV b n):=by
 rw[Bool.eq_iff_iff,decide_eq_true_eq,qnM];unfold qkW;constructor
 ·intro h
  obtain⟨m,hm⟩:=Option.isSome_iff_exists.1 h;obtain⟨y,_,hy,h1,h2,_⟩:=zQ hm;exact⟨y,List.mem_of_getElem? hy,h1,h2⟩
 ·rintro ⟨y,hy,h1,h2⟩
  obtain⟨k,hk⟩:=List.getElem?_of_mem hy;obtain⟨m,_,hm⟩:=qin hk h1 h2;rw[hm];rfl
theorem qxp(l:PLog)(n:Int):inN l n=(l.books.filter (qkW n)).length:=by
 unfold inN
 congr 1
 exact List.filter_congr fun b _=>(quB n b).symm
def qnY(l:PLog):List Int:=(zB l).filter fun n=>decide (1<(l.books.filter (qkW n)).length)
theorem qmM{l:PLog}(h:qE l=0):qnY l=jk l:=by
 refine qcT (List.Pairwise.sublist List.filter_sublist (qcy l)) (qdw l) fun n=>?_;unfold qnY jk;rw[List.mem_filter,List.mem_filter,decide_eq_true_eq,decide_eq_true_eq,<- qxp,qad h];constructor
 ·rintro ⟨h1,h2⟩
  obtain⟨h3,_⟩:=qdv.1 ((qad h).2 h1);exact⟨List.mem_map.2 ⟨n.toNat,List.mem_range'_1.2 (by omega),by omega⟩,h2⟩
 ·rintro ⟨_,h2⟩
  exact⟨by omega,h2⟩
def Cons(l:PLog)(n:Int):Prop:=∀ x∈qcN l,∀ y∈qcN l,x.number=n->y.number=n->x.word=y.word
theorem quC{l:PLog}(h:qE l=0)(hc:∀ n∈zB l,Cons l n):qbo [] (qcN l)=false:=
 (qfM _ _).2 ⟨fun y _ w hw=>(by cases hw),fun x hx y hy he=>hc y.number ((qad h).2 (qkV.2 ⟨y,hy,rfl⟩)) x hx y hy he rfl⟩
theorem qsR{l:PLog}{x y:PEnt}(hx:x∈qcN l)(hy:y∈qcN l)(hn:x.number=y.number)(hw:x.word≠y.word):qbo [] (qcN l)=true:=by
 cases h:qbo [] (qcN l) with
 | true=>rfl
 | false=>exact absurd (((qfM _ _).1 h).2 x hx y hy hn) hw
theorem qsS{l:PLog}{i k:Nat}{b:PBook}{y:PEnt}(h:At l i k b y)(h3:y.kind=3):y∈qcN l:=qdx.2 ⟨⟨b,List.mem_of_getElem? h.book,List.mem_of_getElem? h.ent⟩,h3⟩
theorem qnZ{l:PLog}{y:PEnt}(h:y∈qcN l):∃ (i k:Nat) (b:PBook),At l i k b y/\y.kind=3:=by
 obtain⟨⟨b,hb,hy⟩,h3⟩:=qdx.1 h;obtain⟨i,hi⟩:=List.getElem?_of_mem hb;obtain⟨k,hk⟩:=List.getElem?_of_mem hy;exact⟨i,k,b,⟨hi,hk⟩,h3⟩
def qxq(l:PLog)(n:Int):Bool:=l.books.any fun b=>decide (1<qfV b n)
theorem quD{l:PLog}(h:qE l=0):(zB l).filter (qxq l)=qrW l:=by
 refine qcT (List.Pairwise.sublist List.filter_sublist (qcy l)) (List.Pairwise.sublist List.filter_sublist (qaD _ 1)) fun n=>?_;rw[que h,List.mem_filter];unfold qxq;rw[List.any_eq_true];constructor
 ·rintro ⟨_,b,hb,h2⟩
  exact⟨b,hb,of_decide_eq_true h2⟩
 ·rintro ⟨b,hb,h2⟩
  exact⟨(qad h).2 (qsx.2 ⟨b,hb,by omega⟩),b,hb,decide_eq_true h2⟩
def qgQ(l:PLog)(k:Nat):List Int:=(qgp k).filter fun n=>!decide (n∈zB l)
theorem qoa(l:PLog)(k:Nat):qgQ l (k+1)=qgQ l k++if ((k:Int)+1)∈zB l then [] else [(k:Int)+1]:=by
 unfold qgQ;have e:qgp ((k+1:Nat):Int)=qgp k ++ [(k:Int)+1]:=by
  unfold qgp;rw[Int.toNat_natCast,Int.toNat_natCast,List.range'_concat,List.map_append];simp[Nat.add_comm]
 rw[e,List.filter_append,List.filter_cons];split
 ·rename_i h
  rw[if_neg (by simpa using h)];rfl
 ·rename_i h
  rw[if_pos (by simpa using h)];rfl
theorem qqv(l:PLog)(k:Nat):(qgQ l k).length<=k:=by
 unfold qgQ;refine Nat.le_trans (List.length_filter_le _ _) ?_;unfold qgp;simp
theorem quE{l:PLog}(h:qE l=0){r:List Int}(hr:zB l=r ++ [qbp l]):qgQ l ((qbp l).toNat-1)=qnC l:=by
 refine qcT (List.Pairwise.sublist List.filter_sublist (qiF _)) (List.Pairwise.sublist List.filter_sublist (qaD _ 1)) fun n=>?_;have hl:qbp l∈zB l:=by rw[hr];simp
 have h1:=(qdv.1 hl).1;rw[qud];unfold qgQ;rw[List.mem_filter,qhh,Bool.not_eq_true',decide_eq_false_iff_not,qad h];constructor
 ·rintro ⟨h2,h3⟩
  exact⟨by omega,by omega⟩
 ·rintro ⟨h2,h3⟩
  refine⟨⟨h2.1,?_⟩,by omega⟩;have:n≠qbp l:=by
   rintro rfl;have:=(qad h).1 hl;omega
  omega
end Go.PX
namespace Go.PX
open Go.Proofs
open Go.RowKit
theorem qwf{l:PLog}(hc:qE l=0){w:Int}(hw:0<=w/\w<=1048576){B:Bool}(hB:jW l w []=B):FnV Tryz.prog 71 [l.d,i64 w,qF []] (if B then .tup [.vs ((qsH l w []).map fun r=>[qF r]),.bool true] else .tup [.nils,.bool false]):=by
 rw[<- hB];exact qzs l hc w hw [] (by simp)
set_option maxHeartbeats 4000000 in
theorem qAR(l:PLog):FnV Tryz.prog 33 [l.d] (.tup [i64 (qca l).1,i64 (qca l).2]):=by
 have h18:=fun {σ}=>@qwd l σ;rcases Classical.em (qE l=0) with hc|hc
 ·rw[hc]at h18
  rcases quA hc with⟨hf,he⟩|⟨hf,N,he,hN0,hN1,hN⟩
  ·have h71:=fun {σ}=>@qwf l hc 1000000 (by omega) false hf σ
   rw[he];show FnV Tryz.prog 33 [l.d] _;refine qJ mixed qm Tryz.func33 rfl (ft:=qxU) 1 (by decide +kernel) (by rfl) fun {σ} Y st=>?_;conv=>whnf
   refine qk (ds:=[l.d]) h18 rfl rfl ?_;conv=>whnf
   refine qbc ?_;refine qk (ds:=[l.d,i64 1000000,qF []]) h71 rfl rfl ?_;conv=>whnf
   exact qc 0 rfl ⟨⟨rfl,rfl⟩,rfl⟩
  ·have h71:=fun {σ}=>@qwf l hc 1000000 (by omega) true hf σ
   rw[he];have h71w:=fun {σ} (w:Int) h1=>@qwf l hc w h1 _ rfl σ;generalize qsH l 1000000 []=T0 at h71;show FnV Tryz.prog 33 [l.d] _;refine qJ mixed qm Tryz.func33 rfl (ft:=qxU) 1 (by decide +kernel) (by rfl) fun {σ} Y st=>?_;conv=>whnf
   refine qk (ds:=[l.d]) h18 rfl rfl ?_;conv=>whnf
   refine qbc ?_;refine qk (ds:=[l.d,i64 1000000,qF []]) h71 rfl rfl ?_;conv=>whnf
   refine zI (T:=tys) qm (by exact qg mixed qm (by decide +kernel)) (α:=Int×Int) (fun z=>⟨[(1,.ptr 1 0),(7,.d (i64 z.1)),(8,.d (i64 z.2))],[(1,.box (.dd l.cells))],st⟩) (fun z=>(0<=z.1/\z.1<=N)/\(N<=z.2/\z.2<=1000000)) (fun z=>(z.2-z.1).toNat) (0,1000000) (Wk.sub (by repeat' first|constructor|(simp only[List.length_map];rfl)|simp[PX.get]) ⟨(by first|rfl|(simp only[List.length_map];rfl)|simp[PX.get]),trivial⟩) (by simp only;omega) ?_;rintro ⟨lo,hi⟩ ⟨h1,h2⟩;simp only at h1 h2;conv=>whnf
   refine qj (fun h=>?_) (fun h=>?_)
   ·have h:lo<hi:=of_decide_eq_true h
    obtain⟨m,hm⟩:∃ m,(lo+hi)/2=m:=⟨_,rfl⟩;have hfm:=hN m (by omega);have h71m:=fun {σ}=>@h71w σ m (by omega);rw[hfm]at h71m;generalize qsH l m []=Tm at h71m;conv=>whnf
    refine qn (lo+hi) rfl (qb (by omega)) ?_;conv=>whnf
    refine qn m (by rw[<- hm,Int.tdiv_eq_ediv_of_nonneg (by omega)]) (qb (by omega)) ?_;conv=>whnf
    refine qbc ?_;refine qk (ds:=[l.d,i64 m,qF []]) h71m rfl rfl ?_;by_cases hNm:N<=m
    ·rw[decide_eq_true hNm]
     conv=>whnf
     exact⟨(lo,m),by simp only;omega,by simp only;omega,(Wk.sub (by repeat' first|constructor|(simp only[List.length_map];rfl)|simp[PX.get]) ⟨(by first|rfl|(simp only[List.length_map];rfl)|simp[PX.get]),trivial⟩)⟩
    ·rw[decide_eq_false hNm]
     conv=>whnf
     refine qn (m+1) rfl (qb (by omega)) ?_;conv=>whnf
     exact⟨(m+1,hi),by simp only;omega,by simp only;omega,(Wk.sub (by repeat' first|constructor|(simp only[List.length_map];rfl)|simp[PX.get]) ⟨(by first|rfl|(simp only[List.length_map];rfl)|simp[PX.get]),trivial⟩)⟩
   ·have h:¬ lo<hi:=of_decide_eq_false h
    have:lo=N:=by omega
    subst this;conv=>whnf
    exact qc 0 rfl ⟨⟨rfl,rfl⟩,rfl⟩
 ·have he:qca l=(0,qE l):=by unfold qca;rw[if_neg hc]
  rw[he];generalize qE l=N at hc h18;show FnV Tryz.prog 33 [l.d] _;refine qJ mixed qm Tryz.func33 rfl (ft:=qxU) 1 (by decide +kernel) (by rfl) fun {σ} Y st=>?_;conv=>whnf
  refine qk (ds:=[l.d]) h18 rfl rfl ?_;conv=>whnf
  refine qj (fun _=>?_) (fun h=>absurd h (by simp[hc]));conv=>whnf
  exact qc 0 rfl ⟨⟨rfl,rfl⟩,rfl⟩
set_option maxHeartbeats 4000000 in
theorem qAS(l:PLog)(hc:qE l=0):FnV Tryz.prog 89 [l.d] (qF (jk l)):=by
 have hR:=zK hc;have hlen:=hR.books;have h55:=fun {σ}=>@qzq l hR σ;have hN:=qeY l;have htl:=qkU hc;rw[<- qmM hc];unfold qnY;generalize zB l=N at h55 hN;show FnV Tryz.prog 89 [l.d] _;refine qJ mixed qm Tryz.func89 rfl (ft:=qAm) 1 (by decide +kernel) (by rfl) fun {σ} Y st=>?_;conv=>whnf
 refine qk (ds:=[l.d]) h55 rfl rfl ?_;conv=>whnf
 refine zd (T:=tys) qm (by exact qg mixed qm (by decide +kernel)) N (fun i (q:List Int)=>⟨[(1,.ptr 1 0),(3,.d (qF N)),(4,.sl 44 1 0 q.length),(5,.d (i64 i))],[(1,.box (.dd l.cells)),(44,.arr 1 (.dd (q.map fun n=>[i64 n])))],st⟩)
  (fun i r q=>q++r.filter (fun n=>decide (1<(l.books.filter (qkW n)).length))=N.filter (fun n=>decide (1<(l.books.filter (qkW n)).length))/\q.length<=i) [] ((Wk.born 4 44 1 rfl rfl rfl).trans (Wk.sub (by repeat' first|constructor|(simp only[List.length_map];rfl)|simp[PX.get]) (by repeat' first|constructor|(simp only[List.length_map];rfl)|simp[PX.get]))) ⟨rfl,Nat.le_refl _⟩ ?_ ?_
 ·rintro i n r q hx hi hr ⟨hq,hql⟩
  rw[List.filter_cons]at hq;conv=>whnf
  refine qj (fun _=>?_) (fun h=>absurd hi (by have:=of_decide_eq_false h;simp at this;omega));conv=>whnf
  refine zd (T:=tys) qm (by exact qg mixed qm (by decide +kernel)) l.books (fun j (m:Nat)=>⟨[(1,.ptr 1 0),(3,.d (qF N)),(4,.sl 44 1 0 q.length),(5,.d (i64 i)),(6,.d (i64 m)),(7,.d (i64 j))],[(1,.box (.dd l.cells)),(44,.arr 1 (.dd (q.map fun n=>[i64 n])))],st⟩)
   (fun j r2 m=>m+(r2.filter (qkW n)).length=(l.books.filter (qkW n)).length/\m<=j) 0 (Wk.sub (by repeat' first|constructor|(simp only[List.length_map];rfl)|simp[PX.get]) (by repeat' first|constructor|(simp only[List.length_map];rfl)|simp[PX.get])) ⟨by simp,Nat.le_refl _⟩ ?_ ?_
  ·rintro j b r2 m hb hj hr2 ⟨hm,hmj⟩
   have hel:=(hR.book b (List.mem_of_getElem? hb)).ents;have h58:=fun {σ}=>@qxE b n (by omega) σ;have hge:=qmC b n;rw[List.filter_cons]at hm;conv=>whnf
   refine qj (fun _=>?_) (fun h=>absurd hj (by have:=of_decide_eq_false h;simp at this;omega));conv=>whnf
   refine qt hb ?_;conv=>whnf
   refine qt hx ?_;conv=>whnf
   refine qq (ds:=[.agg b.cells,i64 n]) h58 rfl rfl ?_;conv=>whnf
   rw[hge]
   cases hB:qkW n b with
   | true=>
    rw[if_pos hB,List.length_cons]at hm;conv=>whnf
    refine qn ((m+1:Nat):Int) (by omega) (qb (by omega)) ?_;conv=>whnf
    refine qe (qb (by(try dsimp only);omega)) ?_;conv=>whnf
    exact⟨m+1,⟨by omega,by omega⟩,(Wk.sub (by repeat' first|constructor|(simp only[List.length_map];rfl)|simp[PX.get]) (by repeat' first|constructor|(simp only[List.length_map];rfl)|simp[PX.get]))⟩
   | false=>
    rw[if_neg (by rw[hB];decide)]at hm;conv=>whnf
    refine qe (qb (by(try dsimp only);omega)) ?_;conv=>whnf
    exact⟨m,⟨hm,by omega⟩,(Wk.sub (by repeat' first|constructor|(simp only[List.length_map];rfl)|simp[PX.get]) (by repeat' first|constructor|(simp only[List.length_map];rfl)|simp[PX.get]))⟩
  ·rintro m ⟨hm,hmj⟩
   rw[List.filter_nil,List.length_nil,Nat.add_zero]at hm;rw[<- hm]at hq;conv=>whnf
   refine qj (fun h=>absurd h (by simp)) (fun _=>?_);conv=>whnf
   refine qj (fun h=>?_) (fun h=>?_)
   ·have h:1<m:=by have:=of_decide_eq_true h;omega
    rw[if_pos (decide_eq_true h)]at hq;conv=>whnf
    refine qt hx ?_;conv=>whnf
    refine ql rfl ?_;conv=>whnf
    refine ql (by simp[Els.len]) ?_;conv=>whnf
    refine zx (decide_eq_true (by
     show((q.map fun n=>[i64 n]).length+1)*8<=140737488355328;rw[List.length_map];omega)) ?_
    conv=>whnf
    refine qe (qb (by(try dsimp only);omega)) ?_;conv=>whnf
    refine⟨q ++ [n],⟨by rw[<- hq];simp,by simp;omega⟩,Wk.sub ⟨rfl,rfl,?_,rfl,trivial⟩ ⟨rfl,?_,trivial⟩⟩
    ·show some (V.sl 44 1 0 ((q.map fun n=>[i64 n]).length+1))=_
     simp
    ·show some (Obj.arr 1 (.dd ((q.map fun n=>[i64 n]) ++ [[i64 n]])))=_
     simp
   ·have h:¬ 1<m:=by have:=of_decide_eq_false h;omega
    rw[if_neg (by simpa using h)]at hq;conv=>whnf
    refine qe (qb (by(try dsimp only);omega)) ?_;conv=>whnf
    exact⟨q,⟨hq,by omega⟩,(Wk.sub (by repeat' first|constructor|(simp only[List.length_map];rfl)|simp[PX.get]) (by repeat' first|constructor|(simp only[List.length_map];rfl)|simp[PX.get]))⟩
 ·rintro q ⟨hq,hql⟩
  rw[List.filter_nil,List.append_nil]at hq;rw[<- hq];conv=>whnf
  refine qj (fun h=>absurd h (by simp)) (fun _=>?_);conv=>whnf
  exact qc 1 (qy (je (es':=q.map fun n=>[i64 n]) rfl rfl (by simp)) rfl) ⟨⟨rfl,rfl⟩,rfl⟩
theorem qsT(m:Nat)(p:List Int)(a:Int)(r:List Int):qgW (m+1) p (a::r)=qgW m (p ++ [a]) r++qgW (m+1) p r:=by
 rw[qgW,qgW,List.length_cons,List.range_succ_eq_map,List.flatMap_cons,List.flatMap_map];rfl
theorem qcX:∀ (of:List Int) (m:Nat) (p:List Int),(qgW m p of).length<=2^of.length
 | of,0,p=>by
  rw[qgW,List.length_singleton];exact Nat.one_le_two_pow
 | [],m+1,p=>by
  rw[qgu _ _ _ (by simp)];simp
 | a::r,m+1,p=>by
  have h1:=qcX r m (p ++ [a]);have h2:=qcX r (m+1) p;rw[qsT,List.length_append,List.length_cons,Nat.pow_succ];omega
theorem quF{α:Type}(f:Nat->List α){a b:Nat}(h:a<=b):((List.range a).flatMap f).length<=((List.range b).flatMap f).length:=by
 obtain⟨d,rfl⟩:∃ d,b=a+d:=⟨b-a,by omega⟩
 induction d with
 | zero=>exact Nat.le_refl _
 | succ d ih=>
  refine Nat.le_trans (ih (by omega)) ?_;rw[show a+(d+1)=(a+d)+1 by omega,List.range_succ,List.flatMap_append,List.length_append];omega
theorem qxr{T:Tys}{el:TypeId}{ei:TyI}(hT:T.get el=some ei){α:Type}{f:α->List D}(hf:∀ x,Nat.beq (f x).length ei.size=true)(l:List α):qoe T el (l.map f)=true:=by
 unfold qoe;rw[hT]
 cases l with
 | nil=>rfl
 | cons x r=>exact hf x
def qvd(ls:List (List Int)):D:=.vs (ls.map fun r=>[qF r])
set_option maxHeartbeats 4000000 in
theorem qAT(m:Nat):∀ (p of:List Int),p.length+m<=100->of.length<=24->FnV Tryz.prog 90 [qF p,i64 m,qF of] (qvd (qgW m p of)):=by
 induction m with
 | zero=>
  intro p of hp ho;show FnV Tryz.prog 90 [qF p,i64 (0:Nat),qF of] _;refine qJ mixed qm Tryz.func90 rfl (ft:=qyX) 3 (by decide +kernel) (by rfl) fun {σ} Y st=>?_;conv=>whnf
  exact qc 1 (qy (je (es':=[[qF p]]) rfl rfl rfl) rfl) ⟨⟨rfl,rfl⟩,rfl⟩
 | succ m ih=>
  intro p of hp ho;rw[qgW];show FnV Tryz.prog 90 [qF p,i64 (m+1:Nat),qF of] _;refine qJ mixed qm Tryz.func90 rfl (ft:=qyX) 3 (by decide +kernel) (by rfl) fun {σ} Y st=>?_;conv=>whnf
  refine zd (T:=tys) qm (by exact qg mixed qm (by decide +kernel)) of (fun i (q:List (List Int))=>⟨[(0,.d (qF p)),(1,.d (i64 (m+1:Nat))),(2,.d (qF of)),(7,.sl 36 1 0 q.length),(8,.d (i64 i))],[(36,.arr 1 (.dd (q.map fun r=>[qF r])))],st⟩)
   (fun i r q=>q=(List.range i).flatMap fun i=>qgW m (p ++ [(of[i]?).getD 0]) (of.drop (i+1))) [] ((Wk.born 7 36 1 rfl rfl rfl).trans (Wk.sub (by repeat' first|constructor|(simp only[List.length_map];rfl)|simp[PX.get]) ⟨(by first|rfl|(simp only[List.length_map];rfl)|simp[PX.get]),trivial⟩)) rfl ?_ ?_
  ·rintro i n r q hx hi hr hq
   conv=>whnf
   refine qj (fun _=>?_) (fun h=>absurd hi (by have:=of_decide_eq_false h;simp at this;omega));conv=>whnf
   refine ql rfl ?_;conv=>whnf
   refine zx (by show(qcr 1 (p.map fun n=>[i64 n])&&true)=true;rw[qdq (fun x=>⟨rfl,rfl⟩)];rfl) ?_;conv=>whnf
   refine zx (decide_eq_true (by
    show(0+(p.map fun n=>[i64 n]).length)*8<=140737488355328;rw[List.length_map];omega)) ?_
   conv=>whnf
   refine qt hx ?_;conv=>whnf
   refine ql rfl ?_;conv=>whnf
   refine ql (by simp[Els.len]) ?_;conv=>whnf
   refine zx (decide_eq_true (by
    show(([]++p.map fun n=>[i64 n]).length+1)*8<=140737488355328;rw[List.nil_append,List.length_map];omega)) ?_
   conv=>whnf
   refine qn ((m:Nat):Int) (by omega) (qb (by omega)) ?_;conv=>whnf
   refine qn ((i+1:Nat):Int) (by omega) (qb (by omega)) ?_;conv=>whnf
   refine qj (fun _=>?_) (fun h=>absurd h (by simp;omega));conv=>whnf
   refine zx (qxr (T:=tys) (el:=3) rfl (fun _=>rfl) of) ?_;conv=>whnf
   have hsl:List.drop ((i+1:Nat):Int).toNat (List.take (of.map fun n=>[i64 n]).length (of.map fun n=>[i64 n]))=(of.drop (i+1)).map fun n=>[i64 n]:=by rw[Int.toNat_natCast,List.take_length,List.map_drop]
   rw[hsl];refine qns (ds:=[qF (p ++ [n]),i64 m,qF (of.drop (i+1))]) (ih (p ++ [n]) (of.drop (i+1)) (by simp;omega) (by simp;omega)) 1 (qy (je (es':=(p ++ [n]).map fun n=>[i64 n]) rfl (by simp) (by simp[Els.len])) (qy rfl (qy rfl rfl))) rfl ?_;conv=>whnf
   have hq2:q++qgW m (p ++ [n]) (of.drop (i+1))=(List.range (i+1)).flatMap fun i=>qgW m (p ++ [(of[i]?).getD 0]) (of.drop (i+1)):=by
    rw[List.range_succ,List.flatMap_append,<- hq];simp[hx]
   have hcnt:(q++qgW m (p ++ [n]) (of.drop (i+1))).length<=16777216:=by
    rw[hq2];refine Nat.le_trans (quF _ (show i+1<=of.length by omega)) ?_;have h1:=qcX of (m+1) p;rw[qgW]at h1;refine Nat.le_trans h1 ?_;exact Nat.pow_le_pow_right (by omega) ho
   rw[List.length_append]at hcnt;generalize qgW m (p ++ [n]) (of.drop (i+1))=X at hq2 hcnt ⊢;refine ql (by simp[Els.len]) ?_;conv=>whnf
   refine zx (by show(qcr 1 (X.map fun r=>[qF r])&&true)=true;rw[qdq (fun x=>⟨rfl,rfl⟩)];rfl) ?_;conv=>whnf
   refine zx (decide_eq_true (by
    show((q.map fun r=>[qF r]).length+(X.map fun r=>[qF r]).length)*24<=140737488355328;rw[List.length_map,List.length_map];omega)) ?_
   conv=>whnf
   refine qe (qb (by(try dsimp only);omega)) ?_;conv=>whnf
   refine⟨q++X,hq2,Wk.sub ⟨rfl,rfl,rfl,?_,rfl,trivial⟩ ⟨?_,trivial⟩⟩
   ·show some (V.sl 36 1 0 ((q.map fun r=>[qF r]).length+(X.map fun r=>[qF r]).length))=_
    simp
   ·show some (Obj.arr 1 (.dd ((q.map fun r=>[qF r])++X.map fun r=>[qF r])))=_
    simp
  ·rintro q hq
   have hql:q.length<=16777216:=by
    rw[hq];have h1:=qcX of (m+1) p;rw[qgW]at h1;refine Nat.le_trans h1 ?_;exact Nat.pow_le_pow_right (by omega) ho
   rw[<- hq];conv=>whnf
   refine qj (fun h=>absurd h (by simp)) (fun _=>?_);conv=>whnf
   exact qc 1 (qy (je (es':=q.map fun r=>[qF r]) rfl rfl (by simp)) rfl) ⟨⟨rfl,rfl⟩,rfl⟩
theorem qqw{P:Program}{σ:Type}{Y:Hd σ}{st:St σ}{d:Option Nat}{f:FuncId}{r:List V}{K:St σ->Prop}(hc:CallA P Y st d f (.d (.vs [])::r) K):CallA P Y st d f (.d .nils::r) K:=by
 refine qma (fun yv L F w l h=>?_) hc;obtain⟨x,l',rfl,hx,hl⟩:=h;exact⟨_,l',rfl,RepD.relax .nils x hx,hl⟩
theorem qqx{l:PLog}(hc:qE l=0):(jk l).length<=24:=by
 rw[<- qmM hc];have h1:=qeY l;have h2:=qkU hc;refine Nat.le_trans (List.length_filter_le _ _) ?_;omega
set_option maxHeartbeats 4000000 in
theorem qAU(l:PLog):FnV Tryz.prog 35 [l.d] (.tup [qF (qeb l).1,i64 (qeb l).2]):=by
 have h18:=fun {σ}=>@qwd l σ;unfold qeb;rcases Classical.em (qE l=0) with hc|hc
 ·rw[hc]at h18
  rw[if_pos hc];have h89:=fun {σ}=>@qAS l hc σ;have hfew:=qqx hc;unfold qir;generalize jk l=S at h89 hfew;have h90:=fun {σ} (m:Nat) hm=>@qAT m [] S (by simp;omega) hfew σ;have hrl:∀ m,qgW m [] S=jR S m [] 0:=fun m=>qsQ m [] 0 (Nat.zero_le _);have hll:=fun {m:Nat} {q:List Int}=>@qiD S m q;have h71:=fun {σ} (c:List Int) hcl=>@qzs l hc 0 (by omega) c hcl σ;generalize hf:(fun(n:Nat)=>jR S n [] 0)=f;show FnV Tryz.prog 35 [l.d] _;refine qJ mixed qm Tryz.func35 rfl (ft:=qyS) 1 (by decide +kernel) (by rfl) fun {σ} Y st=>?_;conv=>whnf
  refine qk (ds:=[l.d]) h18 rfl rfl ?_;conv=>whnf
  refine qk (ds:=[l.d]) h89 rfl rfl ?_;conv=>whnf
  refine zI (T:=tys) qm (by exact qg mixed qm (by decide +kernel)) (α:=Nat) (fun m=>⟨[(1,.ptr 1 0),(7,.d (qF S)),(8,.d (i64 m))],[(1,.box (.dd l.cells))],st⟩) (fun m=>m<=S.length+1/\((List.range' 0 (S.length+1)).flatMap f).find? (jW l 0)=((List.range' m (S.length+1-m)).flatMap f).find? (jW l 0)) (fun m=>S.length+1-m) 0 (Wk.sub (by repeat' first|constructor|(simp only[List.length_map];rfl)|simp[PX.get]) ⟨(by first|rfl|(simp only[List.length_map];rfl)|simp[PX.get]),trivial⟩) ⟨Nat.zero_le _,rfl⟩ ?_;rintro m ⟨hm,hfd⟩;conv=>whnf
  refine qj (fun h=>?_) (fun h=>?_)
  ·have hmS:m<=S.length:=by have:=of_decide_eq_true h;simp at this;omega
   have h90m:=fun {σ}=>@h90 σ m (by omega);rw[hrl]at h90m;have hlm:=fun q=>@hll m q;have hfm:f m=jR S m [] 0:=by rw[<- hf]
   have hLl:(f m).length<=16777216:=by
    rw[hfm,<- hrl];refine Nat.le_trans (qcX _ _ _) ?_;exact Nat.pow_le_pow_right (by omega) hfew
   rw[<- hfm]at h90m hlm;have hsp:List.range' m (S.length+1-m)=m::List.range' (m+1) (S.length+1-(m+1)):=by
    rw[show S.length+1-m=(S.length+1-(m+1))+1 by omega,List.range'_succ]
   rw[hsp,List.flatMap_cons,List.find?_append]at hfd;generalize f m=L at h90m hlm hfd hLl;conv=>whnf
   refine qqw ?_;refine qk (ds:=[qF [],i64 m,qF S]) h90m rfl rfl ?_;conv=>whnf
   refine zd (T:=tys) qm (by exact qg mixed qm (by decide +kernel)) L (fun i (_:Unit)=>⟨[(1,.ptr 1 0),(7,.d (qF S)),(8,.d (i64 m)),(9,.d (qvd L)),(10,.d (i64 i))],[(1,.box (.dd l.cells))],st⟩) (fun i r _=>L.find? (jW l 0)=r.find? (jW l 0)) () (Wk.sub (by repeat' first|constructor|(simp only[List.length_map];rfl)|simp[PX.get]) ⟨(by first|rfl|(simp only[List.length_map];rfl)|simp[PX.get]),trivial⟩) rfl ?_ ?_
   ·rintro i c r _ hx hi hr hfc
    have hcl:=hlm c (List.mem_of_getElem? hx);have h71c:=fun {σ}=>@h71 σ c (by omega);rw[List.find?_cons]at hfc;conv=>whnf
    refine qj (fun _=>?_) (fun h=>absurd hi (by have:=of_decide_eq_false h;simp at this;omega));conv=>whnf
    refine qt hx ?_;conv=>whnf
    refine qq (ds:=[l.d,i64 0,qF c]) h71c rfl rfl ?_
    cases hfit:jW l 0 c with
    | true=>
     rw[hfit]at hfc;simp only at hfc;rw[hfc,Option.some_or]at hfd;rw[hfd];conv=>whnf
     refine qt hx ?_;conv=>whnf
     exact qc 0 rfl ⟨⟨rfl,rfl⟩,rfl⟩
    | false=>
     rw[hfit]at hfc;simp only at hfc;conv=>whnf
     refine qe (qb (by(try dsimp only);omega)) ?_;conv=>whnf
     exact⟨(),hfc,(Wk.sub (by repeat' first|constructor|(simp only[List.length_map];rfl)|simp[PX.get]) ⟨(by first|rfl|(simp only[List.length_map];rfl)|simp[PX.get]),trivial⟩)⟩
   ·rintro _ hfc
    rw[List.find?_nil]at hfc;rw[hfc,Option.none_or]at hfd;conv=>whnf
    refine qj (fun h=>absurd h (by simp)) (fun _=>?_);conv=>whnf
    refine qe (qb (by(try dsimp only);omega)) ?_;conv=>whnf
    exact⟨m+1,by omega,⟨by omega,hfd⟩,(Wk.sub (by repeat' first|constructor|(simp only[List.length_map];rfl)|simp[PX.get]) ⟨(by first|rfl|(simp only[List.length_map];rfl)|simp[PX.get]),trivial⟩)⟩
  ·have hmS:m=S.length+1:=by have:=of_decide_eq_false h;simp at this;omega
   subst hmS;rw[Nat.sub_self]at hfd;rw[hfd];conv=>whnf
   refine jG ?_;exact qc 0 rfl ⟨⟨rfl,rfl⟩,rfl⟩
 ·rw[if_neg hc]
  generalize qE l=N at hc h18;show FnV Tryz.prog 35 [l.d] _;refine qJ mixed qm Tryz.func35 rfl (ft:=qyS) 1 (by decide +kernel) (by rfl) fun {σ} Y st=>?_;conv=>whnf
  refine qk (ds:=[l.d]) h18 rfl rfl ?_;conv=>whnf
  refine qj (fun _=>?_) (fun h=>absurd h (by simp[hc]));conv=>whnf
  refine jG ?_;exact qc 0 rfl ⟨⟨rfl,rfl⟩,rfl⟩
theorem qwg{l:PLog}(hc:qE l=0){y:PEnt}(hy:y∈qcN l):y.word ≠ .empty:=by
 obtain⟨i,k,b,hA,h3⟩:=qnZ hy;have h1:=((qcR hc (List.mem_of_getElem? hA.book)).2.2.2 y (List.mem_of_getElem? hA.ent)).rep h3;intro h;rw[h]at h1;exact absurd h1.1 (by decide)
structure RpW(l:PLog)(n:Int)(P:Nat->Nat->Prop)(word:ByteArray):Prop where
 all:∀ (i k:Nat) b y,At l i k b y->P i k->y.kind=3->y.number=n->y.word=word
 some':word = .empty \/ ∃ y∈qcN l,y.number=n/\y.word=word
def nB(n:Int)(y:PEnt):Bool:=decide (y.kind=3/\y.number=n)
set_option maxHeartbeats 8000000 in
theorem qAV(l:PLog):FnV Tryz.prog 38 [l.d] (.tup [qF (qpV l).1,qF (qpV l).2.1,i64 (qpV l).2.2]):=by
 have h18:=fun {σ}=>@qwd l σ;unfold qpV;rcases Classical.em (qE l=0) with hc|hc
 ·rw[hc]at h18
  rw[if_pos hc];have hR:=zK hc;have hlen:=hR.books;have h55:=fun {σ}=>@qzq l hR σ;have hNl:(zB l).length<=24:=Nat.le_trans (qeY l) (qkU hc);have hno:=fun h=>@quC l hc h;have hcp:=quD hc;have hlast:=quk hc;have hmr:=fun {r:List Int}=>@quE l hc r;have hms:=qoa l;have hml:=qqv l;have hl1:=qgo hc;have hnil:zB l = []->qbp l=0->qnC l = []:=fun _ h=>by
   unfold qnC;rw[h];rfl
  rw[<- hcp];generalize hN:zB l=N at h55 hNl hno hlast hms hnil;show FnV Tryz.prog 38 [l.d] _;refine qJ mixed qm Tryz.func38 rfl (ft:=qyT) 1 (by decide +kernel) (by rfl) fun {σ} Y st=>?_;conv=>whnf
  refine qk (ds:=[l.d]) h18 rfl rfl ?_;conv=>whnf
  refine qk (ds:=[l.d]) h55 rfl rfl ?_;conv=>whnf
  refine zd (T:=tys) qm (by exact qg mixed qm (by decide +kernel)) N (fun i (q:List Int)=>⟨[(1,.ptr 1 0),(8,.d (qF N)),(9,.d .nils),(10,.sl 99 1 0 q.length),(11,.d (i64 i))],[(1,.box (.dd l.cells)),(99,.arr 1 (.dd (q.map fun n=>[i64 n])))],st⟩)
   (fun i r q=>q++r.filter (qxq l)=N.filter (qxq l)/\q.length<=i /\ ∀ n∈N,n∈r\/Cons l n) [] ((Wk.born 10 99 1 rfl rfl rfl).trans (Wk.sub (by repeat' first|constructor|(simp only[List.length_map];rfl)|simp[PX.get]) (by repeat' first|constructor|(simp only[List.length_map];rfl)|simp[PX.get]))) ⟨rfl,Nat.le_refl _,fun n hn=>.inl hn⟩ ?_ ?_
  ·rintro i n r q hx hi hr ⟨hq,hql,hcs⟩
   rw[List.filter_cons]at hq;conv=>whnf
   refine qj (fun _=>?_) (fun h=>absurd hi (by have:=of_decide_eq_false h;simp at this;omega));conv=>whnf
   refine zd (T:=tys) qm (by exact qg mixed qm (by decide +kernel)) l.books (fun j (a:ByteArray×Bool)=>⟨[(1,.ptr 1 0),(8,.d (qF N)),(9,.d .nils),(10,.sl 99 1 0 q.length),(11,.d (i64 i)),(12,.d (.str a.1)),(13,.d (.bool a.2)),(14,.d (i64 j))],[(1,.box (.dd l.cells)),(99,.arr 1 (.dd (q.map fun n=>[i64 n])))],st⟩)
    (fun j _ a=>RpW l n (fun i' _=>i'<j) a.1/\a.2=(l.books.take j).any fun b=>decide (1<qfV b n)) (.empty,false) (Wk.sub (by repeat' first|constructor|(simp only[List.length_map];rfl)|simp[PX.get]) (by repeat' first|constructor|(simp only[List.length_map];rfl)|simp[PX.get])) ⟨⟨fun i k b y _ h=>absurd h (by omega),.inl rfl⟩,rfl⟩ ?_ ?_
   ·rintro j b r2 ⟨w0,sev⟩ hb hj hr2 ⟨hw0,hsev⟩
    simp only at hw0 hsev;have hbR:=hR.book b (List.mem_of_getElem? hb);have hel:=hbR.ents;conv=>whnf
    refine qj (fun _=>?_) (fun h=>absurd hj (by have:=of_decide_eq_false h;simp at this;omega));conv=>whnf
    refine zd (T:=tys) qm (by exact qg mixed qm (by decide +kernel)) b.ents (fun k (a:ByteArray×Nat)=>⟨[(1,.ptr 1 0),(8,.d (qF N)),(9,.d .nils),(10,.sl 99 1 0 q.length),(11,.d (i64 i)),(12,.d (.str a.1)),(13,.d (.bool sev)),(14,.d (i64 j)),(15,.d (i64 a.2)),(16,.d (i64 k))],[(1,.box (.dd l.cells)),(99,.arr 1 (.dd (q.map fun n=>[i64 n])))],st⟩)
     (fun k r3 a=>RpW l n (fun i' k'=>i'<j\/i'=j/\k'<k) a.1/\a.2+(r3.filter (nB n)).length=qfV b n/\a.2<=k) (w0,0) (Wk.sub (by repeat' first|constructor|(simp only[List.length_map];rfl)|simp[PX.get]) (by repeat' first|constructor|(simp only[List.length_map];rfl)|simp[PX.get])) ⟨⟨fun i' k' b' y h1 h2=>hw0.all i' k' b' y h1 (by omega),hw0.some'⟩,by simp only;rw[Nat.zero_add];rfl,Nat.le_refl _⟩ ?_ ?_
    ·rintro k z r3 ⟨w1,m⟩ hz hk hr3 ⟨hw1,hm,hmk⟩
     simp only at hw1 hm hmk;have hA:At l j k b z:=⟨hb,hz⟩;rw[List.filter_cons]at hm;have keep:¬ (z.kind=3/\z.number=n)->RpW l n (fun i' k'=>i'<j\/i'=j/\k'<k+1) w1/\m+(r3.filter (nB n)).length=qfV b n/\m<=k+1:=fun h0=>by
      rw[if_neg (by unfold nB;simpa using h0)]at hm;refine⟨⟨fun i' k' b' y' h1 h2 h3 h4=>?_,hw1.some'⟩,hm,by omega⟩;by_cases he:i'=j/\k'=k
      ·obtain⟨rfl,rfl⟩:=he
       have e1:=h1.book;rw[hb]at e1;cases e1;have e2:=h1.ent;rw[hz]at e2;cases e2;exact absurd ⟨h3,h4⟩ h0
      ·exact hw1.all i' k' b' y' h1 (by omega) h3 h4
     conv=>whnf
     refine qt hb ?_;conv=>whnf
     refine qj (fun _=>?_) (fun h=>absurd hk (by have:=of_decide_eq_false h;simp at this;omega));conv=>whnf
     refine qt hb ?_;conv=>whnf
     refine qt hz ?_;conv=>whnf
     refine qj (fun a1=>?_) (fun a1=>?_)
     ·have a1:¬ z.kind=3:=by simpa using a1
      conv=>whnf
      refine qe (qb (by(try dsimp only);omega)) ?_;conv=>whnf
      exact⟨(w1,m),keep fun h=>a1 h.1,(Wk.sub (by repeat' first|constructor|(simp only[List.length_map];rfl)|simp[PX.get]) (by repeat' first|constructor|(simp only[List.length_map];rfl)|simp[PX.get]))⟩
     ·have a1:z.kind=3:=by simpa using a1
      conv=>whnf
      refine qt hx ?_;conv=>whnf
      refine qj (fun a2=>?_) (fun a2=>?_)
      ·have a2:¬ z.number=n:=by simpa using a2
       conv=>whnf
       refine qe (qb (by(try dsimp only);omega)) ?_;conv=>whnf
       exact⟨(w1,m),keep fun h=>a2 h.2,(Wk.sub (by repeat' first|constructor|(simp only[List.length_map];rfl)|simp[PX.get]) (by repeat' first|constructor|(simp only[List.length_map];rfl)|simp[PX.get]))⟩
      ·have a2:z.number=n:=by simpa using a2
       have hzr:=qsS hA a1;have next:(w1 = .empty\/w1=z.word)->RpW l n (fun i' k'=>i'<j\/i'=j/\k'<k+1) z.word/\m+1+(r3.filter (nB n)).length=qfV b n/\m+1<=k+1:=fun h0=>by
        rw[if_pos (by unfold nB;simpa using ⟨a1,a2⟩),List.length_cons]at hm;refine⟨⟨fun i' k' b' y' h1 h2 h3 h4=>?_,.inr ⟨z,hzr,a2,rfl⟩⟩,by omega,by omega⟩;by_cases he:i'=j/\k'=k
        ·obtain⟨rfl,rfl⟩:=he
         have e1:=h1.book;rw[hb]at e1;cases e1;have e2:=h1.ent;rw[hz]at e2;cases e2;rfl
        ·have h5:=hw1.all i' k' b' y' h1 (by omega) h3 h4
         rcases h0 with h0|h0
         ·rw[h0]at h5
          exact absurd h5 (qwg hc (qsS h1 h3))
         ·rw[h5,h0]
       conv=>whnf
       refine qj (fun a3=>?_) (fun a3=>?_)
       ·conv=>whnf
        refine qj (fun a4=>?_) (fun a4=>?_)
        ·have a3:w1 ≠ .empty:=fun h=>by
          subst h;have:(ByteArray.empty:ByteArray)=⟨#[]⟩:=rfl;simp[this]at a3
         have a4:w1≠z.word:=by simpa using a4
         have htw:qbo [] (qcN l)=true:=by
          rcases hw1.some' with h|⟨y,h1,h2,h3⟩
          ·exact absurd h a3
          ·exact qsR h1 hzr (by rw[h2,a2]) (by rw[h3];exact a4)
         rw[if_pos htw];conv=>whnf
         refine qcU 0 rfl (d:=.tup [qF [],qF [],i64 5]) rfl ⟨⟨rfl,rfl⟩,rfl⟩
        ·have a4:w1=z.word:=by simpa using a4
         conv=>whnf
         refine qn ((m+1:Nat):Int) (by omega) (qb (by omega)) ?_;conv=>whnf
         refine qe (qb (by(try dsimp only);omega)) ?_;conv=>whnf
         exact⟨(z.word,m+1),next (.inr a4),(Wk.sub (by repeat' first|constructor|(simp only[List.length_map];rfl)|simp[PX.get]) (by repeat' first|constructor|(simp only[List.length_map];rfl)|simp[PX.get]))⟩
       ·have a3:w1 = .empty:=by
         have:w1=⟨#[]⟩:=by simpa using a3
         exact this
        conv=>whnf
        refine qn ((m+1:Nat):Int) (by omega) (qb (by omega)) ?_;conv=>whnf
        refine qe (qb (by(try dsimp only);omega)) ?_;conv=>whnf
        exact⟨(z.word,m+1),next (.inl a3),(Wk.sub (by repeat' first|constructor|(simp only[List.length_map];rfl)|simp[PX.get]) (by repeat' first|constructor|(simp only[List.length_map];rfl)|simp[PX.get]))⟩
    ·rintro ⟨w1,m⟩ ⟨hw1,hm,hmk⟩
     simp only at hw1 hm hmk;rw[List.filter_nil,List.length_nil,Nat.add_zero]at hm;have htk:(l.books.take (j+1)).any (fun b=>decide (1<qfV b n))=(sev||decide (1<m)):=by
      rw[List.take_succ,hb,List.any_append,<- hsev,hm];simp
     have hw2:RpW l n (fun i' _=>i'<j+1) w1:=⟨fun i' k' b' y h1 h2=>hw1.all i' k' b' y h1 (by
      by_cases he:i'=j
      ·subst he
       have e1:=h1.book;rw[hb]at e1;cases e1;exact .inr ⟨rfl,(List.getElem?_eq_some_iff.1 h1.ent).1⟩
      ·omega),hw1.some'⟩
     conv=>whnf
     refine qt hb ?_;conv=>whnf
     refine qj (fun h=>absurd h (by simp)) (fun _=>?_)
     cases sev with
     | true=>
      conv=>whnf
      refine qe (qb (by(try dsimp only);omega)) ?_;conv=>whnf
      exact⟨(w1,true),⟨hw2,by rw[htk];rfl⟩,(Wk.sub (by repeat' first|constructor|(simp only[List.length_map];rfl)|simp[PX.get]) (by repeat' first|constructor|(simp only[List.length_map];rfl)|simp[PX.get]))⟩
     | false=>
      rw[Bool.false_or]at htk;conv=>whnf
      refine qe (qb (by(try dsimp only);omega)) ?_;conv=>whnf
      refine⟨(w1,decide (1<m)),⟨hw2,htk.symm⟩,Wk.sub ⟨rfl,rfl,rfl,rfl,rfl,rfl,?_,rfl,trivial⟩ ⟨rfl,rfl,trivial⟩⟩;show some (V.d (.bool (decide ((1:Int)<(m:Nat)))))=_
      congr 3
      simp;omega
   ·rintro ⟨w1,sev⟩ ⟨hw1,hsev⟩
    simp only at hw1 hsev;rw[List.take_length]at hsev;have hsv:qxq l n=sev:=hsev.symm;have hcn:Cons l n:=fun x hx y hy e1 e2=>by
     obtain⟨i1,k1,b1,h1,h2⟩:=qnZ hx;obtain⟨i2,k2,b2,h3,h4⟩:=qnZ hy;rw[hw1.all i1 k1 b1 x h1 (List.getElem?_eq_some_iff.1 h1.book).1 h2 e1,hw1.all i2 k2 b2 y h3 (List.getElem?_eq_some_iff.1 h3.book).1 h4 e2]
    have hcs2:∀ n'∈N,n'∈r\/Cons l n':=fun n' hn'=>by
     rcases hcs n' hn' with h|h
     ·rcases List.mem_cons.1 h with rfl|h
      ·exact .inr hcn
      ·exact .inl h
     ·exact .inr h
    rw[hsv]at hq;conv=>whnf
    refine qj (fun h=>absurd h (by simp)) (fun _=>?_)
    cases sev with
    | true=>
     rw[if_pos rfl]at hq;conv=>whnf
     refine qt hx ?_;conv=>whnf
     refine ql rfl ?_;conv=>whnf
     refine ql (by simp[Els.len]) ?_;conv=>whnf
     refine zx (decide_eq_true (by
      show((q.map fun n=>[i64 n]).length+1)*8<=140737488355328;rw[List.length_map];omega)) ?_
     conv=>whnf
     refine qe (qb (by(try dsimp only);omega)) ?_;conv=>whnf
     refine⟨q ++ [n],⟨by rw[<- hq];simp,by simp;omega,hcs2⟩,Wk.sub ⟨rfl,rfl,rfl,?_,rfl,trivial⟩ ⟨rfl,?_,trivial⟩⟩
     ·show some (V.sl 99 1 0 ((q.map fun n=>[i64 n]).length+1))=_
      simp
     ·show some (Obj.arr 1 (.dd ((q.map fun n=>[i64 n]) ++ [[i64 n]])))=_
      simp
    | false=>
     rw[if_neg (by decide)]at hq;conv=>whnf
     refine qe (qb (by(try dsimp only);omega)) ?_;conv=>whnf
     exact⟨q,⟨hq,by omega,hcs2⟩,(Wk.sub (by repeat' first|constructor|(simp only[List.length_map];rfl)|simp[PX.get]) (by repeat' first|constructor|(simp only[List.length_map];rfl)|simp[PX.get]))⟩
  ·rintro q ⟨hq,hql,hcs⟩
   rw[List.filter_nil,List.append_nil]at hq;have htw:=hno fun n hn=>by
    rcases hcs n hn with h|h
    ·cases h
    ·exact h
   rw[if_neg (by rw[htw];decide)];simp only;rw[<- hq];conv=>whnf
   refine qj (fun h=>absurd h (by simp)) (fun _=>?_);conv=>whnf
   rcases hlast with⟨h1,h2⟩|⟨r,h1⟩
   ·rw[hnil h1 h2]
    subst h1;have hq0:q = []:=by rw[hq];rfl
    subst hq0;refine zd (T:=tys) qm (by exact qg mixed qm (by decide +kernel)) ([]:List Int) (fun(_:Nat) (_:Unit)=>⟨[(1,.ptr 1 0),(8,.d (qF [])),(9,.d .nils),(10,.sl 99 1 0 0),(18,.d (i64 1))],[(1,.box (.dd l.cells)),(99,.arr 1 (.dd []))],st⟩) (fun _ _ _=>True) () (Wk.sub (by repeat' first|constructor|(simp only[List.length_map];rfl)|simp[PX.get]) (by repeat' first|constructor|(simp only[List.length_map];rfl)|simp[PX.get])) trivial ?_ ?_
    ·rintro i n r _ hx
     simp at hx
    ·rintro _ _
     conv=>whnf
     exact qcU 1 (qy rfl (qy (je (es':=[]) rfl rfl (by simp)) rfl)) (d:=.tup [qF [],qF [],i64 0]) rfl ⟨⟨rfl,rfl⟩,rfl⟩
   ·rw[<- hmr (hN.trans h1)]
    have hNg:N[N.length-1]?=some (qbp l):=by rw[h1];simp
    have hNp:0<N.length:=by rw[h1];simp
    refine zd (T:=tys) qm (by exact qg mixed qm (by decide +kernel)) (List.range ((qbp l).toNat-1)) (fun i (o:List Int)=>⟨[(1,.ptr 1 0),(8,.d (qF N)),(9,.sl 122 1 0 o.length),(10,.sl 99 1 0 q.length),(18,.d (i64 ((i+1:Nat):Int)))],[(1,.box (.dd l.cells)),(99,.arr 1 (.dd (q.map fun n=>[i64 n]))),(122,.arr 1 (.dd (o.map fun n=>[i64 n])))],st⟩) (fun i _ o=>o=qgQ l i) [] ((Wk.born 9 122 1 rfl rfl rfl).trans (Wk.sub (by repeat' first|constructor|(simp only[List.length_map];rfl)|simp[PX.get]) (by repeat' first|constructor|(simp only[List.length_map];rfl)|simp[PX.get]))) (by rfl) ?_ ?_
    ·rintro i x r' o hx hi hr ho
     have hol:=hml i;rw[<- ho]at hol;rw[List.length_range]at hi;have h57:=fun {σ}=>@qzp (σ:=σ) N ((i+1:Nat):Int) (by omega);have hnx:=hms i;rw[<- ho]at hnx;conv=>whnf
     refine qj (fun _=>?_) (fun h=>absurd hNp (by have:=of_decide_eq_false h;rw[List.length_map]at this;omega));conv=>whnf
     refine qn ((N.length-1:Nat):Int) (by rw[List.length_map];omega) (qb (by omega)) ?_;conv=>whnf
     refine qt hNg ?_;conv=>whnf
     refine qj (fun _=>?_) (fun h=>absurd hi (by have:=of_decide_eq_false h;omega));conv=>whnf
     refine qk (ds:=[qF N,i64 ((i+1:Nat):Int)]) h57 rfl rfl ?_;conv=>whnf
     refine qj (fun a1=>?_) (fun a1=>?_)
     ·have a1:¬ ((i+1:Nat):Int)∈N:=by simpa using a1
      rw[if_neg (by simpa using a1)]at hnx;conv=>whnf
      refine ql rfl ?_;conv=>whnf
      refine ql (by simp[Els.len]) ?_;conv=>whnf
      refine zx (decide_eq_true (by
       show((o.map fun n=>[i64 n]).length+1)*8<=140737488355328;rw[List.length_map];omega)) ?_
      conv=>whnf
      refine qe (qb (by(try dsimp only);omega)) ?_;conv=>whnf
      refine⟨o ++ [((i+1:Nat):Int)],by rw[hnx];simp,Wk.sub ⟨rfl,rfl,?_,rfl,rfl,trivial⟩ ⟨rfl,rfl,?_,trivial⟩⟩
      ·show some (V.sl 122 1 0 ((o.map fun n=>[i64 n]).length+1))=_
       simp
      ·show some (Obj.arr 1 (.dd ((o.map fun n=>[i64 n]) ++ [[i64 _]])))=_
       simp
     ·have a1:((i+1:Nat):Int)∈N:=by simpa using a1
      rw[if_pos (by simpa using a1),List.append_nil]at hnx;refine qe (qb (by(try dsimp only);omega)) ?_;conv=>whnf
      exact⟨o,hnx.symm,(Wk.sub (by repeat' first|constructor|(simp only[List.length_map];rfl)|simp[PX.get]) (by repeat' first|constructor|(simp only[List.length_map];rfl)|simp[PX.get]))⟩
    ·rintro o ho
     rw[List.length_range]at ho ⊢;conv=>whnf
     refine qj (fun _=>?_) (fun h=>absurd hNp (by have:=of_decide_eq_false h;rw[List.length_map]at this;omega));conv=>whnf
     refine qn ((N.length-1:Nat):Int) (by rw[List.length_map];omega) (qb (by omega)) ?_;conv=>whnf
     refine qt hNg ?_;conv=>whnf
     refine qj (fun h=>absurd (of_decide_eq_true h) (by omega)) (fun _=>?_);conv=>whnf
     rw[<- ho];exact qc 1 (qy (je (es':=o.map fun x=>[i64 x]) rfl rfl (by simp)) (qy (je (es':=q.map fun x=>[i64 x]) rfl rfl (by simp)) rfl)) ⟨⟨rfl,rfl⟩,rfl⟩
 ·rw[if_neg hc]
  generalize qE l=N at hc h18;show FnV Tryz.prog 38 [l.d] _;refine qJ mixed qm Tryz.func38 rfl (ft:=qyT) 1 (by decide +kernel) (by rfl) fun {σ} Y st=>?_;conv=>whnf
  refine qk (ds:=[l.d]) h18 rfl rfl ?_;conv=>whnf
  refine qj (fun _=>?_) (fun h=>absurd h (by simp[hc]));conv=>whnf
  exact qcU 0 rfl rfl ⟨⟨rfl,rfl⟩,rfl⟩
theorem quG(l:PLog):(qeb l).1.length<=100:=by
 rcases Classical.em (qE l=0) with hc|hc
 ·rcases qvU hc with⟨_,h2,_,_,h5⟩|⟨h1,_⟩
  ·have h6:=h5 _ (qiE (zK hc) h2)
   refine Nat.le_trans h6 (Nat.le_trans (List.length_filter_le _ _) ?_);unfold jk;refine Nat.le_trans (List.length_filter_le _ _) ?_;simp
  ·rw[h1];simp
 ·unfold qeb
  rw[if_neg hc];simp
theorem qwh(l:PLog):(qpV l).1.length<=99/\(qpV l).2.1.length<=99:=by
 unfold qpV;split
 ·rename_i hc
  have hl:=qgo hc;split
  ·simp
  ·refine⟨Nat.le_trans (List.length_filter_le _ _) ?_,Nat.le_trans (List.length_filter_le _ _) ?_⟩<;>(rw[List.length_map,List.length_range'];omega)
 ·simp
set_option maxHeartbeats 4000000 in
theorem pa5(l:PLog):FnV Tryz.prog 5 [l.d] (.bool true):=by
 have h32:=fun {σ}=>@qyI l σ;have h33:=fun {σ}=>@qAR l σ;have h34:=fun {σ}=>@qzm l σ;have h35:=fun {σ}=>@qAU l σ;have h37:=fun {σ}=>@qzl l σ;have h38:=fun {σ}=>@qAV l σ;have hcl:=quG l;obtain⟨hr1,hr2⟩:=qwh l;generalize qca l=A at h32 h33;generalize qeb l=C at h34 h35 hcl;generalize qpV l=R at h37 h38 hr1 hr2;obtain⟨A1,A2⟩:=A;obtain⟨C1,C2⟩:=C;obtain⟨R1,R2,R3⟩:=R;simp only at hcl hr1 hr2;have c36:FnV Tryz.prog 36 [qF C1,qF C1] (.bool true):=FnV.cast (qxv C1 C1 (by omega)) (by simp);have r36:FnV Tryz.prog 36 [qF R1,qF R1] (.bool true):=FnV.cast (qxv R1 R1 (by omega)) (by simp);have s36:FnV Tryz.prog 36 [qF R2,qF R2] (.bool true):=FnV.cast (qxv R2 R2 (by omega)) (by simp);show FnV Tryz.prog 5 [l.d] _;refine qJ mixed qm Tryz.func5 rfl (ft:=ft5) 1 (by decide +kernel) (by rfl) fun {σ} Y st=>?_;conv=>whnf
 refine qk (ds:=[l.d]) h32 rfl rfl ?_;conv=>whnf
 refine qk (ds:=[l.d]) h33 rfl rfl ?_;conv=>whnf
 refine qj (fun h=>absurd h (by simp)) (fun _=>?_);conv=>whnf
 refine qj (fun h=>absurd h (by simp)) (fun _=>?_);conv=>whnf
 refine qk (ds:=[l.d]) h34 rfl rfl ?_;conv=>whnf
 refine qk (ds:=[l.d]) h35 rfl rfl ?_;conv=>whnf
 refine qk (ds:=[qF C1,qF C1]) c36 rfl rfl ?_;conv=>whnf
 refine qj (fun h=>absurd h (by simp)) (fun _=>?_);conv=>whnf
 refine qk (ds:=[l.d]) h37 rfl rfl ?_;conv=>whnf
 refine qk (ds:=[l.d]) h38 rfl rfl ?_;conv=>whnf
 refine qk (ds:=[qF R1,qF R1]) r36 rfl rfl ?_;conv=>whnf
 refine qk (ds:=[qF R2,qF R2]) s36 rfl rfl ?_;conv=>whnf
 refine qj (fun _=>?_) (fun h=>absurd h (by simp));conv=>whnf
 refine qk (qAN) rfl rfl ?_;conv=>whnf
 exact qc 0 rfl ⟨⟨rfl,rfl⟩,rfl⟩
end Go.PX
