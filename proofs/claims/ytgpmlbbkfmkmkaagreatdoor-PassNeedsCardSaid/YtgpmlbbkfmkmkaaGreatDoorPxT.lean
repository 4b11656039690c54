import Derived.Test.YtgpmlbbkfmkmkaaGreatDoorPxS
set_option linter.all false
set_option maxRecDepth 10000
namespace Go.PX
open Go.Proofs
open Go.RowKit
def qnS(n i:Nat):Rws:=(List.range i).map (qun n)++List.replicate (n-i) []
theorem quv{n i:Nat}(h:i<=n):(qnS n i).length=n:=by unfold qnS;simp;omega
theorem quw{n i:Nat}(h:i<n):(qnS n i)[i]?=some []:=by
 unfold qnS;rw[List.getElem?_append_right (by simp),List.getElem?_replicate,if_pos (by simp;omega)]
theorem qsK{n i:Nat}(h:i<n):(qnS n i).set i (qun n i)=qnS n (i+1):=by
 unfold qnS;rw[List.set_append_right _ _ (by simp),List.range_succ,List.map_append,List.append_assoc]
 congr 1
 rw[show n-i=(n-(i+1))+1 by omega,List.replicate_succ];simp
theorem qle{B sz K n K' n':Nat}:∀ (rows:List Rw) (i s:Nat),qO B sz s (rows.set i (.foc K n))=qO B sz s (rows.set i (.foc K' n'))
 | [],i,s=>by simp
 | r::rows,0,s=>rfl
 | .at' l::rows,i+1,s=>by
  rw[List.set_cons_succ,List.set_cons_succ,qO,qO,qle rows i (s+1)]
 | .foc J m::rows,i+1,s=>by
  rw[List.set_cons_succ,List.set_cons_succ,qO,qO,qle rows i (s+1)]
theorem qlf{B sz K j m i:Nat}{R0:List Rw}(hK:K<B)(hno:∀ J m,Rw.foc J m∈R0->J≠K)(hi:i<R0.length):(qr (qz K) (hdrs B sz 0 (R0.set i (.foc K j)))).set i [V.sl K sz 0 m]=hdrs B sz 0 (R0.set i (.foc K m)):=by
 refine List.ext_getElem? fun q=>?_;rw[qeZ,List.getElem?_set,List.getElem?_set];have hl:(qr (qz K) (hdrs B sz 0 (R0.set i (.foc K j)))).length=R0.length:=by
  have:∀ (f:V->V) (l:List (List V)),(qr f l).length=l.length:=fun f l=>by
   induction l with
   | nil=>rfl
   | cons a r ih=>rw[qr,List.length_cons,List.length_cons,ih]
  rw[this,qlc,List.length_set]
 rw[hl];by_cases hq:i=q
 ·subst hq
  rw[if_pos rfl,if_pos hi,if_pos rfl,if_pos hi];rfl
 ·rw[if_neg hq,if_neg hq,qcg,qeZ,List.getElem?_set,if_neg hq]
  cases hr:R0[q]? with
  | none=>rfl
  | some r=>
   cases r with
   | at' l=>
    have:mapId (qz K) (.sl (B+(0+q)) sz 0 l.length) = .sl (B+(0+q)) sz 0 l.length:=by
     rw[mapId,qz];simp only[qdE,qeE (show B+(0+q)≠K by omega)]
    show some [mapId (qz K) (.sl (B+(0+q)) sz 0 l.length)]=_;rw[this];rfl
   | foc J m2=>
    have:mapId (qz K) (.sl J sz 0 m2) = .sl J sz 0 m2:=by
     rw[mapId,qz];simp only[qdE,qeE (hno J m2 (List.mem_of_getElem? hr))]
    show some [mapId (qz K) (.sl J sz 0 m2)]=_;rw[this];rfl
theorem jS{r:List Int}{i:Nat}{x:Int}(h:r[i]?=some x):(qV r)[0+((i:Nat):Int).toNat]?=some [i64 x]:=by
 unfold qV;rw[Nat.zero_add,Int.toNat_natCast,List.getElem?_map,h];rfl
theorem qbG(r:List Int)(i:Nat)(x:Int):(qV r).set (0+((i:Nat):Int).toNat) [i64 x]=qV (r.set i x):=by
 unfold qV;rw[Nat.zero_add,Int.toNat_natCast,List.map_set]
def nvs(j:Nat):List (List D):=qV (List.replicate j nvr)
theorem qnT(j:Nat):(nvs j).length=j:=by unfold nvs qV;simp
theorem qux(j:Nat):nvs j ++ [[i64 nvr]]=nvs (j+1):=by
 unfold nvs;rw[qsD,List.replicate_succ']
theorem qes{B k:Nat}(hk:k<B)(T:Rws):qr (qz k) (hdrs B 1 0 (qC T))=hdrs B 1 0 (qC T):=
 qhj hk fun K m hm=>by
  unfold qC at hm;obtain⟨x,_,hx⟩:=List.mem_map.1 hm;cases hx
theorem qfT{l:PLog}{i p:Nat}{b:PBook}(hb:l.books[i]?=some b)(hp:p<=zn b.ents):1<=jx l i p/\jx l i p<1+zF l.books:=by
 have h:=(List.getElem?_eq_some_iff.1 (qaj hb hp)).1;rw[qio]at h;exact⟨by unfold jx;omega,h⟩
theorem qcq{T:Rws}{a b:Nat}{r:List Int}{x:Int}(v:Int)(h:T[a]?=some r)(hx:r[b]?=some x):qfO T ⟨a,b,v⟩=T.set a (r.set b (min x v)):=by
 unfold qfO qsW tAt;simp only[h,Option.getD_some,hx]
theorem qhk{α:Type}{l:List α}{i:Nat}{x:α}(h:l[i]?=some x):l.set i x=l:=by
 refine List.ext_getElem? fun j=>?_;rw[List.getElem?_set];split
 ·rename_i e
  subst e;rw[h,if_pos (List.getElem?_eq_some_iff.1 h).1]
 ·rfl
theorem qsL{k:IntKind}{n:Int}{K:V->Prop}(hK:K (.d (.int k (k.wrap n)))):arith k n K:=by constructor;exact hK
theorem qvc{T:Rws}{i k j:Nat}{ri rk:List Int}{a c x:Int}(hi:i<T.length)(hk:(T.set i ri)[k]?=some rk)(ha:ri[k]?=some a)(hcc:rk[j]?=some c)(hx:ri[j]?=some x):qce (T.set i ri) i k j=T.set i (if a<nvr/\c<nvr then ri.set j (min x (wr (a+c))) else ri):=by
 have e1:(T.set i ri)[i]?=some ri:=by rw[List.getElem?_set,if_pos rfl,if_pos hi]
 unfold qce tAt qsW;simp only[e1,hk,Option.getD_some,ha,hcc,hx];split
 ·rw[List.set_set]
 ·rfl
def qnU(l:PLog)(w:Int)(conf:List Int)(i:Nat):Rws:=((List.range i).flatMap (qqq l w conf)).foldl qfO (qpe (1+zF l.books))
theorem qqs(l:PLog)(w:Int)(conf:List Int)(i:Nat):qnU l w conf (i+1)=(qqq l w conf i).foldl qfO (qnU l w conf i):=by
 unfold qnU;rw[List.range_succ,List.flatMap_append,List.foldl_append];simp
theorem qsM(l:PLog)(w:Int)(conf:List Int):qnU l w conf l.books.length=qsY l w conf:=rfl
def qnV(l:PLog)(w:Int)(i:Nat)(b:PBook)(T:Rws)(p:Nat):Rws:=((List.range p).flatMap (qsX l w i b)).foldl qfO T
theorem qjS(l:PLog)(w:Int)(i:Nat)(b:PBook)(T:Rws)(p:Nat):qnV l w i b T (p+1)=(qsX l w i b p).foldl qfO (qnV l w i b T p):=by
 unfold qnV;rw[List.range_succ,List.flatMap_append,List.foldl_append];simp
def qsN(l:PLog)(i:Nat)(b:PBook)(T:Rws)(m:Nat):Rws:=((List.range m).map (qul l i b)).foldl qfO T
theorem qqt(l:PLog)(i:Nat)(b:PBook)(T:Rws)(m:Nat):qsN l i b T (m+1)=qfO (qsN l i b T m) (qul l i b m):=by
 unfold qsN;rw[List.range_succ,List.map_append,List.foldl_append];rfl
def qmL(l:PLog)(conf:List Int)(i:Nat)(T:Rws)(c:Nat):Rws:=((List.range c).flatMap (qqp l conf i)).foldl qfO T
theorem qnW(l:PLog)(conf:List Int)(i:Nat)(T:Rws)(c:Nat):qmL l conf i T (c+1)=(qqp l conf i c).foldl qfO (qmL l conf i T c):=by
 unfold qmL;rw[List.range_succ,List.flatMap_append,List.foldl_append];simp
def qsO(l:PLog)(conf:List Int)(i:Nat)(b:PBook)(j:Nat)(c:PBook)(T:Rws)(q:Nat):Rws:=((List.range' 1 q).flatMap fun num=>qvb l conf i b j c (num:Nat)).foldl qfO T
theorem qqu(l:PLog)(conf:List Int)(i:Nat)(b:PBook)(j:Nat)(c:PBook)(T:Rws)(q:Nat):qsO l conf i b j c T (q+1)=(qvb l conf i b j c ((q+1:Nat):Int)).foldl qfO (qsO l conf i b j c T q):=by
 unfold qsO;rw[List.range'_concat,List.flatMap_append,List.foldl_append];simp[Nat.add_comm]
theorem qfU{n i:Nat}{T:Rws}(h:Sq n T)(hi:i<n):∃ r,T[i]?=some r/\r.length=n:=h.get hi
set_option maxHeartbeats 8000000 in
theorem qzs(l:PLog)(hc:qE l=0)(w:Int)(hw:0<=w/\w<=1048576)(conf:List Int)(hcl:conf.length<=1000):FnV Tryz.prog 71 [l.d,i64 w,qF conf] (if jW l w conf then .tup [.vs ((qsH l w conf).map fun r=>[qF r]),.bool true] else .tup [.nils,.bool false]):=by
 have hR:=zK hc;have hlen:=hR.books;have hent:∀ b∈l.books,b.ents.length<=8:=fun b hb=>(hR.book b hb).ents;have hnl:=qkX hc;have h73:=fun {σ} (i n:Nat) h1 h2=>@qAQ l hlen.2 hent i n h1 h2 σ;have hnode:jx l l.books.length 0=1+zF l.books:=by unfold jx;rw[List.take_length]
 have h73n:=fun {σ}=>@h73 σ l.books.length 0 (Nat.le_refl _) (by omega);rw[hnode]at h73n;obtain⟨n,hn⟩:∃ n,1+zF l.books=n:=⟨_,rfl⟩;rw[hn]at hnl;obtain⟨B,hB⟩:∃ B:Nat,3000000<=B:=⟨3000000,Nat.le_refl _⟩;show FnV Tryz.prog 71 [l.d,i64 w,qF conf] _;refine qJ mixed qm Tryz.func71 rfl (ft:=qzZ) 3 (by decide +kernel) (by rfl) fun {σ} Y st=>?_;conv=>whnf
 rw[hn]at h73n;refine qk (ds:=[l.d,i64 l.books.length,i64 (0:Nat)]) h73n (by
  show [_,_,_]=_;simp[List.length_map];rfl) rfl ?_
 conv=>whnf
 refine zx (by simp;rfl) ?_;conv=>whnf
 refine zx (decide_eq_true (by simp only;omega)) ?_;conv=>whnf
 refine qby (T:=tys) qm (by exact qg mixed qm (by decide +kernel)) n (fun i (T:Rws)=>⟨[(1,.d (i64 w)),(2,.d (qF conf)),(3,.ptr 3 0),(8,.d (i64 n)),(9,.sl 37 1 0 n),(10,.d (i64 i))],(37,qcW B 1 (qC T))::([(3,.box (.dd l.cells))]++qO B 1 0 (qC T)),st⟩)
  (fun i T=>T=qnS n i) (qnS n 0) ?wk1 rfl ?_ ?_
 case wk1=>
  have e0:qC (qnS n 0)=List.replicate n (.at' []):=by
   unfold qC qnS;rw[List.range_zero,List.map_nil,List.nil_append,List.map_replicate];all_goals rfl
  rw[e0];exact(Wk.sub (e':=[(1,.d (i64 w)),(2,.d (qF conf)),(3,.ptr 3 0),(8,.d (i64 n)),(9,.sl 37 1 0 n),(10,.d (i64 0))]) (h':=[(37,.arr 1 (.dd (List.replicate n [.nils]))),(3,.box (.dd l.cells))]) ⟨rfl,rfl,rfl,rfl,rfl,rfl,trivial⟩ ⟨rfl,rfl,trivial⟩).trans (Wk.makeF hB (by decide) rfl rfl)
 ·rintro i T hi rfl
  have hTl:=quv (n:=n) (i:=i) (by omega);refine⟨_,Wk.refl _,?_⟩;generalize hT0:qnS n i=T0;rw[hT0]at hTl;conv=>whnf
  repeat (first
   | (refine qa (T':=qO B 1 0 (qC T0)) (by first|exact rfl|exact qh (by omega)|exact qi _|exact qd _ (by omega)) ?_;conv=>whnf)
   | (refine qa (T':=[]) (by exact qf hB rfl) ?_;conv=>whnf))
  refine qj (fun _=>?_) (fun h=>absurd h (by simp;omega));conv=>whnf
  repeat (first
   | (refine qa (T':=qO B 1 0 (qC T0)) (by first|exact rfl|exact qh (by omega)|exact qi _|exact qd _ (by omega)) ?_;conv=>whnf)
   | (refine qa (T':=[]) (by exact qf hB rfl) ?_;conv=>whnf))
  have hT1:(qC T0)[i]?=some (.at' (nvs 0)):=by rw[<- hT0];exact qae (quw hi)
  have hRl:=qch T0;rw[hTl]at hRl;have hR0:qiS 55 (qC T0):=zo;have hnat:∀ (K:Nat) (l:List (List D)),qO B 1 0 ((qC T0).set i (.foc K l.length))=qO B 1 0 ((qC T0).set i (.foc K l.length)):=fun _ _=>rfl;have hR0n:∀ K m,Rw.foc K m∈qC T0->¬ K=K:=fun K m hm=>by
   unfold qC at hm;obtain⟨x,_,hx⟩:=List.mem_map.1 hm;cases hx
  generalize hR:qC T0=R0 at hT1 hRl hR0 hR0n ⊢;refine qby (T:=tys) qm (by exact qg mixed qm (by decide +kernel)) n (fun j (_:Unit)=>⟨[(1,.d (i64 w)),(2,.d (qF conf)),(3,.ptr 3 0),(8,.d (i64 n)),(9,.sl 37 1 0 n),(10,.d (i64 i)),(11,.d (i64 j))],(37,qcW B 1 (R0.set i (.foc 55 j)))::(55,.arr 1 (.dd (nvs j)))::([(3,.box (.dd l.cells))]++qO B 1 0 (R0.set i (.foc 55 j))),st⟩)
   (fun _ _=>True) () ?wk2 trivial ?_ ?_
  case wk2=>
   exact(Wk.openT (O:=37) (B:=B) (l:=nvs 0) 55 i [(3,.box (.dd l.cells))] hB rfl rfl rfl hT1 hR0 rfl rfl rfl (fun k hk=>by repeat (first|rw[qI,if_neg (by omega)]|rw[List.cons_append]|rw[List.nil_append])) ⟨rfl,trivial⟩).trans (Wk.subT (zi ⟨rfl,rfl,rfl,rfl,rfl,rfl,rfl,trivial⟩) fun _ _ h=>h)
  ·rintro j _ hj _
   refine⟨_,Wk.refl _,?_⟩;generalize hR1:R0.set i (.foc 55 j)=R1;have hcell:(hdrs B 1 0 R1)[0+((i:Nat):Int).toNat]?=some [V.sl 55 1 0 j]:=qaq (by rw[<- hR1];exact qbx (by omega));conv=>whnf
   repeat (first
    | (refine qa (T':=qO B 1 0 R1) (by first|exact rfl|exact qh (by omega)|exact qi _|exact qd _ (by omega)) ?_;conv=>whnf)
    | (refine qa (T':=[]) (by exact qf hB rfl) ?_;conv=>whnf))
   refine qj (fun _=>?_) (fun h=>absurd h (by simp;omega));conv=>whnf
   repeat (first
    | (refine qa (T':=qO B 1 0 R1) (by first|exact rfl|exact qh (by omega)|exact qi _|exact qd _ (by omega)) ?_;conv=>whnf)
    | (refine qa (T':=[]) (by exact qf hB rfl) ?_;conv=>whnf))
   refine qj (fun _=>?_) (fun h=>absurd h (by simp;omega));conv=>whnf
   repeat (first
    | (refine qa (T':=qO B 1 0 R1) (by first|exact rfl|exact qh (by omega)|exact qi _|exact qd _ (by omega)) ?_;conv=>whnf)
    | (refine qa (T':=[]) (by exact qf hB rfl) ?_;conv=>whnf))
   rw[hcell];conv=>whnf
   repeat (first
    | (refine qa (T':=qO B 1 0 R1) (by first|exact rfl|exact qh (by omega)|exact qi _|exact qd _ (by omega)) ?_;conv=>whnf)
    | (refine qa (T':=[]) (by exact qf hB rfl) ?_;conv=>whnf))
   have hno:∀ K m,Rw.foc K m∈R1->K=55:=fun K m hm=>by
    rw[<- hR1]at hm;obtain⟨q,hq⟩:=List.getElem?_of_mem hm;rw[List.getElem?_set]at hq;split at hq
    ·split at hq
     ·cases hq;rfl
     ·cases hq
    ·exact absurd rfl (hR0n K m (List.mem_of_getElem? hq))
   rw[qhj (k:=54) (by omega) fun K m hm=>by rw[hno K m hm];decide];refine ql rfl ?_;conv=>whnf
   repeat (first
    | (refine qa (T':=qO B 1 0 R1) (by first|exact rfl|exact qh (by omega)|exact qi _|exact qd _ (by omega)) ?_;conv=>whnf)
    | (refine qa (T':=[]) (by exact qf hB rfl) ?_;conv=>whnf))
   refine ql (by show j=(nvs j).length;rw[qnT]) ?_;conv=>whnf
   repeat (first
    | (refine qa (T':=qO B 1 0 R1) (by first|exact rfl|exact qh (by omega)|exact qi _|exact qd _ (by omega)) ?_;conv=>whnf)
    | (refine qa (T':=[]) (by exact qf hB rfl) ?_;conv=>whnf))
   refine zx (decide_eq_true (by
    show((nvs j).length+1)*8<=140737488355328;rw[qnT];omega)) ?_
   conv=>whnf
   repeat (first
    | (refine qa (T':=qO B 1 0 R1) (by first|exact rfl|exact qh (by omega)|exact qi _|exact qd _ (by omega)) ?_;conv=>whnf)
    | (refine qa (T':=[]) (by exact qf hB rfl) ?_;conv=>whnf))
   refine qj (fun _=>?_) (fun h=>absurd h (by simp;omega));conv=>whnf
   repeat (first
    | (refine qa (T':=qO B 1 0 R1) (by first|exact rfl|exact qh (by omega)|exact qi _|exact qd _ (by omega)) ?_;conv=>whnf)
    | (refine qa (T':=[]) (by exact qf hB rfl) ?_;conv=>whnf))
   rw[qcg,hcell];conv=>whnf
   repeat (first
    | (refine qa (T':=qO B 1 0 R1) (by first|exact rfl|exact qh (by omega)|exact qi _|exact qd _ (by omega)) ?_;conv=>whnf)
    | (refine qa (T':=[]) (by exact qf hB rfl) ?_;conv=>whnf))
   refine qe (qb (by(try dsimp only);omega)) ?_;conv=>whnf
   repeat (first
    | (refine qa (T':=qO B 1 0 R1) (by first|exact rfl|exact qh (by omega)|exact qi _|exact qd _ (by omega)) ?_;conv=>whnf)
    | (refine qa (T':=[]) (by exact qf hB rfl) ?_;conv=>whnf))
   refine⟨(),trivial,Wk.subG ((37,qcW B 1 (R0.set i (.foc 55 (j+1))))::(55,.arr 1 (.dd (nvs (j+1)))) :: [(3,.box (.dd l.cells))]) hB ⟨rfl,rfl,rfl,rfl,rfl,rfl,rfl,trivial⟩ (fun k hk=>by
    repeat (first|rw[qI,if_neg (by omega)]|rw[List.cons_append]|rw[List.nil_append])
    rw[<- hR1,qle (K':=55) (n':=j+1)]) ⟨?_,?_,rfl,trivial⟩⟩
   ·show some (Obj.arr 1 (.vv ((qr (qz 55) (hdrs B 1 0 R1)).set (0+(i:Int).toNat) [V.sl 55 1 0 ((nvs j).length+1)])))=_
    rw[<- hR1,Int.toNat_natCast,Nat.zero_add,qlf (by omega) (fun J m hm=>absurd rfl (hR0n J m hm)) (by omega),qnT];rfl
   ·show some (Obj.arr 1 (.dd (nvs j ++ [[i64 nvr]])))=_
    rw[qux]
  ·rintro _ _
   refine⟨_,Wk.refl _,?_⟩;generalize hR1:R0.set i (.foc 55 n)=R1;have hR1i:R1[i]?=some (.foc 55 n):=by rw[<- hR1];exact qbx (by omega)
   have hcell:(hdrs B 1 0 R1)[0+((i:Nat):Int).toNat]?=some [V.sl 55 1 0 n]:=qaq hR1i;conv=>whnf
   repeat (first
    | (refine qa (T':=qO B 1 0 R1) (by first|exact rfl|exact qh (by omega)|exact qi _|exact qd _ (by omega)) ?_;conv=>whnf)
    | (refine qa (T':=[]) (by exact qf hB rfl) ?_;conv=>whnf))
   refine qj (fun h=>absurd h (by simp)) (fun _=>?_);conv=>whnf
   repeat (first
    | (refine qa (T':=qO B 1 0 R1) (by first|exact rfl|exact qh (by omega)|exact qi _|exact qd _ (by omega)) ?_;conv=>whnf)
    | (refine qa (T':=[]) (by exact qf hB rfl) ?_;conv=>whnf))
   refine qj (fun _=>?_) (fun h=>absurd h (by simp;omega));conv=>whnf
   repeat (first
    | (refine qa (T':=qO B 1 0 R1) (by first|exact rfl|exact qh (by omega)|exact qi _|exact qd _ (by omega)) ?_;conv=>whnf)
    | (refine qa (T':=[]) (by exact qf hB rfl) ?_;conv=>whnf))
   rw[hcell];conv=>whnf
   repeat (first
    | (refine qa (T':=qO B 1 0 R1) (by first|exact rfl|exact qh (by omega)|exact qi _|exact qd _ (by omega)) ?_;conv=>whnf)
    | (refine qa (T':=[]) (by exact qf hB rfl) ?_;conv=>whnf))
   refine qj (fun _=>?_) (fun h=>absurd h (by simp;omega));conv=>whnf
   repeat (first
    | (refine qa (T':=qO B 1 0 R1) (by first|exact rfl|exact qh (by omega)|exact qi _|exact qd _ (by omega)) ?_;conv=>whnf)
    | (refine qa (T':=[]) (by exact qf hB rfl) ?_;conv=>whnf))
   refine jd [i64 nvr] (jS (r:=List.replicate n nvr) (by rw[List.getElem?_replicate,if_pos hi])) ?_;conv=>whnf
   repeat (first
    | (refine qa (T':=qO B 1 0 R1) (by first|exact rfl|exact qh (by omega)|exact qi _|exact qd _ (by omega)) ?_;conv=>whnf)
    | (refine qa (T':=[]) (by exact qf hB rfl) ?_;conv=>whnf))
   refine qe (qb (by(try dsimp only);omega)) ?_;conv=>whnf
   repeat (first
    | (refine qa (T':=qO B 1 0 R1) (by first|exact rfl|exact qh (by omega)|exact qi _|exact qd _ (by omega)) ?_;conv=>whnf)
    | (refine qa (T':=[]) (by exact qf hB rfl) ?_;conv=>whnf))
   refine⟨qnS n (i+1),rfl,(Wk.closeT (O:=37) (B:=B) (rows:=R1) (n:=n) (l:=qV (qun n i)) 55 i [(3,.box (.dd l.cells))] hB rfl rfl rfl hR1i (by rw[zl];unfold qun;simp) (by rw[<- hR1];rw[List.set_set];exact qph hR0) rfl rfl rfl (fun k hk=>by
    repeat (first|rw[qI,if_neg (by omega)]|rw[List.cons_append]|rw[List.nil_append])) ?_ ⟨rfl,trivial⟩).trans ?_⟩
   ·show some (Obj.arr 1 (.dd ((nvs n).set (0+(i:Int).toNat) [i64 0])))=_
    unfold nvs;rw[qbG];rfl
   ·rw[<- hR1,List.set_set,<- hR,qaf,<- hT0,qsK hi]
    exact Wk.subT (zi ⟨rfl,rfl,rfl,rfl,rfl,rfl,trivial⟩) fun _ _ h=>h
 ·rintro T rfl
  have e0:qnS n n=qpe n:=by unfold qnS qpe;rw[Nat.sub_self,List.replicate_zero,List.append_nil]
  rw[e0];refine⟨_,Wk.refl _,?_⟩;conv=>whnf
  repeat (first
   | (refine qa (T':=qO B 1 0 (qC (qpe n))) (by first|exact rfl|exact qh (by omega)|exact qi _|exact qd _ (by omega)) ?_;conv=>whnf)
   | (refine qa (T':=[]) (by exact qf hB rfl) ?_;conv=>whnf))
  refine qj (fun h=>absurd h (by simp)) (fun _=>?_);conv=>whnf
  repeat (first
   | (refine qa (T':=qO B 1 0 (qC (qpe n))) (by first|exact rfl|exact qh (by omega)|exact qi _|exact qd _ (by omega)) ?_;conv=>whnf)
   | (refine qa (T':=[]) (by exact qf hB rfl) ?_;conv=>whnf))
  have hTZ:qpe n=qnU l w conf 0:=by rw[<- hn];rfl
  rw[hTZ];refine qby (T:=tys) qm (by exact qg mixed qm (by decide +kernel)) l.books.length (fun i (T:Rws)=>⟨[(1,.d (i64 w)),(2,.d (qF conf)),(3,.ptr 3 0),(8,.d (i64 n)),(9,.sl 37 1 0 n),(12,.d (i64 i))],(37,qcW B 1 (qC T))::([(3,.box (.dd l.cells))]++qO B 1 0 (qC T)),st⟩)
   (fun i T=>T=qnU l w conf i/\Sq n T) (qnU l w conf 0) (Wk.subT (zi ⟨rfl,rfl,rfl,rfl,rfl,rfl,trivial⟩) fun _ _ h=>h) ⟨rfl,by rw[<- hTZ];exact qsE n⟩ ?_ ?_
  ·rintro i T0 hi ⟨hT0,hS0⟩
   obtain⟨b,hb⟩:∃ b,l.books[i]?=some b:=⟨_,List.getElem?_eq_getElem hi⟩;have hbR:=hR.book b (List.mem_of_getElem? hb);have hel:=hbR.ents;have hoff:=hbR.off;have hset:=hbR.set;have hsn:=qbe b;have h51:=fun {σ}=>@qzo b (by omega) σ;refine⟨_,Wk.refl _,?_⟩;conv=>whnf
   repeat (first
    | (refine qa (T':=qO B 1 0 (qC T0)) (by first|exact rfl|exact qh (by omega)|exact qi _|exact qd _ (by omega)) ?_;conv=>whnf)
    | (refine qa (T':=[]) (by exact qf hB rfl) ?_;conv=>whnf))
   refine qj (fun _=>?_) (fun h=>absurd h (by simp;omega));conv=>whnf
   repeat (first
    | (refine qa (T':=qO B 1 0 (qC T0)) (by first|exact rfl|exact qh (by omega)|exact qi _|exact qd _ (by omega)) ?_;conv=>whnf)
    | (refine qa (T':=[]) (by exact qf hB rfl) ?_;conv=>whnf))
   refine qt hb ?_;conv=>whnf
   repeat (first
    | (refine qa (T':=qO B 1 0 (qC T0)) (by first|exact rfl|exact qh (by omega)|exact qi _|exact qd _ (by omega)) ?_;conv=>whnf)
    | (refine qa (T':=[]) (by exact qf hB rfl) ?_;conv=>whnf))
   refine qby (T:=tys) qm (by exact qg mixed qm (by decide +kernel)) (zn b.ents+1) (fun p (T:Rws)=>⟨[(1,.d (i64 w)),(2,.d (qF conf)),(3,.ptr 3 0),(8,.d (i64 n)),(9,.sl 37 1 0 n),(12,.d (i64 i)),(13,.ptr 13 0),(14,.d (i64 p))],(37,qcW B 1 (qC T))::([(3,.box (.dd l.cells)),(13,.box (.dd b.cells))]++qO B 1 0 (qC T)),st⟩)
    (fun p T=>T=qnV l w i b T0 p/\Sq n T) T0 ?wk3 ⟨rfl,hS0⟩ ?_ ?_
   case wk3=>
    refine Wk.subG ((37,qcW B 1 (qC T0)) :: [(3,.box (.dd l.cells)),(13,.box (.dd b.cells))]) hB ⟨rfl,rfl,rfl,rfl,rfl,rfl,rfl,rfl,trivial⟩ (fun k hk=>by
     repeat (first|rw[qI,if_neg (by omega)]|rw[List.cons_append]|rw[List.nil_append])) ⟨?_,rfl,rfl,trivial⟩
    show some (Obj.arr 1 (.vv (qr (qz 13) (hdrs B 1 0 (qC T0)))))=_;rw[qes (by omega)];rfl
   ·rintro p T hp ⟨hT,hS⟩
    refine⟨_,Wk.refl _,?_⟩;conv=>whnf
    repeat (first
     | (refine qa (T':=qO B 1 0 (qC T)) (by first|exact rfl|exact qh (by omega)|exact qi _|exact qd _ (by omega)) ?_;conv=>whnf)
     | (refine qa (T':=[]) (by exact qf hB rfl) ?_;conv=>whnf))
    refine qk (ds:=[.agg b.cells]) h51 rfl rfl ?_;conv=>whnf
    repeat (first
     | (refine qa (T':=qO B 1 0 (qC T)) (by first|exact rfl|exact qh (by omega)|exact qi _|exact qd _ (by omega)) ?_;conv=>whnf)
     | (refine qa (T':=[]) (by exact qf hB rfl) ?_;conv=>whnf))
    refine qj (fun _=>?_) (fun h=>absurd h (by simp;omega));conv=>whnf
    repeat (first
     | (refine qa (T':=qO B 1 0 (qC T)) (by first|exact rfl|exact qh (by omega)|exact qi _|exact qd _ (by omega)) ?_;conv=>whnf)
     | (refine qa (T':=[]) (by exact qf hB rfl) ?_;conv=>whnf))
    have hN:=qfT hb (show p<=zn b.ents by omega);rw[hn]at hN;have h73p:=fun {σ}=>@h73 σ i p (by omega) (by omega);have hpe:qsX l w i b p=spE w (jx l i p) (if p=0 then b.off else b.set):=rfl;generalize jx l i p=N at hN h73p hpe;refine qj (fun hp0=>?_) (fun hp0=>?_)
    ·have hp0:p=0:=by simp at hp0;exact hp0
     rw[if_pos hp0]at hpe;conv=>whnf
     repeat (first
      | (refine qa (T':=qO B 1 0 (qC T)) (by first|exact rfl|exact qh (by omega)|exact qi _|exact qd _ (by omega)) ?_;conv=>whnf)
      | (refine qa (T':=[]) (by exact qf hB rfl) ?_;conv=>whnf))
     refine CallA.wkK (qk (ds:=[l.d,i64 i,i64 p]) h73p rfl rfl ?_);conv=>whnf
     repeat (first
      | (refine qa (T':=qO B 1 0 (qC T)) (by first|exact rfl|exact qh (by omega)|exact qi _|exact qd _ (by omega)) ?_;conv=>whnf)
      | (refine qa (T':=[]) (by exact qf hB rfl) ?_;conv=>whnf))
     obtain⟨r0,h0,hr0⟩:=qfU hS (show 0<n by omega);obtain⟨rN,h1,hrN⟩:=qfU hS hN.2;have hTl:=hS.len;have hRl:=qch T;refine⟨⟨[(1,.d (i64 w)),(2,.d (qF conf)),(3,.ptr 3 0),(8,.d (i64 n)),(9,.sl 37 1 0 n),(12,.d (i64 i)),(13,.ptr 13 0),(14,.d (i64 p)),(15,.ptr 15 0),(90,.d (i64 N))],(37,qcW B 1 (((qC T).set 0 (.foc 900001 (qV r0).length)).set N (.foc 900002 (qV rN).length)))::(900002,.arr 1 (.dd (qV rN)))::([(900001,.arr 1 (.dd (qV r0))),(3,.box (.dd l.cells)),(13,.box (.dd b.cells)),(15,.box (.dd (Span.cells b.off)))]++qO B 1 0 (((qC T).set 0 (.foc 900001 (qV r0).length)).set N (.foc 900002 (qV rN).length))),st⟩,?wkp,?_⟩;case wkp=>
      refine(Wk.subG (e':=[(1,.d (i64 w)),(2,.d (qF conf)),(3,.ptr 3 0),(8,.d (i64 n)),(9,.sl 37 1 0 n),(12,.d (i64 i)),(13,.ptr 13 0),(14,.d (i64 p)),(15,.ptr 15 0),(90,.d (i64 N))]) ((37,qcW B 1 (qC T)) :: [(3,.box (.dd l.cells)),(13,.box (.dd b.cells)),(15,.box (.dd (Span.cells b.off)))]) hB ⟨rfl,rfl,rfl,rfl,rfl,rfl,rfl,rfl,rfl,rfl,trivial⟩ (fun k hk=>by
       repeat (first|rw[qI,if_neg (by omega)]|rw[List.cons_append]|rw[List.nil_append])) ⟨?_,rfl,rfl,rfl,trivial⟩).trans ((Wk.openT (O:=37) (B:=B) (l:=qV r0) 900001 0 [(3,.box (.dd l.cells)),(13,.box (.dd b.cells)),(15,.box (.dd (Span.cells b.off)))] hB rfl rfl rfl (qae h0) zo rfl rfl rfl (fun k hk=>by
       repeat (first|rw[qI,if_neg (by omega)]|rw[List.cons_append]|rw[List.nil_append])) ⟨rfl,rfl,rfl,trivial⟩).trans (Wk.openT (O:=37) (B:=B) (l:=qV rN) 900002 N [(900001,.arr 1 (.dd (qV r0))),(3,.box (.dd l.cells)),(13,.box (.dd b.cells)),(15,.box (.dd (Span.cells b.off)))] hB rfl rfl rfl (by rw[qfS (by omega)];exact qae h1) (qgt zo (by decide) (by decide)) rfl rfl rfl (fun k hk=>by
       repeat (first|rw[qI,if_neg (by omega)]|rw[List.cons_append]|rw[List.nil_append])) ⟨rfl,rfl,rfl,rfl,trivial⟩))
      show some (Obj.arr 1 (.vv (qr (qz 15) (hdrs B 1 0 (qC T)))))=_;rw[qes (by omega)];rfl
     have hc0:(((qC T).set 0 (.foc 900001 (qV r0).length)).set N (.foc 900002 (qV rN).length))[0]?=some (.foc 900001 (qV r0).length):=by rw[qfS (by omega)];exact qbx (by omega)
     have hcN:(((qC T).set 0 (.foc 900001 (qV r0).length)).set N (.foc 900002 (qV rN).length))[N]?=some (.foc 900002 (qV rN).length):=qbx (by rw[List.length_set];omega);generalize hR2:((qC T).set 0 (.foc 900001 (qV r0).length)).set N (.foc 900002 (qV rN).length)=R2 at hc0 hcN ⊢;have g0:(hdrs B 1 0 R2)[0+Int.toNat 0]?=some [V.sl 900001 1 0 (qV r0).length]:=qaq hc0;have gN:(hdrs B 1 0 R2)[0+((N:Nat):Int).toNat]?=some [V.sl 900002 1 0 (qV rN).length]:=qaq hcN;obtain⟨x0,hx0⟩:∃ x,r0[N]?=some x:=⟨_,List.getElem?_eq_getElem (by omega)⟩;obtain⟨xN,hxN⟩:∃ x,rN[0]?=some x:=⟨_,List.getElem?_eq_getElem (by omega)⟩;have hl0:(qV r0).length=n:=by rw[zl];exact hr0
     have hlN:(qV rN).length=n:=by rw[zl];exact hrN
     have v0:(qV r0)[0+((N:Nat):Int).toNat]?=some [i64 x0]:=jS hx0;have vN:(qV rN)[0+Int.toNat 0]?=some [i64 xN]:=jS hxN;conv=>whnf
     repeat' (first
      | (refine qa (T':=qO B 1 0 R2) (by first|exact rfl|exact qh (by omega)|exact qi _|exact qd _ (by omega)) ?_;conv=>whnf)
      | (refine qa (T':=[]) (by exact qf hB rfl) ?_;conv=>whnf)
      | (refine qj (fun _=>?_) (fun h=>absurd h (by first|(simp;omega)|(simp[hl0];omega)|(simp[hlN];omega)));conv=>whnf)
      | (rw[g0];conv=>whnf)
      | (rw[v0];conv=>whnf)
      | (rw[gN];conv=>whnf)
      | (rw[vN];conv=>whnf))
     refine qn ((b.off).hi+w) rfl (qb (by omega)) ?_;conv=>whnf
     repeat' (first
      | (refine qa (T':=qO B 1 0 R2) (by first|exact rfl|exact qh (by omega)|exact qi _|exact qd _ (by omega)) ?_;conv=>whnf)
      | (refine qa (T':=[]) (by exact qf hB rfl) ?_;conv=>whnf)
      | (refine qj (fun _=>?_) (fun h=>absurd h (by first|(simp;omega)|(simp[hl0];omega)|(simp[hlN];omega)));conv=>whnf)
      | (rw[g0];conv=>whnf)
      | (rw[v0];conv=>whnf)
      | (rw[gN];conv=>whnf)
      | (rw[vN];conv=>whnf))
     refine qn (w-(b.off).lo) rfl (qb (by omega)) ?_;conv=>whnf
     repeat' (first
      | (refine qa (T':=qO B 1 0 R2) (by first|exact rfl|exact qh (by omega)|exact qi _|exact qd _ (by omega)) ?_;conv=>whnf)
      | (refine qa (T':=[]) (by exact qf hB rfl) ?_;conv=>whnf)
      | (refine qj (fun _=>?_) (fun h=>absurd h (by first|(simp;omega)|(simp[hl0];omega)|(simp[hlN];omega)));conv=>whnf)
      | (rw[g0];conv=>whnf)
      | (rw[v0];conv=>whnf)
      | (rw[gN];conv=>whnf)
      | (rw[vN];conv=>whnf))
     refine qe (qb (by(try dsimp only);omega)) ?_;conv=>whnf
     repeat' (first
      | (refine qa (T':=qO B 1 0 R2) (by first|exact rfl|exact qh (by omega)|exact qi _|exact qd _ (by omega)) ?_;conv=>whnf)
      | (refine qa (T':=[]) (by exact qf hB rfl) ?_;conv=>whnf)
      | (refine qj (fun _=>?_) (fun h=>absurd h (by first|(simp;omega)|(simp[hl0];omega)|(simp[hlN];omega)));conv=>whnf)
      | (rw[g0];conv=>whnf)
      | (rw[v0];conv=>whnf)
      | (rw[gN];conv=>whnf)
      | (rw[vN];conv=>whnf))
     have e1:=qcq ((b.off).hi+w) h0 hx0;have e2:=qcq (w-(b.off).lo) (T:=T.set 0 (r0.set N (min x0 ((b.off).hi+w)))) (a:=N) (b:=0) (by rw[List.getElem?_set,if_neg (by omega)];exact h1) hxN;have e3:qnV l w i b T0 (p+1)=(T.set 0 (r0.set N (min x0 ((b.off).hi+w)))).set N (rN.set 0 (min xN (w-(b.off).lo))):=by
      rw[qjS,hpe,<- hT];show qfO (qfO T ⟨0,N,(b.off).hi+w⟩) ⟨N,0,w-(b.off).lo⟩=_;rw[e1,e2]
     have hS2:Sq n ((T.set 0 (r0.set N (min x0 ((b.off).hi+w)))).set N (rN.set 0 (min xN (w-(b.off).lo)))):=by
      rw[<- e2,<- e1];have q1:Sq n (qfO T ⟨0,N,(b.off).hi+w⟩):=qdy hS (show 0<n by omega) _ _;exact qdy q1 hN.2 _ _
     generalize hq0:r0.set N (min x0 ((b.off).hi+w))=r0' at e3 hS2;generalize hqN:rN.set 0 (min xN (w-(b.off).lo))=rN' at e3 hS2;have hl0':r0'.length=r0.length:=by rw[<- hq0,List.length_set]
     have hlN':rN'.length=rN.length:=by rw[<- hqN,List.length_set]
     have hE:(R2.set N (.at' (qV rN'))).set 0 (.at' (qV r0'))=qC ((T.set 0 r0').set N rN'):=by
      rw[<- hR2,List.set_set,List.set_comm _ _ (show N≠0 by omega),List.set_set,qaf,qaf]
     refine⟨_,⟨e3.symm,hS2⟩,(Wk.closeT (O:=37) (B:=B) (rows:=R2) (n:=(qV rN).length) (l:=qV rN') 900002 N [(900001,.arr 1 (.dd (qV r0'))),(3,.box (.dd l.cells)),(13,.box (.dd b.cells))] hB rfl rfl rfl hcN (by rw[zl,zl,hlN']) ?hf1 rfl rfl rfl (fun k hk=>by
       repeat (first|rw[qI,if_neg (by omega)]|rw[List.cons_append]|rw[List.nil_append])) ?hr1 ⟨?hr2,rfl,rfl,trivial⟩).trans ((Wk.closeT (O:=37) (B:=B) (rows:=R2.set N (.at' (qV rN'))) (n:=(qV r0).length) (l:=qV r0') 900001 0 [(3,.box (.dd l.cells)),(13,.box (.dd b.cells))] hB rfl rfl rfl (by rw[qfS (by omega)];exact hc0) (by rw[zl,zl,hl0']) (by rw[hE];exact zo) rfl rfl rfl (fun k hk=>by
       repeat (first|rw[qI,if_neg (by omega)]|rw[List.cons_append]|rw[List.nil_append])) rfl ⟨rfl,rfl,trivial⟩).trans ?hend)⟩
     case hf1=>
      rw[<- hR2,List.set_set];exact qph (qgt zo (by decide) (by decide))
     case hr1=>
      show some (Obj.arr 1 (.dd ((qV rN).set (0+((0:Nat):Int).toNat) [i64 (min xN (w-(b.off).lo))])))=_;rw[qbG,hqN]
     case hr2=>
      show some (Obj.arr 1 (.dd ((qV r0).set (0+((N:Nat):Int).toNat) [i64 (min x0 ((b.off).hi+w))])))=_;rw[qbG,hq0]
     case hend=>
      rw[hE];exact Wk.subT (zi ⟨rfl,rfl,rfl,rfl,rfl,rfl,rfl,rfl,trivial⟩) fun _ _ h=>h
    ·have hp0:¬ p=0:=by simp at hp0;exact hp0
     rw[if_neg hp0]at hpe;conv=>whnf
     repeat (first
      | (refine qa (T':=qO B 1 0 (qC T)) (by first|exact rfl|exact qh (by omega)|exact qi _|exact qd _ (by omega)) ?_;conv=>whnf)
      | (refine qa (T':=[]) (by exact qf hB rfl) ?_;conv=>whnf))
     refine CallA.wkK (qk (ds:=[l.d,i64 i,i64 p]) h73p rfl rfl ?_);conv=>whnf
     repeat (first
      | (refine qa (T':=qO B 1 0 (qC T)) (by first|exact rfl|exact qh (by omega)|exact qi _|exact qd _ (by omega)) ?_;conv=>whnf)
      | (refine qa (T':=[]) (by exact qf hB rfl) ?_;conv=>whnf))
     obtain⟨r0,h0,hr0⟩:=qfU hS (show 0<n by omega);obtain⟨rN,h1,hrN⟩:=qfU hS hN.2;have hTl:=hS.len;have hRl:=qch T;refine⟨⟨[(1,.d (i64 w)),(2,.d (qF conf)),(3,.ptr 3 0),(8,.d (i64 n)),(9,.sl 37 1 0 n),(12,.d (i64 i)),(13,.ptr 13 0),(14,.d (i64 p)),(15,.ptr 15 0),(90,.d (i64 N))],(37,qcW B 1 (((qC T).set 0 (.foc 900001 (qV r0).length)).set N (.foc 900002 (qV rN).length)))::(900002,.arr 1 (.dd (qV rN)))::([(900001,.arr 1 (.dd (qV r0))),(3,.box (.dd l.cells)),(13,.box (.dd b.cells)),(15,.box (.dd (Span.cells b.set)))]++qO B 1 0 (((qC T).set 0 (.foc 900001 (qV r0).length)).set N (.foc 900002 (qV rN).length))),st⟩,?wkp,?_⟩;case wkp=>
      refine(Wk.subG (e':=[(1,.d (i64 w)),(2,.d (qF conf)),(3,.ptr 3 0),(8,.d (i64 n)),(9,.sl 37 1 0 n),(12,.d (i64 i)),(13,.ptr 13 0),(14,.d (i64 p)),(15,.ptr 15 0),(90,.d (i64 N))]) ((37,qcW B 1 (qC T)) :: [(3,.box (.dd l.cells)),(13,.box (.dd b.cells)),(15,.box (.dd (Span.cells b.set)))]) hB ⟨rfl,rfl,rfl,rfl,rfl,rfl,rfl,rfl,rfl,rfl,trivial⟩ (fun k hk=>by
       repeat (first|rw[qI,if_neg (by omega)]|rw[List.cons_append]|rw[List.nil_append])) ⟨?_,rfl,rfl,rfl,trivial⟩).trans ((Wk.openT (O:=37) (B:=B) (l:=qV r0) 900001 0 [(3,.box (.dd l.cells)),(13,.box (.dd b.cells)),(15,.box (.dd (Span.cells b.set)))] hB rfl rfl rfl (qae h0) zo rfl rfl rfl (fun k hk=>by
       repeat (first|rw[qI,if_neg (by omega)]|rw[List.cons_append]|rw[List.nil_append])) ⟨rfl,rfl,rfl,trivial⟩).trans (Wk.openT (O:=37) (B:=B) (l:=qV rN) 900002 N [(900001,.arr 1 (.dd (qV r0))),(3,.box (.dd l.cells)),(13,.box (.dd b.cells)),(15,.box (.dd (Span.cells b.set)))] hB rfl rfl rfl (by rw[qfS (by omega)];exact qae h1) (qgt zo (by decide) (by decide)) rfl rfl rfl (fun k hk=>by
       repeat (first|rw[qI,if_neg (by omega)]|rw[List.cons_append]|rw[List.nil_append])) ⟨rfl,rfl,rfl,rfl,trivial⟩))
      show some (Obj.arr 1 (.vv (qr (qz 15) (hdrs B 1 0 (qC T)))))=_;rw[qes (by omega)];rfl
     have hc0:(((qC T).set 0 (.foc 900001 (qV r0).length)).set N (.foc 900002 (qV rN).length))[0]?=some (.foc 900001 (qV r0).length):=by rw[qfS (by omega)];exact qbx (by omega)
     have hcN:(((qC T).set 0 (.foc 900001 (qV r0).length)).set N (.foc 900002 (qV rN).length))[N]?=some (.foc 900002 (qV rN).length):=qbx (by rw[List.length_set];omega);generalize hR2:((qC T).set 0 (.foc 900001 (qV r0).length)).set N (.foc 900002 (qV rN).length)=R2 at hc0 hcN ⊢;have g0:(hdrs B 1 0 R2)[0+Int.toNat 0]?=some [V.sl 900001 1 0 (qV r0).length]:=qaq hc0;have gN:(hdrs B 1 0 R2)[0+((N:Nat):Int).toNat]?=some [V.sl 900002 1 0 (qV rN).length]:=qaq hcN;obtain⟨x0,hx0⟩:∃ x,r0[N]?=some x:=⟨_,List.getElem?_eq_getElem (by omega)⟩;obtain⟨xN,hxN⟩:∃ x,rN[0]?=some x:=⟨_,List.getElem?_eq_getElem (by omega)⟩;have hl0:(qV r0).length=n:=by rw[zl];exact hr0
     have hlN:(qV rN).length=n:=by rw[zl];exact hrN
     have v0:(qV r0)[0+((N:Nat):Int).toNat]?=some [i64 x0]:=jS hx0;have vN:(qV rN)[0+Int.toNat 0]?=some [i64 xN]:=jS hxN;conv=>whnf
     repeat' (first
      | (refine qa (T':=qO B 1 0 R2) (by first|exact rfl|exact qh (by omega)|exact qi _|exact qd _ (by omega)) ?_;conv=>whnf)
      | (refine qa (T':=[]) (by exact qf hB rfl) ?_;conv=>whnf)
      | (refine qj (fun _=>?_) (fun h=>absurd h (by first|(simp;omega)|(simp[hl0];omega)|(simp[hlN];omega)));conv=>whnf)
      | (rw[g0];conv=>whnf)
      | (rw[v0];conv=>whnf)
      | (rw[gN];conv=>whnf)
      | (rw[vN];conv=>whnf))
     refine qn ((b.set).hi+w) rfl (qb (by omega)) ?_;conv=>whnf
     repeat' (first
      | (refine qa (T':=qO B 1 0 R2) (by first|exact rfl|exact qh (by omega)|exact qi _|exact qd _ (by omega)) ?_;conv=>whnf)
      | (refine qa (T':=[]) (by exact qf hB rfl) ?_;conv=>whnf)
      | (refine qj (fun _=>?_) (fun h=>absurd h (by first|(simp;omega)|(simp[hl0];omega)|(simp[hlN];omega)));conv=>whnf)
      | (rw[g0];conv=>whnf)
      | (rw[v0];conv=>whnf)
      | (rw[gN];conv=>whnf)
      | (rw[vN];conv=>whnf))
     refine qn (w-(b.set).lo) rfl (qb (by omega)) ?_;conv=>whnf
     repeat' (first
      | (refine qa (T':=qO B 1 0 R2) (by first|exact rfl|exact qh (by omega)|exact qi _|exact qd _ (by omega)) ?_;conv=>whnf)
      | (refine qa (T':=[]) (by exact qf hB rfl) ?_;conv=>whnf)
      | (refine qj (fun _=>?_) (fun h=>absurd h (by first|(simp;omega)|(simp[hl0];omega)|(simp[hlN];omega)));conv=>whnf)
      | (rw[g0];conv=>whnf)
      | (rw[v0];conv=>whnf)
      | (rw[gN];conv=>whnf)
      | (rw[vN];conv=>whnf))
     refine qe (qb (by(try dsimp only);omega)) ?_;conv=>whnf
     repeat' (first
      | (refine qa (T':=qO B 1 0 R2) (by first|exact rfl|exact qh (by omega)|exact qi _|exact qd _ (by omega)) ?_;conv=>whnf)
      | (refine qa (T':=[]) (by exact qf hB rfl) ?_;conv=>whnf)
      | (refine qj (fun _=>?_) (fun h=>absurd h (by first|(simp;omega)|(simp[hl0];omega)|(simp[hlN];omega)));conv=>whnf)
      | (rw[g0];conv=>whnf)
      | (rw[v0];conv=>whnf)
      | (rw[gN];conv=>whnf)
      | (rw[vN];conv=>whnf))
     have e1:=qcq ((b.set).hi+w) h0 hx0;have e2:=qcq (w-(b.set).lo) (T:=T.set 0 (r0.set N (min x0 ((b.set).hi+w)))) (a:=N) (b:=0) (by rw[List.getElem?_set,if_neg (by omega)];exact h1) hxN;have e3:qnV l w i b T0 (p+1)=(T.set 0 (r0.set N (min x0 ((b.set).hi+w)))).set N (rN.set 0 (min xN (w-(b.set).lo))):=by
      rw[qjS,hpe,<- hT];show qfO (qfO T ⟨0,N,(b.set).hi+w⟩) ⟨N,0,w-(b.set).lo⟩=_;rw[e1,e2]
     have hS2:Sq n ((T.set 0 (r0.set N (min x0 ((b.set).hi+w)))).set N (rN.set 0 (min xN (w-(b.set).lo)))):=by
      rw[<- e2,<- e1];have q1:Sq n (qfO T ⟨0,N,(b.set).hi+w⟩):=qdy hS (show 0<n by omega) _ _;exact qdy q1 hN.2 _ _
     generalize hq0:r0.set N (min x0 ((b.set).hi+w))=r0' at e3 hS2;generalize hqN:rN.set 0 (min xN (w-(b.set).lo))=rN' at e3 hS2;have hl0':r0'.length=r0.length:=by rw[<- hq0,List.length_set]
     have hlN':rN'.length=rN.length:=by rw[<- hqN,List.length_set]
     have hE:(R2.set N (.at' (qV rN'))).set 0 (.at' (qV r0'))=qC ((T.set 0 r0').set N rN'):=by
      rw[<- hR2,List.set_set,List.set_comm _ _ (show N≠0 by omega),List.set_set,qaf,qaf]
     refine⟨_,⟨e3.symm,hS2⟩,(Wk.closeT (O:=37) (B:=B) (rows:=R2) (n:=(qV rN).length) (l:=qV rN') 900002 N [(900001,.arr 1 (.dd (qV r0'))),(3,.box (.dd l.cells)),(13,.box (.dd b.cells))] hB rfl rfl rfl hcN (by rw[zl,zl,hlN']) ?hf1 rfl rfl rfl (fun k hk=>by
       repeat (first|rw[qI,if_neg (by omega)]|rw[List.cons_append]|rw[List.nil_append])) ?hr1 ⟨?hr2,rfl,rfl,trivial⟩).trans ((Wk.closeT (O:=37) (B:=B) (rows:=R2.set N (.at' (qV rN'))) (n:=(qV r0).length) (l:=qV r0') 900001 0 [(3,.box (.dd l.cells)),(13,.box (.dd b.cells))] hB rfl rfl rfl (by rw[qfS (by omega)];exact hc0) (by rw[zl,zl,hl0']) (by rw[hE];exact zo) rfl rfl rfl (fun k hk=>by
       repeat (first|rw[qI,if_neg (by omega)]|rw[List.cons_append]|rw[List.nil_append])) rfl ⟨rfl,rfl,trivial⟩).trans ?hend)⟩
     case hf1=>
      rw[<- hR2,List.set_set];exact qph (qgt zo (by decide) (by decide))
     case hr1=>
      show some (Obj.arr 1 (.dd ((qV rN).set (0+((0:Nat):Int).toNat) [i64 (min xN (w-(b.set).lo))])))=_;rw[qbG,hqN]
     case hr2=>
      show some (Obj.arr 1 (.dd ((qV r0).set (0+((N:Nat):Int).toNat) [i64 (min x0 ((b.set).hi+w))])))=_;rw[qbG,hq0]
     case hend=>
      rw[hE];exact Wk.subT (zi ⟨rfl,rfl,rfl,rfl,rfl,rfl,rfl,rfl,trivial⟩) fun _ _ h=>h
   ·rintro T1 ⟨hT1,hS1⟩
    refine⟨_,Wk.refl _,?_⟩;conv=>whnf
    repeat (first
     | (refine qa (T':=qO B 1 0 (qC T1)) (by first|exact rfl|exact qh (by omega)|exact qi _|exact qd _ (by omega)) ?_;conv=>whnf)
     | (refine qa (T':=[]) (by exact qf hB rfl) ?_;conv=>whnf))
    refine qk (ds:=[.agg b.cells]) h51 rfl rfl ?_;conv=>whnf
    repeat (first
     | (refine qa (T':=qO B 1 0 (qC T1)) (by first|exact rfl|exact qh (by omega)|exact qi _|exact qd _ (by omega)) ?_;conv=>whnf)
     | (refine qa (T':=[]) (by exact qf hB rfl) ?_;conv=>whnf))
    refine qj (fun h=>absurd h (by simp)) (fun _=>?_);conv=>whnf
    repeat (first
     | (refine qa (T':=qO B 1 0 (qC T1)) (by first|exact rfl|exact qh (by omega)|exact qi _|exact qd _ (by omega)) ?_;conv=>whnf)
     | (refine qa (T':=[]) (by exact qf hB rfl) ?_;conv=>whnf))
    refine qby (T:=tys) qm (by exact qg mixed qm (by decide +kernel)) (b.ents.length-1) (fun m (T:Rws)=>⟨[(1,.d (i64 w)),(2,.d (qF conf)),(3,.ptr 3 0),(8,.d (i64 n)),(9,.sl 37 1 0 n),(12,.d (i64 i)),(13,.ptr 13 0),(17,.d (i64 (m+1:Nat)))],(37,qcW B 1 (qC T))::([(3,.box (.dd l.cells)),(13,.box (.dd b.cells))]++qO B 1 0 (qC T)),st⟩)
     (fun m T=>T=qsN l i b T1 m/\Sq n T) T1 (Wk.subT (zi ⟨rfl,rfl,rfl,rfl,rfl,rfl,rfl,rfl,trivial⟩) fun _ _ h=>h) ⟨rfl,hS1⟩ ?_ ?_
    ·rintro m T hm ⟨hT,hS⟩
     obtain⟨x,hx⟩:∃ x,b.ents[m]?=some x:=⟨_,List.getElem?_eq_getElem (by omega)⟩;obtain⟨y,hy⟩:∃ y,b.ents[m+1]?=some y:=⟨_,List.getElem?_eq_getElem (by omega)⟩;have hxs:=(hbR.ent x (List.mem_of_getElem? hx)).1;have hys:=(hbR.ent y (List.mem_of_getElem? hy)).1;have hp1:=jf b m;have hp2:=jf b (m+1);have hM:=qfT hb hp1;have hN:=qfT hb hp2;rw[hn]at hM hN;have c1:FnV Tryz.prog 105 [.agg b.cells,i64 m] (i64 (qL b m)):=qsC b m (by omega) (by omega);have c2:FnV Tryz.prog 105 [.agg b.cells,i64 (m+1:Nat)] (i64 (qL b (m+1))):=qsC b (m+1) (by omega) (by omega);have c3:=fun {σ}=>@h73 σ i (qL b m) (by omega) (by omega);have c4:=fun {σ}=>@h73 σ i (qL b (m+1)) (by omega) (by omega);have hoe:qul l i b m=⟨jx l i (qL b m),jx l i (qL b (m+1)),y.shown-x.shown⟩:=by unfold qul;rw[qdD hx,qdD hy]
     generalize jx l i (qL b m)=M at hM c3 hoe;generalize jx l i (qL b (m+1))=N at hN c4 hoe;generalize qL b m=p1 at c1 c3;generalize qL b (m+1)=p2 at c2 c4;obtain⟨r0,h0,hr0⟩:=qfU hS hM.2;have hTl:=hS.len;have hRl:=qch T;refine⟨_,Wk.openT (O:=37) (B:=B) (l:=qV r0) 900001 M [(3,.box (.dd l.cells)),(13,.box (.dd b.cells))] hB rfl rfl rfl (qae h0) zo rfl rfl rfl (fun k hk=>by
      repeat (first|rw[qI,if_neg (by omega)]|rw[List.cons_append]|rw[List.nil_append])) ⟨rfl,rfl,trivial⟩,?_⟩
     have hc0:((qC T).set M (.foc 900001 (qV r0).length))[M]?=some (.foc 900001 (qV r0).length):=qbx (by omega);generalize hR2:(qC T).set M (.foc 900001 (qV r0).length)=R2 at hc0 ⊢;have g0:(hdrs B 1 0 R2)[0+((M:Nat):Int).toNat]?=some [V.sl 900001 1 0 (qV r0).length]:=qaq hc0;obtain⟨x0,hx0⟩:∃ x,r0[N]?=some x:=⟨_,List.getElem?_eq_getElem (by omega)⟩;have hl0:(qV r0).length=n:=by rw[zl];exact hr0
     have v0:(qV r0)[0+((N:Nat):Int).toNat]?=some [i64 x0]:=jS hx0;conv=>whnf
     repeat (first
      | (refine qa (T':=qO B 1 0 R2) (by first|exact rfl|exact qh (by omega)|exact qi _|exact qd _ (by omega)) ?_;conv=>whnf)
      | (refine qa (T':=[]) (by exact qf hB rfl) ?_;conv=>whnf))
     refine qj (fun _=>?_) (fun h=>absurd h (by simp;omega));conv=>whnf
     repeat (first
      | (refine qa (T':=qO B 1 0 R2) (by first|exact rfl|exact qh (by omega)|exact qi _|exact qd _ (by omega)) ?_;conv=>whnf)
      | (refine qa (T':=[]) (by exact qf hB rfl) ?_;conv=>whnf))
     refine qn (m:Int) (by omega) (qb (by omega)) ?_;conv=>whnf
     repeat (first
      | (refine qa (T':=qO B 1 0 R2) (by first|exact rfl|exact qh (by omega)|exact qi _|exact qd _ (by omega)) ?_;conv=>whnf)
      | (refine qa (T':=[]) (by exact qf hB rfl) ?_;conv=>whnf))
     refine qq (ds:=[.agg b.cells,i64 m]) c1 rfl rfl ?_;conv=>whnf
     repeat (first
      | (refine qa (T':=qO B 1 0 R2) (by first|exact rfl|exact qh (by omega)|exact qi _|exact qd _ (by omega)) ?_;conv=>whnf)
      | (refine qa (T':=[]) (by exact qf hB rfl) ?_;conv=>whnf))
     refine qq (ds:=[l.d,i64 i,i64 p1]) c3 rfl rfl ?_;conv=>whnf
     repeat (first
      | (refine qa (T':=qO B 1 0 R2) (by first|exact rfl|exact qh (by omega)|exact qi _|exact qd _ (by omega)) ?_;conv=>whnf)
      | (refine qa (T':=[]) (by exact qf hB rfl) ?_;conv=>whnf))
     refine qq (ds:=[.agg b.cells,i64 (m+1:Nat)]) c2 rfl rfl ?_;conv=>whnf
     repeat (first
      | (refine qa (T':=qO B 1 0 R2) (by first|exact rfl|exact qh (by omega)|exact qi _|exact qd _ (by omega)) ?_;conv=>whnf)
      | (refine qa (T':=[]) (by exact qf hB rfl) ?_;conv=>whnf))
     refine qq (ds:=[l.d,i64 i,i64 p2]) c4 rfl rfl ?_;conv=>whnf
     repeat' (first
      | (refine qa (T':=qO B 1 0 R2) (by first|exact rfl|exact qh (by omega)|exact qi _|exact qd _ (by omega)) ?_;conv=>whnf)
      | (refine qa (T':=[]) (by exact qf hB rfl) ?_;conv=>whnf)
      | (refine qj (fun _=>?_) (fun h=>absurd h (by first|(simp;omega)|(simp[hl0];omega)|(simp[hlN];omega)));conv=>whnf)
      | (rw[g0];conv=>whnf)
      | (rw[v0];conv=>whnf)
      | (rw[g0];conv=>whnf)
      | (rw[v0];conv=>whnf))
     refine qt hy ?_;conv=>whnf
     repeat' (first
      | (refine qa (T':=qO B 1 0 R2) (by first|exact rfl|exact qh (by omega)|exact qi _|exact qd _ (by omega)) ?_;conv=>whnf)
      | (refine qa (T':=[]) (by exact qf hB rfl) ?_;conv=>whnf)
      | (refine qj (fun _=>?_) (fun h=>absurd h (by first|(simp;omega)|(simp[hl0];omega)|(simp[hlN];omega)));conv=>whnf)
      | (rw[g0];conv=>whnf)
      | (rw[v0];conv=>whnf)
      | (rw[g0];conv=>whnf)
      | (rw[v0];conv=>whnf))
     refine qn (m:Int) (by omega) (qb (by omega)) ?_;conv=>whnf
     repeat' (first
      | (refine qa (T':=qO B 1 0 R2) (by first|exact rfl|exact qh (by omega)|exact qi _|exact qd _ (by omega)) ?_;conv=>whnf)
      | (refine qa (T':=[]) (by exact qf hB rfl) ?_;conv=>whnf)
      | (refine qj (fun _=>?_) (fun h=>absurd h (by first|(simp;omega)|(simp[hl0];omega)|(simp[hlN];omega)));conv=>whnf)
      | (rw[g0];conv=>whnf)
      | (rw[v0];conv=>whnf)
      | (rw[g0];conv=>whnf)
      | (rw[v0];conv=>whnf))
     refine qt hx ?_;conv=>whnf
     repeat' (first
      | (refine qa (T':=qO B 1 0 R2) (by first|exact rfl|exact qh (by omega)|exact qi _|exact qd _ (by omega)) ?_;conv=>whnf)
      | (refine qa (T':=[]) (by exact qf hB rfl) ?_;conv=>whnf)
      | (refine qj (fun _=>?_) (fun h=>absurd h (by first|(simp;omega)|(simp[hl0];omega)|(simp[hlN];omega)));conv=>whnf)
      | (rw[g0];conv=>whnf)
      | (rw[v0];conv=>whnf)
      | (rw[g0];conv=>whnf)
      | (rw[v0];conv=>whnf))
     refine qn (y.shown-x.shown) rfl (qb (by omega)) ?_;conv=>whnf
     repeat' (first
      | (refine qa (T':=qO B 1 0 R2) (by first|exact rfl|exact qh (by omega)|exact qi _|exact qd _ (by omega)) ?_;conv=>whnf)
      | (refine qa (T':=[]) (by exact qf hB rfl) ?_;conv=>whnf)
      | (refine qj (fun _=>?_) (fun h=>absurd h (by first|(simp;omega)|(simp[hl0];omega)|(simp[hlN];omega)));conv=>whnf)
      | (rw[g0];conv=>whnf)
      | (rw[v0];conv=>whnf)
      | (rw[g0];conv=>whnf)
      | (rw[v0];conv=>whnf))
     refine qn ((m+1+1:Nat):Int) (by omega) (qb (by omega)) ?_;conv=>whnf
     repeat (first
      | (refine qa (T':=qO B 1 0 R2) (by first|exact rfl|exact qh (by omega)|exact qi _|exact qd _ (by omega)) ?_;conv=>whnf)
      | (refine qa (T':=[]) (by exact qf hB rfl) ?_;conv=>whnf))
     have e1:qfO T (qul l i b m)=T.set M (r0.set N (min x0 (y.shown-x.shown))):=by rw[hoe];exact qcq _ h0 hx0
     have hS':Sq n (T.set M (r0.set N (min x0 (y.shown-x.shown)))):=by
      rw[<- qcq (y.shown-x.shown) h0 hx0];exact qdy hS hM.2 _ _
     generalize hq0:r0.set N (min x0 (y.shown-x.shown))=r0' at e1 hS';have hl0':r0'.length=r0.length:=by rw[<- hq0,List.length_set]
     have hE:R2.set M (.at' (qV r0'))=qC (T.set M r0'):=by rw[<- hR2,List.set_set,qaf]
     refine⟨T.set M r0',⟨by rw[qqt,<- hT,e1],hS'⟩,(Wk.closeT (O:=37) (B:=B) (rows:=R2) (n:=(qV r0).length) (l:=qV r0') 900001 M [(3,.box (.dd l.cells)),(13,.box (.dd b.cells))] hB rfl rfl rfl hc0 (by rw[zl,zl,hl0']) (by rw[hE];exact zo) rfl rfl rfl (fun k hk=>by
      repeat (first|rw[qI,if_neg (by omega)]|rw[List.cons_append]|rw[List.nil_append])) ?hr2 ⟨rfl,rfl,trivial⟩).trans ?hend⟩
     case hr2=>
      show some (Obj.arr 1 (.dd ((qV r0).set (0+((N:Nat):Int).toNat) [i64 (min x0 (y.shown-x.shown))])))=_;rw[qbG,hq0]
     case hend=>
      rw[hE];exact Wk.subT (zi ⟨rfl,rfl,rfl,rfl,rfl,rfl,rfl,rfl,trivial⟩) fun _ _ h=>h
    ·rintro T2 ⟨hT2,hS2⟩
     refine⟨_,Wk.refl _,?_⟩;conv=>whnf
     repeat (first
      | (refine qa (T':=qO B 1 0 (qC T2)) (by first|exact rfl|exact qh (by omega)|exact qi _|exact qd _ (by omega)) ?_;conv=>whnf)
      | (refine qa (T':=[]) (by exact qf hB rfl) ?_;conv=>whnf))
     refine qj (fun h=>absurd h (by simp;omega)) (fun _=>?_);conv=>whnf
     repeat (first
      | (refine qa (T':=qO B 1 0 (qC T2)) (by first|exact rfl|exact qh (by omega)|exact qi _|exact qd _ (by omega)) ?_;conv=>whnf)
      | (refine qa (T':=[]) (by exact qf hB rfl) ?_;conv=>whnf))
     refine qby (T:=tys) qm (by exact qg mixed qm (by decide +kernel)) l.books.length (fun j (T:Rws)=>⟨[(1,.d (i64 w)),(2,.d (qF conf)),(3,.ptr 3 0),(8,.d (i64 n)),(9,.sl 37 1 0 n),(12,.d (i64 i)),(13,.ptr 13 0),(20,.d (i64 j))],(37,qcW B 1 (qC T))::([(3,.box (.dd l.cells)),(13,.box (.dd b.cells))]++qO B 1 0 (qC T)),st⟩)
      (fun j T=>T=qmL l conf i T2 j/\Sq n T) T2 (Wk.subT (zi ⟨rfl,rfl,rfl,rfl,rfl,rfl,rfl,rfl,trivial⟩) fun _ _ h=>h) ⟨rfl,hS2⟩ ?_ ?_
     ·rintro j T3 hj ⟨hT3,hS3⟩
      obtain⟨c,hcb⟩:∃ c,l.books[j]?=some c:=⟨_,List.getElem?_eq_getElem hj⟩;have hcR:=hR.book c (List.mem_of_getElem? hcb);have hcel:=hcR.ents;have hpj:qqp l conf i j=(List.range' 1 99).flatMap fun num=>qvb l conf i b j c (num:Nat):=by unfold qqp;rw[qbf hb,qbf hcb]
      refine⟨_,Wk.refl _,?_⟩;conv=>whnf
      repeat (first
       | (refine qa (T':=qO B 1 0 (qC T3)) (by first|exact rfl|exact qh (by omega)|exact qi _|exact qd _ (by omega)) ?_;conv=>whnf)
       | (refine qa (T':=[]) (by exact qf hB rfl) ?_;conv=>whnf))
      refine qj (fun _=>?_) (fun h=>absurd h (by simp;omega));conv=>whnf
      repeat (first
       | (refine qa (T':=qO B 1 0 (qC T3)) (by first|exact rfl|exact qh (by omega)|exact qi _|exact qd _ (by omega)) ?_;conv=>whnf)
       | (refine qa (T':=[]) (by exact qf hB rfl) ?_;conv=>whnf))
      refine qt hcb ?_;conv=>whnf
      repeat (first
       | (refine qa (T':=qO B 1 0 (qC T3)) (by first|exact rfl|exact qh (by omega)|exact qi _|exact qd _ (by omega)) ?_;conv=>whnf)
       | (refine qa (T':=[]) (by exact qf hB rfl) ?_;conv=>whnf))
      refine qby (T:=tys) qm (by exact qg mixed qm (by decide +kernel)) 99 (fun q (T:Rws)=>⟨[(1,.d (i64 w)),(2,.d (qF conf)),(3,.ptr 3 0),(8,.d (i64 n)),(9,.sl 37 1 0 n),(12,.d (i64 i)),(13,.ptr 13 0),(20,.d (i64 j)),(21,.ptr 21 0),(22,.d (i64 (q+1:Nat)))],(37,qcW B 1 (qC T))::([(3,.box (.dd l.cells)),(13,.box (.dd b.cells)),(21,.box (.dd c.cells))]++qO B 1 0 (qC T)),st⟩)
       (fun q T=>T=qsO l conf i b j c T3 q/\Sq n T) T3 ?wk5 ⟨rfl,hS3⟩ ?_ ?_
      case wk5=>
       refine Wk.subG ((37,qcW B 1 (qC T3)) :: [(3,.box (.dd l.cells)),(13,.box (.dd b.cells)),(21,.box (.dd c.cells))]) hB ⟨rfl,rfl,rfl,rfl,rfl,rfl,rfl,rfl,rfl,rfl,trivial⟩ (fun k hk=>by
        repeat (first|rw[qI,if_neg (by omega)]|rw[List.cons_append]|rw[List.nil_append])) ⟨?_,rfl,rfl,rfl,trivial⟩
       show some (Obj.arr 1 (.vv (qr (qz 21) (hdrs B 1 0 (qC T3)))))=_;rw[qes (by omega)];rfl
      ·rintro q T hq ⟨hT,hS⟩
       have c1:=fun {σ}=>@qxE b ((q+1:Nat):Int) (by omega) σ;have c2:=fun {σ}=>@qxE c ((q+1:Nat):Int) (by omega) σ
       have hre:qvb l conf i b j c ((q+1:Nat):Int)=match zJ b.ents ((q+1:Nat):Int) 0,zJ c.ents ((q+1:Nat):Int) 0 with
        | some m,some k=>if ((q+1:Nat):Int)∈conf then [] else [⟨jx l i (qL b m),jx l j (qL c k),qmD c k-qmD b m⟩]
        | _,_=>[]:=rfl
       unfold qmB at c1 c2;have hnu:=qqu l conf i b j c T3 q;rw[<- hT]at hnu
       cases hf1:zJ b.ents ((q+1:Nat):Int) 0 with
       | none=>
        rw[hf1]at c1 hre;simp only at c1 hre;rw[hre]at hnu;generalize (match zJ c.ents ((q+1:Nat):Int) 0 with|some k=>(k:Int)|none=>-1)=F2 at c2;refine⟨_,Wk.refl _,?_⟩;conv=>whnf
        repeat (first
         | (refine qa (T':=qO B 1 0 (qC T)) (by first|exact rfl|exact qh (by omega)|exact qi _|exact qd _ (by omega)) ?_;conv=>whnf)
         | (refine qa (T':=[]) (by exact qf hB rfl) ?_;conv=>whnf))
        refine qj (fun _=>?_) (fun h=>absurd h (by simp;omega));conv=>whnf
        repeat (first
         | (refine qa (T':=qO B 1 0 (qC T)) (by first|exact rfl|exact qh (by omega)|exact qi _|exact qd _ (by omega)) ?_;conv=>whnf)
         | (refine qa (T':=[]) (by exact qf hB rfl) ?_;conv=>whnf))
        refine qq (ds:=[.agg b.cells,i64 ((q+1:Nat):Int)]) c1 rfl rfl ?_;conv=>whnf
        repeat (first
         | (refine qa (T':=qO B 1 0 (qC T)) (by first|exact rfl|exact qh (by omega)|exact qi _|exact qd _ (by omega)) ?_;conv=>whnf)
         | (refine qa (T':=[]) (by exact qf hB rfl) ?_;conv=>whnf))
        refine qq (ds:=[.agg c.cells,i64 ((q+1:Nat):Int)]) c2 rfl rfl ?_;conv=>whnf
        repeat (first
         | (refine qa (T':=qO B 1 0 (qC T)) (by first|exact rfl|exact qh (by omega)|exact qi _|exact qd _ (by omega)) ?_;conv=>whnf)
         | (refine qa (T':=[]) (by exact qf hB rfl) ?_;conv=>whnf))
        refine qe (qb (by(try dsimp only);omega)) ?_;conv=>whnf
        repeat (first
         | (refine qa (T':=qO B 1 0 (qC T)) (by first|exact rfl|exact qh (by omega)|exact qi _|exact qd _ (by omega)) ?_;conv=>whnf)
         | (refine qa (T':=[]) (by exact qf hB rfl) ?_;conv=>whnf))
        exact⟨T,⟨hnu.symm,hS⟩,Wk.subT (zi ⟨rfl,rfl,rfl,rfl,rfl,rfl,rfl,rfl,rfl,rfl,trivial⟩) fun _ _ h=>h⟩
       | some m=>
        rw[hf1]at c1 hre;simp only at c1 hre
        cases hf2:zJ c.ents ((q+1:Nat):Int) 0 with
        | none=>
         rw[hf2]at c2 hre;simp only at c2 hre;rw[hre]at hnu;refine⟨_,Wk.refl _,?_⟩;conv=>whnf
         repeat (first
          | (refine qa (T':=qO B 1 0 (qC T)) (by first|exact rfl|exact qh (by omega)|exact qi _|exact qd _ (by omega)) ?_;conv=>whnf)
          | (refine qa (T':=[]) (by exact qf hB rfl) ?_;conv=>whnf))
         refine qj (fun _=>?_) (fun h=>absurd h (by simp;omega));conv=>whnf
         repeat (first
          | (refine qa (T':=qO B 1 0 (qC T)) (by first|exact rfl|exact qh (by omega)|exact qi _|exact qd _ (by omega)) ?_;conv=>whnf)
          | (refine qa (T':=[]) (by exact qf hB rfl) ?_;conv=>whnf))
         refine qq (ds:=[.agg b.cells,i64 ((q+1:Nat):Int)]) c1 rfl rfl ?_;conv=>whnf
         repeat (first
          | (refine qa (T':=qO B 1 0 (qC T)) (by first|exact rfl|exact qh (by omega)|exact qi _|exact qd _ (by omega)) ?_;conv=>whnf)
          | (refine qa (T':=[]) (by exact qf hB rfl) ?_;conv=>whnf))
         refine qq (ds:=[.agg c.cells,i64 ((q+1:Nat):Int)]) c2 rfl rfl ?_;conv=>whnf
         repeat (first
          | (refine qa (T':=qO B 1 0 (qC T)) (by first|exact rfl|exact qh (by omega)|exact qi _|exact qd _ (by omega)) ?_;conv=>whnf)
          | (refine qa (T':=[]) (by exact qf hB rfl) ?_;conv=>whnf))
         refine qe (qb (by(try dsimp only);omega)) ?_;conv=>whnf
         repeat (first
          | (refine qa (T':=qO B 1 0 (qC T)) (by first|exact rfl|exact qh (by omega)|exact qi _|exact qd _ (by omega)) ?_;conv=>whnf)
          | (refine qa (T':=[]) (by exact qf hB rfl) ?_;conv=>whnf))
         exact⟨T,⟨hnu.symm,hS⟩,Wk.subT (zi ⟨rfl,rfl,rfl,rfl,rfl,rfl,rfl,rfl,rfl,rfl,trivial⟩) fun _ _ h=>h⟩
        | some k=>
         rw[hf2]at c2 hre;simp only at c2 hre;have c5:=fun {σ}=>@qzp conf ((q+1:Nat):Int) (by omega) σ;by_cases hic:((q+1:Nat):Int)∈conf
         ·rw[if_pos hic]at hre
          rw[decide_eq_true hic]at c5;rw[hre]at hnu;refine⟨_,Wk.refl _,?_⟩;conv=>whnf
          repeat (first
           | (refine qa (T':=qO B 1 0 (qC T)) (by first|exact rfl|exact qh (by omega)|exact qi _|exact qd _ (by omega)) ?_;conv=>whnf)
           | (refine qa (T':=[]) (by exact qf hB rfl) ?_;conv=>whnf))
          refine qj (fun _=>?_) (fun h=>absurd h (by simp;omega));conv=>whnf
          repeat (first
           | (refine qa (T':=qO B 1 0 (qC T)) (by first|exact rfl|exact qh (by omega)|exact qi _|exact qd _ (by omega)) ?_;conv=>whnf)
           | (refine qa (T':=[]) (by exact qf hB rfl) ?_;conv=>whnf))
          refine qq (ds:=[.agg b.cells,i64 ((q+1:Nat):Int)]) c1 rfl rfl ?_;conv=>whnf
          repeat (first
           | (refine qa (T':=qO B 1 0 (qC T)) (by first|exact rfl|exact qh (by omega)|exact qi _|exact qd _ (by omega)) ?_;conv=>whnf)
           | (refine qa (T':=[]) (by exact qf hB rfl) ?_;conv=>whnf))
          refine qq (ds:=[.agg c.cells,i64 ((q+1:Nat):Int)]) c2 rfl rfl ?_;conv=>whnf
          repeat (first
           | (refine qa (T':=qO B 1 0 (qC T)) (by first|exact rfl|exact qh (by omega)|exact qi _|exact qd _ (by omega)) ?_;conv=>whnf)
           | (refine qa (T':=[]) (by exact qf hB rfl) ?_;conv=>whnf))
          refine qk (ds:=[qF conf,i64 ((q+1:Nat):Int)]) c5 rfl rfl ?_;conv=>whnf
          repeat (first
           | (refine qa (T':=qO B 1 0 (qC T)) (by first|exact rfl|exact qh (by omega)|exact qi _|exact qd _ (by omega)) ?_;conv=>whnf)
           | (refine qa (T':=[]) (by exact qf hB rfl) ?_;conv=>whnf))
          refine qe (qb (by(try dsimp only);omega)) ?_;conv=>whnf
          repeat (first
           | (refine qa (T':=qO B 1 0 (qC T)) (by first|exact rfl|exact qh (by omega)|exact qi _|exact qd _ (by omega)) ?_;conv=>whnf)
           | (refine qa (T':=[]) (by exact qf hB rfl) ?_;conv=>whnf))
          exact⟨T,⟨hnu.symm,hS⟩,Wk.subT (zi ⟨rfl,rfl,rfl,rfl,rfl,rfl,rfl,rfl,rfl,rfl,trivial⟩) fun _ _ h=>h⟩
         ·rw[if_neg hic]at hre
          rw[decide_eq_false hic]at c5;rw[hre]at hnu;obtain⟨x,_,hx,_⟩:=zQ hf1;obtain⟨y,_,hy,_⟩:=zQ hf2;rw[Nat.sub_zero]at hx hy;have hxs:=(hbR.ent x (List.mem_of_getElem? hx)).1;have hys:=(hcR.ent y (List.mem_of_getElem? hy)).1;have hml:=(List.getElem?_eq_some_iff.1 hx).1;have hkl:=(List.getElem?_eq_some_iff.1 hy).1;have hp1:=jf b m;have hp2:=jf c k;have hcs:=qbe c;have hM:=qfT hb hp1;have hN:=qfT hcb hp2;rw[hn]at hM hN;have k1:FnV Tryz.prog 105 [.agg b.cells,i64 m] (i64 (qL b m)):=qsC b m (by omega) (by omega);have k2:FnV Tryz.prog 105 [.agg c.cells,i64 k] (i64 (qL c k)):=qsC c k (by omega) (by omega);have k3:=fun {σ}=>@h73 σ i (qL b m) (by omega) (by omega);have k4:=fun {σ}=>@h73 σ j (qL c k) (by omega) (by omega);have hnu2:qsO l conf i b j c T3 (q+1)=qfO T ⟨jx l i (qL b m),jx l j (qL c k),y.shown-x.shown⟩:=by rw[hnu,qdD hx,qdD hy];rfl
          generalize jx l i (qL b m)=M at hM k3 hnu2;generalize jx l j (qL c k)=N at hN k4 hnu2;generalize qL b m=p1 at k1 k3;generalize qL c k=p2 at k2 k4;obtain⟨r0,h0,hr0⟩:=qfU hS hM.2;have hTl:=hS.len;have hRl:=qch T;refine⟨_,Wk.openT (O:=37) (B:=B) (l:=qV r0) 900001 M [(3,.box (.dd l.cells)),(13,.box (.dd b.cells)),(21,.box (.dd c.cells))] hB rfl rfl rfl (qae h0) zo rfl rfl rfl (fun k hk=>by
           repeat (first|rw[qI,if_neg (by omega)]|rw[List.cons_append]|rw[List.nil_append])) ⟨rfl,rfl,rfl,trivial⟩,?_⟩
          have hc0:((qC T).set M (.foc 900001 (qV r0).length))[M]?=some (.foc 900001 (qV r0).length):=qbx (by omega);generalize hR2:(qC T).set M (.foc 900001 (qV r0).length)=R2 at hc0 ⊢;have g0:(hdrs B 1 0 R2)[0+((M:Nat):Int).toNat]?=some [V.sl 900001 1 0 (qV r0).length]:=qaq hc0;obtain⟨x0,hx0⟩:∃ x,r0[N]?=some x:=⟨_,List.getElem?_eq_getElem (by omega)⟩;have hl0:(qV r0).length=n:=by rw[zl];exact hr0
          have v0:(qV r0)[0+((N:Nat):Int).toNat]?=some [i64 x0]:=jS hx0;conv=>whnf
          repeat (first
           | (refine qa (T':=qO B 1 0 R2) (by first|exact rfl|exact qh (by omega)|exact qi _|exact qd _ (by omega)) ?_;conv=>whnf)
           | (refine qa (T':=[]) (by exact qf hB rfl) ?_;conv=>whnf))
          refine qj (fun _=>?_) (fun h=>absurd h (by simp;omega));conv=>whnf
          repeat (first
           | (refine qa (T':=qO B 1 0 R2) (by first|exact rfl|exact qh (by omega)|exact qi _|exact qd _ (by omega)) ?_;conv=>whnf)
           | (refine qa (T':=[]) (by exact qf hB rfl) ?_;conv=>whnf))
          refine qq (ds:=[.agg b.cells,i64 ((q+1:Nat):Int)]) c1 rfl rfl ?_;conv=>whnf
          repeat (first
           | (refine qa (T':=qO B 1 0 R2) (by first|exact rfl|exact qh (by omega)|exact qi _|exact qd _ (by omega)) ?_;conv=>whnf)
           | (refine qa (T':=[]) (by exact qf hB rfl) ?_;conv=>whnf))
          refine qq (ds:=[.agg c.cells,i64 ((q+1:Nat):Int)]) c2 rfl rfl ?_;conv=>whnf
          repeat (first
           | (refine qa (T':=qO B 1 0 R2) (by first|exact rfl|exact qh (by omega)|exact qi _|exact qd _ (by omega)) ?_;conv=>whnf)
           | (refine qa (T':=[]) (by exact qf hB rfl) ?_;conv=>whnf))
          refine qk (ds:=[qF conf,i64 ((q+1:Nat):Int)]) c5 rfl rfl ?_;conv=>whnf
          repeat (first
           | (refine qa (T':=qO B 1 0 R2) (by first|exact rfl|exact qh (by omega)|exact qi _|exact qd _ (by omega)) ?_;conv=>whnf)
           | (refine qa (T':=[]) (by exact qf hB rfl) ?_;conv=>whnf))
          refine qq (ds:=[.agg b.cells,i64 m]) k1 rfl rfl ?_;conv=>whnf
          repeat (first
           | (refine qa (T':=qO B 1 0 R2) (by first|exact rfl|exact qh (by omega)|exact qi _|exact qd _ (by omega)) ?_;conv=>whnf)
           | (refine qa (T':=[]) (by exact qf hB rfl) ?_;conv=>whnf))
          refine qq (ds:=[l.d,i64 i,i64 p1]) k3 rfl rfl ?_;conv=>whnf
          repeat (first
           | (refine qa (T':=qO B 1 0 R2) (by first|exact rfl|exact qh (by omega)|exact qi _|exact qd _ (by omega)) ?_;conv=>whnf)
           | (refine qa (T':=[]) (by exact qf hB rfl) ?_;conv=>whnf))
          refine qq (ds:=[.agg c.cells,i64 k]) k2 rfl rfl ?_;conv=>whnf
          repeat (first
           | (refine qa (T':=qO B 1 0 R2) (by first|exact rfl|exact qh (by omega)|exact qi _|exact qd _ (by omega)) ?_;conv=>whnf)
           | (refine qa (T':=[]) (by exact qf hB rfl) ?_;conv=>whnf))
          refine qq (ds:=[l.d,i64 j,i64 p2]) k4 rfl rfl ?_;conv=>whnf
          repeat' (first
           | (refine qa (T':=qO B 1 0 R2) (by first|exact rfl|exact qh (by omega)|exact qi _|exact qd _ (by omega)) ?_;conv=>whnf)
           | (refine qa (T':=[]) (by exact qf hB rfl) ?_;conv=>whnf)
           | (refine qj (fun _=>?_) (fun h=>absurd h (by first|(simp;omega)|(simp[hl0];omega)|(simp[hlN];omega)));conv=>whnf)
           | (rw[g0];conv=>whnf)
           | (rw[v0];conv=>whnf)
           | (rw[g0];conv=>whnf)
           | (rw[v0];conv=>whnf))
          refine qt hy ?_;conv=>whnf
          repeat' (first
           | (refine qa (T':=qO B 1 0 R2) (by first|exact rfl|exact qh (by omega)|exact qi _|exact qd _ (by omega)) ?_;conv=>whnf)
           | (refine qa (T':=[]) (by exact qf hB rfl) ?_;conv=>whnf)
           | (refine qj (fun _=>?_) (fun h=>absurd h (by first|(simp;omega)|(simp[hl0];omega)|(simp[hlN];omega)));conv=>whnf)
           | (rw[g0];conv=>whnf)
           | (rw[v0];conv=>whnf)
           | (rw[g0];conv=>whnf)
           | (rw[v0];conv=>whnf))
          refine qt hx ?_;conv=>whnf
          repeat' (first
           | (refine qa (T':=qO B 1 0 R2) (by first|exact rfl|exact qh (by omega)|exact qi _|exact qd _ (by omega)) ?_;conv=>whnf)
           | (refine qa (T':=[]) (by exact qf hB rfl) ?_;conv=>whnf)
           | (refine qj (fun _=>?_) (fun h=>absurd h (by first|(simp;omega)|(simp[hl0];omega)|(simp[hlN];omega)));conv=>whnf)
           | (rw[g0];conv=>whnf)
           | (rw[v0];conv=>whnf)
           | (rw[g0];conv=>whnf)
           | (rw[v0];conv=>whnf))
          refine qn (y.shown-x.shown) rfl (qb (by omega)) ?_;conv=>whnf
          repeat' (first
           | (refine qa (T':=qO B 1 0 R2) (by first|exact rfl|exact qh (by omega)|exact qi _|exact qd _ (by omega)) ?_;conv=>whnf)
           | (refine qa (T':=[]) (by exact qf hB rfl) ?_;conv=>whnf)
           | (refine qj (fun _=>?_) (fun h=>absurd h (by first|(simp;omega)|(simp[hl0];omega)|(simp[hlN];omega)));conv=>whnf)
           | (rw[g0];conv=>whnf)
           | (rw[v0];conv=>whnf)
           | (rw[g0];conv=>whnf)
           | (rw[v0];conv=>whnf))
          refine qn ((q+1+1:Nat):Int) (by omega) (qb (by omega)) ?_;conv=>whnf
          repeat (first
           | (refine qa (T':=qO B 1 0 R2) (by first|exact rfl|exact qh (by omega)|exact qi _|exact qd _ (by omega)) ?_;conv=>whnf)
           | (refine qa (T':=[]) (by exact qf hB rfl) ?_;conv=>whnf))
          have e1:qfO T ⟨M,N,y.shown-x.shown⟩=T.set M (r0.set N (min x0 (y.shown-x.shown))):=qcq _ h0 hx0;have hS':Sq n (T.set M (r0.set N (min x0 (y.shown-x.shown)))):=by
           rw[<- qcq (y.shown-x.shown) h0 hx0];exact qdy hS hM.2 _ _
          generalize hq0:r0.set N (min x0 (y.shown-x.shown))=r0' at e1 hS';have hl0':r0'.length=r0.length:=by rw[<- hq0,List.length_set]
          have hE:R2.set M (.at' (qV r0'))=qC (T.set M r0'):=by rw[<- hR2,List.set_set,qaf]
          refine⟨T.set M r0',⟨by rw[hnu2,e1],hS'⟩,(Wk.closeT (O:=37) (B:=B) (rows:=R2) (n:=(qV r0).length) (l:=qV r0') 900001 M [(3,.box (.dd l.cells)),(13,.box (.dd b.cells)),(21,.box (.dd c.cells))] hB rfl rfl rfl hc0 (by rw[zl,zl,hl0']) (by rw[hE];exact zo) rfl rfl rfl (fun k hk=>by
           repeat (first|rw[qI,if_neg (by omega)]|rw[List.cons_append]|rw[List.nil_append])) ?hr2 ⟨rfl,rfl,rfl,trivial⟩).trans ?hend⟩
          case hr2=>
           show some (Obj.arr 1 (.dd ((qV r0).set (0+((N:Nat):Int).toNat) [i64 (min x0 (y.shown-x.shown))])))=_;rw[qbG,hq0]
          case hend=>
           rw[hE];exact Wk.subT (zi ⟨rfl,rfl,rfl,rfl,rfl,rfl,rfl,rfl,rfl,rfl,trivial⟩) fun _ _ h=>h
      ·rintro T ⟨hT,hS⟩
       refine⟨_,Wk.refl _,?_⟩;conv=>whnf
       repeat (first
        | (refine qa (T':=qO B 1 0 (qC T)) (by first|exact rfl|exact qh (by omega)|exact qi _|exact qd _ (by omega)) ?_;conv=>whnf)
        | (refine qa (T':=[]) (by exact qf hB rfl) ?_;conv=>whnf))
       refine qe (qb (by(try dsimp only);omega)) ?_;conv=>whnf
       repeat (first
        | (refine qa (T':=qO B 1 0 (qC T)) (by first|exact rfl|exact qh (by omega)|exact qi _|exact qd _ (by omega)) ?_;conv=>whnf)
        | (refine qa (T':=[]) (by exact qf hB rfl) ?_;conv=>whnf))
       exact⟨T,⟨by rw[qnW,<- hT3,hpj,hT];rfl,hS⟩,Wk.subG ((37,qcW B 1 (qC T)) :: [(3,.box (.dd l.cells)),(13,.box (.dd b.cells))]) hB ⟨rfl,rfl,rfl,rfl,rfl,rfl,rfl,rfl,trivial⟩ (fun k hk=>by
        repeat (first|rw[qI,if_neg (by omega)]|rw[List.cons_append]|rw[List.nil_append])) ⟨rfl,rfl,rfl,trivial⟩⟩
     ·rintro T ⟨hT,hS⟩
      refine⟨_,Wk.refl _,?_⟩;conv=>whnf
      repeat (first
       | (refine qa (T':=qO B 1 0 (qC T)) (by first|exact rfl|exact qh (by omega)|exact qi _|exact qd _ (by omega)) ?_;conv=>whnf)
       | (refine qa (T':=[]) (by exact qf hB rfl) ?_;conv=>whnf))
      refine qj (fun h=>absurd h (by simp)) (fun _=>?_);conv=>whnf
      repeat (first
       | (refine qa (T':=qO B 1 0 (qC T)) (by first|exact rfl|exact qh (by omega)|exact qi _|exact qd _ (by omega)) ?_;conv=>whnf)
       | (refine qa (T':=[]) (by exact qf hB rfl) ?_;conv=>whnf))
      refine qe (qb (by(try dsimp only);omega)) ?_;conv=>whnf
      repeat (first
       | (refine qa (T':=qO B 1 0 (qC T)) (by first|exact rfl|exact qh (by omega)|exact qi _|exact qd _ (by omega)) ?_;conv=>whnf)
       | (refine qa (T':=[]) (by exact qf hB rfl) ?_;conv=>whnf))
      exact⟨T,⟨by
       rw[qqs,<- hT0];unfold qqq;rw[qbf hb,List.foldl_append,List.foldl_append];show T=qmL l conf i (qsN l i b (qnV l w i b T0 (zn b.ents+1)) (b.ents.length-1)) l.books.length;rw[<- hT1,<- hT2];exact hT,hS⟩,Wk.subG ((37,qcW B 1 (qC T)) :: [(3,.box (.dd l.cells))]) hB ⟨rfl,rfl,rfl,rfl,rfl,rfl,trivial⟩ (fun k hk=>by
        repeat (first|rw[qI,if_neg (by omega)]|rw[List.cons_append]|rw[List.nil_append])) ⟨rfl,rfl,trivial⟩⟩
  ·rintro T0 ⟨hT0,hS0⟩
   rw[qsM]at hT0;refine⟨_,Wk.refl _,?_⟩;conv=>whnf
   repeat (first
    | (refine qa (T':=qO B 1 0 (qC T0)) (by first|exact rfl|exact qh (by omega)|exact qi _|exact qd _ (by omega)) ?_;conv=>whnf)
    | (refine qa (T':=[]) (by exact qf hB rfl) ?_;conv=>whnf))
   refine qj (fun h=>absurd h (by simp)) (fun _=>?_);conv=>whnf
   repeat (first
    | (refine qa (T':=qO B 1 0 (qC T0)) (by first|exact rfl|exact qh (by omega)|exact qi _|exact qd _ (by omega)) ?_;conv=>whnf)
    | (refine qa (T':=[]) (by exact qf hB rfl) ?_;conv=>whnf))
   refine qby (T:=tys) qm (by exact qg mixed qm (by decide +kernel)) n (fun k (T:Rws)=>⟨[(8,.d (i64 n)),(9,.sl 37 1 0 n),(27,.d (i64 k))],(37,qcW B 1 (qC T))::([(3,.box (.dd l.cells))]++qO B 1 0 (qC T)),st⟩)
    (fun k T=>T=(List.range k).foldl (fun t k=>qbw n t k) T0/\Sq n T) T0 (Wk.subT (zi ⟨rfl,rfl,rfl,trivial⟩) fun _ _ h=>h) ⟨rfl,hS0⟩ ?_ ?_
   ·rintro k T1 hk ⟨hT1,hS1⟩
    refine⟨_,Wk.refl _,?_⟩;conv=>whnf
    repeat (first
     | (refine qa (T':=qO B 1 0 (qC T1)) (by first|exact rfl|exact qh (by omega)|exact qi _|exact qd _ (by omega)) ?_;conv=>whnf)
     | (refine qa (T':=[]) (by exact qf hB rfl) ?_;conv=>whnf))
    refine qj (fun _=>?_) (fun h=>absurd h (by simp;omega));conv=>whnf
    repeat (first
     | (refine qa (T':=qO B 1 0 (qC T1)) (by first|exact rfl|exact qh (by omega)|exact qi _|exact qd _ (by omega)) ?_;conv=>whnf)
     | (refine qa (T':=[]) (by exact qf hB rfl) ?_;conv=>whnf))
    refine qby (T:=tys) qm (by exact qg mixed qm (by decide +kernel)) n (fun i (T:Rws)=>⟨[(8,.d (i64 n)),(9,.sl 37 1 0 n),(27,.d (i64 k)),(28,.d (i64 i))],(37,qcW B 1 (qC T))::([(3,.box (.dd l.cells))]++qO B 1 0 (qC T)),st⟩)
     (fun i T=>T=(List.range i).foldl (fun t i=>qsG n t i k) T1/\Sq n T) T1 (Wk.subT (zi ⟨rfl,rfl,rfl,rfl,trivial⟩) fun _ _ h=>h) ⟨rfl,hS1⟩ ?_ ?_
    ·rintro i T hi ⟨hT,hS⟩
     have hTl:=hS.len;have hRl:=qch T;obtain⟨r0,h0,hr0⟩:=qfU hS hi;have hl0:(qV r0).length=n:=by rw[zl];exact hr0
     refine⟨_,Wk.refl _,?_⟩;conv=>whnf
     repeat (first
      | (refine qa (T':=qO B 1 0 (qC T)) (by first|exact rfl|exact qh (by omega)|exact qi _|exact qd _ (by omega)) ?_;conv=>whnf)
      | (refine qa (T':=[]) (by exact qf hB rfl) ?_;conv=>whnf))
     refine qj (fun _=>?_) (fun h=>absurd h (by simp;omega));conv=>whnf
     repeat (first
      | (refine qa (T':=qO B 1 0 (qC T)) (by first|exact rfl|exact qh (by omega)|exact qi _|exact qd _ (by omega)) ?_;conv=>whnf)
      | (refine qa (T':=[]) (by exact qf hB rfl) ?_;conv=>whnf))
     by_cases hik:i=k
     ·subst hik
      have hc0:((qC T).set i (.foc 900001 (qV r0).length))[i]?=some (.foc 900001 (qV r0).length):=qbx (by omega);have hwk:=fun {σ:Type} {s:σ}=>Wk.openT (σ:=σ) (s:=s) (e:=[(8,.d (i64 n)),(9,.sl 37 1 0 n),(27,.d (i64 i)),(28,.d (i64 i)),(29,.d (i64 0))]) (h:=(37,qcW B 1 (qC T))::([(3,.box (.dd l.cells))]++qO B 1 0 (qC T))) (O:=37) (B:=B) (l:=qV r0) 900001 i [(3,.box (.dd l.cells))] hB rfl rfl rfl (qae h0) zo rfl rfl rfl (fun k hk=>by
       repeat (first|rw[qI,if_neg (by omega)]|rw[List.cons_append]|rw[List.nil_append])) ⟨rfl,trivial⟩
      generalize hR2:(qC T).set i (.foc 900001 (qV r0).length)=R2 at hc0 hwk;have g0:(hdrs B 1 0 R2)[0+((i:Nat):Int).toNat]?=some [V.sl 900001 1 0 (qV r0).length]:=qaq hc0;have gk:=g0;have hlN:=hl0;refine qby (T:=tys) qm (by exact qg mixed qm (by decide +kernel)) n (fun j (ri:List Int)=>⟨[(8,.d (i64 n)),(9,.sl 37 1 0 n),(27,.d (i64 i)),(28,.d (i64 i)),(29,.d (i64 j))],(37,qcW B 1 R2)::(900001,.arr 1 (.dd (qV ri)))::([(3,.box (.dd l.cells))]++qO B 1 0 R2),st⟩)
       (fun j ri=>(List.range j).foldl (fun t j=>qce t i i j) T=T.set i ri/\ri.length=n) r0 ((Wk.subT (e':=[(8,.d (i64 n)),(9,.sl 37 1 0 n),(27,.d (i64 i)),(28,.d (i64 i)),(29,.d (i64 0))]) (zi ⟨rfl,rfl,rfl,rfl,rfl,trivial⟩) fun _ _ h=>h).trans hwk) ⟨(qhk h0).symm,hr0⟩ ?_ ?_
      ·rintro j ri hj ⟨hri,hrl⟩
       have hkk:(T.set i ri)[i]?=some ri:=by rw[List.getElem?_set,if_pos rfl,if_pos (by omega)]
       obtain⟨a,ha⟩:∃ x,ri[i]?=some x:=⟨_,List.getElem?_eq_getElem (by omega)⟩;obtain⟨x0,hx0⟩:∃ x,ri[j]?=some x:=⟨_,List.getElem?_eq_getElem (by omega)⟩;have hcc:=hx0;have va:(qV ri)[0+((i:Nat):Int).toNat]?=some [i64 a]:=jS ha;have vc:(qV ri)[0+((j:Nat):Int).toNat]?=some [i64 x0]:=jS hcc;have v0:(qV ri)[0+((j:Nat):Int).toNat]?=some [i64 x0]:=jS hx0;have hst:=qvc (T:=T) (i:=i) (k:=i) (j:=j) (by omega) hkk ha hcc hx0;have hri2:(List.range (j+1)).foldl (fun t j=>qce t i i j) T=T.set i (if a<nvr/\x0<nvr then ri.set j (min x0 (wr (a+x0))) else ri):=by
        rw[List.range_succ,List.foldl_append,hri];exact hst
       refine⟨_,Wk.refl _,?_⟩;conv=>whnf
       repeat' (first
        | (refine qa (T':=qO B 1 0 R2) (by first|exact rfl|exact qh (by omega)|exact qi _|exact qd _ (by omega)) ?_;conv=>whnf)
        | (refine qa (T':=[]) (by exact qf hB rfl) ?_;conv=>whnf)
        | (refine qj (fun _=>?_) (fun h=>absurd h (by first|(simp;omega)|(simp[hl0];omega)|(simp[hlN];omega)));conv=>whnf)
        | (rw[g0];conv=>whnf)
        | (rw[va];conv=>whnf)
        | (rw[gk];conv=>whnf)
        | (rw[vc];conv=>whnf))
       refine qj (fun q1=>?_) (fun q1=>?_)
       ·have q1:a<nvr:=of_decide_eq_true q1
        conv=>whnf
        repeat' (first
         | (refine qa (T':=qO B 1 0 R2) (by first|exact rfl|exact qh (by omega)|exact qi _|exact qd _ (by omega)) ?_;conv=>whnf)
         | (refine qa (T':=[]) (by exact qf hB rfl) ?_;conv=>whnf)
         | (refine qj (fun _=>?_) (fun h=>absurd h (by first|(simp;omega)|(simp[hl0];omega)|(simp[hlN];omega)));conv=>whnf)
         | (rw[g0];conv=>whnf)
         | (rw[va];conv=>whnf)
         | (rw[gk];conv=>whnf)
         | (rw[vc];conv=>whnf))
        refine qj (fun q2=>?_) (fun q2=>?_)
        ·have q2:x0<nvr:=of_decide_eq_true q2
         rw[if_pos ⟨q1,q2⟩]at hri2;conv=>whnf
         repeat' (first
          | (refine qa (T':=qO B 1 0 R2) (by first|exact rfl|exact qh (by omega)|exact qi _|exact qd _ (by omega)) ?_;conv=>whnf)
          | (refine qa (T':=[]) (by exact qf hB rfl) ?_;conv=>whnf)
          | (refine qj (fun _=>?_) (fun h=>absurd h (by first|(simp;omega)|(simp[hl0];omega)|(simp[hlN];omega)));conv=>whnf)
          | (rw[g0];conv=>whnf)
          | (rw[va];conv=>whnf)
          | (rw[gk];conv=>whnf)
          | (rw[vc];conv=>whnf)
          | (rw[v0];conv=>whnf))
         refine qsL ?_;conv=>whnf
         repeat' (first
          | (refine qa (T':=qO B 1 0 R2) (by first|exact rfl|exact qh (by omega)|exact qi _|exact qd _ (by omega)) ?_;conv=>whnf)
          | (refine qa (T':=[]) (by exact qf hB rfl) ?_;conv=>whnf)
          | (refine qj (fun _=>?_) (fun h=>absurd h (by first|(simp;omega)|(simp[hl0];omega)|(simp[hlN];omega)));conv=>whnf)
          | (rw[g0];conv=>whnf)
          | (rw[va];conv=>whnf)
          | (rw[gk];conv=>whnf)
          | (rw[vc];conv=>whnf)
          | (rw[v0];conv=>whnf))
         refine qe (qb (by(try dsimp only);omega)) ?_;conv=>whnf
         repeat (first
          | (refine qa (T':=qO B 1 0 R2) (by first|exact rfl|exact qh (by omega)|exact qi _|exact qd _ (by omega)) ?_;conv=>whnf)
          | (refine qa (T':=[]) (by exact qf hB rfl) ?_;conv=>whnf))
         refine⟨_,⟨hri2,by rw[List.length_set];exact hrl⟩,Wk.subG ((37,qcW B 1 R2)::(900001,.arr 1 (.dd (qV (ri.set j (min x0 (wr (a+x0))))))) :: [(3,.box (.dd l.cells))]) hB ⟨rfl,rfl,rfl,rfl,rfl,trivial⟩ (fun k hk=>by
          repeat (first|rw[qI,if_neg (by omega)]|rw[List.cons_append]|rw[List.nil_append])) ⟨rfl,?_,rfl,trivial⟩⟩
         show some (Obj.arr 1 (.dd ((qV ri).set (0+((j:Nat):Int).toNat) [i64 (min x0 (wr (a+x0)))])))=_;rw[qbG]
        ·have q2:¬ x0<nvr:=of_decide_eq_false q2
         rw[if_neg (fun h=>q2 h.2)]at hri2;conv=>whnf
         repeat (first
          | (refine qa (T':=qO B 1 0 R2) (by first|exact rfl|exact qh (by omega)|exact qi _|exact qd _ (by omega)) ?_;conv=>whnf)
          | (refine qa (T':=[]) (by exact qf hB rfl) ?_;conv=>whnf))
         refine qe (qb (by(try dsimp only);omega)) ?_;conv=>whnf
         repeat (first
          | (refine qa (T':=qO B 1 0 R2) (by first|exact rfl|exact qh (by omega)|exact qi _|exact qd _ (by omega)) ?_;conv=>whnf)
          | (refine qa (T':=[]) (by exact qf hB rfl) ?_;conv=>whnf))
         exact⟨ri,⟨hri2,hrl⟩,Wk.subT (zi ⟨rfl,rfl,rfl,rfl,rfl,trivial⟩) fun _ _ h=>h⟩
       ·have q1:¬ a<nvr:=of_decide_eq_false q1
        rw[if_neg (fun h=>q1 h.1)]at hri2;conv=>whnf
        repeat (first
         | (refine qa (T':=qO B 1 0 R2) (by first|exact rfl|exact qh (by omega)|exact qi _|exact qd _ (by omega)) ?_;conv=>whnf)
         | (refine qa (T':=[]) (by exact qf hB rfl) ?_;conv=>whnf))
        refine qe (qb (by(try dsimp only);omega)) ?_;conv=>whnf
        repeat (first
         | (refine qa (T':=qO B 1 0 R2) (by first|exact rfl|exact qh (by omega)|exact qi _|exact qd _ (by omega)) ?_;conv=>whnf)
         | (refine qa (T':=[]) (by exact qf hB rfl) ?_;conv=>whnf))
        exact⟨ri,⟨hri2,hrl⟩,Wk.subT (zi ⟨rfl,rfl,rfl,rfl,rfl,trivial⟩) fun _ _ h=>h⟩
      ·rintro ri ⟨hri,hrl⟩
       refine⟨_,Wk.refl _,?_⟩;conv=>whnf
       repeat (first
        | (refine qa (T':=qO B 1 0 R2) (by first|exact rfl|exact qh (by omega)|exact qi _|exact qd _ (by omega)) ?_;conv=>whnf)
        | (refine qa (T':=[]) (by exact qf hB rfl) ?_;conv=>whnf))
       refine qj (fun h=>absurd h (by simp)) (fun _=>?_);conv=>whnf
       repeat (first
        | (refine qa (T':=qO B 1 0 R2) (by first|exact rfl|exact qh (by omega)|exact qi _|exact qd _ (by omega)) ?_;conv=>whnf)
        | (refine qa (T':=[]) (by exact qf hB rfl) ?_;conv=>whnf))
       refine qe (qb (by(try dsimp only);omega)) ?_;conv=>whnf
       repeat (first
        | (refine qa (T':=qO B 1 0 R2) (by first|exact rfl|exact qh (by omega)|exact qi _|exact qd _ (by omega)) ?_;conv=>whnf)
        | (refine qa (T':=[]) (by exact qf hB rfl) ?_;conv=>whnf))
       have hE:R2.set i (.at' (qV ri))=qC (T.set i ri):=by rw[<- hR2,List.set_set,qaf]
       refine⟨T.set i ri,⟨by rw[List.range_succ,List.foldl_append,<- hT];exact hri.symm,by rw[<- hri];exact(qkY hS hi i).1⟩,(Wk.closeT (O:=37) (B:=B) (rows:=R2) (n:=(qV r0).length) (l:=qV ri) 900001 i [(3,.box (.dd l.cells))] hB rfl rfl rfl hc0 (by rw[zl,zl,hr0,hrl]) (by rw[hE];exact zo) rfl rfl rfl (fun k hk=>by
        repeat (first|rw[qI,if_neg (by omega)]|rw[List.cons_append]|rw[List.nil_append])) rfl ⟨rfl,trivial⟩).trans ?_⟩
       rw[hE];exact Wk.subT (zi ⟨rfl,rfl,rfl,rfl,trivial⟩) fun _ _ h=>h
     ·obtain⟨rk,h1,hrk⟩:=qfU hS hk
      have hlk:(qV rk).length=n:=by rw[zl];exact hrk
      have hc0:(((qC T).set i (.foc 900001 (qV r0).length)).set k (.foc 900002 (qV rk).length))[i]?=some (.foc 900001 (qV r0).length):=by rw[qfS (fun h=>hik h.symm)];exact qbx (by omega)
      have hck:(((qC T).set i (.foc 900001 (qV r0).length)).set k (.foc 900002 (qV rk).length))[k]?=some (.foc 900002 (qV rk).length):=qbx (by rw[List.length_set];omega);have hwk:=fun {σ:Type} {s:σ}=>(Wk.openT (σ:=σ) (s:=s) (e:=[(8,.d (i64 n)),(9,.sl 37 1 0 n),(27,.d (i64 k)),(28,.d (i64 i)),(29,.d (i64 0))]) (h:=(37,qcW B 1 (qC T))::([(3,.box (.dd l.cells))]++qO B 1 0 (qC T))) (O:=37) (B:=B) (l:=qV r0) 900001 i [(3,.box (.dd l.cells))] hB rfl rfl rfl (qae h0) zo rfl rfl rfl (fun k hk=>by
       repeat (first|rw[qI,if_neg (by omega)]|rw[List.cons_append]|rw[List.nil_append])) ⟨rfl,trivial⟩).trans (Wk.openT (O:=37) (B:=B) (l:=qV rk) 900002 k [(900001,.arr 1 (.dd (qV r0))),(3,.box (.dd l.cells))] hB rfl rfl rfl (by rw[qfS hik];exact qae h1) (qgt zo (by decide) (by decide)) rfl rfl rfl (fun k hk=>by
       repeat (first|rw[qI,if_neg (by omega)]|rw[List.cons_append]|rw[List.nil_append])) ⟨rfl,rfl,trivial⟩)
      generalize hR2:((qC T).set i (.foc 900001 (qV r0).length)).set k (.foc 900002 (qV rk).length)=R2 at hc0 hck hwk;have g0:(hdrs B 1 0 R2)[0+((i:Nat):Int).toNat]?=some [V.sl 900001 1 0 (qV r0).length]:=qaq hc0;have gk:(hdrs B 1 0 R2)[0+((k:Nat):Int).toNat]?=some [V.sl 900002 1 0 (qV rk).length]:=qaq hck;refine qby (T:=tys) qm (by exact qg mixed qm (by decide +kernel)) n (fun j (ri:List Int)=>⟨[(8,.d (i64 n)),(9,.sl 37 1 0 n),(27,.d (i64 k)),(28,.d (i64 i)),(29,.d (i64 j))],(37,qcW B 1 R2)::(900002,.arr 1 (.dd (qV rk)))::([(900001,.arr 1 (.dd (qV ri))),(3,.box (.dd l.cells))]++qO B 1 0 R2),st⟩)
       (fun j ri=>(List.range j).foldl (fun t j=>qce t i k j) T=T.set i ri/\ri.length=n) r0 ((Wk.subT (e':=[(8,.d (i64 n)),(9,.sl 37 1 0 n),(27,.d (i64 k)),(28,.d (i64 i)),(29,.d (i64 0))]) (zi ⟨rfl,rfl,rfl,rfl,rfl,trivial⟩) fun _ _ h=>h).trans hwk) ⟨(qhk h0).symm,hr0⟩ ?_ ?_
      ·rintro j ri hj ⟨hri,hrl⟩
       have hlN:=hlk;have hkk:(T.set i ri)[k]?=some rk:=by rw[List.getElem?_set,if_neg hik];exact h1
       obtain⟨a,ha⟩:∃ x,ri[k]?=some x:=⟨_,List.getElem?_eq_getElem (by omega)⟩;obtain⟨x0,hx0⟩:∃ x,ri[j]?=some x:=⟨_,List.getElem?_eq_getElem (by omega)⟩;obtain⟨c,hcc⟩:∃ x,rk[j]?=some x:=⟨_,List.getElem?_eq_getElem (by omega)⟩;have va:(qV ri)[0+((k:Nat):Int).toNat]?=some [i64 a]:=jS ha;have vc:(qV rk)[0+((j:Nat):Int).toNat]?=some [i64 c]:=jS hcc;have v0:(qV ri)[0+((j:Nat):Int).toNat]?=some [i64 x0]:=jS hx0;have hst:=qvc (T:=T) (i:=i) (k:=k) (j:=j) (by omega) hkk ha hcc hx0;have hri2:(List.range (j+1)).foldl (fun t j=>qce t i k j) T=T.set i (if a<nvr/\c<nvr then ri.set j (min x0 (wr (a+c))) else ri):=by
        rw[List.range_succ,List.foldl_append,hri];exact hst
       refine⟨_,Wk.refl _,?_⟩;conv=>whnf
       repeat' (first
        | (refine qa (T':=qO B 1 0 R2) (by first|exact rfl|exact qh (by omega)|exact qi _|exact qd _ (by omega)) ?_;conv=>whnf)
        | (refine qa (T':=[]) (by exact qf hB rfl) ?_;conv=>whnf)
        | (refine qj (fun _=>?_) (fun h=>absurd h (by first|(simp;omega)|(simp[hl0];omega)|(simp[hlN];omega)));conv=>whnf)
        | (rw[g0];conv=>whnf)
        | (rw[va];conv=>whnf)
        | (rw[gk];conv=>whnf)
        | (rw[vc];conv=>whnf))
       refine qj (fun q1=>?_) (fun q1=>?_)
       ·have q1:a<nvr:=of_decide_eq_true q1
        conv=>whnf
        repeat' (first
         | (refine qa (T':=qO B 1 0 R2) (by first|exact rfl|exact qh (by omega)|exact qi _|exact qd _ (by omega)) ?_;conv=>whnf)
         | (refine qa (T':=[]) (by exact qf hB rfl) ?_;conv=>whnf)
         | (refine qj (fun _=>?_) (fun h=>absurd h (by first|(simp;omega)|(simp[hl0];omega)|(simp[hlN];omega)));conv=>whnf)
         | (rw[g0];conv=>whnf)
         | (rw[va];conv=>whnf)
         | (rw[gk];conv=>whnf)
         | (rw[vc];conv=>whnf))
        refine qj (fun q2=>?_) (fun q2=>?_)
        ·have q2:c<nvr:=of_decide_eq_true q2
         rw[if_pos ⟨q1,q2⟩]at hri2;conv=>whnf
         repeat' (first
          | (refine qa (T':=qO B 1 0 R2) (by first|exact rfl|exact qh (by omega)|exact qi _|exact qd _ (by omega)) ?_;conv=>whnf)
          | (refine qa (T':=[]) (by exact qf hB rfl) ?_;conv=>whnf)
          | (refine qj (fun _=>?_) (fun h=>absurd h (by first|(simp;omega)|(simp[hl0];omega)|(simp[hlN];omega)));conv=>whnf)
          | (rw[g0];conv=>whnf)
          | (rw[va];conv=>whnf)
          | (rw[gk];conv=>whnf)
          | (rw[vc];conv=>whnf)
          | (rw[v0];conv=>whnf))
         refine qsL ?_;conv=>whnf
         repeat' (first
          | (refine qa (T':=qO B 1 0 R2) (by first|exact rfl|exact qh (by omega)|exact qi _|exact qd _ (by omega)) ?_;conv=>whnf)
          | (refine qa (T':=[]) (by exact qf hB rfl) ?_;conv=>whnf)
          | (refine qj (fun _=>?_) (fun h=>absurd h (by first|(simp;omega)|(simp[hl0];omega)|(simp[hlN];omega)));conv=>whnf)
          | (rw[g0];conv=>whnf)
          | (rw[va];conv=>whnf)
          | (rw[gk];conv=>whnf)
          | (rw[vc];conv=>whnf)
          | (rw[v0];conv=>whnf))
         refine qe (qb (by(try dsimp only);omega)) ?_;conv=>whnf
         repeat (first
          | (refine qa (T':=qO B 1 0 R2) (by first|exact rfl|exact qh (by omega)|exact qi _|exact qd _ (by omega)) ?_;conv=>whnf)
          | (refine qa (T':=[]) (by exact qf hB rfl) ?_;conv=>whnf))
         refine⟨_,⟨hri2,by rw[List.length_set];exact hrl⟩,Wk.subG ((37,qcW B 1 R2)::(900002,.arr 1 (.dd (qV rk))) :: [(900001,.arr 1 (.dd (qV (ri.set j (min x0 (wr (a+c))))))),(3,.box (.dd l.cells))]) hB ⟨rfl,rfl,rfl,rfl,rfl,trivial⟩ (fun k hk=>by
          repeat (first|rw[qI,if_neg (by omega)]|rw[List.cons_append]|rw[List.nil_append])) ⟨rfl,rfl,?_,rfl,trivial⟩⟩
         show some (Obj.arr 1 (.dd ((qV ri).set (0+((j:Nat):Int).toNat) [i64 (min x0 (wr (a+c)))])))=_;rw[qbG]
        ·have q2:¬ c<nvr:=of_decide_eq_false q2
         rw[if_neg (fun h=>q2 h.2)]at hri2;conv=>whnf
         repeat (first
          | (refine qa (T':=qO B 1 0 R2) (by first|exact rfl|exact qh (by omega)|exact qi _|exact qd _ (by omega)) ?_;conv=>whnf)
          | (refine qa (T':=[]) (by exact qf hB rfl) ?_;conv=>whnf))
         refine qe (qb (by(try dsimp only);omega)) ?_;conv=>whnf
         repeat (first
          | (refine qa (T':=qO B 1 0 R2) (by first|exact rfl|exact qh (by omega)|exact qi _|exact qd _ (by omega)) ?_;conv=>whnf)
          | (refine qa (T':=[]) (by exact qf hB rfl) ?_;conv=>whnf))
         exact⟨ri,⟨hri2,hrl⟩,Wk.subT (zi ⟨rfl,rfl,rfl,rfl,rfl,trivial⟩) fun _ _ h=>h⟩
       ·have q1:¬ a<nvr:=of_decide_eq_false q1
        rw[if_neg (fun h=>q1 h.1)]at hri2;conv=>whnf
        repeat (first
         | (refine qa (T':=qO B 1 0 R2) (by first|exact rfl|exact qh (by omega)|exact qi _|exact qd _ (by omega)) ?_;conv=>whnf)
         | (refine qa (T':=[]) (by exact qf hB rfl) ?_;conv=>whnf))
        refine qe (qb (by(try dsimp only);omega)) ?_;conv=>whnf
        repeat (first
         | (refine qa (T':=qO B 1 0 R2) (by first|exact rfl|exact qh (by omega)|exact qi _|exact qd _ (by omega)) ?_;conv=>whnf)
         | (refine qa (T':=[]) (by exact qf hB rfl) ?_;conv=>whnf))
        exact⟨ri,⟨hri2,hrl⟩,Wk.subT (zi ⟨rfl,rfl,rfl,rfl,rfl,trivial⟩) fun _ _ h=>h⟩
      ·rintro ri ⟨hri,hrl⟩
       refine⟨_,Wk.refl _,?_⟩;conv=>whnf
       repeat (first
        | (refine qa (T':=qO B 1 0 R2) (by first|exact rfl|exact qh (by omega)|exact qi _|exact qd _ (by omega)) ?_;conv=>whnf)
        | (refine qa (T':=[]) (by exact qf hB rfl) ?_;conv=>whnf))
       refine qj (fun h=>absurd h (by simp)) (fun _=>?_);conv=>whnf
       repeat (first
        | (refine qa (T':=qO B 1 0 R2) (by first|exact rfl|exact qh (by omega)|exact qi _|exact qd _ (by omega)) ?_;conv=>whnf)
        | (refine qa (T':=[]) (by exact qf hB rfl) ?_;conv=>whnf))
       refine qe (qb (by(try dsimp only);omega)) ?_;conv=>whnf
       repeat (first
        | (refine qa (T':=qO B 1 0 R2) (by first|exact rfl|exact qh (by omega)|exact qi _|exact qd _ (by omega)) ?_;conv=>whnf)
        | (refine qa (T':=[]) (by exact qf hB rfl) ?_;conv=>whnf))
       have hE:(R2.set k (.at' (qV rk))).set i (.at' (qV ri))=qC (T.set i ri):=by
        rw[<- hR2,List.set_set,List.set_comm _ _ (fun h=>hik h.symm),List.set_set,qaf,qaf,qhk];rw[List.getElem?_set,if_neg hik];exact h1
       refine⟨T.set i ri,⟨by rw[List.range_succ,List.foldl_append,<- hT];exact hri.symm,by rw[<- hri];exact(qkY hS hi k).1⟩,(Wk.closeT (O:=37) (B:=B) (rows:=R2) (n:=(qV rk).length) (l:=qV rk) 900002 k [(900001,.arr 1 (.dd (qV ri))),(3,.box (.dd l.cells))] hB rfl rfl rfl hck rfl (by rw[<- hR2,List.set_set];exact qph (qgt zo (by decide) (by decide))) rfl rfl rfl (fun k hk=>by
        repeat (first|rw[qI,if_neg (by omega)]|rw[List.cons_append]|rw[List.nil_append])) rfl ⟨rfl,rfl,trivial⟩).trans ((Wk.closeT (O:=37) (B:=B) (rows:=R2.set k (.at' (qV rk))) (n:=(qV r0).length) (l:=qV ri) 900001 i [(3,.box (.dd l.cells))] hB rfl rfl rfl (by rw[qfS (fun h=>hik h.symm)];exact hc0) (by rw[zl,zl,hr0,hrl]) (by rw[hE];exact zo) rfl rfl rfl (fun k hk=>by
        repeat (first|rw[qI,if_neg (by omega)]|rw[List.cons_append]|rw[List.nil_append])) rfl ⟨rfl,trivial⟩).trans ?_)⟩
       rw[hE];exact Wk.subT (zi ⟨rfl,rfl,rfl,rfl,trivial⟩) fun _ _ h=>h
    ·rintro T ⟨hT,hS⟩
     refine⟨_,Wk.refl _,?_⟩;conv=>whnf
     repeat (first
      | (refine qa (T':=qO B 1 0 (qC T)) (by first|exact rfl|exact qh (by omega)|exact qi _|exact qd _ (by omega)) ?_;conv=>whnf)
      | (refine qa (T':=[]) (by exact qf hB rfl) ?_;conv=>whnf))
     refine qj (fun h=>absurd h (by simp)) (fun _=>?_);conv=>whnf
     repeat (first
      | (refine qa (T':=qO B 1 0 (qC T)) (by first|exact rfl|exact qh (by omega)|exact qi _|exact qd _ (by omega)) ?_;conv=>whnf)
      | (refine qa (T':=[]) (by exact qf hB rfl) ?_;conv=>whnf))
     refine qe (qb (by(try dsimp only);omega)) ?_;conv=>whnf
     repeat (first
      | (refine qa (T':=qO B 1 0 (qC T)) (by first|exact rfl|exact qh (by omega)|exact qi _|exact qd _ (by omega)) ?_;conv=>whnf)
      | (refine qa (T':=[]) (by exact qf hB rfl) ?_;conv=>whnf))
     exact⟨T,⟨by rw[List.range_succ,List.foldl_append,<- hT1];exact hT,hS⟩,Wk.subT (zi ⟨rfl,rfl,rfl,trivial⟩) fun _ _ h=>h⟩
   ·rintro T ⟨hT,hS⟩
    have hTF:T=qsH l w conf:=by
     unfold qsH qvZ;rw[hn,<- hT0];exact hT
    obtain⟨_,_,hdg,_⟩:=qxn hc hw conf;rw[hn,<- hTF]at hdg;rw[<- hTF];generalize jW l w conf=FT at hdg;have hTl:=hS.len;have hRl:=qch T;refine⟨_,Wk.refl _,?_⟩;conv=>whnf
    repeat (first
     | (refine qa (T':=qO B 1 0 (qC T)) (by first|exact rfl|exact qh (by omega)|exact qi _|exact qd _ (by omega)) ?_;conv=>whnf)
     | (refine qa (T':=[]) (by exact qf hB rfl) ?_;conv=>whnf))
    refine qj (fun h=>absurd h (by simp)) (fun _=>?_);conv=>whnf
    repeat (first
     | (refine qa (T':=qO B 1 0 (qC T)) (by first|exact rfl|exact qh (by omega)|exact qi _|exact qd _ (by omega)) ?_;conv=>whnf)
     | (refine qa (T':=[]) (by exact qf hB rfl) ?_;conv=>whnf))
    refine qby (T:=tys) qm (by exact qg mixed qm (by decide +kernel)) n (fun i (_:Unit)=>⟨[(8,.d (i64 n)),(9,.sl 37 1 0 n),(30,.d (i64 i))],(37,qcW B 1 (qC T))::([(3,.box (.dd l.cells))]++qO B 1 0 (qC T)),st⟩)
     (fun i _=>∀ m,m<i->0<=tAt T m m) () (Wk.subT (zi ⟨rfl,rfl,rfl,trivial⟩) fun _ _ h=>h) (fun m hm=>by omega) ?_ ?_
    ·rintro i _ hi hd
     obtain⟨r0,h0,hr0⟩:=qfU hS hi;obtain⟨x0,hx0⟩:∃ x,r0[i]?=some x:=⟨_,List.getElem?_eq_getElem (by omega)⟩;have hxt:tAt T i i=x0:=by unfold tAt;rw[h0,Option.getD_some,hx0];rfl
     have hl0:(qV r0).length=n:=by rw[zl];exact hr0
     have hlN:=hl0;refine⟨_,Wk.openT (O:=37) (B:=B) (l:=qV r0) 900001 i [(3,.box (.dd l.cells))] hB rfl rfl rfl (qae h0) zo rfl rfl rfl (fun k hk=>by
      repeat (first|rw[qI,if_neg (by omega)]|rw[List.cons_append]|rw[List.nil_append])) ⟨rfl,trivial⟩,?_⟩
     have hc0:((qC T).set i (.foc 900001 (qV r0).length))[i]?=some (.foc 900001 (qV r0).length):=qbx (by omega);generalize hR2:(qC T).set i (.foc 900001 (qV r0).length)=R2 at hc0 ⊢;have g0:(hdrs B 1 0 R2)[0+((i:Nat):Int).toNat]?=some [V.sl 900001 1 0 (qV r0).length]:=qaq hc0;have v0:(qV r0)[0+((i:Nat):Int).toNat]?=some [i64 x0]:=jS hx0;conv=>whnf
     repeat' (first
      | (refine qa (T':=qO B 1 0 R2) (by first|exact rfl|exact qh (by omega)|exact qi _|exact qd _ (by omega)) ?_;conv=>whnf)
      | (refine qa (T':=[]) (by exact qf hB rfl) ?_;conv=>whnf)
      | (refine qj (fun _=>?_) (fun h=>absurd h (by first|(simp;omega)|(simp[hl0];omega)|(simp[hlN];omega)));conv=>whnf)
      | (rw[g0];conv=>whnf)
      | (rw[v0];conv=>whnf)
      | (rw[g0];conv=>whnf)
      | (rw[v0];conv=>whnf))
     refine qj (fun q=>?_) (fun q=>?_)
     ·have q:x0<0:=of_decide_eq_true q
      have hF:FT=false:=by
       cases FT with
       | false=>rfl
       | true=>
        have:=qiK.1 hdg i hi;omega
      subst hF;conv=>whnf
      exact qc 0 rfl ⟨⟨rfl,rfl⟩,rfl⟩
     ·have q:¬ x0<0:=of_decide_eq_false q
      conv=>whnf
      repeat (first
       | (refine qa (T':=qO B 1 0 R2) (by first|exact rfl|exact qh (by omega)|exact qi _|exact qd _ (by omega)) ?_;conv=>whnf)
       | (refine qa (T':=[]) (by exact qf hB rfl) ?_;conv=>whnf))
      refine qe (qb (by(try dsimp only);omega)) ?_;conv=>whnf
      repeat (first
       | (refine qa (T':=qO B 1 0 R2) (by first|exact rfl|exact qh (by omega)|exact qi _|exact qd _ (by omega)) ?_;conv=>whnf)
       | (refine qa (T':=[]) (by exact qf hB rfl) ?_;conv=>whnf))
      have hE:R2.set i (.at' (qV r0))=qC T:=by rw[<- hR2,List.set_set,qaf,qhk h0]
      refine⟨(),fun m hm=>?_,(Wk.closeT (O:=37) (B:=B) (rows:=R2) (n:=(qV r0).length) (l:=qV r0) 900001 i [(3,.box (.dd l.cells))] hB rfl rfl rfl hc0 rfl (by rw[hE];exact zo) rfl rfl rfl (fun k hk=>by
       repeat (first|rw[qI,if_neg (by omega)]|rw[List.cons_append]|rw[List.nil_append])) rfl ⟨rfl,trivial⟩).trans ?_⟩
      ·by_cases hmi:m=i
       ·subst hmi;omega
       ·exact hd m (by omega)
      ·rw[hE]
       exact Wk.subT (zi ⟨rfl,rfl,rfl,trivial⟩) fun _ _ h=>h
    ·rintro _ hd
     have hF:FT=true:=by rw[<- hdg];exact qiK.2 hd
     subst hF;have eR:qC T=(T.map qV).map Rw.at':=by unfold qC;rw[List.map_map];rfl
     refine⟨⟨[(8,.d (i64 n)),(9,.sl 37 1 0 n),(30,.d (i64 n))],[(37,.arr 1 (.dd (T.map fun r=>[qF r]))),(3,.box (.dd l.cells))],st⟩,?wkf,?_⟩;case wkf=>
      rw[eR];refine(Wk.frzF (O:=37) (B:=B) (sz:=1) (ls:=T.map qV) [(3,.box (.dd l.cells))] ⟨hB,rfl,fun k hk=>by
       repeat (first|rw[qI,if_neg (by omega)]|rw[List.cons_append]|rw[List.nil_append]),by decide,fun K' m hm=>?_⟩ rfl ⟨rfl,trivial⟩).trans ?_
      ·obtain⟨y,_,hy⟩:=List.mem_map.1 hm
       cases hy
      ·rw[List.map_map]
       exact Wk.sub ⟨rfl,rfl,rfl,trivial⟩ ⟨rfl,rfl,trivial⟩
     conv=>whnf
     refine qj (fun h=>absurd h (by simp)) (fun _=>?_);conv=>whnf
     exact qc 1 (qy (je (es':=T.map fun r=>[qF r]) rfl rfl (by simp;omega)) (qy rfl rfl)) ⟨⟨rfl,rfl⟩,rfl⟩
end Go.PX
