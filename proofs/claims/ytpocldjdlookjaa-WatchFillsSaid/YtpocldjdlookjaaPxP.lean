import Derived.Test.YtpocldjdlookjaaPxO
import Derived.Test.YtpocldjdlookjaaPxN
import Derived.Test.YtpocldjdlookjaaPxL
set_option linter.all false
set_option maxRecDepth 10000
namespace Go.PX
def bO(B sz:Nat)(rows:List Rw):Obj:=.arr 1 (.vv (cu B sz 0 rows))
structure J5(B sz O K:Nat)(rows:List Rw)(h:av):Prop where
 base:3000000<=B
 arr:get h O=some (bO B sz rows)
 tail:∀ k,B<=k->get h k=get (aD B sz 0 rows) k
 low:O<3000000
 kL:HJ K rows
theorem wE{B sz K a b i:Nat}{rows:List Rw}{r':Rw}(hB:3000000<=B)(hK:K<3000000)(hf:∀ j r,rows[j]?=some r->j≠i -> ∀ K' n,r = .kL K' n->K'<3000000/\K'≠K)(vm:(a=K/\b=B+i)\/(a=B+i/\b=K))(hi:i<rows.length)
  (oc:∀ r,rows[i]?=some r->az (cK a b) (az (aQ b) (tS B sz i r))=tS B sz i r') :
  bO B sz (rows.set i r')=Obj.az (cK a b) (Obj.az (aQ b) (bO B sz rows)):=by
 show Obj.arr 1 (.vv (cu B sz 0 (rows.set i r')))=Obj.arr 1 (.vv (a7 (cK a b) (a7 (aQ b) (cu B sz 0 rows))));rw[Et hi (fun j r hr hj=>Gw hB vm hj (hf j r hr hj) hK) oc]
theorem Wk.Ic{σ:Type}{e:Env}{h:av}{s:σ}{B sz O:Nat}{rows:List Rw}(K i:Nat){l:List (List D)}(F:av)(hA:J5 B sz O K rows h)(hK:K<1000000)(JN:O≠K)(hi:rows[i]?=some (.bw l))
  (he:lE (ns K) e=true) (hF:uE (ns K) F=true) (OJ:iF h F) :
  Wk (⟨e,h,s⟩:St σ) ⟨e,(O,bO B sz (rows.set i (.kL K l.length)))::(K,.arr sz (.dd l))::(F++aD B sz 0 (rows.set i (.kL K l.length))),s⟩:=by
 obtain⟨hB,hO,hT,Se,tU⟩:=hA;have FN:i<rows.length:=(List.getElem?_eq_some_iff.1 hi).1;have nj:get h (B+i)=some (.arr sz (.dd l)):=by
  rw[hT _ (by omega),cz,if_pos (by omega),show B+i-(B+0)=i by omega,hi]
 have ij:bO B sz (rows.set i (.kL K l.length))=Obj.az (cK (B+i) K) (Obj.az (aQ K) (bO B sz rows)):=by
  refine wE hB (by omega) (fun j r hr _ K' n e=>tU K' n (by rw[<- e];exact List.mem_of_getElem? hr)) (.inr ⟨rfl,rfl⟩) FN fun r hr=>?_;rw[hi]at hr;cases hr;show az _ (az _ (.sl (B+i) sz 0 l.length)) = .sl K sz 0 l.length;have e1:az (aQ K) (.sl (B+i) sz 0 l.length) = .sl (B+i) sz 0 l.length:=by
   rw[az,aQ];simp only[fk,lV (show B+i≠K by omega)]
  rw[e1,az,cK];simp only[Nat.beq_refl]
 refine Wk.kY (K:=K) (B+i) K (by unfold pinned;omega) (by omega) (.inr (by omega)) (.inl rfl) he fun k v hv=>?_;rw[aF]at hv;split at hv
 ·rename_i hk
  subst hk;cases hv;exact .inr ⟨JN,by omega,_,hO,ij⟩
 ·rename_i EH
  rw[aF]at hv;split at hv
  ·rename_i hk
   subst hk;cases hv;exact .inl ⟨rfl,_,nj,rfl⟩
  ·rename_i Rv
   rw[cG]at hv
   cases hg:get F k with
   | some o=>
    rw[hg]at hv;cases hv;obtain⟨h1,h2⟩:=eL hF hg;have h3:=nt h1;refine .inr ⟨Rv,by omega,v,lK OJ k v hg,?_⟩;rw[gB (nm (.inl rfl)) v h2,gB (uz (.inr (by omega))) v h2]
   | none=>
    rw[hg]at hv;simp only at hv;rw[cz]at hv;split at hv
    ·rename_i M5
     rw[List.getElem?_set]at hv;by_cases Ln:i=k-(B+0)
     ·rw[if_pos Ln]at hv
      split at hv<;>simp_all
     ·rw[if_neg Ln]at hv
      refine .inr ⟨Rv,by omega,v,?_,?_⟩
      ·rw[hT k (by omega),cz,if_pos M5];exact hv
      ·split at hv
       ·cases hv;rfl
       ·cases hv
    ·cases hv
theorem Wk.Is{σ:Type}{e:Env}{h:av}{s:σ}{B sz O:Nat}{rows:List Rw}(K i:Nat){n:Nat}{l:List (List D)}(F:av)(hB:3000000<=B)(hO:get h O=some (bO B sz rows))(hT:∀ k,B<=k->get h k=get (aD B sz 0 rows) k)(Se:O<3000000)
  (tU:HJ K (rows.set i (.bw l))) (hK:K<1000000) (JN:O≠K) (hi:rows[i]?=some (.kL K n)) (hn:n=l.length) (nj:get h K=some (.arr sz (.dd l)))
  (he:lE (ns K) e=true) (hF:uE (ns K) F=true) (OJ:iF h F) :
  Wk (⟨e,h,s⟩:St σ) ⟨e,(O,bO B sz (rows.set i (.bw l)))::(F++aD B sz 0 (rows.set i (.bw l))),s⟩:=by
 have FN:i<rows.length:=(List.getElem?_eq_some_iff.1 hi).1;have ij:bO B sz (rows.set i (.bw l))=Obj.az (cK K (B+i)) (Obj.az (aQ (B+i)) (bO B sz rows)):=by
  refine wE hB (by omega) (fun j r hr hj K' m e=>tU K' m ?_) (.inl ⟨rfl,rfl⟩) FN fun r hr=>?_
  ·rw[<- e]
   refine List.mem_of_getElem? (i:=j) ?_;rw[List.getElem?_set,if_neg (fun h=>hj h.symm)];exact hr
  rw[hi]at hr;cases hr;subst hn;show az _ (az _ (.sl K sz 0 l.length)) = .sl (B+i) sz 0 l.length;have e1:az (aQ (B+i)) (.sl K sz 0 l.length) = .sl K sz 0 l.length:=by
   rw[az,aQ];simp only[fk,lV (show K≠B+i by omega)]
  rw[e1,az,cK];simp only[Nat.beq_refl]
 refine Wk.kY (K:=K) K (B+i) (by unfold pinned;omega) (by omega) (.inl rfl) (.inr (by omega)) he fun k v hv=>?_;rw[aF]at hv;split at hv
 ·rename_i hk
  subst hk;cases hv;exact .inr ⟨by omega,JN,_,hO,ij⟩
 ·rename_i EH
  rw[cG]at hv
  cases hg:get F k with
  | some o=>
   rw[hg]at hv;cases hv;obtain⟨h1,h2⟩:=eL hF hg;have h3:=nt h1;refine .inr ⟨by omega,h3.2,v,lK OJ k v hg,?_⟩;rw[gB (nm (K:=K) (.inr (by omega))) v h2,gB (uz (.inl rfl)) v h2]
  | none=>
   rw[hg]at hv;simp only at hv;rw[cz]at hv;split at hv
   ·rename_i M5
    rw[List.getElem?_set]at hv;by_cases Ln:i=k-(B+0)
    ·rw[if_pos Ln,if_pos FN]at hv
     have hk:k=B+i:=by omega
     refine .inl ⟨hk,_,nj,?_⟩;cases hv;rfl
    ·rw[if_neg Ln]at hv
     refine .inr ⟨by omega,by omega,v,?_,?_⟩
     ·rw[hT k (by omega),cz,if_pos M5];exact hv
     ·split at hv
      ·cases hv;rfl
      ·cases hv
   ·cases hv
theorem mc:∀ {l:List Nat} {k:Nat},sy l k=true↔k∈l
 | [],k=>by simp[sy]
 | i::r,k=>by
  rw[sy];by_cases h:k=i
  ·subst h;simp
  ·rw[List.mem_cons,<- mc (l:=r)]
   split
   ·rename_i h1
    have:=Nat.eq_of_beq_eq_true h1;omega
   ·simp[h]
theorem ae{B sz k i:Nat}{rows:List Rw}(f:V->V)(h:k<B):cn (Obj.az f) (cut (aD B sz i rows) k)=aD B sz i rows:=by rw[al h,an]
theorem uR{yv:Option Nat}{L:Loc}{F:Nat->Nat}{w:World}{B sz:Nat}(hs:0<sz):∀ (n i:Nat) (aX:List Value),aq yv L F w (aO (List.replicate n [D.nils])).flatten aX->aq yv L F w (cu B sz i (List.replicate n (.bw []))).flatten aX
 | 0,i,aX,h=>h
 | n+1,i,aX,h=>by
  obtain⟨x,l',rfl,hx,hl⟩:=h;have hx:x = .slice none 0 0:=hx;subst hx;exact⟨_,l',rfl,⟨none,0,rfl,Nat.le_refl _,hs,.inl ⟨rfl,rfl⟩⟩,uR hs n (i+1) l' hl⟩
theorem Wk.zz{σ:Type}{e e':Env}{s:σ}{B sz:Nat}{rows:List Rw}{h:av}(F':av)(hB:3000000<=B)(he:uY e e')(hT:∀ k,3000000<=k->get h k=get (aD B sz 0 rows) k)(hs:iF h F'):Wk (⟨e,h,s⟩:St σ) ⟨e',F'++aD B sz 0 rows,s⟩:=by
 refine Wk.Du (uZ he) fun k v hv=>?_;rw[cG]at hv
 cases hg:get F' k with
 | some o=>
  rw[hg]at hv;have hv:some o=some v:=hv;rw[<- hv];exact lK hs k o hg
 | none=>
  rw[hg]at hv;have hv:get (aD B sz 0 rows) k=some v:=hv;have hk:B<=k:=Nat.le_of_not_lt fun h=>by rw[ku h]at hv;cases hv
  rw[hT k (by omega)];exact hv
theorem wi{B sz k:Nat}(hk:k<B):∀ (ls:List (List (List D))) (i:Nat),a7 (aQ k) (cu B sz i (ls.map Rw.bw))=cu B sz i (ls.map Rw.bw)
 | [],i=>rfl
 | l::r,i=>by
  have e1:az (aQ k) (.sl (B+i) sz 0 l.length) = .sl (B+i) sz 0 l.length:=by
   rw[az,aQ];simp only[fk,lV (show B+i≠k by omega)]
  have ih:=wi (sz:=sz) hk r (i+1);show [az (aQ k) (.sl (B+i) sz 0 l.length)]::a7 (aQ k) (cu B sz (i+1) (r.map Rw.bw))=_;rw[e1,ih];rfl
theorem CA{B sz i a b k:Nat}{o1 o2:Obj}{F:av}{rows:List Rw}(ha:k≠a)(hb:k≠b)(hF:get F k=none)(hk:k<B):get ((a,o1)::(b,o2)::(F++aD B sz i rows)) k=none:=by
 rw[aF,if_neg ha,aF,if_neg hb,cG,hF];exact ku hk
def xr:List Nat->Bool
 | []=>true
 | i::r=>Nat.blt i 3000000&&xr r
theorem GY:∀ {ids:List Nat} {k:Nat},xr ids=true->3000000<=k->sy ids k=false:=by
 intro ids k h hk
 cases hc:sy ids k with
 | false=>rfl
 | true=>
  exfalso;have hm:=mc.1 hc;clear hc
  induction ids with
  | nil=>cases hm
  | cons i r ih=>
   simp only[xr,Bool.and_eq_true]at h;have h1:i<3000000:=Nat.le_of_ble_eq_true h.1;rcases List.mem_cons.1 hm with e|hm
   ·omega
   ·exact ih h.2 hm
theorem af{B sz:Nat}{ids:List Nat}(hB:3000000<=B)(h:xr ids=true):∀ {rows:List Rw} {i:Nat},aP ids (aD B sz i rows) = []
 | [],_=>rfl
 | .bw l::rs,i=>by
  rw[aD,aP,GY h (by omega)];exact af hB h
 | .kL K n::rs,i=>by rw[aD];exact af hB h
theorem ql{B sz k:Nat}(hk:k<B):∀ {rows:List Rw} {i:Nat},(∀ K n,Rw.kL K n∈rows->K≠k)->a7 (aQ k) (cu B sz i rows)=cu B sz i rows
 | [],i,_=>rfl
 | .bw l::r,i,h=>by
  have e1:az (aQ k) (.sl (B+i) sz 0 l.length) = .sl (B+i) sz 0 l.length:=by
   rw[az,aQ];simp only[fk,lV (show B+i≠k by omega)]
  have ih:=ql (sz:=sz) hk (rows:=r) (i:=i+1) fun K n hm=>h K n (by simp[hm]);show [az (aQ k) (.sl (B+i) sz 0 l.length)]::a7 (aQ k) (cu B sz (i+1) r)=_;rw[e1,ih];rfl
 | .kL K n::r,i,h=>by
  have e1:az (aQ k) (.sl K sz 0 n) = .sl K sz 0 n:=by
   rw[az,aQ];simp only[fk,lV (h K n (by simp))]
  have ih:=ql (sz:=sz) hk (rows:=r) (i:=i+1) fun K n hm=>h K n (by simp[hm]);show [az (aQ k) (.sl K sz 0 n)]::a7 (aQ k) (cu B sz (i+1) r)=_;rw[e1,ih];rfl
theorem Ag{l:List Nat}{K:List Nat->Prop}(h:K l):cO l K:=by
 induction l generalizing K with
 | nil=>exact h
 | cons n r ih=>exact ih (K:=fun r=>K (n::r)) h
end Go.PX
namespace Go.PX
open Go.Proofs
theorem sa{l:List ag}{k:Nat}{t:ag}(h:l[k]?=some t):(eW l)[0+((k:Nat):Int).toNat]?=some t.cells:=by
 unfold eW;rw[Int.toNat_natCast,Nat.zero_add,List.getElem?_map,h];rfl
theorem tv{c:ao}(hR:WR c){aL:List Int}{set:Int}(hs:gL c aL set){t:ag}(ht:mF c t):(pP c aL t).length<=25/\(∀ g∈pP c aL t,g.length<=2) /\ ∀ u∈(pP c aL t).map (aZ c t),mF c u:=by
 refine⟨?_,?_,B4 hR hs t ht⟩
 ·rw[sG hR hs ht.u,List.length_map]
  exact nb hR
 ·intro g hg
  rw[sG hR hs ht.u]at hg;obtain⟨x,hx,rfl⟩:=List.mem_map.1 hg;exact jK hR hx
theorem ye{c:ao}(hR:WR c){t u:ag}(ht:mF c t)(hu:mF c u)(h:dm t=dm u):t=u:=D0 hR t u ht hu (by unfold Gj;rw[h])
theorem rO{c:ao}(hR:WR c){aL:List Int}{set:Int}(hs:gL c aL set){t:ag}(ht:fJ c t):bQ c set t=(pP c aL t).map fun g=>(g,aZ c t g):=by
 rw[sG hR hs ht,List.map_map];have:∀ p∈bQ c set t,((fun g=>(g,aZ c t g))∘fun(x:List Int×ag)=>x.1) p=id p:=fun p hp=>by
  show(p.1,aZ c t p.1)=p;rw[<- (ig hp).2]
 rw[List.map_congr_left this,List.map_id]
structure g9(c:ao)(set:Int)(R ls:List (List Int)):Prop where
 len:ls.length=R.length
 mark:∀ (j:Nat) (row:List Int),ls[j]?=some row -> ∀ x∈row,∃ t,mF c t/\x=dm t/\dF c set (R.drop j) t=none
 nodup:∀ (j:Nat) (row:List Int),ls[j]?=some row->row.Nodup
theorem g9.MX{c:ao}(hR:WR c){set:Int}{R ls:List (List Int)}(h:g9 c set R ls){j:Nat}{row:List Int}(hj:ls[j]?=some row):row.length<=196608:=by
 have hb:∀ x∈row,0<=x/\x<196608:=fun x hx=>by
  obtain⟨t,ht,rfl,_⟩:=h.mark j row hj x hx;exact pR hR ht.u
 have hn:(row.map Int.toNat).Nodup:=by
  rw[List.nodup_iff_pairwise_ne,List.pairwise_map];exact(List.nodup_iff_pairwise_ne.1 (h.nodup j row hj)).imp_of_mem fun ha hc eA e=>eA (by have:=hb _ ha;have:=hb _ hc;omega)
 have:=KN.wx (n:=196608) hn fun k hk=>by
  obtain⟨x,hx,rfl⟩:=List.mem_map.1 hk;have:=hb x hx;omega
 simpa using this
theorem g9.zero{c:ao}{set:Int}{R:List (List Int)}:g9 c set R (List.replicate R.length []):=by
 have key:∀ (j:Nat) (row:List Int),(List.replicate R.length ([]:List Int))[j]?=some row->row = []:=fun j row hj=>List.eq_of_mem_replicate (List.mem_of_getElem? hj);refine⟨by simp,fun j row hj x hx=>?_,fun j row hj=>?_⟩
 ·rw[key j row hj]at hx;cases hx
 ·rw[key j row hj];exact List.nodup_nil
theorem g9.no{c:ao}(hR:WR c){set:Int}{R ls:List (List Int)}(h:g9 c set R ls){k:Nat}{row:List Int}(hk:ls[k]?=some row){t:ag}(ht:mF c t)(hm:dm t∈row):dF c set (R.drop k) t=none:=by
 obtain⟨u,hu,he,hf⟩:=h.mark k row hk _ hm;rw[ye hR ht hu he];exact hf
theorem g9.add{c:ao}{set:Int}{R ls:List (List Int)}(h:g9 c set R ls){k:Nat}{row:List Int}(hk:ls[k]?=some row){t:ag}(ht:mF c t)(hm:dm t∉row)(hf:dF c set (R.drop k) t=none):g9 c set R (ls.set k (row ++ [dm t])):=by
 have key:∀ (j:Nat) (r:List Int),(ls.set k (row ++ [dm t]))[j]?=some r->(j=k/\r=row ++ [dm t])\/ls[j]?=some r:=fun j r hj=>by
  rw[List.getElem?_set]at hj;split at hj
  ·rename_i e
   split at hj
   ·cases hj;exact .inl ⟨e.symm,rfl⟩
   ·cases hj
  ·exact .inr hj
 refine⟨by rw[List.length_set];exact h.len,fun j r hj x hx=>?_,fun j r hj=>?_⟩
 ·rcases key j r hj with⟨rfl,rfl⟩|hj
  ·rcases List.mem_append.1 hx with hx|hx
   ·exact h.mark _ row hk x hx
   ·rw[List.mem_singleton]at hx
    exact⟨t,ht,hx,hf⟩
  ·exact h.mark j r hj x hx
 ·rcases key j r hj with⟨rfl,rfl⟩|hj
  ·rw[List.nodup_append]
   exact⟨h.nodup _ row hk,by simp,fun a ha b hb e=>by
    rw[List.mem_singleton]at hb;subst hb;subst e;exact hm ha⟩
  ·exact h.nodup j r hj
def kE(acc:List ag)(x:ag):List ag:=if dm x∈acc.map dm then acc else acc ++ [x]
def y4(c:ao)(aL:List Int)(now:List ag):List ag:=(now.flatMap (vD c aL)).foldl kE []
def yT(c:ao)(aL:List Int):Nat->List ag->List ag
 | 0,now=>now
 | n+1,now=>yT c aL n (y4 c aL now)
structure zI(c:ao)(l:List ag):Prop where
 Jk:∀ t∈l,mF c t
 nodup:(l.map dm).Nodup
theorem zI.MX{c:ao}(hR:WR c){l:List ag}(h:zI c l):l.length<=196608:=by
 have hb:∀ x∈l.map dm,0<=x/\x<196608:=fun x hx=>by
  obtain⟨t,ht,rfl⟩:=List.mem_map.1 hx;exact pR hR (h.Jk t ht).u
 have hn:((l.map dm).map Int.toNat).Nodup:=by
  rw[List.nodup_iff_pairwise_ne,List.pairwise_map];exact(List.nodup_iff_pairwise_ne.1 h.nodup).imp_of_mem fun ha hc eA e=>eA (by have:=hb _ ha;have:=hb _ hc;omega)
 have:=KN.wx (n:=196608) hn fun k hk=>by
  obtain⟨x,hx,rfl⟩:=List.mem_map.1 hk;have:=hb x hx;omega
 simpa using this
theorem wL{c:ao}{l:List ag}(h:zI c l){x:ag}(hx:mF c x):zI c (kE l x):=by
 unfold kE;split
 ·exact h
 ·rename_i hn
  refine⟨fun t ht=>?_,?_⟩
  ·rcases List.mem_append.1 ht with ht|ht
   ·exact h.Jk t ht
   ·rw[List.mem_singleton]at ht;subst ht;exact hx
  ·rw[List.map_append,List.nodup_append]
   exact⟨h.nodup,by simp,fun a ha b hb e=>by
    rw[List.map_cons,List.map_nil,List.mem_singleton]at hb;subst hb;subst e;exact hn ha⟩
theorem C8{c:ao}(hR:WR c){l:List ag}(h:zI c l){x:ag}(hx:mF c x){t:ag}:t∈kE l x↔t∈l\/t=x:=by
 unfold kE;split
 ·rename_i hm
  obtain⟨u,hu,he⟩:=List.mem_map.1 hm;have:=ye hR (h.Jk u hu) hx he;subst this;exact⟨.inl,fun h=>h.elim id fun e=>by rw[e];exact hu⟩
 ·simp
theorem yp{c:ao}(hR:WR c):∀ {m l:List ag},zI c l->(∀ t∈m,mF c t)->zI c (m.foldl kE l) /\ ∀ t,t∈m.foldl kE l↔t∈l\/t∈m
 | [],l,h,_=>⟨h,fun t=>by simp⟩
 | x::m,l,h,hm=>by
  obtain⟨h1,h2⟩:=yp hR (m:=m) (wL h (hm x (by simp))) fun t ht=>hm t (by simp[ht]);refine⟨h1,fun t=>?_⟩;rw[List.foldl_cons,h2,C8 hR h (hm x (by simp)),List.mem_cons,or_assoc]
theorem zI.nil{c:ao}:zI c []:=⟨fun t h=>(by cases h),List.nodup_nil⟩
theorem Ee{c:ao}(hR:WR c){aL:List Int}{set:Int}(hs:gL c aL set){now:List ag}(h:∀ t∈now,mF c t):∀ t∈now.flatMap (vD c aL),mF c t:=fun t ht=>by
 obtain⟨u,hu,hm⟩:=List.mem_flatMap.1 ht;exact B4 hR hs u (h u hu) t hm
theorem Db{c:ao}(hR:WR c){aL:List Int}{set:Int}(hs:gL c aL set){now:List ag}(h:∀ t∈now,mF c t):zI c (y4 c aL now) /\ ∀ t,t∈y4 c aL now↔t∈now.flatMap (vD c aL):=by
 obtain⟨h1,h2⟩:=yp hR (l:=[]) zI.nil (Ee hR hs h);exact⟨h1,fun t=>by rw[y4,h2];simp⟩
theorem tG{f:ag->Option (List (List Int))}:∀ {gs:List (List Int×ag)},(gQ [] f gs).isSome=gs.any fun p=>(f p.2).isSome
 | []=>rfl
 | p::r=>by
  rw[gQ,if_pos (by rfl),List.any_cons]
  cases hf:f p.2 with
  | some l=>rfl
  | none=>rw[tG];rfl
theorem yU{c:ao}(hR:WR c){aL:List Int}{set:Int}(hs:gL c aL set):∀ {n:Nat} {now:List ag},(∀ t∈now,mF c t)->(yT c aL n now ≠ [] ↔ ∃ t∈now,(dF c set (List.replicate n []) t).isSome=true)
 | 0,now,h=>by
  rw[yT];constructor
  ·intro eA
   cases now with
   | nil=>exact absurd rfl eA
   | cons t r=>exact⟨t,by simp,rfl⟩
  ·rintro ⟨t,ht,_⟩ e
   rw[e]at ht;cases ht
 | n+1,now,h=>by
  obtain⟨h1,h2⟩:=Db hR hs h;rw[yT,yU hR hs h1.Jk];have hf:∀ t∈now,((dF c set (List.replicate (n+1) []) t).isSome=true ↔ ∃ u∈vD c aL t,(dF c set (List.replicate n []) u).isSome=true):=fun t ht=>by
   rw[List.replicate_succ,dF,tG,rO hR hs (h t ht).u,List.any_map,List.any_eq_true];unfold vD;constructor
   ·rintro ⟨g,hg,he⟩
    exact⟨_,List.mem_map.2 ⟨g,hg,rfl⟩,he⟩
   ·rintro ⟨u,hu,he⟩
    obtain⟨g,hg,rfl⟩:=List.mem_map.1 hu;exact⟨g,hg,he⟩
  constructor
  ·rintro ⟨u,hu,he⟩
   obtain⟨t,ht,Th⟩:=List.mem_flatMap.1 ((h2 u).1 hu);exact⟨t,ht,(hf t ht).2 ⟨u,Th,he⟩⟩
  ·rintro ⟨t,ht,he⟩
   obtain⟨u,hu,he⟩:=(hf t ht).1 he;exact⟨u,(h2 u).2 (List.mem_flatMap.2 ⟨t,ht,hu⟩),he⟩
def tE(c:ao)(aL:List Int)(t:ag)(n:Nat):Bool:=decide (yT c aL n [t] ≠ [])
theorem Cs{c:ao}(hR:WR c){t:ag}(ht:mF c t){n j:Nat}(hj:j<c.aL.length):tE c (dL c j) t n=jl c t n j:=by
 unfold tE jl;rw[sO,Bool.eq_iff_iff,decide_eq_true_iff,yU hR (r6 hR hj) (now:=[t]) fun u hu=>by
  rw[List.mem_singleton]at hu;subst hu;exact ht]
 simp
theorem Ac{B sz:Nat}{rows:List Rw}{v K n K' n':Nat}(k:Nat):get (aD B sz 0 (rows.set v (.kL K n))) k=get (aD B sz 0 ((rows.set v (.kL K n)).set v (.kL K' n'))) k:=by
 rw[cz,cz,List.set_set];split
 ·rw[List.getElem?_set,List.getElem?_set]
  by_cases h:v=k-(B+0)
  ·rw[if_pos h,if_pos h]
   by_cases h2:v<rows.length
   ·rw[if_pos h2,if_pos h2]
   ·rw[if_neg h2,if_neg h2]
  ·rw[if_neg h,if_neg h]
 ·rfl
theorem Ar{B sz v K n:Nat}{rows:List Rw}{x:List V}(hx:x = [V.sl K sz 0 n]):(cu B sz 0 rows).set v x=cu B sz 0 (rows.set v (.kL K n)):=by
 refine List.ext_getElem? fun j=>?_;rw[iA,List.getElem?_set,List.getElem?_set,tT,iA];split
 ·split
  ·rw[hx];rfl
  ·rfl
 ·rfl
theorem uH{c:ao}(hR:WR c)(DV:Int):(dL c DV).length<=5:=by
 unfold dL;rw[List.length_map];exact Nat.le_trans (List.length_filter_le _ _) (by rw[List.length_range];exact hR.aL.2)
set_option maxHeartbeats 4000000 in
theorem QT(c:ao)(hR:WR c)(t:ag)(ht:mF c t)(n:Nat)(hn:n<=40)(aL:List Int)(set:Int)(mN:gL c aL set)(GG:aL.length<=5):cy Try.prog 85 [c.d,t.d,i64 n,aj aL] (.bool (tE c aL t n)):=by
 refine bx Try.func85 rfl (ft:=Oq) 4 fun {σ} Y st=>?_;conv=>whnf
 have Lw:zI c [t]:=⟨fun u hu=>by rw[List.mem_singleton]at hu;subst hu;exact ht,by simp⟩;generalize hE:tE c aL t n=E;refine bt (T:=tys) aI (by exact au mixed aI (by decide +kernel)) (List.range n) (fun i (now:List ag)=>⟨[(2,.d (i64 n)),(3,.d (aj aL)),(4,.ptr 4 0),(9,.sl 900000 6 0 now.length),(10,.d (i64 i))],[(4,.box (.dd c.cells)),(900000,.arr 6 (.dd (eW now)))],st⟩)
  (fun i r now=>zI c now/\decide (yT c aL r.length now ≠ [])=E) [t] ((Wk.move 18 900000 rfl rfl).trans aw) ⟨Lw,by rw[List.length_range];exact hE⟩ ?_ ?_
 ·rintro i y rr now hy hi CX ⟨I1,hE⟩
  rw[List.length_range]at hi;have Pa:=I1.MX hR;conv=>whnf
  refine ak (fun _=>?_) (fun h=>absurd hi (by have:=of_decide_eq_false h;omega));conv=>whnf
  rw[List.length_cons,yT]at hE;generalize hN:y4 c aL now=N at hE;refine bt (T:=tys) aI (by exact au mixed aI (by decide +kernel)) now (fun j (acc:List ag)=>⟨[(2,.d (i64 n)),(3,.d (aj aL)),(4,.ptr 4 0),(9,.sl 900000 6 0 now.length),(10,.d (i64 i)),(11,.sl 61 6 0 acc.length),(12,.sl 66 1 0 acc.length),(13,.d (i64 j))],[(4,.box (.dd c.cells)),(900000,.arr 6 (.dd (eW now))),(61,.arr 6 (.dd (eW acc))),(66,.arr 1 (.dd (aA (acc.map dm))))],st⟩)
   (fun j r acc=>zI c acc/\(r.flatMap (vD c aL)).foldl kE acc=N /\ ∀ u∈r,mF c u) [] ((Wk.born 11 61 6 rfl rfl rfl).trans ((Wk.born 12 66 1 rfl rfl rfl).trans aw)) ⟨zI.nil,hN,I1.Jk⟩ ?_ ?_
  ·rintro j x r acc hx hj hr ⟨sj,yy,iY⟩
   have Nq:=iY x (by simp);have PV:∀ u∈r,mF c u:=fun u hu=>iY u (by simp[hu]);have Ra:cy Try.prog 97 [c.d,x.d,aj aL] (aJ (pP c aL x)):=fun {σ}=>MP c hR x Nq.u aL GG;obtain⟨db,iX,Gy⟩:=tv hR mN Nq;rw[List.flatMap_cons,List.foldl_append]at yy;have PY:vD c aL x=(pP c aL x).map (aZ c x):=rfl;rw[PY]at yy;generalize pP c aL x=gs at Ra db iX Gy yy;conv=>whnf
   refine ak (fun _=>?_) (fun h=>absurd hj (by have:=of_decide_eq_false h;simp at this;omega));conv=>whnf
   refine ak (fun _=>?_) (fun h=>absurd h (by simp[hj]));conv=>whnf
   refine gf x.cells (sa hx) ?_;conv=>whnf
   refine aE (ds:=[c.d,x.d,aj aL]) Ra rfl rfl ?_;conv=>whnf
   generalize hA:(gs.map (aZ c x)).foldl kE acc=A at yy;refine bt (T:=tys) aI (by exact au mixed aI (by decide +kernel)) gs (fun k (acc:List ag)=>⟨[(2,.d (i64 n)),(3,.d (aj aL)),(4,.ptr 4 0),(9,.sl 900000 6 0 now.length),(10,.d (i64 i)),(11,.sl 61 6 0 acc.length),(12,.sl 66 1 0 acc.length),(13,.d (i64 j)),(14,.d (aJ gs)),(15,.d (i64 k))],[(4,.box (.dd c.cells)),(900000,.arr 6 (.dd (eW now))),(61,.arr 6 (.dd (eW acc))),(66,.arr 1 (.dd (aA (acc.map dm))))],st⟩)
    (fun k r acc=>zI c acc/\(r.map (aZ c x)).foldl kE acc=A /\ ∀ g∈r,g.length<=2/\mF c (aZ c x g)) acc aw ⟨sj,hA,fun g hg=>⟨iX g hg,Gy _ (List.mem_map_of_mem hg)⟩⟩ ?_ ?_
   ·rintro k g r2 acc SB hk wb ⟨sj,ra,CQ⟩
    obtain⟨tW,JY⟩:=CQ g (by simp);rw[List.map_cons,List.foldl_cons]at ra;have Q9:cy Try.prog 78 [c.d,x.d,aj g] (aZ c x g).d:=fun {σ}=>Hw c hR x (fJ.Dv hR Nq) Nq.z g (by omega);have yK:=wL sj JY;generalize aZ c x g=u at Q9 JY ra yK;have KQ:cy Try.prog 98 [u.d] (i64 (dm u)):=fun {σ}=>MQ u (fJ.Dv hR JY);have Rt:=sj.MX hR;conv=>whnf
    refine ak (fun _=>?_) (fun h=>absurd hk (by have:=of_decide_eq_false h;simp at this;omega));conv=>whnf
    refine ak (fun _=>?_) (fun h=>absurd h (by simp[hj]));conv=>whnf
    refine gf x.cells (sa hx) ?_;conv=>whnf
    refine ai SB ?_;conv=>whnf
    refine aE (ds:=[c.d,x.d,aj g]) Q9 rfl rfl ?_;conv=>whnf
    refine aH (ds:=[u.d]) KQ rfl rfl ?_;conv=>whnf
    refine a8 (ds:=[aj (acc.map dm),i64 (dm u)]) (sE (acc.map dm) (dm u) (by rw[List.length_map];omega)) rfl 1 ?_ ?_
    ·exact aV (bI rfl (by simp[aA])) rfl
    conv=>whnf
    refine ak (fun h1=>?_) (fun h1=>?_)
    ·have h1:dm u∉acc.map dm:=by simpa using h1
     have hs:kE acc u=acc ++ [u]:=by unfold kE;rw[if_neg h1]
     rw[hs]at ra yK;conv=>whnf
     refine ar rfl ?_;conv=>whnf
     refine ar (by simp[aC.len,eW]) ?_;conv=>whnf
     refine aR (decide_eq_true (by
      show((eW acc).length+1)*48<=140737488355328;simp[eW];omega)) ?_
     conv=>whnf
     refine aE (ds:=[u.d]) KQ rfl rfl ?_;conv=>whnf
     refine ar rfl ?_;conv=>whnf
     refine ar (by simp[aC.len,aA]) ?_;conv=>whnf
     refine aR (decide_eq_true (by
      show((aA (acc.map dm)).length+1)*8<=140737488355328;simp[aA];omega)) ?_
     conv=>whnf
     refine ah ?_;conv=>whnf
     refine⟨acc ++ [u],⟨yK,ra,fun g hg=>CQ g (by simp[hg])⟩,Wk.sub ⟨rfl,rfl,rfl,rfl,rfl,?_,?_,rfl,rfl,rfl,trivial⟩ ⟨rfl,rfl,?_,?_,trivial⟩⟩
     ·show some (V.sl 61 6 0 ((eW acc).length+1))=some (V.sl 61 6 0 (acc ++ [u]).length)
      simp[eW]
     ·show some (V.sl 66 1 0 ((aA (acc.map dm)).length+1))=some (V.sl 66 1 0 (acc ++ [u]).length)
      simp[aA]
     ·show some (Obj.arr 6 (.dd (eW acc ++ [u.cells])))=some (Obj.arr 6 (.dd (eW (acc ++ [u]))))
      simp[eW]
     ·show some (Obj.arr 1 (.dd (aA (acc.map dm) ++ [[i64 (dm u)]])))=some (Obj.arr 1 (.dd (aA ((acc ++ [u]).map dm))))
      simp[aA]
    ·have h1:dm u∈acc.map dm:=by simpa using h1
     have hs:kE acc u=acc:=by unfold kE;rw[if_pos h1]
     rw[hs]at ra;conv=>whnf
     refine ah ?_;conv=>whnf
     exact⟨acc,⟨sj,ra,fun g hg=>CQ g (by simp[hg])⟩,aw⟩
   ·rintro Ke ⟨KZ,gI,_⟩
    have gI:Ke=A:=gI;subst gI;conv=>whnf
    refine ak (fun h=>absurd h (by simp)) (fun _=>?_);conv=>whnf
    refine ah ?_;conv=>whnf
    exact⟨Ke,⟨KZ,yy,PV⟩,aw⟩
  ·rintro N2 ⟨Sd,OR,_⟩
   have OR:N2=N:=OR;subst OR;conv=>whnf
   refine ak (fun h=>absurd h (by simp)) (fun _=>?_);conv=>whnf
   refine ah ?_;conv=>whnf
   exact⟨N2,⟨Sd,hE⟩,((Wk.move 61 900000 rfl rfl).trans aw)⟩
 ·rintro now ⟨I1,hE⟩
  rw[List.length_range];conv=>whnf
  refine ak (fun h=>absurd (of_decide_eq_true h) (by omega)) (fun _=>?_);conv=>whnf
  have hb:decide ((0:Int)<now.length)=E:=by
   rw[<- hE];cases now<;>simp[yT]
  rw[hb];exact ax
theorem zF{c:ao}(hR:WR c):∀ {l:List (List Int)} {t:ag} {i:Int},0<=i->mF c t->(bP c (aB c) t l i).1.1 = -1->mF c (bP c (aB c) t l i).2
 | [],t,i,_,ht,_=>ht
 | x::r,t,i,hi,ht,h=>by
  rw[bP]at h ⊢;split at h
  ·rename_i h1
   rw[if_pos h1];exact zF hR (by omega) ⟨lT hR ht.u h1,ht.z.behind hR _⟩ h
  ·simp only at h;omega
theorem kZ.Jk{c:ao}(hR:WR c){rota:List (List Int)}(h:kZ c rota):mF c (Ab c rota):=zF hR (Int.le_refl 0) (mF.zero hR) h.Ak
set_option maxHeartbeats 2000000 in
theorem QI(c:ao)(rota:List (List Int))(from_:Int):cy Try.prog 39 [c.d,aJ rota,i64 from_] (.tup [aj (if ed c rota from_=0 then oE c rota from_ else []),i64 (ed c rota from_)]):=by
 refine bx Try.func39 rfl (ft:=N0) 3 fun {σ} Y st=>?_;conv=>whnf
 refine aH (Jz c rota) rfl rfl ?_;conv=>whnf
 rcases Classical.em (b0 c rota=0) with h0|h0
 case inr=>
  have hE:ed c rota from_=b0 c rota:=by rw[ed,if_neg h0]
  rw[hE,if_neg h0];refine ak (fun h=>absurd (of_decide_eq_true h) h0) (fun _=>?_);conv=>whnf
  refine ak (fun h=>absurd (of_decide_eq_true h) h0) (fun _=>?_);conv=>whnf
  refine ak (fun _=>?_) (fun h=>absurd h (by simp[h0]));conv=>whnf
  refine dR ?_;exact ax
 obtain⟨hR,hl,_⟩:=eZ h0;have hm:=hR.aL;rw[h0];conv=>whnf
 rw[List.length_map];refine a8 (ds:=[i64 from_,i64 0,i64 rota.length]) (xN from_ 0 rota.length) rfl 1 rfl ?_;conv=>whnf
 refine ak (fun h1=>?_) (fun h1=>?_)
 ·have h1:¬ (0<=from_/\from_<=rota.length):=by
   intro h2;have:iN from_ 0 rota.length=true:=eS.2 h2;rw[this]at h1;cases h1
  have hE:ed c rota from_=7:=by rw[ed,if_pos h0,if_pos (.inl h1)]
  rw[hE];conv=>whnf
  refine dR ?_;exact ax
 have h1:0<=from_/\from_<=rota.length:=by
  have:iN from_ 0 rota.length=true:=by simpa using h1
  exact eS.1 this
 have FR:((rota.map fun r=>[aj r]).length:Int)=rota.length:=by simp
 conv=>whnf
 refine bg ((rota.length:Int)-from_) (by rw[FR]) (wrap_i64 (by omega)) ?_;conv=>whnf
 refine ak (fun h2=>?_) (fun h2=>?_)
 ·have h2:(rota.length:Int)-from_>12:=by simpa using h2
  have hE:ed c rota from_=7:=by rw[ed,if_pos h0,if_pos (.inr h2)]
  rw[hE];conv=>whnf
  refine dR ?_;exact ax
 have h2:¬ (rota.length:Int)-from_>12:=by simpa using h2
 conv=>whnf
 refine aH (QO c rota) rfl rfl ?_;conv=>whnf
 have Sz:ed c rota from_=df c rota:=by
  rw[ed,df,if_pos h0,if_pos h0,if_neg (by omega)]
 rw[Sz];rcases Classical.em (df c rota=0) with hg|hg
 case inr=>
  rw[if_neg hg];refine ak (fun _=>?_) (fun h=>absurd h (by simp[hg]));conv=>whnf
  refine dR ?_;exact ax
 rw[if_pos hg,hg];have hG:=kZ.of hg;obtain⟨k,rfl⟩:∃ k:Nat,from_=k:=⟨from_.toNat,by omega⟩;have hk:k<=rota.length:=by omega
 have Rf:kZ c (rota.take k):=kZ.pre (b:=rota.drop k) (by rw[List.take_append_drop];exact hG);have hT:rW c rota k=Ab c (rota.take k):=by unfold rW Ab;rw[Int.toNat_natCast]
 have P4:=Rf.Jk hR;have Q8:cy Try.prog 76 [c.d,aJ (rota.take k)] (Ab c (rota.take k)).d:=fun {σ}=>QQ c hR (rota.take k) Rf (by rw[List.length_take];omega);generalize hM:oE c rota k=M;unfold oE at hM;rw[hT,Int.toNat_natCast]at hM;generalize Ab c (rota.take k)=t at P4 Q8 hM;conv=>whnf
 refine aR (by rw[FR];simp;omega) ?_;conv=>whnf
 refine aR (by cases rota<;>rfl) ?_;conv=>whnf
 have xW:(((rota.map fun r=>[aj r]).take ((k:Nat):Int).toNat).drop 0)=(rota.take k).map fun r=>[aj r]:=by simp[List.map_take]
 rw[xW];refine aE (ds:=[c.d,aJ (rota.take k)]) Q8 rfl rfl ?_;conv=>whnf
 refine bt (T:=tys) aI (by exact au mixed aI (by decide +kernel)) (List.range c.aL.length) (fun j (acc:List Int)=>⟨[(1,.d (aJ rota)),(2,.d (i64 k)),(3,.ptr 3 0),(9,.ptr 9 0),(10,.sl 64 1 0 acc.length),(11,.d (i64 j))],[(3,.box (.dd c.cells)),(9,.box (.dd t.cells)),(64,.arr 1 (.dd (aA acc)))],st⟩)
  (fun j r acc=>acc.length<=j/\M=acc++(r.filter fun(i:Nat)=>jl c t (rota.length-k) i).map fun(i:Nat)=>(i:Int)) [] ((Wk.born 10 64 1 rfl rfl rfl).trans aw) ⟨by simp,hM.symm⟩ ?_ ?_
 ·rintro j x r acc hx hj wb ⟨sQ,he⟩
  have FX:j=x:=by
   rw[List.getElem?_range (by simpa using hj)]at hx;exact Option.some.inj hx
  subst FX;have BE:j<c.aL.length:=by simpa using hj
  have Q7:cy Try.prog 50 [c.d,i64 j] (aj (dL c j)):=fun {σ}=>MK c hm.2 j;have OG:cy Try.prog 85 [c.d,t.d,i64 ((rota.length-k:Nat):Int),aj (dL c j)] (.bool (tE c (dL c j) t (rota.length-k))):=fun {σ}=>QT c hR t P4 (rota.length-k) (by omega) (dL c j) (cN c j) (r6 hR BE) (uH hR j);rw[Cs hR P4 BE]at OG;generalize dL c j=O at Q7 OG;have mK:∀ b:Bool,jl c t (rota.length-k) j=b->((j::r).filter fun(i:Nat)=>jl c t (rota.length-k) i)=(if b then [j] else [])++r.filter fun(i:Nat)=>jl c t (rota.length-k) i:=by
   intro b hb;rw[List.filter_cons,hb];cases b<;>rfl
  conv=>whnf
  refine ak (fun _=>?_) (fun h=>absurd BE (by have:=of_decide_eq_false h;simp at this;omega));conv=>whnf
  refine bg ((rota.length-k:Nat):Int) (by rw[FR];omega) (wrap_i64 (by omega)) ?_;conv=>whnf
  refine aE (ds:=[c.d,i64 j]) Q7 rfl rfl ?_;conv=>whnf
  refine aE (ds:=[c.d,t.d,i64 ((rota.length-k:Nat):Int),aj O]) OG rfl rfl ?_
  cases hb:jl c t (rota.length-k) j with
  | false=>
   rw[mK false hb]at he;conv=>whnf
   refine ah ?_;conv=>whnf
   exact⟨acc,⟨by omega,by simpa using he⟩,aw⟩
  | true=>
   rw[mK true hb]at he;conv=>whnf
   refine ar rfl ?_;conv=>whnf
   refine ar (by simp[aC.len,aA]) ?_;conv=>whnf
   refine aR (decide_eq_true (by
    show((aA acc).length+1)*8<=140737488355328;simp[aA];omega)) ?_
   conv=>whnf
   refine ah ?_;conv=>whnf
   refine⟨acc ++ [(j:Int)],⟨by simp;omega,by simpa using he⟩,Wk.sub ⟨rfl,rfl,rfl,rfl,?_,rfl,trivial⟩ ⟨rfl,rfl,?_,trivial⟩⟩
   ·show some (V.sl 64 1 0 ((aA acc).length+1))=some (V.sl 64 1 0 (acc ++ [(j:Int)]).length)
    simp[aA]
   ·show some (Obj.arr 1 (aC.dd (aA acc ++ [[i64 (j:Int)]])))=some (Obj.arr 1 (aC.dd (aA (acc ++ [(j:Int)]))))
    simp[aA]
 ·rintro acc ⟨_,he⟩
  have he:M=acc:=by simpa using he
  rw[he];rw[List.length_range];conv=>whnf
  refine ak (fun h=>absurd h (by simp)) (fun _=>?_);conv=>whnf
  refine ba 1 (ds:=[aj acc,i64 0]) ?_ ⟨⟨rfl,rfl⟩,rfl⟩;exact aV (bI (es:=aA acc) rfl (by simp[aA])) rfl
end Go.PX
namespace Go.PX
mutual
theorem rj{p:Nat->Bool}:∀ (v:V),uC p v=true -> ∀ i∈bq v,p i=true
 | .d _,_,i,h=>by simp[bq]at h
 | .agg cs,hk,i,h=>mq cs (by simpa[uC]using hk) i (by simpa[bq]using h)
 | .tup cs,hk,i,h=>mq cs (by simpa[uC]using hk) i (by simpa[bq]using h)
 | .clo _ cs,hk,i,h=>mq cs (by simpa[uC]using hk) i (by simpa[bq]using h)
 | .ptr j _,hk,i,h=>by simp[bq]at h;subst h;simpa[uC]using hk
 | .ep j _ _ _,hk,i,h=>by simp[bq]at h;subst h;simpa[uC]using hk
 | .sl j _ _ _,hk,i,h=>by simp[bq]at h;subst h;simpa[uC]using hk
 | .mp j,hk,i,h=>by simp[bq]at h;subst h;simpa[uC]using hk
 | .it j,hk,i,h=>by simp[bq]at h;subst h;simpa[uC]using hk
 | .yld,_,i,h=>by simp[bq]at h
 | .unk,_,i,h=>by simp[bq]at h
theorem mq{p:Nat->Bool}:∀ (l:List V),qB p l=true -> ∀ i∈bm l,p i=true
 | [],_,i,h=>by simp[bm]at h
 | v::r,hk,i,h=>by
  rw[qB,Bool.and_eq_true]at hk;rw[bm,List.mem_append]at h;rcases h with h|h
  ·exact rj v hk.1 i h
  ·exact mq r hk.2 i h
end
theorem y6{p:Nat->Bool}:∀ (l:List (List V)),wz p l=true -> ∀ i∈bm l.flatten,p i=true
 | [],_,i,h=>by simp[bm]at h
 | v::r,hk,i,h=>by
  rw[wz,Bool.and_eq_true]at hk;rw[List.flatten_cons,jq,List.mem_append]at h;rcases h with h|h
  ·exact mq v hk.1 i h
  ·exact y6 r hk.2 i h
theorem xx{p:Nat->Bool}:∀ (o:Obj),G7 p o=true -> ∀ i∈bU o,p i=true
 | .box (.dd _),_,i,h=>by simp[bU]at h
 | .box (.vv l),hk,i,h=>mq l hk i (by simpa[bU]using h)
 | .arr _ (.dd _),_,i,h=>by simp[bU]at h
 | .arr n (.vv l),hk,i,h=>y6 l hk i (by simpa[bU]using h)
 | .map _,_,i,h=>by simp[bU]at h
 | .iter _ _,_,i,h=>by simp[bU]at h
 | .buf _ _,_,i,h=>by simp[bU]at h
 | .tb t l,hk,i,h=>mq l hk i (by simpa[bU]using h)
 | .mit v n l u,hk,i,h=>rj v hk i (by simpa[bU]using h)
theorem Good.Qr{σ:Type}{cx:Cx σ}{r:Option Nat}{m:List Nat}{L:Loc}{F:Nat->Nat}{a:Act}{w:World}{e e':Env}{h h':av}{s:σ}(hh:Good cx r m L F ⟨e,h,s⟩ a w)(R S:Nat->Nat)(hS:∀ i,pinned i->S i=i)
  (he:∀ k v',get e' k=some v' -> ∃ v,get e k=some v/\v'=az (fG R) v /\ ∀ i,fD v i->S (R i)=i)
  (hH:∀ k o',get h' k=some o' -> ∃ o,get h (S k)=some o/\o'=ir R o/\R (S k)=k /\ ∀ i,jg o i->S (R i)=i) :
  Good cx r m ⟨fun x=>L.ρ (S x),fun x=>L.κ (S x)⟩ F ⟨e',h',s⟩ a w:=by
 refine⟨⟨hh.heap.hg,hh.heap.iW,hh.heap.fresh,fun k o' hk=>?_,fun k o' hk hb=>?_,fun i j o p hi hj kj gJ jN=>?_⟩,fun k v' hk=>?_,hh.sI,hh.oe,hh.uy,hh.lk,fun i hp=>?_,hh.sD⟩
 ·obtain⟨o,h1,rfl,h3,h4⟩:=hH k o' hk
  exact(bG.kY (R:=R) (L:=L) (L':=⟨fun x=>L.ρ (S x),fun x=>L.κ (S x)⟩) (S k) o (fun i hi=>by
   show L.ρ (S (R i))=L.ρ i/\L.κ (S (R i))=L.κ i;rw[h4 i hi];exact⟨rfl,rfl⟩) ⟨rfl,rfl⟩).2 (hh.heap.obj _ o h1)
 ·obtain⟨o,h1,rfl,h3,h4⟩:=hH k o' hk
  exact hh.heap.own (S k) o h1 ((bN (R:=R) (L:=L) (L':=⟨fun x=>L.ρ (S x),fun x=>L.κ (S x)⟩) (S k) o (id':=k) rfl).1 hb)
 ·obtain⟨o1,h1,rfl,h3,h4⟩:=hH i o hi
  obtain⟨o2,g1,rfl,g3,g4⟩:=hH j p hj;have:=hh.heap.inj (S i) (S j) o1 o2 h1 g1 ((bN (R:=R) (L:=L) (L':=⟨fun x=>L.ρ (S x),fun x=>L.κ (S x)⟩) (S i) o1 (id':=i) rfl).1 kj)
   ((bN (R:=R) (L:=L) (L':=⟨fun x=>L.ρ (S x),fun x=>L.κ (S x)⟩) (S j) o2 (id':=j) rfl).1 gJ) jN
  rw[<- h3,<- g3,this]
 ·obtain⟨v,h1,rfl,h3⟩:=he k v' hk
  obtain⟨x,hx,hr⟩:=hh.env k v h1;exact⟨x,hx,(a6.kY (R:=R) (L:=L) (L':=⟨fun x=>L.ρ (S x),fun x=>L.κ (S x)⟩) v x (fun i hi=>by
   show L.ρ (S (R i))=L.ρ i/\L.κ (S (R i))=L.κ i;rw[h3 i hi];exact⟨rfl,rfl⟩)).2 hr⟩
 ·show L.ρ (S i)=cx.pρ i/\L.κ (S i)=cx.pκ i
  rw[hS i hp];exact hh.lG i hp
def pk(X k:Nat):Bool:=Nat.blt k 3000000&&(Nat.blt k X||Nat.ble (X+64) k)
theorem im{X k:Nat}(h:pk X k=true):k<3000000/\(k<X\/X+64<=k):=by
 unfold pk at h;rw[Bool.and_eq_true,Bool.or_eq_true]at h;exact⟨Nat.le_of_ble_eq_true h.1,h.2.imp (fun h=>Nat.le_of_ble_eq_true h) (fun h=>Nat.le_of_ble_eq_true h)⟩
def zg(A B i:Nat):Nat:=if A<=i/\i<A+64 then i-A+B else i
theorem BY{A B sz:Nat}:∀ (ls:List (List (List D))) (i:Nat),i+ls.length<=64->a7 (fG (zg A B)) (cu A sz i (ls.map Rw.bw))=cu B sz i (ls.map Rw.bw)
 | [],i,_=>rfl
 | l::r,i,h=>by
  rw[List.length_cons]at h;have ih:=BY (A:=A) (B:=B) (sz:=sz) r (i+1) (by omega);show [az (fG (zg A B)) (.sl (A+i) sz 0 l.length)]::a7 (fG (zg A B)) (cu A sz (i+1) (r.map Rw.bw))=_;rw[ih];have:zg A B (A+i)=B+i:=by
   unfold zg;rw[if_pos (by omega)];omega
  rw[az,fG,this];rfl
theorem mi{A sz:Nat}:∀ (ls:List (List (List D))) (i j:Nat),j∈bm (cu A sz i (ls.map Rw.bw)).flatten->A+i<=j/\j<A+i+ls.length
 | [],i,j,h=>by simp[cu,bm]at h
 | l::r,i,j,h=>by
  have h:j∈bm (V.sl (A+i) sz 0 l.length::(cu A sz (i+1) (r.map Rw.bw)).flatten):=h;rw[bm,List.mem_append]at h;rw[List.length_cons];rcases h with h|h
  ·have h:j ∈ [A+i]:=h
   rw[List.mem_singleton]at h;omega
  ·have:=mi r (i+1) j h
   omega
theorem Wk.xF{σ:Type}{e:Env}{s:σ}(X A B:Nat){sz O:Nat}{ls:List (List (List D))}{F:av}(hX:X+64<=3000000)(JL:(A=X/\3000000<=B)\/(3000000<=A/\B=X /\ ∀ i,X<=i->i<X+64->¬ pinned i))(hn:ls.length<=64)
  (hO:pk X O=true) (he:lE (pk X) e=true) (hF:uE (pk X) F=true) :
  Wk (⟨e,(O,bO A sz (ls.map Rw.bw))::(F++aD A sz 0 (ls.map Rw.bw)),s⟩:St σ) ⟨e,(O,bO B sz (ls.map Rw.bw))::(F++aD B sz 0 (ls.map Rw.bw)),s⟩:=by
 intro cx r m L G a w hg;have key:∀ k,pk X k=true->zg A B k=k/\zg B A k=k:=fun k hk=>by
  have:=im hk;unfold zg;exact⟨if_neg (by omega),if_neg (by omega)⟩
 have PM:∀ i,pinned i->zg B A i=i:=fun i hi=>by
  unfold zg;refine if_neg fun h=>?_;rcases JL with h1|h1
  ·unfold pinned at hi;omega
  ·exact h1.2.2 i (by omega) (by omega) hi
 have RB:∀ v k,fk v=some k->pk X k=true->fG (zg A B) v=v:=fun v k hv hk=>by
  have:=(key k hk).1;cases v<;>simp[fk]at hv<;>subst hv<;>simp[fG,this]
 have Ly:∀ k:Nat,(A<=k/\k<A+64)->pk X k=true->False:=fun k hk hf=>by
  have:=im hf;omega
 refine⟨_,G,hg.Qr (zg A B) (zg B A) PM (fun k v hk=>?_) (fun k o hk=>?_),Tr.refl G w⟩
 ·have e7:=lF he hk
  refine⟨v,hk,(il RB v e7).symm,fun i hi=>?_⟩;have h1:=key i (rj v e7 i (dD i v hi));rw[h1.1,h1.2]
 ·rw[aF]at hk
  split at hk
  ·rename_i EH
   subst EH;cases hk;have h1:=key k hO;refine⟨bO A sz (ls.map Rw.bw),by rw[h1.2,aF,if_pos rfl],?_,by rw[h1.2,h1.1],fun i hi=>?_⟩
   ·show Obj.arr 1 (.vv (cu B sz 0 (ls.map Rw.bw)))=Obj.arr 1 (.vv (a7 (fG (zg A B)) (cu A sz 0 (ls.map Rw.bw))))
    rw[BY ls 0 (by omega)]
   ·have h2:i∈bm (cu A sz 0 (ls.map Rw.bw)).flatten:=by
     have:=cp i _ hi;simpa[bO,bU]using this
    have h3:=mi ls 0 i h2;unfold zg;rw[if_pos (show A<=i/\i<A+64 by omega),if_pos (by omega)];omega
  ·rename_i EH
   rw[cG]at hk
   cases At:get F k with
   | some o1=>
    rw[At]at hk;have hk:some o1=some o:=hk;cases hk;obtain⟨k1,k2⟩:=eL hF At;have h1:=key k k1;refine⟨o,by rw[h1.2,aF,if_neg EH,cG,At],(gB RB o k2).symm,by rw[h1.2,h1.1],fun i hi=>?_⟩;have h2:=key i (xx o k2 i (cp i o hi));rw[h2.1,h2.2]
   | none=>
    rw[At]at hk;have hk:get (aD B sz 0 (ls.map Rw.bw)) k=some o:=hk;rw[cz]at hk;split at hk
    ·rename_i M5
     rw[List.getElem?_map]at hk
     cases hl:ls[k-(B+0)]? with
     | none=>rw[hl]at hk;cases hk
     | some l=>
      rw[hl]at hk;have hk:some (Obj.arr sz (.dd l))=some o:=hk;cases hk;have eC:=(List.getElem?_eq_some_iff.1 hl).1;have hS:zg B A k=k-B+A:=if_pos (by omega);have eA:k-B+A≠O:=fun h=>Ly (k-B+A) (by omega) (by rw[h];exact hO);have LA:get F (k-B+A)=none:=by
       cases hc:get F (k-B+A) with
       | none=>rfl
       | some o2=>exact(Ly (k-B+A) (by omega) (eL hF hc).1).elim
      refine⟨.arr sz (.dd l),?_,rfl,?_,fun i hi=>?_⟩
      ·rw[hS,aF,if_neg eA,cG,LA]
       show get (aD A sz 0 (ls.map Rw.bw)) (k-B+A)=_;rw[cz,if_pos (by omega),List.getElem?_map,show k-B+A-(A+0)=k-(B+0) by omega,hl];rfl
      ·rw[hS]
       unfold zg;rw[if_pos (by omega)];omega
      ·have:=cp i _ hi
       simp[bU]at this
    ·cases hk
theorem jX{R:Nat->Nat}{h':av}:∀ {l:List Nat} {b:Nat} {f:Fs} {x:Nat},x∉l->(bz f (dy R h' b l)).heap x=f.heap x
 | [],b,f,x,_=>rfl
 | k::r,b,f,x,hx=>by
  rw[List.mem_cons,not_or]at hx;simp only[dy,bz];rw[jX hx.2];split<;>simp[dN,hx.1]
theorem s4{R:Nat->Nat}{h':av}:∀ {l:List Nat} {f:Fs} {x:Nat},x∉l.map R->(bz f (fZ R h' l)).heap x=f.heap x
 | [],f,x,_=>rfl
 | k::r,f,x,hx=>by
  rw[List.map_cons,List.mem_cons,not_or]at hx;simp only[fZ,bz];rw[s4 hx.2];split<;>simp[dN,hx.1]
theorem AP{R:Nat->Nat}{h':av}:∀ {l:List Nat} {f:Fs} {i:Nat} {o:Obj},i∈l->(∀ a∈l,∀ b∈l,R a=R b->a=b)->get h' i=some o->(bz f (fZ R h' l)).heap (R i)=some (ir R o)
 | k::r,f,i,o,hi,sq,ho=>by
  simp only[fZ,bz];by_cases hr:i∈r
  ·exact AP hr (fun a ha b hb=>sq a (List.mem_cons_of_mem _ ha) b (List.mem_cons_of_mem _ hb)) ho
  ·have hk:i=k:=(List.mem_cons.1 hi).resolve_right hr
   subst hk;rw[s4 (fun hm=>by
    obtain⟨j,hj,jN⟩:=List.mem_map.1 hm;have:=sq j (List.mem_cons_of_mem _ hj) i (List.mem_cons_self ..) jN;subst this;exact hr hj),ho]
   simp[dN]
theorem lD:∀ {l:List Nat},l.Nodup->e8 l=true
 | [],_=>rfl
 | k::r,h=>by
  obtain⟨h1,h2⟩:=List.nodup_cons.1 h;have:sy r k=false:=by
   cases hc:sy r k with
   | false=>rfl
   | true=>exact absurd (mc.1 hc) h1
  rw[e8,this,lD h2];rfl
theorem sJ:∀ {a b:List Nat},(∀ i∈a,i∉b)->iI a b=true
 | [],b,_=>rfl
 | k::r,b,h=>by
  have:sy b k=false:=by
   cases hc:sy b k with
   | false=>rfl
   | true=>exact absurd (mc.1 hc) (h k (List.mem_cons_self ..))
  rw[iI,this];exact sJ fun i hi=>h i (List.mem_cons_of_mem _ hi)
theorem th{n:Nat}{nk:List Nat}:∀ {l:List Nat},(∀ i∈l,(1000000<=i/\i<1000000+n)\/i∈nk)->rI n nk l=true
 | [],_=>rfl
 | k::r,h=>by
  rw[rI,th fun i hi=>h i (List.mem_cons_of_mem _ hi),Bool.and_true,Bool.or_eq_true,Bool.and_eq_true];rcases h k (List.mem_cons_self ..) with h1|h1
  ·exact .inl ⟨Nat.ble_eq_true_of_le h1.1,Nat.ble_eq_true_of_le h1.2⟩
  ·exact .inr (mc.2 h1)
theorem kB:∀ {l:List Nat} {R:Nat->Nat} {h':av} {b:Nat} {d:Option Nat} {v:V},cE (dy R h' b l++a9 d v)=true
 | [],R,h',b,d,v=>by
  cases d with
  | none=>rfl
  | some d=>rfl
 | k::r,R,h',b,d,v=>by
  have h0:bB (dy R h' (b+1) r++a9 d v) = []:=by rw[gW,kf,mD];rfl
  rw[dy,List.cons_append]
  cases get h' b with
  | some o=>
   show cE (.obj k (ir R o)::(dy R h' (b+1) r++a9 d v))=true;rw[cE,h0];exact kB
  | none=>
   show cE (.del k::(dy R h' (b+1) r++a9 d v))=true;rw[cE];exact kB
theorem pj{R:Nat->Nat}{h':av}{ws:List Wr}(h0:bB ws = [])(h1:cE ws=true):∀ {l:List Nat},(∀ i∈l,∃ sz x,get h' i=some (.arr sz (.dd x)))->(l.map R).Nodup->cE (fZ R h' l++ws)=true
 | [],_,_=>h1
 | k::r,ha,qT=>by
  obtain⟨sz,x,hx⟩:=ha k (List.mem_cons_self ..);rw[List.map_cons,List.nodup_cons]at qT;rw[fZ,hx,List.cons_append];show cE (.new (R k) (.arr sz (.dd x))::(fZ R h' r++ws))=true;rw[cE,gW,rE,h0,List.append_nil];have:iI (r.map R) (R k::bU (.arr sz (.dd x)))=true:=sJ fun i hi hm=>by
   have hm:i ∈ [R k]:=hm;rw[List.mem_singleton]at hm;subst hm;exact qT.1 hi
  rw[this];exact pj h0 h1 (fun i hi=>ha i (List.mem_cons_of_mem _ hi)) qT.2
theorem qI{R:Nat->Nat}{A B sz:Nat}:∀ (ls:List (List (List D))) (i:Nat),(∀ j,i<=j->j<i+ls.length->R (A+j)=B+j)->a7 (fG R) (cu A sz i (ls.map Rw.bw))=cu B sz i (ls.map Rw.bw)
 | [],i,_=>rfl
 | l::r,i,h=>by
  have ih:=qI (R:=R) (A:=A) (B:=B) (sz:=sz) r (i+1) fun j h1 h2=>h j (by omega) (by rw[List.length_cons];omega);show [az (fG R) (.sl (A+i) sz 0 l.length)]::a7 (fG R) (cu A sz (i+1) (r.map Rw.bw))=_;rw[ih,az,fG,h i (Nat.le_refl _) (by rw[List.length_cons];omega)];rfl
theorem nA{sz:Nat}:∀ (ls:List (List (List D))) (i:Nat),cq (aD 2000000 sz i (ls.map Rw.bw))=List.range' (2000000+i) ls.length
 | [],i=>rfl
 | l::r,i=>by
  have hb:Nat.blt (2000000+i) 2000000=false:=by
   rw[Bool.eq_false_iff];intro h;have:=Nat.le_of_ble_eq_true h;omega
  rw[List.map_cons,aD,cq,hb,List.length_cons,List.range'_succ,nA r (i+1)];rfl
theorem kP{B sz:Nat}:∀ (ls:List (List (List D))) (i k:Nat),k∈bT (aD B sz i (ls.map Rw.bw))->B+i<=k/\k<B+i+ls.length
 | [],i,k,h=>by simp[aD,bT]at h
 | l::r,i,k,h=>by
  have h:k∈(B+i)::bT (aD B sz (i+1) (r.map Rw.bw)):=h;rw[List.length_cons];rcases List.mem_cons.1 h with h|h
  ·omega
  ·have:=kP r (i+1) k h
   omega
theorem ur{R:Nat->Nat}{h:av}{B sz:Nat}:∀ (ls:List (List (List D))) (i:Nat),(∀ j l,ls[j]?=some l->get h (B+(i+j))=some (.arr sz (.dd l)))->gb R h (1000001+i) ((List.range' (B+i) ls.length)) (aD 1000001 sz i (ls.map Rw.bw))
 | [],i,_=>rfl
 | l::r,i,hl=>by
  rw[List.length_cons,List.range'_succ];refine⟨.arr sz (.dd l),aD 1000001 sz (i+1) (r.map Rw.bw),rfl,hl 0 l rfl,?_⟩;exact ur r (i+1) fun j m hm=>by
   have:=hl (j+1) m (by simpa using hm)
   rwa [show i+(j+1)=i+1+j by omega]at this
theorem qA{p:Nat->Bool}{d:Nat}{x:D}:∀ {e:Env},lE p e=true->lE p (put e d (.d x))=true
 | [],_=>rfl
 | (s,u)::r,h=>by
  rw[lE,Bool.and_eq_true]at h;rw[put];split
  ·rw[lE,h.2];rfl
  ·rw[lE,h.1,qA h.2];rfl
theorem Cc{P:Program}{σ:Type}{Y:Hd σ}{f:FuncId}{args0:List V}{s:σ}{Qd:D->List (List (List D))->Prop}{sz:Nat}{ls:List (List (List D))}
  (hf:zG P Y f args0 ((1000000,bO 1000001 sz (ls.map Rw.bw))::aD 1000001 sz 0 (ls.map Rw.bw)) s fun v h' s'=>s'=s /\ ∃ dv dp,Qd dv dp/\dp.length=ls.length/\v = .d dv/\h'=(1000000,bO 2000000 sz (dp.map Rw.bw))::aD 2000000 sz 0 (dp.map Rw.bw))
  (B O:Nat) {e:Env} {F:av} {d:Nat} {args:List V} {K:St σ->Prop} (hB:3000000<=B) (hn:ls.length<=64) (hd:d<=10000) (hO:pk (100000+64*d) O=true)
  (he:lE (pk (100000+64*d)) e=true) (hF:uE (pk (100000+64*d)) F=true) (cr:og (br (O::List.range' B ls.length) d) args0=args)
  (go:∀ dv dp,Qd dv dp->dp.length=ls.length->K ⟨put e d (.d dv),(O,bO B sz (dp.map Rw.bw))::(F++aD B sz 0 (dp.map Rw.bw)),s⟩) :
  eE P Y ⟨e,(O,bO B sz (ls.map Rw.bw))::(F++aD B sz 0 (ls.map Rw.bw)),s⟩ (some d) f args K:=by
 have Ri:=im hO;have GR:(O::List.range' B ls.length).length<=1000:=by simp;omega
 have pF:e8 (O::List.range' B ls.length)=true:=lD (List.nodup_cons.2 ⟨fun h=>by have:=(List.mem_range'_1.1 h).1;omega,List.nodup_range' ..⟩);have By:∀ j,j<ls.length->br (O::List.range' B ls.length) d (1000001+j)=B+j:=fun j hj=>by
  rw[show 1000001+j=1000000+(j+1) by omega];refine gj ?_ GR;rw[List.getElem?_cons_succ,List.getElem?_range' (by simpa using hj)];simp
 have Sf:br (O::List.range' B ls.length) d 1000000=O:=gj (k:=0) rfl GR;have Ep:∀ i,2000000<=i->br (O::List.range' B ls.length) d i=100000+64*d+(i-2000000):=fun i hi=>qX hi;have nj:∀ j l,ls[j]?=some l->get ((O,bO B sz (ls.map Rw.bw))::(F++aD B sz 0 (ls.map Rw.bw))) (B+(0+j))=some (.arr sz (.dd l)):=fun j l hl=>by
  rw[aF,if_neg (by omega),cG];have LA:get F (B+(0+j))=none:=by
   cases hc:get F (B+(0+j)) with
   | none=>rfl
   | some o2=>have:=im (eL hF hc).1;omega
  rw[LA];show get (aD B sz 0 (ls.map Rw.bw)) (B+(0+j))=_;rw[cz,if_pos (by omega),List.getElem?_map,show B+(0+j)-(B+0)=j by omega,hl];rfl
 refine Bi hf (O::List.range' B ls.length) cr ?_ pF (Nat.ble_eq_true_of_le GR) ?_
 ·refine⟨bO 1000001 sz (ls.map Rw.bw),aD 1000001 sz 0 (ls.map Rw.bw),rfl,?_,?_⟩
  ·rw[aF,if_pos rfl]
   show some (Obj.arr 1 (.vv (cu B sz 0 (ls.map Rw.bw))))=some (Obj.arr 1 (.vv (a7 (fG (br (O::List.range' B ls.length) d)) (cu 1000001 sz 0 (ls.map Rw.bw)))));rw[qI (B:=B) ls 0 fun j _ h2=>By j (by omega)]
  ·have:=ur (R:=br (O::List.range' B ls.length) d) (B:=B) ls 0 nj
   exact this
 ·rintro v h1 s' ⟨rfl,dv,dp,hq,hl,rfl,rfl⟩
  have GI:cq ((1000000,bO 2000000 sz (dp.map Rw.bw))::aD 2000000 sz 0 (dp.map Rw.bw))=List.range' 2000000 ls.length:=by
   have:=nA (sz:=sz) dp 0;rw[hl]at this;exact this
  have Gt:∀ x,x∈(List.range' 2000000 ls.length).map (br (O::List.range' B ls.length) d)->100000+64*d<=x/\x<100000+64*d+ls.length:=fun x hx=>by
   obtain⟨i,hi,rfl⟩:=List.mem_map.1 hx;have:=List.mem_range'_1.1 hi;rw[Ep i this.1];omega
  have sq:∀ a∈List.range' 2000000 ls.length,∀ b∈List.range' 2000000 ls.length,br (O::List.range' B ls.length) d a=br (O::List.range' B ls.length) d b->a=b:=fun a ha b hb h=>by
   have h1:=List.mem_range'_1.1 ha;have h2:=List.mem_range'_1.1 hb;rw[Ep a h1.1,Ep b h2.1]at h;omega
  have qT:((List.range' 2000000 ls.length).map (br (O::List.range' B ls.length) d)).Nodup:=by
   rw[List.nodup_iff_pairwise_ne,List.pairwise_map];exact(List.nodup_range' (s:=2000000) (n:=ls.length)).imp_of_mem fun ha hb eA h=>eA (sq _ ha _ hb h)
  have Ey:∀ i,i<ls.length -> ∃ l,dp[i]?=some l/\get ((1000000,bO 2000000 sz (dp.map Rw.bw))::aD 2000000 sz 0 (dp.map Rw.bw)) (2000000+i)=some (.arr sz (.dd l)):=fun i hi=>by
   obtain⟨l,jO⟩:∃ l,dp[i]?=some l:=⟨_,List.getElem?_eq_getElem (by omega)⟩;refine⟨l,jO,?_⟩;rw[aF,if_neg (by omega),cz,if_pos (by omega),List.getElem?_map,show 2000000+i-(2000000+0)=i by omega,jO];rfl
  have qf:cE (bZ (O::List.range' B ls.length) (some d) (.d dv) ((1000000,bO 2000000 sz (dp.map Rw.bw))::aD 2000000 sz 0 (dp.map Rw.bw)))=true:=by
   unfold bZ;simp only;rw[GI];refine pj ?_ kB (fun i hi=>?_) qT
   ·rw[gW,kf,mD];rfl
   ·have:=List.mem_range'_1.1 hi
    obtain⟨l,_,h⟩:=Ey (i-2000000) (by omega);rw[show 2000000+(i-2000000)=i by omega]at h;exact⟨_,_,h⟩
  constructor
  ·unfold g7
   rw[qf,GI,pF];simp only[Bool.and_eq_true];refine⟨⟨⟨⟨⟨⟨⟨⟨⟨by trivial,?_⟩,?_⟩,?_⟩,?_⟩,by trivial⟩,?_⟩,?_⟩,?_⟩,by trivial⟩
   ·exact Nat.ble_eq_true_of_le (by simpa using hn)
   ·exact lD (List.nodup_range' ..)
   ·refine sJ fun i hi hm=>?_
    have:=Gt i hm;rcases List.mem_cons.1 hi with h|h
    ·omega
    ·have:=(List.mem_range'_1.1 h).1;omega
   ·refine th fun i hi=>?_
    have hi:i∈1000000::(bU (bO 2000000 sz (dp.map Rw.bw))++bT (aD 2000000 sz 0 (dp.map Rw.bw))):=hi;rw[List.mem_cons,List.mem_append]at hi;rcases hi with h|h|h
    ·exact .inl ⟨by omega,by simp;omega⟩
    ·have:=mi dp 0 i h
     exact .inr (List.mem_range'_1.2 (by omega))
    ·have:=kP dp 0 i h
     exact .inr (List.mem_range'_1.2 (by omega))
   ·refine List.all_eq_true.2 fun i hi=>?_
    have:=List.mem_range'_1.1 hi;exact Nat.ble_eq_true_of_le (by omega)
   ·exact Nat.ble_eq_true_of_le hd
   ·exact Nat.ble_eq_true_of_le GR
  ·rw[cj s']
   refine⟨_,?_,go dv dp hq hl⟩;have rQ:=qa (bZ (O::List.range' B ls.length) (some d) (.d dv) ((1000000,bO 2000000 sz (dp.map Rw.bw))::aD 2000000 sz 0 (dp.map Rw.bw))) (⟨e,(O,bO B sz (ls.map Rw.bw))::(F++aD B sz 0 (ls.map Rw.bw)),s'⟩:St σ) qf;rw[pB,GI]at rQ;generalize aK (⟨e,(O,bO B sz (ls.map Rw.bw))::(F++aD B sz 0 (ls.map Rw.bw)),s'⟩:St σ) (bZ (O::List.range' B ls.length) (some d) (.d dv) ((1000000,bO 2000000 sz (dp.map Rw.bw))::aD 2000000 sz 0 (dp.map Rw.bw)))=oh at rQ;have Lb:bZ (O::List.range' B ls.length) (some d) (.d dv) ((1000000,bO 2000000 sz (dp.map Rw.bw))::aD 2000000 sz 0 (dp.map Rw.bw))=fZ (br (O::List.range' B ls.length) d) ((1000000,bO 2000000 sz (dp.map Rw.bw))::aD 2000000 sz 0 (dp.map Rw.bw)) (List.range' 2000000 ls.length)++(dy (br (O::List.range' B ls.length) d) ((1000000,bO 2000000 sz (dp.map Rw.bw))::aD 2000000 sz 0 (dp.map Rw.bw)) 1000000 (O::List.range' B ls.length) ++ [.set d (.d dv)]):=by
    rw[<- GI];rfl
   rw[Lb,dV,dV]at rQ;have DC:∀ k,get oh.env k=if k=d then some (.d dv) else get (lY (⟨e,(O,bO B sz (ls.map Rw.bw))::(F++aD B sz 0 (ls.map Rw.bw)),s'⟩:St σ) ((List.range' 2000000 ls.length).map (br (O::List.range' B ls.length) d))).env k:=fun k=>by
    have:(bW oh).env k=get oh.env k:=rfl;rw[<- this,rQ];simp only[bz,dN,Option.getD_some,nr,qx];rfl
   have Ph:∀ k,get oh.heap k=(bz (bz (bW (lY (⟨e,(O,bO B sz (ls.map Rw.bw))::(F++aD B sz 0 (ls.map Rw.bw)),s'⟩:St σ) ((List.range' 2000000 ls.length).map (br (O::List.range' B ls.length) d)))) (fZ (br (O::List.range' B ls.length) d) ((1000000,bO 2000000 sz (dp.map Rw.bw))::aD 2000000 sz 0 (dp.map Rw.bw)) (List.range' 2000000 ls.length))) (dy (br (O::List.range' B ls.length) d) ((1000000,bO 2000000 sz (dp.map Rw.bw))::aD 2000000 sz 0 (dp.map Rw.bw)) 1000000 (O::List.range' B ls.length))).heap k:=fun k=>by
    have:(bW oh).heap k=get oh.heap k:=rfl;rw[<- this,rQ];rfl
   clear rQ Lb;refine Wk.trans (Wk.Du (e':=put e d (.d dv)) (h':=(O,bO (100000+64*d) sz (dp.map Rw.bw))::(F++aD (100000+64*d) sz 0 (dp.map Rw.bw))) (fun k v hv=>?_) (fun k o ho=>?_)) (Wk.xF (100000+64*d) (100000+64*d) B (by omega) (.inl ⟨rfl,hB⟩) (by omega) hO (qA he) hF)
   ·rw[DC k]
    rw[cH]at hv;split at hv
    ·rename_i h;rw[if_pos h];exact hv
    ·rename_i h
     rw[if_neg h,lZ];show(get e k).map _=_;rw[hv];simp only[Option.map_some];rw[qm _ _ fun i hi pa=>?_];have h1:=im (rj v (lF he hv) i (dD i v pa));have h2:=Gt i hi;omega
   ·rw[Ph k]
    rw[aF]at ho;split at ho
    ·rename_i hk
     subst hk;cases ho;have BG:k∉List.range' B ls.length:=fun h=>by have:=(List.mem_range'_1.1 h).1;omega
     simp only[dy,bz];rw[jX BG];show(dN _ (match get ((1000000,bO 2000000 sz (dp.map Rw.bw))::aD 2000000 sz 0 (dp.map Rw.bw)) 1000000 with|some o=>.obj k (ir _ o)|none=>.del k)).heap k=_;rw[aF,if_pos rfl];simp only[dN,if_true];show some (Obj.arr 1 (.vv (a7 (fG (br (k::List.range' B ls.length) d)) (cu 2000000 sz 0 (dp.map Rw.bw)))))=some (Obj.arr 1 (.vv (cu (100000+64*d) sz 0 (dp.map Rw.bw))));rw[qI (B:=100000+64*d) dp 0 fun j _ h2=>by rw[Ep _ (by omega)];omega]
    ·rename_i EH
     rw[cG]at ho;have Lq:k<3000000->k∉O::List.range' B ls.length:=fun hk h=>by
      rcases List.mem_cons.1 h with h|h
      ·exact EH h
      ·have:=(List.mem_range'_1.1 h).1;omega
     cases At:get F k with
     | some o1=>
      rw[At]at ho;have ho:some o1=some o:=ho;cases ho;obtain⟨k1,k2⟩:=eL hF At;have k1:=im k1;have Lr:k∉(List.range' 2000000 ls.length).map (br (O::List.range' B ls.length) d):=fun h=>by have:=Gt k h;omega
      rw[jX (Lq k1.1),s4 Lr];show get (lY _ _).heap k=_;rw[iG,if_neg Lr];show(get ((O,bO B sz (ls.map Rw.bw))::(F++aD B sz 0 (ls.map Rw.bw))) k).map _=_;rw[aF,if_neg EH,cG,At];simp only[Option.map_some];rw[lr _ _ fun i hi pa=>?_];have h1:=im (xx o k2 i (cp i o pa));have h2:=Gt i hi;omega
     | none=>
      rw[At]at ho;have ho:get (aD (100000+64*d) sz 0 (dp.map Rw.bw)) k=some o:=ho;rw[cz]at ho;split at ho
      ·rename_i hk
       rw[List.getElem?_map]at ho
       cases jO:dp[k-(100000+64*d+0)]? with
       | none=>rw[jO]at ho;cases ho
       | some l=>
        rw[jO]at ho;have ho:some (Obj.arr sz (.dd l))=some o:=ho;cases ho;have eC:=(List.getElem?_eq_some_iff.1 jO).1;rw[jX (Lq (by omega))];obtain⟨l2,g1,g2⟩:=Ey (k-(100000+64*d)) (by omega);have jO:dp[k-(100000+64*d)]?=some l:=jO;rw[jO]at g1;cases g1;have hi:2000000+(k-(100000+64*d))∈List.range' 2000000 ls.length:=List.mem_range'_1.2 (by omega);have h3:=AP (R:=br (O::List.range' B ls.length) d) (f:=bW (lY (⟨e,(O,bO B sz (ls.map Rw.bw))::(F++aD B sz 0 (ls.map Rw.bw)),s'⟩:St σ) ((List.range' 2000000 ls.length).map (br (O::List.range' B ls.length) d)))) hi sq g2;rw[Ep _ (by omega),show 100000+64*d+(2000000+(k-(100000+64*d))-2000000)=k by omega]at h3;exact h3
      ·cases ho
theorem DJ{P:Program}{σ:Type}{Y:Hd σ}{f:FuncId}{args:List V}{h h':av}{s:σ}{Q:V->av->σ->Prop}(hw:Wk (⟨dO 0 args,h,s⟩:St σ) ⟨dO 0 args,h',s⟩)(hl:Nat.ble args.length 1000=true)(hf:zG P Y f args h' s Q):zG P Y f args h s Q:=by
 obtain⟨h1,h2⟩:=hf;refine⟨h1,fun cx hY L F aX w hh hv=>?_⟩;have BL:aX.toList.length=args.length:=by simpa using hv.length
 have hl:=Nat.le_of_ble_eq_true hl;have hg:Good { cx with pρ:=L.ρ,pκ:=L.κ,base:=[] } none [] L F ⟨dO 0 args,h,s⟩ { tmps:=aX.toList.toArray,defers:=[] } w:=by
  refine⟨⟨hh.hg,hh.iW,hh.fresh,hh.obj,hh.own,hh.inj⟩,fun t v ht=>?_,rfl,(fun b hb=>by cases hb),List.nodup_nil,(fun l hl=>by cases hl),fun _ _=>⟨rfl,rfl⟩,by
   show aX.toList.toArray.size<=1000000;have:aX.toList.toArray.size=aX.toList.length:=by simp
   omega⟩
  obtain⟨k,hk,C1⟩:=nU ht;rw[Nat.zero_add]at hk;subst hk;obtain⟨x,hx,CY⟩:=hv.get t C1;exact⟨x,by simpa using hx,CY⟩
 obtain⟨L1,F1,db,tr⟩:=hw _ _ _ _ _ _ _ hg;have J1:aq cx.yv L1 F1 w args aX.toList:=by
  refine aq.of (by omega) fun k v hk=>?_;obtain⟨x,hx,CY⟩:=db.env k v (by simpa using oY args 0 k v hk);exact⟨x,by simpa using hx,CY⟩
 have CO:bo cx L1 F1 h' s w:=⟨db.heap.hg,db.heap.iW,db.heap.fresh,db.heap.obj,db.heap.own,db.heap.inj⟩;refine(h2 cx hY L1 F1 aX w CO J1).mono ?_;rintro e w' ⟨x,rfl,v,h3,s',L2,F2,q1,q2,q3,q4,q5⟩;refine⟨x,rfl,v,h3,s',L2,F2,q1,q2,q3,Tr.trans tr q4,fun i hi=>?_⟩;obtain⟨p1,p2⟩:=q5 i hi;obtain⟨p3,p4⟩:=db.lG i hi;exact⟨p1.trans p3,p2.trans p4⟩
theorem Cg{σ:Type}{l:List V}{h:av}{s:σ}{Q:V->av->σ->Prop}(hq:Q (uN l) h s):pJ l h s Q:=by
 refine⟨fun cx L F aX w hh GO=>⟨_,h,L,F,hq,hh,?_,Tr.refl F w,fun _ _=>⟨rfl,rfl⟩⟩⟩
 cases l with
 | nil=>
  have:aX = []:=GO;subst this;exact⟨#[],rfl,rfl⟩
 | cons v r=>
  cases r with
  | nil=>
   obtain⟨x,l,rfl,hx,hl⟩:=GO;have:l = []:=hl;subst this;exact hx
  | cons u r=>
   obtain⟨x,l,rfl,hx,y,l',rfl,hy,jz⟩:=GO;have gS:aq cx.yv L F w (v::u::r) (x::y::l'):=⟨x,_,rfl,hx,y,l',rfl,hy,jz⟩;show a6 _ _ _ _ (oF (v::u::r)) (.tuple (x::y::l').toArray);unfold oF;split
   ·rename_i ds CJ
    refine⟨_,rfl,?_⟩;rw[iy CJ]at gS;exact aq.inj.1 gS
   ·exact⟨_,rfl,gS⟩
theorem uD{p:Nat->Bool}:∀ (ds:List D) (i:Nat),lE p (dO i (inj ds))=true
 | [],_=>rfl
 | d::r,i=>by
  show(uC p (.d d)&&lE p (dO (i+1) (inj r)))=true;rw[uD r (i+1)];rfl
theorem x7{σ:Type}{h:av}{s:σ}{Q:V->av->σ->Prop}{B sz:Nat}{ls:List (List (List D))}(ds:List D)(hB:3000000<=B)(hn:ls.length<=64)(hl:Nat.ble (inj ds).length 1000=true)
  (hO:get h 1000000=some (bO B sz (ls.map Rw.bw))) (hT:∀ k,3000000<=k->get h k=get (aD B sz 0 (ls.map Rw.bw)) k)
  (hq:Q (uN (inj ds)) ((1000000,bO 2000000 sz (ls.map Rw.bw))::aD 2000000 sz 0 (ls.map Rw.bw)) s):pJ (inj ds) h s Q:=by
 refine nO (l':=inj ds) (h':=(1000000,bO 2000000 sz (ls.map Rw.bw))::aD 2000000 sz 0 (ls.map Rw.bw)) ?_ rfl hl (Cg hq);refine(Wk.Du (h':=(1000000,bO B sz (ls.map Rw.bw))::([]++aD B sz 0 (ls.map Rw.bw))) (fun _ _ h=>h) fun k o ho=>?_).trans
  (Wk.xF 2000000 B 2000000 (F:=[]) (by omega) (.inr ⟨hB,rfl,fun i h1 h2 hp=>by unfold pinned at hp;omega⟩) hn rfl (uD ds 0) rfl)
 rw[aF]at ho;split at ho
 ·rename_i e
  subst e;rw[hO];exact ho
 ·have ho:get (aD B sz 0 (ls.map Rw.bw)) k=some o:=ho
  rw[hT k ?_]
  ·exact ho
  ·rw[cz]at ho
   split at ho
   ·omega
   ·cases ho
theorem Bj{P:Program}{σ:Type}{Y:Hd σ}{f:FuncId}{args:List V}{s:σ}{Q:V->av->σ->Prop}{sz:Nat}{ls:List (List (List D))}(B:Nat)(hB:3000000<=B)(hn:ls.length<=64)(hl:Nat.ble args.length 1000=true)(he:lE (pk 1000001) (dO 0 args)=true)
  (hf:zG P Y f args ((1000000,bO B sz (ls.map Rw.bw))::aD B sz 0 (ls.map Rw.bw)) s Q):zG P Y f args ((1000000,bO 1000001 sz (ls.map Rw.bw))::aD 1000001 sz 0 (ls.map Rw.bw)) s Q:=
 DJ (Wk.xF 1000001 1000001 B (F:=[]) (by omega) (.inl ⟨rfl,hB⟩) hn rfl he rfl) hl hf
theorem uu{R:Nat->Nat}{h:av}{sz:Nat}(f:Nat->Nat):∀ (ls:List (List (List D))) (i:Nat),(∀ j l,ls[j]?=some l->get h (f (i+j))=some (.arr sz (.dd l)))->gb R h (1000001+i) ((List.range' i ls.length).map f) (aD 1000001 sz i (ls.map Rw.bw))
 | [],i,_=>rfl
 | l::r,i,hl=>by
  rw[List.length_cons,List.range'_succ];refine⟨.arr sz (.dd l),aD 1000001 sz (i+1) (r.map Rw.bw),rfl,hl 0 l rfl,?_⟩;exact uu f r (i+1) fun j m hm=>by
   have:=hl (j+1) m (by simpa using hm)
   rwa [show i+(j+1)=i+1+j by omega]at this
theorem qN{g h:av}:∀ {F:av},iF g F->(∀ y o,get g y=some o->get h y=some o)->iF h F
 | [],_,_=>trivial
 | (k,o)::r,hs,hm=>⟨hm k o hs.1,qN hs.2 hm⟩
theorem vE{P:Program}{σ:Type}{Y:Hd σ}{f:FuncId}{args0:List V}{s:σ}{Qd:D->List (List (List D))->Prop}{sz:Nat}{ls:List (List (List D))}
  (hf:zG P Y f args0 ((1000000,bO 1000001 sz (ls.map Rw.bw))::aD 1000001 sz 0 (ls.map Rw.bw)) s fun v h' s'=>s'=s /\ ∃ dv dp,Qd dv dp/\dp.length=ls.length/\v = .d dv/\h'=(1000000,bO 2000000 sz (dp.map Rw.bw))::aD 2000000 sz 0 (dp.map Rw.bw))
  (B O k KK:Nat) {lk:List (List D)} {e:Env} {F:av} {d:Nat} {args:List V} {K:St σ->Prop} (hB:3000000<=B) (hn:ls.length<=64) (hd:d<=10000) (hO:pk (100000+64*d) O=true) (JN:O≠KK) (JM:840000<=KK/\KK<1000000) (hk:ls[k]?=some lk)
  (he:lE (pk (100000+64*d)) e=true) (hF:uE (pk (100000+64*d)) F=true) (Sp:lE (ns KK) e=true) (OI:uE (ns KK) F=true) (R8:iF F F) (R9:get F O=none) (cr:og (br (O::(List.range' 0 ls.length).map (fun i=>if i=k then KK else B+i)) d) args0=args)
  (go:∀ dv dp DF,Qd dv dp->dp.length=ls.length->dp[k]?=some DF->K ⟨put e d (.d dv),(O,bO B sz ((dp.map Rw.bw).set k (.kL KK DF.length)))::(KK,.arr sz (.dd DF))::(F++aD B sz 0 ((dp.map Rw.bw).set k (.kL KK DF.length))),s⟩) :
  eE P Y ⟨e,(O,bO B sz ((ls.map Rw.bw).set k (.kL KK lk.length)))::(KK,.arr sz (.dd lk))::(F++aD B sz 0 ((ls.map Rw.bw).set k (.kL KK lk.length))),s⟩ (some d) f args K:=by
 have HU:k<ls.length:=(List.getElem?_eq_some_iff.1 hk).1;obtain⟨ids,CP⟩:∃ ids,ids=(List.range' 0 ls.length).map (fun i=>if i=k then KK else B+i):=⟨_,rfl⟩;have Pm:ids.length=ls.length:=by rw[CP];simp
 have Pl:∀ j,j<ls.length->ids[j]?=some (if j=k then KK else B+j):=fun j hj=>by
  rw[CP,List.getElem?_map,List.getElem?_range' (by simpa using hj)];simp
 have GB:∀ x∈ids,x=KK\/3000000<=x:=fun x hx=>by
  rw[CP]at hx;obtain⟨j,_,rfl⟩:=List.mem_map.1 hx;split
  ·exact .inl rfl
  ·exact .inr (by omega)
 have Pn:ids.Nodup:=by
  rw[CP,List.nodup_iff_pairwise_ne,List.pairwise_map];refine(List.nodup_iff_pairwise_ne.1 (List.nodup_range' (s:=0) (n:=ls.length))).imp_of_mem fun {a b} ha hb eA h=>eA ?_;have h1:=List.mem_range'_1.1 ha;have h2:=List.mem_range'_1.1 hb;split at h<;>split at h<;>omega
 obtain⟨rows,jm⟩:∃ rows,rows=(ls.map Rw.bw).set k (.kL KK lk.length):=⟨_,rfl⟩;have RC:∀ j l,ls[j]?=some l->rows[j]?=some (if j=k then .kL KK lk.length else .bw l):=fun j l hl=>by
  rw[jm,List.getElem?_set];by_cases CS:k=j
  ·subst CS
   rw[if_pos rfl,if_pos (by simpa using HU),if_pos rfl]
  ·rw[if_neg CS,if_neg (fun e=>CS e.symm),List.getElem?_map,hl];rfl
 have CX:rows.length=ls.length:=by rw[jm];simp
 rw[<- CP]at cr;rw[<- jm];have Ri:=im hO;have GR:(O::ids).length<=1000:=by rw[List.length_cons,Pm];omega
 have pF:e8 (O::ids)=true:=lD (List.nodup_cons.2 ⟨fun h=>by have:=GB O h;omega,Pn⟩);have By:∀ j,j<ls.length->br (O::ids) d (1000001+j)=if j=k then KK else B+j:=fun j hj=>by
  rw[show 1000001+j=1000000+(j+1) by omega];refine gj ?_ GR;rw[List.getElem?_cons_succ,Pl j hj]
 have Sf:br (O::ids) d 1000000=O:=gj (k:=0) rfl GR;have Ep:∀ i,2000000<=i->br (O::ids) d i=100000+64*d+(i-2000000):=fun i hi=>qX hi;obtain⟨h0,DD⟩:∃ h0,h0=(O,bO B sz rows)::(KK,.arr sz (.dd lk))::(F++aD B sz 0 rows):=⟨_,rfl⟩;have SA:get h0 O=some (bO B sz rows):=by rw[DD,aF,if_pos rfl]
 have Pe:∀ y o,get F y=some o->y≠O->get h0 y=some o:=fun y o hy To=>by
  have:=nt (eL OI hy).1;rw[DD,aF,if_neg To,aF,if_neg this.2,cG,hy]
 have nj:∀ j l,ls[j]?=some l->get h0 (if j=k then KK else B+j)=some (.arr sz (.dd l)):=fun j l hl=>by
  rw[DD];by_cases CS:j=k
  ·subst CS
   rw[hk]at hl;cases hl;rw[if_pos rfl,aF,if_neg (fun e=>JN e.symm),aF,if_pos rfl]
  ·rw[if_neg CS,aF,if_neg (by omega),aF,if_neg (by omega),cG]
   have LA:get F (B+j)=none:=by
    cases hc:get F (B+j) with
    | none=>rfl
    | some o2=>have:=im (eL hF hc).1;omega
   rw[LA];show get (aD B sz 0 rows) (B+j)=_;rw[cz,if_pos (by omega),show B+j-(B+0)=j by omega,RC j l hl,if_neg CS]
 have SE:cu B sz 0 rows=a7 (fG (br (O::ids) d)) (cu 1000001 sz 0 (ls.map Rw.bw)):=by
  apply List.ext_getElem?;intro j;rw[kz,iA,iA,List.getElem?_map]
  cases hl:ls[j]? with
  | none=>
   have:rows[j]?=none:=by
    rw[List.getElem?_eq_none_iff]at hl ⊢;omega
   rw[this];rfl
  | some l=>
   have hj:=(List.getElem?_eq_some_iff.1 hl).1;rw[RC j l hl];show some [tS B sz (0+j) (if j=k then .kL KK lk.length else .bw l)]=some [az (fG (br (O::ids) d)) (.sl (1000001+(0+j)) sz 0 l.length)];rw[az,fG,show 1000001+(0+j)=1000001+j by omega,By j hj];by_cases CS:j=k
   ·subst CS
    rw[hk]at hl;cases hl;rw[if_pos rfl,if_pos rfl];rfl
   ·rw[if_neg CS,if_neg CS,Nat.zero_add];rfl
 rw[<- DD];refine Bi hf (O::ids) cr ?_ pF (Nat.ble_eq_true_of_le GR) ?_
 ·refine⟨bO 1000001 sz (ls.map Rw.bw),aD 1000001 sz 0 (ls.map Rw.bw),rfl,?_,?_⟩
  ·rw[SA]
   show some (Obj.arr 1 (.vv (cu B sz 0 rows)))=some (Obj.arr 1 (.vv (a7 (fG (br (O::ids) d)) (cu 1000001 sz 0 (ls.map Rw.bw)))));rw[SE]
  ·have:=uu (R:=br (O::ids) d) (h:=h0) (sz:=sz) (fun i=>if i=k then KK else B+i) ls 0 fun j l hl=>by rw[Nat.zero_add];exact nj j l hl
   rw[<- CP]at this;exact this
 ·rintro v h1 s' ⟨rfl,dv,dp,hq,hl,rfl,rfl⟩
  have GI:cq ((1000000,bO 2000000 sz (dp.map Rw.bw))::aD 2000000 sz 0 (dp.map Rw.bw))=List.range' 2000000 ls.length:=by
   have:=nA (sz:=sz) dp 0;rw[hl]at this;exact this
  have Gt:∀ x,x∈(List.range' 2000000 ls.length).map (br (O::ids) d)->100000+64*d<=x/\x<100000+64*d+ls.length:=fun x hx=>by
   obtain⟨i,hi,rfl⟩:=List.mem_map.1 hx;have:=List.mem_range'_1.1 hi;rw[Ep i this.1];omega
  have sq:∀ a∈List.range' 2000000 ls.length,∀ b∈List.range' 2000000 ls.length,br (O::ids) d a=br (O::ids) d b->a=b:=fun a ha b hb h=>by
   have h1:=List.mem_range'_1.1 ha;have h2:=List.mem_range'_1.1 hb;rw[Ep a h1.1,Ep b h2.1]at h;omega
  have qT:((List.range' 2000000 ls.length).map (br (O::ids) d)).Nodup:=by
   rw[List.nodup_iff_pairwise_ne,List.pairwise_map];exact(List.nodup_range' (s:=2000000) (n:=ls.length)).imp_of_mem fun ha hb eA h=>eA (sq _ ha _ hb h)
  have Ey:∀ i,i<ls.length -> ∃ l,dp[i]?=some l/\get ((1000000,bO 2000000 sz (dp.map Rw.bw))::aD 2000000 sz 0 (dp.map Rw.bw)) (2000000+i)=some (.arr sz (.dd l)):=fun i hi=>by
   obtain⟨l,jO⟩:∃ l,dp[i]?=some l:=⟨_,List.getElem?_eq_getElem (by omega)⟩;refine⟨l,jO,?_⟩;rw[aF,if_neg (by omega),cz,if_pos (by omega),List.getElem?_map,show 2000000+i-(2000000+0)=i by omega,jO];rfl
  have qf:cE (bZ (O::ids) (some d) (.d dv) ((1000000,bO 2000000 sz (dp.map Rw.bw))::aD 2000000 sz 0 (dp.map Rw.bw)))=true:=by
   unfold bZ;simp only;rw[GI];refine pj ?_ kB (fun i hi=>?_) qT
   ·rw[gW,kf,mD];rfl
   ·have:=List.mem_range'_1.1 hi
    obtain⟨l,_,h⟩:=Ey (i-2000000) (by omega);rw[show 2000000+(i-2000000)=i by omega]at h;exact⟨_,_,h⟩
  constructor
  ·unfold g7
   rw[qf,GI,pF];simp only[Bool.and_eq_true];refine⟨⟨⟨⟨⟨⟨⟨⟨⟨by trivial,?_⟩,?_⟩,?_⟩,?_⟩,by trivial⟩,?_⟩,?_⟩,?_⟩,by trivial⟩
   ·exact Nat.ble_eq_true_of_le (by simpa using hn)
   ·exact lD (List.nodup_range' ..)
   ·refine sJ fun i hi hm=>?_
    have:=Gt i hm;rcases List.mem_cons.1 hi with h|h
    ·omega
    ·have:=GB i h;omega
   ·refine th fun i hi=>?_
    have hi:i∈1000000::(bU (bO 2000000 sz (dp.map Rw.bw))++bT (aD 2000000 sz 0 (dp.map Rw.bw))):=hi;rw[List.mem_cons,List.mem_append]at hi;rcases hi with h|h|h
    ·exact .inl ⟨by omega,by rw[List.length_cons];omega⟩
    ·have:=mi dp 0 i h
     exact .inr (List.mem_range'_1.2 (by omega))
    ·have:=kP dp 0 i h
     exact .inr (List.mem_range'_1.2 (by omega))
   ·refine List.all_eq_true.2 fun i hi=>?_
    have:=List.mem_range'_1.1 hi;exact Nat.ble_eq_true_of_le (by omega)
   ·exact Nat.ble_eq_true_of_le hd
   ·exact Nat.ble_eq_true_of_le GR
  ·rw[cj s']
   obtain⟨DF,zM⟩:∃ DF,dp[k]?=some DF:=⟨_,List.getElem?_eq_getElem (by omega)⟩;refine⟨_,?_,go dv dp DF hq hl zM⟩;have rQ:=qa (bZ (O::ids) (some d) (.d dv) ((1000000,bO 2000000 sz (dp.map Rw.bw))::aD 2000000 sz 0 (dp.map Rw.bw))) (⟨e,h0,s'⟩:St σ) qf;rw[pB,GI]at rQ;generalize aK (⟨e,h0,s'⟩:St σ) (bZ (O::ids) (some d) (.d dv) ((1000000,bO 2000000 sz (dp.map Rw.bw))::aD 2000000 sz 0 (dp.map Rw.bw)))=oh at rQ;have Lb:bZ (O::ids) (some d) (.d dv) ((1000000,bO 2000000 sz (dp.map Rw.bw))::aD 2000000 sz 0 (dp.map Rw.bw))=fZ (br (O::ids) d) ((1000000,bO 2000000 sz (dp.map Rw.bw))::aD 2000000 sz 0 (dp.map Rw.bw)) (List.range' 2000000 ls.length)++(dy (br (O::ids) d) ((1000000,bO 2000000 sz (dp.map Rw.bw))::aD 2000000 sz 0 (dp.map Rw.bw)) 1000000 (O::ids) ++ [.set d (.d dv)]):=by
    rw[<- GI];rfl
   rw[Lb,dV,dV]at rQ;have DC:∀ y,get oh.env y=if y=d then some (.d dv) else get (lY (⟨e,h0,s'⟩:St σ) ((List.range' 2000000 ls.length).map (br (O::ids) d))).env y:=fun y=>by
    have:(bW oh).env y=get oh.env y:=rfl;rw[<- this,rQ];simp only[bz,dN,Option.getD_some,nr,qx];rfl
   have Ph:∀ y,get oh.heap y=(bz (bz (bW (lY (⟨e,h0,s'⟩:St σ) ((List.range' 2000000 ls.length).map (br (O::ids) d)))) (fZ (br (O::ids) d) ((1000000,bO 2000000 sz (dp.map Rw.bw))::aD 2000000 sz 0 (dp.map Rw.bw)) (List.range' 2000000 ls.length))) (dy (br (O::ids) d) ((1000000,bO 2000000 sz (dp.map Rw.bw))::aD 2000000 sz 0 (dp.map Rw.bw)) 1000000 (O::ids))).heap y:=fun y=>by
    have:(bW oh).heap y=get oh.heap y:=rfl;rw[<- this,rQ];rfl
   clear rQ Lb;refine Wk.trans (Wk.Du (e':=put e d (.d dv)) (h':=(O,bO (100000+64*d) sz (dp.map Rw.bw))::(F++aD (100000+64*d) sz 0 (dp.map Rw.bw))) (fun y v hv=>?_) (fun y o ho=>?_)) (Wk.xF (100000+64*d) (100000+64*d) B (by omega) (.inl ⟨rfl,hB⟩) (by omega) hO (qA he) hF) |>.trans (Wk.Ic KK k F ⟨hB,by rw[aF,if_pos rfl],fun y hy=>by
    rw[aF,if_neg (by omega),cG]
    cases hc:get F y with
    | none=>rfl
    | some o2=>have:=im (eL hF hc).1;omega,Ri.1,fun K' n hm=>by
    obtain⟨z,_,hz⟩:=List.mem_map.1 hm;cases hz⟩ JM.2 JN (by rw[List.getElem?_map,zM];rfl) (qA Sp) OI (qN R8 fun y o hy=>by
    rw[aF];split
    ·rename_i e
     exact absurd hy (by rw[e,R9];simp)
    ·rw[cG,hy]))
   ·rw[DC y]
    rw[cH]at hv;split at hv
    ·rename_i h;rw[if_pos h];exact hv
    ·rename_i h
     rw[if_neg h,lZ];show(get e y).map _=_;rw[hv];simp only[Option.map_some];rw[qm _ _ fun i hi pa=>?_];have h1:=im (rj v (lF he hv) i (dD i v pa));have h2:=Gt i hi;omega
   ·rw[Ph y]
    rw[aF]at ho;split at ho
    ·rename_i hk
     subst hk;cases ho;have BG:y∉ids:=fun h=>by have:=GB y h;omega
     simp only[dy,bz];rw[jX BG];show(dN _ (match get ((1000000,bO 2000000 sz (dp.map Rw.bw))::aD 2000000 sz 0 (dp.map Rw.bw)) 1000000 with|some o=>.obj y (ir _ o)|none=>.del y)).heap y=_;rw[aF,if_pos rfl];simp only[dN,if_true];show some (Obj.arr 1 (.vv (a7 (fG (br (y::ids) d)) (cu 2000000 sz 0 (dp.map Rw.bw)))))=some (Obj.arr 1 (.vv (cu (100000+64*d) sz 0 (dp.map Rw.bw))));rw[qI (B:=100000+64*d) dp 0 fun j _ h2=>by rw[Ep _ (by omega)];omega]
    ·rename_i EH
     rw[cG]at ho;have Lq:y<3000000->y≠KK->y∉O::ids:=fun hk Qg h=>by
      rcases List.mem_cons.1 h with h|h
      ·exact EH h
      ·rcases GB y h with e|e
       ·exact Qg e
       ·omega
     cases At:get F y with
     | some o1=>
      rw[At]at ho;have ho:some o1=some o:=ho;cases ho;obtain⟨k1,k2⟩:=eL hF At;have k1:=im k1;have Lr:y∉(List.range' 2000000 ls.length).map (br (O::ids) d):=fun h=>by have:=Gt y h;omega
      have Qg:=(nt (eL OI At).1).2;rw[jX (Lq k1.1 Qg),s4 Lr];show get (lY _ _).heap y=_;rw[iG,if_neg Lr];show(get h0 y).map _=_;rw[Pe y o At EH];simp only[Option.map_some];rw[lr _ _ fun i hi pa=>?_];have h1:=im (xx o k2 i (cp i o pa));have h2:=Gt i hi;omega
     | none=>
      rw[At]at ho;have ho:get (aD (100000+64*d) sz 0 (dp.map Rw.bw)) y=some o:=ho;rw[cz]at ho;split at ho
      ·rename_i hk
       rw[List.getElem?_map]at ho
       cases jO:dp[y-(100000+64*d+0)]? with
       | none=>rw[jO]at ho;cases ho
       | some l=>
        rw[jO]at ho;have ho:some (Obj.arr sz (.dd l))=some o:=ho;cases ho;have eC:=(List.getElem?_eq_some_iff.1 jO).1;rw[jX (Lq (by omega) (by omega))];obtain⟨l2,g1,g2⟩:=Ey (y-(100000+64*d)) (by omega);have jO:dp[y-(100000+64*d)]?=some l:=jO;rw[jO]at g1;cases g1;have hi:2000000+(y-(100000+64*d))∈List.range' 2000000 ls.length:=List.mem_range'_1.2 (by omega);have h3:=AP (R:=br (O::ids) d) (f:=bW (lY (⟨e,h0,s'⟩:St σ) ((List.range' 2000000 ls.length).map (br (O::ids) d)))) hi sq g2;rw[Ep _ (by omega),show 100000+64*d+(2000000+(y-(100000+64*d))-2000000)=y by omega]at h3;exact h3
      ·cases ho
theorem B2{ls:List (List (List D))}{k KK n:Nat}{l:List (List D)}:((ls.map Rw.bw).set k (.kL KK n)).set k (.bw l)=(ls.set k l).map Rw.bw:=by
 rw[List.set_set,List.map_set]
theorem tg{σ:Type}{h:av}{s:σ}{Q:V->av->σ->Prop}{B sz:Nat}{ls:List (List (List D))}(ds:List D)(k KK:Nat){l:List (List D)}(hB:3000000<=B)(hn:ls.length<=64)(hl:Nat.ble (inj ds).length 1000=true)(HU:k<ls.length)(JM:KK<1000000)
  (hO:get h 1000000=some (bO B sz ((ls.map Rw.bw).set k (.kL KK l.length)))) (hK:get h KK=some (.arr sz (.dd l))) (hT:∀ j,3000000<=j->get h j=get (aD B sz 0 ((ls.map Rw.bw).set k (.kL KK l.length))) j)
  (hq:Q (uN (inj ds)) ((1000000,bO 2000000 sz ((ls.set k l).map Rw.bw))::aD 2000000 sz 0 ((ls.set k l).map Rw.bw)) s):pJ (inj ds) h s Q:=by
 refine nO (l':=inj ds) (h':=(1000000,bO B sz ((ls.set k l).map Rw.bw))::([]++aD B sz 0 ((ls.set k l).map Rw.bw))) ?_ rfl hl ?_
 ·have:=Wk.Is (e:=dO 0 (inj ds)) (s:=s) (h:=h) (B:=B) (sz:=sz) (O:=1000000) (rows:=(ls.map Rw.bw).set k (.kL KK l.length)) KK k (n:=l.length) (l:=l) [] hB hO (fun j hj=>hT j (by omega)) (by omega) (fun K' n hm=>by
   rw[B2]at hm;obtain⟨x,_,hx⟩:=List.mem_map.1 hm;cases hx) JM (by omega) (by rw[List.getElem?_set,if_pos rfl,if_pos (by simpa using HU)]) rfl hK (uD ds 0) rfl trivial
  rw[B2]at this;exact this
 ·refine x7 (B:=B) (sz:=sz) (ls:=ls.set k l) ds hB (by simpa using hn) hl rfl (fun j hj=>?_) hq
  rw[aF,if_neg (by omega)];rfl
end Go.PX
