import Derived.Test.YtgpmlbbkfmkmkaaGreatDoorPxO
import Derived.Test.YtgpmlbbkfmkmkaaGreatDoorPxK
import Derived.Test.YtgpmlbbkfmkmkaaGreatDoorPxJ
import Derived.Test.YtgpmlbbkfmkmkaaGreatDoorPxR
set_option linter.all false
set_option maxRecDepth 10000
namespace Go.PX
inductive Rw where
 | at' (l:List (List D))
 | foc (K n:Nat)
def qsZ(B sz i:Nat):Rw->V
 | .at' l=>.sl (B+i) sz 0 l.length
 | .foc K n=>.sl K sz 0 n
def hdrs(B sz:Nat):Nat->List Rw->List (List V)
 | _,[]=>[]
 | i,r::rs=>[qsZ B sz i r]::hdrs B sz (i+1) rs
def qO(B sz:Nat):Nat->List Rw->Heap
 | _,[]=>[]
 | i,.at' l::rs=>(B+i,.arr sz (.dd l))::qO B sz (i+1) rs
 | i,.foc _ _::rs=>qO B sz (i+1) rs
theorem qbg(B sz:Nat):∀ (rows:List Rw) (i k:Nat),get (qO B sz i rows) k=if B+i<=k then (match rows[k-(B+i)]? with|some (.at' l)=>some (.arr sz (.dd l))|_=>none) else none
 | [],i,k=>by simp[qO,get]
 | .at' l::rs,i,k=>by
  rw[qO,qI,qbg B sz rs (i+1) k];by_cases h1:k=B+i
  ·subst h1
   simp
  ·rw[if_neg h1]
   by_cases h2:B+(i+1)<=k
   ·rw[if_pos h2,if_pos (by omega)]
    have:k-(B+i)=(k-(B+(i+1)))+1:=by omega
    rw[this,List.getElem?_cons_succ]
   ·rw[if_neg h2,if_neg (by omega)]
 | .foc K n::rs,i,k=>by
  rw[qO,qbg B sz rs (i+1) k];by_cases h1:k=B+i
  ·subst h1
   rw[if_neg (by omega),if_pos (by omega),Nat.sub_self];rfl
  ·by_cases h2:B+(i+1)<=k
   ·rw[if_pos h2,if_pos (by omega)]
    have:k-(B+i)=(k-(B+(i+1)))+1:=by omega
    rw[this,List.getElem?_cons_succ]
   ·rw[if_neg h2,if_neg (by omega)]
theorem qnR{B sz i k:Nat}{rows:List Rw}(h:k<B):get (qO B sz i rows) k=none:=by
 rw[qbg,if_neg (by omega)]
theorem qh{B sz:Nat}{k:Nat}(h:k<B):∀ {rows:List Rw} {i:Nat},cut (qO B sz i rows) k=qO B sz i rows
 | [],_=>rfl
 | .at' l::rs,i=>by
  have:Nat.beq (B+i) k=false:=by rw[Bool.eq_false_iff];intro e;have:=Nat.eq_of_beq_eq_true e;omega
  rw[qO,cut,this];simp only;rw[qh h]
 | .foc K n::rs,i=>by rw[qO];exact qh h
theorem qi{B sz:Nat}(f:V->V):∀ {rows:List Rw} {i:Nat},jT (Obj.mapId f) (qO B sz i rows)=qO B sz i rows
 | [],_=>rfl
 | .at' l::rs,i=>by
  rw[qO,jT,qi f];rfl
 | .foc K n::rs,i=>by rw[qO];exact qi f
theorem qa{T T':Heap}{K:Heap->Prop}(e:T=T')(h:K T'):qbi T K:=by
 subst e;rw[qaJ];exact h
mutual
def okN(p:Nat->Bool):V->Bool
 | .d _=>true
 | .agg cs=>qus p cs
 | .tup cs=>qus p cs
 | .clo _ cs=>qus p cs
 | .ptr j _=>p j
 | .ep j _ _ _=>p j
 | .sl j _ _ _=>p j
 | .mp j=>p j
 | .it j=>p j
 | .yld=>true
 | .unk=>true
def qus(p:Nat->Bool):List V->Bool
 | []=>true
 | v::r=>okN p v&&qus p r
end
def qut(p:Nat->Bool):List (List V)->Bool
 | []=>true
 | v::r=>qus p v&&qut p r
def qyM(p:Nat->Bool):Obj->Bool
 | .box (.dd _)=>true
 | .box (.vv l)=>qus p l
 | .arr _ (.dd _)=>true
 | .arr _ (.vv l)=>qut p l
 | .map _=>true
 | .iter _ _=>true
 | .buf _ _=>true
 | .tb _ l=>qus p l
 | .mit v _ _ _=>okN p v
def qta(p:Nat->Bool):Env->Bool
 | []=>true
 | (_,v)::r=>okN p v&&qta p r
def qtb(p:Nat->Bool):Heap->Bool
 | []=>true
 | (k,o)::r=>p k&&(qyM p o&&qtb p r)
mutual
theorem qcV{p:Nat->Bool}{f:V->V}(hf:∀ v k,qdE v=some k->p k=true->f v=v):∀ (v:V),okN p v=true->mapId f v=v
 | .d _,_=>by rw[mapId]
 | .agg cs,h=>by rw[mapId,qav hf cs (by simpa[okN]using h)]
 | .tup cs,h=>by rw[mapId,qav hf cs (by simpa[okN]using h)]
 | .clo _ cs,h=>by rw[mapId,qav hf cs (by simpa[okN]using h)]
 | .ptr j _,h=>by rw[mapId];exact hf _ _ rfl (by simpa[okN]using h)
 | .ep j _ _ _,h=>by rw[mapId];exact hf _ _ rfl (by simpa[okN]using h)
 | .sl j _ _ _,h=>by rw[mapId];exact hf _ _ rfl (by simpa[okN]using h)
 | .mp j,h=>by rw[mapId];exact hf _ _ rfl (by simpa[okN]using h)
 | .it j,h=>by rw[mapId];exact hf _ _ rfl (by simpa[okN]using h)
 | .yld,_=>by rw[mapId]
 | .unk,_=>by rw[mapId]
theorem qav{p:Nat->Bool}{f:V->V}(hf:∀ v k,qdE v=some k->p k=true->f v=v):∀ (l:List V),qus p l=true->zH f l=l
 | [],_=>by rw[zH]
 | v::r,h=>by
  rw[qus,Bool.and_eq_true]at h;rw[zH,qcV hf v h.1,qav hf r h.2]
end
theorem qgO{p:Nat->Bool}{f:V->V}(hf:∀ v k,qdE v=some k->p k=true->f v=v):∀ (l:List (List V)),qut p l=true->qr f l=l
 | [],_=>by rw[qr]
 | v::r,h=>by
  rw[qut,Bool.and_eq_true]at h;rw[qr,qav hf v h.1,qgO hf r h.2]
theorem qcf{p:Nat->Bool}{f:V->V}(hf:∀ v k,qdE v=some k->p k=true->f v=v):∀ (o:Obj),qyM p o=true->Obj.mapId f o=o
 | .box (.dd _),_=>rfl
 | .box (.vv l),h=>by show Obj.box (.vv (zH f l))=_;rw[qav hf l h]
 | .arr _ (.dd _),_=>rfl
 | .arr n (.vv l),h=>by show Obj.arr n (.vv (qr f l))=_;rw[qgO hf l h]
 | .map _,_=>rfl
 | .iter _ _,_=>rfl
 | .buf _ _,_=>rfl
 | .tb t l,h=>by show Obj.tb t (zH f l)=_;rw[qav hf l h]
 | .mit v n l u,h=>by show Obj.mit (mapId f v) n l u=_;rw[qcV hf v h]
def qlg(K k:Nat):Bool:=Nat.blt k 3000000 && !Nat.beq k K
theorem qjQ{K k:Nat}(h:qlg K k=true):k<3000000/\k≠K:=by
 unfold qlg at h;rw[Bool.and_eq_true]at h;refine⟨Nat.le_of_ble_eq_true h.1,?_⟩;rintro rfl;simp at h
theorem qeE{a b:Nat}(h:a≠b):Nat.beq a b=false:=by rw[Bool.eq_false_iff];exact fun e=>h (Nat.eq_of_beq_eq_true e)
theorem qfQ{K j:Nat}(hj:j=K\/3000000<=j):∀ v k,qdE v=some k->qlg K k=true->qz j v=v:=by
 intro v k hv hk;have:=qjQ hk;unfold qz;rw[hv];simp only[qeE (show k≠j by rcases hj with rfl|h<;>omega)]
theorem qla{K i j:Nat}(hi:i=K\/3000000<=i):∀ v k,qdE v=some k->qlg K k=true->jA i j v=v:=by
 intro v k hv hk;have:=qjQ hk;have hb:=qeE (show k≠i by rcases hi with rfl|h<;>omega);cases v<;>simp[qdE]at hv<;>subst hv<;>simp[jA,hb]
theorem qlb{p:Nat->Bool}:∀ {e:Env} {k:Nat} {v:V},qta p e=true->get e k=some v->okN p v=true
 | [],_,_,_,h=>by cases h
 | (s,u)::r,k,v,h,hg=>by
  rw[qta,Bool.and_eq_true]at h;rw[qI]at hg;split at hg
  ·cases hg;exact h.1
  ·exact qlb h.2 hg
theorem qfR{p:Nat->Bool}:∀ {e:Heap} {k:Nat} {v:Obj},qtb p e=true->get e k=some v->p k=true/\qyM p v=true
 | [],_,_,_,h=>by cases h
 | (s,u)::r,k,v,h,hg=>by
  rw[qtb,Bool.and_eq_true,Bool.and_eq_true]at h;rw[qI]at hg;split at hg
  ·rename_i e;subst e;cases hg;exact⟨h.1,h.2.1⟩
  ·exact qfR h.2.2 hg
theorem qdz{α:Type}:∀ (a b:Tab α) (k:Nat),get (a++b) k=match get a k with|some v=>some v|none=>get b k
 | [],b,k=>rfl
 | (s,u)::r,b,k=>by
  rw[List.cons_append,qI,qI,qdz r b k];split<;>rfl
theorem Wk.moveU{σ:Type}{e:Env}{h:Heap}{s:σ}(i j:Nat)(hj:¬ pinned j)(hij:i≠j) :
  Wk (⟨e,h,s⟩:St σ) ⟨jT (mapId (jA i j)) (jT (mapId (qz j)) e),qfe i j (jT (Obj.mapId (qz j)) (cut h j)),s⟩:=by
 intro cx r m L F a w hg;have h1:Good cx r m L F ⟨e,cut h j,s⟩ a w:=hg.del j;have h2:=h1.kill j;have hu:=qgg (e:=e) (h:=h) j (x:=j) (.inl rfl);exact⟨_,F,h2.move hj hij hu,Tr.refl F w⟩
theorem Wk.subT{σ:Type}{e e':Env}{h h':Heap}{s:σ}(he:qaF e' e)(hh:qaF h' h):Wk (⟨e,h,s⟩:St σ) ⟨e',h',s⟩:=
 fun cx r m L F a w hg=>⟨L,F,hg.sub he hh,Tr.refl F w⟩
theorem Wk.ren{σ:Type}{e:Env}{h h':Heap}{s:σ}{K:Nat}(i j:Nat)(hj:¬ pinned j)(hij:i≠j)(hi:i=K\/3000000<=i)(hjK:j=K\/3000000<=j)(he:qta (qlg K) e=true)
  (hh:∀ k v,get h' k=some v->(k=j /\ ∃ o,get h i=some o/\v=Obj.mapId (jA i j) (Obj.mapId (qz j) o))\/(k≠j/\k≠i /\ ∃ o,get h k=some o/\v=Obj.mapId (jA i j) (Obj.mapId (qz j) o))) :
  Wk (⟨e,h,s⟩:St σ) ⟨e,h',s⟩:=by
 refine(Wk.moveU i j hj hij).trans (Wk.subT ?_ ?_)
 ·intro k v hv
  have hok:=qlb he hv;rw[qQ,qQ,hv];simp only[Option.map_some];rw[qcV (qfQ hjK) v hok,qcV (qla hi) v hok]
 ·intro k v hv
  have hn:get (jT (Obj.mapId (qz j)) (cut h j)) j=none:=by rw[qQ,zZ,if_pos rfl];rfl
  rw[qfn _ hn];rcases hh k v hv with⟨rfl,o,h1,rfl⟩|⟨h1,h2,o,h3,rfl⟩
  ·rw[if_pos rfl,qQ,zZ,if_neg hij,h1];rfl
  ·rw[if_neg h1,if_neg h2,qQ,zZ,if_neg h1,h3];rfl
def qiS(K:Nat)(rows:List Rw):Prop:=∀ K' n,Rw.foc K' n∈rows->K'<3000000/\K'≠K
theorem qeZ(B sz:Nat):∀ (rows:List Rw) (i j:Nat) ,(hdrs B sz i rows)[j]?=(rows[j]?).map fun r=>[qsZ B sz (i+j) r]
 | [],i,j=>by simp[hdrs]
 | r::rs,i,0=>by simp[hdrs]
 | r::rs,i,j+1=>by
  rw[hdrs,List.getElem?_cons_succ,qeZ B sz rs (i+1) j,List.getElem?_cons_succ,show i+1+j=i+(j+1) by omega]
theorem qlc(B sz:Nat):∀ (rows:List Rw) (i:Nat),(hdrs B sz i rows).length=rows.length
 | [],i=>rfl
 | r::rs,i=>by rw[hdrs,List.length_cons,qlc B sz rs,List.length_cons]
theorem qcg(f:V->V):∀ (l:List (List V)) (j:Nat),(qr f l)[j]?=(l[j]?).map (zH f)
 | [],j=>by simp[qr]
 | v::r,0=>by simp[qr]
 | v::r,j+1=>by rw[qr,List.getElem?_cons_succ,qcg f r j,List.getElem?_cons_succ]
theorem quu{B sz:Nat}{rows:List Rw}{n a b:Nat}{r':Rw}(hn:n<rows.length)
  (hsame:∀ j r,rows[j]?=some r->j≠n->mapId (jA a b) (mapId (qz b) (qsZ B sz j r))=qsZ B sz j r)
  (hnew:∀ r,rows[n]?=some r->mapId (jA a b) (mapId (qz b) (qsZ B sz n r))=qsZ B sz n r') :
  qr (jA a b) (qr (qz b) (hdrs B sz 0 rows))=hdrs B sz 0 (rows.set n r'):=by
 apply List.ext_getElem?;intro j;rw[qcg,qcg,qeZ,qeZ,List.getElem?_set];by_cases hj:n=j
 ·subst hj
  rw[if_pos rfl,if_pos hn];obtain⟨r,hr⟩:∃ r,rows[n]?=some r:=⟨_,List.getElem?_eq_getElem hn⟩;rw[hr];simp only[Option.map_some,zH,Nat.zero_add];rw[hnew r hr]
 ·rw[if_neg hj]
  cases hr:rows[j]? with
  | none=>rfl
  | some r=>
   simp only[Option.map_some,zH,Nat.zero_add];rw[hsame j r hr (fun e=>hj e.symm)]
theorem qwb{B sz K:Nat}(hB:3000000<=B){a b i:Nat}(hab:(a=K/\b=B+i)\/(a=B+i/\b=K)){j:Nat}(hj:j≠i){r:Rw}(hr:∀ K' n,r = .foc K' n->K'<3000000/\K'≠K)(hK:K<3000000) :
  mapId (jA a b) (mapId (qz b) (qsZ B sz j r))=qsZ B sz j r:=by
 have key:∀ x,x≠a->x≠b -> ∀ sz o n,mapId (jA a b) (mapId (qz b) (.sl x sz o n)) = .sl x sz o n:=by
  intro x h1 h2 sz o n;have e1:mapId (qz b) (.sl x sz o n) = .sl x sz o n:=by
   rw[mapId,qz];simp only[qdE,qeE h2]
  rw[e1,mapId,jA];simp only[qeE h1]
 cases r with
 | at' l=>
  refine key _ ?_ ?_ _ _ _<;>rcases hab with⟨rfl,rfl⟩|⟨rfl,rfl⟩<;>omega
 | foc K' n=>
  obtain⟨h1,h2⟩:=hr K' n rfl;refine key _ ?_ ?_ _ _ _<;>rcases hab with⟨rfl,rfl⟩|⟨rfl,rfl⟩<;>omega
def qcW(B sz:Nat)(rows:List Rw):Obj:=.arr 1 (.vv (hdrs B sz 0 rows))
structure FamAt(B sz O K:Nat)(rows:List Rw)(h:Heap):Prop where
 base:3000000<=B
 arr:get h O=some (qcW B sz rows)
 tail:∀ k,B<=k->get h k=get (qO B sz 0 rows) k
 low:O<3000000
 foc:qiS K rows
theorem qmJ{B sz K a b i:Nat}{rows:List Rw}{r':Rw}(hB:3000000<=B)(hK:K<3000000)(hf:∀ j r,rows[j]?=some r->j≠i -> ∀ K' n,r = .foc K' n->K'<3000000/\K'≠K)(hab:(a=K/\b=B+i)\/(a=B+i/\b=K))(hi:i<rows.length)
  (hnew:∀ r,rows[i]?=some r->mapId (jA a b) (mapId (qz b) (qsZ B sz i r))=qsZ B sz i r') :
  qcW B sz (rows.set i r')=Obj.mapId (jA a b) (Obj.mapId (qz b) (qcW B sz rows)):=by
 show Obj.arr 1 (.vv (hdrs B sz 0 (rows.set i r')))=Obj.arr 1 (.vv (qr (jA a b) (qr (qz b) (hdrs B sz 0 rows))));rw[quu hi (fun j r hr hj=>qwb hB hab hj (hf j r hr hj) hK) hnew]
theorem Wk.openF{σ:Type}{e:Env}{h:Heap}{s:σ}{B sz O:Nat}{rows:List Rw}(K i:Nat){l:List (List D)}(F:Heap)(hA:FamAt B sz O K rows h)(hK:K<1000000)(hOK:O≠K)(hi:rows[i]?=some (.at' l))
  (he:qta (qlg K) e=true) (hF:qtb (qlg K) F=true) (hFs:qbt h F) :
  Wk (⟨e,h,s⟩:St σ) ⟨e,(O,qcW B sz (rows.set i (.foc K l.length)))::(K,.arr sz (.dd l))::(F++qO B sz 0 (rows.set i (.foc K l.length))),s⟩:=by
 obtain⟨hB,hO,hT,hOl,hfo⟩:=hA;have hil:i<rows.length:=(List.getElem?_eq_some_iff.1 hi).1;have hrow:get h (B+i)=some (.arr sz (.dd l)):=by
  rw[hT _ (by omega),qbg,if_pos (by omega),show B+i-(B+0)=i by omega,hi]
 have hout:qcW B sz (rows.set i (.foc K l.length))=Obj.mapId (jA (B+i) K) (Obj.mapId (qz K) (qcW B sz rows)):=by
  refine qmJ hB (by omega) (fun j r hr _ K' n e=>hfo K' n (by rw[<- e];exact List.mem_of_getElem? hr)) (.inr ⟨rfl,rfl⟩) hil fun r hr=>?_;rw[hi]at hr;cases hr;show mapId _ (mapId _ (.sl (B+i) sz 0 l.length)) = .sl K sz 0 l.length;have e1:mapId (qz K) (.sl (B+i) sz 0 l.length) = .sl (B+i) sz 0 l.length:=by
   rw[mapId,qz];simp only[qdE,qeE (show B+i≠K by omega)]
  rw[e1,mapId,jA];simp only[Nat.beq_refl]
 refine Wk.ren (K:=K) (B+i) K (by unfold pinned;omega) (by omega) (.inr (by omega)) (.inl rfl) he fun k v hv=>?_;rw[qI]at hv;split at hv
 ·rename_i hk
  subst hk;cases hv;exact .inr ⟨hOK,by omega,_,hO,hout⟩
 ·rename_i hkO
  rw[qI]at hv;split at hv
  ·rename_i hk
   subst hk;cases hv;exact .inl ⟨rfl,_,hrow,rfl⟩
  ·rename_i hkK
   rw[qdz]at hv
   cases hg:get F k with
   | some o=>
    rw[hg]at hv;cases hv;obtain⟨h1,h2⟩:=qfR hF hg;have h3:=qjQ h1;refine .inr ⟨hkK,by omega,v,jF hFs k v hg,?_⟩;rw[qcf (qfQ (.inl rfl)) v h2,qcf (qla (.inr (by omega))) v h2]
   | none=>
    rw[hg]at hv;simp only at hv;rw[qbg]at hv;split at hv
    ·rename_i hBk
     rw[List.getElem?_set]at hv;by_cases hik:i=k-(B+0)
     ·rw[if_pos hik]at hv
      split at hv<;>simp_all
     ·rw[if_neg hik]at hv
      refine .inr ⟨hkK,by omega,v,?_,?_⟩
      ·rw[hT k (by omega),qbg,if_pos hBk];exact hv
      ·split at hv
       ·cases hv;rfl
       ·cases hv
    ·cases hv
theorem Wk.closeF{σ:Type}{e:Env}{h:Heap}{s:σ}{B sz O:Nat}{rows:List Rw}(K i:Nat){n:Nat}{l:List (List D)}(F:Heap)(hB:3000000<=B)(hO:get h O=some (qcW B sz rows))(hT:∀ k,B<=k->get h k=get (qO B sz 0 rows) k)(hOl:O<3000000)
  (hfo:qiS K (rows.set i (.at' l))) (hK:K<1000000) (hOK:O≠K) (hi:rows[i]?=some (.foc K n)) (hn:n=l.length) (hrow:get h K=some (.arr sz (.dd l)))
  (he:qta (qlg K) e=true) (hF:qtb (qlg K) F=true) (hFs:qbt h F) :
  Wk (⟨e,h,s⟩:St σ) ⟨e,(O,qcW B sz (rows.set i (.at' l)))::(F++qO B sz 0 (rows.set i (.at' l))),s⟩:=by
 have hil:i<rows.length:=(List.getElem?_eq_some_iff.1 hi).1;have hout:qcW B sz (rows.set i (.at' l))=Obj.mapId (jA K (B+i)) (Obj.mapId (qz (B+i)) (qcW B sz rows)):=by
  refine qmJ hB (by omega) (fun j r hr hj K' m e=>hfo K' m ?_) (.inl ⟨rfl,rfl⟩) hil fun r hr=>?_
  ·rw[<- e]
   refine List.mem_of_getElem? (i:=j) ?_;rw[List.getElem?_set,if_neg (fun h=>hj h.symm)];exact hr
  rw[hi]at hr;cases hr;subst hn;show mapId _ (mapId _ (.sl K sz 0 l.length)) = .sl (B+i) sz 0 l.length;have e1:mapId (qz (B+i)) (.sl K sz 0 l.length) = .sl K sz 0 l.length:=by
   rw[mapId,qz];simp only[qdE,qeE (show K≠B+i by omega)]
  rw[e1,mapId,jA];simp only[Nat.beq_refl]
 refine Wk.ren (K:=K) K (B+i) (by unfold pinned;omega) (by omega) (.inl rfl) (.inr (by omega)) he fun k v hv=>?_;rw[qI]at hv;split at hv
 ·rename_i hk
  subst hk;cases hv;exact .inr ⟨by omega,hOK,_,hO,hout⟩
 ·rename_i hkO
  rw[qdz]at hv
  cases hg:get F k with
  | some o=>
   rw[hg]at hv;cases hv;obtain⟨h1,h2⟩:=qfR hF hg;have h3:=qjQ h1;refine .inr ⟨by omega,h3.2,v,jF hFs k v hg,?_⟩;rw[qcf (qfQ (K:=K) (.inr (by omega))) v h2,qcf (qla (.inl rfl)) v h2]
  | none=>
   rw[hg]at hv;simp only at hv;rw[qbg]at hv;split at hv
   ·rename_i hBk
    rw[List.getElem?_set]at hv;by_cases hik:i=k-(B+0)
    ·rw[if_pos hik,if_pos hil]at hv
     have hk:k=B+i:=by omega
     refine .inl ⟨hk,_,hrow,?_⟩;cases hv;rfl
    ·rw[if_neg hik]at hv
     refine .inr ⟨by omega,by omega,v,?_,?_⟩
     ·rw[hT k (by omega),qbg,if_pos hBk];exact hv
     ·split at hv
      ·cases hv;rfl
      ·cases hv
   ·cases hv
theorem qld:∀ {l:List Nat} {k:Nat},inL l k=true↔k∈l
 | [],k=>by simp[inL]
 | i::r,k=>by
  rw[inL];by_cases h:k=i
  ·subst h;simp
  ·rw[List.mem_cons,<- qld (l:=r)]
   split
   ·rename_i h1
    have:=Nat.eq_of_beq_eq_true h1;omega
   ·simp[h]
theorem qiL:∀ {ids:List Nat} {t:Heap} {k:Nat},k∈zX (qM ids t)->k∈ids
 | ids,[],k,h=>by simp[qM,zX]at h
 | ids,(i,o)::r,k,h=>by
  rw[qM]at h;split at h
  ·rename_i h1
   rw[zX]at h;rcases List.mem_cons.1 h with rfl|h
   ·exact qld.1 h1
   ·exact qiL h
  ·exact qiL h
theorem qd{B sz k i:Nat}{rows:List Rw}(f:V->V)(h:k<B):jT (Obj.mapId f) (cut (qO B sz i rows) k)=qO B sz i rows:=by rw[qh h,qi]
def qws(B n:Nat):List Nat:=(List.range n).map fun i=>B+i
theorem qmK{B sz:Nat}{g:Nat->Option DO}:∀ (ls:List (List (List D))) (i:Nat),(∀ j l,ls[j]?=some l->g (B+(i+j))=some (.arr sz l))->qaA g (hdrs B sz i (ls.map Rw.at'))=some (ls.map fun l=>[.vs l])
 | [],i,_=>rfl
 | l::ls,i,h=>by
  have h0:jU g (.sl (B+i) sz 0 l.length)=some (.vs l):=by
   have h1:=h 0 l rfl;rw[Nat.add_zero]at h1;have h2:Nat.beq sz sz=true:=Nat.beq_refl sz;have h3:Nat.ble (0+l.length) l.length=true:=Nat.ble_eq_true_of_le (by omega);simp only[jU,h1,h2,h3,List.drop_zero,List.take_length]
  have h1:zY g [V.sl (B+i) sz 0 l.length]=some [.vs l]:=by rw[zY,h0];rfl
  have ih:=qmK ls (i+1) fun j m hm=>by
   have:=h (j+1) m (by simpa using hm);rw[show i+(j+1)=i+1+j by omega]at this;exact this
  rw[List.map_cons,hdrs,qaA];show(match zY g [V.sl (B+i) sz 0 l.length],qaA g (hdrs B sz (i+1) (ls.map Rw.at')) with|some a,some b=>some (a::b)|_,_=>none)=_;rw[h1,ih];rfl
theorem Wk.frzF{σ:Type}{e:Env}{h:Heap}{s:σ}{B sz O:Nat}{ls:List (List (List D))}(F:Heap)(hA:FamAt B sz O 0 (ls.map Rw.at') h)(hF:qtb (qlg O) F=true)(hFs:qbt h F) :
  Wk (⟨e,h,s⟩:St σ) ⟨e,(O,.arr 1 (.dd (ls.map fun l=>[.vs l])))::F,s⟩:=by
 obtain⟨hB,hO,hT,hOl,_⟩:=hA;have hno:∀ k,k<3000000->k∉zX (qM (qws B ls.length) h):=by
  intro k hk hm;have:=qiL hm;obtain⟨i,_,rfl⟩:=List.mem_map.1 this;omega
 have hk:get (qmO h (zX (qM (qws B ls.length) h))) O=some (.arr 1 (.vv (hdrs B sz 0 (ls.map Rw.at')))):=by
  rw[qdo,if_neg (hno O hOl)];exact hO
 have hv:qaA (qcv (qM (qws B ls.length) h) 1) (hdrs B sz 0 (ls.map Rw.at'))=some (ls.map fun l=>[.vs l]):=by
  refine qmK ls 0 fun j l hl=>?_;have hj:j<ls.length:=(List.getElem?_eq_some_iff.1 hl).1;have hg:get (qM (qws B ls.length) h) (B+(0+j))=some (.arr sz (.dd l)):=by
   have hin:inL (qws B ls.length) (B+(0+j))=true:=qld.2 (List.mem_map.2 ⟨j,List.mem_range.2 hj,by omega⟩);rw[qhW,if_pos hin,hT _ (by omega),qbg,if_pos (by omega),show B+(0+j)-(B+0)=j by omega,List.getElem?_map,hl];rfl
  rw[qcv,hg]
 refine(Wk.frzArr 1 (qws B ls.length) O hk hv).trans (Wk.subT (fun _ _ h=>h) fun k v hv=>?_);rw[jq];rw[qI]at hv;split at hv
 ·rename_i e
  rw[if_pos e];exact hv
 ·rename_i e
  have h1:=(qfR hF hv).1;have h2:=qjQ h1;rw[if_neg e,qdo,if_neg (hno k h2.1)];exact jF hFs k v hv
theorem Wk.bornF{σ:Type}{e:Env}{h:Heap}{s:σ}{B sz:Nat}(hB:3000000<=B)(hs:0<sz)(he:qta (qlg 0) e=true)(hH:qtb (qlg 0) h=true):∀ (m i:Nat),Wk (⟨e,h,s⟩:St σ) ⟨e,h++qO B sz i (List.replicate m (.at' [])),s⟩
 | 0,i=>Wk.subT (fun _ _ h=>h) (by rw[List.replicate_zero,qO,List.append_nil];exact fun _ _ h=>h)
 | m+1,i=>by
  refine(Wk.bornF hB hs he hH m (i+1)).trans ?_;have h1:Wk (⟨e,h++qO B sz (i+1) (List.replicate m (.at' [])),s⟩:St σ) ⟨jT (mapId (qz (B+i))) e,(B+i,.arr sz (.dd []))::jT (Obj.mapId (qz (B+i))) (cut (h++qO B sz (i+1) (List.replicate m (.at' []))) (B+i)),s⟩:=by
   intro cx r mm L F a w hg;exact⟨_,F,hg.newEmpty (B+i) sz (by unfold pinned;omega) hs (.dd []) rfl,Tr.refl F w⟩
  refine h1.trans (Wk.subT ?_ ?_)
  ·intro k v hv
   rw[qQ,hv];simp only[Option.map_some];rw[qcV (qfQ (K:=0) (.inr (by omega))) v (qlb he hv)]
  ·intro k v hv
   rw[List.replicate_succ,qO,qdz]at hv;rw[qI]
   cases hg:get h k with
   | some o=>
    rw[hg]at hv;cases hv;obtain⟨k1,k2⟩:=qfR hH hg;have k3:=qjQ k1;rw[if_neg (by omega),qQ,zZ,if_neg (by omega),qdz,hg];simp only[Option.map_some];rw[qcf (qfQ (K:=0) (.inr (by omega))) v k2]
   | none=>
    rw[hg]at hv;simp only at hv;rw[qI]at hv;split at hv
    ·rename_i e1
     rw[if_pos e1];exact hv
    ·rename_i e1
     rw[if_neg e1,qQ,zZ,if_neg e1,qdz,hg];simp only;rw[hv];rw[qbg]at hv;split at hv
     ·split at hv
      ·cases hv;rfl
      ·cases hv
     ·cases hv
theorem qjR{yv:Option Nat}{L:Loc}{F:Nat->Nat}{w:World}{B sz:Nat}(hs:0<sz):∀ (n i:Nat) (vals:List Value),RepVL yv L F w (ze (List.replicate n [D.nils])).flatten vals->RepVL yv L F w (hdrs B sz i (List.replicate n (.at' []))).flatten vals
 | 0,i,vals,h=>h
 | n+1,i,vals,h=>by
  obtain⟨x,l',rfl,hx,hl⟩:=h;have hx:x = .slice none 0 0:=hx;subst hx;exact⟨_,l',rfl,⟨none,0,rfl,Nat.le_refl _,hs,.inl ⟨rfl,rfl⟩⟩,qjR hs n (i+1) l' hl⟩
theorem Wk.makeF{σ:Type}{e:Env}{s:σ}{B sz O n:Nat}{F:Heap}(hB:3000000<=B)(hs:0<sz)(he:qta (qlg 0) e=true)(hH:qtb (qlg 0) ((O,.arr 1 (.dd (List.replicate n [D.nils])))::F)=true) :
  Wk (⟨e,(O,.arr 1 (.dd (List.replicate n [D.nils])))::F,s⟩:St σ) ⟨e,(O,qcW B sz (List.replicate n (.at' [])))::(F++qO B sz 0 (List.replicate n (.at' []))),s⟩:=by
 refine(Wk.bornF hB hs he hH n 0).trans ((Wk.reobj O (o:=.arr 1 (.dd (List.replicate n [D.nils]))) (qcW B sz (List.replicate n (.at' []))) (by rw[List.cons_append,qI,if_pos rfl]) (fun yv L F w h=>?_) fun L hb=>hb).trans (Wk.subT (fun _ _ h=>h) fun k v hv=>?_))
 ·obtain⟨c1,c2,c3⟩:=h
  have hl1:∀ m:Nat,(ze (List.replicate m [D.nils])).length=m:=by
   intro m
   induction m with
   | zero=>rfl
   | succ m ih=>rw[List.replicate_succ,ze,List.length_cons,ih]
  have hl2:(hdrs B sz 0 (List.replicate n (Rw.at' []))).length=n:=by rw[qlc,List.length_replicate]
  have c3:(ze (List.replicate n [D.nils]) = []/\L.κ O=0) \/ ∃ (c:Array Value) (T:TypeId),w.heap[L.ρ O]?=some (.cells c T (0,0))/\c.size=L.κ O/\(ze (List.replicate n [D.nils])).length*1<=c.size/\RepVL yv L F w (ze (List.replicate n [D.nils])).flatten (c.toList.take ((ze (List.replicate n [D.nils])).length*1)):=c3;refine⟨c1,fun x hx=>?_,?_⟩
  ·have hx:x∈hdrs B sz 0 (List.replicate n (Rw.at' [])):=hx
   obtain⟨j,hj⟩:=List.getElem?_of_mem hx;rw[qeZ]at hj
   cases hr:(List.replicate n (Rw.at' []))[j]? with
   | none=>rw[hr]at hj;cases hj
   | some r=>rw[hr]at hj;cases hj;rfl
  ·show(hdrs B sz 0 (List.replicate n (Rw.at' [])) = []/\L.κ O=0) \/ ∃ (c:Array Value) (T:TypeId),w.heap[L.ρ O]?=some (.cells c T (0,0))/\c.size=L.κ O/\(hdrs B sz 0 (List.replicate n (Rw.at' []))).length*1<=c.size/\RepVL yv L F w (hdrs B sz 0 (List.replicate n (Rw.at' []))).flatten (c.toList.take ((hdrs B sz 0 (List.replicate n (Rw.at' []))).length*1))
   rw[hl1]at c3;rw[hl2];rcases c3 with⟨h1,h2⟩|⟨c,T,h1,h2,h3,h4⟩
   ·refine .inl ⟨?_,h2⟩
    have:=congrArg List.length h1;rw[hl1]at this;have hn:n=0:=this;subst hn;rfl
   ·exact .inr ⟨c,T,h1,h2,h3,qjR hs n 0 _ h4⟩
 ·rw[jq]
  rw[qI]at hv;split at hv
  ·rename_i e1;rw[if_pos e1];exact hv
  ·rename_i e1
   rw[if_neg e1,List.cons_append,qI,if_neg e1];exact hv
theorem Wk.subG{σ:Type}{e e':Env}{s:σ}{B sz:Nat}{rows:List Rw}{h:Heap}(F':Heap)(hB:3000000<=B)(he:qoB e e')(hT:∀ k,3000000<=k->get h k=get (qO B sz 0 rows) k)(hs:qbt h F'):Wk (⟨e,h,s⟩:St σ) ⟨e',F'++qO B sz 0 rows,s⟩:=by
 refine Wk.subT (zi he) fun k v hv=>?_;rw[qdz]at hv
 cases hg:get F' k with
 | some o=>
  rw[hg]at hv;have hv:some o=some v:=hv;rw[<- hv];exact jF hs k o hg
 | none=>
  rw[hg]at hv;have hv:get (qO B sz 0 rows) k=some v:=hv;have hk:B<=k:=Nat.le_of_not_lt fun h=>by rw[qnR h]at hv;cases hv
  rw[hT k (by omega)];exact hv
def qpg:List Nat->Bool
 | []=>true
 | i::r=>Nat.blt i 3000000&&qpg r
theorem qwc:∀ {ids:List Nat} {k:Nat},qpg ids=true->3000000<=k->inL ids k=false:=by
 intro ids k h hk
 cases hc:inL ids k with
 | false=>rfl
 | true=>
  exfalso;have hm:=qld.1 hc;clear hc
  induction ids with
  | nil=>cases hm
  | cons i r ih=>
   simp only[qpg,Bool.and_eq_true]at h;have h1:i<3000000:=Nat.le_of_ble_eq_true h.1;rcases List.mem_cons.1 hm with e|hm
   ·omega
   ·exact ih h.2 hm
theorem qf{B sz:Nat}{ids:List Nat}(hB:3000000<=B)(h:qpg ids=true):∀ {rows:List Rw} {i:Nat},qM ids (qO B sz i rows) = []
 | [],_=>rfl
 | .at' l::rs,i=>by
  rw[qO,qM,qwc h (by omega)];exact qf hB h
 | .foc K n::rs,i=>by rw[qO];exact qf hB h
theorem qhj{B sz k:Nat}(hk:k<B):∀ {rows:List Rw} {i:Nat},(∀ K n,Rw.foc K n∈rows->K≠k)->qr (qz k) (hdrs B sz i rows)=hdrs B sz i rows
 | [],i,_=>rfl
 | .at' l::r,i,h=>by
  have e1:mapId (qz k) (.sl (B+i) sz 0 l.length) = .sl (B+i) sz 0 l.length:=by
   rw[mapId,qz];simp only[qdE,qeE (show B+i≠k by omega)]
  have ih:=qhj (sz:=sz) hk (rows:=r) (i:=i+1) fun K n hm=>h K n (by simp[hm]);show [mapId (qz k) (.sl (B+i) sz 0 l.length)]::qr (qz k) (hdrs B sz (i+1) r)=_;rw[e1,ih];rfl
 | .foc K n::r,i,h=>by
  have e1:mapId (qz k) (.sl K sz 0 n) = .sl K sz 0 n:=by
   rw[mapId,qz];simp only[qdE,qeE (h K n (by simp))]
  have ih:=qhj (sz:=sz) hk (rows:=r) (i:=i+1) fun K n hm=>h K n (by simp[hm]);show [mapId (qz k) (.sl K sz 0 n)]::qr (qz k) (hdrs B sz (i+1) r)=_;rw[e1,ih];rfl
end Go.PX
namespace Go.PX
open Go.Proofs
open Go.RowKit
def qC(t:Rws):List Rw:=t.map fun r=>.at' (qV r)
theorem qae{t:Rws}{i:Nat}{r:List Int}(h:t[i]?=some r):(qC t)[i]?=some (.at' (qV r)):=by
 unfold qC;rw[List.getElem?_map,h];rfl
theorem qaf(t:Rws)(i:Nat)(r:List Int):(qC t).set i (.at' (qV r))=qC (t.set i r):=by
 unfold qC;rw[List.map_set]
theorem qch(t:Rws):(qC t).length=t.length:=by unfold qC;rw[List.length_map]
theorem zo{t:Rws}{K:Nat}:qiS K (qC t):=by
 intro K' n hm;unfold qC at hm;obtain⟨x,_,hx⟩:=List.mem_map.1 hm;cases hx
theorem qgt{rows:List Rw}{K K' n i:Nat}(h:qiS K rows)(h1:K'<3000000)(h2:K'≠K):qiS K (rows.set i (.foc K' n)):=by
 intro J m hm;obtain⟨j,hj⟩:=List.getElem?_of_mem hm;rw[List.getElem?_set]at hj;split at hj
 ·split at hj
  ·cases hj;exact⟨h1,h2⟩
  ·cases hj
 ·exact h J m (List.mem_of_getElem? hj)
theorem qph{rows:List Rw}{K i:Nat}{l:List (List D)}(h:qiS K rows):qiS K (rows.set i (.at' l)):=by
 intro J m hm;obtain⟨j,hj⟩:=List.getElem?_of_mem hm;rw[List.getElem?_set]at hj;split at hj
 ·split at hj
  ·cases hj
  ·cases hj
 ·exact h J m (List.mem_of_getElem? hj)
theorem qaq{B sz K n i:Nat}{rows:List Rw}(h:rows[i]?=some (.foc K n)):(hdrs B sz 0 rows)[0+((i:Nat):Int).toNat]?=some [V.sl K sz 0 n]:=by
 rw[qeZ,Int.toNat_natCast];simp only[Nat.zero_add];rw[h];rfl
theorem qbx{rows:List Rw}{K n i:Nat}(h:i<rows.length):(rows.set i (.foc K n))[i]?=some (.foc K n):=by
 rw[List.getElem?_set,if_pos rfl,if_pos h]
theorem qfS{rows:List Rw}{i j:Nat}{r:Rw}(h:i≠j):(rows.set i r)[j]?=rows[j]?:=by
 rw[List.getElem?_set,if_neg h]
theorem Wk.openT{σ:Type}{e:Env}{h:Heap}{s:σ}{B O:Nat}{rows:List Rw}(K i:Nat){l:List (List D)}(F:Heap)(hB:3000000<=B)(hK:Nat.blt K 1000000=true)(hO:Nat.blt O 3000000=true)(hOK:Nat.beq O K=false)(hi:rows[i]?=some (.at' l))(hf:qiS K rows)
  (he:qta (qlg K) e=true) (hF:qtb (qlg K) F=true) (hg:get h O=some (qcW B 1 rows)) (hT:∀ k,B<=k->get h k=get (qO B 1 0 rows) k) (hFs:qbt h F) :
  Wk (⟨e,h,s⟩:St σ) ⟨e,(O,qcW B 1 (rows.set i (.foc K l.length)))::(K,.arr 1 (.dd l))::(F++qO B 1 0 (rows.set i (.foc K l.length))),s⟩:=
 Wk.openF K i F ⟨hB,hg,hT,Nat.le_of_ble_eq_true hO,hf⟩ (Nat.le_of_ble_eq_true hK) (fun e=>by subst e;simp at hOK) hi he hF hFs
theorem Wk.closeT{σ:Type}{e:Env}{h:Heap}{s:σ}{B O:Nat}{rows:List Rw}(K i:Nat){n:Nat}{l:List (List D)}(F:Heap)(hB:3000000<=B)(hK:Nat.blt K 1000000=true)(hO:Nat.blt O 3000000=true)(hOK:Nat.beq O K=false)(hi:rows[i]?=some (.foc K n))(hn:n=l.length)(hf:qiS K (rows.set i (.at' l)))
  (he:qta (qlg K) e=true) (hF:qtb (qlg K) F=true) (hg:get h O=some (qcW B 1 rows)) (hT:∀ k,B<=k->get h k=get (qO B 1 0 rows) k) (hrow:get h K=some (.arr 1 (.dd l))) (hFs:qbt h F) :
  Wk (⟨e,h,s⟩:St σ) ⟨e,(O,qcW B 1 (rows.set i (.at' l)))::(F++qO B 1 0 (rows.set i (.at' l))),s⟩:=
 Wk.closeF K i F hB hg hT (Nat.le_of_ble_eq_true hO) hf (Nat.le_of_ble_eq_true hK) (fun e=>by subst e;simp at hOK) hi hn hrow he hF hFs
section
variable {P : Program} {T : Tys} {σ : Type} {Y : Hd σ}
theorem qby(hT:qU P T){ft:FT}{c:Code}(hD:zS P T ft c){β:Type}(n:Nat)(I:Nat->β->St σ)(J:Nat->β->Prop)(x0:β){st:St σ}{K:AExit->St σ->Prop}(h0:Wk st (I 0 x0))(j0:J 0 x0)
  (round:∀ (i:Nat) (acc:β),i<n->J i acc -> ∃ st0,Wk (I i acc) st0/\wpA P T ft Y c st0 fun e st'=>match e with
   | .normal=>∃ acc',J (i+1) acc'/\Wk st' (I (i+1) acc')
   | e=>K e st')
  (fin:∀ acc,J n acc -> ∃ st0,Wk (I n acc) st0/\wpA P T ft Y c st0 fun e st'=>match e with
   | .normal=>False
   | e=>K e st'):LoopA P ft Y c st K:=by
 refine qrC (α:=Nat×β) (fun p=>I p.1 p.2) (fun p=>p.1<=n/\J p.1 p.2) (fun p=>n+1-p.1) (0,x0) h0 ⟨Nat.zero_le _,j0⟩ ?_;rintro ⟨i,acc⟩ ⟨hi,hj⟩;simp only at hi hj ⊢;by_cases hlt:i<n
 ·obtain⟨st0,hw0,hr0⟩:=round i acc hlt hj
  refine WPC.wk hw0 (WPC.mono (zM hT c hD _ _ hr0) fun e st' hk=>?_)
  cases e with
  | normal=>
   obtain⟨acc',h1,h2⟩:=hk;exact⟨(i+1,acc'),by simp only;omega,⟨hlt,h1⟩,h2⟩
  | exit i=>exact hk
  | ret=>exact hk
 ·have he:i=n:=by omega
  subst he;obtain⟨st0,hw0,hr0⟩:=fin acc hj;refine WPC.wk hw0 (WPC.mono (zM hT c hD _ _ hr0) fun e st' hk=>?_)
  cases e with
  | normal=>exact hk.elim
  | exit i=>exact hk
  | ret=>exact hk
end
end Go.PX
