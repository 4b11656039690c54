import Derived.Test.YtmbefpmbnhdbpaaGreatDoorPxB
import Derived.Great.BuildSlice
set_option linter.all false
namespace Go.PX
open Go.RowKit
theorem fh(b off n:Nat):(⟨b,off,none⟩:Addr).add n=⟨b,off+n,none⟩:=by
 unfold Addr.add;split
 ·rename_i h;subst h;rfl
 ·rfl
theorem cR.get{F:Nat->Nat}{w:World}:∀ {cs:List D} {b off:Nat} (i:Nat) {c:D},cR F w b off cs->cs[i]?=some c->off+i<F b /\ ∃ x,w.cell? ⟨b,off+i,none⟩=some x/\bM F w c x
 | [],_,_,i,c,_,hi=>by simp at hi
 | d::r,b,off,0,c,h,hi=>by
  simp at hi;subst hi;exact⟨h.1,h.2.1⟩
 | d::r,b,off,i+1,c,h,hi=>by
  have:=cR.get i h.2.2 (by simpa using hi);simpa[Nat.add_assoc,Nat.add_comm 1 i]using this
theorem cR.kD{F:Nat->Nat}{w:World}:∀ {cs:List D} {b off:Nat},(∀ (i:Nat) (c:D),cs[i]?=some c->off+i<F b /\ ∃ x,w.cell? ⟨b,off+i,none⟩=some x/\bM F w c x)->cR F w b off cs
 | [],_,_,_=>trivial
 | c::r,b,off,h=>⟨(h 0 c (by simp)).1,(h 0 c (by simp)).2,cR.kD fun i d hd=>by
   have:=h (i+1) d (by simpa using hd);simpa[Nat.add_assoc,Nat.add_comm 1 i]using this⟩
theorem cR.drop{F:Nat->Nat}{w:World}{cs:List D}{b off:Nat}(n:Nat)(h:cR F w b off cs):cR F w b (off+n) (cs.drop n):=
 .kD fun i c hc=>by
  rw[List.getElem?_drop]at hc;simpa[Nat.add_assoc]using cR.get _ h hc
theorem dz.get{F:Nat->Nat}{w:World}:∀ {es:List (List D)} {b off sz:Nat} (i:Nat) {e:List D},dz F w b off sz es->es[i]?=some e->e.length=sz/\cR F w b (off+i*sz) e
 | [],_,_,_,i,c,_,hi=>by simp at hi
 | d::r,b,off,sz,0,c,h,hi=>by
  simp at hi;subst hi;exact⟨h.1,by simpa using h.2.1⟩
 | d::r,b,off,sz,i+1,c,h,hi=>by
  have:=dz.get i h.2.2 (by simpa using hi);refine⟨this.1,?_⟩;have e:off+(i+1)*sz=off+sz+i*sz:=by rw[Nat.succ_mul];omega
  rw[e];exact this.2
theorem dz.kD{F:Nat->Nat}{w:World}:∀ {es:List (List D)} {b off sz:Nat},(∀ (i:Nat) (e:List D),es[i]?=some e->e.length=sz/\cR F w b (off+i*sz) e)->dz F w b off sz es
 | [],_,_,_,_=>trivial
 | e::r,b,off,sz,h=>⟨(h 0 e (by simp)).1,by simpa using (h 0 e (by simp)).2,dz.kD fun i d hd=>by
   have:=h (i+1) d (by simpa using hd);have e:off+(i+1)*sz=off+sz+i*sz:=by rw[Nat.succ_mul];omega
   rw[e]at this;exact this⟩
theorem dz.take{F:Nat->Nat}{w:World}{es:List (List D)}{b off sz:Nat}(n:Nat)(h:dz F w b off sz es):dz F w b off sz (es.take n):=
 .kD fun i e he=>by
  rw[List.getElem?_take]at he;split at he
  ·exact dz.get i h he
  ·simp at he
theorem dz.drop{F:Nat->Nat}{w:World}{es:List (List D)}{b off sz:Nat}(n:Nat)(h:dz F w b off sz es):dz F w b (off+n*sz) sz (es.drop n):=
 .kD fun i e he=>by
  rw[List.getElem?_drop]at he;have:=dz.get _ h he;rw[Nat.add_mul,<- Nat.add_assoc]at this;exact this
theorem kQ:∀ {l:List V} {ds:List D},vY l=some ds->l=inj ds
 | [],ds,h=>by simp[vY]at h;subst h;rfl
 | v::r,ds,h=>by
  cases v<;>simp only[vY]at h<;>first|(cases h;done)|skip
  rename_i d
  cases hr:vY r with
  | none=>simp[hr]at h
  | some l=>simp[hr]at h;subst h;simp[inj,kQ hr]
section
variable {yv : Option Nat} {L : Loc} {F : Nat -> Nat} {w : World}
theorem bg.tC{cs:List V}{l:Array Value}(h:aq yv L F w cs l.toList):bg yv L F w (tC cs) (.agg l):=by
 unfold PX.tC;split
 ·rename_i ds hd
  rw[kQ hd]at h;exact⟨l,rfl,aq.inj.1 h⟩
 ·exact⟨l,rfl,h⟩
theorem Cells.jq(c:Cells):c.len=c.bm.length:=by
 cases c
 ·exact(eC _).symm
 ·rfl
theorem bg.sub{c:Cells}{off n:Nat}{l:Array Value}(h:aq yv L F w ((c.bm.drop off).take n) l.toList):bg yv L F w (c.sub off n) (.agg l):=by
 cases c with
 | dd d=>
  refine⟨l,rfl,?_⟩;simp only[Cells.bm,<- yr,<- yt]at h;exact aq.inj.1 h
 | vv d=>exact bg.tC h
theorem S8{c:Cells}{n:Nat}{K:V->Prop}(h:c.Sx n K):∃ v,c.bm[n]?=some v/\K v:=by
 cases c with
 | dd l=>
  obtain⟨v,hv,hk⟩:=oe h;exact⟨.d v,by simp[Cells.bm,wL,hv],hk⟩
 | vv l=>exact oe h
theorem xW{ti:rE}{c:Cells}{off:Nat}{K:V->Prop}(h:c.cP ti off K) :
  ∃ v,K v/\((ti.isAgg=true/\off+ti.size<=c.bm.length/\v=c.sub off ti.size)\/(ti.isAgg=false/\c.bm[off]?=some v)):=by
 unfold Cells.cP at h;split at h
 ·rename_i hA
  obtain⟨hb,hk⟩:=ca h;rw[Cells.jq]at hb;exact⟨_,hk,.inl ⟨hA,ng hb,rfl⟩⟩
 ·rename_i hA
  obtain⟨v,hv,hk⟩:=S8 h;exact⟨v,hk,.inr ⟨hA,hv⟩⟩
theorem xu{b off:Nat}:∀ {cs:List V} (n:Nat),n<=cs.length->(∀ (i:Nat) c,cs[i]?=some c -> ∃ v,w.cell? ⟨b,off+i,none⟩=some v/\bg yv L F w c v) ->
  ∃ l:List Value,aq yv L F w (cs.take n) l /\ ∀ (j:Nat) v,l[j]?=some v->w.cell? ⟨b,off+j,none⟩=some v
 | cs,0,_,_=>⟨[],by simp[aq],by simp⟩
 | cs,n+1,hn,h=>by
  obtain⟨l,hl,hj⟩:=xu n (by omega) h;have dN:n<cs.length:=by omega
  obtain⟨v,hv,hr⟩:=h n cs[n] (by simp[dN]);have Lu:l.length=n:=by have:=hl.length;simp at this;omega
  refine⟨l ++ [v],?_,?_⟩
  ·rw[List.take_succ_eq_append_getElem dN]
   exact hl.append ⟨v,[],rfl,hr,rfl⟩
  ·intro j u hu
   by_cases JW:j<n
   ·rw[List.getElem?_append_left (by omega)]at hu
    exact hj j u hu
   ·rw[List.getElem?_append_right (by omega)]at hu
    have:j-l.length=0:=by
     rcases Nat.eq_zero_or_pos (j-l.length) with h0|h0
     ·exact h0
     ·rw[List.getElem?_eq_none (by simp;omega)]at hu;cases hu
    rw[this]at hu;simp at hu;subst hu;have:j=n:=by omega
    subst this;exact hv
theorem qk{P:Program}{T:e7}(hT:bA P T){t:TypeId}{ti:rE}(ht:T.get t=some ti){b off o:Nat}{c:Cells}{v:V}
  (hc:∀ (i:Nat) x,(c.bm.drop o)[i]?=some x -> ∃ v,w.cell? ⟨b,off+i,none⟩=some v/\bg yv L F w x v)
  (hv:(ti.isAgg=true/\o+ti.size<=c.bm.length/\v=c.sub o ti.size)\/(ti.isAgg=false/\c.bm[o]?=some v)) :
  ∃ x,(loadVar t ⟨b,off,none⟩).run P w = .ok x w/\bg yv L F w v x:=by
 rcases hv with⟨hA,hn,rfl⟩|⟨hA,hv⟩
 ·obtain⟨l,hl,hj⟩:=xu ti.size (by simp;omega) hc
  have Lu:l.length=ti.size:=by have:=hl.length;simp at this;omega
  have bN:(loadCells ⟨b,off,none⟩ l.length).run P w = .ok l.toArray w:=
   run_loadCells_list (P:=P) w ⟨b,off,none⟩ l (fun j v hv=>by rw[fh];exact hj j v hv)
  rw[Lu]at bN;exact⟨.agg l.toArray,by simp[loadVar,lj hT ht,hA,e5 hT ht,bN],bg.sub (by simpa using hl)⟩
 ·obtain⟨x,hx,hr⟩:=hc 0 v (by rw[List.getElem?_drop];exact hv)
  exact⟨x,by simp[loadVar,lj hT ht,hA]at hx ⊢;simp[hx],hr⟩
theorem vm{α:Type}{sz:Nat}:∀ {es:List (List α)} {i j:Nat} {e:List α} {c:α},dj sz es->es[i]?=some e->e[j]?=some c->es.flatten[i*sz+j]?=some c
 | [],i,j,e,c,_,hi,_=>by simp at hi
 | f::es,0,j,e,c,h,hi,hj=>by
  simp at hi;subst hi;have:j<f.length:=(List.getElem?_eq_some_iff.1 hj).1;rw[List.flatten_cons,Nat.zero_mul,Nat.zero_add,List.getElem?_append_left this];exact hj
 | f::es,i+1,j,e,c,h,hi,hj=>by
  have hf:=h f (List.mem_cons_self ..);rw[List.flatten_cons,List.getElem?_append_right (by rw[Nat.succ_mul];omega)];have:(i+1)*sz+j-f.length=i*sz+j:=by rw[Nat.succ_mul];omega
  rw[this];exact vm (fun e he=>h e (List.mem_cons_of_mem _ he)) (by simpa using hi) hj
theorem jZ{α:Type}{sz:Nat}:∀ {es:List (List α)},dj sz es->es.flatten.length=es.length*sz
 | [],_=>by simp
 | f::es,h=>by
  rw[List.flatten_cons,List.length_append,jZ (fun e he=>h e (List.mem_cons_of_mem _ he)),h f (List.mem_cons_self ..),List.length_cons,Nat.succ_mul];omega
theorem C5{es:aK}{n:Nat}{K:Cells->Prop}(h:es.Sx n K):∃ c,es.bm[n]?=some c.bm/\K c:=by
 cases es with
 | dd l=>
  obtain⟨v,hv,hk⟩:=oe h;exact⟨.dd v,by simp[aK.bm,bV,hv,Cells.bm],hk⟩
 | vv l=>
  obtain⟨v,hv,hk⟩:=oe h;exact⟨.vv v,by simp[aK.bm,hv,Cells.bm],hk⟩
theorem cb.Kv{id:Nat}{c:Cells}(h:cb yv L F w id (.box c))(o:Nat):∀ (i:Nat) x,(c.bm.drop o)[i]?=some x -> ∃ v,w.cell? ⟨L.ρ id,o+i,none⟩=some v/\bg yv L F w x v:=by
 intro i x hx;obtain⟨l,T,hl,hr⟩:=h;rw[List.getElem?_drop]at hx;obtain⟨v,hv,DM⟩:=aq.get _ hr hx;exact⟨v,by rw[cell_of_row _ _ _ _ _ _ hl];simpa using hv,DM⟩
theorem cb.Km{id sz i:Nat}{es:aK}{c:Cells}(h:cb yv L F w id (.arr sz es))(hi:es.bm[i]?=some c.bm)(o:Nat) :
  ∀ (j:Nat) x,(c.bm.drop o)[j]?=some x -> ∃ v,w.cell? ⟨L.ρ id,i*sz+o+j,none⟩=some v/\bg yv L F w x v:=by
 intro j x hx;obtain⟨hs,hl,h⟩:=h;rw[List.getElem?_drop]at hx;rcases h with⟨he,_⟩|⟨l,T,kM,hk,hn,hr⟩
 ·rw[he]at hi;simp at hi
 ·have hg:=vm hl hi hx
  obtain⟨v,hv,DM⟩:=aq.get _ hr hg;refine⟨v,?_,DM⟩;rw[cell_of_row _ _ _ _ _ _ kM,Nat.add_assoc];rw[List.getElem?_take]at hv;split at hv
  ·simpa using hv
  ·cases hv
end
section
variable {P : Program} {T : e7} {e : Env} {h : Heap} {dst : Option Nat} {K : List Wr -> Prop} {ty : TypeId} {pos : String} {after : Array Edge} {guard : Option (Nat × Bool)}
theorem HQ(hT:bA P T){t:TypeId}{x:Operand}{K:V->Prop}(hk:D0 T e h t x K) :
  ∃ v,K v /\ ∀ {σ:Type} (cx:Cx σ) (L:Loc) (F:Nat->Nat) (s:σ) (u:Value) (w:World) (hp:Heap),dB h hp->aZ cx L F hp s w->(∀ v,aS e x=some v->bg cx.yv L F w v u) ->
   ∃ b off y,u = .pointer (some ⟨b,off,none⟩)/\(loadVar t ⟨b,off,none⟩).run P w = .ok y w/\bg cx.yv L F w v y:=by
 unfold D0 at hk;split at hk
 ·exact hk.elim
 rename_i v hv;split at hk
 ·rename_i cs ti hp ht
  obtain⟨r,hr,hc⟩:=xW hk;refine⟨r,hr,fun cx L F s u w IV hs hg hu=>?_⟩;unfold placeOf at hp;split at hp<;>cases hp
  obtain⟨b,off,rfl,tY⟩:=hu _ hv;obtain⟨y,hy,hr⟩:=qk (yv:=cx.yv) (L:=L) (F:=F) (w:=w) (b:=b) (off:=off) (o:=0) hT ht (fun i x hx=>by
   rw[List.drop_zero,Cells.bm,wL]at hx
   cases pb:cs[i]? with
   | none=>simp[pb]at hx
   | some c=>
    simp[pb]at hx;subst hx;exact(cR.get i tY pb).2) hc
  exact⟨b,off,y,rfl,hy,hr⟩
 ·rename_i id off ti hp ht
  have rd:∀ (cs:Cells),cs.cP ti off K->(∀ {yv:Option Nat} {L:Loc} {F:Nat->Nat} {w:World} {o:Obj},get h id=some o->cb yv L F w id o->cb yv L F w id (.box cs)) ->
    ∃ v,K v /\ ∀ {σ:Type} (cx:Cx σ) (L:Loc) (F:Nat->Nat) (s:σ) (u:Value) (w:World) (hp:Heap),dB h hp->aZ cx L F hp s w->(∀ v,aS e x=some v->bg cx.yv L F w v u) ->
   ∃ b off y,u = .pointer (some ⟨b,off,none⟩)/\(loadVar t ⟨b,off,none⟩).run P w = .ok y w/\bg cx.yv L F w v y:=by
   intro cs hk Hs;obtain⟨r,hr,hc⟩:=xW hk;refine⟨r,hr,fun cx L F s u w IV hs hg hu=>?_⟩;unfold placeOf at hp;split at hp<;>cases hp
   have hu:u = .pointer (some ⟨L.ρ id,off,none⟩):=hu _ hv;have ho:∃ o,get h id=some o/\cb cx.yv L F w id o:=by
    cases wH:get h id with
    | none=>exact absurd hk (by simp[wH]at *)
    | some o=>exact⟨o,rfl,hg.obj id _ (hs _ _ wH)⟩
   obtain⟨o,Rq,ZR⟩:=ho;obtain⟨y,hy,hr⟩:=qk (yv:=cx.yv) (L:=L) (F:=F) (w:=w) (b:=L.ρ id) (off:=off) (o:=off) hT ht (cb.Kv (Hs Rq ZR) off) hc;exact⟨_,_,y,hu,hy,hr⟩
  split at hk;case h_3=>exact hk.elim
  ·rename_i cs Hs
   exact rd cs hk fun ho hr=>by rw[Hs]at ho;cases ho;exact hr
  ·rename_i tt l Hs
   exact rd (.vv l) hk fun ho hr=>by
    rw[Hs]at ho;cases ho;obtain⟨c,hc,hr⟩:=hr;exact⟨c,_,hc,hr⟩
 ·rename_i id sz i off ti hp ht
  split at hk;case h_2=>exact hk.elim
  rename_i n es fe;obtain⟨hn,hk⟩:=ca hk;have hn:=er hn;obtain⟨c,Q1,hk⟩:=C5 hk;obtain⟨r,hr,hc⟩:=xW hk;refine⟨r,hr,fun cx L F s u w IV hs hg hu=>?_⟩;unfold placeOf at hp;split at hp<;>cases hp
  have hu:u = .pointer (some ⟨L.ρ id,i*sz+off,none⟩):=hu _ hv;subst hn;obtain⟨y,hy,hr⟩:=qk (yv:=cx.yv) (L:=L) (F:=F) (w:=w) (b:=L.ρ id) (off:=i*n+off) (o:=off) hT ht (cb.Km (hg.obj id _ (hs _ _ fe)) Q1 off) hc;exact⟨_,_,y,hu,hy,hr⟩
 ·exact hk.elim
theorem Mp(hT:bA P T){t:TypeId}{x:Operand}(hk:gL T e h dst (.load t x) K):∃ ws,K ws/\Out P e h ⟨dst,.load t x,ty,pos,after,guard⟩ ws:=by
 simp only[gL]at hk;obtain⟨v,hv,hl⟩:=HQ (P:=P) hT hk;refine⟨_,hv,bI (o:=⟨dst,.load t x,ty,pos,after,guard⟩) fun cx r m L F st a w he hh hg=>?_⟩;obtain⟨b,off,y,hu,hy,hr⟩:=hl cx L F st.s (a.eval x) w st.heap hh hg.heap (fun v hv=>hg.aS (aF he hv));exact⟨y,by simp[execOp,Instr.loadAt,hu,Instr.sureAddr,hy],hr⟩
theorem An(hT:bA P T){t:TypeId}{i off:Nat}{fi:rE}(h:sY T t i=some (off,fi)) :
  ∃ (fa:Array Field) (f:Field),P.underlying t=some (.struct fa)/\fa[i]?=some f/\f.offset=off/\T.get f.type=some fi:=by
 unfold sY at h;split at h;case h_2=>cases h
 rename_i ti ic;split at h;case h_2=>cases h
 rename_i fs hk;split at h;case h_2=>cases h
 rename_i abh ft hi;split at h;case h_2=>cases h
 rename_i fi' UJ;cases h;obtain⟨ii,de,hii,gP,_,_,eP,_⟩:=hT t ti ic;rw[hk]at eP;obtain⟨fa,rfl,rfl,_⟩:=jc eP.symm;rw[List.getElem?_map]at hi
 cases hf:fa.toList[i]? with
 | none=>rw[hf]at hi;cases hi
 | some f=>
  rw[hf]at hi;cases hi;exact⟨fa,f,gP,by simpa using hf,rfl,UJ⟩
theorem A1{v:V}{p:Place}(hp:placeOf v=some p)(n:Nat){yv:Option Nat}{L:Loc}{F:Nat->Nat}{w:World}{u:Value}(hr:bg yv L F w v u) :
  ∃ b off,u = .pointer (some ⟨b,off,none⟩)/\bg yv L F w (p.add n) (.pointer (some ⟨b,off+n,none⟩)):=by
 unfold placeOf at hp;split at hp<;>cases hp
 ·obtain⟨b,off,rfl,tY⟩:=hr
  exact⟨b,off,rfl,b,off+n,rfl,cR.drop n tY⟩
 ·exact⟨_,_,hr,rfl⟩
 ·exact⟨_,_,hr,by show Value.pointer _=Value.pointer _;rw[Nat.add_assoc]⟩
theorem zO(hT:bA P T){t:TypeId}{x:Operand}{i:Nat}(hk:gL T e h dst (.fieldAddr t x i) K):∃ ws,K ws/\Out P e h ⟨dst,.fieldAddr t x i,ty,pos,after,guard⟩ ws:=by
 simp only[gL]at hk;split at hk;case h_2=>exact hk.elim
 rename_i v off fi hv hf;obtain⟨dc,hk⟩:=ca hk;have dc:=yJ dc;split at hk;case h_2=>exact hk.elim
 rename_i p hp;obtain⟨fa,f,hu,UJ,rfl,Zt⟩:=An hT hf;refine⟨_,hk,bI (o:=⟨dst,.fieldAddr t x i,ty,pos,after,guard⟩) fun cx r m L F st a w he hh hg=>?_⟩;obtain⟨b,o',dC,hr⟩:=A1 hp f.offset (hg.aS (aF he hv));exact⟨_,by simp[execOp,Instr.fieldAt,run_underlying hu,UJ,dC,Instr.sureAddr,fieldPlace,e5 hT Zt,dc,fh],hr⟩
theorem A4(hT:bA P T){yv:Option Nat}{L:Loc}{F:Nat->Nat}{w:World}{t:TypeId}{ti:rE}(ht:T.get t=some ti){cs:Array Value}{c:Cells}{off:Nat}(hx:aq yv L F w c.bm cs.toList){v:V}
  (hv:(ti.isAgg=true/\off+ti.size<=c.bm.length/\v=c.sub off ti.size)\/(ti.isAgg=false/\c.bm[off]?=some v)) :
  ∃ y,(part t cs off).run P w = .ok y w/\bg yv L F w v y:=by
 rcases hv with⟨hA,hn,rfl⟩|⟨hA,hv⟩
 ·refine⟨.agg (cs.extract off (off+ti.size)),by simp[part,lj hT ht,hA,e5 hT ht],bg.sub ?_⟩
  have:(cs.extract off (off+ti.size)).toList=(cs.toList.drop off).take ti.size:=by simp[List.extract_eq_take_drop]
  rw[this];exact(hx.drop off).take _
 ·obtain⟨y,hy,hr⟩:=aq.get off hx hv
  have oz:cs[off]?=some y:=by simpa using hy
  exact⟨y,by simp[part,lj hT ht,hA,oz],hr⟩
theorem Jn(hT:bA P T){t:TypeId}{x:Operand}{i:Nat}(hk:gL T e h dst (.field t x i) K):∃ ws,K ws/\Out P e h ⟨dst,.field t x i,ty,pos,after,guard⟩ ws:=by
 simp only[gL]at hk;have key:∀ (c:Cells) (off:Nat) (fi:rE) (u:V),aS e x=some u->sY T t i=some (off,fi)->(∀ (yv:Option Nat) (L:Loc) (F:Nat->Nat) (w:World) (y:Value),bg yv L F w u y -> ∃ l:Array Value,y = .agg l/\aq yv L F w c.bm l.toList) ->
   c.cP fi off (fun v=>K (bz dst v)) -> ∃ ws,K ws/\Out P e h ⟨dst,.field t x i,ty,pos,after,guard⟩ ws:=by
  intro c off fi u hu hf hr hk;obtain⟨v,hv,hc⟩:=xW hk;obtain⟨fa,f,wh,UJ,rfl,Zt⟩:=An hT hf;refine⟨_,hv,bI (o:=⟨dst,.field t x i,ty,pos,after,guard⟩) fun cx r m L F st a w he hh hg=>?_⟩;obtain⟨l,hl,ZJ⟩:=hr _ _ _ _ _ (hg.aS (aF he hu));obtain⟨y,hy,hr⟩:=A4 hT Zt ZJ hc;exact⟨y,by simp[execOp,Instr.field,run_underlying wh,UJ,hl,asAgg,hy],hr⟩
 split at hk
 ·rename_i cs off fi hu hf
  exact key (.dd cs) off fi _ hu hf (fun yv L F w y hr=>by obtain⟨l,rfl,hl⟩:=hr;exact⟨l,rfl,aq.inj.2 hl⟩) hk
 ·rename_i cs off fi hu hf
  exact key (.vv cs) off fi _ hu hf (fun yv L F w y hr=>by obtain⟨l,rfl,hl⟩:=hr;exact⟨l,rfl,hl⟩) hk
 ·exact hk.elim
theorem NJ{es:List (List D)}{i:Int}{K:List D->Prop}(h:Ah es i K):∃ l,0<=i/\es[i.toNat]?=some l/\K l:=by
 unfold Ah at h;split at h
 ·rename_i l h0 hl;exact⟨l,of_decide_eq_true h0,hl,h⟩
 ·exact h.elim
theorem fp(hT:bA P T){t:TypeId}{ti:rE}(ht:T.get t=some ti):∃ d,P.underlying t=some d/\ti.kd=jM d:=by
 obtain⟨i,d,hi,hd,_,_,hk,_⟩:=hT t ti ht;exact⟨d,hd,hk⟩
theorem zP(hT:bA P T){t:TypeId}{x i:Operand}(hk:gL T e h dst (.indexAddr t x i) K):∃ ws,K ws/\Out P e h ⟨dst,.indexAddr t x i,ty,pos,after,guard⟩ ws:=by
 simp only[gL]at hk;split at hk;case h_2=>exact hk.elim
 rename_i ti v k n ht hv hi;obtain⟨d,hu,eP⟩:=fp hT ht;split at hk
 ·rename_i el eI
  rw[eI]at eP;have:=fC eP.symm;subst this;split at hk;case h_2=>exact hk.elim
  rename_i ei jS;obtain⟨dc,hk⟩:=ca hk;have dc:=yJ dc;split at hk
  ·rename_i es _
   obtain⟨l,su,hl,hk⟩:=NJ hk;obtain⟨Lu,hk⟩:=ca hk;have Lu:=er Lu;refine⟨_,hk,bI (o:=⟨dst,.indexAddr t x i,ty,pos,after,guard⟩) fun cx r m L F st a w he hh hg=>?_⟩;have N6:=jm hg he hi;obtain⟨a0,len,cap,dC,hlen,j7,fe⟩:=hg.aS (aF he hv);obtain⟨b,off,sz,rfl,IW,tY⟩:=fe (by rintro rfl;simp at hl);obtain⟨hlz,Z3⟩:=dz.get n.toNat tY hl;have FL:sz=ei.size:=by omega
   have nt:n.toNat<es.length:=(List.getElem?_eq_some_iff.1 hl).1;refine⟨.pointer (some ⟨b,off+n.toNat*ei.size,none⟩),?_,b,_,rfl,FL▸Z3⟩;have h1:(n:Int)<(len:Int):=by rw[hlen];omega
   simp[execOp,Instr.indexAt,N6,asIntOf,run_underlying hu,dC,su,h1,e5 hT jS,fh]
  ·rename_i id sz off len _
   obtain⟨hn,hk⟩:=ca hk;simp only[Bool.and_eq_true,decide_eq_true_eq]at hn;obtain⟨FL,hk⟩:=ca hk;have FL:=er FL;refine⟨_,hk,bI (o:=⟨dst,.indexAddr t x i,ty,pos,after,guard⟩) fun cx r m L F st a w he hh hg=>?_⟩;have N6:=jm hg he hi;obtain⟨a0,cap,dC,j7,IW,hb⟩:=hg.aS (aF he hv);rcases hb with⟨h0,_⟩|⟨rfl,hb⟩
   ·omega
   refine⟨.pointer (some ⟨L.ρ id,off*sz+n.toNat*ei.size,none⟩),?_,?_⟩
   ·simp[execOp,Instr.indexAt,N6,asIntOf,run_underlying hu,dC,hn.1,hn.2,e5 hT jS,fh]
   ·show Value.pointer _=Value.pointer _
    rw[<- FL,Nat.add_zero,Nat.add_mul]
  ·exact hk.elim
 ·rename_i len el eI
  rw[eI]at eP;have:=gi eP.symm;subst this;split at hk;case h_2=>exact hk.elim
  rename_i ei p jS hp;obtain⟨dc,hk⟩:=ca hk;have dc:=yJ dc;obtain⟨hn,hk⟩:=ca hk;simp only[Bool.and_eq_true,decide_eq_true_eq]at hn;refine⟨_,hk,bI (o:=⟨dst,.indexAddr t x i,ty,pos,after,guard⟩) fun cx r m L F st a w he hh hg=>?_⟩;have N6:=jm hg he hi;obtain⟨b,o',dC,hr⟩:=A1 hp (n.toNat*ei.size) (hg.aS (aF he hv));exact⟨_,by simp[execOp,Instr.indexAt,N6,asIntOf,run_underlying hu,dC,Instr.sureAddr,hn.1,hn.2,e5 hT jS,fh],hr⟩
 ·exact hk.elim
theorem Jo(hT:bA P T){t:TypeId}{x i:Operand}(hk:gL T e h dst (.index t x i) K):∃ ws,K ws/\Out P e h ⟨dst,.index t x i,ty,pos,after,guard⟩ ws:=by
 simp only[gL]at hk;split at hk;case h_2=>exact hk.elim
 rename_i ti v k n ht hv hi;obtain⟨d,hu,eP⟩:=fp hT ht;have key:∀ (c:Cells) (len:Nat) (el:TypeId) (ei:rE),d = .array len el->T.get el=some ei->0<=n/\n<len ->
   (∀ (yv:Option Nat) (L:Loc) (F:Nat->Nat) (w:World) (y:Value),bg yv L F w v y -> ∃ l:Array Value,y = .agg l/\aq yv L F w c.bm l.toList) ->
   c.cP ei (n.toNat*ei.size) (fun v=>K (bz dst v)) -> ∃ ws,K ws/\Out P e h ⟨dst,.index t x i,ty,pos,after,guard⟩ ws:=by
  intro c len el ei gP jS hn hr hk;subst gP;obtain⟨u,LL,hc⟩:=xW hk;refine⟨_,LL,bI (o:=⟨dst,.index t x i,ty,pos,after,guard⟩) fun cx r m L F st a w he hh hg=>?_⟩;have N6:=jm hg he hi;obtain⟨l,hl,ZJ⟩:=hr _ _ _ _ _ (hg.aS (aF he hv));obtain⟨y,hy,hr⟩:=A4 hT jS ZJ hc;exact⟨y,by simp[execOp,Instr.index,N6,hl,asIntOf,run_underlying hu,hn.1,hn.2,e5 hT jS,hy],hr⟩
 split at hk
 ·rename_i s eI
  rw[eI]at eP;have:=jo eP.symm;subst this;obtain⟨hn,hk⟩:=ca hk;have hn:=of_decide_eq_true hn;obtain⟨b,hb,hk⟩:=oe hk;refine⟨_,hk,bI (v:=.d (.int .u8 b.toNat)) (o:=⟨dst,.index t x i,ty,pos,after,guard⟩) fun cx r m L F st a w he hh hg=>?_⟩;have N6:=jm hg he hi;have hxv:=lE hg he hv;have IT:n.toNat<s.data.toList.length:=(List.getElem?_eq_some_iff.1 hb).1;have dN:n.toNat<s.size:=by simpa using IT
  have kS:s[n.toNat]?=some b:=by
   rw[getElem?_pos s n.toNat dN];rw[List.getElem?_eq_getElem IT]at hb;cases hb;rfl
  exact⟨.int .u8 b.toNat,by simp[execOp,Instr.index,N6,hxv,asIntOf,run_underlying hu,hn,kS],rfl⟩
 ·rename_i len el cs eI
  rw[eI]at eP;split at hk;case h_2=>exact hk.elim
  rename_i ei jS;obtain⟨hn,hk⟩:=ca hk;simp only[Bool.and_eq_true,decide_eq_true_eq]at hn;exact key (.dd cs) len el ei (gi eP.symm) jS hn (fun yv L F w y hr=>by obtain⟨l,rfl,hl⟩:=hr;exact⟨l,rfl,aq.inj.2 hl⟩) hk
 ·rename_i len el cs eI
  rw[eI]at eP;split at hk;case h_2=>exact hk.elim
  rename_i ei jS;obtain⟨hn,hk⟩:=ca hk;simp only[Bool.and_eq_true,decide_eq_true_eq]at hn;exact key (.vv cs) len el ei (gi eP.symm) jS hn (fun yv L F w y hr=>by obtain⟨l,rfl,hl⟩:=hr;exact⟨l,rfl,hl⟩) hk
 ·exact hk.elim
end
section
variable {yv : Option Nat} {L : Loc} {F : Nat -> Nat} {w : World}
theorem bM.one{a:D}{v:Value}(h:bM F w a v)(hs:a.scalar=true):v.oneCell'=true:=by
 cases a<;>simp[D.scalar]at hs<;>simp only[bM]at h
 case bool=>subst h;rfl
 case int=>subst h;rfl
 case str=>subst h;rfl
 case vs=>obtain⟨a,len,cap,rfl,_⟩:=h;rfl
 case nils=>subst h;rfl
 case ref=>obtain⟨b,off,rfl,_⟩:=h;rfl
 case nilp=>subst h;rfl
 case mv=>obtain⟨r,en,c,rfl,_⟩:=h;rfl
 case nilm=>subst h;rfl
 case clo=>obtain⟨l,rfl,_⟩:=h;rfl
 case mth=>obtain⟨l,rfl,_⟩:=h;rfl
 case nilf=>subst h;rfl
 case ifc=>obtain⟨y,rfl,_⟩:=h;rfl
 case nili=>subst h;rfl
theorem bg.one{a:V}{v:Value}(h:bg yv L F w a v)(hs:a.scalar=true):v.oneCell'=true:=by
 cases a<;>simp[V.scalar]at hs<;>simp only[bg]at h
 case d=>exact bM.one h hs
 case ptr=>subst h;rfl
 case ep=>subst h;rfl
 case sl=>obtain⟨a,cap,rfl,_⟩:=h;rfl
 case mp=>subst h;rfl
 case it=>subst h;rfl
 case clo=>obtain⟨l,rfl,_⟩:=h;rfl
 case yld=>obtain⟨l,_,rfl⟩:=h;rfl
 case unk=>exact h
theorem Jg{v:Value}(h:v.oneCell'=true):v.cells.toList = [v]:=by
 cases v<;>simp_all[Value.oneCell',Value.cells]
theorem bg.cells{a:V}{v:Value}(h:bg yv L F w a v)(hs:a.cells.ok=true):aq yv L F w a.cells.bm v.cells.toList:=by
 have key:a.scalar=true->a.cells.bm = [a]->aq yv L F w a.cells.bm v.cells.toList:=fun h1 h2=>by
  rw[h2,Jg (h.one h1)];exact⟨v,[],rfl,h,rfl⟩
 cases a with
 | d x=>
  cases x with
  | agg cs=>
   obtain⟨l,rfl,hl⟩:=h;exact aq.inj.2 hl
  | tup cs=>simp[V.cells,Cells.ok,iL,D.scalar]at hs
  | _=>exact key rfl rfl
 | agg cs=>
  obtain⟨l,rfl,hl⟩:=h;exact hl
 | tup cs=>simp[V.cells,Cells.ok,cN,V.scalar]at hs
 | _=>exact key rfl rfl
theorem mH:∀ (l:List D),cN (inj l)=iL l
 | []=>rfl
 | c::r=>by simp[inj,cN,iL,V.scalar,mH r]
theorem Cells.ok_eq(c:Cells):c.ok=cN c.bm:=by
 cases c
 ·exact(mH _).symm
 ·rfl
theorem q9:∀ {l:List V},cN l=true -> ∀ v∈l,v.scalar=true
 | [],_,v,hv=>by cases hv
 | x::r,h,v,hv=>by
  simp only[cN,Bool.and_eq_true]at h;rcases List.mem_cons.1 hv with rfl|hv
  ·exact h.1
  ·exact q9 h.2 v hv
theorem aq.one{cs:List V}{l:List Value}(h:aq yv L F w cs l)(hs:cN cs=true):∀ v∈l,v.oneCell'=true:=by
 intro v hv;obtain⟨i,hi,rfl⟩:=List.getElem_of_mem hv;have hlen:=h.length;have hc:cs[i]?=some cs[i]:=List.getElem?_eq_getElem (by omega);obtain⟨y,hy,hr⟩:=h.get i hc;rw[List.getElem?_eq_getElem hi]at hy;cases hy;exact hr.one (q9 hs _ (List.getElem_mem _))
theorem jD{v:Value}{z:List D}(h:zeroCells v=some z):bc F w z v.cells.toList:=by
 unfold zeroCells at h;have sc:∀ {d:D},lZ v=some d->v.cells.toList = [v]/\bM F w d v:=by
  intro d hd;refine⟨?_,mF hd⟩;unfold lZ at hd;split at hd<;>first|(cases hd;done)|rfl
 split at h
 ·rename_i l hl
  cases h;unfold ofConst at hl;split at hl
  ·rename_i cs
   cases hs:je cs.toList with
   | none=>rw[hs]at hl;cases hl
   | some l'=>rw[hs]at hl;cases hl;exact kq hs
  ·rename_i cs
   split at hl
   ·cases hl
   ·cases hl
  ·unfold lZ at hl
   split at hl<;>cases hl
 ·cases h
 ·rename_i d h1 h2 hd
  cases h;unfold ofConst at hd;split at hd
  ·rename_i cs
   cases hs:je cs.toList with
   | none=>rw[hs]at hd;cases hd
   | some l'=>rw[hs]at hd;cases hd;exact absurd rfl (h1 _)
  ·rename_i cs
   split at hd
   ·cases hd;exact absurd rfl (h2 _)
   ·cases hd
  ·obtain⟨e1,e2⟩:=sc hd
   rw[e1];exact⟨v,[],rfl,e2,rfl⟩
 ·cases h
end
section
variable {P : Program} {T : e7} {e : Env} {h : Heap} {dst : Option Nat} {K : List Wr -> Prop} {ty : TypeId} {pos : String} {after : Array Edge} {guard : Option (Nat × Bool)}
theorem OP{fn:Fn}{first bS:Array Operand}(hk:R1 e dst fn first.toList bS.toList K):∃ ws,K ws/\Out P e h ⟨dst,.makeFunc fn first bS,ty,pos,after,guard⟩ ws:=by
 generalize hf:first.toList=fl at hk
 generalize hc:bS.toList=cl at hk;unfold R1 at hk;split at hk;case h_2=>exact hk.elim
 rename_i f x r;split at hk;case h_2=>exact hk.elim
 rename_i l hl;split at hk;case h_2=>exact hk.elim
 rename_i ds hd;have hc0:bS = #[]:=by simpa using hc
 subst hc0;refine⟨_,hk,bI (v:=.d (.mth f ds)) (o:=⟨dst,.makeFunc (.func f) first #[],ty,pos,after,guard⟩) fun cx r m L F st a w he hh hg=>⟨.func (.func f) (first.map a.eval) #[],by simp[execOp,Instr.makeFunc],_,rfl,?_⟩⟩;have:=hg.dR (lh he hl);rw[kQ hd,<- hf]at this;simpa using aq.inj.1 this
theorem Cg{fn:Fn}{first bS:Array Operand}(hk:gL T e h dst (.makeFunc fn first bS) K):∃ ws,K ws/\Out P e h ⟨dst,.makeFunc fn first bS,ty,pos,after,guard⟩ ws:=by
 simp only[gL]at hk;split at hk;case h_2=>exact OP hk
 rename_i f l hf hl;have zt:first = #[]:=by simpa using hf
 subst zt;have run:∀ (a:Act) (w:World),(execOp a.eval ⟨dst,.makeFunc (.func f) #[] bS,ty,pos,after,guard⟩).run P w = .ok (.value (.func (.func f) #[] (bS.map a.eval))) w:=fun a w=>by
  simp[execOp,Instr.makeFunc]
 split at hk
 ·rename_i ds hd
  refine⟨_,hk,bI (v:=.d (.clo f ds)) (o:=⟨dst,.makeFunc (.func f) #[] bS,ty,pos,after,guard⟩) fun cx r m L F st a w he hh hg=>⟨_,run a w,_,rfl,?_⟩⟩;have:=hg.dR (lh he hl);rw[kQ hd]at this;simpa using aq.inj.1 this
 ·refine⟨_,hk,bI (v:=.clo f l) (o:=⟨dst,.makeFunc (.func f) #[] bS,ty,pos,after,guard⟩) fun cx r m L F st a w he hh hg=>⟨_,run a w,_,rfl,?_⟩⟩
  simpa using hg.dR (lh he hl)
theorem tQ{n:Nat}{lo hi:Option V}{K:Nat->Nat->Prop}(hk:uX n lo hi K) :
  ∃ l u,K l u/\l<=u/\u<=n /\ ∀ (cap:Nat) (Vq:Bool) (lv hv:Option Value) (w:World),n<=cap ->
   (∀ v,lo=some v -> ∃ x,lv=some x /\ ∀ k i,v = .d (.int k i)->x = .int k i)->(lo=none->lv=none)->(∀ v,hi=some v -> ∃ x,hv=some x /\ ∀ k i,v = .d (.int k i)->x = .int k i)->(hi=none->hv=none) ->
   (Instr.sliceBounds Vq n cap lv hv none).run P w = .ok (l,u,cap) w:=by
 unfold uX at hk;split at hk
 ·split at hk
  ·refine⟨_,_,hk,Nat.zero_le _,Nat.le_refl _,fun cap Vq lv hv w hc h1 h2 h3 h4=>?_⟩
   rw[h2 rfl,h4 rfl];simp[Instr.sliceBounds]
  ·rename_i k i
   obtain⟨hb,hk⟩:=ca hk;simp only[Bool.and_eq_true,decide_eq_true_eq]at hb;refine⟨_,_,hk,by omega,Nat.le_refl _,fun cap Vq lv hv w hc h1 h2 h3 h4=>?_⟩;obtain⟨x,rfl,hx⟩:=h1 _ rfl;rw[h4 rfl,hx _ _ rfl];simp[Instr.sliceBounds,Instr.sliceBound,asIntOf,hb.1,hb.2]
  ·exact hk.elim
 ·rename_i k i
  obtain⟨hb,hk⟩:=ca hk;simp only[Bool.and_eq_true,decide_eq_true_eq]at hb;split at hk
  ·refine⟨_,_,hk,Nat.zero_le _,by omega,fun cap Vq lv hv w hc h1 h2 h3 h4=>?_⟩
   obtain⟨x,rfl,hx⟩:=h3 _ rfl;rw[h2 rfl,hx _ _ rfl];have Zz:i<=(cap:Int):=by omega
   simp[Instr.sliceBounds,Instr.sliceBound,asIntOf,hb.1,Zz]
  ·rename_i k' j _
   obtain⟨kS,hk⟩:=ca hk;simp only[Bool.and_eq_true,decide_eq_true_eq]at kS;refine⟨_,_,hk,by omega,by omega,fun cap Vq lv hv w hc h1 h2 h3 h4=>?_⟩;obtain⟨x,rfl,hx⟩:=h3 _ rfl;obtain⟨y,rfl,hy⟩:=h1 _ rfl;rw[hx _ _ rfl,hy _ _ rfl];have Zz:i<=(cap:Int):=by omega
   have h2:j<=max i 0:=by omega
   simp[Instr.sliceBounds,Instr.sliceBound,asIntOf,hb.1,Zz,kS.1,h2]
  ·exact hk.elim
 ·exact hk.elim
theorem HW{σ:Type}{cx:Cx σ}{r:Option Nat}{m:List Nat}{L:Loc}{F:Nat->Nat}{st:St σ}{a:Act}{w:World}(hg:Good cx r m L F st a w)(he:dB e st.env){x:Option Operand}{v:Option V}
  (hx:Ed e x=some v):(∀ u,v=some u -> ∃ y,x.map a.eval=some y/\bg cx.yv L F w u y)/\(v=none->x.map a.eval=none):=by
 cases x with
 | none=>simp only[Ed,Option.some.injEq]at hx;subst hx;exact⟨(fun u hu=>by cases hu),fun _=>rfl⟩
 | some x=>
  simp only[Ed]at hx;split at hx
  ·rename_i u hu
   cases hx;exact⟨fun u' SO=>by cases SO;exact⟨_,rfl,hg.aS (aF he hu)⟩,fun h=>by cases h⟩
  ·cases hx
theorem Jq(hT:bA P T){t:TypeId}{x:Operand}{lo hi mx:Option Operand}(hk:gL T e h dst (.slice t x lo hi mx) K):∃ ws,K ws/\Out P e h ⟨dst,.slice t x lo hi mx,ty,pos,after,guard⟩ ws:=by
 simp only[gL]at hk;split at hk
 ·exact hk.elim
 split at hk;case h_2=>exact hk.elim
 rename_i ti v l u ht hv hl hu;obtain⟨d,wh,eP⟩:=fp hT ht;have ND:∀ {σ:Type} {cx:Cx σ} {r:Option Nat} {m:List Nat} {L:Loc} {F:Nat->Nat} {st:St σ} {a:Act} {w:World},Good cx r m L F st a w->dB e st.env ->
   (∀ v,l=some v -> ∃ x,lo.map a.eval=some x /\ ∀ k i,v = .d (.int k i)->x = .int k i)/\(l=none->lo.map a.eval=none)/\(∀ v,u=some v -> ∃ x,hi.map a.eval=some x /\ ∀ k i,v = .d (.int k i)->x = .int k i)/\(u=none->hi.map a.eval=none):=by
  intro σ cx r m L F st a w hg he;obtain⟨h1,h2⟩:=HW hg he hl;obtain⟨h3,h4⟩:=HW hg he hu;refine⟨fun v hv=>?_,h2,fun v hv=>?_,h4⟩
  ·obtain⟨y,hy,hr⟩:=h1 v hv
   exact⟨y,hy,fun k i e=>by subst e;exact hr⟩
  ·obtain⟨y,hy,hr⟩:=h3 v hv
   exact⟨y,hy,fun k i e=>by subst e;exact hr⟩
 split at hk
 ·rename_i el es eI
  rw[eI]at eP;have:=fC eP.symm;subst this;obtain⟨p,q,hk,ZU,ZZ,bN⟩:=tQ (P:=P) hk;obtain⟨dc,hk⟩:=ca hk;refine⟨_,hk,bI (v:=.d (.vs ((es.take q).drop p))) (o:=⟨dst,.slice t x lo hi none,ty,pos,after,guard⟩) fun cx r m L F st a w he hh hg=>?_⟩;obtain⟨a0,len,cap,dC,hlen,j7,fe⟩:=hg.aS (aF he hv);obtain⟨b1,b2,b3,b4⟩:=ND hg he;have hr:=bN cap true _ _ w (by omega) b1 b2 b3 b4;rw[<- hlen]at hr;unfold KI at dc;split at dc;case h_2=>cases dc
  rename_i ei jS;refine⟨.slice (if cap=p then a0 else a0.map (·.add (p*ei.size))) (q-p) (cap-p),?_,_,_,_,rfl,by simp;omega,by omega,fun eW=>?_⟩
  ·simp[execOp,Instr.sliceAt,run_underlying wh,Instr.slice,dC,hr,e5 hT jS]
  have UZ:es ≠ []:=by rintro rfl;simp at eW
  obtain⟨b,off,sz,rfl,IW,tY⟩:=fe UZ;have aaa:sz=ei.size:=by
   cases es with
   | nil=>exact absurd rfl UZ
   | cons f g=>exact tY.1.symm.trans (er dc)
  have ua:p<q:=by
   rcases Nat.lt_or_ge p q with h1|h1
   ·exact h1
   ·exact absurd (List.drop_eq_nil_of_le (by simp;omega)) eW
  have:¬ cap=p:=by omega
  refine⟨b,off+p*sz,sz,?_,IW,dz.drop p (dz.take q tY)⟩;rw[if_neg this,<- aaa];simp[fh]
 ·rename_i el id sz off len eI
  rw[eI]at eP;have:=fC eP.symm;subst this;obtain⟨p,q,hk,ZU,ZZ,bN⟩:=tQ (P:=P) hk;obtain⟨dc,hk⟩:=ca hk;refine⟨_,hk,bI (v:=.sl id sz (off+p) (q-p)) (o:=⟨dst,.slice t x lo hi none,ty,pos,after,guard⟩) fun cx r m L F st a w he hh hg=>?_⟩;obtain⟨a0,cap,dC,j7,IW,hb⟩:=hg.aS (aF he hv);obtain⟨b1,b2,b3,b4⟩:=ND hg he;have hr:=bN cap true _ _ w (by omega) b1 b2 b3 b4;split at dc;case h_2=>cases dc
  rename_i ei jS;have dc:=er dc;refine⟨.slice (if cap=p then a0 else a0.map (·.add (p*ei.size))) (q-p) (cap-p),?_,_,_,rfl,by omega,IW,?_⟩
  ·simp[execOp,Instr.sliceAt,run_underlying wh,Instr.slice,dC,hr,e5 hT jS]
  rcases hb with⟨h0,h1⟩|⟨rfl,hb⟩
  ·exact .inl (by omega)
  ·by_cases Q2:cap=p
   ·exact .inl (by omega)
   ·right
    rw[if_neg Q2,<- dc];refine⟨by simp[fh,Nat.add_mul],?_⟩;have:off+p+(cap-p)=off+cap:=by omega
    rw[this];exact hb
 ·rename_i el eI
  rw[eI]at eP;have:=fC eP.symm;subst this;obtain⟨p,q,hk,ZU,ZZ,bN⟩:=tQ (P:=P) hk;obtain⟨dc,hk⟩:=ca hk;refine⟨_,hk,bI (v:=.d .nils) (o:=⟨dst,.slice t x lo hi none,ty,pos,after,guard⟩) fun cx r m L F st a w he hh hg=>?_⟩;have dC:a.eval x = .slice none 0 0:=hg.aS (aF he hv);obtain⟨b1,b2,b3,b4⟩:=ND hg he;have hr:=bN 0 true _ _ w (by omega) b1 b2 b3 b4;have wb:p=0:=by omega
  have ZY:q=0:=by omega
  subst wb ZY;obtain⟨ii,dd,hii,BT,_⟩:=hT t ti ht;refine⟨.slice none 0 0,?_,rfl⟩;have dc:∃ n,(sizeOf el).run P w = .ok n w:=by
   split at dc
   ·rename_i ei jS;exact⟨_,e5 hT jS⟩
   ·cases dc
  obtain⟨n,hn⟩:=dc;simp[execOp,Instr.sliceAt,run_underlying wh,Instr.slice,dC,hr,hn]
 ·rename_i s eI
  rw[eI]at eP;have:=jo eP.symm;subst this;obtain⟨p,q,hk,ZU,ZZ,bN⟩:=tQ (P:=P) hk;refine⟨_,hk,bI (v:=.d (.str (s.extract p q))) (o:=⟨dst,.slice t x lo hi none,ty,pos,after,guard⟩) fun cx r m L F st a w he hh hg=>?_⟩;have dC:=lE hg he hv;obtain⟨b1,b2,b3,b4⟩:=ND hg he;have hr:=bN s.size false _ _ w (Nat.le_refl _) b1 b2 b3 b4;exact⟨.string (s.extract p q),by simp[execOp,Instr.sliceAt,run_underlying wh,Instr.slice,dC,hr],rfl⟩
 ·exact hk.elim
end
mutual
theorem OD{i:Nat}:∀ {v:V},rl i v=false->¬ iC v i
 | .d _,_=>fun h=>h
 | .agg cs,h=>nE (l:=cs) h
 | .tup cs,h=>nE (l:=cs) h
 | .clo _ cs,h=>nE (l:=cs) h
 | .ptr j _,h=>fun e=>by have e:j=i:=e;subst e;simp[rl]at h
 | .ep j _ _ _,h=>fun e=>by have e:j=i:=e;subst e;simp[rl]at h
 | .sl j _ _ _,h=>fun e=>by have e:j=i:=e;subst e;simp[rl]at h
 | .mp j,h=>fun e=>by have e:j=i:=e;subst e;simp[rl]at h
 | .it j,h=>fun e=>by have e:j=i:=e;subst e;simp[rl]at h
 | .yld,_=>fun h=>h
 | .unk,_=>fun h=>h
theorem nE{i:Nat}:∀ {l:List V},dF i l=false->¬ bZ l i
 | [],_=>fun h=>h
 | v::r,h=>by
  simp only[dF,Bool.or_eq_false_iff]at h;exact fun e=>e.elim (OD h.1) (nE h.2)
end
theorem dt(l:List (List D)):(aG l).flatten=inj l.flatten:=by
 induction l with
 | nil=>rfl
 | cons x r ih=>simp[aG,ih,jL]
theorem Fe{i:Nat}{c:Cells}(h:c.free i=true):¬ bZ c.bm i:=by
 cases c with
 | dd l=>exact fv l i
 | vv l=>exact nE (by simpa[Cells.free,Cells.bm]using h)
theorem pH{i:Nat}{c:aK}(h:c.free i=true):¬ bZ c.bm.flatten i:=by
 cases c with
 | dd l=>show ¬ bZ (aG l).flatten i;rw[dt];exact fv _ i
 | vv l=>exact nE (by simpa[aK.free,aK.bm]using h)
section
variable {P : Program} {T : e7} {e : Env} {h : Heap} {dst : Option Nat} {K : List Wr -> Prop} {ty : TypeId} {pos : String} {after : Array Edge} {guard : Option (Nat × Bool)}
theorem EC{F:Nat->Nat}{w:World}{yv:Option Nat}{L:Loc}:∀ {r:List V} {k:IntKind} {x:Int} {v:D} {l:List Value},Jb k x r=some v->aq yv L F w r l ->
  ∃ y,(l.foldlM Builtin.min2 (.int k x)).run P w = .ok y w/\bM F w v y
 | [],k,x,v,l,h,hl=>by
  simp only[Jb,Option.some.injEq]at h;subst h;have:l = []:=hl;subst this;exact⟨.int k x,by simp,rfl⟩
 | c::r,k,x,v,l,h,hl=>by
  obtain⟨y,l',rfl,hc,kM⟩:=hl
  cases c with
  | d c=>
   cases c<;>simp only[Jb]at h<;>first|(cases h;done)|skip
   rename_i k' b;have hc:y = .int k' b:=hc;subst hc;obtain⟨z,hz,RA⟩:=EC h kM;refine⟨z,?_,RA⟩;have:(if b<x then b else x)=min x b:=by simp only[Int.min_def];split<;>split<;>omega
   simp[Builtin.min2,this,hz]
  | _=>simp[Jb]at h
theorem EB{F:Nat->Nat}{w:World}{yv:Option Nat}{L:Loc}:∀ {r:List V} {k:IntKind} {x:Int} {v:D} {l:List Value},Ja k x r=some v->aq yv L F w r l ->
  ∃ y,(l.foldlM Builtin.max2 (.int k x)).run P w = .ok y w/\bM F w v y
 | [],k,x,v,l,h,hl=>by
  simp only[Ja,Option.some.injEq]at h;subst h;have:l = []:=hl;subst this;exact⟨.int k x,by simp,rfl⟩
 | c::r,k,x,v,l,h,hl=>by
  obtain⟨y,l',rfl,hc,kM⟩:=hl
  cases c with
  | d c=>
   cases c<;>simp only[Ja]at h<;>first|(cases h;done)|skip
   rename_i k' b;have hc:y = .int k' b:=hc;subst hc;obtain⟨z,hz,RA⟩:=EB h kM;refine⟨z,?_,RA⟩;have:(if x<b then b else x)=max x b:=by simp only[Int.max_def];split<;>split<;>omega
   simp[Builtin.max2,this,hz]
  | _=>simp[Ja]at h
theorem ON{args:Array Operand}{tys:Array TypeId}(hk:fj T e h dst .min args tys K):∃ ws,K ws/\Out P e h ⟨dst,.call ⟨.builtin .min,args,tys⟩,ty,pos,after,guard⟩ ws:=by
 simp only[fj]at hk;split at hk;case h_2=>exact hk.elim
 rename_i k x r hr;split at hk;case h_2=>exact hk.elim
 rename_i v hm;refine⟨_,hk,bI (v:=.d v) (o:=⟨dst,.call ⟨.builtin .min,args,tys⟩,ty,pos,after,guard⟩) fun cx r' m L F st a w he hh hg=>?_⟩;obtain⟨y,l',dC,hy,kM⟩:=hg.dR (lh he hr);have hy:y = .int k x:=hy;subst hy;obtain⟨z,hz,RA⟩:=EC (P:=P) hm kM;have Lf:(args.map a.eval).toList = .int k x::l':=by simpa using dC
 have Ob:(Builtin.min_ tys ty (args.map a.eval)).run P w = .ok z w:=by
  simp only[Builtin.min_,Lf];exact hz
 exact⟨z,by simp[execOp,resolve,invoke,builtin,Ob],RA⟩
theorem OM{args:Array Operand}{tys:Array TypeId}(hk:fj T e h dst .max args tys K):∃ ws,K ws/\Out P e h ⟨dst,.call ⟨.builtin .max,args,tys⟩,ty,pos,after,guard⟩ ws:=by
 simp only[fj]at hk;split at hk;case h_2=>exact hk.elim
 rename_i k x r hr;split at hk;case h_2=>exact hk.elim
 rename_i v hm;refine⟨_,hk,bI (v:=.d v) (o:=⟨dst,.call ⟨.builtin .max,args,tys⟩,ty,pos,after,guard⟩) fun cx r' m L F st a w he hh hg=>?_⟩;obtain⟨y,l',dC,hy,kM⟩:=hg.dR (lh he hr);have hy:y = .int k x:=hy;subst hy;obtain⟨z,hz,RA⟩:=EB (P:=P) hm kM;have Lf:(args.map a.eval).toList = .int k x::l':=by simpa using dC
 have Ob:(Builtin.max_ tys ty (args.map a.eval)).run P w = .ok z w:=by
  simp only[Builtin.max_,Lf];exact hz
 exact⟨z,by simp[execOp,resolve,invoke,builtin,Ob],RA⟩
theorem bW.at{F:Nat->Nat}{w:World}:∀ {cJ:List (D×D)} {es:List MapEntry} {i:Nat} {e:MapEntry},bW F w cJ es->es[i]?=some e -> ∃ k u,cJ[i]?=some (k,u)/\bM F w k e.key/\bM F w u e.val
 | [],es,i,e,hr,h=>by
  have:es = []:=hr;subst this;simp at h
 | (k,u)::r,es,0,e,hr,h=>by
  obtain⟨x,l,rfl,h1,h2,_⟩:=hr;simp at h;subst h;exact⟨k,u,rfl,h1,h2⟩
 | (k,u)::r,es,i+1,e,hr,h=>by
  obtain⟨x,l,rfl,_,_,h3⟩:=hr;simpa using bW.at h3 (by simpa using h)
theorem bW.get{F:Nat->Nat}{w:World}:∀ {cJ:List (D×D)} {es:List MapEntry},bW F w cJ es->es.length=cJ.length
 | [],es,h=>by rw[show es = [] from h];rfl
 | (k,v)::r,es,h=>by
  obtain⟨en,es',rfl,_,_,hr⟩:=h;simp[bW.get hr]
theorem OL(hT:bA P T){args:Array Operand}{tys:Array TypeId}(hk:fj T e h dst .len args tys K):∃ ws,K ws/\Out P e h ⟨dst,.call ⟨.builtin .len,args,tys⟩,ty,pos,after,guard⟩ ws:=by
 simp only[fj]at hk;split at hk;case h_2=>exact hk.elim
 rename_i x t rest dx DP;split at hk;case h_2=>exact hk.elim
 rename_i ti v ht hv;obtain⟨d,wh,eP⟩:=fp hT ht;have h0:∀ (a:Act),(args.map a.eval)[0]?=some (a.eval x):=by
  intro a;have:args[0]?=some x:=by
   have:args.toList[0]?=some x:=by rw[dx];rfl
   simpa using this
  simp[this]
 have P4:tys[0]?=some t:=by
  have:tys.toList[0]?=some t:=by rw[DP];rfl
  simpa using this
 have bN:∀ (a:Act) (w:World) v,(Builtin.len_ tys ty (args.map a.eval)).run P w = .ok v w->(execOp a.eval ⟨dst,.call ⟨.builtin .len,args,tys⟩,ty,pos,after,guard⟩).run P w = .ok (.value v) w:=fun a w v hv=>by
  simp[execOp,resolve,invoke,builtin,hv]
 have sl:∀ (n:Nat) (el:TypeId),d = .slice el->(∀ (yv:Option Nat) (L:Loc) (F:Nat->Nat) (w:World) (y:Value),bg yv L F w v y -> ∃ b c,y = .slice b n c)->K (bz dst (.d (.int .i64 n))) ->
   ∃ ws,K ws/\Out P e h ⟨dst,.call ⟨.builtin .len,args,tys⟩,ty,pos,after,guard⟩ ws:=by
  intro n el hd hr hk;subst hd;refine⟨_,hk,bI (v:=.d (.int .i64 n)) (o:=⟨dst,.call ⟨.builtin .len,args,tys⟩,ty,pos,after,guard⟩) fun cx r' m L F st a w he hh hg=>?_⟩;obtain⟨b,c,dC⟩:=hr _ _ _ _ _ (hg.aS (aF he hv));exact⟨.int .i64 n,bN a w _ (by simp[Builtin.len_,P4,h0,run_underlying wh,dC,goInt]),rfl⟩
 split at hk
 ·rename_i el es eI
  rw[eI]at eP;exact sl es.length el (fC eP.symm) (fun yv L F w y hr=>by obtain⟨b,n,c,rfl,rfl,_⟩:=hr;exact⟨b,c,rfl⟩) hk
 ·rename_i el eI
  rw[eI]at eP;exact sl 0 el (fC eP.symm) (fun yv L F w y hr=>by have hr:y = .slice none 0 0:=hr;exact⟨none,0,hr⟩) hk
 ·rename_i el id sz off n eI
  rw[eI]at eP;exact sl n el (fC eP.symm) (fun yv L F w y hr=>by obtain⟨b,c,rfl,_⟩:=hr;exact⟨b,c,rfl⟩) hk
 ·rename_i s eI
  rw[eI]at eP;have:=jo eP.symm;subst this;refine⟨_,hk,bI (v:=.d (.int .i64 s.size)) (o:=⟨dst,.call ⟨.builtin .len,args,tys⟩,ty,pos,after,guard⟩) fun cx r' m L F st a w he hh hg=>?_⟩;have dC:=lE hg he hv;exact⟨.int .i64 s.size,bN a w _ (by simp[Builtin.len_,P4,h0,run_underlying wh,dC,goInt]),rfl⟩
 ·rename_i n el eI
  rw[eI]at eP;have:=gi eP.symm;subst this;refine⟨_,hk,bI (v:=.d (.int .i64 n)) (o:=⟨dst,.call ⟨.builtin .len,args,tys⟩,ty,pos,after,guard⟩) fun cx r' m L F st a w he hh hg=>?_⟩;exact⟨.int .i64 n,bN a w _ (by simp[Builtin.len_,P4,h0,run_underlying wh,goInt]),rfl⟩
 ·rename_i mk me id eI
  rw[eI]at eP;have:=tp eP.symm;subst this;split at hk;case h_2=>exact hk.elim
  rename_i cJ hid;refine⟨_,hk,bI (v:=.d (.int .i64 cJ.length)) (o:=⟨dst,.call ⟨.builtin .len,args,tys⟩,ty,pos,after,guard⟩) fun cx r' m L F st a w he hh hg=>?_⟩;have dC:a.eval x = .map (some (L.ρ id)):=hg.aS (aF he hv);obtain⟨en,c,hb,hr,_⟩:=hg.heap.obj id _ (hh _ _ hid);have hl:en.size=cJ.length:=by simpa using bW.get hr
  exact⟨.int .i64 cJ.length,bN a w _ (by simp[Builtin.len_,P4,h0,run_underlying wh,dC,getObj,Sem.run,hb,goInt,hl]),rfl⟩
 ·rename_i mk me cJ eI
  rw[eI]at eP;have:=tp eP.symm;subst this;refine⟨_,hk,bI (v:=.d (.int .i64 cJ.length)) (o:=⟨dst,.call ⟨.builtin .len,args,tys⟩,ty,pos,after,guard⟩) fun cx r' m L F st a w he hh hg=>?_⟩;obtain⟨b,en,c,dC,_,hb,hr⟩:=hg.aS (aF he hv);have hl:en.size=cJ.length:=by simpa using bW.get hr
  exact⟨.int .i64 cJ.length,bN a w _ (by simp[Builtin.len_,P4,h0,run_underlying wh,dC,getObj,Sem.run,hb,goInt,hl]),rfl⟩
 ·exact hk.elim
theorem aq.lY{yv:Option Nat}{L L':Loc}{F:Nat->Nat}{w w':World}(tr:Tr F w F w'){id:Nat}(hL:∀ i,i≠id->L'.ρ i=L.ρ i/\L'.κ i=L.κ i){cs:List V}{l:List Value}(hf:¬ bZ cs id)(h:aq yv L F w cs l):aq yv L' F w' cs l:=
 aq.mono tr cs l (fun i hi=>hL i (by rintro rfl;exact hf hi)) h
theorem yS{op:Op}{d:Nat}{c:Cells}(hf:¬ bZ c.bm d)
  (hr:∀ {σ:Type} (cx:Cx σ) (r:Option Nat) (m:List Nat) (L:Loc) (F:Nat->Nat) (st:St σ) (a:Act) (w:World),dB e st.env->dB h st.heap->Good cx r m L F st a w ->
   ∃ (l:Array Value) (t:TypeId),(execOp a.eval ⟨some d,op,ty,pos,after,guard⟩).run P w = .ok (.value (.pointer (some ⟨w.heap.size,0,none⟩))) (w.alloc (.cells l t))/\aq cx.yv L F w c.bm l.toList) :
  Out P e h ⟨some d,op,ty,pos,after,guard⟩ [.new d (.box c),.set d (.ptr d 0)]:=by
 intro σ cx r m L F st a w he hh hg hd;obtain⟨l,t,bN,hl⟩:=hr cx r m L F st a w he hh hg;have tr:Tr F w F (w.alloc (.cells l t)):=Tr.alloc hg.heap.fresh _;have te:=hg.new d 0 (.box c) (.cells l t) (hg.fy (hd d rfl)) ⟨l,t,(by show(w.alloc _).heap[if d=d then w.heap.size else L.ρ d]?=_;rw[if_pos rfl];exact heap_alloc_new w _),aq.lY tr (fun i hi=>by simp[hi]) hf hl⟩;exact⟨_,_,_,bN,.inl rfl,_,F,te.set (v:=.ptr d 0) (hd d rfl) (by show Value.pointer _=Value.pointer _;simp),tr⟩
theorem Jj(hT:bA P T){t:TypeId}(hk:gL T e h dst (.alloc t) K):∃ ws,K ws/\Out P e h ⟨dst,.alloc t,ty,pos,after,guard⟩ ws:=by
 simp only[gL]at hk;split at hk;case h_2=>exact hk.elim
 rename_i ti d ht;split at hk;case h_3=>exact hk.elim
 ·rename_i hz
  obtain⟨hlen,hk⟩:=ca hk;obtain⟨i,de,hi,gP,_,_,_,_,_,FO⟩:=hT t ti ht;obtain⟨zv,I2,zM,_⟩:=FO _ hz;refine⟨_,hk,?_⟩;intro σ cx r m L F st a w he hh hg hd;have tr:Tr F w F (w.alloc (.cells zv.cells t)):=Tr.alloc hg.heap.fresh _;have te:=hg.new d 0 (.tb t [.d .nilp,.d .nils]) (.cells zv.cells t) (hg.fy (hd d rfl)) ⟨zv.cells,(by show(w.alloc _).heap[if d=d then w.heap.size else L.ρ d]?=_;rw[if_pos rfl];exact heap_alloc_new w _),aq.inj.2 (jD (F:=F) zM)⟩;exact⟨.pointer (some ⟨w.heap.size,0,none⟩),_,_,by simp[execOp,Instr.alloc,zeroValue,typeInfo,hi,I2,newVar,newRow],.inl rfl,_,F,te.set (v:=.ptr d 0) (hd d rfl) (by show Value.pointer _=Value.pointer _;simp),tr⟩
 rename_i z _ hz;obtain⟨hlen,hk⟩:=ca hk;obtain⟨i,de,hi,gP,_,_,_,_,_,FO⟩:=hT t ti ht;obtain⟨zv,I2,zM,_⟩:=FO z hz;refine⟨_,hk,yS (c:=.dd z) (fv z d) fun cx r m L F st a w he hh hg=>⟨zv.cells,t,?_,aq.inj.2 (jD zM)⟩⟩;simp[execOp,Instr.alloc,zeroValue,typeInfo,hi,I2,newVar,newRow]
theorem OJ{t:TypeId}{x:Operand}(hk:gL T e h dst (.box t x) K):∃ ws,K ws/\Out P e h ⟨dst,.box t x,ty,pos,after,guard⟩ ws:=by
 simp only[gL]at hk;split at hk;case h_2=>exact hk.elim
 rename_i v d hv;obtain⟨hc,hk⟩:=ca hk;simp only[Bool.and_eq_true]at hc;refine⟨_,hk,yS (Fe hc.2) fun cx r m L F st a w he hh hg=>⟨(a.eval x).cells,t,?_,(hg.aS (aF he hv)).cells hc.1⟩⟩;simp[execOp,Instr.box,newVar,newRow]
end
end Go.PX
namespace Go.PX
open Go.RowKit
section
variable {yv : Option Nat} {L : Loc} {F : Nat -> Nat} {w : World}
theorem bg.rH{a:V}{v:Value}(h:bg yv L F w a v):aq yv L F w a.cells.bm v.cells.toList:=by
 by_cases hs:a.cells.ok=true
 ·exact h.cells hs
 ·cases a with
  | d x=>
   cases x with
   | agg cs=>
    obtain⟨l,rfl,hl⟩:=h;exact aq.inj.2 hl
   | tup cs=>
    obtain⟨l,rfl,hl⟩:=h;exact⟨.tuple l,[],rfl,⟨l,rfl,hl⟩,rfl⟩
   | _=>exact absurd rfl hs
  | agg cs=>
   obtain⟨l,rfl,hl⟩:=h;exact hl
  | tup cs=>
   obtain⟨l,rfl,hl⟩:=h;exact⟨.tuple l,[],rfl,⟨l,rfl,hl⟩,rfl⟩
  | _=>exact absurd rfl hs
theorem Cells.oO(c:Cells)(off:Nat)(x:Cells):(c.iT off x).bm=c.bm.take off++x.bm++c.bm.drop (off+x.bm.length):=by
 cases c<;>cases x<;>simp[Cells.iT,Cells.bm,jL,yt,yr,eC]
theorem mU{α:Type}{cs l:List α}{off i:Nat}(h:off<=cs.length)(h1:off<=i)(h2:i<off+l.length):(cs.take off++l++cs.drop (off+l.length))[i]?=l[i-off]?:=by
 rw[List.append_assoc,List.getElem?_append_right (by simp;omega),List.getElem?_append_left (by simp;omega)];simp[Nat.min_eq_left h]
theorem l9{α:Type}{cs l:List α}{off i:Nat}(h:off+l.length<=cs.length)(h1:i<off\/off+l.length<=i):(cs.take off++l++cs.drop (off+l.length))[i]?=cs[i]?:=by
 rcases h1 with h1|h1
 ·rw[List.append_assoc,List.getElem?_append_left (by simp;omega),List.getElem?_take_of_lt h1]
 ·rw[List.getElem?_append_right (by simp;omega),List.getElem?_drop]
  congr 1
  simp;omega
theorem ib{α:Type}{cs l:List α}{off:Nat}(h:off+l.length<=cs.length):(cs.take off++l++cs.drop (off+l.length)).length=cs.length:=by
 simp;omega
theorem aq.iT{cs ds:List V}{l k:List Value}(off:Nat)(h:aq yv L F w cs l)(g:aq yv L F w ds k) :
  aq yv L F w (cs.take off++ds++cs.drop (off+ds.length)) (l.take off++k++l.drop (off+k.length)):=by
 have:=g.length;rw[this];exact((h.take off).append g).append (h.drop _)
theorem aK.KB(x:Cells)(c:aK):(c.cons x).bm=x.bm::c.bm:=by
 cases x<;>cases c<;>rfl
theorem sV{n:Nat}:∀ {l:List (Nat×V)} {i:Nat} {es:aK},sU n i l=some es->es.bm=l.map (fun p=>p.2.cells.bm)/\l.map (·.1)=List.range' i l.length /\ ∀ p∈l,p.2.cells.bm.length=n
 | [],i,es,h=>by simp only[sU,Option.some.injEq]at h;subst h;simp[aK.bm,aG]
 | (j,v)::r,i,es,h=>by
  simp only[sU]at h;split at h;case h_2=>cases h
  rename_i es' hj hn hr;cases h;have hj:=er hj;have hn:=er hn;rw[Cells.jq]at hn;obtain⟨h1,h2,h3⟩:=sV hr;refine⟨by rw[aK.KB,h1];rfl,by simp[h2,hj,List.range'_succ],fun p hp=>?_⟩;rcases List.mem_cons.1 hp with rfl|hp
  ·exact hn
  ·exact h3 p hp
theorem xQ{sz:Nat}:∀ {xs:List V} {vs:List Value},aq yv L F w xs vs->(∀ x∈xs,x.cells.bm.length=sz)->aq yv L F w (xs.flatMap (·.cells.bm)) (vs.flatMap fun v=>v.cells.toList) /\ ∀ v∈vs,v.cells.size=sz
 | [],vs,h,_=>by
  have:vs = []:=h;subst this;exact⟨rfl,by simp⟩
 | x::xs,vs,h,hs=>by
  obtain⟨v,l,rfl,hx,hl⟩:=h;obtain⟨h1,h2⟩:=xQ hl fun y hy=>hs y (List.mem_cons_of_mem _ hy);refine⟨by simpa using hx.rH.append h1,fun u hu=>?_⟩;rcases List.mem_cons.1 hu with rfl|hu
  ·have:=hx.rH.length
   rw[hs x (List.mem_cons_self ..)]at this;simpa using this
  ·exact h2 u hu
theorem uJ{n:Nat}:∀ {l:List (List V)},qD n l=true -> ∀ e∈l,e.length=n/\cN e=true
 | [],_,_,he=>by cases he
 | x::r,h,e,he=>by
  simp only[qD]at h;split at h;case h_2=>cases h
  rename_i h1 h2;rcases List.mem_cons.1 he with rfl|he
  ·exact⟨er h1,h2⟩
  ·exact uJ h e he
theorem AO{n:Nat}:∀ {l:List (List D)},mz n l=true->qD n (aG l)=true
 | [],_=>rfl
 | x::r,h=>by
  simp only[mz]at h;split at h;case h_2=>cases h
  rename_i h1 h2;simp only[aG,qD,eC,h1,mH,h2];exact AO h
theorem BE{n:Nat}{es:aK}(h:es.ok n=true):∀ e∈es.bm,e.length=n/\cN e=true:=by
 cases es with
 | dd l=>exact uJ (AO h)
 | vv l=>exact uJ h
theorem nf:∀ {l m:List V},cN l=true->cN m=true->cN (l++m)=true
 | [],_,_,h=>h
 | x::r,m,h,k=>by
  simp only[cN,Bool.and_eq_true]at h;simp[cN,h.1,nf h.2 k]
theorem gE:∀ {l:List (List V)},(∀ e∈l,cN e=true)->cN l.flatten=true
 | [],_=>rfl
 | x::r,h=>by
  rw[List.flatten_cons];exact nf (h x (List.mem_cons_self ..)) (gE fun e he=>h e (List.mem_cons_of_mem _ he))
end
section
variable {P : Program} {T : e7} {e : Env} {h : Heap} {dst : Option Nat} {K : List Wr -> Prop} {ty : TypeId} {pos : String} {after : Array Edge} {guard : Option (Nat × Bool)}
theorem mA{σ:Type}{cx:Cx σ}{r:Option Nat}{m:List Nat}{L:Loc}{F:Nat->Nat}{st:St σ}{a:Act}{w:World}(hg:Good cx r m L F st a w)(he:dB e st.env):∀ {ps:List (Nat×Operand)} {l:List (Nat×V)},partsOf e ps=some l ->
  l.map (·.1)=ps.map (·.1)/\aq cx.yv L F w (l.map (·.2)) (ps.map fun p=>a.eval p.2)
 | [],l,hp=>by simp only[partsOf,Option.some.injEq]at hp;subst hp;exact⟨rfl,rfl⟩
 | (i,x)::r,l,hp=>by
  simp only[partsOf]at hp;split at hp
  ·rename_i v l' hv hl
   cases hp;obtain⟨h1,h2⟩:=mA hg he hl;exact⟨by simp[h1],_,_,rfl,hg.aS (aF he hv),h2⟩
  ·cases hp
theorem ll(hT:bA P T){t:TypeId}{ei:rE}(h:gI T t=some ei):∃ el,P.underlying t=some (.slice el)/\T.get el=some ei:=by
 unfold gI at h;split at h;case h_2=>cases h
 rename_i ti ic;split at h;case h_2=>cases h
 rename_i el hk;obtain⟨d,hu,eP⟩:=fp hT ic;rw[hk]at eP;exact⟨el,by rw[hu,fC eP.symm],h⟩
theorem sS(hT:bA P T){el:TypeId}{ei:rE}(jS:T.get el=some ei)(h:oi ei=true) :
  ∃ i z,P.info? el=some i/\i.zero=some z/\0<ei.size/\0<ei.bytes/\ei.size=i.size/\ei.bytes=i.bytes/\z.cells.size=i.size:=by
 obtain⟨i,d,hi,hd,dc,Hr,_,_,_,hz⟩:=hT el ei jS;simp only[oi,Bool.and_eq_true]at h;obtain⟨⟨h1,h2⟩,h3⟩:=h;unfold GS at h3;split at h3;case h_2=>cases h3
 rename_i z FO;obtain⟨zv,I2,zM,_⟩:=hz z FO;have hl:=(jD (F:=fun _=>0) (w:=default) zM).length;have h1:=yJ h1;have h2:=yJ h2;have h3:=er h3;exact⟨i,zv,hi,I2,by omega,by omega,dc,Hr,by rw[<- dc,<- h3,<- hl];simp⟩
theorem yQ(hT:bA P T){t:TypeId}{n:Nat}{ps:Array (Nat×Operand)}(hk:gL T e h dst (.buildSlice t n ps) K):∃ ws,K ws/\Out P e h ⟨dst,.buildSlice t n ps,ty,pos,after,guard⟩ ws:=by
 simp only[gL]at hk;split at hk;case h_2=>exact hk.elim
 rename_i l ei d hl hs;obtain⟨hc,hk⟩:=ca hk;simp only[Bool.and_eq_true]at hc;obtain⟨⟨yl,gh⟩,lL⟩:=hc;have yl:=er yl;have lL:=ng lL;split at hk;case h_2=>exact hk.elim
 rename_i es fe;obtain⟨hc,hk⟩:=ca hk;simp only[Bool.and_eq_true]at hc;obtain⟨Zm,eV⟩:=hc;obtain⟨el,hu,jS⟩:=ll hT hs;obtain⟨ie,z,mQ,hz',dc,Hr,fo,rQ,Qa⟩:=sS hT jS gh;obtain⟨qB,kL,Q7⟩:=sV fe;have heo:=BE Zm;refine⟨_,hk,?_⟩;intro σ cx r m L F st a w he hh hg hd;obtain⟨DG,SK⟩:=mA hg he hl
 let vs:=ps.toList.map fun p=>a.eval p.2
 have ua:ps.toList.length=n:=by
  have:=congrArg List.length DG;simp only[List.length_map]at this;omega
 have FM:vs.length=n:=by simpa[vs]using ua
 have rR:∀ x∈l.map (·.2),x.cells.bm.length=ei.size:=by
  intro x hx;obtain⟨p,hp,rfl⟩:=List.mem_map.1 hx;exact Q7 _ hp
 obtain⟨vr,P7⟩:=xQ SK rR;have yn:(ps.map fun(i,x)=>(i,a.eval x)).toList=(vs.zipIdx 0).map fun x=>(x.2,x.1):=by
  have h1:ps.toList.map (·.1)=List.range' 0 n:=by rw[<- DG,kL,yl]
  apply List.ext_getElem?;intro k;simp only[Array.toList_map,List.getElem?_map,List.getElem?_zipIdx,vs]
  cases hk:ps.toList[k]? with
  | none=>simp
  | some p=>
   have h2:(ps.toList.map (·.1))[k]?=some p.1:=by simp[List.getElem?_map,hk]
   have Xa:k<n:=by
    have:=(List.getElem?_eq_some_iff.1 hk).1;omega
   rw[h1,List.getElem?_range' Xa]at h2;simp at h2;simp[h2]
 let cells:Array Value:=(vs.flatMap fun v=>v.cells.toList).toArray
 have hfe:(l.map (·.2)).flatMap (·.cells.bm)=es.bm.flatten:=by rw[qB,List.flatMap_def,List.map_map];rfl
 have v7:es.bm.length=n:=by rw[qB];simp[yl]
 have iq:dj ei.size es.bm:=fun e he=>(heo e he).1;have rS:cells.size=n*ei.size:=by
  have h1:=vr.length;rw[hfe,jZ iq,v7]at h1;simpa[cells,vs]using h1
 have bN:(execOp a.eval ⟨some d,.buildSlice t n ps,ty,pos,after,guard⟩).run P w = .ok (.value (.slice (some ⟨w.heap.size,0,none⟩) n n)) (w.alloc (.cells cells el)):=by
  have:(Instr.buildSlice t n (ps.map fun(i,x)=>(i,a.eval x))).run P w = .ok (.slice (some ⟨w.heap.size,0,none⟩) n n) (w.alloc (.cells cells el)):=by
   rcases Nat.eq_zero_or_pos n with h0|h0
   ·subst h0
    have hv0:vs = []:=List.length_eq_zero_iff.1 FM;have DH:ps = #[]:=by simpa using ua
    subst DH;have Dy:cells = #[]:=by simp[cells,hv0]
    rw[Dy];simp[Instr.buildSlice,run_underlying hu,sizeOf,typeInfo,mQ,Instr.fill,newRow]
    congr 2
    apply Array.eq_empty_of_size_eq_zero;simp
   ·refine run_buildSlice w t el n _ cells ie z hu mQ hz' (by rw[<- fo];omega) (by rw[<- fo];exact Nat.ne_of_gt (Nat.mul_pos h0 dc)) ?_
    rw[yn,<- fo];refine Great.fill_whole dc vs _ P7 ?_;simp[FM]
  simp[execOp,this]
 have tr:Tr F w F (w.alloc (.cells cells el)):=Tr.alloc hg.heap.fresh _;have te:=hg.new d cells.size (.arr ei.size es) (.cells cells el) (hg.fy (hd d rfl)) ⟨dc,iq,.inr ⟨cells,el,(by show(w.alloc _).heap[if d=d then w.heap.size else L.ρ d]?=_;rw[if_pos rfl];exact heap_alloc_new w _),(by simp),(by rw[v7,rS];exact Nat.le_refl _),(by
  rw[v7,<- rS];have:cells.toList.take cells.size=cells.toList:=by rw[<- Array.length_toList,List.take_length]
  rw[this];refine aq.lY (L:=L) tr (fun i hi=>by simp[hi]) (pH eV) ?_;rw[<- hfe];simpa[cells,vs]using vr)⟩⟩
 refine⟨_,_,_,bN,.inl rfl,_,F,te.set (v:=.sl d ei.size 0 n) (hd d rfl) ⟨_,_,rfl,Nat.le_refl _,dc,.inr ⟨(by simp),(by simp[rS])⟩⟩,tr⟩
theorem zc{yv:Option Nat}{L:Loc}{F:Nat->Nat}{w:World}{place:Nat->Option (Nat×Nat)}{fs:List (Nat×Nat)}(ua:∀ i p,fs[i]?=some p->place i=some p):∀ {l:List (Nat×V)} {vs:List Value} {cs WN:Cells} {cells:Array Value},
  lb fs cs l=some WN->aq yv L F w (l.map (·.2)) vs->aq yv L F w cs.bm cells.toList ->
  ∃ r,Instr.fill place cells ((l.map (·.1)).zip vs)=some r/\aq yv L F w WN.bm r.toList
 | [],vs,cs,WN,cells,h,hv,hc=>by
  simp only[lb,Option.some.injEq]at h;subst h;exact⟨cells,by simp[Instr.fill],hc⟩
 | (i,v)::r,vs,cs,WN,cells,h,hv,hc=>by
  simp only[lb]at h;obtain⟨x,vs',rfl,hx,P7⟩:=hv;split at h;case h_2=>cases h
  rename_i off n hi;split at h;case h_2=>cases h
  rename_i vq nr;have vq:=er vq;have nr:=ng nr;rw[Cells.jq]at vq nr;have HF:=hx.rH.length;have rR:=hc.length;have B4:x.cells.size=n:=by rw[<- vq,<- HF];simp
  obtain⟨g1,g2⟩:=Great.foldl_set off x.cells.toList 0 cells;simp only[Nat.add_zero]at g2;have vu:aq yv L F w (cs.iT off v.cells).bm ((x.cells.toList.zipIdx 0).foldl (fun cs (y:Value×Nat)=>cs.setIfInBounds (off+y.2) y.1) cells).toList:=by
   rw[Cells.oO];refine .kD ?_ fun k c hk=>?_
   ·rw[ib (by omega)]
    simp[g1]at rR ⊢;omega
   ·have jj:∀ y,(if off<=k/\k<off+x.cells.toList.length/\k<cells.size then x.cells.toList[k-off]? else cells[k]?)=some y ->
      ((x.cells.toList.zipIdx 0).foldl (fun cs (y:Value×Nat)=>cs.setIfInBounds (off+y.2) y.1) cells).toList[k]?=some y:=fun y hy=>by
     rw[<- g2 k]at hy;simpa using hy
    have rS:cells.size=cs.bm.length:=by simpa using rR
    by_cases fF:off<=k/\k<off+n
    ·rw[mU (by omega) fF.1 (by omega)]at hk
     obtain⟨y,hy,DN⟩:=aq.get _ hx.rH hk;refine⟨y,jj y ?_,DN⟩;rw[if_pos ⟨fF.1,by simp[B4];omega,by omega⟩];exact hy
    ·rw[l9 (by omega) (by omega)]at hk
     obtain⟨y,hy,DN⟩:=aq.get _ hc hk;refine⟨y,jj y ?_,DN⟩;rw[if_neg (by simp[B4];omega)];simpa using hy
  obtain⟨res,tg,FJ⟩:=zc ua h P7 vu;refine⟨res,?_,FJ⟩;simp only[List.map_cons,List.zip_cons_cons];unfold Instr.fill;simp only[ua _ _ hi,B4];have rS:cells.size=cs.bm.length:=by simpa using rR
  rw[if_neg (by simp;omega),<- tg]
  congr 1
  rw[<- Array.foldl_toList,Array.toList_zipIdx]
theorem run_places(hT:bA P T){w:World}:∀ {fa:List Field} {sz:List (Nat×Nat)},tP T (fa.map fun f=>(f.offset,f.type))=some sz ->
  (fa.mapM fun f=>(do pure (f.offset,<- sizeOf f.type):Sem (Nat×Nat))).run P w = .ok sz w
 | [],sz,h=>by simp only[List.map_nil,tP,Option.some.injEq]at h;subst h;simp
 | f::fa,sz,h=>by
  simp only[List.map_cons,tP]at h;split at h
  ·rename_i i l hi hl
   cases h;have:=run_places hT (w:=w) hl;simp only[List.mapM_cons,Sem.run_bind,e5 hT hi,Result.andThen_ok,Sem.run_pure,this]
  ·cases h
theorem bg.val{yv:Option Nat}{L:Loc}{F:Nat->Nat}{w:World}{c:Cells}{l:Array Value}(h:aq yv L F w c.bm l.toList):bg yv L F w c.val (.agg l):=by
 cases c with
 | dd d=>exact⟨l,rfl,aq.inj.1 h⟩
 | vv d=>exact bg.tC h
theorem Aa(size:Nat):∀ (n k i:Nat) (p:Nat×Nat),(xl size (k*size) n)[i]?=some p->some ((k+i)*size,size)=some p
 | 0,k,i,p,h=>by simp[xl]at h
 | n+1,k,0,p,h=>by simpa[xl]using h
 | n+1,k,i+1,p,h=>by
  have h:(xl size (k*size+size) n)[i]?=some p:=by simpa[xl]using h
  rw[show k*size+size=(k+1)*size by rw[Nat.add_mul,Nat.one_mul]]at h;have:=Aa size n (k+1) i p h;rw[<- this];congr 3;omega
theorem parts_eval{ps:Array (Nat×Operand)}(a:Act){l:List (Nat×V)}(DG:l.map (·.1)=ps.toList.map (·.1)):(ps.map fun(i,x)=>(i,a.eval x)).toList=(l.map (·.1)).zip (ps.toList.map fun p=>a.eval p.2):=by
 rw[DG];simp only[Array.toList_map];generalize ps.toList=q
 induction q with
 | nil=>rfl
 | cons x q ih=>simp[ih]
theorem Jl(hT:bA P T){t:TypeId}{ps:Array (Nat×Operand)}(hk:gL T e h dst (.build t ps) K):∃ ws,K ws/\Out P e h ⟨dst,.build t ps,ty,pos,after,guard⟩ ws:=by
 simp only[gL]at hk;split at hk;case h_2=>exact hk.elim
 rename_i l ti hl ic;split at hk;case h_3=>exact hk.elim
 case h_2=>
  rename_i n el z eI hz;split at hk;case h_2=>exact hk.elim
  rename_i ei jS;split at hk;case h_2=>exact hk.elim
  rename_i cs hf;obtain⟨i,de,hi,gP,_,_,eP,_,_,FO⟩:=hT t ti ic;rw[eI]at eP;have:=gi eP.symm;subst this;obtain⟨Z,hZ,zM,_⟩:=FO z hz;refine⟨_,hk,bI (v:=cs.val) (o:=⟨dst,.build t ps,ty,pos,after,guard⟩) fun cx r m L F st a w he hh hg=>?_⟩;have HH:aq cx.yv L F w (Cells.dd z).bm Z.cells.toList:=aq.inj.2 (jD zM);obtain⟨DG,SK⟩:=mA hg he hl;obtain⟨res,hr,FJ⟩:=zc (place:=fun i=>some (i*ei.size,ei.size)) (fun i p h=>by have:=Aa ei.size n 0 i p (by rw[Nat.zero_mul];exact h);rw[Nat.zero_add]at this;exact this) hf SK HH;have yn:=parts_eval a DG;refine⟨.agg res,?_,bg.val FJ⟩;have h3:(Instr.build t (ps.map fun(i,x)=>(i,a.eval x))).run P w = .ok (.agg res) w:=by
   unfold Instr.build;simp only[Sem.run_bind,zeroValue,typeInfo,run_program,hi,Result.andThen_ok,Sem.run_pure,hZ,run_underlying gP,e5 hT jS];rw[yn,hr];simp
  simp[execOp,h3]
 rename_i fs z eI hz;split at hk;case h_2=>exact hk.elim
 rename_i sz dc;split at hk;case h_2=>exact hk.elim
 rename_i cs hf;obtain⟨i,de,hi,gP,_,_,eP,_,_,FO⟩:=hT t ti ic;rw[eI]at eP;obtain⟨fa,rfl,rfl,_⟩:=jc eP.symm;obtain⟨Z,hZ,zM,_⟩:=FO z hz;refine⟨_,hk,bI (v:=cs.val) (o:=⟨dst,.build t ps,ty,pos,after,guard⟩) fun cx r m L F st a w he hh hg=>?_⟩;have HH:aq cx.yv L F w (Cells.dd z).bm Z.cells.toList:=aq.inj.2 (jD zM);obtain⟨DG,SK⟩:=mA hg he hl;obtain⟨res,hr,FJ⟩:=zc (place:=fun i=>sz[i]?) (fun _ _ h=>h) hf SK HH;have yn:=parts_eval a DG;have ua:=run_places hT (w:=w) dc;refine⟨.agg res,?_,bg.val FJ⟩;have h2:(fa.mapM fun f=>(do pure (f.offset,<- sizeOf f.type):Sem (Nat×Nat))).run P w = .ok sz.toArray w:=by
  rw[Array.mapM_eq_mapM_toList];simp only[Sem.run_map,ua,Result.andThen_ok]
 have h3:(Instr.build t (ps.map fun(i,x)=>(i,a.eval x))).run P w = .ok (.agg res) w:=by
  unfold Instr.build;simp only[Sem.run_bind,zeroValue,typeInfo,run_program,hi,Result.andThen_ok,Sem.run_pure,hZ,run_underlying gP,h2];rw[yn];have:(fun(x:Nat)=>sz.toArray[x]?)=fun(i:Nat)=>sz[i]?:=by funext i;simp
  rw[this,hr];simp
 simp[execOp,h3]
theorem oL(hT:bA P T){w:World}{t:TypeId}{ti:rE}(ht:T.get t=some ti){b off:Nat}{l:Array Value}{E:TypeId}(hl:w.heap[b]?=some (.cells l E (0,0))){v:Value}
  (hn:v.cells.size=ti.size) (ho:off+ti.size<=l.size) (h1:∀ u∈v.cells.toList,u.oneCell'=true) :
  (storeVar t ⟨b,off,none⟩ v).run P w = .ok () (w.setRow b (l.toList.take off++v.cells.toList++l.toList.drop (off+v.cells.toList.length)).toArray):=by
 have:=run_storeCells_at (P:=P) b off E v.cells.toList 0 l w hl (by simp[hn];omega) h1;simp only[Nat.add_zero,Array.length_toList,hn]at this;simp[storeVar,e5 hT ht,hn,this]
theorem EG{α:Type}{sz:Nat}{es:List (List α)}(hl:dj sz es){i:Nat}{e:List α}(hi:es[i]?=some e){x:List α}{o:Nat}(ho:o+x.length<=sz) :
  (es.set i (e.take o++x++e.drop (o+x.length))).flatten=es.flatten.take (i*sz+o)++x++es.flatten.drop (i*sz+o+x.length):=by
 induction es generalizing i with
 | nil=>simp at hi
 | cons f r ih=>
  have hf:=hl f (List.mem_cons_self ..)
  cases i with
  | zero=>
   simp at hi;subst hi;simp only[List.set_cons_zero,List.flatten_cons,Nat.zero_mul,Nat.zero_add];rw[List.take_append_of_le_length (by omega),List.drop_append_of_le_length (by omega)];simp
  | succ i=>
   simp only[List.set_cons_succ,List.flatten_cons];rw[ih (fun e he=>hl e (List.mem_cons_of_mem _ he)) (by simpa using hi)];have e1:(i+1)*sz+o=f.length+(i*sz+o):=by rw[Nat.succ_mul];omega
   have e2:(i+1)*sz+o+x.length=f.length+(i*sz+o+x.length):=by rw[Nat.succ_mul];omega
   rw[e2,e1,List.take_length_add_append,List.drop_length_add_append];simp
theorem vQ{α:Type}{l Y:List α}{o n:Nat}(h:o+Y.length<=n)(hn:n<=l.length) :
  (l.take o++Y++l.drop (o+Y.length)).take n=(l.take n).take o++Y++(l.take n).drop (o+Y.length):=by
 have e1:(l.take n).length=n:=by rw[List.length_take];omega
 apply List.ext_getElem?;intro k;by_cases hk:k<n
 ·rw[List.getElem?_take_of_lt hk]
  by_cases fF:o<=k/\k<o+Y.length
  ·rw[mU (by omega) fF.1 fF.2,mU (by omega) fF.1 fF.2]
  ·rw[l9 (by omega) (by omega),l9 (by omega) (by omega),List.getElem?_take_of_lt hk]
 ·rw[List.getElem?_eq_none (by rw[List.length_take];omega),List.getElem?_eq_none (by rw[ib (by omega)];omega)]
theorem NK(es:aK)(n:Nat)(x:Cells):(es.set n x).bm=es.bm.set n x.bm:=by
 cases es<;>cases x<;>simp[aK.set,aK.bm,Cells.bm,bV,List.map_set]
theorem Jr(hT:bA P T){t:TypeId}{x y:Operand}(hk:gL T e h dst (.store t x y) K):∃ ws,K ws/\Out P e h ⟨dst,.store t x y,ty,pos,after,guard⟩ ws:=by
 simp only[gL]at hk
 cases dst with
 | some d=>exact hk.elim
 | none=>
 simp only[MV]at hk;split at hk;case h_2=>exact hk.elim
 rename_i u v ti hu hv ht;obtain⟨hc,hk⟩:=ca hk;simp only[Bool.and_eq_true]at hc;obtain⟨hlen,gh⟩:=hc;have hlen:=er hlen;rw[Cells.jq]at hlen;split at hk
 ·rename_i id off hp
  split at hk;case h_3=>exact hk.elim
  ·rename_i cs Hs
   obtain⟨hb,hk⟩:=ca hk;have hb:=ng hb;rw[Cells.jq]at hb;refine⟨_,hk,?_⟩;intro σ cx r m L F st a w he hh hg hd;unfold placeOf at hp;split at hp<;>cases hp
   have dC:a.eval x = .pointer (some ⟨L.ρ id,off,none⟩):=hg.aS (aF he hu);have DM:=(hg.aS (aF he hv)).rH;have FM:=DM.length;have h0:=hh _ _ Hs;obtain⟨l,E,hl,hr⟩:=hg.heap.obj id _ h0;have Lu:=hr.length;have jA:=oL hT (w:=w) ht hl (off:=off) (v:=a.eval y) (by rw[<- hlen,<- FM];simp) (by simp at Lu;omega) (DM.one (by rw[<- Cells.ok_eq];exact gh));obtain⟨g1,g2⟩:=hg.obj (o:=.box (cs.iT off v.cells)) h0 trivial (w':=w.setRow (L.ρ id) (l.toList.take off++(a.eval y).cells.toList++l.toList.drop (off+(a.eval y).cells.toList.length)).toArray) rfl rfl rfl (size_setRow _ _ _) (fun b hb=>setRow_other _ _ _ _ hb)
    (by rw[hl];intro ds e;cases e) (by rw[hl];intro lp e;cases e)
    ⟨_,E,setRow_heap _ _ _ _ _ _ hl,by
     rw[Cells.oO];have tr:Tr F w F (w.setRow (L.ρ id) (l.toList.take off++(a.eval y).cells.toList++l.toList.drop (off+(a.eval y).cells.toList.length)).toArray):=
      .iI rfl rfl rfl (by simp) (fun _=>Nat.le_refl _) hg.heap.fresh fun b _ hF=>setRow_other _ _ _ _ (by rintro rfl;have:=(hg.heap.own id _ h0 trivial).1;omega)
     exact aq.mono tr _ _ (fun _ _=>⟨rfl,rfl⟩) (by simpa using aq.iT off hr DM)⟩
   exact⟨undef,_,.skip,by simp[execOp,Instr.storeAt,dC,Instr.sureAddr,jA],.inr ⟨rfl,rfl⟩,L,F,g1,g2⟩
  ·rename_i tt vl Hs
   obtain⟨hb,hk⟩:=ca hk;have hb:=ng hb;refine⟨_,hk,?_⟩;intro σ cx r m L F st a w he hh hg hd;unfold placeOf at hp;split at hp<;>cases hp
   have dC:a.eval x = .pointer (some ⟨L.ρ id,off,none⟩):=hg.aS (aF he hu);have DM:=(hg.aS (aF he hv)).rH;have FM:=DM.length;have h0:=hh _ _ Hs;obtain⟨l,hl,hr⟩:=hg.heap.obj id _ h0;have Lu:=hr.length;have jA:=oL hT (w:=w) ht hl (off:=off) (v:=a.eval y) (by rw[<- hlen,<- FM];simp) (by simp at Lu;omega) (DM.one (by rw[<- Cells.ok_eq];exact gh));obtain⟨g1,g2⟩:=hg.obj (o:=.tb tt ((Cells.vv vl).iT off v.cells).bm) h0 trivial (w':=w.setRow (L.ρ id) (l.toList.take off++(a.eval y).cells.toList++l.toList.drop (off+(a.eval y).cells.toList.length)).toArray) rfl rfl rfl (size_setRow _ _ _) (fun b hb=>setRow_other _ _ _ _ hb)
    (by rw[hl];intro ds e;cases e) (by rw[hl];intro lp e;cases e)
    ⟨_,setRow_heap _ _ _ _ _ _ hl,by
     rw[Cells.oO];show aq cx.yv L F _ (vl.take off++v.cells.bm++vl.drop (off+v.cells.bm.length)) _;have tr:Tr F w F (w.setRow (L.ρ id) (l.toList.take off++(a.eval y).cells.toList++l.toList.drop (off+(a.eval y).cells.toList.length)).toArray):=
      .iI rfl rfl rfl (by simp) (fun _=>Nat.le_refl _) hg.heap.fresh fun b _ hF=>setRow_other _ _ _ _ (by rintro rfl;have:=(hg.heap.own id _ h0 trivial).1;omega)
     exact aq.mono tr _ _ (fun _ _=>⟨rfl,rfl⟩) (by simpa using aq.iT off hr DM)⟩
   exact⟨undef,_,.skip,by simp[execOp,Instr.storeAt,dC,Instr.sureAddr,jA],.inr ⟨rfl,rfl⟩,L,F,g1,g2⟩
 ·rename_i id sz i off hp
  split at hk;case h_2=>exact hk.elim
  rename_i n es fe;obtain⟨hn,jj⟩:=ca hk;have CJ:=er hn;clear hk hn;subst CJ;obtain⟨c,Q1,hk⟩:=C5 jj;obtain⟨hb,hk⟩:=ca hk;have hb:=ng hb;rw[Cells.jq]at hb;refine⟨_,hk,?_⟩;intro σ cx r m L F st a w he hh hg hd;unfold placeOf at hp;split at hp<;>cases hp
  have dC:a.eval x = .pointer (some ⟨L.ρ id,i*n+off,none⟩):=hg.aS (aF he hu);have DM:=(hg.aS (aF he hv)).rH;have FM:=DM.length;have h0:=hh _ _ fe;obtain⟨SL,iq,ir⟩:=hg.heap.obj id _ h0;rcases ir with⟨pS,_⟩|⟨l,E,hl,hκ,dc,hr⟩
  ·rw[pS]at Q1;simp at Q1
  have rR:c.bm.length=n:=iq _ (List.mem_of_getElem? Q1);have Hv:i<es.bm.length:=(List.getElem?_eq_some_iff.1 Q1).1;have abc:i*n+n<=es.bm.length*n:=by rw[<- Nat.succ_mul];exact Nat.mul_le_mul_right _ Hv
  have jn:aV L id (.arr n es):=by
   show L.κ id≠0;have:0<es.bm.length*n:=Nat.mul_pos (by omega) SL;omega
  have jA:=oL hT (w:=w) ht hl (off:=i*n+off) (v:=a.eval y) (by rw[<- hlen,<- FM];simp) (by omega) (DM.one (by rw[<- Cells.ok_eq];exact gh));have aad:(a.eval y).cells.toList.length=ti.size:=by rw[FM,hlen]
  have Ns:=ib (cs:=l.toList) (l:=(a.eval y).cells.toList) (off:=i*n+off) (by rw[aad];simp;omega);generalize pb:(l.toList.take (i*n+off)++(a.eval y).cells.toList++l.toList.drop (i*n+off+(a.eval y).cells.toList.length)).toArray=c' at jA;have ce:c'.toList=l.toList.take (i*n+off)++(a.eval y).cells.toList++l.toList.drop (i*n+off+(a.eval y).cells.toList.length):=by rw[<- pb]
  have zG:c'.size=l.size:=by rw[<- ce]at Ns;simpa using Ns
  have tr:Tr F w F (w.setRow (L.ρ id) c'):=
   .iI rfl rfl rfl (by simp) (fun _=>Nat.le_refl _) hg.heap.fresh fun b _ hF=>setRow_other _ _ _ _ (by rintro rfl;have:=(hg.heap.own id _ h0 jn).1;omega)
  have iQ:((es.set i (c.iT off v.cells)).bm)=es.bm.set i (c.bm.take off++v.cells.bm++c.bm.drop (off+v.cells.bm.length)):=by rw[NK,Cells.oO]
  obtain⟨g1,g2⟩:=hg.obj (o:=.arr n (es.set i (c.iT off v.cells))) h0 jn (w':=w.setRow (L.ρ id) c') rfl rfl rfl (size_setRow _ _ _) (fun b hb=>setRow_other _ _ _ _ hb)
   (by rw[hl];intro ds e;cases e) (by rw[hl];intro lp e;cases e) (by
    refine⟨SL,?_,.inr ⟨c',E,setRow_heap _ _ _ _ _ _ hl,?_,?_,?_⟩⟩
    ·rw[iQ]
     intro e he;rcases List.mem_or_eq_of_mem_set he with he|rfl
     ·exact iq e he
     ·rw[ib (by omega)];exact rR
    ·rw[zG,hκ]
    ·rw[iQ,List.length_set,zG];exact dc
    ·rw[iQ,List.length_set,EG iq Q1 (by omega),ce]
     refine aq.mono tr _ _ (fun _ _=>⟨rfl,rfl⟩) ?_;have h1:=aq.iT (i*n+off) hr DM;have e1:(l.toList.take (i*n+off)++(a.eval y).cells.toList++l.toList.drop (i*n+off+(a.eval y).cells.toList.length)).take (es.bm.length*n) =
       (l.toList.take (es.bm.length*n)).take (i*n+off)++(a.eval y).cells.toList++(l.toList.take (es.bm.length*n)).drop (i*n+off+(a.eval y).cells.toList.length):=by
      exact vQ (by omega) (by simp;omega)
     rw[e1];exact h1)
  exact⟨undef,_,.skip,by simp[execOp,Instr.storeAt,dC,Instr.sureAddr,jA],.inr ⟨rfl,rfl⟩,L,F,g1,g2⟩
 ·exact hk.elim
end
end Go.PX
