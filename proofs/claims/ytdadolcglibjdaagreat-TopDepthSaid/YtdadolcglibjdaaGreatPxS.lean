import Derived.Test.YtdadolcglibjdaaGreatPxR
import Derived.Test.YtdadolcglibjdaaGreatPxQ
import Derived.Test.YtdadolcglibjdaaGreatPxJ
set_option linter.all false
set_option maxRecDepth 10000
namespace Go.PX
open Go.Proofs
theorem ym:∀ {l b:List bK} {i:Int},(a5 eH b l i).2=0↔(∀ x∈l,(eP x.name=true/\hU x=0) /\ ∀ y∈b,y.name≠x.name)/\l.Pairwise (fun a b=>a.name≠b.name)
 | [],b,i=>by simp[a5]
 | x::r,b,i=>by
  have hx:eH b x=0↔((eP x.name=true/\hU x=0) /\ ∀ y∈b,y.name≠x.name):=by
   unfold eH;by_cases h1:eP x.name=true
   ·rw[if_pos h1]
    by_cases h2:(b.any fun y=>decide (y.name=x.name))=true
    ·rw[if_pos h2]
     simp only[List.any_eq_true,decide_eq_true_eq]at h2;obtain⟨y,hy,he⟩:=h2;exact⟨fun h=>absurd h (by decide),fun h=>absurd he (h.2 y hy)⟩
    ·rw[if_neg h2]
     simp only[List.any_eq_true,decide_eq_true_eq,not_exists,not_and]at h2;exact⟨fun h=>⟨⟨h1,h⟩,h2⟩,fun h=>h.1.2⟩
   ·rw[if_neg h1]
    exact⟨fun h=>absurd h (by decide),fun h=>absurd h.1.1 h1⟩
  simp only[a5,List.forall_mem_cons,List.pairwise_cons];by_cases h0:eH b x=0
  ·rw[if_pos h0,ym (l:=r)]
   have j9:=hx.1 h0;constructor
   ·rintro ⟨h1,h2⟩
    exact⟨⟨j9,fun y hy=>⟨(h1 y hy).1,fun z hz=>(h1 y hy).2 z (by simp[hz])⟩⟩,fun y hy=>(h1 y hy).2 x (by simp),h2⟩
   ·rintro ⟨⟨_,h1⟩,h2,h3⟩
    refine⟨fun y hy=>⟨(h1 y hy).1,fun z hz=>?_⟩,h3⟩;rcases List.mem_append.1 hz with hz|hz
    ·exact(h1 y hy).2 z hz
    ·rw[List.mem_singleton]at hz;subst hz;exact h2 y hy
  ·rw[if_neg h0]
   exact⟨fun h=>absurd h h0,fun h=>absurd (hx.2 h.1.1) h0⟩
theorem rT:∀ {l b:List bB} {i:Int},(a5 bV b l i).2=0 ↔ ∀ x∈l,bV [] x=0
 | [],b,i=>by simp[a5]
 | x::r,b,i=>by
  simp only[a5,List.forall_mem_cons];by_cases h0:bV b x=0
  ·rw[if_pos h0,rT (l:=r)]
   exact⟨fun h=>⟨h0,h⟩,fun h=>h.2⟩
  ·rw[if_neg h0]
   exact⟨fun h=>absurd h h0,fun h=>absurd h.1 h0⟩
theorem pY(w:bB):bV [] w=0↔(1<=w.depth.lo/\w.depth.lo<=w.depth.hi/\w.depth.hi<=1000)/\(0<=w.bf.lo/\w.bf.lo<=w.bf.hi/\w.bf.hi<=80)/\(0<=w.current.lo/\w.current.lo<=w.current.hi/\w.current.hi<=80)/\(0<=w.aW.lo/\w.aW.lo<=w.aW.hi/\w.aW.hi<=150):=by
 unfold bV;split
 ·rename_i h
  simp only[Bool.and_eq_true,bq]at h;split
  ·exact⟨fun h=>absurd h (by decide),fun h=>by omega⟩
  ·exact⟨fun _=>by omega,fun _=>rfl⟩
 ·rename_i h
  refine⟨fun h=>absurd h (by decide),fun hw=>absurd ?_ h⟩;simp only[Bool.and_eq_true,bq];omega
structure NQ(c:Case):Prop where
 plain:e6 c.chain=0
 av:∀ x∈c.chain.av,(eP x.name=true/\hU x=0)/\x.set<=c.day
 names:c.chain.av.Pairwise (fun a b=>a.name≠b.name)
 rows:(a5 kI [] c.chain.rows 0).2=0
 dj:(a6 c.dj.bf 0 10000&&(a6 c.dj.current 0 10000&&a6 c.dj.aW 0 10000)&&a6 c.dj.wF 0 20)=true
 day:a6 c.day 0 40000=true
 Dh:a6 c.aD.length 1 6=true
 aD:∀ x∈c.aD,bV [] x=0
theorem xn(c:Case):(bx c).2.2=0↔NQ c:=by
 have hs:=@ym c.chain.av [] 0;have hw:=@rT c.aD [] 0;constructor
 ·intro h
  unfold bx at h;split at h
  ·rename_i h1
   simp only at h;split at h
   ·rename_i h2
    unfold vZ at h;simp only at h;split at h
    ·rename_i h3
     unfold lg at h;split at h
     ·rename_i h4
      split at h
      ·rename_i h5
       split at h
       ·exact absurd h (by decide)
       ·rename_i h6
        split at h
        ·rename_i h7
         simp only at h;split at h
         ·rename_i h8
          obtain⟨k1,k2⟩:=hs.1 h2;refine⟨h1,fun x hx=>⟨(k1 x hx).1,?_⟩,k2,h3,h4,h5,h7,hw.1 h8⟩;simp only[List.any_eq_true,decide_eq_true_eq,not_exists,not_and]at h6;have:=h6 x hx;omega
         ·rename_i h8;exact absurd h h8
        ·exact absurd h (by decide)
      ·exact absurd h (by decide)
     ·exact absurd h (by decide)
    ·rename_i h3;exact absurd h h3
   ·rename_i h2;exact absurd h h2
  ·rename_i h1;exact absurd h h1
 ·intro h
  have h6:(c.chain.av.any fun s=>decide (s.set>c.day))=false:=by
   rw[List.any_eq_false];intro x hx;have:=(h.av x hx).2;simp;omega
  have h2:=hs.2 ⟨fun x hx=>⟨(h.av x hx).1,by simp⟩,h.names⟩;have h8:=hw.2 h.aD;simp only[bx,if_pos h.plain,vZ,lg,if_pos h2,if_pos h.rows,h.dj,h.day,h6,h.Dh,if_pos h8,if_true,Bool.false_eq_true,if_false]
def Ab(f:Fix)(x:fb)(s:aC):Prop:=∃ (k:Nat) (b c:Int),k<f.insts.length/\0<=b/\0<=c/\JU f x k b c=some s
theorem rR{f:Fix}{x:fb}(h0:cI f=(0,0,0)):∀ (l:List Int) (ls:List aC),(∀ n∈l,0<=n/\n<=65535)->(e8 f ls /\ ∀ s∈ls,Ab f x s)->(e8 f (nn f x l ls) /\ ∀ s∈nn f x l ls,Ab f x s)
 | [],ls,_,h=>h
 | [_],ls,_,h=>h
 | [_,_],ls,_,h=>h
 | a::b::c::r,ls,hl,h=>by
  have hr:∀ n∈r,0<=n/\n<=65535:=fun n hn=>hl n (by simp[hn]);have ha:=hl a (by simp);have hb:=hl b (by simp);have hc:=hl c (by simp);rw[nn];split;case isFalse=>exact h
  split
  ·exact rR h0 r ls hr h
  ·rename_i s hs
   split;case isFalse=>exact rR h0 r ls hr h
   rename_i hg;refine rR h0 r _ hr ⟨AG h0 hg,fun t ht=>?_⟩;rcases List.mem_append.1 ht with ht|ht
   ·exact h.2 t ht
   ·rw[List.mem_singleton]at ht
    subst ht;have hf:jh f:=iN (by rw[h0]);have hn:=hf.many1;have:=jW ha.1 (show(0:Int)<f.insts.length by omega);exact⟨_,b,c,by omega,hb.1,hc.1,hs⟩
theorem yp{f:Fix}{x:fb}(h0:cI f=(0,0,0))(hx:nF x):e8 f (lj f x) /\ ∀ s∈lj f x,Ab f x s:=
 rR h0 x.taken [] hx.taken ⟨AG h0 (EF f),by simp⟩
theorem H8{f:Fix}{m:Int}{p:Pt}(h:iI f.aP f.day m p=0):0<=eG f.aP f.day m p/\eG f.aP f.day m p<=31:=by
 have h0:=h;unfold eG;rw[if_pos h];unfold iI at h;split at h;case isFalse=>rename_i h1;exact absurd h h1
 split at h;case isFalse=>cases h
 split at h
 ·cases h
 rename_i h3;have IC:NZ ((gl f.aP f.day m).jz.sub p):=by
  show(gl f.aP f.day m).jz.x-p.x≠0\/(gl f.aP f.day m).jz.y-p.y≠0;unfold rI at h3;simp at h3;omega
 exact zO IC
theorem D4{f:Fix}{x:fb}(hf:jh f)(hx:nF x){k:Nat}(hk:k<f.insts.length):(oq f k).lo<=kT f x k/\kT f x k<=(oq f k).hi/\(-20<=kT f x k/\kT f x k<=20)/\(cQ f k=false -> -4<=kT f x k/\kT f x k<=4):=by
 obtain⟨y,hy⟩:∃ y,f.insts[k]?=some y:=⟨f.insts[k],by simp⟩;have hR:=hf.inst y (List.mem_of_getElem? hy);have hm:=od y;obtain⟨r1,r2,r3⟩:=hR;have ho:oq f k=y.off:=by unfold oq;rw[hy]
 have hL:cQ f k=y.lead:=by unfold cQ;rw[hy]
 have:=p9 (s:=y.off) (n:=jK x.nu k) r2 (sO hx.nu k).1;unfold kT;rw[ho,hL];refine⟨this.1,this.2,by omega,fun h=>?_⟩;have h4:jo y=4:=by unfold jo;rw[h];rfl
 omega
theorem JV{f:Fix}{x:fb}(hf:jh f)(hx:nF x){s:aC}(hs:Ab f x s):s.inst.toNat<f.insts.length/\(tT f s (oL f x)).2=true/\(tT f s (oL f x)).1.lo<=kT f x s.inst.toNat/\kT f x s.inst.toNat<=(tT f s (oL f x)).1.hi:=by
 obtain⟨k,b,c,hk,hb,hc,h⟩:=hs;obtain⟨o1,o2,o3,o4⟩:=D4 hf hx hk;unfold JU at h
 cases hl:cQ f k with
 | true=>
  rw[hl,if_pos rfl]at h;cases h;refine⟨hk,?_⟩;unfold tT;simp only[Int.toNat_natCast,hl,if_true];unfold tj Im Io
  cases ha:pI f (oL f x) with
  | none=>exact⟨rfl,o3⟩
  | some a=>
   simp only;have hA:=hf.II a (List.mem_of_find?_eq_some ha);have h1:=p9 (s:=a.depth) (n:=b) hA.d2 hb;have h2:=jW hc (show(0:Int)<2 by decide);refine⟨?_,by omega,by omega⟩;have h3:c.tmod 2=0\/c.tmod 2=1:=by omega
   rcases h3 with h3|h3
   ·simp[h3]
   ·simp[h3]
 | false=>
  rw[hl,if_neg (by simp)]at h;split at h
  ·cases h
  split at h;case isFalse=>cases h
  rename_i K5;cases h;refine⟨hk,?_⟩;unfold tT;simp only[Int.toNat_natCast,hl,Bool.false_eq_true,if_false];have o5:=o4 hl;have ht:=H8 K5;unfold xo kN;rw[if_pos K5];generalize eG f.aP f.day _ _=t at ht ⊢;generalize kT f x k=o at o5 ⊢;refine⟨decide_eq_true ht.1,?_⟩;simp only;have e1:(t+o+32).tmod 32=(t+o+32)%32:=Int.tmod_eq_emod_of_nonneg (by omega);rw[e1];have e2:((t+o+32)%32-t+32).tmod 32=((t+o+32)%32-t+32)%32:=Int.tmod_eq_emod_of_nonneg (by omega);rw[e2];unfold Ej;split<;>omega
theorem xj(k:Int):r7 0 k=false:=by
 unfold r7;rw[Int.zero_fdiv];rfl
theorem Fz(f:Fix)(s:aC):Ef f 0 0 s=false:=by
 unfold Ef;rw[xj,xj,Bool.and_false];rfl
theorem Ei{f:Fix}{x:fb}(hf:jh f)(hx:nF x):∀ (l:List aC) (s:pg) (M:bM),(∀ y∈l,Ab f x y)->(∀ k,k<f.insts.length->(s k).lo<=kT f x k/\kT f x k<=(s k).hi)->(Ah f (oL f x) 0 0 l s M).1.2=true
 | [],s,M,_,_=>rfl
 | y::r,s,M,hl,hs=>by
  obtain⟨k1,k2,k3,k4⟩:=JV hf hx (hl y (by simp));have k5:=hs _ k1;have k6:(yS (tT f y (oL f x)).1 (s y.inst.toNat)).lo<=kT f x y.inst.toNat/\kT f x y.inst.toNat<=(yS (tT f y (oL f x)).1 (s y.inst.toNat)).hi:=by
   unfold yS;simp only;omega
  rw[Ah,Fz,if_neg (by simp),if_pos ⟨k2,by omega⟩];refine Ei hf hx r _ _ (fun z hz=>hl z (by simp[hz])) fun k hk=>?_;unfold FD;split
  ·rename_i e;rw[e];exact k6
  ·exact hs k hk
theorem Et{f:Fix}{x:fb}(h0:cI f=(0,0,0))(hx:nF x):oL f x∈gn f (lj f x):=by
 have hf:jh f:=iN (by rw[h0]);unfold gn;refine List.mem_filter.2 ⟨yL hf hx,?_⟩;refine Ei hf hx _ _ _ (yp h0 hx).2 fun k hk=>?_;obtain⟨o1,o2,_⟩:=D4 hf hx hk;have:CK f k=oq f k:=by
  unfold CK CL oq;rw[if_pos hk];cases f.insts[k]?<;>rfl
 rw[this];exact⟨o1,o2⟩
def iJ(w:bB)(d:Span):bB:=⟨d,w.bf,w.current,w.aW⟩
def eF(c:Case)(w:bB)(d:Span):Case:={ c with aD:=[iJ w d] }
theorem yn{off day:Int}:∀ (l:List bK),lJ off day l 0=0\/lJ off day l 0=8
 | []=>.inl rfl
 | x::r=>by
  rw[lJ,if_pos rfl];split
  ·exact yn r
  ·exact .inr (rN r)
theorem Nh{c:Case}{w:bB}{d:Span}{k:Int}(h0:(bx (eF c w d)).2.2=0)(h1:d.lo<=k)(h2:k<=d.hi):(bx (eF c w ⟨k,k⟩)).2.2=0:=by
 have hG:=(xn _).1 h0;refine(xn _).2 ⟨hG.plain,hG.av,hG.names,hG.rows,hG.dj,hG.day,rfl,?_⟩;intro v hv;have hv:v ∈ [iJ w ⟨k,k⟩]:=hv;rw[List.mem_singleton]at hv;subst hv;have hw:=(pY _).1 (hG.aD (iJ w d) (by show _ ∈ [iJ w d];simp));rw[pY];simp only[iJ]at hw ⊢;omega
theorem Eu{c:Case}{w:bB}{d:Span}{k n:Int}(h0:(bx (eF c w d)).2.2=0)(h1:d.lo<=k)(h2:k<=d.hi)(hn:0<=n)(hb:(jA (eF c w d) (aM c) n).1=0):(jA (eF c w ⟨k,k⟩) (aM c) n).1=0:=by
 have hR:=eV h0;unfold jA at hb ⊢;rw[uL]at hb ⊢;intro v hv;have hv:v ∈ [iJ w ⟨k,k⟩]:=hv;rw[List.mem_singleton]at hv;subst hv;have hm:iJ w d∈(eF c w d).aD:=by show _ ∈ [iJ w d];simp
 have ZP:=hR.aD _ hm;have hh:=hR.hold;have hC:FX (dv (eF c w ⟨k,k⟩) (aM c) (iJ w ⟨k,k⟩)) (dv (eF c w d) (aM c) (iJ w d)):=by
  simp only[iJ]at ZP;refine⟨?_,?_,?_,?_,?_,rfl,fun j a b ha hb=>?_⟩
  ·simp only[dv,iJ];omega
  ·simp only[dv,iJ];omega
  ·simp only[dv,iJ];omega
  ·simp only[dv,iJ];omega
  ·exact⟨hh.1,Int.le_refl _⟩
  ·have ha:((aM c).map Span.lo)[j]?=some a:=ha
   have hb:((aM c).map Span.lo)[j]?=some b:=hb;rw[hb]at ha;obtain rfl:b=a:=by simpa using ha
   have hm:b∈(aM c).map Span.lo:=List.mem_of_getElem? hb;obtain⟨s,hs,rfl⟩:=List.mem_map.1 hm;have hs:s∈aM (eF c w d):=hs;have:=(la hR).th s hs;omega
 have h3:ku (eF c w d) (dv (eF c w ⟨k,k⟩) (aM c) (iJ w ⟨k,k⟩)) n=(0,0):=Cy hR (Ew h0) hC hn (hb _ hm);have h4:jE (eF c w ⟨k,k⟩) (aM c) n (iJ w ⟨k,k⟩)=ku (eF c w d) (dv (eF c w ⟨k,k⟩) (aM c) (iJ w ⟨k,k⟩)) n:=rfl;rw[h4,h3]
theorem BJ{c:Case}{w:bB}{d:Span}(h0:(bx (eF c w d)).2.2=0):(∃ n,gp (eF c w d)=(n,0) /\ ∀ k,d.lo<=k->k<=d.hi->(rU (eF c w ⟨k,k⟩) n).2=0/\(rU (eF c w ⟨k,k⟩) n).1.1=0)\/gp (eF c w d)=(0,8)\/gp (eF c w d)=(0,9):=by
 have hR:=eV h0;by_cases hs:lI (eF c w d)=0;case neg=>
  right;left;have h8:lI (eF c w d)=8:=by
   have:=yn (off:=(eF c w d).chain.err) (day:=(eF c w d).day) (eF c w d).chain.av;unfold lI at hs ⊢;omega
  have hl:cr (eF c w d) (bx (eF c w d)).2.2=8:=by unfold cr;rw[if_pos h0,h8]
  unfold gp;rw[hl,if_neg (by decide)]
 have ha:rM (eF c w d)=0:=by show cr _ _=0;unfold cr;rw[if_pos h0,hs]
 have hE:=C3 ha
 cases hr:kW (eF c w d) (aM (eF c w d)) with
 | nil=>right;right;rw[hE,hr]
 | cons s r=>
  left;rw[hr]at hE;have QW:=Af (eF c w d) (aM (eF c w d));rw[hr]at QW;obtain⟨a1,a2,a3⟩:=QW;have Ml:=(Ag hR (aM (eF c w d)) s.lo).1 ⟨s,by rw[hr];simp,Int.le_refl _,a2⟩;refine⟨s.lo,hE,fun k k1 k2=>?_⟩;have Xj:=Nh h0 k1 k2;have YR:rM (eF c w ⟨k,k⟩)=0:=by
   show cr _ _=0;unfold cr;rw[if_pos Xj];exact hs
  have hw:=Kn (eV Xj) YR (out:=s.lo) ⟨Ml.1,Ml.2.1⟩;have hb:=Eu h0 k1 k2 (n:=s.lo) (by omega) Ml.2.2;rw[hw];exact⟨rfl,hb⟩
theorem yQ{f:Fix}(h:(cI f).2.2=0):cI f=(0,0,0):=by
 unfold cI at h ⊢;split at h;case isFalse h1=>exact absurd h h1
 rename_i h1;rw[if_pos h1];split at h;case isFalse=>cases h
 rename_i h1;rw[if_pos h1];split at h;case isFalse=>cases h
 rename_i h1;rw[if_pos h1];split at h;case isFalse=>cases h
 rename_i h1;rw[if_pos h1];split at h;case isFalse=>cases h
 rename_i h1;rw[if_pos h1];split at h;case isFalse h1=>exact absurd h h1
 rename_i h1;rw[if_pos h1];split at h
 ·cases h
 rename_i h1;rw[if_neg h1];split at h;case isFalse h1=>exact absurd h h1
 rename_i h1;rw[if_pos h1]
theorem B8:aX Tryz.prog 6 [] (.bool true):=Yy
theorem B7:aX Tryz.prog 7 [] (.bool true):=Ts
def Gl(c:Case):List D:=[gq c.chain.av,i64 c.chain.tS,i64 c.chain.fC,i64 c.chain.err,i64 c.chain.hold.lo,i64 c.chain.hold.hi,oz c.chain.rows,
 i64 c.dj.bf,i64 c.dj.current,i64 c.dj.aW,i64 c.dj.wF,i64 c.day]
set_option maxHeartbeats 8000000 in
theorem Yx(f:Fix)(c:Case)(x:fb)(hx:nF x)(hlen:x.taken.length<=100000000000000)(G7:x.nu.length<=100000000000000):aX Tryz.prog 3 [f.d,c.d,x.d] (.bool true):=by
 refine aB Tryz.func3 rfl (ft:=Yq) 3 fun {σ} Y st=>?_;conv=>whnf
 refine ah (ds:=[f.d]) (Xh f) rfl rfl ?_;conv=>whnf
 refine ak (ds:=[c.d]) (OH c) rfl 1 rfl ?_;conv=>whnf
 by_cases h0:(cI f).2.2=0;case neg=>
  rw[decide_eq_false h0];conv=>whnf
  refine ah (B8) rfl rfl ?_;conv=>whnf
  refine ah (B7) rfl rfl ?_;conv=>whnf
  exact ae
 rw[decide_eq_true h0];conv=>whnf
 by_cases h1:(bx c).2.2=0;case neg=>
  rw[decide_eq_false h1];conv=>whnf
  refine ah (B8) rfl rfl ?_;conv=>whnf
  refine ah (B7) rfl rfl ?_;conv=>whnf
  exact ae
 rw[decide_eq_true h1];conv=>whnf
 have Vr:=yQ h0;have hf:=iN h0;have hR:=eV h1;have nr:=Et Vr hx;have zg:=(yp Vr hx).1;refine al (ds:=[f.d,x.d]) (Yz f x Vr hx hlen G7) rfl rfl ?_;conv=>whnf
 refine al (ds:=[f.d,x.d]) (Xi f x hf hx) rfl rfl ?_;conv=>whnf
 refine ah (ds:=[f.d,bn (lj f x)]) (L8 f (lj f x) zg) rfl rfl ?_;have YN:(gn f (lj f x)).length<=289:=Nat.le_trans (List.length_filter_le _ _) (oT hf);rw[show Fu (gn f (lj f x))=g9 (gn f (lj f x)) by
  cases hh:gn f (lj f x) with
  | nil=>rw[hh]at nr;cases nr
  | cons=>rfl]
 generalize gn f (lj f x)=P at nr YN ⊢;clear zg;generalize lj f x=T;have py:=u4 hf (yL hf hx);conv=>whnf
 have hP0:0<P.length:=List.length_pos_of_mem nr;refine ag (fun h=>absurd (of_decide_eq_true h) (by rw[List.length_map];omega)) (fun _=>?_);conv=>whnf
 refine ba (T:=tys) ao (by exact ai mixed ao (by decide +kernel)) P (fun i (s:Span)=>⟨[(3,.ptr 3 0),(4,.ptr 4 0),(5,.ptr 5 0),(14,.ptr 14 0),(15,.d (g9 P)),(16,.ptr 16 0),(17,.d (i64 i))],[(3,.box (.dd f.cells)),(4,.box (.dd c.cells)),(5,.box (.dd x.cells)),(14,.box (.dd (oL f x).cells)),(16,.box (.dd [i64 s.lo,i64 s.hi]))],st⟩) (fun i r s=>oL f x∈r \/ ∃ a,pI f (oL f x)=some a/\s.lo<=a.depth.lo/\a.depth.hi<=s.hi) ⟨1000,0⟩ (Wk.sub ⟨(by first|rfl|(simp only[List.length_map];rfl)|(simp only[ab,Nat.reduceBEq,eq_self];rfl)|simp[PX.get]),(by first|rfl|(simp only[List.length_map];rfl)|(simp only[ab,Nat.reduceBEq,eq_self];rfl)|simp[PX.get]),(by first|rfl|(simp only[List.length_map];rfl)|(simp only[ab,Nat.reduceBEq,eq_self];rfl)|simp[PX.get]),(by first|rfl|(simp only[List.length_map];rfl)|(simp only[ab,Nat.reduceBEq,eq_self];rfl)|simp[PX.get]),(by first|rfl|(simp only[List.length_map];rfl)|(simp only[ab,Nat.reduceBEq,eq_self];rfl)|simp[PX.get]),(by first|rfl|(simp only[List.length_map];rfl)|(simp only[ab,Nat.reduceBEq,eq_self];rfl)|simp[PX.get]),(by first|rfl|(simp only[List.length_map];rfl)|(simp only[ab,Nat.reduceBEq,eq_self];rfl)|simp[PX.get]),trivial⟩ ⟨(by first|rfl|(simp only[List.length_map];rfl)|(simp only[ab,Nat.reduceBEq,eq_self];rfl)|simp[PX.get]),(by first|rfl|(simp only[List.length_map];rfl)|(simp only[ab,Nat.reduceBEq,eq_self];rfl)|simp[PX.get]),(by first|rfl|(simp only[List.length_map];rfl)|(simp only[ab,Nat.reduceBEq,eq_self];rfl)|simp[PX.get]),(by first|rfl|(simp only[List.length_map];rfl)|(simp only[ab,Nat.reduceBEq,eq_self];rfl)|simp[PX.get]),(by first|rfl|(simp only[List.length_map];rfl)|(simp only[ab,Nat.reduceBEq,eq_self];rfl)|simp[PX.get]),trivial⟩) (.inl nr) ?_ ?_
 ·rintro i p r s Hf hi hr hs
  conv=>whnf
  refine ag (fun _=>?_) (fun h=>absurd hi (by simpa using h));conv=>whnf
  refine au Hf ?_;conv=>whnf
  refine al (ds:=[f.d,p.d]) (L9 f p hf) rfl rfl ?_;rcases qa f p with⟨ha,hI⟩|⟨k,a,ha,hI,hk⟩
  ·rw[hI]
   conv=>whnf
   refine ah (B8) rfl rfl ?_;conv=>whnf
   refine ah (B7) rfl rfl ?_;conv=>whnf
   exact ae
  rw[hI];conv=>whnf
  rw[decide_eq_false (show ¬ ((k:Nat):Int)<0 by omega)];conv=>whnf
  refine au hk ?_;conv=>whnf
  refine au hk ?_;conv=>whnf
  refine af ?_;conv=>whnf
  refine⟨⟨min s.lo a.depth.lo,max s.hi a.depth.hi⟩,?_,(Wk.sub ⟨(by first|rfl|(simp only[List.length_map];rfl)|(simp only[ab,Nat.reduceBEq,eq_self];rfl)|simp[PX.get]),(by first|rfl|(simp only[List.length_map];rfl)|(simp only[ab,Nat.reduceBEq,eq_self];rfl)|simp[PX.get]),(by first|rfl|(simp only[List.length_map];rfl)|(simp only[ab,Nat.reduceBEq,eq_self];rfl)|simp[PX.get]),(by first|rfl|(simp only[List.length_map];rfl)|(simp only[ab,Nat.reduceBEq,eq_self];rfl)|simp[PX.get]),(by first|rfl|(simp only[List.length_map];rfl)|(simp only[ab,Nat.reduceBEq,eq_self];rfl)|simp[PX.get]),(by first|rfl|(simp only[List.length_map];rfl)|(simp only[ab,Nat.reduceBEq,eq_self];rfl)|simp[PX.get]),(by first|rfl|(simp only[List.length_map];rfl)|(simp only[ab,Nat.reduceBEq,eq_self];rfl)|simp[PX.get]),trivial⟩ ⟨(by first|rfl|(simp only[List.length_map];rfl)|(simp only[ab,Nat.reduceBEq,eq_self];rfl)|simp[PX.get]),(by first|rfl|(simp only[List.length_map];rfl)|(simp only[ab,Nat.reduceBEq,eq_self];rfl)|simp[PX.get]),(by first|rfl|(simp only[List.length_map];rfl)|(simp only[ab,Nat.reduceBEq,eq_self];rfl)|simp[PX.get]),(by first|rfl|(simp only[List.length_map];rfl)|(simp only[ab,Nat.reduceBEq,eq_self];rfl)|simp[PX.get]),(by first|rfl|(simp only[List.length_map];rfl)|(simp only[ab,Nat.reduceBEq,eq_self];rfl)|simp[PX.get]),trivial⟩)⟩;rcases hs with hs|⟨b,hb,b1,b2⟩
  ·rcases List.mem_cons.1 hs with rfl|hs
   ·exact .inr ⟨a,ha,by simp only;omega,by simp only;omega⟩
   ·exact .inl hs
  ·exact .inr ⟨b,hb,by simp only;omega,by simp only;omega⟩
 ·rintro s hs
  obtain⟨a,ha,a1,a2⟩:∃ a,pI f (oL f x)=some a/\s.lo<=a.depth.lo/\a.depth.hi<=s.hi:=by
   rcases hs with hs|hs
   ·cases hs
   ·exact hs
  obtain⟨k,hI,hk⟩:∃ k:Nat,xe f (oL f x)=k/\f.cH[k]?=some a:=by
   rcases qa f (oL f x) with⟨hb,_⟩|⟨k,b,hb,hI,hk⟩
   ·rw[ha]at hb;cases hb
   ·rw[ha]at hb;cases hb;exact⟨k,hI,hk⟩
  conv=>whnf
  refine ag (fun h=>absurd h (by simp)) (fun _=>?_);conv=>whnf
  obtain⟨w,wr,hw⟩:∃ w wr,c.aD=w::wr:=by
   cases hw:c.aD with
   | nil=>have:=hR.Dh;rw[hw]at this;simp at this
   | cons w wr=>exact⟨w,wr,rfl⟩
  have NO:=hR.Dh;rw[hw]at NO ⊢;rw[show(decide ((0:Int)<=1)&&decide ((1:Int)<=(((w::wr).map bB.cells).length:Nat)))=true by simp;omega];conv=>whnf
  rw[show List.drop 0 (List.take (Int.toNat 1) (List.map bB.cells (w::wr))) = [w.cells] from rfl];refine aK rfl ?_;conv=>whnf
  refine bc rfl ?_;conv=>whnf
  refine ak (ds:=[(eF c w s).d]) (OH (eF c w s)) rfl 2 (aG (pd (iZ (a:=Gl c) (aG (cB rfl rfl) rfl))) rfl) ?_;conv=>whnf
  refine ah (ds:=[f.d,(oL f x).d]) (L9 f (oL f x) hf) rfl rfl ?_;rw[hI];conv=>whnf
  by_cases xE:(bx (eF c w s)).2.2=0;case neg=>
   refine ag (fun _=>?_) (fun h=>absurd h (by simp[xE]));conv=>whnf
   refine ah (B8) rfl rfl ?_;conv=>whnf
   refine ah (B7) rfl rfl ?_;conv=>whnf
   exact ae
  refine ag (fun h=>absurd h (by simp[xE])) (fun _=>?_);conv=>whnf
  rw[decide_eq_false (show ¬ ((k:Nat):Int)<0 by omega)];conv=>whnf
  refine ak (ds:=[(eF c w s).d]) (LR (eF c w s)) rfl 2 (aG (pd (iZ (a:=Gl c) (aG (cB rfl rfl) rfl))) rfl) ?_;rcases BJ xE with⟨n,hE,hn⟩|hE|hE
  case inr.inl=>
   rw[hE];conv=>whnf
   refine ah (B8) rfl rfl ?_;conv=>whnf
   refine ah (B7) rfl rfl ?_;conv=>whnf
   exact ae
  case inr.inr=>
   rw[hE];conv=>whnf
   refine ah (B8) rfl rfl ?_;conv=>whnf
   refine ah (B7) rfl rfl ?_;conv=>whnf
   exact ae
  rw[hE];conv=>whnf
  have hA:=hf.II a (List.mem_of_getElem? hk);have x1:=hx.a1;have x2:=hx.a2;have x3:=hx.b1;have x4:=hx.b2;have hr:=p9 (s:=a.depth) (n:=x.a+x.b) hA.d2 (by omega);have hg:=hA.d1;have mf:=hA.d2;have Sv:=hA.d3;refine au hk ?_;conv=>whnf
  refine af ?_;conv=>whnf
  refine af ?_;conv=>whnf
  refine af ?_;conv=>whnf
  refine al (ds:=[a.depth.d,i64 (x.a+x.b)]) (U8 a.depth (x.a+x.b) (by omega) (by omega) (by omega) (by omega)) rfl rfl ?_;have so:=hn _ (Int.le_trans a1 hr.1) (Int.le_trans hr.2 a2);have K4:=Int.le_trans a1 hr.1;have MP:=Int.le_trans hr.2 a2;generalize Dt a.depth (x.a+x.b)=R at so K4 MP ⊢;conv=>whnf
  refine aK rfl ?_;conv=>whnf
  refine aK rfl ?_;conv=>whnf
  refine bc rfl ?_;conv=>whnf
  refine ak (ds:=[(eF c w ⟨R,R⟩).d,i64 n]) (LQ (eF c w ⟨R,R⟩) n) rfl 2 (aG (pd (iZ (a:=Gl c) (aG (cB rfl rfl) rfl))) rfl) ?_;rw[so.1,so.2];conv=>whnf
  rw[show decide (s.lo<=R)=true from decide_eq_true K4];conv=>whnf
  rw[show decide (R<=s.hi)=true from decide_eq_true MP];conv=>whnf
  refine ah (B8) rfl rfl ?_;conv=>whnf
  refine ah (B7) rfl rfl ?_;conv=>whnf
  exact ae
end Go.PX
namespace Go.PX
open Go.Proofs Go.RowKit Go.ChangeShapes
theorem c3:Tryz.prog.cellsOf 3=1:=by kernel_rfl
theorem c9:Tryz.prog.cellsOf 9=1:=by kernel_rfl
theorem Ca:Tryz.prog.cellsOf 32=2:=by kernel_rfl
theorem N4:Tryz.prog.cellsOf 179=2:=by kernel_rfl
theorem Yh:Tryz.prog.cellsOf 79=1:=by kernel_rfl
theorem Xd:Tryz.prog.cellsOf 81=8:=by kernel_rfl
theorem Yc:Tryz.prog.cellsOf 30=1:=by kernel_rfl
theorem N2:Tryz.prog.cellsOf 148=2:=by kernel_rfl
theorem Yd:Tryz.prog.cellsOf 33=1:=by kernel_rfl
theorem Xa:Tryz.prog.cellsOf 35=7:=by kernel_rfl
theorem Xb:Tryz.prog.cellsOf 37=4:=by kernel_rfl
theorem Xc:Tryz.prog.cellsOf 62=8:=by kernel_rfl
theorem Ye:Tryz.prog.cellsOf 38=1:=by kernel_rfl
theorem Yf:Tryz.prog.cellsOf 40=13:=by kernel_rfl
section
variable (W : World)
theorem eQ:Rd Tryz.prog W 3 fun ds=>∃ n,ds = [i64 n]:=Rd.int Tryz.underlying3
theorem Ea:Rd Tryz.prog W 9 fun ds=>∃ s,ds = [.str s]:=Rd.str Tryz.underlying9
theorem kG:Rd Tryz.prog W 32 fun ds=>∃ s:Span,ds=s.cells:=
 (Rd.struct Tryz.underlying32 Ca (.cons rfl c3 (eQ W) (.cons rfl c3 (eQ W) (.nil _)))).mono fun ds h=>by
  obtain⟨_,_,rfl,⟨a,rfl⟩,_,_,rfl,⟨b,rfl⟩,rfl⟩:=h;exact⟨⟨a,b⟩,rfl⟩
theorem J0:Rd Tryz.prog W 179 fun ds=>∃ s:cT,ds=s.cells:=
 (Rd.struct Tryz.underlying179 N4 (.cons rfl c3 (eQ W) (.cons rfl c3 (eQ W) (.nil _)))).mono fun ds h=>by
  obtain⟨_,_,rfl,⟨a,rfl⟩,_,_,rfl,⟨b,rfl⟩,rfl⟩:=h;exact⟨⟨a,b⟩,rfl⟩
theorem HW:Rd Tryz.prog W 79 fun ds=>∃ l:List cT,ds = [fZ l]:=
 (Rd.slice Tryz.underlying79 N4 (by omega) (J0 W)).mono fun ds h=>by
  obtain⟨es,rfl,he⟩:=h;obtain⟨l,rfl⟩:=ir (fun _ h=>h) he;exact⟨l,rfl⟩
theorem Nq:Rd Tryz.prog W 81 fun ds=>∃ s:bK,ds=s.cells:=
 (Rd.struct Tryz.underlying81 Xd (.cons rfl c9 (Ea W) (.cons rfl c3 (eQ W) (.cons rfl c3 (eQ W) (.cons rfl Ca (kG W) (.cons rfl Ca (kG W) (.cons rfl Yh (HW W) (.nil _)))))))).mono fun ds h=>by
  obtain⟨_,_,rfl,⟨a,rfl⟩,_,_,rfl,⟨b,rfl⟩,_,_,rfl,⟨c,rfl⟩,_,_,rfl,⟨d,rfl⟩,_,_,rfl,⟨e,rfl⟩,_,_,rfl,⟨f,rfl⟩,rfl⟩:=h;exact⟨⟨a,b,c,d,e,f⟩,rfl⟩
theorem J6:Rd Tryz.prog W 30 fun ds=>∃ l:List bK,ds = [gq l]:=
 (Rd.slice Tryz.underlying30 Xd (by omega) (Nq W)).mono fun ds h=>by
  obtain⟨es,rfl,he⟩:=h;obtain⟨l,rfl⟩:=ir (fun _ h=>h) he;exact⟨l,rfl⟩
theorem R4:Rd Tryz.prog W 148 fun ds=>∃ s:Row,ds=s.cells:=
 (Rd.struct Tryz.underlying148 N2 (.cons rfl c3 (eQ W) (.cons rfl c3 (eQ W) (.nil _)))).mono fun ds h=>by
  obtain⟨_,_,rfl,⟨a,rfl⟩,_,_,rfl,⟨b,rfl⟩,rfl⟩:=h;exact⟨⟨a,b⟩,rfl⟩
theorem Nn:Rd Tryz.prog W 33 fun ds=>∃ l:List Row,ds = [oz l]:=
 (Rd.slice Tryz.underlying33 N2 (by omega) (R4 W)).mono fun ds h=>by
  obtain⟨es,rfl,he⟩:=h;obtain⟨l,rfl⟩:=ir (fun _ h=>h) he;exact⟨l,rfl⟩
theorem JZ:Rd Tryz.prog W 35 fun ds=>∃ c:kV,ds=c.cells:=
 (Rd.struct Tryz.underlying35 Xa (.cons rfl Yc (J6 W) (.cons rfl c3 (eQ W) (.cons rfl c3 (eQ W) (.cons rfl c3 (eQ W) (.cons rfl Ca (kG W) (.cons rfl Yd (Nn W) (.nil _)))))))).mono fun ds h=>by
  obtain⟨_,_,rfl,⟨a,rfl⟩,_,_,rfl,⟨b,rfl⟩,_,_,rfl,⟨c,rfl⟩,_,_,rfl,⟨d,rfl⟩,_,_,rfl,⟨e,rfl⟩,_,_,rfl,⟨f,rfl⟩,rfl⟩:=h;exact⟨⟨a,b,c,d,e,f⟩,rfl⟩
theorem Np:Rd Tryz.prog W 37 fun ds=>∃ s:r4,ds=s.cells:=
 (Rd.struct Tryz.underlying37 Xb (.cons rfl c3 (eQ W) (.cons rfl c3 (eQ W) (.cons rfl c3 (eQ W) (.cons rfl c3 (eQ W) (.nil _)))))).mono fun ds h=>by
  obtain⟨_,_,rfl,⟨a,rfl⟩,_,_,rfl,⟨b,rfl⟩,_,_,rfl,⟨c,rfl⟩,_,_,rfl,⟨d,rfl⟩,rfl⟩:=h;exact⟨⟨a,b,c,d⟩,rfl⟩
theorem Fx:Rd Tryz.prog W 62 fun ds=>∃ s:bB,ds=s.cells:=
 (Rd.struct Tryz.underlying62 Xc (.cons rfl Ca (kG W) (.cons rfl Ca (kG W) (.cons rfl Ca (kG W) (.cons rfl Ca (kG W) (.nil _)))))).mono fun ds h=>by
  obtain⟨_,_,rfl,⟨a,rfl⟩,_,_,rfl,⟨b,rfl⟩,_,_,rfl,⟨c,rfl⟩,_,_,rfl,⟨d,rfl⟩,rfl⟩:=h;exact⟨⟨a,b,c,d⟩,rfl⟩
theorem CU:Rd Tryz.prog W 38 fun ds=>∃ l:List bB,ds = [pf l]:=
 (Rd.slice Tryz.underlying38 Xc (by omega) (Fx W)).mono fun ds h=>by
  obtain⟨es,rfl,he⟩:=h;obtain⟨l,rfl⟩:=ir (fun _ h=>h) he;exact⟨l,rfl⟩
theorem Nk:Rd Tryz.prog W 40 fun ds=>∃ c:Case,ds=c.cells:=
 (Rd.struct Tryz.underlying40 Yf (.cons rfl Xa (JZ W) (.cons rfl Xb (Np W) (.cons rfl c3 (eQ W) (.cons rfl Ye (CU W) (.nil _)))))).mono fun ds h=>by
  obtain⟨_,_,rfl,⟨a,rfl⟩,_,_,rfl,⟨b,rfl⟩,_,_,rfl,⟨c,rfl⟩,_,_,rfl,⟨d,rfl⟩,rfl⟩:=h;exact⟨⟨a,b,c,d⟩,rfl⟩
end
theorem X8:Tryz.prog.cellsOf 22=1:=by kernel_rfl
theorem X9:Tryz.prog.cellsOf 23=1:=by kernel_rfl
theorem W9:Tryz.prog.cellsOf 25=2:=by kernel_rfl
theorem SY:Tryz.prog.cellsOf 53=2:=by kernel_rfl
theorem Xe:Tryz.prog.cellsOf 92=4:=by kernel_rfl
theorem Yg:Tryz.prog.cellsOf 55=1:=by kernel_rfl
theorem N1:Tryz.prog.cellsOf 141=6:=by kernel_rfl
theorem SX:Tryz.prog.cellsOf 135=1:=by kernel_rfl
theorem N0:Tryz.prog.cellsOf 137=4:=by kernel_rfl
theorem N3:Tryz.prog.cellsOf 151=2:=by kernel_rfl
section
variable (W : World)
theorem R2:Rd Tryz.prog W 53 fun ds=>∃ p:Pt,ds=p.cells:=
 (Rd.struct Tryz.underlying53 SY (.cons rfl c3 (eQ W) (.cons rfl c3 (eQ W) (.nil _)))).mono fun ds h=>by
  obtain⟨_,_,rfl,⟨a,rfl⟩,_,_,rfl,⟨b,rfl⟩,rfl⟩:=h;exact⟨⟨a,b⟩,rfl⟩
theorem J3:Rd Tryz.prog W 151 fun ds=>∃ p:e9,ds=p.cells:=
 (Rd.struct Tryz.underlying151 N3 (.cons rfl c3 (eQ W) (.cons rfl c3 (eQ W) (.nil _)))).mono fun ds h=>by
  obtain⟨_,_,rfl,⟨a,rfl⟩,_,_,rfl,⟨b,rfl⟩,rfl⟩:=h;exact⟨⟨a,b⟩,rfl⟩
theorem Lf:Rd Tryz.prog W 32 fun ds=>∃ a b,ds = [i64 a,i64 b]:=
 (Rd.struct Tryz.underlying32 Ca (.cons rfl c3 (eQ W) (.cons rfl c3 (eQ W) (.nil _)))).mono fun ds h=>by
  obtain⟨_,_,rfl,⟨a,rfl⟩,_,_,rfl,⟨b,rfl⟩,rfl⟩:=h;exact⟨a,b,rfl⟩
theorem RZ:Rd Tryz.prog W 92 fun ds=>∃ b:zZ,ds=b.cells:=
 (Rd.struct Tryz.underlying92 Xe (.cons rfl Ca (Lf W) (.cons rfl Ca (Lf W) (.nil _)))).mono fun ds h=>by
  obtain⟨_,_,rfl,⟨a,b,rfl⟩,_,_,rfl,⟨c,d,rfl⟩,rfl⟩:=h;exact⟨⟨⟨a,b⟩,⟨c,d⟩⟩,rfl⟩
theorem HY:Rd Tryz.prog W 135 fun ds=>∃ l:List e9,ds = [ix l]:=
 (Rd.slice Tryz.underlying135 N3 (by omega) (J3 W)).mono fun ds h=>by
  obtain⟨es,rfl,he⟩:=h;obtain⟨l,rfl⟩:=ir (f:=e9.cells) (fun _ h=>h) he;exact⟨l,rfl⟩
theorem R3:Rd Tryz.prog W 55 fun ds=>∃ l:List Pt,ds = [g9 l]:=
 (Rd.slice Tryz.underlying55 SY (by omega) (R2 W)).mono fun ds h=>by
  obtain⟨es,rfl,he⟩:=h;obtain⟨l,rfl⟩:=ir (f:=Pt.cells) (fun _ h=>h) he;exact⟨l,rfl⟩
theorem Nm:Rd Tryz.prog W 137 fun ds=>∃ m:Mark,ds=m.cells:=
 (Rd.struct Tryz.underlying137 N0 (.cons rfl c9 (Ea W) (.cons rfl SY (R2 W) (.cons rfl SX (HY W) (.nil _))))).mono fun ds h=>by
  obtain⟨_,_,rfl,⟨a,rfl⟩,_,_,rfl,⟨b,rfl⟩,_,_,rfl,⟨c,rfl⟩,rfl⟩:=h;exact⟨⟨a,b,c⟩,rfl⟩
theorem No:Rd Tryz.prog W 141 fun ds=>∃ m:gC,ds=m.cells:=
 (Rd.struct Tryz.underlying141 N1 (.cons rfl c9 (Ea W) (.cons rfl Yg (R3 W) (.cons rfl Xe (RZ W) (.nil _))))).mono fun ds h=>by
  obtain⟨_,_,rfl,⟨a,rfl⟩,_,_,rfl,⟨b,rfl⟩,_,_,rfl,⟨c,rfl⟩,rfl⟩:=h;exact⟨⟨a,b,c⟩,rfl⟩
theorem J2:Rd Tryz.prog W 22 fun ds=>∃ l:List Mark,ds = [zr l]:=
 (Rd.slice Tryz.underlying22 N0 (by omega) (Nm W)).mono fun ds h=>by
  obtain⟨es,rfl,he⟩:=h;obtain⟨l,rfl⟩:=ir (f:=Mark.cells) (fun _ h=>h) he;exact⟨l,rfl⟩
theorem J5:Rd Tryz.prog W 23 fun ds=>∃ l:List gC,ds = [zI l]:=
 (Rd.slice Tryz.underlying23 N1 (by omega) (No W)).mono fun ds h=>by
  obtain⟨es,rfl,he⟩:=h;obtain⟨l,rfl⟩:=ir (f:=gC.cells) (fun _ h=>h) he;exact⟨l,rfl⟩
theorem R0:Rd Tryz.prog W 25 fun ds=>∃ c:pE,ds=c.cells:=
 (Rd.struct Tryz.underlying25 W9 (.cons rfl X8 (J2 W) (.cons rfl X9 (J5 W) (.nil _)))).mono fun ds h=>by
  obtain⟨_,_,rfl,⟨a,rfl⟩,_,_,rfl,⟨b,rfl⟩,rfl⟩:=h;exact⟨⟨a,b⟩,rfl⟩
end
theorem Yi:Tryz.prog.cellsOf 4=1:=by kernel_rfl
theorem Yj:Tryz.prog.cellsOf 5=1:=by kernel_rfl
theorem SZ:Tryz.prog.cellsOf 26=1:=by kernel_rfl
theorem S0:Tryz.prog.cellsOf 27=1:=by kernel_rfl
theorem S1:Tryz.prog.cellsOf 29=7:=by kernel_rfl
theorem S2:Tryz.prog.cellsOf 41=2:=by kernel_rfl
theorem N7:Tryz.prog.cellsOf 41=2*1:=by kernel_rfl
theorem N8:Tryz.prog.cellsOf 42=1:=by kernel_rfl
theorem S3:Tryz.prog.cellsOf 44=4:=by kernel_rfl
theorem N9:Tryz.prog.cellsOf 60=7:=by kernel_rfl
theorem Oa:Tryz.prog.cellsOf 73=4:=by kernel_rfl
theorem N6:Tryz.prog.cellsOf 120=1:=by kernel_rfl
theorem IN{n:Int}(h:(Lit.int .u8 n).wf=true):0<=n/\n<=255:=by
 simp only[Lit.wf,Bool.and_eq_true,decide_eq_true_eq]at h;exact h
theorem Ko{n:Int}(h:(Lit.int .u16 n).wf=true):0<=n/\n<=65535:=by
 simp only[Lit.wf,Bool.and_eq_true,decide_eq_true_eq]at h;exact h
theorem Rd.RP{P:Program}{W:World}{t:TypeId}{k:IntKind}(ht:P.underlying t=some (.int k)):Rd P W t fun ds=>∃ n,ds = [.int k n]/\(Lit.int k n).wf=true:=by
 refine⟨?_⟩;intro H enc sp held fuel cs x h;obtain⟨n,rfl,_,hw⟩:=DataW.trod_int ht h;exact⟨[.int k n],⟨n,rfl,hw⟩,_,[],rfl,rfl,rfl⟩
section
variable (W : World)
theorem JY:Rd Tryz.prog W 5 fun ds=>∃ n,ds = [.int .u8 n]/\0<=n/\n<=255:=(Rd.RP Tryz.underlying5).mono fun ds ⟨n,h,w⟩=>⟨n,h,IN w⟩
theorem J7:Rd Tryz.prog W 120 fun ds=>∃ n,ds = [.int .u16 n]/\0<=n/\n<=65535:=(Rd.RP Tryz.underlying120).mono fun ds ⟨n,h,w⟩=>⟨n,h,Ko w⟩
theorem RY:yE Tryz.prog W 41 fun ds=>∃ a b:Int,ds = [.int .u8 a,.int .u8 b]/\(0<=a/\a<=255)/\(0<=b/\b<=255):=
 (yE.array Tryz.underlying41 N7 Yj (Rd.z (JY W))).mono fun ds h=>by
  obtain⟨DA,rfl,hl,hd⟩:=h
  match DA,hl with
  | [x,y],_=>
   obtain⟨a,rfl,ha⟩:=hd x (by simp);obtain⟨b,rfl,hb⟩:=hd y (by simp);exact⟨a,b,rfl,ha,hb⟩
theorem HX:yE Tryz.prog W 42 fun ds=>∃ l:List Int,ds = [A5 l]/\(∀ n∈l,0<=n/\n<=65535)/\l.length*2<=140737488351232:=
 (yE.slice Tryz.underlying42 N6 (by omega) (J7 W).z).mono fun ds h=>by
  obtain⟨es,rfl,he,hz⟩:=h;rw[show Tryz.prog.bytesOf 120=2 by kernel_rfl]at hz;have:∀ es:List (List D),(∀ e∈es,∃ n:Int,e = [.int .u16 n]/\(0<=n/\n<=65535)) -> ∃ l:List Int,es=l.map (fun n=>[.int .u16 n]) /\ ∀ n∈l,0<=n/\n<=65535:=by
   intro es
   induction es with
   | nil=>intro _;exact⟨[],rfl,fun n hn=>by cases hn⟩
   | cons e r ih=>
    intro h;obtain⟨n,h1,h2⟩:=h e (by simp);obtain⟨l,h3,h4⟩:=ih fun x hx=>h x (by simp[hx]);refine⟨n::l,by rw[h1,h3];rfl,fun m hm=>?_⟩;rcases List.mem_cons.1 hm with rfl|hm
    ·exact h2
    ·exact h4 m hm
  obtain⟨l,h1,h2⟩:=this es he;refine⟨l,by rw[h1];rfl,h2,?_⟩;rw[h1,List.length_map]at hz;exact hz
theorem JX:Rd Tryz.prog W 4 fun ds=>∃ b,ds = [.bool b]:=Rd.bool Tryz.underlying4
theorem J4:yE Tryz.prog W 44 fun ds=>∃ x:fb,ds=x.cells/\nF x/\x.nu.length*2<=140737488351232/\x.taken.length*2<=140737488351232:=
 (yE.struct Tryz.underlying44 S3 (.cons rfl S2 (RY W) (.cons rfl N8 (HX W) (.cons rfl N8 (HX W) (.nil _))))).mono fun ds h=>by
  obtain⟨_,_,rfl,⟨a,b,rfl,ha,hb⟩,_,_,rfl,⟨l,rfl,hl,hz⟩,_,_,rfl,⟨t,rfl,ht,hy⟩,rfl⟩:=h;exact⟨⟨a,b,l,t⟩,rfl,⟨ha.1,ha.2,hb.1,hb.2,hl,ht⟩,hz,hy⟩
theorem Nl:Rd Tryz.prog W 73 fun ds=>∃ x:dr,ds=x.cells:=
 (Rd.struct Tryz.underlying73 Oa (.cons rfl c9 (Ea W) (.cons rfl Yi (JX W) (.cons rfl Ca (kG W) (.nil _))))).mono fun ds h=>by
  obtain⟨_,_,rfl,⟨a,rfl⟩,_,_,rfl,⟨b,rfl⟩,_,_,rfl,⟨c,rfl⟩,rfl⟩:=h;exact⟨⟨a,b,c⟩,rfl⟩
theorem Nj:Rd Tryz.prog W 60 fun ds=>∃ x:jf,ds=x.cells:=
 (Rd.struct Tryz.underlying60 N9 (.cons rfl Ca (kG W) (.cons rfl Ca (kG W) (.cons rfl Ca (kG W) (.cons rfl c3 (eQ W) (.nil _)))))).mono fun ds h=>by
  obtain⟨_,_,rfl,⟨a,rfl⟩,_,_,rfl,⟨b,rfl⟩,_,_,rfl,⟨c,rfl⟩,_,_,rfl,⟨d,rfl⟩,rfl⟩:=h;exact⟨⟨a,b,c,d⟩,rfl⟩
theorem J1:Rd Tryz.prog W 26 fun ds=>∃ l:List dr,ds = [gG l]:=
 (Rd.slice Tryz.underlying26 Oa (by omega) (Nl W)).mono fun ds h=>by
  obtain⟨es,rfl,he⟩:=h;obtain⟨l,rfl⟩:=ir (f:=dr.cells) (fun _ h=>h) he;exact⟨l,rfl⟩
theorem JW:Rd Tryz.prog W 27 fun ds=>∃ l:List jf,ds = [nJ l]:=
 (Rd.slice Tryz.underlying27 N9 (by omega) (Nj W)).mono fun ds h=>by
  obtain⟨es,rfl,he⟩:=h;obtain⟨l,rfl⟩:=ir (f:=jf.cells) (fun _ h=>h) he;exact⟨l,rfl⟩
theorem R1:Rd Tryz.prog W 29 fun ds=>∃ f:Fix,ds=f.cells:=
 (Rd.struct Tryz.underlying29 S1 (.cons rfl W9 (R0 W) (.cons rfl c3 (eQ W) (.cons rfl SZ (J1 W) (.cons rfl S0 (JW W) (.cons rfl c3 (eQ W) (.cons rfl c3 (eQ W) (.nil _)))))))).mono fun ds h=>by
  obtain⟨_,_,rfl,⟨a,rfl⟩,_,_,rfl,⟨b,rfl⟩,_,_,rfl,⟨c,rfl⟩,_,_,rfl,⟨d,rfl⟩,_,_,rfl,⟨e,rfl⟩,_,_,rfl,⟨g,rfl⟩,rfl⟩:=h;exact⟨⟨a,b,c,d,e,g⟩,rfl⟩
end
theorem RU(W:World):Laid Tryz.prog W:=by
 have h1 : Tryz.prog.globalNamed "internal/strconv.uint64pow10" = none := by kernel_rfl
 have h2 : Tryz.prog.globalNamed "internal/bytealg.MaxLen" = none := by kernel_rfl
 have h3 : Tryz.prog.globalNamed "strconv.ErrSyntax" = none := by kernel_rfl
 have h4 : Tryz.prog.globalNamed "strconv.ErrRange" = none := by kernel_rfl
 exact⟨fun g h=>(by rw[h1]at h;cases h),fun g h=>(by rw[h2]at h;cases h),fun g h=>(by rw[h3]at h;cases h),fun g h=>(by rw[h4]at h;cases h)⟩
end Go.PX
