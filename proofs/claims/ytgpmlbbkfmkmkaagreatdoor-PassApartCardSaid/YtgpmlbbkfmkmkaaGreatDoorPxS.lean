import Derived.Test.YtgpmlbbkfmkmkaaGreatDoorPxR
import Derived.Test.YtgpmlbbkfmkmkaaGreatDoorPxK
import Derived.Test.YtgpmlbbkfmkmkaaGreatDoorPxJ
set_option linter.all false
set_option maxRecDepth 10000
namespace Go.PX
theorem Wk.subG{σ:Type}{e e':Env}{s:σ}{B sz:Nat}{rows:List Rw}{h:Heap}(F':Heap)(hB:3000000<=B)(he:qmL e e')(hT:∀ k,3000000<=k->get h k=get (qN B sz 0 rows) k)(hs:qbn h F'):Wk (⟨e,h,s⟩:St σ) ⟨e',F'++qN B sz 0 rows,s⟩:=by
 refine Wk.subT (zh he) fun k v hv=>?_;rw[qdj]at hv
 cases hg:get F' k with
 | some o=>
  rw[hg]at hv;have hv:some o=some v:=hv;rw[<- hv];exact jD hs k o hg
 | none=>
  rw[hg]at hv;have hv:get (qN B sz 0 rows) k=some v:=hv;have hk:B<=k:=Nat.le_of_not_lt fun h=>by rw[get_famR_lt h]at hv;cases hv
  rw[hT k (by omega)];exact hv
def qnr:List Nat->Bool
 | []=>true
 | i::r=>Nat.blt i 3000000&&qnr r
theorem inL_low:∀ {ids:List Nat} {k:Nat},qnr ids=true->3000000<=k->inL ids k=false:=by
 intro ids k h hk
 cases hc:inL ids k with
 | false=>rfl
 | true=>
  exfalso;have hm:=qkc.1 hc;clear hc
  induction ids with
  | nil=>cases hm
  | cons i r ih=>
   simp only[qnr,Bool.and_eq_true]at h;have h1:i<3000000:=Nat.le_of_ble_eq_true h.1
   rcases List.mem_cons.1 hm with e | hm
   ·omega
   ·exact ih h.2 hm
theorem qe{B sz:Nat}{ids:List Nat}(hB:3000000<=B)(h:qnr ids=true):∀ {rows:List Rw} {i:Nat},qL ids (qN B sz i rows) = []
 | [],_=>rfl
 | .at' l::rs,i=>by
  rw[qN,qL,inL_low h (by omega)];exact qe hB h
 | .foc K n::rs,i=>by rw[qN];exact qe hB h
theorem qgD{B sz k:Nat}(hk:k<B):∀ {rows:List Rw} {i:Nat},(∀ K n,Rw.foc K n∈rows->K≠k)->qr (qy k) (hdrs B sz i rows)=hdrs B sz i rows
 | [],i,_=>rfl
 | .at' l::r,i,h=>by
  have e1:mapId (qy k) (.sl (B+i) sz 0 l.length) = .sl (B+i) sz 0 l.length:=by
   rw[mapId,qy];simp only[qdq,qeo (show B+i≠k by omega)]
  have ih:=qgD (sz:=sz) hk (rows:=r) (i:=i+1) fun K n hm=>h K n (by simp[hm]);show [mapId (qy k) (.sl (B+i) sz 0 l.length)]::qr (qy k) (hdrs B sz (i+1) r)=_;rw[e1,ih];rfl
 | .foc K n::r,i,h=>by
  have e1:mapId (qy k) (.sl K sz 0 n) = .sl K sz 0 n:=by
   rw[mapId,qy];simp only[qdq,qeo (h K n (by simp))]
  have ih:=qgD (sz:=sz) hk (rows:=r) (i:=i+1) fun K n hm=>h K n (by simp[hm]);show [mapId (qy k) (.sl K sz 0 n)]::qr (qy k) (hdrs B sz (i+1) r)=_;rw[e1,ih];rfl
end Go.PX
namespace Go.PX
open Go.Proofs
open Go.RowKit
def qB(t:Rws):List Rw:=t.map fun r=>.at' (qW r)
theorem jX{t:Rws}{i:Nat}{r:List Int}(h:t[i]?=some r):(qB t)[i]?=some (.at' (qW r)):=by
 unfold qB;rw[List.getElem?_map,h];rfl
theorem jY(t:Rws)(i:Nat)(r:List Int):(qB t).set i (.at' (qW r))=qB (t.set i r):=by
 unfold qB;rw[List.map_set]
theorem qca(t:Rws):(qB t).length=t.length:=by unfold qB;rw[List.length_map]
theorem zn{t:Rws}{K:Nat}:qic K (qB t):=by
 intro K' n hm;unfold qB at hm;obtain⟨x,_,hx⟩:=List.mem_map.1 hm
 cases hx
theorem qfV{rows:List Rw}{K K' n i:Nat}(h:qic K rows)(h1:K'<3000000)(h2:K'≠K):qic K (rows.set i (.foc K' n)):=by
 intro J m hm;obtain⟨j,hj⟩:=List.getElem?_of_mem hm;rw[List.getElem?_set]at hj
 split at hj
 ·split at hj
  ·cases hj;exact⟨h1,h2⟩
  ·cases hj
 ·exact h J m (List.mem_of_getElem? hj)
theorem qns{rows:List Rw}{K i:Nat}{l:List (List D)}(h:qic K rows):qic K (rows.set i (.at' l)):=by
 intro J m hm;obtain⟨j,hj⟩:=List.getElem?_of_mem hm;rw[List.getElem?_set]at hj
 split at hj
 ·split at hj
  ·cases hj
  ·cases hj
 ·exact h J m (List.mem_of_getElem? hj)
theorem qai{B sz K n i:Nat}{rows:List Rw}(h:rows[i]?=some (.foc K n)):(hdrs B sz 0 rows)[0+((i:Nat):Int).toNat]?=some [V.sl K sz 0 n]:=by
 rw[qeH,Int.toNat_natCast];simp only[Nat.zero_add];rw[h];rfl
theorem qbq{rows:List Rw}{K n i:Nat}(h:i<rows.length):(rows.set i (.foc K n))[i]?=some (.foc K n):=by
 rw[List.getElem?_set,if_pos rfl,if_pos h]
theorem qfz{rows:List Rw}{i j:Nat}{r:Rw}(h:i≠j):(rows.set i r)[j]?=rows[j]?:=by
 rw[List.getElem?_set,if_neg h]
theorem Wk.openT{σ:Type}{e:Env}{h:Heap}{s:σ}{B O:Nat}{rows:List Rw}(K i:Nat){l:List (List D)}(F:Heap)(hB:3000000<=B)(hK:Nat.blt K 1000000=true)(hO:Nat.blt O 3000000=true)(hOK:Nat.beq O K=false)(hi:rows[i]?=some (.at' l))(hf:qic K rows)
  (he:qpj (qkf K) e=true) (hF:qpk (qkf K) F=true) (hg:get h O=some (qcJ B 1 rows)) (hT:∀ k,B<=k->get h k=get (qN B 1 0 rows) k) (hFs:qbn h F) :
  Wk (⟨e,h,s⟩:St σ) ⟨e,(O,qcJ B 1 (rows.set i (.foc K l.length)))::(K,.arr 1 (.dd l))::(F++qN B 1 0 (rows.set i (.foc K l.length))),s⟩:=
 Wk.openF K i F ⟨hB,hg,hT,Nat.le_of_ble_eq_true hO,hf⟩ (Nat.le_of_ble_eq_true hK) (fun e=>by subst e;simp at hOK) hi he hF hFs
theorem Wk.closeT{σ:Type}{e:Env}{h:Heap}{s:σ}{B O:Nat}{rows:List Rw}(K i:Nat){n:Nat}{l:List (List D)}(F:Heap)(hB:3000000<=B)(hK:Nat.blt K 1000000=true)(hO:Nat.blt O 3000000=true)(hOK:Nat.beq O K=false)(hi:rows[i]?=some (.foc K n))(hn:n=l.length)(hf:qic K (rows.set i (.at' l)))
  (he:qpj (qkf K) e=true) (hF:qpk (qkf K) F=true) (hg:get h O=some (qcJ B 1 rows)) (hT:∀ k,B<=k->get h k=get (qN B 1 0 rows) k) (hrow:get h K=some (.arr 1 (.dd l))) (hFs:qbn h F) :
  Wk (⟨e,h,s⟩:St σ) ⟨e,(O,qcJ B 1 (rows.set i (.at' l)))::(F++qN B 1 0 (rows.set i (.at' l))),s⟩:=
 Wk.closeF K i F hB hg hT (Nat.le_of_ble_eq_true hO) hf (Nat.le_of_ble_eq_true hK) (fun e=>by subst e;simp at hOK) hi hn hrow he hF hFs
section
variable {P : Program} {T : Tys} {σ : Type} {Y : Hd σ}
theorem qbr(hT:qT P T){ft:FT}{c:Code}(hD:zO P T ft c){β:Type}(n:Nat)(I:Nat->β->St σ)(J:Nat->β->Prop)(x0:β){st:St σ}{K:AExit->St σ->Prop}(h0:Wk st (I 0 x0))(j0:J 0 x0)
  (round:∀ (i:Nat) (acc:β),i<n->J i acc -> ∃ st0,Wk (I i acc) st0/\wpA P T ft Y c st0 fun e st'=>match e with
   | .normal=>∃ acc',J (i+1) acc'/\Wk st' (I (i+1) acc')
   | e=>K e st')
  (fin:∀ acc,J n acc -> ∃ st0,Wk (I n acc) st0/\wpA P T ft Y c st0 fun e st'=>match e with
   | .normal=>False
   | e=>K e st'):LoopA P ft Y c st K:=by
 refine qoz (α:=Nat×β) (fun p=>I p.1 p.2) (fun p=>p.1<=n/\J p.1 p.2) (fun p=>n+1-p.1) (0,x0) h0 ⟨Nat.zero_le _,j0⟩ ?_;rintro ⟨i,acc⟩ ⟨hi,hj⟩;simp only at hi hj ⊢
 by_cases hlt:i<n
 ·obtain⟨st0,hw0,hr0⟩:=round i acc hlt hj
  refine WPC.wk hw0 (WPC.mono (zG hT c hD _ _ hr0) fun e st' hk=>?_)
  cases e with
  | normal=>
   obtain⟨acc',h1,h2⟩:=hk;exact⟨(i+1,acc'),by simp only;omega,⟨hlt,h1⟩,h2⟩
  | exit i=>exact hk
  | ret=>exact hk
 ·have he:i=n:=by omega
  subst he;obtain⟨st0,hw0,hr0⟩:=fin acc hj;refine WPC.wk hw0 (WPC.mono (zG hT c hD _ _ hr0) fun e st' hk=>?_)
  cases e with
  | normal=>exact hk.elim
  | exit i=>exact hk
  | ret=>exact hk
end
end Go.PX
