import Derived.Test.YtgpmlbbkfmkmkaaGreatDoorPxR
set_option linter.all false
set_option maxRecDepth 10000
namespace Go.PX
open Go.Proofs
open Go.RowKit
def bkR(w:List ByteArray):Option PBook:=match w with
 | [k,n,a,b,c,d]=>if k=bookW then some ⟨n,⟨jn a,jn b⟩,⟨jn c,jn d⟩,[]⟩ else none
 | _=>none
def enR(w:List ByteArray):Option PEnt:=match w with
 | [k,t]=>if k=setW then some ⟨jn t,2,.empty,0⟩ else none
 | [k,t,x]=>if k=passW then some ⟨jn t,1,x,0⟩ else none
 | [k,t,x,n]=>if k=reportW then some ⟨jn t,3,x,jn n⟩ else none
 | _=>none
def rwR(l:PLog)(w:List ByteArray):Option PLog:=match bkR w with
 | some b=>some { l with books:=l.books ++ [b] }
 | none=>if l.books = [] then none else (enR w).map fun e=>{ l with books:=qoJ e l.books }
theorem qge{w:List ByteArray}{x:PBook}(h:bkR w=some x):∃ n a b c d,w = [bookW,n,a,b,c,d]/\x=⟨n,⟨jn a,jn b⟩,⟨jn c,jn d⟩,[]⟩:=by
 unfold bkR at h
 split at h
 ·split at h
  ·rename_i k n a b c d hk
   subst hk
   cases h
   exact⟨n,a,b,c,d,rfl,rfl⟩
  ·cases h
 ·cases h
theorem rowN_b(near:Int)(w:List ByteArray)(x:PBook)(hb:bkR w=some x):FnU Tryz.prog 102 [.d (.agg [i64 near,.nils]),.d (qbO w)] [] fun v h'=>v = .tup [.agg [.d (i64 near),.sl 2000000 6 0 1],.d (.bool true)]/\h' = [(2000000,.arr 6 (.dd [qlB x]))]:=by
 intro σ Y st;obtain⟨n,a,b,c,d,rfl,rfl⟩:=qge hb;refine jf mixed qk Tryz.func102 rfl (ft:=qdn) (args:=[.d (.agg [i64 near,.nils]),.d (qbO [bookW,n,a,b,c,d])]) (h:=[]) (show fnB qdn Tryz.f102 2=true from by decide +kernel) ?_;conv=>whnf
 refine qj (-1) (by rfl) (qb (by omega)) ?_;conv=>whnf
 repeat' (first
  | (refine qf (qbM _) rfl rfl ?_;conv=>whnf)
  | (refine qn (qbM _) rfl 1 rfl ?_;conv=>whnf)
  | (refine qp (qbM _) rfl rfl ?_;conv=>whnf)
  | (refine qr (qbM _) rfl 1 rfl ?_;conv=>whnf)
  | (refine qd (qb (by(try dsimp only);omega)) ?_;conv=>whnf)
  | (refine qz (by assumption) ?_;conv=>whnf)
  | (refine qi (by first | rfl | assumption | (simp[Els.len];done) | (simp[Els.len];omega)) ?_;conv=>whnf)
  | (refine ze (by first | (exact decide_eq_true (by(try simp only[List.length_map]);omega)) | (simp[Els.len,Els.cons,V.cells,Els.toV,qB];done) | (simp[Els.len,Els.cons,V.cells,Els.toV,qB];omega)) ?_;conv=>whnf)
  | fail)
 exact ql [46] [.agg [.d (i64 near),.sl 2000000 6 0 1],.d (.bool true)] [(2000000,.arr 6 (.dd [qlB ⟨n,⟨jn a,jn b⟩,⟨jn c,jn d⟩,[]⟩]))] rfl ⟨rfl,trivial⟩ rfl ⟨⟨rfl,rfl⟩,rfl⟩
theorem qmO{w:List ByteArray}(h:bkR w=none)(h6:w.length=6):∃ k,w[0]?=some k/\k≠bookW:=by
 match w,h6 with
 | [k,n,a,b,c,d],_=>
  refine⟨k,rfl,fun hk=>?_⟩;subst hk;simp[bkR]at h
theorem rowN_0(near:Int)(w:List ByteArray)(hw:w.length<1000000)(hb:bkR w=none):FnV Tryz.prog 102 [.agg [i64 near,.nils],qbO w] (.tup [.agg [i64 near,.nils],.bool false]):=by
 show FnV Tryz.prog 102 [.agg [i64 near,.nils],qbO w] _;refine qF mixed qk Tryz.func102 rfl (ft:=qdn) 2 (by decide +kernel) (by rfl) fun {σ} Y st=>?_;conv=>whnf
 refine qj (-1) (by rfl) (qb (by omega)) ?_;conv=>whnf
 refine qg (fun h6=>?_) (fun h6=>?_)
 ·have h6:w.length=6:=by have:=of_decide_eq_true h6;simp at this;omega
  obtain⟨k,hk,hkb⟩:=qmO hb h6;conv=>whnf
  refine qz hk ?_;conv=>whnf
  refine qg (fun h=>absurd (of_decide_eq_true h) hkb) (fun _=>?_);conv=>whnf
  exact qc 0 rfl ⟨⟨rfl,rfl⟩,rfl⟩
 ·conv=>whnf
  exact qc 0 rfl ⟨⟨rfl,rfl⟩,rfl⟩
def rwH(i j:Nat)(init:List PBook)(last:PBook):Heap:=
 [(i,.arr 6 (.vv (qB (init.map PBook.cells) ++ [inj (hdC last) ++ [.sl j 4 0 last.ents.length]]))),(j,.arr 4 (.dd (last.ents.map PEnt.cells)))]
theorem row1_b(near:Int)(init:List PBook)(last:PBook)(w:List ByteArray)(x:PBook)(hl:init.length<=100000)(he:last.ents.length<=100000)(hb:bkR w=some x) :
  FnU Tryz.prog 102 [.agg [.d (i64 near),.sl 1000000 6 0 (init.length+1)],.d (qbO w)] (rwH 1000000 1000001 init last) fun v h'=>v = .tup [.agg [.d (i64 near),.sl 2000000 6 0 (init.length+2)],.d (.bool true)]/\h' = [(2000000,.arr 6 (.dd (init.map PBook.cells ++ [last.cells,qlB x])))]:=by
 intro σ Y st;obtain⟨n,a,b,c,d,rfl,rfl⟩:=qge hb;refine jf mixed qk Tryz.func102 rfl (ft:=qdn) (args:=[.agg [.d (i64 near),.sl 1000000 6 0 (init.length+1)],.d (qbO [bookW,n,a,b,c,d])]) (show fnB qdn Tryz.f102 2=true from by decide +kernel) ?_;conv=>whnf
 refine qj (init.length:Int) (by omega) (qb (by omega)) ?_;conv=>whnf
 repeat' (first
  | (refine qf (qbM _) rfl rfl ?_;conv=>whnf)
  | (refine qn (qbM _) rfl 1 rfl ?_;conv=>whnf)
  | (refine qp (qbM _) rfl rfl ?_;conv=>whnf)
  | (refine qr (qbM _) rfl 1 rfl ?_;conv=>whnf)
  | (refine qd (qb (by(try dsimp only);omega)) ?_;conv=>whnf)
  | (refine qz (by assumption) ?_;conv=>whnf)
  | (refine qi (by first | rfl | assumption | (simp[Els.len];done) | (simp[Els.len];omega)) ?_;conv=>whnf)
  | (refine ze (by first | (exact decide_eq_true (by(try simp only[List.length_map]);omega)) | (simp[Els.len,Els.cons,V.cells,Els.toV,qB];done) | (simp[Els.len,Els.cons,V.cells,Els.toV,qB];omega)) ?_;conv=>whnf)
  | fail)
 rw[show qe (qC 46) (qe (qC 45) (qe (qC 4) (qe (qC 2) (qB (init.map PBook.cells) ++ [inj (hdC last) ++ [V.sl 1000001 4 0 last.ents.length]]))))=qB (init.map PBook.cells) ++ [inj (hdC last) ++ [V.sl 1000001 4 0 last.ents.length]] from by rw[qa,qa,qa,qa];rfl];refine qi (by simp[Els.len,qI]) ?_;refine ze (by
  show(true && !jB 46 (List.flatten (qB (init.map PBook.cells) ++ [_]++_)))=true;rw[List.append_assoc,qby];rfl) ?_
 refine ze (decide_eq_true (by
  show((qB (init.map PBook.cells) ++ [_]).length+1)*72<=140737488355328;simp[qI];omega)) ?_
 conv=>whnf
 refine zM [1000001,46] (by
  show qJ (List.flatten (qB (init.map PBook.cells) ++ [inj (hdC last) ++ [V.sl 1000001 4 0 last.ents.length]]++qB [[D.str n,i64 (jn a),i64 (jn b),i64 (jn c),i64 (jn d),.nils]]))++([46] ++ [])=_;rw[List.append_assoc,qU];rfl) ?_
 conv=>whnf
 have hnc : [D.str n,i64 (jn a),i64 (jn b),i64 (jn c),i64 (jn d),.nils]=qlB ⟨n,⟨jn a,jn b⟩,⟨jn c,jn d⟩,[]⟩:=rfl;generalize (⟨n,⟨jn a,jn b⟩,⟨jn c,jn d⟩,[]⟩:PBook)=new at hnc;refine qhb (l':=[.agg [.d (i64 near),.sl 46 6 0 (init.length+2)],.d (.bool true)]) (h':=[(46,.arr 6 (.dd (init.map PBook.cells ++ [last.cells,qlB new])))]) ((Wk.frzArr 1 [1000001] 46 (sz:=6) (vs:=qB (init.map PBook.cells)++([inj (hdC last) ++ [V.sl 1000001 4 0 last.ents.length]]++qB [[D.str n,i64 (jn a),i64 (jn b),i64 (jn c),i64 (jn d),.nils]])) (ds:=init.map PBook.cells ++ [last.cells,qlB new]) ?_ (qbi (qiC (qbw (a:=hdC last) (qE (qbv (es':=last.ents.map PEnt.cells) rfl rfl (by simp)) rfl)) (by rw[<- hnc];rfl)) _)).trans (Wk.sub ⟨?_,rfl,trivial⟩ ⟨rfl,trivial⟩)) rfl rfl ?_
 ·exact congrArg (fun z=>some (Obj.arr 6 (.vv z))) (List.append_assoc _ _ _)
 ·show some (V.agg [.d (i64 near),.sl 46 6 0 ((qB (init.map PBook.cells) ++ [inj (hdC last) ++ [V.sl 1000001 4 0 last.ents.length]]).length+1)])=_
  simp[qI]
 ·exact ql [46] [.agg [.d (i64 near),.sl 2000000 6 0 (init.length+2)],.d (.bool true)] [(2000000,.arr 6 (.dd (init.map PBook.cells ++ [last.cells,qlB new])))] rfl ⟨rfl,trivial⟩ rfl ⟨⟨rfl,rfl⟩,rfl⟩
theorem enR_some{w:List ByteArray}{e:PEnt}(h:enR w=some e):(∃ t,w = [setW,t]/\e=⟨jn t,2,.empty,0⟩)\/(∃ t x,w = [passW,t,x]/\e=⟨jn t,1,x,0⟩) \/ ∃ t x n,w = [reportW,t,x,n]/\e=⟨jn t,3,x,jn n⟩:=by
 unfold enR at h
 split at h
 ·split at h
  ·rename_i k t hk;subst hk;cases h;exact .inl ⟨t,rfl,rfl⟩
  ·cases h
 ·split at h
  ·rename_i k t x hk;subst hk;cases h;exact .inr (.inl ⟨t,x,rfl,rfl⟩)
  ·cases h
 ·split at h
  ·rename_i k t x n hk;subst hk;cases h;exact .inr (.inr ⟨t,x,n,rfl,rfl⟩)
  ·cases h
 ·cases h
def rwQ(near:Int)(init:List PBook)(last:PBook)(e:PEnt)(v:V)(h':Heap):Prop:=
 v = .tup [.agg [.d (i64 near),.sl 1000000 6 0 (init.length+1)],.d (.bool true)]/\h'=rwH 1000000 2000000 init { last with ents:=last.ents ++ [e] }
set_option maxHeartbeats 2000000 in
theorem row1_e(near:Int)(init:List PBook)(last:PBook)(w:List ByteArray)(e:PEnt)(hl:init.length<=100000)(he:last.ents.length<=100000)(hE:enR w=some e) :
  FnU Tryz.prog 102 [.agg [.d (i64 near),.sl 1000000 6 0 (init.length+1)],.d (qbO w)] (rwH 1000000 1000001 init last) (rwQ near init last e):=by
 intro σ Y st
 rcases enR_some hE with⟨t,rfl,rfl⟩ | ⟨t,x,rfl,rfl⟩ | ⟨t,x,n,rfl,rfl⟩
 ·refine jf mixed qk Tryz.func102 rfl (ft:=qdn) (args:=[.agg [.d (i64 near),.sl 1000000 6 0 (init.length+1)],.d (qbO [setW,t])]) (show fnB qdn Tryz.f102 2=true from by decide +kernel) ?_
  conv=>whnf
  refine qj (init.length:Int) (by omega) (qb (by omega)) ?_;conv=>whnf
  repeat' (first
   | (refine qf (qbM _) rfl rfl ?_;conv=>whnf)
   | (refine qn (qbM _) rfl 1 rfl ?_;conv=>whnf)
   | (refine qp (qbM _) rfl rfl ?_;conv=>whnf)
   | (refine qr (qbM _) rfl 1 rfl ?_;conv=>whnf)
   | (refine qd (qb (by(try dsimp only);omega)) ?_;conv=>whnf)
   | (refine qz (by assumption) ?_;conv=>whnf)
   | (refine qi (by first | rfl | assumption | (simp[Els.len];done) | (simp[Els.len];omega)) ?_;conv=>whnf)
   | (refine ze (by first | (exact decide_eq_true (by(try simp only[List.length_map]);omega)) | (simp[Els.len,Els.cons,V.cells,Els.toV,qB];done) | (simp[Els.len,Els.cons,V.cells,Els.toV,qB];omega)) ?_;conv=>whnf)
   | fail)
  rw[show qe (qC 117) (qe (qC 116) (qe (qC 7) (qe (qC 4) (qe (qC 2) (qB (init.map PBook.cells) ++ [inj (hdC last) ++ [V.sl 1000001 4 0 last.ents.length]])))))=qB (init.map PBook.cells) ++ [inj (hdC last) ++ [V.sl 1000001 4 0 last.ents.length]] from by rw[qa,qa,qa,qa,qa];rfl];refine qR (inj (hdC last) ++ [V.sl 1000001 4 0 last.ents.length]) (by rw[Nat.zero_add,Int.toNat_natCast];simp[qI]) ?_;conv=>whnf
  refine qi rfl ?_;conv=>whnf
  refine qi (by simp[Els.len]) ?_;conv=>whnf
  refine ze (decide_eq_true (by
   show((last.ents.map PEnt.cells).length+1)*40<=140737488355328;rw[List.length_map];omega)) ?_
  conv=>whnf
  refine ze (by simp;omega) ?_;conv=>whnf
  refine qR (inj (hdC last) ++ [V.sl 1000001 4 0 last.ents.length]) (by rw[Nat.zero_add,Int.toNat_natCast];simp[qI]) ?_;conv=>whnf
  rw[qdG];refine zM [117] (by
   show qJ (List.flatten (qB (init.map PBook.cells) ++ [inj (hdC last) ++ [V.sl 117 4 0 _]])) ++ []=_;rw[qU];rfl) ?_
  conv=>whnf
  generalize hee:(⟨jn t,2,.empty,0⟩:PEnt)=ee;have hlen:(last.ents ++ [ee]).length=(last.ents.map PEnt.cells).length+1:=by simp
  refine ql [117] [.agg [.d (i64 near),.sl 1000000 6 0 (init.length+1)],.d (.bool true)] (rwH 1000000 2000000 init { last with ents:=last.ents ++ [ee] }) rfl ⟨?_,?_,trivial⟩ rfl ⟨⟨rfl,rfl⟩,rfl⟩
  ·show some (Obj.arr 6 (.vv (qB (init.map PBook.cells) ++ [inj (hdC last) ++ [V.sl 117 4 0 ((last.ents.map PEnt.cells).length+1)]])))=some (qea (zg [117]) (.arr 6 (.vv (qB (init.map PBook.cells) ++ [inj (hdC last) ++ [.sl 2000000 4 0 (last.ents ++ [ee]).length]]))))
   rw[qt,hlen];rfl
  ·show _=some (Obj.arr 4 (.dd ((last.ents ++ [ee]).map PEnt.cells)))
   rw[<- hee,List.map_append];rfl
 ·refine jf mixed qk Tryz.func102 rfl (ft:=qdn) (args:=[.agg [.d (i64 near),.sl 1000000 6 0 (init.length+1)],.d (qbO [passW,t,x])]) (show fnB qdn Tryz.f102 2=true from by decide +kernel) ?_
  conv=>whnf
  refine qj (init.length:Int) (by omega) (qb (by omega)) ?_;conv=>whnf
  repeat' (first
   | (refine qf (qbM _) rfl rfl ?_;conv=>whnf)
   | (refine qn (qbM _) rfl 1 rfl ?_;conv=>whnf)
   | (refine qp (qbM _) rfl rfl ?_;conv=>whnf)
   | (refine qr (qbM _) rfl 1 rfl ?_;conv=>whnf)
   | (refine qd (qb (by(try dsimp only);omega)) ?_;conv=>whnf)
   | (refine qz (by assumption) ?_;conv=>whnf)
   | (refine qi (by first | rfl | assumption | (simp[Els.len];done) | (simp[Els.len];omega)) ?_;conv=>whnf)
   | (refine ze (by first | (exact decide_eq_true (by(try simp only[List.length_map]);omega)) | (simp[Els.len,Els.cons,V.cells,Els.toV,qB];done) | (simp[Els.len,Els.cons,V.cells,Els.toV,qB];omega)) ?_;conv=>whnf)
   | fail)
  rw[show qe (qC 117) (qe (qC 116) (qe (qC 7) (qe (qC 4) (qe (qC 2) (qB (init.map PBook.cells) ++ [inj (hdC last) ++ [V.sl 1000001 4 0 last.ents.length]])))))=qB (init.map PBook.cells) ++ [inj (hdC last) ++ [V.sl 1000001 4 0 last.ents.length]] from by rw[qa,qa,qa,qa,qa];rfl];refine qR (inj (hdC last) ++ [V.sl 1000001 4 0 last.ents.length]) (by rw[Nat.zero_add,Int.toNat_natCast];simp[qI]) ?_;conv=>whnf
  refine qi rfl ?_;conv=>whnf
  refine qi (by simp[Els.len]) ?_;conv=>whnf
  refine ze (decide_eq_true (by
   show((last.ents.map PEnt.cells).length+1)*40<=140737488355328;rw[List.length_map];omega)) ?_
  conv=>whnf
  refine ze (by simp;omega) ?_;conv=>whnf
  refine qR (inj (hdC last) ++ [V.sl 1000001 4 0 last.ents.length]) (by rw[Nat.zero_add,Int.toNat_natCast];simp[qI]) ?_;conv=>whnf
  rw[qdG];refine zM [117] (by
   show qJ (List.flatten (qB (init.map PBook.cells) ++ [inj (hdC last) ++ [V.sl 117 4 0 _]])) ++ []=_;rw[qU];rfl) ?_
  conv=>whnf
  generalize hee:(⟨jn t,1,x,0⟩:PEnt)=ee;have hlen:(last.ents ++ [ee]).length=(last.ents.map PEnt.cells).length+1:=by simp
  refine ql [117] [.agg [.d (i64 near),.sl 1000000 6 0 (init.length+1)],.d (.bool true)] (rwH 1000000 2000000 init { last with ents:=last.ents ++ [ee] }) rfl ⟨?_,?_,trivial⟩ rfl ⟨⟨rfl,rfl⟩,rfl⟩
  ·show some (Obj.arr 6 (.vv (qB (init.map PBook.cells) ++ [inj (hdC last) ++ [V.sl 117 4 0 ((last.ents.map PEnt.cells).length+1)]])))=some (qea (zg [117]) (.arr 6 (.vv (qB (init.map PBook.cells) ++ [inj (hdC last) ++ [.sl 2000000 4 0 (last.ents ++ [ee]).length]]))))
   rw[qt,hlen];rfl
  ·show _=some (Obj.arr 4 (.dd ((last.ents ++ [ee]).map PEnt.cells)))
   rw[<- hee,List.map_append];rfl
 ·refine jf mixed qk Tryz.func102 rfl (ft:=qdn) (args:=[.agg [.d (i64 near),.sl 1000000 6 0 (init.length+1)],.d (qbO [reportW,t,x,n])]) (show fnB qdn Tryz.f102 2=true from by decide +kernel) ?_
  conv=>whnf
  refine qj (init.length:Int) (by omega) (qb (by omega)) ?_;conv=>whnf
  repeat' (first
   | (refine qf (qbM _) rfl rfl ?_;conv=>whnf)
   | (refine qn (qbM _) rfl 1 rfl ?_;conv=>whnf)
   | (refine qp (qbM _) rfl rfl ?_;conv=>whnf)
   | (refine qr (qbM _) rfl 1 rfl ?_;conv=>whnf)
   | (refine qd (qb (by(try dsimp only);omega)) ?_;conv=>whnf)
   | (refine qz (by assumption) ?_;conv=>whnf)
   | (refine qi (by first | rfl | assumption | (simp[Els.len];done) | (simp[Els.len];omega)) ?_;conv=>whnf)
   | (refine ze (by first | (exact decide_eq_true (by(try simp only[List.length_map]);omega)) | (simp[Els.len,Els.cons,V.cells,Els.toV,qB];done) | (simp[Els.len,Els.cons,V.cells,Els.toV,qB];omega)) ?_;conv=>whnf)
   | fail)
  rw[show qe (qC 117) (qe (qC 116) (qe (qC 7) (qe (qC 4) (qe (qC 2) (qB (init.map PBook.cells) ++ [inj (hdC last) ++ [V.sl 1000001 4 0 last.ents.length]])))))=qB (init.map PBook.cells) ++ [inj (hdC last) ++ [V.sl 1000001 4 0 last.ents.length]] from by rw[qa,qa,qa,qa,qa];rfl];refine qR (inj (hdC last) ++ [V.sl 1000001 4 0 last.ents.length]) (by rw[Nat.zero_add,Int.toNat_natCast];simp[qI]) ?_;conv=>whnf
  refine qi rfl ?_;conv=>whnf
  refine qi (by simp[Els.len]) ?_;conv=>whnf
  refine ze (decide_eq_true (by
   show((last.ents.map PEnt.cells).length+1)*40<=140737488355328;rw[List.length_map];omega)) ?_
  conv=>whnf
  refine ze (by simp;omega) ?_;conv=>whnf
  refine qR (inj (hdC last) ++ [V.sl 1000001 4 0 last.ents.length]) (by rw[Nat.zero_add,Int.toNat_natCast];simp[qI]) ?_;conv=>whnf
  rw[qdG];refine zM [117] (by
   show qJ (List.flatten (qB (init.map PBook.cells) ++ [inj (hdC last) ++ [V.sl 117 4 0 _]])) ++ []=_;rw[qU];rfl) ?_
  conv=>whnf
  generalize hee:(⟨jn t,3,x,jn n⟩:PEnt)=ee;have hlen:(last.ents ++ [ee]).length=(last.ents.map PEnt.cells).length+1:=by simp
  refine ql [117] [.agg [.d (i64 near),.sl 1000000 6 0 (init.length+1)],.d (.bool true)] (rwH 1000000 2000000 init { last with ents:=last.ents ++ [ee] }) rfl ⟨?_,?_,trivial⟩ rfl ⟨⟨rfl,rfl⟩,rfl⟩
  ·show some (Obj.arr 6 (.vv (qB (init.map PBook.cells) ++ [inj (hdC last) ++ [V.sl 117 4 0 ((last.ents.map PEnt.cells).length+1)]])))=some (qea (zg [117]) (.arr 6 (.vv (qB (init.map PBook.cells) ++ [inj (hdC last) ++ [.sl 2000000 4 0 (last.ents ++ [ee]).length]]))))
   rw[qt,hlen];rfl
  ·show _=some (Obj.arr 4 (.dd ((last.ents ++ [ee]).map PEnt.cells)))
   rw[<- hee,List.map_append];rfl
theorem enR_none{k t:ByteArray}{r:List ByteArray}(h:enR (k::t::r)=none):¬ (k=passW/\r.length=1)/\¬ (k=setW/\r.length=0)/\¬ (k=reportW/\r.length=2):=by
 refine⟨?_,?_,?_⟩
 ·rintro ⟨rfl,h1⟩
  match r,h1 with
  | [x],_=>simp[enR]at h
 ·rintro ⟨rfl,h1⟩
  match r,h1 with
  | [],_=>simp[enR]at h
 ·rintro ⟨rfl,h1⟩
  match r,h1 with
  | [x,y],_=>simp[enR]at h
set_option maxHeartbeats 2000000 in
theorem row1_0(near:Int)(init:List PBook)(last:PBook)(w:List ByteArray)(hl:init.length<=100000)(hw:w.length<1000000)(hb:bkR w=none)(hE:enR w=none) :
  FnU Tryz.prog 102 [.agg [.d (i64 near),.sl 1000000 6 0 (init.length+1)],.d (qbO w)] (rwH 1000000 1000001 init last) fun v h'=>v = .tup [.agg [.d (i64 near),.sl 1000000 6 0 (init.length+1)],.d (.bool false)]/\h'=rwH 1000000 1000001 init last:=by
 intro σ Y st
 match w,hw,hb,hE with
 | [],_,_,_=>
  refine jf mixed qk Tryz.func102 rfl (ft:=qdn) (args:=[.agg [.d (i64 near),.sl 1000000 6 0 (init.length+1)],.d (qbO [])]) (show fnB qdn Tryz.f102 2=true from by decide +kernel) ?_;conv=>whnf
  refine qj (init.length:Int) (by omega) (qb (by omega)) ?_;conv=>whnf
  refine ql [] [.agg [.d (i64 near),.sl 1000000 6 0 (init.length+1)],.d (.bool false)] (rwH 1000000 1000001 init last) rfl ⟨(by first | (show some (Obj.arr 6 (.vv (qe _ (qe _ (qe _ (qB _++_))))))=_;rw[qa,qa,qa];exact(congrArg some (qt (zg []) (init.map PBook.cells) last 1000001 last.ents.length)).symm) | (show some (Obj.arr 6 (.vv (qe _ (qe _ (qB _++_)))))=_;rw[qa,qa];exact(congrArg some (qt (zg []) (init.map PBook.cells) last 1000001 last.ents.length)).symm)),rfl,trivial⟩ rfl ⟨⟨rfl,rfl⟩,rfl⟩
 | [k],_,_,_=>
  refine jf mixed qk Tryz.func102 rfl (ft:=qdn) (args:=[.agg [.d (i64 near),.sl 1000000 6 0 (init.length+1)],.d (qbO [k])]) (show fnB qdn Tryz.f102 2=true from by decide +kernel) ?_;conv=>whnf
  refine qj (init.length:Int) (by omega) (qb (by omega)) ?_;conv=>whnf
  refine ql [] [.agg [.d (i64 near),.sl 1000000 6 0 (init.length+1)],.d (.bool false)] (rwH 1000000 1000001 init last) rfl ⟨(by first | (show some (Obj.arr 6 (.vv (qe _ (qe _ (qe _ (qB _++_))))))=_;rw[qa,qa,qa];exact(congrArg some (qt (zg []) (init.map PBook.cells) last 1000001 last.ents.length)).symm) | (show some (Obj.arr 6 (.vv (qe _ (qe _ (qB _++_)))))=_;rw[qa,qa];exact(congrArg some (qt (zg []) (init.map PBook.cells) last 1000001 last.ents.length)).symm)),rfl,trivial⟩ rfl ⟨⟨rfl,rfl⟩,rfl⟩
 | k::t::r,hw,hb,hE=>
  obtain⟨e1,e2,e3⟩:=enR_none hE;refine jf mixed qk Tryz.func102 rfl (ft:=qdn) (args:=[.agg [.d (i64 near),.sl 1000000 6 0 (init.length+1)],.d (qbO (k::t::r))]) (show fnB qdn Tryz.f102 2=true from by decide +kernel) ?_;conv=>whnf
  refine qj (init.length:Int) (by omega) (qb (by omega)) ?_;conv=>whnf
  refine qg (fun h6=>?_) (fun h6=>?_)
  ·have h6:(k::t::r).length=6:=by have:=of_decide_eq_true h6;simp at this;simp;omega
   obtain⟨k',hk,hkb⟩:=qmO hb h6
   cases hk
   conv=>whnf
   refine qg (fun h=>absurd (of_decide_eq_true h) hkb) (fun _=>?_);conv=>whnf
   refine qf (ds:=[.str t]) (qbM t) rfl rfl ?_;conv=>whnf
   refine qg (fun h1=>?_) (fun h1=>?_)
   ·have h1:k=passW:=of_decide_eq_true h1
    conv=>whnf
    refine qg (fun h2=>absurd ⟨h1,by have:=of_decide_eq_true h2;simp at this;omega⟩ e1) (fun _=>?_);conv=>whnf
    refine qg (fun h3=>?_) (fun h3=>?_)
    ·have h3:k=setW:=of_decide_eq_true h3
     conv=>whnf
     refine qg (fun h4=>absurd ⟨h3,by have:=of_decide_eq_true h4;simp at this;omega⟩ e2) (fun _=>?_);conv=>whnf
     refine qg (fun h5=>?_) (fun h5=>?_)
     ·have h5:k=reportW:=of_decide_eq_true h5
      conv=>whnf
      refine qg (fun h6=>absurd ⟨h5,by have:=of_decide_eq_true h6;simp at this;omega⟩ e3) (fun _=>?_);conv=>whnf
      refine ql [] [.agg [.d (i64 near),.sl 1000000 6 0 (init.length+1)],.d (.bool false)] (rwH 1000000 1000001 init last) rfl ⟨(by first | (show some (Obj.arr 6 (.vv (qe _ (qe _ (qe _ (qB _++_))))))=_;rw[qa,qa,qa];exact(congrArg some (qt (zg []) (init.map PBook.cells) last 1000001 last.ents.length)).symm) | (show some (Obj.arr 6 (.vv (qe _ (qe _ (qB _++_)))))=_;rw[qa,qa];exact(congrArg some (qt (zg []) (init.map PBook.cells) last 1000001 last.ents.length)).symm)),rfl,trivial⟩ rfl ⟨⟨rfl,rfl⟩,rfl⟩
     ·conv=>whnf
      refine ql [] [.agg [.d (i64 near),.sl 1000000 6 0 (init.length+1)],.d (.bool false)] (rwH 1000000 1000001 init last) rfl ⟨(by first | (show some (Obj.arr 6 (.vv (qe _ (qe _ (qe _ (qB _++_))))))=_;rw[qa,qa,qa];exact(congrArg some (qt (zg []) (init.map PBook.cells) last 1000001 last.ents.length)).symm) | (show some (Obj.arr 6 (.vv (qe _ (qe _ (qB _++_)))))=_;rw[qa,qa];exact(congrArg some (qt (zg []) (init.map PBook.cells) last 1000001 last.ents.length)).symm)),rfl,trivial⟩ rfl ⟨⟨rfl,rfl⟩,rfl⟩
    ·conv=>whnf
     refine qg (fun h5=>?_) (fun h5=>?_)
     ·have h5:k=reportW:=of_decide_eq_true h5
      conv=>whnf
      refine qg (fun h6=>absurd ⟨h5,by have:=of_decide_eq_true h6;simp at this;omega⟩ e3) (fun _=>?_);conv=>whnf
      refine ql [] [.agg [.d (i64 near),.sl 1000000 6 0 (init.length+1)],.d (.bool false)] (rwH 1000000 1000001 init last) rfl ⟨(by first | (show some (Obj.arr 6 (.vv (qe _ (qe _ (qe _ (qB _++_))))))=_;rw[qa,qa,qa];exact(congrArg some (qt (zg []) (init.map PBook.cells) last 1000001 last.ents.length)).symm) | (show some (Obj.arr 6 (.vv (qe _ (qe _ (qB _++_)))))=_;rw[qa,qa];exact(congrArg some (qt (zg []) (init.map PBook.cells) last 1000001 last.ents.length)).symm)),rfl,trivial⟩ rfl ⟨⟨rfl,rfl⟩,rfl⟩
     ·conv=>whnf
      refine ql [] [.agg [.d (i64 near),.sl 1000000 6 0 (init.length+1)],.d (.bool false)] (rwH 1000000 1000001 init last) rfl ⟨(by first | (show some (Obj.arr 6 (.vv (qe _ (qe _ (qe _ (qB _++_))))))=_;rw[qa,qa,qa];exact(congrArg some (qt (zg []) (init.map PBook.cells) last 1000001 last.ents.length)).symm) | (show some (Obj.arr 6 (.vv (qe _ (qe _ (qB _++_)))))=_;rw[qa,qa];exact(congrArg some (qt (zg []) (init.map PBook.cells) last 1000001 last.ents.length)).symm)),rfl,trivial⟩ rfl ⟨⟨rfl,rfl⟩,rfl⟩
   ·conv=>whnf
    refine qg (fun h3=>?_) (fun h3=>?_)
    ·have h3:k=setW:=of_decide_eq_true h3
     conv=>whnf
     refine qg (fun h4=>absurd ⟨h3,by have:=of_decide_eq_true h4;simp at this;omega⟩ e2) (fun _=>?_);conv=>whnf
     refine qg (fun h5=>?_) (fun h5=>?_)
     ·have h5:k=reportW:=of_decide_eq_true h5
      conv=>whnf
      refine qg (fun h6=>absurd ⟨h5,by have:=of_decide_eq_true h6;simp at this;omega⟩ e3) (fun _=>?_);conv=>whnf
      refine ql [] [.agg [.d (i64 near),.sl 1000000 6 0 (init.length+1)],.d (.bool false)] (rwH 1000000 1000001 init last) rfl ⟨(by first | (show some (Obj.arr 6 (.vv (qe _ (qe _ (qe _ (qB _++_))))))=_;rw[qa,qa,qa];exact(congrArg some (qt (zg []) (init.map PBook.cells) last 1000001 last.ents.length)).symm) | (show some (Obj.arr 6 (.vv (qe _ (qe _ (qB _++_)))))=_;rw[qa,qa];exact(congrArg some (qt (zg []) (init.map PBook.cells) last 1000001 last.ents.length)).symm)),rfl,trivial⟩ rfl ⟨⟨rfl,rfl⟩,rfl⟩
     ·conv=>whnf
      refine ql [] [.agg [.d (i64 near),.sl 1000000 6 0 (init.length+1)],.d (.bool false)] (rwH 1000000 1000001 init last) rfl ⟨(by first | (show some (Obj.arr 6 (.vv (qe _ (qe _ (qe _ (qB _++_))))))=_;rw[qa,qa,qa];exact(congrArg some (qt (zg []) (init.map PBook.cells) last 1000001 last.ents.length)).symm) | (show some (Obj.arr 6 (.vv (qe _ (qe _ (qB _++_)))))=_;rw[qa,qa];exact(congrArg some (qt (zg []) (init.map PBook.cells) last 1000001 last.ents.length)).symm)),rfl,trivial⟩ rfl ⟨⟨rfl,rfl⟩,rfl⟩
    ·conv=>whnf
     refine qg (fun h5=>?_) (fun h5=>?_)
     ·have h5:k=reportW:=of_decide_eq_true h5
      conv=>whnf
      refine qg (fun h6=>absurd ⟨h5,by have:=of_decide_eq_true h6;simp at this;omega⟩ e3) (fun _=>?_);conv=>whnf
      refine ql [] [.agg [.d (i64 near),.sl 1000000 6 0 (init.length+1)],.d (.bool false)] (rwH 1000000 1000001 init last) rfl ⟨(by first | (show some (Obj.arr 6 (.vv (qe _ (qe _ (qe _ (qB _++_))))))=_;rw[qa,qa,qa];exact(congrArg some (qt (zg []) (init.map PBook.cells) last 1000001 last.ents.length)).symm) | (show some (Obj.arr 6 (.vv (qe _ (qe _ (qB _++_)))))=_;rw[qa,qa];exact(congrArg some (qt (zg []) (init.map PBook.cells) last 1000001 last.ents.length)).symm)),rfl,trivial⟩ rfl ⟨⟨rfl,rfl⟩,rfl⟩
     ·conv=>whnf
      refine ql [] [.agg [.d (i64 near),.sl 1000000 6 0 (init.length+1)],.d (.bool false)] (rwH 1000000 1000001 init last) rfl ⟨(by first | (show some (Obj.arr 6 (.vv (qe _ (qe _ (qe _ (qB _++_))))))=_;rw[qa,qa,qa];exact(congrArg some (qt (zg []) (init.map PBook.cells) last 1000001 last.ents.length)).symm) | (show some (Obj.arr 6 (.vv (qe _ (qe _ (qB _++_)))))=_;rw[qa,qa];exact(congrArg some (qt (zg []) (init.map PBook.cells) last 1000001 last.ents.length)).symm)),rfl,trivial⟩ rfl ⟨⟨rfl,rfl⟩,rfl⟩
  ·conv=>whnf
   refine qf (ds:=[.str t]) (qbM t) rfl rfl ?_;conv=>whnf
   refine qg (fun h1=>?_) (fun h1=>?_)
   ·have h1:k=passW:=of_decide_eq_true h1
    conv=>whnf
    refine qg (fun h2=>absurd ⟨h1,by have:=of_decide_eq_true h2;simp at this;omega⟩ e1) (fun _=>?_);conv=>whnf
    refine qg (fun h3=>?_) (fun h3=>?_)
    ·have h3:k=setW:=of_decide_eq_true h3
     conv=>whnf
     refine qg (fun h4=>absurd ⟨h3,by have:=of_decide_eq_true h4;simp at this;omega⟩ e2) (fun _=>?_);conv=>whnf
     refine qg (fun h5=>?_) (fun h5=>?_)
     ·have h5:k=reportW:=of_decide_eq_true h5
      conv=>whnf
      refine qg (fun h6=>absurd ⟨h5,by have:=of_decide_eq_true h6;simp at this;omega⟩ e3) (fun _=>?_);conv=>whnf
      refine ql [] [.agg [.d (i64 near),.sl 1000000 6 0 (init.length+1)],.d (.bool false)] (rwH 1000000 1000001 init last) rfl ⟨(by first | (show some (Obj.arr 6 (.vv (qe _ (qe _ (qe _ (qB _++_))))))=_;rw[qa,qa,qa];exact(congrArg some (qt (zg []) (init.map PBook.cells) last 1000001 last.ents.length)).symm) | (show some (Obj.arr 6 (.vv (qe _ (qe _ (qB _++_)))))=_;rw[qa,qa];exact(congrArg some (qt (zg []) (init.map PBook.cells) last 1000001 last.ents.length)).symm)),rfl,trivial⟩ rfl ⟨⟨rfl,rfl⟩,rfl⟩
     ·conv=>whnf
      refine ql [] [.agg [.d (i64 near),.sl 1000000 6 0 (init.length+1)],.d (.bool false)] (rwH 1000000 1000001 init last) rfl ⟨(by first | (show some (Obj.arr 6 (.vv (qe _ (qe _ (qe _ (qB _++_))))))=_;rw[qa,qa,qa];exact(congrArg some (qt (zg []) (init.map PBook.cells) last 1000001 last.ents.length)).symm) | (show some (Obj.arr 6 (.vv (qe _ (qe _ (qB _++_)))))=_;rw[qa,qa];exact(congrArg some (qt (zg []) (init.map PBook.cells) last 1000001 last.ents.length)).symm)),rfl,trivial⟩ rfl ⟨⟨rfl,rfl⟩,rfl⟩
    ·conv=>whnf
     refine qg (fun h5=>?_) (fun h5=>?_)
     ·have h5:k=reportW:=of_decide_eq_true h5
      conv=>whnf
      refine qg (fun h6=>absurd ⟨h5,by have:=of_decide_eq_true h6;simp at this;omega⟩ e3) (fun _=>?_);conv=>whnf
      refine ql [] [.agg [.d (i64 near),.sl 1000000 6 0 (init.length+1)],.d (.bool false)] (rwH 1000000 1000001 init last) rfl ⟨(by first | (show some (Obj.arr 6 (.vv (qe _ (qe _ (qe _ (qB _++_))))))=_;rw[qa,qa,qa];exact(congrArg some (qt (zg []) (init.map PBook.cells) last 1000001 last.ents.length)).symm) | (show some (Obj.arr 6 (.vv (qe _ (qe _ (qB _++_)))))=_;rw[qa,qa];exact(congrArg some (qt (zg []) (init.map PBook.cells) last 1000001 last.ents.length)).symm)),rfl,trivial⟩ rfl ⟨⟨rfl,rfl⟩,rfl⟩
     ·conv=>whnf
      refine ql [] [.agg [.d (i64 near),.sl 1000000 6 0 (init.length+1)],.d (.bool false)] (rwH 1000000 1000001 init last) rfl ⟨(by first | (show some (Obj.arr 6 (.vv (qe _ (qe _ (qe _ (qB _++_))))))=_;rw[qa,qa,qa];exact(congrArg some (qt (zg []) (init.map PBook.cells) last 1000001 last.ents.length)).symm) | (show some (Obj.arr 6 (.vv (qe _ (qe _ (qB _++_)))))=_;rw[qa,qa];exact(congrArg some (qt (zg []) (init.map PBook.cells) last 1000001 last.ents.length)).symm)),rfl,trivial⟩ rfl ⟨⟨rfl,rfl⟩,rfl⟩
   ·conv=>whnf
    refine qg (fun h3=>?_) (fun h3=>?_)
    ·have h3:k=setW:=of_decide_eq_true h3
     conv=>whnf
     refine qg (fun h4=>absurd ⟨h3,by have:=of_decide_eq_true h4;simp at this;omega⟩ e2) (fun _=>?_);conv=>whnf
     refine qg (fun h5=>?_) (fun h5=>?_)
     ·have h5:k=reportW:=of_decide_eq_true h5
      conv=>whnf
      refine qg (fun h6=>absurd ⟨h5,by have:=of_decide_eq_true h6;simp at this;omega⟩ e3) (fun _=>?_);conv=>whnf
      refine ql [] [.agg [.d (i64 near),.sl 1000000 6 0 (init.length+1)],.d (.bool false)] (rwH 1000000 1000001 init last) rfl ⟨(by first | (show some (Obj.arr 6 (.vv (qe _ (qe _ (qe _ (qB _++_))))))=_;rw[qa,qa,qa];exact(congrArg some (qt (zg []) (init.map PBook.cells) last 1000001 last.ents.length)).symm) | (show some (Obj.arr 6 (.vv (qe _ (qe _ (qB _++_)))))=_;rw[qa,qa];exact(congrArg some (qt (zg []) (init.map PBook.cells) last 1000001 last.ents.length)).symm)),rfl,trivial⟩ rfl ⟨⟨rfl,rfl⟩,rfl⟩
     ·conv=>whnf
      refine ql [] [.agg [.d (i64 near),.sl 1000000 6 0 (init.length+1)],.d (.bool false)] (rwH 1000000 1000001 init last) rfl ⟨(by first | (show some (Obj.arr 6 (.vv (qe _ (qe _ (qe _ (qB _++_))))))=_;rw[qa,qa,qa];exact(congrArg some (qt (zg []) (init.map PBook.cells) last 1000001 last.ents.length)).symm) | (show some (Obj.arr 6 (.vv (qe _ (qe _ (qB _++_)))))=_;rw[qa,qa];exact(congrArg some (qt (zg []) (init.map PBook.cells) last 1000001 last.ents.length)).symm)),rfl,trivial⟩ rfl ⟨⟨rfl,rfl⟩,rfl⟩
    ·conv=>whnf
     refine qg (fun h5=>?_) (fun h5=>?_)
     ·have h5:k=reportW:=of_decide_eq_true h5
      conv=>whnf
      refine qg (fun h6=>absurd ⟨h5,by have:=of_decide_eq_true h6;simp at this;omega⟩ e3) (fun _=>?_);conv=>whnf
      refine ql [] [.agg [.d (i64 near),.sl 1000000 6 0 (init.length+1)],.d (.bool false)] (rwH 1000000 1000001 init last) rfl ⟨(by first | (show some (Obj.arr 6 (.vv (qe _ (qe _ (qe _ (qB _++_))))))=_;rw[qa,qa,qa];exact(congrArg some (qt (zg []) (init.map PBook.cells) last 1000001 last.ents.length)).symm) | (show some (Obj.arr 6 (.vv (qe _ (qe _ (qB _++_)))))=_;rw[qa,qa];exact(congrArg some (qt (zg []) (init.map PBook.cells) last 1000001 last.ents.length)).symm)),rfl,trivial⟩ rfl ⟨⟨rfl,rfl⟩,rfl⟩
     ·conv=>whnf
      refine ql [] [.agg [.d (i64 near),.sl 1000000 6 0 (init.length+1)],.d (.bool false)] (rwH 1000000 1000001 init last) rfl ⟨(by first | (show some (Obj.arr 6 (.vv (qe _ (qe _ (qe _ (qB _++_))))))=_;rw[qa,qa,qa];exact(congrArg some (qt (zg []) (init.map PBook.cells) last 1000001 last.ents.length)).symm) | (show some (Obj.arr 6 (.vv (qe _ (qe _ (qB _++_)))))=_;rw[qa,qa];exact(congrArg some (qt (zg []) (init.map PBook.cells) last 1000001 last.ents.length)).symm)),rfl,trivial⟩ rfl ⟨⟨rfl,rfl⟩,rfl⟩
end Go.PX
namespace Go.PX
open Go.Proofs
def qbd:PLog->List ByteArray->Option PLog
 | c,x::y::r=>match rwR c (qP 32 x) with
  | some c'=>qbd c' (y::r)
  | none=>none
 | c,_=>some c
def qnf(l:List ByteArray):Option Int:=match l with
 | h::_=>match qP 32 h with
  | [_,n]=>some (jn n)
  | _=>none
 | []=>none
def qmP(s:ByteArray):Option PLog:=match qnf (qP 10 s) with
 | some n=>qbd ⟨n,[]⟩ (qP 10 s).tail
 | none=>none
def qlH(s:ByteArray):PLog×Int:=
 if 1500<s.size then (qmJ,3) else match qmP s with
 | some c=>if qD c=0/\qcK c=s then (c,0) else (qmJ,6)
 | none=>(qmJ,6)
def pcs(z:List UInt8):List ByteArray:=(zb 10 z).map fun l=>⟨l.toArray⟩
theorem qoo{l:List Wd}(h:qdS l)(z:List UInt8):pcs (qaM l++10::z)=⟨(qaM l).toArray⟩::pcs z:=by
 unfold pcs;rw[qkU 10 _ _ (qfv h)];rfl
theorem pcs_ne(z:List UInt8):∃ y r,pcs z=y::r:=by
 unfold pcs;have:=qeS 10 z
 cases h:zb 10 z with
 | nil=>exact absurd h this
 | cons a t=>exact⟨_,_,rfl⟩
theorem qkX{c c':PLog}{w:Wd}{r:List Wd}(z:List UInt8)(h:qdS (w::r))(ht:rwR c ((w::r).map Wd.b)=some c'):qbd c (pcs (qaM (w::r)++10::z))=qbd c' (pcs z):=by
 rw[qoo h];obtain⟨y,q,hz⟩:=pcs_ne z;rw[hz,qbd,qfw h,ht]
structure SmallB(b:PBook):Prop where
 w:BookW b
 ol : -999999<=b.off.lo/\b.off.lo<=999999
 oh : -999999<=b.off.hi/\b.off.hi<=999999
 sl : -999999<=b.set.lo/\b.set.lo<=999999
 sh : -999999<=b.set.hi/\b.set.hi<=999999
 en:∀ x∈b.ents,(-999999<=x.shown/\x.shown<=999999)/\(-999999<=x.number/\x.number<=999999)
theorem rw_book{l:PLog}{b:PBook}(h:SmallB b):rwR l ((qar b).map Wd.b)=some { l with books:=l.books ++ [{ b with ents:=[] }] }:=by
 show rwR l [bookW,b.name,ja b.off.lo,ja b.off.hi,ja b.set.lo,ja b.set.hi]=_;unfold rwR bkR;simp only[if_pos,qbc h.ol,qbc h.oh,qbc h.sl,qbc h.sh]
theorem rw_ent{n:Int}{init:List PBook}{b:PBook}{x:PEnt}(h:EntW x)(hs : -999999<=x.shown/\x.shown<=999999)(hn : -999999<=x.number/\x.number<=999999):rwR ⟨n,init ++ [b]⟩ ((qbE x).map Wd.b)=some ⟨n,init ++ [{ b with ents:=b.ents ++ [x] }]⟩:=by
 have hne:(⟨n,init ++ [b]⟩:PLog).books ≠ []:=by simp
 obtain⟨sh,kd,wd,no⟩:=x;simp only at hs hn;unfold qbE
 rcases h.kind with⟨h1,h2,h3⟩ | ⟨h1,h2,h3⟩ | ⟨h1,h2⟩
 ·simp only at h1 h2 h3
  subst h1 h3;show rwR _ [passW,ja sh,wd]=_;unfold rwR bkR enR;simp only[if_neg hne,if_pos,qbc hs,Option.map_some];rw[qas]
 ·simp only at h1 h2 h3
  subst h1 h2 h3;show rwR _ [setW,ja sh]=_;unfold rwR bkR enR;simp only[if_neg hne,if_pos,qbc hs,Option.map_some];rw[qas]
 ·simp only at h1 h2
  subst h1;show rwR _ [reportW,ja sh,wd,ja no]=_;unfold rwR bkR enR;simp only[if_neg hne,if_pos,qbc hs,qbc hn,Option.map_some];rw[qas]
theorem qkY{n:Int}{init:List PBook}:∀ (r:List PEnt) (b:PBook) (z:List UInt8),(∀ x∈r,EntW x/\(-999999<=x.shown/\x.shown<=999999)/\(-999999<=x.number/\x.number<=999999))->qbd ⟨n,init ++ [b]⟩ (pcs ((qbF r).data.toList++z))=qbd ⟨n,init ++ [{ b with ents:=b.ents++r }]⟩ (pcs z)
 | [],b,z,_=>by
  show qbd _ (pcs ([]++z))=_;rw[List.append_nil];rfl
 | x::r,b,z,h=>by
  obtain⟨hx,hs,hn⟩:=h x (List.mem_cons_self ..);have ih:=qkY (n:=n) (init:=init) r { b with ents:=b.ents ++ [x] } z fun q hq=>h q (List.mem_cons_of_mem _ hq);obtain⟨w,q,hw⟩:=qmK x;have hc:=qhD hx;have ht:=rw_ent (n:=n) (init:=init) (b:=b) hx hs hn;rw[qbF];simp only[ByteArray.data_append,Array.toList_append,qdI,List.append_assoc];rw[hw]at hc ht ⊢;show qbd _ (pcs (qaM (w::q)++10::((qbF r).data.toList++z)))=_;rw[qkX _ hc ht,ih];simp
theorem qiS{n:Int}:∀ (bs init:List PBook) (z:List UInt8),(∀ b∈bs,SmallB b)->qbd ⟨n,init⟩ (pcs ((jy bs).data.toList++z))=qbd ⟨n,init++bs⟩ (pcs z)
 | [],init,z,_=>by
  show qbd _ (pcs ([]++z))=_;rw[List.append_nil];rfl
 | b::r,init,z,h=>by
  have hb:=h b (List.mem_cons_self ..);have ih:=qiS (n:=n) r (init ++ [b]) z fun q hq=>h q (List.mem_cons_of_mem _ hq);have hc:=qfQ hb.w;have ht:=rw_book (l:=⟨n,init⟩) hb;rw[jy,qen];simp only[ByteArray.data_append,Array.toList_append,qdI,List.append_assoc];show qbd _ (pcs (qaM (qar b)++10::((qbF b.ents).data.toList++((jy r).data.toList++z))))=_;refine(qkX _ hc ht).trans ?_;simp only;rw[qkY b.ents _ _ fun x hx=>⟨hb.w.ents x hx,hb.en x hx⟩];show qbd ⟨n,init ++ [{ b with ents:=[]++b.ents }]⟩ _=_;rw[List.nil_append];show qbd ⟨n,init ++ [b]⟩ _=_;rw[ih];simp
theorem check_small{l:PLog}(h:qD l=0):∀ b∈l.books,SmallB b:=by
 intro b hb;have hR:=(zD h).book b hb;have ho:=hR.off;have hs:=hR.set;refine⟨qjJ h b hb,by omega,by omega,by omega,by omega,fun x hx=>?_⟩;have:=hR.ent x hx;omega
theorem parS_text{l:PLog}(h:qD l=0):qmP (qcK l)=some l:=by
 have hR:=zD h;have hn:=hR.near;have e:(qcK l).data.toList=qaM [.s nearW,.n l.near]++10::((jy l.books).data.toList ++ []):=by
  rw[qcK];simp only[ByteArray.data_append,Array.toList_append,qdI,List.append_assoc,List.append_nil];rfl
 have hc:qdS [.s nearW,.n l.near]:=by
  intro w hw;simp only[List.mem_cons,List.not_mem_nil,or_false]at hw
  rcases hw with rfl | rfl
  ·exact qhC
  ·exact qbJ _
 have hp:qP 10 (qcK l)=⟨(qaM [.s nearW,.n l.near]).toArray⟩::pcs ((jy l.books).data.toList ++ []):=by
  show pcs (qcK l).data.toList=_;rw[e,qoo hc]
 unfold qmP;rw[hp];unfold qnf;simp only[qfw hc,List.map_cons,List.map_nil,List.tail_cons];show qbd ⟨jn (ja l.near),[]⟩ _=_;rw[qbc (by omega),qiS l.books [] [] (check_small h)];rfl
theorem readS_eq(s:ByteArray):qlH s=qaj s:=by
 unfold qlH
 by_cases h3:1500<s.size
 ·rw[if_pos h3];unfold qaj;rw[if_pos h3]
 rw[if_neg h3]
 by_cases hx:(qaj s).2=0
 ·obtain⟨h1,h2⟩:=qiQ hx
  have h4:=parS_text h1;rw[h2]at h4;rw[h4];simp only[h1,h2,and_self,if_pos];rw[<- hx]
 ·have hb:=qkT hx
  have h6:qaj s=(qmJ,6):=by
   unfold qaj at hx ⊢;rw[if_neg h3]at hx ⊢
   cases hr:jK s.data.toList with
   | none=>rfl
   | some c=>
    rw[hr]at hx;simp only at hx ⊢
    split
    ·rename_i h5;rw[if_pos h5]at hx;exact absurd rfl hx
    ·rfl
  rw[h6]
  cases hp:qmP s with
  | none=>rfl
  | some c=>
   simp only
   by_cases h5:qD c=0/\qcK c=s
   ·have:=read_write h5.1
    rw[h5.2]at this;rw[this]at hx;exact absurd rfl hx
   ·rw[if_neg h5]
end Go.PX
namespace Go.PX
open Go.Proofs
open Go.RowKit
def rsH(near:Int)(o:Option (List PBook×PBook)):Heap:=match o with
 | none=>[(2,.box (.dd [i64 0,.nils])),(6,.box (.dd [i64 near,.nils]))]
 | some x=>(2,.box (.dd [i64 0,.nils]))::(6,.box (.vv [.d (i64 near),.sl 900001 6 0 (x.1.length+1)]))::rwH 900001 900002 x.1 x.2
theorem headS_two{L q:List ByteArray}{h k n:ByteArray}(hL:L=h::q)(hw:qP 32 h = [k,n]):qnf L=some (jn n):=by
 subst hL;unfold qnf;simp only[hw]
theorem headS_not{L q:List ByteArray}{h:ByteArray}(hL:L=h::q)(hw:(qP 32 h).length≠2):qnf L=none:=by
 subst hL
 show(match qP 32 h with
  | [_,n]=>some (jn n)
  | _=>none)=none
 split
 ·rename_i e
  rw[e]at hw;exact absurd rfl hw
 ·rfl
theorem qkZ(c:PLog){l:List ByteArray}(h:l.length<=1):qbd c l=some c:=by
 match l,h with
 | [],_=>rfl
 | [x],_=>rfl
theorem qmQ(c:PLog){L:List ByteArray}{i:Nat}{x:ByteArray}(hx:L[i]?=some x)(h:i+1<L.length):qbd c (L.drop i)=match rwR c (qP 32 x) with
  | some c'=>qbd c' (L.drop (i+1))
  | none=>none:=by
 obtain⟨hi,e⟩:=List.getElem?_eq_some_iff.1 hx;rw[List.drop_eq_getElem_cons hi,List.drop_eq_getElem_cons h,e,qbd]
 all_goals (cases rwR c (qP 32 x)<;>rfl)
theorem qla(i j:Nat)(init:List PBook)(last:PBook):zk (rwH i j init last) = [i,j,j]:=by
 show i::(qJ (List.flatten (qB (init.map PBook.cells) ++ [inj (hdC last) ++ [V.sl j 4 0 last.ents.length]])) ++ [j])=_;rw[qU];rfl
theorem rwH_callBn(near:Int)(n:Nat)(init:List PBook)(last:PBook):qav [900001,900002] (some 46) (.tup [.agg [.d (i64 near),.sl 1000000 6 0 n],.d (.bool true)]) (rwH 1000000 2000000 init last)=true:=by
 unfold qav;rw[qla];rfl
theorem rwH_callB2(near:Int)(n:Nat)(init:List PBook)(last:PBook):qav [900001,900002] (some 46) (.tup [.agg [.d (i64 near),.sl 1000000 6 0 n],.d (.bool false)]) (rwH 1000000 1000001 init last)=true:=by
 unfold qav;rw[qla];rfl
theorem pa18n(near:Int):∃ e,e≠0/\qD ⟨near,[]⟩=e/\FnV Tryz.prog 18 [.agg [i64 near,.nils]] (.tup [i64 0,i64 0,i64 e]):=by
 cases h0:inB near 0 60 with
 | false=>
  refine⟨7,by decide,by unfold qD jI qca;rw[h0];rfl,?_⟩;show FnV Tryz.prog 18 [.agg [i64 near,.nils]] _;refine qF mixed qk Tryz.func18 rfl (ft:=qqB) 1 (by decide +kernel) (by rfl) fun {σ} Y st=>?_;conv=>whnf
  refine qf (ds:=[i64 near,i64 0,i64 60]) (FnV.cast (qoA near 0 60) (by rw[h0])) rfl rfl ?_;conv=>whnf
  exact qc 0 rfl ⟨⟨rfl,rfl⟩,rfl⟩
 | true=>
  refine⟨3,by decide,by unfold qD jI qca;rw[h0];rfl,?_⟩;show FnV Tryz.prog 18 [.agg [i64 near,.nils]] _;refine qF mixed qk Tryz.func18 rfl (ft:=qqB) 1 (by decide +kernel) (by rfl) fun {σ} Y st=>?_;conv=>whnf
  refine qf (ds:=[i64 near,i64 0,i64 60]) (FnV.cast (qoA near 0 60) (by rw[h0])) rfl rfl ?_;conv=>whnf
  refine qf (ds:=[i64 0,i64 1,i64 3]) (FnV.cast (qoA 0 1 3) (r':=.bool false) rfl) rfl rfl ?_;conv=>whnf
  exact qc 0 rfl ⟨⟨rfl,rfl⟩,rfl⟩
theorem qgf(d:Nat)(h:Heap):∀ (A:List (List D)) (r:List (List V)),(qB A++r).flatMap (fun e=>e.flatMap (qlO (d+1) h))=r.flatMap fun e=>e.flatMap (qlO (d+1) h)
 | [],r=>rfl
 | a::A,r=>by
  show List.flatMap _ (inj a::(qB A++r))=_;rw[List.flatMap_cons,qgf d h A r];have:∀ l:List D,(inj l).flatMap (qlO (d+1) h) = []:=by
   intro l
   induction l with
   | nil=>rfl
   | cons x l ih=>
    show List.flatMap _ (V.d x::inj l)=_;rw[List.flatMap_cons,ih];rfl
  rw[this];rfl
theorem qop{h:Heap}{init:List PBook}{last:PBook}(h1:get h 900001=some (.arr 6 (.vv (qB (init.map PBook.cells) ++ [inj (hdC last) ++ [.sl 900002 4 0 last.ents.length]]))))(h2:get h 900002=some (.arr 4 (.dd (last.ents.map PEnt.cells)))) :
  qbs (jP [900001,900002] ((some 46).getD 0)) h 1000000 [900001,900002] (rwH 1000000 1000001 init last):=
 ⟨_,_,rfl,h1.trans (congrArg some (qt (jP [900001,900002] 46) (init.map PBook.cells) last 1000001 last.ents.length)).symm,_,_,rfl,h2,rfl⟩
def ft42m:FT:=⟨ft42.ks,[(11,⟨[8,102944],[⟨[6],[]⟩,⟨[4],[0]⟩,⟨[7],[0,1]⟩,⟨[41,42],[0]⟩,⟨[43],[0]⟩,⟨[44],[0]⟩,⟨[40,45],[]⟩,⟨[46],[]⟩,⟨[39],[]⟩,⟨[39],[8]⟩,⟨[],[0,1,2,3,4,5,6,7,8,9]⟩,⟨[8,47],[9]⟩,⟨[48],[]⟩]⟩)]⟩
set_option maxHeartbeats 4000000 in
theorem qqg(s:ByteArray)(r:D)(h3:1500<s.size->r=qco 3)(h6:s.size<=1500->qmP s=none->r=qco 6)
  (h7:s.size<=1500 -> ∀ c,qmP s=some c->((qD c=0/\qcK c=s)->r = .tup [c.d,i64 0])/\(¬ (qD c=0/\qcK c=s)->r=qco 6)):FnV Tryz.prog 42 [.str s] r:=by
 show FnV Tryz.prog 42 [.str s] _;refine qF mixed qk Tryz.func42 rfl (ft:=ft42m) 1 (by decide +kernel) (by rfl) fun {σ} Y st=>?_;conv=>whnf
 refine qg (fun hb=>?_) (fun hb=>?_)
 ·have h0:=h3 (by have:=of_decide_eq_true hb;omega)
  subst h0;conv=>whnf
  exact qc 0 rfl ⟨⟨rfl,rfl⟩,rfl⟩
 have hs4:s.size<=1500:=by have:=of_decide_eq_false hb;omega
 have h6:=h6 hs4;have h7:=h7 hs4
 have hpar:qmP s=match qnf (qP 10 s) with
  | some n=>qbd ⟨n,[]⟩ (qP 10 s).tail
  | none=>none:=rfl
 have hLl:=qbH 10 s;have hLm:=qhv 10 s;have hLn:=qiH 10 s;conv=>whnf
 refine qf (ds:=[.str s,.int .u8 10]) (qoL s 10 (by omega)) rfl rfl ?_;generalize qP 10 s=L at hpar hLl hLm hLn ⊢;obtain⟨hd,q,hL⟩:=List.exists_cons_of_ne_nil hLn;have hds:hd.size<=1500:=by have:=hLm hd (by rw[hL];simp);omega
 have hL0:L[0]?=some hd:=by rw[hL];rfl
 have hwl:=qbH 32 hd;conv=>whnf
 refine qA [.str hd] (by simp[hL0]) ?_;conv=>whnf
 refine qf (ds:=[.str hd,.int .u8 32]) (qoL hd 32 (by omega)) rfl rfl ?_;conv=>whnf
 refine qg (fun h2=>?_) (fun h2=>?_)
 ·have h2:(qP 32 hd).length≠2:=by
   intro h;rw[List.length_map,h]at h2;simp at h2
  rw[headS_not hL h2]at hpar;have h0:=h6 hpar;subst h0;conv=>whnf
  exact qc 0 rfl ⟨⟨rfl,rfl⟩,rfl⟩
 have h2:(qP 32 hd).length=2:=by
  rw[List.length_map]at h2;simp at h2;omega
 obtain⟨k,n,hW⟩:∃ k n,qP 32 hd = [k,n]:=by
  match qP 32 hd,h2 with
  | [k,n],_=>exact⟨k,n,rfl⟩
 rw[headS_two hL hW]at hpar;rw[hW];conv=>whnf
 refine qf (ds:=[.str n]) (qbM n) rfl rfl ?_;generalize jn n=near at hpar ⊢;have hpar:qmP s=qbd (rdL near none) (L.drop 1):=by rw[hpar,hL];rfl
 conv=>whnf
 refine zL (T:=tys) qk (by exact qh mixed qk (by decide +kernel)) (fun x:Option (List PBook×PBook)×Nat=>⟨[(0,.d (.str s)),(2,.ptr 2 0),(4,.d (qbO L)),(6,.ptr 6 0),(7,.d (i64 x.2))],rsH near x.1,st⟩) (fun x=>qmP s=qbd (rdL near x.1) (L.drop x.2)/\qjH (rdL near x.1).books<=x.2/\1<=x.2/\x.2<=L.length) (fun x=>L.length-x.2) (none,1) (Wk.sub (by repeat' first|exact trivial|refine⟨?_,?_⟩|rfl|(simp only[List.length_map];rfl)|simp[PX.get]) (by repeat' first|exact trivial|refine⟨?_,?_⟩|rfl|(simp only[List.length_map];rfl)|simp[PX.get])) ⟨hpar,by simp[rdL,qjH],by omega,by rw[hL];simp⟩ ?_;rintro ⟨o,i⟩ ⟨g1,g2,g3,g4⟩;simp only at g2 g3 g4;have g1:qmP s=qbd (rdL near o) (L.drop i):=g1
 cases o with
 | none=>
  conv=>whnf
  refine qd (qb (by(try dsimp only);omega)) ?_;conv=>whnf
  refine qg (fun hb=>?_) (fun hb=>?_)
  ·have hi2:i+1<L.length:=by have:=of_decide_eq_true hb;simp at this;omega
   obtain⟨x,hx⟩:∃ x,L[i]?=some x:=⟨_,List.getElem?_eq_getElem (by omega)⟩;have hxs:=hLm x (List.mem_of_getElem? hx);have hwl:=qbH 32 x;rw[qmQ _ hx hi2]at g1;conv=>whnf
   refine qA [.str x] (by simp[hx]) ?_;conv=>whnf
   refine qp (ds:=[.str x,.int .u8 32]) (qoL x 32 (by omega)) rfl rfl ?_;generalize qP 32 x=w at g1 hwl ⊢;conv=>whnf
   cases hbk:bkR w with
   | some b=>
    have hrw:rwR (rdL near none) w=some (rdL near (some ([],b))):=by unfold rwR;rw[hbk];rfl
    rw[hrw]at g1;obtain⟨bn,ba,bb,bc,bd,_,hbe⟩:=qge hbk;refine qcD (rowN_b near w b hbk) [] rfl rfl rfl ?_;subst hbe;conv=>whnf
    refine qj (((i+1:Nat):Int)) (by rfl) (qb (by omega)) ?_;conv=>whnf
    exact⟨(some ([],⟨bn,⟨jn ba,jn bb⟩,⟨jn bc,jn bd⟩,[]⟩),i+1),by simp only;omega,⟨g1,by show 1+0+0<=i+1;omega,by simp only;omega,by simp only;omega⟩,(Wk.bornArr 102944 900002 6 4 [] (hdC ⟨bn,⟨jn ba,jn bb⟩,⟨jn bc,jn bd⟩,[]⟩) rfl rfl rfl rfl).trans ((Wk.move 102944 900001 rfl rfl).trans (Wk.sub ⟨rfl,rfl,rfl,rfl,rfl,trivial⟩ ⟨rfl,rfl,rfl,rfl,trivial⟩))⟩
   | none=>
    have hrw:rwR (rdL near none) w=none:=by unfold rwR;rw[hbk];rfl
    rw[hrw]at g1;have h0:=h6 g1;subst h0;refine qp (ds:=[.agg [i64 near,.nils],qbO w]) (rowN_0 near w (by omega) hbk) rfl rfl ?_;conv=>whnf
    exact qc 0 rfl ⟨⟨rfl,rfl⟩,rfl⟩
  ·have hi2:¬ i+1<L.length:=by have:=of_decide_eq_false hb;simp at this;omega
   rw[qkZ _ (by rw[List.length_drop];omega)]at g1;obtain⟨ce,hce,hck,h18⟩:=pa18n near;have h0:=(h7 _ g1).2 fun h=>hce (hck.symm.trans h.1);subst h0;conv=>whnf
   refine qf (ds:=[.agg [i64 near,.nils]]) h18 rfl rfl ?_;conv=>whnf
   refine qg (fun _=>?_) (fun h=>absurd h (by simp[hce]));conv=>whnf
   exact qc 0 rfl ⟨⟨rfl,rfl⟩,rfl⟩
 | some x=>
  obtain⟨init,last⟩:=x;have htl:=qaL init last;have htot:qjH (init ++ [last])<=i:=g2;conv=>whnf
  refine qd (qb (by(try dsimp only);omega)) ?_;conv=>whnf
  refine qg (fun hb=>?_) (fun hb=>?_)
  ·have hi2:i+1<L.length:=by have:=of_decide_eq_true hb;simp at this;omega
   obtain⟨x,hx⟩:∃ x,L[i]?=some x:=⟨_,List.getElem?_eq_getElem (by omega)⟩;have hxs:=hLm x (List.mem_of_getElem? hx);have hwl:=qbH 32 x;rw[qmQ _ hx hi2]at g1;conv=>whnf
   refine qA [.str x] (by simp[hx]) ?_;conv=>whnf
   refine qp (ds:=[.str x,.int .u8 32]) (qoL x 32 (by omega)) rfl rfl ?_;generalize qP 32 x=w at g1 hwl ⊢;conv=>whnf
   cases hbk:bkR w with
   | some b=>
    have hrw:rwR (rdL near (some (init,last))) w=some (rdL near (some (init ++ [last],b))):=by unfold rwR;rw[hbk];rfl
    rw[hrw]at g1;obtain⟨bn,ba,bb,bc,bd,_,hbe⟩:=qge hbk;refine zM [900002] (by
     show(List.flatMap (fun e=>List.flatMap (qlO 7 _) e) (qe _ (qe _ (qB _++_))) ++ [])++_=_;rw[qa,qa,qgf];rfl) ?_
    conv=>whnf
    refine qcD (row1_b near init last w b (by omega) (by omega) hbk) [900001,900002] rfl (qop (by show some (Obj.arr 6 (.vv (qe _ (qe _ (qB _++_)))))=_;rw[qa,qa];rfl) rfl) rfl ?_;subst hbe;conv=>whnf
    refine qj (((i+1:Nat):Int)) (by rfl) (qb (by omega)) ?_;conv=>whnf
    have htl2:=qaL (init ++ [last]) ⟨bn,⟨jn ba,jn bb⟩,⟨jn bc,jn bd⟩,[]⟩;refine⟨(some (init ++ [last],⟨bn,⟨jn ba,jn bb⟩,⟨jn bc,jn bd⟩,[]⟩),i+1),by simp only;omega,⟨g1,?_,by simp only;omega,by simp only;omega⟩,(Wk.bornArr 102944 900002 6 4 ((init ++ [last]).map PBook.cells) (hdC ⟨bn,⟨jn ba,jn bb⟩,⟨jn bc,jn bd⟩,[]⟩) rfl rfl ?_ rfl).trans ((Wk.move 102944 900001 rfl rfl).trans (Wk.sub ⟨rfl,rfl,rfl,rfl,rfl,trivial⟩ ⟨rfl,?_,(by first | (show some (Obj.arr 6 (.vv (qe _ (qe _ (qe _ (qB _++_))))))=_;rw[qa,qa,qa];rfl) | (show some (Obj.arr 6 (.vv (qe _ (qe _ (qB _++_)))))=_;rw[qa,qa];rfl) | (show some (Obj.arr 6 (.vv (qe _ (qB _++_))))=_;rw[qa];rfl) | rfl),rfl,trivial⟩))⟩
    ·show qjH ((init ++ [last]) ++ [_])<=i+1
     simp at htl2;simp;omega
    ·show some (Obj.arr 6 (.dd (init.map PBook.cells ++ [last.cells,qlB ⟨bn,⟨jn ba,jn bb⟩,⟨jn bc,jn bd⟩,[]⟩])))=_
     simp[qlB]
    ·show some (Obj.box (.vv [.d (i64 near),.sl 900001 6 0 (init.length+2)]))=_
     simp
   | none=>
    cases hen:enR w with
    | some e=>
     have hrw:rwR (rdL near (some (init,last))) w=some (rdL near (some (init,{ last with ents:=last.ents ++ [e] }))):=by
      unfold rwR;rw[hbk,hen];show(if (rdL near (some (init,last))).books = [] then none else some _)=_;rw[if_neg (by simp[rdL])];show some (⟨near,qoJ e (init ++ [last])⟩:PLog)=_;rw[qas];rfl
     rw[hrw]at g1;have hf:FnU Tryz.prog 102 [.agg [.d (i64 near),.sl 1000000 6 0 (init.length+1)],.d (qbO w)] (rwH 1000000 1000001 init last) fun v h'=>v = .tup [.agg [.d (i64 near),.sl 1000000 6 0 (init.length+1)],.d (.bool true)]/\h'=rwH 1000000 2000000 init { last with ents:=last.ents ++ [e] }:=fun {σ}=>row1_e near init last w e (by omega) (by omega) hen;refine zM [900002] (by
      show(List.flatMap (fun e=>List.flatMap (qlO 7 _) e) (qe _ (qe _ (qB _++_))) ++ [])++_=_;rw[qa,qa,qgf];rfl) ?_
     conv=>whnf
     refine qcD hf [900001,900002] rfl (qop (by show some (Obj.arr 6 (.vv (qe _ (qe _ (qB _++_)))))=_;rw[qa,qa];rfl) rfl) (rwH_callBn _ _ _ _) ?_;conv=>whnf
     refine zM [102944,900001] (by
      show jL (qea _ (.arr 6 (.vv (qB (init.map PBook.cells)++_))))++_=_;rw[qt];show qJ (List.flatten (qB (init.map PBook.cells) ++ [_]))++_=_;rw[qU];rfl) ?_
     conv=>whnf
     refine qj (((i+1:Nat):Int)) (by rfl) (qb (by omega)) ?_;conv=>whnf
     have htl2:=qaL init { last with ents:=last.ents ++ [e] };refine⟨(some (init,{ last with ents:=last.ents ++ [e] }),i+1),by simp only;omega,⟨g1,?_,by simp only;omega,by simp only;omega⟩,(Wk.move 102944 900002 rfl rfl).trans (Wk.sub ⟨rfl,rfl,rfl,rfl,rfl,trivial⟩ ⟨rfl,rfl,(by first | (show some (Obj.arr 6 (.vv (qe _ (qe _ (qe _ (qB _++_))))))=_;rw[qa,qa,qa];rfl) | (show some (Obj.arr 6 (.vv (qe _ (qe _ (qB _++_)))))=_;rw[qa,qa];rfl) | (show some (Obj.arr 6 (.vv (qe _ (qB _++_))))=_;rw[qa];rfl) | rfl),rfl,trivial⟩)⟩;show qjH (init ++ [{ last with ents:=last.ents ++ [e] }])<=i+1;have e1:=htl.1;rw[htl2.1];simp only[List.length_append,List.length_singleton];omega
    | none=>
     have hrw:rwR (rdL near (some (init,last))) w=none:=by
      unfold rwR;rw[hbk,hen];show(if (rdL near (some (init,last))).books = [] then none else none)=_
      split<;>rfl
     rw[hrw]at g1;have h0:=h6 g1;subst h0;refine zM [900002] (by
      show(List.flatMap (fun e=>List.flatMap (qlO 7 _) e) (qe _ (qe _ (qB _++_))) ++ [])++_=_;rw[qa,qa,qgf];rfl) ?_
     conv=>whnf
     refine qcD (row1_0 near init last w (by omega) (by omega) hbk hen) [900001,900002] rfl (qop (by show some (Obj.arr 6 (.vv (qe _ (qe _ (qB _++_)))))=_;rw[qa,qa];rfl) rfl) (rwH_callB2 _ _ _ _) ?_;conv=>whnf
     refine zM [900002,900001] (by
      show jL (qea _ (.arr 6 (.vv (qB (init.map PBook.cells)++_))))++_=_;rw[qt];show qJ (List.flatten (qB (init.map PBook.cells) ++ [_]))++_=_;rw[qU];rfl) ?_
     conv=>whnf
     exact qc 0 rfl ⟨⟨rfl,rfl⟩,rfl⟩
  ·have hi2:¬ i+1<L.length:=by have:=of_decide_eq_false hb;simp at this;omega
   rw[qkZ _ (by rw[List.length_drop];omega)]at g1;have h7:=h7 _ g1;obtain⟨cp,cq,ce,hcp⟩:∃ p q e,jI (rdL near (some (init,last)))=(p,q,e):=⟨_,_,_,rfl⟩;have hce:qD (rdL near (some (init,last)))=ce:=by show(jI _).2.2=ce;rw[hcp]
   have h18:FnV Tryz.prog 18 [(rdL near (some (init,last))).d] (.tup [i64 cp,i64 cq,i64 ce]):=FnV.cast (qrl _) (by rw[hcp];rfl);conv=>whnf
   refine qn h18 rfl 2 (qiK near init last rfl rfl) ?_;conv=>whnf
   refine qg (fun hb1=>?_) (fun hb1=>?_)
   ·have hk:ce≠0:=by simpa using hb1
    have h0:=h7.2 fun h=>hk (hce.symm.trans h.1);subst h0;conv=>whnf
    exact qc 0 rfl ⟨⟨rfl,rfl⟩,rfl⟩
   ·have hk:ce=0:=by simpa using hb1
    conv=>whnf
    refine qn (qrm _ (hce.trans hk)) rfl 2 (qiK near init last rfl rfl) ?_;conv=>whnf
    refine qg (fun hb2=>?_) (fun hb2=>?_)
    ·have hk2:qcK (rdL near (some (init,last)))≠s:=by simpa using hb2
     have h0:=h7.2 fun h=>hk2 h.2;subst h0;conv=>whnf
     exact qc 0 rfl ⟨⟨rfl,rfl⟩,rfl⟩
    ·have hk2:qcK (rdL near (some (init,last)))=s:=by simpa using hb2
     have h0:=h7.1 ⟨hce.trans hk,hk2⟩;subst h0;conv=>whnf
     exact qc 2 (qhw (qiK near init last rfl rfl)) ⟨⟨rfl,rfl⟩,rfl⟩
theorem readS_cases(s:ByteArray):∃ r,(PX.relax r = .tup [(qlH s).1.d,i64 (qlH s).2]\/r = .tup [(qlH s).1.d,i64 (qlH s).2])/\(1500<s.size->r=qco 3)/\(s.size<=1500->qmP s=none->r=qco 6) /\
  (s.size<=1500 -> ∀ c,qmP s=some c->((qD c=0/\qcK c=s)->r = .tup [c.d,i64 0])/\(¬ (qD c=0/\qcK c=s)->r=qco 6)):=by
 have hrx:qlH s=if 1500<s.size then (qmJ,(3:Int)) else
  match qmP s with
  | some c=>if qD c=0/\qcK c=s then (c,0) else (qmJ,6)
  | none=>(qmJ,6):=rfl
 by_cases h3:1500<s.size
 ·rw[hrx,if_pos h3]
  exact⟨qco 3,.inl rfl,fun _=>rfl,fun h=>absurd h (by omega),fun h=>absurd h (by omega)⟩
 rw[hrx,if_neg h3]
 cases hl:qmP s with
 | none=>exact⟨qco 6,.inl rfl,fun h=>absurd h h3,fun _ _=>rfl,fun _ c h=>by cases h⟩
 | some c=>
  by_cases hk:qD c=0/\qcK c=s
  ·simp only[if_pos hk]
   refine⟨.tup [c.d,i64 0],.inr rfl,fun h=>absurd h h3,fun _ h=>?_,fun _ c' h=>?_⟩
   ·cases h
   ·cases h;exact⟨fun _=>rfl,fun h=>absurd hk h⟩
  ·simp only[if_neg hk]
   refine⟨qco 6,.inl rfl,fun h=>absurd h h3,fun _ _=>rfl,fun _ c' h=>?_⟩
   cases h;exact⟨fun h=>absurd h hk,fun _=>rfl⟩
theorem pa42(s:ByteArray):FnV Tryz.prog 42 [.str s] (.tup [(qaj s).1.d,i64 (qaj s).2]):=by
 rw[<- readS_eq];obtain⟨r,hr,h3,h6,h7⟩:=readS_cases s
 rcases hr with hr | rfl
 ·exact FnV.relax (fun {σ}=>qqg s r h3 h6 h7) hr
 ·exact qqg s _ h3 h6 h7
theorem readX_few(s:ByteArray):FewP (qaj s).1:=by
 by_cases h:(qaj s).2=0
 ·exact few_of (qiQ h).1
 ·rw[qkT h];exact⟨by decide,fun b hb=>by cases hb⟩
theorem pa6(l:PLog)(s:ByteArray):FnV Tryz.prog 6 [l.d,.str s] (.bool true):=by
 have a1:=fun {σ}=>@qrf l σ;have a2:=fun {σ}=>@pa40 l σ;have b1:=fun {σ}=>@qrg s σ;have b2:=fun {σ}=>@pa42 s σ;have c1:FnV Tryz.prog 43 [(qaj s).1.d,(qaj s).1.d] (.bool true):=FnV.cast (qrj _ _ (readX_few s)) (by simp);generalize (qeU l).1=t at a1 a2;generalize (qeU l).2=e at a1 a2;generalize (qaj s).1=c at b1 b2 c1;generalize (qaj s).2=f at b1 b2;show FnV Tryz.prog 6 [l.d,.str s] _;refine qF mixed qk Tryz.func6 rfl (ft:=ft6) 2 (by decide +kernel) (by rfl) fun {σ} Y st=>?_;conv=>whnf
 refine qf (ds:=[l.d]) a1 rfl rfl ?_;conv=>whnf
 refine qf (ds:=[l.d]) a2 rfl rfl ?_;conv=>whnf
 refine qg (fun h=>absurd h (by simp)) (fun _=>?_);conv=>whnf
 refine qg (fun h=>absurd h (by simp)) (fun _=>?_);conv=>whnf
 refine qf (ds:=[.str s]) b1 rfl rfl ?_;conv=>whnf
 refine qf (ds:=[.str s]) b2 rfl rfl ?_;conv=>whnf
 refine qf (ds:=[c.d,c.d]) c1 rfl rfl ?_;conv=>whnf
 refine qg (fun _=>?_) (fun h=>absurd h (by simp));conv=>whnf
 refine qf (pa26) rfl rfl ?_;conv=>whnf
 exact qc 0 rfl ⟨⟨rfl,rfl⟩,rfl⟩
end Go.PX
