import Derived.Test.YtpocldjdlookjaaRows
import Derived.Test.YtpocldjdlookjaaPxN
import Derived.Test.YtpocldjdlookjaaPxR
set_option linter.all false
namespace Go.Proofs.Ytpocldjdlookjaa
open Go.ChangeShapes Go.WideShapes Go.ChangeAt Go.RowKit Go.PX
theorem own:ownKnob Try.prog.godebug=none:=by kernel_rfl
theorem kids:Kids Try.prog (· < Try.prog.types.size):=kids_rows (by kernel_rfl) (by kernel_rfl)
theorem full:∀ t e,t<Try.prog.types.size->Try.prog.underlying t=some (.slice e)->0<Try.prog.cellsOf e:=slices_full_of Try.prog (by kernel_rfl)
set_option maxRecDepth 100000 in
theorem watchFills_lifted(os:Os)(started:os.Started)(H:Type)(enc:TypeId×Value->H) :
  ReturnsInHanded {} Try.checked os 5 .any (Rows.watchFillsSpec.pre6 enc Try.prog Try.f5 Rows.watchFillsRow.domain false) (Rows.watchFillsSpec.post enc Try.prog Try.f5 false true false false):=by
 refine returnsInHanded_of_change_sized (C:=Try.checked) own started (by kernel_rfl) Try.func5
  (ChangeSpec.witness6 (enc:=enc) (C:=Try.checked) false ⟨#[],#[.agg #[.slice none 0 0,.slice none 0 0,.int .i64 0,.int .i64 0],.slice none 0 0,.int .i64 0],[]⟩ 8 (by kernel_rfl) (by kernel_rfl) (by kernel_rfl) (by kernel_rfl)) ?_
 intro W base args ds gs before H6 hW Sm Tk _;have sx:∀ (j:Nat) t v,Try.f5.params[j]?=some t->args[j]?=some v->Value.okWide Try.prog W .any base t v:=H6;have Rl:=hW;obtain⟨p,q,Rb,hV,rfl,TX,qT⟩:=hW;have hA:DataW.TrodAll enc Try.prog W 0 (fun _=>true) true Try.f5.params.toList args.toList ds p:=Rb;have M4:=hA;rw[Try.params5]at hA sx;obtain⟨v0,v1,v2,d0,d1,d2,p0,p1,p2,rfl,rfl,rfl,h0,h1,h2⟩:=trodAll_three hA;obtain⟨rfl,rfl⟩:=trodVars_none hV;simp only[List.append_nil]at Rl M4;have hz:=Hr Tk;rw[Try.params5]at hz;simp only[List.cons_append,List.nil_append,DataW.weightsEach]at hz;have RI:=(kG.1 hz).1;replace hz:=(kG.1 hz).2;have Ma:=(kG.1 hz).1;replace hz:=(kG.1 hz).2;have T6:=(kG.1 hz).1;replace hz:=(kG.1 hz).2;obtain⟨RY,rfl,_⟩:=okWide_struct Try.underlying25 (sx 0 25 v0 rfl rfl);obtain⟨n0,g0⟩:=h0;obtain⟨_,⟨c,rfl⟩,r0⟩:=(Jv W).read g0;obtain⟨a1,l1,c1,rfl⟩:=okWide_slice Try.underlying26 (sx 1 26 v1 rfl rfl);obtain⟨n1,g1⟩:=h1;obtain⟨_,⟨l,rfl,hl⟩,r1⟩:=(Hh W).read g1 Ma;obtain⟨n,rfl,rfl,rfl,_⟩:=open_int Try.underlying3 (sx 2 3 v2 rfl rfl) h2;clear Rb H6;refine(top (TP c l n (by have:l.length*24<=140737488351232:=hl;omega)) W (laid W) _ ⟨_,_,rfl,⟨RY,rfl,r0⟩,_,_,rfl,aY.one r1,_,_,rfl,rfl,rfl⟩).mono fun e W' ⟨x,he,⟨F',hx⟩,hs⟩=>?_;have hx:x = .bool true:=hx;subst he;subst hx;refine⟨_,rfl,?_⟩;refine⟨_,_,_,[],_,[],Rl,trodAll_mk1 (shut_bool Try.underlying4 _),oL (DataW.TrodAll.respare kids full (by rw[Try.params5];decide) M4 (fun p hp=>by simpa using M4.lt p hp)) (fun p hp=>hs.sameAt (M4.lt p hp)),rfl,hs.frame _,fun h=>by cases h⟩
theorem watchFills_holds:Rows.WatchFillsSaid:=
 OpenClaim.holds_of_wide 5 Try.f5 rfl rfl rfl rfl rfl rfl rfl ⟨rfl,rfl,rfl,rfl,rfl⟩ rfl rfl rfl rfl rfl (by kernel_rfl) Try.func5 (by kernel_rfl)
  (of_decide_eq_true (by kernel_rfl)) (by unfold Func.isWrapper;first|(rw[if_pos (by decide +kernel)];kernel_rfl)|(rw[if_neg (by decide +kernel)];exact⟨rfl,rfl⟩))
  (fun os started H enc _=>watchFills_lifted os started H enc)
end Go.Proofs.Ytpocldjdlookjaa
