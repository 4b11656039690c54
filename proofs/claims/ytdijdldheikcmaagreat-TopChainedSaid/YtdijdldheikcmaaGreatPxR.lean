import Derived.Test.YtdijdldheikcmaaGreatPxJ
import Derived.Test.YtdijdldheikcmaaGreatPxQ
set_option linter.all false
namespace Go.PX
open Go.Proofs Go.RowKit Go.ChangeShapes
theorem c3:Tryz.prog.cellsOf 3=1:=by kernel_rfl
theorem c9:Tryz.prog.cellsOf 9=1:=by kernel_rfl
theorem DE:Tryz.prog.cellsOf 24=2:=by kernel_rfl
theorem LO:Tryz.prog.cellsOf 163=2:=by kernel_rfl
theorem Vm:Tryz.prog.cellsOf 69=1:=by kernel_rfl
theorem Uk:Tryz.prog.cellsOf 71=8:=by kernel_rfl
theorem Ve:Tryz.prog.cellsOf 22=1:=by kernel_rfl
theorem LL:Tryz.prog.cellsOf 145=2:=by kernel_rfl
theorem Vf:Tryz.prog.cellsOf 25=1:=by kernel_rfl
theorem Uh:Tryz.prog.cellsOf 27=7:=by kernel_rfl
theorem Ui:Tryz.prog.cellsOf 29=4:=by kernel_rfl
theorem Ul:Tryz.prog.cellsOf 74=8:=by kernel_rfl
theorem Vg:Tryz.prog.cellsOf 30=1:=by kernel_rfl
theorem Vh:Tryz.prog.cellsOf 32=13:=by kernel_rfl
section
variable (W : World)
theorem e9:Rd Tryz.prog W 3 fun ds=>∃ n,ds = [i64 n]:=Rd.int Tryz.underlying3
theorem FC:Rd Tryz.prog W 9 fun ds=>∃ s,ds = [.str s]:=Rd.str Tryz.underlying9
theorem m9:Rd Tryz.prog W 24 fun ds=>∃ s:Span,ds=s.cells:=
 (Rd.struct Tryz.underlying24 DE (.cons rfl c3 (e9 W) (.cons rfl c3 (e9 W) (.nil _)))).mono fun ds h=>by
  obtain⟨_,_,rfl,⟨a,rfl⟩,_,_,rfl,⟨b,rfl⟩,rfl⟩:=h;exact⟨⟨a,b⟩,rfl⟩
theorem HP:Rd Tryz.prog W 163 fun ds=>∃ s:cH,ds=s.cells:=
 (Rd.struct Tryz.underlying163 LO (.cons rfl c3 (e9 W) (.cons rfl c3 (e9 W) (.nil _)))).mono fun ds h=>by
  obtain⟨_,_,rfl,⟨a,rfl⟩,_,_,rfl,⟨b,rfl⟩,rfl⟩:=h;exact⟨⟨a,b⟩,rfl⟩
theorem FA:Rd Tryz.prog W 69 fun ds=>∃ l:List cH,ds = [fp l]:=
 (Rd.slice Tryz.underlying69 LO (by omega) (HP W)).mono fun ds h=>by
  obtain⟨es,rfl,he⟩:=h;obtain⟨l,rfl⟩:=ja (fun _ h=>h) he;exact⟨l,rfl⟩
theorem K9:Rd Tryz.prog W 71 fun ds=>∃ s:bH,ds=s.cells:=
 (Rd.struct Tryz.underlying71 Uk (.cons rfl c9 (FC W) (.cons rfl c3 (e9 W) (.cons rfl c3 (e9 W) (.cons rfl DE (m9 W) (.cons rfl DE (m9 W) (.cons rfl Vm (FA W) (.nil _)))))))).mono fun ds h=>by
  obtain⟨_,_,rfl,⟨a,rfl⟩,_,_,rfl,⟨b,rfl⟩,_,_,rfl,⟨c,rfl⟩,_,_,rfl,⟨d,rfl⟩,_,_,rfl,⟨e,rfl⟩,_,_,rfl,⟨f,rfl⟩,rfl⟩:=h;exact⟨⟨a,b,c,d,e,f⟩,rfl⟩
theorem HU:Rd Tryz.prog W 22 fun ds=>∃ l:List bH,ds = [fQ l]:=
 (Rd.slice Tryz.underlying22 Uk (by omega) (K9 W)).mono fun ds h=>by
  obtain⟨es,rfl,he⟩:=h;obtain⟨l,rfl⟩:=ja (fun _ h=>h) he;exact⟨l,rfl⟩
theorem OY:Rd Tryz.prog W 145 fun ds=>∃ s:Row,ds=s.cells:=
 (Rd.struct Tryz.underlying145 LL (.cons rfl c3 (e9 W) (.cons rfl c3 (e9 W) (.nil _)))).mono fun ds h=>by
  obtain⟨_,_,rfl,⟨a,rfl⟩,_,_,rfl,⟨b,rfl⟩,rfl⟩:=h;exact⟨⟨a,b⟩,rfl⟩
theorem K6:Rd Tryz.prog W 25 fun ds=>∃ l:List Row,ds = [ot l]:=
 (Rd.slice Tryz.underlying25 LL (by omega) (OY W)).mono fun ds h=>by
  obtain⟨es,rfl,he⟩:=h;obtain⟨l,rfl⟩:=ja (fun _ h=>h) he;exact⟨l,rfl⟩
theorem HO:Rd Tryz.prog W 27 fun ds=>∃ c:jo,ds=c.cells:=
 (Rd.struct Tryz.underlying27 Uh (.cons rfl Ve (HU W) (.cons rfl c3 (e9 W) (.cons rfl c3 (e9 W) (.cons rfl c3 (e9 W) (.cons rfl DE (m9 W) (.cons rfl Vf (K6 W) (.nil _)))))))).mono fun ds h=>by
  obtain⟨_,_,rfl,⟨a,rfl⟩,_,_,rfl,⟨b,rfl⟩,_,_,rfl,⟨c,rfl⟩,_,_,rfl,⟨d,rfl⟩,_,_,rfl,⟨e,rfl⟩,_,_,rfl,⟨f,rfl⟩,rfl⟩:=h;exact⟨⟨a,b,c,d,e,f⟩,rfl⟩
theorem K8:Rd Tryz.prog W 29 fun ds=>∃ s:r5,ds=s.cells:=
 (Rd.struct Tryz.underlying29 Ui (.cons rfl c3 (e9 W) (.cons rfl c3 (e9 W) (.cons rfl c3 (e9 W) (.cons rfl c3 (e9 W) (.nil _)))))).mono fun ds h=>by
  obtain⟨_,_,rfl,⟨a,rfl⟩,_,_,rfl,⟨b,rfl⟩,_,_,rfl,⟨c,rfl⟩,_,_,rfl,⟨d,rfl⟩,rfl⟩:=h;exact⟨⟨a,b,c,d⟩,rfl⟩
theorem Dp:Rd Tryz.prog W 74 fun ds=>∃ s:cb,ds=s.cells:=
 (Rd.struct Tryz.underlying74 Ul (.cons rfl DE (m9 W) (.cons rfl DE (m9 W) (.cons rfl DE (m9 W) (.cons rfl DE (m9 W) (.nil _)))))).mono fun ds h=>by
  obtain⟨_,_,rfl,⟨a,rfl⟩,_,_,rfl,⟨b,rfl⟩,_,_,rfl,⟨c,rfl⟩,_,_,rfl,⟨d,rfl⟩,rfl⟩:=h;exact⟨⟨a,b,c,d⟩,rfl⟩
theorem A1:Rd Tryz.prog W 30 fun ds=>∃ l:List cb,ds = [nH l]:=
 (Rd.slice Tryz.underlying30 Ul (by omega) (Dp W)).mono fun ds h=>by
  obtain⟨es,rfl,he⟩:=h;obtain⟨l,rfl⟩:=ja (fun _ h=>h) he;exact⟨l,rfl⟩
theorem K0:Rd Tryz.prog W 32 fun ds=>∃ c:Case,ds=c.cells:=
 (Rd.struct Tryz.underlying32 Vh (.cons rfl Uh (HO W) (.cons rfl Ui (K8 W) (.cons rfl c3 (e9 W) (.cons rfl Vg (A1 W) (.nil _)))))).mono fun ds h=>by
  obtain⟨_,_,rfl,⟨a,rfl⟩,_,_,rfl,⟨b,rfl⟩,_,_,rfl,⟨c,rfl⟩,_,_,rfl,⟨d,rfl⟩,rfl⟩:=h;exact⟨⟨a,b,c,d⟩,rfl⟩
end
theorem Vi:Tryz.prog.cellsOf 33=1:=by kernel_rfl
theorem Vj:Tryz.prog.cellsOf 34=1:=by kernel_rfl
theorem Vk:Tryz.prog.cellsOf 36=2:=by kernel_rfl
theorem Qb:Tryz.prog.cellsOf 60=2:=by kernel_rfl
theorem Uj:Tryz.prog.cellsOf 38=4:=by kernel_rfl
theorem Vl:Tryz.prog.cellsOf 56=1:=by kernel_rfl
theorem LN:Tryz.prog.cellsOf 152=6:=by kernel_rfl
theorem Qa:Tryz.prog.cellsOf 147=1:=by kernel_rfl
theorem LM:Tryz.prog.cellsOf 149=4:=by kernel_rfl
theorem LP:Tryz.prog.cellsOf 202=2:=by kernel_rfl
section
variable (W : World)
theorem OW:Rd Tryz.prog W 60 fun ds=>∃ p:Pt,ds=p.cells:=
 (Rd.struct Tryz.underlying60 Qb (.cons rfl c3 (e9 W) (.cons rfl c3 (e9 W) (.nil _)))).mono fun ds h=>by
  obtain⟨_,_,rfl,⟨a,rfl⟩,_,_,rfl,⟨b,rfl⟩,rfl⟩:=h;exact⟨⟨a,b⟩,rfl⟩
theorem HR:Rd Tryz.prog W 202 fun ds=>∃ p:jX,ds=p.cells:=
 (Rd.struct Tryz.underlying202 LP (.cons rfl c3 (e9 W) (.cons rfl c3 (e9 W) (.nil _)))).mono fun ds h=>by
  obtain⟨_,_,rfl,⟨a,rfl⟩,_,_,rfl,⟨b,rfl⟩,rfl⟩:=h;exact⟨⟨a,b⟩,rfl⟩
theorem I6:Rd Tryz.prog W 24 fun ds=>∃ a b,ds = [i64 a,i64 b]:=
 (Rd.struct Tryz.underlying24 DE (.cons rfl c3 (e9 W) (.cons rfl c3 (e9 W) (.nil _)))).mono fun ds h=>by
  obtain⟨_,_,rfl,⟨a,rfl⟩,_,_,rfl,⟨b,rfl⟩,rfl⟩:=h;exact⟨a,b,rfl⟩
theorem I5:Rd Tryz.prog W 38 fun ds=>∃ b:ow,ds=b.cells:=
 (Rd.struct Tryz.underlying38 Uj (.cons rfl DE (I6 W) (.cons rfl DE (I6 W) (.nil _)))).mono fun ds h=>by
  obtain⟨_,_,rfl,⟨a,b,rfl⟩,_,_,rfl,⟨c,d,rfl⟩,rfl⟩:=h;exact⟨⟨⟨a,b⟩,⟨c,d⟩⟩,rfl⟩
theorem FB:Rd Tryz.prog W 147 fun ds=>∃ l:List jX,ds = [nC l]:=
 (Rd.slice Tryz.underlying147 LP (by omega) (HR W)).mono fun ds h=>by
  obtain⟨es,rfl,he⟩:=h;obtain⟨l,rfl⟩:=ja (f:=jX.cells) (fun _ h=>h) he;exact⟨l,rfl⟩
theorem OX:Rd Tryz.prog W 56 fun ds=>∃ l:List Pt,ds = [e8 l]:=
 (Rd.slice Tryz.underlying56 Qb (by omega) (OW W)).mono fun ds h=>by
  obtain⟨es,rfl,he⟩:=h;obtain⟨l,rfl⟩:=ja (f:=Pt.cells) (fun _ h=>h) he;exact⟨l,rfl⟩
theorem K4:Rd Tryz.prog W 149 fun ds=>∃ m:Mark,ds=m.cells:=
 (Rd.struct Tryz.underlying149 LM (.cons rfl c9 (FC W) (.cons rfl Qb (OW W) (.cons rfl Qa (FB W) (.nil _))))).mono fun ds h=>by
  obtain⟨_,_,rfl,⟨a,rfl⟩,_,_,rfl,⟨b,rfl⟩,_,_,rfl,⟨c,rfl⟩,rfl⟩:=h;exact⟨⟨a,b,c⟩,rfl⟩
theorem K7:Rd Tryz.prog W 152 fun ds=>∃ m:ed,ds=m.cells:=
 (Rd.struct Tryz.underlying152 LN (.cons rfl c9 (FC W) (.cons rfl Vl (OX W) (.cons rfl Uj (I5 W) (.nil _))))).mono fun ds h=>by
  obtain⟨_,_,rfl,⟨a,rfl⟩,_,_,rfl,⟨b,rfl⟩,_,_,rfl,⟨c,rfl⟩,rfl⟩:=h;exact⟨⟨a,b,c⟩,rfl⟩
theorem HQ:Rd Tryz.prog W 33 fun ds=>∃ l:List Mark,ds = [xD l]:=
 (Rd.slice Tryz.underlying33 LM (by omega) (K4 W)).mono fun ds h=>by
  obtain⟨es,rfl,he⟩:=h;obtain⟨l,rfl⟩:=ja (f:=Mark.cells) (fun _ h=>h) he;exact⟨l,rfl⟩
theorem HT:Rd Tryz.prog W 34 fun ds=>∃ l:List ed,ds = [rf l]:=
 (Rd.slice Tryz.underlying34 LN (by omega) (K7 W)).mono fun ds h=>by
  obtain⟨es,rfl,he⟩:=h;obtain⟨l,rfl⟩:=ja (f:=ed.cells) (fun _ h=>h) he;exact⟨l,rfl⟩
theorem OV:Rd Tryz.prog W 36 fun ds=>∃ c:vn,ds=c.cells:=
 (Rd.struct Tryz.underlying36 Vk (.cons rfl Vi (HQ W) (.cons rfl Vj (HT W) (.nil _)))).mono fun ds h=>by
  obtain⟨_,_,rfl,⟨a,rfl⟩,_,_,rfl,⟨b,rfl⟩,rfl⟩:=h;exact⟨⟨a,b⟩,rfl⟩
end
theorem Vn:Tryz.prog.cellsOf 5=1:=by kernel_rfl
theorem Qe:Tryz.prog.cellsOf 40=9:=by kernel_rfl
theorem Qc:Tryz.prog.cellsOf 36=2:=by kernel_rfl
theorem Qd:Tryz.prog.cellsOf 38=4:=by kernel_rfl
theorem Qf:Tryz.prog.cellsOf 41=2:=by kernel_rfl
theorem LS:Tryz.prog.cellsOf 41=2*1:=by kernel_rfl
theorem Qg:Tryz.prog.cellsOf 42=1:=by kernel_rfl
theorem Qh:Tryz.prog.cellsOf 44=3:=by kernel_rfl
theorem LR:Tryz.prog.cellsOf 123=1:=by kernel_rfl
theorem GC{n:Int}(h:(Lit.int .u8 n).wf=true):0<=n/\n<=255:=by
 simp only[Lit.wf,Bool.and_eq_true,decide_eq_true_eq]at h;exact h
theorem Im{n:Int}(h:(Lit.int .u16 n).wf=true):0<=n/\n<=65535:=by
 simp only[Lit.wf,Bool.and_eq_true,decide_eq_true_eq]at h;exact h
theorem Rd.OI{P:Program}{W:World}{t:TypeId}{k:IntKind}(ht:P.underlying t=some (.int k)):Rd P W t fun ds=>∃ n,ds = [.int k n]/\(Lit.int k n).wf=true:=by
 refine⟨?_⟩;intro H enc sp held fuel cs x h;obtain⟨n,rfl,_,hw⟩:=DataW.trod_int ht h;exact⟨[.int k n],⟨n,rfl,hw⟩,_,[],rfl,rfl,rfl⟩
section
variable (W : World)
theorem HN:Rd Tryz.prog W 5 fun ds=>∃ n,ds = [.int .u8 n]/\0<=n/\n<=255:=(Rd.OI Tryz.underlying5).mono fun ds ⟨n,h,w⟩=>⟨n,h,GC w⟩
theorem HV:Rd Tryz.prog W 123 fun ds=>∃ n,ds = [.int .u16 n]/\0<=n/\n<=65535:=(Rd.OI Tryz.underlying123).mono fun ds ⟨n,h,w⟩=>⟨n,h,Im w⟩
theorem OU:wQ Tryz.prog W 41 fun ds=>∃ a b:Int,ds = [.int .u8 a,.int .u8 b]/\(0<=a/\a<=255)/\(0<=b/\b<=255):=
 (wQ.array Tryz.underlying41 LS Vn (Rd.z (HN W))).mono fun ds h=>by
  obtain⟨BF,rfl,hl,hd⟩:=h
  match BF,hl with
  | [x,y],_=>
   obtain⟨a,rfl,ha⟩:=hd x (by simp);obtain⟨b,rfl,hb⟩:=hd y (by simp);exact⟨a,b,rfl,ha,hb⟩
theorem K3:wQ Tryz.prog W 42 fun ds=>∃ l:List Int,ds = [I2 l]/\(∀ n∈l,0<=n/\n<=65535)/\l.length*2<=140737488351232:=
 (wQ.slice Tryz.underlying42 LR (by omega) (HV W).z).mono fun ds h=>by
  obtain⟨es,rfl,he,hz⟩:=h;rw[show Tryz.prog.bytesOf 123=2 by kernel_rfl]at hz;have:∀ es:List (List D),(∀ e∈es,∃ n:Int,e = [.int .u16 n]/\(0<=n/\n<=65535)) -> ∃ l:List Int,es=l.map (fun n=>[.int .u16 n]) /\ ∀ n∈l,0<=n/\n<=65535:=by
   intro es
   induction es with
   | nil=>intro _;exact⟨[],rfl,fun n hn=>by cases hn⟩
   | cons e r ih=>
    intro h;obtain⟨n,h1,h2⟩:=h e (by simp);obtain⟨l,h3,h4⟩:=ih fun x hx=>h x (by simp[hx]);refine⟨n::l,by rw[h1,h3];rfl,fun m hm=>?_⟩;rcases List.mem_cons.1 hm with rfl|hm
    ·exact h2
    ·exact h4 m hm
  obtain⟨l,h1,h2⟩:=this es he;refine⟨l,by rw[h1];rfl,h2,?_⟩;rw[h1,List.length_map]at hz;exact hz
theorem HS:wQ Tryz.prog W 44 fun ds=>∃ x:kM,ds=x.cells/\vq x/\x.lay.length*2<=140737488351232:=
 (wQ.struct Tryz.underlying44 Qh (.cons rfl Qf (OU W) (.cons rfl Qg (K3 W) (.nil _)))).mono fun ds h=>by
  obtain⟨_,_,rfl,⟨a,b,rfl,ha,hb⟩,_,_,rfl,⟨l,rfl,hl,hz⟩,rfl⟩:=h;exact⟨⟨a,b,l⟩,rfl,⟨ha.1,ha.2,hb.1,hb.2,hl⟩,hz⟩
theorem K5:Rd Tryz.prog W 40 fun ds=>∃ m:bQ,ds=m.cells:=
 (Rd.struct Tryz.underlying40 Qe (.cons rfl Qc (OV W) (.cons rfl Qd (I5 W) (.cons rfl DE (m9 W) (.cons rfl c3 (e9 W) (.nil _)))))).mono fun ds h=>by
  obtain⟨_,_,rfl,⟨a,rfl⟩,_,_,rfl,⟨b,rfl⟩,_,_,rfl,⟨c,rfl⟩,_,_,rfl,⟨d,rfl⟩,rfl⟩:=h;exact⟨⟨a,b,c,d⟩,rfl⟩
end
theorem OL(W:World):Laid Tryz.prog W:=by
 have h1 : Tryz.prog.globalNamed "internal/strconv.uint64pow10" = none := by kernel_rfl
 have h2 : Tryz.prog.globalNamed "internal/bytealg.MaxLen" = none := by kernel_rfl
 have h3 : Tryz.prog.globalNamed "strconv.ErrSyntax" = none := by kernel_rfl
 have h4 : Tryz.prog.globalNamed "strconv.ErrRange" = none := by kernel_rfl
 exact⟨fun g h=>(by rw[h1]at h;cases h),fun g h=>(by rw[h2]at h;cases h),fun g h=>(by rw[h3]at h;cases h),fun g h=>(by rw[h4]at h;cases h)⟩
end Go.PX
