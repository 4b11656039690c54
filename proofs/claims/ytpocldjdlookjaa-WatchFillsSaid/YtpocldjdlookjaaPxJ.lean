import Derived.Test.YtpocldjdlookjaaPxI
import Derived.Test.YtpocldjdlookjaaPxA
import Derived.Test.YtpocldjdlookjaaPxH
import Derived.Test.YtpocldjdlookjaaProg
import Derived.Laws.RangeString
set_option linter.all false
set_option maxRecDepth 10000
namespace Go.PX
open Go.RowKit Go.ChangeShapes
def Ie(l:List Nat):Prop:=∀ n∈l,n<=reachBytes
theorem kG{a b:List Nat}:Ie (a++b)↔Ie a/\Ie b:=
 ⟨fun h=>⟨fun n hn=>h n (List.mem_append_left _ hn),fun n hn=>h n (List.mem_append_right _ hn)⟩,fun h n hn=>by
  rcases List.mem_append.1 hn with hn|hn
  ·exact h.1 n hn
  ·exact h.2 n hn⟩
theorem Hr{l:List Nat}(h:l.all (· <=reachBytes)=true):Ie l:=fun n hn=>by
 have:=List.all_eq_true.1 h n hn;simpa using this
structure Ga(P:Program)(W:World)(t:TypeId)(S:List D->Prop):Prop where
 read:∀ {H:Type} {enc:TypeId×Value->H} {sp:Nat->Bool} {held:Bool} {fuel:Nat} {cs:List Value} {x:DataW H×List MemPlace},DataW.trod enc P W 0 sp held fuel t cs=some x->Ie (x.1.weights P t) -> ∃ ds,S ds/\aY (qQ W) W ds cs
section
variable {P : Program} {W : World} {t : TypeId}
theorem Rd.z{S:List D->Prop}(h:Rd P W t S):Ga P W t S:=⟨fun hx _=>h.read hx⟩
theorem Ga.mono{S S':List D->Prop}(h:Ga P W t S)(hS:∀ ds,S ds->S' ds):Ga P W t S':=by
 refine⟨?_⟩;intro H enc sp held fuel cs x hx hw;obtain⟨ds,h1,h2⟩:=h.read hx hw;exact⟨ds,hS ds h1,h2⟩
theorem nK{H:Type}{e:TypeId}:∀ {l:List (DataW H)} {d:DataW H},d∈l->Ie (DataW.weightsAll P e l)->Ie (d.weights P e)
 | a::r,d,hd,h=>by
  rw[DataW.weightsAll]at h;rcases List.mem_cons.1 hd with rfl|hd
  ·exact(kG.1 h).1
  ·exact nK hd (kG.1 h).2
theorem Ga.slice{e:TypeId}{S:List D->Prop}(ht:P.underlying t=some (.slice e)){k:Nat}(hk:P.cellsOf e=k)(yE:0<k)(he:Ga P W e S) :
  Ga P W t fun ds=>∃ es,ds = [.vs es]/\(∀ e∈es,S e)/\es.length*P.bytesOf e<=reachBytes:=by
 subst hk;refine⟨?_⟩;intro H enc sp held fuel cs x h hw;rcases DataW.trod_slice ht h with⟨rfl,_⟩|⟨a,len,cap,elems,rest,n,rfl,rfl,Jj,_,hl,_,hlen,sk,_,_⟩
 ·exact⟨[.vs []],⟨[],rfl,fun e h=>by(cases h),by simp⟩,_,[],rfl,⟨none,0,0,rfl,rfl,Nat.le_refl _,fun h=>absurd rfl h⟩,rfl⟩
 ·by_cases h0:len=0
  ·subst h0
   exact⟨[.vs []],⟨[],rfl,fun e h=>by(cases h),by simp⟩,_,[],rfl,⟨some a,0,cap,rfl,rfl,hl,fun h=>absurd rfl h⟩,rfl⟩
  subst Jj;rw[DataW.weights,ht]at hw;have cU:len*P.bytesOf e<=reachBytes:=by
   have:=hw ((elems.length+rest.length)*P.bytesOf e) (by simp);have h2:len*P.bytesOf e<=(elems.length+rest.length)*P.bytesOf e:=Nat.mul_le_mul_right _ (by omega);omega
  have Qe:Ie (DataW.weightsAll P e (elems.map (·.1))):=by
   intro n hn;exact hw n (by simp;right;left;simpa using hn)
  have one:∀ i,i<len -> ∃ cs ds,W.cells? 0 (a.add (i*P.cellsOf e)) (P.cellsOf e)=some cs/\S ds/\aY (qQ W) W ds cs:=by
   intro i hi;have h1:=sk i hi;have DC:elems[i]?=some elems[i]:=List.getElem?_eq_getElem (by omega);rw[DC]at h1;obtain⟨cs,h2,h3⟩:=Option.bind_eq_some_iff.1 h1;obtain⟨ds,h4,h5⟩:=he.read h3 (nK (List.mem_map.2 ⟨_,List.mem_of_getElem? DC,rfl⟩) Qe);exact⟨cs,ds,h2,h4,h5⟩
  have hs:a.spot=none:=by
   obtain⟨cs,ds,h1,_,h3⟩:=one 0 (by omega);obtain⟨g1,g2⟩:=nP h1;have eC:0<cs.length:=by omega
   have:=g2 0 cs[0] (List.getElem?_eq_getElem eC);have:=World.cell?_spot this;simpa[Addr.add]using this
  obtain⟨b,off,spot⟩:=a;simp only at hs;subst hs;obtain⟨es,g1,g2,g3⟩:=uQ (e:=e) (S:=S) (W:=W) (b:=b) (k:=P.cellsOf e) (n:=len) (off:=off) fun i hi=>by
   obtain⟨cs,ds,h1,h2,h3⟩:=one i hi;obtain⟨k1,k2⟩:=nP h1;refine⟨cs,ds,k1,fun j v hv=>?_,h2,h3⟩;have:=k2 j v hv;have e1:∀ n m:Nat,(Addr.add ⟨b,n,none⟩ m)=⟨b,n+m,none⟩:=by
    intro n m;unfold Addr.add;split
    ·rename_i h;subst h;rfl
    ·rfl
   rw[e1,e1]at this;exact this
  exact⟨[.vs es],⟨es,rfl,g2,by rw[g1];exact cU⟩,_,[],rfl,⟨some ⟨b,off,none⟩,len,cap,rfl,g1.symm,hl,fun _=>⟨b,off,_,rfl,yE,g3⟩⟩,rfl⟩
end
end Go.PX
namespace Go.PX
def tys:dM:=(.nd (.nd (.nd (.nd (.nd (.nd .lf 3
 ⟨1,8,.int .i64,false,false,some [.int .i64 0]⟩
 .lf) 4
 ⟨1,1,.bool,false,false,some [.bool false]⟩
 .lf) 5
 ⟨1,1,.int .u8,false,false,some [.int .u8 0]⟩
 (.nd (.nd .lf 9
 { size:=1,bytes:=16,kd:=.str,isAgg:=false,held:=false,zero:=some [.str ⟨#[]⟩] }
 .lf) 21
 ⟨1,4,.int .i32,false,false,some [.int .i32 0]⟩
 .lf)) 22
 ⟨1,24,.slice 75,false,false,some [.nils]⟩
 (.nd (.nd (.nd .lf 23
 ⟨1,24,.slice 73,false,false,some [.nils]⟩
 .lf) 25
 ⟨4,64,.struct [(0,22),(1,23),(2,3),(3,3)],true,false,some [.nils,.nils,.int .i64 0,.int .i64 0]⟩
 .lf) 26
 ⟨1,24,.slice 32,false,false,some [.nils]⟩
 (.nd .lf 27
 ⟨1,8,.int .i64,false,false,some [.int .i64 0]⟩
 .lf))) 32
 ⟨1,24,.slice 3,false,false,some [.nils]⟩
 (.nd (.nd (.nd (.nd .lf 50
 ⟨3,24,.array 3 3,true,false,some [.int .i64 0,.int .i64 0,.int .i64 0]⟩
 .lf) 58
 ⟨1,24,.slice 5,false,false,some [.nils]⟩
 .lf) 64
 ⟨1,2,.int .u16,false,false,some [.int .u16 0]⟩
 (.nd .lf 66
 ⟨3,32,.struct [(0,58),(1,5),(2,64)],true,false,some [.nils,.int .u8 0,.int .u16 0]⟩
 .lf)) 73
 ⟨2,16,.struct [(0,3),(1,3)],true,false,some [.int .i64 0,.int .i64 0]⟩
 (.nd (.nd (.nd .lf 75
 { size:=3,bytes:=48,kd:=(.struct [(0,9),(1,3),(2,32)]),isAgg:=true,held:=false,zero:=some [.str ⟨#[]⟩,.int .i64 0,.nils] }
 .lf) 82
 ⟨1,8,.other,false,false,some [.nilf]⟩
 .lf) 85
 ⟨1,24,.slice 9,false,false,some [.nils]⟩
 (.nd .lf 87
 ⟨1,8,.other,false,false,some [.nilp]⟩
 .lf)))) 90
 ⟨5,40,.array 5 3,true,false,some [.int .i64 0,.int .i64 0,.int .i64 0,.int .i64 0,.int .i64 0]⟩
 (.nd (.nd (.nd (.nd (.nd .lf 92
 ⟨6,48,.struct [(0,3),(1,90)],true,false,some [.int .i64 0,.int .i64 0,.int .i64 0,.int .i64 0,.int .i64 0,.int .i64 0]⟩
 .lf) 98
 ⟨1,8,.other,false,false,some [.nilf]⟩
 .lf) 99
 ⟨1,8,.other,false,false,some [.nilf]⟩
 (.nd (.nd .lf 105
 ⟨1,8,.other,false,false,some [.nilp]⟩
 .lf) 109
 ⟨1,24,.slice 114,false,false,some [.nils]⟩
 .lf)) 111
 ⟨4,96,.struct [(0,32),(1,109),(2,26),(3,32)],true,false,some [.nils,.nils,.nils,.nils]⟩
 (.nd (.nd (.nd .lf 114
 ⟨6,48,.struct [(0,3),(1,90)],true,false,some [.int .i64 0,.int .i64 0,.int .i64 0,.int .i64 0,.int .i64 0,.int .i64 0]⟩
 .lf) 117
 ⟨1,8,.map 92 3,false,false,some [.nilm]⟩
 .lf) 122
 ⟨5,72,.struct [(0,25),(4,3)],true,false,some [.nils,.nils,.int .i64 0,.int .i64 0,.int .i64 0]⟩
 (.nd .lf 123
 ⟨1,8,.other,false,false,some [.nilf]⟩
 .lf))) 129
 ⟨7,56,.struct [(0,3),(1,92)],true,false,some [.int .i64 0,.int .i64 0,.int .i64 0,.int .i64 0,.int .i64 0,.int .i64 0,.int .i64 0]⟩
 (.nd (.nd (.nd (.nd .lf 130
 ⟨1,8,.map 129 3,false,false,some [.nilm]⟩
 .lf) 138
 ⟨1,8,.other,false,false,some [.nilf]⟩
 .lf) 141
 ⟨3,24,.struct [(0,87),(1,117),(2,117)],true,false,some [.nilp,.nilm,.nilm]⟩
 (.nd .lf 145
 ⟨1,8,.int .u64,false,false,some [.int .u64 0]⟩
 .lf)) 149
 ⟨2,16,.struct [(0,3),(1,123)],true,false,some [.int .i64 0,.nilf]⟩
 (.nd (.nd (.nd .lf 150
 ⟨1,24,.slice 149,false,false,some [.nils]⟩
 .lf) 151
 ⟨1,8,.other,false,false,some [.nilp]⟩
 .lf) 153
 ⟨1,4,.int .u32,false,false,some [.int .u32 0]⟩
 (.nd .lf 155
 ⟨1,8,.int .u64,false,false,some [.int .u64 0]⟩
 .lf)))))
end Go.PX
namespace Go.PX
open Go.Proofs
theorem aI:bj Try.prog tys:=rD (by decide +kernel)
theorem mixed:Try.prog.follows .mixedOrders=true:=by decide +kernel
theorem bx{f:FuncId}{fn:Func}{c:Code}(hf:Try.prog.funcs[f]?=some fn)(hb:fn.body=some c){ft:FT}{ds:List D}{r:D}(n:Nat)
  (hw:∀ {σ:Type} (Y:Hd σ) (s:σ),FI Try.prog tys ft Y c ⟨dO 0 (inj ds),[],s⟩ (MY tys fn.results.toList fun v h' s'=>(v = .d r/\h' = [])/\s'=s))
  (e7:zK ft fn n=true:=by decide +kernel) (hn:ds.length=n:=by rfl):cy Try.prog f ds r:=xe mixed aI hf hb n e7 hn hw
end Go.PX
namespace Go.PX
def R2:FT:=⟨[0,1,2,3,6,7,8,9,10,11,12,33],[]⟩
def NK:FT:=⟨[0,1,2,3,4,5,6,7,8,9,22,34,35,36,37,50,54,55,56,57,61,67,75,88],[]⟩
def NM:FT:=⟨[0,1,2,3,4,5,6,7,8,20,30,35,55,61,92,94,106],[(19,⟨[],[⟨[1],[]⟩,⟨[95],[]⟩,⟨[7],[0,1]⟩,⟨[96,97],[]⟩,⟨[98],[]⟩,⟨[99],[]⟩,⟨[1],[0,1,2,3,4,5]⟩,⟨[101],[0,1,2,3,4,5]⟩,⟨[102],[0,1,2,3,4,5]⟩,⟨[100,103],[]⟩,⟨[104],[]⟩]⟩)]⟩
def NN:FT:=⟨[0,1,2,4,5,6,7,8,16],[]⟩
def NO:FT:=⟨[0,1,2,4,5,8,9,11,13,22,28,29,30,31,34,35,36,37],[]⟩
def NP:FT:=⟨[0,1,4,5,10,14,25],[(6,⟨[],[⟨[0],[]⟩,⟨[5],[0]⟩,⟨[17,18],[]⟩,⟨[19],[]⟩,⟨[1],[0,1,2,3]⟩,⟨[5],[0,1,2,3,4]⟩,⟨[21,22],[0,1,2,3]⟩,⟨[23],[0,1,2,3]⟩,⟨[20,24],[]⟩]⟩)]⟩
def NQ:FT:=⟨[0,1,2,4,5,6,7,8,17,21,22],[(6,⟨[27,28],[⟨[4],[]⟩,⟨[8],[0]⟩,⟨[25],[0]⟩,⟨[26],[0]⟩,⟨[24,27],[]⟩,⟨[4,28],[]⟩]⟩)]⟩
def NR:FT:=⟨[0,1,4,5,10,14,26],[(6,⟨[],[⟨[0],[]⟩,⟨[5],[0]⟩,⟨[17,18],[]⟩,⟨[19],[]⟩,⟨[1],[0,1,2,3]⟩,⟨[5],[0,1,2,3,4]⟩,⟨[21,22],[0,1,2,3]⟩,⟨[23],[0,1,2,3]⟩,⟨[20,24],[]⟩,⟨[25],[]⟩]⟩)]⟩
def NS:FT:=⟨[0,1,2,4,5,6,7,8,9,10,19,25,26,27,30],[(9,⟨[34,35],[⟨[4],[]⟩,⟨[9],[0]⟩,⟨[32],[0]⟩,⟨[33],[0]⟩,⟨[31,34],[]⟩,⟨[4,35],[]⟩]⟩)]⟩
def NT:FT:=⟨[0,1,2,3,4,5,6,7,8,9,10,11,12,13,14,15,16,17,18,19,20,21,22,23,24,25,27],[(3,⟨[38],[⟨[1],[]⟩,⟨[30],[]⟩,⟨[31],[]⟩,⟨[32],[]⟩,⟨[1],[0,1,2,3]⟩,⟨[34],[0,1,2,3]⟩,⟨[35],[0,1,2,3]⟩,⟨[36],[0,1,2,3]⟩,⟨[33,37],[]⟩,⟨[2],[]⟩,⟨[38,39],[]⟩]⟩),(4,⟨[42],[⟨[1],[]⟩,⟨[],[0]⟩,⟨[42],[0]⟩,⟨[41,43],[]⟩,⟨[44],[]⟩,⟨[40],[]⟩,⟨[40],[5]⟩,⟨[40],[5,6]⟩,⟨[40],[5,6,7]⟩,⟨[45],[6,7,8]⟩,⟨[46],[7,8]⟩,⟨[47],[8]⟩,⟨[48],[]⟩]⟩),(5,⟨[51],[⟨[1],[]⟩,⟨[],[0]⟩,⟨[51],[0]⟩,⟨[50,52],[]⟩,⟨[53],[]⟩,⟨[49],[]⟩,⟨[49],[5]⟩,⟨[54],[6]⟩,⟨[55],[]⟩]⟩),(6,⟨[58],[⟨[1],[]⟩,⟨[],[0]⟩,⟨[58],[0]⟩,⟨[57,59],[]⟩,⟨[60],[]⟩,⟨[56],[]⟩,⟨[56],[5]⟩,⟨[61],[6]⟩,⟨[62],[]⟩]⟩),(7,⟨[65],[⟨[1],[]⟩,⟨[],[0]⟩,⟨[65],[0]⟩,⟨[64,66],[]⟩,⟨[67],[]⟩,⟨[63],[]⟩,⟨[63],[5]⟩,⟨[68],[6]⟩,⟨[69],[]⟩]⟩),(13,⟨[100],[⟨[1],[]⟩,⟨[],[0]⟩,⟨[100],[0]⟩,⟨[99,101],[]⟩,⟨[102],[]⟩,⟨[98],[]⟩,⟨[98],[5]⟩,⟨[103],[6]⟩,⟨[104],[]⟩]⟩),(14,⟨[107],[⟨[1],[]⟩,⟨[],[0]⟩,⟨[107],[0]⟩,⟨[106,108],[]⟩,⟨[109],[]⟩,⟨[105],[]⟩,⟨[105],[5]⟩,⟨[110],[6]⟩,⟨[111],[]⟩]⟩)]⟩
def NU:FT:=⟨[0,1,2,3,4,5,6,13,19],[]⟩
def NV:FT:=⟨[0,1,2,3,4,5,6,7,8,9,10,11,12,19,26,35,44,45,46,49],[(17,⟨[53,54],[⟨[2],[]⟩,⟨[11],[0]⟩,⟨[51],[0]⟩,⟨[52],[0]⟩,⟨[50,53],[]⟩,⟨[12],[0,1,2,3,4]⟩,⟨[2,54],[5]⟩,⟨[8,55],[]⟩]⟩)]⟩
def NW:FT:=⟨[0,1,2,3,5,6,13,21],[]⟩
def NX:FT:=⟨[0,1,2,3,4,5,12,18,21,22,23,38],[(9,⟨[34],[⟨[1],[]⟩,⟨[4],[0]⟩,⟨[26],[0]⟩,⟨[27],[0]⟩,⟨[28],[0]⟩,⟨[5],[0,1,2,3,4]⟩,⟨[30],[0,1,2,3,4]⟩,⟨[29,31],[0]⟩,⟨[25,32],[]⟩,⟨[33],[]⟩,⟨[34],[]⟩,⟨[],[0,1,2,3,4,5,6,7,8,9,10]⟩,⟨[35,36],[]⟩,⟨[37],[]⟩]⟩)]⟩
def NY:FT:=⟨[0,1,2,4,5,6,7,8,10,11,12,20,22,23,24,25,30,35,45],[]⟩
def Iz:FT:=⟨[0,1,2,4,5,6,7,8,9,10,17,25,33,35,48],[(12,⟨[43],[⟨[2],[]⟩,⟨[],[0]⟩,⟨[1],[0,1]⟩,⟨[1],[0,1,2]⟩,⟨[41],[0,1,2]⟩,⟨[42],[0,1,2]⟩,⟨[38,39,40,43],[]⟩,⟨[44],[]⟩,⟨[37],[]⟩,⟨[37],[8]⟩,⟨[45],[9]⟩,⟨[46],[]⟩]⟩)]⟩
def NZ:FT:=⟨[0,1,2,3,6,7,8,9,16,17,18,20,27,31,54,68,69,70,95],[(13,⟨[81],[⟨[3],[]⟩,⟨[8],[0]⟩,⟨[73],[0]⟩,⟨[74],[0]⟩,⟨[75],[0]⟩,⟨[17],[0,1,2,3,4]⟩,⟨[77],[0,1,2,3,4]⟩,⟨[76,78],[0]⟩,⟨[72,79],[]⟩,⟨[80],[]⟩,⟨[81],[]⟩]⟩),(14,⟨[90,91],[⟨[18],[]⟩,⟨[16],[0]⟩,⟨[84],[0]⟩,⟨[1],[0,1,2]⟩,⟨[86],[0,1,2]⟩,⟨[2],[0,1,2,3,4]⟩,⟨[87,88],[0,1,2]⟩,⟨[89],[0,1,2]⟩,⟨[],[0,1,2,3,4,5,6,7]⟩,⟨[83,85,90,91],[]⟩,⟨[92],[]⟩,⟨[82],[]⟩,⟨[82],[11]⟩,⟨[93],[12]⟩,⟨[94],[]⟩]⟩)]⟩
def N0:FT:=⟨[0,1,2,3,6,7,8,9,10,11,30,32,37,48,60],[(8,⟨[9],[⟨[3],[]⟩,⟨[1],[0]⟩,⟨[2],[0,1]⟩,⟨[40,41],[0]⟩,⟨[39,42],[]⟩,⟨[],[0,1,2,3,4]⟩,⟨[9,43],[]⟩]⟩),(13,⟨[],[⟨[3],[]⟩,⟨[9],[0]⟩,⟨[1],[0,1]⟩,⟨[53],[0,1]⟩,⟨[2],[0,1,2,3]⟩,⟨[54,55],[0,1]⟩,⟨[3],[0,1,2,3,4,5]⟩,⟨[11],[0,1,2,3,4,5,6]⟩,⟨[57,58],[0,1,2,3,4,5]⟩,⟨[51,52,56,59],[]⟩]⟩)]⟩
def KH:FT:=⟨[0,1,4,5,17],[]⟩
def N1:FT:=⟨[0,2,3,4,8],[]⟩
def N3:FT:=⟨[0,1,2,4,5,6,7,8,9,13,29],[(4,⟨[],[⟨[2],[]⟩,⟨[1],[0]⟩,⟨[7],[0,1]⟩,⟨[18,19],[0]⟩,⟨[1],[0,1,2,3]⟩,⟨[7],[0,1,2,3,4]⟩,⟨[21,22],[0,1,2,3]⟩,⟨[23],[0,1,2,3]⟩,⟨[17,20,24],[]⟩,⟨[25],[]⟩,⟨[16],[]⟩,⟨[16],[10]⟩,⟨[26],[11]⟩,⟨[27],[]⟩]⟩)]⟩
def N4:FT:=⟨[0,1,4,5,9,17],[]⟩
def N5:FT:=⟨[0,1,2,4,5,6,11,16],[]⟩
def N6:FT:=⟨[0,1,2,3,4,6],[]⟩
def N7:FT:=⟨[0,2,3,5,7,8,9,11,18],[]⟩
def N8:FT:=⟨[0,1,4],[]⟩
def N9:FT:=⟨[0,1,2,3],[]⟩
def Oa:FT:=⟨[0,1,4,5,7,8,9,10,11,14,20],[]⟩
def Ob:FT:=⟨[0,1,2,6],[]⟩
def Oc:FT:=⟨[0,1,4,7,11],[]⟩
def Od:FT:=⟨[0,1,4,5,9,19,33],[(6,⟨[],[⟨[5],[]⟩,⟨[20],[]⟩,⟨[21],[]⟩,⟨[0,22],[]⟩,⟨[5,22],[3]⟩,⟨[22,23,24],[]⟩,⟨[22,25],[]⟩,⟨[0,22],[3,4,5,6]⟩,⟨[5,22],[3,4,5,6,7]⟩,⟨[22,28],[3,4,5,6,7]⟩,⟨[22,27,29],[3,4,5,6]⟩,⟨[22,30],[3,4,5,6]⟩,⟨[22,26,31],[]⟩,⟨[22,32],[]⟩]⟩)]⟩
def Oe:FT:=⟨[0,1,2,4,5,8,10,17,21,25,26,27,28,37],[(13,⟨[47],[⟨[2],[]⟩,⟨[2],[0]⟩,⟨[41],[0]⟩,⟨[42],[0]⟩,⟨[43],[0]⟩,⟨[44],[0]⟩,⟨[40,45],[]⟩,⟨[46],[]⟩,⟨[47],[]⟩,⟨[],[]⟩]⟩)]⟩
def Of:FT:=⟨[0,1,2,4,6,7,8,9,10,11,12,13,14,15,27],[(6,⟨[],[⟨[10],[]⟩,⟨[7],[0]⟩,⟨[8],[0,1]⟩,⟨[4],[0,1,2]⟩,⟨[28],[1,2,3]⟩,⟨[29],[2,3]⟩,⟨[30],[3]⟩,⟨[9,31],[]⟩]⟩),(9,⟨[],[⟨[4],[]⟩,⟨[],[0]⟩,⟨[],[0]⟩,⟨[],[0]⟩,⟨[9,37],[]⟩]⟩)]⟩
def Og:FT:=⟨[0,1,2,4,7,8,21,29],[(7,⟨[],[⟨[1],[]⟩,⟨[8],[0]⟩,⟨[32,33],[]⟩,⟨[34],[]⟩,⟨[2],[0,1,2,3]⟩,⟨[36],[0,1,2,3]⟩,⟨[37],[0,1,2,3]⟩,⟨[35,38],[]⟩,⟨[39],[]⟩]⟩)]⟩
def Oh:FT:=⟨[0,1,2,4,5,6,7,8,9,12,20,33],[(7,⟨[],[⟨[7],[]⟩,⟨[12],[0]⟩,⟨[35],[1]⟩,⟨[5,36],[]⟩,⟨[],[]⟩]⟩)]⟩
def Oi:FT:=⟨[0,1,2,4,5,6,13,23],[]⟩
def Oj:FT:=⟨[0,1,2,3,4],[]⟩
def KI:FT:=⟨[0,2,3],[]⟩
def KJ:FT:=⟨[0,1,2,6,7,8,9,11,16,27],[]⟩
def Ok:FT:=⟨[0,1,2,3,6,7,8,9,10,11,12,13,14,15,30,34,57,59,65,113],[(8,⟨[],[⟨[9],[]⟩,⟨[37],[]⟩,⟨[3,38],[]⟩,⟨[38,39],[]⟩,⟨[2,38],[2,3]⟩,⟨[10,38],[2,3,4]⟩,⟨[38,41,42],[2,3]⟩,⟨[38,43],[2,3]⟩,⟨[38,40,44],[]⟩,⟨[38,45],[]⟩,⟨[38,46],[]⟩,⟨[3,38],[2,3,4,5,6,7,8,9,10]⟩,⟨[38,48],[2,3,4,5,6,7,8,9,10]⟩,⟨[8,38],[2,3,4,5,6,7,8,9,10,11,12]⟩,⟨[38,49,50],[2,3,4,5,6,7,8,9,10]⟩,⟨[38,51],[2,3,4,5,6,7,8,9,10]⟩,⟨[38,52],[2,3,4,5,6,7,8,9,10]⟩,⟨[38,47,53],[]⟩,⟨[38,54],[]⟩,⟨[55],[]⟩]⟩),(19,⟨[],[⟨[11],[]⟩,⟨[75],[]⟩,⟨[76],[]⟩,⟨[3,77],[]⟩,⟨[77,78],[]⟩,⟨[13,77],[3,4]⟩,⟨[77,79,80],[]⟩,⟨[77,81],[]⟩,⟨[77,82],[]⟩,⟨[8,77],[3,4,5,6,7,8]⟩,⟨[77,83,84],[]⟩,⟨[77,85],[]⟩,⟨[86],[]⟩,⟨[11,87],[]⟩,⟨[87,88],[]⟩,⟨[87,89],[]⟩,⟨[1,90],[]⟩,⟨[13,90],[16]⟩,⟨[90,91,92],[]⟩,⟨[3,90],[16,17,18]⟩,⟨[90,94],[16,17,18]⟩,⟨[90,93,95],[]⟩,⟨[87,90,96],[]⟩,⟨[87,97],[]⟩,⟨[98],[]⟩,⟨[11,99],[]⟩,⟨[99,100],[]⟩,⟨[99,101],[]⟩,⟨[14,102],[]⟩,⟨[102,103],[]⟩,⟨[99,102,104],[]⟩,⟨[99,105],[]⟩,⟨[14,106],[]⟩,⟨[3,106],[32]⟩,⟨[106,108],[32]⟩,⟨[106,107,109],[]⟩,⟨[99,106,110],[]⟩,⟨[99,111],[]⟩,⟨[112],[]⟩]⟩)]⟩
def Gp:FT:=⟨[0,2],[]⟩
def KL:FT:=⟨[0,1,2,3,4,6,12,13,16,28,30,34],[(1,⟨[],[⟨[2],[]⟩,⟨[7],[]⟩,⟨[8],[]⟩,⟨[9],[]⟩,⟨[3],[0,1,2,3]⟩,⟨[10,11],[]⟩]⟩),(7,⟨[],[⟨[2],[]⟩,⟨[18],[]⟩,⟨[19],[]⟩,⟨[20],[]⟩,⟨[3],[0,1,2,3]⟩,⟨[21,22],[]⟩]⟩),(8,⟨[],[⟨[2],[]⟩,⟨[23],[]⟩,⟨[24],[]⟩,⟨[25],[]⟩,⟨[3],[0,1,2,3]⟩,⟨[26,27],[]⟩]⟩),(11,⟨[],[⟨[2],[]⟩,⟨[35],[]⟩,⟨[36],[]⟩,⟨[37],[]⟩,⟨[3],[0,1,2,3]⟩,⟨[38,39],[]⟩]⟩),(13,⟨[],[⟨[2],[]⟩,⟨[40],[]⟩,⟨[41],[]⟩,⟨[42],[]⟩,⟨[3],[0,1,2,3]⟩,⟨[43,44],[]⟩]⟩)]⟩
def Ol:FT:=⟨[0,1,2,4,5,6,10],[(5,⟨[],[⟨[2],[]⟩,⟨[5],[0]⟩,⟨[1],[0,1]⟩,⟨[6],[0,1,2]⟩,⟨[15,16],[0,1]⟩,⟨[17],[0,1]⟩,⟨[13,14,18],[]⟩,⟨[5,19],[]⟩]⟩)]⟩
def KM:FT:=⟨[0,1,2,3,4,5,6,8,19,25,27],[(1,⟨[5],[⟨[2],[]⟩,⟨[10],[]⟩,⟨[11],[]⟩,⟨[12],[]⟩,⟨[3],[0,1,2,3]⟩,⟨[13,14],[]⟩,⟨[15],[]⟩,⟨[9],[]⟩,⟨[9],[7]⟩,⟨[],[0,1,2,3,4,5,6,7,8]⟩,⟨[5,16],[8]⟩,⟨[17],[]⟩]⟩),(3,⟨[],[⟨[2],[]⟩,⟨[20],[]⟩,⟨[21],[]⟩,⟨[22],[]⟩,⟨[3],[0,1,2,3]⟩,⟨[23,24],[]⟩]⟩),(5,⟨[],[⟨[5],[]⟩,⟨[2],[0]⟩,⟨[8],[0,1]⟩,⟨[29,30],[0]⟩,⟨[31],[0]⟩,⟨[28,32],[]⟩,⟨[5,33],[]⟩]⟩),(6,⟨[],[⟨[2],[]⟩,⟨[34],[]⟩,⟨[35],[]⟩,⟨[36],[]⟩,⟨[3],[0,1,2,3]⟩,⟨[5],[0,1,2,3,4]⟩,⟨[37,38,39],[]⟩]⟩)]⟩
def Om:FT:=⟨[0,1,2,3,4,6,7,8,9,22,31,35,40],[]⟩
def On:FT:=⟨[0,1,4,5,6,7,8,9,15,49,51,52,53,63],[]⟩
def Oo:FT:=⟨[0,1,3],[]⟩
def Gq:FT:=⟨[0,1,2,3,4,5,6,7,8,9,10,11,12,13,14,19,26,30,31,32,46,59],[(12,⟨[],[⟨[13],[]⟩,⟨[5],[0]⟩,⟨[61],[0]⟩,⟨[10],[0,1,2]⟩,⟨[63],[0,1,2]⟩,⟨[60,62],[]⟩,⟨[64,65],[]⟩]⟩),(14,⟨[],[⟨[7],[]⟩,⟨[5],[0]⟩,⟨[67,68],[]⟩,⟨[69],[]⟩,⟨[67,68],[2,3]⟩,⟨[71],[2,3]⟩,⟨[67,70,72],[]⟩]⟩)]⟩
def IA:FT:=⟨[0,1,2,3,4,5,8,9,10,11,12,13,16,22,31,49,66],[(3,⟨[],[⟨[3],[]⟩,⟨[17],[]⟩,⟨[18],[]⟩,⟨[5],[0,1,2]⟩,⟨[20],[0,1,2]⟩,⟨[19,21],[]⟩]⟩),(5,⟨[],[⟨[4],[]⟩,⟨[5],[0]⟩,⟨[4],[0,1]⟩,⟨[25],[0,1]⟩,⟨[23,24,26],[]⟩,⟨[27],[]⟩]⟩),(9,⟨[],[⟨[2],[]⟩,⟨[34],[]⟩,⟨[35],[]⟩,⟨[36],[]⟩,⟨[37],[]⟩,⟨[38],[]⟩,⟨[2,39],[]⟩,⟨[39,40],[]⟩,⟨[39,41],[]⟩,⟨[10,39],[6,7,8]⟩,⟨[11,39],[6,7,8,9]⟩,⟨[39,43,44],[6,7,8]⟩,⟨[39,45],[6,7,8]⟩,⟨[39,42,46],[]⟩,⟨[39,47],[]⟩,⟨[39,48],[]⟩]⟩),(10,⟨[],[⟨[4],[]⟩,⟨[4],[0]⟩,⟨[5],[0,1]⟩,⟨[10],[0,1,2]⟩,⟨[11],[0,1,2,3]⟩,⟨[54,55],[0,1,2]⟩,⟨[56],[0,1,2]⟩,⟨[52,53,57],[0]⟩,⟨[2],[0,1,2,3,4,5,6,7]⟩,⟨[59],[0,1,2,3,4,5,6,7]⟩,⟨[3],[0,1,2,3,4,5,6,7,8,9]⟩,⟨[61],[0,1,2,3,4,5,6,7,8,9]⟩,⟨[51,58,60,62],[]⟩,⟨[63],[]⟩,⟨[50],[]⟩,⟨[50],[14]⟩,⟨[64],[15]⟩,⟨[65],[]⟩]⟩),(13,⟨[80,81],[⟨[3],[]⟩,⟨[3],[0]⟩,⟨[75],[0]⟩,⟨[76],[0]⟩,⟨[5],[0,1,2,3]⟩,⟨[78],[0,1,2,3]⟩,⟨[79],[0,1,2,3]⟩,⟨[77,80],[0]⟩,⟨[74],[]⟩,⟨[81,82],[]⟩]⟩)]⟩
def Oq:FT:=⟨[0,1,2,3,4,5,8,9,10,11,12,13,14,15,16,21,27,40,57],[(10,⟨[],[⟨[4],[]⟩,⟨[9],[0]⟩,⟨[13],[0,1]⟩,⟨[31,32],[0]⟩,⟨[33],[0]⟩,⟨[3],[0,1,2,3,4]⟩,⟨[30,34,35],[]⟩,⟨[36],[]⟩]⟩),(14,⟨[16],[⟨[4],[]⟩,⟨[9],[0]⟩,⟨[13],[0,1]⟩,⟨[44,45],[0]⟩,⟨[46],[0]⟩,⟨[14],[0,1,2,3,4]⟩,⟨[15],[0,1,2,3,4,5]⟩,⟨[48,49],[0,1,2,3,4]⟩,⟨[50],[0,1,2,3,4]⟩,⟨[43,47,51],[]⟩,⟨[],[0,1,2,3,4,5,6,7,8,9]⟩,⟨[16,52],[]⟩]⟩),(16,⟨[60,61,65,66],[⟨[11],[]⟩,⟨[16],[0]⟩,⟨[59],[0]⟩,⟨[58,60],[]⟩,⟨[12],[0,1,2,3]⟩,⟨[16],[0,1,2,3,4]⟩,⟨[63],[4]⟩,⟨[64],[4]⟩,⟨[62,65],[]⟩,⟨[61],[]⟩,⟨[66],[]⟩]⟩)]⟩
def Ot:FT:=⟨[0,1,4],[]⟩
def Ou:FT:=⟨[0,1,2,4],[]⟩
def Ov:FT:=⟨[0,1,4,5,7,8,9,16],[]⟩
def Ow:FT:=⟨[0,2,3,7,11,23,45],[]⟩
def Ox:FT:=⟨[0,1,4,5,9,17],[]⟩
def Oy:FT:=⟨[0,1,2,3,4,6,7,8,10,11,21,27,38,39,40,41,49],[(1,⟨[8],[⟨[3],[]⟩,⟨[12],[]⟩,⟨[13],[]⟩,⟨[14],[]⟩,⟨[15],[]⟩,⟨[4],[0,1,2,3,4]⟩,⟨[17],[0,1,2,3,4]⟩,⟨[16,18],[]⟩,⟨[19],[]⟩,⟨[],[0,1,2,3,4,5,6,7,8]⟩,⟨[8,20],[]⟩]⟩),(11,⟨[],[⟨[10],[]⟩,⟨[50],[]⟩,⟨[2],[0,1]⟩,⟨[11],[0,1,2]⟩,⟨[52,53],[0,1]⟩,⟨[54],[0,1]⟩,⟨[51],[2,3,4,5]⟩,⟨[55],[]⟩]⟩)]⟩
def Oz:FT:=⟨[0,1,2,4,6,7,8,25,26,27,32,36,41],[(1,⟨[],[⟨[4],[]⟩,⟨[9],[]⟩,⟨[10],[]⟩,⟨[0],[0,1,2]⟩,⟨[12],[0,1,2]⟩,⟨[13],[0,1,2]⟩,⟨[14],[0,1,2]⟩,⟨[15],[0,1,2]⟩,⟨[16],[0,1,2]⟩,⟨[11,17],[]⟩,⟨[4],[]⟩,⟨[18,19],[]⟩]⟩)]⟩
def KO:FT:=⟨[0,1,2,3,4,5],[]⟩
def IB:FT:=⟨[0,1,2,3,4,5,7,8,10,23,50,61],[(1,⟨[],[⟨[1],[]⟩,⟨[11],[]⟩,⟨[2],[0,1]⟩,⟨[13],[0,1]⟩,⟨[14],[0,1]⟩,⟨[15],[0,1]⟩,⟨[16],[0,1]⟩,⟨[3],[0,1,2,3,4,5,6]⟩,⟨[18],[0,1,2,3,4,5,6]⟩,⟨[17,19],[0,1]⟩,⟨[20],[0,1]⟩,⟨[21],[0,1]⟩,⟨[12,22],[]⟩]⟩),(3,⟨[],[⟨[8],[]⟩,⟨[31],[]⟩,⟨[32],[]⟩,⟨[4,33],[]⟩,⟨[1,33],[3]⟩,⟨[2,33],[3,4]⟩,⟨[3,33],[3,4,5]⟩,⟨[1,33],[3,4,5,6]⟩,⟨[33,36,37,38],[3,4]⟩,⟨[33,34,35,39],[]⟩,⟨[33,40],[]⟩,⟨[41],[]⟩]⟩)]⟩
def OA:FT:=⟨[0,1,4,5,9,21],[]⟩
def OB:FT:=⟨[0,1,4,5,21],[]⟩
def OC:FT:=⟨[0,1,2,3,4,6,7,8,9,10,11,12,13,28,37,101],[(1,⟨[],[⟨[3],[]⟩,⟨[14],[]⟩,⟨[4],[0,1]⟩,⟨[16],[0,1]⟩,⟨[15,17],[]⟩,⟨[18],[]⟩,⟨[19],[]⟩,⟨[3],[0,1,2,3,4,5,6]⟩,⟨[21],[0,1,2,3,4,5,6]⟩,⟨[22],[0,1,2,3,4,5,6]⟩,⟨[20,23],[]⟩,⟨[24],[]⟩]⟩),(11,⟨[],[⟨[10],[]⟩,⟨[47],[]⟩,⟨[3,48],[]⟩,⟨[48,49],[]⟩,⟨[13,48],[2,3]⟩,⟨[48,50,51],[]⟩,⟨[48,52],[]⟩,⟨[48,53],[]⟩,⟨[3,48],[2,3,4,5,6,7]⟩,⟨[48,55],[2,3,4,5,6,7]⟩,⟨[4,48],[2,3,4,5,6,7,8,9]⟩,⟨[48,57],[2,3,4,5,6,7,8,9]⟩,⟨[48,56,58],[2,3,4,5,6,7]⟩,⟨[48,59],[2,3,4,5,6,7]⟩,⟨[48,60],[2,3,4,5,6,7]⟩,⟨[48,54,61],[]⟩,⟨[48,62],[]⟩,⟨[63],[]⟩]⟩),(12,⟨[],[⟨[11],[]⟩,⟨[64],[]⟩,⟨[2,65],[]⟩,⟨[13,65],[2]⟩,⟨[65,66,67],[]⟩,⟨[65,68],[]⟩,⟨[69],[]⟩,⟨[3,70],[]⟩,⟨[70,71],[]⟩,⟨[13,70],[7,8]⟩,⟨[70,72,73],[]⟩,⟨[70,74],[]⟩,⟨[70,75],[]⟩,⟨[4,70],[7,8,9,10,11,12]⟩,⟨[70,77],[7,8,9,10,11,12]⟩,⟨[70,76,78],[]⟩,⟨[70,79],[]⟩,⟨[70,80],[]⟩,⟨[81],[]⟩,⟨[13,82],[]⟩,⟨[4,82],[19]⟩,⟨[82,83,84],[]⟩,⟨[82,85],[]⟩,⟨[82,86],[]⟩,⟨[82,87],[]⟩,⟨[88],[]⟩,⟨[13,89],[]⟩,⟨[4,89],[26]⟩,⟨[89,90,91],[]⟩,⟨[89,92],[]⟩,⟨[3,89],[26,27,28,29]⟩,⟨[89,94],[26,27,28,29]⟩,⟨[89,93,95],[]⟩,⟨[89,96],[]⟩,⟨[97],[]⟩]⟩)]⟩
def OD:FT:=⟨[0,1,2,3,4,8],[]⟩
def OE:FT:=⟨[0,2],[]⟩
def Kt:FT:=⟨[0,2],[]⟩
def Ku:FT:=⟨[0,1,4,5,10,12,13,14,24],[(6,⟨[],[⟨[0],[]⟩,⟨[5],[0]⟩,⟨[16,17],[]⟩,⟨[18],[]⟩,⟨[1],[0,1,2,3]⟩,⟨[5],[0,1,2,3,4]⟩,⟨[20,21],[0,1,2,3]⟩,⟨[22],[0,1,2,3]⟩,⟨[19,23],[]⟩]⟩)]⟩
def Kv:FT:=⟨[0,1,4,5,7,8,9,16],[]⟩
def Kw:FT:=⟨[0,1,2,6],[]⟩
def Kx:FT:=⟨[0,1,2,4],[(1,⟨[],[⟨[1],[]⟩,⟨[5],[]⟩,⟨[6],[]⟩,⟨[7],[]⟩,⟨[8],[]⟩,⟨[0],[0,1,2,3,4]⟩,⟨[9,10],[]⟩,⟨[11],[]⟩,⟨[12],[]⟩,⟨[2],[0,1,2,3,4,5,6,7,8]⟩,⟨[14],[0,1,2,3,4,5,6,7,8]⟩,⟨[13,15],[]⟩,⟨[16],[]⟩]⟩)]⟩
def Ky:FT:=⟨[0,1,2,4],[(1,⟨[],[⟨[1],[]⟩,⟨[5],[]⟩,⟨[6],[]⟩,⟨[7],[]⟩,⟨[0],[0,1,2,3]⟩,⟨[8,9],[]⟩,⟨[10],[]⟩,⟨[11],[]⟩,⟨[12],[]⟩,⟨[1,13],[]⟩,⟨[13,14],[]⟩,⟨[13,15],[]⟩,⟨[13,16],[]⟩,⟨[13,17],[]⟩,⟨[0,13],[9,10,11,12,13]⟩,⟨[13,18,19],[]⟩,⟨[13,20],[]⟩,⟨[13,21],[]⟩,⟨[2,13],[9,10,11,12,13,14,15,16,17]⟩,⟨[13,23],[9,10,11,12,13,14,15,16,17]⟩,⟨[13,22,24],[]⟩,⟨[13,25],[]⟩,⟨[26],[]⟩]⟩)]⟩
def Kz:FT:=⟨[0,1,4],[]⟩
def KA:FT:=⟨[0,1,2,4],[(1,⟨[],[⟨[0],[]⟩,⟨[1],[0]⟩,⟨[5,6],[]⟩,⟨[7],[]⟩,⟨[2],[0,1,2,3]⟩,⟨[9],[0,1,2,3]⟩,⟨[10],[0,1,2,3]⟩,⟨[11],[0,1,2,3]⟩,⟨[12],[0,1,2,3]⟩,⟨[8,13],[]⟩,⟨[14],[]⟩]⟩)]⟩
def KB:FT:=⟨[0,1,3],[]⟩
def KC:FT:=⟨[0,2],[]⟩
def KD:FT:=⟨[0,2],[]⟩
def KE:FT:=⟨[0,1,4,5,7,8,9,16],[]⟩
def KF:FT:=⟨[0,2],[]⟩
end Go.PX
namespace Go.PX
open Go.Proofs
def aj(l:List Int):D:=.vs (l.map fun n=>[i64 n])
def iN(n lo hi:Int):Bool:=decide (lo<=n)&&decide (n<=hi)
theorem Kq(n lo hi:Int):cy Try.prog 103 [i64 n,i64 lo,i64 hi] (.bool (iN n lo hi)):=by
 refine xe mixed aI Try.func103 rfl (ft:=Kw) 3 (by decide +kernel) rfl fun {σ} Y s=>?_;conv=>whnf
 refine ak (fun hb=>?_) (fun hb=>?_)
 ·conv=>whnf
  refine ba 0 rfl ⟨⟨?_,rfl⟩,rfl⟩;simp[j6,iN]at hb ⊢;simp[hb]
 ·conv=>whnf
  refine ba 0 rfl ⟨⟨?_,rfl⟩,rfl⟩;simp[j6,iN]at hb ⊢;omega
def indexOf{α:Type}(p:α->Bool):List α->Int->Int
 | [],_=>-1
 | x::r,i=>if p x then i else indexOf p r (i+1)
theorem iO{α:Type}(p:α->Bool):∀ (l:List α) (i:Int),0<=i->decide (indexOf p l i≥0)=l.any p
 | [],i,_=>by simp[indexOf]
 | x::r,i,h=>by
  simp only[indexOf,List.any_cons];split
  ·rename_i hp;simp[hp,h]
  ·rename_i hp
   rw[iO p r (i+1) (by omega)];simp[hp]
theorem Bt(l:List Int)(g:FuncId)(bS:List D)(p:Int->Bool)(hl:l.length<4000000000000000000)(hp:∀ x∈l,cy Try.prog g (i64 x::bS) (.bool (p x))) :
  cy Try.prog 102 [aj l,.clo g bS] (i64 (indexOf p l 0)):=by
 refine xe mixed aI Try.func102 rfl (ft:=Kv) 2 (by decide +kernel) rfl fun {σ} Y s=>?_;conv=>whnf
 refine fM (T:=tys) aI (by exact au mixed aI (by decide +kernel)) (α:=Nat)
  (fun i=>⟨[(0,.d (aj l)),(1,.d (.clo g bS)),(7,.d (i64 l.length)),(8,.d (i64 i))],[],s⟩) (fun i=>i<=l.length/\indexOf p l 0=indexOf p (l.drop i) i) (fun i=>l.length-i) 0
  (Wk.sub ⟨rfl,rfl,by simp[PX.get],rfl,trivial⟩ trivial) (by simp) ?_
 rintro i ⟨hi,he⟩;conv=>whnf
 refine ak (fun hb=>?_) (fun hb=>?_)
 ·have hb:i<l.length:=by simpa using hb
  have hd:l.drop i=l[i]::l.drop (i+1):=List.drop_eq_getElem_cons hb;rw[hd,indexOf]at he;conv=>whnf
  refine fQ [i64 l[i]] (by simp[hb]) ?_;conv=>whnf
  refine aH (ds:=i64 l[i]::bS) (hp _ (List.getElem_mem hb)) rfl rfl ?_;conv=>whnf
  refine ak (fun h1=>?_) (fun h1=>?_)
  ·conv=>whnf
   rw[if_pos h1]at he;rw[he];exact ax
  ·conv=>whnf
   rw[if_neg (by simp[h1])]at he;refine ah ?_;conv=>whnf
   exact⟨i+1,by omega,⟨hb,by rw[he];rfl⟩,Wk.sub ⟨rfl,rfl,rfl,rfl,trivial⟩ trivial⟩
 ·have hb:¬ i<l.length:=by simpa using hb
  conv=>whnf
  rw[List.drop_of_length_le (by omega)]at he;rw[he];exact ax
theorem Kr(l:List Int)(g:FuncId)(bS:List D)(p:Int->Bool)(hl:l.length<4000000000000000000)(hp:∀ x∈l,cy Try.prog g (i64 x::bS) (.bool (p x))) :
  cy Try.prog 86 [aj l,.clo g bS] (.bool (l.any p)):=by
 refine xe mixed aI Try.func86 rfl (ft:=Ot) 2 (by decide +kernel) rfl fun {σ} Y s=>?_;conv=>whnf
 refine aH (Bt l g bS p hl hp) rfl rfl ?_;conv=>whnf
 refine ba 0 rfl ⟨⟨?_,rfl⟩,rfl⟩;rw[<- iO p l 0 (by omega)];rfl
theorem vi(a b:List Int)(ha:a.length<1000000):cy Try.prog 21 [aj a,aj b] (.bool (decide (a=b))):=by
 refine bx Try.func21 rfl (ft:=NP) 2 fun {σ} Y st=>?_;conv=>whnf
 refine ak (fun h0=>?_) (fun h0=>?_)
 ·have h0:a.length≠b.length:=by
   intro e;simp[e]at h0
  conv=>whnf
  rw[decide_eq_false (by rintro rfl;exact h0 rfl)];exact ax
 ·have h0:a.length=b.length:=by
   have:=h0;simp at this;omega
  conv=>whnf
  refine fM (T:=tys) aI (by exact au mixed aI (by decide +kernel)) (α:=Nat)
   (fun i=>⟨[(0,.d (aj a)),(1,.d (aj b)),(5,.d (i64 i))],[],st⟩) (fun i=>i<=a.length/\a.take i=b.take i) (fun i=>a.length-i) 0
   aw (by simp) ?_
  rintro i ⟨hi,he⟩;conv=>whnf
  refine ak (fun hc=>?_) (fun hc=>?_)
  ·have hc:i<a.length:=by simpa using hc
   have sR:i<b.length:=by omega
   conv=>whnf
   refine fQ [i64 a[i]] (by simp[hc]) ?_;conv=>whnf
   refine fQ [i64 b[i]] (by simp[sR]) ?_;conv=>whnf
   refine ak (fun h1=>?_) (fun h1=>?_)
   ·conv=>whnf
    have h1:a[i]≠b[i]:=by simpa using h1
    rw[decide_eq_false (by rintro rfl;exact h1 rfl)];exact ax
   ·have h1:a[i]=b[i]:=by simpa using h1
    conv=>whnf
    refine ah ?_;conv=>whnf
    exact⟨i+1,by omega,⟨hc,by rw[List.take_succ_eq_append_getElem hc,List.take_succ_eq_append_getElem sR,he,h1]⟩,Wk.sub ⟨rfl,rfl,rfl,trivial⟩ trivial⟩
  ·have hc:¬ i<a.length:=by simpa using hc
   conv=>whnf
   rw[List.take_of_length_le (by omega),List.take_of_length_le (by omega)]at he;rw[decide_eq_true he];exact ax
def zy(l:List ByteArray):D:=.vs (l.map fun s=>[.str s])
theorem Kp(l:List ByteArray)(x:ByteArray)(hl:l.length<1000000):cy Try.prog 90 [zy l,.str x] (i64 (indexOf (fun y=>decide (y=x)) l 0)):=by
 refine bx Try.func90 rfl (ft:=Ox) 2 fun {σ} Y st=>?_;conv=>whnf
 refine fM (T:=tys) aI (by exact au mixed aI (by decide +kernel)) (α:=Nat)
  (fun i=>⟨[(0,.d (zy l)),(1,.d (.str x)),(5,.d (i64 i))],[],st⟩) (fun i=>i<=l.length/\indexOf (fun y=>decide (y=x)) l 0=indexOf (fun y=>decide (y=x)) (l.drop i) i) (fun i=>l.length-i) 0
  aw (by simp) ?_
 rintro i ⟨hi,he⟩;conv=>whnf
 refine ak (fun hb=>?_) (fun hb=>?_)
 ·have hb:i<l.length:=by simpa using hb
  have hd:l.drop i=l[i]::l.drop (i+1):=List.drop_eq_getElem_cons hb;rw[hd,indexOf]at he;conv=>whnf
  refine fQ [.str l[i]] (by simp[hb]) ?_;conv=>whnf
  refine ak (fun h1=>?_) (fun h1=>?_)
  ·conv=>whnf
   rw[if_pos h1]at he;rw[he];exact ax
  ·conv=>whnf
   rw[if_neg (by rw[h1];simp)]at he;refine ah ?_;conv=>whnf
   exact⟨i+1,by omega,⟨hb,by rw[he];rfl⟩,Wk.sub ⟨rfl,rfl,rfl,trivial⟩ trivial⟩
 ·have hb:¬ i<l.length:=by simpa using hb
  conv=>whnf
  rw[List.drop_of_length_le (by omega)]at he;rw[he];exact ax
def pn(b:List UInt8)(i:Nat)(c:UInt8):Bool:=
 (decide (97<=c.toNat)&&decide (c.toNat<=122))||(decide (c.toNat=45)&&decide (i≠0)&&decide (i+1≠b.length)&&(match b[i-1]? with
  | some p=>decide (p.toNat≠45)
  | none=>false))
def lA(b:List UInt8):Nat->List UInt8->Bool
 | _,[]=>true
 | i,c::r=>pn b i c&&lA b (i+1) r
def jn(s:ByteArray):Bool:=iN s.size 1 14&&lA s.data.toList 0 s.data.toList
theorem Ko(s:ByteArray):cy Try.prog 89 [.str s] (.bool (jn s)):=by
 refine bx Try.func89 rfl (ft:=Ow) 1 fun {σ} Y st=>?_;have cU:s.size=s.data.toList.length:=by simp
 conv=>whnf
 refine aH (ds:=[i64 s.size,i64 1,i64 14]) (Kq _ _ _) rfl rfl ?_;conv=>whnf
 refine ak (fun h0=>?_) (fun h0=>?_)
 ·conv=>whnf
  have:jn s=false:=by simp at h0;simp[jn,h0]
  rw[this];exact ax
 ·have h0:iN s.size 1 14=true:=by simpa using h0
  have hlen:s.data.toList.length<=14:=by
   simp only[iN,Bool.and_eq_true,decide_eq_true_eq]at h0;omega
  have hn:jn s=lA s.data.toList 0 s.data.toList:=by simp[jn,h0]
  rw[hn];conv=>whnf
  refine fM (T:=tys) aI (by exact au mixed aI (by decide +kernel)) (α:=Nat)
   (fun i=>⟨[(0,.d (.str s)),(3,.d (i64 i))],[],st⟩) (fun i=>i<=s.data.toList.length/\lA s.data.toList 0 s.data.toList=lA s.data.toList i (s.data.toList.drop i)) (fun i=>s.data.toList.length-i) 0
   aw (by simp) ?_
  rintro i ⟨hi,he⟩;conv=>whnf
  refine ak (fun hc=>?_) (fun hc=>?_)
  ·have hc:i<s.data.toList.length:=by
    have:=of_decide_eq_true hc;omega
   obtain⟨c,Gv⟩:∃ c,s.data.toList[i]?=some c:=⟨_,List.getElem?_eq_getElem hc⟩;have hd:s.data.toList.drop i=c::s.data.toList.drop (i+1):=by
    rw[List.drop_eq_getElem_cons hc];rw[List.getElem?_eq_getElem hc]at Gv;rw[Option.some.inj Gv]
   rw[hd,lA]at he;have bad:pn s.data.toList i c=false->pJ [V.d (.bool false)] [] st fun v h' s'=>(v=V.d (.bool (lA s.data.toList 0 s.data.toList))/\h' = [])/\s'=st:=by
    intro hb;rw[he,hb];exact ax
   have Ak:pn s.data.toList i c=true -> ∀ {st':St σ},Wk st' ⟨[(0,.d (.str s)),(3,.d (i64 ((i:Int)+1)))],[],st⟩ -> ∃ y,s.data.toList.length-y<s.data.toList.length-i/\(y<=s.data.toList.length/\lA s.data.toList 0 s.data.toList=lA s.data.toList y (s.data.toList.drop y)) /\
     Wk st' ⟨[(0,.d (.str s)),(3,.d (i64 (y:Nat)))],[],st⟩:=by
    intro hb st' hw;exact⟨i+1,by omega,⟨hc,by rw[he,hb];rfl⟩,by simpa using hw⟩
   conv=>whnf
   refine gf c (by simpa using Gv) ?_;conv=>whnf
   refine ak (fun h1=>?_) (fun h1=>?_)
   ·have h1:97<=c.toNat:=by
     have:=of_decide_eq_true h1;omega
    conv=>whnf
    refine gf c (by simpa using Gv) ?_;conv=>whnf
    refine ak (fun h2=>?_) (fun h2=>?_)
    ·have h2:c.toNat<=122:=by
      have:=of_decide_eq_true h2;omega
     conv=>whnf
     refine ah ?_;conv=>whnf
     exact Ak (by simp[pn,h1,h2]) aw
    ·have h2:¬ c.toNat<=122:=by
      have:=of_decide_eq_false h2;omega
     conv=>whnf
     refine gf c (by simpa using Gv) ?_;conv=>whnf
     refine ak (fun k1=>?_) (fun k1=>?_)
     ·have k1:c.toNat≠45:=by
       have:=k1;simp at this;omega
      conv=>whnf
      exact bad (by simp[pn,k1];omega)
     ·have k1:c.toNat=45:=by
       have:=k1;simp at this;omega
      conv=>whnf
      refine ak (fun k2=>?_) (fun k2=>?_)
      ·have k2:i=0:=by
        have:=of_decide_eq_true k2;omega
       conv=>whnf
       exact bad (by simp[pn,k1,k2])
      ·have k2:i≠0:=by
        have:=of_decide_eq_false k2;omega
       conv=>whnf
       refine ah ?_;conv=>whnf
       refine ak (fun k3=>?_) (fun k3=>?_)
       ·have k3:i+1=s.data.toList.length:=by
         have:=of_decide_eq_true k3;omega
        conv=>whnf
        exact bad (by simp only[pn,k1,k3];simp)
       ·have k3:i+1≠s.data.toList.length:=by
         have:=of_decide_eq_false k3;omega
        obtain⟨p,hp⟩:∃ p,s.data.toList[i-1]?=some p:=⟨_,List.getElem?_eq_getElem (by omega)⟩;conv=>whnf
        refine ah ?_;conv=>whnf
        refine aR (by simp;omega) ?_;conv=>whnf
        refine gf p (by rw[show((i:Int)-1).toNat=i-1 by omega];exact hp) ?_;conv=>whnf
        refine ak (fun k4=>?_) (fun k4=>?_)
        ·have k4:p.toNat=45:=by
          have:=of_decide_eq_true k4;omega
         conv=>whnf
         exact bad (by simp only[pn,hp,k4,k1];simp)
        ·have k4:p.toNat≠45:=by
          have:=of_decide_eq_false k4;omega
         conv=>whnf
         refine ah ?_;conv=>whnf
         exact Ak (by simp only[pn,hp,k1];simp[k2,k4];omega) aw
   ·have h1:¬ 97<=c.toNat:=by
     have:=of_decide_eq_false h1;omega
    conv=>whnf
    refine gf c (by simpa using Gv) ?_;conv=>whnf
    refine ak (fun k1=>?_) (fun k1=>?_)
    ·have k1:c.toNat≠45:=by
      have:=k1;simp at this;omega
     conv=>whnf
     exact bad (by simp[pn,k1];omega)
    ·have k1:c.toNat=45:=by
      have:=k1;simp at this;omega
     conv=>whnf
     refine ak (fun k2=>?_) (fun k2=>?_)
     ·have k2:i=0:=by
       have:=of_decide_eq_true k2;omega
      conv=>whnf
      exact bad (by simp[pn,k1,k2])
     ·have k2:i≠0:=by
       have:=of_decide_eq_false k2;omega
      conv=>whnf
      refine ah ?_;conv=>whnf
      refine ak (fun k3=>?_) (fun k3=>?_)
      ·have k3:i+1=s.data.toList.length:=by
        have:=of_decide_eq_true k3;omega
       conv=>whnf
       exact bad (by simp only[pn,k1,k3];simp)
      ·have k3:i+1≠s.data.toList.length:=by
        have:=of_decide_eq_false k3;omega
       obtain⟨p,hp⟩:∃ p,s.data.toList[i-1]?=some p:=⟨_,List.getElem?_eq_getElem (by omega)⟩;conv=>whnf
       refine ah ?_;conv=>whnf
       refine aR (by simp;omega) ?_;conv=>whnf
       refine gf p (by rw[show((i:Int)-1).toNat=i-1 by omega];exact hp) ?_;conv=>whnf
       refine ak (fun k4=>?_) (fun k4=>?_)
       ·have k4:p.toNat=45:=by
         have:=of_decide_eq_true k4;omega
        conv=>whnf
        exact bad (by simp only[pn,hp,k4,k1];simp)
       ·have k4:p.toNat≠45:=by
         have:=of_decide_eq_false k4;omega
        conv=>whnf
        refine ah ?_;conv=>whnf
        exact Ak (by simp only[pn,hp,k1];simp[k2,k4];omega) aw
  ·have hc:¬ i<s.data.toList.length:=by
    have:=of_decide_eq_false hc;omega
   conv=>whnf
   rw[List.drop_of_length_le (by omega)]at he;rw[he];exact ax
def m9(x:ByteArray)(before:List ByteArray):Int:=
 if jn x then (if before.any fun y=>decide (y=x) then 5 else 0) else 6
theorem NH(x:ByteArray)(l:List ByteArray)(hl:l.length<1000000):cy Try.prog 61 [.str x,zy l] (i64 (m9 x l)):=by
 refine bx Try.func61 rfl (ft:=Oc) 2 fun {σ} Y st=>?_;conv=>whnf
 refine aH (ds:=[.str x]) (Ko x) rfl rfl ?_;conv=>whnf
 refine ak (fun h1=>?_) (fun h1=>?_)
 ·have h1:jn x=false:=by simpa using h1
  conv=>whnf
  simp only[m9,h1];exact ax
 ·have h1:jn x=true:=by simpa using h1
  conv=>whnf
  refine aH (ds:=[zy l,.str x]) (Kp l x hl) rfl rfl ?_;conv=>whnf
  have Gu:=iO (fun y=>decide (y=x)) l 0 (by omega);refine ak (fun h2=>?_) (fun h2=>?_)
  ·have h2:(l.any fun y=>decide (y=x))=true:=by rw[<- Gu];exact h2
   conv=>whnf
   simp only[m9,h1,h2];exact ax
  ·have h2:(l.any fun y=>decide (y=x))=false:=by rw[<- Gu];exact h2
   conv=>whnf
   simp only[m9,h1,h2];exact ax
theorem cy.cast{P:Program}{f:FuncId}{ds:List D}{r r':D}(h:cy P f ds r)(e:r=r'):cy P f ds r':=by subst e;exact h
end Go.PX
namespace Go.PX
open Go.Proofs
open Go
def jf:Nat->List UInt8->Bool
 | last,[]=>decide (last≠45)
 | last,c::r=>if 97<=c.toNat/\c.toNat<=122 then jf c.toNat r else if c.toNat=45/\last≠45 then jf 45 r else false
theorem wv(b:List UInt8):∀ (r:List UInt8) (i last:Nat),r ≠ []->r=b.drop i->(i=0->last=45)->(∀ p,i≠0->b[i-1]?=some p->last=p.toNat)->jf last r=lA b i r
 | [],i,last,h,_,_,_=>absurd rfl h
 | c::r,i,last,_,hd,h0,h1=>by
  have hlen:i+1+r.length=b.length:=by
   have:=congrArg List.length hd;simp at this;omega
  have kQ:b[i]?=some c:=by
   have:=congrArg (fun l=>l[0]?) hd;simpa using this.symm
  have hr:r=b.drop (i+1):=by
   have:=congrArg List.tail hd;simpa using this
  have ih:∀ BP,BP=c.toNat->r ≠ []->jf BP r=lA b (i+1) r:=fun BP hl eA=>
   wv b r (i+1) BP eA hr (fun h=>by omega) (fun p _ hp=>by simp at hp;rw[kQ]at hp;cases hp;exact hl)
  have LK:i≠0 -> ∃ p,b[i-1]?=some p/\last=p.toNat:=fun hi=>by
   have:i-1<b.length:=by omega
   exact⟨_,List.getElem?_eq_getElem this,h1 _ hi (List.getElem?_eq_getElem this)⟩
  simp only[jf,lA,pn];by_cases ha:97<=c.toNat/\c.toNat<=122
  ·rw[if_pos ha]
   simp only[ha.1,ha.2,decide_true,Bool.and_self,Bool.true_or,Bool.true_and];by_cases eA:r = []
   ·subst eA
    simp[jf,lA];omega
   ·exact ih _ rfl eA
  ·rw[if_neg ha]
   have hf:(decide (97<=c.toNat)&&decide (c.toNat<=122))=false:=by
    simp only[Bool.and_eq_false_iff,decide_eq_false_iff_not];omega
   rw[hf,Bool.false_or];by_cases hc:c.toNat=45
   ·by_cases hi:i=0
    ·have:=h0 hi
     simp[hc,hi,this]
    ·obtain⟨p,hp,hl⟩:=LK hi
     rw[hp];by_cases sV:p.toNat=45
     ·simp[hc,hl,sV]
     ·by_cases eA:r = []
      ·have:i+1=b.length:=by subst eA;simpa using hlen
       subst eA;simp[hc,hl,sV,jf,this]
      ·have:i+1≠b.length:=by
        have:=List.length_pos_iff.2 eA;omega
       rw[if_pos ⟨hc,by rw[hl];exact sV⟩,ih 45 hc.symm eA];simp[hc,hi,sV,this]
   ·simp[hc]
theorem E0(s:ByteArray):jn s=(decide (s.size<=14)&&jf 45 s.data.toList):=by
 have cU:s.size=s.data.toList.length:=by simp
 unfold jn iN
 cases hb:s.data.toList with
 | nil=>
  have:s.size=0:=by rw[cU,hb];rfl
  simp[this,jf]
 | cons c r=>
  rw[<- hb,wv s.data.toList s.data.toList 0 45 (by rw[hb];simp) rfl (fun _=>rfl) (fun p h=>absurd rfl h)];have h1:1<=s.size:=by rw[cU,hb];simp
  have e1:decide ((1:Int)<=(s.size:Int))=true:=by simp;omega
  have e2:decide ((s.size:Int)<=14)=decide (s.size<=14):=by simp;omega
  rw[e1,e2];simp
theorem z8(s:ByteArray)(i:Nat)(h:¬ (s.get! (i+0)).toNat<128):128<=(Utf8.decode s i).1:=by
 unfold Utf8.decode;simp only[h,if_false];split
 ·split
  ·simp only;omega
  ·simp[Utf8.runeError]
 ·split
  ·split
   ·rename_i h1
    simp only[Bool.and_eq_true,decide_eq_true_eq]at h1;simp only;omega
   ·simp[Utf8.runeError]
  ·split
   ·split
    ·rename_i h1
     simp only[Bool.and_eq_true,decide_eq_true_eq]at h1;simp only;omega
    ·simp[Utf8.runeError]
   ·simp[Utf8.runeError]
theorem NG(s:ByteArray):cy Try.prog 56 [.str s] (.bool (jn s)):=by
 refine bx Try.func56 rfl (ft:=N7) 1 fun {σ} Y st=>?_;conv=>whnf
 refine fM (T:=tys) aI (by exact au mixed aI (by decide +kernel)) (α:=Nat×Nat)
  (fun x=>⟨[(0,.d (.str s)),(3,.d (.int .i32 x.2)),(7,.it 7)],[(7,.iter s x.1)],st⟩) (fun x=>x.1<=s.size/\jn s=(decide (s.size<=14)&&jf x.2 (s.data.toList.drop x.1))) (fun x=>s.size-x.1) (0,45)
  aw ⟨by simp,by rw[E0];rfl⟩ ?_
 rintro ⟨p,last⟩ ⟨hp,he⟩;simp only at hp he;have cU:s.size=s.data.toList.length:=by simp
 conv=>whnf
 refine ak (fun h1=>?_) (fun h1=>?_)
 ·have h1:p<s.size:=of_decide_eq_true h1
  have hd:s.data.toList.drop p=s[p]::s.data.toList.drop (p+1):=by
   rw[List.drop_eq_getElem_cons (by omega)];rfl
  rw[hd,jf]at he;refine⟨?_⟩;by_cases hb:s[p].toNat<128
  ·rw[decode_ascii s p h1 hb]
   conv=>whnf
   refine ak (fun h2=>?_) (fun h2=>?_)
   ·have h2:97<=s[p].toNat:=by have:=of_decide_eq_true h2;omega
    conv=>whnf
    refine ak (fun h3=>?_) (fun h3=>?_)
    ·have h3:s[p].toNat<=122:=by have:=of_decide_eq_true h3;omega
     conv=>whnf
     rw[if_pos ⟨h2,h3⟩]at he;exact⟨(p+1,s[p].toNat),by simp only;omega,⟨h1,he⟩,aw⟩
    ·have h3:¬ s[p].toNat<=122:=by have:=of_decide_eq_false h3;omega
     conv=>whnf
     rw[if_neg (by omega),if_neg (by omega)]at he;refine ak (fun h4=>?_) (fun h4=>?_)
     ·conv=>whnf
      rw[he,Bool.and_false];exact ax
     ·exact absurd h4 (by simp;omega)
   ·have h2:¬ 97<=s[p].toNat:=by have:=of_decide_eq_false h2;omega
    conv=>whnf
    rw[if_neg (by omega)]at he;refine ak (fun h4=>?_) (fun h4=>?_)
    ·have h4:s[p].toNat≠45:=by simp at h4;omega
     conv=>whnf
     rw[if_neg (by omega)]at he;rw[he,Bool.and_false];exact ax
    ·have h4:s[p].toNat=45:=by simp at h4;omega
     conv=>whnf
     refine ak (fun h5=>?_) (fun h5=>?_)
     ·have h5:last=45:=by have:=of_decide_eq_true h5;omega
      conv=>whnf
      rw[if_neg (by omega)]at he;rw[he,Bool.and_false];exact ax
     ·have h5:last≠45:=by have:=of_decide_eq_false h5;omega
      conv=>whnf
      rw[if_pos ⟨h4,h5⟩]at he;exact⟨(p+1,45),by simp only;omega,⟨h1,he⟩,by rw[<- h4];exact aw⟩
  ·have jL:=z8 s p (by
    have e:s.get! (p+0)=s[p]'h1:=by
     show s.get! p=_;simp[ByteArray.get!,getElem!_pos,h1];rfl
    rw[e];exact hb)
   generalize (Utf8.decode s p).1=c at jL;generalize (Utf8.decode s p).2=n;rw[if_neg (by omega),if_neg (by omega)]at he;conv=>whnf
   refine ak (fun h2=>?_) (fun h2=>?_)
   ·conv=>whnf
    refine ak (fun h3=>?_) (fun h3=>?_)
    ·have:=of_decide_eq_true h3;omega
    ·conv=>whnf
     refine ak (fun h4=>?_) (fun h4=>?_)
     ·conv=>whnf
      rw[he,Bool.and_false];exact ax
     ·exact absurd h4 (by simp;omega)
   ·have:=of_decide_eq_false h2;omega
 ·have h1:¬ p<s.size:=of_decide_eq_false h1
  conv=>whnf
  have xo:s.data.toList.drop p = []:=List.drop_of_length_le (by omega);rw[xo,jf]at he;refine ak (fun h2=>?_) (fun h2=>?_)
  ·conv=>whnf
   refine ba 0 rfl ⟨⟨?_,rfl⟩,rfl⟩;have h2:s.size<=14:=by have:=of_decide_eq_true h2;omega
   rw[he];show V.d (.bool (!decide ((last:Int)=45)))=_;simp[h2];omega
  ·conv=>whnf
   refine ba 0 rfl ⟨⟨?_,rfl⟩,rfl⟩;have h2:¬ s.size<=14:=by have:=of_decide_eq_false h2;omega
   rw[he];simp[h2,j6]
end Go.PX
namespace Go.PX
open Go.Proofs
def dG{α:Type}(f:List α->α->Int):List α->List α->Int->Int×Int
 | _,[],_=>(0,0)
 | b,x::r,i=>if f b x=0 then dG f (b ++ [x]) r (i+1) else (i,f b x)
def RL(p:Int×Int×Int):D:=.tup [i64 p.1,i64 p.2.1,i64 p.2.2]
theorem oU{α:Type}{f:List α->α->Int}:∀ {l:List α} {b:List α} {i:Int},(dG f b l i).2=0 -> ∀ x∈l,∃ b',f b' x=0
 | [],_,_,_,x,hx=>by cases hx
 | y::r,b,i,h,x,hx=>by
  simp only[dG]at h;split at h
  ·rename_i h0
   rcases List.mem_cons.1 hx with rfl|hx
   ·exact⟨b,h0⟩
   ·exact oU h x hx
  ·rename_i h0;exact absurd h h0
theorem eS{n lo hi:Int}:iN n lo hi=true↔lo<=n/\n<=hi:=by
 simp[iN]
def aA(l:List Int):List (List D):=l.map fun n=>[i64 n]
theorem NI(l:List Int)(v:Int)(hl:l.length<4000000000000000000):cy Try.prog 113 [aj l,i64 v] (i64 (indexOf (fun x=>decide (v=x)) l 0)):=by
 refine bx Try.func113 rfl (ft:=KE) 2 fun {σ} Y st=>?_;conv=>whnf
 refine bt (T:=tys) aI (by exact au mixed aI (by decide +kernel)) l (fun i (_:Unit)=>⟨[(0,.d (aj l)),(1,.d (i64 v)),(7,.d (i64 l.length)),(8,.d (i64 i))],[],st⟩) (fun i r _=>indexOf (fun x=>decide (v=x)) l 0=indexOf (fun x=>decide (v=x)) r i) ()
  aw rfl ?_ ?_
 ·intro i x r _ hx hi hr he
  rw[indexOf]at he;conv=>whnf
  refine ak (fun _=>?_) (fun h=>absurd hi (by simpa using h));conv=>whnf
  refine ai hx ?_;conv=>whnf
  refine ak (fun h1=>?_) (fun h1=>?_)
  ·conv=>whnf
   rw[if_pos h1]at he;rw[he];exact ax
  ·conv=>whnf
   rw[if_neg (by simp[h1])]at he;refine ah ?_;conv=>whnf
   exact⟨(),he,aw⟩
 ·intro _ he
  conv=>whnf
  refine ak (fun h=>absurd h (by simp)) (fun _=>?_);conv=>whnf
  rw[he];exact ax
theorem Cv(l:List Int)(v:Int)(hl:l.length<4000000000000000000):cy Try.prog 106 [aj l,i64 v] (.bool (decide (v∈l))):=by
 refine bx Try.func106 rfl (ft:=Kz) 2 fun {σ} Y st=>?_;conv=>whnf
 refine aH (NI l v hl) rfl rfl ?_;conv=>whnf
 refine ba 0 rfl ⟨⟨?_,rfl⟩,rfl⟩;have h1:=iO (fun x=>decide (v=x)) l 0 (by omega);have h2:(l.any fun x=>decide (v=x))=decide (v∈l):=by
  rw[Bool.eq_iff_iff];simp
 rw[<- h2,<- h1];rfl
theorem QU(n lo hi:Int):cy Try.prog 87 [i64 n,.ref [i64 lo],.ref [i64 hi]] (.bool (decide (n<lo)||decide (n>hi))):=by
 refine bx Try.func87 rfl (ft:=Ou) 3 fun {σ} Y st=>?_;conv=>whnf
 refine ak (fun hb=>?_) (fun hb=>?_)
 ·have hb:n<lo:=by simpa using hb
  conv=>whnf
  refine ba 0 rfl ⟨⟨?_,rfl⟩,rfl⟩;simp_all[j6,hb]
 ·have hb:¬ n<lo:=by simpa using hb
  conv=>whnf
  refine ba 0 rfl ⟨⟨?_,rfl⟩,rfl⟩;simp[j6,hb]
theorem QL(lo hi:Int)(l:List Int)(hl:l.length<4000000000000000000):cy Try.prog 55 [i64 lo,i64 hi,aj l] (.bool (l.any fun n=>decide (n<lo)||decide (n>hi))):=by
 refine bx Try.func55 rfl (ft:=N6) 3 fun {σ} Y st=>?_;conv=>whnf
 refine a8 (Kr l 87 [.ref [i64 lo],.ref [i64 hi]] (fun n=>decide (n<lo)||decide (n>hi)) hl fun x _=>QU x lo hi) rfl 1 rfl ?_;conv=>whnf
 exact ax
theorem Qm(n lo hi:Int):(decide (n<lo)||decide (n>hi)) = !iN n lo hi:=by
 unfold iN;rw[Bool.eq_iff_iff];simp
theorem mE(lo hi a:Int):cy Try.prog 55 [i64 lo,i64 hi,.vs [[i64 a]]] (.bool (!iN a lo hi)):=by
 exact cy.cast (QL lo hi [a] (by simp)) (by simp[Qm])
def ek(many:Int):Int->List Int->Int
 | _,[]=>0
 | last,i::r=>if iN i 0 (many-1) then (if i<=last then 2 else ek many i r) else 4
theorem ML(l:List Int)(many:Int)(hm:0<=many/\many<=1000000):cy Try.prog 59 [aj l,i64 many] (i64 (ek many (-1) l)):=by
 refine bx Try.func59 rfl (ft:=Oa) 2 fun {σ} Y st=>?_;conv=>whnf
 refine bt (T:=tys) aI (by exact au mixed aI (by decide +kernel)) l (fun i (last:Int)=>⟨[(1,.d (i64 many)),(5,.d (i64 last)),(8,.d (aj l)),(9,.d (i64 l.length)),(10,.d (i64 i))],[],st⟩) (fun i r last=>ek many (-1) l=ek many last r/\(i:Int)<=last+1/\last<many /\ -1<=last) (-1) aw ⟨rfl,by omega,by omega,by omega⟩ ?_ ?_
 ·intro i x r last hx hi hr he
  obtain⟨he,h1,h2,h3⟩:=he;rw[ek]at he;conv=>whnf
  refine ak (fun _=>?_) (fun h=>absurd hi (by simpa using h));conv=>whnf
  refine ai hx ?_;conv=>whnf
  refine ah ?_;conv=>whnf
  refine a8 (mE 0 (many-1) x) rfl 1 rfl ?_;conv=>whnf
  refine ak (fun h4=>?_) (fun h4=>?_)
  ·have h4:iN x 0 (many-1)=false:=by simpa using h4
   conv=>whnf
   rw[he,h4];exact ax
  have h4:iN x 0 (many-1)=true:=by simpa using h4
  rw[h4,if_pos rfl]at he;rw[eS]at h4;conv=>whnf
  refine ak (fun h5=>?_) (fun h5=>?_)
  ·have h5:x<=last:=by simpa using h5
   conv=>whnf
   rw[he,if_pos h5];exact ax
  have h5:¬ x<=last:=by simpa using h5
  rw[if_neg h5]at he;conv=>whnf
  refine ah ?_;conv=>whnf
  exact⟨x,⟨he,by omega,by omega,by omega⟩,aw⟩
 ·intro last he
  conv=>whnf
  refine ak (fun h=>absurd h (by simp)) (fun _=>?_);conv=>whnf
  rw[he.1];exact ax
structure oq where
 name:ByteArray
 kind:Int
 no:List Int
 deriving DecidableEq
structure Slot where
 aL:Int
 least:Int
 deriving DecidableEq
structure ao where
 aL:List oq
 aS:List Slot
 run:Int
 rest:Int
 deriving DecidableEq
def oq.cells(m:oq):List D:=[.str m.name,i64 m.kind,aj m.no]
def Slot.cells(s:Slot):List D:=[i64 s.aL,i64 s.least]
def qq(l:List oq):D:=.vs (l.map oq.cells)
def xI(l:List Slot):D:=.vs (l.map Slot.cells)
def ao.cells(c:ao):List D:=[qq c.aL,xI c.aS,i64 c.run,i64 c.rest]
def ao.d(c:ao):D:=.agg c.cells
def aJ(l:List (List Int)):D:=.vs (l.map fun r=>[aj r])
theorem QN(y x:oq):cy Try.prog 58 [.agg y.cells,.ref x.cells] (.bool (decide (y.name=x.name))):=by
 refine bx Try.func58 rfl (ft:=N9) 2 fun {σ} Y st=>?_;conv=>whnf
 exact ax
theorem QV(l:List oq)(g:FuncId)(bS:List D)(p:oq->Bool)(hl:l.length<4000000000000000000)(hp:∀ x∈l,cy Try.prog g (.agg x.cells::bS) (.bool (p x))) :
  cy Try.prog 88 [qq l,.clo g bS] (i64 (indexOf p l 0)):=by
 refine bx Try.func88 rfl (ft:=Ov) 2 fun {σ} Y st=>?_;conv=>whnf
 refine bt (T:=tys) aI (by exact au mixed aI (by decide +kernel)) l (fun i (_:Unit)=>⟨[(0,.d (qq l)),(1,.d (.clo g bS)),(7,.d (i64 l.length)),(8,.d (i64 i))],[],st⟩) (fun i r _=>indexOf p l 0=indexOf p r i) () aw rfl ?_ ?_
 ·intro i x r _ hx hi hr he
  rw[indexOf]at he;conv=>whnf
  refine ak (fun _=>?_) (fun h=>absurd hi (by simpa using h));conv=>whnf
  refine ai hx ?_;conv=>whnf
  refine aH (hp x (List.mem_of_getElem? hx)) rfl rfl ?_;conv=>whnf
  refine ak (fun h1=>?_) (fun h1=>?_)
  ·conv=>whnf
   rw[he,if_pos h1];exact ax
  ·rw[if_neg (by simp[h1])]at he
   conv=>whnf
   refine ah ?_;conv=>whnf
   exact⟨(),he,aw⟩
 ·intro _ he
  conv=>whnf
  refine ak (fun h=>absurd h (by simp)) (fun _=>?_);conv=>whnf
  rw[he];exact ax
theorem QM(l:List oq)(g:FuncId)(bS:List D)(p:oq->Bool)(hl:l.length<4000000000000000000)(hp:∀ x∈l,cy Try.prog g (.agg x.cells::bS) (.bool (p x))) :
  cy Try.prog 57 [qq l,.clo g bS] (.bool (l.any p)):=by
 refine bx Try.func57 rfl (ft:=N8) 2 fun {σ} Y st=>?_;conv=>whnf
 refine aH (QV l g bS p hl hp) rfl rfl ?_;conv=>whnf
 refine ba 0 rfl ⟨⟨?_,rfl⟩,rfl⟩;rw[<- iO p l 0 (by omega)];rfl
def od(aS:Int)(b:List oq)(x:oq):Int:=
 if jn x.name then (if b.any (fun y=>decide (y.name=x.name)) then 5 else if iN x.kind 0 3 then ek aS (-1) x.no else 7) else 6
def kb(_:List Slot)(s:Slot):Int:=if iN s.aL 1 2&&iN s.least 0 3 then 0 else 7
def tz(c:ao):Int×Int×Int:=
 let p:=dG (od c.aS.length) [] c.aL 0
 if p.2=0 then (0,0,0) else (3,p.1,p.2)
def fu(c:ao):Int×Int×Int:=
  if iN c.aL.length 1 5&&iN c.aS.length 1 6 then
    (if iN c.run 1 3&&iN c.rest 1 3 then
      (let p:=dG kb [] c.aS 0
       if p.2=0 then tz c else (2,p.1,p.2))
    else (1,0,7))
  else (1,0,3)
theorem Qy(c:ao):cy Try.prog 15 [c.d] (RL (fu c)):=by
 refine bx Try.func15 rfl (ft:=NK) 1 fun {σ} Y st=>?_;conv=>whnf
 unfold fu;refine a8 (mE 1 5 _) rfl 1 rfl ?_;conv=>whnf
 refine ak (fun h0=>?_) (fun h0=>?_)
 ·have h0:iN c.aL.length 1 5=false:=by simpa using h0
  conv=>whnf
  rw[h0];exact ax
 have h0:iN c.aL.length 1 5=true:=by simpa using h0
 conv=>whnf
 refine a8 (mE 1 6 _) rfl 1 rfl ?_;conv=>whnf
 refine ak (fun h1=>?_) (fun h1=>?_)
 ·have h1:iN c.aS.length 1 6=false:=by simpa using h1
  conv=>whnf
  rw[h0,h1];exact ax
 have h1:iN c.aS.length 1 6=true:=by simpa using h1
 rw[h0,h1];rw[eS]at h0 h1;conv=>whnf
 refine a8 (mE 1 3 _) rfl 1 rfl ?_;conv=>whnf
 refine ak (fun h2=>?_) (fun h2=>?_)
 ·have h2:iN c.run 1 3=false:=by simpa using h2
  conv=>whnf
  rw[h2];exact ax
 have h2:iN c.run 1 3=true:=by simpa using h2
 conv=>whnf
 refine a8 (mE 1 3 _) rfl 1 rfl ?_;conv=>whnf
 refine ak (fun h3=>?_) (fun h3=>?_)
 ·have h3:iN c.rest 1 3=false:=by simpa using h3
  conv=>whnf
  rw[h2,h3];exact ax
 have h3:iN c.rest 1 3=true:=by simpa using h3
 rw[h2,h3];simp only[Bool.and_self,if_true];conv=>whnf
 refine bt (T:=tys) aI (by exact au mixed aI (by decide +kernel)) c.aS (fun i (_:Unit)=>⟨[(1,.ptr 1 0),(34,.d (xI c.aS)),(35,.d (i64 c.aS.length)),(36,.d (i64 i))],[(1,.box (.dd c.cells))],st⟩) (fun i r _=>dG kb [] c.aS 0=dG kb (c.aS.take i) r i) () aw rfl ?_ ?_
 ·intro i x r _ hx hi hr he
  rw[dG]at he;have xW:c.aS.take (i+1)=c.aS.take i ++ [x]:=by rw[List.take_succ,hx];rfl
  conv=>whnf
  refine ak (fun _=>?_) (fun h=>absurd hi (by simpa using h));conv=>whnf
  refine ai hx ?_;conv=>whnf
  refine a8 (mE 1 2 _) rfl 1 rfl ?_;conv=>whnf
  refine ak (fun h4=>?_) (fun h4=>?_)
  ·have h4:iN x.aL 1 2=false:=by simpa using h4
   conv=>whnf
   rw[he];simp only[kb,h4];exact ax
  have h4:iN x.aL 1 2=true:=by simpa using h4
  conv=>whnf
  refine a8 (mE 0 3 _) rfl 1 rfl ?_;conv=>whnf
  refine ak (fun h5=>?_) (fun h5=>?_)
  ·have h5:iN x.least 0 3=false:=by simpa using h5
   conv=>whnf
   rw[he];simp only[kb,h4,h5];exact ax
  have h5:iN x.least 0 3=true:=by simpa using h5
  have hs:kb (c.aS.take i) x=0:=by simp[kb,h4,h5]
  rw[if_pos hs,<- xW]at he;conv=>whnf
  refine ah ?_;conv=>whnf
  exact⟨(),he,aw⟩
 intro _ he;rw[List.take_length,dG]at he;rw[he];simp only[if_true];conv=>whnf
 refine ak (fun h=>absurd h (by simp)) (fun _=>?_);conv=>whnf
 unfold tz;refine bt (T:=tys) aI (by exact au mixed aI (by decide +kernel)) c.aL (fun i (_:Unit)=>⟨[(1,.ptr 1 0),(54,.d (qq c.aL)),(55,.d (i64 c.aL.length)),(56,.d (i64 i))],[(1,.box (.dd c.cells))],st⟩) (fun i r _=>dG (od c.aS.length) [] c.aL 0=dG (od c.aS.length) (c.aL.take i) r i) () aw rfl ?_ ?_
 ·intro i x r _ hx hi hr he
  rw[dG]at he;have xW:c.aL.take (i+1)=c.aL.take i ++ [x]:=by rw[List.take_succ,hx];rfl
  conv=>whnf
  refine ak (fun _=>?_) (fun h=>absurd hi (by simpa using h));conv=>whnf
  refine ai hx ?_;conv=>whnf
  refine aH (NG x.name) rfl rfl ?_;conv=>whnf
  refine ak (fun h4=>?_) (fun h4=>?_)
  ·conv=>whnf
   have h4:jn x.name=false:=by simpa using h4
   rw[he];simp only[od,h4];exact ax
  have h4:jn x.name=true:=by simpa using h4
  conv=>whnf
  refine aR (by simp;omega) ?_;conv=>whnf
  refine aR (by cases c.aL<;>rfl) ?_;conv=>whnf
  refine a8 (ds:=[qq (c.aL.take i),.clo 58 [.ref x.cells]]) (QM (c.aL.take i) 58 [.ref x.cells] (fun y=>decide (y.name=x.name)) (by simp;omega) fun y _=>QN y x) rfl 1 (by show some _=some _;simp[qq,List.map_take];rfl) ?_;conv=>whnf
  refine ak (fun h5=>?_) (fun h5=>?_)
  ·conv=>whnf
   rw[he];simp only[od,h4,h5];exact ax
  conv=>whnf
  refine a8 (mE 0 3 _) rfl 1 rfl ?_;conv=>whnf
  refine ak (fun h6=>?_) (fun h6=>?_)
  ·have h6:iN x.kind 0 3=false:=by simpa using h6
   conv=>whnf
   rw[he];simp only[od,h4,h5,h6];exact ax
  have h6:iN x.kind 0 3=true:=by simpa using h6
  conv=>whnf
  refine aH (ML x.no _ (by simp only[List.length_map];omega)) rfl rfl ?_;generalize hF:ek (List.map Slot.cells c.aS).length (-1) x.no=E;rw[List.length_map]at hF;conv=>whnf
  refine ak (fun h7=>?_) (fun h7=>?_)
  ·have h7:E≠0:=by simpa using h7
   conv=>whnf
   rw[he];have:od c.aS.length (c.aL.take i) x=E:=by simp[od,h4,h5,h6,hF]
   rw[this,if_neg h7];dsimp only;rw[if_neg h7];exact ax
  have h7:E=0:=by simpa using h7
  have hs:od c.aS.length (c.aL.take i) x=0:=by simp[od,h4,h5,h6,hF,h7]
  rw[if_pos hs,<- xW]at he;conv=>whnf
  refine ah ?_;conv=>whnf
  exact⟨(),he,aw⟩
 intro _ he;rw[List.take_length,dG]at he;rw[he];conv=>whnf
 refine ak (fun h=>absurd h (by simp)) (fun _=>?_);conv=>whnf
 exact ax
end Go.PX
namespace Go.PX
open Go.Proofs Go.RowKit Go.ChangeShapes
theorem c3:Try.prog.cellsOf 3=1:=by kernel_rfl
theorem c9:Try.prog.cellsOf 9=1:=by kernel_rfl
theorem Q1:Try.prog.cellsOf 32=1:=by kernel_rfl
theorem Q3:Try.prog.cellsOf 75=3:=by kernel_rfl
theorem Q2:Try.prog.cellsOf 73=2:=by kernel_rfl
theorem RU:Try.prog.cellsOf 22=1:=by kernel_rfl
theorem RV:Try.prog.cellsOf 23=1:=by kernel_rfl
theorem RX:Try.prog.cellsOf 25=4:=by kernel_rfl
section
variable (W : World)
theorem wD:Rd Try.prog W 3 fun ds=>∃ n,ds = [i64 n]:=Rd.int Try.underlying3
theorem Ml:Rd Try.prog W 9 fun ds=>∃ s,ds = [.str s]:=Rd.str Try.underlying9
theorem Fm:Rd Try.prog W 32 fun ds=>∃ l:List Int,ds = [aj l]:=
 (Rd.slice Try.underlying32 c3 (by omega) (wD W)).mono fun ds h=>by
  obtain⟨es,rfl,he⟩:=h;obtain⟨l,rfl⟩:=qp (f:=fun n=>[i64 n]) (fun _ h=>h) he;exact⟨l,rfl⟩
theorem Mj:Rd Try.prog W 75 fun ds=>∃ m:oq,ds=m.cells:=
 (Rd.struct Try.underlying75 Q3 (.cons rfl c9 (Ml W) (.cons rfl c3 (wD W) (.cons rfl Q1 (Fm W) (.nil _))))).mono fun ds h=>by
  obtain⟨_,_,rfl,⟨a,rfl⟩,_,_,rfl,⟨b,rfl⟩,_,_,rfl,⟨c,rfl⟩,rfl⟩:=h;exact⟨⟨a,b,c⟩,rfl⟩
theorem Jw:Rd Try.prog W 73 fun ds=>∃ s:Slot,ds=s.cells:=
 (Rd.struct Try.underlying73 Q2 (.cons rfl c3 (wD W) (.cons rfl c3 (wD W) (.nil _)))).mono fun ds h=>by
  obtain⟨_,_,rfl,⟨a,rfl⟩,_,_,rfl,⟨b,rfl⟩,rfl⟩:=h;exact⟨⟨a,b⟩,rfl⟩
theorem Mk:Rd Try.prog W 22 fun ds=>∃ l:List oq,ds = [qq l]:=
 (Rd.slice Try.underlying22 Q3 (by omega) (Mj W)).mono fun ds h=>by
  obtain⟨es,rfl,he⟩:=h;obtain⟨l,rfl⟩:=qp (f:=oq.cells) (fun _ h=>h) he;exact⟨l,rfl⟩
theorem Hi:Rd Try.prog W 23 fun ds=>∃ l:List Slot,ds = [xI l]:=
 (Rd.slice Try.underlying23 Q2 (by omega) (Jw W)).mono fun ds h=>by
  obtain⟨es,rfl,he⟩:=h;obtain⟨l,rfl⟩:=qp (f:=Slot.cells) (fun _ h=>h) he;exact⟨l,rfl⟩
theorem Jv:Rd Try.prog W 25 fun ds=>∃ c:ao,ds=c.cells:=
 (Rd.struct Try.underlying25 RX (.cons rfl RU (Mk W) (.cons rfl RV (Hi W) (.cons rfl c3 (wD W) (.cons rfl c3 (wD W) (.nil _)))))).mono fun ds h=>by
  obtain⟨_,_,rfl,⟨a,rfl⟩,_,_,rfl,⟨b,rfl⟩,_,_,rfl,⟨c,rfl⟩,_,_,rfl,⟨d,rfl⟩,rfl⟩:=h;exact⟨⟨a,b,c,d⟩,rfl⟩
end
end Go.PX
namespace Go.PX
open Go.Proofs
def dr{α:Type}(f:α->Int):List α->Int
 | []=>0
 | x::r=>if f x=0 then dr f r else f x
def b0(c:ao)(rota:List (List Int)):Int:=
 if (fu c).2.2=0 then (if rota.length>40 then 3 else dr (ek c.aL.length (-1)) rota) else (fu c).2.2
def vO(c:ao)(set:Int):List D:=[qq c.aL,xI c.aS,i64 c.run,i64 c.rest,i64 set]
def bh(c:ao)(set:Int):D:=.ref (vO c set)
def aB(c:ao):Int:=2^c.aL.length-1
structure WR(c:ao):Prop where
 aL:1<=c.aL.length/\c.aL.length<=5
 aS:1<=c.aS.length/\c.aS.length<=6
 run:1<=c.run/\c.run<=3
 rest:1<=c.rest/\c.rest<=3
 slot:∀ s∈c.aS,(1<=s.aL/\s.aL<=2)/\(0<=s.least/\s.least<=3)
 Ql:∀ m∈c.aL,(0<=m.kind/\m.kind<=3)/\ek c.aS.length (-1) m.no=0
 zero:fu c=(0,0,0)
theorem wR{c:ao}(h:(fu c).2.2=0):WR c:=by
 have hz:=h;unfold fu at h;split at h;case isFalse=>cases h
 rename_i h0;split at h;case isFalse=>cases h
 rename_i h1;simp only[Bool.and_eq_true,eS]at h0 h1;dsimp only at h;by_cases h2:(dG kb [] c.aS 0).2=0
 ·rw[if_pos h2]at h
  unfold tz at h;dsimp only at h;by_cases h3:(dG (od c.aS.length) [] c.aL 0).2=0
  ·have hs:=oU h2
   have hm:=oU h3;refine⟨by omega,by omega,h1.1,h1.2,fun s Jc=>?_,fun m Ay=>?_,?_⟩
   ·obtain⟨b,hb⟩:=hs s Jc
    unfold kb at hb;split at hb;case isFalse=>cases hb
    rename_i h4;simpa only[Bool.and_eq_true,eS]using h4
   ·obtain⟨b,hb⟩:=hm m Ay
    unfold od at hb;split at hb;case isFalse=>cases hb
    split at hb
    ·cases hb
    split at hb;case isFalse=>cases hb
    rename_i h4;exact⟨by simpa only[eS]using h4,hb⟩
   ·simp[fu,tz,h2,h3,eS,h0,h1]
  ·rw[if_neg h3]at h;exact absurd h h3
 ·rw[if_neg h2]at h;exact absurd h h2
theorem zE(c:ao)(rota:List (List Int)):cy Try.prog 63 [c.d,aJ rota] (.tup [if b0 c rota=0 then bh c (aB c) else .nilp,i64 (b0 c rota)]):=by
 refine bx Try.func63 rfl (ft:=Oe) 2 fun {σ} Y st=>?_;conv=>whnf
 refine aH (Qy c) rfl rfl ?_;conv=>whnf
 refine ak (fun h0=>?_) (fun h0=>?_)
 ·have h0:(fu c).2.2≠0:=by simpa using h0
  conv=>whnf
  have:b0 c rota=(fu c).2.2:=by simp[b0,h0]
  rw[this,if_neg h0];exact ax
 have h0:(fu c).2.2=0:=by simpa using h0
 have hR:=wR h0;conv=>whnf
 refine ak (fun h1=>?_) (fun h1=>?_)
 ·have h1:rota.length>40:=by simp at h1;omega
  conv=>whnf
  have:b0 c rota=3:=by simp[b0,h0,h1]
  rw[this];exact ax
 have h1:¬ rota.length>40:=by simp at h1;omega
 have hE:b0 c rota=dr (ek c.aL.length (-1)) rota:=by simp[b0,h0,h1]
 rw[hE];conv=>whnf
 refine bt (T:=tys) aI (by exact au mixed aI (by decide +kernel)) rota (fun i (_:Unit)=>⟨[(2,.ptr 2 0),(25,.d (aJ rota)),(26,.d (i64 rota.length)),(27,.d (i64 i))],[(2,.box (.dd c.cells))],st⟩) (fun i r _=>dr (ek c.aL.length (-1)) rota=dr (ek c.aL.length (-1)) r) () aw rfl ?_ ?_
 ·intro i x r _ hx hi hr he
  rw[dr]at he;have hm:=hR.aL;conv=>whnf
  refine ak (fun _=>?_) (fun h=>absurd hi (by simpa using h));conv=>whnf
  refine ai hx ?_;conv=>whnf
  refine aH (ML x _ (by simp only[List.length_map];omega)) rfl rfl ?_;generalize hF:ek (List.map oq.cells c.aL).length (-1) x=E;rw[List.length_map]at hF;conv=>whnf
  refine ak (fun h7=>?_) (fun h7=>?_)
  ·have h7:E≠0:=by simpa using h7
   conv=>whnf
   rw[he,hF,if_neg h7,if_neg h7];exact ax
  have h7:E=0:=by simpa using h7
  rw[hF,if_pos h7]at he;conv=>whnf
  refine ah ?_;conv=>whnf
  exact⟨(),he,aw⟩
 intro _ he;rw[dr]at he;rw[he];conv=>whnf
 refine ak (fun h=>absurd h (by simp)) (fun _=>?_);conv=>whnf
 have hm:=hR.aL;have h5:(c.aL.length=1\/c.aL.length=2\/c.aL.length=3\/c.aL.length=4\/c.aL.length=5):=by omega
 have hp:(1:Int)<=2^c.aL.length/\(2:Int)^c.aL.length<=32:=by rcases h5 with h|h|h|h|h<;>rw[h]<;>decide
 refine bg (2^c.aL.length) (by
  have:min (↑(List.map oq.cells c.aL).length:Int).toNat IntKind.i64.bits=c.aL.length:=by
   rw[List.length_map];have:IntKind.i64.bits=64:=rfl;omega
  rw[this];omega) (wrap_i64 (by omega)) ?_
 conv=>whnf
 refine bg (aB c) rfl (wrap_i64 (by unfold aB;omega)) ?_;conv=>whnf
 exact ba 1 rfl ⟨⟨rfl,rfl⟩,rfl⟩
end Go.PX
