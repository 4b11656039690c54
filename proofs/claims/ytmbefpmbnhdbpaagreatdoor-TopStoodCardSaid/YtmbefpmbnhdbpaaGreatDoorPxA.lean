import Derived.Calls
import Derived.RangeFuncLeaves
import Derived.Below
import Derived.Laws.Rows
import Derived.Lib.LaidTab
import Derived.Lib.ItoaNum
set_option linter.all false
namespace Go.PX
inductive D where
 | bool (b:Bool)
 | int (k:IntKind) (n:Int)
 | str (s:ByteArray)
 | agg (cs:List D)
 | tup (cs:List D)
 | vs (es:List (List D))
 | nils
 | ref (cs:List D)
 | nilp
 | mv (cJ:List (D×D))
 | nilm
 | clo (f:FuncId) (bS:List D)
 | mth (f:FuncId) (first:List D)
 | nilf
 | ifc (t:TypeId) (v:D)
 | nili
 deriving Inhabited
inductive V where
 | d (v:D)
 | agg (cs:List V)
 | tup (cs:List V)
 | ptr (id off:Nat)
 | ep (id sz i off:Nat)
 | sl (id sz off len:Nat)
 | mp (id:Nat)
 | it (id:Nat)
 | clo (f:FuncId) (bS:List V)
 | yld
 | unk
 deriving Inhabited
inductive Cells where
 | dd (l:List D)
 | vv (l:List V)
 deriving Inhabited
inductive aK where
 | dd (l:List (List D))
 | vv (l:List (List V))
 deriving Inhabited
inductive Obj where
 | box (cs:Cells)
 | arr (sz:Nat) (es:aK)
 | map (cJ:List (D×D))
 | iter (s:ByteArray) (pos:Nat)
 | buf (t:TypeId) (s:ByteArray)
 | tb (t:TypeId) (l:List V)
 | mit (v:V) (n:Nat) (todo:List Nat) (cur:Option Nat)
 deriving Inhabited
abbrev wy(α:Type):=List (Nat×α)
def get{α:Type}:wy α->Nat->Option α
 | [],_=>none
 | (k,v)::r,s=>match Nat.beq k s with
  | true=>some v
  | false=>get r s
def put{α:Type}:wy α->Nat->α->wy α
 | [],s,v=>[(s,v)]
 | (k,u)::r,s,v=>match Nat.beq k s with
  | true=>(k,v)::r
  | false=>(k,u)::put r s v
def cut{α:Type}:wy α->Nat->wy α
 | [],_=>[]
 | (k,u)::r,s=>match Nat.beq k s with
  | true=>cut r s
  | false=>(k,u)::cut r s
def cZ{α β:Type}(f:α->β):wy α->wy β
 | []=>[]
 | (k,u)::r=>(k,f u)::cZ f r
abbrev Env:=wy V
abbrev Heap:=wy Obj
structure St(σ:Type) where
 env:Env
 heap:Heap
 s:σ
def isD:V->Bool
 | .d _=>true
 | _=>false
def vY:List V->Option (List D)
 | []=>some []
 | .d v::r=>match vY r with
  | some l=>some (v::l)
  | none=>none
 | _=>none
def tC(cs:List V):V:=
 match vY cs with
 | some ds=>.d (.agg ds)
 | none=>.agg cs
def vC(cs:List V):V:=
 match vY cs with
 | some ds=>.d (.tup ds)
 | none=>.tup cs
def inj:List D->List V
 | []=>[]
 | v::r=>.d v::inj r
def V.cells:V->Cells
 | .d (.agg cs)=>.dd cs
 | .agg cs=>.vv cs
 | .d v=>.dd [v]
 | v=>.vv [v]
def Cells.len:Cells->Nat
 | .dd l=>l.length
 | .vv l=>l.length
def Cells.bm:Cells->List V
 | .dd l=>inj l
 | .vv l=>l
def Cells.sub(c:Cells)(off n:Nat):V:=
 match c with
 | .dd l=>.d (.agg ((l.drop off).take n))
 | .vv l=>tC ((l.drop off).take n)
def Cells.iT(c:Cells)(off:Nat)(x:Cells):Cells:=
 match c,x with
 | .dd l,.dd m=>.dd (l.take off++m++l.drop (off+m.length))
 | .dd l,.vv m=>.vv (inj (l.take off)++m++inj (l.drop (off+m.length)))
 | .vv l,.dd m=>.vv (l.take off++inj m++l.drop (off+m.length))
 | .vv l,.vv m=>.vv (l.take off++m++l.drop (off+m.length))
def mR:V->Option Nat
 | .ptr i _=>some i
 | .ep i _ _ _=>some i
 | .sl i _ _ _=>some i
 | .mp i=>some i
 | .it i=>some i
 | _=>none
mutual
def aL(f:V->V):V->V
 | .d v=>.d v
 | .agg cs=>.agg (dE f cs)
 | .tup cs=>.tup (dE f cs)
 | .clo g cs=>.clo g (dE f cs)
 | .yld=>.yld
 | .unk=>.unk
 | .ptr i o=>f (.ptr i o)
 | .ep i n j o=>f (.ep i n j o)
 | .sl i n o l=>f (.sl i n o l)
 | .mp i=>f (.mp i)
 | .it i=>f (.it i)
def dE(f:V->V):List V->List V
 | []=>[]
 | v::r=>aL f v::dE f r
end
def aU(f:V->V):List (List V)->List (List V)
 | []=>[]
 | v::r=>dE f v::aU f r
def Obj.aL(f:V->V):Obj->Obj
 | .box (.dd l)=>.box (.dd l)
 | .box (.vv l)=>.box (.vv (dE f l))
 | .arr sz (.dd l)=>.arr sz (.dd l)
 | .arr sz (.vv l)=>.arr sz (.vv (aU f l))
 | .map cJ=>.map cJ
 | .iter s n=>.iter s n
 | .buf t s=>.buf t s
 | .tb t l=>.tb t (dE f l)
 | .mit v n l u=>.mit (PX.aL f v) n l u
mutual
def rl(i:Nat):V->Bool
 | .d _=>false
 | .agg cs=>dF i cs
 | .tup cs=>dF i cs
 | .clo _ cs=>dF i cs
 | .ptr j _=>Nat.beq j i
 | .ep j _ _ _=>Nat.beq j i
 | .sl j _ _ _=>Nat.beq j i
 | .mp j=>Nat.beq j i
 | .it j=>Nat.beq j i
 | .yld=>false
 | .unk=>false
def dF(i:Nat):List V->Bool
 | []=>false
 | v::r=>rl i v||dF i r
end
def Cells.free(i:Nat):Cells->Bool
 | .dd _=>true
 | .vv l=>!dF i l
def aK.free(i:Nat):aK->Bool
 | .dd _=>true
 | .vv l=>!dF i l.flatten
def bf(id:Nat)(v:V):V:=
 match mR v with
 | some i=>match Nat.beq i id with
  | true=>.unk
  | false=>v
 | none=>v
inductive Kd where
 | bool|int (k:IntKind)|str
 | slice (e:TypeId)
 | struct (fs:List (Nat×TypeId))
 | array (n:Nat) (e:TypeId)
 | map (k e:TypeId)
 | iface
 | other
 deriving Inhabited
structure rE where
 size:Nat
 bytes:Nat
 kd:Kd
 isAgg:Bool
 held:Bool
 zero:Option (List D)
 deriving Inhabited
inductive e7 where
 | lf
 | nd (l:e7) (k:Nat) (v:rE) (r:e7)
def e7.get:e7->Nat->Option rE
 | .lf,_=>none
 | .nd l k v r,s=>match Nat.beq s k with
  | true=>some v
  | false=>match Nat.blt s k with
   | true=>l.get s
   | false=>r.get s
def lZ:Value->Option D
 | .bool b=>some (.bool b)
 | .int k n=>some (.int k n)
 | .string s=>some (.str s)
 | .slice none 0 0=>some .nils
 | .map none=>some .nilm
 | .nilFunc=>some .nilf
 | .pointer none=>some .nilp
 | .nilIface=>some .nili
 | _=>none
def je:List Value->Option (List D)
 | []=>some []
 | v::r=>match lZ v,je r with
  | some a,some l=>some (a::l)
  | _,_=>none
def ofConst:Value->Option D
 | .agg cs=>match je cs.toList with
  | some l=>some (.agg l)
  | none=>none
 | .tuple cs=>match cs.toList with
  | []=>some (.tup [])
  | _=>none
 | v=>lZ v
def aS(g:Env):Operand->Option V
 | .tmp t=>get g t
 | .const v=>match ofConst v with
  | some v=>some (.d v)
  | none=>none
 | .func f=>some (.d (.clo f []))
 | .global _=>none
def dR(g:Env):List Operand->Option (List V)
 | []=>some []
 | x::r=>match aS g x,dR g r with
  | some a,some l=>some (a::l)
  | _,_=>none
inductive Wr where
 | set (s:Nat) (v:V)
 | obj (id:Nat) (o:Obj)
 | new (id:Nat) (o:Obj)
 | newq (id:Nat) (o:Obj)
 | del (id:Nat)
 deriving Inhabited
def BO(v:V)(K:V->Prop):Prop:=
 match v with
 | .d x=>K (.d x)
 | .agg cs=>K (.agg cs)
 | .tup cs=>K (.tup cs)
 | .ptr i o=>K (.ptr i o)
 | .ep i n j o=>K (.ep i n j o)
 | .sl i n o l=>K (.sl i n o l)
 | .mp i=>K (.mp i)
 | .it i=>K (.it i)
 | .clo f cs=>K (.clo f cs)
 | .yld=>K .yld
 | .unk=>K .unk
noncomputable def Hi(l:List D):(List D->Prop)->Prop:=
 List.rec (motive:=fun _=>(List D->Prop)->Prop) (fun K=>K []) (fun v _ ih K=>ih fun r=>K (v::r)) l
noncomputable def BN(l:List V):(List V->Prop)->Prop:=
 List.rec (motive:=fun _=>(List V->Prop)->Prop) (fun K=>K []) (fun v _ ih K=>ih fun r=>K (v::r)) l
theorem xU:∀ (l:List D) (K:List D->Prop),Hi l K=K l
 | [],_=>rfl
 | v::r,K=>xU r fun r=>K (v::r)
theorem rO:∀ (l:List V) (K:List V->Prop),BN l K=K l
 | [],_=>rfl
 | v::r,K=>rO r fun r=>K (v::r)
noncomputable def Fl(v:Obj)(K:Obj->Prop):Prop:=
 match v with
 | .box (.dd l)=>Hi l fun l=>K (.box (.dd l))
 | .box (.vv l)=>BN l fun l=>K (.box (.vv l))
 | .arr n (.dd l)=>K (.arr n (.dd l))
 | .arr n (.vv l)=>K (.arr n (.vv l))
 | .map cJ=>K (.map cJ)
 | .iter x n=>K (.iter x n)
 | .buf t s=>K (.buf t s)
 | .tb t l=>BN l fun l=>K (.tb t l)
 | .mit v n l u=>BO v fun v=>K (.mit v n l u)
noncomputable def eB(l:Env):(Env->Prop)->Prop:=
 List.rec (motive:=fun _=>(Env->Prop)->Prop) (fun K=>K [])
  (fun kv _ ih K=>match kv with
   | (k,v)=>BO v fun v=>ih fun r=>K ((k,v)::r)) l
noncomputable def iA(l:Heap):(Heap->Prop)->Prop:=
 List.rec (motive:=fun _=>(Heap->Prop)->Prop) (fun K=>K [])
  (fun kv _ ih K=>match kv with
   | (k,v)=>Fl v fun v=>ih fun r=>K ((k,v)::r)) l
noncomputable def dU(l:List Nat):(List Nat->Prop)->Prop:=
 List.rec (motive:=fun _=>(List Nat->Prop)->Prop) (fun K=>K []) (fun n _ ih K=>ih fun r=>K (n::r)) l
noncomputable def bw(l:List Wr):Env->Heap->(Env->Heap->Prop)->Prop:=
 List.rec (motive:=fun _=>Env->Heap->(Env->Heap->Prop)->Prop) (fun e h K=>K e h)
  (fun w _ ih e h K=>match w with
  | .set s v=>eB (put e s v) fun e'=>ih e' h K
  | .obj id o=>iA (put h id o) fun h'=>ih e h' K
  | .new id o=>eB (cZ (aL (bf id)) e) fun e'=>iA ((id,o)::cZ (Obj.aL (bf id)) (cut h id)) fun h'=>ih e' h' K
  | .newq id o=>iA ((id,o)::h) fun h'=>ih e h' K
  | .del id=>iA (cut h id) fun h'=>ih e h' K) l
def gH(b:Bool)(K:Prop):Prop:=
 match b with
 | true=>K
 | false=>False
def Pn(b:Bool)(X Y:Prop):Prop:=
 match b with
 | true=>X
 | false=>Y
inductive arith(k:IntKind)(n:Int)(K:V->Prop):Prop where
 | mk (h:K (.d (.int k (k.wrap n))))
def Ah(es:List (List D))(i:Int)(K:List D->Prop):Prop:=
 match decide (0<=i),es[i.toNat]? with
 | true,some l=>K l
 | _,_=>False
def pD{α:Type}(cs:List α)(n:Nat)(K:α->Prop):Prop:=
 match cs[n]? with
 | some v=>K v
 | none=>False
def Cells.Sx(c:Cells)(n:Nat)(K:V->Prop):Prop:=
 match c with
 | .dd l=>pD l n fun v=>K (.d v)
 | .vv l=>pD l n K
def aK.Sx(c:aK)(n:Nat)(K:Cells->Prop):Prop:=
 match c with
 | .dd l=>pD l n fun v=>K (.dd v)
 | .vv l=>pD l n fun v=>K (.vv v)
def aG:List (List D)->List (List V)
 | []=>[]
 | v::r=>inj v::aG r
def aK.len:aK->Nat
 | .dd l=>l.length
 | .vv l=>l.length
def aK.bm:aK->List (List V)
 | .dd l=>aG l
 | .vv l=>l
def aK.set(c:aK)(n:Nat)(x:Cells):aK:=
 match c,x with
 | .dd l,.dd m=>.dd (l.set n m)
 | .dd l,.vv m=>.vv ((aG l).set n m)
 | .vv l,x=>.vv (l.set n x.bm)
def aK.part(c:aK)(off n:Nat):aK:=
 match c with
 | .dd l=>.dd ((l.drop off).take n)
 | .vv l=>.vv ((l.drop off).take n)
def aK.app(c x:aK):aK:=
 match c,x with
 | .dd l,.dd m=>.dd (l++m)
 | .dd l,.vv m=>.vv (aG l++m)
 | .vv l,x=>.vv (l++x.bm)
def uX(n:Nat)(lo hi:Option V)(K:Nat->Nat->Prop):Prop:=
 match hi with
 | none=>match lo with
  | none=>K 0 n
  | some (.d (.int _ l))=>gH (decide (0<=l)&&decide (l<=n)) (K l.toNat n)
  | _=>False
 | some (.d (.int _ h))=>gH (decide (0<=h)&&decide (h<=n))
   (match lo with
   | none=>K 0 h.toNat
   | some (.d (.int _ l))=>gH (decide (0<=l)&&decide (l<=h)) (K l.toNat h.toNat)
   | _=>False)
 | _=>False
def Ed(g:Env):Option Operand->Option (Option V)
 | none=>some none
 | some x=>match aS g x with
  | some v=>some (some v)
  | none=>none
inductive Place where
 | imm (cs:List D)
 | box (id off:Nat)
 | el (id sz i off:Nat)
def placeOf(v:V):Option Place:=
 match v with
 | .d (.ref cs)=>some (.imm cs)
 | .ptr id off=>some (.box id off)
 | .ep id sz i off=>some (.el id sz i off)
 | _=>none
def Place.add(n:Nat):Place->V
 | .imm cs=>.d (.ref (cs.drop n))
 | .box id off=>.ptr id (off+n)
 | .el id sz i off=>.ep id sz i (off+n)
def bz(d:Option Nat)(v:V):List Wr:=
 match d with
 | none=>[]
 | some d=>[.set d v]
def D.scalar:D->Bool
 | .agg _ | .tup _=>false
 | _=>true
def V.scalar:V->Bool
 | .d v=>v.scalar
 | .agg _ | .tup _=>false
 | _=>true
def cN:List V->Bool
 | []=>true
 | x::r=>x.scalar&&cN r
def iL:List D->Bool
 | []=>true
 | x::r=>x.scalar&&iL r
def KO(T:e7)(eq:TypeId->List D->List D->Option Bool):List (Nat×TypeId)->List D->List D->Option Bool
 | [],_,_=>some true
 | (off,t)::r,xs,ys=>
  match T.get t with
  | none=>none
  | some ti=>match Nat.beq ti.size 0,Nat.ble (off+ti.size) xs.length,Nat.ble (off+ti.size) ys.length with
   | false,true,true=>match eq t ((xs.drop off).take ti.size) ((ys.drop off).take ti.size),KO T eq r xs ys with
    | some a,some b=>some (a&&b)
    | _,_=>none
   | _,_,_=>none
def Iz(eq:List D->List D->Option Bool)(c:Nat):Nat->List D->List D->Option Bool
 | 0,_,_=>some true
 | n+1,xs,ys=>match Nat.ble c xs.length,Nat.ble c ys.length with
  | true,true=>match eq (xs.take c) (ys.take c),Iz eq c n (xs.drop c) (ys.drop c) with
   | some a,some b=>some (a&&b)
   | _,_=>none
  | _,_=>none
def NQ(T:e7):Nat->TypeId->List D->List D->Option Bool
 | 0,_,_,_=>none
 | d+1,t,xs,ys=>
  match T.get t with
  | none=>none
  | some ti=>match ti.kd with
   | .bool=>match xs,ys with
    | [.bool a],[.bool b]=>some (a ==b)
    | _,_=>none
   | .int _=>match xs,ys with
    | [.int k a],[.int k' b]=>match decide (k=k') with
     | true=>some (decide (a=b))
     | false=>none
    | _,_=>none
   | .str=>match xs,ys with
    | [.str a],[.str b]=>some (decide (a=b))
    | _,_=>none
   | .struct fs=>match ti.held with
    | true=>none
    | false=>KO T (fun t xs ys=>NQ T d t xs ys) fs xs ys
   | .array n e=>match T.get e with
    | some ei=>match Nat.beq ei.size 0,Nat.beq n 0 with
     | false,false=>Iz (fun xs ys=>NQ T d e xs ys) ei.size n xs ys
     | _,_=>none
    | none=>none
   | _=>none
def gF(op:BinOp)(k:IntKind)(a b:Int):Int:=
 match op with
 | .and=>k.wrap (BitVec.ofInt k.bits a &&& BitVec.ofInt k.bits b).toNat
 | .or=>k.wrap (BitVec.ofInt k.bits a ||| BitVec.ofInt k.bits b).toNat
 | .xor=>k.wrap (BitVec.ofInt k.bits a ^^^ BitVec.ofInt k.bits b).toNat
 | _=>k.wrap (BitVec.ofInt k.bits a &&& ~~~(BitVec.ofInt k.bits b)).toNat
def Vn(op:BinOp)(k:IntKind)(a b:Int)(K:V->Prop):Prop:=
 match op with
 | .add=>arith k (a+b) K
 | .sub=>arith k (a-b) K
 | .mul=>arith k (a*b) K
 | .quo=>gH (decide (b≠0)) (arith k (a.tdiv b) K)
 | .rem=>gH (decide (b≠0)) (K (.d (.int k (a.tmod b))))
 | .eql=>K (.d (.bool (decide (a=b))))
 | .neq=>K (.d (.bool (!decide (a=b))))
 | .lss=>K (.d (.bool (decide (a<b))))
 | .leq=>K (.d (.bool (decide (a<=b))))
 | .gtr=>K (.d (.bool (decide (b<a))))
 | .geq=>K (.d (.bool (decide (b<=a))))
 | .and=>K (.d (.int k (gF .and k a b)))
 | .or=>K (.d (.int k (gF .or k a b)))
 | .xor=>K (.d (.int k (gF .xor k a b)))
 | .andNot=>K (.d (.int k (gF .andNot k a b)))
 | _=>False
def G4(x:Option Bool)(K:V->Prop):Prop:=
 match x with
 | some b=>K (.d (.bool b))
 | none=>False
def R4:Option Bool->Option Bool
 | some b=>some (!b)
 | none=>none
def tn(T:e7)(t:TypeId):Bool:=
 match T.get t with
 | some ti=>match ti.kd with
  | .struct _=>true
  | .array _ _=>true
  | _=>false
 | none=>false
def isBool(T:e7)(t:TypeId):Bool:=
 match T.get t with
 | some ti=>match ti.kd with
  | .bool=>true
  | _=>false
 | none=>false
def isIface(T:e7)(t:TypeId):Bool:=
 match T.get t with
 | some ti=>match ti.kd with
  | .iface=>true
  | _=>false
 | none=>false
def FQ:Operand->Bool
 | .const .nilIface=>true
 | _=>false
def HV(T:e7)(op:BinOp)(t:TypeId)(b:Bool)(K:V->Prop):Prop:=
 match isIface T t,op with
 | true,.eql=>K (.d (.bool b))
 | true,.neq=>K (.d (.bool (!b)))
 | _,_=>False
def QA(T:e7)(op:BinOp)(t:TypeId)(x y:V)(K:V->Prop):Prop:=
 match x,y with
 | .d (.int k a),.d (.int k' b)=>match op with
  | .shl=>gH (decide (0<=b)) (arith k (a*2^(min b.toNat k.bits)) K)
  | .shr=>gH (decide (0<=b)) (K (.d (.int k (a.fdiv (2^(min b.toNat k.bits))))))
  | _=>match decide (k=k') with
   | true=>Vn op k a b K
   | false=>False
 | .d (.bool a),.d (.bool b)=>match isBool T t,op with
  | true,.eql=>K (.d (.bool (a ==b)))
  | true,.neq=>K (.d (.bool (!(a ==b))))
  | _,_=>False
 | .d (.str a),.d (.str b)=>match op with
  | .eql=>K (.d (.bool (decide (a=b))))
  | .neq=>K (.d (.bool (!decide (a=b))))
  | .add=>gH (decide (a.size+b.size<=9223372036854775807)) (K (.d (.str (a++b))))
  | _=>False
 | .d (.agg a),.d (.agg b)=>match tn T t,op with
  | true,.eql=>G4 (NQ T 9 t a b) K
  | true,.neq=>G4 (R4 (NQ T 9 t a b)) K
  | _,_=>False
 | _,_=>False
def lb(fs:List (Nat×Nat))(cs:Cells):List (Nat×V)->Option Cells
 | []=>some cs
 | (i,v)::r=>match fs[i]? with
  | some (off,n)=>match Nat.beq v.cells.len n,Nat.ble (off+n) cs.len with
   | true,true=>lb fs (cs.iT off v.cells) r
   | _,_=>none
  | none=>none
def Cells.val:Cells->V
 | .dd l=>.d (.agg l)
 | .vv l=>tC l
def partsOf(g:Env):List (Nat×Operand)->Option (List (Nat×V))
 | []=>some []
 | (i,x)::r=>match aS g x,partsOf g r with
  | some a,some l=>some ((i,a)::l)
  | _,_=>none
def tP(T:e7):List (Nat×TypeId)->Option (List (Nat×Nat))
 | []=>some []
 | (off,t)::r=>match T.get t,tP T r with
  | some i,some l=>some ((off,i.size)::l)
  | _,_=>none
def aK.cons(x:Cells)(c:aK):aK:=
 match x,c with
 | .dd l,.dd m=>.dd (l::m)
 | .dd l,.vv m=>.vv (inj l::m)
 | .vv l,c=>.vv (l::c.bm)
def sU(n:Nat):Nat->List (Nat×V)->Option aK
 | _,[]=>some (.dd [])
 | i,(j,v)::r=>match Nat.beq j i,Nat.beq v.cells.len n,sU n (i+1) r with
  | true,true,some l=>some (l.cons v.cells)
  | _,_,_=>none
def Jb:IntKind->Int->List V->Option D
 | k,a,[]=>some (.int k a)
 | k,a,.d (.int _ b)::r=>Jb k (min a b) r
 | _,_,_=>none
def Ja:IntKind->Int->List V->Option D
 | k,a,[]=>some (.int k a)
 | k,a,.d (.int _ b)::r=>Ja k (max a b) r
 | _,_,_=>none
def rK(h:Heap):V->Option aK
 | .d (.vs es)=>some (.dd es)
 | .d .nils=>some (.dd [])
 | .sl id sz off n=>match get h id with
  | some (.arr m es)=>match Nat.beq m sz,Nat.ble (off+n) es.len with
   | true,true=>some (es.part off n)
   | _,_=>none
  | _=>none
 | _=>none
inductive Js(es:aK)(off n:Nat)(K:aK->Prop):Prop where
 | mk (h:Nat.ble (off+n) es.len=true) (k:K (es.part off n))
def BD(h:Heap)(v:V)(K:aK->Prop):Prop:=
 match v with
 | .d (.vs es)=>K (.dd es)
 | .d .nils=>K (.dd [])
 | .sl id sz off n=>match get h id with
  | some (.arr m es)=>match Nat.beq m sz with
   | true=>Js es off n K
   | false=>False
  | _=>False
 | _=>False
theorem C4{h:Heap}{v:V}{K:aK->Prop}(hk:BD h v K):∃ fs,rK h v=some fs/\K fs:=by
 unfold BD at hk;split at hk
 ·exact⟨_,rfl,hk⟩
 ·exact⟨_,rfl,hk⟩
 ·rename_i id sz off n
  split at hk
  ·rename_i m es hg
   split at hk
   ·rename_i hm
    obtain⟨h1,h2⟩:=hk;exact⟨_,by simp[rK,hg,hm,h1],h2⟩
   ·exact hk.elim
  ·exact hk.elim
 ·exact hk.elim
theorem Gk(es:aK):es.part 0 es.len=es:=by
 cases es<;>simp[aK.part,aK.len]
theorem ag{es:aK}{n:Nat}{K:aK->Prop}(h:n=es.len)(k:K es):Js es 0 n K:=by
 subst h;exact⟨Nat.ble_eq_true_of_le (by omega),by rw[Gk];exact k⟩
def mz(n:Nat):List (List D)->Bool
 | []=>true
 | l::r=>match Nat.beq l.length n,iL l with
  | true,true=>mz n r
  | _,_=>false
def qD(n:Nat):List (List V)->Bool
 | []=>true
 | l::r=>match Nat.beq l.length n,cN l with
  | true,true=>qD n r
  | _,_=>false
def aK.ok(n:Nat):aK->Bool
 | .dd l=>mz n l
 | .vv l=>qD n l
def Cells.ok:Cells->Bool
 | .dd l=>iL l
 | .vv l=>cN l
def GS(t:rE):Bool:=
 match t.zero with
 | some z=>Nat.beq z.length t.size
 | none=>false
def Cells.cP(ti:rE)(c:Cells)(off:Nat)(K:V->Prop):Prop:=
 match ti.isAgg with
 | true=>gH (Nat.ble (off+ti.size) c.len) (K (c.sub off ti.size))
 | false=>c.Sx off K
def D0(T:e7)(g:Env)(h:Heap)(t:TypeId)(x:Operand)(K:V->Prop):Prop:=
 match aS g x with
 | none=>False
 | some v=>match placeOf v,T.get t with
  | some (.imm cs),some ti=>(Cells.dd cs).cP ti 0 K
  | some (.box id off),some ti=>match get h id with
   | some (.box cs)=>cs.cP ti off K
   | some (.tb _ l)=>(Cells.vv l).cP ti off K
   | _=>False
  | some (.el id sz i off),some ti=>match get h id with
   | some (.arr n es)=>gH (Nat.beq n sz) (es.Sx i fun cs=>cs.cP ti off K)
   | _=>False
  | _,_=>False
def MV(T:e7)(g:Env)(h:Heap)(t:TypeId)(x y:Operand)(K:List Wr->Prop):Prop:=
 match aS g x,aS g y,T.get t with
 | some a,some v,some ti=>
  gH (Nat.beq v.cells.len ti.size&&v.cells.ok)
   (match placeOf a with
   | some (.box id off)=>match get h id with
    | some (.box cs)=>gH (Nat.ble (off+ti.size) cs.len) (K [.obj id (.box (cs.iT off v.cells))])
    | some (.tb t l)=>gH (Nat.ble (off+ti.size) l.length) (K [.obj id (.tb t ((Cells.vv l).iT off v.cells).bm)])
    | _=>False
   | some (.el id sz i off)=>match get h id with
    | some (.arr n es)=>gH (Nat.beq n sz) (es.Sx i fun e=>gH (Nat.ble (off+ti.size) e.len) (K [.obj id (.arr n (es.set i (e.iT off v.cells)))]))
    | _=>False
   | _=>False)
 | _,_,_=>False
def wW(h:Heap)(v:V)(sz:Nat)(K:aK->List Wr->Prop):Prop:=
 match v with
 | .d .nils=>K (.dd []) []
 | .sl id n off len=>match get h id with
  | some (.arr m es)=>gH (Nat.beq n sz&&Nat.beq m sz&&Nat.ble len es.len&&Nat.beq off 0) (K (es.part 0 len) [.del id])
  | _=>False
 | _=>False
def tT(h:Heap)(v:V)(sz:Nat)(K:aK->List Wr->Prop):Prop:=
 match v with
 | .d .nils=>K (.dd []) []
 | .sl id n off len=>match get h id with
  | some (.arr m es)=>gH (Nat.beq n sz&&Nat.beq m sz&&Nat.beq off 0) (Js es 0 len fun es=>K es [.del id])
  | _=>False
 | _=>False
theorem GC{h:Heap}{v:V}{sz:Nat}{K:aK->List Wr->Prop}(hk:tT h v sz K):wW h v sz K:=by
 unfold tT at hk;unfold wW;split at hk
 ·exact hk
 ·rename_i id n off len
  split at hk
  ·rename_i m es hg
   cases hc:(Nat.beq n sz&&Nat.beq m sz&&Nat.beq off 0) with
   | false=>rw[hc]at hk;exact hk.elim
   | true=>
    rw[hc]at hk;obtain⟨h1,h2⟩:=(hk:Js es 0 len fun es=>K es [.del id]);rw[Nat.zero_add]at h1;simp only[Bool.and_eq_true]at hc;show gH (Nat.beq n sz&&Nat.beq m sz&&Nat.ble len es.len&&Nat.beq off 0) (K (es.part 0 len) [.del id]);rw[hc.1.1,hc.1.2,hc.2,h1];exact h2
  ·exact hk.elim
 ·exact hk.elim
def gI(T:e7)(t:TypeId):Option rE:=
 match T.get t with
 | some ti=>match ti.kd with
  | .slice e=>T.get e
  | _=>none
 | none=>none
def oi(ei:rE):Bool:=!Nat.beq ei.size 0 && !Nat.beq ei.bytes 0&&GS ei
def xj(T:e7)(g:Env)(h:Heap)(d:Option Nat)(t:TypeId)(x y:Operand)(K:List Wr->Prop):Prop:=
 match aS g x,aS g y,gI T t,d with
 | some v,some u,some ei,some d=>match rK h u with
  | some fs=>gH (oi ei) (wW h v ei.size fun es ws=>
    gH (fs.ok ei.size&&(es.app fs).free d) (gH (decide ((es.len+fs.len)*ei.bytes<=140737488355328))
     (K (ws ++ [.new d (.arr ei.size (es.app fs)),.set d (.sl d ei.size 0 (es.len+fs.len))]))))
  | none=>False
 | _,_,_,_=>False
def Bz(T:e7)(g:Env)(h:Heap)(d:Option Nat)(t:TypeId)(x y:Operand)(K:List Wr->Prop):Prop:=
 match aS g x,aS g y,gI T t,d with
 | some v,some u,some ei,some d=>BD h u fun fs=>gH (oi ei) (tT h v ei.size fun es ws=>
    gH (fs.ok ei.size&&(es.app fs).free d) (gH (decide ((es.len+fs.len)*ei.bytes<=140737488355328))
     (K (ws ++ [.new d (.arr ei.size (es.app fs)),.set d (.sl d ei.size 0 (es.len+fs.len))]))))
 | _,_,_,_=>False
theorem Im{T:e7}{g:Env}{h:Heap}{d:Option Nat}{t:TypeId}{x y:Operand}{K:List Wr->Prop}(hk:Bz T g h d t x y K):xj T g h d t x y K:=by
 unfold Bz at hk;unfold xj;split at hk
 ·rename_i v u ei d h1 h2 h3
  obtain⟨fs,hf,hk⟩:=C4 hk;simp only[h1,h2,h3,hf]
  cases hc:oi ei with
  | false=>rw[hc]at hk;exact hk.elim
  | true=>
   rw[hc]at hk;have hk:tT h v ei.size fun es ws=>
    gH (fs.ok ei.size&&(es.app fs).free d) (gH (decide ((es.len+fs.len)*ei.bytes<=140737488355328))
     (K (ws ++ [.new d (.arr ei.size (es.app fs)),.set d (.sl d ei.size 0 (es.len+fs.len))]))):=hk
   exact GC hk
 ·exact hk.elim
def isStr(T:e7)(t:TypeId):Bool:=
 match T.get t with
 | some ti=>match ti.kd with
  | .str=>true
  | _=>false
 | none=>false
def QF(T:e7)(t:TypeId):Option (TypeId×rE):=
 match T.get t with
 | some ti=>match ti.kd with
  | .slice e=>match T.get e with
   | some ei=>some (e,ei)
   | none=>none
  | _=>none
 | none=>none
def Vp(h:Heap)(v u:Option V):Bool:=
 match u with
 | some (.d (.str _))=>true
 | _=>match v with
  | some (.sl id _ _ _)=>match get h id with
   | some (.buf _ _)=>true
   | _=>false
  | _=>false
def F9(T:e7)(h:Heap)(u:TypeId)(v:V):Option ByteArray:=
 match v with
 | .d (.str s)=>match isStr T u with
  | true=>some s
  | false=>none
 | v=>match gI T u with
  | some _=>match rK h v with
   | some (.dd [[.int .u8 c]])=>match decide (0<=c),decide (c<256) with
    | true,true=>some ⟨#[UInt8.ofNat c.toNat]⟩
    | _,_=>none
   | _=>none
  | none=>none
def QC(T:e7)(g:Env)(h:Heap)(d:Option Nat)(t u:TypeId)(x y:Operand)(K:List Wr->Prop):Prop:=
 match aS g x,aS g y,QF T t,d with
 | some v,some yv,some (el,ei),some d=>match F9 T h u yv with
  | some s=>gH (oi ei&&(Nat.beq ei.size 1&&Nat.beq ei.bytes 1)) (match v with
   | .d .nils=>gH (decide (0<s.size)&&decide (s.size<=140737488355328)) (K [.new d (.buf el s),.set d (.sl d 1 0 s.size)])
   | .sl id n off len=>match get h id with
    | some (.buf ty b)=>gH (Nat.beq n 1&&(Nat.beq off 0&&Nat.beq ty el)) (gH (decide (len=b.size)&&(decide (0<len)&&decide (len+s.size<=140737488355328)))
      (K [.del id,.new d (.buf ty (b++s)),.set d (.sl d 1 0 (b++s).size)]))
    | _=>False
   | _=>False)
  | none=>False
 | _,_,_,_=>False
def sY(T:e7)(t:TypeId)(i:Nat):Option (Nat×rE):=
 match T.get t with
 | some ti=>match ti.kd with
  | .struct fs=>match fs[i]? with
   | some (off,ft)=>match T.get ft with
    | some fi=>some (off,fi)
    | none=>none
   | none=>none
  | _=>none
 | none=>none
def KI(T:e7)(el:TypeId)(es:List (List D)):Bool:=
 match T.get el with
 | some ei=>match es with
  | []=>true
  | f::_=>Nat.beq f.length ei.size
 | none=>false
def vO:D->D->Option Bool
 | .int k a,.int k' b=>match decide (k=k') with
  | true=>some (decide (a=b))
  | false=>none
 | _,_=>none
def nK:D->D->Option Bool
 | .int k a,.int k' b=>match decide (k=k') with
  | true=>some (decide (a=b))
  | false=>none
 | .bool a,.bool b=>some (a ==b)
 | .ifc t a,.ifc u b=>match Nat.beq t u,vO a b with
  | true,r=>r
  | false,some _=>some false
  | false,none=>none
 | _,_=>none
def cQ:List D->List D->Option Bool
 | [],[]=>some true
 | a::r,b::l=>match nK a b,cQ r l with
  | some p,some q=>some (p&&q)
  | _,_=>none
 | _,_=>none
def fR:D->D->Option Bool
 | .int k a,.int k' b=>match decide (k=k') with
  | true=>some (decide (a=b))
  | false=>none
 | .str a,.str b=>some (decide (a=b))
 | .bool a,.bool b=>some (a ==b)
 | .agg a,.agg b=>cQ a b
 | _,_=>none
def findD(k:D):List (D×D)->Nat->Option (Option (Nat×D))
 | [],_=>some none
 | (k',v)::r,n=>match fR k k' with
  | some true=>some (some (n,v))
  | some false=>findD k r (n+1)
  | none=>none
inductive Aq(cJ:List (D×D))(k:D)(K:Option (Nat×D)->Prop):Prop where
 | mk (r:Option (Nat×D)) (h:findD k cJ 0=some r) (hk:K r)
inductive Wb(s:ByteArray)(pos:Nat)(K:Nat->Nat->Prop):Prop where
 | mk (h:K (Utf8.decode s pos).1 (Utf8.decode s pos).2)
def pL(f:TypeId->Option Nat):List (Nat×TypeId)->Nat->Option Nat
 | [],n=>some n
 | (off,t)::r,n=>match Nat.beq off n,f t with
  | true,some (c+1)=>pL f r (n+(c+1))
  | _,_=>none
def flat(T:e7):Nat->TypeId->Option Nat
 | 0,_=>none
 | d+1,t=>match T.get t with
  | none=>none
  | some ti=>match ti.kd with
   | .int _=>match Nat.beq ti.size 1 with
    | true=>some 1
    | false=>none
   | .bool=>match Nat.beq ti.size 1 with
    | true=>some 1
    | false=>none
   | .iface=>match d,Nat.beq ti.size 1 with
    | _+1,true=>some 1
    | _,_=>none
   | .struct fs=>match ti.held,pL (fun t=>flat T d t) fs 0 with
    | false,some n=>match Nat.beq ti.size n with
     | true=>some n
     | false=>none
    | _,_=>none
   | .array m e=>match flat T d e with
    | some (c+1)=>match Nat.beq ti.size (m*(c+1)) with
     | true=>some (m*(c+1))
     | false=>none
    | _=>none
   | _=>none
def Au(T:e7)(f:TypeId->List D->Bool):List (Nat×TypeId)->List D->Bool
 | [],_=>true
 | (off,t)::r,xs=>match T.get t with
  | some ti=>match f t ((xs.drop off).take ti.size) with
   | true=>Au T f r xs
   | false=>false
  | none=>false
def Av(f:List D->Bool)(c:Nat):Nat->List D->Bool
 | 0,_=>true
 | n+1,xs=>match f (xs.take c) with
  | true=>Av f c n (xs.drop c)
  | false=>false
def qQ(T:e7):Nat->TypeId->List D->Bool
 | 0,_,_=>false
 | d+1,t,xs=>match T.get t with
  | none=>false
  | some ti=>match ti.kd with
   | .int _=>match xs with
    | [.int _ _]=>true
    | _=>false
   | .bool=>match xs with
    | [.bool _]=>true
    | _=>false
   | .iface=>match xs with
    | [.ifc u (.int k _)]=>match T.get u with
     | some ui=>match ui.kd,ui.held with
      | .int k',false=>decide (k=k')
      | _,_=>false
     | none=>false
    | _=>false
   | .struct fs=>Au T (fun t xs=>qQ T d t xs) fs xs
   | .array m e=>match T.get e with
    | some ei=>Av (fun xs=>qQ T d e xs) ei.size m xs
    | none=>false
   | _=>false
def tq(T:e7)(kt:TypeId):Kd->D->Bool
 | .int _,.int _ _=>true
 | .str,.str _=>true
 | .bool,.bool _=>true
 | .struct _,.agg cs=>match flat T 9 kt with
  | some n=>Nat.beq cs.length n&&qQ T 9 kt cs
  | none=>false
 | .array _ _,.agg cs=>match flat T 9 kt with
  | some n=>Nat.beq cs.length n&&qQ T 9 kt cs
  | none=>false
 | _,_=>false
def mapOf(T:e7)(t:TypeId):Option (TypeId×(rE×rE)):=
 match T.get t with
 | some ti=>match ti.kd with
  | .map k e=>match T.get k,T.get e with
   | some ki,some ei=>some (k,(ki,ei))
   | _,_=>none
  | _=>none
 | none=>none
def Qb(e:Env)(h:Heap)(x:Operand):Option (List (D×D)):=
 match aS e x with
 | some (.d (.mv cJ))=>some cJ
 | some (.d .nilm)=>some []
 | some (.mp id)=>match get h id with
  | some (.map cJ)=>some cJ
  | _=>none
 | _=>none
def qn:List (D×D)->Nat->D->List (D×D)
 | [],_,_=>[]
 | (_,v)::r,0,k=>(k,v)::r
 | p::r,n+1,k=>p::qn r n k
def l7:List (D×D)->Nat->D->List (D×D)
 | [],_,_=>[]
 | (k,_)::r,0,v=>(k,v)::r
 | p::r,n+1,v=>p::l7 r n v
def Bl(ti:rE):Option D:=
 match ti.zero,ti.isAgg with
 | some z,true=>some (.agg z)
 | some [x],false=>some x
 | _,_=>none
def rk(c:Bool)(v:D)(ok:Bool):V:=
 match c with
 | true=>.d (.tup [v,.bool ok])
 | false=>.d v
def Ou(h:Heap):V->Option (List (D×D))
 | .mp m=>match get h m with
  | some (.map cJ)=>some cJ
  | _=>none
 | _=>none
inductive XF(cJ:List (D×D))(n i:Nat)(K:D×D->Prop):Prop where
 | mk (hn:cJ.length=n) (kv:D×D) (h:cJ[i]?=some kv) (hk:K kv)
def Ck:Kd->Bool
 | .iface=>false
 | .other=>false
 | _=>true
def xl(size:Nat):Nat->Nat->List (Nat×Nat)
 | _,0=>[]
 | off,n+1=>(off,size)::xl size (off+size) n
def R1(e:Env)(dst:Option Nat)(fn:Fn)(first bS:List Operand)(K:List Wr->Prop):Prop:=
 match fn,first,bS with
 | .func f,x::r,[]=>match dR e (x::r) with
  | some l=>match vY l with
   | some ds=>K (bz dst (.d (.mth f ds)))
   | none=>False
  | none=>False
 | _,_,_=>False
def gL(T:e7)(e:Env)(h:Heap)(dst:Option Nat)(op:Op)(K:List Wr->Prop):Prop:=
 match op with
 | .move x=>match aS e x with
  | some v=>K (bz dst v)
  | none=>False
 | .assign x=>match aS e x with
  | some v=>K (bz dst v)
  | none=>False
 | .pick c a b=>match aS e c,aS e a,aS e b with
  | some (.d (.bool t)),some va,some vb=>Pn t (K (bz dst va)) (K (bz dst vb))
  | some (.d (.bool t)),some va,none=>gH t (K (bz dst va))
  | some (.d (.bool t)),none,some vb=>gH (!t) (K (bz dst vb))
  | _,_,_=>False
 | .alloc t=>match T.get t,dst with
  | some ti,some d=>match ti.zero with
   | some [.nilp,.nils]=>gH (Nat.beq 2 ti.size) (K [.new d (.tb t [.d .nilp,.d .nils]),.set d (.ptr d 0)])
   | some z=>gH (Nat.beq z.length ti.size) (K [.new d (.box (.dd z)),.set d (.ptr d 0)])
   | none=>False
  | _,_=>False
 | .box _ x=>match aS e x,dst with
  | some v,some d=>gH (v.cells.ok&&v.cells.free d) (K [.new d (.box v.cells),.set d (.ptr d 0)])
  | _,_=>False
 | .build t ps=>match partsOf e ps.toList,T.get t with
  | some l,some ti=>match ti.kd,ti.zero with
   | .struct fs,some z=>match tP T fs with
    | some sz=>match lb sz (.dd z) l with
     | some cs=>K (bz dst cs.val)
     | none=>False
    | none=>False
   | .array n el,some z=>match T.get el with
    | some ei=>match lb (xl ei.size 0 n) (.dd z) l with
     | some cs=>K (bz dst cs.val)
     | none=>False
    | none=>False
   | _,_=>False
  | _,_=>False
 | .buildSlice t n ps=>match partsOf e ps.toList,gI T t,dst with
  | some l,some ei,some d=>gH (Nat.beq l.length n&&oi ei&&Nat.ble (n*ei.size) 16777216)
   (match sU ei.size 0 l with
   | some es=>gH (es.ok ei.size&&es.free d) (K [.new d (.arr ei.size es),.set d (.sl d ei.size 0 n)])
   | none=>False)
  | _,_,_=>False
 | .load t x=>D0 T e h t x fun v=>K (bz dst v)
 | .store t x y=>match dst with
  | none=>MV T e h t x y K
  | some _=>False
 | .nilCheck x=>match aS e x with
  | some v=>match v with
   | .d (.ref _)=>K (bz dst v)
   | .ptr _ _=>K (bz dst v)
   | .ep _ _ _ _=>K (bz dst v)
   | .d (.clo _ _)=>K (bz dst v)
   | .clo _ _=>K (bz dst v)
   | .d (.ifc _ _)=>K (bz dst v)
   | _=>False
  | none=>False
 | .binOp op t x y _=>match aS e x,aS e y with
  | some a,some b=>match FQ y,a with
   | true,.d .nili=>HV T op t true fun v=>K (bz dst v)
   | true,.d (.ifc _ _)=>HV T op t false fun v=>K (bz dst v)
   | _,a=>QA T op t a b fun v=>K (bz dst v)
  | _,_=>False
 | .unOp op _ x=>match op,aS e x with
  | .not,some (.d (.bool b))=>K (bz dst (.d (.bool !b)))
  | .neg,some (.d (.int k n))=>arith k (0-n) fun v=>K (bz dst v)
  | _,_=>False
 | .convert s d x=>match T.get s,T.get d,aS e x with
  | some si,some di,some v=>match si.kd,di.kd,v with
   | .int _,.int k,.d (.int _ n)=>arith k n fun v=>K (bz dst v)
   | .str,.str,.d (.str s)=>K (bz dst (.d (.str s)))
   | _,_,_=>False
  | _,_,_=>False
 | .makeFunc fn first bS=>match fn,first.toList,dR e bS.toList with
  | .func f,[],some l=>match vY l with
   | some ds=>K (bz dst (.d (.clo f ds)))
   | none=>K (bz dst (.clo f l))
  | _,_,_=>R1 e dst fn first.toList bS.toList K
 | .fieldAddr t x i=>match aS e x,sY T t i with
  | some v,some (off,fi)=>gH (!Nat.beq fi.size 0) (match placeOf v with
   | some p=>K (bz dst (p.add off))
   | none=>False)
  | _,_=>False
 | .field t x i=>match aS e x,sY T t i with
  | some (.d (.agg cs)),some (off,fi)=>(Cells.dd cs).cP fi off fun v=>K (bz dst v)
  | some (.agg cs),some (off,fi)=>(Cells.vv cs).cP fi off fun v=>K (bz dst v)
  | _,_=>False
 | .indexAddr t x i=>match T.get t,aS e x,aS e i with
  | some ti,some v,some (.d (.int _ n))=>match ti.kd with
   | .slice e=>match T.get e with
    | some ei=>gH (!Nat.beq ei.size 0) (match v with
     | .d (.vs es)=>Ah es n fun l=>gH (Nat.beq l.length ei.size) (K (bz dst (.d (.ref l))))
     | .sl id sz off len=>gH (decide (0<=n)&&decide (n<len)) (gH (Nat.beq sz ei.size) (K (bz dst (.ep id sz (off+n.toNat) 0))))
     | _=>False)
    | none=>False
   | .array len e=>match T.get e,placeOf v with
    | some ei,some p=>gH (!Nat.beq ei.size 0) (gH (decide (0<=n)&&decide (n<len)) (K (bz dst (p.add (n.toNat*ei.size)))))
    | _,_=>False
   | _=>False
  | _,_,_=>False
 | .index t x i=>match T.get t,aS e x,aS e i with
  | some ti,some v,some (.d (.int _ n))=>match ti.kd,v with
   | .str,.d (.str s)=>gH (decide (0<=n)) (pD s.data.toList n.toNat fun b=>K (bz dst (.d (.int .u8 b.toNat))))
   | .array len e,.d (.agg cs)=>match T.get e with
    | some ei=>gH (decide (0<=n)&&decide (n<len)) ((Cells.dd cs).cP ei (n.toNat*ei.size) fun v=>K (bz dst v))
    | none=>False
   | .array len e,.agg cs=>match T.get e with
    | some ei=>gH (decide (0<=n)&&decide (n<len)) ((Cells.vv cs).cP ei (n.toNat*ei.size) fun v=>K (bz dst v))
    | none=>False
   | _,_=>False
  | _,_,_=>False
 | .slice t x lo hi mx=>match mx with
  | some _=>False
  | none=>match T.get t,aS e x,Ed e lo,Ed e hi with
   | some ti,some v,some l,some u=>match ti.kd,v with
    | .slice el,.d (.vs es)=>uX es.length l u fun a b=>gH (KI T el es) (K (bz dst (.d (.vs ((es.take b).drop a)))))
    | .slice el,.sl id sz off len=>uX len l u fun a b=>gH (match T.get el with|some ei=>Nat.beq sz ei.size|none=>false) (K (bz dst (.sl id sz (off+a) (b-a))))
    | .slice el,.d .nils=>uX 0 l u fun _ _=>gH (match T.get el with|some _=>true|none=>false) (K (bz dst (.d .nils)))
    | .str,.d (.str s)=>uX s.size l u fun a b=>K (bz dst (.d (.str (s.extract a b))))
    | _,_=>False
   | _,_,_,_=>False
 | .range t x=>match T.get t,aS e x,dst with
  | some ti,some (.d (.str s)),some d=>match ti.kd with
   | .str=>K [.new d (.iter s 0),.set d (.it d)]
   | _=>False
  | some ti,some (.mp id),some d=>match ti.kd,get h id with
   | .map _ _,some (.map cJ)=>gH (!Nat.beq id d) (K [.new d (.mit (.mp id) cJ.length (List.range cJ.length) none),.set d (.it d)])
   | _,_=>False
  | _,_,_=>False
 | .entry x=>match aS e x with
  | some (.it id)=>match get h id with
   | some (.mit v n _ (some i))=>match Ou h v with
    | some cJ=>XF cJ n i fun kv=>K (bz dst (.d (.tup [kv.1,kv.2])))
    | none=>False
   | _=>False
  | _=>False
 | .makeInterface xt x=>match T.get xt,aS e x with
  | some ti,some (.d v)=>gH (Ck ti.kd) (K (bz dst (.d (.ifc xt v))))
  | _,_=>False
 | .typeAssert x _ at' c=>match T.get at',aS e x with
  | some ti,some (.d (.ifc t v))=>gH (Ck ti.kd) (match Nat.beq t at' with
   | true=>K (bz dst (rk c v true))
   | false=>match c,Bl ti with
    | true,some z=>K (bz dst (rk true z false))
    | _,_=>False)
  | some ti,some (.d .nili)=>gH (Ck ti.kd) (match c,Bl ti with
   | true,some z=>K (bz dst (rk true z false))
   | _,_=>False)
  | _,_=>False
 | .next x b=>match b,aS e x with
  | true,some (.it id)=>match get h id with
   | some (.iter s pos)=>Pn (decide (pos<s.size)) (Wb s pos fun c n=>K (.obj id (.iter s (pos+n))::bz dst (.d (.tup [.bool true,.int .i64 pos,.int .i32 c])))) (K (bz dst (.d (.tup [.bool false]))))
   | _=>False
  | _,_=>False
 | .makeMap _ r=>match r,dst with
  | none,some d=>K [.new d (.map []),.set d (.mp d)]
  | _,_=>False
 | .makeSlice t l c=>match gI T t,aS e l,aS e c,dst with
  | some ei,some (.d (.int .i64 n)),some (.d (.int .i64 m)),some d=>match ei.zero with
   | some z=>gH (oi ei&&(decide (0<=n)&&decide (n<=m))) (gH (decide (m*(ei.bytes:Int)<=140737488355328))
     (K [.new d (.arr ei.size (.dd (List.replicate n.toNat z))),.set d (.sl d ei.size 0 n.toNat)]))
   | none=>False
  | _,_,_,_=>False
 | .lookup t x i c=>match mapOf T t,Qb e h x,aS e i with
  | some (kt,(ki,ei)),some cJ,some (.d k)=>gH (tq T kt ki.kd k) (Aq cJ k fun r=>match r with
   | some v=>K (bz dst (rk c v.2 true))
   | none=>match Bl ei with
    | some z=>K (bz dst (rk c z false))
    | none=>False)
  | _,_,_=>False
 | .mapUpdate t m i v=>match dst,mapOf T t,aS e m,aS e i,aS e v with
  | none,some (kt,(ki,_)),some (.mp id),some (.d k),some (.d v)=>match get h id with
   | some (.map cJ)=>gH (tq T kt ki.kd k) (Aq cJ k fun r=>match r with
    | some n=>K [.obj id (.map (cJ.set n.1 (k,v)))]
    | none=>K [.obj id (.map (cJ ++ [(k,v)]))])
   | _=>False
  | _,_,_,_,_=>False
 | .insert t m i v=>match dst,mapOf T t,aS e m,aS e i,aS e v with
  | none,some (kt,(ki,_)),some (.mp id),some (.d k),some (.d v)=>match get h id with
   | some (.map cJ)=>gH (tq T kt ki.kd k) (Aq cJ k fun r=>match r with
    | some n=>K [.obj id (.map (cJ.set n.1 (k,v)))]
    | none=>K [.obj id (.map (cJ ++ [(k,v)]))])
   | _=>False
  | _,_,_,_,_=>False
 | .mapEntry t m i=>match dst,mapOf T t,aS e m,aS e i with
  | some d,some (kt,(ki,ei)),some (.mp id),some (.d k)=>match get h id with
   | some (.map cJ)=>gH (tq T kt ki.kd k) (Aq cJ k fun r=>match r with
    | some n=>K [.obj id (.map (qn cJ n.1 k)),.set d (.d (.tup [n.2,.int .i64 n.1]))]
    | none=>match Bl ei with
     | some z=>K [.obj id (.map (cJ ++ [(k,z)])),.set d (.d (.tup [z,.int .i64 cJ.length]))]
     | none=>False)
   | _=>False
  | _,_,_,_=>False
 | .entryStore t m x v=>match dst,aS e m,aS e x,aS e v with
  | none,some (.mp id),some (.d (.int .i64 n)),some (.d v)=>match get h id with
   | some (.map cJ)=>gH (decide (0<=n)&&decide (n<cJ.length)) (K [.obj id (.map (l7 cJ n.toNat v))])
   | _=>False
  | _,_,_,_=>False
 | .extract x i=>match aS e x with
  | some (.d (.tup l))=>pD l i fun v=>K (bz dst (.d v))
  | some (.tup l)=>pD l i fun v=>K (bz dst v)
  | _=>False
 | _=>False
def fj(T:e7)(e:Env)(h:Heap)(d:Option Nat)(b:Builtin)(args:Array Operand)(argTypes:Array TypeId)(K:List Wr->Prop):Prop:=
 match b with
 | .len=>match args.toList,argTypes.toList with
  | [x],t::_=>match T.get t,aS e x with
   | some ti,some v=>match ti.kd,v with
    | .slice _,.d (.vs es)=>K (bz d (.d (.int .i64 es.length)))
    | .slice _,.d .nils=>K (bz d (.d (.int .i64 0)))
    | .slice _,.sl _ _ _ n=>K (bz d (.d (.int .i64 n)))
    | .str,.d (.str s)=>K (bz d (.d (.int .i64 s.size)))
    | .array n _,_=>K (bz d (.d (.int .i64 n)))
    | .map _ _,.mp id=>match get h id with
     | some (.map cJ)=>K (bz d (.d (.int .i64 cJ.length)))
     | _=>False
    | .map _ _,.d (.mv cJ)=>K (bz d (.d (.int .i64 cJ.length)))
    | _,_=>False
   | _,_=>False
  | _,_=>False
 | .min=>match dR e args.toList with
  | some (.d (.int k a)::r)=>match Jb k a r with
   | some v=>K (bz d (.d v))
   | none=>False
  | _=>False
 | .max=>match dR e args.toList with
  | some (.d (.int k a)::r)=>match Ja k a r with
   | some v=>K (bz d (.d v))
   | none=>False
  | _=>False
 | .copy=>match args.toList,argTypes.toList with
  | [x,y],[t,u]=>match gI T t,gI T u,aS e x,aS e y with
   | some ei,some _,some (.sl id sz off n),some v=>match get h id with
    | some (.arr m (.dd es))=>gH (Nat.beq ei.size 1&&(Nat.beq sz 1&&Nat.beq m 1)) (BD h v fun fs=>match fs with
     | .dd fs=>gH (Nat.ble (off+n) es.length&&mz 1 fs) (K (.obj id (.arr 1 (.dd (es.take off++fs.take (min fs.length n)++es.drop (off+min fs.length n))))::bz d (.d (.int .i64 (min fs.length n:Nat)))))
     | .vv _=>False)
    | _=>False
   | _,_,_,_=>False
  | _,_=>False
 | .append=>match args.toList,argTypes.toList with
  | [x,y],[t,u]=>match Vp h (aS e x) (aS e y) with
   | true=>QC T e h d t u x y K
   | false=>match gI T u with
    | some _=>Bz T e h d t x y K
    | none=>False
  | _,_=>False
 | _=>False
def mN(ops:List Oper)(g:Env)(guard:Option (Nat×Bool))(X Y:List Wr->Prop):Prop:=
 match guard with
 | none=>X []
 | some (j,want)=>match ops[j]? with
  | some ⟨some d,_,_,_,_,_⟩=>match get g d with
    | some (.d (.bool b))=>match want with
     | true=>Pn b (X [.set d (.d (.bool true))]) (Y [.set d (.d (.bool false))])
     | false=>Pn b (Y [.set d (.d (.bool true))]) (X [.set d (.d (.bool false))])
    | some (.d (.tup []))=>Y []
    | _=>False
  | _=>False
end Go.PX
namespace Go.PX
open Go.RowKit
mutual
def bM(F:Nat->Nat)(w:World):D->Value->Prop
 | .bool b,v=>v = .bool b
 | .int k n,v=>v = .int k n
 | .str s,v=>v = .string s
 | .agg cs,v=>∃ l:Array Value,v = .agg l/\bc F w cs l.toList
 | .tup cs,v=>∃ l:Array Value,v = .tuple l/\bc F w cs l.toList
 | .vs es,v=>∃ a len cap,v = .slice a len cap/\len=es.length/\len<=cap /\
   (es ≠ [] -> ∃ b off sz,a=some ⟨b,off,none⟩/\0<sz/\dz F w b off sz es)
 | .nils,v=>v = .slice none 0 0
 | .ref cs,v=>∃ b off,v = .pointer (some ⟨b,off,none⟩)/\cR F w b off cs
 | .nilp,v=>v = .pointer none
 | .mv cJ,v=>∃ r en c,v = .map (some r)/\0<F r/\w.heap[r]?=some (.map en c)/\bW F w cJ en.toList
 | .nilm,v=>v = .map none
 | .clo f bS,v=>∃ l:Array Value,v = .func (.func f) #[] l/\bc F w bS l.toList
 | .mth f first,v=>∃ l:Array Value,v = .func (.func f) l #[]/\bc F w first l.toList
 | .nilf,v=>v = .nilFunc
 | .ifc t x,v=>∃ y,v = .iface t y/\bM F w x y
 | .nili,v=>v = .nilIface
def bc(F:Nat->Nat)(w:World):List D->List Value->Prop
 | [],l=>l = []
 | c::r,l=>∃ x l',l=x::l'/\bM F w c x/\bc F w r l'
def cR(F:Nat->Nat)(w:World)(b:Nat):Nat->List D->Prop
 | _,[]=>True
 | off,c::r=>off<F b/\(∃ x,w.cell? ⟨b,off,none⟩=some x/\bM F w c x)/\cR F w b (off+1) r
def dz(F:Nat->Nat)(w:World)(b:Nat):Nat->Nat->List (List D)->Prop
 | _,_,[]=>True
 | off,sz,e::r=>e.length=sz/\cR F w b off e/\dz F w b (off+sz) sz r
def bW(F:Nat->Nat)(w:World):List (D×D)->List MapEntry->Prop
 | [],l=>l = []
 | (k,v)::r,l=>∃ x l',l=x::l'/\bM F w k x.key/\bM F w v x.val/\bW F w r l'
end
structure Tr(F:Nat->Nat)(w:World)(F':Nat->Nat)(w':World):Prop where
 os:w'.os=w.os
 tape:w'.tape=w.tape
 output:w'.output=w.output
 size:w.heap.size<=w'.heap.size
 le:∀ b,F b<=F' b
 cell:∀ b o,o<F b->w'.cell? ⟨b,o,none⟩=w.cell? ⟨b,o,none⟩
 map:∀ b e c,0<F b->w.heap[b]?=some (.map e c)->w'.heap[b]?=some (.map e c)
theorem Tr.refl(F:Nat->Nat)(w:World):Tr F w F w:=⟨rfl,rfl,rfl,Nat.le_refl _,fun _=>Nat.le_refl _,fun _ _ _=>rfl,fun _ _ _ _ h=>h⟩
theorem Tr.trans{F F' GV:Nat->Nat}{w w' wv:World}(h:Tr F w F' w')(k:Tr F' w' GV wv):Tr F w GV wv:=
  ⟨k.os.trans h.os,k.tape.trans h.tape,k.output.trans h.output,Nat.le_trans h.size k.size,fun b=>Nat.le_trans (h.le b) (k.le b),
   fun b o ho=>(k.cell b o (Nat.lt_of_lt_of_le ho (h.le b))).trans (h.cell b o ho),
   fun b e c hb hm=>k.map b e c (Nat.lt_of_lt_of_le hb (h.le b)) (h.map b e c hb hm)⟩
mutual
theorem bM.mono{F F':Nat->Nat}{w w':World}(h:Tr F w F' w'):∀ (a:D) (v:Value),bM F w a v->bM F' w' a v
 | .bool _,_,hr=>hr
 | .int _ _,_,hr=>hr
 | .str _,_,hr=>hr
 | .agg cs,_,hr=>by
  obtain⟨l,rfl,hl⟩:=hr;exact⟨l,rfl,bc.mono h cs _ hl⟩
 | .tup cs,_,hr=>by
  obtain⟨l,rfl,hl⟩:=hr;exact⟨l,rfl,bc.mono h cs _ hl⟩
 | .vs es,_,hr=>by
  obtain⟨a,len,cap,rfl,hl,hc,he⟩:=hr;refine⟨a,len,cap,rfl,hl,hc,fun eW=>?_⟩;obtain⟨b,off,sz,ha,hs,fe⟩:=he eW;exact⟨b,off,sz,ha,hs,dz.mono h es b off sz fe⟩
 | .nils,_,hr=>hr
 | .ref cs,_,hr=>by
  obtain⟨b,off,rfl,hc⟩:=hr;exact⟨b,off,rfl,cR.mono h cs b off hc⟩
 | .nilp,_,hr=>hr
 | .mv cJ,_,hr=>by
  obtain⟨r,en,c,rfl,hf,hm,hk⟩:=hr;exact⟨r,en,c,rfl,Nat.lt_of_lt_of_le hf (h.le r),h.map r en c hf hm,bW.mono h cJ _ hk⟩
 | .nilm,_,hr=>hr
 | .clo f bS,_,hr=>by
  obtain⟨l,rfl,hl⟩:=hr;exact⟨l,rfl,bc.mono h bS _ hl⟩
 | .mth f first,_,hr=>by
  obtain⟨l,rfl,hl⟩:=hr;exact⟨l,rfl,bc.mono h first _ hl⟩
 | .nilf,_,hr=>hr
 | .ifc t x,_,hr=>by
  obtain⟨y,rfl,hy⟩:=hr;exact⟨y,rfl,bM.mono h x y hy⟩
 | .nili,_,hr=>hr
theorem bc.mono{F F':Nat->Nat}{w w':World}(h:Tr F w F' w'):∀ (cs:List D) (l:List Value),bc F w cs l->bc F' w' cs l
 | [],_,hr=>hr
 | c::r,_,hr=>by
  obtain⟨x,l',rfl,hc,hl⟩:=hr;exact⟨x,l',rfl,bM.mono h c x hc,bc.mono h r l' hl⟩
theorem cR.mono{F F':Nat->Nat}{w w':World}(h:Tr F w F' w'):∀ (cs:List D) (b off:Nat),cR F w b off cs->cR F' w' b off cs
 | [],_,_,_=>trivial
 | c::r,b,off,hr=>by
  obtain⟨hf,⟨x,hx,hc⟩,hl⟩:=hr;exact⟨Nat.lt_of_lt_of_le hf (h.le b),⟨x,(h.cell b off hf).trans hx,bM.mono h c x hc⟩,cR.mono h r b (off+1) hl⟩
theorem dz.mono{F F':Nat->Nat}{w w':World}(h:Tr F w F' w'):∀ (es:List (List D)) (b off sz:Nat),dz F w b off sz es->dz F' w' b off sz es
 | [],_,_,_,_=>trivial
 | e::r,b,off,sz,hr=>by
  obtain⟨hn,he,hl⟩:=hr;exact⟨hn,cR.mono h e b off he,dz.mono h r b (off+sz) sz hl⟩
theorem bW.mono{F F':Nat->Nat}{w w':World}(h:Tr F w F' w'):∀ (cJ:List (D×D)) (l:List MapEntry),bW F w cJ l->bW F' w' cJ l
 | [],_,hr=>hr
 | (k,v)::r,_,hr=>by
  obtain⟨x,l',rfl,hk,hv,hl⟩:=hr;exact⟨x,l',rfl,bM.mono h k _ hk,bM.mono h v _ hv,bW.mono h r l' hl⟩
end
structure Loc where
 ρ:Nat->Nat
 κ:Nat->Nat
def OH(v:Value):Prop:=v.oneCell'=true
mutual
def bg(yv:Option Nat)(L:Loc)(F:Nat->Nat)(w:World):V->Value->Prop
 | .d v,x=>bM F w v x
 | .agg cs,x=>∃ l:Array Value,x = .agg l/\aq yv L F w cs l.toList
 | .tup cs,x=>∃ l:Array Value,x = .tuple l/\aq yv L F w cs l.toList
 | .ptr id off,x=>x = .pointer (some ⟨L.ρ id,off,none⟩)
 | .ep id sz i off,x=>x = .pointer (some ⟨L.ρ id,i*sz+off,none⟩)
 | .sl id sz off len,x=>∃ a cap,x = .slice a len cap/\len<=cap/\0<sz/\((len=0/\cap=0)\/(a=some ⟨L.ρ id,off*sz,none⟩/\(off+cap)*sz<=L.κ id))
 | .mp id,x=>x = .map (some (L.ρ id))
 | .it id,x=>x = .pointer (some ⟨L.ρ id,0,none⟩)
 | .clo f cs,x=>∃ l:Array Value,x = .func (.func f) #[] l/\aq yv L F w cs l.toList
 | .yld,x=>∃ l,yv=some l/\x = .func (.yield l) #[] #[]
 | .unk,x=>OH x
def aq(yv:Option Nat)(L:Loc)(F:Nat->Nat)(w:World):List V->List Value->Prop
 | [],l=>l = []
 | c::r,l=>∃ x l',l=x::l'/\bg yv L F w c x/\aq yv L F w r l'
end
def dj{α:Type}(n:Nat)(l:List (List α)):Prop:=∀ e∈l,e.length=n
def sA(en:Array MapEntry)(c:Nat):Prop:=c=en.size /\ ∀ (i:Nat) (e:MapEntry),en[i]?=some e->e.born=i
def bX(s:ByteArray):List Value:=s.data.toList.map fun b=>Value.int .u8 b.toNat
def cb(yv:Option Nat)(L:Loc)(F:Nat->Nat)(w:World)(id:Nat):Obj->Prop
 | .box cs=>∃ (c:Array Value) (T:TypeId),w.heap[L.ρ id]?=some (.cells c T (0,0))/\aq yv L F w cs.bm c.toList
 | .arr sz es=>0<sz/\dj sz es.bm/\((es.bm = []/\L.κ id=0) \/ ∃ (c:Array Value) (T:TypeId),w.heap[L.ρ id]?=some (.cells c T (0,0))/\c.size=L.κ id /\
   es.bm.length*sz<=c.size/\aq yv L F w es.bm.flatten (c.toList.take (es.bm.length*sz)))
 | .map cJ=>∃ en c,w.heap[L.ρ id]?=some (.map en c)/\bW F w cJ en.toList/\sA en c
 | .iter s pos=>w.heap[L.ρ id]?=some (.stringIter s pos)
 | .tb t l=>∃ c:Array Value,w.heap[L.ρ id]?=some (.cells c t (0,0))/\aq yv L F w l c.toList
 | .buf t s=>∃ c:Array Value,w.heap[L.ρ id]?=some (.cells c t (0,0))/\c.size=L.κ id/\s.size<=c.size/\c.toList.take s.size=bX s
 | .mit v n todo cur=>∃ (r:Nat) (seen:Array Nat),bg yv L F w v (.map (some r))/\w.heap[L.ρ id]?=some (.mapIter (some r) n seen n)/\(∀ i,i∈todo↔i<n/\seen.contains i=false) /\ ∀ i,cur=some i->seen.back?=some i
def aV(L:Loc)(id:Nat):Obj->Prop
 | .arr _ _=>L.κ id≠0
 | _=>True
structure Cx(σ:Type) where
 C:σ->Nat->Prop
 HG:σ->World->(Nat->Nat)->Prop
 yv:Option Nat
 A2:Option Go.Loop
 pρ:Nat->Nat
 pκ:Nat->Nat
 base:List Deferred:=[]
 fS:∀ {s w F w' F'},HG s w F->Tr F w F' w'->(∀ b,w'.heap.size<=b->F' b=0)->(∀ b,C s b->w'.heap[b]?=w.heap[b]?/\F' b=F b)->HG s w' F'
structure aZ{σ:Type}(cx:Cx σ)(L:Loc)(F:Nat->Nat)(h:Heap)(s:σ)(w:World):Prop where
 hg:cx.HG s w F
 iw:∀ b,cx.C s b->b<w.heap.size
 fresh:∀ b,w.heap.size<=b->F b=0
 obj:∀ id o,get h id=some o->cb cx.yv L F w id o
 own:∀ id o,get h id=some o->aV L id o->F (L.ρ id)=0/\¬ cx.C s (L.ρ id)
 inj:∀ i j o p,get h i=some o->get h j=some p->aV L i o->aV L j p->L.ρ i=L.ρ j->i=j
def pinned(i:Nat):Prop:=1000000<=i/\i<2000000
def mh(L L':Loc):Prop:=∀ i,pinned i->L'.ρ i=L.ρ i/\L'.κ i=L.κ i
def mark(r:Nat):Deferred:={ target:=.collected r,args:=#[] }
structure Good{σ:Type}(cx:Cx σ)(r:Option Nat)(m:List Nat)(L:Loc)(F:Nat->Nat)(st:St σ)(a:Act)(w:World):Prop where
 heap:aZ cx L F st.heap st.s w
 env:∀ s v,get st.env s=some v -> ∃ x,a.tmps[s]?=some x/\bg cx.yv L F w v x
 sR:a.defers=m.map mark++cx.base
 pg:∀ b∈m,w.heap[b]?=some (.deferred (some []))/\¬ cx.C st.s b
 vD:m.Nodup
 lk:∀ l,r=some l -> ∃ lp,(w.heap[l]?=some (.loop lp)/\cx.A2=some lp)/\¬ cx.C st.s l
 jy:∀ i,pinned i->L.ρ i=cx.pρ i/\L.κ i=cx.pκ i
 ud:a.tmps.size<=1000000
structure Hd(σ:Type) where
 y:List V->Heap->σ->(V->Heap->σ->Prop)->Prop
 p:Value->Env->Heap->σ->Prop:=fun _ _ _ _=>False
def Hd.np{σ:Type}(Y:Hd σ):Hd σ:={ y:=Y.y }
structure Laid(P:Program)(w:World):Prop where
 tab : ∀ g, P.globalNamed "internal/strconv.uint64pow10" = some g -> Lib.TabIs P w "internal/strconv.uint64pow10" .u64 Lib.pow10Tab
 len : ∀ g, P.globalNamed "internal/bytealg.MaxLen" = some g -> ∃ m, w.cell? ⟨g, 0, none⟩ = some (.int .i64 m)
 syn : ∀ g, P.globalNamed "strconv.ErrSyntax" = some g -> ∃ t v, w.cell? ⟨g, 0, none⟩ = some (.iface t v)
 Xu : ∀ g, P.globalNamed "strconv.ErrRange" = some g -> ∃ t v, w.cell? ⟨g, 0, none⟩ = some (.iface t v)
def mE{σ:Type}(P:Program)(cx:Cx σ):Prop:=∀ s w F,cx.HG s w F->Laid P w
def fr(r:Option Nat):Fence:={ Fence.wide with round:=r }
def J8{σ:Type}(P:Program)(Y:Hd σ)(cx:Cx σ):Prop:=
 ∀ l,cx.yv=some l -> ∀ (args:List V) (h:Heap) (s:σ) (Q:V->Heap->σ->Prop),Y.y args h s Q ->
  ∀ (L:Loc) (F:Nat->Nat) (aT:Array Value) (w:World),aZ cx L F h s w->aq cx.yv L F w args aT.toList ->
   ∃ fn tmps zq body,(Instr.yield l aT).run P w = .ok (.round l fn tmps zq body) w /\
    RoundIn Fence.wide 0 P l fn tmps zq body w fun e w'=>∃ x,e = .returned x /\ ∃ v h' s' L' F',Q v h' s'/\aZ cx L' F' h' s' w'/\bg cx.yv L' F' w' v x/\Tr F w F' w'/\mh L L' /\
     (∀ b,b<w.heap.size->¬ cx.C s b->¬ cx.C s' b) /\
     (∀ b,b<w.heap.size->¬ cx.C s b->(∀ id o,get h id=some o->aV L id o->L.ρ id≠b)->w'.heap[b]?=w.heap[b]?/\F' b=F b) /\
     (∀ id o,get h' id=some o->aV L' id o->L'.ρ id<w.heap.size -> ∃ oA o',get h oA=some o'/\aV L oA o'/\L.ρ oA=L'.ρ id)
structure ct{σ:Type}(P:Program)(Y:Hd σ)(cx:Cx σ):Prop where
 yld:J8 P Y cx
 laid:mE P cx
inductive fg where
 | normal|exit (id:Nat)|ret
 deriving Inhabited
def fg.QE:fg->Exit
 | .normal=>.normal
 | .exit i=>.exit i
 | .ret=>.ret
def codeOk(n:Nat):Code->Bool
 | .region _ ops _=>ops.toList.all fun o=>match o.dst with
  | some d=>decide (d<n)
  | none=>true
 | .seq a b=>codeOk n a&&codeOk n b
 | .cond _ a b=>codeOk n a&&codeOk n b
 | .block _ a=>codeOk n a
 | .loop a=>codeOk n a
 | .scope a=>codeOk n a
 | .rangeFunc _ ps a b=>ps.toList.all (fun d=>decide (d<n))&&codeOk n a&&codeOk n b
 | _=>true
def pr{σ:Type}(Y:Hd σ)(cx:Cx σ)(r:Option Nat)(F:Nat->Nat)(w:World)(n:Nat)(e:Exit)(a':Act)(w':World):Prop:=
 ∃ v en h s m' L' F',e = .panic [{ v:=v,recovered:=false }]/\Y.p v en h s/\Good cx r m' L' F' ⟨en,h,s⟩ a' w'/\Tr F w F' w'/\a'.tmps.size=n
theorem pr.trans{σ:Type}{Y:Hd σ}{cx:Cx σ}{r:Option Nat}{F F0:Nat->Nat}{w w0:World}{n n0:Nat}{e:Exit}{a':Act}{w':World}(h:pr Y cx r F w n e a' w')(tr:Tr F0 w0 F w)(hn:n=n0):pr Y cx r F0 w0 n0 e a' w':=by
 obtain⟨v,en,hp,s,m',L',F',h1,h2,h3,h4,h5⟩:=h;exact⟨v,en,hp,s,m',L',F',h1,h2,h3,Tr.trans tr h4,h5.trans hn⟩
def EW{σ:Type}(P:Program)(Y:Hd σ)(c:Code)(st:St σ)(K:fg->St σ->Prop):Prop:=
 ∀ (cx:Cx σ),ct P Y cx -> ∀ (r:Option Nat) (m:List Nat) (L:Loc) (F:Nat->Nat) (a:Act) (w:World),Good cx r m L F st a w->codeOk a.tmps.size c=true ->
  c.wpIn (fr r) 0 P (fun e a' w'=>(∃ e' st' m' L' F',e=e'.QE/\K e' st'/\Good cx r m' L' F' st' a' w'/\Tr F w F' w'/\a'.tmps.size=a.tmps.size)\/pr Y cx r F w a.tmps.size e a' w') a w
def Qx{σ:Type}(P:Program)(Y:Hd σ)(st:St σ)(d:Option Nat)(f:FuncId)(args:List V)(K:St σ->Prop):Prop:=
 (∀ (vs:Array Value) (w:World),(callFunc f vs).run P w = .ok (.enter f vs) w) /\
 ∀ (cx:Cx σ),ct P Y cx -> ∀ (r:Option Nat) (m:List Nat) (L:Loc) (F:Nat->Nat) (a:Act) (w:World) (aT:Array Value),Good cx r m L F st a w->(∀ k,d=some k->k<a.tmps.size)->aq cx.yv L F w args aT.toList ->
  CallsIn Fence.wide 0 P f aT w fun e w'=>(∃ x,e = .returned x /\ ∃ st' L' F',K st'/\Good cx r m L' F' st' (a.put d x) w'/\Tr F w F' w') \/
   ∃ v en h s L' F',e = .panicked [{ v:=v,recovered:=false }]/\Y.p v en h s/\Good cx r m L' F' ⟨en,h,s⟩ a w'/\Tr F w F' w'
def S6{σ:Type}(P:Program)(Y:Hd σ)(st:St σ)(d:Option Nat)(args:List V)(K:St σ->Prop):Prop:=
 ∀ (cx:Cx σ),ct P Y cx -> ∀ (l:Nat),cx.yv=some l -> ∀ (r:Option Nat) (m:List Nat) (L:Loc) (F:Nat->Nat) (a:Act) (w:World) (aT:Array Value),Good cx r m L F st a w->(∀ k,d=some k->k<a.tmps.size)->aq cx.yv L F w args aT.toList ->
  ∃ fn tmps zq body,(Instr.yield l aT).run P w = .ok (.round l fn tmps zq body) w /\
   RoundIn Fence.wide 0 P l fn tmps zq body w fun e w'=>∃ x,e = .returned x /\ ∃ st' L' F',K st'/\Good cx r m L' F' st' (a.put d x) w'/\Tr F w F' w'
def bP{σ:Type}(st:St σ):Wr->St σ
 | .set s v=>⟨put st.env s v,st.heap,st.s⟩
 | .obj id o=>⟨st.env,put st.heap id o,st.s⟩
 | .new id o=>⟨cZ (aL (bf id)) st.env,(id,o)::cZ (Obj.aL (bf id)) (cut st.heap id),st.s⟩
 | .newq id o=>⟨st.env,(id,o)::st.heap,st.s⟩
 | .del id=>⟨st.env,cut st.heap id,st.s⟩
def aR{σ:Type}(st:St σ):List Wr->St σ
 | []=>st
 | w::r=>aR (bP st w) r
def dB{α:Type}(h k:wy α):Prop:=∀ s v,get h s=some v->get k s=some v
def Out(P:Program)(e:Env)(h:Heap)(o:Oper)(ws:List Wr):Prop:=
 ∀ {σ:Type} (cx:Cx σ) (r:Option Nat) (m:List Nat) (L:Loc) (F:Nat->Nat) (st:St σ) (a:Act) (w:World),dB e st.env->dB h st.heap->Good cx r m L F st a w ->
  (∀ k,o.dst=some k->k<a.tmps.size) ->
  ∃ x w' nx,(execOp a.eval o).run P w = .ok nx w'/\(nx = .value x\/(nx = .skip/\x=undef)) /\ ∃ L' F',Good cx r m L' F' (aR st ws) (a.put o.dst x) w'/\Tr F w F' w'
def jR(P:Program)(e:Env)(h:Heap)(d:Option Nat)(f:FuncId)(args:List V)(ws:List Wr):Prop:=
 (∀ (vs:Array Value) (w:World),(callFunc f vs).run P w = .ok (.enter f vs) w) /\
 ∀ {σ:Type} (cx:Cx σ),mE P cx -> ∀ (r:Option Nat) (m:List Nat) (L:Loc) (F:Nat->Nat) (st:St σ) (a:Act) (w:World) (aT:Array Value),dB e st.env->dB h st.heap->Good cx r m L F st a w->(∀ k,d=some k->k<a.tmps.size)->aq cx.yv L F w args aT.toList ->
  CallsIn Fence.wide 0 P f aT w fun e w'=>∃ x,e = .returned x /\ ∃ L' F',Good cx r m L' F' (aR st ws) (a.put d x) w'/\Tr F w F' w'
structure Nx{σ:Type}(P:Program)(Y:Hd σ)(f:FuncId)(args:List V)(h:Heap)(s:σ)(Q:V->Heap->σ->Prop):Prop where
 enter:∀ (vs:Array Value) (w:World),(callFunc f vs).run P w = .ok (.enter f vs) w
 run:∀ (cx:Cx σ),ct P Y cx -> ∀ (L:Loc) (F:Nat->Nat) (aT:Array Value) (w:World),aZ cx L F h s w->aq cx.yv L F w args aT.toList ->
  CallsIn Fence.wide 0 P f aT w fun e w'=>∃ x,e = .returned x /\ ∃ v h' s' L' F',Q v h' s'/\aZ cx L' F' h' s' w'/\bg cx.yv L' F' w' v x/\Tr F w F' w'/\mh L L'
inductive dO{σ:Type}(P:Program)(Y:Hd σ)(st:St σ)(d:Option Nat)(f:FuncId)(args:List V)(K:St σ->Prop):Prop where
 | mk (h:Qx P Y st d f args K)
inductive Qy{σ:Type}(P:Program)(Y:Hd σ)(st:St σ)(d:Option Nat)(args:List V)(K:St σ->Prop):Prop where
 | mk (h:S6 P Y st d args K)
inductive CS{σ φ:Type}(P:Program)(ft:φ)(Y:Hd σ)(c:Code)(st:St σ)(K:fg->St σ->Prop):Prop where
 | mk (h:EW P Y (.loop c) st K)
inductive sF{σ φ:Type}(P:Program)(ft:φ)(Y:Hd σ)(id:Nat)(ops:Array Oper)(st:St σ)(K:fg->St σ->Prop):Prop where
 | mk (h:EW P Y (.region id ops true) st K)
inductive iK{σ φ:Type}(P:Program)(ft:φ)(Y:Hd σ)(g:Operand)(ps:Array Tmp)(a b:Code)(st:St σ)(K:fg->St σ->Prop):Prop where
 | mk (h:EW P Y (.rangeFunc g ps a b) st K)
inductive ef(P:Program)(e:Env)(h:Heap)(d:Option Nat)(f:FuncId)(args:List V)(K:List Wr->Prop):Prop where
 | mk (ws:List Wr) (hk:K ws) (ho:jR P e h d f args ws)
end Go.PX
namespace Go.PX
def Kx{σ:Type}(P:Program)(Y:Hd σ)(dst:Option Nat)(f:Operand)(args:List Operand)(e:Env)(h:Heap)(s:σ)(go:Env->Heap->σ->Prop):Prop:=
 match aS e f,dR e args with
 | some (.d (.clo g bS)),some l=>dO P Y ⟨e,h,s⟩ dst g (l++inj bS) fun|⟨e,h,s⟩=>go e h s
 | some (.clo g bS),some l=>dO P Y ⟨e,h,s⟩ dst g (l++bS) fun|⟨e,h,s⟩=>go e h s
 | some (.d (.mth g first)),some l=>dO P Y ⟨e,h,s⟩ dst g (inj first++l) fun|⟨e,h,s⟩=>go e h s
 | some .yld,some l=>Qy P Y ⟨e,h,s⟩ dst l fun|⟨e,h,s⟩=>go e h s
 | _,_=>False
def isSlice(T:e7)(t:TypeId):Bool:=
 match T.get t with
 | some ti=>match ti.kd with
  | .slice _=>true
  | _=>false
 | none=>false
def Cc(T:e7)(e:Env)(op:BinOp)(t:TypeId)(x y:Operand):Option (Bool×Prop):=
 match isSlice T t,op,y,aS e x with
 | true,.eql,.const (.slice none 0 0),some (.d (.vs es))=>some (false,es ≠ [])
 | true,.neq,.const (.slice none 0 0),some (.d (.vs es))=>some (true,es ≠ [])
 | true,.eql,.const (.slice none 0 0),some (.sl _ _ _ n)=>some (false,0<n)
 | true,.neq,.const (.slice none 0 0),some (.sl _ _ _ n)=>some (true,0<n)
 | true,.eql,.const (.slice none 0 0),some (.d .nils)=>some (true,True)
 | true,.neq,.const (.slice none 0 0),some (.d .nils)=>some (false,True)
 | _,_,_,_=>none
def Bg(neg b:Bool):Bool:=
 match neg with
 | true=>!b
 | false=>b
inductive S2(neg:Bool)(ne:Prop)(K:Bool->Prop):Prop where
 | mk (h:∀ b,(ne->b=false)->K (Bg neg b))
inductive S1(cJ:List (D×D))(n:Nat)(todo:List Nat)(K:Option (Nat×(D×D))->Prop):Prop where
 | mk (hn:cJ.length=n) (h0:todo = []->K none) (h1:∀ i kv,i∈todo->cJ[i]?=some kv->K (some (i,kv)))
def Md{σ:Type}(dst:Option Nat)(x:Operand)(e:Env)(h:Heap)(s:σ)(go:Env->Heap->σ->Prop):Prop:=
 match aS e x with
 | some (.it id)=>match get h id with
  | some (.mit v n todo cur)=>match Ou h v with
   | some cJ=>S1 cJ n todo fun r=>match r with
    | none=>bw (bz dst (.d (.tup [.bool false]))) e h fun e h=>go e h s
    | some (i,(k,u))=>bw (.obj id (.mit v n (todo.filter fun j=>!Nat.beq j i) (some i))::bz dst (.d (.tup [.bool true,k,u]))) e h fun e h=>go e h s
   | none=>False
  | _=>False
 | _=>False
inductive J9(P:Program)(t:TypeId)(name:String)(K:FuncId->Prop):Prop where
 | mk (g:FuncId) (h:∀ v w,(method (P.types.size+Made.depth) t v name).run P w = .ok (g,v) w) (hk:K g)
def RV{σ:Type}(P:Program)(Y:Hd σ)(dst:Option Nat)(f:Operand)(name:String)(args:List Operand)(e:Env)(h:Heap)(s:σ)(go:Env->Heap->σ->Prop):Prop:=
 match aS e f,dR e args with
 | some (.d (.ifc t v)),some l=>J9 P t name fun g=>dO P Y ⟨e,h,s⟩ dst g (.d v::l) fun|⟨e,h,s⟩=>go e h s
 | _,_=>False
def Sd{σ:Type}(Y:Hd σ)(x:Operand)(e:Env)(h:Heap)(s:σ):Prop:=
 match aS e x with
 | some (.d (.ifc t (.int k n)))=>Y.p (.iface t (.int k n)) e h s
 | _=>False
def EI{σ:Type}(P:Program)(T:e7)(Y:Hd σ)(dst:Option Nat)(op:Op)(e:Env)(h:Heap)(s:σ)(go:Env->Heap->σ->Prop):Prop:=
 match op with
 | .call ⟨callee,args,tys⟩=>match callee with
  | .builtin b=>fj T e h dst b args tys fun ws=>bw ws e h fun e h=>go e h s
  | .value f=>Kx P Y dst f args.toList e h s go
  | .invoke f name=>RV P Y dst f name args.toList e h s go
 | .panic x=>Sd Y x e h s
 | .next x b=>match b with
  | true=>gL T e h dst (.next x true) fun ws=>bw ws e h fun e h=>go e h s
  | false=>Md dst x e h s go
 | .binOp op t x y ty=>match Cc T e op t x y with
  | some (neg,ne)=>S2 neg ne fun b=>bw (bz dst (.d (.bool b))) e h fun e h=>go e h s
  | none=>gL T e h dst (.binOp op t x y ty) fun ws=>bw ws e h fun e h=>go e h s
 | op=>gL T e h dst op fun ws=>bw ws e h fun e h=>go e h s
noncomputable def wpOps{σ:Type}(P:Program)(T:e7)(Y:Hd σ)(ops:List Oper)(l:List Oper):Env->Heap->σ->(Env->Heap->σ->Prop)->Prop:=
 List.rec (motive:=fun _=>Env->Heap->σ->(Env->Heap->σ->Prop)->Prop) (fun e h s K=>K e h s)
  (fun o _ ih e h s K=>match o with
   | ⟨dst,op,_,_,_,guard⟩=>mN ops e guard
    (fun w=>bw w e h fun e h=>EI P T Y dst op e h s fun e h s=>ih e h s K)
    (fun w=>bw w e h fun e h=>bw (bz dst (.d (.tup []))) e h fun e h=>ih e h s K)) l
theorem wpOps_cons{σ:Type}(P:Program)(T:e7)(Y:Hd σ)(ops:List Oper)(dst:Option Nat)(op:Op)(ty:TypeId)(pos:String)(after:Array Edge)(guard:Option (Nat×Bool))(l:List Oper)(e:Env)(h:Heap)(s:σ)(K:Env->Heap->σ->Prop) :
  wpOps P T Y ops (⟨dst,op,ty,pos,after,guard⟩::l) e h s K=mN ops e guard
    (fun w=>bw w e h fun e h=>EI P T Y dst op e h s fun e h s=>wpOps P T Y ops l e h s K)
    (fun w=>bw w e h fun e h=>bw (bz dst (.d (.tup []))) e h fun e h=>wpOps P T Y ops l e h s K):=rfl
structure OT where
 ts:List Nat
 kc:List Nat
def FP:List Nat->Nat->Bool
 | [],_=>false
 | k::r,n=>match Nat.beq k n with
  | true=>true
  | false=>FP r n
def lB:List Nat->List Nat->Bool
 | [],_=>true
 | k::r,l=>match FP l k with
  | true=>false
  | false=>lB r l
structure OO where
 os:List Nat
 mo:List Nat
 nw:List Nat
 bQ:List Nat
def apart(a b:OO):Bool:=
 match lB a.mo b.os,lB a.mo b.mo,lB b.mo a.os,lB b.nw a.bQ with
 | true,true,true,true=>true
 | _,_,_,_=>false
def lr(o:OO)(acc:List OO):List Nat->Bool
 | []=>true
 | i::r=>match acc[i]? with
  | some p=>match apart o p with
   | true=>lr o acc r
   | false=>false
  | none=>false
def r5(mk:List Nat):List OO->Bool
 | []=>true
 | p::r=>match lB mk p.bQ,lB mk p.mo with
  | true,true=>r5 mk r
  | _,_=>false
def O8:List Nat->List Nat->Bool
 | [],_=>true
 | k::r,l=>match FP l k with
  | true=>O8 r l
  | false=>false
def DQ(d:Nat)(h:Heap):V->List Nat:=
 match d with
 | 0=>fun _=>[]
 | d+1=>fun v=>match v with
  | .d _=>[]
  | .agg cs=>cs.flatMap (DQ d h)
  | .tup cs=>cs.flatMap (DQ d h)
  | .clo _ cs=>cs.flatMap (DQ d h)
  | v=>match mR v with
   | none=>[]
   | some i=>i::(match get h i with
    | some (.box (.vv cs))=>cs.flatMap (DQ d h)
    | some (.arr _ (.vv es))=>es.flatMap fun e=>e.flatMap (DQ d h)
    | some (.mit v _ _ _)=>DQ d h v
    | some (.tb _ cs)=>cs.flatMap (DQ d h)
    | _=>[])
def LP(d:Nat)(e:Env)(h:Heap):List Nat->List Nat
 | []=>[]
 | s::r=>match get e s with
  | some v=>DQ d h v++LP d e h r
  | none=>LP d e h r
def ma(e:Env):List Nat->List Nat
 | []=>[]
 | s::r=>match get e s with
  | some v=>match mR v with
   | some i=>i::ma e r
   | none=>ma e r
  | none=>ma e r
def looksAt(op:Op)(e:Env)(h:Heap)(ts:List Nat):List Nat:=
 match op with
 | .load _ _=>ma e ts
 | .store _ (.tmp a) _=>ma e [a]
 | .call ⟨callee,_,_⟩=>match callee with
  | .builtin _=>ma e ts
  | _=>LP 9 e h ts
 | .lookup _ _ _ _=>ma e ts
 | .mapUpdate _ (.tmp a) _ _=>ma e [a]
 | .insert _ (.tmp a) _ _=>ma e [a]
 | .mapEntry _ (.tmp a) _=>ma e [a]
 | .entryStore _ (.tmp a) _ _=>ma e [a]
 | _=>[]
def aX{α:Type}(l:List Nat):wy α->wy α
 | []=>[]
 | (k,v)::r=>match FP l k with
  | true=>(k,v)::aX l r
  | false=>aX l r
def sk:List Wr->List Wr
 | []=>[]
 | w::r=>(match w with
  | .new id o=>.newq id o
  | w=>w)::sk r
def db:List Wr->List Nat
 | []=>[]
 | w::r=>match w with
  | .set _ _=>db r
  | .obj i _=>i::db r
  | .new i _=>i::db r
  | .newq i _=>i::db r
  | .del i=>i::db r
def bR:List Wr->List Nat
 | []=>[]
 | w::r=>match w with
  | .new i _=>i::bR r
  | _=>bR r
mutual
def cy:V->List Nat
 | .d _=>[]
 | .agg cs=>bJ cs
 | .tup cs=>bJ cs
 | .clo _ cs=>bJ cs
 | .ptr j _=>[j]
 | .ep j _ _ _=>[j]
 | .sl j _ _ _=>[j]
 | .mp j=>[j]
 | .it j=>[j]
 | .yld=>[]
 | .unk=>[]
def bJ:List V->List Nat
 | []=>[]
 | v::r=>cy v++bJ r
end
def gV:Obj->List Nat
 | .box (.vv l)=>bJ l
 | .arr _ (.vv l)=>bJ l.flatten
 | .mit v _ _ _=>cy v
 | .tb _ l=>bJ l
 | _=>[]
def cC:List Wr->List Nat
 | []=>[]
 | w::r=>match w with
  | .set _ v=>cy v++cC r
  | .obj _ o=>gV o++cC r
  | .new _ o=>gV o++cC r
  | .newq _ o=>gV o++cC r
  | .del _=>cC r
def fO:List Wr->Bool
 | []=>true
 | w::r=>match w with
  | .set _ v=>match lB (bR r) (cy v) with
   | true=>fO r
   | false=>false
  | .obj i o=>match lB (bR r) (i::gV o) with
   | true=>fO r
   | false=>false
  | .new i o=>match lB (bR r) (i::gV o) with
   | true=>fO r
   | false=>false
  | .newq _ _=>false
  | .del _=>fO r
def oN(d:Option Nat):List Wr->Bool
 | []=>true
 | w::r=>match w with
  | .set s _=>match d with
   | some d=>match Nat.beq s d with
    | true=>oN d r
    | false=>false
   | none=>false
  | _=>oN d r
def mi(d:Option Nat)(made:List Nat)(acc:List OO)(kc:List Nat)(ws:List Wr)(o:OO):Bool:=
 match lr o acc kc,r5 o.nw acc,O8 o.nw made,fO ws,oN d ws with
 | true,true,true,true,true=>true
 | _,_,_,_,_=>false
noncomputable def GQ(P:Program)(T:e7)(made:List Nat)(ops:List Oper)(l:List (Oper×OT)):List OO->Env->Heap->(Env->Heap->Prop)->Prop:=
 List.rec (motive:=fun _=>List OO->Env->Heap->(Env->Heap->Prop)->Prop) (fun _ e h K=>K e h)
  (fun o _ ih acc e h K=>match o with
   | (⟨dst,op,_,_,after,guard⟩,⟨ts,kc⟩)=>dU (looksAt op e h ts) fun os=>eB (aX ts e) fun e'=>iA (aX os h) fun h'=>
    mN ops e' guard
     (fun w=>
      let go:=fun ws=>dU (db ws) fun mo=>dU (bR ws) fun mk=>dU (cC ws) fun bQ=>
       gH (mi dst made acc kc ws ⟨os,mo,mk,bQ⟩) (bw w e h fun e h=>bw (sk ws) e h fun e h=>ih (acc ++ [⟨os,mo,mk,bQ⟩]) e h K)
      match op with
      | .call ⟨callee,args,tys⟩=>match callee with
       | .builtin b=>fj T e' h' dst b args tys go
       | .value f=>match aS e' f,dR e' args.toList with
        | some (.d (.clo g bS)),some l=>ef P e' h' dst g (l++inj bS) go
        | some (.clo g bS),some l=>ef P e' h' dst g (l++bS) go
        | _,_=>False
       | .invoke f name=>match aS e' f,dR e' args.toList with
        | some (.d (.ifc t v)),some l=>J9 P t name fun g=>ef P e' h' dst g (.d v::l) go
        | _,_=>False
      | op=>gL T e' h' dst op go)
     (fun w=>gH (lr ⟨os,[],[],[]⟩ acc kc) (bw w e h fun e h=>bw (bz dst (.d (.tup []))) e h fun e h=>ih (acc ++ [⟨os,[],[],[]⟩]) e h K))) l
def iH(i j:Nat)(v:V):V:=
 match v with
 | .ptr k off=>match Nat.beq k i with
  | true=>.ptr j off
  | false=>v
 | .ep k sz n off=>match Nat.beq k i with
  | true=>.ep j sz n off
  | false=>v
 | .sl k sz off n=>match Nat.beq k i with
  | true=>.sl j sz off n
  | false=>v
 | .mp k=>match Nat.beq k i with
  | true=>.mp j
  | false=>v
 | .it k=>match Nat.beq k i with
  | true=>.it j
  | false=>v
 | v=>v
def nD(i j:Nat):Heap->Heap
 | []=>[]
 | (k,o)::r=>match Nat.beq k i with
  | true=>(j,o.aL (iH i j))::nD i j r
  | false=>(k,o.aL (iH i j))::nD i j r
noncomputable def sK(l:List Nat):Env->Heap->(Env->Heap->Prop)->Prop:=
 List.rec (motive:=fun _=>Env->Heap->(Env->Heap->Prop)->Prop) (fun e h K=>K e h)
  (fun d _ ih e h K=>match get h d with
  | none=>eB (cZ (aL (bf d)) e) fun e=>iA (cZ (Obj.aL (bf d)) h) fun h=>ih e h K
  | some _=>eB (cZ (aL (iH d (500000+d))) (cZ (aL (bf (500000+d))) e)) fun e=>
    iA (nD d (500000+d) (cZ (Obj.aL (bf (500000+d))) (cut h (500000+d)))) fun h=>ih e h K) l
structure RT where
 made:List Nat
 gj:List OT
structure FT where
 ks:List Nat
 tb:List (Nat×RT)
def xB(v:Option V)(X Y:Prop):Prop:=
 match v with
 | some (.d (.bool t))=>Pn t X Y
 | _=>False
def Fc{σ:Type}(i:Nat)(K:fg->St σ->Prop)(e:fg)(st:St σ):Prop:=
 match e with
 | .exit j=>match Nat.beq j i with
  | true=>K .normal st
  | false=>K (.exit j) st
 | e=>K e st
noncomputable def Cy{σ:Type}(P:Program)(T:e7)(ft:FT)(Y:Hd σ)(c:Code):St σ->(fg->St σ->Prop)->Prop:=
 Code.rec (motive:=fun _=>St σ->(fg->St σ->Prop)->Prop)
  (fun st K=>K .normal st)
  (fun id ops draw st K=>match st,draw with
   | ⟨e,h,s⟩,false=>wpOps P T Y ops.toList ops.toList e h s fun e h s=>eB (aX ft.ks e) fun e=>K .normal ⟨e,h,s⟩
   | ⟨e,h,s⟩,true=>match get ft.tb id with
    | some ⟨made,gj⟩=>sK made e h fun e h=>GQ P T made ops.toList (ops.toList.zip gj) [] e h fun e h=>eB (aX ft.ks e) fun e=>K .normal ⟨e,h,s⟩
    | none=>sF P ft Y id ops ⟨e,h,s⟩ K)
  (fun _ _ iha ihb st K=>iha st fun e st=>match e with
   | .normal=>ihb st K
   | e=>K e st)
  (fun c _ _ iha ihb st K=>match st with
   | ⟨e,h,s⟩=>xB (aS e c) (iha ⟨e,h,s⟩ K) (ihb ⟨e,h,s⟩ K))
  (fun i _ ih st K=>ih st (Fc i K))
  (fun c _ st K=>CS P ft Y c st K)
  (fun g ps a b _ _ st K=>iK P ft Y g ps a b st K)
  (fun i st K=>K (.exit i) st)
  (fun _ ih st K=>ih st K)
  (fun _ st K=>K .normal st)
  (fun _ _ _=>False)
  (fun st K=>K .ret st)
  (fun _ _ _=>False) c
def dy:Nat->List V->Env
 | _,[]=>[]
 | i,v::r=>(i,v)::dy (i+1) r
noncomputable def Ew(T:e7)(g:Env)(h:Heap)(l:List ResultVar):(List V->Prop)->Prop:=
 List.rec (motive:=fun _=>(List V->Prop)->Prop) (fun K=>K [])
  (fun r _ ih K=>match r with
  | .tmp t=>match get g t with
   | some v=>ih fun l=>K (v::l)
   | none=>False
  | .cell a t=>D0 T g h t (.tmp a) fun v=>ih fun l=>K (v::l)) l
def H0(l:List Value):Value:=
 match l with
 | [x]=>x
 | l=>.tuple l.toArray
inductive rD{σ:Type}(l:List V)(h:Heap)(s:σ)(Q:V->Heap->σ->Prop):Prop where
 | mk (hr:∀ (cx:Cx σ) (L:Loc) (F:Nat->Nat) (aT:List Value) (w:World),aZ cx L F h s w->aq cx.yv L F w l aT ->
   ∃ v h' L' F',Q v h' s/\aZ cx L' F' h' s w/\bg cx.yv L' F' w v (H0 aT)/\Tr F w F' w/\mh L L')
def Sz{σ:Type}(T:e7)(rs:List ResultVar)(Q:V->Heap->σ->Prop)(e:fg)(st:St σ):Prop:=
 match e with
 | .exit _=>False
 | _=>match st with
  | ⟨e,h,s⟩=>Ew T e h rs fun l=>rD l h s Q
end Go.PX
