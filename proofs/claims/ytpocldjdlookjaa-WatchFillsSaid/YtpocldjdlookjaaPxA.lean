import Derived.Calls
import Derived.RangeFuncLeaves
import Derived.Below
import Derived.Laws.Rows
import Derived.Lib.LaidTab
import Derived.Lib.ItoaNum
set_option linter.all false
namespace Go.PX
inductive D where
 | bool (b:Bool)
 | int (k:IntKind) (n:Int)
 | str (s:ByteArray)
 | agg (cs:List D)
 | tup (cs:List D)
 | vs (es:List (List D))
 | nils
 | ref (cs:List D)
 | nilp
 | mv (cc:List (D×D))
 | nilm
 | clo (f:FuncId) (bS:List D)
 | mth (f:FuncId) (first:List D)
 | nilf
 | ifc (t:TypeId) (v:D)
 | nili
 deriving Inhabited
inductive V where
 | d (v:D)
 | agg (cs:List V)
 | tup (cs:List V)
 | ptr (id off:Nat)
 | ep (id sz i off:Nat)
 | sl (id sz off len:Nat)
 | mp (id:Nat)
 | it (id:Nat)
 | clo (f:FuncId) (bS:List V)
 | yld
 | unk
 deriving Inhabited
inductive Cells where
 | dd (l:List D)
 | vv (l:List V)
 deriving Inhabited
inductive aC where
 | dd (l:List (List D))
 | vv (l:List (List V))
 deriving Inhabited
inductive Obj where
 | box (cs:Cells)
 | arr (sz:Nat) (es:aC)
 | map (cc:List (D×D))
 | iter (s:ByteArray) (pos:Nat)
 | buf (t:TypeId) (s:ByteArray)
 | tb (t:TypeId) (l:List V)
 | mit (v:V) (n:Nat) (todo:List Nat) (cur:Option Nat)
 deriving Inhabited
abbrev sd(α:Type):=List (Nat×α)
def get{α:Type}:sd α->Nat->Option α
 | [],_=>none
 | (k,v)::r,s=>match Nat.beq k s with
  | true=>some v
  | false=>get r s
def put{α:Type}:sd α->Nat->α->sd α
 | [],s,v=>[(s,v)]
 | (k,u)::r,s,v=>match Nat.beq k s with
  | true=>(k,v)::r
  | false=>(k,u)::put r s v
def cut{α:Type}:sd α->Nat->sd α
 | [],_=>[]
 | (k,u)::r,s=>match Nat.beq k s with
  | true=>cut r s
  | false=>(k,u)::cut r s
def cn{α β:Type}(f:α->β):sd α->sd β
 | []=>[]
 | (k,u)::r=>(k,f u)::cn f r
abbrev Env:=sd V
abbrev av:=sd Obj
structure St(σ:Type) where
 env:Env
 heap:av
 s:σ
def T8:V->Bool
 | .d _=>true
 | _=>false
def sh:List V->Option (List D)
 | []=>some []
 | .d v::r=>match sh r with
  | some l=>some (v::l)
  | none=>none
 | _=>none
def qv(cs:List V):V:=
 match sh cs with
 | some ds=>.d (.agg ds)
 | none=>.agg cs
def oF(cs:List V):V:=
 match sh cs with
 | some ds=>.d (.tup ds)
 | none=>.tup cs
def inj:List D->List V
 | []=>[]
 | v::r=>.d v::inj r
def V.cells:V->Cells
 | .d (.agg cs)=>.dd cs
 | .agg cs=>.vv cs
 | .d v=>.dd [v]
 | v=>.vv [v]
def Cells.len:Cells->Nat
 | .dd l=>l.length
 | .vv l=>l.length
def Cells.aU:Cells->List V
 | .dd l=>inj l
 | .vv l=>l
def Cells.sub(c:Cells)(off n:Nat):V:=
 match c with
 | .dd l=>.d (.agg ((l.drop off).take n))
 | .vv l=>qv ((l.drop off).take n)
def Cells.gq(c:Cells)(off:Nat)(x:Cells):Cells:=
 match c,x with
 | .dd l,.dd m=>.dd (l.take off++m++l.drop (off+m.length))
 | .dd l,.vv m=>.vv (inj (l.take off)++m++inj (l.drop (off+m.length)))
 | .vv l,.dd m=>.vv (l.take off++inj m++l.drop (off+m.length))
 | .vv l,.vv m=>.vv (l.take off++m++l.drop (off+m.length))
def fk:V->Option Nat
 | .ptr i _=>some i
 | .ep i _ _ _=>some i
 | .sl i _ _ _=>some i
 | .mp i=>some i
 | .it i=>some i
 | _=>none
mutual
def az(f:V->V):V->V
 | .d v=>.d v
 | .agg cs=>.agg (ca f cs)
 | .tup cs=>.tup (ca f cs)
 | .clo g cs=>.clo g (ca f cs)
 | .yld=>.yld
 | .unk=>.unk
 | .ptr i o=>f (.ptr i o)
 | .ep i n j o=>f (.ep i n j o)
 | .sl i n o l=>f (.sl i n o l)
 | .mp i=>f (.mp i)
 | .it i=>f (.it i)
def ca(f:V->V):List V->List V
 | []=>[]
 | v::r=>az f v::ca f r
end
def a7(f:V->V):List (List V)->List (List V)
 | []=>[]
 | v::r=>ca f v::a7 f r
def Obj.az(f:V->V):Obj->Obj
 | .box (.dd l)=>.box (.dd l)
 | .box (.vv l)=>.box (.vv (ca f l))
 | .arr sz (.dd l)=>.arr sz (.dd l)
 | .arr sz (.vv l)=>.arr sz (.vv (a7 f l))
 | .map cc=>.map cc
 | .iter s n=>.iter s n
 | .buf t s=>.buf t s
 | .tb t l=>.tb t (ca f l)
 | .mit v n l u=>.mit (PX.az f v) n l u
mutual
def oG(i:Nat):V->Bool
 | .d _=>false
 | .agg cs=>dJ i cs
 | .tup cs=>dJ i cs
 | .clo _ cs=>dJ i cs
 | .ptr j _=>Nat.beq j i
 | .ep j _ _ _=>Nat.beq j i
 | .sl j _ _ _=>Nat.beq j i
 | .mp j=>Nat.beq j i
 | .it j=>Nat.beq j i
 | .yld=>false
 | .unk=>false
def dJ(i:Nat):List V->Bool
 | []=>false
 | v::r=>oG i v||dJ i r
end
def Cells.free(i:Nat):Cells->Bool
 | .dd _=>true
 | .vv l=>!dJ i l
def aC.free(i:Nat):aC->Bool
 | .dd _=>true
 | .vv l=>!dJ i l.flatten
def aQ(id:Nat)(v:V):V:=
 match fk v with
 | some i=>match Nat.beq i id with
  | true=>.unk
  | false=>v
 | none=>v
inductive Kd where
 | bool|int (k:IntKind)|str
 | slice (e:TypeId)
 | struct (fs:List (Nat×TypeId))
 | array (n:Nat) (e:TypeId)
 | map (k e:TypeId)
 | iface
 | other
 deriving Inhabited
structure oQ where
 size:Nat
 bytes:Nat
 kd:Kd
 isAgg:Bool
 held:Bool
 zero:Option (List D)
 deriving Inhabited
inductive dM where
 | lf
 | nd (l:dM) (k:Nat) (v:oQ) (r:dM)
def dM.get:dM->Nat->Option oQ
 | .lf,_=>none
 | .nd l k v r,s=>match Nat.beq s k with
  | true=>some v
  | false=>match Nat.blt s k with
   | true=>l.get s
   | false=>r.get s
def j5:Value->Option D
 | .bool b=>some (.bool b)
 | .int k n=>some (.int k n)
 | .string s=>some (.str s)
 | .slice none 0 0=>some .nils
 | .map none=>some .nilm
 | .nilFunc=>some .nilf
 | .pointer none=>some .nilp
 | .nilIface=>some .nili
 | _=>none
def gD:List Value->Option (List D)
 | []=>some []
 | v::r=>match j5 v,gD r with
  | some a,some l=>some (a::l)
  | _,_=>none
def ofConst:Value->Option D
 | .agg cs=>match gD cs.toList with
  | some l=>some (.agg l)
  | none=>none
 | .tuple cs=>match cs.toList with
  | []=>some (.tup [])
  | _=>none
 | v=>j5 v
def aM(g:Env):Operand->Option V
 | .tmp t=>get g t
 | .const v=>match ofConst v with
  | some v=>some (.d v)
  | none=>none
 | .func f=>some (.d (.clo f []))
 | .global _=>none
def cQ(g:Env):List Operand->Option (List V)
 | []=>some []
 | x::r=>match aM g x,cQ g r with
  | some a,some l=>some (a::l)
  | _,_=>none
inductive Wr where
 | set (s:Nat) (v:V)
 | obj (id:Nat) (o:Obj)
 | new (id:Nat) (o:Obj)
 | newq (id:Nat) (o:Obj)
 | del (id:Nat)
 deriving Inhabited
def xg(v:V)(K:V->Prop):Prop:=
 match v with
 | .d x=>K (.d x)
 | .agg cs=>K (.agg cs)
 | .tup cs=>K (.tup cs)
 | .ptr i o=>K (.ptr i o)
 | .ep i n j o=>K (.ep i n j o)
 | .sl i n o l=>K (.sl i n o l)
 | .mp i=>K (.mp i)
 | .it i=>K (.it i)
 | .clo f cs=>K (.clo f cs)
 | .yld=>K .yld
 | .unk=>K .unk
noncomputable def Bu(l:List D):(List D->Prop)->Prop:=
 List.rec (motive:=fun _=>(List D->Prop)->Prop) (fun K=>K []) (fun v _ ih K=>ih fun r=>K (v::r)) l
noncomputable def xf(l:List V):(List V->Prop)->Prop:=
 List.rec (motive:=fun _=>(List V->Prop)->Prop) (fun K=>K []) (fun v _ ih K=>ih fun r=>K (v::r)) l
theorem tL:∀ (l:List D) (K:List D->Prop),Bu l K=K l
 | [],_=>rfl
 | v::r,K=>tL r fun r=>K (v::r)
theorem oX:∀ (l:List V) (K:List V->Prop),xf l K=K l
 | [],_=>rfl
 | v::r,K=>oX r fun r=>K (v::r)
noncomputable def Ah(v:Obj)(K:Obj->Prop):Prop:=
 match v with
 | .box (.dd l)=>Bu l fun l=>K (.box (.dd l))
 | .box (.vv l)=>xf l fun l=>K (.box (.vv l))
 | .arr n (.dd l)=>K (.arr n (.dd l))
 | .arr n (.vv l)=>K (.arr n (.vv l))
 | .map cc=>K (.map cc)
 | .iter x n=>K (.iter x n)
 | .buf t s=>K (.buf t s)
 | .tb t l=>xf l fun l=>K (.tb t l)
 | .mit v n l u=>xg v fun v=>K (.mit v n l u)
noncomputable def dx(l:Env):(Env->Prop)->Prop:=
 List.rec (motive:=fun _=>(Env->Prop)->Prop) (fun K=>K [])
  (fun kv _ ih K=>match kv with
   | (k,v)=>xg v fun v=>ih fun r=>K ((k,v)::r)) l
noncomputable def fy(l:av):(av->Prop)->Prop:=
 List.rec (motive:=fun _=>(av->Prop)->Prop) (fun K=>K [])
  (fun kv _ ih K=>match kv with
   | (k,v)=>Ah v fun v=>ih fun r=>K ((k,v)::r)) l
noncomputable def cO(l:List Nat):(List Nat->Prop)->Prop:=
 List.rec (motive:=fun _=>(List Nat->Prop)->Prop) (fun K=>K []) (fun n _ ih K=>ih fun r=>K (n::r)) l
noncomputable def bk(l:List Wr):Env->av->(Env->av->Prop)->Prop:=
 List.rec (motive:=fun _=>Env->av->(Env->av->Prop)->Prop) (fun e h K=>K e h)
  (fun w _ ih e h K=>match w with
  | .set s v=>dx (put e s v) fun e'=>ih e' h K
  | .obj id o=>fy (put h id o) fun h'=>ih e h' K
  | .new id o=>dx (cn (az (aQ id)) e) fun e'=>fy ((id,o)::cn (Obj.az (aQ id)) (cut h id)) fun h'=>ih e' h' K
  | .newq id o=>fy ((id,o)::h) fun h'=>ih e h' K
  | .del id=>fy (cut h id) fun h'=>ih e h' K) l
def fc(b:Bool)(K:Prop):Prop:=
 match b with
 | true=>K
 | false=>False
def HC(b:Bool)(X Y:Prop):Prop:=
 match b with
 | true=>X
 | false=>Y
inductive arith(k:IntKind)(n:Int)(K:V->Prop):Prop where
 | mk (h:K (.d (.int k (k.wrap n))))
def vQ(es:List (List D))(i:Int)(K:List D->Prop):Prop:=
 match decide (0<=i),es[i.toNat]? with
 | true,some l=>K l
 | _,_=>False
def mX{α:Type}(cs:List α)(n:Nat)(K:α->Prop):Prop:=
 match cs[n]? with
 | some v=>K v
 | none=>False
def Cells.JG(c:Cells)(n:Nat)(K:V->Prop):Prop:=
 match c with
 | .dd l=>mX l n fun v=>K (.d v)
 | .vv l=>mX l n K
def aC.JG(c:aC)(n:Nat)(K:Cells->Prop):Prop:=
 match c with
 | .dd l=>mX l n fun v=>K (.dd v)
 | .vv l=>mX l n fun v=>K (.vv v)
def aO:List (List D)->List (List V)
 | []=>[]
 | v::r=>inj v::aO r
def aC.len:aC->Nat
 | .dd l=>l.length
 | .vv l=>l.length
def aC.aU:aC->List (List V)
 | .dd l=>aO l
 | .vv l=>l
def aC.set(c:aC)(n:Nat)(x:Cells):aC:=
 match c,x with
 | .dd l,.dd m=>.dd (l.set n m)
 | .dd l,.vv m=>.vv ((aO l).set n m)
 | .vv l,x=>.vv (l.set n x.aU)
def aC.part(c:aC)(off n:Nat):aC:=
 match c with
 | .dd l=>.dd ((l.drop off).take n)
 | .vv l=>.vv ((l.drop off).take n)
def aC.app(c x:aC):aC:=
 match c,x with
 | .dd l,.dd m=>.dd (l++m)
 | .dd l,.vv m=>.vv (aO l++m)
 | .vv l,x=>.vv (l++x.aU)
def ry(n:Nat)(lo hi:Option V)(K:Nat->Nat->Prop):Prop:=
 match hi with
 | none=>match lo with
  | none=>K 0 n
  | some (.d (.int _ l))=>fc (decide (0<=l)&&decide (l<=n)) (K l.toNat n)
  | _=>False
 | some (.d (.int _ h))=>fc (decide (0<=h)&&decide (h<=n))
   (match lo with
   | none=>K 0 h.toNat
   | some (.d (.int _ l))=>fc (decide (0<=l)&&decide (l<=h)) (K l.toNat h.toNat)
   | _=>False)
 | _=>False
def y7(g:Env):Option Operand->Option (Option V)
 | none=>some none
 | some x=>match aM g x with
  | some v=>some (some v)
  | none=>none
inductive Place where
 | imm (cs:List D)
 | box (id off:Nat)
 | el (id sz i off:Nat)
def placeOf(v:V):Option Place:=
 match v with
 | .d (.ref cs)=>some (.imm cs)
 | .ptr id off=>some (.box id off)
 | .ep id sz i off=>some (.el id sz i off)
 | _=>none
def Place.add(n:Nat):Place->V
 | .imm cs=>.d (.ref (cs.drop n))
 | .box id off=>.ptr id (off+n)
 | .el id sz i off=>.ep id sz i (off+n)
def a9(d:Option Nat)(v:V):List Wr:=
 match d with
 | none=>[]
 | some d=>[.set d v]
def D.scalar:D->Bool
 | .agg _ | .tup _=>false
 | _=>true
def V.scalar:V->Bool
 | .d v=>v.scalar
 | .agg _ | .tup _=>false
 | _=>true
def cb:List V->Bool
 | []=>true
 | x::r=>x.scalar&&cb r
def gi:List D->Bool
 | []=>true
 | x::r=>x.scalar&&gi r
def D9(T:dM)(eq:TypeId->List D->List D->Option Bool):List (Nat×TypeId)->List D->List D->Option Bool
 | [],_,_=>some true
 | (off,t)::r,xs,ys=>
  match T.get t with
  | none=>none
  | some ti=>match Nat.beq ti.size 0,Nat.ble (off+ti.size) xs.length,Nat.ble (off+ti.size) ys.length with
   | false,true,true=>match eq t ((xs.drop off).take ti.size) ((ys.drop off).take ti.size),D9 T eq r xs ys with
    | some a,some b=>some (a&&b)
    | _,_=>none
   | _,_,_=>none
def Cq(eq:List D->List D->Option Bool)(c:Nat):Nat->List D->List D->Option Bool
 | 0,_,_=>some true
 | n+1,xs,ys=>match Nat.ble c xs.length,Nat.ble c ys.length with
  | true,true=>match eq (xs.take c) (ys.take c),Cq eq c n (xs.drop c) (ys.drop c) with
   | some a,some b=>some (a&&b)
   | _,_=>none
  | _,_=>none
def Gn(T:dM):Nat->TypeId->List D->List D->Option Bool
 | 0,_,_,_=>none
 | d+1,t,xs,ys=>
  match T.get t with
  | none=>none
  | some ti=>match ti.kd with
   | .bool=>match xs,ys with
    | [.bool a],[.bool b]=>some (a ==b)
    | _,_=>none
   | .int _=>match xs,ys with
    | [.int k a],[.int k' b]=>match decide (k=k') with
     | true=>some (decide (a=b))
     | false=>none
    | _,_=>none
   | .str=>match xs,ys with
    | [.str a],[.str b]=>some (decide (a=b))
    | _,_=>none
   | .struct fs=>match ti.held with
    | true=>none
    | false=>D9 T (fun t xs ys=>Gn T d t xs ys) fs xs ys
   | .array n e=>match T.get e with
    | some ei=>match Nat.beq ei.size 0,Nat.beq n 0 with
     | false,false=>Cq (fun xs ys=>Gn T d e xs ys) ei.size n xs ys
     | _,_=>none
    | none=>none
   | _=>none
def fb(op:BinOp)(k:IntKind)(a b:Int):Int:=
 match op with
 | .and=>k.wrap (BitVec.ofInt k.bits a &&& BitVec.ofInt k.bits b).toNat
 | .or=>k.wrap (BitVec.ofInt k.bits a ||| BitVec.ofInt k.bits b).toNat
 | .xor=>k.wrap (BitVec.ofInt k.bits a ^^^ BitVec.ofInt k.bits b).toNat
 | _=>k.wrap (BitVec.ofInt k.bits a &&& ~~~(BitVec.ofInt k.bits b)).toNat
def Mb(op:BinOp)(k:IntKind)(a b:Int)(K:V->Prop):Prop:=
 match op with
 | .add=>arith k (a+b) K
 | .sub=>arith k (a-b) K
 | .mul=>arith k (a*b) K
 | .quo=>fc (decide (b≠0)) (arith k (a.tdiv b) K)
 | .rem=>fc (decide (b≠0)) (K (.d (.int k (a.tmod b))))
 | .eql=>K (.d (.bool (decide (a=b))))
 | .neq=>K (.d (.bool (!decide (a=b))))
 | .lss=>K (.d (.bool (decide (a<b))))
 | .leq=>K (.d (.bool (decide (a<=b))))
 | .gtr=>K (.d (.bool (decide (b<a))))
 | .geq=>K (.d (.bool (decide (b<=a))))
 | .and=>K (.d (.int k (fb .and k a b)))
 | .or=>K (.d (.int k (fb .or k a b)))
 | .xor=>K (.d (.int k (fb .xor k a b)))
 | .andNot=>K (.d (.int k (fb .andNot k a b)))
 | _=>False
def Bn(x:Option Bool)(K:V->Prop):Prop:=
 match x with
 | some b=>K (.d (.bool b))
 | none=>False
def Jq:Option Bool->Option Bool
 | some b=>some (!b)
 | none=>none
def qi(T:dM)(t:TypeId):Bool:=
 match T.get t with
 | some ti=>match ti.kd with
  | .struct _=>true
  | .array _ _=>true
  | _=>false
 | none=>false
def isBool(T:dM)(t:TypeId):Bool:=
 match T.get t with
 | some ti=>match ti.kd with
  | .bool=>true
  | _=>false
 | none=>false
def isIface(T:dM)(t:TypeId):Bool:=
 match T.get t with
 | some ti=>match ti.kd with
  | .iface=>true
  | _=>false
 | none=>false
def AJ:Operand->Bool
 | .const .nilIface=>true
 | _=>false
def BV(T:dM)(op:BinOp)(t:TypeId)(b:Bool)(K:V->Prop):Prop:=
 match isIface T t,op with
 | true,.eql=>K (.d (.bool b))
 | true,.neq=>K (.d (.bool (!b)))
 | _,_=>False
def Iq(T:dM)(op:BinOp)(t:TypeId)(x y:V)(K:V->Prop):Prop:=
 match x,y with
 | .d (.int k a),.d (.int k' b)=>match op with
  | .shl=>fc (decide (0<=b)) (arith k (a*2^(min b.toNat k.bits)) K)
  | .shr=>fc (decide (0<=b)) (K (.d (.int k (a.fdiv (2^(min b.toNat k.bits))))))
  | _=>match decide (k=k') with
   | true=>Mb op k a b K
   | false=>False
 | .d (.bool a),.d (.bool b)=>match isBool T t,op with
  | true,.eql=>K (.d (.bool (a ==b)))
  | true,.neq=>K (.d (.bool (!(a ==b))))
  | _,_=>False
 | .d (.str a),.d (.str b)=>match op with
  | .eql=>K (.d (.bool (decide (a=b))))
  | .neq=>K (.d (.bool (!decide (a=b))))
  | .add=>fc (decide (a.size+b.size<=9223372036854775807)) (K (.d (.str (a++b))))
  | _=>False
 | .d (.agg a),.d (.agg b)=>match qi T t,op with
  | true,.eql=>Bn (Gn T 9 t a b) K
  | true,.neq=>Bn (Jq (Gn T 9 t a b)) K
  | _,_=>False
 | _,_=>False
def jy(fs:List (Nat×Nat))(cs:Cells):List (Nat×V)->Option Cells
 | []=>some cs
 | (i,v)::r=>match fs[i]? with
  | some (off,n)=>match Nat.beq v.cells.len n,Nat.ble (off+n) cs.len with
   | true,true=>jy fs (cs.gq off v.cells) r
   | _,_=>none
  | none=>none
def Cells.val:Cells->V
 | .dd l=>.d (.agg l)
 | .vv l=>qv l
def partsOf(g:Env):List (Nat×Operand)->Option (List (Nat×V))
 | []=>some []
 | (i,x)::r=>match aM g x,partsOf g r with
  | some a,some l=>some ((i,a)::l)
  | _,_=>none
def qL(T:dM):List (Nat×TypeId)->Option (List (Nat×Nat))
 | []=>some []
 | (off,t)::r=>match T.get t,qL T r with
  | some i,some l=>some ((off,i.size)::l)
  | _,_=>none
def aC.cons(x:Cells)(c:aC):aC:=
 match x,c with
 | .dd l,.dd m=>.dd (l::m)
 | .dd l,.vv m=>.vv (inj l::m)
 | .vv l,c=>.vv (l::c.aU)
def pU(n:Nat):Nat->List (Nat×V)->Option aC
 | _,[]=>some (.dd [])
 | i,(j,v)::r=>match Nat.beq j i,Nat.beq v.cells.len n,pU n (i+1) r with
  | true,true,some l=>some (l.cons v.cells)
  | _,_,_=>none
def C9:IntKind->Int->List V->Option D
 | k,a,[]=>some (.int k a)
 | k,a,.d (.int _ b)::r=>C9 k (min a b) r
 | _,_,_=>none
def C7:IntKind->Int->List V->Option D
 | k,a,[]=>some (.int k a)
 | k,a,.d (.int _ b)::r=>C7 k (max a b) r
 | _,_,_=>none
def oT(h:av):V->Option aC
 | .d (.vs es)=>some (.dd es)
 | .d .nils=>some (.dd [])
 | .sl id sz off n=>match get h id with
  | some (.arr m es)=>match Nat.beq m sz,Nat.ble (off+n) es.len with
   | true,true=>some (es.part off n)
   | _,_=>none
  | _=>none
 | _=>none
inductive Fj(es:aC)(off n:Nat)(K:aC->Prop):Prop where
 | mk (h:Nat.ble (off+n) es.len=true) (k:K (es.part off n))
def w8(h:av)(v:V)(K:aC->Prop):Prop:=
 match v with
 | .d (.vs es)=>K (.dd es)
 | .d .nils=>K (.dd [])
 | .sl id sz off n=>match get h id with
  | some (.arr m es)=>match Nat.beq m sz with
   | true=>Fj es off n K
   | false=>False
  | _=>False
 | _=>False
theorem yg{h:av}{v:V}{K:aC->Prop}(hk:w8 h v K):∃ fs,oT h v=some fs/\K fs:=by
 unfold w8 at hk;split at hk
 ·exact⟨_,rfl,hk⟩
 ·exact⟨_,rfl,hk⟩
 ·rename_i id sz off n
  split at hk
  ·rename_i m es hg
   split at hk
   ·rename_i hm
    obtain⟨h1,h2⟩:=hk;exact⟨_,by simp[oT,hg,hm,h1],h2⟩
   ·exact hk.elim
  ·exact hk.elim
 ·exact hk.elim
theorem AX(es:aC):es.part 0 es.len=es:=by
 cases es<;>simp[aC.part,aC.len]
theorem ar{es:aC}{n:Nat}{K:aC->Prop}(h:n=es.len)(k:K es):Fj es 0 n K:=by
 subst h;exact⟨Nat.ble_eq_true_of_le (by omega),by rw[AX];exact k⟩
def mg(n:Nat):List (List D)->Bool
 | []=>true
 | l::r=>match Nat.beq l.length n,gi l with
  | true,true=>mg n r
  | _,_=>false
def nZ(n:Nat):List (List V)->Bool
 | []=>true
 | l::r=>match Nat.beq l.length n,cb l with
  | true,true=>nZ n r
  | _,_=>false
def aC.ok(n:Nat):aC->Bool
 | .dd l=>mg n l
 | .vv l=>nZ n l
def Cells.ok:Cells->Bool
 | .dd l=>gi l
 | .vv l=>cb l
def Bh(t:oQ):Bool:=
 match t.zero with
 | some z=>Nat.beq z.length t.size
 | none=>false
def Cells.cm(ti:oQ)(c:Cells)(off:Nat)(K:V->Prop):Prop:=
 match ti.isAgg with
 | true=>fc (Nat.ble (off+ti.size) c.len) (K (c.sub off ti.size))
 | false=>c.JG off K
def yW(T:dM)(g:Env)(h:av)(t:TypeId)(x:Operand)(K:V->Prop):Prop:=
 match aM g x with
 | none=>False
 | some v=>match placeOf v,T.get t with
  | some (.imm cs),some ti=>(Cells.dd cs).cm ti 0 K
  | some (.box id off),some ti=>match get h id with
   | some (.box cs)=>cs.cm ti off K
   | some (.tb _ l)=>(Cells.vv l).cm ti off K
   | _=>False
  | some (.el id sz i off),some ti=>match get h id with
   | some (.arr n es)=>fc (Nat.beq n sz) (es.JG i fun cs=>cs.cm ti off K)
   | _=>False
  | _,_=>False
def Fz(T:dM)(g:Env)(h:av)(t:TypeId)(x y:Operand)(K:List Wr->Prop):Prop:=
 match aM g x,aM g y,T.get t with
 | some a,some v,some ti=>
  fc (Nat.beq v.cells.len ti.size&&v.cells.ok)
   (match placeOf a with
   | some (.box id off)=>match get h id with
    | some (.box cs)=>fc (Nat.ble (off+ti.size) cs.len) (K [.obj id (.box (cs.gq off v.cells))])
    | some (.tb t l)=>fc (Nat.ble (off+ti.size) l.length) (K [.obj id (.tb t ((Cells.vv l).gq off v.cells).aU)])
    | _=>False
   | some (.el id sz i off)=>match get h id with
    | some (.arr n es)=>fc (Nat.beq n sz) (es.JG i fun e=>fc (Nat.ble (off+ti.size) e.len) (K [.obj id (.arr n (es.set i (e.gq off v.cells)))]))
    | _=>False
   | _=>False)
 | _,_,_=>False
def s8(h:av)(v:V)(sz:Nat)(K:aC->List Wr->Prop):Prop:=
 match v with
 | .d .nils=>K (.dd []) []
 | .sl id n off len=>match get h id with
  | some (.arr m es)=>fc (Nat.beq n sz&&Nat.beq m sz&&Nat.ble len es.len&&Nat.beq off 0) (K (es.part 0 len) [.del id])
  | _=>False
 | _=>False
def qP(h:av)(v:V)(sz:Nat)(K:aC->List Wr->Prop):Prop:=
 match v with
 | .d .nils=>K (.dd []) []
 | .sl id n off len=>match get h id with
  | some (.arr m es)=>fc (Nat.beq n sz&&Nat.beq m sz&&Nat.beq off 0) (Fj es 0 len fun es=>K es [.del id])
  | _=>False
 | _=>False
theorem A9{h:av}{v:V}{sz:Nat}{K:aC->List Wr->Prop}(hk:qP h v sz K):s8 h v sz K:=by
 unfold qP at hk;unfold s8;split at hk
 ·exact hk
 ·rename_i id n off len
  split at hk
  ·rename_i m es hg
   cases hc:(Nat.beq n sz&&Nat.beq m sz&&Nat.beq off 0) with
   | false=>rw[hc]at hk;exact hk.elim
   | true=>
    rw[hc]at hk;obtain⟨h1,h2⟩:=(hk:Fj es 0 len fun es=>K es [.del id]);rw[Nat.zero_add]at h1;simp only[Bool.and_eq_true]at hc;show fc (Nat.beq n sz&&Nat.beq m sz&&Nat.ble len es.len&&Nat.beq off 0) (K (es.part 0 len) [.del id]);rw[hc.1.1,hc.1.2,hc.2,h1];exact h2
  ·exact hk.elim
 ·exact hk.elim
def ff(T:dM)(t:TypeId):Option oQ:=
 match T.get t with
 | some ti=>match ti.kd with
  | .slice e=>T.get e
  | _=>none
 | none=>none
def l4(ei:oQ):Bool:=!Nat.beq ei.size 0 && !Nat.beq ei.bytes 0&&Bh ei
def tk(T:dM)(g:Env)(h:av)(d:Option Nat)(t:TypeId)(x y:Operand)(K:List Wr->Prop):Prop:=
 match aM g x,aM g y,ff T t,d with
 | some v,some u,some ei,some d=>match oT h u with
  | some fs=>fc (l4 ei) (s8 h v ei.size fun es ws=>
    fc (fs.ok ei.size&&(es.app fs).free d) (fc (decide ((es.len+fs.len)*ei.bytes<=140737488355328))
     (K (ws ++ [.new d (.arr ei.size (es.app fs)),.set d (.sl d ei.size 0 (es.len+fs.len))]))))
  | none=>False
 | _,_,_,_=>False
def w4(T:dM)(g:Env)(h:av)(d:Option Nat)(t:TypeId)(x y:Operand)(K:List Wr->Prop):Prop:=
 match aM g x,aM g y,ff T t,d with
 | some v,some u,some ei,some d=>w8 h u fun fs=>fc (l4 ei) (qP h v ei.size fun es ws=>
    fc (fs.ok ei.size&&(es.app fs).free d) (fc (decide ((es.len+fs.len)*ei.bytes<=140737488355328))
     (K (ws ++ [.new d (.arr ei.size (es.app fs)),.set d (.sl d ei.size 0 (es.len+fs.len))]))))
 | _,_,_,_=>False
theorem Ci{T:dM}{g:Env}{h:av}{d:Option Nat}{t:TypeId}{x y:Operand}{K:List Wr->Prop}(hk:w4 T g h d t x y K):tk T g h d t x y K:=by
 unfold w4 at hk;unfold tk;split at hk
 ·rename_i v u ei d h1 h2 h3
  obtain⟨fs,hf,hk⟩:=yg hk;simp only[h1,h2,h3,hf]
  cases hc:l4 ei with
  | false=>rw[hc]at hk;exact hk.elim
  | true=>
   rw[hc]at hk;have hk:qP h v ei.size fun es ws=>
    fc (fs.ok ei.size&&(es.app fs).free d) (fc (decide ((es.len+fs.len)*ei.bytes<=140737488355328))
     (K (ws ++ [.new d (.arr ei.size (es.app fs)),.set d (.sl d ei.size 0 (es.len+fs.len))]))):=hk
   exact A9 hk
 ·exact hk.elim
def isStr(T:dM)(t:TypeId):Bool:=
 match T.get t with
 | some ti=>match ti.kd with
  | .str=>true
  | _=>false
 | none=>false
def Iv(T:dM)(t:TypeId):Option (TypeId×oQ):=
 match T.get t with
 | some ti=>match ti.kd with
  | .slice e=>match T.get e with
   | some ei=>some (e,ei)
   | none=>none
  | _=>none
 | none=>none
def Mc(h:av)(v u:Option V):Bool:=
 match u with
 | some (.d (.str _))=>true
 | _=>match v with
  | some (.sl id _ _ _)=>match get h id with
   | some (.buf _ _)=>true
   | _=>false
  | _=>false
def AQ(T:dM)(h:av)(u:TypeId)(v:V):Option ByteArray:=
 match v with
 | .d (.str s)=>match isStr T u with
  | true=>some s
  | false=>none
 | v=>match ff T u with
  | some _=>match oT h v with
   | some (.dd [[.int .u8 c]])=>match decide (0<=c),decide (c<256) with
    | true,true=>some ⟨#[UInt8.ofNat c.toNat]⟩
    | _,_=>none
   | _=>none
  | none=>none
def Ir(T:dM)(g:Env)(h:av)(d:Option Nat)(t u:TypeId)(x y:Operand)(K:List Wr->Prop):Prop:=
 match aM g x,aM g y,Iv T t,d with
 | some v,some yv,some (el,ei),some d=>match AQ T h u yv with
  | some s=>fc (l4 ei&&(Nat.beq ei.size 1&&Nat.beq ei.bytes 1)) (match v with
   | .d .nils=>fc (decide (0<s.size)&&decide (s.size<=140737488355328)) (K [.new d (.buf el s),.set d (.sl d 1 0 s.size)])
   | .sl id n off len=>match get h id with
    | some (.buf ty b)=>fc (Nat.beq n 1&&(Nat.beq off 0&&Nat.beq ty el)) (fc (decide (len=b.size)&&(decide (0<len)&&decide (len+s.size<=140737488355328)))
      (K [.del id,.new d (.buf ty (b++s)),.set d (.sl d 1 0 (b++s).size)]))
    | _=>False
   | _=>False)
  | none=>False
 | _,_,_,_=>False
def pY(T:dM)(t:TypeId)(i:Nat):Option (Nat×oQ):=
 match T.get t with
 | some ti=>match ti.kd with
  | .struct fs=>match fs[i]? with
   | some (off,ft)=>match T.get ft with
    | some fi=>some (off,fi)
    | none=>none
   | none=>none
  | _=>none
 | none=>none
def D5(T:dM)(el:TypeId)(es:List (List D)):Bool:=
 match T.get el with
 | some ei=>match es with
  | []=>true
  | f::_=>Nat.beq f.length ei.size
 | none=>false
def r8:D->D->Option Bool
 | .int k a,.int k' b=>match decide (k=k') with
  | true=>some (decide (a=b))
  | false=>none
 | _,_=>none
def lH:D->D->Option Bool
 | .int k a,.int k' b=>match decide (k=k') with
  | true=>some (decide (a=b))
  | false=>none
 | .bool a,.bool b=>some (a ==b)
 | .ifc t a,.ifc u b=>match Nat.beq t u,r8 a b with
  | true,r=>r
  | false,some _=>some false
  | false,none=>none
 | _,_=>none
def cd:List D->List D->Option Bool
 | [],[]=>some true
 | a::r,b::l=>match lH a b,cd r l with
  | some p,some q=>some (p&&q)
  | _,_=>none
 | _,_=>none
def gE:D->D->Option Bool
 | .int k a,.int k' b=>match decide (k=k') with
  | true=>some (decide (a=b))
  | false=>none
 | .str a,.str b=>some (decide (a=b))
 | .bool a,.bool b=>some (a ==b)
 | .agg a,.agg b=>cd a b
 | _,_=>none
def findD(k:D):List (D×D)->Nat->Option (Option (Nat×D))
 | [],_=>some none
 | (k',v)::r,n=>match gE k k' with
  | some true=>some (some (n,v))
  | some false=>findD k r (n+1)
  | none=>none
inductive vW(cc:List (D×D))(k:D)(K:Option (Nat×D)->Prop):Prop where
 | mk (r:Option (Nat×D)) (h:findD k cc 0=some r) (hk:K r)
inductive Mq(s:ByteArray)(pos:Nat)(K:Nat->Nat->Prop):Prop where
 | mk (h:K (Utf8.decode s pos).1 (Utf8.decode s pos).2)
def m7(f:TypeId->Option Nat):List (Nat×TypeId)->Nat->Option Nat
 | [],n=>some n
 | (off,t)::r,n=>match Nat.beq off n,f t with
  | true,some (c+1)=>m7 f r (n+(c+1))
  | _,_=>none
def flat(T:dM):Nat->TypeId->Option Nat
 | 0,_=>none
 | d+1,t=>match T.get t with
  | none=>none
  | some ti=>match ti.kd with
   | .int _=>match Nat.beq ti.size 1 with
    | true=>some 1
    | false=>none
   | .bool=>match Nat.beq ti.size 1 with
    | true=>some 1
    | false=>none
   | .iface=>match d,Nat.beq ti.size 1 with
    | _+1,true=>some 1
    | _,_=>none
   | .struct fs=>match ti.held,m7 (fun t=>flat T d t) fs 0 with
    | false,some n=>match Nat.beq ti.size n with
     | true=>some n
     | false=>none
    | _,_=>none
   | .array m e=>match flat T d e with
    | some (c+1)=>match Nat.beq ti.size (m*(c+1)) with
     | true=>some (m*(c+1))
     | false=>none
    | _=>none
   | _=>none
def vY(T:dM)(f:TypeId->List D->Bool):List (Nat×TypeId)->List D->Bool
 | [],_=>true
 | (off,t)::r,xs=>match T.get t with
  | some ti=>match f t ((xs.drop off).take ti.size) with
   | true=>vY T f r xs
   | false=>false
  | none=>false
def vZ(f:List D->Bool)(c:Nat):Nat->List D->Bool
 | 0,_=>true
 | n+1,xs=>match f (xs.take c) with
  | true=>vZ f c n (xs.drop c)
  | false=>false
def n8(T:dM):Nat->TypeId->List D->Bool
 | 0,_,_=>false
 | d+1,t,xs=>match T.get t with
  | none=>false
  | some ti=>match ti.kd with
   | .int _=>match xs with
    | [.int _ _]=>true
    | _=>false
   | .bool=>match xs with
    | [.bool _]=>true
    | _=>false
   | .iface=>match xs with
    | [.ifc u (.int k _)]=>match T.get u with
     | some ui=>match ui.kd,ui.held with
      | .int k',false=>decide (k=k')
      | _,_=>false
     | none=>false
    | _=>false
   | .struct fs=>vY T (fun t xs=>n8 T d t xs) fs xs
   | .array m e=>match T.get e with
    | some ei=>vZ (fun xs=>n8 T d e xs) ei.size m xs
    | none=>false
   | _=>false
def qk(T:dM)(kt:TypeId):Kd->D->Bool
 | .int _,.int _ _=>true
 | .str,.str _=>true
 | .bool,.bool _=>true
 | .struct _,.agg cs=>match flat T 9 kt with
  | some n=>Nat.beq cs.length n&&n8 T 9 kt cs
  | none=>false
 | .array _ _,.agg cs=>match flat T 9 kt with
  | some n=>Nat.beq cs.length n&&n8 T 9 kt cs
  | none=>false
 | _,_=>false
def mapOf(T:dM)(t:TypeId):Option (TypeId×(oQ×oQ)):=
 match T.get t with
 | some ti=>match ti.kd with
  | .map k e=>match T.get k,T.get e with
   | some ki,some ei=>some (k,(ki,ei))
   | _,_=>none
  | _=>none
 | none=>none
def Ia(e:Env)(h:av)(x:Operand):Option (List (D×D)):=
 match aM e x with
 | some (.d (.mv cc))=>some cc
 | some (.d .nilm)=>some []
 | some (.mp id)=>match get h id with
  | some (.map cc)=>some cc
  | _=>none
 | _=>none
def ru:List (D×D)->Nat->D->List (D×D)
 | [],_,_=>[]
 | (_,v)::r,0,k=>(k,v)::r
 | p::r,n+1,k=>p::ru r n k
def mz:List (D×D)->Nat->D->List (D×D)
 | [],_,_=>[]
 | (k,_)::r,0,v=>(k,v)::r
 | p::r,n+1,v=>p::mz r n v
def wP(ti:oQ):Option D:=
 match ti.zero,ti.isAgg with
 | some z,true=>some (.agg z)
 | some [x],false=>some x
 | _,_=>none
def oD(c:Bool)(v:D)(ok:Bool):V:=
 match c with
 | true=>.d (.tup [v,.bool ok])
 | false=>.d v
def G1(h:av):V->Option (List (D×D))
 | .mp m=>match get h m with
  | some (.map cc)=>some cc
  | _=>none
 | _=>none
inductive Nw(cc:List (D×D))(n i:Nat)(K:D×D->Prop):Prop where
 | mk (hn:cc.length=n) (kv:D×D) (h:cc[i]?=some kv) (hk:K kv)
def xD:Kd->Bool
 | .iface=>false
 | .other=>false
 | _=>true
def tp(size:Nat):Nat->Nat->List (Nat×Nat)
 | _,0=>[]
 | off,n+1=>(off,size)::tp size (off+size) n
def Jp(e:Env)(dst:Option Nat)(fn:Fn)(first bS:List Operand)(K:List Wr->Prop):Prop:=
 match fn,first,bS with
 | .func f,x::r,[]=>match cQ e (x::r) with
  | some l=>match sh l with
   | some ds=>K (a9 dst (.d (.mth f ds)))
   | none=>False
  | none=>False
 | _,_,_=>False
def fo(T:dM)(e:Env)(h:av)(dst:Option Nat)(op:Op)(K:List Wr->Prop):Prop:=
 match op with
 | .move x=>match aM e x with
  | some v=>K (a9 dst v)
  | none=>False
 | .assign x=>match aM e x with
  | some v=>K (a9 dst v)
  | none=>False
 | .pick c a b=>match aM e c,aM e a,aM e b with
  | some (.d (.bool t)),some va,some vb=>HC t (K (a9 dst va)) (K (a9 dst vb))
  | some (.d (.bool t)),some va,none=>fc t (K (a9 dst va))
  | some (.d (.bool t)),none,some vb=>fc (!t) (K (a9 dst vb))
  | _,_,_=>False
 | .alloc t=>match T.get t,dst with
  | some ti,some d=>match ti.zero with
   | some [.nilp,.nils]=>fc (Nat.beq 2 ti.size) (K [.new d (.tb t [.d .nilp,.d .nils]),.set d (.ptr d 0)])
   | some z=>fc (Nat.beq z.length ti.size) (K [.new d (.box (.dd z)),.set d (.ptr d 0)])
   | none=>False
  | _,_=>False
 | .box _ x=>match aM e x,dst with
  | some v,some d=>fc (v.cells.ok&&v.cells.free d) (K [.new d (.box v.cells),.set d (.ptr d 0)])
  | _,_=>False
 | .build t ps=>match partsOf e ps.toList,T.get t with
  | some l,some ti=>match ti.kd,ti.zero with
   | .struct fs,some z=>match qL T fs with
    | some sz=>match jy sz (.dd z) l with
     | some cs=>K (a9 dst cs.val)
     | none=>False
    | none=>False
   | .array n el,some z=>match T.get el with
    | some ei=>match jy (tp ei.size 0 n) (.dd z) l with
     | some cs=>K (a9 dst cs.val)
     | none=>False
    | none=>False
   | _,_=>False
  | _,_=>False
 | .buildSlice t n ps=>match partsOf e ps.toList,ff T t,dst with
  | some l,some ei,some d=>fc (Nat.beq l.length n&&l4 ei&&Nat.ble (n*ei.size) 16777216)
   (match pU ei.size 0 l with
   | some es=>fc (es.ok ei.size&&es.free d) (K [.new d (.arr ei.size es),.set d (.sl d ei.size 0 n)])
   | none=>False)
  | _,_,_=>False
 | .load t x=>yW T e h t x fun v=>K (a9 dst v)
 | .store t x y=>match dst with
  | none=>Fz T e h t x y K
  | some _=>False
 | .nilCheck x=>match aM e x with
  | some v=>match v with
   | .d (.ref _)=>K (a9 dst v)
   | .ptr _ _=>K (a9 dst v)
   | .ep _ _ _ _=>K (a9 dst v)
   | .d (.clo _ _)=>K (a9 dst v)
   | .clo _ _=>K (a9 dst v)
   | .d (.ifc _ _)=>K (a9 dst v)
   | _=>False
  | none=>False
 | .binOp op t x y _=>match aM e x,aM e y with
  | some a,some b=>match AJ y,a with
   | true,.d .nili=>BV T op t true fun v=>K (a9 dst v)
   | true,.d (.ifc _ _)=>BV T op t false fun v=>K (a9 dst v)
   | _,a=>Iq T op t a b fun v=>K (a9 dst v)
  | _,_=>False
 | .unOp op _ x=>match op,aM e x with
  | .not,some (.d (.bool b))=>K (a9 dst (.d (.bool !b)))
  | .neg,some (.d (.int k n))=>arith k (0-n) fun v=>K (a9 dst v)
  | _,_=>False
 | .convert s d x=>match T.get s,T.get d,aM e x with
  | some si,some di,some v=>match si.kd,di.kd,v with
   | .int _,.int k,.d (.int _ n)=>arith k n fun v=>K (a9 dst v)
   | .str,.str,.d (.str s)=>K (a9 dst (.d (.str s)))
   | _,_,_=>False
  | _,_,_=>False
 | .makeFunc fn first bS=>match fn,first.toList,cQ e bS.toList with
  | .func f,[],some l=>match sh l with
   | some ds=>K (a9 dst (.d (.clo f ds)))
   | none=>K (a9 dst (.clo f l))
  | _,_,_=>Jp e dst fn first.toList bS.toList K
 | .fieldAddr t x i=>match aM e x,pY T t i with
  | some v,some (off,fi)=>fc (!Nat.beq fi.size 0) (match placeOf v with
   | some p=>K (a9 dst (p.add off))
   | none=>False)
  | _,_=>False
 | .field t x i=>match aM e x,pY T t i with
  | some (.d (.agg cs)),some (off,fi)=>(Cells.dd cs).cm fi off fun v=>K (a9 dst v)
  | some (.agg cs),some (off,fi)=>(Cells.vv cs).cm fi off fun v=>K (a9 dst v)
  | _,_=>False
 | .indexAddr t x i=>match T.get t,aM e x,aM e i with
  | some ti,some v,some (.d (.int _ n))=>match ti.kd with
   | .slice e=>match T.get e with
    | some ei=>fc (!Nat.beq ei.size 0) (match v with
     | .d (.vs es)=>vQ es n fun l=>fc (Nat.beq l.length ei.size) (K (a9 dst (.d (.ref l))))
     | .sl id sz off len=>fc (decide (0<=n)&&decide (n<len)) (fc (Nat.beq sz ei.size) (K (a9 dst (.ep id sz (off+n.toNat) 0))))
     | _=>False)
    | none=>False
   | .array len e=>match T.get e,placeOf v with
    | some ei,some p=>fc (!Nat.beq ei.size 0) (fc (decide (0<=n)&&decide (n<len)) (K (a9 dst (p.add (n.toNat*ei.size)))))
    | _,_=>False
   | _=>False
  | _,_,_=>False
 | .index t x i=>match T.get t,aM e x,aM e i with
  | some ti,some v,some (.d (.int _ n))=>match ti.kd,v with
   | .str,.d (.str s)=>fc (decide (0<=n)) (mX s.data.toList n.toNat fun b=>K (a9 dst (.d (.int .u8 b.toNat))))
   | .array len e,.d (.agg cs)=>match T.get e with
    | some ei=>fc (decide (0<=n)&&decide (n<len)) ((Cells.dd cs).cm ei (n.toNat*ei.size) fun v=>K (a9 dst v))
    | none=>False
   | .array len e,.agg cs=>match T.get e with
    | some ei=>fc (decide (0<=n)&&decide (n<len)) ((Cells.vv cs).cm ei (n.toNat*ei.size) fun v=>K (a9 dst v))
    | none=>False
   | _,_=>False
  | _,_,_=>False
 | .slice t x lo hi mx=>match mx with
  | some _=>False
  | none=>match T.get t,aM e x,y7 e lo,y7 e hi with
   | some ti,some v,some l,some u=>match ti.kd,v with
    | .slice el,.d (.vs es)=>ry es.length l u fun a b=>fc (D5 T el es) (K (a9 dst (.d (.vs ((es.take b).drop a)))))
    | .slice el,.sl id sz off len=>ry len l u fun a b=>fc (match T.get el with|some ei=>Nat.beq sz ei.size|none=>false) (K (a9 dst (.sl id sz (off+a) (b-a))))
    | .slice el,.d .nils=>ry 0 l u fun _ _=>fc (match T.get el with|some _=>true|none=>false) (K (a9 dst (.d .nils)))
    | .str,.d (.str s)=>ry s.size l u fun a b=>K (a9 dst (.d (.str (s.extract a b))))
    | _,_=>False
   | _,_,_,_=>False
 | .range t x=>match T.get t,aM e x,dst with
  | some ti,some (.d (.str s)),some d=>match ti.kd with
   | .str=>K [.new d (.iter s 0),.set d (.it d)]
   | _=>False
  | some ti,some (.mp id),some d=>match ti.kd,get h id with
   | .map _ _,some (.map cc)=>fc (!Nat.beq id d) (K [.new d (.mit (.mp id) cc.length (List.range cc.length) none),.set d (.it d)])
   | _,_=>False
  | _,_,_=>False
 | .entry x=>match aM e x with
  | some (.it id)=>match get h id with
   | some (.mit v n _ (some i))=>match G1 h v with
    | some cc=>Nw cc n i fun kv=>K (a9 dst (.d (.tup [kv.1,kv.2])))
    | none=>False
   | _=>False
  | _=>False
 | .makeInterface xt x=>match T.get xt,aM e x with
  | some ti,some (.d v)=>fc (xD ti.kd) (K (a9 dst (.d (.ifc xt v))))
  | _,_=>False
 | .typeAssert x _ bw c=>match T.get bw,aM e x with
  | some ti,some (.d (.ifc t v))=>fc (xD ti.kd) (match Nat.beq t bw with
   | true=>K (a9 dst (oD c v true))
   | false=>match c,wP ti with
    | true,some z=>K (a9 dst (oD true z false))
    | _,_=>False)
  | some ti,some (.d .nili)=>fc (xD ti.kd) (match c,wP ti with
   | true,some z=>K (a9 dst (oD true z false))
   | _,_=>False)
  | _,_=>False
 | .next x b=>match b,aM e x with
  | true,some (.it id)=>match get h id with
   | some (.iter s pos)=>HC (decide (pos<s.size)) (Mq s pos fun c n=>K (.obj id (.iter s (pos+n))::a9 dst (.d (.tup [.bool true,.int .i64 pos,.int .i32 c])))) (K (a9 dst (.d (.tup [.bool false]))))
   | _=>False
  | _,_=>False
 | .makeMap _ r=>match r,dst with
  | none,some d=>K [.new d (.map []),.set d (.mp d)]
  | _,_=>False
 | .makeSlice t l c=>match ff T t,aM e l,aM e c,dst with
  | some ei,some (.d (.int .i64 n)),some (.d (.int .i64 m)),some d=>match ei.zero with
   | some z=>fc (l4 ei&&(decide (0<=n)&&decide (n<=m))) (fc (decide (m*(ei.bytes:Int)<=140737488355328))
     (K [.new d (.arr ei.size (.dd (List.replicate n.toNat z))),.set d (.sl d ei.size 0 n.toNat)]))
   | none=>False
  | _,_,_,_=>False
 | .lookup t x i c=>match mapOf T t,Ia e h x,aM e i with
  | some (kt,(ki,ei)),some cc,some (.d k)=>fc (qk T kt ki.kd k) (vW cc k fun r=>match r with
   | some v=>K (a9 dst (oD c v.2 true))
   | none=>match wP ei with
    | some z=>K (a9 dst (oD c z false))
    | none=>False)
  | _,_,_=>False
 | .mapUpdate t m i v=>match dst,mapOf T t,aM e m,aM e i,aM e v with
  | none,some (kt,(ki,_)),some (.mp id),some (.d k),some (.d v)=>match get h id with
   | some (.map cc)=>fc (qk T kt ki.kd k) (vW cc k fun r=>match r with
    | some n=>K [.obj id (.map (cc.set n.1 (k,v)))]
    | none=>K [.obj id (.map (cc ++ [(k,v)]))])
   | _=>False
  | _,_,_,_,_=>False
 | .insert t m i v=>match dst,mapOf T t,aM e m,aM e i,aM e v with
  | none,some (kt,(ki,_)),some (.mp id),some (.d k),some (.d v)=>match get h id with
   | some (.map cc)=>fc (qk T kt ki.kd k) (vW cc k fun r=>match r with
    | some n=>K [.obj id (.map (cc.set n.1 (k,v)))]
    | none=>K [.obj id (.map (cc ++ [(k,v)]))])
   | _=>False
  | _,_,_,_,_=>False
 | .mapEntry t m i=>match dst,mapOf T t,aM e m,aM e i with
  | some d,some (kt,(ki,ei)),some (.mp id),some (.d k)=>match get h id with
   | some (.map cc)=>fc (qk T kt ki.kd k) (vW cc k fun r=>match r with
    | some n=>K [.obj id (.map (ru cc n.1 k)),.set d (.d (.tup [n.2,.int .i64 n.1]))]
    | none=>match wP ei with
     | some z=>K [.obj id (.map (cc ++ [(k,z)])),.set d (.d (.tup [z,.int .i64 cc.length]))]
     | none=>False)
   | _=>False
  | _,_,_,_=>False
 | .entryStore t m x v=>match dst,aM e m,aM e x,aM e v with
  | none,some (.mp id),some (.d (.int .i64 n)),some (.d v)=>match get h id with
   | some (.map cc)=>fc (decide (0<=n)&&decide (n<cc.length)) (K [.obj id (.map (mz cc n.toNat v))])
   | _=>False
  | _,_,_,_=>False
 | .extract x i=>match aM e x with
  | some (.d (.tup l))=>mX l i fun v=>K (a9 dst (.d v))
  | some (.tup l)=>mX l i fun v=>K (a9 dst v)
  | _=>False
 | _=>False
def dW(T:dM)(e:Env)(h:av)(d:Option Nat)(b:Builtin)(args:Array Operand)(argTypes:Array TypeId)(K:List Wr->Prop):Prop:=
 match b with
 | .len=>match args.toList,argTypes.toList with
  | [x],t::_=>match T.get t,aM e x with
   | some ti,some v=>match ti.kd,v with
    | .slice _,.d (.vs es)=>K (a9 d (.d (.int .i64 es.length)))
    | .slice _,.d .nils=>K (a9 d (.d (.int .i64 0)))
    | .slice _,.sl _ _ _ n=>K (a9 d (.d (.int .i64 n)))
    | .str,.d (.str s)=>K (a9 d (.d (.int .i64 s.size)))
    | .array n _,_=>K (a9 d (.d (.int .i64 n)))
    | .map _ _,.mp id=>match get h id with
     | some (.map cc)=>K (a9 d (.d (.int .i64 cc.length)))
     | _=>False
    | .map _ _,.d (.mv cc)=>K (a9 d (.d (.int .i64 cc.length)))
    | _,_=>False
   | _,_=>False
  | _,_=>False
 | .min=>match cQ e args.toList with
  | some (.d (.int k a)::r)=>match C9 k a r with
   | some v=>K (a9 d (.d v))
   | none=>False
  | _=>False
 | .max=>match cQ e args.toList with
  | some (.d (.int k a)::r)=>match C7 k a r with
   | some v=>K (a9 d (.d v))
   | none=>False
  | _=>False
 | .copy=>match args.toList,argTypes.toList with
  | [x,y],[t,u]=>match ff T t,ff T u,aM e x,aM e y with
   | some ei,some _,some (.sl id sz off n),some v=>match get h id with
    | some (.arr m (.dd es))=>fc (Nat.beq ei.size 1&&(Nat.beq sz 1&&Nat.beq m 1)) (w8 h v fun fs=>match fs with
     | .dd fs=>fc (Nat.ble (off+n) es.length&&mg 1 fs) (K (.obj id (.arr 1 (.dd (es.take off++fs.take (min fs.length n)++es.drop (off+min fs.length n))))::a9 d (.d (.int .i64 (min fs.length n:Nat)))))
     | .vv _=>False)
    | _=>False
   | _,_,_,_=>False
  | _,_=>False
 | .append=>match args.toList,argTypes.toList with
  | [x,y],[t,u]=>match Mc h (aM e x) (aM e y) with
   | true=>Ir T e h d t u x y K
   | false=>match ff T u with
    | some _=>w4 T e h d t x y K
    | none=>False
  | _,_=>False
 | _=>False
def kM(ops:List Oper)(g:Env)(guard:Option (Nat×Bool))(X Y:List Wr->Prop):Prop:=
 match guard with
 | none=>X []
 | some (j,JC)=>match ops[j]? with
  | some ⟨some d,_,_,_,_,_⟩=>match get g d with
    | some (.d (.bool b))=>match JC with
     | true=>HC b (X [.set d (.d (.bool true))]) (Y [.set d (.d (.bool false))])
     | false=>HC b (Y [.set d (.d (.bool true))]) (X [.set d (.d (.bool false))])
    | some (.d (.tup []))=>Y []
    | _=>False
  | _=>False
end Go.PX
namespace Go.PX
open Go.RowKit
mutual
def bC(F:Nat->Nat)(w:World):D->Value->Prop
 | .bool b,v=>v = .bool b
 | .int k n,v=>v = .int k n
 | .str s,v=>v = .string s
 | .agg cs,v=>∃ l:Array Value,v = .agg l/\aY F w cs l.toList
 | .tup cs,v=>∃ l:Array Value,v = .tuple l/\aY F w cs l.toList
 | .vs es,v=>∃ a len cap,v = .slice a len cap/\len=es.length/\len<=cap /\
   (es ≠ [] -> ∃ b off sz,a=some ⟨b,off,none⟩/\0<sz/\cF F w b off sz es)
 | .nils,v=>v = .slice none 0 0
 | .ref cs,v=>∃ b off,v = .pointer (some ⟨b,off,none⟩)/\cf F w b off cs
 | .nilp,v=>v = .pointer none
 | .mv cc,v=>∃ r en c,v = .map (some r)/\0<F r/\w.heap[r]?=some (.map en c)/\bH F w cc en.toList
 | .nilm,v=>v = .map none
 | .clo f bS,v=>∃ l:Array Value,v = .func (.func f) #[] l/\aY F w bS l.toList
 | .mth f first,v=>∃ l:Array Value,v = .func (.func f) l #[]/\aY F w first l.toList
 | .nilf,v=>v = .nilFunc
 | .ifc t x,v=>∃ y,v = .iface t y/\bC F w x y
 | .nili,v=>v = .nilIface
def aY(F:Nat->Nat)(w:World):List D->List Value->Prop
 | [],l=>l = []
 | c::r,l=>∃ x l',l=x::l'/\bC F w c x/\aY F w r l'
def cf(F:Nat->Nat)(w:World)(b:Nat):Nat->List D->Prop
 | _,[]=>True
 | off,c::r=>off<F b/\(∃ x,w.cell? ⟨b,off,none⟩=some x/\bC F w c x)/\cf F w b (off+1) r
def cF(F:Nat->Nat)(w:World)(b:Nat):Nat->Nat->List (List D)->Prop
 | _,_,[]=>True
 | off,sz,e::r=>e.length=sz/\cf F w b off e/\cF F w b (off+sz) sz r
def bH(F:Nat->Nat)(w:World):List (D×D)->List MapEntry->Prop
 | [],l=>l = []
 | (k,v)::r,l=>∃ x l',l=x::l'/\bC F w k x.key/\bC F w v x.val/\bH F w r l'
end
structure Tr(F:Nat->Nat)(w:World)(F':Nat->Nat)(w':World):Prop where
 os:w'.os=w.os
 tape:w'.tape=w.tape
 output:w'.output=w.output
 size:w.heap.size<=w'.heap.size
 le:∀ b,F b<=F' b
 cell:∀ b o,o<F b->w'.cell? ⟨b,o,none⟩=w.cell? ⟨b,o,none⟩
 map:∀ b e c,0<F b->w.heap[b]?=some (.map e c)->w'.heap[b]?=some (.map e c)
theorem Tr.refl(F:Nat->Nat)(w:World):Tr F w F w:=⟨rfl,rfl,rfl,Nat.le_refl _,fun _=>Nat.le_refl _,fun _ _ _=>rfl,fun _ _ _ _ h=>h⟩
theorem Tr.trans{F F' FK:Nat->Nat}{w w' B9:World}(h:Tr F w F' w')(k:Tr F' w' FK B9):Tr F w FK B9:=
  ⟨k.os.trans h.os,k.tape.trans h.tape,k.output.trans h.output,Nat.le_trans h.size k.size,fun b=>Nat.le_trans (h.le b) (k.le b),
   fun b o ho=>(k.cell b o (Nat.lt_of_lt_of_le ho (h.le b))).trans (h.cell b o ho),
   fun b e c hb hm=>k.map b e c (Nat.lt_of_lt_of_le hb (h.le b)) (h.map b e c hb hm)⟩
mutual
theorem bC.mono{F F':Nat->Nat}{w w':World}(h:Tr F w F' w'):∀ (a:D) (v:Value),bC F w a v->bC F' w' a v
 | .bool _,_,hr=>hr
 | .int _ _,_,hr=>hr
 | .str _,_,hr=>hr
 | .agg cs,_,hr=>by
  obtain⟨l,rfl,hl⟩:=hr;exact⟨l,rfl,aY.mono h cs _ hl⟩
 | .tup cs,_,hr=>by
  obtain⟨l,rfl,hl⟩:=hr;exact⟨l,rfl,aY.mono h cs _ hl⟩
 | .vs es,_,hr=>by
  obtain⟨a,len,cap,rfl,hl,hc,he⟩:=hr;refine⟨a,len,cap,rfl,hl,hc,fun eA=>?_⟩;obtain⟨b,off,sz,ha,hs,mQ⟩:=he eA;exact⟨b,off,sz,ha,hs,cF.mono h es b off sz mQ⟩
 | .nils,_,hr=>hr
 | .ref cs,_,hr=>by
  obtain⟨b,off,rfl,hc⟩:=hr;exact⟨b,off,rfl,cf.mono h cs b off hc⟩
 | .nilp,_,hr=>hr
 | .mv cc,_,hr=>by
  obtain⟨r,en,c,rfl,hf,hm,hk⟩:=hr;exact⟨r,en,c,rfl,Nat.lt_of_lt_of_le hf (h.le r),h.map r en c hf hm,bH.mono h cc _ hk⟩
 | .nilm,_,hr=>hr
 | .clo f bS,_,hr=>by
  obtain⟨l,rfl,hl⟩:=hr;exact⟨l,rfl,aY.mono h bS _ hl⟩
 | .mth f first,_,hr=>by
  obtain⟨l,rfl,hl⟩:=hr;exact⟨l,rfl,aY.mono h first _ hl⟩
 | .nilf,_,hr=>hr
 | .ifc t x,_,hr=>by
  obtain⟨y,rfl,hy⟩:=hr;exact⟨y,rfl,bC.mono h x y hy⟩
 | .nili,_,hr=>hr
theorem aY.mono{F F':Nat->Nat}{w w':World}(h:Tr F w F' w'):∀ (cs:List D) (l:List Value),aY F w cs l->aY F' w' cs l
 | [],_,hr=>hr
 | c::r,_,hr=>by
  obtain⟨x,l',rfl,hc,hl⟩:=hr;exact⟨x,l',rfl,bC.mono h c x hc,aY.mono h r l' hl⟩
theorem cf.mono{F F':Nat->Nat}{w w':World}(h:Tr F w F' w'):∀ (cs:List D) (b off:Nat),cf F w b off cs->cf F' w' b off cs
 | [],_,_,_=>trivial
 | c::r,b,off,hr=>by
  obtain⟨hf,⟨x,hx,hc⟩,hl⟩:=hr;exact⟨Nat.lt_of_lt_of_le hf (h.le b),⟨x,(h.cell b off hf).trans hx,bC.mono h c x hc⟩,cf.mono h r b (off+1) hl⟩
theorem cF.mono{F F':Nat->Nat}{w w':World}(h:Tr F w F' w'):∀ (es:List (List D)) (b off sz:Nat),cF F w b off sz es->cF F' w' b off sz es
 | [],_,_,_,_=>trivial
 | e::r,b,off,sz,hr=>by
  obtain⟨hn,he,hl⟩:=hr;exact⟨hn,cf.mono h e b off he,cF.mono h r b (off+sz) sz hl⟩
theorem bH.mono{F F':Nat->Nat}{w w':World}(h:Tr F w F' w'):∀ (cc:List (D×D)) (l:List MapEntry),bH F w cc l->bH F' w' cc l
 | [],_,hr=>hr
 | (k,v)::r,_,hr=>by
  obtain⟨x,l',rfl,hk,hv,hl⟩:=hr;exact⟨x,l',rfl,bC.mono h k _ hk,bC.mono h v _ hv,bH.mono h r l' hl⟩
end
structure Loc where
 ρ:Nat->Nat
 κ:Nat->Nat
def G8(v:Value):Prop:=v.oneCell'=true
mutual
def a6(yv:Option Nat)(L:Loc)(F:Nat->Nat)(w:World):V->Value->Prop
 | .d v,x=>bC F w v x
 | .agg cs,x=>∃ l:Array Value,x = .agg l/\aq yv L F w cs l.toList
 | .tup cs,x=>∃ l:Array Value,x = .tuple l/\aq yv L F w cs l.toList
 | .ptr id off,x=>x = .pointer (some ⟨L.ρ id,off,none⟩)
 | .ep id sz i off,x=>x = .pointer (some ⟨L.ρ id,i*sz+off,none⟩)
 | .sl id sz off len,x=>∃ a cap,x = .slice a len cap/\len<=cap/\0<sz/\((len=0/\cap=0)\/(a=some ⟨L.ρ id,off*sz,none⟩/\(off+cap)*sz<=L.κ id))
 | .mp id,x=>x = .map (some (L.ρ id))
 | .it id,x=>x = .pointer (some ⟨L.ρ id,0,none⟩)
 | .clo f cs,x=>∃ l:Array Value,x = .func (.func f) #[] l/\aq yv L F w cs l.toList
 | .yld,x=>∃ l,yv=some l/\x = .func (.yield l) #[] #[]
 | .unk,x=>G8 x
def aq(yv:Option Nat)(L:Loc)(F:Nat->Nat)(w:World):List V->List Value->Prop
 | [],l=>l = []
 | c::r,l=>∃ x l',l=x::l'/\a6 yv L F w c x/\aq yv L F w r l'
end
def cJ{α:Type}(n:Nat)(l:List (List α)):Prop:=∀ e∈l,e.length=n
def pG(en:Array MapEntry)(c:Nat):Prop:=c=en.size /\ ∀ (i:Nat) (e:MapEntry),en[i]?=some e->e.born=i
def bR(s:ByteArray):List Value:=s.data.toList.map fun b=>Value.int .u8 b.toNat
def bG(yv:Option Nat)(L:Loc)(F:Nat->Nat)(w:World)(id:Nat):Obj->Prop
 | .box cs=>∃ (c:Array Value) (T:TypeId),w.heap[L.ρ id]?=some (.cells c T (0,0))/\aq yv L F w cs.aU c.toList
 | .arr sz es=>0<sz/\cJ sz es.aU/\((es.aU = []/\L.κ id=0) \/ ∃ (c:Array Value) (T:TypeId),w.heap[L.ρ id]?=some (.cells c T (0,0))/\c.size=L.κ id /\
   es.aU.length*sz<=c.size/\aq yv L F w es.aU.flatten (c.toList.take (es.aU.length*sz)))
 | .map cc=>∃ en c,w.heap[L.ρ id]?=some (.map en c)/\bH F w cc en.toList/\pG en c
 | .iter s pos=>w.heap[L.ρ id]?=some (.stringIter s pos)
 | .tb t l=>∃ c:Array Value,w.heap[L.ρ id]?=some (.cells c t (0,0))/\aq yv L F w l c.toList
 | .buf t s=>∃ c:Array Value,w.heap[L.ρ id]?=some (.cells c t (0,0))/\c.size=L.κ id/\s.size<=c.size/\c.toList.take s.size=bR s
 | .mit v n todo cur=>∃ (r:Nat) (seen:Array Nat),a6 yv L F w v (.map (some r))/\w.heap[L.ρ id]?=some (.mapIter (some r) n seen n)/\(∀ i,i∈todo↔i<n/\seen.contains i=false) /\ ∀ i,cur=some i->seen.back?=some i
def aN(L:Loc)(id:Nat):Obj->Prop
 | .arr _ _=>L.κ id≠0
 | _=>True
structure Cx(σ:Type) where
 C:σ->Nat->Prop
 HG:σ->World->(Nat->Nat)->Prop
 yv:Option Nat
 wC:Option Go.Loop
 pρ:Nat->Nat
 pκ:Nat->Nat
 base:List Deferred:=[]
 eV:∀ {s w F w' F'},HG s w F->Tr F w F' w'->(∀ b,w'.heap.size<=b->F' b=0)->(∀ b,C s b->w'.heap[b]?=w.heap[b]?/\F' b=F b)->HG s w' F'
structure bo{σ:Type}(cx:Cx σ)(L:Loc)(F:Nat->Nat)(h:av)(s:σ)(w:World):Prop where
 hg:cx.HG s w F
 iW:∀ b,cx.C s b->b<w.heap.size
 fresh:∀ b,w.heap.size<=b->F b=0
 obj:∀ id o,get h id=some o->bG cx.yv L F w id o
 own:∀ id o,get h id=some o->aN L id o->F (L.ρ id)=0/\¬ cx.C s (L.ρ id)
 inj:∀ i j o p,get h i=some o->get h j=some p->aN L i o->aN L j p->L.ρ i=L.ρ j->i=j
def pinned(i:Nat):Prop:=1000000<=i/\i<2000000
def te(L L':Loc):Prop:=∀ i,pinned i->L'.ρ i=L.ρ i/\L'.κ i=L.κ i
def mark(r:Nat):Deferred:={ target:=.collected r,args:=#[] }
structure Good{σ:Type}(cx:Cx σ)(r:Option Nat)(m:List Nat)(L:Loc)(F:Nat->Nat)(st:St σ)(a:Act)(w:World):Prop where
 heap:bo cx L F st.heap st.s w
 env:∀ s v,get st.env s=some v -> ∃ x,a.tmps[s]?=some x/\a6 cx.yv L F w v x
 sI:a.defers=m.map mark++cx.base
 oe:∀ b∈m,w.heap[b]?=some (.deferred (some []))/\¬ cx.C st.s b
 uy:m.Nodup
 lk:∀ l,r=some l -> ∃ lp,(w.heap[l]?=some (.loop lp)/\cx.wC=some lp)/\¬ cx.C st.s l
 lG:∀ i,pinned i->L.ρ i=cx.pρ i/\L.κ i=cx.pκ i
 sD:a.tmps.size<=1000000
structure Hd(σ:Type) where
 y:List V->av->σ->(V->av->σ->Prop)->Prop
 p:Value->Env->av->σ->Prop:=fun _ _ _ _=>False
def Hd.np{σ:Type}(Y:Hd σ):Hd σ:={ y:=Y.y }
structure Laid(P:Program)(w:World):Prop where
 TM : ∀ g, P.globalNamed "internal/strconv.uint64pow10" = some g -> Lib.TabIs P w "internal/strconv.uint64pow10" .u64 Lib.pow10Tab
 len : ∀ g, P.globalNamed "internal/bytealg.MaxLen" = some g -> ∃ m, w.cell? ⟨g, 0, none⟩ = some (.int .i64 m)
 TK : ∀ g, P.globalNamed "strconv.ErrSyntax" = some g -> ∃ t v, w.cell? ⟨g, 0, none⟩ = some (.iface t v)
 TJ : ∀ g, P.globalNamed "strconv.ErrRange" = some g -> ∃ t v, w.cell? ⟨g, 0, none⟩ = some (.iface t v)
def oO{σ:Type}(P:Program)(cx:Cx σ):Prop:=∀ s w F,cx.HG s w F->Laid P w
def fr(r:Option Nat):Fence:={ Fence.wide with round:=r }
def DK{σ:Type}(P:Program)(Y:Hd σ)(cx:Cx σ):Prop:=
 ∀ l,cx.yv=some l -> ∀ (args:List V) (h:av) (s:σ) (Q:V->av->σ->Prop),Y.y args h s Q ->
  ∀ (L:Loc) (F:Nat->Nat) (aX:Array Value) (w:World),bo cx L F h s w->aq cx.yv L F w args aX.toList ->
   ∃ fn tmps xR body,(Instr.yield l aX).run P w = .ok (.round l fn tmps xR body) w /\
    RoundIn Fence.wide 0 P l fn tmps xR body w fun e w'=>∃ x,e = .returned x /\ ∃ v h' s' L' F',Q v h' s'/\bo cx L' F' h' s' w'/\a6 cx.yv L' F' w' v x/\Tr F w F' w'/\te L L' /\
     (∀ b,b<w.heap.size->¬ cx.C s b->¬ cx.C s' b) /\
     (∀ b,b<w.heap.size->¬ cx.C s b->(∀ id o,get h id=some o->aN L id o->L.ρ id≠b)->w'.heap[b]?=w.heap[b]?/\F' b=F b) /\
     (∀ id o,get h' id=some o->aN L' id o->L'.ρ id<w.heap.size -> ∃ id' o',get h id'=some o'/\aN L id' o'/\L.ρ id'=L'.ρ id)
structure cX{σ:Type}(P:Program)(Y:Hd σ)(cx:Cx σ):Prop where
 yld:DK P Y cx
 laid:oO P cx
inductive ew where
 | normal|exit (id:Nat)|ret
 deriving Inhabited
def ew.Iu:ew->Exit
 | .normal=>.normal
 | .exit i=>.exit i
 | .ret=>.ret
def codeOk(n:Nat):Code->Bool
 | .region _ ops _=>ops.toList.all fun o=>match o.dst with
  | some d=>decide (d<n)
  | none=>true
 | .seq a b=>codeOk n a&&codeOk n b
 | .cond _ a b=>codeOk n a&&codeOk n b
 | .block _ a=>codeOk n a
 | .loop a=>codeOk n a
 | .scope a=>codeOk n a
 | .rangeFunc _ ps a b=>ps.toList.all (fun d=>decide (d<n))&&codeOk n a&&codeOk n b
 | _=>true
def oP{σ:Type}(Y:Hd σ)(cx:Cx σ)(r:Option Nat)(F:Nat->Nat)(w:World)(n:Nat)(e:Exit)(a':Act)(w':World):Prop:=
 ∃ v en h s m' L' F',e = .panic [{ v:=v,recovered:=false }]/\Y.p v en h s/\Good cx r m' L' F' ⟨en,h,s⟩ a' w'/\Tr F w F' w'/\a'.tmps.size=n
theorem oP.trans{σ:Type}{Y:Hd σ}{cx:Cx σ}{r:Option Nat}{F F0:Nat->Nat}{w w0:World}{n n0:Nat}{e:Exit}{a':Act}{w':World}(h:oP Y cx r F w n e a' w')(tr:Tr F0 w0 F w)(hn:n=n0):oP Y cx r F0 w0 n0 e a' w':=by
 obtain⟨v,en,hp,s,m',L',F',h1,h2,h3,h4,h5⟩:=h;exact⟨v,en,hp,s,m',L',F',h1,h2,h3,Tr.trans tr h4,h5.trans hn⟩
def zJ{σ:Type}(P:Program)(Y:Hd σ)(c:Code)(st:St σ)(K:ew->St σ->Prop):Prop:=
 ∀ (cx:Cx σ),cX P Y cx -> ∀ (r:Option Nat) (m:List Nat) (L:Loc) (F:Nat->Nat) (a:Act) (w:World),Good cx r m L F st a w->codeOk a.tmps.size c=true ->
  c.wpIn (fr r) 0 P (fun e a' w'=>(∃ e' st' m' L' F',e=e'.Iu/\K e' st'/\Good cx r m' L' F' st' a' w'/\Tr F w F' w'/\a'.tmps.size=a.tmps.size)\/oP Y cx r F w a.tmps.size e a' w') a w
def Im{σ:Type}(P:Program)(Y:Hd σ)(st:St σ)(d:Option Nat)(f:FuncId)(args:List V)(K:St σ->Prop):Prop:=
 (∀ (vs:Array Value) (w:World),(callFunc f vs).run P w = .ok (.enter f vs) w) /\
 ∀ (cx:Cx σ),cX P Y cx -> ∀ (r:Option Nat) (m:List Nat) (L:Loc) (F:Nat->Nat) (a:Act) (w:World) (aX:Array Value),Good cx r m L F st a w->(∀ k,d=some k->k<a.tmps.size)->aq cx.yv L F w args aX.toList ->
  CallsIn Fence.wide 0 P f aX w fun e w'=>(∃ x,e = .returned x /\ ∃ st' L' F',K st'/\Good cx r m L' F' st' (a.put d x) w'/\Tr F w F' w') \/
   ∃ v en h s L' F',e = .panicked [{ v:=v,recovered:=false }]/\Y.p v en h s/\Good cx r m L' F' ⟨en,h,s⟩ a w'/\Tr F w F' w'
def Kc{σ:Type}(P:Program)(Y:Hd σ)(st:St σ)(d:Option Nat)(args:List V)(K:St σ->Prop):Prop:=
 ∀ (cx:Cx σ),cX P Y cx -> ∀ (l:Nat),cx.yv=some l -> ∀ (r:Option Nat) (m:List Nat) (L:Loc) (F:Nat->Nat) (a:Act) (w:World) (aX:Array Value),Good cx r m L F st a w->(∀ k,d=some k->k<a.tmps.size)->aq cx.yv L F w args aX.toList ->
  ∃ fn tmps xR body,(Instr.yield l aX).run P w = .ok (.round l fn tmps xR body) w /\
   RoundIn Fence.wide 0 P l fn tmps xR body w fun e w'=>∃ x,e = .returned x /\ ∃ st' L' F',K st'/\Good cx r m L' F' st' (a.put d x) w'/\Tr F w F' w'
def bE{σ:Type}(st:St σ):Wr->St σ
 | .set s v=>⟨put st.env s v,st.heap,st.s⟩
 | .obj id o=>⟨st.env,put st.heap id o,st.s⟩
 | .new id o=>⟨cn (az (aQ id)) st.env,(id,o)::cn (Obj.az (aQ id)) (cut st.heap id),st.s⟩
 | .newq id o=>⟨st.env,(id,o)::st.heap,st.s⟩
 | .del id=>⟨st.env,cut st.heap id,st.s⟩
def aK{σ:Type}(st:St σ):List Wr->St σ
 | []=>st
 | w::r=>aK (bE st w) r
def cM{α:Type}(h k:sd α):Prop:=∀ s v,get h s=some v->get k s=some v
def Out(P:Program)(e:Env)(h:av)(o:Oper)(ws:List Wr):Prop:=
 ∀ {σ:Type} (cx:Cx σ) (r:Option Nat) (m:List Nat) (L:Loc) (F:Nat->Nat) (st:St σ) (a:Act) (w:World),cM e st.env->cM h st.heap->Good cx r m L F st a w ->
  (∀ k,o.dst=some k->k<a.tmps.size) ->
  ∃ x w' nx,(execOp a.eval o).run P w = .ok nx w'/\(nx = .value x\/(nx = .skip/\x=undef)) /\ ∃ L' F',Good cx r m L' F' (aK st ws) (a.put o.dst x) w'/\Tr F w F' w'
def iw(P:Program)(e:Env)(h:av)(d:Option Nat)(f:FuncId)(args:List V)(ws:List Wr):Prop:=
 (∀ (vs:Array Value) (w:World),(callFunc f vs).run P w = .ok (.enter f vs) w) /\
 ∀ {σ:Type} (cx:Cx σ),oO P cx -> ∀ (r:Option Nat) (m:List Nat) (L:Loc) (F:Nat->Nat) (st:St σ) (a:Act) (w:World) (aX:Array Value),cM e st.env->cM h st.heap->Good cx r m L F st a w->(∀ k,d=some k->k<a.tmps.size)->aq cx.yv L F w args aX.toList ->
  CallsIn Fence.wide 0 P f aX w fun e w'=>∃ x,e = .returned x /\ ∃ L' F',Good cx r m L' F' (aK st ws) (a.put d x) w'/\Tr F w F' w'
structure zG{σ:Type}(P:Program)(Y:Hd σ)(f:FuncId)(args:List V)(h:av)(s:σ)(Q:V->av->σ->Prop):Prop where
 enter:∀ (vs:Array Value) (w:World),(callFunc f vs).run P w = .ok (.enter f vs) w
 run:∀ (cx:Cx σ),cX P Y cx -> ∀ (L:Loc) (F:Nat->Nat) (aX:Array Value) (w:World),bo cx L F h s w->aq cx.yv L F w args aX.toList ->
  CallsIn Fence.wide 0 P f aX w fun e w'=>∃ x,e = .returned x /\ ∃ v h' s' L' F',Q v h' s'/\bo cx L' F' h' s' w'/\a6 cx.yv L' F' w' v x/\Tr F w F' w'/\te L L'
inductive eE{σ:Type}(P:Program)(Y:Hd σ)(st:St σ)(d:Option Nat)(f:FuncId)(args:List V)(K:St σ->Prop):Prop where
 | mk (h:Im P Y st d f args K)
inductive Io{σ:Type}(P:Program)(Y:Hd σ)(st:St σ)(d:Option Nat)(args:List V)(K:St σ->Prop):Prop where
 | mk (h:Kc P Y st d args K)
inductive x4{σ φ:Type}(P:Program)(ft:φ)(Y:Hd σ)(c:Code)(st:St σ)(K:ew->St σ->Prop):Prop where
 | mk (h:zJ P Y (.loop c) st K)
inductive pI{σ φ:Type}(P:Program)(ft:φ)(Y:Hd σ)(id:Nat)(ops:Array Oper)(st:St σ)(K:ew->St σ->Prop):Prop where
 | mk (h:zJ P Y (.region id ops true) st K)
inductive gK{σ φ:Type}(P:Program)(ft:φ)(Y:Hd σ)(g:Operand)(ps:Array Tmp)(a b:Code)(st:St σ)(K:ew->St σ->Prop):Prop where
 | mk (h:zJ P Y (.rangeFunc g ps a b) st K)
inductive c8(P:Program)(e:Env)(h:av)(d:Option Nat)(f:FuncId)(args:List V)(K:List Wr->Prop):Prop where
 | mk (ws:List Wr) (hk:K ws) (ho:iw P e h d f args ws)
end Go.PX
namespace Go.PX
def DW{σ:Type}(P:Program)(Y:Hd σ)(dst:Option Nat)(f:Operand)(args:List Operand)(e:Env)(h:av)(s:σ)(go:Env->av->σ->Prop):Prop:=
 match aM e f,cQ e args with
 | some (.d (.clo g bS)),some l=>eE P Y ⟨e,h,s⟩ dst g (l++inj bS) fun|⟨e,h,s⟩=>go e h s
 | some (.clo g bS),some l=>eE P Y ⟨e,h,s⟩ dst g (l++bS) fun|⟨e,h,s⟩=>go e h s
 | some (.d (.mth g first)),some l=>eE P Y ⟨e,h,s⟩ dst g (inj first++l) fun|⟨e,h,s⟩=>go e h s
 | some .yld,some l=>Io P Y ⟨e,h,s⟩ dst l fun|⟨e,h,s⟩=>go e h s
 | _,_=>False
def isSlice(T:dM)(t:TypeId):Bool:=
 match T.get t with
 | some ti=>match ti.kd with
  | .slice _=>true
  | _=>false
 | none=>false
def xw(T:dM)(e:Env)(op:BinOp)(t:TypeId)(x y:Operand):Option (Bool×Prop):=
 match isSlice T t,op,y,aM e x with
 | true,.eql,.const (.slice none 0 0),some (.d (.vs es))=>some (false,es ≠ [])
 | true,.neq,.const (.slice none 0 0),some (.d (.vs es))=>some (true,es ≠ [])
 | true,.eql,.const (.slice none 0 0),some (.sl _ _ _ n)=>some (false,0<n)
 | true,.neq,.const (.slice none 0 0),some (.sl _ _ _ n)=>some (true,0<n)
 | true,.eql,.const (.slice none 0 0),some (.d .nils)=>some (true,True)
 | true,.neq,.const (.slice none 0 0),some (.d .nils)=>some (false,True)
 | _,_,_,_=>none
def wN(neg b:Bool):Bool:=
 match neg with
 | true=>!b
 | false=>b
inductive J9(neg:Bool)(ne:Prop)(K:Bool->Prop):Prop where
 | mk (h:∀ b,(ne->b=false)->K (wN neg b))
inductive J8(cc:List (D×D))(n:Nat)(todo:List Nat)(K:Option (Nat×(D×D))->Prop):Prop where
 | mk (hn:cc.length=n) (h0:todo = []->K none) (h1:∀ i kv,i∈todo->cc[i]?=some kv->K (some (i,kv)))
def E4{σ:Type}(dst:Option Nat)(x:Operand)(e:Env)(h:av)(s:σ)(go:Env->av->σ->Prop):Prop:=
 match aM e x with
 | some (.it id)=>match get h id with
  | some (.mit v n todo cur)=>match G1 h v with
   | some cc=>J8 cc n todo fun r=>match r with
    | none=>bk (a9 dst (.d (.tup [.bool false]))) e h fun e h=>go e h s
    | some (i,(k,u))=>bk (.obj id (.mit v n (todo.filter fun j=>!Nat.beq j i) (some i))::a9 dst (.d (.tup [.bool true,k,u]))) e h fun e h=>go e h s
   | none=>False
  | _=>False
 | _=>False
inductive F7(P:Program)(t:TypeId)(name:String)(K:FuncId->Prop):Prop where
 | mk (g:FuncId) (h:∀ v w,(method (P.types.size+Made.depth) t v name).run P w = .ok (g,v) w) (hk:K g)
def Jl{σ:Type}(P:Program)(Y:Hd σ)(dst:Option Nat)(f:Operand)(name:String)(args:List Operand)(e:Env)(h:av)(s:σ)(go:Env->av->σ->Prop):Prop:=
 match aM e f,cQ e args with
 | some (.d (.ifc t v)),some l=>F7 P t name fun g=>eE P Y ⟨e,h,s⟩ dst g (.d v::l) fun|⟨e,h,s⟩=>go e h s
 | _,_=>False
def Jt{σ:Type}(Y:Hd σ)(x:Operand)(e:Env)(h:av)(s:σ):Prop:=
 match aM e x with
 | some (.d (.ifc t (.int k n)))=>Y.p (.iface t (.int k n)) e h s
 | _=>False
def zx{σ:Type}(P:Program)(T:dM)(Y:Hd σ)(dst:Option Nat)(op:Op)(e:Env)(h:av)(s:σ)(go:Env->av->σ->Prop):Prop:=
 match op with
 | .call ⟨callee,args,tys⟩=>match callee with
  | .builtin b=>dW T e h dst b args tys fun ws=>bk ws e h fun e h=>go e h s
  | .value f=>DW P Y dst f args.toList e h s go
  | .invoke f name=>Jl P Y dst f name args.toList e h s go
 | .panic x=>Jt Y x e h s
 | .next x b=>match b with
  | true=>fo T e h dst (.next x true) fun ws=>bk ws e h fun e h=>go e h s
  | false=>E4 dst x e h s go
 | .binOp op t x y ty=>match xw T e op t x y with
  | some (neg,ne)=>J9 neg ne fun b=>bk (a9 dst (.d (.bool b))) e h fun e h=>go e h s
  | none=>fo T e h dst (.binOp op t x y ty) fun ws=>bk ws e h fun e h=>go e h s
 | op=>fo T e h dst op fun ws=>bk ws e h fun e h=>go e h s
noncomputable def wpOps{σ:Type}(P:Program)(T:dM)(Y:Hd σ)(ops:List Oper)(l:List Oper):Env->av->σ->(Env->av->σ->Prop)->Prop:=
 List.rec (motive:=fun _=>Env->av->σ->(Env->av->σ->Prop)->Prop) (fun e h s K=>K e h s)
  (fun o _ ih e h s K=>match o with
   | ⟨dst,op,_,_,_,guard⟩=>kM ops e guard
    (fun w=>bk w e h fun e h=>zx P T Y dst op e h s fun e h s=>ih e h s K)
    (fun w=>bk w e h fun e h=>bk (a9 dst (.d (.tup []))) e h fun e h=>ih e h s K)) l
theorem wpOps_cons{σ:Type}(P:Program)(T:dM)(Y:Hd σ)(ops:List Oper)(dst:Option Nat)(op:Op)(ty:TypeId)(pos:String)(after:Array Edge)(guard:Option (Nat×Bool))(l:List Oper)(e:Env)(h:av)(s:σ)(K:Env->av->σ->Prop) :
  wpOps P T Y ops (⟨dst,op,ty,pos,after,guard⟩::l) e h s K=kM ops e guard
    (fun w=>bk w e h fun e h=>zx P T Y dst op e h s fun e h s=>wpOps P T Y ops l e h s K)
    (fun w=>bk w e h fun e h=>bk (a9 dst (.d (.tup []))) e h fun e h=>wpOps P T Y ops l e h s K):=rfl
structure OT where
 ts:List Nat
 gZ:List Nat
def sy:List Nat->Nat->Bool
 | [],_=>false
 | k::r,n=>match Nat.beq k n with
  | true=>true
  | false=>sy r n
def iI:List Nat->List Nat->Bool
 | [],_=>true
 | k::r,l=>match sy l k with
  | true=>false
  | false=>iI r l
structure OO where
 os:List Nat
 mo:List Nat
 nw:List Nat
 aL:List Nat
def apart(a b:OO):Bool:=
 match iI a.mo b.os,iI a.mo b.mo,iI b.mo a.os,iI b.nw a.aL with
 | true,true,true,true=>true
 | _,_,_,_=>false
def jE(o:OO)(acc:List OO):List Nat->Bool
 | []=>true
 | i::r=>match acc[i]? with
  | some p=>match apart o p with
   | true=>jE o acc r
   | false=>false
  | none=>false
def pg(mk:List Nat):List OO->Bool
 | []=>true
 | p::r=>match iI mk p.aL,iI mk p.mo with
  | true,true=>pg mk r
  | _,_=>false
def Hn:List Nat->List Nat->Bool
 | [],_=>true
 | k::r,l=>match sy l k with
  | true=>Hn r l
  | false=>false
def yM(d:Nat)(h:av):V->List Nat:=
 match d with
 | 0=>fun _=>[]
 | d+1=>fun v=>match v with
  | .d _=>[]
  | .agg cs=>cs.flatMap (yM d h)
  | .tup cs=>cs.flatMap (yM d h)
  | .clo _ cs=>cs.flatMap (yM d h)
  | v=>match fk v with
   | none=>[]
   | some i=>i::(match get h i with
    | some (.box (.vv cs))=>cs.flatMap (yM d h)
    | some (.arr _ (.vv es))=>es.flatMap fun e=>e.flatMap (yM d h)
    | some (.mit v _ _ _)=>yM d h v
    | some (.tb _ cs)=>cs.flatMap (yM d h)
    | _=>[])
def EV(d:Nat)(e:Env)(h:av):List Nat->List Nat
 | []=>[]
 | s::r=>match get e s with
  | some v=>yM d h v++EV d e h r
  | none=>EV d e h r
def ke(e:Env):List Nat->List Nat
 | []=>[]
 | s::r=>match get e s with
  | some v=>match fk v with
   | some i=>i::ke e r
   | none=>ke e r
  | none=>ke e r
def looksAt(op:Op)(e:Env)(h:av)(ts:List Nat):List Nat:=
 match op with
 | .load _ _=>ke e ts
 | .store _ (.tmp a) _=>ke e [a]
 | .call ⟨callee,_,_⟩=>match callee with
  | .builtin _=>ke e ts
  | _=>EV 9 e h ts
 | .lookup _ _ _ _=>ke e ts
 | .mapUpdate _ (.tmp a) _ _=>ke e [a]
 | .insert _ (.tmp a) _ _=>ke e [a]
 | .mapEntry _ (.tmp a) _=>ke e [a]
 | .entryStore _ (.tmp a) _ _=>ke e [a]
 | _=>[]
def aP{α:Type}(l:List Nat):sd α->sd α
 | []=>[]
 | (k,v)::r=>match sy l k with
  | true=>(k,v)::aP l r
  | false=>aP l r
def pA:List Wr->List Wr
 | []=>[]
 | w::r=>(match w with
  | .new id o=>.newq id o
  | w=>w)::pA r
def ct:List Wr->List Nat
 | []=>[]
 | w::r=>match w with
  | .set _ _=>ct r
  | .obj i _=>i::ct r
  | .new i _=>i::ct r
  | .newq i _=>i::ct r
  | .del i=>i::ct r
def bB:List Wr->List Nat
 | []=>[]
 | w::r=>match w with
  | .new i _=>i::bB r
  | _=>bB r
mutual
def bq:V->List Nat
 | .d _=>[]
 | .agg cs=>bm cs
 | .tup cs=>bm cs
 | .clo _ cs=>bm cs
 | .ptr j _=>[j]
 | .ep j _ _ _=>[j]
 | .sl j _ _ _=>[j]
 | .mp j=>[j]
 | .it j=>[j]
 | .yld=>[]
 | .unk=>[]
def bm:List V->List Nat
 | []=>[]
 | v::r=>bq v++bm r
end
def bU:Obj->List Nat
 | .box (.vv l)=>bm l
 | .arr _ (.vv l)=>bm l.flatten
 | .mit v _ _ _=>bq v
 | .tb _ l=>bm l
 | _=>[]
def bX:List Wr->List Nat
 | []=>[]
 | w::r=>match w with
  | .set _ v=>bq v++bX r
  | .obj _ o=>bU o++bX r
  | .new _ o=>bU o++bX r
  | .newq _ o=>bU o++bX r
  | .del _=>bX r
def cE:List Wr->Bool
 | []=>true
 | w::r=>match w with
  | .set _ v=>match iI (bB r) (bq v) with
   | true=>cE r
   | false=>false
  | .obj i o=>match iI (bB r) (i::bU o) with
   | true=>cE r
   | false=>false
  | .new i o=>match iI (bB r) (i::bU o) with
   | true=>cE r
   | false=>false
  | .newq _ _=>false
  | .del _=>cE r
def mA(d:Option Nat):List Wr->Bool
 | []=>true
 | w::r=>match w with
  | .set s _=>match d with
   | some d=>match Nat.beq s d with
    | true=>mA d r
    | false=>false
   | none=>false
  | _=>mA d r
def kq(d:Option Nat)(made:List Nat)(acc:List OO)(gZ:List Nat)(ws:List Wr)(o:OO):Bool:=
 match jE o acc gZ,pg o.nw acc,Hn o.nw made,cE ws,mA d ws with
 | true,true,true,true,true=>true
 | _,_,_,_,_=>false
noncomputable def Bf(P:Program)(T:dM)(made:List Nat)(ops:List Oper)(l:List (Oper×OT)):List OO->Env->av->(Env->av->Prop)->Prop:=
 List.rec (motive:=fun _=>List OO->Env->av->(Env->av->Prop)->Prop) (fun _ e h K=>K e h)
  (fun o _ ih acc e h K=>match o with
   | (⟨dst,op,_,_,after,guard⟩,⟨ts,gZ⟩)=>cO (looksAt op e h ts) fun os=>dx (aP ts e) fun e'=>fy (aP os h) fun h'=>
    kM ops e' guard
     (fun w=>
      let go:=fun ws=>cO (ct ws) fun mo=>cO (bB ws) fun mk=>cO (bX ws) fun aL=>
       fc (kq dst made acc gZ ws ⟨os,mo,mk,aL⟩) (bk w e h fun e h=>bk (pA ws) e h fun e h=>ih (acc ++ [⟨os,mo,mk,aL⟩]) e h K)
      match op with
      | .call ⟨callee,args,tys⟩=>match callee with
       | .builtin b=>dW T e' h' dst b args tys go
       | .value f=>match aM e' f,cQ e' args.toList with
        | some (.d (.clo g bS)),some l=>c8 P e' h' dst g (l++inj bS) go
        | some (.clo g bS),some l=>c8 P e' h' dst g (l++bS) go
        | _,_=>False
       | .invoke f name=>match aM e' f,cQ e' args.toList with
        | some (.d (.ifc t v)),some l=>F7 P t name fun g=>c8 P e' h' dst g (.d v::l) go
        | _,_=>False
      | op=>fo T e' h' dst op go)
     (fun w=>fc (jE ⟨os,[],[],[]⟩ acc gZ) (bk w e h fun e h=>bk (a9 dst (.d (.tup []))) e h fun e h=>ih (acc ++ [⟨os,[],[],[]⟩]) e h K))) l
def cK(i j:Nat)(v:V):V:=
 match v with
 | .ptr k off=>match Nat.beq k i with
  | true=>.ptr j off
  | false=>v
 | .ep k sz n off=>match Nat.beq k i with
  | true=>.ep j sz n off
  | false=>v
 | .sl k sz off n=>match Nat.beq k i with
  | true=>.sl j sz off n
  | false=>v
 | .mp k=>match Nat.beq k i with
  | true=>.mp j
  | false=>v
 | .it k=>match Nat.beq k i with
  | true=>.it j
  | false=>v
 | v=>v
def kA(i j:Nat):av->av
 | []=>[]
 | (k,o)::r=>match Nat.beq k i with
  | true=>(j,o.az (cK i j))::kA i j r
  | false=>(k,o.az (cK i j))::kA i j r
noncomputable def pN(l:List Nat):Env->av->(Env->av->Prop)->Prop:=
 List.rec (motive:=fun _=>Env->av->(Env->av->Prop)->Prop) (fun e h K=>K e h)
  (fun d _ ih e h K=>match get h d with
  | none=>dx (cn (az (aQ d)) e) fun e=>fy (cn (Obj.az (aQ d)) h) fun h=>ih e h K
  | some _=>dx (cn (az (cK d (500000+d))) (cn (az (aQ (500000+d))) e)) fun e=>
    fy (kA d (500000+d) (cn (Obj.az (aQ (500000+d))) (cut h (500000+d)))) fun h=>ih e h K) l
structure RT where
 made:List Nat
 ev:List OT
structure FT where
 ks:List Nat
 tb:List (Nat×RT)
def D1(v:Option V)(X Y:Prop):Prop:=
 match v with
 | some (.d (.bool t))=>HC t X Y
 | _=>False
def zY{σ:Type}(i:Nat)(K:ew->St σ->Prop)(e:ew)(st:St σ):Prop:=
 match e with
 | .exit j=>match Nat.beq j i with
  | true=>K .normal st
  | false=>K (.exit j) st
 | e=>K e st
noncomputable def FI{σ:Type}(P:Program)(T:dM)(ft:FT)(Y:Hd σ)(c:Code):St σ->(ew->St σ->Prop)->Prop:=
 Code.rec (motive:=fun _=>St σ->(ew->St σ->Prop)->Prop)
  (fun st K=>K .normal st)
  (fun id ops draw st K=>match st,draw with
   | ⟨e,h,s⟩,false=>wpOps P T Y ops.toList ops.toList e h s fun e h s=>dx (aP ft.ks e) fun e=>K .normal ⟨e,h,s⟩
   | ⟨e,h,s⟩,true=>match get ft.tb id with
    | some ⟨made,ev⟩=>pN made e h fun e h=>Bf P T made ops.toList (ops.toList.zip ev) [] e h fun e h=>dx (aP ft.ks e) fun e=>K .normal ⟨e,h,s⟩
    | none=>pI P ft Y id ops ⟨e,h,s⟩ K)
  (fun _ _ Qi Qj st K=>Qi st fun e st=>match e with
   | .normal=>Qj st K
   | e=>K e st)
  (fun c _ _ Qi Qj st K=>match st with
   | ⟨e,h,s⟩=>D1 (aM e c) (Qi ⟨e,h,s⟩ K) (Qj ⟨e,h,s⟩ K))
  (fun i _ ih st K=>ih st (zY i K))
  (fun c _ st K=>x4 P ft Y c st K)
  (fun g ps a b _ _ st K=>gK P ft Y g ps a b st K)
  (fun i st K=>K (.exit i) st)
  (fun _ ih st K=>ih st K)
  (fun _ st K=>K .normal st)
  (fun _ _ _=>False)
  (fun st K=>K .ret st)
  (fun _ _ _=>False) c
def dO:Nat->List V->Env
 | _,[]=>[]
 | i,v::r=>(i,v)::dO (i+1) r
noncomputable def Fp(T:dM)(g:Env)(h:av)(l:List ResultVar):(List V->Prop)->Prop:=
 List.rec (motive:=fun _=>(List V->Prop)->Prop) (fun K=>K [])
  (fun r _ ih K=>match r with
  | .tmp t=>match get g t with
   | some v=>ih fun l=>K (v::l)
   | none=>False
  | .cell a t=>yW T g h t (.tmp a) fun v=>ih fun l=>K (v::l)) l
def BX(l:List Value):Value:=
 match l with
 | [x]=>x
 | l=>.tuple l.toArray
inductive pJ{σ:Type}(l:List V)(h:av)(s:σ)(Q:V->av->σ->Prop):Prop where
 | mk (hr:∀ (cx:Cx σ) (L:Loc) (F:Nat->Nat) (aX:List Value) (w:World),bo cx L F h s w->aq cx.yv L F w l aX ->
   ∃ v h' L' F',Q v h' s/\bo cx L' F' h' s w/\a6 cx.yv L' F' w v (BX aX)/\Tr F w F' w/\te L L')
def MY{σ:Type}(T:dM)(rs:List ResultVar)(Q:V->av->σ->Prop)(e:ew)(st:St σ):Prop:=
 match e with
 | .exit _=>False
 | _=>match st with
  | ⟨e,h,s⟩=>Fp T e h rs fun l=>pJ l h s Q
end Go.PX
