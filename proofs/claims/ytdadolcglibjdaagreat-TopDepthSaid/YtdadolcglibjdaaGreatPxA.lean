import Derived.Calls
import Derived.RangeFuncLeaves
import Derived.Below
import Derived.Laws.Rows
import Derived.Lib.LaidTab
import Derived.Lib.ItoaNum
set_option linter.all false
namespace Go.PX
inductive D where
 | bool (b:Bool)
 | int (k:IntKind) (n:Int)
 | str (s:ByteArray)
 | agg (cs:List D)
 | tup (cs:List D)
 | vs (es:List (List D))
 | nils
 | ref (cs:List D)
 | nilp
 | mv (b0:List (D×D))
 | nilm
 | clo (f:FuncId) (aL:List D)
 | mth (f:FuncId) (first:List D)
 | nilf
 | ifc (t:TypeId) (v:D)
 | nili
 deriving Inhabited
inductive V where
 | d (v:D)
 | agg (cs:List V)
 | tup (cs:List V)
 | ptr (id off:Nat)
 | ep (id sz i off:Nat)
 | sl (id sz off len:Nat)
 | mp (id:Nat)
 | it (id:Nat)
 | clo (f:FuncId) (aL:List V)
 | ifc (t:TypeId) (cs:List V)
 | yld
 | unk
 deriving Inhabited
inductive Cells where
 | dd (l:List D)
 | vv (l:List V)
 deriving Inhabited
inductive a7 where
 | dd (l:List (List D))
 | vv (l:List (List V))
 deriving Inhabited
inductive Obj where
 | box (cs:Cells)
 | arr (sz:Nat) (es:a7)
 | map (b0:List (D×D))
 | iter (s:ByteArray) (pos:Nat)
 | buf (t:TypeId) (s:ByteArray)
 | tb (t:TypeId) (l:List V)
 | fz (l:List V)
 | mit (v:V) (n:Nat) (todo:List Nat) (cur:Option Nat)
 deriving Inhabited
abbrev sW(α:Type):=List (Nat×α)
def get{α:Type}:sW α->Nat->Option α
 | [],_=>none
 | (k,v)::r,s=>match Nat.beq k s with
  | true=>some v
  | false=>get r s
def put{α:Type}:sW α->Nat->α->sW α
 | [],s,v=>[(s,v)]
 | (k,u)::r,s,v=>match Nat.beq k s with
  | true=>(k,v)::r
  | false=>(k,u)::put r s v
def cut{α:Type}:sW α->Nat->sW α
 | [],_=>[]
 | (k,u)::r,s=>match Nat.beq k s with
  | true=>cut r s
  | false=>(k,u)::cut r s
def ct{α β:Type}(f:α->β):sW α->sW β
 | []=>[]
 | (k,u)::r=>(k,f u)::ct f r
abbrev Env:=sW V
abbrev aq:=sW Obj
structure St(σ:Type) where
 env:Env
 heap:aq
 s:σ
def isD:V->Bool
 | .d _=>true
 | _=>false
def sa:List V->Option (List D)
 | []=>some []
 | .d v::r=>match sa r with
  | some l=>some (v::l)
  | none=>none
 | _=>none
def pQ(cs:List V):V:=
 match sa cs with
 | some ds=>.d (.agg ds)
 | none=>.agg cs
def tp(cs:List V):V:=
 match sa cs with
 | some ds=>.d (.tup ds)
 | none=>.tup cs
def inj:List D->List V
 | []=>[]
 | v::r=>.d v::inj r
def V.cells:V->Cells
 | .d (.agg cs)=>.dd cs
 | .agg cs=>.vv cs
 | .d v=>.dd [v]
 | v=>.vv [v]
def Cells.len:Cells->Nat
 | .dd l=>l.length
 | .vv l=>l.length
def Cells.bo:Cells->List V
 | .dd l=>inj l
 | .vv l=>l
def Cells.sub(c:Cells)(off n:Nat):V:=
 match c with
 | .dd l=>.d (.agg ((l.drop off).take n))
 | .vv l=>pQ ((l.drop off).take n)
def Cells.gJ(c:Cells)(off:Nat)(x:Cells):Cells:=
 match c,x with
 | .dd l,.dd m=>.dd (l.take off++m++l.drop (off+m.length))
 | .dd l,.vv m=>.vv (inj (l.take off)++m++inj (l.drop (off+m.length)))
 | .vv l,.dd m=>.vv (l.take off++inj m++l.drop (off+m.length))
 | .vv l,.vv m=>.vv (l.take off++m++l.drop (off+m.length))
def lE:V->Option Nat
 | .ptr i _=>some i
 | .ep i _ _ _=>some i
 | .sl i _ _ _=>some i
 | .mp i=>some i
 | .it i=>some i
 | _=>none
mutual
def aE(f:V->V):V->V
 | .d v=>.d v
 | .agg cs=>.agg (cb f cs)
 | .tup cs=>.tup (cb f cs)
 | .clo g cs=>.clo g (cb f cs)
 | .ifc g cs=>.ifc g (cb f cs)
 | .yld=>.yld
 | .unk=>.unk
 | .ptr i o=>f (.ptr i o)
 | .ep i n j o=>f (.ep i n j o)
 | .sl i n o l=>f (.sl i n o l)
 | .mp i=>f (.mp i)
 | .it i=>f (.it i)
def cb(f:V->V):List V->List V
 | []=>[]
 | v::r=>aE f v::cb f r
end
def cS(f:V->V):List (List V)->List (List V)
 | []=>[]
 | v::r=>cb f v::cS f r
def Obj.aE(f:V->V):Obj->Obj
 | .box (.dd l)=>.box (.dd l)
 | .box (.vv l)=>.box (.vv (cb f l))
 | .arr sz (.dd l)=>.arr sz (.dd l)
 | .arr sz (.vv l)=>.arr sz (.vv (cS f l))
 | .map b0=>.map b0
 | .iter s n=>.iter s n
 | .buf t s=>.buf t s
 | .tb t l=>.tb t (cb f l)
 | .fz l=>.fz (cb f l)
 | .mit v n l u=>.mit (PX.aE f v) n l u
mutual
def vC(i:Nat):V->Bool
 | .d _=>false
 | .agg cs=>mO i cs
 | .tup cs=>mO i cs
 | .clo _ cs=>mO i cs
 | .ifc _ cs=>mO i cs
 | .ptr j _=>Nat.beq j i
 | .ep j _ _ _=>Nat.beq j i
 | .sl j _ _ _=>Nat.beq j i
 | .mp j=>Nat.beq j i
 | .it j=>Nat.beq j i
 | .yld=>false
 | .unk=>false
def mO(i:Nat):List V->Bool
 | []=>false
 | v::r=>vC i v||mO i r
end
def Cells.free(i:Nat):Cells->Bool
 | .dd _=>true
 | .vv l=>!mO i l
def a7.free(i:Nat):a7->Bool
 | .dd _=>true
 | .vv l=>!mO i l.flatten
def aZ(id:Nat)(v:V):V:=
 match lE v with
 | some i=>match Nat.beq i id with
  | true=>.unk
  | false=>v
 | none=>v
inductive Kd where
 | bool|int (k:IntKind)|str
 | slice (e:TypeId)
 | struct (fs:List (Nat×TypeId))
 | array (n:Nat) (e:TypeId)
 | map (k e:TypeId)
 | iface
 | other
 deriving Inhabited
structure pF where
 size:Nat
 bytes:Nat
 kd:Kd
 isAgg:Bool
 held:Bool
 zero:Option (List D)
 deriving Inhabited
inductive dV where
 | lf
 | nd (l:dV) (k:Nat) (v:pF) (r:dV)
def dV.get:dV->Nat->Option pF
 | .lf,_=>none
 | .nd l k v r,s=>match Nat.beq s k with
  | true=>some v
  | false=>match Nat.blt s k with
   | true=>l.get s
   | false=>r.get s
def kD:Value->Option D
 | .bool b=>some (.bool b)
 | .int k n=>some (.int k n)
 | .string s=>some (.str s)
 | .slice none 0 0=>some .nils
 | .map none=>some .nilm
 | .nilFunc=>some .nilf
 | .pointer none=>some .nilp
 | .nilIface=>some .nili
 | _=>none
def gU:List Value->Option (List D)
 | []=>some []
 | v::r=>match kD v,gU r with
  | some a,some l=>some (a::l)
  | _,_=>none
def ofConst:Value->Option D
 | .agg cs=>match gU cs.toList with
  | some l=>some (.agg l)
  | none=>none
 | .tuple cs=>match cs.toList with
  | []=>some (.tup [])
  | _=>none
 | v=>kD v
def aH(g:Env):Operand->Option V
 | .tmp t=>get g t
 | .const v=>match ofConst v with
  | some v=>some (.d v)
  | none=>none
 | .func f=>some (.d (.clo f []))
 | .global _=>none
def cE(g:Env):List Operand->Option (List V)
 | []=>some []
 | x::r=>match aH g x,cE g r with
  | some a,some l=>some (a::l)
  | _,_=>none
inductive Wr where
 | set (s:Nat) (v:V)
 | obj (id:Nat) (o:Obj)
 | new (id:Nat) (o:Obj)
 | newq (id:Nat) (o:Obj)
 | del (id:Nat)
 deriving Inhabited
def y4(v:V)(K:V->Prop):Prop:=
 match v with
 | .d x=>K (.d x)
 | .agg cs=>K (.agg cs)
 | .tup cs=>K (.tup cs)
 | .ptr i o=>K (.ptr i o)
 | .ep i n j o=>K (.ep i n j o)
 | .sl i n o l=>K (.sl i n o l)
 | .mp i=>K (.mp i)
 | .it i=>K (.it i)
 | .clo f cs=>K (.clo f cs)
 | .ifc f cs=>K (.ifc f cs)
 | .yld=>K .yld
 | .unk=>K .unk
noncomputable def DD(l:List D):(List D->Prop)->Prop:=
 List.rec (motive:=fun _=>(List D->Prop)->Prop) (fun K=>K []) (fun v _ ih K=>ih fun r=>K (v::r)) l
noncomputable def uc(l:List V):(List V->Prop)->Prop:=
 List.rec (motive:=fun _=>(List V->Prop)->Prop) (fun K=>K []) (fun v _ ih K=>ih fun r=>K (v::r)) l
theorem uW:∀ (l:List D) (K:List D->Prop),DD l K=K l
 | [],_=>rfl
 | v::r,K=>uW r fun r=>K (v::r)
theorem mB:∀ (l:List V) (K:List V->Prop),uc l K=K l
 | [],_=>rfl
 | v::r,K=>mB r fun r=>K (v::r)
noncomputable def Cf(v:Obj)(K:Obj->Prop):Prop:=
 match v with
 | .box (.dd l)=>DD l fun l=>K (.box (.dd l))
 | .box (.vv l)=>uc l fun l=>K (.box (.vv l))
 | .arr n (.dd l)=>K (.arr n (.dd l))
 | .arr n (.vv l)=>K (.arr n (.vv l))
 | .map b0=>K (.map b0)
 | .iter x n=>K (.iter x n)
 | .buf t s=>K (.buf t s)
 | .tb t l=>uc l fun l=>K (.tb t l)
 | .fz l=>uc l fun l=>K (.fz l)
 | .mit v n l u=>y4 v fun v=>K (.mit v n l u)
noncomputable def eB(l:Env):(Env->Prop)->Prop:=
 List.rec (motive:=fun _=>(Env->Prop)->Prop) (fun K=>K [])
  (fun kv _ ih K=>match kv with
   | (k,v)=>y4 v fun v=>ih fun r=>K ((k,v)::r)) l
noncomputable def gj(l:aq):(aq->Prop)->Prop:=
 List.rec (motive:=fun _=>(aq->Prop)->Prop) (fun K=>K [])
  (fun kv _ ih K=>match kv with
   | (k,v)=>Cf v fun v=>ih fun r=>K ((k,v)::r)) l
noncomputable def cP(l:List Nat):(List Nat->Prop)->Prop:=
 List.rec (motive:=fun _=>(List Nat->Prop)->Prop) (fun K=>K []) (fun n _ ih K=>ih fun r=>K (n::r)) l
noncomputable def bg(l:List Wr):Env->aq->(Env->aq->Prop)->Prop:=
 List.rec (motive:=fun _=>Env->aq->(Env->aq->Prop)->Prop) (fun e h K=>K e h)
  (fun w _ ih e h K=>match w with
  | .set s v=>eB (put e s v) fun e'=>ih e' h K
  | .obj id o=>gj (put h id o) fun h'=>ih e h' K
  | .new id o=>eB (ct (aE (aZ id)) e) fun e'=>gj ((id,o)::ct (Obj.aE (aZ id)) (cut h id)) fun h'=>ih e' h' K
  | .newq id o=>gj ((id,o)::h) fun h'=>ih e h' K
  | .del id=>gj (cut h id) fun h'=>ih e h' K) l
def eW(b:Bool)(K:Prop):Prop:=
 match b with
 | true=>K
 | false=>False
def Kx(b:Bool)(X Y:Prop):Prop:=
 match b with
 | true=>X
 | false=>Y
inductive arith(k:IntKind)(n:Int)(K:V->Prop):Prop where
 | mk (h:K (.d (.int k (k.wrap n))))
def xp(es:List (List D))(i:Int)(K:List D->Prop):Prop:=
 match decide (0<=i),es[i.toNat]? with
 | true,some l=>K l
 | _,_=>False
def nN{α:Type}(cs:List α)(n:Nat)(K:α->Prop):Prop:=
 match cs[n]? with
 | some v=>K v
 | none=>False
def Cells.Nw(c:Cells)(n:Nat)(K:V->Prop):Prop:=
 match c with
 | .dd l=>nN l n fun v=>K (.d v)
 | .vv l=>nN l n K
def a7.Nw(c:a7)(n:Nat)(K:Cells->Prop):Prop:=
 match c with
 | .dd l=>nN l n fun v=>K (.dd v)
 | .vv l=>nN l n fun v=>K (.vv v)
def cU:List (List D)->List (List V)
 | []=>[]
 | v::r=>inj v::cU r
def a7.len:a7->Nat
 | .dd l=>l.length
 | .vv l=>l.length
def a7.bo:a7->List (List V)
 | .dd l=>cU l
 | .vv l=>l
def a7.set(c:a7)(n:Nat)(x:Cells):a7:=
 match c,x with
 | .dd l,.dd m=>.dd (l.set n m)
 | .dd l,.vv m=>.vv ((cU l).set n m)
 | .vv l,x=>.vv (l.set n x.bo)
def a7.part(c:a7)(off n:Nat):a7:=
 match c with
 | .dd l=>.dd ((l.drop off).take n)
 | .vv l=>.vv ((l.drop off).take n)
def a7.app(c x:a7):a7:=
 match c,x with
 | .dd l,.dd m=>.dd (l++m)
 | .dd l,.vv m=>.vv (cU l++m)
 | .vv l,x=>.vv (l++x.bo)
def qA(n:Nat)(lo hi:Option V)(K:Nat->Nat->Prop):Prop:=
 match hi with
 | none=>match lo with
  | none=>K 0 n
  | some (.d (.int _ l))=>eW (decide (0<=l)&&decide (l<=n)) (K l.toNat n)
  | _=>False
 | some (.d (.int _ h))=>eW (decide (0<=h)&&decide (h<=n))
   (match lo with
   | none=>K 0 h.toNat
   | some (.d (.int _ l))=>eW (decide (0<=l)&&decide (l<=h)) (K l.toNat h.toNat)
   | _=>False)
 | _=>False
def Bk(g:Env):Option Operand->Option (Option V)
 | none=>some none
 | some x=>match aH g x with
  | some v=>some (some v)
  | none=>none
inductive Place where
 | imm (cs:List D)
 | box (id off:Nat)
 | el (id sz i off:Nat)
def placeOf(v:V):Option Place:=
 match v with
 | .d (.ref cs)=>some (.imm cs)
 | .ptr id off=>some (.box id off)
 | .ep id sz i off=>some (.el id sz i off)
 | _=>none
def Place.add(n:Nat):Place->V
 | .imm cs=>.d (.ref (cs.drop n))
 | .box id off=>.ptr id (off+n)
 | .el id sz i off=>.ep id sz i (off+n)
def aO(d:Option Nat)(v:V):List Wr:=
 match d with
 | none=>[]
 | some d=>[.set d v]
def D.scalar:D->Bool
 | .agg _ | .tup _=>false
 | _=>true
def V.scalar:V->Bool
 | .d v=>v.scalar
 | .agg _ | .tup _=>false
 | _=>true
def cf:List V->Bool
 | []=>true
 | x::r=>x.scalar&&cf r
def gD:List D->Bool
 | []=>true
 | x::r=>x.scalar&&gD r
def Gx(T:dV)(eq:TypeId->List D->List D->Option Bool):List (Nat×TypeId)->List D->List D->Option Bool
 | [],_,_=>some true
 | (off,t)::r,xs,ys=>
  match T.get t with
  | none=>none
  | some ti=>match Nat.beq ti.size 0,Nat.ble (off+ti.size) xs.length,Nat.ble (off+ti.size) ys.length with
   | false,true,true=>match eq t ((xs.drop off).take ti.size) ((ys.drop off).take ti.size),Gx T eq r xs ys with
    | some a,some b=>some (a&&b)
    | _,_=>none
   | _,_,_=>none
def EB(eq:List D->List D->Option Bool)(c:Nat):Nat->List D->List D->Option Bool
 | 0,_,_=>some true
 | n+1,xs,ys=>match Nat.ble c xs.length,Nat.ble c ys.length with
  | true,true=>match eq (xs.take c) (ys.take c),EB eq c n (xs.drop c) (ys.drop c) with
   | some a,some b=>some (a&&b)
   | _,_=>none
  | _,_=>none
def IS(T:dV):Nat->TypeId->List D->List D->Option Bool
 | 0,_,_,_=>none
 | d+1,t,xs,ys=>
  match T.get t with
  | none=>none
  | some ti=>match ti.kd with
   | .bool=>match xs,ys with
    | [.bool a],[.bool b]=>some (a ==b)
    | _,_=>none
   | .int _=>match xs,ys with
    | [.int k a],[.int k' b]=>match decide (k=k') with
     | true=>some (decide (a=b))
     | false=>none
    | _,_=>none
   | .str=>match xs,ys with
    | [.str a],[.str b]=>some (decide (a=b))
    | _,_=>none
   | .struct fs=>match ti.held with
    | true=>none
    | false=>Gx T (fun t xs ys=>IS T d t xs ys) fs xs ys
   | .array n e=>match T.get e with
    | some ei=>match Nat.beq ei.size 0,Nat.beq n 0 with
     | false,false=>EB (fun xs ys=>IS T d e xs ys) ei.size n xs ys
     | _,_=>none
    | none=>none
   | _=>none
def er(op:BinOp)(k:IntKind)(a b:Int):Int:=
 match op with
 | .and=>k.wrap (BitVec.ofInt k.bits a &&& BitVec.ofInt k.bits b).toNat
 | .or=>k.wrap (BitVec.ofInt k.bits a ||| BitVec.ofInt k.bits b).toNat
 | .xor=>k.wrap (BitVec.ofInt k.bits a ^^^ BitVec.ofInt k.bits b).toNat
 | _=>k.wrap (BitVec.ofInt k.bits a &&& ~~~(BitVec.ofInt k.bits b)).toNat
def RO(op:BinOp)(k:IntKind)(a b:Int)(K:V->Prop):Prop:=
 match op with
 | .add=>arith k (a+b) K
 | .sub=>arith k (a-b) K
 | .mul=>arith k (a*b) K
 | .quo=>eW (decide (b≠0)) (arith k (a.tdiv b) K)
 | .rem=>eW (decide (b≠0)) (K (.d (.int k (a.tmod b))))
 | .eql=>K (.d (.bool (decide (a=b))))
 | .neq=>K (.d (.bool (!decide (a=b))))
 | .lss=>K (.d (.bool (decide (a<b))))
 | .leq=>K (.d (.bool (decide (a<=b))))
 | .gtr=>K (.d (.bool (decide (b<a))))
 | .geq=>K (.d (.bool (decide (b<=a))))
 | .and=>K (.d (.int k (er .and k a b)))
 | .or=>K (.d (.int k (er .or k a b)))
 | .xor=>K (.d (.int k (er .xor k a b)))
 | .andNot=>K (.d (.int k (er .andNot k a b)))
 | _=>False
def Dv(x:Option Bool)(K:V->Prop):Prop:=
 match x with
 | some b=>K (.d (.bool b))
 | none=>False
def Nc:Option Bool->Option Bool
 | some b=>some (!b)
 | none=>none
def rl(T:dV)(t:TypeId):Bool:=
 match T.get t with
 | some ti=>match ti.kd with
  | .struct _=>true
  | .array _ _=>true
  | _=>false
 | none=>false
def isBool(T:dV)(t:TypeId):Bool:=
 match T.get t with
 | some ti=>match ti.kd with
  | .bool=>true
  | _=>false
 | none=>false
def isIface(T:dV)(t:TypeId):Bool:=
 match T.get t with
 | some ti=>match ti.kd with
  | .iface=>true
  | _=>false
 | none=>false
def Cv:Operand->Bool
 | .const .nilIface=>true
 | _=>false
def D3(T:dV)(op:BinOp)(t:TypeId)(b:Bool)(K:V->Prop):Prop:=
 match isIface T t,op with
 | true,.eql=>K (.d (.bool b))
 | true,.neq=>K (.d (.bool (!b)))
 | _,_=>False
def Ls(T:dV)(op:BinOp)(t:TypeId)(x y:V)(K:V->Prop):Prop:=
 match x,y with
 | .d (.int k a),.d (.int k' b)=>match op with
  | .shl=>eW (decide (0<=b)) (arith k (a*2^(min b.toNat k.bits)) K)
  | .shr=>eW (decide (0<=b)) (K (.d (.int k (a.fdiv (2^(min b.toNat k.bits))))))
  | _=>match decide (k=k') with
   | true=>RO op k a b K
   | false=>False
 | .d (.bool a),.d (.bool b)=>match isBool T t,op with
  | true,.eql=>K (.d (.bool (a ==b)))
  | true,.neq=>K (.d (.bool (!(a ==b))))
  | _,_=>False
 | .d (.str a),.d (.str b)=>match op with
  | .eql=>K (.d (.bool (decide (a=b))))
  | .neq=>K (.d (.bool (!decide (a=b))))
  | .add=>eW (decide (a.size+b.size<=9223372036854775807)) (K (.d (.str (a++b))))
  | _=>False
 | .d (.agg a),.d (.agg b)=>match rl T t,op with
  | true,.eql=>Dv (IS T 9 t a b) K
  | true,.neq=>Dv (Nc (IS T 9 t a b)) K
  | _,_=>False
 | _,_=>False
def j7(fs:List (Nat×Nat))(cs:Cells):List (Nat×V)->Option Cells
 | []=>some cs
 | (i,v)::r=>match fs[i]? with
  | some (off,n)=>match Nat.beq v.cells.len n,Nat.ble (off+n) cs.len with
   | true,true=>j7 fs (cs.gJ off v.cells) r
   | _,_=>none
  | none=>none
def Cells.val:Cells->V
 | .dd l=>.d (.agg l)
 | .vv l=>pQ l
def partsOf(g:Env):List (Nat×Operand)->Option (List (Nat×V))
 | []=>some []
 | (i,x)::r=>match aH g x,partsOf g r with
  | some a,some l=>some ((i,a)::l)
  | _,_=>none
def rL(T:dV):List (Nat×TypeId)->Option (List (Nat×Nat))
 | []=>some []
 | (off,t)::r=>match T.get t,rL T r with
  | some i,some l=>some ((off,i.size)::l)
  | _,_=>none
def a7.cons(x:Cells)(c:a7):a7:=
 match x,c with
 | .dd l,.dd m=>.dd (l::m)
 | .dd l,.vv m=>.vv (inj l::m)
 | .vv l,c=>.vv (l::c.bo)
def qV(n:Nat):Nat->List (Nat×V)->Option a7
 | _,[]=>some (.dd [])
 | i,(j,v)::r=>match Nat.beq j i,Nat.beq v.cells.len n,qV n (i+1) r with
  | true,true,some l=>some (l.cons v.cells)
  | _,_,_=>none
def E6:IntKind->Int->List V->Option D
 | k,a,[]=>some (.int k a)
 | k,a,.d (.int _ b)::r=>E6 k (min a b) r
 | _,_,_=>none
def E5:IntKind->Int->List V->Option D
 | k,a,[]=>some (.int k a)
 | k,a,.d (.int _ b)::r=>E5 k (max a b) r
 | _,_,_=>none
def qf(h:aq):V->Option a7
 | .d (.vs es)=>some (.dd es)
 | .d .nils=>some (.dd [])
 | .sl id sz off n=>match get h id with
  | some (.arr m es)=>match Nat.beq m sz,Nat.ble (off+n) es.len with
   | true,true=>some (es.part off n)
   | _,_=>none
  | _=>none
 | _=>none
inductive ny(es:a7)(off n:Nat)(K:a7->Prop):Prop where
 | mk (h:Nat.ble (off+n) es.len=true) (k:K (es.part off n))
def yU(h:aq)(v:V)(K:a7->Prop):Prop:=
 match v with
 | .d (.vs es)=>K (.dd es)
 | .d .nils=>K (.dd [])
 | .sl id sz off n=>match get h id with
  | some (.arr m es)=>match Nat.beq m sz with
   | true=>ny es off n K
   | false=>False
  | _=>False
 | _=>False
theorem Aq{h:aq}{v:V}{K:a7->Prop}(hk:yU h v K):∃ fs,qf h v=some fs/\K fs:=by
 unfold yU at hk;split at hk
 ·exact⟨_,rfl,hk⟩
 ·exact⟨_,rfl,hk⟩
 ·rename_i id sz off n
  split at hk
  ·rename_i m es hg
   split at hk
   ·rename_i hm
    obtain⟨h1,h2⟩:=hk;exact⟨_,by simp[qf,hg,hm,h1],h2⟩
   ·exact hk.elim
  ·exact hk.elim
 ·exact hk.elim
theorem CT(es:a7):es.part 0 es.len=es:=by
 cases es<;>simp[a7.part,a7.len]
theorem aK{es:a7}{n:Nat}{K:a7->Prop}(h:n=es.len)(k:K es):ny es 0 n K:=by
 subst h;exact⟨Nat.ble_eq_true_of_le (by omega),by rw[CT];exact k⟩
def fE(n:Nat):List (List D)->Bool
 | []=>true
 | l::r=>match Nat.beq l.length n,gD l with
  | true,true=>fE n r
  | _,_=>false
def oX(n:Nat):List (List V)->Bool
 | []=>true
 | l::r=>match Nat.beq l.length n,cf l with
  | true,true=>oX n r
  | _,_=>false
def a7.ok(n:Nat):a7->Bool
 | .dd l=>fE n l
 | .vv l=>oX n l
def Cells.ok:Cells->Bool
 | .dd l=>gD l
 | .vv l=>cf l
def Dn(t:pF):Bool:=
 match t.zero with
 | some z=>Nat.beq z.length t.size
 | none=>false
def Cells.pr(ti:pF)(c:Cells)(off:Nat)(K:V->Prop):Prop:=
 match ti.isAgg with
 | true=>eW (Nat.ble (off+ti.size) c.len) (K (c.sub off ti.size))
 | false=>c.Nw off K
def A9(T:dV)(g:Env)(h:aq)(t:TypeId)(x:Operand)(K:V->Prop):Prop:=
 match aH g x with
 | none=>False
 | some v=>match placeOf v,T.get t with
  | some (.imm cs),some ti=>(Cells.dd cs).pr ti 0 K
  | some (.box id off),some ti=>match get h id with
   | some (.box cs)=>cs.pr ti off K
   | some (.tb _ l)=>(Cells.vv l).pr ti off K
   | some (.fz l)=>(Cells.vv l).pr ti off K
   | _=>False
  | some (.el id sz i off),some ti=>match get h id with
   | some (.arr n es)=>eW (Nat.beq n sz) (es.Nw i fun cs=>cs.pr ti off K)
   | _=>False
  | _,_=>False
def Ik(T:dV)(g:Env)(h:aq)(t:TypeId)(x y:Operand)(K:List Wr->Prop):Prop:=
 match aH g x,aH g y,T.get t with
 | some a,some v,some ti=>
  eW (Nat.beq v.cells.len ti.size&&v.cells.ok)
   (match placeOf a with
   | some (.box id off)=>match get h id with
    | some (.box cs)=>eW (Nat.ble (off+ti.size) cs.len) (K [.obj id (.box (cs.gJ off v.cells))])
    | some (.tb t l)=>eW (Nat.ble (off+ti.size) l.length) (K [.obj id (.tb t ((Cells.vv l).gJ off v.cells).bo)])
    | _=>False
   | some (.el id sz i off)=>match get h id with
    | some (.arr n es)=>eW (Nat.beq n sz) (es.Nw i fun e=>eW (Nat.ble (off+ti.size) e.len) (K [.obj id (.arr n (es.set i (e.gJ off v.cells)))]))
    | _=>False
   | _=>False)
 | _,_,_=>False
def uw(h:aq)(v:V)(sz:Nat)(K:a7->List Wr->Prop):Prop:=
 match v with
 | .d .nils=>K (.dd []) []
 | .sl id n off len=>match get h id with
  | some (.arr m es)=>eW (Nat.beq n sz&&Nat.beq m sz&&Nat.ble len es.len&&Nat.beq off 0) (K (es.part 0 len) [.del id])
  | _=>False
 | _=>False
def rP(h:aq)(v:V)(sz:Nat)(K:a7->List Wr->Prop):Prop:=
 match v with
 | .d .nils=>K (.dd []) []
 | .sl id n off len=>match get h id with
  | some (.arr m es)=>eW (Nat.beq n sz&&Nat.beq m sz&&Nat.beq off 0) (ny es 0 len fun es=>K es [.del id])
  | _=>False
 | _=>False
theorem C7{h:aq}{v:V}{sz:Nat}{K:a7->List Wr->Prop}(hk:rP h v sz K):uw h v sz K:=by
 unfold rP at hk;unfold uw;split at hk
 ·exact hk
 ·rename_i id n off len
  split at hk
  ·rename_i m es hg
   cases hc:(Nat.beq n sz&&Nat.beq m sz&&Nat.beq off 0) with
   | false=>rw[hc]at hk;exact hk.elim
   | true=>
    rw[hc]at hk;obtain⟨h1,h2⟩:=(hk:ny es 0 len fun es=>K es [.del id]);rw[Nat.zero_add]at h1;simp only[Bool.and_eq_true]at hc;show eW (Nat.beq n sz&&Nat.beq m sz&&Nat.ble len es.len&&Nat.beq off 0) (K (es.part 0 len) [.del id]);rw[hc.1.1,hc.1.2,hc.2,h1];exact h2
  ·exact hk.elim
 ·exact hk.elim
def fH(T:dV)(t:TypeId):Option pF:=
 match T.get t with
 | some ti=>match ti.kd with
  | .slice e=>T.get e
  | _=>none
 | none=>none
def mu(ei:pF):Bool:=!Nat.beq ei.size 0 && !Nat.beq ei.bytes 0&&Dn ei
def uG(T:dV)(g:Env)(h:aq)(d:Option Nat)(t:TypeId)(x y:Operand)(K:List Wr->Prop):Prop:=
 match aH g x,aH g y,fH T t,d with
 | some v,some u,some ei,some d=>match qf h u with
  | some fs=>eW (mu ei) (uw h v ei.size fun es ws=>
    eW (fs.ok ei.size&&(es.app fs).free d) (eW (decide ((es.len+fs.len)*ei.bytes<=140737488355328))
     (K (ws ++ [.new d (.arr ei.size (es.app fs)),.set d (.sl d ei.size 0 (es.len+fs.len))]))))
  | none=>False
 | _,_,_,_=>False
def yK(T:dV)(g:Env)(h:aq)(d:Option Nat)(t:TypeId)(x y:Operand)(K:List Wr->Prop):Prop:=
 match aH g x,aH g y,fH T t,d with
 | some v,some u,some ei,some d=>yU h u fun fs=>eW (mu ei) (rP h v ei.size fun es ws=>
    eW (fs.ok ei.size&&(es.app fs).free d) (eW (decide ((es.len+fs.len)*ei.bytes<=140737488355328))
     (K (ws ++ [.new d (.arr ei.size (es.app fs)),.set d (.sl d ei.size 0 (es.len+fs.len))]))))
 | _,_,_,_=>False
theorem Eo{T:dV}{g:Env}{h:aq}{d:Option Nat}{t:TypeId}{x y:Operand}{K:List Wr->Prop}(hk:yK T g h d t x y K):uG T g h d t x y K:=by
 unfold yK at hk;unfold uG;split at hk
 ·rename_i v u ei d h1 h2 h3
  obtain⟨fs,hf,hk⟩:=Aq hk;simp only[h1,h2,h3,hf]
  cases hc:mu ei with
  | false=>rw[hc]at hk;exact hk.elim
  | true=>
   rw[hc]at hk;have hk:rP h v ei.size fun es ws=>
    eW (fs.ok ei.size&&(es.app fs).free d) (eW (decide ((es.len+fs.len)*ei.bytes<=140737488355328))
     (K (ws ++ [.new d (.arr ei.size (es.app fs)),.set d (.sl d ei.size 0 (es.len+fs.len))]))):=hk
   exact C7 hk
 ·exact hk.elim
def isStr(T:dV)(t:TypeId):Bool:=
 match T.get t with
 | some ti=>match ti.kd with
  | .str=>true
  | _=>false
 | none=>false
def LL(T:dV)(t:TypeId):Option (TypeId×pF):=
 match T.get t with
 | some ti=>match ti.kd with
  | .slice e=>match T.get e with
   | some ei=>some (e,ei)
   | none=>none
  | _=>none
 | none=>none
def RQ(h:aq)(v u:Option V):Bool:=
 match u with
 | some (.d (.str _))=>true
 | _=>match v with
  | some (.sl id _ _ _)=>match get h id with
   | some (.buf _ _)=>true
   | _=>false
  | _=>false
def CH(T:dV)(h:aq)(u:TypeId)(v:V):Option ByteArray:=
 match v with
 | .d (.str s)=>match isStr T u with
  | true=>some s
  | false=>none
 | v=>match fH T u with
  | some _=>match qf h v with
   | some (.dd [[.int .u8 c]])=>match decide (0<=c),decide (c<256) with
    | true,true=>some ⟨#[UInt8.ofNat c.toNat]⟩
    | _,_=>none
   | _=>none
  | none=>none
def Lv(T:dV)(g:Env)(h:aq)(d:Option Nat)(t u:TypeId)(x y:Operand)(K:List Wr->Prop):Prop:=
 match aH g x,aH g y,LL T t,d with
 | some v,some yv,some (el,ei),some d=>match CH T h u yv with
  | some s=>eW (mu ei&&(Nat.beq ei.size 1&&Nat.beq ei.bytes 1)) (match v with
   | .d .nils=>eW (decide (0<s.size)&&decide (s.size<=140737488355328)) (K [.new d (.buf el s),.set d (.sl d 1 0 s.size)])
   | .sl id n off len=>match get h id with
    | some (.buf ty b)=>eW (Nat.beq n 1&&(Nat.beq off 0&&Nat.beq ty el)) (eW (decide (len=b.size)&&(decide (0<len)&&decide (len+s.size<=140737488355328)))
      (K [.del id,.new d (.buf ty (b++s)),.set d (.sl d 1 0 (b++s).size)]))
    | _=>False
   | _=>False)
  | none=>False
 | _,_,_,_=>False
def qY(T:dV)(t:TypeId)(i:Nat):Option (Nat×pF):=
 match T.get t with
 | some ti=>match ti.kd with
  | .struct fs=>match fs[i]? with
   | some (off,ft)=>match T.get ft with
    | some fi=>some (off,fi)
    | none=>none
   | none=>none
  | _=>none
 | none=>none
def Gv(T:dV)(el:TypeId)(es:List (List D)):Bool:=
 match T.get el with
 | some ei=>match es with
  | []=>true
  | f::_=>Nat.beq f.length ei.size
 | none=>false
def tE:D->D->Option Bool
 | .int k a,.int k' b=>match decide (k=k') with
  | true=>some (decide (a=b))
  | false=>none
 | _,_=>none
def nm:D->D->Option Bool
 | .int k a,.int k' b=>match decide (k=k') with
  | true=>some (decide (a=b))
  | false=>none
 | .bool a,.bool b=>some (a ==b)
 | .ifc t a,.ifc u b=>match Nat.beq t u,tE a b with
  | true,r=>r
  | false,some _=>some false
  | false,none=>none
 | _,_=>none
def cv:List D->List D->Option Bool
 | [],[]=>some true
 | a::r,b::l=>match nm a b,cv r l with
  | some p,some q=>some (p&&q)
  | _,_=>none
 | _,_=>none
def gY:D->D->Option Bool
 | .int k a,.int k' b=>match decide (k=k') with
  | true=>some (decide (a=b))
  | false=>none
 | .str a,.str b=>some (decide (a=b))
 | .bool a,.bool b=>some (a ==b)
 | .agg a,.agg b=>cv a b
 | _,_=>none
def findD(k:D):List (D×D)->Nat->Option (Option (Nat×D))
 | [],_=>some none
 | (k',v)::r,n=>match gY k k' with
  | some true=>some (some (n,v))
  | some false=>findD k r (n+1)
  | none=>none
inductive kY(b0:List (D×D))(k:D)(K:Option (Nat×D)->Prop):Prop where
 | mk (r:Option (Nat×D)) (h:findD k b0 0=some r) (hk:K r)
inductive R9(s:ByteArray)(pos:Nat)(K:Nat->Nat->Prop):Prop where
 | mk (h:K (Utf8.decode s pos).1 (Utf8.decode s pos).2)
def nR(f:TypeId->Option Nat):List (Nat×TypeId)->Nat->Option Nat
 | [],n=>some n
 | (off,t)::r,n=>match Nat.beq off n,f t with
  | true,some (c+1)=>nR f r (n+(c+1))
  | _,_=>none
def flat(T:dV):Nat->TypeId->Option Nat
 | 0,_=>none
 | d+1,t=>match T.get t with
  | none=>none
  | some ti=>match ti.kd with
   | .int _=>match Nat.beq ti.size 1 with
    | true=>some 1
    | false=>none
   | .bool=>match Nat.beq ti.size 1 with
    | true=>some 1
    | false=>none
   | .iface=>match d,Nat.beq ti.size 1 with
    | _+1,true=>some 1
    | _,_=>none
   | .struct fs=>match ti.held,nR (fun t=>flat T d t) fs 0 with
    | false,some n=>match Nat.beq ti.size n with
     | true=>some n
     | false=>none
    | _,_=>none
   | .array m e=>match flat T d e with
    | some (c+1)=>match Nat.beq ti.size (m*(c+1)) with
     | true=>some (m*(c+1))
     | false=>none
    | _=>none
   | _=>none
def xw(T:dV)(f:TypeId->List D->Bool):List (Nat×TypeId)->List D->Bool
 | [],_=>true
 | (off,t)::r,xs=>match T.get t with
  | some ti=>match f t ((xs.drop off).take ti.size) with
   | true=>xw T f r xs
   | false=>false
  | none=>false
def xx(f:List D->Bool)(c:Nat):Nat->List D->Bool
 | 0,_=>true
 | n+1,xs=>match f (xs.take c) with
  | true=>xx f c n (xs.drop c)
  | false=>false
def pq(T:dV):Nat->TypeId->List D->Bool
 | 0,_,_=>false
 | d+1,t,xs=>match T.get t with
  | none=>false
  | some ti=>match ti.kd with
   | .int _=>match xs with
    | [.int _ _]=>true
    | _=>false
   | .bool=>match xs with
    | [.bool _]=>true
    | _=>false
   | .iface=>match xs with
    | [.ifc u (.int k _)]=>match T.get u with
     | some ui=>match ui.kd,ui.held with
      | .int k',false=>decide (k=k')
      | _,_=>false
     | none=>false
    | _=>false
   | .struct fs=>xw T (fun t xs=>pq T d t xs) fs xs
   | .array m e=>match T.get e with
    | some ei=>xx (fun xs=>pq T d e xs) ei.size m xs
    | none=>false
   | _=>false
def rn(T:dV)(kt:TypeId):Kd->D->Bool
 | .int _,.int _ _=>true
 | .str,.str _=>true
 | .bool,.bool _=>true
 | .struct _,.agg cs=>match flat T 9 kt with
  | some n=>Nat.beq cs.length n&&pq T 9 kt cs
  | none=>false
 | .array _ _,.agg cs=>match flat T 9 kt with
  | some n=>Nat.beq cs.length n&&pq T 9 kt cs
  | none=>false
 | _,_=>false
def mapOf(T:dV)(t:TypeId):Option (TypeId×(pF×pF)):=
 match T.get t with
 | some ti=>match ti.kd with
  | .map k e=>match T.get k,T.get e with
   | some ki,some ei=>some (k,(ki,ei))
   | _,_=>none
  | _=>none
 | none=>none
def Lb(e:Env)(h:aq)(x:Operand):Option (List (D×D)):=
 match aH e x with
 | some (.d (.mv b0))=>some b0
 | some (.d .nilm)=>some []
 | some (.mp id)=>match get h id with
  | some (.map b0)=>some b0
  | _=>none
 | _=>none
def oD:List (D×D)->Nat->D->List (D×D)
 | [],_,_=>[]
 | (_,v)::r,0,k=>(k,v)::r
 | p::r,n+1,k=>p::oD r n k
def oE:List (D×D)->Nat->D->List (D×D)
 | [],_,_=>[]
 | (k,_)::r,0,v=>(k,v)::r
 | p::r,n+1,v=>p::oE r n v
def wz(ti:pF):Option D:=
 match ti.zero,ti.isAgg with
 | some z,true=>some (.agg z)
 | some [x],false=>some x
 | _,_=>none
def jB(sz:Nat):Nat->List D->List (List D)
 | 0,_=>[]
 | n+1,cs=>cs.take sz::jB sz n (cs.drop sz)
def ni(c:Bool)(v:D)(ok:Bool):V:=
 match c with
 | true=>.d (.tup [v,.bool ok])
 | false=>.d v
def lookW(c:Bool)(v:V)(ok:Bool):V:=
 match c with
 | true=>.tup [v,.d (.bool ok)]
 | false=>v
def JF(h:aq):V->Option (List (D×D))
 | .mp m=>match get h m with
  | some (.map b0)=>some b0
  | _=>none
 | _=>none
inductive SQ(b0:List (D×D))(n i:Nat)(K:D×D->Prop):Prop where
 | mk (hn:b0.length=n) (kv:D×D) (h:b0[i]?=some kv) (hk:K kv)
def sy:Kd->Bool
 | .iface=>false
 | .other=>false
 | _=>true
def uH(size:Nat):Nat->Nat->List (Nat×Nat)
 | _,0=>[]
 | off,n+1=>(off,size)::uH size (off+size) n
def Nb(e:Env)(dst:Option Nat)(fn:Fn)(first aL:List Operand)(K:List Wr->Prop):Prop:=
 match fn,first,aL with
 | .func f,x::r,[]=>match cE e (x::r) with
  | some l=>match sa l with
   | some ds=>K (aO dst (.d (.mth f ds)))
   | none=>False
  | none=>False
 | _,_,_=>False
def fK(T:dV)(e:Env)(h:aq)(dst:Option Nat)(op:Op)(K:List Wr->Prop):Prop:=
 match op with
 | .move x=>match aH e x with
  | some v=>K (aO dst v)
  | none=>False
 | .assign x=>match aH e x with
  | some v=>K (aO dst v)
  | none=>False
 | .pick c a b=>match aH e c,aH e a,aH e b with
  | some (.d (.bool t)),some va,some vb=>Kx t (K (aO dst va)) (K (aO dst vb))
  | some (.d (.bool t)),some va,none=>eW t (K (aO dst va))
  | some (.d (.bool t)),none,some vb=>eW (!t) (K (aO dst vb))
  | _,_,_=>False
 | .alloc t=>match T.get t,dst with
  | some ti,some d=>match ti.zero with
   | some [.nilp,.nils]=>eW (Nat.beq 2 ti.size) (K [.new d (.tb t [.d .nilp,.d .nils]),.set d (.ptr d 0)])
   | some z=>eW (Nat.beq z.length ti.size) (K [.new d (.box (.dd z)),.set d (.ptr d 0)])
   | none=>False
  | _,_=>False
 | .box _ x=>match aH e x,dst with
  | some v,some d=>eW (v.cells.ok&&v.cells.free d) (K [.new d (.box v.cells),.set d (.ptr d 0)])
  | _,_=>False
 | .build t ps=>match partsOf e ps.toList,T.get t with
  | some l,some ti=>match ti.kd,ti.zero with
   | .struct fs,some z=>match rL T fs with
    | some sz=>match j7 sz (.dd z) l with
     | some cs=>K (aO dst cs.val)
     | none=>False
    | none=>False
   | .array n el,some z=>match T.get el with
    | some ei=>match j7 (uH ei.size 0 n) (.dd z) l with
     | some cs=>K (aO dst cs.val)
     | none=>False
    | none=>False
   | _,_=>False
  | _,_=>False
 | .buildSlice t n ps=>match partsOf e ps.toList,fH T t,dst with
  | some l,some ei,some d=>eW (Nat.beq l.length n&&mu ei&&Nat.ble (n*ei.size) 16777216)
   (match qV ei.size 0 l with
   | some es=>eW (es.ok ei.size&&es.free d) (K [.new d (.arr ei.size es),.set d (.sl d ei.size 0 n)])
   | none=>False)
  | _,_,_=>False
 | .load t x=>A9 T e h t x fun v=>K (aO dst v)
 | .store t x y=>match dst with
  | none=>Ik T e h t x y K
  | some _=>False
 | .nilCheck x=>match aH e x with
  | some v=>match v with
   | .d (.ref _)=>K (aO dst v)
   | .ptr _ _=>K (aO dst v)
   | .ep _ _ _ _=>K (aO dst v)
   | .d (.clo _ _)=>K (aO dst v)
   | .clo _ _=>K (aO dst v)
   | .d (.ifc _ _)=>K (aO dst v)
   | .ifc _ _=>K (aO dst v)
   | _=>False
  | none=>False
 | .binOp op t x y _=>match aH e x,aH e y with
  | some a,some b=>match Cv y,a with
   | true,.d .nili=>D3 T op t true fun v=>K (aO dst v)
   | true,.d (.ifc _ _)=>D3 T op t false fun v=>K (aO dst v)
   | _,a=>Ls T op t a b fun v=>K (aO dst v)
  | _,_=>False
 | .unOp op _ x=>match op,aH e x with
  | .not,some (.d (.bool b))=>K (aO dst (.d (.bool !b)))
  | .neg,some (.d (.int k n))=>arith k (0-n) fun v=>K (aO dst v)
  | _,_=>False
 | .convert s d x=>match T.get s,T.get d,aH e x with
  | some si,some di,some v=>match si.kd,di.kd,v with
   | .int _,.int k,.d (.int _ n)=>arith k n fun v=>K (aO dst v)
   | .str,.str,.d (.str s)=>K (aO dst (.d (.str s)))
   | _,_,_=>False
  | _,_,_=>False
 | .makeFunc fn first aL=>match fn,first.toList,cE e aL.toList with
  | .func f,[],some l=>match sa l with
   | some ds=>K (aO dst (.d (.clo f ds)))
   | none=>K (aO dst (.clo f l))
  | _,_,_=>Nb e dst fn first.toList aL.toList K
 | .fieldAddr t x i=>match aH e x,qY T t i with
  | some v,some (off,fi)=>eW (!Nat.beq fi.size 0) (match placeOf v with
   | some p=>K (aO dst (p.add off))
   | none=>False)
  | _,_=>False
 | .field t x i=>match aH e x,qY T t i with
  | some (.d (.agg cs)),some (off,fi)=>(Cells.dd cs).pr fi off fun v=>K (aO dst v)
  | some (.agg cs),some (off,fi)=>(Cells.vv cs).pr fi off fun v=>K (aO dst v)
  | _,_=>False
 | .indexAddr t x i=>match T.get t,aH e x,aH e i with
  | some ti,some v,some (.d (.int _ n))=>match ti.kd with
   | .slice e=>match T.get e with
    | some ei=>eW (!Nat.beq ei.size 0) (match v with
     | .d (.vs es)=>xp es n fun l=>eW (Nat.beq l.length ei.size) (K (aO dst (.d (.ref l))))
     | .sl id sz off len=>eW (decide (0<=n)&&decide (n<len)) (eW (Nat.beq sz ei.size) (K (aO dst (.ep id sz (off+n.toNat) 0))))
     | _=>False)
    | none=>False
   | .array len e=>match T.get e,placeOf v with
    | some ei,some p=>eW (!Nat.beq ei.size 0) (eW (decide (0<=n)&&decide (n<len)) (K (aO dst (p.add (n.toNat*ei.size)))))
    | _,_=>False
   | _=>False
  | _,_,_=>False
 | .index t x i=>match T.get t,aH e x,aH e i with
  | some ti,some v,some (.d (.int _ n))=>match ti.kd,v with
   | .str,.d (.str s)=>eW (decide (0<=n)) (nN s.data.toList n.toNat fun b=>K (aO dst (.d (.int .u8 b.toNat))))
   | .array len e,.d (.agg cs)=>match T.get e with
    | some ei=>eW (decide (0<=n)&&decide (n<len)) ((Cells.dd cs).pr ei (n.toNat*ei.size) fun v=>K (aO dst v))
    | none=>False
   | .array len e,.agg cs=>match T.get e with
    | some ei=>eW (decide (0<=n)&&decide (n<len)) ((Cells.vv cs).pr ei (n.toNat*ei.size) fun v=>K (aO dst v))
    | none=>False
   | _,_=>False
  | _,_,_=>False
 | .slice t x lo hi mx=>match mx with
  | some _=>False
  | none=>match T.get t,aH e x,Bk e lo,Bk e hi with
   | some ti,some v,some l,some u=>match ti.kd,v with
    | .slice el,.d (.vs es)=>qA es.length l u fun a b=>eW (Gv T el es) (K (aO dst (.d (.vs ((es.take b).drop a)))))
    | .slice el,.sl id sz off len=>qA len l u fun a b=>eW (match T.get el with|some ei=>Nat.beq sz ei.size|none=>false) (K (aO dst (.sl id sz (off+a) (b-a))))
    | .slice el,.d .nils=>qA 0 l u fun _ _=>eW (match T.get el with|some _=>true|none=>false) (K (aO dst (.d .nils)))
    | .str,.d (.str s)=>qA s.size l u fun a b=>K (aO dst (.d (.str (s.extract a b))))
    | .array n el,.ptr id 0=>match T.get el,get h id,dst with
     | some ei,some (.box (.dd cs)),some d=>qA n l u fun a b=>eW (Nat.beq a 0&&(Nat.beq cs.length (n*ei.size)&&Nat.blt 0 ei.size)) (K [.del id,.new d (.arr ei.size (.dd (jB ei.size n cs))),.set d (.sl d ei.size 0 b)])
     | _,_,_=>False
    | _,_=>False
   | _,_,_,_=>False
 | .range t x=>match T.get t,aH e x,dst with
  | some ti,some (.d (.str s)),some d=>match ti.kd with
   | .str=>K [.new d (.iter s 0),.set d (.it d)]
   | _=>False
  | some ti,some (.mp id),some d=>match ti.kd,get h id with
   | .map _ _,some (.map b0)=>eW (!Nat.beq id d) (K [.new d (.mit (.mp id) b0.length (List.range b0.length) none),.set d (.it d)])
   | _,_=>False
  | _,_,_=>False
 | .entry x=>match aH e x with
  | some (.it id)=>match get h id with
   | some (.mit v n _ (some i))=>match JF h v with
    | some b0=>SQ b0 n i fun kv=>K (aO dst (.d (.tup [kv.1,kv.2])))
    | none=>False
   | _=>False
  | _=>False
 | .makeInterface xt x=>match T.get xt,aH e x with
  | some ti,some (.d v)=>eW (sy ti.kd) (K (aO dst (.d (.ifc xt v))))
  | some ti,some v=>eW (sy ti.kd) (K (aO dst (.ifc xt [v])))
  | _,_=>False
 | .typeAssert x _ jz c=>match T.get jz,aH e x with
  | some ti,some (.d (.ifc t v))=>eW (sy ti.kd) (match Nat.beq t jz with
   | true=>K (aO dst (ni c v true))
   | false=>match c,wz ti with
    | true,some z=>K (aO dst (ni true z false))
    | _,_=>False)
  | some ti,some (.d .nili)=>eW (sy ti.kd) (match c,wz ti with
   | true,some z=>K (aO dst (ni true z false))
   | _,_=>False)
  | some ti,some (.ifc t [v])=>eW (sy ti.kd) (match Nat.beq t jz with
   | true=>K (aO dst (lookW c v true))
   | false=>match c,wz ti with
    | true,some z=>K (aO dst (ni true z false))
    | _,_=>False)
  | _,_=>False
 | .next x b=>match b,aH e x with
  | true,some (.it id)=>match get h id with
   | some (.iter s pos)=>Kx (decide (pos<s.size)) (R9 s pos fun c n=>K (.obj id (.iter s (pos+n))::aO dst (.d (.tup [.bool true,.int .i64 pos,.int .i32 c])))) (K (aO dst (.d (.tup [.bool false]))))
   | _=>False
  | _,_=>False
 | .makeMap _ r=>match r,dst with
  | none,some d=>K [.new d (.map []),.set d (.mp d)]
  | _,_=>False
 | .makeSlice t l c=>match fH T t,aH e l,aH e c,dst with
  | some ei,some (.d (.int .i64 n)),some (.d (.int .i64 m)),some d=>match ei.zero with
   | some z=>eW (mu ei&&(decide (0<=n)&&decide (n<=m))) (eW (decide (m*(ei.bytes:Int)<=140737488355328))
     (K [.new d (.arr ei.size (.dd (List.replicate n.toNat z))),.set d (.sl d ei.size 0 n.toNat)]))
   | none=>False
  | _,_,_,_=>False
 | .lookup t x i c=>match mapOf T t,Lb e h x,aH e i with
  | some (kt,(ki,ei)),some b0,some (.d k)=>eW (rn T kt ki.kd k) (kY b0 k fun r=>match r with
   | some v=>K (aO dst (ni c v.2 true))
   | none=>match wz ei with
    | some z=>K (aO dst (ni c z false))
    | none=>False)
  | _,_,_=>False
 | .mapUpdate t m i v=>match dst,mapOf T t,aH e m,aH e i,aH e v with
  | none,some (kt,(ki,_)),some (.mp id),some (.d k),some (.d v)=>match get h id with
   | some (.map b0)=>eW (rn T kt ki.kd k) (kY b0 k fun r=>match r with
    | some n=>K [.obj id (.map (b0.set n.1 (k,v)))]
    | none=>K [.obj id (.map (b0 ++ [(k,v)]))])
   | _=>False
  | _,_,_,_,_=>False
 | .insert t m i v=>match dst,mapOf T t,aH e m,aH e i,aH e v with
  | none,some (kt,(ki,_)),some (.mp id),some (.d k),some (.d v)=>match get h id with
   | some (.map b0)=>eW (rn T kt ki.kd k) (kY b0 k fun r=>match r with
    | some n=>K [.obj id (.map (b0.set n.1 (k,v)))]
    | none=>K [.obj id (.map (b0 ++ [(k,v)]))])
   | _=>False
  | _,_,_,_,_=>False
 | .mapEntry t m i=>match dst,mapOf T t,aH e m,aH e i with
  | some d,some (kt,(ki,ei)),some (.mp id),some (.d k)=>match get h id with
   | some (.map b0)=>eW (rn T kt ki.kd k) (kY b0 k fun r=>match r with
    | some n=>K [.obj id (.map (oD b0 n.1 k)),.set d (.d (.tup [n.2,.int .i64 n.1]))]
    | none=>match wz ei with
     | some z=>K [.obj id (.map (b0 ++ [(k,z)])),.set d (.d (.tup [z,.int .i64 b0.length]))]
     | none=>False)
   | _=>False
  | _,_,_,_=>False
 | .entryStore t m x v=>match dst,aH e m,aH e x,aH e v with
  | none,some (.mp id),some (.d (.int .i64 n)),some (.d v)=>match get h id with
   | some (.map b0)=>eW (decide (0<=n)&&decide (n<b0.length)) (K [.obj id (.map (oE b0 n.toNat v))])
   | _=>False
  | _,_,_,_=>False
 | .extract x i=>match aH e x with
  | some (.d (.tup l))=>nN l i fun v=>K (aO dst (.d v))
  | some (.tup l)=>nN l i fun v=>K (aO dst v)
  | _=>False
 | _=>False
def dZ(T:dV)(e:Env)(h:aq)(d:Option Nat)(b:Builtin)(args:Array Operand)(argTypes:Array TypeId)(K:List Wr->Prop):Prop:=
 match b with
 | .len=>match args.toList,argTypes.toList with
  | [x],t::_=>match T.get t,aH e x with
   | some ti,some v=>match ti.kd,v with
    | .slice _,.d (.vs es)=>K (aO d (.d (.int .i64 es.length)))
    | .slice _,.d .nils=>K (aO d (.d (.int .i64 0)))
    | .slice _,.sl _ _ _ n=>K (aO d (.d (.int .i64 n)))
    | .str,.d (.str s)=>K (aO d (.d (.int .i64 s.size)))
    | .array n _,_=>K (aO d (.d (.int .i64 n)))
    | .map _ _,.mp id=>match get h id with
     | some (.map b0)=>K (aO d (.d (.int .i64 b0.length)))
     | _=>False
    | .map _ _,.d (.mv b0)=>K (aO d (.d (.int .i64 b0.length)))
    | _,_=>False
   | _,_=>False
  | _,_=>False
 | .min=>match cE e args.toList with
  | some (.d (.int k a)::r)=>match E6 k a r with
   | some v=>K (aO d (.d v))
   | none=>False
  | _=>False
 | .max=>match cE e args.toList with
  | some (.d (.int k a)::r)=>match E5 k a r with
   | some v=>K (aO d (.d v))
   | none=>False
  | _=>False
 | .copy=>match args.toList,argTypes.toList with
  | [x,y],[t,u]=>match fH T t,fH T u,aH e x,aH e y with
   | some ei,some _,some (.sl id sz off n),some v=>match get h id with
    | some (.arr m (.dd es))=>eW (Nat.beq ei.size 1&&(Nat.beq sz 1&&Nat.beq m 1)) (yU h v fun fs=>match fs with
     | .dd fs=>eW (Nat.ble (off+n) es.length&&fE 1 fs) (K (.obj id (.arr 1 (.dd (es.take off++fs.take (min fs.length n)++es.drop (off+min fs.length n))))::aO d (.d (.int .i64 (min fs.length n:Nat)))))
     | .vv _=>False)
    | _=>False
   | _,_,_,_=>False
  | _,_=>False
 | .append=>match args.toList,argTypes.toList with
  | [x,y],[t,u]=>match RQ h (aH e x) (aH e y) with
   | true=>Lv T e h d t u x y K
   | false=>match fH T u with
    | some _=>yK T e h d t x y K
    | none=>False
  | _,_=>False
 | _=>False
def mC(ops:List Oper)(g:Env)(guard:Option (Nat×Bool))(X Y:List Wr->Prop):Prop:=
 match guard with
 | none=>X []
 | some (j,Nu)=>match ops[j]? with
  | some ⟨some d,_,_,_,_,_⟩=>match get g d with
    | some (.d (.bool b))=>match Nu with
     | true=>Kx b (X [.set d (.d (.bool true))]) (Y [.set d (.d (.bool false))])
     | false=>Kx b (Y [.set d (.d (.bool true))]) (X [.set d (.d (.bool false))])
    | some (.d (.tup []))=>Y []
    | _=>False
  | _=>False
end Go.PX
namespace Go.PX
open Go.RowKit
mutual
def bD(F:Nat->Nat)(w:World):D->Value->Prop
 | .bool b,v=>v = .bool b
 | .int k n,v=>v = .int k n
 | .str s,v=>v = .string s
 | .agg cs,v=>∃ l:Array Value,v = .agg l/\aS F w cs l.toList
 | .tup cs,v=>∃ l:Array Value,v = .tuple l/\aS F w cs l.toList
 | .vs es,v=>∃ a len cap,v = .slice a len cap/\len=es.length/\len<=cap /\
   (es ≠ [] -> ∃ b off sz,a=some ⟨b,off,none⟩/\0<sz/\cG F w b off sz es)
 | .nils,v=>v = .slice none 0 0
 | .ref cs,v=>∃ b off,v = .pointer (some ⟨b,off,none⟩)/\cc F w b off cs
 | .nilp,v=>v = .pointer none
 | .mv b0,v=>∃ r en c,v = .map (some r)/\0<F r/\w.heap[r]?=some (.map en c)/\bE F w b0 en.toList
 | .nilm,v=>v = .map none
 | .clo f aL,v=>∃ l:Array Value,v = .func (.func f) #[] l/\aS F w aL l.toList
 | .mth f first,v=>∃ l:Array Value,v = .func (.func f) l #[]/\aS F w first l.toList
 | .nilf,v=>v = .nilFunc
 | .ifc t x,v=>∃ y,v = .iface t y/\bD F w x y
 | .nili,v=>v = .nilIface
def aS(F:Nat->Nat)(w:World):List D->List Value->Prop
 | [],l=>l = []
 | c::r,l=>∃ x l',l=x::l'/\bD F w c x/\aS F w r l'
def cc(F:Nat->Nat)(w:World)(b:Nat):Nat->List D->Prop
 | _,[]=>True
 | off,c::r=>off<F b/\(∃ x,w.cell? ⟨b,off,none⟩=some x/\bD F w c x)/\cc F w b (off+1) r
def cG(F:Nat->Nat)(w:World)(b:Nat):Nat->Nat->List (List D)->Prop
 | _,_,[]=>True
 | off,sz,e::r=>e.length=sz/\cc F w b off e/\cG F w b (off+sz) sz r
def bE(F:Nat->Nat)(w:World):List (D×D)->List MapEntry->Prop
 | [],l=>l = []
 | (k,v)::r,l=>∃ x l',l=x::l'/\bD F w k x.key/\bD F w v x.val/\bE F w r l'
end
structure Tr(F:Nat->Nat)(w:World)(F':Nat->Nat)(w':World):Prop where
 os:w'.os=w.os
 tape:w'.tape=w.tape
 output:w'.output=w.output
 size:w.heap.size<=w'.heap.size
 le:∀ b,F b<=F' b
 cell:∀ b o,o<F b->w'.cell? ⟨b,o,none⟩=w.cell? ⟨b,o,none⟩
 map:∀ b e c,0<F b->w.heap[b]?=some (.map e c)->w'.heap[b]?=some (.map e c)
theorem Tr.refl(F:Nat->Nat)(w:World):Tr F w F w:=⟨rfl,rfl,rfl,Nat.le_refl _,fun _=>Nat.le_refl _,fun _ _ _=>rfl,fun _ _ _ _ h=>h⟩
theorem Tr.trans{F F' Iy:Nat->Nat}{w w' Em:World}(h:Tr F w F' w')(k:Tr F' w' Iy Em):Tr F w Iy Em:=
  ⟨k.os.trans h.os,k.tape.trans h.tape,k.output.trans h.output,Nat.le_trans h.size k.size,fun b=>Nat.le_trans (h.le b) (k.le b),
   fun b o ho=>(k.cell b o (Nat.lt_of_lt_of_le ho (h.le b))).trans (h.cell b o ho),
   fun b e c hb hm=>k.map b e c (Nat.lt_of_lt_of_le hb (h.le b)) (h.map b e c hb hm)⟩
mutual
theorem bD.mono{F F':Nat->Nat}{w w':World}(h:Tr F w F' w'):∀ (a:D) (v:Value),bD F w a v->bD F' w' a v
 | .bool _,_,hr=>hr
 | .int _ _,_,hr=>hr
 | .str _,_,hr=>hr
 | .agg cs,_,hr=>by
  obtain⟨l,rfl,hl⟩:=hr;exact⟨l,rfl,aS.mono h cs _ hl⟩
 | .tup cs,_,hr=>by
  obtain⟨l,rfl,hl⟩:=hr;exact⟨l,rfl,aS.mono h cs _ hl⟩
 | .vs es,_,hr=>by
  obtain⟨a,len,cap,rfl,hl,hc,he⟩:=hr;refine⟨a,len,cap,rfl,hl,hc,fun ef=>?_⟩;obtain⟨b,off,sz,ha,hs,nC⟩:=he ef;exact⟨b,off,sz,ha,hs,cG.mono h es b off sz nC⟩
 | .nils,_,hr=>hr
 | .ref cs,_,hr=>by
  obtain⟨b,off,rfl,hc⟩:=hr;exact⟨b,off,rfl,cc.mono h cs b off hc⟩
 | .nilp,_,hr=>hr
 | .mv b0,_,hr=>by
  obtain⟨r,en,c,rfl,hf,hm,hk⟩:=hr;exact⟨r,en,c,rfl,Nat.lt_of_lt_of_le hf (h.le r),h.map r en c hf hm,bE.mono h b0 _ hk⟩
 | .nilm,_,hr=>hr
 | .clo f aL,_,hr=>by
  obtain⟨l,rfl,hl⟩:=hr;exact⟨l,rfl,aS.mono h aL _ hl⟩
 | .mth f first,_,hr=>by
  obtain⟨l,rfl,hl⟩:=hr;exact⟨l,rfl,aS.mono h first _ hl⟩
 | .nilf,_,hr=>hr
 | .ifc t x,_,hr=>by
  obtain⟨y,rfl,hy⟩:=hr;exact⟨y,rfl,bD.mono h x y hy⟩
 | .nili,_,hr=>hr
theorem aS.mono{F F':Nat->Nat}{w w':World}(h:Tr F w F' w'):∀ (cs:List D) (l:List Value),aS F w cs l->aS F' w' cs l
 | [],_,hr=>hr
 | c::r,_,hr=>by
  obtain⟨x,l',rfl,hc,hl⟩:=hr;exact⟨x,l',rfl,bD.mono h c x hc,aS.mono h r l' hl⟩
theorem cc.mono{F F':Nat->Nat}{w w':World}(h:Tr F w F' w'):∀ (cs:List D) (b off:Nat),cc F w b off cs->cc F' w' b off cs
 | [],_,_,_=>trivial
 | c::r,b,off,hr=>by
  obtain⟨hf,⟨x,hx,hc⟩,hl⟩:=hr;exact⟨Nat.lt_of_lt_of_le hf (h.le b),⟨x,(h.cell b off hf).trans hx,bD.mono h c x hc⟩,cc.mono h r b (off+1) hl⟩
theorem cG.mono{F F':Nat->Nat}{w w':World}(h:Tr F w F' w'):∀ (es:List (List D)) (b off sz:Nat),cG F w b off sz es->cG F' w' b off sz es
 | [],_,_,_,_=>trivial
 | e::r,b,off,sz,hr=>by
  obtain⟨hn,he,hl⟩:=hr;exact⟨hn,cc.mono h e b off he,cG.mono h r b (off+sz) sz hl⟩
theorem bE.mono{F F':Nat->Nat}{w w':World}(h:Tr F w F' w'):∀ (b0:List (D×D)) (l:List MapEntry),bE F w b0 l->bE F' w' b0 l
 | [],_,hr=>hr
 | (k,v)::r,_,hr=>by
  obtain⟨x,l',rfl,hk,hv,hl⟩:=hr;exact⟨x,l',rfl,bD.mono h k _ hk,bD.mono h v _ hv,bE.mono h r l' hl⟩
end
structure Loc where
 ρ:Nat->Nat
 κ:Nat->Nat
def JM(v:Value):Prop:=v.oneCell'=true
mutual
def aT(yv:Option Nat)(L:Loc)(F:Nat->Nat)(w:World):V->Value->Prop
 | .d v,x=>bD F w v x
 | .agg cs,x=>∃ l:Array Value,x = .agg l/\aj yv L F w cs l.toList
 | .tup cs,x=>∃ l:Array Value,x = .tuple l/\aj yv L F w cs l.toList
 | .ptr id off,x=>x = .pointer (some ⟨L.ρ id,off,none⟩)
 | .ep id sz i off,x=>x = .pointer (some ⟨L.ρ id,i*sz+off,none⟩)
 | .sl id sz off len,x=>∃ a cap,x = .slice a len cap/\len<=cap/\0<sz/\((len=0/\cap=0)\/(a=some ⟨L.ρ id,off*sz,none⟩/\(off+cap)*sz<=L.κ id))
 | .mp id,x=>x = .map (some (L.ρ id))
 | .it id,x=>x = .pointer (some ⟨L.ρ id,0,none⟩)
 | .clo f cs,x=>∃ l:Array Value,x = .func (.func f) #[] l/\aj yv L F w cs l.toList
 | .ifc t cs,x=>∃ l:Array Value,x = .iface t (l.getD 0 .nilIface)/\aj yv L F w cs l.toList
 | .yld,x=>∃ l,yv=some l/\x = .func (.yield l) #[] #[]
 | .unk,x=>JM x
def aj(yv:Option Nat)(L:Loc)(F:Nat->Nat)(w:World):List V->List Value->Prop
 | [],l=>l = []
 | c::r,l=>∃ x l',l=x::l'/\aT yv L F w c x/\aj yv L F w r l'
end
def eS(F:Nat->Nat)(w:World)(b:Nat):Nat->List Value->Prop
 | _,[]=>True
 | off,x::r=>(off<F b/\w.cell? ⟨b,off,none⟩=some x)/\eS F w b (off+1) r
theorem eS.get{F:Nat->Nat}{w:World}{b:Nat}:∀ {off:Nat} {l:List Value} {i:Nat} {x:Value},eS F w b off l->l[i]?=some x->w.cell? ⟨b,off+i,none⟩=some x
 | _,[],i,x,_,h=>by cases h
 | off,y::r,0,x,⟨⟨_,h2⟩,_⟩,h=>by cases h;exact h2
 | off,y::r,i+1,x,⟨_,h3⟩,h=>by
  have:=eS.get (i:=i) h3 (by simpa using h)
  rwa [show off+1+i=off+(i+1) by omega]at this
theorem eS.mono{F F':Nat->Nat}{w w':World}{b:Nat}(h:Tr F w F' w'):∀ {off:Nat} {l:List Value},eS F w b off l->eS F' w' b off l
 | _,[],_=>trivial
 | off,x::r,⟨⟨h1,h2⟩,h3⟩=>⟨⟨Nat.lt_of_lt_of_le h1 (h.le b),(h.cell b off h1).trans h2⟩,eS.mono h h3⟩
def cK{α:Type}(n:Nat)(l:List (List α)):Prop:=∀ e∈l,e.length=n
def qF(en:Array MapEntry)(c:Nat):Prop:=c=en.size /\ ∀ (i:Nat) (e:MapEntry),en[i]?=some e->e.born=i
def bO(s:ByteArray):List Value:=s.data.toList.map fun b=>Value.int .u8 b.toNat
def bF(yv:Option Nat)(L:Loc)(F:Nat->Nat)(w:World)(id:Nat):Obj->Prop
 | .box cs=>∃ (c:Array Value) (T:TypeId),w.heap[L.ρ id]?=some (.cells c T (0,0))/\aj yv L F w cs.bo c.toList
 | .arr sz es=>0<sz/\cK sz es.bo/\((es.bo = []/\L.κ id=0) \/ ∃ (c:Array Value) (T:TypeId),w.heap[L.ρ id]?=some (.cells c T (0,0))/\c.size=L.κ id /\
   es.bo.length*sz<=c.size/\aj yv L F w es.bo.flatten (c.toList.take (es.bo.length*sz)))
 | .map b0=>∃ en c,w.heap[L.ρ id]?=some (.map en c)/\bE F w b0 en.toList/\qF en c
 | .iter s pos=>w.heap[L.ρ id]?=some (.stringIter s pos)
 | .tb t l=>∃ c:Array Value,w.heap[L.ρ id]?=some (.cells c t (0,0))/\aj yv L F w l c.toList
 | .fz l=>∃ c:List Value,eS F w (L.ρ id) 0 c/\aj yv L F w l c
 | .buf t s=>∃ c:Array Value,w.heap[L.ρ id]?=some (.cells c t (0,0))/\c.size=L.κ id/\s.size<=c.size/\c.toList.take s.size=bO s
 | .mit v n todo cur=>∃ (r:Nat) (seen:Array Nat),aT yv L F w v (.map (some r))/\w.heap[L.ρ id]?=some (.mapIter (some r) n seen n)/\(∀ i,i∈todo↔i<n/\seen.contains i=false) /\ ∀ i,cur=some i->seen.back?=some i
def aJ(L:Loc)(id:Nat):Obj->Prop
 | .arr _ _=>L.κ id≠0
 | .fz _=>False
 | _=>True
structure Cx(σ:Type) where
 C:σ->Nat->Prop
 HG:σ->World->(Nat->Nat)->Prop
 yv:Option Nat
 xZ:Option Go.Loop
 pρ:Nat->Nat
 pκ:Nat->Nat
 base:List Deferred:=[]
 eJ:∀ {s w F w' F'},HG s w F->Tr F w F' w'->(∀ b,w'.heap.size<=b->F' b=0)->(∀ b,C s b->w'.heap[b]?=w.heap[b]?/\F' b=F b)->HG s w' F'
structure bp{σ:Type}(cx:Cx σ)(L:Loc)(F:Nat->Nat)(h:aq)(s:σ)(w:World):Prop where
 hg:cx.HG s w F
 j6:∀ b,cx.C s b->b<w.heap.size
 fresh:∀ b,w.heap.size<=b->F b=0
 obj:∀ id o,get h id=some o->bF cx.yv L F w id o
 own:∀ id o,get h id=some o->aJ L id o->F (L.ρ id)=0/\¬ cx.C s (L.ρ id)
 inj:∀ i j o p,get h i=some o->get h j=some p->aJ L i o->aJ L j p->L.ρ i=L.ρ j->i=j
def pinned(i:Nat):Prop:=1000000<=i/\i<2000000
def uC(L L':Loc):Prop:=∀ i,pinned i->L'.ρ i=L.ρ i/\L'.κ i=L.κ i
def mark(r:Nat):Deferred:={ target:=.collected r,args:=#[] }
structure Good{σ:Type}(cx:Cx σ)(r:Option Nat)(m:List Nat)(L:Loc)(F:Nat->Nat)(st:St σ)(a:Act)(w:World):Prop where
 heap:bp cx L F st.heap st.s w
 env:∀ s v,get st.env s=some v -> ∃ x,a.tmps[s]?=some x/\aT cx.yv L F w v x
 wA:a.defers=m.map mark++cx.base
 pR:∀ b∈m,w.heap[b]?=some (.deferred (some []))/\¬ cx.C st.s b
 wS:m.Nodup
 lk:∀ l,r=some l -> ∃ lp,(w.heap[l]?=some (.loop lp)/\cx.xZ=some lp)/\¬ cx.C st.s l
 mT:∀ i,pinned i->L.ρ i=cx.pρ i/\L.κ i=cx.pκ i
 wm:a.tmps.size<=1000000
structure Hd(σ:Type) where
 y:List V->aq->σ->(V->aq->σ->Prop)->Prop
 p:Value->Env->aq->σ->Prop:=fun _ _ _ _=>False
def Hd.np{σ:Type}(Y:Hd σ):Hd σ:={ y:=Y.y }
structure Laid(P:Program)(w:World):Prop where
 tab : ∀ g, P.globalNamed "internal/strconv.uint64pow10" = some g -> Lib.TabIs P w "internal/strconv.uint64pow10" .u64 Lib.pow10Tab
 len : ∀ g, P.globalNamed "internal/bytealg.MaxLen" = some g -> ∃ m, w.cell? ⟨g, 0, none⟩ = some (.int .i64 m)
 syn : ∀ g, P.globalNamed "strconv.ErrSyntax" = some g -> ∃ t v, w.cell? ⟨g, 0, none⟩ = some (.iface t v)
 Z8 : ∀ g, P.globalNamed "strconv.ErrRange" = some g -> ∃ t v, w.cell? ⟨g, 0, none⟩ = some (.iface t v)
def rY{σ:Type}(P:Program)(cx:Cx σ):Prop:=∀ s w F,cx.HG s w F->Laid P w
def fr(r:Option Nat):Fence:={ Fence.wide with round:=r }
def F6{σ:Type}(P:Program)(Y:Hd σ)(cx:Cx σ):Prop:=
 ∀ l,cx.yv=some l -> ∀ (args:List V) (h:aq) (s:σ) (Q:V->aq->σ->Prop),Y.y args h s Q ->
  ∀ (L:Loc) (F:Nat->Nat) (a9:Array Value) (w:World),bp cx L F h s w->aj cx.yv L F w args a9.toList ->
   ∃ fn tmps zU body,(Instr.yield l a9).run P w = .ok (.round l fn tmps zU body) w /\
    RoundIn Fence.wide 0 P l fn tmps zU body w fun e w'=>∃ x,e = .returned x /\ ∃ v h' s' L' F',Q v h' s'/\bp cx L' F' h' s' w'/\aT cx.yv L' F' w' v x/\Tr F w F' w'/\uC L L' /\
     (∀ b,b<w.heap.size->¬ cx.C s b->¬ cx.C s' b) /\
     (∀ b,b<w.heap.size->¬ cx.C s b->(∀ id o,get h id=some o->aJ L id o->L.ρ id≠b)->w'.heap[b]?=w.heap[b]?/\F' b=F b) /\
     (∀ id o,get h' id=some o->aJ L' id o->L'.ρ id<w.heap.size -> ∃ mI o',get h mI=some o'/\aJ L mI o'/\L.ρ mI=L'.ρ id)
structure dp{σ:Type}(P:Program)(Y:Hd σ)(cx:Cx σ):Prop where
 yld:F6 P Y cx
 laid:rY P cx
inductive dX where
 | normal|exit (id:Nat)|ret
 deriving Inhabited
def dX.LK:dX->Exit
 | .normal=>.normal
 | .exit i=>.exit i
 | .ret=>.ret
def codeOk(n:Nat):Code->Bool
 | .region _ ops _=>ops.toList.all fun o=>match o.dst with
  | some d=>decide (d<n)
  | none=>true
 | .seq a b=>codeOk n a&&codeOk n b
 | .cond _ a b=>codeOk n a&&codeOk n b
 | .block _ a=>codeOk n a
 | .loop a=>codeOk n a
 | .scope a=>codeOk n a
 | .rangeFunc _ ps a b=>ps.toList.all (fun d=>decide (d<n))&&codeOk n a&&codeOk n b
 | _=>true
def pZ{σ:Type}(Y:Hd σ)(cx:Cx σ)(r:Option Nat)(F:Nat->Nat)(w:World)(n:Nat)(e:Exit)(a':Act)(w':World):Prop:=
 ∃ v en h s m' L' F',e = .panic [{ v:=v,recovered:=false }]/\Y.p v en h s/\Good cx r m' L' F' ⟨en,h,s⟩ a' w'/\Tr F w F' w'/\a'.tmps.size=n
theorem pZ.trans{σ:Type}{Y:Hd σ}{cx:Cx σ}{r:Option Nat}{F F0:Nat->Nat}{w w0:World}{n n0:Nat}{e:Exit}{a':Act}{w':World}(h:pZ Y cx r F w n e a' w')(tr:Tr F0 w0 F w)(hn:n=n0):pZ Y cx r F0 w0 n0 e a' w':=by
 obtain⟨v,en,hp,s,m',L',F',h1,h2,h3,h4,h5⟩:=h;exact⟨v,en,hp,s,m',L',F',h1,h2,h3,Tr.trans tr h4,h5.trans hn⟩
def wG{σ:Type}(P:Program)(Y:Hd σ)(c:Code)(st:St σ)(K:dX->St σ->Prop):Prop:=
 ∀ (cx:Cx σ),dp P Y cx -> ∀ (r:Option Nat) (m:List Nat) (L:Loc) (F:Nat->Nat) (a:Act) (w:World),Good cx r m L F st a w->codeOk a.tmps.size c=true ->
  c.wpIn (fr r) 0 P (fun e a' w'=>(∃ e' dm m' L' F',e=e'.LK/\K e' dm/\Good cx r m' L' F' dm a' w'/\Tr F w F' w'/\a'.tmps.size=a.tmps.size)\/pZ Y cx r F w a.tmps.size e a' w') a w
def Lp{σ:Type}(P:Program)(Y:Hd σ)(st:St σ)(d:Option Nat)(f:FuncId)(args:List V)(K:St σ->Prop):Prop:=
 (∀ (vs:Array Value) (w:World),(callFunc f vs).run P w = .ok (.enter f vs) w) /\
 ∀ (cx:Cx σ),dp P Y cx -> ∀ (r:Option Nat) (m:List Nat) (L:Loc) (F:Nat->Nat) (a:Act) (w:World) (a9:Array Value),Good cx r m L F st a w->(∀ k,d=some k->k<a.tmps.size)->aj cx.yv L F w args a9.toList ->
  CallsIn Fence.wide 0 P f a9 w fun e w'=>(∃ x,e = .returned x /\ ∃ dm L' F',K dm/\Good cx r m L' F' dm (a.put d x) w'/\Tr F w F' w') \/
   ∃ v en h s L' F',e = .panicked [{ v:=v,recovered:=false }]/\Y.p v en h s/\Good cx r m L' F' ⟨en,h,s⟩ a w'/\Tr F w F' w'
def NX{σ:Type}(P:Program)(Y:Hd σ)(st:St σ)(d:Option Nat)(args:List V)(K:St σ->Prop):Prop:=
 ∀ (cx:Cx σ),dp P Y cx -> ∀ (l:Nat),cx.yv=some l -> ∀ (r:Option Nat) (m:List Nat) (L:Loc) (F:Nat->Nat) (a:Act) (w:World) (a9:Array Value),Good cx r m L F st a w->(∀ k,d=some k->k<a.tmps.size)->aj cx.yv L F w args a9.toList ->
  ∃ fn tmps zU body,(Instr.yield l a9).run P w = .ok (.round l fn tmps zU body) w /\
   RoundIn Fence.wide 0 P l fn tmps zU body w fun e w'=>∃ x,e = .returned x /\ ∃ dm L' F',K dm/\Good cx r m L' F' dm (a.put d x) w'/\Tr F w F' w'
def bm{σ:Type}(st:St σ):Wr->St σ
 | .set s v=>⟨put st.env s v,st.heap,st.s⟩
 | .obj id o=>⟨st.env,put st.heap id o,st.s⟩
 | .new id o=>⟨ct (aE (aZ id)) st.env,(id,o)::ct (Obj.aE (aZ id)) (cut st.heap id),st.s⟩
 | .newq id o=>⟨st.env,(id,o)::st.heap,st.s⟩
 | .del id=>⟨st.env,cut st.heap id,st.s⟩
def aF{σ:Type}(st:St σ):List Wr->St σ
 | []=>st
 | w::r=>aF (bm st w) r
def cN{α:Type}(h k:sW α):Prop:=∀ s v,get h s=some v->get k s=some v
def Out(P:Program)(e:Env)(h:aq)(o:Oper)(ws:List Wr):Prop:=
 ∀ {σ:Type} (cx:Cx σ) (r:Option Nat) (m:List Nat) (L:Loc) (F:Nat->Nat) (st:St σ) (a:Act) (w:World),cN e st.env->cN h st.heap->Good cx r m L F st a w ->
  (∀ k,o.dst=some k->k<a.tmps.size) ->
  ∃ x w' nx,(execOp a.eval o).run P w = .ok nx w'/\(nx = .value x\/(nx = .skip/\x=undef)) /\ ∃ L' F',Good cx r m L' F' (aF st ws) (a.put o.dst x) w'/\Tr F w F' w'
def fx(P:Program)(e:Env)(h:aq)(d:Option Nat)(f:FuncId)(args:List V)(ws:List Wr):Prop:=
 (∀ (vs:Array Value) (w:World),(callFunc f vs).run P w = .ok (.enter f vs) w) /\
 ∀ {σ:Type} (cx:Cx σ),rY P cx -> ∀ (r:Option Nat) (m:List Nat) (L:Loc) (F:Nat->Nat) (st:St σ) (a:Act) (w:World) (a9:Array Value),cN e st.env->cN h st.heap->Good cx r m L F st a w->(∀ k,d=some k->k<a.tmps.size)->aj cx.yv L F w args a9.toList ->
  CallsIn Fence.wide 0 P f a9 w fun e w'=>∃ x,e = .returned x /\ ∃ L' F',Good cx r m L' F' (aF st ws) (a.put d x) w'/\Tr F w F' w'
structure FM{σ:Type}(P:Program)(Y:Hd σ)(f:FuncId)(args:List V)(h:aq)(s:σ)(Q:V->aq->σ->Prop):Prop where
 enter:∀ (vs:Array Value) (w:World),(callFunc f vs).run P w = .ok (.enter f vs) w
 run:∀ (cx:Cx σ),dp P Y cx -> ∀ (L:Loc) (F:Nat->Nat) (a9:Array Value) (w:World),bp cx L F h s w->aj cx.yv L F w args a9.toList ->
  CallsIn Fence.wide 0 P f a9 w fun e w'=>∃ x,e = .returned x /\ ∃ v h' s' L' F',Q v h' s'/\bp cx L' F' h' s' w'/\aT cx.yv L' F' w' v x/\Tr F w F' w'/\uC L L'
inductive dK{σ:Type}(P:Program)(Y:Hd σ)(st:St σ)(d:Option Nat)(f:FuncId)(args:List V)(K:St σ->Prop):Prop where
 | mk (h:Lp P Y st d f args K)
inductive Lq{σ:Type}(P:Program)(Y:Hd σ)(st:St σ)(d:Option Nat)(args:List V)(K:St σ->Prop):Prop where
 | mk (h:NX P Y st d args K)
inductive uy{σ φ:Type}(P:Program)(ft:φ)(Y:Hd σ)(c:Code)(st:St σ)(K:dX->St σ->Prop):Prop where
 | mk (h:wG P Y (.loop c) st K)
inductive yF{σ φ:Type}(P:Program)(ft:φ)(Y:Hd σ)(id:Nat)(ops:Array Oper)(st:St σ)(K:dX->St σ->Prop):Prop where
 | mk (h:wG P Y (.region id ops true) st K)
inductive jw{σ φ:Type}(P:Program)(ft:φ)(Y:Hd σ)(g:Operand)(ps:Array Tmp)(a b:Code)(st:St σ)(K:dX->St σ->Prop):Prop where
 | mk (h:wG P Y (.rangeFunc g ps a b) st K)
inductive dh(P:Program)(e:Env)(h:aq)(d:Option Nat)(f:FuncId)(args:List V)(K:List Wr->Prop):Prop where
 | mk (ws:List Wr) (hk:K ws) (ho:fx P e h d f args ws)
end Go.PX
namespace Go.PX
def Gj{σ:Type}(P:Program)(Y:Hd σ)(dst:Option Nat)(f:Operand)(args:List Operand)(e:Env)(h:aq)(s:σ)(go:Env->aq->σ->Prop):Prop:=
 match aH e f,cE e args with
 | some (.d (.clo g aL)),some l=>dK P Y ⟨e,h,s⟩ dst g (l++inj aL) fun|⟨e,h,s⟩=>go e h s
 | some (.clo g aL),some l=>dK P Y ⟨e,h,s⟩ dst g (l++aL) fun|⟨e,h,s⟩=>go e h s
 | some (.d (.mth g first)),some l=>dK P Y ⟨e,h,s⟩ dst g (inj first++l) fun|⟨e,h,s⟩=>go e h s
 | some .yld,some l=>Lq P Y ⟨e,h,s⟩ dst l fun|⟨e,h,s⟩=>go e h s
 | _,_=>False
def isSlice(T:dV)(t:TypeId):Bool:=
 match T.get t with
 | some ti=>match ti.kd with
  | .slice _=>true
  | _=>false
 | none=>false
def zx(T:dV)(e:Env)(op:BinOp)(t:TypeId)(x y:Operand):Option (Bool×Prop):=
 match isSlice T t,op,y,aH e x with
 | true,.eql,.const (.slice none 0 0),some (.d (.vs es))=>some (false,es ≠ [])
 | true,.neq,.const (.slice none 0 0),some (.d (.vs es))=>some (true,es ≠ [])
 | true,.eql,.const (.slice none 0 0),some (.sl _ _ _ n)=>some (false,0<n)
 | true,.neq,.const (.slice none 0 0),some (.sl _ _ _ n)=>some (true,0<n)
 | true,.eql,.const (.slice none 0 0),some (.d .nils)=>some (true,True)
 | true,.neq,.const (.slice none 0 0),some (.d .nils)=>some (false,True)
 | _,_,_,_=>none
def yr(neg b:Bool):Bool:=
 match neg with
 | true=>!b
 | false=>b
inductive NU(neg:Bool)(ne:Prop)(K:Bool->Prop):Prop where
 | mk (h:∀ b,(ne->b=false)->K (yr neg b))
inductive NT(b0:List (D×D))(n:Nat)(todo:List Nat)(K:Option (Nat×(D×D))->Prop):Prop where
 | mk (hn:b0.length=n) (h0:todo = []->K none) (h1:∀ i kv,i∈todo->b0[i]?=some kv->K (some (i,kv)))
def HA{σ:Type}(dst:Option Nat)(x:Operand)(e:Env)(h:aq)(s:σ)(go:Env->aq->σ->Prop):Prop:=
 match aH e x with
 | some (.it id)=>match get h id with
  | some (.mit v n todo cur)=>match JF h v with
   | some b0=>NT b0 n todo fun r=>match r with
    | none=>bg (aO dst (.d (.tup [.bool false]))) e h fun e h=>go e h s
    | some (i,(k,u))=>bg (.obj id (.mit v n (todo.filter fun j=>!Nat.beq j i) (some i))::aO dst (.d (.tup [.bool true,k,u]))) e h fun e h=>go e h s
   | none=>False
  | _=>False
 | _=>False
inductive yB(P:Program)(t:TypeId)(name:String)(K:FuncId->Prop):Prop where
 | mk (g:FuncId) (h:∀ v w,(method (P.types.size+Made.depth) t v name).run P w = .ok (g,v) w) (hk:K g)
def M9{σ:Type}(P:Program)(Y:Hd σ)(dst:Option Nat)(f:Operand)(name:String)(args:List Operand)(e:Env)(h:aq)(s:σ)(go:Env->aq->σ->Prop):Prop:=
 match aH e f,cE e args with
 | some (.d (.ifc t v)),some l=>yB P t name fun g=>dK P Y ⟨e,h,s⟩ dst g (.d v::l) fun|⟨e,h,s⟩=>go e h s
 | some (.ifc t [v]),some l=>yB P t name fun g=>dK P Y ⟨e,h,s⟩ dst g (v::l) fun|⟨e,h,s⟩=>go e h s
 | _,_=>False
def Ni{σ:Type}(Y:Hd σ)(x:Operand)(e:Env)(h:aq)(s:σ):Prop:=
 match aH e x with
 | some (.d (.ifc t (.int k n)))=>Y.p (.iface t (.int k n)) e h s
 | _=>False
def Eh{σ:Type}(P:Program)(T:dV)(Y:Hd σ)(dst:Option Nat)(op:Op)(e:Env)(h:aq)(s:σ)(go:Env->aq->σ->Prop):Prop:=
 match op with
 | .call ⟨callee,args,tys⟩=>match callee with
  | .builtin b=>dZ T e h dst b args tys fun ws=>bg ws e h fun e h=>go e h s
  | .value f=>Gj P Y dst f args.toList e h s go
  | .invoke f name=>M9 P Y dst f name args.toList e h s go
 | .panic x=>Ni Y x e h s
 | .next x b=>match b with
  | true=>fK T e h dst (.next x true) fun ws=>bg ws e h fun e h=>go e h s
  | false=>HA dst x e h s go
 | .binOp op t x y ty=>match zx T e op t x y with
  | some (neg,ne)=>NU neg ne fun b=>bg (aO dst (.d (.bool b))) e h fun e h=>go e h s
  | none=>fK T e h dst (.binOp op t x y ty) fun ws=>bg ws e h fun e h=>go e h s
 | op=>fK T e h dst op fun ws=>bg ws e h fun e h=>go e h s
noncomputable def wpOps{σ:Type}(P:Program)(T:dV)(Y:Hd σ)(ops:List Oper)(l:List Oper):Env->aq->σ->(Env->aq->σ->Prop)->Prop:=
 List.rec (motive:=fun _=>Env->aq->σ->(Env->aq->σ->Prop)->Prop) (fun e h s K=>K e h s)
  (fun o _ ih e h s K=>match o with
   | ⟨dst,op,_,_,_,guard⟩=>mC ops e guard
    (fun w=>bg w e h fun e h=>Eh P T Y dst op e h s fun e h s=>ih e h s K)
    (fun w=>bg w e h fun e h=>bg (aO dst (.d (.tup []))) e h fun e h=>ih e h s K)) l
theorem wpOps_cons{σ:Type}(P:Program)(T:dV)(Y:Hd σ)(ops:List Oper)(dst:Option Nat)(op:Op)(ty:TypeId)(pos:String)(after:Array Edge)(guard:Option (Nat×Bool))(l:List Oper)(e:Env)(h:aq)(s:σ)(K:Env->aq->σ->Prop) :
  wpOps P T Y ops (⟨dst,op,ty,pos,after,guard⟩::l) e h s K=mC ops e guard
    (fun w=>bg w e h fun e h=>Eh P T Y dst op e h s fun e h s=>wpOps P T Y ops l e h s K)
    (fun w=>bg w e h fun e h=>bg (aO dst (.d (.tup []))) e h fun e h=>wpOps P T Y ops l e h s K):=rfl
structure OT where
 ts:List Nat
 iX:List Nat
def tQ:List Nat->Nat->Bool
 | [],_=>false
 | k::r,n=>match Nat.beq k n with
  | true=>true
  | false=>tQ r n
def iO:List Nat->List Nat->Bool
 | [],_=>true
 | k::r,l=>match tQ l k with
  | true=>false
  | false=>iO r l
structure OO where
 os:List Nat
 mo:List Nat
 nw:List Nat
 rW:List Nat
def apart(a b:OO):Bool:=
 match iO a.mo b.os,iO a.mo b.mo,iO b.mo a.os,iO b.nw a.rW with
 | true,true,true,true=>true
 | _,_,_,_=>false
def kg(o:OO)(acc:List OO):List Nat->Bool
 | []=>true
 | i::r=>match acc[i]? with
  | some p=>match apart o p with
   | true=>kg o acc r
   | false=>false
  | none=>false
def qs(mk:List Nat):List OO->Bool
 | []=>true
 | p::r=>match iO mk p.rW,iO mk p.mo with
  | true,true=>qs mk r
  | _,_=>false
def Kf:List Nat->List Nat->Bool
 | [],_=>true
 | k::r,l=>match tQ l k with
  | true=>Kf r l
  | false=>false
def Lc:List V->List V
 | []=>[]
 | v::r=>match r with
  | []=>[v]
  | _::_=>Lc r
def wQ(d:Nat)(h:aq):V->List Nat:=
 match d with
 | 0=>fun _=>[]
 | d+1=>fun v=>match v with
  | .d _=>[]
  | .agg cs=>cs.flatMap (wQ d h)
  | .tup cs=>cs.flatMap (wQ d h)
  | .clo _ cs=>cs.flatMap (wQ d h)
  | .ifc _ cs=>cs.flatMap (wQ d h)
  | v=>match lE v with
   | none=>[]
   | some i=>i::(match get h i with
    | some (.box (.vv cs))=>cs.flatMap (wQ d h)
    | some (.arr _ (.vv es))=>es.flatMap fun e=>e.flatMap (wQ d h)
    | some (.mit v _ _ _)=>wQ d h v
    | some (.tb _ cs)=>cs.flatMap (wQ d h)
    | some (.fz cs)=>(Lc cs).flatMap (wQ d h)
    | _=>[])
def Hr(d:Nat)(e:Env)(h:aq):List Nat->List Nat
 | []=>[]
 | s::r=>match get e s with
  | some v=>wQ d h v++Hr d e h r
  | none=>Hr d e h r
def kM(e:Env):List Nat->List Nat
 | []=>[]
 | s::r=>match get e s with
  | some v=>match lE v with
   | some i=>i::kM e r
   | none=>kM e r
  | none=>kM e r
def looksAt(op:Op)(e:Env)(h:aq)(ts:List Nat):List Nat:=
 match op with
 | .load _ _=>kM e ts
 | .store _ (.tmp a) _=>kM e [a]
 | .call ⟨callee,_,_⟩=>match callee with
  | .builtin _=>kM e ts
  | _=>Hr 9 e h ts
 | .lookup _ _ _ _=>kM e ts
 | .mapUpdate _ (.tmp a) _ _=>kM e [a]
 | .insert _ (.tmp a) _ _=>kM e [a]
 | .mapEntry _ (.tmp a) _=>kM e [a]
 | .entryStore _ (.tmp a) _ _=>kM e [a]
 | _=>[]
def aQ{α:Type}(l:List Nat):sW α->sW α
 | []=>[]
 | (k,v)::r=>match tQ l k with
  | true=>(k,v)::aQ l r
  | false=>aQ l r
def pC:List Wr->List Wr
 | []=>[]
 | w::r=>(match w with
  | .new id o=>.newq id o
  | w=>w)::pC r
def cp:List Wr->List Nat
 | []=>[]
 | w::r=>match w with
  | .set _ _=>cp r
  | .obj i _=>i::cp r
  | .new i _=>i::cp r
  | .newq i _=>i::cp r
  | .del i=>i::cp r
def bw:List Wr->List Nat
 | []=>[]
 | w::r=>match w with
  | .new i _=>i::bw r
  | _=>bw r
mutual
def bC:V->List Nat
 | .d _=>[]
 | .agg cs=>bU cs
 | .tup cs=>bU cs
 | .clo _ cs=>bU cs
 | .ifc _ cs=>bU cs
 | .ptr j _=>[j]
 | .ep j _ _ _=>[j]
 | .sl j _ _ _=>[j]
 | .mp j=>[j]
 | .it j=>[j]
 | .yld=>[]
 | .unk=>[]
def bU:List V->List Nat
 | []=>[]
 | v::r=>bC v++bU r
end
def eE:Obj->List Nat
 | .box (.vv l)=>bU l
 | .arr _ (.vv l)=>bU l.flatten
 | .mit v _ _ _=>bC v
 | .tb _ l=>bU l
 | .fz l=>bU l
 | _=>[]
def bQ:List Wr->List Nat
 | []=>[]
 | w::r=>match w with
  | .set _ v=>bC v++bQ r
  | .obj _ o=>eE o++bQ r
  | .new _ o=>eE o++bQ r
  | .newq _ o=>eE o++bQ r
  | .del _=>bQ r
def dD:List Wr->Bool
 | []=>true
 | w::r=>match w with
  | .set _ v=>match iO (bw r) (bC v) with
   | true=>dD r
   | false=>false
  | .obj i o=>match iO (bw r) (i::eE o) with
   | true=>dD r
   | false=>false
  | .new i o=>match iO (bw r) (i::eE o) with
   | true=>dD r
   | false=>false
  | .newq _ _=>false
  | .del _=>dD r
def mZ(d:Option Nat):List Wr->Bool
 | []=>true
 | w::r=>match w with
  | .set s _=>match d with
   | some d=>match Nat.beq s d with
    | true=>mZ d r
    | false=>false
   | none=>false
  | _=>mZ d r
def jP(d:Option Nat)(made:List Nat)(acc:List OO)(iX:List Nat)(ws:List Wr)(o:OO):Bool:=
 match kg o acc iX,qs o.nw acc,Kf o.nw made,dD ws,mZ d ws with
 | true,true,true,true,true=>true
 | _,_,_,_,_=>false
noncomputable def Dj(P:Program)(T:dV)(made:List Nat)(ops:List Oper)(l:List (Oper×OT)):List OO->Env->aq->(Env->aq->Prop)->Prop:=
 List.rec (motive:=fun _=>List OO->Env->aq->(Env->aq->Prop)->Prop) (fun _ e h K=>K e h)
  (fun o _ ih acc e h K=>match o with
   | (⟨dst,op,_,_,after,guard⟩,⟨ts,iX⟩)=>cP (looksAt op e h ts) fun os=>eB (aQ ts e) fun e'=>gj (aQ os h) fun h'=>
    mC ops e' guard
     (fun w=>
      let go:=fun ws=>cP (cp ws) fun mo=>cP (bw ws) fun mk=>cP (bQ ws) fun rW=>
       eW (jP dst made acc iX ws ⟨os,mo,mk,rW⟩) (bg w e h fun e h=>bg (pC ws) e h fun e h=>ih (acc ++ [⟨os,mo,mk,rW⟩]) e h K)
      match op with
      | .call ⟨callee,args,tys⟩=>match callee with
       | .builtin b=>dZ T e' h' dst b args tys go
       | .value f=>match aH e' f,cE e' args.toList with
        | some (.d (.clo g aL)),some l=>dh P e' h' dst g (l++inj aL) go
        | some (.clo g aL),some l=>dh P e' h' dst g (l++aL) go
        | _,_=>False
       | .invoke f name=>match aH e' f,cE e' args.toList with
        | some (.d (.ifc t v)),some l=>yB P t name fun g=>dh P e' h' dst g (.d v::l) go
        | some (.ifc t [v]),some l=>yB P t name fun g=>dh P e' h' dst g (v::l) go
        | _,_=>False
      | op=>fK T e' h' dst op go)
     (fun w=>eW (kg ⟨os,[],[],[]⟩ acc iX) (bg w e h fun e h=>bg (aO dst (.d (.tup []))) e h fun e h=>ih (acc ++ [⟨os,[],[],[]⟩]) e h K))) l
def gu(i j:Nat)(v:V):V:=
 match v with
 | .ptr k off=>match Nat.beq k i with
  | true=>.ptr j off
  | false=>v
 | .ep k sz n off=>match Nat.beq k i with
  | true=>.ep j sz n off
  | false=>v
 | .sl k sz off n=>match Nat.beq k i with
  | true=>.sl j sz off n
  | false=>v
 | .mp k=>match Nat.beq k i with
  | true=>.mp j
  | false=>v
 | .it k=>match Nat.beq k i with
  | true=>.it j
  | false=>v
 | v=>v
def l3(i j:Nat):aq->aq
 | []=>[]
 | (k,o)::r=>match Nat.beq k i with
  | true=>(j,o.aE (gu i j))::l3 i j r
  | false=>(k,o.aE (gu i j))::l3 i j r
noncomputable def sY(l:List Nat):Env->aq->(Env->aq->Prop)->Prop:=
 List.rec (motive:=fun _=>Env->aq->(Env->aq->Prop)->Prop) (fun e h K=>K e h)
  (fun d _ ih e h K=>match get h d with
  | none=>eB (ct (aE (aZ d)) e) fun e=>gj (ct (Obj.aE (aZ d)) h) fun h=>ih e h K
  | some _=>eB (ct (aE (gu d (500000+d))) (ct (aE (aZ (500000+d))) e)) fun e=>
    gj (l3 d (500000+d) (ct (Obj.aE (aZ (500000+d))) (cut h (500000+d)))) fun h=>ih e h K) l
structure RT where
 made:List Nat
 fF:List OT
structure FT where
 ks:List Nat
 tb:List (Nat×RT)
def Gs(v:Option V)(X Y:Prop):Prop:=
 match v with
 | some (.d (.bool t))=>Kx t X Y
 | _=>False
def B9{σ:Type}(i:Nat)(K:dX->St σ->Prop)(e:dX)(st:St σ):Prop:=
 match e with
 | .exit j=>match Nat.beq j i with
  | true=>K .normal st
  | false=>K (.exit j) st
 | e=>K e st
noncomputable def Di{σ:Type}(P:Program)(T:dV)(ft:FT)(Y:Hd σ)(c:Code):St σ->(dX->St σ->Prop)->Prop:=
 Code.rec (motive:=fun _=>St σ->(dX->St σ->Prop)->Prop)
  (fun st K=>K .normal st)
  (fun id ops draw st K=>match st,draw with
   | ⟨e,h,s⟩,false=>wpOps P T Y ops.toList ops.toList e h s fun e h s=>eB (aQ ft.ks e) fun e=>K .normal ⟨e,h,s⟩
   | ⟨e,h,s⟩,true=>match get ft.tb id with
    | some ⟨made,fF⟩=>sY made e h fun e h=>Dj P T made ops.toList (ops.toList.zip fF) [] e h fun e h=>eB (aQ ft.ks e) fun e=>K .normal ⟨e,h,s⟩
    | none=>yF P ft Y id ops ⟨e,h,s⟩ K)
  (fun _ _ WS WT st K=>WS st fun e st=>match e with
   | .normal=>WT st K
   | e=>K e st)
  (fun c _ _ WS WT st K=>match st with
   | ⟨e,h,s⟩=>Gs (aH e c) (WS ⟨e,h,s⟩ K) (WT ⟨e,h,s⟩ K))
  (fun i _ ih st K=>ih st (B9 i K))
  (fun c _ st K=>uy P ft Y c st K)
  (fun g ps a b _ _ st K=>jw P ft Y g ps a b st K)
  (fun i st K=>K (.exit i) st)
  (fun _ ih st K=>ih st K)
  (fun _ st K=>K .normal st)
  (fun _ _ _=>False)
  (fun st K=>K .ret st)
  (fun _ _ _=>False) c
def ia:Nat->List V->Env
 | _,[]=>[]
 | i,v::r=>(i,v)::ia (i+1) r
noncomputable def H0(T:dV)(g:Env)(h:aq)(l:List ResultVar):(List V->Prop)->Prop:=
 List.rec (motive:=fun _=>(List V->Prop)->Prop) (fun K=>K [])
  (fun r _ ih K=>match r with
  | .tmp t=>match get g t with
   | some v=>ih fun l=>K (v::l)
   | none=>False
  | .cell a t=>A9 T g h t (.tmp a) fun v=>ih fun l=>K (v::l)) l
def D8(l:List Value):Value:=
 match l with
 | [x]=>x
 | l=>.tuple l.toArray
inductive pj{σ:Type}(l:List V)(h:aq)(s:σ)(Q:V->aq->σ->Prop):Prop where
 | mk (hr:∀ (cx:Cx σ) (L:Loc) (F:Nat->Nat) (a9:List Value) (w:World),bp cx L F h s w->aj cx.yv L F w l a9 ->
   ∃ v h' L' F',Q v h' s/\bp cx L' F' h' s w/\aT cx.yv L' F' w v (D8 a9)/\Tr F w F' w/\uC L L')
def Sk{σ:Type}(T:dV)(rs:List ResultVar)(Q:V->aq->σ->Prop)(e:dX)(st:St σ):Prop:=
 match e with
 | .exit _=>False
 | _=>match st with
  | ⟨e,h,s⟩=>H0 T e h rs fun l=>pj l h s Q
end Go.PX
