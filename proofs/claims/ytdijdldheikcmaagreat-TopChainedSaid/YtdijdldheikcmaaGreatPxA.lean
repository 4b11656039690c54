import Derived.Calls
import Derived.RangeFuncLeaves
import Derived.Below
import Derived.Laws.Rows
import Derived.Lib.LaidTab
import Derived.Lib.ItoaNum
set_option linter.all false
namespace Go.PX
inductive D where
 | bool (b:Bool)
 | int (k:IntKind) (n:Int)
 | str (s:ByteArray)
 | agg (cs:List D)
 | tup (cs:List D)
 | vs (es:List (List D))
 | nils
 | ref (cs:List D)
 | nilp
 | mv (bT:List (D×D))
 | nilm
 | clo (f:FuncId) (aM:List D)
 | mth (f:FuncId) (first:List D)
 | nilf
 | ifc (t:TypeId) (v:D)
 | nili
 deriving Inhabited
inductive V where
 | d (v:D)
 | agg (cs:List V)
 | tup (cs:List V)
 | ptr (id off:Nat)
 | ep (id sz i off:Nat)
 | sl (id sz off len:Nat)
 | mp (id:Nat)
 | it (id:Nat)
 | clo (f:FuncId) (aM:List V)
 | yld
 | unk
 deriving Inhabited
inductive Cells where
 | dd (l:List D)
 | vv (l:List V)
 deriving Inhabited
inductive aI where
 | dd (l:List (List D))
 | vv (l:List (List V))
 deriving Inhabited
inductive Obj where
 | box (cs:Cells)
 | arr (sz:Nat) (es:aI)
 | map (bT:List (D×D))
 | iter (s:ByteArray) (pos:Nat)
 | buf (t:TypeId) (s:ByteArray)
 | tb (t:TypeId) (l:List V)
 | mit (v:V) (n:Nat) (todo:List Nat) (cur:Option Nat)
 deriving Inhabited
abbrev sV(α:Type):=List (Nat×α)
def get{α:Type}:sV α->Nat->Option α
 | [],_=>none
 | (k,v)::r,s=>match Nat.beq k s with
  | true=>some v
  | false=>get r s
def put{α:Type}:sV α->Nat->α->sV α
 | [],s,v=>[(s,v)]
 | (k,u)::r,s,v=>match Nat.beq k s with
  | true=>(k,v)::r
  | false=>(k,u)::put r s v
def cut{α:Type}:sV α->Nat->sV α
 | [],_=>[]
 | (k,u)::r,s=>match Nat.beq k s with
  | true=>cut r s
  | false=>(k,u)::cut r s
def cj{α β:Type}(f:α->β):sV α->sV β
 | []=>[]
 | (k,u)::r=>(k,f u)::cj f r
abbrev Env:=sV V
abbrev ar:=sV Obj
structure St(σ:Type) where
 env:Env
 heap:ar
 s:σ
def XA:V->Bool
 | .d _=>true
 | _=>false
def qJ:List V->Option (List D)
 | []=>some []
 | .d v::r=>match qJ r with
  | some l=>some (v::l)
  | none=>none
 | _=>none
def qd(cs:List V):V:=
 match qJ cs with
 | some ds=>.d (.agg ds)
 | none=>.agg cs
def rL(cs:List V):V:=
 match qJ cs with
 | some ds=>.d (.tup ds)
 | none=>.tup cs
def inj:List D->List V
 | []=>[]
 | v::r=>.d v::inj r
def V.cells:V->Cells
 | .d (.agg cs)=>.dd cs
 | .agg cs=>.vv cs
 | .d v=>.dd [v]
 | v=>.vv [v]
def Cells.len:Cells->Nat
 | .dd l=>l.length
 | .vv l=>l.length
def Cells.a5:Cells->List V
 | .dd l=>inj l
 | .vv l=>l
def Cells.sub(c:Cells)(off n:Nat):V:=
 match c with
 | .dd l=>.d (.agg ((l.drop off).take n))
 | .vv l=>qd ((l.drop off).take n)
def Cells.fR(c:Cells)(off:Nat)(x:Cells):Cells:=
 match c,x with
 | .dd l,.dd m=>.dd (l.take off++m++l.drop (off+m.length))
 | .dd l,.vv m=>.vv (inj (l.take off)++m++inj (l.drop (off+m.length)))
 | .vv l,.dd m=>.vv (l.take off++inj m++l.drop (off+m.length))
 | .vv l,.vv m=>.vv (l.take off++m++l.drop (off+m.length))
def kB:V->Option Nat
 | .ptr i _=>some i
 | .ep i _ _ _=>some i
 | .sl i _ _ _=>some i
 | .mp i=>some i
 | .it i=>some i
 | _=>none
mutual
def aB(f:V->V):V->V
 | .d v=>.d v
 | .agg cs=>.agg (cr f cs)
 | .tup cs=>.tup (cr f cs)
 | .clo g cs=>.clo g (cr f cs)
 | .yld=>.yld
 | .unk=>.unk
 | .ptr i o=>f (.ptr i o)
 | .ep i n j o=>f (.ep i n j o)
 | .sl i n o l=>f (.sl i n o l)
 | .mp i=>f (.mp i)
 | .it i=>f (.it i)
def cr(f:V->V):List V->List V
 | []=>[]
 | v::r=>aB f v::cr f r
end
def cG(f:V->V):List (List V)->List (List V)
 | []=>[]
 | v::r=>cr f v::cG f r
def Obj.aB(f:V->V):Obj->Obj
 | .box (.dd l)=>.box (.dd l)
 | .box (.vv l)=>.box (.vv (cr f l))
 | .arr sz (.dd l)=>.arr sz (.dd l)
 | .arr sz (.vv l)=>.arr sz (.vv (cG f l))
 | .map bT=>.map bT
 | .iter s n=>.iter s n
 | .buf t s=>.buf t s
 | .tb t l=>.tb t (cr f l)
 | .mit v n l u=>.mit (PX.aB f v) n l u
mutual
def tZ(i:Nat):V->Bool
 | .d _=>false
 | .agg cs=>mV i cs
 | .tup cs=>mV i cs
 | .clo _ cs=>mV i cs
 | .ptr j _=>Nat.beq j i
 | .ep j _ _ _=>Nat.beq j i
 | .sl j _ _ _=>Nat.beq j i
 | .mp j=>Nat.beq j i
 | .it j=>Nat.beq j i
 | .yld=>false
 | .unk=>false
def mV(i:Nat):List V->Bool
 | []=>false
 | v::r=>tZ i v||mV i r
end
def Cells.free(i:Nat):Cells->Bool
 | .dd _=>true
 | .vv l=>!mV i l
def aI.free(i:Nat):aI->Bool
 | .dd _=>true
 | .vv l=>!mV i l.flatten
def aU(id:Nat)(v:V):V:=
 match kB v with
 | some i=>match Nat.beq i id with
  | true=>.unk
  | false=>v
 | none=>v
inductive Kd where
 | bool|int (k:IntKind)|str
 | slice (e:TypeId)
 | struct (fs:List (Nat×TypeId))
 | array (n:Nat) (e:TypeId)
 | map (k e:TypeId)
 | iface
 | other
 deriving Inhabited
structure nQ where
 size:Nat
 bytes:Nat
 kd:Kd
 isAgg:Bool
 held:Bool
 zero:Option (List D)
 deriving Inhabited
inductive dJ where
 | lf
 | nd (l:dJ) (k:Nat) (v:nQ) (r:dJ)
def dJ.get:dJ->Nat->Option nQ
 | .lf,_=>none
 | .nd l k v r,s=>match Nat.beq s k with
  | true=>some v
  | false=>match Nat.blt s k with
   | true=>l.get s
   | false=>r.get s
def jK:Value->Option D
 | .bool b=>some (.bool b)
 | .int k n=>some (.int k n)
 | .string s=>some (.str s)
 | .slice none 0 0=>some .nils
 | .map none=>some .nilm
 | .nilFunc=>some .nilf
 | .pointer none=>some .nilp
 | .nilIface=>some .nili
 | _=>none
def gp:List Value->Option (List D)
 | []=>some []
 | v::r=>match jK v,gp r with
  | some a,some l=>some (a::l)
  | _,_=>none
def ofConst:Value->Option D
 | .agg cs=>match gp cs.toList with
  | some l=>some (.agg l)
  | none=>none
 | .tuple cs=>match cs.toList with
  | []=>some (.tup [])
  | _=>none
 | v=>jK v
def aD(g:Env):Operand->Option V
 | .tmp t=>get g t
 | .const v=>match ofConst v with
  | some v=>some (.d v)
  | none=>none
 | .func f=>some (.d (.clo f []))
 | .global _=>none
def cI(g:Env):List Operand->Option (List V)
 | []=>some []
 | x::r=>match aD g x,cI g r with
  | some a,some l=>some (a::l)
  | _,_=>none
inductive Wr where
 | set (s:Nat) (v:V)
 | obj (id:Nat) (o:Obj)
 | new (id:Nat) (o:Obj)
 | newq (id:Nat) (o:Obj)
 | del (id:Nat)
 deriving Inhabited
def xk(v:V)(K:V->Prop):Prop:=
 match v with
 | .d x=>K (.d x)
 | .agg cs=>K (.agg cs)
 | .tup cs=>K (.tup cs)
 | .ptr i o=>K (.ptr i o)
 | .ep i n j o=>K (.ep i n j o)
 | .sl i n o l=>K (.sl i n o l)
 | .mp i=>K (.mp i)
 | .it i=>K (.it i)
 | .clo f cs=>K (.clo f cs)
 | .yld=>K .yld
 | .unk=>K .unk
noncomputable def BK(l:List D):(List D->Prop)->Prop:=
 List.rec (motive:=fun _=>(List D->Prop)->Prop) (fun K=>K []) (fun v _ ih K=>ih fun r=>K (v::r)) l
noncomputable def xj(l:List V):(List V->Prop)->Prop:=
 List.rec (motive:=fun _=>(List V->Prop)->Prop) (fun K=>K []) (fun v _ ih K=>ih fun r=>K (v::r)) l
theorem tp:∀ (l:List D) (K:List D->Prop),BK l K=K l
 | [],_=>rfl
 | v::r,K=>tp r fun r=>K (v::r)
theorem oH:∀ (l:List V) (K:List V->Prop),xj l K=K l
 | [],_=>rfl
 | v::r,K=>oH r fun r=>K (v::r)
noncomputable def Ar(v:Obj)(K:Obj->Prop):Prop:=
 match v with
 | .box (.dd l)=>BK l fun l=>K (.box (.dd l))
 | .box (.vv l)=>xj l fun l=>K (.box (.vv l))
 | .arr n (.dd l)=>K (.arr n (.dd l))
 | .arr n (.vv l)=>K (.arr n (.vv l))
 | .map bT=>K (.map bT)
 | .iter x n=>K (.iter x n)
 | .buf t s=>K (.buf t s)
 | .tb t l=>xj l fun l=>K (.tb t l)
 | .mit v n l u=>xk v fun v=>K (.mit v n l u)
noncomputable def dX(l:Env):(Env->Prop)->Prop:=
 List.rec (motive:=fun _=>(Env->Prop)->Prop) (fun K=>K [])
  (fun kv _ ih K=>match kv with
   | (k,v)=>xk v fun v=>ih fun r=>K ((k,v)::r)) l
noncomputable def fw(l:ar):(ar->Prop)->Prop:=
 List.rec (motive:=fun _=>(ar->Prop)->Prop) (fun K=>K [])
  (fun kv _ ih K=>match kv with
   | (k,v)=>Ar v fun v=>ih fun r=>K ((k,v)::r)) l
noncomputable def cY(l:List Nat):(List Nat->Prop)->Prop:=
 List.rec (motive:=fun _=>(List Nat->Prop)->Prop) (fun K=>K []) (fun n _ ih K=>ih fun r=>K (n::r)) l
noncomputable def a7(l:List Wr):Env->ar->(Env->ar->Prop)->Prop:=
 List.rec (motive:=fun _=>Env->ar->(Env->ar->Prop)->Prop) (fun e h K=>K e h)
  (fun w _ ih e h K=>match w with
  | .set s v=>dX (put e s v) fun e'=>ih e' h K
  | .obj id o=>fw (put h id o) fun h'=>ih e h' K
  | .new id o=>dX (cj (aB (aU id)) e) fun e'=>fw ((id,o)::cj (Obj.aB (aU id)) (cut h id)) fun h'=>ih e' h' K
  | .newq id o=>fw ((id,o)::h) fun h'=>ih e h' K
  | .del id=>fw (cut h id) fun h'=>ih e h' K) l
def eG(b:Bool)(K:Prop):Prop:=
 match b with
 | true=>K
 | false=>False
def Iu(b:Bool)(X Y:Prop):Prop:=
 match b with
 | true=>X
 | false=>Y
inductive arith(k:IntKind)(n:Int)(K:V->Prop):Prop where
 | mk (h:K (.d (.int k (k.wrap n))))
def vz(es:List (List D))(i:Int)(K:List D->Prop):Prop:=
 match decide (0<=i),es[i.toNat]? with
 | true,some l=>K l
 | _,_=>False
def mM{α:Type}(cs:List α)(n:Nat)(K:α->Prop):Prop:=
 match cs[n]? with
 | some v=>K v
 | none=>False
def Cells.Ll(c:Cells)(n:Nat)(K:V->Prop):Prop:=
 match c with
 | .dd l=>mM l n fun v=>K (.d v)
 | .vv l=>mM l n K
def aI.Ll(c:aI)(n:Nat)(K:Cells->Prop):Prop:=
 match c with
 | .dd l=>mM l n fun v=>K (.dd v)
 | .vv l=>mM l n fun v=>K (.vv v)
def cw:List (List D)->List (List V)
 | []=>[]
 | v::r=>inj v::cw r
def aI.len:aI->Nat
 | .dd l=>l.length
 | .vv l=>l.length
def aI.a5:aI->List (List V)
 | .dd l=>cw l
 | .vv l=>l
def aI.set(c:aI)(n:Nat)(x:Cells):aI:=
 match c,x with
 | .dd l,.dd m=>.dd (l.set n m)
 | .dd l,.vv m=>.vv ((cw l).set n m)
 | .vv l,x=>.vv (l.set n x.a5)
def aI.part(c:aI)(off n:Nat):aI:=
 match c with
 | .dd l=>.dd ((l.drop off).take n)
 | .vv l=>.vv ((l.drop off).take n)
def aI.app(c x:aI):aI:=
 match c,x with
 | .dd l,.dd m=>.dd (l++m)
 | .dd l,.vv m=>.vv (cw l++m)
 | .vv l,x=>.vv (l++x.a5)
def rh(n:Nat)(lo hi:Option V)(K:Nat->Nat->Prop):Prop:=
 match hi with
 | none=>match lo with
  | none=>K 0 n
  | some (.d (.int _ l))=>eG (decide (0<=l)&&decide (l<=n)) (K l.toNat n)
  | _=>False
 | some (.d (.int _ h))=>eG (decide (0<=h)&&decide (h<=n))
   (match lo with
   | none=>K 0 h.toNat
   | some (.d (.int _ l))=>eG (decide (0<=l)&&decide (l<=h)) (K l.toNat h.toNat)
   | _=>False)
 | _=>False
def zp(g:Env):Option Operand->Option (Option V)
 | none=>some none
 | some x=>match aD g x with
  | some v=>some (some v)
  | none=>none
inductive Place where
 | imm (cs:List D)
 | box (id off:Nat)
 | el (id sz i off:Nat)
def placeOf(v:V):Option Place:=
 match v with
 | .d (.ref cs)=>some (.imm cs)
 | .ptr id off=>some (.box id off)
 | .ep id sz i off=>some (.el id sz i off)
 | _=>none
def Place.add(n:Nat):Place->V
 | .imm cs=>.d (.ref (cs.drop n))
 | .box id off=>.ptr id (off+n)
 | .el id sz i off=>.ep id sz i (off+n)
def aS(d:Option Nat)(v:V):List Wr:=
 match d with
 | none=>[]
 | some d=>[.set d v]
def D.scalar:D->Bool
 | .agg _ | .tup _=>false
 | _=>true
def V.scalar:V->Bool
 | .d v=>v.scalar
 | .agg _ | .tup _=>false
 | _=>true
def bU:List V->Bool
 | []=>true
 | x::r=>x.scalar&&bU r
def fJ:List D->Bool
 | []=>true
 | x::r=>x.scalar&&fJ r
def Ek(T:dJ)(eq:TypeId->List D->List D->Option Bool):List (Nat×TypeId)->List D->List D->Option Bool
 | [],_,_=>some true
 | (off,t)::r,xs,ys=>
  match T.get t with
  | none=>none
  | some ti=>match Nat.beq ti.size 0,Nat.ble (off+ti.size) xs.length,Nat.ble (off+ti.size) ys.length with
   | false,true,true=>match eq t ((xs.drop off).take ti.size) ((ys.drop off).take ti.size),Ek T eq r xs ys with
    | some a,some b=>some (a&&b)
    | _,_=>none
   | _,_,_=>none
def CI(eq:List D->List D->Option Bool)(c:Nat):Nat->List D->List D->Option Bool
 | 0,_,_=>some true
 | n+1,xs,ys=>match Nat.ble c xs.length,Nat.ble c ys.length with
  | true,true=>match eq (xs.take c) (ys.take c),CI eq c n (xs.drop c) (ys.drop c) with
   | some a,some b=>some (a&&b)
   | _,_=>none
  | _,_=>none
def GJ(T:dJ):Nat->TypeId->List D->List D->Option Bool
 | 0,_,_,_=>none
 | d+1,t,xs,ys=>
  match T.get t with
  | none=>none
  | some ti=>match ti.kd with
   | .bool=>match xs,ys with
    | [.bool a],[.bool b]=>some (a ==b)
    | _,_=>none
   | .int _=>match xs,ys with
    | [.int k a],[.int k' b]=>match decide (k=k') with
     | true=>some (decide (a=b))
     | false=>none
    | _,_=>none
   | .str=>match xs,ys with
    | [.str a],[.str b]=>some (decide (a=b))
    | _,_=>none
   | .struct fs=>match ti.held with
    | true=>none
    | false=>Ek T (fun t xs ys=>GJ T d t xs ys) fs xs ys
   | .array n e=>match T.get e with
    | some ei=>match Nat.beq ei.size 0,Nat.beq n 0 with
     | false,false=>CI (fun xs ys=>GJ T d e xs ys) ei.size n xs ys
     | _,_=>none
    | none=>none
   | _=>none
def im(op:BinOp)(k:IntKind)(a b:Int):Int:=
 match op with
 | .and=>k.wrap (BitVec.ofInt k.bits a &&& BitVec.ofInt k.bits b).toNat
 | .or=>k.wrap (BitVec.ofInt k.bits a ||| BitVec.ofInt k.bits b).toNat
 | .xor=>k.wrap (BitVec.ofInt k.bits a ^^^ BitVec.ofInt k.bits b).toNat
 | _=>k.wrap (BitVec.ofInt k.bits a &&& ~~~(BitVec.ofInt k.bits b)).toNat
def OH(op:BinOp)(k:IntKind)(a b:Int)(K:V->Prop):Prop:=
 match op with
 | .add=>arith k (a+b) K
 | .sub=>arith k (a-b) K
 | .mul=>arith k (a*b) K
 | .quo=>eG (decide (b≠0)) (arith k (a.tdiv b) K)
 | .rem=>eG (decide (b≠0)) (K (.d (.int k (a.tmod b))))
 | .eql=>K (.d (.bool (decide (a=b))))
 | .neq=>K (.d (.bool (!decide (a=b))))
 | .lss=>K (.d (.bool (decide (a<b))))
 | .leq=>K (.d (.bool (decide (a<=b))))
 | .gtr=>K (.d (.bool (decide (b<a))))
 | .geq=>K (.d (.bool (decide (b<=a))))
 | .and=>K (.d (.int k (im .and k a b)))
 | .or=>K (.d (.int k (im .or k a b)))
 | .xor=>K (.d (.int k (im .xor k a b)))
 | .andNot=>K (.d (.int k (im .andNot k a b)))
 | _=>False
def By(x:Option Bool)(K:V->Prop):Prop:=
 match x with
 | some b=>K (.d (.bool b))
 | none=>False
def KS:Option Bool->Option Bool
 | some b=>some (!b)
 | none=>none
def pY(T:dJ)(t:TypeId):Bool:=
 match T.get t with
 | some ti=>match ti.kd with
  | .struct _=>true
  | .array _ _=>true
  | _=>false
 | none=>false
def isBool(T:dJ)(t:TypeId):Bool:=
 match T.get t with
 | some ti=>match ti.kd with
  | .bool=>true
  | _=>false
 | none=>false
def isIface(T:dJ)(t:TypeId):Bool:=
 match T.get t with
 | some ti=>match ti.kd with
  | .iface=>true
  | _=>false
 | none=>false
def AI:Operand->Bool
 | .const .nilIface=>true
 | _=>false
def B6(T:dJ)(op:BinOp)(t:TypeId)(b:Bool)(K:V->Prop):Prop:=
 match isIface T t,op with
 | true,.eql=>K (.d (.bool b))
 | true,.neq=>K (.d (.bool (!b)))
 | _,_=>False
def Jn(T:dJ)(op:BinOp)(t:TypeId)(x y:V)(K:V->Prop):Prop:=
 match x,y with
 | .d (.int k a),.d (.int k' b)=>match op with
  | .shl=>eG (decide (0<=b)) (arith k (a*2^(min b.toNat k.bits)) K)
  | .shr=>eG (decide (0<=b)) (K (.d (.int k (a.fdiv (2^(min b.toNat k.bits))))))
  | _=>match decide (k=k') with
   | true=>OH op k a b K
   | false=>False
 | .d (.bool a),.d (.bool b)=>match isBool T t,op with
  | true,.eql=>K (.d (.bool (a ==b)))
  | true,.neq=>K (.d (.bool (!(a ==b))))
  | _,_=>False
 | .d (.str a),.d (.str b)=>match op with
  | .eql=>K (.d (.bool (decide (a=b))))
  | .neq=>K (.d (.bool (!decide (a=b))))
  | .add=>eG (decide (a.size+b.size<=9223372036854775807)) (K (.d (.str (a++b))))
  | _=>False
 | .d (.agg a),.d (.agg b)=>match pY T t,op with
  | true,.eql=>By (GJ T 9 t a b) K
  | true,.neq=>By (KS (GJ T 9 t a b)) K
  | _,_=>False
 | _,_=>False
def jh(fs:List (Nat×Nat))(cs:Cells):List (Nat×V)->Option Cells
 | []=>some cs
 | (i,v)::r=>match fs[i]? with
  | some (off,n)=>match Nat.beq v.cells.len n,Nat.ble (off+n) cs.len with
   | true,true=>jh fs (cs.fR off v.cells) r
   | _,_=>none
  | none=>none
def Cells.val:Cells->V
 | .dd l=>.d (.agg l)
 | .vv l=>qd l
def partsOf(g:Env):List (Nat×Operand)->Option (List (Nat×V))
 | []=>some []
 | (i,x)::r=>match aD g x,partsOf g r with
  | some a,some l=>some ((i,a)::l)
  | _,_=>none
def qq(T:dJ):List (Nat×TypeId)->Option (List (Nat×Nat))
 | []=>some []
 | (off,t)::r=>match T.get t,qq T r with
  | some i,some l=>some ((off,i.size)::l)
  | _,_=>none
def aI.cons(x:Cells)(c:aI):aI:=
 match x,c with
 | .dd l,.dd m=>.dd (l::m)
 | .dd l,.vv m=>.vv (inj l::m)
 | .vv l,c=>.vv (l::c.a5)
def pH(n:Nat):Nat->List (Nat×V)->Option aI
 | _,[]=>some (.dd [])
 | i,(j,v)::r=>match Nat.beq j i,Nat.beq v.cells.len n,pH n (i+1) r with
  | true,true,some l=>some (l.cons v.cells)
  | _,_,_=>none
def C8:IntKind->Int->List V->Option D
 | k,a,[]=>some (.int k a)
 | k,a,.d (.int _ b)::r=>C8 k (min a b) r
 | _,_,_=>none
def C7:IntKind->Int->List V->Option D
 | k,a,[]=>some (.int k a)
 | k,a,.d (.int _ b)::r=>C7 k (max a b) r
 | _,_,_=>none
def oD(h:ar):V->Option aI
 | .d (.vs es)=>some (.dd es)
 | .d .nils=>some (.dd [])
 | .sl id sz off n=>match get h id with
  | some (.arr m es)=>match Nat.beq m sz,Nat.ble (off+n) es.len with
   | true,true=>some (es.part off n)
   | _,_=>none
  | _=>none
 | _=>none
inductive m5(es:aI)(off n:Nat)(K:aI->Prop):Prop where
 | mk (h:Nat.ble (off+n) es.len=true) (k:K (es.part off n))
def xa(h:ar)(v:V)(K:aI->Prop):Prop:=
 match v with
 | .d (.vs es)=>K (.dd es)
 | .d .nils=>K (.dd [])
 | .sl id sz off n=>match get h id with
  | some (.arr m es)=>match Nat.beq m sz with
   | true=>m5 es off n K
   | false=>False
  | _=>False
 | _=>False
theorem yy{h:ar}{v:V}{K:aI->Prop}(hk:xa h v K):∃ fs,oD h v=some fs/\K fs:=by
 unfold xa at hk;split at hk
 ·exact⟨_,rfl,hk⟩
 ·exact⟨_,rfl,hk⟩
 ·rename_i id sz off n
  split at hk
  ·rename_i m es hg
   split at hk
   ·rename_i hm
    obtain⟨h1,h2⟩:=hk;exact⟨_,by simp[oD,hg,hm,h1],h2⟩
   ·exact hk.elim
  ·exact hk.elim
 ·exact hk.elim
theorem AZ(es:aI):es.part 0 es.len=es:=by
 cases es<;>simp[aI.part,aI.len]
theorem aL{es:aI}{n:Nat}{K:aI->Prop}(h:n=es.len)(k:K es):m5 es 0 n K:=by
 subst h;exact⟨Nat.ble_eq_true_of_le (by omega),by rw[AZ];exact k⟩
def ig(n:Nat):List (List D)->Bool
 | []=>true
 | l::r=>match Nat.beq l.length n,fJ l with
  | true,true=>ig n r
  | _,_=>false
def nA(n:Nat):List (List V)->Bool
 | []=>true
 | l::r=>match Nat.beq l.length n,bU l with
  | true,true=>nA n r
  | _,_=>false
def aI.ok(n:Nat):aI->Bool
 | .dd l=>ig n l
 | .vv l=>nA n l
def Cells.ok:Cells->Bool
 | .dd l=>fJ l
 | .vv l=>bU l
def Bq(t:nQ):Bool:=
 match t.zero with
 | some z=>Nat.beq z.length t.size
 | none=>false
def Cells.oI(ti:nQ)(c:Cells)(off:Nat)(K:V->Prop):Prop:=
 match ti.isAgg with
 | true=>eG (Nat.ble (off+ti.size) c.len) (K (c.sub off ti.size))
 | false=>c.Ll off K
def zg(T:dJ)(g:Env)(h:ar)(t:TypeId)(x:Operand)(K:V->Prop):Prop:=
 match aD g x with
 | none=>False
 | some v=>match placeOf v,T.get t with
  | some (.imm cs),some ti=>(Cells.dd cs).oI ti 0 K
  | some (.box id off),some ti=>match get h id with
   | some (.box cs)=>cs.oI ti off K
   | some (.tb _ l)=>(Cells.vv l).oI ti off K
   | _=>False
  | some (.el id sz i off),some ti=>match get h id with
   | some (.arr n es)=>eG (Nat.beq n sz) (es.Ll i fun cs=>cs.oI ti off K)
   | _=>False
  | _,_=>False
def FU(T:dJ)(g:Env)(h:ar)(t:TypeId)(x y:Operand)(K:List Wr->Prop):Prop:=
 match aD g x,aD g y,T.get t with
 | some a,some v,some ti=>
  eG (Nat.beq v.cells.len ti.size&&v.cells.ok)
   (match placeOf a with
   | some (.box id off)=>match get h id with
    | some (.box cs)=>eG (Nat.ble (off+ti.size) cs.len) (K [.obj id (.box (cs.fR off v.cells))])
    | some (.tb t l)=>eG (Nat.ble (off+ti.size) l.length) (K [.obj id (.tb t ((Cells.vv l).fR off v.cells).a5)])
    | _=>False
   | some (.el id sz i off)=>match get h id with
    | some (.arr n es)=>eG (Nat.beq n sz) (es.Ll i fun e=>eG (Nat.ble (off+ti.size) e.len) (K [.obj id (.arr n (es.set i (e.fR off v.cells)))]))
    | _=>False
   | _=>False)
 | _,_,_=>False
def sJ(h:ar)(v:V)(sz:Nat)(K:aI->List Wr->Prop):Prop:=
 match v with
 | .d .nils=>K (.dd []) []
 | .sl id n off len=>match get h id with
  | some (.arr m es)=>eG (Nat.beq n sz&&Nat.beq m sz&&Nat.ble len es.len&&Nat.beq off 0) (K (es.part 0 len) [.del id])
  | _=>False
 | _=>False
def qv(h:ar)(v:V)(sz:Nat)(K:aI->List Wr->Prop):Prop:=
 match v with
 | .d .nils=>K (.dd []) []
 | .sl id n off len=>match get h id with
  | some (.arr m es)=>eG (Nat.beq n sz&&Nat.beq m sz&&Nat.beq off 0) (m5 es 0 len fun es=>K es [.del id])
  | _=>False
 | _=>False
theorem Bb{h:ar}{v:V}{sz:Nat}{K:aI->List Wr->Prop}(hk:qv h v sz K):sJ h v sz K:=by
 unfold qv at hk;unfold sJ;split at hk
 ·exact hk
 ·rename_i id n off len
  split at hk
  ·rename_i m es hg
   cases hc:(Nat.beq n sz&&Nat.beq m sz&&Nat.beq off 0) with
   | false=>rw[hc]at hk;exact hk.elim
   | true=>
    rw[hc]at hk;obtain⟨h1,h2⟩:=(hk:m5 es 0 len fun es=>K es [.del id]);rw[Nat.zero_add]at h1;simp only[Bool.and_eq_true]at hc;show eG (Nat.beq n sz&&Nat.beq m sz&&Nat.ble len es.len&&Nat.beq off 0) (K (es.part 0 len) [.del id]);rw[hc.1.1,hc.1.2,hc.2,h1];exact h2
  ·exact hk.elim
 ·exact hk.elim
def eP(T:dJ)(t:TypeId):Option nQ:=
 match T.get t with
 | some ti=>match ti.kd with
  | .slice e=>T.get e
  | _=>none
 | none=>none
def lK(ei:nQ):Bool:=!Nat.beq ei.size 0 && !Nat.beq ei.bytes 0&&Bq ei
def sX(T:dJ)(g:Env)(h:ar)(d:Option Nat)(t:TypeId)(x y:Operand)(K:List Wr->Prop):Prop:=
 match aD g x,aD g y,eP T t,d with
 | some v,some u,some ei,some d=>match oD h u with
  | some fs=>eG (lK ei) (sJ h v ei.size fun es ws=>
    eG (fs.ok ei.size&&(es.app fs).free d) (eG (decide ((es.len+fs.len)*ei.bytes<=140737488355328))
     (K (ws ++ [.new d (.arr ei.size (es.app fs)),.set d (.sl d ei.size 0 (es.len+fs.len))]))))
  | none=>False
 | _,_,_,_=>False
def wV(T:dJ)(g:Env)(h:ar)(d:Option Nat)(t:TypeId)(x y:Operand)(K:List Wr->Prop):Prop:=
 match aD g x,aD g y,eP T t,d with
 | some v,some u,some ei,some d=>xa h u fun fs=>eG (lK ei) (qv h v ei.size fun es ws=>
    eG (fs.ok ei.size&&(es.app fs).free d) (eG (decide ((es.len+fs.len)*ei.bytes<=140737488355328))
     (K (ws ++ [.new d (.arr ei.size (es.app fs)),.set d (.sl d ei.size 0 (es.len+fs.len))]))))
 | _,_,_,_=>False
theorem Ct{T:dJ}{g:Env}{h:ar}{d:Option Nat}{t:TypeId}{x y:Operand}{K:List Wr->Prop}(hk:wV T g h d t x y K):sX T g h d t x y K:=by
 unfold wV at hk;unfold sX;split at hk
 ·rename_i v u ei d h1 h2 h3
  obtain⟨fs,hf,hk⟩:=yy hk;simp only[h1,h2,h3,hf]
  cases hc:lK ei with
  | false=>rw[hc]at hk;exact hk.elim
  | true=>
   rw[hc]at hk;have hk:qv h v ei.size fun es ws=>
    eG (fs.ok ei.size&&(es.app fs).free d) (eG (decide ((es.len+fs.len)*ei.bytes<=140737488355328))
     (K (ws ++ [.new d (.arr ei.size (es.app fs)),.set d (.sl d ei.size 0 (es.len+fs.len))]))):=hk
   exact Bb hk
 ·exact hk.elim
def isStr(T:dJ)(t:TypeId):Bool:=
 match T.get t with
 | some ti=>match ti.kd with
  | .str=>true
  | _=>false
 | none=>false
def JE(T:dJ)(t:TypeId):Option (TypeId×nQ):=
 match T.get t with
 | some ti=>match ti.kd with
  | .slice e=>match T.get e with
   | some ei=>some (e,ei)
   | none=>none
  | _=>none
 | none=>none
def OJ(h:ar)(v u:Option V):Bool:=
 match u with
 | some (.d (.str _))=>true
 | _=>match v with
  | some (.sl id _ _ _)=>match get h id with
   | some (.buf _ _)=>true
   | _=>false
  | _=>false
def AQ(T:dJ)(h:ar)(u:TypeId)(v:V):Option ByteArray:=
 match v with
 | .d (.str s)=>match isStr T u with
  | true=>some s
  | false=>none
 | v=>match eP T u with
  | some _=>match oD h v with
   | some (.dd [[.int .u8 c]])=>match decide (0<=c),decide (c<256) with
    | true,true=>some ⟨#[UInt8.ofNat c.toNat]⟩
    | _,_=>none
   | _=>none
  | none=>none
def Jq(T:dJ)(g:Env)(h:ar)(d:Option Nat)(t u:TypeId)(x y:Operand)(K:List Wr->Prop):Prop:=
 match aD g x,aD g y,JE T t,d with
 | some v,some yv,some (el,ei),some d=>match AQ T h u yv with
  | some s=>eG (lK ei&&(Nat.beq ei.size 1&&Nat.beq ei.bytes 1)) (match v with
   | .d .nils=>eG (decide (0<s.size)&&decide (s.size<=140737488355328)) (K [.new d (.buf el s),.set d (.sl d 1 0 s.size)])
   | .sl id n off len=>match get h id with
    | some (.buf ty b)=>eG (Nat.beq n 1&&(Nat.beq off 0&&Nat.beq ty el)) (eG (decide (len=b.size)&&(decide (0<len)&&decide (len+s.size<=140737488355328)))
      (K [.del id,.new d (.buf ty (b++s)),.set d (.sl d 1 0 (b++s).size)]))
    | _=>False
   | _=>False)
  | none=>False
 | _,_,_,_=>False
def pK(T:dJ)(t:TypeId)(i:Nat):Option (Nat×nQ):=
 match T.get t with
 | some ti=>match ti.kd with
  | .struct fs=>match fs[i]? with
   | some (off,ft)=>match T.get ft with
    | some fi=>some (off,fi)
    | none=>none
   | none=>none
  | _=>none
 | none=>none
def Ei(T:dJ)(el:TypeId)(es:List (List D)):Bool:=
 match T.get el with
 | some ei=>match es with
  | []=>true
  | f::_=>Nat.beq f.length ei.size
 | none=>false
def rV:D->D->Option Bool
 | .int k a,.int k' b=>match decide (k=k') with
  | true=>some (decide (a=b))
  | false=>none
 | _,_=>none
def mw:D->D->Option Bool
 | .int k a,.int k' b=>match decide (k=k') with
  | true=>some (decide (a=b))
  | false=>none
 | .bool a,.bool b=>some (a ==b)
 | .ifc t a,.ifc u b=>match Nat.beq t u,rV a b with
  | true,r=>r
  | false,some _=>some false
  | false,none=>none
 | _,_=>none
def ck:List D->List D->Option Bool
 | [],[]=>some true
 | a::r,b::l=>match mw a b,ck r l with
  | some p,some q=>some (p&&q)
  | _,_=>none
 | _,_=>none
def gO:D->D->Option Bool
 | .int k a,.int k' b=>match decide (k=k') with
  | true=>some (decide (a=b))
  | false=>none
 | .str a,.str b=>some (decide (a=b))
 | .bool a,.bool b=>some (a ==b)
 | .agg a,.agg b=>ck a b
 | _,_=>none
def findD(k:D):List (D×D)->Nat->Option (Option (Nat×D))
 | [],_=>some none
 | (k',v)::r,n=>match gO k k' with
  | some true=>some (some (n,v))
  | some false=>findD k r (n+1)
  | none=>none
inductive nW(bT:List (D×D))(k:D)(K:Option (Nat×D)->Prop):Prop where
 | mk (r:Option (Nat×D)) (h:findD k bT 0=some r) (hk:K r)
inductive O2(s:ByteArray)(pos:Nat)(K:Nat->Nat->Prop):Prop where
 | mk (h:K (Utf8.decode s pos).1 (Utf8.decode s pos).2)
def mQ(f:TypeId->Option Nat):List (Nat×TypeId)->Nat->Option Nat
 | [],n=>some n
 | (off,t)::r,n=>match Nat.beq off n,f t with
  | true,some (c+1)=>mQ f r (n+(c+1))
  | _,_=>none
def flat(T:dJ):Nat->TypeId->Option Nat
 | 0,_=>none
 | d+1,t=>match T.get t with
  | none=>none
  | some ti=>match ti.kd with
   | .int _=>match Nat.beq ti.size 1 with
    | true=>some 1
    | false=>none
   | .bool=>match Nat.beq ti.size 1 with
    | true=>some 1
    | false=>none
   | .iface=>match d,Nat.beq ti.size 1 with
    | _+1,true=>some 1
    | _,_=>none
   | .struct fs=>match ti.held,mQ (fun t=>flat T d t) fs 0 with
    | false,some n=>match Nat.beq ti.size n with
     | true=>some n
     | false=>none
    | _,_=>none
   | .array m e=>match flat T d e with
    | some (c+1)=>match Nat.beq ti.size (m*(c+1)) with
     | true=>some (m*(c+1))
     | false=>none
    | _=>none
   | _=>none
def vE(T:dJ)(f:TypeId->List D->Bool):List (Nat×TypeId)->List D->Bool
 | [],_=>true
 | (off,t)::r,xs=>match T.get t with
  | some ti=>match f t ((xs.drop off).take ti.size) with
   | true=>vE T f r xs
   | false=>false
  | none=>false
def vF(f:List D->Bool)(c:Nat):Nat->List D->Bool
 | 0,_=>true
 | n+1,xs=>match f (xs.take c) with
  | true=>vF f c n (xs.drop c)
  | false=>false
def nK(T:dJ):Nat->TypeId->List D->Bool
 | 0,_,_=>false
 | d+1,t,xs=>match T.get t with
  | none=>false
  | some ti=>match ti.kd with
   | .int _=>match xs with
    | [.int _ _]=>true
    | _=>false
   | .bool=>match xs with
    | [.bool _]=>true
    | _=>false
   | .iface=>match xs with
    | [.ifc u (.int k _)]=>match T.get u with
     | some ui=>match ui.kd,ui.held with
      | .int k',false=>decide (k=k')
      | _,_=>false
     | none=>false
    | _=>false
   | .struct fs=>vE T (fun t xs=>nK T d t xs) fs xs
   | .array m e=>match T.get e with
    | some ei=>vF (fun xs=>nK T d e xs) ei.size m xs
    | none=>false
   | _=>false
def p7(T:dJ)(kt:TypeId):Kd->D->Bool
 | .int _,.int _ _=>true
 | .str,.str _=>true
 | .bool,.bool _=>true
 | .struct _,.agg cs=>match flat T 9 kt with
  | some n=>Nat.beq cs.length n&&nK T 9 kt cs
  | none=>false
 | .array _ _,.agg cs=>match flat T 9 kt with
  | some n=>Nat.beq cs.length n&&nK T 9 kt cs
  | none=>false
 | _,_=>false
def mapOf(T:dJ)(t:TypeId):Option (TypeId×(nQ×nQ)):=
 match T.get t with
 | some ti=>match ti.kd with
  | .map k e=>match T.get k,T.get e with
   | some ki,some ei=>some (k,(ki,ei))
   | _,_=>none
  | _=>none
 | none=>none
def I1(e:Env)(h:ar)(x:Operand):Option (List (D×D)):=
 match aD e x with
 | some (.d (.mv bT))=>some bT
 | some (.d .nilm)=>some []
 | some (.mp id)=>match get h id with
  | some (.map bT)=>some bT
  | _=>none
 | _=>none
def ng:List (D×D)->Nat->D->List (D×D)
 | [],_,_=>[]
 | (_,v)::r,0,k=>(k,v)::r
 | p::r,n+1,k=>p::ng r n k
def nh:List (D×D)->Nat->D->List (D×D)
 | [],_,_=>[]
 | (k,_)::r,0,v=>(k,v)::r
 | p::r,n+1,v=>p::nh r n v
def wJ(ti:nQ):Option D:=
 match ti.zero,ti.isAgg with
 | some z,true=>some (.agg z)
 | some [x],false=>some x
 | _,_=>none
def og(c:Bool)(v:D)(ok:Bool):V:=
 match c with
 | true=>.d (.tup [v,.bool ok])
 | false=>.d v
def Hs(h:ar):V->Option (List (D×D))
 | .mp m=>match get h m with
  | some (.map bT)=>some bT
  | _=>none
 | _=>none
inductive P4(bT:List (D×D))(n i:Nat)(K:D×D->Prop):Prop where
 | mk (hn:bT.length=n) (kv:D×D) (h:bT[i]?=some kv) (hk:K kv)
def xL:Kd->Bool
 | .iface=>false
 | .other=>false
 | _=>true
def sY(size:Nat):Nat->Nat->List (Nat×Nat)
 | _,0=>[]
 | off,n+1=>(off,size)::sY size (off+size) n
def KR(e:Env)(dst:Option Nat)(fn:Fn)(first aM:List Operand)(K:List Wr->Prop):Prop:=
 match fn,first,aM with
 | .func f,x::r,[]=>match cI e (x::r) with
  | some l=>match qJ l with
   | some ds=>K (aS dst (.d (.mth f ds)))
   | none=>False
  | none=>False
 | _,_,_=>False
def eS(T:dJ)(e:Env)(h:ar)(dst:Option Nat)(op:Op)(K:List Wr->Prop):Prop:=
 match op with
 | .move x=>match aD e x with
  | some v=>K (aS dst v)
  | none=>False
 | .assign x=>match aD e x with
  | some v=>K (aS dst v)
  | none=>False
 | .pick c a b=>match aD e c,aD e a,aD e b with
  | some (.d (.bool t)),some va,some vb=>Iu t (K (aS dst va)) (K (aS dst vb))
  | some (.d (.bool t)),some va,none=>eG t (K (aS dst va))
  | some (.d (.bool t)),none,some vb=>eG (!t) (K (aS dst vb))
  | _,_,_=>False
 | .alloc t=>match T.get t,dst with
  | some ti,some d=>match ti.zero with
   | some [.nilp,.nils]=>eG (Nat.beq 2 ti.size) (K [.new d (.tb t [.d .nilp,.d .nils]),.set d (.ptr d 0)])
   | some z=>eG (Nat.beq z.length ti.size) (K [.new d (.box (.dd z)),.set d (.ptr d 0)])
   | none=>False
  | _,_=>False
 | .box _ x=>match aD e x,dst with
  | some v,some d=>eG (v.cells.ok&&v.cells.free d) (K [.new d (.box v.cells),.set d (.ptr d 0)])
  | _,_=>False
 | .build t ps=>match partsOf e ps.toList,T.get t with
  | some l,some ti=>match ti.kd,ti.zero with
   | .struct fs,some z=>match qq T fs with
    | some sz=>match jh sz (.dd z) l with
     | some cs=>K (aS dst cs.val)
     | none=>False
    | none=>False
   | .array n el,some z=>match T.get el with
    | some ei=>match jh (sY ei.size 0 n) (.dd z) l with
     | some cs=>K (aS dst cs.val)
     | none=>False
    | none=>False
   | _,_=>False
  | _,_=>False
 | .buildSlice t n ps=>match partsOf e ps.toList,eP T t,dst with
  | some l,some ei,some d=>eG (Nat.beq l.length n&&lK ei&&Nat.ble (n*ei.size) 16777216)
   (match pH ei.size 0 l with
   | some es=>eG (es.ok ei.size&&es.free d) (K [.new d (.arr ei.size es),.set d (.sl d ei.size 0 n)])
   | none=>False)
  | _,_,_=>False
 | .load t x=>zg T e h t x fun v=>K (aS dst v)
 | .store t x y=>match dst with
  | none=>FU T e h t x y K
  | some _=>False
 | .nilCheck x=>match aD e x with
  | some v=>match v with
   | .d (.ref _)=>K (aS dst v)
   | .ptr _ _=>K (aS dst v)
   | .ep _ _ _ _=>K (aS dst v)
   | .d (.clo _ _)=>K (aS dst v)
   | .clo _ _=>K (aS dst v)
   | .d (.ifc _ _)=>K (aS dst v)
   | _=>False
  | none=>False
 | .binOp op t x y _=>match aD e x,aD e y with
  | some a,some b=>match AI y,a with
   | true,.d .nili=>B6 T op t true fun v=>K (aS dst v)
   | true,.d (.ifc _ _)=>B6 T op t false fun v=>K (aS dst v)
   | _,a=>Jn T op t a b fun v=>K (aS dst v)
  | _,_=>False
 | .unOp op _ x=>match op,aD e x with
  | .not,some (.d (.bool b))=>K (aS dst (.d (.bool !b)))
  | .neg,some (.d (.int k n))=>arith k (0-n) fun v=>K (aS dst v)
  | _,_=>False
 | .convert s d x=>match T.get s,T.get d,aD e x with
  | some si,some di,some v=>match si.kd,di.kd,v with
   | .int _,.int k,.d (.int _ n)=>arith k n fun v=>K (aS dst v)
   | .str,.str,.d (.str s)=>K (aS dst (.d (.str s)))
   | _,_,_=>False
  | _,_,_=>False
 | .makeFunc fn first aM=>match fn,first.toList,cI e aM.toList with
  | .func f,[],some l=>match qJ l with
   | some ds=>K (aS dst (.d (.clo f ds)))
   | none=>K (aS dst (.clo f l))
  | _,_,_=>KR e dst fn first.toList aM.toList K
 | .fieldAddr t x i=>match aD e x,pK T t i with
  | some v,some (off,fi)=>eG (!Nat.beq fi.size 0) (match placeOf v with
   | some p=>K (aS dst (p.add off))
   | none=>False)
  | _,_=>False
 | .field t x i=>match aD e x,pK T t i with
  | some (.d (.agg cs)),some (off,fi)=>(Cells.dd cs).oI fi off fun v=>K (aS dst v)
  | some (.agg cs),some (off,fi)=>(Cells.vv cs).oI fi off fun v=>K (aS dst v)
  | _,_=>False
 | .indexAddr t x i=>match T.get t,aD e x,aD e i with
  | some ti,some v,some (.d (.int _ n))=>match ti.kd with
   | .slice e=>match T.get e with
    | some ei=>eG (!Nat.beq ei.size 0) (match v with
     | .d (.vs es)=>vz es n fun l=>eG (Nat.beq l.length ei.size) (K (aS dst (.d (.ref l))))
     | .sl id sz off len=>eG (decide (0<=n)&&decide (n<len)) (eG (Nat.beq sz ei.size) (K (aS dst (.ep id sz (off+n.toNat) 0))))
     | _=>False)
    | none=>False
   | .array len e=>match T.get e,placeOf v with
    | some ei,some p=>eG (!Nat.beq ei.size 0) (eG (decide (0<=n)&&decide (n<len)) (K (aS dst (p.add (n.toNat*ei.size)))))
    | _,_=>False
   | _=>False
  | _,_,_=>False
 | .index t x i=>match T.get t,aD e x,aD e i with
  | some ti,some v,some (.d (.int _ n))=>match ti.kd,v with
   | .str,.d (.str s)=>eG (decide (0<=n)) (mM s.data.toList n.toNat fun b=>K (aS dst (.d (.int .u8 b.toNat))))
   | .array len e,.d (.agg cs)=>match T.get e with
    | some ei=>eG (decide (0<=n)&&decide (n<len)) ((Cells.dd cs).oI ei (n.toNat*ei.size) fun v=>K (aS dst v))
    | none=>False
   | .array len e,.agg cs=>match T.get e with
    | some ei=>eG (decide (0<=n)&&decide (n<len)) ((Cells.vv cs).oI ei (n.toNat*ei.size) fun v=>K (aS dst v))
    | none=>False
   | _,_=>False
  | _,_,_=>False
 | .slice t x lo hi mx=>match mx with
  | some _=>False
  | none=>match T.get t,aD e x,zp e lo,zp e hi with
   | some ti,some v,some l,some u=>match ti.kd,v with
    | .slice el,.d (.vs es)=>rh es.length l u fun a b=>eG (Ei T el es) (K (aS dst (.d (.vs ((es.take b).drop a)))))
    | .slice el,.sl id sz off len=>rh len l u fun a b=>eG (match T.get el with|some ei=>Nat.beq sz ei.size|none=>false) (K (aS dst (.sl id sz (off+a) (b-a))))
    | .slice el,.d .nils=>rh 0 l u fun _ _=>eG (match T.get el with|some _=>true|none=>false) (K (aS dst (.d .nils)))
    | .str,.d (.str s)=>rh s.size l u fun a b=>K (aS dst (.d (.str (s.extract a b))))
    | _,_=>False
   | _,_,_,_=>False
 | .range t x=>match T.get t,aD e x,dst with
  | some ti,some (.d (.str s)),some d=>match ti.kd with
   | .str=>K [.new d (.iter s 0),.set d (.it d)]
   | _=>False
  | some ti,some (.mp id),some d=>match ti.kd,get h id with
   | .map _ _,some (.map bT)=>eG (!Nat.beq id d) (K [.new d (.mit (.mp id) bT.length (List.range bT.length) none),.set d (.it d)])
   | _,_=>False
  | _,_,_=>False
 | .entry x=>match aD e x with
  | some (.it id)=>match get h id with
   | some (.mit v n _ (some i))=>match Hs h v with
    | some bT=>P4 bT n i fun kv=>K (aS dst (.d (.tup [kv.1,kv.2])))
    | none=>False
   | _=>False
  | _=>False
 | .makeInterface xt x=>match T.get xt,aD e x with
  | some ti,some (.d v)=>eG (xL ti.kd) (K (aS dst (.d (.ifc xt v))))
  | _,_=>False
 | .typeAssert x _ mE c=>match T.get mE,aD e x with
  | some ti,some (.d (.ifc t v))=>eG (xL ti.kd) (match Nat.beq t mE with
   | true=>K (aS dst (og c v true))
   | false=>match c,wJ ti with
    | true,some z=>K (aS dst (og true z false))
    | _,_=>False)
  | some ti,some (.d .nili)=>eG (xL ti.kd) (match c,wJ ti with
   | true,some z=>K (aS dst (og true z false))
   | _,_=>False)
  | _,_=>False
 | .next x b=>match b,aD e x with
  | true,some (.it id)=>match get h id with
   | some (.iter s pos)=>Iu (decide (pos<s.size)) (O2 s pos fun c n=>K (.obj id (.iter s (pos+n))::aS dst (.d (.tup [.bool true,.int .i64 pos,.int .i32 c])))) (K (aS dst (.d (.tup [.bool false]))))
   | _=>False
  | _,_=>False
 | .makeMap _ r=>match r,dst with
  | none,some d=>K [.new d (.map []),.set d (.mp d)]
  | _,_=>False
 | .makeSlice t l c=>match eP T t,aD e l,aD e c,dst with
  | some ei,some (.d (.int .i64 n)),some (.d (.int .i64 m)),some d=>match ei.zero with
   | some z=>eG (lK ei&&(decide (0<=n)&&decide (n<=m))) (eG (decide (m*(ei.bytes:Int)<=140737488355328))
     (K [.new d (.arr ei.size (.dd (List.replicate n.toNat z))),.set d (.sl d ei.size 0 n.toNat)]))
   | none=>False
  | _,_,_,_=>False
 | .lookup t x i c=>match mapOf T t,I1 e h x,aD e i with
  | some (kt,(ki,ei)),some bT,some (.d k)=>eG (p7 T kt ki.kd k) (nW bT k fun r=>match r with
   | some v=>K (aS dst (og c v.2 true))
   | none=>match wJ ei with
    | some z=>K (aS dst (og c z false))
    | none=>False)
  | _,_,_=>False
 | .mapUpdate t m i v=>match dst,mapOf T t,aD e m,aD e i,aD e v with
  | none,some (kt,(ki,_)),some (.mp id),some (.d k),some (.d v)=>match get h id with
   | some (.map bT)=>eG (p7 T kt ki.kd k) (nW bT k fun r=>match r with
    | some n=>K [.obj id (.map (bT.set n.1 (k,v)))]
    | none=>K [.obj id (.map (bT ++ [(k,v)]))])
   | _=>False
  | _,_,_,_,_=>False
 | .insert t m i v=>match dst,mapOf T t,aD e m,aD e i,aD e v with
  | none,some (kt,(ki,_)),some (.mp id),some (.d k),some (.d v)=>match get h id with
   | some (.map bT)=>eG (p7 T kt ki.kd k) (nW bT k fun r=>match r with
    | some n=>K [.obj id (.map (bT.set n.1 (k,v)))]
    | none=>K [.obj id (.map (bT ++ [(k,v)]))])
   | _=>False
  | _,_,_,_,_=>False
 | .mapEntry t m i=>match dst,mapOf T t,aD e m,aD e i with
  | some d,some (kt,(ki,ei)),some (.mp id),some (.d k)=>match get h id with
   | some (.map bT)=>eG (p7 T kt ki.kd k) (nW bT k fun r=>match r with
    | some n=>K [.obj id (.map (ng bT n.1 k)),.set d (.d (.tup [n.2,.int .i64 n.1]))]
    | none=>match wJ ei with
     | some z=>K [.obj id (.map (bT ++ [(k,z)])),.set d (.d (.tup [z,.int .i64 bT.length]))]
     | none=>False)
   | _=>False
  | _,_,_,_=>False
 | .entryStore t m x v=>match dst,aD e m,aD e x,aD e v with
  | none,some (.mp id),some (.d (.int .i64 n)),some (.d v)=>match get h id with
   | some (.map bT)=>eG (decide (0<=n)&&decide (n<bT.length)) (K [.obj id (.map (nh bT n.toNat v))])
   | _=>False
  | _,_,_,_=>False
 | .extract x i=>match aD e x with
  | some (.d (.tup l))=>mM l i fun v=>K (aS dst (.d v))
  | some (.tup l)=>mM l i fun v=>K (aS dst v)
  | _=>False
 | _=>False
def dy(T:dJ)(e:Env)(h:ar)(d:Option Nat)(b:Builtin)(args:Array Operand)(argTypes:Array TypeId)(K:List Wr->Prop):Prop:=
 match b with
 | .len=>match args.toList,argTypes.toList with
  | [x],t::_=>match T.get t,aD e x with
   | some ti,some v=>match ti.kd,v with
    | .slice _,.d (.vs es)=>K (aS d (.d (.int .i64 es.length)))
    | .slice _,.d .nils=>K (aS d (.d (.int .i64 0)))
    | .slice _,.sl _ _ _ n=>K (aS d (.d (.int .i64 n)))
    | .str,.d (.str s)=>K (aS d (.d (.int .i64 s.size)))
    | .array n _,_=>K (aS d (.d (.int .i64 n)))
    | .map _ _,.mp id=>match get h id with
     | some (.map bT)=>K (aS d (.d (.int .i64 bT.length)))
     | _=>False
    | .map _ _,.d (.mv bT)=>K (aS d (.d (.int .i64 bT.length)))
    | _,_=>False
   | _,_=>False
  | _,_=>False
 | .min=>match cI e args.toList with
  | some (.d (.int k a)::r)=>match C8 k a r with
   | some v=>K (aS d (.d v))
   | none=>False
  | _=>False
 | .max=>match cI e args.toList with
  | some (.d (.int k a)::r)=>match C7 k a r with
   | some v=>K (aS d (.d v))
   | none=>False
  | _=>False
 | .copy=>match args.toList,argTypes.toList with
  | [x,y],[t,u]=>match eP T t,eP T u,aD e x,aD e y with
   | some ei,some _,some (.sl id sz off n),some v=>match get h id with
    | some (.arr m (.dd es))=>eG (Nat.beq ei.size 1&&(Nat.beq sz 1&&Nat.beq m 1)) (xa h v fun fs=>match fs with
     | .dd fs=>eG (Nat.ble (off+n) es.length&&ig 1 fs) (K (.obj id (.arr 1 (.dd (es.take off++fs.take (min fs.length n)++es.drop (off+min fs.length n))))::aS d (.d (.int .i64 (min fs.length n:Nat)))))
     | .vv _=>False)
    | _=>False
   | _,_,_,_=>False
  | _,_=>False
 | .append=>match args.toList,argTypes.toList with
  | [x,y],[t,u]=>match OJ h (aD e x) (aD e y) with
   | true=>Jq T e h d t u x y K
   | false=>match eP T u with
    | some _=>wV T e h d t x y K
    | none=>False
  | _,_=>False
 | _=>False
def lO(ops:List Oper)(g:Env)(guard:Option (Nat×Bool))(X Y:List Wr->Prop):Prop:=
 match guard with
 | none=>X []
 | some (j,Li)=>match ops[j]? with
  | some ⟨some d,_,_,_,_,_⟩=>match get g d with
    | some (.d (.bool b))=>match Li with
     | true=>Iu b (X [.set d (.d (.bool true))]) (Y [.set d (.d (.bool false))])
     | false=>Iu b (Y [.set d (.d (.bool true))]) (X [.set d (.d (.bool false))])
    | some (.d (.tup []))=>Y []
    | _=>False
  | _=>False
end Go.PX
namespace Go.PX
open Go.RowKit
mutual
def bq(F:Nat->Nat)(w:World):D->Value->Prop
 | .bool b,v=>v = .bool b
 | .int k n,v=>v = .int k n
 | .str s,v=>v = .string s
 | .agg cs,v=>∃ l:Array Value,v = .agg l/\aN F w cs l.toList
 | .tup cs,v=>∃ l:Array Value,v = .tuple l/\aN F w cs l.toList
 | .vs es,v=>∃ a len cap,v = .slice a len cap/\len=es.length/\len<=cap /\
   (es ≠ [] -> ∃ b off sz,a=some ⟨b,off,none⟩/\0<sz/\cv F w b off sz es)
 | .nils,v=>v = .slice none 0 0
 | .ref cs,v=>∃ b off,v = .pointer (some ⟨b,off,none⟩)/\bW F w b off cs
 | .nilp,v=>v = .pointer none
 | .mv bT,v=>∃ r en c,v = .map (some r)/\0<F r/\w.heap[r]?=some (.map en c)/\bs F w bT en.toList
 | .nilm,v=>v = .map none
 | .clo f aM,v=>∃ l:Array Value,v = .func (.func f) #[] l/\aN F w aM l.toList
 | .mth f first,v=>∃ l:Array Value,v = .func (.func f) l #[]/\aN F w first l.toList
 | .nilf,v=>v = .nilFunc
 | .ifc t x,v=>∃ y,v = .iface t y/\bq F w x y
 | .nili,v=>v = .nilIface
def aN(F:Nat->Nat)(w:World):List D->List Value->Prop
 | [],l=>l = []
 | c::r,l=>∃ x l',l=x::l'/\bq F w c x/\aN F w r l'
def bW(F:Nat->Nat)(w:World)(b:Nat):Nat->List D->Prop
 | _,[]=>True
 | off,c::r=>off<F b/\(∃ x,w.cell? ⟨b,off,none⟩=some x/\bq F w c x)/\bW F w b (off+1) r
def cv(F:Nat->Nat)(w:World)(b:Nat):Nat->Nat->List (List D)->Prop
 | _,_,[]=>True
 | off,sz,e::r=>e.length=sz/\bW F w b off e/\cv F w b (off+sz) sz r
def bs(F:Nat->Nat)(w:World):List (D×D)->List MapEntry->Prop
 | [],l=>l = []
 | (k,v)::r,l=>∃ x l',l=x::l'/\bq F w k x.key/\bq F w v x.val/\bs F w r l'
end
structure Tr(F:Nat->Nat)(w:World)(F':Nat->Nat)(w':World):Prop where
 os:w'.os=w.os
 tape:w'.tape=w.tape
 output:w'.output=w.output
 size:w.heap.size<=w'.heap.size
 le:∀ b,F b<=F' b
 cell:∀ b o,o<F b->w'.cell? ⟨b,o,none⟩=w.cell? ⟨b,o,none⟩
 map:∀ b e c,0<F b->w.heap[b]?=some (.map e c)->w'.heap[b]?=some (.map e c)
theorem Tr.refl(F:Nat->Nat)(w:World):Tr F w F w:=⟨rfl,rfl,rfl,Nat.le_refl _,fun _=>Nat.le_refl _,fun _ _ _=>rfl,fun _ _ _ _ h=>h⟩
theorem Tr.trans{F F' Ge:Nat->Nat}{w w' Cn:World}(h:Tr F w F' w')(k:Tr F' w' Ge Cn):Tr F w Ge Cn:=
  ⟨k.os.trans h.os,k.tape.trans h.tape,k.output.trans h.output,Nat.le_trans h.size k.size,fun b=>Nat.le_trans (h.le b) (k.le b),
   fun b o ho=>(k.cell b o (Nat.lt_of_lt_of_le ho (h.le b))).trans (h.cell b o ho),
   fun b e c hb hm=>k.map b e c (Nat.lt_of_lt_of_le hb (h.le b)) (h.map b e c hb hm)⟩
mutual
theorem bq.mono{F F':Nat->Nat}{w w':World}(h:Tr F w F' w'):∀ (a:D) (v:Value),bq F w a v->bq F' w' a v
 | .bool _,_,hr=>hr
 | .int _ _,_,hr=>hr
 | .str _,_,hr=>hr
 | .agg cs,_,hr=>by
  obtain⟨l,rfl,hl⟩:=hr;exact⟨l,rfl,aN.mono h cs _ hl⟩
 | .tup cs,_,hr=>by
  obtain⟨l,rfl,hl⟩:=hr;exact⟨l,rfl,aN.mono h cs _ hl⟩
 | .vs es,_,hr=>by
  obtain⟨a,len,cap,rfl,hl,hc,he⟩:=hr;refine⟨a,len,cap,rfl,hl,hc,fun eX=>?_⟩;obtain⟨b,off,sz,ha,hs,mG⟩:=he eX;exact⟨b,off,sz,ha,hs,cv.mono h es b off sz mG⟩
 | .nils,_,hr=>hr
 | .ref cs,_,hr=>by
  obtain⟨b,off,rfl,hc⟩:=hr;exact⟨b,off,rfl,bW.mono h cs b off hc⟩
 | .nilp,_,hr=>hr
 | .mv bT,_,hr=>by
  obtain⟨r,en,c,rfl,hf,hm,hk⟩:=hr;exact⟨r,en,c,rfl,Nat.lt_of_lt_of_le hf (h.le r),h.map r en c hf hm,bs.mono h bT _ hk⟩
 | .nilm,_,hr=>hr
 | .clo f aM,_,hr=>by
  obtain⟨l,rfl,hl⟩:=hr;exact⟨l,rfl,aN.mono h aM _ hl⟩
 | .mth f first,_,hr=>by
  obtain⟨l,rfl,hl⟩:=hr;exact⟨l,rfl,aN.mono h first _ hl⟩
 | .nilf,_,hr=>hr
 | .ifc t x,_,hr=>by
  obtain⟨y,rfl,hy⟩:=hr;exact⟨y,rfl,bq.mono h x y hy⟩
 | .nili,_,hr=>hr
theorem aN.mono{F F':Nat->Nat}{w w':World}(h:Tr F w F' w'):∀ (cs:List D) (l:List Value),aN F w cs l->aN F' w' cs l
 | [],_,hr=>hr
 | c::r,_,hr=>by
  obtain⟨x,l',rfl,hc,hl⟩:=hr;exact⟨x,l',rfl,bq.mono h c x hc,aN.mono h r l' hl⟩
theorem bW.mono{F F':Nat->Nat}{w w':World}(h:Tr F w F' w'):∀ (cs:List D) (b off:Nat),bW F w b off cs->bW F' w' b off cs
 | [],_,_,_=>trivial
 | c::r,b,off,hr=>by
  obtain⟨hf,⟨x,hx,hc⟩,hl⟩:=hr;exact⟨Nat.lt_of_lt_of_le hf (h.le b),⟨x,(h.cell b off hf).trans hx,bq.mono h c x hc⟩,bW.mono h r b (off+1) hl⟩
theorem cv.mono{F F':Nat->Nat}{w w':World}(h:Tr F w F' w'):∀ (es:List (List D)) (b off sz:Nat),cv F w b off sz es->cv F' w' b off sz es
 | [],_,_,_,_=>trivial
 | e::r,b,off,sz,hr=>by
  obtain⟨hn,he,hl⟩:=hr;exact⟨hn,bW.mono h e b off he,cv.mono h r b (off+sz) sz hl⟩
theorem bs.mono{F F':Nat->Nat}{w w':World}(h:Tr F w F' w'):∀ (bT:List (D×D)) (l:List MapEntry),bs F w bT l->bs F' w' bT l
 | [],_,hr=>hr
 | (k,v)::r,_,hr=>by
  obtain⟨x,l',rfl,hk,hv,hl⟩:=hr;exact⟨x,l',rfl,bq.mono h k _ hk,bq.mono h v _ hv,bs.mono h r l' hl⟩
end
structure Loc where
 ρ:Nat->Nat
 κ:Nat->Nat
def HA(v:Value):Prop:=v.oneCell'=true
mutual
def aR(yv:Option Nat)(L:Loc)(F:Nat->Nat)(w:World):V->Value->Prop
 | .d v,x=>bq F w v x
 | .agg cs,x=>∃ l:Array Value,x = .agg l/\ak yv L F w cs l.toList
 | .tup cs,x=>∃ l:Array Value,x = .tuple l/\ak yv L F w cs l.toList
 | .ptr id off,x=>x = .pointer (some ⟨L.ρ id,off,none⟩)
 | .ep id sz i off,x=>x = .pointer (some ⟨L.ρ id,i*sz+off,none⟩)
 | .sl id sz off len,x=>∃ a cap,x = .slice a len cap/\len<=cap/\0<sz/\((len=0/\cap=0)\/(a=some ⟨L.ρ id,off*sz,none⟩/\(off+cap)*sz<=L.κ id))
 | .mp id,x=>x = .map (some (L.ρ id))
 | .it id,x=>x = .pointer (some ⟨L.ρ id,0,none⟩)
 | .clo f cs,x=>∃ l:Array Value,x = .func (.func f) #[] l/\ak yv L F w cs l.toList
 | .yld,x=>∃ l,yv=some l/\x = .func (.yield l) #[] #[]
 | .unk,x=>HA x
def ak(yv:Option Nat)(L:Loc)(F:Nat->Nat)(w:World):List V->List Value->Prop
 | [],l=>l = []
 | c::r,l=>∃ x l',l=x::l'/\aR yv L F w c x/\ak yv L F w r l'
end
def cy{α:Type}(n:Nat)(l:List (List α)):Prop:=∀ e∈l,e.length=n
def pk(en:Array MapEntry)(c:Nat):Prop:=c=en.size /\ ∀ (i:Nat) (e:MapEntry),en[i]?=some e->e.born=i
def bI(s:ByteArray):List Value:=s.data.toList.map fun b=>Value.int .u8 b.toNat
def bE(yv:Option Nat)(L:Loc)(F:Nat->Nat)(w:World)(id:Nat):Obj->Prop
 | .box cs=>∃ (c:Array Value) (T:TypeId),w.heap[L.ρ id]?=some (.cells c T (0,0))/\ak yv L F w cs.a5 c.toList
 | .arr sz es=>0<sz/\cy sz es.a5/\((es.a5 = []/\L.κ id=0) \/ ∃ (c:Array Value) (T:TypeId),w.heap[L.ρ id]?=some (.cells c T (0,0))/\c.size=L.κ id /\
   es.a5.length*sz<=c.size/\ak yv L F w es.a5.flatten (c.toList.take (es.a5.length*sz)))
 | .map bT=>∃ en c,w.heap[L.ρ id]?=some (.map en c)/\bs F w bT en.toList/\pk en c
 | .iter s pos=>w.heap[L.ρ id]?=some (.stringIter s pos)
 | .tb t l=>∃ c:Array Value,w.heap[L.ρ id]?=some (.cells c t (0,0))/\ak yv L F w l c.toList
 | .buf t s=>∃ c:Array Value,w.heap[L.ρ id]?=some (.cells c t (0,0))/\c.size=L.κ id/\s.size<=c.size/\c.toList.take s.size=bI s
 | .mit v n todo cur=>∃ (r:Nat) (seen:Array Nat),aR yv L F w v (.map (some r))/\w.heap[L.ρ id]?=some (.mapIter (some r) n seen n)/\(∀ i,i∈todo↔i<n/\seen.contains i=false) /\ ∀ i,cur=some i->seen.back?=some i
def aG(L:Loc)(id:Nat):Obj->Prop
 | .arr _ _=>L.κ id≠0
 | _=>True
structure Cx(σ:Type) where
 C:σ->Nat->Prop
 HG:σ->World->(Nat->Nat)->Prop
 yv:Option Nat
 wg:Option Go.Loop
 pρ:Nat->Nat
 pκ:Nat->Nat
 base:List Deferred:=[]
 ff:∀ {s w F w' F'},HG s w F->Tr F w F' w'->(∀ b,w'.heap.size<=b->F' b=0)->(∀ b,C s b->w'.heap[b]?=w.heap[b]?/\F' b=F b)->HG s w' F'
structure ba{σ:Type}(cx:Cx σ)(L:Loc)(F:Nat->Nat)(h:ar)(s:σ)(w:World):Prop where
 hg:cx.HG s w F
 kq:∀ b,cx.C s b->b<w.heap.size
 fresh:∀ b,w.heap.size<=b->F b=0
 obj:∀ id o,get h id=some o->bE cx.yv L F w id o
 own:∀ id o,get h id=some o->aG L id o->F (L.ρ id)=0/\¬ cx.C s (L.ρ id)
 inj:∀ i j o p,get h i=some o->get h j=some p->aG L i o->aG L j p->L.ρ i=L.ρ j->i=j
def pinned(i:Nat):Prop:=1000000<=i/\i<2000000
def sR(L L':Loc):Prop:=∀ i,pinned i->L'.ρ i=L.ρ i/\L'.κ i=L.κ i
def mark(r:Nat):Deferred:={ target:=.collected r,args:=#[] }
structure Good{σ:Type}(cx:Cx σ)(r:Option Nat)(m:List Nat)(L:Loc)(F:Nat->Nat)(st:St σ)(a:Act)(w:World):Prop where
 heap:ba cx L F st.heap st.s w
 env:∀ s v,get st.env s=some v -> ∃ x,a.tmps[s]?=some x/\aR cx.yv L F w v x
 w8:a.defers=m.map mark++cx.base
 qB:∀ b∈m,w.heap[b]?=some (.deferred (some []))/\¬ cx.C st.s b
 ye:m.Nodup
 lk:∀ l,r=some l -> ∃ lp,(w.heap[l]?=some (.loop lp)/\cx.wg=some lp)/\¬ cx.C st.s l
 mB:∀ i,pinned i->L.ρ i=cx.pρ i/\L.κ i=cx.pκ i
 wE:a.tmps.size<=1000000
structure Hd(σ:Type) where
 y:List V->ar->σ->(V->ar->σ->Prop)->Prop
 p:Value->Env->ar->σ->Prop:=fun _ _ _ _=>False
def Hd.np{σ:Type}(Y:Hd σ):Hd σ:={ y:=Y.y }
structure Laid(P:Program)(w:World):Prop where
 W5 : ∀ g, P.globalNamed "internal/strconv.uint64pow10" = some g -> Lib.TabIs P w "internal/strconv.uint64pow10" .u64 Lib.pow10Tab
 len : ∀ g, P.globalNamed "internal/bytealg.MaxLen" = some g -> ∃ m, w.cell? ⟨g, 0, none⟩ = some (.int .i64 m)
 W2 : ∀ g, P.globalNamed "strconv.ErrSyntax" = some g -> ∃ t v, w.cell? ⟨g, 0, none⟩ = some (.iface t v)
 WY : ∀ g, P.globalNamed "strconv.ErrRange" = some g -> ∃ t v, w.cell? ⟨g, 0, none⟩ = some (.iface t v)
def qE{σ:Type}(P:Program)(cx:Cx σ):Prop:=∀ s w F,cx.HG s w F->Laid P w
def fr(r:Option Nat):Fence:={ Fence.wide with round:=r }
def DS{σ:Type}(P:Program)(Y:Hd σ)(cx:Cx σ):Prop:=
 ∀ l,cx.yv=some l -> ∀ (args:List V) (h:ar) (s:σ) (Q:V->ar->σ->Prop),Y.y args h s Q ->
  ∀ (L:Loc) (F:Nat->Nat) (bh:Array Value) (w:World),ba cx L F h s w->ak cx.yv L F w args bh.toList ->
   ∃ fn tmps x8 body,(Instr.yield l bh).run P w = .ok (.round l fn tmps x8 body) w /\
    RoundIn Fence.wide 0 P l fn tmps x8 body w fun e w'=>∃ x,e = .returned x /\ ∃ v h' s' L' F',Q v h' s'/\ba cx L' F' h' s' w'/\aR cx.yv L' F' w' v x/\Tr F w F' w'/\sR L L' /\
     (∀ b,b<w.heap.size->¬ cx.C s b->¬ cx.C s' b) /\
     (∀ b,b<w.heap.size->¬ cx.C s b->(∀ id o,get h id=some o->aG L id o->L.ρ id≠b)->w'.heap[b]?=w.heap[b]?/\F' b=F b) /\
     (∀ id o,get h' id=some o->aG L' id o->L'.ρ id<w.heap.size -> ∃ lT o',get h lT=some o'/\aG L lT o'/\L.ρ lT=L'.ρ id)
structure cS{σ:Type}(P:Program)(Y:Hd σ)(cx:Cx σ):Prop where
 yld:DS P Y cx
 laid:qE P cx
inductive dR where
 | normal|exit (id:Nat)|ret
 deriving Inhabited
def dR.JD:dR->Exit
 | .normal=>.normal
 | .exit i=>.exit i
 | .ret=>.ret
def codeOk(n:Nat):Code->Bool
 | .region _ ops _=>ops.toList.all fun o=>match o.dst with
  | some d=>decide (d<n)
  | none=>true
 | .seq a b=>codeOk n a&&codeOk n b
 | .cond _ a b=>codeOk n a&&codeOk n b
 | .block _ a=>codeOk n a
 | .loop a=>codeOk n a
 | .scope a=>codeOk n a
 | .rangeFunc _ ps a b=>ps.toList.all (fun d=>decide (d<n))&&codeOk n a&&codeOk n b
 | _=>true
def ox{σ:Type}(Y:Hd σ)(cx:Cx σ)(r:Option Nat)(F:Nat->Nat)(w:World)(n:Nat)(e:Exit)(a':Act)(w':World):Prop:=
 ∃ v en h s m' L' F',e = .panic [{ v:=v,recovered:=false }]/\Y.p v en h s/\Good cx r m' L' F' ⟨en,h,s⟩ a' w'/\Tr F w F' w'/\a'.tmps.size=n
theorem ox.trans{σ:Type}{Y:Hd σ}{cx:Cx σ}{r:Option Nat}{F F0:Nat->Nat}{w w0:World}{n n0:Nat}{e:Exit}{a':Act}{w':World}(h:ox Y cx r F w n e a' w')(tr:Tr F0 w0 F w)(hn:n=n0):ox Y cx r F0 w0 n0 e a' w':=by
 obtain⟨v,en,hp,s,m',L',F',h1,h2,h3,h4,h5⟩:=h;exact⟨v,en,hp,s,m',L',F',h1,h2,h3,Tr.trans tr h4,h5.trans hn⟩
def x7{σ:Type}(P:Program)(Y:Hd σ)(c:Code)(st:St σ)(K:dR->St σ->Prop):Prop:=
 ∀ (cx:Cx σ),cS P Y cx -> ∀ (r:Option Nat) (m:List Nat) (L:Loc) (F:Nat->Nat) (a:Act) (w:World),Good cx r m L F st a w->codeOk a.tmps.size c=true ->
  c.wpIn (fr r) 0 P (fun e a' w'=>(∃ e' dj m' L' F',e=e'.JD/\K e' dj/\Good cx r m' L' F' dj a' w'/\Tr F w F' w'/\a'.tmps.size=a.tmps.size)\/ox Y cx r F w a.tmps.size e a' w') a w
def Jk{σ:Type}(P:Program)(Y:Hd σ)(st:St σ)(d:Option Nat)(f:FuncId)(args:List V)(K:St σ->Prop):Prop:=
 (∀ (vs:Array Value) (w:World),(callFunc f vs).run P w = .ok (.enter f vs) w) /\
 ∀ (cx:Cx σ),cS P Y cx -> ∀ (r:Option Nat) (m:List Nat) (L:Loc) (F:Nat->Nat) (a:Act) (w:World) (bh:Array Value),Good cx r m L F st a w->(∀ k,d=some k->k<a.tmps.size)->ak cx.yv L F w args bh.toList ->
  CallsIn Fence.wide 0 P f bh w fun e w'=>(∃ x,e = .returned x /\ ∃ dj L' F',K dj/\Good cx r m L' F' dj (a.put d x) w'/\Tr F w F' w') \/
   ∃ v en h s L' F',e = .panicked [{ v:=v,recovered:=false }]/\Y.p v en h s/\Good cx r m L' F' ⟨en,h,s⟩ a w'/\Tr F w F' w'
def LJ{σ:Type}(P:Program)(Y:Hd σ)(st:St σ)(d:Option Nat)(args:List V)(K:St σ->Prop):Prop:=
 ∀ (cx:Cx σ),cS P Y cx -> ∀ (l:Nat),cx.yv=some l -> ∀ (r:Option Nat) (m:List Nat) (L:Loc) (F:Nat->Nat) (a:Act) (w:World) (bh:Array Value),Good cx r m L F st a w->(∀ k,d=some k->k<a.tmps.size)->ak cx.yv L F w args bh.toList ->
  ∃ fn tmps x8 body,(Instr.yield l bh).run P w = .ok (.round l fn tmps x8 body) w /\
   RoundIn Fence.wide 0 P l fn tmps x8 body w fun e w'=>∃ x,e = .returned x /\ ∃ dj L' F',K dj/\Good cx r m L' F' dj (a.put d x) w'/\Tr F w F' w'
def br{σ:Type}(st:St σ):Wr->St σ
 | .set s v=>⟨put st.env s v,st.heap,st.s⟩
 | .obj id o=>⟨st.env,put st.heap id o,st.s⟩
 | .new id o=>⟨cj (aB (aU id)) st.env,(id,o)::cj (Obj.aB (aU id)) (cut st.heap id),st.s⟩
 | .newq id o=>⟨st.env,(id,o)::st.heap,st.s⟩
 | .del id=>⟨st.env,cut st.heap id,st.s⟩
def aH{σ:Type}(st:St σ):List Wr->St σ
 | []=>st
 | w::r=>aH (br st w) r
def cP{α:Type}(h k:sV α):Prop:=∀ s v,get h s=some v->get k s=some v
def Out(P:Program)(e:Env)(h:ar)(o:Oper)(ws:List Wr):Prop:=
 ∀ {σ:Type} (cx:Cx σ) (r:Option Nat) (m:List Nat) (L:Loc) (F:Nat->Nat) (st:St σ) (a:Act) (w:World),cP e st.env->cP h st.heap->Good cx r m L F st a w ->
  (∀ k,o.dst=some k->k<a.tmps.size) ->
  ∃ x w' nx,(execOp a.eval o).run P w = .ok nx w'/\(nx = .value x\/(nx = .skip/\x=undef)) /\ ∃ L' F',Good cx r m L' F' (aH st ws) (a.put o.dst x) w'/\Tr F w F' w'
def lC(P:Program)(e:Env)(h:ar)(d:Option Nat)(f:FuncId)(args:List V)(ws:List Wr):Prop:=
 (∀ (vs:Array Value) (w:World),(callFunc f vs).run P w = .ok (.enter f vs) w) /\
 ∀ {σ:Type} (cx:Cx σ),qE P cx -> ∀ (r:Option Nat) (m:List Nat) (L:Loc) (F:Nat->Nat) (st:St σ) (a:Act) (w:World) (bh:Array Value),cP e st.env->cP h st.heap->Good cx r m L F st a w->(∀ k,d=some k->k<a.tmps.size)->ak cx.yv L F w args bh.toList ->
  CallsIn Fence.wide 0 P f bh w fun e w'=>∃ x,e = .returned x /\ ∃ L' F',Good cx r m L' F' (aH st ws) (a.put d x) w'/\Tr F w F' w'
structure DD{σ:Type}(P:Program)(Y:Hd σ)(f:FuncId)(args:List V)(h:ar)(s:σ)(Q:V->ar->σ->Prop):Prop where
 enter:∀ (vs:Array Value) (w:World),(callFunc f vs).run P w = .ok (.enter f vs) w
 run:∀ (cx:Cx σ),cS P Y cx -> ∀ (L:Loc) (F:Nat->Nat) (bh:Array Value) (w:World),ba cx L F h s w->ak cx.yv L F w args bh.toList ->
  CallsIn Fence.wide 0 P f bh w fun e w'=>∃ x,e = .returned x /\ ∃ v h' s' L' F',Q v h' s'/\ba cx L' F' h' s' w'/\aR cx.yv L' F' w' v x/\Tr F w F' w'/\sR L L'
inductive ef{σ:Type}(P:Program)(Y:Hd σ)(st:St σ)(d:Option Nat)(f:FuncId)(args:List V)(K:St σ->Prop):Prop where
 | mk (h:Jk P Y st d f args K)
inductive Jl{σ:Type}(P:Program)(Y:Hd σ)(st:St σ)(d:Option Nat)(args:List V)(K:St σ->Prop):Prop where
 | mk (h:LJ P Y st d args K)
inductive vp{σ φ:Type}(P:Program)(ft:φ)(Y:Hd σ)(c:Code)(st:St σ)(K:dR->St σ->Prop):Prop where
 | mk (h:x7 P Y (.loop c) st K)
inductive wR{σ φ:Type}(P:Program)(ft:φ)(Y:Hd σ)(id:Nat)(ops:Array Oper)(st:St σ)(K:dR->St σ->Prop):Prop where
 | mk (h:x7 P Y (.region id ops true) st K)
inductive fI{σ φ:Type}(P:Program)(ft:φ)(Y:Hd σ)(g:Operand)(ps:Array Tmp)(a b:Code)(st:St σ)(K:dR->St σ->Prop):Prop where
 | mk (h:x7 P Y (.rangeFunc g ps a b) st K)
inductive cN(P:Program)(e:Env)(h:ar)(d:Option Nat)(f:FuncId)(args:List V)(K:List Wr->Prop):Prop where
 | mk (ws:List Wr) (hk:K ws) (ho:lC P e h d f args ws)
end Go.PX
namespace Go.PX
def D8{σ:Type}(P:Program)(Y:Hd σ)(dst:Option Nat)(f:Operand)(args:List Operand)(e:Env)(h:ar)(s:σ)(go:Env->ar->σ->Prop):Prop:=
 match aD e f,cI e args with
 | some (.d (.clo g aM)),some l=>ef P Y ⟨e,h,s⟩ dst g (l++inj aM) fun|⟨e,h,s⟩=>go e h s
 | some (.clo g aM),some l=>ef P Y ⟨e,h,s⟩ dst g (l++aM) fun|⟨e,h,s⟩=>go e h s
 | some (.d (.mth g first)),some l=>ef P Y ⟨e,h,s⟩ dst g (inj first++l) fun|⟨e,h,s⟩=>go e h s
 | some .yld,some l=>Jl P Y ⟨e,h,s⟩ dst l fun|⟨e,h,s⟩=>go e h s
 | _,_=>False
def isSlice(T:dJ)(t:TypeId):Bool:=
 match T.get t with
 | some ti=>match ti.kd with
  | .slice _=>true
  | _=>false
 | none=>false
def xF(T:dJ)(e:Env)(op:BinOp)(t:TypeId)(x y:Operand):Option (Bool×Prop):=
 match isSlice T t,op,y,aD e x with
 | true,.eql,.const (.slice none 0 0),some (.d (.vs es))=>some (false,es ≠ [])
 | true,.neq,.const (.slice none 0 0),some (.d (.vs es))=>some (true,es ≠ [])
 | true,.eql,.const (.slice none 0 0),some (.sl _ _ _ n)=>some (false,0<n)
 | true,.neq,.const (.slice none 0 0),some (.sl _ _ _ n)=>some (true,0<n)
 | true,.eql,.const (.slice none 0 0),some (.d .nils)=>some (true,True)
 | true,.neq,.const (.slice none 0 0),some (.d .nils)=>some (false,True)
 | _,_,_,_=>none
def wF(neg b:Bool):Bool:=
 match neg with
 | true=>!b
 | false=>b
inductive LG(neg:Bool)(ne:Prop)(K:Bool->Prop):Prop where
 | mk (h:∀ b,(ne->b=false)->K (wF neg b))
inductive LF(bT:List (D×D))(n:Nat)(todo:List Nat)(K:Option (Nat×(D×D))->Prop):Prop where
 | mk (hn:bT.length=n) (h0:todo = []->K none) (h1:∀ i kv,i∈todo->bT[i]?=some kv->K (some (i,kv)))
def Fe{σ:Type}(dst:Option Nat)(x:Operand)(e:Env)(h:ar)(s:σ)(go:Env->ar->σ->Prop):Prop:=
 match aD e x with
 | some (.it id)=>match get h id with
  | some (.mit v n todo cur)=>match Hs h v with
   | some bT=>LF bT n todo fun r=>match r with
    | none=>a7 (aS dst (.d (.tup [.bool false]))) e h fun e h=>go e h s
    | some (i,(k,u))=>a7 (.obj id (.mit v n (todo.filter fun j=>!Nat.beq j i) (some i))::aS dst (.d (.tup [.bool true,k,u]))) e h fun e h=>go e h s
   | none=>False
  | _=>False
 | _=>False
inductive Gv(P:Program)(t:TypeId)(name:String)(K:FuncId->Prop):Prop where
 | mk (g:FuncId) (h:∀ v w,(method (P.types.size+Made.depth) t v name).run P w = .ok (g,v) w) (hk:K g)
def KN{σ:Type}(P:Program)(Y:Hd σ)(dst:Option Nat)(f:Operand)(name:String)(args:List Operand)(e:Env)(h:ar)(s:σ)(go:Env->ar->σ->Prop):Prop:=
 match aD e f,cI e args with
 | some (.d (.ifc t v)),some l=>Gv P t name fun g=>ef P Y ⟨e,h,s⟩ dst g (.d v::l) fun|⟨e,h,s⟩=>go e h s
 | _,_=>False
def KX{σ:Type}(Y:Hd σ)(x:Operand)(e:Env)(h:ar)(s:σ):Prop:=
 match aD e x with
 | some (.d (.ifc t (.int k n)))=>Y.p (.iface t (.int k n)) e h s
 | _=>False
def Ci{σ:Type}(P:Program)(T:dJ)(Y:Hd σ)(dst:Option Nat)(op:Op)(e:Env)(h:ar)(s:σ)(go:Env->ar->σ->Prop):Prop:=
 match op with
 | .call ⟨callee,args,tys⟩=>match callee with
  | .builtin b=>dy T e h dst b args tys fun ws=>a7 ws e h fun e h=>go e h s
  | .value f=>D8 P Y dst f args.toList e h s go
  | .invoke f name=>KN P Y dst f name args.toList e h s go
 | .panic x=>KX Y x e h s
 | .next x b=>match b with
  | true=>eS T e h dst (.next x true) fun ws=>a7 ws e h fun e h=>go e h s
  | false=>Fe dst x e h s go
 | .binOp op t x y ty=>match xF T e op t x y with
  | some (neg,ne)=>LG neg ne fun b=>a7 (aS dst (.d (.bool b))) e h fun e h=>go e h s
  | none=>eS T e h dst (.binOp op t x y ty) fun ws=>a7 ws e h fun e h=>go e h s
 | op=>eS T e h dst op fun ws=>a7 ws e h fun e h=>go e h s
noncomputable def wpOps{σ:Type}(P:Program)(T:dJ)(Y:Hd σ)(ops:List Oper)(l:List Oper):Env->ar->σ->(Env->ar->σ->Prop)->Prop:=
 List.rec (motive:=fun _=>Env->ar->σ->(Env->ar->σ->Prop)->Prop) (fun e h s K=>K e h s)
  (fun o _ ih e h s K=>match o with
   | ⟨dst,op,_,_,_,guard⟩=>lO ops e guard
    (fun w=>a7 w e h fun e h=>Ci P T Y dst op e h s fun e h s=>ih e h s K)
    (fun w=>a7 w e h fun e h=>a7 (aS dst (.d (.tup []))) e h fun e h=>ih e h s K)) l
theorem wpOps_cons{σ:Type}(P:Program)(T:dJ)(Y:Hd σ)(ops:List Oper)(dst:Option Nat)(op:Op)(ty:TypeId)(pos:String)(after:Array Edge)(guard:Option (Nat×Bool))(l:List Oper)(e:Env)(h:ar)(s:σ)(K:Env->ar->σ->Prop) :
  wpOps P T Y ops (⟨dst,op,ty,pos,after,guard⟩::l) e h s K=lO ops e guard
    (fun w=>a7 w e h fun e h=>Ci P T Y dst op e h s fun e h s=>wpOps P T Y ops l e h s K)
    (fun w=>a7 w e h fun e h=>a7 (aS dst (.d (.tup []))) e h fun e h=>wpOps P T Y ops l e h s K):=rfl
structure OT where
 ts:List Nat
 iz:List Nat
def AH:List Nat->Nat->Bool
 | [],_=>false
 | k::r,n=>match Nat.beq k n with
  | true=>true
  | false=>AH r n
def jw:List Nat->List Nat->Bool
 | [],_=>true
 | k::r,l=>match AH l k with
  | true=>false
  | false=>jw r l
structure OO where
 os:List Nat
 mo:List Nat
 nw:List Nat
 sh:List Nat
def apart(a b:OO):Bool:=
 match jw a.mo b.os,jw a.mo b.mo,jw b.mo a.os,jw b.nw a.sh with
 | true,true,true,true=>true
 | _,_,_,_=>false
def js(o:OO)(acc:List OO):List Nat->Bool
 | []=>true
 | i::r=>match acc[i]? with
  | some p=>match apart o p with
   | true=>js o acc r
   | false=>false
  | none=>false
def oQ(mk:List Nat):List OO->Bool
 | []=>true
 | p::r=>match jw mk p.sh,jw mk p.mo with
  | true,true=>oQ mk r
  | _,_=>false
def H6:List Nat->List Nat->Bool
 | [],_=>true
 | k::r,l=>match AH l k with
  | true=>H6 r l
  | false=>false
def y7(d:Nat)(h:ar):V->List Nat:=
 match d with
 | 0=>fun _=>[]
 | d+1=>fun v=>match v with
  | .d _=>[]
  | .agg cs=>cs.flatMap (y7 d h)
  | .tup cs=>cs.flatMap (y7 d h)
  | .clo _ cs=>cs.flatMap (y7 d h)
  | v=>match kB v with
   | none=>[]
   | some i=>i::(match get h i with
    | some (.box (.vv cs))=>cs.flatMap (y7 d h)
    | some (.arr _ (.vv es))=>es.flatMap fun e=>e.flatMap (y7 d h)
    | some (.mit v _ _ _)=>y7 d h v
    | some (.tb _ cs)=>cs.flatMap (y7 d h)
    | _=>[])
def E6(d:Nat)(e:Env)(h:ar):List Nat->List Nat
 | []=>[]
 | s::r=>match get e s with
  | some v=>y7 d h v++E6 d e h r
  | none=>E6 d e h r
def jR(e:Env):List Nat->List Nat
 | []=>[]
 | s::r=>match get e s with
  | some v=>match kB v with
   | some i=>i::jR e r
   | none=>jR e r
  | none=>jR e r
def looksAt(op:Op)(e:Env)(h:ar)(ts:List Nat):List Nat:=
 match op with
 | .load _ _=>jR e ts
 | .store _ (.tmp a) _=>jR e [a]
 | .call ⟨callee,_,_⟩=>match callee with
  | .builtin _=>jR e ts
  | _=>E6 9 e h ts
 | .lookup _ _ _ _=>jR e ts
 | .mapUpdate _ (.tmp a) _ _=>jR e [a]
 | .insert _ (.tmp a) _ _=>jR e [a]
 | .mapEntry _ (.tmp a) _=>jR e [a]
 | .entryStore _ (.tmp a) _ _=>jR e [a]
 | _=>[]
def aT{α:Type}(l:List Nat):sV α->sV α
 | []=>[]
 | (k,v)::r=>match AH l k with
  | true=>(k,v)::aT l r
  | false=>aT l r
def o8:List Wr->List Wr
 | []=>[]
 | w::r=>(match w with
  | .new id o=>.newq id o
  | w=>w)::o8 r
def ca:List Wr->List Nat
 | []=>[]
 | w::r=>match w with
  | .set _ _=>ca r
  | .obj i _=>i::ca r
  | .new i _=>i::ca r
  | .newq i _=>i::ca r
  | .del i=>i::ca r
def bn:List Wr->List Nat
 | []=>[]
 | w::r=>match w with
  | .new i _=>i::bn r
  | _=>bn r
mutual
def bN:V->List Nat
 | .d _=>[]
 | .agg cs=>dY cs
 | .tup cs=>dY cs
 | .clo _ cs=>dY cs
 | .ptr j _=>[j]
 | .ep j _ _ _=>[j]
 | .sl j _ _ _=>[j]
 | .mp j=>[j]
 | .it j=>[j]
 | .yld=>[]
 | .unk=>[]
def dY:List V->List Nat
 | []=>[]
 | v::r=>bN v++dY r
end
def e6:Obj->List Nat
 | .box (.vv l)=>dY l
 | .arr _ (.vv l)=>dY l.flatten
 | .mit v _ _ _=>bN v
 | .tb _ l=>dY l
 | _=>[]
def bM:List Wr->List Nat
 | []=>[]
 | w::r=>match w with
  | .set _ v=>bN v++bM r
  | .obj _ o=>e6 o++bM r
  | .new _ o=>e6 o++bM r
  | .newq _ o=>e6 o++bM r
  | .del _=>bM r
def dZ:List Wr->Bool
 | []=>true
 | w::r=>match w with
  | .set _ v=>match jw (bn r) (bN v) with
   | true=>dZ r
   | false=>false
  | .obj i o=>match jw (bn r) (i::e6 o) with
   | true=>dZ r
   | false=>false
  | .new i o=>match jw (bn r) (i::e6 o) with
   | true=>dZ r
   | false=>false
  | .newq _ _=>false
  | .del _=>dZ r
def mc(d:Option Nat):List Wr->Bool
 | []=>true
 | w::r=>match w with
  | .set s _=>match d with
   | some d=>match Nat.beq s d with
    | true=>mc d r
    | false=>false
   | none=>false
  | _=>mc d r
def j6(d:Option Nat)(made:List Nat)(acc:List OO)(iz:List Nat)(ws:List Wr)(o:OO):Bool:=
 match js o acc iz,oQ o.nw acc,H6 o.nw made,dZ ws,mc d ws with
 | true,true,true,true,true=>true
 | _,_,_,_,_=>false
noncomputable def Cp(P:Program)(T:dJ)(made:List Nat)(ops:List Oper)(l:List (Oper×OT)):List OO->Env->ar->(Env->ar->Prop)->Prop:=
 List.rec (motive:=fun _=>List OO->Env->ar->(Env->ar->Prop)->Prop) (fun _ e h K=>K e h)
  (fun o _ ih acc e h K=>match o with
   | (⟨dst,op,_,_,after,guard⟩,⟨ts,iz⟩)=>cY (looksAt op e h ts) fun os=>dX (aT ts e) fun e'=>fw (aT os h) fun h'=>
    lO ops e' guard
     (fun w=>
      let go:=fun ws=>cY (ca ws) fun mo=>cY (bn ws) fun mk=>cY (bM ws) fun sh=>
       eG (j6 dst made acc iz ws ⟨os,mo,mk,sh⟩) (a7 w e h fun e h=>a7 (o8 ws) e h fun e h=>ih (acc ++ [⟨os,mo,mk,sh⟩]) e h K)
      match op with
      | .call ⟨callee,args,tys⟩=>match callee with
       | .builtin b=>dy T e' h' dst b args tys go
       | .value f=>match aD e' f,cI e' args.toList with
        | some (.d (.clo g aM)),some l=>cN P e' h' dst g (l++inj aM) go
        | some (.clo g aM),some l=>cN P e' h' dst g (l++aM) go
        | _,_=>False
       | .invoke f name=>match aD e' f,cI e' args.toList with
        | some (.d (.ifc t v)),some l=>Gv P t name fun g=>cN P e' h' dst g (.d v::l) go
        | _,_=>False
      | op=>eS T e' h' dst op go)
     (fun w=>eG (js ⟨os,[],[],[]⟩ acc iz) (a7 w e h fun e h=>a7 (aS dst (.d (.tup []))) e h fun e h=>ih (acc ++ [⟨os,[],[],[]⟩]) e h K))) l
def fD(i j:Nat)(v:V):V:=
 match v with
 | .ptr k off=>match Nat.beq k i with
  | true=>.ptr j off
  | false=>v
 | .ep k sz n off=>match Nat.beq k i with
  | true=>.ep j sz n off
  | false=>v
 | .sl k sz off n=>match Nat.beq k i with
  | true=>.sl j sz off n
  | false=>v
 | .mp k=>match Nat.beq k i with
  | true=>.mp j
  | false=>v
 | .it k=>match Nat.beq k i with
  | true=>.it j
  | false=>v
 | v=>v
def la(i j:Nat):ar->ar
 | []=>[]
 | (k,o)::r=>match Nat.beq k i with
  | true=>(j,o.aB (fD i j))::la i j r
  | false=>(k,o.aB (fD i j))::la i j r
noncomputable def ry(l:List Nat):Env->ar->(Env->ar->Prop)->Prop:=
 List.rec (motive:=fun _=>Env->ar->(Env->ar->Prop)->Prop) (fun e h K=>K e h)
  (fun d _ ih e h K=>match get h d with
  | none=>dX (cj (aB (aU d)) e) fun e=>fw (cj (Obj.aB (aU d)) h) fun h=>ih e h K
  | some _=>dX (cj (aB (fD d (500000+d))) (cj (aB (aU (500000+d))) e)) fun e=>
    fw (la d (500000+d) (cj (Obj.aB (aU (500000+d))) (cut h (500000+d)))) fun h=>ih e h K) l
structure RT where
 made:List Nat
 eO:List OT
structure FT where
 ks:List Nat
 tb:List (Nat×RT)
def Ef(v:Option V)(X Y:Prop):Prop:=
 match v with
 | some (.d (.bool t))=>Iu t X Y
 | _=>False
def Al{σ:Type}(i:Nat)(K:dR->St σ->Prop)(e:dR)(st:St σ):Prop:=
 match e with
 | .exit j=>match Nat.beq j i with
  | true=>K .normal st
  | false=>K (.exit j) st
 | e=>K e st
noncomputable def Dy{σ:Type}(P:Program)(T:dJ)(ft:FT)(Y:Hd σ)(c:Code):St σ->(dR->St σ->Prop)->Prop:=
 Code.rec (motive:=fun _=>St σ->(dR->St σ->Prop)->Prop)
  (fun st K=>K .normal st)
  (fun id ops draw st K=>match st,draw with
   | ⟨e,h,s⟩,false=>wpOps P T Y ops.toList ops.toList e h s fun e h s=>dX (aT ft.ks e) fun e=>K .normal ⟨e,h,s⟩
   | ⟨e,h,s⟩,true=>match get ft.tb id with
    | some ⟨made,eO⟩=>ry made e h fun e h=>Cp P T made ops.toList (ops.toList.zip eO) [] e h fun e h=>dX (aT ft.ks e) fun e=>K .normal ⟨e,h,s⟩
    | none=>wR P ft Y id ops ⟨e,h,s⟩ K)
  (fun _ _ TW TX st K=>TW st fun e st=>match e with
   | .normal=>TX st K
   | e=>K e st)
  (fun c _ _ TW TX st K=>match st with
   | ⟨e,h,s⟩=>Ef (aD e c) (TW ⟨e,h,s⟩ K) (TX ⟨e,h,s⟩ K))
  (fun i _ ih st K=>ih st (Al i K))
  (fun c _ st K=>vp P ft Y c st K)
  (fun g ps a b _ _ st K=>fI P ft Y g ps a b st K)
  (fun i st K=>K (.exit i) st)
  (fun _ ih st K=>ih st K)
  (fun _ st K=>K .normal st)
  (fun _ _ _=>False)
  (fun st K=>K .ret st)
  (fun _ _ _=>False) c
def mO:Nat->List V->Env
 | _,[]=>[]
 | i,v::r=>(i,v)::mO (i+1) r
noncomputable def FD(T:dJ)(g:Env)(h:ar)(l:List ResultVar):(List V->Prop)->Prop:=
 List.rec (motive:=fun _=>(List V->Prop)->Prop) (fun K=>K [])
  (fun r _ ih K=>match r with
  | .tmp t=>match get g t with
   | some v=>ih fun l=>K (v::l)
   | none=>False
  | .cell a t=>zg T g h t (.tmp a) fun v=>ih fun l=>K (v::l)) l
def Ca(l:List Value):Value:=
 match l with
 | [x]=>x
 | l=>.tuple l.toArray
inductive sU{σ:Type}(l:List V)(h:ar)(s:σ)(Q:V->ar->σ->Prop):Prop where
 | mk (hr:∀ (cx:Cx σ) (L:Loc) (F:Nat->Nat) (bh:List Value) (w:World),ba cx L F h s w->ak cx.yv L F w l bh ->
   ∃ v h' L' F',Q v h' s/\ba cx L' F' h' s w/\aR cx.yv L' F' w v (Ca bh)/\Tr F w F' w/\sR L L')
def Pv{σ:Type}(T:dJ)(rs:List ResultVar)(Q:V->ar->σ->Prop)(e:dR)(st:St σ):Prop:=
 match e with
 | .exit _=>False
 | _=>match st with
  | ⟨e,h,s⟩=>FD T e h rs fun l=>sU l h s Q
end Go.PX
