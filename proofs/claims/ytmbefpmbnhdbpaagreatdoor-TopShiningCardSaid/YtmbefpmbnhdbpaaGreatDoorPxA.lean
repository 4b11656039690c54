import Derived.Calls
import Derived.RangeFuncLeaves
import Derived.Below
import Derived.Laws.Rows
import Derived.Lib.LaidTab
import Derived.Lib.ItoaNum
set_option linter.all false
namespace Go.PX
inductive D where
 | bool (b:Bool)
 | int (k:IntKind) (n:Int)
 | str (s:ByteArray)
 | agg (cs:List D)
 | tup (cs:List D)
 | vs (es:List (List D))
 | nils
 | ref (cs:List D)
 | nilp
 | mv (cY:List (D×D))
 | nilm
 | clo (f:FuncId) (bc:List D)
 | mth (f:FuncId) (first:List D)
 | nilf
 | ifc (t:TypeId) (v:D)
 | nili
 deriving Inhabited
inductive V where
 | d (v:D)
 | agg (cs:List V)
 | tup (cs:List V)
 | ptr (id off:Nat)
 | ep (id sz i off:Nat)
 | sl (id sz off len:Nat)
 | mp (id:Nat)
 | it (id:Nat)
 | clo (f:FuncId) (bc:List V)
 | yld
 | unk
 deriving Inhabited
inductive Cells where
 | dd (l:List D)
 | vv (l:List V)
 deriving Inhabited
inductive bx where
 | dd (l:List (List D))
 | vv (l:List (List V))
 deriving Inhabited
inductive Obj where
 | box (cs:Cells)
 | arr (sz:Nat) (es:bx)
 | map (cY:List (D×D))
 | iter (s:ByteArray) (pos:Nat)
 | buf (t:TypeId) (s:ByteArray)
 | tb (t:TypeId) (l:List V)
 | mit (v:V) (n:Nat) (todo:List Nat) (cur:Option Nat)
 deriving Inhabited
abbrev xA(α:Type):=List (Nat×α)
def get{α:Type}:xA α->Nat->Option α
 | [],_=>none
 | (k,v)::r,s=>match Nat.beq k s with
  | true=>some v
  | false=>get r s
def put{α:Type}:xA α->Nat->α->xA α
 | [],s,v=>[(s,v)]
 | (k,u)::r,s,v=>match Nat.beq k s with
  | true=>(k,v)::r
  | false=>(k,u)::put r s v
def cut{α:Type}:xA α->Nat->xA α
 | [],_=>[]
 | (k,u)::r,s=>match Nat.beq k s with
  | true=>cut r s
  | false=>(k,u)::cut r s
def dv{α β:Type}(f:α->β):xA α->xA β
 | []=>[]
 | (k,u)::r=>(k,f u)::dv f r
abbrev Env:=xA V
abbrev Heap:=xA Obj
structure St(σ:Type) where
 env:Env
 heap:Heap
 s:σ
def isD:V->Bool
 | .d _=>true
 | _=>false
def xB:List V->Option (List D)
 | []=>some []
 | .d v::r=>match xB r with
  | some l=>some (v::l)
  | none=>none
 | _=>none
def sD(cs:List V):V:=
 match xB cs with
 | some ds=>.d (.agg ds)
 | none=>.agg cs
def xd(cs:List V):V:=
 match xB cs with
 | some ds=>.d (.tup ds)
 | none=>.tup cs
def inj:List D->List V
 | []=>[]
 | v::r=>.d v::inj r
def V.cells:V->Cells
 | .d (.agg cs)=>.dd cs
 | .agg cs=>.vv cs
 | .d v=>.dd [v]
 | v=>.vv [v]
def Cells.len:Cells->Nat
 | .dd l=>l.length
 | .vv l=>l.length
def Cells.bJ:Cells->List V
 | .dd l=>inj l
 | .vv l=>l
def Cells.sub(c:Cells)(off n:Nat):V:=
 match c with
 | .dd l=>.d (.agg ((l.drop off).take n))
 | .vv l=>sD ((l.drop off).take n)
def Cells.jl(c:Cells)(off:Nat)(x:Cells):Cells:=
 match c,x with
 | .dd l,.dd m=>.dd (l.take off++m++l.drop (off+m.length))
 | .dd l,.vv m=>.vv (inj (l.take off)++m++inj (l.drop (off+m.length)))
 | .vv l,.dd m=>.vv (l.take off++inj m++l.drop (off+m.length))
 | .vv l,.vv m=>.vv (l.take off++m++l.drop (off+m.length))
def nZ:V->Option Nat
 | .ptr i _=>some i
 | .ep i _ _ _=>some i
 | .sl i _ _ _=>some i
 | .mp i=>some i
 | .it i=>some i
 | _=>none
mutual
def aJ(f:V->V):V->V
 | .d v=>.d v
 | .agg cs=>.agg (dz f cs)
 | .tup cs=>.tup (dz f cs)
 | .clo g cs=>.clo g (dz f cs)
 | .yld=>.yld
 | .unk=>.unk
 | .ptr i o=>f (.ptr i o)
 | .ep i n j o=>f (.ep i n j o)
 | .sl i n o l=>f (.sl i n o l)
 | .mp i=>f (.mp i)
 | .it i=>f (.it i)
def dz(f:V->V):List V->List V
 | []=>[]
 | v::r=>aJ f v::dz f r
end
def aX(f:V->V):List (List V)->List (List V)
 | []=>[]
 | v::r=>dz f v::aX f r
def Obj.aJ(f:V->V):Obj->Obj
 | .box (.dd l)=>.box (.dd l)
 | .box (.vv l)=>.box (.vv (dz f l))
 | .arr sz (.dd l)=>.arr sz (.dd l)
 | .arr sz (.vv l)=>.arr sz (.vv (aX f l))
 | .map cY=>.map cY
 | .iter s n=>.iter s n
 | .buf t s=>.buf t s
 | .tb t l=>.tb t (dz f l)
 | .mit v n l u=>.mit (PX.aJ f v) n l u
mutual
def sE(i:Nat):V->Bool
 | .d _=>false
 | .agg cs=>eU i cs
 | .tup cs=>eU i cs
 | .clo _ cs=>eU i cs
 | .ptr j _=>Nat.beq j i
 | .ep j _ _ _=>Nat.beq j i
 | .sl j _ _ _=>Nat.beq j i
 | .mp j=>Nat.beq j i
 | .it j=>Nat.beq j i
 | .yld=>false
 | .unk=>false
def eU(i:Nat):List V->Bool
 | []=>false
 | v::r=>sE i v||eU i r
end
def Cells.free(i:Nat):Cells->Bool
 | .dd _=>true
 | .vv l=>!eU i l
def bx.free(i:Nat):bx->Bool
 | .dd _=>true
 | .vv l=>!eU i l.flatten
def bp(id:Nat)(v:V):V:=
 match nZ v with
 | some i=>match Nat.beq i id with
  | true=>.unk
  | false=>v
 | none=>v
inductive Kd where
 | bool|int (k:IntKind)|str
 | slice (e:TypeId)
 | struct (fs:List (Nat×TypeId))
 | array (n:Nat) (e:TypeId)
 | map (k e:TypeId)
 | iface
 | other
 deriving Inhabited
structure sO where
 size:Nat
 bytes:Nat
 kd:Kd
 isAgg:Bool
 held:Bool
 zero:Option (List D)
 deriving Inhabited
inductive fA where
 | lf
 | nd (l:fA) (k:Nat) (v:sO) (r:fA)
def fA.get:fA->Nat->Option sO
 | .lf,_=>none
 | .nd l k v r,s=>match Nat.beq s k with
  | true=>some v
  | false=>match Nat.blt s k with
   | true=>l.get s
   | false=>r.get s
def mZ:Value->Option D
 | .bool b=>some (.bool b)
 | .int k n=>some (.int k n)
 | .string s=>some (.str s)
 | .slice none 0 0=>some .nils
 | .map none=>some .nilm
 | .nilFunc=>some .nilf
 | .pointer none=>some .nilp
 | .nilIface=>some .nili
 | _=>none
def jz:List Value->Option (List D)
 | []=>some []
 | v::r=>match mZ v,jz r with
  | some a,some l=>some (a::l)
  | _,_=>none
def ofConst:Value->Option D
 | .agg cs=>match jz cs.toList with
  | some l=>some (.agg l)
  | none=>none
 | .tuple cs=>match cs.toList with
  | []=>some (.tup [])
  | _=>none
 | v=>mZ v
def aR(g:Env):Operand->Option V
 | .tmp t=>get g t
 | .const v=>match ofConst v with
  | some v=>some (.d v)
  | none=>none
 | .func f=>some (.d (.clo f []))
 | .global _=>none
def et(g:Env):List Operand->Option (List V)
 | []=>some []
 | x::r=>match aR g x,et g r with
  | some a,some l=>some (a::l)
  | _,_=>none
inductive Wr where
 | set (s:Nat) (v:V)
 | obj (id:Nat) (o:Obj)
 | new (id:Nat) (o:Obj)
 | newq (id:Nat) (o:Obj)
 | del (id:Nat)
 deriving Inhabited
def CW(v:V)(K:V->Prop):Prop:=
 match v with
 | .d x=>K (.d x)
 | .agg cs=>K (.agg cs)
 | .tup cs=>K (.tup cs)
 | .ptr i o=>K (.ptr i o)
 | .ep i n j o=>K (.ep i n j o)
 | .sl i n o l=>K (.sl i n o l)
 | .mp i=>K (.mp i)
 | .it i=>K (.it i)
 | .clo f cs=>K (.clo f cs)
 | .yld=>K .yld
 | .unk=>K .unk
noncomputable def CU(l:List D):(List D->Prop)->Prop:=
 List.rec (motive:=fun _=>(List D->Prop)->Prop) (fun K=>K []) (fun v _ ih K=>ih fun r=>K (v::r)) l
noncomputable def CV(l:List V):(List V->Prop)->Prop:=
 List.rec (motive:=fun _=>(List V->Prop)->Prop) (fun K=>K []) (fun v _ ih K=>ih fun r=>K (v::r)) l
theorem sZ:∀ (l:List D) (K:List D->Prop),CU l K=K l
 | [],_=>rfl
 | v::r,K=>sZ r fun r=>K (v::r)
theorem s3:∀ (l:List V) (K:List V->Prop),CV l K=K l
 | [],_=>rfl
 | v::r,K=>s3 r fun r=>K (v::r)
noncomputable def GR(v:Obj)(K:Obj->Prop):Prop:=
 match v with
 | .box (.dd l)=>CU l fun l=>K (.box (.dd l))
 | .box (.vv l)=>CV l fun l=>K (.box (.vv l))
 | .arr n (.dd l)=>K (.arr n (.dd l))
 | .arr n (.vv l)=>K (.arr n (.vv l))
 | .map cY=>K (.map cY)
 | .iter x n=>K (.iter x n)
 | .buf t s=>K (.buf t s)
 | .tb t l=>CV l fun l=>K (.tb t l)
 | .mit v n l u=>CW v fun v=>K (.mit v n l u)
noncomputable def fw(l:Env):(Env->Prop)->Prop:=
 List.rec (motive:=fun _=>(Env->Prop)->Prop) (fun K=>K [])
  (fun kv _ ih K=>match kv with
   | (k,v)=>CW v fun v=>ih fun r=>K ((k,v)::r)) l
noncomputable def iP(l:Heap):(Heap->Prop)->Prop:=
 List.rec (motive:=fun _=>(Heap->Prop)->Prop) (fun K=>K [])
  (fun kv _ ih K=>match kv with
   | (k,v)=>GR v fun v=>ih fun r=>K ((k,v)::r)) l
noncomputable def eA(l:List Nat):(List Nat->Prop)->Prop:=
 List.rec (motive:=fun _=>(List Nat->Prop)->Prop) (fun K=>K []) (fun n _ ih K=>ih fun r=>K (n::r)) l
noncomputable def bz(l:List Wr):Env->Heap->(Env->Heap->Prop)->Prop:=
 List.rec (motive:=fun _=>Env->Heap->(Env->Heap->Prop)->Prop) (fun e h K=>K e h)
  (fun w _ ih e h K=>match w with
  | .set s v=>fw (put e s v) fun e'=>ih e' h K
  | .obj id o=>iP (put h id o) fun h'=>ih e h' K
  | .new id o=>fw (dv (aJ (bp id)) e) fun e'=>iP ((id,o)::dv (Obj.aJ (bp id)) (cut h id)) fun h'=>ih e' h' K
  | .newq id o=>iP ((id,o)::h) fun h'=>ih e h' K
  | .del id=>iP (cut h id) fun h'=>ih e h' K) l
def gR(b:Bool)(K:Prop):Prop:=
 match b with
 | true=>K
 | false=>False
def QK(b:Bool)(X Y:Prop):Prop:=
 match b with
 | true=>X
 | false=>Y
inductive arith(k:IntKind)(n:Int)(K:V->Prop):Prop where
 | mk (h:K (.d (.int k (k.wrap n))))
def Bp(es:List (List D))(i:Int)(K:List D->Prop):Prop:=
 match decide (0<=i),es[i.toNat]? with
 | true,some l=>K l
 | _,_=>False
def pT{α:Type}(cs:List α)(n:Nat)(K:α->Prop):Prop:=
 match cs[n]? with
 | some v=>K v
 | none=>False
def Cells.AP(c:Cells)(n:Nat)(K:V->Prop):Prop:=
 match c with
 | .dd l=>pT l n fun v=>K (.d v)
 | .vv l=>pT l n K
def bx.AP(c:bx)(n:Nat)(K:Cells->Prop):Prop:=
 match c with
 | .dd l=>pT l n fun v=>K (.dd v)
 | .vv l=>pT l n fun v=>K (.vv v)
def bg:List (List D)->List (List V)
 | []=>[]
 | v::r=>inj v::bg r
def bx.len:bx->Nat
 | .dd l=>l.length
 | .vv l=>l.length
def bx.bJ:bx->List (List V)
 | .dd l=>bg l
 | .vv l=>l
def bx.set(c:bx)(n:Nat)(x:Cells):bx:=
 match c,x with
 | .dd l,.dd m=>.dd (l.set n m)
 | .dd l,.vv m=>.vv ((bg l).set n m)
 | .vv l,x=>.vv (l.set n x.bJ)
def bx.part(c:bx)(off n:Nat):bx:=
 match c with
 | .dd l=>.dd ((l.drop off).take n)
 | .vv l=>.vv ((l.drop off).take n)
def bx.app(c x:bx):bx:=
 match c,x with
 | .dd l,.dd m=>.dd (l++m)
 | .dd l,.vv m=>.vv (bg l++m)
 | .vv l,x=>.vv (l++x.bJ)
def wm(n:Nat)(lo hi:Option V)(K:Nat->Nat->Prop):Prop:=
 match hi with
 | none=>match lo with
  | none=>K 0 n
  | some (.d (.int _ l))=>gR (decide (0<=l)&&decide (l<=n)) (K l.toNat n)
  | _=>False
 | some (.d (.int _ h))=>gR (decide (0<=h)&&decide (h<=n))
   (match lo with
   | none=>K 0 h.toNat
   | some (.d (.int _ l))=>gR (decide (0<=l)&&decide (l<=h)) (K l.toNat h.toNat)
   | _=>False)
 | _=>False
def Fz(g:Env):Option Operand->Option (Option V)
 | none=>some none
 | some x=>match aR g x with
  | some v=>some (some v)
  | none=>none
inductive Place where
 | imm (cs:List D)
 | box (id off:Nat)
 | el (id sz i off:Nat)
def placeOf(v:V):Option Place:=
 match v with
 | .d (.ref cs)=>some (.imm cs)
 | .ptr id off=>some (.box id off)
 | .ep id sz i off=>some (.el id sz i off)
 | _=>none
def Place.add(n:Nat):Place->V
 | .imm cs=>.d (.ref (cs.drop n))
 | .box id off=>.ptr id (off+n)
 | .el id sz i off=>.ep id sz i (off+n)
def bw(d:Option Nat)(v:V):List Wr:=
 match d with
 | none=>[]
 | some d=>[.set d v]
def D.scalar:D->Bool
 | .agg _ | .tup _=>false
 | _=>true
def V.scalar:V->Bool
 | .d v=>v.scalar
 | .agg _ | .tup _=>false
 | _=>true
def dc:List V->Bool
 | []=>true
 | x::r=>x.scalar&&dc r
def gr:List D->Bool
 | []=>true
 | x::r=>x.scalar&&gr r
def Mi(T:fA)(eq:TypeId->List D->List D->Option Bool):List (Nat×TypeId)->List D->List D->Option Bool
 | [],_,_=>some true
 | (off,t)::r,xs,ys=>
  match T.get t with
  | none=>none
  | some ti=>match Nat.beq ti.size 0,Nat.ble (off+ti.size) xs.length,Nat.ble (off+ti.size) ys.length with
   | false,true,true=>match eq t ((xs.drop off).take ti.size) ((ys.drop off).take ti.size),Mi T eq r xs ys with
    | some a,some b=>some (a&&b)
    | _,_=>none
   | _,_,_=>none
def JK(eq:List D->List D->Option Bool)(c:Nat):Nat->List D->List D->Option Bool
 | 0,_,_=>some true
 | n+1,xs,ys=>match Nat.ble c xs.length,Nat.ble c ys.length with
  | true,true=>match eq (xs.take c) (ys.take c),JK eq c n (xs.drop c) (ys.drop c) with
   | some a,some b=>some (a&&b)
   | _,_=>none
  | _,_=>none
def OX(T:fA):Nat->TypeId->List D->List D->Option Bool
 | 0,_,_,_=>none
 | d+1,t,xs,ys=>
  match T.get t with
  | none=>none
  | some ti=>match ti.kd with
   | .bool=>match xs,ys with
    | [.bool a],[.bool b]=>some (a ==b)
    | _,_=>none
   | .int _=>match xs,ys with
    | [.int k a],[.int k' b]=>match decide (k=k') with
     | true=>some (decide (a=b))
     | false=>none
    | _,_=>none
   | .str=>match xs,ys with
    | [.str a],[.str b]=>some (decide (a=b))
    | _,_=>none
   | .struct fs=>match ti.held with
    | true=>none
    | false=>Mi T (fun t xs ys=>OX T d t xs ys) fs xs ys
   | .array n e=>match T.get e with
    | some ei=>match Nat.beq ei.size 0,Nat.beq n 0 with
     | false,false=>JK (fun xs ys=>OX T d e xs ys) ei.size n xs ys
     | _,_=>none
    | none=>none
   | _=>none
def iT(op:BinOp)(k:IntKind)(a b:Int):Int:=
 match op with
 | .and=>k.wrap (BitVec.ofInt k.bits a &&& BitVec.ofInt k.bits b).toNat
 | .or=>k.wrap (BitVec.ofInt k.bits a ||| BitVec.ofInt k.bits b).toNat
 | .xor=>k.wrap (BitVec.ofInt k.bits a ^^^ BitVec.ofInt k.bits b).toNat
 | _=>k.wrap (BitVec.ofInt k.bits a &&& ~~~(BitVec.ofInt k.bits b)).toNat
def Xr(op:BinOp)(k:IntKind)(a b:Int)(K:V->Prop):Prop:=
 match op with
 | .add=>arith k (a+b) K
 | .sub=>arith k (a-b) K
 | .mul=>arith k (a*b) K
 | .quo=>gR (decide (b≠0)) (arith k (a.tdiv b) K)
 | .rem=>gR (decide (b≠0)) (K (.d (.int k (a.tmod b))))
 | .eql=>K (.d (.bool (decide (a=b))))
 | .neq=>K (.d (.bool (!decide (a=b))))
 | .lss=>K (.d (.bool (decide (a<b))))
 | .leq=>K (.d (.bool (decide (a<=b))))
 | .gtr=>K (.d (.bool (decide (b<a))))
 | .geq=>K (.d (.bool (decide (b<=a))))
 | .and=>K (.d (.int k (iT .and k a b)))
 | .or=>K (.d (.int k (iT .or k a b)))
 | .xor=>K (.d (.int k (iT .xor k a b)))
 | .andNot=>K (.d (.int k (iT .andNot k a b)))
 | _=>False
def Iu(x:Option Bool)(K:V->Prop):Prop:=
 match x with
 | some b=>K (.d (.bool b))
 | none=>False
def TS:Option Bool->Option Bool
 | some b=>some (!b)
 | none=>none
def uD(T:fA)(t:TypeId):Bool:=
 match T.get t with
 | some ti=>match ti.kd with
  | .struct _=>true
  | .array _ _=>true
  | _=>false
 | none=>false
def isBool(T:fA)(t:TypeId):Bool:=
 match T.get t with
 | some ti=>match ti.kd with
  | .bool=>true
  | _=>false
 | none=>false
def isIface(T:fA)(t:TypeId):Bool:=
 match T.get t with
 | some ti=>match ti.kd with
  | .iface=>true
  | _=>false
 | none=>false
def Hl:Operand->Bool
 | .const .nilIface=>true
 | _=>false
def Je(T:fA)(op:BinOp)(t:TypeId)(b:Bool)(K:V->Prop):Prop:=
 match isIface T t,op with
 | true,.eql=>K (.d (.bool b))
 | true,.neq=>K (.d (.bool (!b)))
 | _,_=>False
def R7(T:fA)(op:BinOp)(t:TypeId)(x y:V)(K:V->Prop):Prop:=
 match x,y with
 | .d (.int k a),.d (.int k' b)=>match op with
  | .shl=>gR (decide (0<=b)) (arith k (a*2^(min b.toNat k.bits)) K)
  | .shr=>gR (decide (0<=b)) (K (.d (.int k (a.fdiv (2^(min b.toNat k.bits))))))
  | _=>match decide (k=k') with
   | true=>Xr op k a b K
   | false=>False
 | .d (.bool a),.d (.bool b)=>match isBool T t,op with
  | true,.eql=>K (.d (.bool (a ==b)))
  | true,.neq=>K (.d (.bool (!(a ==b))))
  | _,_=>False
 | .d (.str a),.d (.str b)=>match op with
  | .eql=>K (.d (.bool (decide (a=b))))
  | .neq=>K (.d (.bool (!decide (a=b))))
  | .add=>gR (decide (a.size+b.size<=9223372036854775807)) (K (.d (.str (a++b))))
  | _=>False
 | .d (.agg a),.d (.agg b)=>match uD T t,op with
  | true,.eql=>Iu (OX T 9 t a b) K
  | true,.neq=>Iu (TS (OX T 9 t a b)) K
  | _,_=>False
 | _,_=>False
def l9(fs:List (Nat×Nat))(cs:Cells):List (Nat×V)->Option Cells
 | []=>some cs
 | (i,v)::r=>match fs[i]? with
  | some (off,n)=>match Nat.beq v.cells.len n,Nat.ble (off+n) cs.len with
   | true,true=>l9 fs (cs.jl off v.cells) r
   | _,_=>none
  | none=>none
def Cells.val:Cells->V
 | .dd l=>.d (.agg l)
 | .vv l=>sD l
def partsOf(g:Env):List (Nat×Operand)->Option (List (Nat×V))
 | []=>some []
 | (i,x)::r=>match aR g x,partsOf g r with
  | some a,some l=>some ((i,a)::l)
  | _,_=>none
def u4(T:fA):List (Nat×TypeId)->Option (List (Nat×Nat))
 | []=>some []
 | (off,t)::r=>match T.get t,u4 T r with
  | some i,some l=>some ((off,i.size)::l)
  | _,_=>none
def bx.cons(x:Cells)(c:bx):bx:=
 match x,c with
 | .dd l,.dd m=>.dd (l::m)
 | .dd l,.vv m=>.vv (inj l::m)
 | .vv l,c=>.vv (l::c.bJ)
def ub(n:Nat):Nat->List (Nat×V)->Option bx
 | _,[]=>some (.dd [])
 | i,(j,v)::r=>match Nat.beq j i,Nat.beq v.cells.len n,ub n (i+1) r with
  | true,true,some l=>some (l.cons v.cells)
  | _,_,_=>none
def Kx:IntKind->Int->List V->Option D
 | k,a,[]=>some (.int k a)
 | k,a,.d (.int _ b)::r=>Kx k (min a b) r
 | _,_,_=>none
def Kw:IntKind->Int->List V->Option D
 | k,a,[]=>some (.int k a)
 | k,a,.d (.int _ b)::r=>Kw k (max a b) r
 | _,_,_=>none
def sV(h:Heap):V->Option bx
 | .d (.vs es)=>some (.dd es)
 | .d .nils=>some (.dd [])
 | .sl id sz off n=>match get h id with
  | some (.arr m es)=>match Nat.beq m sz,Nat.ble (off+n) es.len with
   | true,true=>some (es.part off n)
   | _,_=>none
  | _=>none
 | _=>none
inductive NK(es:bx)(off n:Nat)(K:bx->Prop):Prop where
 | mk (h:Nat.ble (off+n) es.len=true) (k:K (es.part off n))
def CO(h:Heap)(v:V)(K:bx->Prop):Prop:=
 match v with
 | .d (.vs es)=>K (.dd es)
 | .d .nils=>K (.dd [])
 | .sl id sz off n=>match get h id with
  | some (.arr m es)=>match Nat.beq m sz with
   | true=>NK es off n K
   | false=>False
  | _=>False
 | _=>False
theorem Eu{h:Heap}{v:V}{K:bx->Prop}(hk:CO h v K):∃ fs,sV h v=some fs/\K fs:=by
 unfold CO at hk;split at hk
 ·exact⟨_,rfl,hk⟩
 ·exact⟨_,rfl,hk⟩
 ·rename_i id sz off n
  split at hk
  ·rename_i m es hg
   split at hk
   ·rename_i hm
    obtain⟨h1,h2⟩:=hk;exact⟨_,by simp[sV,hg,hm,h1],h2⟩
   ·exact hk.elim
  ·exact hk.elim
 ·exact hk.elim
theorem HJ(es:bx):es.part 0 es.len=es:=by
 cases es<;>simp[bx.part,bx.len]
theorem ak{es:bx}{n:Nat}{K:bx->Prop}(h:n=es.len)(k:K es):NK es 0 n K:=by
 subst h;exact⟨Nat.ble_eq_true_of_le (by omega),by rw[HJ];exact k⟩
def jb(n:Nat):List (List D)->Bool
 | []=>true
 | l::r=>match Nat.beq l.length n,gr l with
  | true,true=>jb n r
  | _,_=>false
def rW(n:Nat):List (List V)->Bool
 | []=>true
 | l::r=>match Nat.beq l.length n,dc l with
  | true,true=>rW n r
  | _,_=>false
def bx.ok(n:Nat):bx->Bool
 | .dd l=>jb n l
 | .vv l=>rW n l
def Cells.ok:Cells->Bool
 | .dd l=>gr l
 | .vv l=>dc l
def Ih(t:sO):Bool:=
 match t.zero with
 | some z=>Nat.beq z.length t.size
 | none=>false
def Cells.vz(ti:sO)(c:Cells)(off:Nat)(K:V->Prop):Prop:=
 match ti.isAgg with
 | true=>gR (Nat.ble (off+ti.size) c.len) (K (c.sub off ti.size))
 | false=>c.AP off K
def Fo(T:fA)(g:Env)(h:Heap)(t:TypeId)(x:Operand)(K:V->Prop):Prop:=
 match aR g x with
 | none=>False
 | some v=>match placeOf v,T.get t with
  | some (.imm cs),some ti=>(Cells.dd cs).vz ti 0 K
  | some (.box id off),some ti=>match get h id with
   | some (.box cs)=>cs.vz ti off K
   | some (.tb _ l)=>(Cells.vv l).vz ti off K
   | _=>False
  | some (.el id sz i off),some ti=>match get h id with
   | some (.arr n es)=>gR (Nat.beq n sz) (es.AP i fun cs=>cs.vz ti off K)
   | _=>False
  | _,_=>False
def Oc(T:fA)(g:Env)(h:Heap)(t:TypeId)(x y:Operand)(K:List Wr->Prop):Prop:=
 match aR g x,aR g y,T.get t with
 | some a,some v,some ti=>
  gR (Nat.beq v.cells.len ti.size&&v.cells.ok)
   (match placeOf a with
   | some (.box id off)=>match get h id with
    | some (.box cs)=>gR (Nat.ble (off+ti.size) cs.len) (K [.obj id (.box (cs.jl off v.cells))])
    | some (.tb t l)=>gR (Nat.ble (off+ti.size) l.length) (K [.obj id (.tb t ((Cells.vv l).jl off v.cells).bJ)])
    | _=>False
   | some (.el id sz i off)=>match get h id with
    | some (.arr n es)=>gR (Nat.beq n sz) (es.AP i fun e=>gR (Nat.ble (off+ti.size) e.len) (K [.obj id (.arr n (es.set i (e.jl off v.cells)))]))
    | _=>False
   | _=>False)
 | _,_,_=>False
def yh(h:Heap)(v:V)(sz:Nat)(K:bx->List Wr->Prop):Prop:=
 match v with
 | .d .nils=>K (.dd []) []
 | .sl id n off len=>match get h id with
  | some (.arr m es)=>gR (Nat.beq n sz&&Nat.beq m sz&&Nat.ble len es.len&&Nat.beq off 0) (K (es.part 0 len) [.del id])
  | _=>False
 | _=>False
def u9(h:Heap)(v:V)(sz:Nat)(K:bx->List Wr->Prop):Prop:=
 match v with
 | .d .nils=>K (.dd []) []
 | .sl id n off len=>match get h id with
  | some (.arr m es)=>gR (Nat.beq n sz&&Nat.beq m sz&&Nat.beq off 0) (NK es 0 len fun es=>K es [.del id])
  | _=>False
 | _=>False
theorem H0{h:Heap}{v:V}{sz:Nat}{K:bx->List Wr->Prop}(hk:u9 h v sz K):yh h v sz K:=by
 unfold u9 at hk;unfold yh;split at hk
 ·exact hk
 ·rename_i id n off len
  split at hk
  ·rename_i m es hg
   cases hc:(Nat.beq n sz&&Nat.beq m sz&&Nat.beq off 0) with
   | false=>rw[hc]at hk;exact hk.elim
   | true=>
    rw[hc]at hk;obtain⟨h1,h2⟩:=(hk:NK es 0 len fun es=>K es [.del id]);rw[Nat.zero_add]at h1;simp only[Bool.and_eq_true]at hc;show gR (Nat.beq n sz&&Nat.beq m sz&&Nat.ble len es.len&&Nat.beq off 0) (K (es.part 0 len) [.del id]);rw[hc.1.1,hc.1.2,hc.2,h1];exact h2
  ·exact hk.elim
 ·exact hk.elim
def gS(T:fA)(t:TypeId):Option sO:=
 match T.get t with
 | some ti=>match ti.kd with
  | .slice e=>T.get e
  | _=>none
 | none=>none
def pd(ei:sO):Bool:=!Nat.beq ei.size 0 && !Nat.beq ei.bytes 0&&Ih ei
def yw(T:fA)(g:Env)(h:Heap)(d:Option Nat)(t:TypeId)(x y:Operand)(K:List Wr->Prop):Prop:=
 match aR g x,aR g y,gS T t,d with
 | some v,some u,some ei,some d=>match sV h u with
  | some fs=>gR (pd ei) (yh h v ei.size fun es ws=>
    gR (fs.ok ei.size&&(es.app fs).free d) (gR (decide ((es.len+fs.len)*ei.bytes<=140737488355328))
     (K (ws ++ [.new d (.arr ei.size (es.app fs)),.set d (.sl d ei.size 0 (es.len+fs.len))]))))
  | none=>False
 | _,_,_,_=>False
def CJ(T:fA)(g:Env)(h:Heap)(d:Option Nat)(t:TypeId)(x y:Operand)(K:List Wr->Prop):Prop:=
 match aR g x,aR g y,gS T t,d with
 | some v,some u,some ei,some d=>CO h u fun fs=>gR (pd ei) (u9 h v ei.size fun es ws=>
    gR (fs.ok ei.size&&(es.app fs).free d) (gR (decide ((es.len+fs.len)*ei.bytes<=140737488355328))
     (K (ws ++ [.new d (.arr ei.size (es.app fs)),.set d (.sl d ei.size 0 (es.len+fs.len))]))))
 | _,_,_,_=>False
theorem Jz{T:fA}{g:Env}{h:Heap}{d:Option Nat}{t:TypeId}{x y:Operand}{K:List Wr->Prop}(hk:CJ T g h d t x y K):yw T g h d t x y K:=by
 unfold CJ at hk;unfold yw;split at hk
 ·rename_i v u ei d h1 h2 h3
  obtain⟨fs,hf,hk⟩:=Eu hk;simp only[h1,h2,h3,hf]
  cases hc:pd ei with
  | false=>rw[hc]at hk;exact hk.elim
  | true=>
   rw[hc]at hk;have hk:u9 h v ei.size fun es ws=>
    gR (fs.ok ei.size&&(es.app fs).free d) (gR (decide ((es.len+fs.len)*ei.bytes<=140737488355328))
     (K (ws ++ [.new d (.arr ei.size (es.app fs)),.set d (.sl d ei.size 0 (es.len+fs.len))]))):=hk
   exact H0 hk
 ·exact hk.elim
def isStr(T:fA)(t:TypeId):Bool:=
 match T.get t with
 | some ti=>match ti.kd with
  | .str=>true
  | _=>false
 | none=>false
def Sd(T:fA)(t:TypeId):Option (TypeId×sO):=
 match T.get t with
 | some ti=>match ti.kd with
  | .slice e=>match T.get e with
   | some ei=>some (e,ei)
   | none=>none
  | _=>none
 | none=>none
def Xt(h:Heap)(v u:Option V):Bool:=
 match u with
 | some (.d (.str _))=>true
 | _=>match v with
  | some (.sl id _ _ _)=>match get h id with
   | some (.buf _ _)=>true
   | _=>false
  | _=>false
def Hu(T:fA)(h:Heap)(u:TypeId)(v:V):Option ByteArray:=
 match v with
 | .d (.str s)=>match isStr T u with
  | true=>some s
  | false=>none
 | v=>match gS T u with
  | some _=>match sV h v with
   | some (.dd [[.int .u8 c]])=>match decide (0<=c),decide (c<256) with
    | true,true=>some ⟨#[UInt8.ofNat c.toNat]⟩
    | _,_=>none
   | _=>none
  | none=>none
def R9(T:fA)(g:Env)(h:Heap)(d:Option Nat)(t u:TypeId)(x y:Operand)(K:List Wr->Prop):Prop:=
 match aR g x,aR g y,Sd T t,d with
 | some v,some yv,some (el,ei),some d=>match Hu T h u yv with
  | some s=>gR (pd ei&&(Nat.beq ei.size 1&&Nat.beq ei.bytes 1)) (match v with
   | .d .nils=>gR (decide (0<s.size)&&decide (s.size<=140737488355328)) (K [.new d (.buf el s),.set d (.sl d 1 0 s.size)])
   | .sl id n off len=>match get h id with
    | some (.buf ty b)=>gR (Nat.beq n 1&&(Nat.beq off 0&&Nat.beq ty el)) (gR (decide (len=b.size)&&(decide (0<len)&&decide (len+s.size<=140737488355328)))
      (K [.del id,.new d (.buf ty (b++s)),.set d (.sl d 1 0 (b++s).size)]))
    | _=>False
   | _=>False)
  | none=>False
 | _,_,_,_=>False
def ug(T:fA)(t:TypeId)(i:Nat):Option (Nat×sO):=
 match T.get t with
 | some ti=>match ti.kd with
  | .struct fs=>match fs[i]? with
   | some (off,ft)=>match T.get ft with
    | some fi=>some (off,fi)
    | none=>none
   | none=>none
  | _=>none
 | none=>none
def Mf(T:fA)(el:TypeId)(es:List (List D)):Bool:=
 match T.get el with
 | some ei=>match es with
  | []=>true
  | f::_=>Nat.beq f.length ei.size
 | none=>false
def u1:D->D->Option Bool
 | .int k a,.int k' b=>match decide (k=k') with
  | true=>some (decide (a=b))
  | false=>none
 | _,_=>none
def kV:D->D->Option Bool
 | .int k a,.int k' b=>match decide (k=k') with
  | true=>some (decide (a=b))
  | false=>none
 | .bool a,.bool b=>some (a ==b)
 | .ifc t a,.ifc u b=>match Nat.beq t u,u1 a b with
  | true,r=>r
  | false,some _=>some false
  | false,none=>none
 | _,_=>none
def dx:List D->List D->Option Bool
 | [],[]=>some true
 | a::r,b::l=>match kV a b,dx r l with
  | some p,some q=>some (p&&q)
  | _,_=>none
 | _,_=>none
def fC:D->D->Option Bool
 | .int k a,.int k' b=>match decide (k=k') with
  | true=>some (decide (a=b))
  | false=>none
 | .str a,.str b=>some (decide (a=b))
 | .bool a,.bool b=>some (a ==b)
 | .agg a,.agg b=>dx a b
 | _,_=>none
def findD(k:D):List (D×D)->Nat->Option (Option (Nat×D))
 | [],_=>some none
 | (k',v)::r,n=>match fC k k' with
  | some true=>some (some (n,v))
  | some false=>findD k r (n+1)
  | none=>none
inductive fk(cY:List (D×D))(k:D)(K:Option (Nat×D)->Prop):Prop where
 | mk (r:Option (Nat×D)) (h:findD k cY 0=some r) (hk:K r)
inductive Yp(s:ByteArray)(pos:Nat)(K:Nat->Nat->Prop):Prop where
 | mk (h:K (Utf8.decode s pos).1 (Utf8.decode s pos).2)
def qz(f:TypeId->Option Nat):List (Nat×TypeId)->Nat->Option Nat
 | [],n=>some n
 | (off,t)::r,n=>match Nat.beq off n,f t with
  | true,some (c+1)=>qz f r (n+(c+1))
  | _,_=>none
def flat(T:fA):Nat->TypeId->Option Nat
 | 0,_=>none
 | d+1,t=>match T.get t with
  | none=>none
  | some ti=>match ti.kd with
   | .int _=>match Nat.beq ti.size 1 with
    | true=>some 1
    | false=>none
   | .bool=>match Nat.beq ti.size 1 with
    | true=>some 1
    | false=>none
   | .iface=>match d,Nat.beq ti.size 1 with
    | _+1,true=>some 1
    | _,_=>none
   | .struct fs=>match ti.held,qz (fun t=>flat T d t) fs 0 with
    | false,some n=>match Nat.beq ti.size n with
     | true=>some n
     | false=>none
    | _,_=>none
   | .array m e=>match flat T d e with
    | some (c+1)=>match Nat.beq ti.size (m*(c+1)) with
     | true=>some (m*(c+1))
     | false=>none
    | _=>none
   | _=>none
def BA(T:fA)(f:TypeId->List D->Bool):List (Nat×TypeId)->List D->Bool
 | [],_=>true
 | (off,t)::r,xs=>match T.get t with
  | some ti=>match f t ((xs.drop off).take ti.size) with
   | true=>BA T f r xs
   | false=>false
  | none=>false
def BB(f:List D->Bool)(c:Nat):Nat->List D->Bool
 | 0,_=>true
 | n+1,xs=>match f (xs.take c) with
  | true=>BB f c n (xs.drop c)
  | false=>false
def sf(T:fA):Nat->TypeId->List D->Bool
 | 0,_,_=>false
 | d+1,t,xs=>match T.get t with
  | none=>false
  | some ti=>match ti.kd with
   | .int _=>match xs with
    | [.int _ _]=>true
    | _=>false
   | .bool=>match xs with
    | [.bool _]=>true
    | _=>false
   | .iface=>match xs with
    | [.ifc u (.int k _)]=>match T.get u with
     | some ui=>match ui.kd,ui.held with
      | .int k',false=>decide (k=k')
      | _,_=>false
     | none=>false
    | _=>false
   | .struct fs=>BA T (fun t xs=>sf T d t xs) fs xs
   | .array m e=>match T.get e with
    | some ei=>BB (fun xs=>sf T d e xs) ei.size m xs
    | none=>false
   | _=>false
def uG(T:fA)(kt:TypeId):Kd->D->Bool
 | .int _,.int _ _=>true
 | .str,.str _=>true
 | .bool,.bool _=>true
 | .struct _,.agg cs=>match flat T 9 kt with
  | some n=>Nat.beq cs.length n&&sf T 9 kt cs
  | none=>false
 | .array _ _,.agg cs=>match flat T 9 kt with
  | some n=>Nat.beq cs.length n&&sf T 9 kt cs
  | none=>false
 | _,_=>false
def mapOf(T:fA)(t:TypeId):Option (TypeId×(sO×sO)):=
 match T.get t with
 | some ti=>match ti.kd with
  | .map k e=>match T.get k,T.get e with
   | some ki,some ei=>some (k,(ki,ei))
   | _,_=>none
  | _=>none
 | none=>none
def Rv(e:Env)(h:Heap)(x:Operand):Option (List (D×D)):=
 match aR e x with
 | some (.d (.mv cY))=>some cY
 | some (.d .nilm)=>some []
 | some (.mp id)=>match get h id with
  | some (.map cY)=>some cY
  | _=>none
 | _=>none
def cK:List (D×D)->Nat->D->List (D×D)
 | [],_,_=>[]
 | (_,v)::r,0,k=>(k,v)::r
 | p::r,n+1,k=>p::cK r n k
def cL:List (D×D)->Nat->D->List (D×D)
 | [],_,_=>[]
 | (k,_)::r,0,v=>(k,v)::r
 | p::r,n+1,v=>p::cL r n v
def Cu(ti:sO):Option D:=
 match ti.zero,ti.isAgg with
 | some z,true=>some (.agg z)
 | some [x],false=>some x
 | _,_=>none
def sC(c:Bool)(v:D)(ok:Bool):V:=
 match c with
 | true=>.d (.tup [v,.bool ok])
 | false=>.d v
def PJ(h:Heap):V->Option (List (D×D))
 | .mp m=>match get h m with
  | some (.map cY)=>some cY
  | _=>none
 | _=>none
inductive Zm(cY:List (D×D))(n i:Nat)(K:D×D->Prop):Prop where
 | mk (hn:cY.length=n) (kv:D×D) (h:cY[i]?=some kv) (hk:K kv)
def DA:Kd->Bool
 | .iface=>false
 | .other=>false
 | _=>true
def yx(size:Nat):Nat->Nat->List (Nat×Nat)
 | _,0=>[]
 | off,n+1=>(off,size)::yx size (off+size) n
def TP(e:Env)(dst:Option Nat)(fn:Fn)(first bc:List Operand)(K:List Wr->Prop):Prop:=
 match fn,first,bc with
 | .func f,x::r,[]=>match et e (x::r) with
  | some l=>match xB l with
   | some ds=>K (bw dst (.d (.mth f ds)))
   | none=>False
  | none=>False
 | _,_,_=>False
def gW(T:fA)(e:Env)(h:Heap)(dst:Option Nat)(op:Op)(K:List Wr->Prop):Prop:=
 match op with
 | .move x=>match aR e x with
  | some v=>K (bw dst v)
  | none=>False
 | .assign x=>match aR e x with
  | some v=>K (bw dst v)
  | none=>False
 | .pick c a b=>match aR e c,aR e a,aR e b with
  | some (.d (.bool t)),some va,some vb=>QK t (K (bw dst va)) (K (bw dst vb))
  | some (.d (.bool t)),some va,none=>gR t (K (bw dst va))
  | some (.d (.bool t)),none,some vb=>gR (!t) (K (bw dst vb))
  | _,_,_=>False
 | .alloc t=>match T.get t,dst with
  | some ti,some d=>match ti.zero with
   | some [.nilp,.nils]=>gR (Nat.beq 2 ti.size) (K [.new d (.tb t [.d .nilp,.d .nils]),.set d (.ptr d 0)])
   | some z=>gR (Nat.beq z.length ti.size) (K [.new d (.box (.dd z)),.set d (.ptr d 0)])
   | none=>False
  | _,_=>False
 | .box _ x=>match aR e x,dst with
  | some v,some d=>gR (v.cells.ok&&v.cells.free d) (K [.new d (.box v.cells),.set d (.ptr d 0)])
  | _,_=>False
 | .build t ps=>match partsOf e ps.toList,T.get t with
  | some l,some ti=>match ti.kd,ti.zero with
   | .struct fs,some z=>match u4 T fs with
    | some sz=>match l9 sz (.dd z) l with
     | some cs=>K (bw dst cs.val)
     | none=>False
    | none=>False
   | .array n el,some z=>match T.get el with
    | some ei=>match l9 (yx ei.size 0 n) (.dd z) l with
     | some cs=>K (bw dst cs.val)
     | none=>False
    | none=>False
   | _,_=>False
  | _,_=>False
 | .buildSlice t n ps=>match partsOf e ps.toList,gS T t,dst with
  | some l,some ei,some d=>gR (Nat.beq l.length n&&pd ei&&Nat.ble (n*ei.size) 16777216)
   (match ub ei.size 0 l with
   | some es=>gR (es.ok ei.size&&es.free d) (K [.new d (.arr ei.size es),.set d (.sl d ei.size 0 n)])
   | none=>False)
  | _,_,_=>False
 | .load t x=>Fo T e h t x fun v=>K (bw dst v)
 | .store t x y=>match dst with
  | none=>Oc T e h t x y K
  | some _=>False
 | .nilCheck x=>match aR e x with
  | some v=>match v with
   | .d (.ref _)=>K (bw dst v)
   | .ptr _ _=>K (bw dst v)
   | .ep _ _ _ _=>K (bw dst v)
   | .d (.clo _ _)=>K (bw dst v)
   | .clo _ _=>K (bw dst v)
   | .d (.ifc _ _)=>K (bw dst v)
   | _=>False
  | none=>False
 | .binOp op t x y _=>match aR e x,aR e y with
  | some a,some b=>match Hl y,a with
   | true,.d .nili=>Je T op t true fun v=>K (bw dst v)
   | true,.d (.ifc _ _)=>Je T op t false fun v=>K (bw dst v)
   | _,a=>R7 T op t a b fun v=>K (bw dst v)
  | _,_=>False
 | .unOp op _ x=>match op,aR e x with
  | .not,some (.d (.bool b))=>K (bw dst (.d (.bool !b)))
  | .neg,some (.d (.int k n))=>arith k (0-n) fun v=>K (bw dst v)
  | _,_=>False
 | .convert s d x=>match T.get s,T.get d,aR e x with
  | some si,some di,some v=>match si.kd,di.kd,v with
   | .int _,.int k,.d (.int _ n)=>arith k n fun v=>K (bw dst v)
   | .str,.str,.d (.str s)=>K (bw dst (.d (.str s)))
   | _,_,_=>False
  | _,_,_=>False
 | .makeFunc fn first bc=>match fn,first.toList,et e bc.toList with
  | .func f,[],some l=>match xB l with
   | some ds=>K (bw dst (.d (.clo f ds)))
   | none=>K (bw dst (.clo f l))
  | _,_,_=>TP e dst fn first.toList bc.toList K
 | .fieldAddr t x i=>match aR e x,ug T t i with
  | some v,some (off,fi)=>gR (!Nat.beq fi.size 0) (match placeOf v with
   | some p=>K (bw dst (p.add off))
   | none=>False)
  | _,_=>False
 | .field t x i=>match aR e x,ug T t i with
  | some (.d (.agg cs)),some (off,fi)=>(Cells.dd cs).vz fi off fun v=>K (bw dst v)
  | some (.agg cs),some (off,fi)=>(Cells.vv cs).vz fi off fun v=>K (bw dst v)
  | _,_=>False
 | .indexAddr t x i=>match T.get t,aR e x,aR e i with
  | some ti,some v,some (.d (.int _ n))=>match ti.kd with
   | .slice e=>match T.get e with
    | some ei=>gR (!Nat.beq ei.size 0) (match v with
     | .d (.vs es)=>Bp es n fun l=>gR (Nat.beq l.length ei.size) (K (bw dst (.d (.ref l))))
     | .sl id sz off len=>gR (decide (0<=n)&&decide (n<len)) (gR (Nat.beq sz ei.size) (K (bw dst (.ep id sz (off+n.toNat) 0))))
     | _=>False)
    | none=>False
   | .array len e=>match T.get e,placeOf v with
    | some ei,some p=>gR (!Nat.beq ei.size 0) (gR (decide (0<=n)&&decide (n<len)) (K (bw dst (p.add (n.toNat*ei.size)))))
    | _,_=>False
   | _=>False
  | _,_,_=>False
 | .index t x i=>match T.get t,aR e x,aR e i with
  | some ti,some v,some (.d (.int _ n))=>match ti.kd,v with
   | .str,.d (.str s)=>gR (decide (0<=n)) (pT s.data.toList n.toNat fun b=>K (bw dst (.d (.int .u8 b.toNat))))
   | .array len e,.d (.agg cs)=>match T.get e with
    | some ei=>gR (decide (0<=n)&&decide (n<len)) ((Cells.dd cs).vz ei (n.toNat*ei.size) fun v=>K (bw dst v))
    | none=>False
   | .array len e,.agg cs=>match T.get e with
    | some ei=>gR (decide (0<=n)&&decide (n<len)) ((Cells.vv cs).vz ei (n.toNat*ei.size) fun v=>K (bw dst v))
    | none=>False
   | _,_=>False
  | _,_,_=>False
 | .slice t x lo hi mx=>match mx with
  | some _=>False
  | none=>match T.get t,aR e x,Fz e lo,Fz e hi with
   | some ti,some v,some l,some u=>match ti.kd,v with
    | .slice el,.d (.vs es)=>wm es.length l u fun a b=>gR (Mf T el es) (K (bw dst (.d (.vs ((es.take b).drop a)))))
    | .slice el,.sl id sz off len=>wm len l u fun a b=>gR (match T.get el with|some ei=>Nat.beq sz ei.size|none=>false) (K (bw dst (.sl id sz (off+a) (b-a))))
    | .slice el,.d .nils=>wm 0 l u fun _ _=>gR (match T.get el with|some _=>true|none=>false) (K (bw dst (.d .nils)))
    | .str,.d (.str s)=>wm s.size l u fun a b=>K (bw dst (.d (.str (s.extract a b))))
    | _,_=>False
   | _,_,_,_=>False
 | .range t x=>match T.get t,aR e x,dst with
  | some ti,some (.d (.str s)),some d=>match ti.kd with
   | .str=>K [.new d (.iter s 0),.set d (.it d)]
   | _=>False
  | some ti,some (.mp id),some d=>match ti.kd,get h id with
   | .map _ _,some (.map cY)=>gR (!Nat.beq id d) (K [.new d (.mit (.mp id) cY.length (List.range cY.length) none),.set d (.it d)])
   | _,_=>False
  | _,_,_=>False
 | .entry x=>match aR e x with
  | some (.it id)=>match get h id with
   | some (.mit v n _ (some i))=>match PJ h v with
    | some cY=>Zm cY n i fun kv=>K (bw dst (.d (.tup [kv.1,kv.2])))
    | none=>False
   | _=>False
  | _=>False
 | .makeInterface xt x=>match T.get xt,aR e x with
  | some ti,some (.d v)=>gR (DA ti.kd) (K (bw dst (.d (.ifc xt v))))
  | _,_=>False
 | .typeAssert x _ at' c=>match T.get at',aR e x with
  | some ti,some (.d (.ifc t v))=>gR (DA ti.kd) (match Nat.beq t at' with
   | true=>K (bw dst (sC c v true))
   | false=>match c,Cu ti with
    | true,some z=>K (bw dst (sC true z false))
    | _,_=>False)
  | some ti,some (.d .nili)=>gR (DA ti.kd) (match c,Cu ti with
   | true,some z=>K (bw dst (sC true z false))
   | _,_=>False)
  | _,_=>False
 | .next x b=>match b,aR e x with
  | true,some (.it id)=>match get h id with
   | some (.iter s pos)=>QK (decide (pos<s.size)) (Yp s pos fun c n=>K (.obj id (.iter s (pos+n))::bw dst (.d (.tup [.bool true,.int .i64 pos,.int .i32 c])))) (K (bw dst (.d (.tup [.bool false]))))
   | _=>False
  | _,_=>False
 | .makeMap _ r=>match r,dst with
  | none,some d=>K [.new d (.map []),.set d (.mp d)]
  | _,_=>False
 | .makeSlice t l c=>match gS T t,aR e l,aR e c,dst with
  | some ei,some (.d (.int .i64 n)),some (.d (.int .i64 m)),some d=>match ei.zero with
   | some z=>gR (pd ei&&(decide (0<=n)&&decide (n<=m))) (gR (decide (m*(ei.bytes:Int)<=140737488355328))
     (K [.new d (.arr ei.size (.dd (List.replicate n.toNat z))),.set d (.sl d ei.size 0 n.toNat)]))
   | none=>False
  | _,_,_,_=>False
 | .lookup t x i c=>match mapOf T t,Rv e h x,aR e i with
  | some (kt,(ki,ei)),some cY,some (.d k)=>gR (uG T kt ki.kd k) (fk cY k fun r=>match r with
   | some v=>K (bw dst (sC c v.2 true))
   | none=>match Cu ei with
    | some z=>K (bw dst (sC c z false))
    | none=>False)
  | _,_,_=>False
 | .mapUpdate t m i v=>match dst,mapOf T t,aR e m,aR e i,aR e v with
  | none,some (kt,(ki,_)),some (.mp id),some (.d k),some (.d v)=>match get h id with
   | some (.map cY)=>gR (uG T kt ki.kd k) (fk cY k fun r=>match r with
    | some n=>K [.obj id (.map (cY.set n.1 (k,v)))]
    | none=>K [.obj id (.map (cY ++ [(k,v)]))])
   | _=>False
  | _,_,_,_,_=>False
 | .insert t m i v=>match dst,mapOf T t,aR e m,aR e i,aR e v with
  | none,some (kt,(ki,_)),some (.mp id),some (.d k),some (.d v)=>match get h id with
   | some (.map cY)=>gR (uG T kt ki.kd k) (fk cY k fun r=>match r with
    | some n=>K [.obj id (.map (cY.set n.1 (k,v)))]
    | none=>K [.obj id (.map (cY ++ [(k,v)]))])
   | _=>False
  | _,_,_,_,_=>False
 | .mapEntry t m i=>match dst,mapOf T t,aR e m,aR e i with
  | some d,some (kt,(ki,ei)),some (.mp id),some (.d k)=>match get h id with
   | some (.map cY)=>gR (uG T kt ki.kd k) (fk cY k fun r=>match r with
    | some n=>K [.obj id (.map (cK cY n.1 k)),.set d (.d (.tup [n.2,.int .i64 n.1]))]
    | none=>match Cu ei with
     | some z=>K [.obj id (.map (cY ++ [(k,z)])),.set d (.d (.tup [z,.int .i64 cY.length]))]
     | none=>False)
   | _=>False
  | _,_,_,_=>False
 | .entryStore t m x v=>match dst,aR e m,aR e x,aR e v with
  | none,some (.mp id),some (.d (.int .i64 n)),some (.d v)=>match get h id with
   | some (.map cY)=>gR (decide (0<=n)&&decide (n<cY.length)) (K [.obj id (.map (cL cY n.toNat v))])
   | _=>False
  | _,_,_,_=>False
 | .extract x i=>match aR e x with
  | some (.d (.tup l))=>pT l i fun v=>K (bw dst (.d v))
  | some (.tup l)=>pT l i fun v=>K (bw dst v)
  | _=>False
 | _=>False
def fH(T:fA)(e:Env)(h:Heap)(d:Option Nat)(b:Builtin)(args:Array Operand)(argTypes:Array TypeId)(K:List Wr->Prop):Prop:=
 match b with
 | .len=>match args.toList,argTypes.toList with
  | [x],t::_=>match T.get t,aR e x with
   | some ti,some v=>match ti.kd,v with
    | .slice _,.d (.vs es)=>K (bw d (.d (.int .i64 es.length)))
    | .slice _,.d .nils=>K (bw d (.d (.int .i64 0)))
    | .slice _,.sl _ _ _ n=>K (bw d (.d (.int .i64 n)))
    | .str,.d (.str s)=>K (bw d (.d (.int .i64 s.size)))
    | .array n _,_=>K (bw d (.d (.int .i64 n)))
    | .map _ _,.mp id=>match get h id with
     | some (.map cY)=>K (bw d (.d (.int .i64 cY.length)))
     | _=>False
    | .map _ _,.d (.mv cY)=>K (bw d (.d (.int .i64 cY.length)))
    | _,_=>False
   | _,_=>False
  | _,_=>False
 | .min=>match et e args.toList with
  | some (.d (.int k a)::r)=>match Kx k a r with
   | some v=>K (bw d (.d v))
   | none=>False
  | _=>False
 | .max=>match et e args.toList with
  | some (.d (.int k a)::r)=>match Kw k a r with
   | some v=>K (bw d (.d v))
   | none=>False
  | _=>False
 | .copy=>match args.toList,argTypes.toList with
  | [x,y],[t,u]=>match gS T t,gS T u,aR e x,aR e y with
   | some ei,some _,some (.sl id sz off n),some v=>match get h id with
    | some (.arr m (.dd es))=>gR (Nat.beq ei.size 1&&(Nat.beq sz 1&&Nat.beq m 1)) (CO h v fun fs=>match fs with
     | .dd fs=>gR (Nat.ble (off+n) es.length&&jb 1 fs) (K (.obj id (.arr 1 (.dd (es.take off++fs.take (min fs.length n)++es.drop (off+min fs.length n))))::bw d (.d (.int .i64 (min fs.length n:Nat)))))
     | .vv _=>False)
    | _=>False
   | _,_,_,_=>False
  | _,_=>False
 | .append=>match args.toList,argTypes.toList with
  | [x,y],[t,u]=>match Xt h (aR e x) (aR e y) with
   | true=>R9 T e h d t u x y K
   | false=>match gS T u with
    | some _=>CJ T e h d t x y K
    | none=>False
  | _,_=>False
 | _=>False
def nT(ops:List Oper)(g:Env)(guard:Option (Nat×Bool))(X Y:List Wr->Prop):Prop:=
 match guard with
 | none=>X []
 | some (j,want)=>match ops[j]? with
  | some ⟨some d,_,_,_,_,_⟩=>match get g d with
    | some (.d (.bool b))=>match want with
     | true=>QK b (X [.set d (.d (.bool true))]) (Y [.set d (.d (.bool false))])
     | false=>QK b (Y [.set d (.d (.bool true))]) (X [.set d (.d (.bool false))])
    | some (.d (.tup []))=>Y []
    | _=>False
  | _=>False
end Go.PX
namespace Go.PX
open Go.RowKit
mutual
def bR(F:Nat->Nat)(w:World):D->Value->Prop
 | .bool b,v=>v = .bool b
 | .int k n,v=>v = .int k n
 | .str s,v=>v = .string s
 | .agg cs,v=>∃ l:Array Value,v = .agg l/\bt F w cs l.toList
 | .tup cs,v=>∃ l:Array Value,v = .tuple l/\bt F w cs l.toList
 | .vs es,v=>∃ a len cap,v = .slice a len cap/\len=es.length/\len<=cap /\
   (es ≠ [] -> ∃ b off sz,a=some ⟨b,off,none⟩/\0<sz/\dU F w b off sz es)
 | .nils,v=>v = .slice none 0 0
 | .ref cs,v=>∃ b off,v = .pointer (some ⟨b,off,none⟩)/\dm F w b off cs
 | .nilp,v=>v = .pointer none
 | .mv cY,v=>∃ r en c,v = .map (some r)/\0<F r/\w.heap[r]?=some (.map en c)/\cf F w cY en.toList
 | .nilm,v=>v = .map none
 | .clo f bc,v=>∃ l:Array Value,v = .func (.func f) #[] l/\bt F w bc l.toList
 | .mth f first,v=>∃ l:Array Value,v = .func (.func f) l #[]/\bt F w first l.toList
 | .nilf,v=>v = .nilFunc
 | .ifc t x,v=>∃ y,v = .iface t y/\bR F w x y
 | .nili,v=>v = .nilIface
def bt(F:Nat->Nat)(w:World):List D->List Value->Prop
 | [],l=>l = []
 | c::r,l=>∃ x l',l=x::l'/\bR F w c x/\bt F w r l'
def dm(F:Nat->Nat)(w:World)(b:Nat):Nat->List D->Prop
 | _,[]=>True
 | off,c::r=>off<F b/\(∃ x,w.cell? ⟨b,off,none⟩=some x/\bR F w c x)/\dm F w b (off+1) r
def dU(F:Nat->Nat)(w:World)(b:Nat):Nat->Nat->List (List D)->Prop
 | _,_,[]=>True
 | off,sz,e::r=>e.length=sz/\dm F w b off e/\dU F w b (off+sz) sz r
def cf(F:Nat->Nat)(w:World):List (D×D)->List MapEntry->Prop
 | [],l=>l = []
 | (k,v)::r,l=>∃ x l',l=x::l'/\bR F w k x.key/\bR F w v x.val/\cf F w r l'
end
structure Tr(F:Nat->Nat)(w:World)(F':Nat->Nat)(w':World):Prop where
 os:w'.os=w.os
 tape:w'.tape=w.tape
 output:w'.output=w.output
 size:w.heap.size<=w'.heap.size
 le:∀ b,F b<=F' b
 cell:∀ b o,o<F b->w'.cell? ⟨b,o,none⟩=w.cell? ⟨b,o,none⟩
 map:∀ b e c,0<F b->w.heap[b]?=some (.map e c)->w'.heap[b]?=some (.map e c)
theorem Tr.refl(F:Nat->Nat)(w:World):Tr F w F w:=⟨rfl,rfl,rfl,Nat.le_refl _,fun _=>Nat.le_refl _,fun _ _ _=>rfl,fun _ _ _ _ h=>h⟩
theorem Tr.trans{F F' Ij:Nat->Nat}{w w' xP:World}(h:Tr F w F' w')(k:Tr F' w' Ij xP):Tr F w Ij xP:=
  ⟨k.os.trans h.os,k.tape.trans h.tape,k.output.trans h.output,Nat.le_trans h.size k.size,fun b=>Nat.le_trans (h.le b) (k.le b),
   fun b o ho=>(k.cell b o (Nat.lt_of_lt_of_le ho (h.le b))).trans (h.cell b o ho),
   fun b e c hb hm=>k.map b e c (Nat.lt_of_lt_of_le hb (h.le b)) (h.map b e c hb hm)⟩
mutual
theorem bR.mono{F F':Nat->Nat}{w w':World}(h:Tr F w F' w'):∀ (a:D) (v:Value),bR F w a v->bR F' w' a v
 | .bool _,_,hr=>hr
 | .int _ _,_,hr=>hr
 | .str _,_,hr=>hr
 | .agg cs,_,hr=>by
  obtain⟨l,rfl,hl⟩:=hr;exact⟨l,rfl,bt.mono h cs _ hl⟩
 | .tup cs,_,hr=>by
  obtain⟨l,rfl,hl⟩:=hr;exact⟨l,rfl,bt.mono h cs _ hl⟩
 | .vs es,_,hr=>by
  obtain⟨a,len,cap,rfl,hl,hc,he⟩:=hr;refine⟨a,len,cap,rfl,hl,hc,fun er=>?_⟩;obtain⟨b,off,sz,ha,hs,fP⟩:=he er;exact⟨b,off,sz,ha,hs,dU.mono h es b off sz fP⟩
 | .nils,_,hr=>hr
 | .ref cs,_,hr=>by
  obtain⟨b,off,rfl,hc⟩:=hr;exact⟨b,off,rfl,dm.mono h cs b off hc⟩
 | .nilp,_,hr=>hr
 | .mv cY,_,hr=>by
  obtain⟨r,en,c,rfl,hf,hm,hk⟩:=hr;exact⟨r,en,c,rfl,Nat.lt_of_lt_of_le hf (h.le r),h.map r en c hf hm,cf.mono h cY _ hk⟩
 | .nilm,_,hr=>hr
 | .clo f bc,_,hr=>by
  obtain⟨l,rfl,hl⟩:=hr;exact⟨l,rfl,bt.mono h bc _ hl⟩
 | .mth f first,_,hr=>by
  obtain⟨l,rfl,hl⟩:=hr;exact⟨l,rfl,bt.mono h first _ hl⟩
 | .nilf,_,hr=>hr
 | .ifc t x,_,hr=>by
  obtain⟨y,rfl,hy⟩:=hr;exact⟨y,rfl,bR.mono h x y hy⟩
 | .nili,_,hr=>hr
theorem bt.mono{F F':Nat->Nat}{w w':World}(h:Tr F w F' w'):∀ (cs:List D) (l:List Value),bt F w cs l->bt F' w' cs l
 | [],_,hr=>hr
 | c::r,_,hr=>by
  obtain⟨x,l',rfl,hc,hl⟩:=hr;exact⟨x,l',rfl,bR.mono h c x hc,bt.mono h r l' hl⟩
theorem dm.mono{F F':Nat->Nat}{w w':World}(h:Tr F w F' w'):∀ (cs:List D) (b off:Nat),dm F w b off cs->dm F' w' b off cs
 | [],_,_,_=>trivial
 | c::r,b,off,hr=>by
  obtain⟨hf,⟨x,hx,hc⟩,hl⟩:=hr;exact⟨Nat.lt_of_lt_of_le hf (h.le b),⟨x,(h.cell b off hf).trans hx,bR.mono h c x hc⟩,dm.mono h r b (off+1) hl⟩
theorem dU.mono{F F':Nat->Nat}{w w':World}(h:Tr F w F' w'):∀ (es:List (List D)) (b off sz:Nat),dU F w b off sz es->dU F' w' b off sz es
 | [],_,_,_,_=>trivial
 | e::r,b,off,sz,hr=>by
  obtain⟨hn,he,hl⟩:=hr;exact⟨hn,dm.mono h e b off he,dU.mono h r b (off+sz) sz hl⟩
theorem cf.mono{F F':Nat->Nat}{w w':World}(h:Tr F w F' w'):∀ (cY:List (D×D)) (l:List MapEntry),cf F w cY l->cf F' w' cY l
 | [],_,hr=>hr
 | (k,v)::r,_,hr=>by
  obtain⟨x,l',rfl,hk,hv,hl⟩:=hr;exact⟨x,l',rfl,bR.mono h k _ hk,bR.mono h v _ hv,cf.mono h r l' hl⟩
end
structure Loc where
 ρ:Nat->Nat
 κ:Nat->Nat
def P6(v:Value):Prop:=v.oneCell'=true
mutual
def br(yv:Option Nat)(L:Loc)(F:Nat->Nat)(w:World):V->Value->Prop
 | .d v,x=>bR F w v x
 | .agg cs,x=>∃ l:Array Value,x = .agg l/\aq yv L F w cs l.toList
 | .tup cs,x=>∃ l:Array Value,x = .tuple l/\aq yv L F w cs l.toList
 | .ptr id off,x=>x = .pointer (some ⟨L.ρ id,off,none⟩)
 | .ep id sz i off,x=>x = .pointer (some ⟨L.ρ id,i*sz+off,none⟩)
 | .sl id sz off len,x=>∃ a cap,x = .slice a len cap/\len<=cap/\0<sz/\((len=0/\cap=0)\/(a=some ⟨L.ρ id,off*sz,none⟩/\(off+cap)*sz<=L.κ id))
 | .mp id,x=>x = .map (some (L.ρ id))
 | .it id,x=>x = .pointer (some ⟨L.ρ id,0,none⟩)
 | .clo f cs,x=>∃ l:Array Value,x = .func (.func f) #[] l/\aq yv L F w cs l.toList
 | .yld,x=>∃ l,yv=some l/\x = .func (.yield l) #[] #[]
 | .unk,x=>P6 x
def aq(yv:Option Nat)(L:Loc)(F:Nat->Nat)(w:World):List V->List Value->Prop
 | [],l=>l = []
 | c::r,l=>∃ x l',l=x::l'/\br yv L F w c x/\aq yv L F w r l'
end
def dE{α:Type}(n:Nat)(l:List (List α)):Prop:=∀ e∈l,e.length=n
def tM(en:Array MapEntry)(c:Nat):Prop:=c=en.size /\ ∀ (i:Nat) (e:MapEntry),en[i]?=some e->e.born=i
def cg(s:ByteArray):List Value:=s.data.toList.map fun b=>Value.int .u8 b.toNat
def bU(yv:Option Nat)(L:Loc)(F:Nat->Nat)(w:World)(id:Nat):Obj->Prop
 | .box cs=>∃ (c:Array Value) (T:TypeId),w.heap[L.ρ id]?=some (.cells c T (0,0))/\aq yv L F w cs.bJ c.toList
 | .arr sz es=>0<sz/\dE sz es.bJ/\((es.bJ = []/\L.κ id=0) \/ ∃ (c:Array Value) (T:TypeId),w.heap[L.ρ id]?=some (.cells c T (0,0))/\c.size=L.κ id /\
   es.bJ.length*sz<=c.size/\aq yv L F w es.bJ.flatten (c.toList.take (es.bJ.length*sz)))
 | .map cY=>∃ en c,w.heap[L.ρ id]?=some (.map en c)/\cf F w cY en.toList/\tM en c
 | .iter s pos=>w.heap[L.ρ id]?=some (.stringIter s pos)
 | .tb t l=>∃ c:Array Value,w.heap[L.ρ id]?=some (.cells c t (0,0))/\aq yv L F w l c.toList
 | .buf t s=>∃ c:Array Value,w.heap[L.ρ id]?=some (.cells c t (0,0))/\c.size=L.κ id/\s.size<=c.size/\c.toList.take s.size=cg s
 | .mit v n todo cur=>∃ (r:Nat) (seen:Array Nat),br yv L F w v (.map (some r))/\w.heap[L.ρ id]?=some (.mapIter (some r) n seen n)/\(∀ i,i∈todo↔i<n/\seen.contains i=false) /\ ∀ i,cur=some i->seen.back?=some i
def aS(L:Loc)(id:Nat):Obj->Prop
 | .arr _ _=>L.κ id≠0
 | _=>True
structure Cx(σ:Type) where
 C:σ->Nat->Prop
 HG:σ->World->(Nat->Nat)->Prop
 yv:Option Nat
 B7:Option Go.Loop
 pρ:Nat->Nat
 pκ:Nat->Nat
 base:List Deferred:=[]
 gE:∀ {s w F w' F'},HG s w F->Tr F w F' w'->(∀ b,w'.heap.size<=b->F' b=0)->(∀ b,C s b->w'.heap[b]?=w.heap[b]?/\F' b=F b)->HG s w' F'
structure a7{σ:Type}(cx:Cx σ)(L:Loc)(F:Nat->Nat)(h:Heap)(s:σ)(w:World):Prop where
 hg:cx.HG s w F
 hP:∀ b,cx.C s b->b<w.heap.size
 fresh:∀ b,w.heap.size<=b->F b=0
 obj:∀ id o,get h id=some o->bU cx.yv L F w id o
 own:∀ id o,get h id=some o->aS L id o->F (L.ρ id)=0/\¬ cx.C s (L.ρ id)
 inj:∀ i j o p,get h i=some o->get h j=some p->aS L i o->aS L j p->L.ρ i=L.ρ j->i=j
def pinned(i:Nat):Prop:=1000000<=i/\i<2000000
def nz(L L':Loc):Prop:=∀ i,pinned i->L'.ρ i=L.ρ i/\L'.κ i=L.κ i
def mark(r:Nat):Deferred:={ target:=.collected r,args:=#[] }
structure Good{σ:Type}(cx:Cx σ)(r:Option Nat)(m:List Nat)(L:Loc)(F:Nat->Nat)(st:St σ)(a:Act)(w:World):Prop where
 heap:a7 cx L F st.heap st.s w
 env:∀ s v,get st.env s=some v -> ∃ x,a.tmps[s]?=some x/\br cx.yv L F w v x
 tZ:a.defers=m.map mark++cx.base
 pB:∀ b∈m,w.heap[b]?=some (.deferred (some []))/\¬ cx.C st.s b
 xe:m.Nodup
 lk:∀ l,r=some l -> ∃ lp,(w.heap[l]?=some (.loop lp)/\cx.B7=some lp)/\¬ cx.C st.s l
 jF:∀ i,pinned i->L.ρ i=cx.pρ i/\L.κ i=cx.pκ i
 ve:a.tmps.size<=1000000
structure Hd(σ:Type) where
 y:List V->Heap->σ->(V->Heap->σ->Prop)->Prop
 p:Value->Env->Heap->σ->Prop:=fun _ _ _ _=>False
def Hd.np{σ:Type}(Y:Hd σ):Hd σ:={ y:=Y.y }
structure Laid(P:Program)(w:World):Prop where
 tab : ∀ g, P.globalNamed "internal/strconv.uint64pow10" = some g -> Lib.TabIs P w "internal/strconv.uint64pow10" .u64 Lib.pow10Tab
 len : ∀ g, P.globalNamed "internal/bytealg.MaxLen" = some g -> ∃ m, w.cell? ⟨g, 0, none⟩ = some (.int .i64 m)
 syn : ∀ g, P.globalNamed "strconv.ErrSyntax" = some g -> ∃ t v, w.cell? ⟨g, 0, none⟩ = some (.iface t v)
 Zb : ∀ g, P.globalNamed "strconv.ErrRange" = some g -> ∃ t v, w.cell? ⟨g, 0, none⟩ = some (.iface t v)
def oT{σ:Type}(P:Program)(cx:Cx σ):Prop:=∀ s w F,cx.HG s w F->Laid P w
def fr(r:Option Nat):Fence:={ Fence.wide with round:=r }
def Lv{σ:Type}(P:Program)(Y:Hd σ)(cx:Cx σ):Prop:=
 ∀ l,cx.yv=some l -> ∀ (args:List V) (h:Heap) (s:σ) (Q:V->Heap->σ->Prop),Y.y args h s Q ->
  ∀ (L:Loc) (F:Nat->Nat) (aT:Array Value) (w:World),a7 cx L F h s w->aq cx.yv L F w args aT.toList ->
   ∃ fn tmps xR body,(Instr.yield l aT).run P w = .ok (.round l fn tmps xR body) w /\
    RoundIn Fence.wide 0 P l fn tmps xR body w fun e w'=>∃ x,e = .returned x /\ ∃ v h' s' L' F',Q v h' s'/\a7 cx L' F' h' s' w'/\br cx.yv L' F' w' v x/\Tr F w F' w'/\nz L L' /\
     (∀ b,b<w.heap.size->¬ cx.C s b->¬ cx.C s' b) /\
     (∀ b,b<w.heap.size->¬ cx.C s b->(∀ id o,get h id=some o->aS L id o->L.ρ id≠b)->w'.heap[b]?=w.heap[b]?/\F' b=F b) /\
     (∀ id o,get h' id=some o->aS L' id o->L'.ρ id<w.heap.size -> ∃ pz o',get h pz=some o'/\aS L pz o'/\L.ρ pz=L'.ρ id)
structure cC{σ:Type}(P:Program)(Y:Hd σ)(cx:Cx σ):Prop where
 yld:Lv P Y cx
 laid:oT P cx
inductive fu where
 | normal|exit (id:Nat)|ret
 deriving Inhabited
def fu.Sc:fu->Exit
 | .normal=>.normal
 | .exit i=>.exit i
 | .ret=>.ret
def codeOk(n:Nat):Code->Bool
 | .region _ ops _=>ops.toList.all fun o=>match o.dst with
  | some d=>decide (d<n)
  | none=>true
 | .seq a b=>codeOk n a&&codeOk n b
 | .cond _ a b=>codeOk n a&&codeOk n b
 | .block _ a=>codeOk n a
 | .loop a=>codeOk n a
 | .scope a=>codeOk n a
 | .rangeFunc _ ps a b=>ps.toList.all (fun d=>decide (d<n))&&codeOk n a&&codeOk n b
 | _=>true
def qj{σ:Type}(Y:Hd σ)(cx:Cx σ)(r:Option Nat)(F:Nat->Nat)(w:World)(n:Nat)(e:Exit)(a':Act)(w':World):Prop:=
 ∃ v en h s m' L' F',e = .panic [{ v:=v,recovered:=false }]/\Y.p v en h s/\Good cx r m' L' F' ⟨en,h,s⟩ a' w'/\Tr F w F' w'/\a'.tmps.size=n
theorem qj.trans{σ:Type}{Y:Hd σ}{cx:Cx σ}{r:Option Nat}{F F0:Nat->Nat}{w w0:World}{n n0:Nat}{e:Exit}{a':Act}{w':World}(h:qj Y cx r F w n e a' w')(tr:Tr F0 w0 F w)(hn:n=n0):qj Y cx r F0 w0 n0 e a' w':=by
 obtain⟨v,en,hp,s,m',L',F',h1,h2,h3,h4,h5⟩:=h;exact⟨v,en,hp,s,m',L',F',h1,h2,h3,Tr.trans tr h4,h5.trans hn⟩
def Gs{σ:Type}(P:Program)(Y:Hd σ)(c:Code)(st:St σ)(K:fu->St σ->Prop):Prop:=
 ∀ (cx:Cx σ),cC P Y cx -> ∀ (r:Option Nat) (m:List Nat) (L:Loc) (F:Nat->Nat) (a:Act) (w:World),Good cx r m L F st a w->codeOk a.tmps.size c=true ->
  c.wpIn (fr r) 0 P (fun e a' w'=>(∃ e' st' m' L' F',e=e'.Sc/\K e' st'/\Good cx r m' L' F' st' a' w'/\Tr F w F' w'/\a'.tmps.size=a.tmps.size)\/qj Y cx r F w a.tmps.size e a' w') a w
def R0{σ:Type}(P:Program)(Y:Hd σ)(st:St σ)(d:Option Nat)(f:FuncId)(args:List V)(K:St σ->Prop):Prop:=
 (∀ (vs:Array Value) (w:World),(callFunc f vs).run P w = .ok (.enter f vs) w) /\
 ∀ (cx:Cx σ),cC P Y cx -> ∀ (r:Option Nat) (m:List Nat) (L:Loc) (F:Nat->Nat) (a:Act) (w:World) (aT:Array Value),Good cx r m L F st a w->(∀ k,d=some k->k<a.tmps.size)->aq cx.yv L F w args aT.toList ->
  CallsIn Fence.wide 0 P f aT w fun e w'=>(∃ x,e = .returned x /\ ∃ st' L' F',K st'/\Good cx r m L' F' st' (a.put d x) w'/\Tr F w F' w') \/
   ∃ v en h s L' F',e = .panicked [{ v:=v,recovered:=false }]/\Y.p v en h s/\Good cx r m L' F' ⟨en,h,s⟩ a w'/\Tr F w F' w'
def UR{σ:Type}(P:Program)(Y:Hd σ)(st:St σ)(d:Option Nat)(args:List V)(K:St σ->Prop):Prop:=
 ∀ (cx:Cx σ),cC P Y cx -> ∀ (l:Nat),cx.yv=some l -> ∀ (r:Option Nat) (m:List Nat) (L:Loc) (F:Nat->Nat) (a:Act) (w:World) (aT:Array Value),Good cx r m L F st a w->(∀ k,d=some k->k<a.tmps.size)->aq cx.yv L F w args aT.toList ->
  ∃ fn tmps xR body,(Instr.yield l aT).run P w = .ok (.round l fn tmps xR body) w /\
   RoundIn Fence.wide 0 P l fn tmps xR body w fun e w'=>∃ x,e = .returned x /\ ∃ st' L' F',K st'/\Good cx r m L' F' st' (a.put d x) w'/\Tr F w F' w'
def bV{σ:Type}(st:St σ):Wr->St σ
 | .set s v=>⟨put st.env s v,st.heap,st.s⟩
 | .obj id o=>⟨st.env,put st.heap id o,st.s⟩
 | .new id o=>⟨dv (aJ (bp id)) st.env,(id,o)::dv (Obj.aJ (bp id)) (cut st.heap id),st.s⟩
 | .newq id o=>⟨st.env,(id,o)::st.heap,st.s⟩
 | .del id=>⟨st.env,cut st.heap id,st.s⟩
def aL{σ:Type}(st:St σ):List Wr->St σ
 | []=>st
 | w::r=>aL (bV st w) r
def dR{α:Type}(h k:xA α):Prop:=∀ s v,get h s=some v->get k s=some v
def Out(P:Program)(e:Env)(h:Heap)(o:Oper)(ws:List Wr):Prop:=
 ∀ {σ:Type} (cx:Cx σ) (r:Option Nat) (m:List Nat) (L:Loc) (F:Nat->Nat) (st:St σ) (a:Act) (w:World),dR e st.env->dR h st.heap->Good cx r m L F st a w ->
  (∀ k,o.dst=some k->k<a.tmps.size) ->
  ∃ x w' nx,(execOp a.eval o).run P w = .ok nx w'/\(nx = .value x\/(nx = .skip/\x=undef)) /\ ∃ L' F',Good cx r m L' F' (aL st ws) (a.put o.dst x) w'/\Tr F w F' w'
def ny(P:Program)(e:Env)(h:Heap)(d:Option Nat)(f:FuncId)(args:List V)(ws:List Wr):Prop:=
 (∀ (vs:Array Value) (w:World),(callFunc f vs).run P w = .ok (.enter f vs) w) /\
 ∀ {σ:Type} (cx:Cx σ),oT P cx -> ∀ (r:Option Nat) (m:List Nat) (L:Loc) (F:Nat->Nat) (st:St σ) (a:Act) (w:World) (aT:Array Value),dR e st.env->dR h st.heap->Good cx r m L F st a w->(∀ k,d=some k->k<a.tmps.size)->aq cx.yv L F w args aT.toList ->
  CallsIn Fence.wide 0 P f aT w fun e w'=>∃ x,e = .returned x /\ ∃ L' F',Good cx r m L' F' (aL st ws) (a.put d x) w'/\Tr F w F' w'
structure Lu{σ:Type}(P:Program)(Y:Hd σ)(f:FuncId)(args:List V)(h:Heap)(s:σ)(Q:V->Heap->σ->Prop):Prop where
 enter:∀ (vs:Array Value) (w:World),(callFunc f vs).run P w = .ok (.enter f vs) w
 run:∀ (cx:Cx σ),cC P Y cx -> ∀ (L:Loc) (F:Nat->Nat) (aT:Array Value) (w:World),a7 cx L F h s w->aq cx.yv L F w args aT.toList ->
  CallsIn Fence.wide 0 P f aT w fun e w'=>∃ x,e = .returned x /\ ∃ v h' s' L' F',Q v h' s'/\a7 cx L' F' h' s' w'/\br cx.yv L' F' w' v x/\Tr F w F' w'/\nz L L'
inductive eg{σ:Type}(P:Program)(Y:Hd σ)(st:St σ)(d:Option Nat)(f:FuncId)(args:List V)(K:St σ->Prop):Prop where
 | mk (h:R0 P Y st d f args K)
inductive GD{σ:Type}(P:Program)(Y:Hd σ)(st:St σ)(d:Option Nat)(args:List V)(K:St σ->Prop):Prop where
 | mk (h:UR P Y st d args K)
inductive Ec{σ φ:Type}(P:Program)(ft:φ)(Y:Hd σ)(c:Code)(st:St σ)(K:fu->St σ->Prop):Prop where
 | mk (h:Gs P Y (.loop c) st K)
inductive tP{σ φ:Type}(P:Program)(ft:φ)(Y:Hd σ)(id:Nat)(ops:Array Oper)(st:St σ)(K:fu->St σ->Prop):Prop where
 | mk (h:Gs P Y (.region id ops true) st K)
inductive kc{σ φ:Type}(P:Program)(ft:φ)(Y:Hd σ)(g:Operand)(ps:Array Tmp)(a b:Code)(st:St σ)(K:fu->St σ->Prop):Prop where
 | mk (h:Gs P Y (.rangeFunc g ps a b) st K)
inductive ga(P:Program)(e:Env)(h:Heap)(d:Option Nat)(f:FuncId)(args:List V)(K:List Wr->Prop):Prop where
 | mk (ws:List Wr) (hk:K ws) (ho:ny P e h d f args ws)
end Go.PX
namespace Go.PX
def LX{σ:Type}(P:Program)(Y:Hd σ)(dst:Option Nat)(f:Operand)(args:List Operand)(e:Env)(h:Heap)(s:σ)(go:Env->Heap->σ->Prop):Prop:=
 match aR e f,et e args with
 | some (.d (.clo g bc)),some l=>eg P Y ⟨e,h,s⟩ dst g (l++inj bc) fun|⟨e,h,s⟩=>go e h s
 | some (.clo g bc),some l=>eg P Y ⟨e,h,s⟩ dst g (l++bc) fun|⟨e,h,s⟩=>go e h s
 | some (.d (.mth g first)),some l=>eg P Y ⟨e,h,s⟩ dst g (inj first++l) fun|⟨e,h,s⟩=>go e h s
 | some .yld,some l=>GD P Y ⟨e,h,s⟩ dst l fun|⟨e,h,s⟩=>go e h s
 | _,_=>False
def isSlice(T:fA)(t:TypeId):Bool:=
 match T.get t with
 | some ti=>match ti.kd with
  | .slice _=>true
  | _=>false
 | none=>false
def Dq(T:fA)(e:Env)(op:BinOp)(t:TypeId)(x y:Operand):Option (Bool×Prop):=
 match isSlice T t,op,y,aR e x with
 | true,.eql,.const (.slice none 0 0),some (.d (.vs es))=>some (false,es ≠ [])
 | true,.neq,.const (.slice none 0 0),some (.d (.vs es))=>some (true,es ≠ [])
 | true,.eql,.const (.slice none 0 0),some (.sl _ _ _ n)=>some (false,0<n)
 | true,.neq,.const (.slice none 0 0),some (.sl _ _ _ n)=>some (true,0<n)
 | true,.eql,.const (.slice none 0 0),some (.d .nils)=>some (true,True)
 | true,.neq,.const (.slice none 0 0),some (.d .nils)=>some (false,True)
 | _,_,_,_=>none
def Cm(neg b:Bool):Bool:=
 match neg with
 | true=>!b
 | false=>b
inductive UN(neg:Bool)(ne:Prop)(K:Bool->Prop):Prop where
 | mk (h:∀ b,(ne->b=false)->K (Cm neg b))
inductive UM(cY:List (D×D))(n:Nat)(todo:List Nat)(K:Option (Nat×(D×D))->Prop):Prop where
 | mk (hn:cY.length=n) (h0:todo = []->K none) (h1:∀ i kv,i∈todo->cY[i]?=some kv->K (some (i,kv)))
def Ns{σ:Type}(dst:Option Nat)(x:Operand)(e:Env)(h:Heap)(s:σ)(go:Env->Heap->σ->Prop):Prop:=
 match aR e x with
 | some (.it id)=>match get h id with
  | some (.mit v n todo cur)=>match PJ h v with
   | some cY=>UM cY n todo fun r=>match r with
    | none=>bz (bw dst (.d (.tup [.bool false]))) e h fun e h=>go e h s
    | some (i,(k,u))=>bz (.obj id (.mit v n (todo.filter fun j=>!Nat.beq j i) (some i))::bw dst (.d (.tup [.bool true,k,u]))) e h fun e h=>go e h s
   | none=>False
  | _=>False
 | _=>False
inductive Lw(P:Program)(t:TypeId)(name:String)(K:FuncId->Prop):Prop where
 | mk (g:FuncId) (h:∀ v w,(method (P.types.size+Made.depth) t v name).run P w = .ok (g,v) w) (hk:K g)
def TD{σ:Type}(P:Program)(Y:Hd σ)(dst:Option Nat)(f:Operand)(name:String)(args:List Operand)(e:Env)(h:Heap)(s:σ)(go:Env->Heap->σ->Prop):Prop:=
 match aR e f,et e args with
 | some (.d (.ifc t v)),some l=>Lw P t name fun g=>eg P Y ⟨e,h,s⟩ dst g (.d v::l) fun|⟨e,h,s⟩=>go e h s
 | _,_=>False
def TZ{σ:Type}(Y:Hd σ)(x:Operand)(e:Env)(h:Heap)(s:σ):Prop:=
 match aR e x with
 | some (.d (.ifc t (.int k n)))=>Y.p (.iface t (.int k n)) e h s
 | _=>False
def Gc{σ:Type}(P:Program)(T:fA)(Y:Hd σ)(dst:Option Nat)(op:Op)(e:Env)(h:Heap)(s:σ)(go:Env->Heap->σ->Prop):Prop:=
 match op with
 | .call ⟨callee,args,tys⟩=>match callee with
  | .builtin b=>fH T e h dst b args tys fun ws=>bz ws e h fun e h=>go e h s
  | .value f=>LX P Y dst f args.toList e h s go
  | .invoke f name=>TD P Y dst f name args.toList e h s go
 | .panic x=>TZ Y x e h s
 | .next x b=>match b with
  | true=>gW T e h dst (.next x true) fun ws=>bz ws e h fun e h=>go e h s
  | false=>Ns dst x e h s go
 | .binOp op t x y ty=>match Dq T e op t x y with
  | some (neg,ne)=>UN neg ne fun b=>bz (bw dst (.d (.bool b))) e h fun e h=>go e h s
  | none=>gW T e h dst (.binOp op t x y ty) fun ws=>bz ws e h fun e h=>go e h s
 | op=>gW T e h dst op fun ws=>bz ws e h fun e h=>go e h s
noncomputable def wpOps{σ:Type}(P:Program)(T:fA)(Y:Hd σ)(ops:List Oper)(l:List Oper):Env->Heap->σ->(Env->Heap->σ->Prop)->Prop:=
 List.rec (motive:=fun _=>Env->Heap->σ->(Env->Heap->σ->Prop)->Prop) (fun e h s K=>K e h s)
  (fun o _ ih e h s K=>match o with
   | ⟨dst,op,_,_,_,guard⟩=>nT ops e guard
    (fun w=>bz w e h fun e h=>Gc P T Y dst op e h s fun e h s=>ih e h s K)
    (fun w=>bz w e h fun e h=>bz (bw dst (.d (.tup []))) e h fun e h=>ih e h s K)) l
theorem wpOps_cons{σ:Type}(P:Program)(T:fA)(Y:Hd σ)(ops:List Oper)(dst:Option Nat)(op:Op)(ty:TypeId)(pos:String)(after:Array Edge)(guard:Option (Nat×Bool))(l:List Oper)(e:Env)(h:Heap)(s:σ)(K:Env->Heap->σ->Prop) :
  wpOps P T Y ops (⟨dst,op,ty,pos,after,guard⟩::l) e h s K=nT ops e guard
    (fun w=>bz w e h fun e h=>Gc P T Y dst op e h s fun e h s=>wpOps P T Y ops l e h s K)
    (fun w=>bz w e h fun e h=>bz (bw dst (.d (.tup []))) e h fun e h=>wpOps P T Y ops l e h s K):=rfl
structure OT where
 ts:List Nat
 mh:List Nat
def D8:List Nat->Nat->Bool
 | [],_=>false
 | k::r,n=>match Nat.beq k n with
  | true=>true
  | false=>D8 r n
def mB:List Nat->List Nat->Bool
 | [],_=>true
 | k::r,l=>match D8 l k with
  | true=>false
  | false=>mB r l
structure OO where
 os:List Nat
 mo:List Nat
 nw:List Nat
 xM:List Nat
def apart(a b:OO):Bool:=
 match mB a.mo b.os,mB a.mo b.mo,mB b.mo a.os,mB b.nw a.xM with
 | true,true,true,true=>true
 | _,_,_,_=>false
def mw(o:OO)(acc:List OO):List Nat->Bool
 | []=>true
 | i::r=>match acc[i]? with
  | some p=>match apart o p with
   | true=>mw o acc r
   | false=>false
  | none=>false
def tn(mk:List Nat):List OO->Bool
 | []=>true
 | p::r=>match mB mk p.xM,mB mk p.mo with
  | true,true=>tn mk r
  | _,_=>false
def Qy:List Nat->List Nat->Bool
 | [],_=>true
 | k::r,l=>match D8 l k with
  | true=>Qy r l
  | false=>false
def Fa(d:Nat)(h:Heap):V->List Nat:=
 match d with
 | 0=>fun _=>[]
 | d+1=>fun v=>match v with
  | .d _=>[]
  | .agg cs=>cs.flatMap (Fa d h)
  | .tup cs=>cs.flatMap (Fa d h)
  | .clo _ cs=>cs.flatMap (Fa d h)
  | v=>match nZ v with
   | none=>[]
   | some i=>i::(match get h i with
    | some (.box (.vv cs))=>cs.flatMap (Fa d h)
    | some (.arr _ (.vv es))=>es.flatMap fun e=>e.flatMap (Fa d h)
    | some (.mit v _ _ _)=>Fa d h v
    | some (.tb _ cs)=>cs.flatMap (Fa d h)
    | _=>[])
def Na(d:Nat)(e:Env)(h:Heap):List Nat->List Nat
 | []=>[]
 | s::r=>match get e s with
  | some v=>Fa d h v++Na d e h r
  | none=>Na d e h r
def nj(e:Env):List Nat->List Nat
 | []=>[]
 | s::r=>match get e s with
  | some v=>match nZ v with
   | some i=>i::nj e r
   | none=>nj e r
  | none=>nj e r
def looksAt(op:Op)(e:Env)(h:Heap)(ts:List Nat):List Nat:=
 match op with
 | .load _ _=>nj e ts
 | .store _ (.tmp a) _=>nj e [a]
 | .call ⟨callee,_,_⟩=>match callee with
  | .builtin _=>nj e ts
  | _=>Na 9 e h ts
 | .lookup _ _ _ _=>nj e ts
 | .mapUpdate _ (.tmp a) _ _=>nj e [a]
 | .insert _ (.tmp a) _ _=>nj e [a]
 | .mapEntry _ (.tmp a) _=>nj e [a]
 | .entryStore _ (.tmp a) _ _=>nj e [a]
 | _=>[]
def bh{α:Type}(l:List Nat):xA α->xA α
 | []=>[]
 | (k,v)::r=>match D8 l k with
  | true=>(k,v)::bh l r
  | false=>bh l r
def tE:List Wr->List Wr
 | []=>[]
 | w::r=>(match w with
  | .new id o=>.newq id o
  | w=>w)::tE r
def dy:List Wr->List Nat
 | []=>[]
 | w::r=>match w with
  | .set _ _=>dy r
  | .obj i _=>i::dy r
  | .new i _=>i::dy r
  | .newq i _=>i::dy r
  | .del i=>i::dy r
def ca:List Wr->List Nat
 | []=>[]
 | w::r=>match w with
  | .new i _=>i::ca r
  | _=>ca r
mutual
def cQ:V->List Nat
 | .d _=>[]
 | .agg cs=>ck cs
 | .tup cs=>ck cs
 | .clo _ cs=>ck cs
 | .ptr j _=>[j]
 | .ep j _ _ _=>[j]
 | .sl j _ _ _=>[j]
 | .mp j=>[j]
 | .it j=>[j]
 | .yld=>[]
 | .unk=>[]
def ck:List V->List Nat
 | []=>[]
 | v::r=>cQ v++ck r
end
def iq:Obj->List Nat
 | .box (.vv l)=>ck l
 | .arr _ (.vv l)=>ck l.flatten
 | .mit v _ _ _=>cQ v
 | .tb _ l=>ck l
 | _=>[]
def cT:List Wr->List Nat
 | []=>[]
 | w::r=>match w with
  | .set _ v=>cQ v++cT r
  | .obj _ o=>iq o++cT r
  | .new _ o=>iq o++cT r
  | .newq _ o=>iq o++cT r
  | .del _=>cT r
def gh:List Wr->Bool
 | []=>true
 | w::r=>match w with
  | .set _ v=>match mB (ca r) (cQ v) with
   | true=>gh r
   | false=>false
  | .obj i o=>match mB (ca r) (i::iq o) with
   | true=>gh r
   | false=>false
  | .new i o=>match mB (ca r) (i::iq o) with
   | true=>gh r
   | false=>false
  | .newq _ _=>false
  | .del _=>gh r
def pI(d:Option Nat):List Wr->Bool
 | []=>true
 | w::r=>match w with
  | .set s _=>match d with
   | some d=>match Nat.beq s d with
    | true=>pI d r
    | false=>false
   | none=>false
  | _=>pI d r
def nC(d:Option Nat)(made:List Nat)(acc:List OO)(mh:List Nat)(ws:List Wr)(o:OO):Bool:=
 match mw o acc mh,tn o.nw acc,Qy o.nw made,gh ws,pI d ws with
 | true,true,true,true,true=>true
 | _,_,_,_,_=>false
noncomputable def Jr(P:Program)(T:fA)(made:List Nat)(ops:List Oper)(l:List (Oper×OT)):List OO->Env->Heap->(Env->Heap->Prop)->Prop:=
 List.rec (motive:=fun _=>List OO->Env->Heap->(Env->Heap->Prop)->Prop) (fun _ e h K=>K e h)
  (fun o _ ih acc e h K=>match o with
   | (⟨dst,op,_,_,after,guard⟩,⟨ts,mh⟩)=>eA (looksAt op e h ts) fun os=>fw (bh ts e) fun e'=>iP (bh os h) fun h'=>
    nT ops e' guard
     (fun w=>
      let go:=fun ws=>eA (dy ws) fun mo=>eA (ca ws) fun mk=>eA (cT ws) fun xM=>
       gR (nC dst made acc mh ws ⟨os,mo,mk,xM⟩) (bz w e h fun e h=>bz (tE ws) e h fun e h=>ih (acc ++ [⟨os,mo,mk,xM⟩]) e h K)
      match op with
      | .call ⟨callee,args,tys⟩=>match callee with
       | .builtin b=>fH T e' h' dst b args tys go
       | .value f=>match aR e' f,et e' args.toList with
        | some (.d (.clo g bc)),some l=>ga P e' h' dst g (l++inj bc) go
        | some (.clo g bc),some l=>ga P e' h' dst g (l++bc) go
        | _,_=>False
       | .invoke f name=>match aR e' f,et e' args.toList with
        | some (.d (.ifc t v)),some l=>Lw P t name fun g=>ga P e' h' dst g (.d v::l) go
        | _,_=>False
      | op=>gW T e' h' dst op go)
     (fun w=>gR (mw ⟨os,[],[],[]⟩ acc mh) (bz w e h fun e h=>bz (bw dst (.d (.tup []))) e h fun e h=>ih (acc ++ [⟨os,[],[],[]⟩]) e h K))) l
def iY(i j:Nat)(v:V):V:=
 match v with
 | .ptr k off=>match Nat.beq k i with
  | true=>.ptr j off
  | false=>v
 | .ep k sz n off=>match Nat.beq k i with
  | true=>.ep j sz n off
  | false=>v
 | .sl k sz off n=>match Nat.beq k i with
  | true=>.sl j sz off n
  | false=>v
 | .mp k=>match Nat.beq k i with
  | true=>.mp j
  | false=>v
 | .it k=>match Nat.beq k i with
  | true=>.it j
  | false=>v
 | v=>v
def oC(i j:Nat):Heap->Heap
 | []=>[]
 | (k,o)::r=>match Nat.beq k i with
  | true=>(j,o.aJ (iY i j))::oC i j r
  | false=>(k,o.aJ (iY i j))::oC i j r
noncomputable def wK(l:List Nat):Env->Heap->(Env->Heap->Prop)->Prop:=
 List.rec (motive:=fun _=>Env->Heap->(Env->Heap->Prop)->Prop) (fun e h K=>K e h)
  (fun d _ ih e h K=>match get h d with
  | none=>fw (dv (aJ (bp d)) e) fun e=>iP (dv (Obj.aJ (bp d)) h) fun h=>ih e h K
  | some _=>fw (dv (aJ (iY d (500000+d))) (dv (aJ (bp (500000+d))) e)) fun e=>
    iP (oC d (500000+d) (dv (Obj.aJ (bp (500000+d))) (cut h (500000+d)))) fun h=>ih e h K) l
structure RT where
 made:List Nat
 jV:List OT
structure FT where
 ks:List Nat
 tb:List (Nat×RT)
def yH(v:Option V)(X Y:Prop):Prop:=
 match v with
 | some (.d (.bool t))=>QK t X Y
 | _=>False
def GI{σ:Type}(i:Nat)(K:fu->St σ->Prop)(e:fu)(st:St σ):Prop:=
 match e with
 | .exit j=>match Nat.beq j i with
  | true=>K .normal st
  | false=>K (.exit j) st
 | e=>K e st
noncomputable def Ct{σ:Type}(P:Program)(T:fA)(ft:FT)(Y:Hd σ)(c:Code):St σ->(fu->St σ->Prop)->Prop:=
 Code.rec (motive:=fun _=>St σ->(fu->St σ->Prop)->Prop)
  (fun st K=>K .normal st)
  (fun id ops draw st K=>match st,draw with
   | ⟨e,h,s⟩,false=>wpOps P T Y ops.toList ops.toList e h s fun e h s=>fw (bh ft.ks e) fun e=>K .normal ⟨e,h,s⟩
   | ⟨e,h,s⟩,true=>match get ft.tb id with
    | some ⟨made,jV⟩=>wK made e h fun e h=>Jr P T made ops.toList (ops.toList.zip jV) [] e h fun e h=>fw (bh ft.ks e) fun e=>K .normal ⟨e,h,s⟩
    | none=>tP P ft Y id ops ⟨e,h,s⟩ K)
  (fun _ _ iha ihb st K=>iha st fun e st=>match e with
   | .normal=>ihb st K
   | e=>K e st)
  (fun c _ _ iha ihb st K=>match st with
   | ⟨e,h,s⟩=>yH (aR e c) (iha ⟨e,h,s⟩ K) (ihb ⟨e,h,s⟩ K))
  (fun i _ ih st K=>ih st (GI i K))
  (fun c _ st K=>Ec P ft Y c st K)
  (fun g ps a b _ _ st K=>kc P ft Y g ps a b st K)
  (fun i st K=>K (.exit i) st)
  (fun _ ih st K=>ih st K)
  (fun _ st K=>K .normal st)
  (fun _ _ _=>False)
  (fun st K=>K .ret st)
  (fun _ _ _=>False) c
def dS:Nat->List V->Env
 | _,[]=>[]
 | i,v::r=>(i,v)::dS (i+1) r
noncomputable def FP(T:fA)(g:Env)(h:Heap)(l:List ResultVar):(List V->Prop)->Prop:=
 List.rec (motive:=fun _=>(List V->Prop)->Prop) (fun K=>K [])
  (fun r _ ih K=>match r with
  | .tmp t=>match get g t with
   | some v=>ih fun l=>K (v::l)
   | none=>False
  | .cell a t=>Fo T g h t (.tmp a) fun v=>ih fun l=>K (v::l)) l
def Jj(l:List Value):Value:=
 match l with
 | [x]=>x
 | l=>.tuple l.toArray
inductive p9{σ:Type}(l:List V)(h:Heap)(s:σ)(Q:V->Heap->σ->Prop):Prop where
 | mk (hr:∀ (cx:Cx σ) (L:Loc) (F:Nat->Nat) (aT:List Value) (w:World),a7 cx L F h s w->aq cx.yv L F w l aT ->
   ∃ v h' L' F',Q v h' s/\a7 cx L' F' h' s w/\br cx.yv L' F' w v (Jj aT)/\Tr F w F' w/\nz L L')
def Sk{σ:Type}(T:fA)(rs:List ResultVar)(Q:V->Heap->σ->Prop)(e:fu)(st:St σ):Prop:=
 match e with
 | .exit _=>False
 | _=>match st with
  | ⟨e,h,s⟩=>FP T e h rs fun l=>p9 l h s Q
end Go.PX
