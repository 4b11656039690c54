import Derived.Calls
import Derived.RangeFuncLeaves
import Derived.Below
import Derived.Laws.Rows
import Derived.Lib.LaidTab
import Derived.Lib.ItoaNum
set_option linter.all false
namespace Go.PX
inductive D where
 | bool (b:Bool)
 | int (k:IntKind) (n:Int)
 | str (s:ByteArray)
 | agg (cs:List D)
 | tup (cs:List D)
 | vs (es:List (List D))
 | nils
 | ref (cs:List D)
 | nilp
 | mv (kvs:List (D×D))
 | nilm
 | clo (f:FuncId) (caps:List D)
 | mth (f:FuncId) (first:List D)
 | nilf
 | ifc (t:TypeId) (v:D)
 | nili
 deriving Inhabited
inductive V where
 | d (v:D)
 | agg (cs:List V)
 | tup (cs:List V)
 | ptr (id off:Nat)
 | ep (id sz i off:Nat)
 | sl (id sz off len:Nat)
 | mp (id:Nat)
 | it (id:Nat)
 | clo (f:FuncId) (caps:List V)
 | yld
 | unk
 deriving Inhabited
inductive Cells where
 | dd (l:List D)
 | vv (l:List V)
 deriving Inhabited
inductive Els where
 | dd (l:List (List D))
 | vv (l:List (List V))
 deriving Inhabited
inductive Obj where
 | box (cs:Cells)
 | arr (sz:Nat) (es:Els)
 | map (kvs:List (D×D))
 | iter (s:ByteArray) (pos:Nat)
 | buf (t:TypeId) (s:ByteArray)
 | tb (t:TypeId) (l:List V)
 | mit (v:V) (n:Nat) (todo:List Nat) (cur:Option Nat)
 deriving Inhabited
abbrev Tab(α:Type):=List (Nat×α)
def get{α:Type}:Tab α->Nat->Option α
 | [],_=>none
 | (k,v)::r,s=>match Nat.beq k s with
  | true=>some v
  | false=>get r s
def put{α:Type}:Tab α->Nat->α->Tab α
 | [],s,v=>[(s,v)]
 | (k,u)::r,s,v=>match Nat.beq k s with
  | true=>(k,v)::r
  | false=>(k,u)::put r s v
def cut{α:Type}:Tab α->Nat->Tab α
 | [],_=>[]
 | (k,u)::r,s=>match Nat.beq k s with
  | true=>cut r s
  | false=>(k,u)::cut r s
def jT{α β:Type}(f:α->β):Tab α->Tab β
 | []=>[]
 | (k,u)::r=>(k,f u)::jT f r
abbrev Env:=Tab V
abbrev Heap:=Tab Obj
structure St(σ:Type) where
 env:Env
 heap:Heap
 s:σ
def isD:V->Bool
 | .d _=>true
 | _=>false
def qqy:List V->Option (List D)
 | []=>some []
 | .d v::r=>match qqy r with
  | some l=>some (v::l)
  | none=>none
 | _=>none
def mkAgg(cs:List V):V:=
 match qqy cs with
 | some ds=>.d (.agg ds)
 | none=>.agg cs
def mkTup(cs:List V):V:=
 match qqy cs with
 | some ds=>.d (.tup ds)
 | none=>.tup cs
def inj:List D->List V
 | []=>[]
 | v::r=>.d v::inj r
def V.cells:V->Cells
 | .d (.agg cs)=>.dd cs
 | .agg cs=>.vv cs
 | .d v=>.dd [v]
 | v=>.vv [v]
def Cells.len:Cells->Nat
 | .dd l=>l.length
 | .vv l=>l.length
def Cells.toV:Cells->List V
 | .dd l=>inj l
 | .vv l=>l
def Cells.sub(c:Cells)(off n:Nat):V:=
 match c with
 | .dd l=>.d (.agg ((l.drop off).take n))
 | .vv l=>mkAgg ((l.drop off).take n)
def Cells.splice(c:Cells)(off:Nat)(x:Cells):Cells:=
 match c,x with
 | .dd l,.dd m=>.dd (l.take off++m++l.drop (off+m.length))
 | .dd l,.vv m=>.vv (inj (l.take off)++m++inj (l.drop (off+m.length)))
 | .vv l,.dd m=>.vv (l.take off++inj m++l.drop (off+m.length))
 | .vv l,.vv m=>.vv (l.take off++m++l.drop (off+m.length))
def qdE:V->Option Nat
 | .ptr i _=>some i
 | .ep i _ _ _=>some i
 | .sl i _ _ _=>some i
 | .mp i=>some i
 | .it i=>some i
 | _=>none
mutual
def mapId(f:V->V):V->V
 | .d v=>.d v
 | .agg cs=>.agg (zH f cs)
 | .tup cs=>.tup (zH f cs)
 | .clo g cs=>.clo g (zH f cs)
 | .yld=>.yld
 | .unk=>.unk
 | .ptr i o=>f (.ptr i o)
 | .ep i n j o=>f (.ep i n j o)
 | .sl i n o l=>f (.sl i n o l)
 | .mp i=>f (.mp i)
 | .it i=>f (.it i)
def zH(f:V->V):List V->List V
 | []=>[]
 | v::r=>mapId f v::zH f r
end
def qr(f:V->V):List (List V)->List (List V)
 | []=>[]
 | v::r=>zH f v::qr f r
def Obj.mapId(f:V->V):Obj->Obj
 | .box (.dd l)=>.box (.dd l)
 | .box (.vv l)=>.box (.vv (zH f l))
 | .arr sz (.dd l)=>.arr sz (.dd l)
 | .arr sz (.vv l)=>.arr sz (.vv (qr f l))
 | .map kvs=>.map kvs
 | .iter s n=>.iter s n
 | .buf t s=>.buf t s
 | .tb t l=>.tb t (zH f l)
 | .mit v n l u=>.mit (PX.mapId f v) n l u
mutual
def qiM(i:Nat):V->Bool
 | .d _=>false
 | .agg cs=>qam i cs
 | .tup cs=>qam i cs
 | .clo _ cs=>qam i cs
 | .ptr j _=>Nat.beq j i
 | .ep j _ _ _=>Nat.beq j i
 | .sl j _ _ _=>Nat.beq j i
 | .mp j=>Nat.beq j i
 | .it j=>Nat.beq j i
 | .yld=>false
 | .unk=>false
def qam(i:Nat):List V->Bool
 | []=>false
 | v::r=>qiM i v||qam i r
end
def Cells.free(i:Nat):Cells->Bool
 | .dd _=>true
 | .vv l=>!qam i l
def Els.free(i:Nat):Els->Bool
 | .dd _=>true
 | .vv l=>!qam i l.flatten
def qz(id:Nat)(v:V):V:=
 match qdE v with
 | some i=>match Nat.beq i id with
  | true=>.unk
  | false=>v
 | none=>v
inductive Kd where
 | bool|int (k:IntKind)|str
 | slice (e:TypeId)
 | struct (fs:List (Nat×TypeId))
 | array (n:Nat) (e:TypeId)
 | map (k e:TypeId)
 | iface
 | other
 deriving Inhabited
structure TyI where
 size:Nat
 bytes:Nat
 kd:Kd
 isAgg:Bool
 held:Bool
 zero:Option (List D)
 deriving Inhabited
inductive Tys where
 | lf
 | nd (l:Tys) (k:Nat) (v:TyI) (r:Tys)
def Tys.get:Tys->Nat->Option TyI
 | .lf,_=>none
 | .nd l k v r,s=>match Nat.beq s k with
  | true=>some v
  | false=>match Nat.blt s k with
   | true=>l.get s
   | false=>r.get s
def qcZ:Value->Option D
 | .bool b=>some (.bool b)
 | .int k n=>some (.int k n)
 | .string s=>some (.str s)
 | .slice none 0 0=>some .nils
 | .map none=>some .nilm
 | .nilFunc=>some .nilf
 | .pointer none=>some .nilp
 | .nilIface=>some .nili
 | _=>none
def qbh:List Value->Option (List D)
 | []=>some []
 | v::r=>match qcZ v,qbh r with
  | some a,some l=>some (a::l)
  | _,_=>none
def qeF:Value->Option D
 | .agg cs=>match qbh cs.toList with
  | some l=>some (.agg l)
  | none=>none
 | .tuple cs=>match cs.toList with
  | []=>some (.tup [])
  | _=>none
 | v=>qcZ v
def opnd(g:Env):Operand->Option V
 | .tmp t=>get g t
 | .const v=>match qeF v with
  | some v=>some (.d v)
  | none=>none
 | .func f=>some (.d (.clo f []))
 | .global _=>none
def opnds(g:Env):List Operand->Option (List V)
 | []=>some []
 | x::r=>match opnd g x,opnds g r with
  | some a,some l=>some (a::l)
  | _,_=>none
inductive Wr where
 | set (s:Nat) (v:V)
 | obj (id:Nat) (o:Obj)
 | new (id:Nat) (o:Obj)
 | newq (id:Nat) (o:Obj)
 | del (id:Nat)
 deriving Inhabited
def qob(v:V)(K:V->Prop):Prop:=
 match v with
 | .d x=>K (.d x)
 | .agg cs=>K (.agg cs)
 | .tup cs=>K (.tup cs)
 | .ptr i o=>K (.ptr i o)
 | .ep i n j o=>K (.ep i n j o)
 | .sl i n o l=>K (.sl i n o l)
 | .mp i=>K (.mp i)
 | .it i=>K (.it i)
 | .clo f cs=>K (.clo f cs)
 | .yld=>K .yld
 | .unk=>K .unk
noncomputable def qqE(l:List D):(List D->Prop)->Prop:=
 List.rec (motive:=fun _=>(List D->Prop)->Prop) (fun K=>K []) (fun v _ ih K=>ih fun r=>K (v::r)) l
noncomputable def qmS(l:List V):(List V->Prop)->Prop:=
 List.rec (motive:=fun _=>(List V->Prop)->Prop) (fun K=>K []) (fun v _ ih K=>ih fun r=>K (v::r)) l
theorem qiT:∀ (l:List D) (K:List D->Prop),qqE l K=K l
 | [],_=>rfl
 | v::r,K=>qiT r fun r=>K (v::r)
theorem qfW:∀ (l:List V) (K:List V->Prop),qmS l K=K l
 | [],_=>rfl
 | v::r,K=>qfW r fun r=>K (v::r)
noncomputable def qqF(v:Obj)(K:Obj->Prop):Prop:=
 match v with
 | .box (.dd l)=>qqE l fun l=>K (.box (.dd l))
 | .box (.vv l)=>qmS l fun l=>K (.box (.vv l))
 | .arr n (.dd l)=>K (.arr n (.dd l))
 | .arr n (.vv l)=>K (.arr n (.vv l))
 | .map kvs=>K (.map kvs)
 | .iter x n=>K (.iter x n)
 | .buf t s=>K (.buf t s)
 | .tb t l=>qmS l fun l=>K (.tb t l)
 | .mit v n l u=>qob v fun v=>K (.mit v n l u)
noncomputable def jX(l:Env):(Env->Prop)->Prop:=
 List.rec (motive:=fun _=>(Env->Prop)->Prop) (fun K=>K [])
  (fun kv _ ih K=>match kv with
   | (k,v)=>qob v fun v=>ih fun r=>K ((k,v)::r)) l
noncomputable def qbi(l:Heap):(Heap->Prop)->Prop:=
 List.rec (motive:=fun _=>(Heap->Prop)->Prop) (fun K=>K [])
  (fun kv _ ih K=>match kv with
   | (k,v)=>qqF v fun v=>ih fun r=>K ((k,v)::r)) l
noncomputable def jv(l:List Nat):(List Nat->Prop)->Prop:=
 List.rec (motive:=fun _=>(List Nat->Prop)->Prop) (fun K=>K []) (fun n _ ih K=>ih fun r=>K (n::r)) l
noncomputable def qP(l:List Wr):Env->Heap->(Env->Heap->Prop)->Prop:=
 List.rec (motive:=fun _=>Env->Heap->(Env->Heap->Prop)->Prop) (fun e h K=>K e h)
  (fun w _ ih e h K=>match w with
  | .set s v=>jX (put e s v) fun e'=>ih e' h K
  | .obj id o=>qbi (put h id o) fun h'=>ih e h' K
  | .new id o=>jX (jT (mapId (qz id)) e) fun e'=>qbi ((id,o)::jT (Obj.mapId (qz id)) (cut h id)) fun h'=>ih e' h' K
  | .newq id o=>qbi ((id,o)::h) fun h'=>ih e h' K
  | .del id=>qbi (cut h id) fun h'=>ih e h' K) l
def chk(b:Bool)(K:Prop):Prop:=
 match b with
 | true=>K
 | false=>False
def brk(b:Bool)(X Y:Prop):Prop:=
 match b with
 | true=>X
 | false=>Y
inductive arith(k:IntKind)(n:Int)(K:V->Prop):Prop where
 | mk (h:K (.d (.int k (k.wrap n))))
def qpj(es:List (List D))(i:Int)(K:List D->Prop):Prop:=
 match decide (0<=i),es[i.toNat]? with
 | true,some l=>K l
 | _,_=>False
def qhl{α:Type}(cs:List α)(n:Nat)(K:α->Prop):Prop:=
 match cs[n]? with
 | some v=>K v
 | none=>False
def Cells.atK(c:Cells)(n:Nat)(K:V->Prop):Prop:=
 match c with
 | .dd l=>qhl l n fun v=>K (.d v)
 | .vv l=>qhl l n K
def Els.atK(c:Els)(n:Nat)(K:Cells->Prop):Prop:=
 match c with
 | .dd l=>qhl l n fun v=>K (.dd v)
 | .vv l=>qhl l n fun v=>K (.vv v)
def ze:List (List D)->List (List V)
 | []=>[]
 | v::r=>inj v::ze r
def Els.len:Els->Nat
 | .dd l=>l.length
 | .vv l=>l.length
def Els.toV:Els->List (List V)
 | .dd l=>ze l
 | .vv l=>l
def Els.set(c:Els)(n:Nat)(x:Cells):Els:=
 match c,x with
 | .dd l,.dd m=>.dd (l.set n m)
 | .dd l,.vv m=>.vv ((ze l).set n m)
 | .vv l,x=>.vv (l.set n x.toV)
def Els.part(c:Els)(off n:Nat):Els:=
 match c with
 | .dd l=>.dd ((l.drop off).take n)
 | .vv l=>.vv ((l.drop off).take n)
def Els.app(c x:Els):Els:=
 match c,x with
 | .dd l,.dd m=>.dd (l++m)
 | .dd l,.vv m=>.vv (ze l++m)
 | .vv l,x=>.vv (l++x.toV)
def qiU(n:Nat)(lo hi:Option V)(K:Nat->Nat->Prop):Prop:=
 match hi with
 | none=>match lo with
  | none=>K 0 n
  | some (.d (.int _ l))=>chk (decide (0<=l)&&decide (l<=n)) (K l.toNat n)
  | _=>False
 | some (.d (.int _ h))=>chk (decide (0<=h)&&decide (h<=n))
   (match lo with
   | none=>K 0 h.toNat
   | some (.d (.int _ l))=>chk (decide (0<=l)&&decide (l<=h)) (K l.toNat h.toNat)
   | _=>False)
 | _=>False
def qqG(g:Env):Option Operand->Option (Option V)
 | none=>some none
 | some x=>match opnd g x with
  | some v=>some (some v)
  | none=>none
inductive Place where
 | imm (cs:List D)
 | box (id off:Nat)
 | el (id sz i off:Nat)
def qbq(v:V):Option Place:=
 match v with
 | .d (.ref cs)=>some (.imm cs)
 | .ptr id off=>some (.box id off)
 | .ep id sz i off=>some (.el id sz i off)
 | _=>none
def Place.add(n:Nat):Place->V
 | .imm cs=>.d (.ref (cs.drop n))
 | .box id off=>.ptr id (off+n)
 | .el id sz i off=>.ep id sz i (off+n)
def wset(d:Option Nat)(v:V):List Wr:=
 match d with
 | none=>[]
 | some d=>[.set d v]
def D.scalar:D->Bool
 | .agg _ | .tup _=>false
 | _=>true
def V.scalar:V->Bool
 | .d v=>v.scalar
 | .agg _ | .tup _=>false
 | _=>true
def zt:List V->Bool
 | []=>true
 | x::r=>x.scalar&&zt r
def qaW:List D->Bool
 | []=>true
 | x::r=>x.scalar&&qaW r
def qwt(T:Tys)(eq:TypeId->List D->List D->Option Bool):List (Nat×TypeId)->List D->List D->Option Bool
 | [],_,_=>some true
 | (off,t)::r,xs,ys=>
  match T.get t with
  | none=>none
  | some ti=>match Nat.beq ti.size 0,Nat.ble (off+ti.size) xs.length,Nat.ble (off+ti.size) ys.length with
   | false,true,true=>match eq t ((xs.drop off).take ti.size) ((ys.drop off).take ti.size),qwt T eq r xs ys with
    | some a,some b=>some (a&&b)
    | _,_=>none
   | _,_,_=>none
def qwi(eq:List D->List D->Option Bool)(c:Nat):Nat->List D->List D->Option Bool
 | 0,_,_=>some true
 | n+1,xs,ys=>match Nat.ble c xs.length,Nat.ble c ys.length with
  | true,true=>match eq (xs.take c) (ys.take c),qwi eq c n (xs.drop c) (ys.drop c) with
   | some a,some b=>some (a&&b)
   | _,_=>none
  | _,_=>none
def eqV(T:Tys):Nat->TypeId->List D->List D->Option Bool
 | 0,_,_,_=>none
 | d+1,t,xs,ys=>
  match T.get t with
  | none=>none
  | some ti=>match ti.kd with
   | .bool=>match xs,ys with
    | [.bool a],[.bool b]=>some (a ==b)
    | _,_=>none
   | .int _=>match xs,ys with
    | [.int k a],[.int k' b]=>match decide (k=k') with
     | true=>some (decide (a=b))
     | false=>none
    | _,_=>none
   | .str=>match xs,ys with
    | [.str a],[.str b]=>some (decide (a=b))
    | _,_=>none
   | .struct fs=>match ti.held with
    | true=>none
    | false=>qwt T (fun t xs ys=>eqV T d t xs ys) fs xs ys
   | .array n e=>match T.get e with
    | some ei=>match Nat.beq ei.size 0,Nat.beq n 0 with
     | false,false=>qwi (fun xs ys=>eqV T d e xs ys) ei.size n xs ys
     | _,_=>none
    | none=>none
   | _=>none
def qlh(op:BinOp)(k:IntKind)(a b:Int):Int:=
 match op with
 | .and=>k.wrap (BitVec.ofInt k.bits a &&& BitVec.ofInt k.bits b).toNat
 | .or=>k.wrap (BitVec.ofInt k.bits a ||| BitVec.ofInt k.bits b).toNat
 | .xor=>k.wrap (BitVec.ofInt k.bits a ^^^ BitVec.ofInt k.bits b).toNat
 | _=>k.wrap (BitVec.ofInt k.bits a &&& ~~~(BitVec.ofInt k.bits b)).toNat
def qyN(op:BinOp)(k:IntKind)(a b:Int)(K:V->Prop):Prop:=
 match op with
 | .add=>arith k (a+b) K
 | .sub=>arith k (a-b) K
 | .mul=>arith k (a*b) K
 | .quo=>chk (decide (b≠0)) (arith k (a.tdiv b) K)
 | .rem=>chk (decide (b≠0)) (K (.d (.int k (a.tmod b))))
 | .eql=>K (.d (.bool (decide (a=b))))
 | .neq=>K (.d (.bool (!decide (a=b))))
 | .lss=>K (.d (.bool (decide (a<b))))
 | .leq=>K (.d (.bool (decide (a<=b))))
 | .gtr=>K (.d (.bool (decide (b<a))))
 | .geq=>K (.d (.bool (decide (b<=a))))
 | .and=>K (.d (.int k (qlh .and k a b)))
 | .or=>K (.d (.int k (qlh .or k a b)))
 | .xor=>K (.d (.int k (qlh .xor k a b)))
 | .andNot=>K (.d (.int k (qlh .andNot k a b)))
 | _=>False
def qtc(x:Option Bool)(K:V->Prop):Prop:=
 match x with
 | some b=>K (.d (.bool b))
 | none=>False
def qxG:Option Bool->Option Bool
 | some b=>some (!b)
 | none=>none
def qgX(T:Tys)(t:TypeId):Bool:=
 match T.get t with
 | some ti=>match ti.kd with
  | .struct _=>true
  | .array _ _=>true
  | _=>false
 | none=>false
def qqH(T:Tys)(t:TypeId):Bool:=
 match T.get t with
 | some ti=>match ti.kd with
  | .bool=>true
  | _=>false
 | none=>false
def qhm(T:Tys)(t:TypeId):Bool:=
 match T.get t with
 | some ti=>match ti.kd with
  | .iface=>true
  | _=>false
 | none=>false
def qqI:Operand->Bool
 | .const .nilIface=>true
 | _=>false
def qtd(T:Tys)(op:BinOp)(t:TypeId)(b:Bool)(K:V->Prop):Prop:=
 match qhm T t,op with
 | true,.eql=>K (.d (.bool b))
 | true,.neq=>K (.d (.bool (!b)))
 | _,_=>False
def qxH(T:Tys)(op:BinOp)(t:TypeId)(x y:V)(K:V->Prop):Prop:=
 match x,y with
 | .d (.int k a),.d (.int k' b)=>match op with
  | .shl=>chk (decide (0<=b)) (arith k (a*2^(min b.toNat k.bits)) K)
  | .shr=>chk (decide (0<=b)) (K (.d (.int k (a.fdiv (2^(min b.toNat k.bits))))))
  | _=>match decide (k=k') with
   | true=>qyN op k a b K
   | false=>False
 | .d (.bool a),.d (.bool b)=>match qqH T t,op with
  | true,.eql=>K (.d (.bool (a ==b)))
  | true,.neq=>K (.d (.bool (!(a ==b))))
  | _,_=>False
 | .d (.str a),.d (.str b)=>match op with
  | .eql=>K (.d (.bool (decide (a=b))))
  | .neq=>K (.d (.bool (!decide (a=b))))
  | .add=>chk (decide (a.size+b.size<=9223372036854775807)) (K (.d (.str (a++b))))
  | _=>False
 | .d (.agg a),.d (.agg b)=>match qgX T t,op with
  | true,.eql=>qtc (eqV T 9 t a b) K
  | true,.neq=>qtc (qxG (eqV T 9 t a b)) K
  | _,_=>False
 | _,_=>False
def qcz(fs:List (Nat×Nat))(cs:Cells):List (Nat×V)->Option Cells
 | []=>some cs
 | (i,v)::r=>match fs[i]? with
  | some (off,n)=>match Nat.beq v.cells.len n,Nat.ble (off+n) cs.len with
   | true,true=>qcz fs (cs.splice off v.cells) r
   | _,_=>none
  | none=>none
def Cells.val:Cells->V
 | .dd l=>.d (.agg l)
 | .vv l=>mkAgg l
def qfX(g:Env):List (Nat×Operand)->Option (List (Nat×V))
 | []=>some []
 | (i,x)::r=>match opnd g x,qfX g r with
  | some a,some l=>some ((i,a)::l)
  | _,_=>none
def qhn(T:Tys):List (Nat×TypeId)->Option (List (Nat×Nat))
 | []=>some []
 | (off,t)::r=>match T.get t,qhn T r with
  | some i,some l=>some ((off,i.size)::l)
  | _,_=>none
def Els.cons(x:Cells)(c:Els):Els:=
 match x,c with
 | .dd l,.dd m=>.dd (l::m)
 | .dd l,.vv m=>.vv (inj l::m)
 | .vv l,c=>.vv (l::c.toV)
def qho(n:Nat):Nat->List (Nat×V)->Option Els
 | _,[]=>some (.dd [])
 | i,(j,v)::r=>match Nat.beq j i,Nat.beq v.cells.len n,qho n (i+1) r with
  | true,true,some l=>some (l.cons v.cells)
  | _,_,_=>none
def qwj:IntKind->Int->List V->Option D
 | k,a,[]=>some (.int k a)
 | k,a,.d (.int _ b)::r=>qwj k (min a b) r
 | _,_,_=>none
def qwk:IntKind->Int->List V->Option D
 | k,a,[]=>some (.int k a)
 | k,a,.d (.int _ b)::r=>qwk k (max a b) r
 | _,_,_=>none
def qhp(h:Heap):V->Option Els
 | .d (.vs es)=>some (.dd es)
 | .d .nils=>some (.dd [])
 | .sl id sz off n=>match get h id with
  | some (.arr m es)=>match Nat.beq m sz,Nat.ble (off+n) es.len with
   | true,true=>some (es.part off n)
   | _,_=>none
  | _=>none
 | _=>none
inductive ownK(es:Els)(off n:Nat)(K:Els->Prop):Prop where
 | mk (h:Nat.ble (off+n) es.len=true) (k:K (es.part off n))
def qoc(h:Heap)(v:V)(K:Els->Prop):Prop:=
 match v with
 | .d (.vs es)=>K (.dd es)
 | .d .nils=>K (.dd [])
 | .sl id sz off n=>match get h id with
  | some (.arr m es)=>match Nat.beq m sz with
   | true=>ownK es off n K
   | false=>False
  | _=>False
 | _=>False
theorem qod{h:Heap}{v:V}{K:Els->Prop}(hk:qoc h v K):∃ fs,qhp h v=some fs/\K fs:=by
 unfold qoc at hk;split at hk
 ·exact⟨_,rfl,hk⟩
 ·exact⟨_,rfl,hk⟩
 ·rename_i id sz off n
  split at hk
  ·rename_i m es hg
   split at hk
   ·rename_i hm
    obtain⟨h1,h2⟩:=hk;exact⟨_,by simp[qhp,hg,hm,h1],h2⟩
   ·exact hk.elim
  ·exact hk.elim
 ·exact hk.elim
theorem qpk(es:Els):es.part 0 es.len=es:=by
 cases es<;>simp[Els.part,Els.len]
theorem ql{es:Els}{n:Nat}{K:Els->Prop}(h:n=es.len)(k:K es):ownK es 0 n K:=by
 subst h;exact⟨Nat.ble_eq_true_of_le (by omega),by rw[qpk];exact k⟩
def qcr(n:Nat):List (List D)->Bool
 | []=>true
 | l::r=>match Nat.beq l.length n,qaW l with
  | true,true=>qcr n r
  | _,_=>false
def qfY(n:Nat):List (List V)->Bool
 | []=>true
 | l::r=>match Nat.beq l.length n,zt l with
  | true,true=>qfY n r
  | _,_=>false
def Els.ok(n:Nat):Els->Bool
 | .dd l=>qcr n l
 | .vv l=>qfY n l
def Cells.ok:Cells->Bool
 | .dd l=>qaW l
 | .vv l=>zt l
def qqJ(t:TyI):Bool:=
 match t.zero with
 | some z=>Nat.beq z.length t.size
 | none=>false
def Cells.getK(ti:TyI)(c:Cells)(off:Nat)(K:V->Prop):Prop:=
 match ti.isAgg with
 | true=>chk (Nat.ble (off+ti.size) c.len) (K (c.sub off ti.size))
 | false=>c.atK off K
def qqK(T:Tys)(g:Env)(h:Heap)(t:TypeId)(x:Operand)(K:V->Prop):Prop:=
 match opnd g x with
 | none=>False
 | some v=>match qbq v,T.get t with
  | some (.imm cs),some ti=>(Cells.dd cs).getK ti 0 K
  | some (.box id off),some ti=>match get h id with
   | some (.box cs)=>cs.getK ti off K
   | some (.tb _ l)=>(Cells.vv l).getK ti off K
   | _=>False
  | some (.el id sz i off),some ti=>match get h id with
   | some (.arr n es)=>chk (Nat.beq n sz) (es.atK i fun cs=>cs.getK ti off K)
   | _=>False
  | _,_=>False
def quH(T:Tys)(g:Env)(h:Heap)(t:TypeId)(x y:Operand)(K:List Wr->Prop):Prop:=
 match opnd g x,opnd g y,T.get t with
 | some a,some v,some ti=>
  chk (Nat.beq v.cells.len ti.size&&v.cells.ok)
   (match qbq a with
   | some (.box id off)=>match get h id with
    | some (.box cs)=>chk (Nat.ble (off+ti.size) cs.len) (K [.obj id (.box (cs.splice off v.cells))])
    | some (.tb t l)=>chk (Nat.ble (off+ti.size) l.length) (K [.obj id (.tb t ((Cells.vv l).splice off v.cells).toV)])
    | _=>False
   | some (.el id sz i off)=>match get h id with
    | some (.arr n es)=>chk (Nat.beq n sz) (es.atK i fun e=>chk (Nat.ble (off+ti.size) e.len) (K [.obj id (.arr n (es.set i (e.splice off v.cells)))]))
    | _=>False
   | _=>False)
 | _,_,_=>False
def qjT(h:Heap)(v:V)(sz:Nat)(K:Els->List Wr->Prop):Prop:=
 match v with
 | .d .nils=>K (.dd []) []
 | .sl id n off len=>match get h id with
  | some (.arr m es)=>chk (Nat.beq n sz&&Nat.beq m sz&&Nat.ble len es.len&&Nat.beq off 0) (K (es.part 0 len) [.del id])
  | _=>False
 | _=>False
def qgY(h:Heap)(v:V)(sz:Nat)(K:Els->List Wr->Prop):Prop:=
 match v with
 | .d .nils=>K (.dd []) []
 | .sl id n off len=>match get h id with
  | some (.arr m es)=>chk (Nat.beq n sz&&Nat.beq m sz&&Nat.beq off 0) (ownK es 0 len fun es=>K es [.del id])
  | _=>False
 | _=>False
theorem qpl{h:Heap}{v:V}{sz:Nat}{K:Els->List Wr->Prop}(hk:qgY h v sz K):qjT h v sz K:=by
 unfold qgY at hk;unfold qjT;split at hk
 ·exact hk
 ·rename_i id n off len
  split at hk
  ·rename_i m es hg
   cases hc:(Nat.beq n sz&&Nat.beq m sz&&Nat.beq off 0) with
   | false=>rw[hc]at hk;exact hk.elim
   | true=>
    rw[hc]at hk;obtain⟨h1,h2⟩:=(hk:ownK es 0 len fun es=>K es [.del id]);rw[Nat.zero_add]at h1;simp only[Bool.and_eq_true]at hc;show chk (Nat.beq n sz&&Nat.beq m sz&&Nat.ble len es.len&&Nat.beq off 0) (K (es.part 0 len) [.del id]);rw[hc.1.1,hc.1.2,hc.2,h1];exact h2
  ·exact hk.elim
 ·exact hk.elim
def qaG(T:Tys)(t:TypeId):Option TyI:=
 match T.get t with
 | some ti=>match ti.kd with
  | .slice e=>T.get e
  | _=>none
 | none=>none
def qfa(ei:TyI):Bool:=!Nat.beq ei.size 0 && !Nat.beq ei.bytes 0&&qqJ ei
def qjU(T:Tys)(g:Env)(h:Heap)(d:Option Nat)(t:TypeId)(x y:Operand)(K:List Wr->Prop):Prop:=
 match opnd g x,opnd g y,qaG T t,d with
 | some v,some u,some ei,some d=>match qhp h u with
  | some fs=>chk (qfa ei) (qjT h v ei.size fun es ws=>
    chk (fs.ok ei.size&&(es.app fs).free d) (chk (decide ((es.len+fs.len)*ei.bytes<=140737488355328))
     (K (ws ++ [.new d (.arr ei.size (es.app fs)),.set d (.sl d ei.size 0 (es.len+fs.len))]))))
  | none=>False
 | _,_,_,_=>False
def qmT(T:Tys)(g:Env)(h:Heap)(d:Option Nat)(t:TypeId)(x y:Operand)(K:List Wr->Prop):Prop:=
 match opnd g x,opnd g y,qaG T t,d with
 | some v,some u,some ei,some d=>qoc h u fun fs=>chk (qfa ei) (qgY h v ei.size fun es ws=>
    chk (fs.ok ei.size&&(es.app fs).free d) (chk (decide ((es.len+fs.len)*ei.bytes<=140737488355328))
     (K (ws ++ [.new d (.arr ei.size (es.app fs)),.set d (.sl d ei.size 0 (es.len+fs.len))]))))
 | _,_,_,_=>False
theorem qqL{T:Tys}{g:Env}{h:Heap}{d:Option Nat}{t:TypeId}{x y:Operand}{K:List Wr->Prop}(hk:qmT T g h d t x y K):qjU T g h d t x y K:=by
 unfold qmT at hk;unfold qjU;split at hk
 ·rename_i v u ei d h1 h2 h3
  obtain⟨fs,hf,hk⟩:=qod hk;simp only[h1,h2,h3,hf]
  cases hc:qfa ei with
  | false=>rw[hc]at hk;exact hk.elim
  | true=>
   rw[hc]at hk;have hk:qgY h v ei.size fun es ws=>
    chk (fs.ok ei.size&&(es.app fs).free d) (chk (decide ((es.len+fs.len)*ei.bytes<=140737488355328))
     (K (ws ++ [.new d (.arr ei.size (es.app fs)),.set d (.sl d ei.size 0 (es.len+fs.len))]))):=hk
   exact qpl hk
 ·exact hk.elim
def qve(T:Tys)(t:TypeId):Bool:=
 match T.get t with
 | some ti=>match ti.kd with
  | .str=>true
  | _=>false
 | none=>false
def qxI(T:Tys)(t:TypeId):Option (TypeId×TyI):=
 match T.get t with
 | some ti=>match ti.kd with
  | .slice e=>match T.get e with
   | some ei=>some (e,ei)
   | none=>none
  | _=>none
 | none=>none
def qxJ(h:Heap)(v u:Option V):Bool:=
 match u with
 | some (.d (.str _))=>true
 | _=>match v with
  | some (.sl id _ _ _)=>match get h id with
   | some (.buf _ _)=>true
   | _=>false
  | _=>false
def qqM(T:Tys)(h:Heap)(u:TypeId)(v:V):Option ByteArray:=
 match v with
 | .d (.str s)=>match qve T u with
  | true=>some s
  | false=>none
 | v=>match qaG T u with
  | some _=>match qhp h v with
   | some (.dd [[.int .u8 c]])=>match decide (0<=c),decide (c<256) with
    | true,true=>some ⟨#[UInt8.ofNat c.toNat]⟩
    | _,_=>none
   | _=>none
  | none=>none
def qxK(T:Tys)(g:Env)(h:Heap)(d:Option Nat)(t u:TypeId)(x y:Operand)(K:List Wr->Prop):Prop:=
 match opnd g x,opnd g y,qxI T t,d with
 | some v,some yv,some (el,ei),some d=>match qqM T h u yv with
  | some s=>chk (qfa ei&&(Nat.beq ei.size 1&&Nat.beq ei.bytes 1)) (match v with
   | .d .nils=>chk (decide (0<s.size)&&decide (s.size<=140737488355328)) (K [.new d (.buf el s),.set d (.sl d 1 0 s.size)])
   | .sl id n off len=>match get h id with
    | some (.buf ty b)=>chk (Nat.beq n 1&&(Nat.beq off 0&&Nat.beq ty el)) (chk (decide (len=b.size)&&(decide (0<len)&&decide (len+s.size<=140737488355328)))
      (K [.del id,.new d (.buf ty (b++s)),.set d (.sl d 1 0 (b++s).size)]))
    | _=>False
   | _=>False)
  | none=>False
 | _,_,_,_=>False
def qhq(T:Tys)(t:TypeId)(i:Nat):Option (Nat×TyI):=
 match T.get t with
 | some ti=>match ti.kd with
  | .struct fs=>match fs[i]? with
   | some (off,ft)=>match T.get ft with
    | some fi=>some (off,fi)
    | none=>none
   | none=>none
  | _=>none
 | none=>none
def qoe(T:Tys)(el:TypeId)(es:List (List D)):Bool:=
 match T.get el with
 | some ei=>match es with
  | []=>true
  | f::_=>Nat.beq f.length ei.size
 | none=>false
def qli:D->D->Option Bool
 | .int k a,.int k' b=>match decide (k=k') with
  | true=>some (decide (a=b))
  | false=>none
 | _,_=>none
def qgR:D->D->Option Bool
 | .int k a,.int k' b=>match decide (k=k') with
  | true=>some (decide (a=b))
  | false=>none
 | .bool a,.bool b=>some (a ==b)
 | .ifc t a,.ifc u b=>match Nat.beq t u,qli a b with
  | true,r=>r
  | false,some _=>some false
  | false,none=>none
 | _,_=>none
def jp:List D->List D->Option Bool
 | [],[]=>some true
 | a::r,b::l=>match qgR a b,jp r l with
  | some p,some q=>some (p&&q)
  | _,_=>none
 | _,_=>none
def qdF:D->D->Option Bool
 | .int k a,.int k' b=>match decide (k=k') with
  | true=>some (decide (a=b))
  | false=>none
 | .str a,.str b=>some (decide (a=b))
 | .bool a,.bool b=>some (a ==b)
 | .agg a,.agg b=>jp a b
 | _,_=>none
def qdG(k:D):List (D×D)->Nat->Option (Option (Nat×D))
 | [],_=>some none
 | (k',v)::r,n=>match qdF k k' with
  | some true=>some (some (n,v))
  | some false=>qdG k r (n+1)
  | none=>none
inductive findK(kvs:List (D×D))(k:D)(K:Option (Nat×D)->Prop):Prop where
 | mk (r:Option (Nat×D)) (h:qdG k kvs 0=some r) (hk:K r)
inductive runeK(s:ByteArray)(pos:Nat)(K:Nat->Nat->Prop):Prop where
 | mk (h:K (Utf8.decode s pos).1 (Utf8.decode s pos).2)
def qgw(f:TypeId->Option Nat):List (Nat×TypeId)->Nat->Option Nat
 | [],n=>some n
 | (off,t)::r,n=>match Nat.beq off n,f t with
  | true,some (c+1)=>qgw f r (n+(c+1))
  | _,_=>none
def flat(T:Tys):Nat->TypeId->Option Nat
 | 0,_=>none
 | d+1,t=>match T.get t with
  | none=>none
  | some ti=>match ti.kd with
   | .int _=>match Nat.beq ti.size 1 with
    | true=>some 1
    | false=>none
   | .bool=>match Nat.beq ti.size 1 with
    | true=>some 1
    | false=>none
   | .iface=>match d,Nat.beq ti.size 1 with
    | _+1,true=>some 1
    | _,_=>none
   | .struct fs=>match ti.held,qgw (fun t=>flat T d t) fs 0 with
    | false,some n=>match Nat.beq ti.size n with
     | true=>some n
     | false=>none
    | _,_=>none
   | .array m e=>match flat T d e with
    | some (c+1)=>match Nat.beq ti.size (m*(c+1)) with
     | true=>some (m*(c+1))
     | false=>none
    | _=>none
   | _=>none
def qpm(T:Tys)(f:TypeId->List D->Bool):List (Nat×TypeId)->List D->Bool
 | [],_=>true
 | (off,t)::r,xs=>match T.get t with
  | some ti=>match f t ((xs.drop off).take ti.size) with
   | true=>qpm T f r xs
   | false=>false
  | none=>false
def qpn(f:List D->Bool)(c:Nat):Nat->List D->Bool
 | 0,_=>true
 | n+1,xs=>match f (xs.take c) with
  | true=>qpn f c n (xs.drop c)
  | false=>false
def qmN(T:Tys):Nat->TypeId->List D->Bool
 | 0,_,_=>false
 | d+1,t,xs=>match T.get t with
  | none=>false
  | some ti=>match ti.kd with
   | .int _=>match xs with
    | [.int _ _]=>true
    | _=>false
   | .bool=>match xs with
    | [.bool _]=>true
    | _=>false
   | .iface=>match xs with
    | [.ifc u (.int k _)]=>match T.get u with
     | some ui=>match ui.kd,ui.held with
      | .int k',false=>decide (k=k')
      | _,_=>false
     | none=>false
    | _=>false
   | .struct fs=>qpm T (fun t xs=>qmN T d t xs) fs xs
   | .array m e=>match T.get e with
    | some ei=>qpn (fun xs=>qmN T d e xs) ei.size m xs
    | none=>false
   | _=>false
def qof(T:Tys)(kt:TypeId):Kd->D->Bool
 | .int _,.int _ _=>true
 | .str,.str _=>true
 | .bool,.bool _=>true
 | .struct _,.agg cs=>match flat T 9 kt with
  | some n=>Nat.beq cs.length n&&qmN T 9 kt cs
  | none=>false
 | .array _ _,.agg cs=>match flat T 9 kt with
  | some n=>Nat.beq cs.length n&&qmN T 9 kt cs
  | none=>false
 | _,_=>false
def qpo(T:Tys)(t:TypeId):Option (TypeId×(TyI×TyI)):=
 match T.get t with
 | some ti=>match ti.kd with
  | .map k e=>match T.get k,T.get e with
   | some ki,some ei=>some (k,(ki,ei))
   | _,_=>none
  | _=>none
 | none=>none
def qwu(e:Env)(h:Heap)(x:Operand):Option (List (D×D)):=
 match opnd e x with
 | some (.d (.mv kvs))=>some kvs
 | some (.d .nilm)=>some []
 | some (.mp id)=>match get h id with
  | some (.map kvs)=>some kvs
  | _=>none
 | _=>none
def setKey:List (D×D)->Nat->D->List (D×D)
 | [],_,_=>[]
 | (_,v)::r,0,k=>(k,v)::r
 | p::r,n+1,k=>p::setKey r n k
def setVal:List (D×D)->Nat->D->List (D×D)
 | [],_,_=>[]
 | (k,_)::r,0,v=>(k,v)::r
 | p::r,n+1,v=>p::setVal r n v
def qpp(ti:TyI):Option D:=
 match ti.zero,ti.isAgg with
 | some z,true=>some (.agg z)
 | some [x],false=>some x
 | _,_=>none
def qiN(c:Bool)(v:D)(ok:Bool):V:=
 match c with
 | true=>.d (.tup [v,.bool ok])
 | false=>.d v
def qxs(h:Heap):V->Option (List (D×D))
 | .mp m=>match get h m with
  | some (.map kvs)=>some kvs
  | _=>none
 | _=>none
inductive EntA(kvs:List (D×D))(n i:Nat)(K:D×D->Prop):Prop where
 | mk (hn:kvs.length=n) (kv:D×D) (h:kvs[i]?=some kv) (hk:K kv)
def qog:Kd->Bool
 | .iface=>false
 | .other=>false
 | _=>true
def qmU(size:Nat):Nat->Nat->List (Nat×Nat)
 | _,0=>[]
 | off,n+1=>(off,size)::qmU size (off+size) n
def qxL(e:Env)(dst:Option Nat)(fn:Fn)(first caps:List Operand)(K:List Wr->Prop):Prop:=
 match fn,first,caps with
 | .func f,x::r,[]=>match opnds e (x::r) with
  | some l=>match qqy l with
   | some ds=>K (wset dst (.d (.mth f ds)))
   | none=>False
  | none=>False
 | _,_,_=>False
def opK(T:Tys)(e:Env)(h:Heap)(dst:Option Nat)(op:Op)(K:List Wr->Prop):Prop:=
 match op with
 | .move x=>match opnd e x with
  | some v=>K (wset dst v)
  | none=>False
 | .assign x=>match opnd e x with
  | some v=>K (wset dst v)
  | none=>False
 | .pick c a b=>match opnd e c,opnd e a,opnd e b with
  | some (.d (.bool t)),some va,some vb=>brk t (K (wset dst va)) (K (wset dst vb))
  | some (.d (.bool t)),some va,none=>chk t (K (wset dst va))
  | some (.d (.bool t)),none,some vb=>chk (!t) (K (wset dst vb))
  | _,_,_=>False
 | .alloc t=>match T.get t,dst with
  | some ti,some d=>match ti.zero with
   | some [.nilp,.nils]=>chk (Nat.beq 2 ti.size) (K [.new d (.tb t [.d .nilp,.d .nils]),.set d (.ptr d 0)])
   | some z=>chk (Nat.beq z.length ti.size) (K [.new d (.box (.dd z)),.set d (.ptr d 0)])
   | none=>False
  | _,_=>False
 | .box _ x=>match opnd e x,dst with
  | some v,some d=>chk (v.cells.ok&&v.cells.free d) (K [.new d (.box v.cells),.set d (.ptr d 0)])
  | _,_=>False
 | .build t ps=>match qfX e ps.toList,T.get t with
  | some l,some ti=>match ti.kd,ti.zero with
   | .struct fs,some z=>match qhn T fs with
    | some sz=>match qcz sz (.dd z) l with
     | some cs=>K (wset dst cs.val)
     | none=>False
    | none=>False
   | .array n el,some z=>match T.get el with
    | some ei=>match qcz (qmU ei.size 0 n) (.dd z) l with
     | some cs=>K (wset dst cs.val)
     | none=>False
    | none=>False
   | _,_=>False
  | _,_=>False
 | .buildSlice t n ps=>match qfX e ps.toList,qaG T t,dst with
  | some l,some ei,some d=>chk (Nat.beq l.length n&&qfa ei&&Nat.ble (n*ei.size) 16777216)
   (match qho ei.size 0 l with
   | some es=>chk (es.ok ei.size&&es.free d) (K [.new d (.arr ei.size es),.set d (.sl d ei.size 0 n)])
   | none=>False)
  | _,_,_=>False
 | .load t x=>qqK T e h t x fun v=>K (wset dst v)
 | .store t x y=>match dst with
  | none=>quH T e h t x y K
  | some _=>False
 | .nilCheck x=>match opnd e x with
  | some v=>match v with
   | .d (.ref _)=>K (wset dst v)
   | .ptr _ _=>K (wset dst v)
   | .ep _ _ _ _=>K (wset dst v)
   | .d (.clo _ _)=>K (wset dst v)
   | .clo _ _=>K (wset dst v)
   | .d (.ifc _ _)=>K (wset dst v)
   | _=>False
  | none=>False
 | .binOp op t x y _=>match opnd e x,opnd e y with
  | some a,some b=>match qqI y,a with
   | true,.d .nili=>qtd T op t true fun v=>K (wset dst v)
   | true,.d (.ifc _ _)=>qtd T op t false fun v=>K (wset dst v)
   | _,a=>qxH T op t a b fun v=>K (wset dst v)
  | _,_=>False
 | .unOp op _ x=>match op,opnd e x with
  | .not,some (.d (.bool b))=>K (wset dst (.d (.bool !b)))
  | .neg,some (.d (.int k n))=>arith k (0-n) fun v=>K (wset dst v)
  | _,_=>False
 | .convert s d x=>match T.get s,T.get d,opnd e x with
  | some si,some di,some v=>match si.kd,di.kd,v with
   | .int _,.int k,.d (.int _ n)=>arith k n fun v=>K (wset dst v)
   | .str,.str,.d (.str s)=>K (wset dst (.d (.str s)))
   | _,_,_=>False
  | _,_,_=>False
 | .makeFunc fn first caps=>match fn,first.toList,opnds e caps.toList with
  | .func f,[],some l=>match qqy l with
   | some ds=>K (wset dst (.d (.clo f ds)))
   | none=>K (wset dst (.clo f l))
  | _,_,_=>qxL e dst fn first.toList caps.toList K
 | .fieldAddr t x i=>match opnd e x,qhq T t i with
  | some v,some (off,fi)=>chk (!Nat.beq fi.size 0) (match qbq v with
   | some p=>K (wset dst (p.add off))
   | none=>False)
  | _,_=>False
 | .field t x i=>match opnd e x,qhq T t i with
  | some (.d (.agg cs)),some (off,fi)=>(Cells.dd cs).getK fi off fun v=>K (wset dst v)
  | some (.agg cs),some (off,fi)=>(Cells.vv cs).getK fi off fun v=>K (wset dst v)
  | _,_=>False
 | .indexAddr t x i=>match T.get t,opnd e x,opnd e i with
  | some ti,some v,some (.d (.int _ n))=>match ti.kd with
   | .slice e=>match T.get e with
    | some ei=>chk (!Nat.beq ei.size 0) (match v with
     | .d (.vs es)=>qpj es n fun l=>chk (Nat.beq l.length ei.size) (K (wset dst (.d (.ref l))))
     | .sl id sz off len=>chk (decide (0<=n)&&decide (n<len)) (chk (Nat.beq sz ei.size) (K (wset dst (.ep id sz (off+n.toNat) 0))))
     | _=>False)
    | none=>False
   | .array len e=>match T.get e,qbq v with
    | some ei,some p=>chk (!Nat.beq ei.size 0) (chk (decide (0<=n)&&decide (n<len)) (K (wset dst (p.add (n.toNat*ei.size)))))
    | _,_=>False
   | _=>False
  | _,_,_=>False
 | .index t x i=>match T.get t,opnd e x,opnd e i with
  | some ti,some v,some (.d (.int _ n))=>match ti.kd,v with
   | .str,.d (.str s)=>chk (decide (0<=n)) (qhl s.data.toList n.toNat fun b=>K (wset dst (.d (.int .u8 b.toNat))))
   | .array len e,.d (.agg cs)=>match T.get e with
    | some ei=>chk (decide (0<=n)&&decide (n<len)) ((Cells.dd cs).getK ei (n.toNat*ei.size) fun v=>K (wset dst v))
    | none=>False
   | .array len e,.agg cs=>match T.get e with
    | some ei=>chk (decide (0<=n)&&decide (n<len)) ((Cells.vv cs).getK ei (n.toNat*ei.size) fun v=>K (wset dst v))
    | none=>False
   | _,_=>False
  | _,_,_=>False
 | .slice t x lo hi mx=>match mx with
  | some _=>False
  | none=>match T.get t,opnd e x,qqG e lo,qqG e hi with
   | some ti,some v,some l,some u=>match ti.kd,v with
    | .slice el,.d (.vs es)=>qiU es.length l u fun a b=>chk (qoe T el es) (K (wset dst (.d (.vs ((es.take b).drop a)))))
    | .slice el,.sl id sz off len=>qiU len l u fun a b=>chk (match T.get el with|some ei=>Nat.beq sz ei.size|none=>false) (K (wset dst (.sl id sz (off+a) (b-a))))
    | .slice el,.d .nils=>qiU 0 l u fun _ _=>chk (match T.get el with|some _=>true|none=>false) (K (wset dst (.d .nils)))
    | .str,.d (.str s)=>qiU s.size l u fun a b=>K (wset dst (.d (.str (s.extract a b))))
    | _,_=>False
   | _,_,_,_=>False
 | .range t x=>match T.get t,opnd e x,dst with
  | some ti,some (.d (.str s)),some d=>match ti.kd with
   | .str=>K [.new d (.iter s 0),.set d (.it d)]
   | _=>False
  | some ti,some (.mp id),some d=>match ti.kd,get h id with
   | .map _ _,some (.map kvs)=>chk (!Nat.beq id d) (K [.new d (.mit (.mp id) kvs.length (List.range kvs.length) none),.set d (.it d)])
   | _,_=>False
  | _,_,_=>False
 | .entry x=>match opnd e x with
  | some (.it id)=>match get h id with
   | some (.mit v n _ (some i))=>match qxs h v with
    | some kvs=>EntA kvs n i fun kv=>K (wset dst (.d (.tup [kv.1,kv.2])))
    | none=>False
   | _=>False
  | _=>False
 | .makeInterface xt x=>match T.get xt,opnd e x with
  | some ti,some (.d v)=>chk (qog ti.kd) (K (wset dst (.d (.ifc xt v))))
  | _,_=>False
 | .typeAssert x _ at' c=>match T.get at',opnd e x with
  | some ti,some (.d (.ifc t v))=>chk (qog ti.kd) (match Nat.beq t at' with
   | true=>K (wset dst (qiN c v true))
   | false=>match c,qpp ti with
    | true,some z=>K (wset dst (qiN true z false))
    | _,_=>False)
  | some ti,some (.d .nili)=>chk (qog ti.kd) (match c,qpp ti with
   | true,some z=>K (wset dst (qiN true z false))
   | _,_=>False)
  | _,_=>False
 | .next x b=>match b,opnd e x with
  | true,some (.it id)=>match get h id with
   | some (.iter s pos)=>brk (decide (pos<s.size)) (runeK s pos fun c n=>K (.obj id (.iter s (pos+n))::wset dst (.d (.tup [.bool true,.int .i64 pos,.int .i32 c])))) (K (wset dst (.d (.tup [.bool false]))))
   | _=>False
  | _,_=>False
 | .makeMap _ r=>match r,dst with
  | none,some d=>K [.new d (.map []),.set d (.mp d)]
  | _,_=>False
 | .makeSlice t l c=>match qaG T t,opnd e l,opnd e c,dst with
  | some ei,some (.d (.int .i64 n)),some (.d (.int .i64 m)),some d=>match ei.zero with
   | some z=>chk (qfa ei&&(decide (0<=n)&&decide (n<=m))) (chk (decide (m*(ei.bytes:Int)<=140737488355328))
     (K [.new d (.arr ei.size (.dd (List.replicate n.toNat z))),.set d (.sl d ei.size 0 n.toNat)]))
   | none=>False
  | _,_,_,_=>False
 | .lookup t x i c=>match qpo T t,qwu e h x,opnd e i with
  | some (kt,(ki,ei)),some kvs,some (.d k)=>chk (qof T kt ki.kd k) (findK kvs k fun r=>match r with
   | some v=>K (wset dst (qiN c v.2 true))
   | none=>match qpp ei with
    | some z=>K (wset dst (qiN c z false))
    | none=>False)
  | _,_,_=>False
 | .mapUpdate t m i v=>match dst,qpo T t,opnd e m,opnd e i,opnd e v with
  | none,some (kt,(ki,_)),some (.mp id),some (.d k),some (.d v)=>match get h id with
   | some (.map kvs)=>chk (qof T kt ki.kd k) (findK kvs k fun r=>match r with
    | some n=>K [.obj id (.map (kvs.set n.1 (k,v)))]
    | none=>K [.obj id (.map (kvs ++ [(k,v)]))])
   | _=>False
  | _,_,_,_,_=>False
 | .insert t m i v=>match dst,qpo T t,opnd e m,opnd e i,opnd e v with
  | none,some (kt,(ki,_)),some (.mp id),some (.d k),some (.d v)=>match get h id with
   | some (.map kvs)=>chk (qof T kt ki.kd k) (findK kvs k fun r=>match r with
    | some n=>K [.obj id (.map (kvs.set n.1 (k,v)))]
    | none=>K [.obj id (.map (kvs ++ [(k,v)]))])
   | _=>False
  | _,_,_,_,_=>False
 | .mapEntry t m i=>match dst,qpo T t,opnd e m,opnd e i with
  | some d,some (kt,(ki,ei)),some (.mp id),some (.d k)=>match get h id with
   | some (.map kvs)=>chk (qof T kt ki.kd k) (findK kvs k fun r=>match r with
    | some n=>K [.obj id (.map (setKey kvs n.1 k)),.set d (.d (.tup [n.2,.int .i64 n.1]))]
    | none=>match qpp ei with
     | some z=>K [.obj id (.map (kvs ++ [(k,z)])),.set d (.d (.tup [z,.int .i64 kvs.length]))]
     | none=>False)
   | _=>False
  | _,_,_,_=>False
 | .entryStore t m x v=>match dst,opnd e m,opnd e x,opnd e v with
  | none,some (.mp id),some (.d (.int .i64 n)),some (.d v)=>match get h id with
   | some (.map kvs)=>chk (decide (0<=n)&&decide (n<kvs.length)) (K [.obj id (.map (setVal kvs n.toNat v))])
   | _=>False
  | _,_,_,_=>False
 | .extract x i=>match opnd e x with
  | some (.d (.tup l))=>qhl l i fun v=>K (wset dst (.d v))
  | some (.tup l)=>qhl l i fun v=>K (wset dst v)
  | _=>False
 | _=>False
def jL(T:Tys)(e:Env)(h:Heap)(d:Option Nat)(b:Builtin)(args:Array Operand)(argTypes:Array TypeId)(K:List Wr->Prop):Prop:=
 match b with
 | .len=>match args.toList,argTypes.toList with
  | [x],t::_=>match T.get t,opnd e x with
   | some ti,some v=>match ti.kd,v with
    | .slice _,.d (.vs es)=>K (wset d (.d (.int .i64 es.length)))
    | .slice _,.d .nils=>K (wset d (.d (.int .i64 0)))
    | .slice _,.sl _ _ _ n=>K (wset d (.d (.int .i64 n)))
    | .str,.d (.str s)=>K (wset d (.d (.int .i64 s.size)))
    | .array n _,_=>K (wset d (.d (.int .i64 n)))
    | .map _ _,.mp id=>match get h id with
     | some (.map kvs)=>K (wset d (.d (.int .i64 kvs.length)))
     | _=>False
    | .map _ _,.d (.mv kvs)=>K (wset d (.d (.int .i64 kvs.length)))
    | _,_=>False
   | _,_=>False
  | _,_=>False
 | .min=>match opnds e args.toList with
  | some (.d (.int k a)::r)=>match qwj k a r with
   | some v=>K (wset d (.d v))
   | none=>False
  | _=>False
 | .max=>match opnds e args.toList with
  | some (.d (.int k a)::r)=>match qwk k a r with
   | some v=>K (wset d (.d v))
   | none=>False
  | _=>False
 | .copy=>match args.toList,argTypes.toList with
  | [x,y],[t,u]=>match qaG T t,qaG T u,opnd e x,opnd e y with
   | some ei,some _,some (.sl id sz off n),some v=>match get h id with
    | some (.arr m (.dd es))=>chk (Nat.beq ei.size 1&&(Nat.beq sz 1&&Nat.beq m 1)) (qoc h v fun fs=>match fs with
     | .dd fs=>chk (Nat.ble (off+n) es.length&&qcr 1 fs) (K (.obj id (.arr 1 (.dd (es.take off++fs.take (min fs.length n)++es.drop (off+min fs.length n))))::wset d (.d (.int .i64 (min fs.length n:Nat)))))
     | .vv _=>False)
    | _=>False
   | _,_,_,_=>False
  | _,_=>False
 | .append=>match args.toList,argTypes.toList with
  | [x,y],[t,u]=>match qxJ h (opnd e x) (opnd e y) with
   | true=>qxK T e h d t u x y K
   | false=>match qaG T u with
    | some _=>qmT T e h d t x y K
    | none=>False
  | _,_=>False
 | _=>False
def qex(ops:List Oper)(g:Env)(guard:Option (Nat×Bool))(X Y:List Wr->Prop):Prop:=
 match guard with
 | none=>X []
 | some (j,want)=>match ops[j]? with
  | some ⟨some d,_,_,_,_,_⟩=>match get g d with
    | some (.d (.bool b))=>match want with
     | true=>brk b (X [.set d (.d (.bool true))]) (Y [.set d (.d (.bool false))])
     | false=>brk b (Y [.set d (.d (.bool true))]) (X [.set d (.d (.bool false))])
    | some (.d (.tup []))=>Y []
    | _=>False
  | _=>False
end Go.PX
namespace Go.PX
open Go.RowKit
mutual
def RepD(F:Nat->Nat)(w:World):D->Value->Prop
 | .bool b,v=>v = .bool b
 | .int k n,v=>v = .int k n
 | .str s,v=>v = .string s
 | .agg cs,v=>∃ l:Array Value,v = .agg l/\RepDL F w cs l.toList
 | .tup cs,v=>∃ l:Array Value,v = .tuple l/\RepDL F w cs l.toList
 | .vs es,v=>∃ a len cap,v = .slice a len cap/\len=es.length/\len<=cap /\
   (es ≠ [] -> ∃ b off sz,a=some ⟨b,off,none⟩/\0<sz/\RepEs F w b off sz es)
 | .nils,v=>v = .slice none 0 0
 | .ref cs,v=>∃ b off,v = .pointer (some ⟨b,off,none⟩)/\RepAt F w b off cs
 | .nilp,v=>v = .pointer none
 | .mv kvs,v=>∃ r en c,v = .map (some r)/\0<F r/\w.heap[r]?=some (.map en c)/\RepKv F w kvs en.toList
 | .nilm,v=>v = .map none
 | .clo f caps,v=>∃ l:Array Value,v = .func (.func f) #[] l/\RepDL F w caps l.toList
 | .mth f first,v=>∃ l:Array Value,v = .func (.func f) l #[]/\RepDL F w first l.toList
 | .nilf,v=>v = .nilFunc
 | .ifc t x,v=>∃ y,v = .iface t y/\RepD F w x y
 | .nili,v=>v = .nilIface
def RepDL(F:Nat->Nat)(w:World):List D->List Value->Prop
 | [],l=>l = []
 | c::r,l=>∃ x l',l=x::l'/\RepD F w c x/\RepDL F w r l'
def RepAt(F:Nat->Nat)(w:World)(b:Nat):Nat->List D->Prop
 | _,[]=>True
 | off,c::r=>off<F b/\(∃ x,w.cell? ⟨b,off,none⟩=some x/\RepD F w c x)/\RepAt F w b (off+1) r
def RepEs(F:Nat->Nat)(w:World)(b:Nat):Nat->Nat->List (List D)->Prop
 | _,_,[]=>True
 | off,sz,e::r=>e.length=sz/\RepAt F w b off e/\RepEs F w b (off+sz) sz r
def RepKv(F:Nat->Nat)(w:World):List (D×D)->List MapEntry->Prop
 | [],l=>l = []
 | (k,v)::r,l=>∃ x l',l=x::l'/\RepD F w k x.key/\RepD F w v x.val/\RepKv F w r l'
end
structure Tr(F:Nat->Nat)(w:World)(F':Nat->Nat)(w':World):Prop where
 os:w'.os=w.os
 tape:w'.tape=w.tape
 output:w'.output=w.output
 size:w.heap.size<=w'.heap.size
 le:∀ b,F b<=F' b
 cell:∀ b o,o<F b->w'.cell? ⟨b,o,none⟩=w.cell? ⟨b,o,none⟩
 map:∀ b e c,0<F b->w.heap[b]?=some (.map e c)->w'.heap[b]?=some (.map e c)
theorem Tr.refl(F:Nat->Nat)(w:World):Tr F w F w:=⟨rfl,rfl,rfl,Nat.le_refl _,fun _=>Nat.le_refl _,fun _ _ _=>rfl,fun _ _ _ _ h=>h⟩
theorem Tr.trans{F F' F'':Nat->Nat}{w w' w'':World}(h:Tr F w F' w')(k:Tr F' w' F'' w''):Tr F w F'' w'':=
  ⟨k.os.trans h.os,k.tape.trans h.tape,k.output.trans h.output,Nat.le_trans h.size k.size,fun b=>Nat.le_trans (h.le b) (k.le b),
   fun b o ho=>(k.cell b o (Nat.lt_of_lt_of_le ho (h.le b))).trans (h.cell b o ho),
   fun b e c hb hm=>k.map b e c (Nat.lt_of_lt_of_le hb (h.le b)) (h.map b e c hb hm)⟩
mutual
theorem RepD.mono{F F':Nat->Nat}{w w':World}(h:Tr F w F' w'):∀ (a:D) (v:Value),RepD F w a v->RepD F' w' a v
 | .bool _,_,hr=>hr
 | .int _ _,_,hr=>hr
 | .str _,_,hr=>hr
 | .agg cs,_,hr=>by
  obtain⟨l,rfl,hl⟩:=hr;exact⟨l,rfl,RepDL.mono h cs _ hl⟩
 | .tup cs,_,hr=>by
  obtain⟨l,rfl,hl⟩:=hr;exact⟨l,rfl,RepDL.mono h cs _ hl⟩
 | .vs es,_,hr=>by
  obtain⟨a,len,cap,rfl,hl,hc,he⟩:=hr;refine⟨a,len,cap,rfl,hl,hc,fun hne=>?_⟩;obtain⟨b,off,sz,ha,hs,hes⟩:=he hne;exact⟨b,off,sz,ha,hs,RepEs.mono h es b off sz hes⟩
 | .nils,_,hr=>hr
 | .ref cs,_,hr=>by
  obtain⟨b,off,rfl,hc⟩:=hr;exact⟨b,off,rfl,RepAt.mono h cs b off hc⟩
 | .nilp,_,hr=>hr
 | .mv kvs,_,hr=>by
  obtain⟨r,en,c,rfl,hf,hm,hk⟩:=hr;exact⟨r,en,c,rfl,Nat.lt_of_lt_of_le hf (h.le r),h.map r en c hf hm,RepKv.mono h kvs _ hk⟩
 | .nilm,_,hr=>hr
 | .clo f caps,_,hr=>by
  obtain⟨l,rfl,hl⟩:=hr;exact⟨l,rfl,RepDL.mono h caps _ hl⟩
 | .mth f first,_,hr=>by
  obtain⟨l,rfl,hl⟩:=hr;exact⟨l,rfl,RepDL.mono h first _ hl⟩
 | .nilf,_,hr=>hr
 | .ifc t x,_,hr=>by
  obtain⟨y,rfl,hy⟩:=hr;exact⟨y,rfl,RepD.mono h x y hy⟩
 | .nili,_,hr=>hr
theorem RepDL.mono{F F':Nat->Nat}{w w':World}(h:Tr F w F' w'):∀ (cs:List D) (l:List Value),RepDL F w cs l->RepDL F' w' cs l
 | [],_,hr=>hr
 | c::r,_,hr=>by
  obtain⟨x,l',rfl,hc,hl⟩:=hr;exact⟨x,l',rfl,RepD.mono h c x hc,RepDL.mono h r l' hl⟩
theorem RepAt.mono{F F':Nat->Nat}{w w':World}(h:Tr F w F' w'):∀ (cs:List D) (b off:Nat),RepAt F w b off cs->RepAt F' w' b off cs
 | [],_,_,_=>trivial
 | c::r,b,off,hr=>by
  obtain⟨hf,⟨x,hx,hc⟩,hl⟩:=hr;exact⟨Nat.lt_of_lt_of_le hf (h.le b),⟨x,(h.cell b off hf).trans hx,RepD.mono h c x hc⟩,RepAt.mono h r b (off+1) hl⟩
theorem RepEs.mono{F F':Nat->Nat}{w w':World}(h:Tr F w F' w'):∀ (es:List (List D)) (b off sz:Nat),RepEs F w b off sz es->RepEs F' w' b off sz es
 | [],_,_,_,_=>trivial
 | e::r,b,off,sz,hr=>by
  obtain⟨hn,he,hl⟩:=hr;exact⟨hn,RepAt.mono h e b off he,RepEs.mono h r b (off+sz) sz hl⟩
theorem RepKv.mono{F F':Nat->Nat}{w w':World}(h:Tr F w F' w'):∀ (kvs:List (D×D)) (l:List MapEntry),RepKv F w kvs l->RepKv F' w' kvs l
 | [],_,hr=>hr
 | (k,v)::r,_,hr=>by
  obtain⟨x,l',rfl,hk,hv,hl⟩:=hr;exact⟨x,l',rfl,RepD.mono h k _ hk,RepD.mono h v _ hv,RepKv.mono h r l' hl⟩
end
structure Loc where
 ρ:Nat->Nat
 κ:Nat->Nat
def qvf(v:Value):Prop:=v.oneCell'=true
mutual
def RepV(yv:Option Nat)(L:Loc)(F:Nat->Nat)(w:World):V->Value->Prop
 | .d v,x=>RepD F w v x
 | .agg cs,x=>∃ l:Array Value,x = .agg l/\RepVL yv L F w cs l.toList
 | .tup cs,x=>∃ l:Array Value,x = .tuple l/\RepVL yv L F w cs l.toList
 | .ptr id off,x=>x = .pointer (some ⟨L.ρ id,off,none⟩)
 | .ep id sz i off,x=>x = .pointer (some ⟨L.ρ id,i*sz+off,none⟩)
 | .sl id sz off len,x=>∃ a cap,x = .slice a len cap/\len<=cap/\0<sz/\((len=0/\cap=0)\/(a=some ⟨L.ρ id,off*sz,none⟩/\(off+cap)*sz<=L.κ id))
 | .mp id,x=>x = .map (some (L.ρ id))
 | .it id,x=>x = .pointer (some ⟨L.ρ id,0,none⟩)
 | .clo f cs,x=>∃ l:Array Value,x = .func (.func f) #[] l/\RepVL yv L F w cs l.toList
 | .yld,x=>∃ l,yv=some l/\x = .func (.yield l) #[] #[]
 | .unk,x=>qvf x
def RepVL(yv:Option Nat)(L:Loc)(F:Nat->Nat)(w:World):List V->List Value->Prop
 | [],l=>l = []
 | c::r,l=>∃ x l',l=x::l'/\RepV yv L F w c x/\RepVL yv L F w r l'
end
def zL{α:Type}(n:Nat)(l:List (List α)):Prop:=∀ e∈l,e.length=n
def Born(en:Array MapEntry)(c:Nat):Prop:=c=en.size /\ ∀ (i:Nat) (e:MapEntry),en[i]?=some e->e.born=i
def qW(s:ByteArray):List Value:=s.data.toList.map fun b=>Value.int .u8 b.toNat
def RepO(yv:Option Nat)(L:Loc)(F:Nat->Nat)(w:World)(id:Nat):Obj->Prop
 | .box cs=>∃ (c:Array Value) (T:TypeId),w.heap[L.ρ id]?=some (.cells c T (0,0))/\RepVL yv L F w cs.toV c.toList
 | .arr sz es=>0<sz/\zL sz es.toV/\((es.toV = []/\L.κ id=0) \/ ∃ (c:Array Value) (T:TypeId),w.heap[L.ρ id]?=some (.cells c T (0,0))/\c.size=L.κ id /\
   es.toV.length*sz<=c.size/\RepVL yv L F w es.toV.flatten (c.toList.take (es.toV.length*sz)))
 | .map kvs=>∃ en c,w.heap[L.ρ id]?=some (.map en c)/\RepKv F w kvs en.toList/\Born en c
 | .iter s pos=>w.heap[L.ρ id]?=some (.stringIter s pos)
 | .tb t l=>∃ c:Array Value,w.heap[L.ρ id]?=some (.cells c t (0,0))/\RepVL yv L F w l c.toList
 | .buf t s=>∃ c:Array Value,w.heap[L.ρ id]?=some (.cells c t (0,0))/\c.size=L.κ id/\s.size<=c.size/\c.toList.take s.size=qW s
 | .mit v n todo cur=>∃ (r:Nat) (seen:Array Nat),RepV yv L F w v (.map (some r))/\w.heap[L.ρ id]?=some (.mapIter (some r) n seen n)/\(∀ i,i∈todo↔i<n/\seen.contains i=false) /\ ∀ i,cur=some i->seen.back?=some i
def Backed(L:Loc)(id:Nat):Obj->Prop
 | .arr _ _=>L.κ id≠0
 | _=>True
structure Cx(σ:Type) where
 C:σ->Nat->Prop
 HG:σ->World->(Nat->Nat)->Prop
 yv:Option Nat
 rcd:Option Go.Loop
 pρ:Nat->Nat
 pκ:Nat->Nat
 base:List Deferred:=[]
 stable:∀ {s w F w' F'},HG s w F->Tr F w F' w'->(∀ b,w'.heap.size<=b->F' b=0)->(∀ b,C s b->w'.heap[b]?=w.heap[b]?/\F' b=F b)->HG s w' F'
structure HeapOk{σ:Type}(cx:Cx σ)(L:Loc)(F:Nat->Nat)(h:Heap)(s:σ)(w:World):Prop where
 hg:cx.HG s w F
 csz:∀ b,cx.C s b->b<w.heap.size
 fresh:∀ b,w.heap.size<=b->F b=0
 obj:∀ id o,get h id=some o->RepO cx.yv L F w id o
 own:∀ id o,get h id=some o->Backed L id o->F (L.ρ id)=0/\¬ cx.C s (L.ρ id)
 inj:∀ i j o p,get h i=some o->get h j=some p->Backed L i o->Backed L j p->L.ρ i=L.ρ j->i=j
def pinned(i:Nat):Prop:=1000000<=i/\i<2000000
def qfb(L L':Loc):Prop:=∀ i,pinned i->L'.ρ i=L.ρ i/\L'.κ i=L.κ i
def mark(r:Nat):Deferred:={ target:=.collected r,args:=#[] }
structure Good{σ:Type}(cx:Cx σ)(r:Option Nat)(m:List Nat)(L:Loc)(F:Nat->Nat)(st:St σ)(a:Act)(w:World):Prop where
 heap:HeapOk cx L F st.heap st.s w
 env:∀ s v,get st.env s=some v -> ∃ x,a.tmps[s]?=some x/\RepV cx.yv L F w v x
 dfr:a.defers=m.map mark++cx.base
 mks:∀ b∈m,w.heap[b]?=some (.deferred (some []))/\¬ cx.C st.s b
 mnd:m.Nodup
 lk:∀ l,r=some l -> ∃ lp,(w.heap[l]?=some (.loop lp)/\cx.rcd=some lp)/\¬ cx.C st.s l
 pin:∀ i,pinned i->L.ρ i=cx.pρ i/\L.κ i=cx.pκ i
 tsz:a.tmps.size<=1000000
structure Hd(σ:Type) where
 y:List V->Heap->σ->(V->Heap->σ->Prop)->Prop
 p:Value->Env->Heap->σ->Prop:=fun _ _ _ _=>False
def Hd.np{σ:Type}(Y:Hd σ):Hd σ:={ y:=Y.y }
structure Laid(P:Program)(w:World):Prop where
 tab : ∀ g, P.globalNamed "internal/strconv.uint64pow10" = some g -> Lib.TabIs P w "internal/strconv.uint64pow10" .u64 Lib.pow10Tab
 len : ∀ g, P.globalNamed "internal/bytealg.MaxLen" = some g -> ∃ m, w.cell? ⟨g, 0, none⟩ = some (.int .i64 m)
 syn : ∀ g, P.globalNamed "strconv.ErrSyntax" = some g -> ∃ t v, w.cell? ⟨g, 0, none⟩ = some (.iface t v)
 rng : ∀ g, P.globalNamed "strconv.ErrRange" = some g -> ∃ t v, w.cell? ⟨g, 0, none⟩ = some (.iface t v)
def qfc{σ:Type}(P:Program)(cx:Cx σ):Prop:=∀ s w F,cx.HG s w F->Laid P w
def fr(r:Option Nat):Fence:={ Fence.wide with round:=r }
def qte{σ:Type}(P:Program)(Y:Hd σ)(cx:Cx σ):Prop:=
 ∀ l,cx.yv=some l -> ∀ (args:List V) (h:Heap) (s:σ) (Q:V->Heap->σ->Prop),Y.y args h s Q ->
  ∀ (L:Loc) (F:Nat->Nat) (vals:Array Value) (w:World),HeapOk cx L F h s w->RepVL cx.yv L F w args vals.toList ->
   ∃ fn tmps asg body,(Instr.yield l vals).run P w = .ok (.round l fn tmps asg body) w /\
    RoundIn Fence.wide 0 P l fn tmps asg body w fun e w'=>∃ x,e = .returned x /\ ∃ v h' s' L' F',Q v h' s'/\HeapOk cx L' F' h' s' w'/\RepV cx.yv L' F' w' v x/\Tr F w F' w'/\qfb L L' /\
     (∀ b,b<w.heap.size->¬ cx.C s b->¬ cx.C s' b) /\
     (∀ b,b<w.heap.size->¬ cx.C s b->(∀ id o,get h id=some o->Backed L id o->L.ρ id≠b)->w'.heap[b]?=w.heap[b]?/\F' b=F b) /\
     (∀ id o,get h' id=some o->Backed L' id o->L'.ρ id<w.heap.size -> ∃ id' o',get h id'=some o'/\Backed L id' o'/\L.ρ id'=L'.ρ id)
structure Handles{σ:Type}(P:Program)(Y:Hd σ)(cx:Cx σ):Prop where
 yld:qte P Y cx
 laid:qfc P cx
inductive AExit where
 | normal|exit (id:Nat)|ret
 deriving Inhabited
def AExit.conc:AExit->Exit
 | .normal=>.normal
 | .exit i=>.exit i
 | .ret=>.ret
def jm(n:Nat):Code->Bool
 | .region _ ops _=>ops.toList.all fun o=>match o.dst with
  | some d=>decide (d<n)
  | none=>true
 | .seq a b=>jm n a&&jm n b
 | .cond _ a b=>jm n a&&jm n b
 | .block _ a=>jm n a
 | .loop a=>jm n a
 | .scope a=>jm n a
 | .rangeFunc _ ps a b=>ps.toList.all (fun d=>decide (d<n))&&jm n a&&jm n b
 | _=>true
def PanicP{σ:Type}(Y:Hd σ)(cx:Cx σ)(r:Option Nat)(F:Nat->Nat)(w:World)(n:Nat)(e:Exit)(a':Act)(w':World):Prop:=
 ∃ v en h s m' L' F',e = .panic [{ v:=v,recovered:=false }]/\Y.p v en h s/\Good cx r m' L' F' ⟨en,h,s⟩ a' w'/\Tr F w F' w'/\a'.tmps.size=n
theorem PanicP.trans{σ:Type}{Y:Hd σ}{cx:Cx σ}{r:Option Nat}{F F0:Nat->Nat}{w w0:World}{n n0:Nat}{e:Exit}{a':Act}{w':World}(h:PanicP Y cx r F w n e a' w')(tr:Tr F0 w0 F w)(hn:n=n0):PanicP Y cx r F0 w0 n0 e a' w':=by
 obtain⟨v,en,hp,s,m',L',F',h1,h2,h3,h4,h5⟩:=h;exact⟨v,en,hp,s,m',L',F',h1,h2,h3,Tr.trans tr h4,h5.trans hn⟩
def WPC{σ:Type}(P:Program)(Y:Hd σ)(c:Code)(st:St σ)(K:AExit->St σ->Prop):Prop:=
 ∀ (cx:Cx σ),Handles P Y cx -> ∀ (r:Option Nat) (m:List Nat) (L:Loc) (F:Nat->Nat) (a:Act) (w:World),Good cx r m L F st a w->jm a.tmps.size c=true ->
  c.wpIn (fr r) 0 P (fun e a' w'=>(∃ e' st' m' L' F',e=e'.conc/\K e' st'/\Good cx r m' L' F' st' a' w'/\Tr F w F' w'/\a'.tmps.size=a.tmps.size)\/PanicP Y cx r F w a.tmps.size e a' w') a w
def qwv{σ:Type}(P:Program)(Y:Hd σ)(st:St σ)(d:Option Nat)(f:FuncId)(args:List V)(K:St σ->Prop):Prop:=
 (∀ (vs:Array Value) (w:World),(callFunc f vs).run P w = .ok (.enter f vs) w) /\
 ∀ (cx:Cx σ),Handles P Y cx -> ∀ (r:Option Nat) (m:List Nat) (L:Loc) (F:Nat->Nat) (a:Act) (w:World) (vals:Array Value),Good cx r m L F st a w->(∀ k,d=some k->k<a.tmps.size)->RepVL cx.yv L F w args vals.toList ->
  CallsIn Fence.wide 0 P f vals w fun e w'=>(∃ x,e = .returned x /\ ∃ st' L' F',K st'/\Good cx r m L' F' st' (a.put d x) w'/\Tr F w F' w') \/
   ∃ v en h s L' F',e = .panicked [{ v:=v,recovered:=false }]/\Y.p v en h s/\Good cx r m L' F' ⟨en,h,s⟩ a w'/\Tr F w F' w'
def qxM{σ:Type}(P:Program)(Y:Hd σ)(st:St σ)(d:Option Nat)(args:List V)(K:St σ->Prop):Prop:=
 ∀ (cx:Cx σ),Handles P Y cx -> ∀ (l:Nat),cx.yv=some l -> ∀ (r:Option Nat) (m:List Nat) (L:Loc) (F:Nat->Nat) (a:Act) (w:World) (vals:Array Value),Good cx r m L F st a w->(∀ k,d=some k->k<a.tmps.size)->RepVL cx.yv L F w args vals.toList ->
  ∃ fn tmps asg body,(Instr.yield l vals).run P w = .ok (.round l fn tmps asg body) w /\
   RoundIn Fence.wide 0 P l fn tmps asg body w fun e w'=>∃ x,e = .returned x /\ ∃ st' L' F',K st'/\Good cx r m L' F' st' (a.put d x) w'/\Tr F w F' w'
def zf{σ:Type}(st:St σ):Wr->St σ
 | .set s v=>⟨put st.env s v,st.heap,st.s⟩
 | .obj id o=>⟨st.env,put st.heap id o,st.s⟩
 | .new id o=>⟨jT (mapId (qz id)) st.env,(id,o)::jT (Obj.mapId (qz id)) (cut st.heap id),st.s⟩
 | .newq id o=>⟨st.env,(id,o)::st.heap,st.s⟩
 | .del id=>⟨st.env,cut st.heap id,st.s⟩
def qx{σ:Type}(st:St σ):List Wr->St σ
 | []=>st
 | w::r=>qx (zf st w) r
def qaF{α:Type}(h k:Tab α):Prop:=∀ s v,get h s=some v->get k s=some v
def Out(P:Program)(e:Env)(h:Heap)(o:Oper)(ws:List Wr):Prop:=
 ∀ {σ:Type} (cx:Cx σ) (r:Option Nat) (m:List Nat) (L:Loc) (F:Nat->Nat) (st:St σ) (a:Act) (w:World),qaF e st.env->qaF h st.heap->Good cx r m L F st a w ->
  (∀ k,o.dst=some k->k<a.tmps.size) ->
  ∃ x w' nx,(execOp a.eval o).run P w = .ok nx w'/\(nx = .value x\/(nx = .skip/\x=undef)) /\ ∃ L' F',Good cx r m L' F' (qx st ws) (a.put o.dst x) w'/\Tr F w F' w'
def qdH(P:Program)(e:Env)(h:Heap)(d:Option Nat)(f:FuncId)(args:List V)(ws:List Wr):Prop:=
 (∀ (vs:Array Value) (w:World),(callFunc f vs).run P w = .ok (.enter f vs) w) /\
 ∀ {σ:Type} (cx:Cx σ),qfc P cx -> ∀ (r:Option Nat) (m:List Nat) (L:Loc) (F:Nat->Nat) (st:St σ) (a:Act) (w:World) (vals:Array Value),qaF e st.env->qaF h st.heap->Good cx r m L F st a w->(∀ k,d=some k->k<a.tmps.size)->RepVL cx.yv L F w args vals.toList ->
  CallsIn Fence.wide 0 P f vals w fun e w'=>∃ x,e = .returned x /\ ∃ L' F',Good cx r m L' F' (qx st ws) (a.put d x) w'/\Tr F w F' w'
structure FnC{σ:Type}(P:Program)(Y:Hd σ)(f:FuncId)(args:List V)(h:Heap)(s:σ)(Q:V->Heap->σ->Prop):Prop where
 enter:∀ (vs:Array Value) (w:World),(callFunc f vs).run P w = .ok (.enter f vs) w
 run:∀ (cx:Cx σ),Handles P Y cx -> ∀ (L:Loc) (F:Nat->Nat) (vals:Array Value) (w:World),HeapOk cx L F h s w->RepVL cx.yv L F w args vals.toList ->
  CallsIn Fence.wide 0 P f vals w fun e w'=>∃ x,e = .returned x /\ ∃ v h' s' L' F',Q v h' s'/\HeapOk cx L' F' h' s' w'/\RepV cx.yv L' F' w' v x/\Tr F w F' w'/\qfb L L'
inductive CallA{σ:Type}(P:Program)(Y:Hd σ)(st:St σ)(d:Option Nat)(f:FuncId)(args:List V)(K:St σ->Prop):Prop where
 | mk (h:qwv P Y st d f args K)
inductive YldA{σ:Type}(P:Program)(Y:Hd σ)(st:St σ)(d:Option Nat)(args:List V)(K:St σ->Prop):Prop where
 | mk (h:qxM P Y st d args K)
inductive LoopA{σ φ:Type}(P:Program)(ft:φ)(Y:Hd σ)(c:Code)(st:St σ)(K:AExit->St σ->Prop):Prop where
 | mk (h:WPC P Y (.loop c) st K)
inductive RegionA{σ φ:Type}(P:Program)(ft:φ)(Y:Hd σ)(id:Nat)(ops:Array Oper)(st:St σ)(K:AExit->St σ->Prop):Prop where
 | mk (h:WPC P Y (.region id ops true) st K)
inductive RangeA{σ φ:Type}(P:Program)(ft:φ)(Y:Hd σ)(g:Operand)(ps:Array Tmp)(a b:Code)(st:St σ)(K:AExit->St σ->Prop):Prop where
 | mk (h:WPC P Y (.rangeFunc g ps a b) st K)
inductive DrawCall(P:Program)(e:Env)(h:Heap)(d:Option Nat)(f:FuncId)(args:List V)(K:List Wr->Prop):Prop where
 | mk (ws:List Wr) (hk:K ws) (ho:qdH P e h d f args ws)
end Go.PX
namespace Go.PX
def qvg{σ:Type}(P:Program)(Y:Hd σ)(dst:Option Nat)(f:Operand)(args:List Operand)(e:Env)(h:Heap)(s:σ)(go:Env->Heap->σ->Prop):Prop:=
 match opnd e f,opnds e args with
 | some (.d (.clo g caps)),some l=>CallA P Y ⟨e,h,s⟩ dst g (l++inj caps) fun|⟨e,h,s⟩=>go e h s
 | some (.clo g caps),some l=>CallA P Y ⟨e,h,s⟩ dst g (l++caps) fun|⟨e,h,s⟩=>go e h s
 | some (.d (.mth g first)),some l=>CallA P Y ⟨e,h,s⟩ dst g (inj first++l) fun|⟨e,h,s⟩=>go e h s
 | some .yld,some l=>YldA P Y ⟨e,h,s⟩ dst l fun|⟨e,h,s⟩=>go e h s
 | _,_=>False
def qmV(T:Tys)(t:TypeId):Bool:=
 match T.get t with
 | some ti=>match ti.kd with
  | .slice _=>true
  | _=>false
 | none=>false
def qoh(T:Tys)(e:Env)(op:BinOp)(t:TypeId)(x y:Operand):Option (Bool×Prop):=
 match qmV T t,op,y,opnd e x with
 | true,.eql,.const (.slice none 0 0),some (.d (.vs es))=>some (false,es ≠ [])
 | true,.neq,.const (.slice none 0 0),some (.d (.vs es))=>some (true,es ≠ [])
 | true,.eql,.const (.slice none 0 0),some (.sl _ _ _ n)=>some (false,0<n)
 | true,.neq,.const (.slice none 0 0),some (.sl _ _ _ n)=>some (true,0<n)
 | true,.eql,.const (.slice none 0 0),some (.d .nils)=>some (true,True)
 | true,.neq,.const (.slice none 0 0),some (.d .nils)=>some (false,True)
 | _,_,_,_=>none
def qpq(neg b:Bool):Bool:=
 match neg with
 | true=>!b
 | false=>b
inductive NilA(neg:Bool)(ne:Prop)(K:Bool->Prop):Prop where
 | mk (h:∀ b,(ne->b=false)->K (qpq neg b))
inductive NextA(kvs:List (D×D))(n:Nat)(todo:List Nat)(K:Option (Nat×(D×D))->Prop):Prop where
 | mk (hn:kvs.length=n) (h0:todo = []->K none) (h1:∀ i kv,i∈todo->kvs[i]?=some kv->K (some (i,kv)))
def qvh{σ:Type}(dst:Option Nat)(x:Operand)(e:Env)(h:Heap)(s:σ)(go:Env->Heap->σ->Prop):Prop:=
 match opnd e x with
 | some (.it id)=>match get h id with
  | some (.mit v n todo cur)=>match qxs h v with
   | some kvs=>NextA kvs n todo fun r=>match r with
    | none=>qP (wset dst (.d (.tup [.bool false]))) e h fun e h=>go e h s
    | some (i,(k,u))=>qP (.obj id (.mit v n (todo.filter fun j=>!Nat.beq j i) (some i))::wset dst (.d (.tup [.bool true,k,u]))) e h fun e h=>go e h s
   | none=>False
  | _=>False
 | _=>False
inductive InvA(P:Program)(t:TypeId)(name:String)(K:FuncId->Prop):Prop where
 | mk (g:FuncId) (h:∀ v w,(method (P.types.size+Made.depth) t v name).run P w = .ok (g,v) w) (hk:K g)
def qxN{σ:Type}(P:Program)(Y:Hd σ)(dst:Option Nat)(f:Operand)(name:String)(args:List Operand)(e:Env)(h:Heap)(s:σ)(go:Env->Heap->σ->Prop):Prop:=
 match opnd e f,opnds e args with
 | some (.d (.ifc t v)),some l=>InvA P t name fun g=>CallA P Y ⟨e,h,s⟩ dst g (.d v::l) fun|⟨e,h,s⟩=>go e h s
 | _,_=>False
def qxO{σ:Type}(Y:Hd σ)(x:Operand)(e:Env)(h:Heap)(s:σ):Prop:=
 match opnd e x with
 | some (.d (.ifc t (.int k n)))=>Y.p (.iface t (.int k n)) e h s
 | _=>False
def qqN{σ:Type}(P:Program)(T:Tys)(Y:Hd σ)(dst:Option Nat)(op:Op)(e:Env)(h:Heap)(s:σ)(go:Env->Heap->σ->Prop):Prop:=
 match op with
 | .call ⟨callee,args,tys⟩=>match callee with
  | .builtin b=>jL T e h dst b args tys fun ws=>qP ws e h fun e h=>go e h s
  | .value f=>qvg P Y dst f args.toList e h s go
  | .invoke f name=>qxN P Y dst f name args.toList e h s go
 | .panic x=>qxO Y x e h s
 | .next x b=>match b with
  | true=>opK T e h dst (.next x true) fun ws=>qP ws e h fun e h=>go e h s
  | false=>qvh dst x e h s go
 | .binOp op t x y ty=>match qoh T e op t x y with
  | some (neg,ne)=>NilA neg ne fun b=>qP (wset dst (.d (.bool b))) e h fun e h=>go e h s
  | none=>opK T e h dst (.binOp op t x y ty) fun ws=>qP ws e h fun e h=>go e h s
 | op=>opK T e h dst op fun ws=>qP ws e h fun e h=>go e h s
noncomputable def qmW{σ:Type}(P:Program)(T:Tys)(Y:Hd σ)(ops:List Oper)(l:List Oper):Env->Heap->σ->(Env->Heap->σ->Prop)->Prop:=
 List.rec (motive:=fun _=>Env->Heap->σ->(Env->Heap->σ->Prop)->Prop) (fun e h s K=>K e h s)
  (fun o _ ih e h s K=>match o with
   | ⟨dst,op,_,_,_,guard⟩=>qex ops e guard
    (fun w=>qP w e h fun e h=>qqN P T Y dst op e h s fun e h s=>ih e h s K)
    (fun w=>qP w e h fun e h=>qP (wset dst (.d (.tup []))) e h fun e h=>ih e h s K)) l
theorem qpr{σ:Type}(P:Program)(T:Tys)(Y:Hd σ)(ops:List Oper)(dst:Option Nat)(op:Op)(ty:TypeId)(pos:String)(after:Array Edge)(guard:Option (Nat×Bool))(l:List Oper)(e:Env)(h:Heap)(s:σ)(K:Env->Heap->σ->Prop) :
  qmW P T Y ops (⟨dst,op,ty,pos,after,guard⟩::l) e h s K=qex ops e guard
    (fun w=>qP w e h fun e h=>qqN P T Y dst op e h s fun e h s=>qmW P T Y ops l e h s K)
    (fun w=>qP w e h fun e h=>qP (wset dst (.d (.tup []))) e h fun e h=>qmW P T Y ops l e h s K):=rfl
structure OT where
 ts:List Nat
 prs:List Nat
def inL:List Nat->Nat->Bool
 | [],_=>false
 | k::r,n=>match Nat.beq k n with
  | true=>true
  | false=>inL r n
def disj:List Nat->List Nat->Bool
 | [],_=>true
 | k::r,l=>match inL l k with
  | true=>false
  | false=>disj r l
structure OO where
 os:List Nat
 mo:List Nat
 nw:List Nat
 men:List Nat
def apart(a b:OO):Bool:=
 match disj a.mo b.os,disj a.mo b.mo,disj b.mo a.os,disj b.nw a.men with
 | true,true,true,true=>true
 | _,_,_,_=>false
def qda(o:OO)(acc:List OO):List Nat->Bool
 | []=>true
 | i::r=>match acc[i]? with
  | some p=>match apart o p with
   | true=>qda o acc r
   | false=>false
  | none=>false
def qhr(mk:List Nat):List OO->Bool
 | []=>true
 | p::r=>match disj mk p.men,disj mk p.mo with
  | true,true=>qhr mk r
  | _,_=>false
def qxt:List Nat->List Nat->Bool
 | [],_=>true
 | k::r,l=>match inL l k with
  | true=>qxt r l
  | false=>false
def quI(d:Nat)(h:Heap):V->List Nat:=
 match d with
 | 0=>fun _=>[]
 | d+1=>fun v=>match v with
  | .d _=>[]
  | .agg cs=>cs.flatMap (quI d h)
  | .tup cs=>cs.flatMap (quI d h)
  | .clo _ cs=>cs.flatMap (quI d h)
  | v=>match qdE v with
   | none=>[]
   | some i=>i::(match get h i with
    | some (.box (.vv cs))=>cs.flatMap (quI d h)
    | some (.arr _ (.vv es))=>es.flatMap fun e=>e.flatMap (quI d h)
    | some (.mit v _ _ _)=>quI d h v
    | some (.tb _ cs)=>cs.flatMap (quI d h)
    | _=>[])
def qvi(d:Nat)(e:Env)(h:Heap):List Nat->List Nat
 | []=>[]
 | s::r=>match get e s with
  | some v=>quI d h v++qvi d e h r
  | none=>qvi d e h r
def qdI(e:Env):List Nat->List Nat
 | []=>[]
 | s::r=>match get e s with
  | some v=>match qdE v with
   | some i=>i::qdI e r
   | none=>qdI e r
  | none=>qdI e r
def qmX(op:Op)(e:Env)(h:Heap)(ts:List Nat):List Nat:=
 match op with
 | .load _ _=>qdI e ts
 | .store _ (.tmp a) _=>qdI e [a]
 | .call ⟨callee,_,_⟩=>match callee with
  | .builtin _=>qdI e ts
  | _=>qvi 9 e h ts
 | .lookup _ _ _ _=>qdI e ts
 | .mapUpdate _ (.tmp a) _ _=>qdI e [a]
 | .insert _ (.tmp a) _ _=>qdI e [a]
 | .mapEntry _ (.tmp a) _=>qdI e [a]
 | .entryStore _ (.tmp a) _ _=>qdI e [a]
 | _=>[]
def qM{α:Type}(l:List Nat):Tab α->Tab α
 | []=>[]
 | (k,v)::r=>match inL l k with
  | true=>(k,v)::qM l r
  | false=>qM l r
def qmY:List Wr->List Wr
 | []=>[]
 | w::r=>(match w with
  | .new id o=>.newq id o
  | w=>w)::qmY r
def jj:List Wr->List Nat
 | []=>[]
 | w::r=>match w with
  | .set _ _=>jj r
  | .obj i _=>i::jj r
  | .new i _=>i::jj r
  | .newq i _=>i::jj r
  | .del i=>i::jj r
def zp:List Wr->List Nat
 | []=>[]
 | w::r=>match w with
  | .new i _=>i::zp r
  | _=>zp r
mutual
def zq:V->List Nat
 | .d _=>[]
 | .agg cs=>zh cs
 | .tup cs=>zh cs
 | .clo _ cs=>zh cs
 | .ptr j _=>[j]
 | .ep j _ _ _=>[j]
 | .sl j _ _ _=>[j]
 | .mp j=>[j]
 | .it j=>[j]
 | .yld=>[]
 | .unk=>[]
def zh:List V->List Nat
 | []=>[]
 | v::r=>zq v++zh r
end
def qaH:Obj->List Nat
 | .box (.vv l)=>zh l
 | .arr _ (.vv l)=>zh l.flatten
 | .mit v _ _ _=>zq v
 | .tb _ l=>zh l
 | _=>[]
def zE:List Wr->List Nat
 | []=>[]
 | w::r=>match w with
  | .set _ v=>zq v++zE r
  | .obj _ o=>qaH o++zE r
  | .new _ o=>qaH o++zE r
  | .newq _ o=>qaH o++zE r
  | .del _=>zE r
def qaw:List Wr->Bool
 | []=>true
 | w::r=>match w with
  | .set _ v=>match disj (zp r) (zq v) with
   | true=>qaw r
   | false=>false
  | .obj i o=>match disj (zp r) (i::qaH o) with
   | true=>qaw r
   | false=>false
  | .new i o=>match disj (zp r) (i::qaH o) with
   | true=>qaw r
   | false=>false
  | .newq _ _=>false
  | .del _=>qaw r
def qfd(d:Option Nat):List Wr->Bool
 | []=>true
 | w::r=>match w with
  | .set s _=>match d with
   | some d=>match Nat.beq s d with
    | true=>qfd d r
    | false=>false
   | none=>false
  | _=>qfd d r
def qdJ(d:Option Nat)(made:List Nat)(acc:List OO)(prs:List Nat)(ws:List Wr)(o:OO):Bool:=
 match qda o acc prs,qhr o.nw acc,qxt o.nw made,qaw ws,qfd d ws with
 | true,true,true,true,true=>true
 | _,_,_,_,_=>false
noncomputable def wpD(P:Program)(T:Tys)(made:List Nat)(ops:List Oper)(l:List (Oper×OT)):List OO->Env->Heap->(Env->Heap->Prop)->Prop:=
 List.rec (motive:=fun _=>List OO->Env->Heap->(Env->Heap->Prop)->Prop) (fun _ e h K=>K e h)
  (fun o _ ih acc e h K=>match o with
   | (⟨dst,op,_,_,after,guard⟩,⟨ts,prs⟩)=>jv (qmX op e h ts) fun os=>jX (qM ts e) fun e'=>qbi (qM os h) fun h'=>
    qex ops e' guard
     (fun w=>
      let go:=fun ws=>jv (jj ws) fun mo=>jv (zp ws) fun mk=>jv (zE ws) fun men=>
       chk (qdJ dst made acc prs ws ⟨os,mo,mk,men⟩) (qP w e h fun e h=>qP (qmY ws) e h fun e h=>ih (acc ++ [⟨os,mo,mk,men⟩]) e h K)
      match op with
      | .call ⟨callee,args,tys⟩=>match callee with
       | .builtin b=>jL T e' h' dst b args tys go
       | .value f=>match opnd e' f,opnds e' args.toList with
        | some (.d (.clo g caps)),some l=>DrawCall P e' h' dst g (l++inj caps) go
        | some (.clo g caps),some l=>DrawCall P e' h' dst g (l++caps) go
        | _,_=>False
       | .invoke f name=>match opnd e' f,opnds e' args.toList with
        | some (.d (.ifc t v)),some l=>InvA P t name fun g=>DrawCall P e' h' dst g (.d v::l) go
        | _,_=>False
      | op=>opK T e' h' dst op go)
     (fun w=>chk (qda ⟨os,[],[],[]⟩ acc prs) (qP w e h fun e h=>qP (wset dst (.d (.tup []))) e h fun e h=>ih (acc ++ [⟨os,[],[],[]⟩]) e h K))) l
def jA(i j:Nat)(v:V):V:=
 match v with
 | .ptr k off=>match Nat.beq k i with
  | true=>.ptr j off
  | false=>v
 | .ep k sz n off=>match Nat.beq k i with
  | true=>.ep j sz n off
  | false=>v
 | .sl k sz off n=>match Nat.beq k i with
  | true=>.sl j sz off n
  | false=>v
 | .mp k=>match Nat.beq k i with
  | true=>.mp j
  | false=>v
 | .it k=>match Nat.beq k i with
  | true=>.it j
  | false=>v
 | v=>v
def qfe(i j:Nat):Heap->Heap
 | []=>[]
 | (k,o)::r=>match Nat.beq k i with
  | true=>(j,o.mapId (jA i j))::qfe i j r
  | false=>(k,o.mapId (jA i j))::qfe i j r
noncomputable def qlj(l:List Nat):Env->Heap->(Env->Heap->Prop)->Prop:=
 List.rec (motive:=fun _=>Env->Heap->(Env->Heap->Prop)->Prop) (fun e h K=>K e h)
  (fun d _ ih e h K=>match get h d with
  | none=>jX (jT (mapId (qz d)) e) fun e=>qbi (jT (Obj.mapId (qz d)) h) fun h=>ih e h K
  | some _=>jX (jT (mapId (jA d (500000+d))) (jT (mapId (qz (500000+d))) e)) fun e=>
    qbi (qfe d (500000+d) (jT (Obj.mapId (qz (500000+d))) (cut h (500000+d)))) fun h=>ih e h K) l
structure RT where
 made:List Nat
 ots:List OT
structure FT where
 ks:List Nat
 tb:List (Nat×RT)
def qmZ(v:Option V)(X Y:Prop):Prop:=
 match v with
 | some (.d (.bool t))=>brk t X Y
 | _=>False
def qqO{σ:Type}(i:Nat)(K:AExit->St σ->Prop)(e:AExit)(st:St σ):Prop:=
 match e with
 | .exit j=>match Nat.beq j i with
  | true=>K .normal st
  | false=>K (.exit j) st
 | e=>K e st
noncomputable def wpA{σ:Type}(P:Program)(T:Tys)(ft:FT)(Y:Hd σ)(c:Code):St σ->(AExit->St σ->Prop)->Prop:=
 Code.rec (motive:=fun _=>St σ->(AExit->St σ->Prop)->Prop)
  (fun st K=>K .normal st)
  (fun id ops draw st K=>match st,draw with
   | ⟨e,h,s⟩,false=>qmW P T Y ops.toList ops.toList e h s fun e h s=>jX (qM ft.ks e) fun e=>K .normal ⟨e,h,s⟩
   | ⟨e,h,s⟩,true=>match get ft.tb id with
    | some ⟨made,ots⟩=>qlj made e h fun e h=>wpD P T made ops.toList (ops.toList.zip ots) [] e h fun e h=>jX (qM ft.ks e) fun e=>K .normal ⟨e,h,s⟩
    | none=>RegionA P ft Y id ops ⟨e,h,s⟩ K)
  (fun _ _ iha ihb st K=>iha st fun e st=>match e with
   | .normal=>ihb st K
   | e=>K e st)
  (fun c _ _ iha ihb st K=>match st with
   | ⟨e,h,s⟩=>qmZ (opnd e c) (iha ⟨e,h,s⟩ K) (ihb ⟨e,h,s⟩ K))
  (fun i _ ih st K=>ih st (qqO i K))
  (fun c _ st K=>LoopA P ft Y c st K)
  (fun g ps a b _ _ st K=>RangeA P ft Y g ps a b st K)
  (fun i st K=>K (.exit i) st)
  (fun _ ih st K=>ih st K)
  (fun _ st K=>K .normal st)
  (fun _ _ _=>False)
  (fun st K=>K .ret st)
  (fun _ _ _=>False) c
def jn:Nat->List V->Env
 | _,[]=>[]
 | i,v::r=>(i,v)::jn (i+1) r
noncomputable def quJ(T:Tys)(g:Env)(h:Heap)(l:List ResultVar):(List V->Prop)->Prop:=
 List.rec (motive:=fun _=>(List V->Prop)->Prop) (fun K=>K [])
  (fun r _ ih K=>match r with
  | .tmp t=>match get g t with
   | some v=>ih fun l=>K (v::l)
   | none=>False
  | .cell a t=>qqK T g h t (.tmp a) fun v=>ih fun l=>K (v::l)) l
def qtf(l:List Value):Value:=
 match l with
 | [x]=>x
 | l=>.tuple l.toArray
inductive RetA{σ:Type}(l:List V)(h:Heap)(s:σ)(Q:V->Heap->σ->Prop):Prop where
 | mk (hr:∀ (cx:Cx σ) (L:Loc) (F:Nat->Nat) (vals:List Value) (w:World),HeapOk cx L F h s w->RepVL cx.yv L F w l vals ->
   ∃ v h' L' F',Q v h' s/\HeapOk cx L' F' h' s w/\RepV cx.yv L' F' w v (qtf vals)/\Tr F w F' w/\qfb L L')
def fnK{σ:Type}(T:Tys)(rs:List ResultVar)(Q:V->Heap->σ->Prop)(e:AExit)(st:St σ):Prop:=
 match e with
 | .exit _=>False
 | _=>match st with
  | ⟨e,h,s⟩=>quJ T e h rs fun l=>RetA l h s Q
end Go.PX
