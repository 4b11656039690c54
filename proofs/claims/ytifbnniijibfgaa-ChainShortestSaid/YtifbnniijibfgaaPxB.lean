import Derived.Test.YtifbnniijibfgaaPxA
set_option linter.all false
/- PX: code. -/
namespace Go.PX

/-- A call of a function value. -/
def callK {σ : Type} (P : Program) (Y : Hd σ) (dst : Option Nat) (f : Operand) (args : List Operand) (e : Env) (h : Heap) (s : σ) (go : Env → Heap → σ → Prop) : Prop :=
  match opnd e f, opnds e args with
  | some (.d (.clo g caps)), some l => CallA P Y ⟨e, h, s⟩ dst g (l ++ inj caps) fun | ⟨e, h, s⟩ => go e h s
  | some (.clo g caps), some l => CallA P Y ⟨e, h, s⟩ dst g (l ++ caps) fun | ⟨e, h, s⟩ => go e h s
  | some (.d (.mth g first)), some l => CallA P Y ⟨e, h, s⟩ dst g (inj first ++ l) fun | ⟨e, h, s⟩ => go e h s
  | some .yld, some l => YldA P Y ⟨e, h, s⟩ dst l fun | ⟨e, h, s⟩ => go e h s
  | _, _ => False

def isSlice (T : Tys) (t : TypeId) : Bool :=
  match T.get t with
  | some ti => match ti.kd with
    | .slice _ => true
    | _ => false
  | none => false

/-- A slice is compared with nil: whether it is asked for being other, and what is known. -/
def nilCmp (T : Tys) (e : Env) (op : BinOp) (t : TypeId) (x y : Operand) : Option (Bool × Prop) :=
  match isSlice T t, op, y, opnd e x with
  | true, .eql, .const (.slice none 0 0), some (.d (.vs es)) => some (false, es ≠ [])
  | true, .neq, .const (.slice none 0 0), some (.d (.vs es)) => some (true, es ≠ [])
  | true, .eql, .const (.slice none 0 0), some (.sl _ _ _ n) => some (false, 0 < n)
  | true, .neq, .const (.slice none 0 0), some (.sl _ _ _ n) => some (true, 0 < n)
  | _, _, _, _ => none

def turnB (neg b : Bool) : Bool :=
  match neg with
  | true => !b
  | false => b

/-- Whether a slice is nil is known if it has elements. -/
inductive NilA (neg : Bool) (ne : Prop) (K : Bool → Prop) : Prop where
  | mk (h : ∀ b, (ne → b = false) → K (turnB neg b))

/-- One operation that is wanted. -/
def stepK {σ : Type} (P : Program) (T : Tys) (Y : Hd σ) (dst : Option Nat) (op : Op) (e : Env) (h : Heap) (s : σ) (go : Env → Heap → σ → Prop) : Prop :=
  match op with
  | .call ⟨callee, args, tys⟩ => match callee with
    | .builtin b => builtinK T e h dst b args tys fun ws => applyK ws e h fun e h => go e h s
    | .value f => callK P Y dst f args.toList e h s go
    | _ => False
  | .binOp op t x y ty => match nilCmp T e op t x y with
    | some (neg, ne) => NilA neg ne fun b => applyK (wset dst (.d (.bool b))) e h fun e h => go e h s
    | none => opK T e h dst (.binOp op t x y ty) fun ws => applyK ws e h fun e h => go e h s
  | op => opK T e h dst op fun ws => applyK ws e h fun e h => go e h s

/-- Operations in the order of the text. -/
noncomputable def wpOps {σ : Type} (P : Program) (T : Tys) (Y : Hd σ) (ops : List Oper) (l : List Oper) : Env → Heap → σ → (Env → Heap → σ → Prop) → Prop :=
  List.rec (motive := fun _ => Env → Heap → σ → (Env → Heap → σ → Prop) → Prop) (fun e h s K => K e h s)
    (fun o _ ih e h s K => match o with
      | ⟨dst, op, _, _, _, guard⟩ => guardK ops e guard
        (fun w => applyK w e h fun e h => stepK P T Y dst op e h s fun e h s => ih e h s K)
        (fun w => applyK w e h fun e h => applyK (wset dst (.d (.tup []))) e h fun e h => ih e h s K)) l

theorem wpOps_cons {σ : Type} (P : Program) (T : Tys) (Y : Hd σ) (ops : List Oper) (dst : Option Nat) (op : Op) (ty : TypeId) (pos : String) (after : Array Edge) (guard : Option (Nat × Bool)) (l : List Oper) (e : Env) (h : Heap) (s : σ) (K : Env → Heap → σ → Prop) :
    wpOps P T Y ops (⟨dst, op, ty, pos, after, guard⟩ :: l) e h s K = guardK ops e guard
        (fun w => applyK w e h fun e h => stepK P T Y dst op e h s fun e h s => wpOps P T Y ops l e h s K)
        (fun w => applyK w e h fun e h => applyK (wset dst (.d (.tup []))) e h fun e h => wpOps P T Y ops l e h s K) := rfl

/-! Regions that draw their order. -/

/-- What is known beforehand of an operation: the slots that it names; which earlier ones are not ahead of it. -/
structure OT where
  ts : List Nat
  prs : List Nat

def inL : List Nat → Nat → Bool
  | [], _ => false
  | k :: r, n => match Nat.beq k n with
    | true => true
    | false => inL r n

def disj : List Nat → List Nat → Bool
  | [], _ => true
  | k :: r, l => match inL l k with
    | true => false
    | false => disj r l

/-- The objects that an operation looks at, those that it writes, those that it makes, those that it names. -/
structure OO where
  os : List Nat
  mo : List Nat
  nw : List Nat
  men : List Nat

def apart (a b : OO) : Bool :=
  match disj a.mo b.os, disj a.mo b.mo, disj b.mo a.os, disj b.nw a.men with
  | true, true, true, true => true
  | _, _, _, _ => false

def apartAll (o : OO) (acc : List OO) : List Nat → Bool
  | [] => true
  | i :: r => match acc[i]? with
    | some p => match apart o p with
      | true => apartAll o acc r
      | false => false
    | none => false

/-- What is made is new to all before. -/
def newAll (mk : List Nat) : List OO → Bool
  | [] => true
  | p :: r => match disj mk p.men, disj mk p.mo with
    | true, true => newAll mk r
    | _, _ => false

def subL : List Nat → List Nat → Bool
  | [], _ => true
  | k :: r, l => match inL l k with
    | true => subL r l
    | false => false

/-- The objects behind a value. -/
def idsV (d : Nat) (h : Heap) : V → List Nat :=
  match d with
  | 0 => fun _ => []
  | d + 1 => fun v => match v with
    | .d _ => []
    | .agg cs => cs.flatMap (idsV d h)
    | .tup cs => cs.flatMap (idsV d h)
    | .clo _ cs => cs.flatMap (idsV d h)
    | v => match idOf v with
      | none => []
      | some i => i :: (match get h i with
        | some (.box (.vv cs)) => cs.flatMap (idsV d h)
        | some (.arr _ (.vv es)) => es.flatMap fun e => e.flatMap (idsV d h)
        | _ => [])

def idsAt (d : Nat) (e : Env) (h : Heap) : List Nat → List Nat
  | [] => []
  | s :: r => match get e s with
    | some v => idsV d h v ++ idsAt d e h r
    | none => idsAt d e h r

def topIds (e : Env) : List Nat → List Nat
  | [] => []
  | s :: r => match get e s with
    | some v => match idOf v with
      | some i => i :: topIds e r
      | none => topIds e r
    | none => topIds e r

/-- The objects that an operation looks at. -/
def looksAt (op : Op) (e : Env) (h : Heap) (ts : List Nat) : List Nat :=
  match op with
  | .load _ _ => topIds e ts
  | .store _ (.tmp a) _ => topIds e [a]
  | .call ⟨callee, _, _⟩ => match callee with
    | .builtin _ => topIds e ts
    | _ => idsAt 9 e h ts
  | .lookup _ _ _ _ => topIds e ts
  | .mapUpdate _ (.tmp a) _ _ => topIds e [a]
  | _ => []

def keepT {α : Type} (l : List Nat) : Tab α → Tab α
  | [] => []
  | (k, v) :: r => match inL l k with
    | true => (k, v) :: keepT l r
    | false => keepT l r

def toQs : List Wr → List Wr
  | [] => []
  | w :: r => (match w with
    | .new id o => .newq id o
    | w => w) :: toQs r

def wObjs : List Wr → List Nat
  | [] => []
  | w :: r => match w with
    | .set _ _ => wObjs r
    | .obj i _ => i :: wObjs r
    | .new i _ => i :: wObjs r
    | .newq i _ => i :: wObjs r
    | .del i => i :: wObjs r

def wNews : List Wr → List Nat
  | [] => []
  | w :: r => match w with
    | .new i _ => i :: wNews r
    | _ => wNews r

mutual
def namesOf : V → List Nat
  | .d _ => []
  | .agg cs => namesOfL cs
  | .tup cs => namesOfL cs
  | .clo _ cs => namesOfL cs
  | .ptr j _ => [j]
  | .ep j _ _ _ => [j]
  | .sl j _ _ _ => [j]
  | .mp j => [j]
  | .it j => [j]
  | .yld => []
  | .unk => []
def namesOfL : List V → List Nat
  | [] => []
  | v :: r => namesOf v ++ namesOfL r
end

def namesOfO : Obj → List Nat
  | .box (.vv l) => namesOfL l
  | .arr _ (.vv l) => namesOfL l.flatten
  | _ => []

def wNames : List Wr → List Nat
  | [] => []
  | w :: r => match w with
    | .set _ v => namesOf v ++ wNames r
    | .obj _ o => namesOfO o ++ wNames r
    | .new _ o => namesOfO o ++ wNames r
    | .newq _ o => namesOfO o ++ wNames r
    | .del _ => wNames r

/-- What is made is not named before. -/
def newsOk : List Wr → Bool
  | [] => true
  | w :: r => match w with
    | .set _ v => match disj (wNews r) (namesOf v) with
      | true => newsOk r
      | false => false
    | .obj i o => match disj (wNews r) (i :: namesOfO o) with
      | true => newsOk r
      | false => false
    | .new i o => match disj (wNews r) (i :: namesOfO o) with
      | true => newsOk r
      | false => false
    | .newq _ _ => false
    | .del _ => newsOk r

/-- Only this slot is written. -/
def setsIn (d : Option Nat) : List Wr → Bool
  | [] => true
  | w :: r => match w with
    | .set s _ => match d with
      | some d => match Nat.beq s d with
        | true => setsIn d r
        | false => false
      | none => false
    | _ => setsIn d r

def drawChk (d : Option Nat) (made : List Nat) (acc : List OO) (prs : List Nat) (ws : List Wr) (o : OO) : Bool :=
  match apartAll o acc prs, newAll o.nw acc, subL o.nw made, newsOk ws, setsIn d ws with
  | true, true, true, true, true => true
  | _, _, _, _, _ => false

/-- A region that draws, in the order of the text: each operation is done on what it looks at. -/
noncomputable def wpD (P : Program) (T : Tys) (made : List Nat) (ops : List Oper) (l : List (Oper × OT)) : List OO → Env → Heap → (Env → Heap → Prop) → Prop :=
  List.rec (motive := fun _ => List OO → Env → Heap → (Env → Heap → Prop) → Prop) (fun _ e h K => K e h)
    (fun o _ ih acc e h K => match o with
      | (⟨dst, op, _, _, after, guard⟩, ⟨ts, prs⟩) => forceN (looksAt op e h ts) fun os => forceE (keepT ts e) fun e' => forceH (keepT os h) fun h' =>
        guardK ops e' guard
          (fun w => 
            let go := fun ws => forceN (wObjs ws) fun mo => forceN (wNews ws) fun mk => forceN (wNames ws) fun men =>
              chk (drawChk dst made acc prs ws ⟨os, mo, mk, men⟩) (applyK w e h fun e h => applyK (toQs ws) e h fun e h => ih (acc ++ [⟨os, mo, mk, men⟩]) e h K)
            match op with
            | .call ⟨callee, args, tys⟩ => match callee with
              | .builtin b => builtinK T e' h' dst b args tys go
              | .value f => match opnd e' f, opnds e' args.toList with
                | some (.d (.clo g caps)), some l => DrawCall P e' h' dst g (l ++ inj caps) go
                | some (.clo g caps), some l => DrawCall P e' h' dst g (l ++ caps) go
                | _, _ => False
              | _ => False
            | op => opK T e' h' dst op go)
          (fun w => chk (apartAll ⟨os, [], [], []⟩ acc prs) (applyK w e h fun e h => applyK (wset dst (.d (.tup []))) e h fun e h => ih (acc ++ [⟨os, [], [], []⟩]) e h K))) l

/-- An object gets another number. -/
def moveF (i j : Nat) (v : V) : V :=
  match v with
  | .ptr k off => match Nat.beq k i with
    | true => .ptr j off
    | false => v
  | .ep k sz n off => match Nat.beq k i with
    | true => .ep j sz n off
    | false => v
  | .sl k sz off n => match Nat.beq k i with
    | true => .sl j sz off n
    | false => v
  | .mp k => match Nat.beq k i with
    | true => .mp j
    | false => v
  | .it k => match Nat.beq k i with
    | true => .it j
    | false => v
  | v => v

def moveT (i j : Nat) : Heap → Heap
  | [] => []
  | (k, o) :: r => match Nat.beq k i with
    | true => (j, o.mapId (moveF i j)) :: moveT i j r
    | false => (k, o.mapId (moveF i j)) :: moveT i j r

/-- The objects whose numbers will be given anew move away. -/
noncomputable def awayK (l : List Nat) : Env → Heap → (Env → Heap → Prop) → Prop :=
  List.rec (motive := fun _ => Env → Heap → (Env → Heap → Prop) → Prop) (fun e h K => K e h)
    (fun d _ ih e h K => match get h d with
    | none => forceE (mapT (mapId (killF d)) e) fun e => forceH (mapT (Obj.mapId (killF d)) h) fun h => ih e h K
    | some _ => forceE (mapT (mapId (moveF d (500000 + d))) (mapT (mapId (killF (500000 + d))) e)) fun e =>
        forceH (moveT d (500000 + d) (mapT (Obj.mapId (killF (500000 + d))) (cut h (500000 + d)))) fun h => ih e h K) l

/-- What is known beforehand of a region that draws. -/
structure RT where
  made : List Nat
  ots : List OT

structure FT where
  ks : List Nat
  tb : List (Nat × RT)

def condK (v : Option V) (X Y : Prop) : Prop :=
  match v with
  | some (.d (.bool t)) => brk t X Y
  | _ => False

def blockK {σ : Type} (i : Nat) (K : AExit → St σ → Prop) (e : AExit) (st : St σ) : Prop :=
  match e with
  | .exit j => match Nat.beq j i with
    | true => K .normal st
    | false => K (.exit j) st
  | e => K e st

noncomputable def wpA {σ : Type} (P : Program) (T : Tys) (ft : FT) (Y : Hd σ) (c : Code) : St σ → (AExit → St σ → Prop) → Prop :=
  Code.rec (motive := fun _ => St σ → (AExit → St σ → Prop) → Prop)
    (fun st K => K .normal st)
    (fun id ops draw st K => match st, draw with
      | ⟨e, h, s⟩, false => wpOps P T Y ops.toList ops.toList e h s fun e h s => forceE (keepT ft.ks e) fun e => K .normal ⟨e, h, s⟩
      | ⟨e, h, s⟩, true => match get ft.tb id with
        | some ⟨made, ots⟩ => awayK made e h fun e h => wpD P T made ops.toList (ops.toList.zip ots) [] e h fun e h => forceE (keepT ft.ks e) fun e => K .normal ⟨e, h, s⟩
        | none => False)
    (fun _ _ iha ihb st K => iha st fun e st => match e with
      | .normal => ihb st K
      | e => K e st)
    (fun c _ _ iha ihb st K => match st with
      | ⟨e, h, s⟩ => condK (opnd e c) (iha ⟨e, h, s⟩ K) (ihb ⟨e, h, s⟩ K))
    (fun i _ ih st K => ih st (blockK i K))
    (fun c _ st K => LoopA P ft Y c st K)
    (fun g ps a b _ _ st K => RangeA P ft Y g ps a b st K)
    (fun i st K => K (.exit i) st)
    (fun _ ih st K => ih st K)
    (fun _ st K => K .normal st)
    (fun _ _ _ => False)
    (fun st K => K .ret st)
    (fun _ _ _ => False) c

def enterE : Nat → List V → Env
  | _, [] => []
  | i, v :: r => (i, v) :: enterE (i + 1) r

noncomputable def resK (T : Tys) (g : Env) (h : Heap) (l : List ResultVar) : (List V → Prop) → Prop :=
  List.rec (motive := fun _ => (List V → Prop) → Prop) (fun K => K [])
    (fun r _ ih K => match r with
    | .tmp t => match get g t with
      | some v => ih fun l => K (v :: l)
      | none => False
    | .cell a t => loadK T g h t (.tmp a) fun v => ih fun l => K (v :: l)) l

def packV (l : List Value) : Value :=
  match l with
  | [x] => x
  | l => .tuple l.toArray

/-- Results, as the caller gets them: what is known of the values and of the objects handed back. -/
inductive RetA {σ : Type} (l : List V) (h : Heap) (s : σ) (Q : V → Heap → σ → Prop) : Prop where
  | mk (hr : ∀ (cx : Cx σ) (L : Loc) (F : Nat → Nat) (vals : List Value) (w : World), HeapOk cx L F h s w → RepVL cx.yv L F w l vals →
      ∃ v h' L' F', Q v h' s ∧ HeapOk cx L' F' h' s w ∧ RepV cx.yv L' F' w v (packV vals) ∧ Tr F w F' w ∧ PinEq L L')

def fnK {σ : Type} (T : Tys) (rs : List ResultVar) (Q : V → Heap → σ → Prop) (e : AExit) (st : St σ) : Prop :=
  match e with
  | .exit _ => False
  | _ => match st with
    | ⟨e, h, s⟩ => resK T e h rs fun l => RetA l h s Q

end Go.PX

/- PX: each kind of write keeps the relation between an abstract state and a frame. -/
namespace Go.PX
open Go.RowKit

theorem get_put {α : Type} (t : Tab α) (s : Nat) (v : α) (x : Nat) : get (put t s v) x = if x = s then some v else get t x := by
  induction t with
  | nil =>
    simp only [put, get]
    by_cases h : x = s
    · subst h; simp
    · have : Nat.beq s x = false := by rw [Bool.eq_false_iff]; intro e; exact h (Nat.eq_of_beq_eq_true e).symm
      simp [this, h]
  | cons kv r ih =>
    obtain ⟨k, u⟩ := kv
    simp only [put]
    cases hk : Nat.beq k s with
    | true =>
      have := Nat.eq_of_beq_eq_true hk; subst this
      simp only [get]
      by_cases h : x = k
      · subst h; simp
      · have : Nat.beq k x = false := by rw [Bool.eq_false_iff]; intro e; exact h (Nat.eq_of_beq_eq_true e).symm
        simp [this, h]
    | false =>
      simp only [get]
      cases hx : Nat.beq k x with
      | true =>
        have := Nat.eq_of_beq_eq_true hx; subst this
        have : k ≠ s := by rintro rfl; simp at hk
        simp [this]
      | false => exact ih

theorem get_cut {α : Type} (t : Tab α) (s : Nat) (x : Nat) : get (cut t s) x = if x = s then none else get t x := by
  induction t with
  | nil => simp [cut, get]
  | cons kv r ih =>
    obtain ⟨k, u⟩ := kv
    simp only [cut]
    cases hk : Nat.beq k s with
    | true =>
      have := Nat.eq_of_beq_eq_true hk; subst this
      rw [ih]
      by_cases h : x = k
      · simp [h]
      · have : Nat.beq k x = false := by rw [Bool.eq_false_iff]; intro e; exact h (Nat.eq_of_beq_eq_true e).symm
        simp [h, get, this]
    | false =>
      simp only [get]
      cases hx : Nat.beq k x with
      | true =>
        have := Nat.eq_of_beq_eq_true hx; subst this
        have : k ≠ s := by rintro rfl; simp at hk
        simp [this]
      | false => exact ih

theorem get_mapT {α β : Type} (f : α → β) (t : Tab α) (x : Nat) : get (mapT f t) x = (get t x).map f := by
  induction t with
  | nil => rfl
  | cons kv r ih =>
    obtain ⟨k, u⟩ := kv
    simp only [mapT, get]
    cases hx : Nat.beq k x with
    | true => rfl
    | false => exact ih

theorem RepDL.length {F : Nat → Nat} {w : World} : ∀ {cs : List D} {l : List Value}, RepDL F w cs l → l.length = cs.length
  | [], _, h => by simp [show _ = [] from h]
  | _ :: _, _, h => by
    obtain ⟨x, l', rfl, _, hl⟩ := h
    simp [RepDL.length hl]

theorem RepVL.length {yv : Option Nat} {L : Loc} {F : Nat → Nat} {w : World} : ∀ {cs : List V} {l : List Value}, RepVL yv L F w cs l → l.length = cs.length
  | [], _, h => by simp [show _ = [] from h]
  | _ :: _, _, h => by
    obtain ⟨x, l', rfl, _, hl⟩ := h
    simp [RepVL.length hl]

section
variable {yv : Option Nat} {L : Loc} {F : Nat → Nat} {w : World}

theorem RepVL.inj : ∀ {cs : List D} {l : List Value}, RepVL yv L F w (inj cs) l ↔ RepDL F w cs l
  | [], l => by simp [PX.inj, RepVL, RepDL]
  | c :: r, l => by
    simp only [PX.inj, RepVL, RepDL]
    constructor
    · rintro ⟨x, l', rfl, hc, hl⟩; exact ⟨x, l', rfl, hc, RepVL.inj.1 hl⟩
    · rintro ⟨x, l', rfl, hc, hl⟩; exact ⟨x, l', rfl, hc, RepVL.inj.2 hl⟩

theorem RepVL.get : ∀ {cs : List V} {l : List Value} (i : Nat) {c : V}, RepVL yv L F w cs l → cs[i]? = some c → ∃ x, l[i]? = some x ∧ RepV yv L F w c x
  | [], _, i, c, _, hi => by simp at hi
  | d :: r, _, 0, c, h, hi => by
    obtain ⟨x, l', rfl, hc, hl⟩ := h
    simp at hi
    subst hi
    exact ⟨x, by simp, hc⟩
  | d :: r, _, i + 1, c, h, hi => by
    obtain ⟨x, l', rfl, hc, hl⟩ := h
    simpa using RepVL.get i hl (by simpa using hi)

theorem RepVL.of_get : ∀ {cs : List V} {l : List Value}, l.length = cs.length → (∀ (i : Nat) (c : V), cs[i]? = some c → ∃ x, l[i]? = some x ∧ RepV yv L F w c x) → RepVL yv L F w cs l
  | [], l, hl, _ => (List.length_eq_zero_iff.1 (by simpa using hl) : l = [])
  | c :: r, [], hl, _ => by simp at hl
  | c :: r, x :: l, hl, h => by
    refine ⟨x, l, rfl, ?_, RepVL.of_get (by simpa using hl) fun i d hd => by simpa using h (i + 1) d (by simpa using hd)⟩
    obtain ⟨y, hy, hr⟩ := h 0 c (by simp)
    simp at hy
    exact hy ▸ hr

theorem RepVL.append : ∀ {cs ds : List V} {l k : List Value}, RepVL yv L F w cs l → RepVL yv L F w ds k → RepVL yv L F w (cs ++ ds) (l ++ k)
  | [], _, _, _, h, k => by simpa [show _ = [] from h] using k
  | c :: r, ds, _, m, h, k => by
    obtain ⟨x, l', rfl, hc, hl⟩ := h
    exact ⟨x, l' ++ m, by simp, hc, RepVL.append hl k⟩

theorem RepVL.take {cs : List V} {l : List Value} (n : Nat) (h : RepVL yv L F w cs l) : RepVL yv L F w (cs.take n) (l.take n) :=
  .of_get (by simp [h.length]) fun i c hc => by
    rw [List.getElem?_take] at hc ⊢
    split at hc
    · rename_i hi; simp only [hi, if_true]; exact h.get i hc
    · simp at hc

theorem RepVL.drop {cs : List V} {l : List Value} (n : Nat) (h : RepVL yv L F w cs l) : RepVL yv L F w (cs.drop n) (l.drop n) :=
  .of_get (by simp [h.length]) fun i c hc => by
    rw [List.getElem?_drop] at hc ⊢
    exact h.get _ hc

theorem inj_take (l : List D) (n : Nat) : inj (l.take n) = (inj l).take n := by
  induction l generalizing n with
  | nil => simp [inj]
  | cons c r ih => cases n <;> simp [inj, ih]
theorem inj_drop (l : List D) (n : Nat) : inj (l.drop n) = (inj l).drop n := by
  induction l generalizing n with
  | nil => simp [inj]
  | cons c r ih => cases n <;> simp [inj, ih]
theorem inj_append (l m : List D) : inj (l ++ m) = inj l ++ inj m := by
  induction l with
  | nil => rfl
  | cons c r ih => simp [inj, ih]
theorem inj_length (l : List D) : (inj l).length = l.length := by
  induction l with
  | nil => rfl
  | cons c r ih => simp [inj, ih]
theorem inj_get (l : List D) (i : Nat) : (inj l)[i]? = (l[i]?).map .d := by
  induction l generalizing i with
  | nil => simp [inj]
  | cons c r ih => cases i <;> simp [inj, ih]

theorem injL_eq (l : List (List D)) : injL l = l.map inj := by
  induction l with
  | nil => rfl
  | cons c r ih => simp [injL, ih]

/-! What keeps values when memory goes on, or when objects get other blocks. -/

/- The objects that values name. -/
mutual
def namesV : V → Nat → Prop
  | .agg cs, i => namesVL cs i
  | .tup cs, i => namesVL cs i
  | .clo _ cs, i => namesVL cs i
  | .ptr j _, i => j = i
  | .ep j _ _ _, i => j = i
  | .sl j _ _ _, i => j = i
  | .mp j, i => j = i
  | .it j, i => j = i
  | _, _ => False
def namesVL : List V → Nat → Prop
  | [], _ => False
  | v :: r, i => namesV v i ∨ namesVL r i
end

end

mutual
theorem RepV.mono {yv : Option Nat} {L L' : Loc} {F F' : Nat → Nat} {w w' : World} (h : Tr F w F' w') : ∀ (v : V) (x : Value), (∀ i, namesV v i → L'.ρ i = L.ρ i ∧ L'.κ i = L.κ i) → RepV yv L F w v x → RepV yv L' F' w' v x
  | .d v, _, _, hr => RepD.mono h v _ hr
  | .agg cs, _, hn, hr => by
    obtain ⟨l, rfl, hl⟩ := hr
    exact ⟨l, rfl, RepVL.mono h cs _ hn hl⟩
  | .tup cs, _, hn, hr => by
    obtain ⟨l, rfl, hl⟩ := hr
    exact ⟨l, rfl, RepVL.mono h cs _ hn hl⟩
  | .ptr id off, x, hn, hr => by
    have hr : x = .pointer (some ⟨L.ρ id, off, none⟩) := hr
    show x = .pointer (some ⟨L'.ρ id, off, none⟩)
    rw [(hn id rfl).1]; exact hr
  | .ep id sz i off, x, hn, hr => by
    have hr : x = .pointer (some ⟨L.ρ id, i * sz + off, none⟩) := hr
    show x = .pointer (some ⟨L'.ρ id, i * sz + off, none⟩)
    rw [(hn id rfl).1]; exact hr
  | .sl id sz off len, _, hn, hr => by
    obtain ⟨a, cap, rfl, hl, hs, hc⟩ := hr
    refine ⟨a, cap, rfl, hl, hs, ?_⟩
    rw [(hn id rfl).1, (hn id rfl).2]; exact hc
  | .mp id, x, hn, hr => by
    have hr : x = .map (some (L.ρ id)) := hr
    show x = .map (some (L'.ρ id))
    rw [(hn id rfl).1]; exact hr
  | .it id, x, hn, hr => by
    have hr : x = .pointer (some ⟨L.ρ id, 0, none⟩) := hr
    show x = .pointer (some ⟨L'.ρ id, 0, none⟩)
    rw [(hn id rfl).1]; exact hr
  | .clo f cs, _, hn, hr => by
    obtain ⟨l, rfl, hl⟩ := hr
    exact ⟨l, rfl, RepVL.mono h cs _ hn hl⟩
  | .yld, _, _, hr => hr
  | .unk, _, _, hr => hr
theorem RepVL.mono {yv : Option Nat} {L L' : Loc} {F F' : Nat → Nat} {w w' : World} (h : Tr F w F' w') : ∀ (vs : List V) (l : List Value), (∀ i, namesVL vs i → L'.ρ i = L.ρ i ∧ L'.κ i = L.κ i) → RepVL yv L F w vs l → RepVL yv L' F' w' vs l
  | [], _, _, hr => hr
  | v :: r, _, hn, hr => by
    obtain ⟨x, l', rfl, hv, hl⟩ := hr
    exact ⟨x, l', rfl, RepV.mono h v x (fun i hi => hn i (.inl hi)) hv, RepVL.mono h r l' (fun i hi => hn i (.inr hi)) hl⟩
end

mutual
/-- What is forgotten is of one cell. -/
theorem RepV.kill {yv : Option Nat} {L : Loc} {F : Nat → Nat} {w : World} (id : Nat) : ∀ (v : V) (x : Value), RepV yv L F w v x → RepV yv L F w (mapId (killF id) v) x
  | .d v, _, hr => hr
  | .agg cs, _, hr => by
    obtain ⟨l, rfl, hl⟩ := hr
    exact ⟨l, rfl, RepVL.kill id cs _ hl⟩
  | .tup cs, _, hr => by
    obtain ⟨l, rfl, hl⟩ := hr
    exact ⟨l, rfl, RepVL.kill id cs _ hl⟩
  | .ptr i off, x, hr => by
    have hr' : x = .pointer (some ⟨L.ρ i, off, none⟩) := hr
    simp only [mapId, killF, idOf]
    cases Nat.beq i id
    · exact hr
    · subst hr'; exact rfl
  | .ep i sz j off, x, hr => by
    have hr' : x = .pointer (some ⟨L.ρ i, j * sz + off, none⟩) := hr
    simp only [mapId, killF, idOf]
    cases Nat.beq i id
    · exact hr
    · subst hr'; exact rfl
  | .sl i sz off len, x, hr => by
    simp only [mapId, killF, idOf]
    cases Nat.beq i id
    · exact hr
    · obtain ⟨a, cap, rfl, _⟩ := hr; exact rfl
  | .mp i, x, hr => by
    have hr' : x = .map (some (L.ρ i)) := hr
    simp only [mapId, killF, idOf]
    cases Nat.beq i id
    · exact hr
    · subst hr'; exact rfl
  | .it i, x, hr => by
    have hr' : x = .pointer (some ⟨L.ρ i, 0, none⟩) := hr
    simp only [mapId, killF, idOf]
    cases Nat.beq i id
    · exact hr
    · subst hr'; exact rfl
  | .clo f cs, _, hr => by
    obtain ⟨l, rfl, hl⟩ := hr
    exact ⟨l, rfl, RepVL.kill id cs _ hl⟩
  | .yld, _, hr => hr
  | .unk, _, hr => hr
theorem RepVL.kill {yv : Option Nat} {L : Loc} {F : Nat → Nat} {w : World} (id : Nat) : ∀ (vs : List V) (l : List Value), RepVL yv L F w vs l → RepVL yv L F w (mapIdL (killF id) vs) l
  | [], _, hr => hr
  | v :: r, _, hr => by
    obtain ⟨x, l', rfl, hv, hl⟩ := hr
    exact ⟨x, l', rfl, RepV.kill id v x hv, RepVL.kill id r l' hl⟩
end

mutual
theorem names_kill (id : Nat) : ∀ (v : V), ¬ namesV (mapId (killF id) v) id
  | .d _ => fun h => h
  | .agg cs => namesL_kill id cs
  | .tup cs => namesL_kill id cs
  | .clo _ cs => namesL_kill id cs
  | .ptr i off => by
    simp only [mapId, killF, idOf]
    cases h : Nat.beq i id
    · intro hn; have : i = id := hn; subst this; simp at h
    · exact fun h => h
  | .ep i sz j off => by
    simp only [mapId, killF, idOf]
    cases h : Nat.beq i id
    · intro hn; have : i = id := hn; subst this; simp at h
    · exact fun h => h
  | .sl i sz off len => by
    simp only [mapId, killF, idOf]
    cases h : Nat.beq i id
    · intro hn; have : i = id := hn; subst this; simp at h
    · exact fun h => h
  | .mp i => by
    simp only [mapId, killF, idOf]
    cases h : Nat.beq i id
    · intro hn; have : i = id := hn; subst this; simp at h
    · exact fun h => h
  | .it i => by
    simp only [mapId, killF, idOf]
    cases h : Nat.beq i id
    · intro hn; have : i = id := hn; subst this; simp at h
    · exact fun h => h
  | .yld => fun h => h
  | .unk => fun h => h
theorem namesL_kill (id : Nat) : ∀ (vs : List V), ¬ namesVL (mapIdL (killF id) vs) id
  | [] => fun h => h
  | v :: r => fun h => h.elim (names_kill id v) (namesL_kill id r)
end

def namesO : Obj → Nat → Prop
  | .box c, i => namesVL c.toV i
  | .arr _ es, i => namesVL es.toV.flatten i
  | _, _ => False

theorem mapIdL_append (f : V → V) (a b : List V) : mapIdL f (a ++ b) = mapIdL f a ++ mapIdL f b := by
  induction a with
  | nil => rfl
  | cons x r ih => simp [mapIdL, ih]

theorem mapIdLL_flatten (f : V → V) (a : List (List V)) : (mapIdLL f a).flatten = mapIdL f a.flatten := by
  induction a with
  | nil => rfl
  | cons x r ih => simp [mapIdLL, mapIdL_append, ih]

theorem mapIdL_length (f : V → V) (a : List V) : (mapIdL f a).length = a.length := by
  induction a with
  | nil => rfl
  | cons x r ih => simp [mapIdL, ih]

theorem mapIdLL_length (f : V → V) (a : List (List V)) : (mapIdLL f a).length = a.length := by
  induction a with
  | nil => rfl
  | cons x r ih => simp [mapIdLL, ih]

theorem mapIdLL_mem (f : V → V) (a : List (List V)) (e : List V) (h : e ∈ mapIdLL f a) : ∃ e0 ∈ a, e = mapIdL f e0 := by
  induction a with
  | nil => cases h
  | cons x r ih =>
    simp only [mapIdLL, List.mem_cons] at h
    rcases h with rfl | h
    · exact ⟨x, by simp, rfl⟩
    · obtain ⟨e0, h0, rfl⟩ := ih h; exact ⟨e0, by simp [h0], rfl⟩

theorem mapIdL_inj (f : V → V) (l : List D) : mapIdL f (inj l) = inj l := by
  induction l with
  | nil => rfl
  | cons x r ih => simp [inj, mapIdL, mapId, ih]

theorem namesVL_inj (l : List D) (i : Nat) : ¬ namesVL (inj l) i := by
  induction l with
  | nil => exact fun h => h
  | cons x r ih => exact fun h => h.elim (fun h => h) ih

theorem namesVL_append (a b : List V) (i : Nat) : namesVL (a ++ b) i ↔ namesVL a i ∨ namesVL b i := by
  induction a with
  | nil => simp [namesVL]
  | cons x r ih => simp [namesVL, ih, or_assoc]

theorem RepO.kill {yv : Option Nat} {L : Loc} {F : Nat → Nat} {w : World} (k id : Nat) (o : Obj) (h : RepO yv L F w id o) : RepO yv L F w id (Obj.mapId (killF k) o) := by
  cases o with
  | box c =>
    cases c with
    | dd l => exact h
    | vv l =>
      obtain ⟨c, T, hc, hr⟩ := h
      exact ⟨c, T, hc, RepVL.kill k _ _ hr⟩
  | arr sz es =>
    cases es with
    | dd l => exact h
    | vv l =>
      obtain ⟨hs, hl, h⟩ := h
      refine ⟨hs, ?_, ?_⟩
      · intro e he
        obtain ⟨e0, h0, rfl⟩ := mapIdLL_mem _ _ _ he
        rw [mapIdL_length]; exact hl e0 h0
      · rcases h with ⟨h, hk⟩ | ⟨c, T, hc, hk, hn, hr⟩
        · left
          have h : l = [] := h
          subst h
          exact ⟨rfl, hk⟩
        · right
          refine ⟨c, T, hc, hk, ?_, ?_⟩
          · show (mapIdLL _ l).length * sz ≤ _
            rw [mapIdLL_length]; exact hn
          · show RepVL yv L F w (mapIdLL _ l).flatten (c.toList.take ((mapIdLL _ l).length * sz))
            rw [mapIdLL_length, mapIdLL_flatten]; exact RepVL.kill k _ _ hr
  | map kvs => exact h
  | iter s n => exact h

theorem namesO_kill (k : Nat) (o : Obj) : ¬ namesO (Obj.mapId (killF k) o) k := by
  cases o with
  | box c =>
    cases c with
    | dd l => exact namesVL_inj l k
    | vv l => exact namesL_kill k l
  | arr sz es =>
    cases es with
    | dd l =>
      show ¬ namesVL (injL l).flatten k
      induction l with
      | nil => exact fun h => h
      | cons x r ih =>
        simp only [injL, List.flatten_cons, namesVL_append]
        exact fun h => h.elim (namesVL_inj x k) ih
    | vv l =>
      show ¬ namesVL (mapIdLL _ l).flatten k
      rw [mapIdLL_flatten]; exact namesL_kill k _
  | map kvs => exact fun h => h
  | iter s n => exact fun h => h

theorem Backed_kill (L : Loc) (k id : Nat) (o : Obj) : Backed L id (Obj.mapId (killF k) o) ↔ Backed L id o := by
  cases o with
  | box c => cases c <;> exact Iff.rfl
  | arr sz es => cases es <;> exact Iff.rfl
  | map kvs => exact Iff.rfl
  | iter s n => exact Iff.rfl

theorem RepO.mono {yv : Option Nat} {L L' : Loc} {F F' : Nat → Nat} {w w' : World} (h : Tr F w F' w') (id : Nat) (o : Obj) (hn : ∀ i, namesO o i → L'.ρ i = L.ρ i ∧ L'.κ i = L.κ i)
    (hL : L'.ρ id = L.ρ id ∧ L'.κ id = L.κ id) (hb : Backed L id o → w'.heap[L.ρ id]? = w.heap[L.ρ id]?) (hr : RepO yv L F w id o) : RepO yv L' F' w' id o := by
  cases o with
  | box c =>
    obtain ⟨c', T, hc, hr⟩ := hr
    exact ⟨c', T, by rw [hL.1, hb trivial]; exact hc, RepVL.mono h _ _ hn hr⟩
  | arr sz es =>
    obtain ⟨hs, hl, hr⟩ := hr
    refine ⟨hs, hl, ?_⟩
    rcases hr with ⟨he, hk⟩ | ⟨c, T, hc, hk, hn', hr⟩
    · exact .inl ⟨he, by rw [hL.2]; exact hk⟩
    · by_cases hz : L.κ id = 0
      · left
        refine ⟨?_, by rw [hL.2]; exact hz⟩
        rw [hk, hz] at hn'
        have : es.toV.length = 0 := by
          rcases Nat.eq_zero_or_pos es.toV.length with h0 | h0
          · exact h0
          · have := Nat.mul_pos h0 hs; omega
        exact List.length_eq_zero_iff.1 this
      · right
        exact ⟨c, T, by rw [hL.1, hb hz]; exact hc, by rw [hL.2]; exact hk, hn', RepVL.mono h _ _ hn hr⟩
  | map kvs =>
    obtain ⟨en, c, hc, hr⟩ := hr
    exact ⟨en, c, by rw [hL.1, hb trivial]; exact hc, RepKv.mono h _ _ hr⟩
  | iter s n =>
    show w'.heap[L'.ρ id]? = _
    rw [hL.1, hb trivial]; exact hr

theorem block_lt {w : World} {b : Nat} {o : Go.Obj} (h : w.heap[b]? = some o) : b < w.heap.size := (Array.getElem?_eq_some_iff.1 h).1

theorem cell_heap {w w' : World} {b o : Nat} (h : w'.heap[b]? = w.heap[b]?) : w'.cell? ⟨b, o, none⟩ = w.cell? ⟨b, o, none⟩ := by
  simp [World.cell?, h]

/-- A backed object's block is there. -/
theorem RepO.lt {yv : Option Nat} {L : Loc} {F : Nat → Nat} {w : World} {id : Nat} {o : Obj} (h : RepO yv L F w id o) (hb : Backed L id o) : L.ρ id < w.heap.size := by
  cases o with
  | box c => obtain ⟨c', T, hc, _⟩ := h; exact block_lt hc
  | arr sz es =>
    obtain ⟨_, _, h⟩ := h
    rcases h with ⟨_, hk⟩ | ⟨c, T, hc, _⟩
    · exact absurd hk hb
    · exact block_lt hc
  | map kvs => obtain ⟨en, c, hc, _⟩ := h; exact block_lt hc
  | iter s n => exact block_lt (show w.heap[L.ρ id]? = _ from h)

/-- Memory goes on but for blocks of which nothing is frozen. -/
theorem Tr.of_keep {F F' : Nat → Nat} {w w' : World} (ho : w'.os = w.os) (ht : w'.tape = w.tape) (hu : w'.output = w.output) (hs : w.heap.size ≤ w'.heap.size) (hle : ∀ b, F b ≤ F' b)
    (hfresh : ∀ b, w.heap.size ≤ b → F b = 0) (hk : ∀ b, b < w.heap.size → 0 < F b → w'.heap[b]? = w.heap[b]?) : Tr F w F' w' :=
  ⟨ho, ht, hu, hs, hle,
   fun b o h => by
    rcases Nat.lt_or_ge b w.heap.size with hb | hb
    · exact cell_heap (hk b hb (by omega))
    · rw [hfresh b hb] at h; omega,
   fun b e c h hm => by rw [hk b (block_lt hm) h]; exact hm⟩

theorem Tr.alloc {F : Nat → Nat} {w : World} (hfresh : ∀ b, w.heap.size ≤ b → F b = 0) (o : Go.Obj) : Tr F w F (w.alloc o) :=
  .of_keep rfl rfl rfl (by simp) (fun _ => Nat.le_refl _) hfresh fun b hb _ => heap_alloc_old _ _ _ hb

theorem Tr.drew {F : Nat → Nat} {w : World} (n : Nat) : Tr F w F { w with drawn := n } :=
  ⟨rfl, rfl, rfl, Nat.le_refl _, fun _ => Nat.le_refl _, fun _ _ _ => rfl, fun _ _ _ _ h => h⟩

section
variable {σ : Type} {cx : Cx σ} {r : Option Nat} {m : List Nat} {L : Loc} {F : Nat → Nat} {st : St σ} {a : Act} {w : World}

/-- Another world with the same memory. -/
theorem HeapOk.same {h : Heap} {s : σ} (hh : HeapOk cx L F h s w) {w' : World} (he : w'.heap = w.heap) (ho : w'.os = w.os) (ht : w'.tape = w.tape) (hu : w'.output = w.output) : HeapOk cx L F h s w' := by
  have tr : Tr F w F w' := ⟨ho, ht, hu, by rw [he]; exact Nat.le_refl _, fun _ => Nat.le_refl _, fun b o _ => cell_heap (by rw [he]), fun b e c _ hm => by rw [he]; exact hm⟩
  refine ⟨cx.stable hh.hg (.of_keep ho ht hu (by rw [he]; exact Nat.le_refl _) (fun _ => Nat.le_refl _) hh.fresh fun b _ _ => by rw [he]) (fun b hb => hh.fresh b (by rw [← he]; exact hb)) fun b _ => ⟨by rw [he], rfl⟩, fun b hb => by rw [he]; exact hh.csz b hb, fun b hb => hh.fresh b (by rw [← he]; exact hb), ?_, hh.own, hh.inj⟩
  intro id o hg
  exact RepO.mono tr id o (fun _ _ => ⟨rfl, rfl⟩) ⟨rfl, rfl⟩ (fun _ => by rw [he]) (hh.obj id o hg)

theorem Good.same (hh : Good cx r m L F st a w) {w' : World} (he : w'.heap = w.heap) (ho : w'.os = w.os) (ht : w'.tape = w.tape) (hu : w'.output = w.output) : Good cx r m L F st a w' := by
  have tr : Tr F w F w' := ⟨ho, ht, hu, by rw [he]; exact Nat.le_refl _, fun _ => Nat.le_refl _, fun b o _ => cell_heap (by rw [he]), fun b e c _ hm => by rw [he]; exact hm⟩
  refine ⟨hh.heap.same he ho ht hu, ?_, hh.dfr, fun b hb => by rw [he]; exact hh.mks b hb, hh.mnd, fun l hl => by rw [he]; exact hh.lk l hl, hh.pin, hh.tsz⟩
  intro s v hs
  obtain ⟨x, hx, hr⟩ := hh.env s v hs
  exact ⟨x, hx, RepV.mono tr v x (fun _ _ => ⟨rfl, rfl⟩) hr⟩

theorem Good.unpinned (hh : Good cx r m L F st a w) {d : Nat} (hd : d < a.tmps.size) : ¬ pinned d := fun h => by
  have := hh.tsz; unfold pinned at h; omega

/-- A slot is written. -/
theorem Good.set (hh : Good cx r m L F st a w) {d : Nat} {v : V} {x : Value} (hd : d < a.tmps.size) (hv : RepV cx.yv L F w v x) :
    Good cx r m L F ⟨put st.env d v, st.heap, st.s⟩ (a.put (some d) x) w := by
  refine ⟨hh.heap, ?_, hh.dfr, hh.mks, hh.mnd, hh.lk, hh.pin, by simpa [Act.put] using hh.tsz⟩
  intro s u hs
  simp only [get_put] at hs
  simp only [Act.put]
  split at hs
  · rename_i e
    cases hs; subst e
    exact ⟨x, by simp [Array.getElem?_setIfInBounds, hd], hv⟩
  · rename_i e
    obtain ⟨y, hy, hr⟩ := hh.env s u hs
    exact ⟨y, by rw [Array.getElem?_setIfInBounds_ne (Ne.symm e)]; exact hy, hr⟩

/-- A value goes into a slot, or nowhere. -/
theorem Good.wset (hh : Good cx r m L F st a w) {d : Option Nat} {v : V} {x : Value} (hd : ∀ k, d = some k → k < a.tmps.size) (hv : RepV cx.yv L F w v x) :
    Good cx r m L F (applyWs st (wset d v)) (a.put d x) w := by
  cases d with
  | none => exact hh
  | some d => exact hh.set (hd d rfl) hv

/-- Fewer slots, fewer objects. -/
theorem Good.sub (hh : Good cx r m L F st a w) {e : Env} {h : Heap} (he : SubT e st.env) (hs : SubT h st.heap) : Good cx r m L F ⟨e, h, st.s⟩ a w :=
  ⟨⟨hh.heap.hg, hh.heap.csz, hh.heap.fresh, fun id o hg => hh.heap.obj id o (hs id o hg), fun id o hg => hh.heap.own id o (hs id o hg),
    fun i j o p hi hj => hh.heap.inj i j o p (hs i o hi) (hs j p hj)⟩, fun s v hg => hh.env s v (he s v hg), hh.dfr, hh.mks, hh.mnd, hh.lk, hh.pin, hh.tsz⟩

/-- An object in a new block. -/
theorem Good.new (hh : Good cx r m L F st a w) (id n : Nat) (o : Obj) (b : Go.Obj) (hid : ¬ pinned id)
    (ho : RepO cx.yv ⟨fun i => if i = id then w.heap.size else L.ρ i, fun i => if i = id then n else L.κ i⟩ F (w.alloc b) id o) :
    Good cx r m ⟨fun i => if i = id then w.heap.size else L.ρ i, fun i => if i = id then n else L.κ i⟩ F (applyW st (.new id o)) a (w.alloc b) := by
  have tr : Tr F w F (w.alloc b) := Tr.alloc hh.heap.fresh b
  have hC : ∀ c, cx.C st.s c → (w.alloc b).heap[c]? = w.heap[c]? := fun c hc => heap_alloc_old _ _ _ (hh.heap.csz c hc)
  have hg : ∀ i o', get (applyW st (.new id o)).heap i = some o' → (i = id ∧ o' = o) ∨ (i ≠ id ∧ ∃ o0, get st.heap i = some o0 ∧ o' = Obj.mapId (killF id) o0) := by
    intro i o' hi
    simp only [applyW, get_put, get_mapT, get_cut] at hi
    split at hi
    · rename_i e; left; exact ⟨e, by cases hi; rfl⟩
    · rename_i e
      right
      refine ⟨e, ?_⟩
      cases h0 : get st.heap i with
      | none => simp [h0] at hi
      | some o0 => simp [h0] at hi; exact ⟨o0, rfl, hi.symm⟩
  refine ⟨⟨cx.stable hh.heap.hg tr (fun c hc => hh.heap.fresh c (by simp at hc; omega)) fun c hc => ⟨hC c hc, rfl⟩, fun c hc => ?_, fun c hc => hh.heap.fresh c (by simp at hc; omega), ?_, ?_, ?_⟩, ?_, hh.dfr, ?_, hh.mnd, ?_, fun i hi => ?_, hh.tsz⟩
  · have := hh.heap.csz c hc; simp; omega
  · intro i o' hi
    rcases hg i o' hi with ⟨rfl, rfl⟩ | ⟨hne, o0, h0, rfl⟩
    · exact ho
    · refine RepO.mono tr i _ (fun j hj => ?_) ⟨by simp [hne], by simp [hne]⟩ (fun hb => heap_alloc_old _ _ _ ?_) (RepO.kill id i o0 (hh.heap.obj i o0 h0))
      · have : j ≠ id := by rintro rfl; exact namesO_kill j o0 hj
        simp [this]
      · exact (hh.heap.obj i o0 h0).lt ((Backed_kill L id i o0).1 hb)
  · intro i o' hi hb
    rcases hg i o' hi with ⟨rfl, rfl⟩ | ⟨hne, o0, h0, rfl⟩
    · simp only [if_true]
      refine ⟨hh.heap.fresh _ (Nat.le_refl _), fun hc => ?_⟩
      have := hh.heap.csz _ hc; omega
    · simp only [hne, if_false]
      have hb' : Backed L i o0 := by
        have := (Backed_kill _ id i o0).1 hb
        cases o0 <;> simp_all [Backed]
      exact hh.heap.own i o0 h0 hb'
  · intro i j o' p hi hj hbi hbj e
    have key : ∀ i o', get (applyW st (.new id o)).heap i = some o' → i ≠ id → Backed ⟨fun i => if i = id then w.heap.size else L.ρ i, fun i => if i = id then n else L.κ i⟩ i o' → ∃ o0, get st.heap i = some o0 ∧ Backed L i o0 := by
      intro i o' hi hne hb
      rcases hg i o' hi with ⟨rfl, rfl⟩ | ⟨_, o0, h0, rfl⟩
      · exact absurd rfl hne
      · refine ⟨o0, h0, ?_⟩
        have := (Backed_kill _ id i o0).1 hb
        cases o0 <;> simp_all [Backed]
    by_cases hie : i = id <;> by_cases hje : j = id
    · rw [hie, hje]
    · exfalso
      obtain ⟨p0, hp0, hbp⟩ := key j p hj hje hbj
      have := (hh.heap.obj j p0 hp0).lt hbp
      simp [hie, hje] at e; omega
    · exfalso
      obtain ⟨p0, hp0, hbp⟩ := key i o' hi hie hbi
      have := (hh.heap.obj i p0 hp0).lt hbp
      simp [hie, hje] at e; omega
    · obtain ⟨o0, ho0, hb0⟩ := key i o' hi hie hbi
      obtain ⟨p0, hp0, hbp⟩ := key j p hj hje hbj
      simp only [hie, hje, if_false] at e
      exact hh.heap.inj i j o0 p0 ho0 hp0 hb0 hbp e
  · intro s v hs
    simp only [applyW, get_mapT] at hs
    cases h0 : get st.env s with
    | none => simp [h0] at hs
    | some v0 =>
      simp [h0] at hs
      subst hs
      obtain ⟨x, hx, hr⟩ := hh.env s v0 h0
      refine ⟨x, hx, RepV.mono tr _ x (fun j hj => ?_) (RepV.kill id v0 x hr)⟩
      have : j ≠ id := by rintro rfl; exact names_kill j v0 hj
      simp [this]
  · intro b' hb'
    exact ⟨by rw [heap_alloc_old _ _ _ (block_lt (hh.mks b' hb').1)]; exact (hh.mks b' hb').1, (hh.mks b' hb').2⟩
  · intro l hl
    obtain ⟨lp, hlp⟩ := hh.lk l hl
    exact ⟨lp, ⟨by rw [heap_alloc_old _ _ _ (block_lt hlp.1.1)]; exact hlp.1.1, hlp.1.2⟩, hlp.2⟩
  · have : i ≠ id := by rintro rfl; exact hid hi
    simp only [this, if_false]; exact hh.pin i hi

/-- An object without a block. -/
theorem Good.newEmpty (hh : Good cx r m L F st a w) (id sz : Nat) (hid : ¬ pinned id) (hs : 0 < sz) (es : Els) (he : es.toV = []) :
    Good cx r m ⟨L.ρ, fun i => if i = id then 0 else L.κ i⟩ F (applyW st (.new id (.arr sz es))) a w := by
  have tr : Tr F w F w := Tr.refl F w
  have hg : ∀ i o', get (applyW st (.new id (.arr sz es))).heap i = some o' → (i = id ∧ o' = .arr sz es) ∨ (i ≠ id ∧ ∃ o0, get st.heap i = some o0 ∧ o' = Obj.mapId (killF id) o0) := by
    intro i o' hi
    simp only [applyW, get_put, get_mapT, get_cut] at hi
    split at hi
    · rename_i e; left; exact ⟨e, by cases hi; rfl⟩
    · rename_i e
      right
      refine ⟨e, ?_⟩
      cases h0 : get st.heap i with
      | none => simp [h0] at hi
      | some o0 => simp [h0] at hi; exact ⟨o0, rfl, hi.symm⟩
  have key : ∀ i o', get (applyW st (.new id (.arr sz es))).heap i = some o' → Backed ⟨L.ρ, fun i => if i = id then 0 else L.κ i⟩ i o' → i ≠ id ∧ ∃ o0, get st.heap i = some o0 ∧ Backed L i o0 := by
    intro i o' hi hb
    rcases hg i o' hi with ⟨rfl, rfl⟩ | ⟨hne, o0, h0, rfl⟩
    · simp [Backed] at hb
    · refine ⟨hne, o0, h0, ?_⟩
      have := (Backed_kill _ id i o0).1 hb
      cases o0 <;> simp_all [Backed]
  refine ⟨⟨hh.heap.hg, hh.heap.csz, hh.heap.fresh, ?_, ?_, ?_⟩, ?_, hh.dfr, hh.mks, hh.mnd, hh.lk, fun i hi => ⟨(hh.pin i hi).1, by
    have : i ≠ id := by rintro rfl; exact hid hi
    simp only [this, if_false]; exact (hh.pin i hi).2⟩, hh.tsz⟩
  · intro i o' hi
    rcases hg i o' hi with ⟨rfl, rfl⟩ | ⟨hne, o0, h0, rfl⟩
    · exact ⟨hs, (by intro e h; rw [he] at h; cases h), .inl ⟨he, (by simp)⟩⟩
    · refine RepO.mono (L := L) tr i _ (fun j hj => ?_) ⟨rfl, by simp [hne]⟩ (fun _ => rfl) (RepO.kill id i o0 (hh.heap.obj i o0 h0))
      have : j ≠ id := by rintro rfl; exact namesO_kill j o0 hj
      simp [this]
  · intro i o' hi hb
    obtain ⟨_, o0, h0, hb0⟩ := key i o' hi hb
    exact hh.heap.own i o0 h0 hb0
  · intro i j o' p hi hj hbi hbj e
    obtain ⟨_, o0, ho0, hb0⟩ := key i o' hi hbi
    obtain ⟨_, p0, hp0, hbp⟩ := key j p hj hbj
    exact hh.heap.inj i j o0 p0 ho0 hp0 hb0 hbp e
  · intro s v hs
    simp only [applyW, get_mapT] at hs
    cases h0 : get st.env s with
    | none => simp [h0] at hs
    | some v0 =>
      simp [h0] at hs
      subst hs
      obtain ⟨x, hx, hr⟩ := hh.env s v0 h0
      refine ⟨x, hx, RepV.mono tr _ x (fun j hj => ?_) (RepV.kill id v0 x hr)⟩
      have : j ≠ id := by rintro rfl; exact names_kill j v0 hj
      simp [this]

/-- An object is given up. -/
theorem Good.del (hh : Good cx r m L F st a w) (id : Nat) : Good cx r m L F (applyW st (.del id)) a w :=
  hh.sub (fun _ _ h => h) fun i o h => by
    simp only [applyW, get_cut] at h
    split at h
    · cases h
    · exact h

/-- An object's block is written. -/
theorem Good.obj (hh : Good cx r m L F st a w) {id : Nat} {o0 o : Obj} (h0 : get st.heap id = some o0) (hb0 : Backed L id o0) {w' : World}
    (hos : w'.os = w.os) (ht : w'.tape = w.tape) (hu : w'.output = w.output) (hsz : w'.heap.size = w.heap.size) (hk : ∀ b, b ≠ L.ρ id → w'.heap[b]? = w.heap[b]?)
    (hnd : ∀ ds, w.heap[L.ρ id]? ≠ some (.deferred ds)) (hnl : ∀ lp, w.heap[L.ρ id]? ≠ some (.loop lp))
    (ho : RepO cx.yv L F w' id o) : Good cx r m L F (applyW st (.obj id o)) a w' ∧ Tr F w F w' := by
  obtain ⟨hF, hnC⟩ := hh.heap.own id o0 h0 hb0
  have tr : Tr F w F w' := .of_keep hos ht hu (by omega) (fun _ => Nat.le_refl _) hh.heap.fresh fun b _ hF' => hk b (by rintro rfl; omega)
  have hC : ∀ c, cx.C st.s c → w'.heap[c]? = w.heap[c]? := fun c hc => hk c (by rintro rfl; exact hnC hc)
  have hg : ∀ i o', get (applyW st (.obj id o)).heap i = some o' → (i = id ∧ o' = o) ∨ (i ≠ id ∧ get st.heap i = some o') := by
    intro i o' hi
    simp only [applyW, get_put] at hi
    split at hi
    · rename_i e; left; exact ⟨e, by cases hi; rfl⟩
    · rename_i e; exact .inr ⟨e, hi⟩
  have hbk : ∀ i o', get (applyW st (.obj id o)).heap i = some o' → Backed L i o' → ∃ o1, get st.heap i = some o1 ∧ Backed L i o1 := by
    intro i o' hi hb
    rcases hg i o' hi with ⟨rfl, rfl⟩ | ⟨_, h⟩
    · exact ⟨o0, h0, hb0⟩
    · exact ⟨o', h, hb⟩
  refine ⟨⟨⟨cx.stable hh.heap.hg tr (fun c hc => hh.heap.fresh c (by omega)) fun c hc => ⟨hC c hc, rfl⟩, fun c hc => by rw [hsz]; exact hh.heap.csz c hc, fun c hc => hh.heap.fresh c (by omega), ?_, ?_, ?_⟩, ?_, hh.dfr, ?_, hh.mnd, ?_, hh.pin, hh.tsz⟩, tr⟩
  · intro i o' hi
    rcases hg i o' hi with ⟨rfl, rfl⟩ | ⟨hne, h⟩
    · exact ho
    · refine RepO.mono tr i o' (fun _ _ => ⟨rfl, rfl⟩) ⟨rfl, rfl⟩ (fun hb => hk _ fun e => hne (hh.heap.inj i id o' o0 h h0 hb hb0 e)) (hh.heap.obj i o' h)
  · intro i o' hi hb
    obtain ⟨o1, h1, hb1⟩ := hbk i o' hi hb
    exact hh.heap.own i o1 h1 hb1
  · intro i j o' p hi hj hbi hbj e
    obtain ⟨o1, h1, hb1⟩ := hbk i o' hi hbi
    obtain ⟨o2, h2, hb2⟩ := hbk j p hj hbj
    exact hh.heap.inj i j o1 o2 h1 h2 hb1 hb2 e
  · intro s v hs
    obtain ⟨x, hx, hr⟩ := hh.env s v hs
    exact ⟨x, hx, RepV.mono tr v x (fun _ _ => ⟨rfl, rfl⟩) hr⟩
  · intro b hb
    have := (hh.mks b hb).1
    exact ⟨by rw [hk b (by rintro rfl; exact hnd _ this)]; exact this, (hh.mks b hb).2⟩
  · intro l hl
    obtain ⟨lp, hlp⟩ := hh.lk l hl
    exact ⟨lp, ⟨by rw [hk l (by rintro rfl; exact hnl _ hlp.1.1)]; exact hlp.1.1, hlp.1.2⟩, hlp.2⟩

end

end Go.PX
