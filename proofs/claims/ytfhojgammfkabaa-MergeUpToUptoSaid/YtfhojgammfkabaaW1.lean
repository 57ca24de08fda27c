/- The typed reading of the model's operations and code: what a function's body is turned into. -/
import Derived.Test.YtfhojgammfkabaaW0
import Derived.OrdersIn
namespace Go.Vw

def lget : List (Nat × TV) → Nat → Option TV
  | [], _ => none
  | (i, v) :: r, t => bif Nat.beq i t then some v else lget r t
/-- what is known of an activation: its temporaries; how many there are; the calls that it has deferred; the marks of its ranges over functions -/
structure Env where
  t : List (Nat × TV)
  n : Nat
  calls : List (FuncId × List AV)
  marks : List Nat
def eget (e : Env) (t : Nat) : Option TV := lget e.t t
def eset (e : Env) (t : Nat) (v : TV) : Env := ⟨bif Nat.blt t e.n then (t, v) :: e.t else e.t, e.n, e.calls, e.marks⟩
def ofLV : Value → LV
  | .int k n => .int k n
  | .bool b => .lit b
  | .string s => .str s.data.toList
  | .pointer none => .ptr none
  | .slice none l c => .sl ⟨none, l, c⟩
  | .map r => .map r
  | v => .val v
def ofV : Value → TV
  | .agg vs => .one (.agg (vs.toList.map ofLV))
  | v => .one (.leaf (ofLV v))
def rd (e : Env) : Operand → Option TV
  | .tmp t => eget e t
  | .const v => some (ofV v)
  | .global g => some (.one (.leaf (.ptr (some (g, 0)))))
  | .func f => some (.one (.leaf (.val (.func (.func f) #[] #[]))))
def rdL (e : Env) (x : Operand) : Option LV :=
  match rd e x with
  | some (.one (.leaf x)) => some x
  | _ => none
def rdA (e : Env) (x : Operand) : Option AV :=
  match rd e x with
  | some (.one x) => some x
  | _ => none
def rdAs (e : Env) : List Operand → Option (List AV)
  | [] => some []
  | x :: r => match rdA e x, rdAs e r with
    | some v, some vs => some (v :: vs)
    | _, _ => none

/-! ### types -/
def kdD : TypeDesc → Option Kd
  | .int k => some (.int k)
  | .bool => some .bool
  | .string => some .str
  | .pointer _ => some .ptr
  | .slice _ => some .sl
  | .map _ _ => some .map
  | .func _ _ _ => some .val
  | .interface _ => some .val
  | .chan _ _ => some .val
  | _ => none
def kdT (P : Program) (t : TypeId) : Option Kd := (P.underlying t).bind kdD
def kdsT (P : Program) : Nat → TypeId → Option (List Kd)
  | 0, _ => none
  | n + 1, t => match P.underlying t with
    | some (.struct fs) => go (kdsT P n) fs.toList
    | some (.array m el) => (kdsT P n el).map fun ks => (List.replicate m ks).flatten
    | some d => (kdD d).map fun k => [k]
    | none => none
where go (f : TypeId → Option (List Kd)) : List Field → Option (List Kd)
  | [] => some []
  | x :: r => match f x.type, go f r with
    | some a, some b => some (a ++ b)
    | _, _ => none
def isAggD : TypeDesc → Bool
  | .struct _ => true
  | .array _ _ => true
  | _ => false
def szT (P : Program) (t : TypeId) : Option Nat := (P.info? t).map (·.size)
def shT (P : Program) (t : TypeId) : Option Sh :=
  match P.underlying t with
  | some d => if isAggD d then
      match kdsT P 8 t, szT P t with
      | some ks, some n => if ks.length = n then some (.agg ks) else none
      | _, _ => none
    else (kdD d).map .leaf
  | none => none
def shTs (P : Program) : List TypeId → Option (List Sh)
  | [] => some []
  | t :: r => match shT P t, shTs P r with
    | some s, some l => some (s :: l)
    | _, _ => none
/-- the results of a call, by its type -/
def rtT (P : Program) (t : TypeId) : Option RT :=
  match P.underlying t with
  | some (.tuple ts) => (shTs P ts.toList).map .tup
  | some _ => (shT P t).map .one
  | none => none
/-- the cells of a type's zero value -/
def zeroT (P : Program) (t : TypeId) : Option (List LV) := ((P.info? t).bind (·.zero)).map fun v => v.cells.toList.map ofLV

/-! ### operations that leave the world alone and cannot fail -/
def bitI (op : BinOp) (k : IntKind) (x y : Int) : Int :=
  match op with
  | .and => k.wrap (BitVec.ofInt k.bits x &&& BitVec.ofInt k.bits y).toNat
  | .or => k.wrap (BitVec.ofInt k.bits x ||| BitVec.ofInt k.bits y).toNat
  | .xor => k.wrap (BitVec.ofInt k.bits x ^^^ BitVec.ofInt k.bits y).toNat
  | _ => k.wrap (BitVec.ofInt k.bits x &&& ~~~(BitVec.ofInt k.bits y)).toNat
def shlI (k : IntKind) (x y : Int) : Int := k.wrap (x * 2 ^ (min y.toNat k.bits))
def shrI (k : IntKind) (x y : Int) : Int := x.fdiv (2 ^ (min y.toNat k.bits))
def arI (op : BinOp) (k : IntKind) (a b : Int) : Option LV :=
  match op with
  | .add => some (.int k (k.wrap (a + b)))
  | .sub => some (.int k (k.wrap (a - b)))
  | .mul => some (.int k (k.wrap (a * b)))
  | .and => some (.int k (bitI .and k a b))
  | .or => some (.int k (bitI .or k a b))
  | .xor => some (.int k (bitI .xor k a b))
  | .andNot => some (.int k (bitI .andNot k a b))
  | .eql => some (.bool (a == b))
  | .neq => some (.bool (a != b))
  | .lss => some (.bool (decide (a < b)))
  | .leq => some (.bool (decide (a ≤ b)))
  | .gtr => some (.bool (decide (b < a)))
  | .geq => some (.bool (decide (b ≤ a)))
  | _ => none
def stI (op : BinOp) (a b : List UInt8) : Option LV :=
  match op with
  | .eql => some (.bool (a == b))
  | .neq => some (.bool (!(a == b)))
  | .lss => some (.bool (Op.bytesLess a b))
  | .leq => some (.bool (Op.bytesLess a b || a == b))
  | .gtr => some (.bool (!(Op.bytesLess a b || a == b)))
  | .geq => some (.bool (!Op.bytesLess a b))
  | _ => none
/-- an integer constant that is not 0 -/
def litNZ : Operand → Bool
  | .const (.int _ n) => n != 0
  | _ => false
def litNat : Operand → Bool
  | .const (.int _ n) => decide (0 ≤ n)
  | _ => false
def nilC : Operand → Bool
  | .const (.pointer none) => true
  | .const (.slice none 0 0) => true
  | .const (.map none) => true
  | _ => false
/-- is it nil? by the type's description -/
def isNil : TypeDesc → LV → Option Bool
  | .pointer _, .ptr p => some p.isNone
  | .slice _, .sl s => some s.p.isNone
  | .map _ _, .map r => some r.isNone
  | _, _ => none
def boolL (b : Bool) : TV := .one (.leaf (.bool b))
def intL (k : IntKind) (n : Int) : TV := .one (.leaf (.int k n))
/-- the nil of a type -/
def nilFits : TypeDesc → Operand → Bool
  | .pointer _, .const (.pointer none) => true
  | .slice _, .const (.slice none 0 0) => true
  | .map _ _, .const (.map none) => true
  | _, _ => false
def nilEq (P : Program) (op : BinOp) (t : TypeId) (c : Operand) (l : LV) : Option TV :=
  match P.underlying t with
  | some d => if nilFits d c then match op, isNil d l with
    | .eql, some b => some (boolL b)
    | .neq, some b => some (boolL (!b))
    | _, _ => none
    else none
  | none => none
def bin0 (P : Program) (e : Env) (op : BinOp) (t : TypeId) (x y : Operand) : Option TV :=
  if nilC y then (rdL e x).bind (nilEq P op t y)
  else if nilC x then (rdL e y).bind (nilEq P op t x)
  else match op, rdL e x, rdL e y with
    | .shl, some (.int k a), some (.int _ b) => if litNat y then some (intL k (shlI k a b)) else none
    | .shr, some (.int k a), some (.int _ b) => if litNat y then some (intL k (shrI k a b)) else none
    | .quo, some (.int k a), some (.int j b) => if k = j then if litNZ y then some (intL k (k.wrap (a.tdiv b))) else none else none
    | .rem, some (.int k a), some (.int j b) => if k = j then if litNZ y then some (intL k (a.tmod b)) else none else none
    | op, some (.int k a), some (.int j b) => if k = j then (arI op k a b).map fun l => .one (.leaf l) else none
    | op, some (.str a), some (.str b) => (stI op a b).map fun l => .one (.leaf l)
    | _, _, _ => none
def mxI (x y : Int) : Int := if x < y then y else x
def mnI (x y : Int) : Int := if y < x then y else x
def foldI (f : Int → Int → Int) (k : IntKind) : Int → List AV → Option Int
  | x, [] => some x
  | x, .leaf (.int j y) :: r => if k = j then foldI f k (f x y) r else none
  | _, _ => none
def built0 (P : Program) (b : Builtin) (ts : List TypeId) (args : List AV) : Option TV :=
  match b, ts, args with
  | .len, [t], [.leaf (.sl s)] => match P.underlying t with
    | some (.slice _) => some (intL .i64 s.len)
    | _ => none
  | .len, [t], [.leaf (.str l)] => match P.underlying t with
    | some .string => some (intL .i64 l.length)
    | _ => none
  | .cap, [t], [.leaf (.sl s)] => match P.underlying t with
    | some (.slice _) => some (intL .i64 s.cap)
    | _ => none
  | .max, _, .leaf (.int k x) :: r => (foldI mxI k x r).map (intL k)
  | .min, _, .leaf (.int k x) :: r => (foldI mnI k x r).map (intL k)
  | _, _, _ => none
def nth {α : Type} : List α → Nat → Option α
  | [], _ => none
  | x :: _, 0 => some x
  | _ :: r, n + 1 => nth r n
def fieldT (P : Program) (s : TypeId) (f : Nat) : Option Field :=
  match P.underlying s with
  | some (.struct fs) => nth fs.toList f
  | _ => none
/-- a struct's literal: the parts laid over the zero value's cells -/
def lay (l : List LV) (off : Nat) (cs : List LV) : List LV := l.take off ++ cs ++ l.drop (off + cs.length)
def layAll (g : Nat → Option (Nat × Nat)) (e : Env) : List LV → List (Nat × Operand) → Option (List LV)
  | z, [] => some z
  | z, (i, x) :: r => match g i, rdA e x with
    | some (off, n), some v => if v.leaves.length = n then if off + n ≤ z.length then layAll g e (lay z off v.leaves) r else none else none
    | _, _ => none
def partLeaves (e : Env) : List (Nat × Operand) → List LV
  | [] => []
  | (_, x) :: r => match rdA e x with
    | some v => v.leaves ++ partLeaves e r
    | none => partLeaves e r
def placesT (P : Program) (fs : List Field) : Option (List (Nat × Nat)) := fs.mapM fun f => (P.info? f.type).map fun i => (f.offset, i.size)
def buildW (P : Program) (e : Env) (t : TypeId) (parts : List (Nat × Operand)) : Option (List LV) :=
  match P.underlying t, zeroT P t with
  | some (.struct fs), some z => match placesT P fs.toList with
    | some pl => layAll (nth pl) e z parts
    | none => none
  | _, _ => none
def addO (o : Nat) : Nat → Nat
  | 0 => o
  | n + 1 => o + (n + 1)
def pu0 (P : Program) (e : Env) : Op → Option TV
  | .move x => rd e x
  | .assign x => rd e x
  | .pick c a b => match rdL e c with
    | some (.lit true) => rd e a
    | some (.lit false) => rd e b
    | some (.bool x) => match rdL e a, rdL e b with
      | some a', some b' => match a'.as .bool, b'.as .bool with
        | some p, some q => some (boolL (bif x then p else q))
        | _, _ => none
      | _, _ => none
    | _ => none
  | .binOp op t x y _ => bin0 P e op t x y
  | .unOp .not _ x => match rdL e x with
    | some (.bool b) => some (boolL (!b))
    | some (.lit b) => some (.one (.leaf (.lit (!b))))
    | _ => none
  | .unOp .neg _ x => match rdL e x with
    | some (.int k n) => some (intL k (k.wrap (0 - n)))
    | _ => none
  | .unOp .xor _ x => match rdL e x with
    | some (.int k n) => some (intL k (bitI .xor k (if k.signed then -1 else k.max) n))
    | _ => none
  | .call { callee := .builtin b, args := args, argTypes := ts } => match rdAs e args.toList with
    | some l => built0 P b ts.toList l
    | none => none
  | .fieldAddr s x f => match rdL e x, fieldT P s f with
    | some (.ptr (some (b, o))), some fd => match szT P fd.type with
      | some (_ + 1) => some (.one (.leaf (.ptr (some (b, addO o fd.offset)))))
      | _ => none
    | _, _ => none
  | .field s x f => match rdA e x, fieldT P s f with
    | some (.agg l), some fd => match shT P fd.type with
      | some (.leaf _) => (nth l fd.offset).map fun x => .one (.leaf x)
      | some (.agg ks) => if fd.offset + ks.length ≤ l.length then some (.one (.agg ((l.drop fd.offset).take ks.length))) else none
      | none => none
    | _, _ => none
  | .extract x i => match rd e x with
    | some (.tup l) => (nth l i).map .one
    | _ => none
  | .makeFunc fn a c => match rdAs e a.toList, rdAs e c.toList with
    | some a', some c' => some (.one (.leaf (.val (.func fn (a'.map AV.toV).toArray (c'.map AV.toV).toArray))))
    | _, _ => none
  | .convert s d x => match P.underlying s, P.underlying d, rdL e x with
    | some (.int _), some (.int k), some (.int _ n) => some (intL k (k.wrap n))
    | some .string, some .string, some (.str l) => some (.one (.leaf (.str l)))
    | _, _, _ => none
  | .build t parts => match valsOf (partLeaves e parts.toList) with
    | [] => (buildW P e t parts.toList).map fun l => .one (.agg l)
    | _ => none
  | _ => none
/-! ### operations that leave the world alone and may fail -/
def pu1 (P : Program) (e : Env) (op : Op) (k : TV → Prop) : Option Prop :=
  match op with
  | .nilCheck x => match rdL e x with
    | some (.ptr p) => some (dr p fun b o => k (.one (.leaf (.ptr (some (b, o))))))
    | _ => none
  | .indexAddr t x i => match P.underlying t, rdL e x, rdL e i with
    | some (.slice el), some (.sl s), some (.int _ n) => match szT P el with
      | some sz => some (ix s sz n fun b o => k (.one (.leaf (.ptr (some (b, o))))))
      | none => none
    | _, _, _ => none
  | .index t x i => match P.underlying t, rdL e x, rdL e i with
    | some .string, some (.str s), some (.int _ n) => some (sx s n fun c => k (intL .u8 c))
    | _, _, _ => none
  | .slice t x lo hi mx =>
    let b (o : Option Operand) : Option (Option Int) := match o with
      | none => some none
      | some o => match rdL e o with
        | some (.int _ n) => some (some n)
        | _ => none
    match P.underlying t, rdL e x, b lo, b hi, b mx with
    | some (.slice el), some (.sl s), some lo, some hi, some mx => match szT P el with
      | some sz => if mx.isSome && hi.isNone then none else some (slx s sz lo hi mx fun s' => k (.one (.leaf (.sl s'))))
      | none => none
    | some .string, some (.str s), some lo, some hi, some none => some (ssx s lo hi fun s' => k (.one (.leaf (.str s'))))
    | _, _, _, _, _ => none
  | .binOp op t x y _ => match op, rdL e x, rdL e y with
    | .quo, some (.int i a), some (.int j b) => if i = j then some (b ≠ 0 ∧ k (intL i (i.wrap (a.tdiv b)))) else none
    | .rem, some (.int i a), some (.int j b) => if i = j then some (b ≠ 0 ∧ k (intL i (a.tmod b))) else none
    | .shl, some (.int i a), some (.int _ b) => some (0 ≤ b ∧ k (intL i (shlI i a b)))
    | .shr, some (.int i a), some (.int _ b) => some (0 ≤ b ∧ k (intL i (shrI i a b)))
    | .add, some (.str a), some (.str b) => some (a.length + b.length < 2 ^ 62 ∧ k (.one (.leaf (.str (a ++ b)))))
    | .eql, some (.val v), some (.val .nilFunc) => match P.underlying t with
      | some (.func _ _ _) => some (nilF v fun b => k (boolL b))
      | _ => none
    | .neq, some (.val v), some (.val .nilFunc) => match P.underlying t with
      | some (.func _ _ _) => some (nilF v fun b => k (boolL (!b)))
      | _ => none
    | _, _, _ => none
  | .build t parts => (buildW P e t parts.toList).map fun l => okVals (partLeaves e parts.toList) (k (.one (.agg l)))
  | _ => none
/-- a load -/
def lo1 (P : Program) (e : Env) (L : (k : Kd) → Nat → Nat → (Den k → Prop) → Prop) (op : Op) (k : TV → Prop) : Option Prop :=
  match op with
  | .load t x => match rdL e x with
    | some (.ptr (some (b, o))) => match shT P t with
      | some (.leaf kd) => some (L kd b o fun x => k (.one (.leaf (LV.mk kd x))))
      | some (.agg ks) => some (go b o ks 0 [] fun l => k (.one (.agg l)))
      | none => none
    | _ => none
  | _ => none
where go (b o : Nat) : List Kd → Nat → List LV → (List LV → Prop) → Prop
  | [], _, acc, k => k acc.reverse
  | kd :: ks, i, acc, k => L kd b (addO o i) fun x => go b o ks (i + 1) (LV.mk kd x :: acc) k
/-! ### operations on the world -/
def appE (P : Program) (args : List AV) (ts : List TypeId) (w : World) (k : TV → World → Prop) : Option Prop :=
  match args, ts with
  | [.leaf (.sl s), .leaf (.sl x)], [t, t2] => match P.underlying t, P.underlying t2 with
    | some (.slice el), some (.slice _) => match P.info? el, zeroT P el with
      | some i, some zs => if zs.length = i.size then some (ap w el i.size i.bytes zs s x fun s' w' => k (.one (.leaf (.sl s'))) w') else none
      | _, _ => none
    | _, _ => none
  | _, _ => none
def isBuiltin : Callee → Bool
  | .builtin _ => true
  | _ => false
def evE (e : Env) (x : Operand) : Value :=
  match rd e x with
  | some t => t.toV
  | none => undef
/-- any other operation, in the model's own words -/
def fbW (P : Program) (e : Env) (o : Oper) (w : World) (k : TV → World → Prop) : Option Prop :=
  if o.op.operands.toList.all (fun x => (rd e x).isSome) then
    match o.op, rtT P o.type with
    | .call _, some rt => some (opF P (execOp (evE e) o) w rt (lam rt.kds fun l w' => k (rt.mk l) w'))
    | _, some (.tup []) => some (opU P (execOp (evE e) o) w fun w' => k (.tup []) w')
    | _, some rt => some (opF P (execOp (evE e) o) w rt (lam rt.kds fun l w' => k (rt.mk l) w'))
    | _, none => none
  else none
def ef1 (P : Program) (cs : List Nat) (e : Env) (o : Oper) (w : World) (k : TV → World → Prop) : Option Prop :=
  match o.op with
  | .alloc el => (zeroT P el).map fun zs => al w el zs fun b w' => k (.one (.leaf (.ptr (some (b, 0))))) w'
  | .box el x => match rdA e x, szT P el with
    | some v, some n => if v.leaves.length = n then some (okVals v.leaves (al w el v.leaves fun b w' => k (.one (.leaf (.ptr (some (b, 0))))) w')) else none
    | _, _ => none
  | .store t a x => match rdL e a, rdA e x, szT P t with
    | some (.ptr (some (b, o))), some v, some n => if v.leaves.length = n then some (okVals v.leaves (st w b o v.leaves fun w' => k (.tup []) w')) else none
    | _, _, _ => none
  | .buildSlice t n parts => match P.underlying t with
    | some (.slice el) => match szT P el, zeroT P el with
      | some sz, some zs => if zs.length = sz then if n * sz ≤ 4096 then (layAll (fun i => some (i * sz, sz)) e (List.replicate n zs).flatten parts.toList).map fun l => okVals (partLeaves e parts.toList) (al w el l fun b w' => k (.one (.leaf (.sl ⟨some (b, 0), n, n⟩))) w') else none else none
      | _, _ => none
    | _ => none
  | .makeSlice t n c => match P.underlying t, rdL e n, rdL e c with
    | some (.slice el), some (.int _ n), some (.int _ c) => match P.info? el, zeroT P el with
      | some i, some zs => if zs.length = i.size then some (mk w el i.bytes zs n c fun s w' => k (.one (.leaf (.sl s))) w') else none
      | _, _ => none
    | _, _, _ => none
  | .call { callee := .builtin .append, args := args, argTypes := ts } => match rdAs e args.toList with
    | some l => appE P l ts.toList w k
    | none => none
  | .call { callee := .value (.func f), args := args, argTypes := _ } => match rdAs e args.toList, rtT P o.type with
    | some l, some rt => if cs.contains f then some (callK P f l w rt (lam rt.kds fun l w' => k (rt.mk l) w')) else none
    | _, _ => none
  | .call { callee := .value g, args := args, argTypes := _ } => match rdL e g, rdAs e args.toList, rtT P o.type with
    | some (.val v), some l, some rt => some (callV P v l w rt (lam rt.kds fun l w' => k (rt.mk l) w'))
    | _, _, _ => none
  | .call c => if isBuiltin c.callee then fbW P e o w k else none
  | .go _ => none
  | .defer _ => none
  | .select _ _ => none
  | _ => fbW P e o w k
def put (e : Env) (d : Option Tmp) (t : TV) : Env :=
  match d with
  | some d => eset e d t
  | none => e
/-- an operation that is passed over: its temporary holds the model's own nothing -/
def esetO (e : Env) (d : Option Tmp) : Env := match d with
  | some d => eset e d (.tup [])
  | none => e
/-- one operation -/
def stepW (P : Program) (cs : List Nat) (e : Env) (o : Oper) (w : World) (k : TV → World → Prop) : Prop :=
  match pu0 P e o.op with
  | some t => k t w
  | none => match pu1 P e o.op fun t => k t w with
    | some p => p
    | none => match lo1 P e (ld w) o.op fun t => k t w with
      | some p => p
      | none => match ef1 P cs e o w k with
        | some p => p
        | none => False
/-- the temporary to which an operation of the region answers -/
def dstOf (ops : List Oper) (j : Nat) : Option Tmp := (nth ops j).bind (·.dst)
def isDefer : Op → Bool
  | .defer _ => true
  | _ => false
def runOps (P : Program) (cs : List Nat) (all : List Oper) : List Oper → Env → World → (Env → World → Prop) → Prop
  | [], e, w, k => k e w
  | o :: r, e, w, k => if isDefer o.op then
      match o.guard, o.op, e.marks with
      | none, .defer { callee := .value (.func f), args := args, argTypes := _ }, [] => match rdAs e args.toList with
        | some l => if cs.contains f then runOps P cs all r (esetO ⟨e.t, e.n, (f, l) :: e.calls, []⟩ o.dst) w k else False
        | none => False
      | _, _, _ => False
    else match o.guard with
    | none => stepW P cs e o w fun t w' => runOps P cs all r (put e o.dst t) w' k
    | some (j, want) => match dstOf all j with
      | none => False
      | some d => match eget e d with
        | some (.one (.leaf (.lit b))) => if b == want then stepW P cs e o w fun t w' => runOps P cs all r (put e o.dst t) w' k else runOps P cs all r (esetO e o.dst) w k
        | some (.tup []) => runOps P cs all r (esetO e o.dst) w k
        | some (.one (.leaf (.bool x))) =>
          ifK x
            (if want then stepW P cs (eset e d (.one (.leaf (.lit true)))) o w fun t w' => runOps P cs all r (put (eset e d (.one (.leaf (.lit true)))) o.dst t) w' k
             else runOps P cs all r (esetO (eset e d (.one (.leaf (.lit true)))) o.dst) w k)
            (if want then runOps P cs all r (esetO (eset e d (.one (.leaf (.lit false)))) o.dst) w k
             else stepW P cs (eset e d (.one (.leaf (.lit false)))) o w fun t w' => runOps P cs all r (put (eset e d (.one (.leaf (.lit false)))) o.dst t) w' k)
        | _ => False

/-! ### code -/
inductive Slot where
  | tmp (t : Nat) (s : Sh)
  | marks
abbrev Slots := List Slot
def slotKds : Slots → List Kd
  | [] => []
  | .tmp _ s :: r => s.kds ++ slotKds r
  | .marks :: r => .marks :: slotKds r
def hasMarks : Slots → Bool
  | [] => false
  | .tmp _ _ :: r => hasMarks r
  | .marks :: _ => true
def collect : Slots → Env → Option (List LV)
  | [], _ => some []
  | .tmp t s :: r, e => match s, eget e t, collect r e with
    | .leaf _, some (.one (.leaf x)), some l => some (x :: l)
    | .agg ks, some (.one (.agg xs)), some l => if xs.length = ks.length then some (xs ++ l) else none
    | _, _, _ => none
  | .marks :: r, e => match collect r e with
    | some l => some (.marks e.marks :: l)
    | none => none
def rebuild : Slots → List LV → Env → Env
  | [], _, e => e
  | .tmp t (.leaf _) :: r, x :: l, e => rebuild r l (eset e t (.one (.leaf x)))
  | .tmp _ (.leaf _) :: _, [], e => e
  | .tmp t (.agg ks) :: r, l, e => rebuild r (l.drop ks.length) (eset e t (.one (.agg (l.take ks.length))))
  | .marks :: r, .marks m :: l, e => rebuild r l ⟨e.t, e.n, e.calls, m⟩
  | .marks :: _, _, e => e
/-- what goes on being known: the temporaries 'ks' alone -/
def keepT (l : List (Nat × TV)) : List Nat → List (Nat × TV)
  | [] => []
  | k :: r => match lget l k with
    | some v => (k, v) :: keepT l r
    | none => keepT l r
def keep (ks : List Nat) (e : Env) : Env := ⟨keepT e.t ks, e.n, e.calls, e.marks⟩
def dstsO : List Oper → List Nat
  | [] => []
  | o :: r => match o.dst with
    | some d => d :: dstsO r
    | none => dstsO r
def dsts : Code → List Nat
  | .region _ ops _ => dstsO ops.toList
  | .seq a b => dsts a ++ dsts b
  | .cond _ a b => dsts a ++ dsts b
  | .block _ a => dsts a
  | .loop a => dsts a
  | .scope a => dsts a
  | _ => []
/-- does the code range over a function? -/
def rngC : Code → Bool
  | .seq a b => rngC a || rngC b
  | .cond _ a b => rngC a || rngC b
  | .block _ a => rngC a
  | .loop a => rngC a
  | .scope a => rngC a
  | .rangeFunc _ _ _ _ => true
  | _ => false
/-- does the code defer a call? -/
def defC : Code → Bool
  | .region _ ops _ => ops.toList.any fun o => isDefer o.op
  | .seq a b => defC a || defC b
  | .cond _ a b => defC a || defC b
  | .block _ a => defC a
  | .loop a => defC a
  | .scope a => defC a
  | _ => false
def joinOk (sl : Slots) (ks : List Nat) (c : Code) : Bool := !defC c && (!rngC c || hasMarks sl) && (let ds := dsts c; ks.all fun k => !ds.contains k)
/-- the jumps by which a piece of code may be left: a return (none), the end of a block -/
def jmps : Code → List (Option Nat)
  | .seq a b => let x := jmps a; x ++ (jmps b).filter fun j => !x.contains j
  | .cond _ a b => let x := jmps a; x ++ (jmps b).filter fun j => !x.contains j
  | .block i a => (jmps a).filter fun j => j != some i
  | .loop a => jmps a
  | .scope a => jmps a
  | .rangeFunc _ _ _ b => jmps b
  | .exit i => [some i]
  | .ret => [none]
  | _ => []
def idxOf (j : Option Nat) : List (Option Nat) → Nat
  | [] => 0
  | x :: r => if x == j then 0 else idxOf j r + 1
/-- how a region whose order is open is told: what is taken first, what is carried out, where a guard parts the ways -/
inductive Pl where
  | done
  | take (i : Nat) (r : Pl)
  | now (i : Nat) (r : Pl)
  | eff (i : Nat) (r : Pl)
  | two (i : Nat) (p : Pl) (j : Nat) (q : Pl)
  | split (i : Nat) (p q : Pl)
/-- what is told of a piece of code: the variables at which its ways meet; a loop's variables; a plan; its parts -/
inductive Ann where
  | nil
  | mk (join : Option Slots) (loop : Slots) (keep : List Nat) (plan : Pl) (a b : Ann)
  | range (ss : List Sh) (a b : Ann)
def Ann.join : Ann → Option Slots
  | .nil => none
  | .mk j _ _ _ _ _ => j
  | .range _ _ _ => none
def Ann.loop : Ann → Slots
  | .nil => []
  | .mk _ l _ _ _ _ => l
  | .range _ _ _ => []
def Ann.plan : Ann → Pl
  | .nil => .done
  | .mk _ _ _ p _ _ => p
  | .range _ _ _ => .done
def Ann.fst : Ann → Ann
  | .nil => .nil
  | .mk _ _ _ _ a _ => a
  | .range _ a _ => a
def Ann.snd : Ann → Ann
  | .nil => .nil
  | .mk _ _ _ _ _ b => b
  | .range _ _ b => b
def Ann.keeps : Ann → List Nat
  | .mk _ _ k _ _ _ => k
  | _ => []
def Ann.rng : Ann → List Sh
  | .range ss _ _ => ss
  | _ => []
def meet (sl : Slots) (k : Fn (slotKds sl) (World → Prop)) (e : Env) (w : World) : Prop :=
  match collect sl e with
  | some l => app noW (slotKds sl) k l w
  | none => False
def withJ (j : Option Slots) (ks : List Nat) (c : Code) (e : Env) (kn : Env → World → Prop) (A : (Env → World → Prop) → Prop) : Prop :=
  match j with
  | none => A kn
  | some sl => if joinOk sl ks c then joinK (slotKds sl) (fun k => A (meet sl k)) (lam (slotKds sl) fun l w => kn (rebuild sl l (keep ks e)) w) else False
/-! a region whose order is open -/
def bnth : List Bool → Nat → Bool
  | [], _ => false
  | x :: _, 0 => x
  | _ :: r, n + 1 => bnth r n
def bset : List Bool → Nat → List Bool
  | [], _ => []
  | _ :: r, 0 => true :: r
  | x :: r, n + 1 => x :: bset r n
def waitsB (o : Oper) (i : Nat) : Bool := o.after.toList.any fun e => Region.binds .any e && e.on == i
def rdyO (ls : List Bool) (o : Oper) : Bool := o.after.toList.all fun e => !Region.binds .any e || bnth ls e.on
def rdyB (ops : List Oper) (ls : List Bool) (i : Nat) : Bool := !bnth ls i && match nth ops i with
  | some o => rdyO ls o
  | none => false
/-- of those that have not come up only the ones of 'l' may come up -/
def onlyB (l : List Nat) : List Bool → List Oper → Nat → List Bool → Bool
  | ls, o :: r, i, b :: bs => (b || l.contains i || !rdyO ls o) && onlyB l ls r (i + 1) bs
  | _, [], _, [] => true
  | _, _, _, _ => false
/-- any two operations wait for each other, or touch nothing of each other's -/
def pairOk (ops : List Oper) (i : Nat) (o : Oper) : Nat → List Oper → Bool
  | _, [] => true
  | j, x :: r => (i == j || waitsB x i || waitsB o j || o.apart ops.toArray x) && pairOk ops i o (j + 1) r
def pairsOk (ops : List Oper) : Nat → List Oper → Bool
  | _, [] => true
  | i, o :: r => pairOk ops i o 0 ops && pairsOk ops (i + 1) r
def isSelect : Op → Bool
  | .select _ _ => true
  | _ => false
/-- is an operation wanted? (none: not known) -/
def wantW (ops : List Oper) (e : Env) (o : Oper) : Option Bool :=
  match o.guard with
  | none => some true
  | some (j, want) => match dstOf ops j with
    | some d => match eget e d with
      | some (.one (.leaf (.lit b))) => some (b == want)
      | some (.tup []) => some false
      | _ => none
    | none => none
def takeW (P : Program) (D : Nat → Prop) (w0 : World) (e : Env) (o : Oper) (k : TV → Prop) : Prop :=
  match pu0 P e o.op with
  | some t => k t
  | none => match pu1 P e o.op k with
    | some p => p
    | none => match lo1 P e (ldD D w0) o.op k with
      | some p => p
      | none => False
def nowW (P : Program) (w : World) (e : Env) (o : Oper) (k : TV → Prop) : Prop :=
  match pu0 P e o.op with
  | some t => k t
  | none => match pu1 P e o.op k with
    | some p => p
    | none => match lo1 P e (ld w) o.op k with
      | some p => p
      | none => False
def effW (P : Program) (cs : List Nat) (ops : List Oper) (D : Nat → Prop) (w0 : World) (ls : List Bool) (e : Env) (w : World) (i : Nat) (k : List Bool → Env → World → Prop) : Prop :=
  match nth ops i with
  | none => False
  | some o => match wantW ops e o with
    | some true => match ef1 P cs e o w fun t w' => Mod D w0 w' ∧ k (bset ls i) (put e o.dst t) w' with
      | some p => p
      | none => False
    | some false => k (bset ls i) (esetO e o.dst) w
    | none => False
def dRun (P : Program) (cs : List Nat) (ops : List Oper) (D : Nat → Prop) (w0 : World) : Pl → List Bool → Env → World → (Env → World → Prop) → Prop
  | .done, ls, e, w, k => if ls.all id then k e w else False
  | .take i r, ls, e, w, k => if rdyB ops ls i then
      match nth ops i with
      | none => False
      | some o => match wantW ops e o with
        | some true => takeW P D w0 e o fun t => dRun P cs ops D w0 r (bset ls i) (put e o.dst t) w k
        | some false => dRun P cs ops D w0 r (bset ls i) (esetO e o.dst) w k
        | none => False
    else False
  | .now i r, ls, e, w, k => if rdyB ops ls i && onlyB [i] ls ops 0 ls then
      match nth ops i with
      | none => False
      | some o => match wantW ops e o with
        | some true => nowW P w e o fun t => dRun P cs ops D w0 r (bset ls i) (put e o.dst t) w k
        | some false => dRun P cs ops D w0 r (bset ls i) (esetO e o.dst) w k
        | none => False
    else False
  | .eff i r, ls, e, w, k => if rdyB ops ls i && onlyB [i] ls ops 0 ls then effW P cs ops D w0 ls e w i fun ls e w => dRun P cs ops D w0 r ls e w k else False
  | .two i p j q, ls, e, w, k => if rdyB ops ls i && onlyB [i, j] ls ops 0 ls then
      (effW P cs ops D w0 ls e w i fun ls e w => dRun P cs ops D w0 p ls e w k) ∧ (effW P cs ops D w0 ls e w j fun ls e w => dRun P cs ops D w0 q ls e w k) else False
  | .split i p q, ls, e, w, k => match dstOf ops i with
    | some d => match eget e d with
      | some (.one (.leaf (.bool x))) => ifK x (dRun P cs ops D w0 p ls (eset e d (.one (.leaf (.lit true)))) w k) (dRun P cs ops D w0 q ls (eset e d (.one (.leaf (.lit false)))) w k)
      | _ => False
    | none => False
/-- the parameters of a round -/
def setPs : List Tmp → List AV → Env → Env
  | t :: ts, v :: vs, e => setPs ts vs (eset e t (.one v))
  | _, _, e => e
/-- ro: the round of which it is the code -/
def W (P : Program) (cs : List Nat) (ro : Option Nat) : Code → Ann → Env → World → (Env → World → Prop) → (Nat → Env → World → Prop) → (Env → World → Prop) → Prop
  | .skip, _, e, w, kn, _, _ => kn e w
  | .label _, _, e, w, kn, _, _ => kn e w
  | .region i ops false, n, e, w, kn, _, _ => if ro.isSome && defC (.region i ops false) then False else
      withJ n.join n.keeps (.region i ops false) e kn fun kn => runOps P cs ops.toList ops.toList e w kn
  | .region i ops true, n, e, w, kn, _, _ => if pairsOk ops.toList 0 ops.toList && ops.toList.all (fun o => !isSelect o.op && !isDefer o.op) then
      withJ n.join n.keeps (.region i ops true) e kn fun kn => drawK w fun D w => dRun P cs ops.toList D w n.plan (ops.toList.map fun _ => false) e w kn
    else False
  | .seq a b, n, e, w, kn, kx, kr => withJ n.join n.keeps (.seq a b) e kn fun kn => W P cs ro a n.fst e w (fun e w => W P cs ro b n.snd e w kn kx kr) kx kr
  | .cond c a b, n, e, w, kn, kx, kr => withJ n.join n.keeps (.cond c a b) e kn fun kn => match rdL e c with
    | some (.lit true) => W P cs ro a n.fst e w kn kx kr
    | some (.lit false) => W P cs ro b n.snd e w kn kx kr
    | some (.bool x) => ifK x (W P cs ro a n.fst e w kn kx kr) (W P cs ro b n.snd e w kn kx kr)
    | _ => False
  | .block i c, n, e, w, kn, kx, kr => withJ n.join n.keeps (.block i c) e kn fun kn => W P cs ro c n.fst e w kn (fun j e w => if j = i then kn e w else kx j e w) kr
  | .loop c, n, e, w, _, kx, kr => if joinOk n.loop n.keeps c then match collect n.loop e with
      | some l => loopL (slotKds n.loop) (lam (slotKds n.loop) fun l w again => W P cs ro c n.fst (rebuild n.loop l (keep n.keeps e)) w (meet n.loop again) kx kr) l w
      | none => False
    else False
  | .rangeFunc g ps asg body, n, e, w, kn, kx, kr => match rdL e g with
    | some (.val v) => if n.rng.length == ps.size then
        rangeK P n.rng v ro w
          (fun rc => lam (kdsOf n.rng) fun l w beg next leave =>
            W P cs (some rc) asg n.fst (setPs ps.toList (mkAVs n.rng l) ⟨e.t, e.n, [], []⟩) w
              (fun e1 w1 => beg w1 fun w2 => W P cs (some rc) body n.snd e1 w2 (fun _ w => next w) (fun i _ w => leave (idxOf (some i) (jmps body)) w) (fun _ w => leave (idxOf none (jmps body)) w))
              (fun _ _ _ => False) (fun _ _ => False))
          (fun r w' => kn ⟨e.t, e.n, e.calls, match ro with | none => r :: e.marks | some _ => e.marks⟩ w')
          ((jmps body).map fun j r w' => match j with
            | none => kr ⟨e.t, e.n, e.calls, match ro with | none => r :: e.marks | some _ => e.marks⟩ w'
            | some i => kx i ⟨e.t, e.n, e.calls, match ro with | none => r :: e.marks | some _ => e.marks⟩ w')
      else False
    | _ => False
  | .exit i, _, e, w, _, kx, _ => kx i e w
  | .ret, _, e, w, _, _, kr => kr e w
  | _, _, _, _, _, _, _ => False
/-- the results at a return -/
def results1 (P : Program) (e : Env) (w : World) : List ResultVar → List TV → (List TV → Prop) → Prop
  | [], acc, k => k acc.reverse
  | .tmp t :: r, acc, k => match eget e t with
    | some v => results1 P e w r (v :: acc) k
    | none => False
  | .cell a t :: r, acc, k => match lo1 P e (ld w) (.load t (.tmp a)) fun v => results1 P e w r (v :: acc) k with
    | some p => p
    | none => False
def onesOf : List TV → Option (List AV)
  | [] => some []
  | .one x :: r => (onesOf r).map fun l => x :: l
  | .tup _ :: _ => none
def fitL : List Sh → List AV → Option (List LV)
  | [], [] => some []
  | .leaf _ :: ss, .leaf x :: r => (fitL ss r).map fun l => x :: l
  | .agg ks :: ss, .agg xs :: r => if xs.length = ks.length then (fitL ss r).map fun l => xs ++ l else none
  | _, _ => none
def fitR (rt : RT) (vs : List TV) : Option (List LV) :=
  match onesOf vs with
  | none => none
  | some xs => match rt, xs with
    | .one s, [x] => fitL [s] [x]
    | .one _, _ => none
    | .tup _, [_] => none
    | .tup ss, xs => fitL ss xs
def retW (P : Program) (fn : Func) (rt : RT) (K : Fn rt.kds (World → Prop)) (e : Env) (w : World) : Prop :=
  callsK P e.calls w fun w => closeK e.marks w fun w => results1 P e w fn.results.toList [] fun vs => match fitR rt vs with
    | some l => app noW rt.kds K l w
    | none => False
/-- the environment in which a function begins -/
def args0 : Nat → List AV → List (Nat × TV)
  | _, [] => []
  | i, v :: r => (i, .one v) :: args0 (i + 1) r
def env0 (n : Nat) (args : List AV) : Env := ⟨args0 0 args, n, [], []⟩
def WF (P : Program) (cs : List Nat) (fn : Func) (n : Ann) (rt : RT) (args : List AV) (K : Fn rt.kds (World → Prop)) (w : World) : Prop :=
  match fn.body with
  | some c => if args.length ≤ fn.ntmps && !(rngC c && defC c) then W P cs none c n (env0 fn.ntmps args) w (retW P fn rt K) (fun _ _ _ => False) (retW P fn rt K) else False
  | none => False
end Go.Vw
