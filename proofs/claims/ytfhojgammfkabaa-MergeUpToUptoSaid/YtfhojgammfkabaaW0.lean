/- The typed view of the model's code: values of known kinds, the primitives in which a function's body is told, environments. Nothing here is about a program. -/
import Derived.CallsIn
import Derived.RangeFuncLeaves
import Derived.RangeFuncSeq
import Derived.Below
import Derived.Laws.World
namespace Go.Vw

/-- an address: a block and a place in it -/
abbrev PA := Option (Nat × Nat)
structure Sl where
  p : PA
  len : Nat
  cap : Nat
inductive Kd where
  | int (k : IntKind) | bool | str | ptr | adr | sl | map | val | marks
@[reducible] def Den : Kd → Type
  | .int _ => Int
  | .bool => Bool
  | .str => List UInt8
  | .ptr => PA
  | .adr => Nat × Nat
  | .sl => Sl
  | .map => Option Nat
  | .val => Value
  | .marks => List Nat
/-- a value of one cell -/
inductive LV where
  | int (k : IntKind) (n : Int) | bool (b : Bool) | lit (b : Bool) | str (s : List UInt8) | ptr (p : PA) | sl (s : Sl) | map (r : Option Nat) | val (v : Value) | marks (l : List Nat)
def paV : PA → Option Addr
  | none => none
  | some (b, o) => some ⟨b, o, none⟩
/-- all pairs of numbers, one after the other -/
def dg : Nat → Nat × Nat
  | 0 => (0, 0)
  | k + 1 => match dg k with
    | (0, y) => (y + 1, 0)
    | (x + 1, y) => (x, y + 1)
/-- the address of a slice without capacity: nothing is read there, so it may be any address; even numbers: a place; odd numbers: a place with a spot -/
def decA (b o : Nat) : Addr := if o % 2 = 0 then ⟨b, o / 2, none⟩ else ⟨b, (dg (o / 2)).1, some (dg (o / 2)).2⟩
def slA (cap : Nat) : PA → Option Addr
  | none => none
  | some (b, o) => some (if cap = 0 then decA b o else ⟨b, o, none⟩)
def LV.toV : LV → Value
  | .int k n => .int k n
  | .bool b => .bool b
  | .lit b => .bool b
  | .str l => .string ⟨l.toArray⟩
  | .ptr p => .pointer (paV p)
  | .sl s => .slice (slA s.cap s.p) s.len s.cap
  | .map r => .map r
  | .val v => v
  | .marks l => .func (.func 0) (l.map fun r => Value.map (some r)).toArray #[]
def LV.mk : (k : Kd) → Den k → LV
  | .int k, n => .int k n
  | .bool, b => .bool b
  | .str, l => .str l
  | .ptr, p => .ptr p
  | .adr, a => .ptr (some (a.1, a.2))
  | .sl, s => .sl s
  | .map, r => .map r
  | .val, v => .val v
  | .marks, l => .marks l
def LV.as : (k : Kd) → LV → Option (Den k)
  | .int k, .int j n => if k = j then some n else none
  | .bool, .bool b => some b
  | .bool, .lit b => some b
  | .str, .str l => some l
  | .ptr, .ptr p => some p
  | .adr, .ptr (some a) => some a
  | .sl, .sl s => some s
  | .map, .map r => some r
  | .val, .marks _ => none
  | .val, x => some x.toV
  | .marks, .marks l => some l
  | _, _ => none
theorem LV.as_toV {k : Kd} {x : LV} {d : Den k} (h : x.as k = some d) : (LV.mk k d).toV = x.toV := by
  cases k with
  | adr =>
    cases x with
    | ptr p =>
      cases p with
      | none => simp [LV.as] at h
      | some a => obtain ⟨b, o⟩ := a; simp [LV.as] at h; subst h; rfl
    | _ => simp [LV.as] at h
  | _ => cases x <;> simp_all [LV.as, LV.mk, LV.toV]
/-- a value: of one cell, or a row of cells -/
inductive AV where
  | leaf (x : LV) | agg (l : List LV)
inductive TV where
  | one (x : AV) | tup (l : List AV)
def AV.toV : AV → Value
  | .leaf x => x.toV
  | .agg l => .agg (l.map LV.toV).toArray
def TV.toV : TV → Value
  | .one x => x.toV
  | .tup l => .tuple (l.map AV.toV).toArray
def AV.leaves : AV → List LV
  | .leaf x => [x]
  | .agg l => l
inductive Sh where
  | leaf (k : Kd) | agg (ks : List Kd)
def Sh.kds : Sh → List Kd
  | .leaf k => [k]
  | .agg ks => ks
inductive RT where
  | one (s : Sh) | tup (l : List Sh)
def kdsOf : List Sh → List Kd
  | [] => []
  | s :: r => s.kds ++ kdsOf r
def RT.kds : RT → List Kd
  | .one s => s.kds
  | .tup l => kdsOf l
/-- functions of typed arguments -/
@[reducible] def Fn : List Kd → Type → Type
  | [], R => R
  | k :: ks, R => Den k → Fn ks R
def lam {R : Type} : (ks : List Kd) → (List LV → R) → Fn ks R
  | [], f => f []
  | k :: ks, f => fun x => lam ks fun l => f (LV.mk k x :: l)
def app {R : Type} (bad : R) : (ks : List Kd) → Fn ks R → List LV → R
  | [], f, [] => f
  | k :: ks, f, x :: l => match x.as k with
    | some d => app bad ks (f d) l
    | none => bad
  | _, _, _ => bad
/-- no such value -/
def noW : World → Prop := fun _ => False
def mkAVs : List Sh → List LV → List AV
  | [], _ => []
  | .leaf _ :: r, x :: l => .leaf x :: mkAVs r l
  | .leaf _ :: _, [] => []
  | .agg ks :: r, l => .agg (l.take ks.length) :: mkAVs r (l.drop ks.length)
def RT.mk : RT → List LV → TV
  | .one (.leaf _), x :: _ => .one (.leaf x)
  | .one (.leaf _), [] => .tup []
  | .one (.agg _), l => .one (.agg l)
  | .tup ss, l => .tup (mkAVs ss l)

/-! ### The primitives -/
def ifK (b : Bool) (A B : Prop) : Prop := (b = true → A) ∧ (b = false → B)
/-- a load of one cell -/
def ld (w : World) (k : Kd) (b o : Nat) (K : Den k → Prop) : Prop := ∃ x : Den k, w.cell? ⟨b, o, none⟩ = some (LV.mk k x).toV ∧ K x
/-- a load in a statement whose order is open: of a cell that the statement does not write -/
def ldD (D : Nat → Prop) (w : World) (k : Kd) (b o : Nat) (K : Den k → Prop) : Prop := ∃ x : Den k, ¬ D b ∧ w.cell? ⟨b, o, none⟩ = some (LV.mk k x).toV ∧ K x
def World.setCells (w : World) (b o : Nat) : List Value → World
  | [] => w
  | v :: r => World.setCells (w.setCell ⟨b, o, none⟩ v) b (o + 1) r
def isCell : Value → Bool
  | .agg _ => false
  | .tuple _ => false
  | _ => true
/-- may these places be written? -/
def okCells (w : World) (b o n : Nat) : Prop := ∀ i, i < n → (∃ v, w.cell? ⟨b, o + i, none⟩ = some v) ∧ w.frozen? ⟨b, o + i, none⟩ = false
/-- values that are known by their type alone -/
def valsOf : List LV → List Value
  | [] => []
  | .val v :: r => v :: valsOf r
  | _ :: r => valsOf r
def okVals (l : List LV) (A : Prop) : Prop :=
  match valsOf l with
  | [] => A
  | v :: vs => (∀ x ∈ v :: vs, isCell x = true) ∧ A
def st (w : World) (b o : Nat) (vs : List LV) (K : World → Prop) : Prop :=
  okCells w b o vs.length ∧ K (World.setCells w b o (vs.map LV.toV))
/-- a new block -/
def al (w : World) (e : TypeId) (cs : List LV) (K : Nat → World → Prop) : Prop := K w.heap.size (w.alloc (.cells (cs.map LV.toV).toArray e))
/-- a pointer that is not nil -/
def dr (p : PA) (K : Nat → Nat → Prop) : Prop := ∃ b o, p = some (b, o) ∧ K b o
/-- a place in a slice -/
def ix (s : Sl) (sz : Nat) (i : Int) (K : Nat → Nat → Prop) : Prop := ∃ b o, s.p = some (b, o) ∧ s.cap ≠ 0 ∧ 0 ≤ i ∧ i < s.len ∧ K b (o + i.toNat * sz)
/-- a byte of a string -/
def sx (s : List UInt8) (i : Int) (K : Int → Prop) : Prop := ∃ c, s[i.toNat]? = some c ∧ 0 ≤ i ∧ K c.toNat
def Sl.cut (s : Sl) (sz l h m : Nat) : Sl := ⟨if m = l then if s.cap = 0 then s.p else s.p.map fun a => (a.1, 2 * a.2) else s.p.map fun a => (a.1, a.2 + l * sz), h - l, m - l⟩
/-- s[lo:hi:mx] -/
def slx (s : Sl) (sz : Nat) (lo hi mx : Option Int) (K : Sl → Prop) : Prop :=
  ∃ l h m : Nat, (l : Int) = lo.getD 0 ∧ (h : Int) = hi.getD s.len ∧ (m : Int) = mx.getD s.cap ∧ l ≤ h ∧ h ≤ m ∧ m ≤ s.cap ∧ K (s.cut sz l h m)
/-- s[lo:hi] of a string -/
def ssx (s : List UInt8) (lo hi : Option Int) (K : List UInt8 → Prop) : Prop :=
  ∃ l h : Nat, (l : Int) = lo.getD 0 ∧ (h : Int) = hi.getD s.length ∧ l ≤ h ∧ h ≤ s.length ∧ K ((s.drop l).take (h - l))
/-- is a function value nil? -/
def nilF (v : Value) (K : Bool → Prop) : Prop := (v = .nilFunc ∧ K true) ∨ (∃ f a c, v = .func f a c ∧ K false)
def nilI (v : Value) (K : Bool → Prop) : Prop := (v = .nilIface ∧ K true) ∨ (∃ t x, v = .iface t x ∧ K false)
/-- the cells at a slice's place -/
def rdCells (w : World) (s : Sl) (n : Nat) (c : List Value) : Prop :=
  c.length = n ∧ (n = 0 ∨ ∃ b o, s.p = some (b, o) ∧ s.cap ≠ 0 ∧ ∀ i, i < n → w.cell? ⟨b, o + i, none⟩ = c[i]?)
/-- append(s, x...): elements of 'sz' cells, 'by' bytes, 'zs' a new element's cells -/
def ap (w : World) (e : TypeId) (sz bytes : Nat) (zs : List LV) (s x : Sl) (K : Sl → World → Prop) : Prop :=
  ∃ new : List Value, rdCells w x (x.len * sz) new ∧ (∀ v ∈ new, isCell v = true) ∧
    (s.len + x.len ≤ s.cap → s.len + x.len ≠ 0 → (∃ b o, s.p = some (b, o) ∧ okCells w b (o + s.len * sz) (x.len * sz) ∧
      K ⟨s.p, s.len + x.len, s.cap⟩ (World.setCells w b (o + s.len * sz) new))) ∧
    (s.len + x.len = 0 → K ⟨s.p, 0, s.cap⟩ w) ∧
    (s.cap < s.len + x.len → (s.len + x.len + 1024) * (bytes + 1) ≤ 2 ^ 46 ∧
      ∃ old : List Value, rdCells w s (s.len * sz) old ∧ ∀ c, s.len + x.len ≤ c → K ⟨some (w.heap.size, 0), s.len + x.len, c⟩
        (w.drew.alloc (.cells (old ++ new ++ (List.replicate (c - (s.len + x.len)) (zs.map LV.toV)).flatten).toArray e)))
/-- make([]T, n, c) -/
def mk (w : World) (e : TypeId) (bytes : Nat) (zs : List LV) (n c : Int) (K : Sl → World → Prop) : Prop :=
  0 ≤ n ∧ n ≤ c ∧ c < 2 ^ 48 ∧ (bytes : Int) * c ≤ 2 ^ 47 ∧
    K ⟨some (w.heap.size, 0), n.toNat, c.toNat⟩ (w.alloc (.cells (List.replicate c.toNat (zs.map LV.toV)).flatten.toArray e))
/-- a call of a Go function, with results of known kinds -/
def callK (P : Program) (f : FuncId) (args : List AV) (w : World) (rt : RT) (K : Fn rt.kds (World → Prop)) : Prop :=
  Calls P f (args.map AV.toV).toArray w fun e w' => ∃ l : List LV, e = .returned (rt.mk l).toV ∧ app noW rt.kds K l w'
/-- a function value that is called: a Go function -/
def callF (P : Program) (v : Value) (args : List AV) (w : World) (rt : RT) (K : Fn rt.kds (World → Prop)) : Prop :=
  ∃ f a c, v = .func (.func f) a c ∧ (P.funcs[f]?).any (fun fn => fn.body.isSome && !(fn.name == "runtime.NumGoroutine")) = true ∧
      Calls P f (a ++ (args.map AV.toV).toArray ++ c) w fun e w' => ∃ l : List LV, e = .returned (rt.mk l).toV ∧ app noW rt.kds K l w'
/-- a function value that is called: a Go function, or the yield of a range over a function -/
def callV (P : Program) (v : Value) (args : List AV) (w : World) (rt : RT) (K : Fn rt.kds (World → Prop)) : Prop :=
  callF P v args w rt K ∨
  (∃ l a c, v = .func (.yield l) a c ∧ a = #[] ∧ YieldAt Fence.wide 0 P l (args.map AV.toV).toArray w fun e w' => ∃ l : List LV, e = .returned (rt.mk l).toV ∧ app noW rt.kds K l w')
/-- any other operation, told in the model's own words -/
def opF (P : Program) (s : Sem Next) (w : World) (rt : RT) (K : Fn rt.kds (World → Prop)) : Prop :=
  ∃ (l : List LV) (w' : World), s.run P w = .ok (.value (rt.mk l).toV) w' ∧ app noW rt.kds K l w'
/-- any other operation that answers nothing -/
def opU (P : Program) (s : Sem Next) (w : World) (K : World → Prop) : Prop := ∃ w' : World, s.run P w = .ok .skip w' ∧ K w'
abbrev w64 (n : Int) : Int := IntKind.wrap .i64 n
def vS (s : Sem Value) : Sem Next := do pure (.value (← s))
def uS (s : Sem Unit) : Sem Next := do s; pure .skip
/-- ways that meet again -/
def joinK (ks : List Kd) (A : Fn ks (World → Prop) → Prop) (K : Fn ks (World → Prop)) : Prop := A K
/-- a loop over typed variables -/
def loopL (ks : List Kd) (B : Fn ks (World → Fn ks (World → Prop) → Prop)) (l : List LV) (w : World) : Prop :=
  ∃ (I : List LV → World → Prop) (μ : List LV → World → Nat), I l w ∧ ∀ l w, I l w → app (fun _ _ => False) ks B l w (lam ks fun l' w' => I l' w' ∧ μ l' w' < μ l w)
/-- the states of the record of a range over a function -/
inductive LSt where
  | ready | busy | done (j : Nat) | over (j : Option Nat)
def isLoop : Option Obj → Bool
  | some (.loop _) => true
  | _ => false
/-- for .. := range v { .. }: ro: the round in which it stands; B: a round of its own (its record; what it is handed; its world; where the body begins; where it goes on; where it leaves, by the number of the jump); An: behind the loop; As: behind a jump -/
def rangeK (P : Program) (ss : List Sh) (v : Value) (ro : Option Nat) (w : World)
    (B : Nat → Fn (kdsOf ss) (World → (World → (World → Prop) → Prop) → (World → Prop) → (Nat → World → Prop) → Prop)) (An : Nat → World → Prop) (As : List (Nat → World → Prop)) : Prop :=
  (∀ l0, ro = some l0 → isLoop w.heap[l0]? = true) ∧
  ∀ (R : LSt → Obj) (w1 : World) (l : Nat), (∀ s, isLoop (some (R s)) = true) → w1 = (match ro with | none => w.alloc (.deferred (some [])) | some _ => w) → l = w1.heap.size →
    (∀ (xs : List LV) (w' : World) (K : Bool → World → Prop), w'.heap[l]? = some (R .ready) →
      app (fun _ _ _ _ => False) (kdsOf ss) (B l) xs w' (fun u K' => u.heap[l]? = some (R .ready) ∧ K' (u.putObj l (R .busy)))
        (fun u => u.heap[l]? = some (R .busy) ∧ K true (u.putObj l (R .ready))) (fun j u => u.heap[l]? = some (R .busy) ∧ K false (u.putObj l (R (.done j)))) →
      callV P (.func (.yield l) #[] #[]) (mkAVs ss xs) w' (.one (.leaf .bool)) K) →
    callF P v [.leaf (.val (.func (.yield l) #[] #[]))] (w1.alloc (R .ready)) (.tup []) fun w3 =>
      (w3.heap[l]? = some (R .ready) ∧ An w.heap.size (w3.putObj l (R (.over none)))) ∨
      (∃ j A, As[j]? = some A ∧ w3.heap[l]? = some (R (.done j)) ∧ A w.heap.size (w3.putObj l (R (.over (some j)))))
/-- deferred calls are made, one by one -/
def deferK (P : Program) (f : FuncId) (args : List AV) (w : World) (K : World → Prop) : Prop :=
  (P.funcs[f]?).any (fun fn => fn.body.isSome && !(fn.name == "runtime.NumGoroutine")) = true ∧ CallsDIn Fence.wide 0 P f (args.map AV.toV).toArray .returning w fun e u w' => u = .returning ∧ (∃ v, e = .returned v) ∧ K w'
def callsK (P : Program) : List (FuncId × List AV) → World → (World → Prop) → Prop
  | [], w, K => K w
  | (f, l) :: r, w, K => deferK P f l w fun w' => callsK P r w' K
/-- the marks of ranges over functions are struck, one by one -/
def closeK : List Nat → World → (World → Prop) → Prop
  | [], w, K => K w
  | r :: rs, w, K => w.heap[r]? = some (.deferred (some [])) ∧ closeK rs (w.putObj r (.deferred none)) K
/-- what a statement may have done: new blocks, and writes to blocks of D alone -/
structure Mod (D : Nat → Prop) (w w' : World) : Prop where
  os : w'.os = w.os
  tape : w'.tape = w.tape
  output : w'.output = w.output
  size : w.heap.size ≤ w'.heap.size
  block : ∀ k, k < w.heap.size → ¬ D k → w'.heap[k]? = w.heap[k]?
/-- a statement whose order is open: D: the blocks that it may write -/
def drawK (w : World) (A : (Nat → Prop) → World → Prop) : Prop := ∃ D, A D w.drew
end Go.Vw
