/- W0, W1, W2, W3, W4, W5, W6 in one text. -/
import Derived.CallsIn
import Derived.RangeFuncLeaves
import Derived.RangeFuncSeq
import Derived.Below
import Derived.Laws.World
import Derived.OrdersIn
import Derived.Laws.Sem
import Derived.Laws.Entries
import Derived.Laws.Strings
import Derived.Laws.Tables
import Derived.IntWalk
namespace Go.Vw
abbrev Wp:=World→Prop
theorem odt{p:Prop}[Decidable p](h:decide p=true):p:=of_decide_eq_true h
theorem odf{p:Prop}[Decidable p](h:decide p=false):¬p:=of_decide_eq_false h
theorem Lla:type_of% @List.length_append:=@List.length_append
theorem Laa:type_of% @List.append_assoc:=@List.append_assoc
theorem Lge:type_of% @List.getElem?_eq_getElem:=@List.getElem?_eq_getElem
theorem Lml:type_of% @List.mem_append_left:=@List.mem_append_left
theorem Lmr:type_of% @List.mem_append_right:=@List.mem_append_right
theorem Lsl:type_of% @List.sublist_append_left:=@List.sublist_append_left
theorem Lsr:type_of% @List.sublist_append_right:=@List.sublist_append_right
theorem Lan:type_of% @List.append_nil:=@List.append_nil
theorem Lld:type_of% @List.length_drop:=@List.length_drop
theorem Llt:type_of% @List.length_take:=@List.length_take
theorem Lmg:type_of% @List.mem_of_getElem?:=@List.mem_of_getElem?
theorem Les:type_of% @List.getElem?_eq_some_iff:=@List.getElem?_eq_some_iff
theorem Det:type_of% @decide_eq_true_eq:=@decide_eq_true_eq
theorem Bei:type_of% @Bool.eq_iff_iff:=@Bool.eq_iff_iff
theorem Bat:type_of% @Bool.and_eq_true:=@Bool.and_eq_true
theorem Ldn:type_of% @List.drop_eq_nil_of_le:=@List.drop_eq_nil_of_le
theorem Lma:type_of% @List.mem_append:=@List.mem_append
theorem Lms:type_of% @List.mem_singleton:=@List.mem_singleton
theorem Lpc:type_of% @List.perm_append_comm:=@List.perm_append_comm
theorem Llc:type_of% @List.length_cons:=@List.length_cons
theorem Ltl:type_of% @List.take_of_length_le:=@List.take_of_length_le
theorem Nzl:type_of% @Nat.zero_le:=@Nat.zero_le
theorem Nlr:type_of% @Nat.le_refl:=@Nat.le_refl
theorem Itn:type_of% @Int.toNat_natCast:=@Int.toNat_natCast
theorem Dcf:type_of% @decide_eq_false:=@decide_eq_false
theorem Dct:type_of% @decide_eq_true:=@decide_eq_true
theorem Lmc:type_of% @List.mem_cons_of_mem:=@List.mem_cons_of_mem
theorem Lgd:type_of% @List.getD_eq_getElem?_getD:=@List.getD_eq_getElem?_getD
theorem Lgr:type_of% @List.getElem?_append_right:=@List.getElem?_append_right
theorem Lgl:type_of% @List.getElem?_append_left:=@List.getElem?_append_left
theorem Bsf:type_of% @bne_self_eq_false:=@bne_self_eq_false
theorem Lcs:type_of% @List.mem_cons_self:=@List.mem_cons_self
abbrev PA:=Option (Nat×Nat)
structure Sl where
 p:PA
 len:Nat
 cap:Nat
inductive Kd where
 | int (k:IntKind) | bool | str | ptr | adr | sl | map | val | marks
@[reducible] def Den:Kd→Type
 | .int _=>Int
 | .bool=>Bool
 | .str=>List UInt8
 | .ptr=>PA
 | .adr=>Nat×Nat
 | .sl=>Sl
 | .map=>Option Nat
 | .val=>Value
 | .marks=>List Nat
inductive LV where
 | int (k:IntKind) (n:Int) | bool (b:Bool) | lit (b:Bool) | str (s:List UInt8) | ptr (p:PA) | sl (s:Sl) | map (r:Option Nat) | val (v:Value) | marks (l:List Nat)
def paV:PA→Option Addr
 | none=>none
 | some (b,o)=>some ⟨b,o,none⟩
def dg:Nat→Nat×Nat
 | 0=>(0,0)
 | k+1=>match dg k with
  | (0,y)=>(y+1,0)
  | (x+1,y)=>(x,y+1)
def decA(b o:Nat):Addr:=if o%2=0 then⟨b,o/2,none⟩ else⟨b,(dg (o/2)).1,some (dg (o/2)).2⟩
def slA(cap:Nat):PA→Option Addr
 | none=>none
 | some (b,o)=>some (if cap=0 then decA b o else⟨b,o,none⟩)
def LV.toV:LV→Value
 | .int k n=>.int k n
 | .bool b=>.bool b
 | .lit b=>.bool b
 | .str l=>.string ⟨l.toArray⟩
 | .ptr p=>.pointer (paV p)
 | .sl s=>.slice (slA s.cap s.p) s.len s.cap
 | .map r=>.map r
 | .val v=>v
 | .marks l=>.func (.func 0) (l.map fun r=>Value.map (some r)).toArray #[]
def LV.mk:(k:Kd)→Den k→LV
 | .int k,n=>.int k n
 | .bool,b=>.bool b
 | .str,l=>.str l
 | .ptr,p=>.ptr p
 | .adr,a=>.ptr (some (a.1,a.2))
 | .sl,s=>.sl s
 | .map,r=>.map r
 | .val,v=>.val v
 | .marks,l=>.marks l
def LV.as:(k:Kd)→LV→Option (Den k)
 | .int k,.int j n=>if k=j then some n else none
 | .bool,.bool b=>some b
 | .bool,.lit b=>some b
 | .str,.str l=>some l
 | .ptr,.ptr p=>some p
 | .adr,.ptr (some a)=>some a
 | .sl,.sl s=>some s
 | .map,.map r=>some r
 | .val,.marks _=>none
 | .val,x=>some x.toV
 | .marks,.marks l=>some l
 | _,_=>none
theorem LV.as_toV{k:Kd}{x:LV}{d:Den k}(h:x.as k=some d):(LV.mk k d).toV=x.toV:=by
 cases k with
 | adr=>
  cases x with
  | ptr p=>
   cases p with
   | none=>simp [LV.as] at h
   | some a=>obtain⟨b,o⟩:=a;simp [LV.as] at h;subst h;rfl
  | _=>simp [LV.as] at h
 | _=>cases x<;>simp_all [LV.as,LV.mk,LV.toV]
inductive AV where
 | leaf (x:LV) | agg (l:List LV)
inductive TV where
 | one (x:AV) | tup (l:List AV)
def AV.toV:AV→Value
 | .leaf x=>x.toV
 | .agg l=>.agg (l.map LV.toV).toArray
def TV.toV:TV→Value
 | .one x=>x.toV
 | .tup l=>.tuple (l.map AV.toV).toArray
def AV.leaves:AV→List LV
 | .leaf x=>[x]
 | .agg l=>l
inductive Sh where
 | leaf (k:Kd) | agg (ks:List Kd)
def Sh.kds:Sh→List Kd
 | .leaf k=>[k]
 | .agg ks=>ks
inductive RT where
 | one (s:Sh) | tup (l:List Sh)
def kdsOf:List Sh→List Kd
 | []=>[]
 | s::r=>s.kds++kdsOf r
def RT.kds:RT→List Kd
 | .one s=>s.kds
 | .tup l=>kdsOf l
@[reducible] def Fn:List Kd→Type→Type
 | [],R=>R
 | k::ks,R=>Den k→Fn ks R
def lam{R:Type}:(ks:List Kd)→(List LV→R)→Fn ks R
 | [],f=>f []
 | k::ks,f=>fun x=>lam ks fun l=>f (LV.mk k x::l)
def app{R:Type}(bad:R):(ks:List Kd)→Fn ks R→List LV→R
 | [],f,[]=>f
 | k::ks,f,x::l=>match x.as k with
  | some d=>app bad ks (f d) l
  | none=>bad
 | _,_,_=>bad
def noW:Wp:=fun _=>False
def mkAVs:List Sh→List LV→List AV
 | [],_=>[]
 | .leaf _::r,x::l=>.leaf x::mkAVs r l
 | .leaf _::_,[]=>[]
 | .agg ks::r,l=>.agg (l.take ks.length)::mkAVs r (l.drop ks.length)
def RT.mk:RT→List LV→TV
 | .one (.leaf _),x::_=>.one (.leaf x)
 | .one (.leaf _),[]=>.tup []
 | .one (.agg _),l=>.one (.agg l)
 | .tup ss,l=>.tup (mkAVs ss l)
def ifK(b:Bool)(A B:Prop):Prop:=(b=true→A)∧(b=false→B)
def ld(w:World)(k:Kd)(b o:Nat)(K:Den k→Prop):Prop:=∃x:Den k,w.cell? ⟨b,o,none⟩=some (LV.mk k x).toV∧K x
def ldD(D:Nat→Prop)(w:World)(k:Kd)(b o:Nat)(K:Den k→Prop):Prop:=∃x:Den k,¬D b∧w.cell? ⟨b,o,none⟩=some (LV.mk k x).toV∧K x
def World.setCells(w:World)(b o:Nat):List Value→World
 | []=>w
 | v::r=>World.setCells (w.setCell ⟨b,o,none⟩ v) b (o+1) r
def isCell:Value→Bool
 | .agg _=>false
 | .tuple _=>false
 | _=>true
def okCells(w:World)(b o n:Nat):Prop:=∀i,i<n→(∃v,w.cell? ⟨b,o+i,none⟩=some v)∧w.frozen? ⟨b,o+i,none⟩=false
def valsOf:List LV→List Value
 | []=>[]
 | .val v::r=>v::valsOf r
 | _::r=>valsOf r
def okVals(l:List LV)(A:Prop):Prop:=
 match valsOf l with
 | []=>A
 | v::vs=>(∀x∈v::vs,isCell x=true)∧A
def st(w:World)(b o:Nat)(vs:List LV)(K:Wp):Prop:=
 okCells w b o vs.length∧K (World.setCells w b o (vs.map LV.toV))
def al(w:World)(e:TypeId)(cs:List LV)(K:Nat→Wp):Prop:=K w.heap.size (w.alloc (.cells (cs.map LV.toV).toArray e))
def dr(p:PA)(K:Nat→Nat→Prop):Prop:=∃b o,p=some (b,o)∧K b o
def ix(s:Sl)(sz:Nat)(i:Int)(K:Nat→Nat→Prop):Prop:=∃b o,s.p=some (b,o)∧s.cap≠0∧0≤i∧i<s.len∧K b (o+i.toNat*sz)
def sx(s:List UInt8)(i:Int)(K:Int→Prop):Prop:=∃c,s[i.toNat]? = some c∧0≤i∧K c.toNat
def Sl.cut(s:Sl)(sz l h m:Nat):Sl:=⟨if m=l then if s.cap=0 then s.p else s.p.map fun a=>(a.1,2*a.2) else s.p.map fun a=>(a.1,a.2+l*sz),h-l,m-l⟩
def slx(s:Sl)(sz:Nat)(lo hi mx:Option Int)(K:Sl→Prop):Prop:=
 ∃l h m:Nat,(l:Int)=lo.getD 0∧(h:Int)=hi.getD s.len∧(m:Int)=mx.getD s.cap∧l≤h∧h≤m∧m≤s.cap∧K (s.cut sz l h m)
def ssx(s:List UInt8)(lo hi:Option Int)(K:List UInt8→Prop):Prop:=
 ∃l h:Nat,(l:Int)=lo.getD 0∧(h:Int)=hi.getD s.length∧l≤h∧h≤s.length∧K ((s.drop l).take (h-l))
def nilF(v:Value)(K:Bool→Prop):Prop:=(v = .nilFunc∧K true)∨(∃f a c,v = .func f a c∧K false)
def rdCells(w:World)(s:Sl)(n:Nat)(c:List Value):Prop:=
 c.length=n∧(n=0∨∃b o,s.p=some (b,o)∧s.cap≠0∧∀i,i<n→w.cell? ⟨b,o+i,none⟩=c[i]?)
def ap(w:World)(e:TypeId)(sz bytes:Nat)(zs:List LV)(s x:Sl)(K:Sl→Wp):Prop:=
 ∃new:List Value,rdCells w x (x.len*sz) new∧(∀v∈new,isCell v=true) ∧
  (s.len+x.len≤s.cap→s.len+x.len≠0→(∃b o,s.p=some (b,o)∧okCells w b (o+s.len*sz) (x.len*sz) ∧
   K ⟨s.p,s.len+x.len,s.cap⟩ (World.setCells w b (o+s.len*sz) new))) ∧
  (s.len+x.len=0→K ⟨s.p,0,s.cap⟩ w) ∧
  (s.cap<s.len+x.len→(s.len+x.len+1024)*(bytes+1)≤2^46 ∧
   ∃old:List Value,rdCells w s (s.len*sz) old∧∀c,s.len+x.len≤c→K ⟨some (w.heap.size,0),s.len+x.len,c⟩
    (w.drew.alloc (.cells (old++new++(List.replicate (c-(s.len+x.len)) (zs.map LV.toV)).flatten).toArray e)))
def mk(w:World)(e:TypeId)(bytes:Nat)(zs:List LV)(n c:Int)(K:Sl→Wp):Prop:=
 0≤n∧n≤c∧c<2^48∧(bytes:Int)*c≤2^47 ∧
  K ⟨some (w.heap.size,0),n.toNat,c.toNat⟩ (w.alloc (.cells (List.replicate c.toNat (zs.map LV.toV)).flatten.toArray e))
def callK(P:Program)(f:FuncId)(args:List AV)(w:World)(rt:RT)(K:Fn rt.kds (Wp)):Prop:=
 Calls P f (args.map AV.toV).toArray w fun e w'=>∃l:List LV,e = .returned (rt.mk l).toV∧app noW rt.kds K l w'
def callX(P:Program)(f:FuncId)(args:List AV)(w:World)(rt:RT)(kp:List PanicEntry→Wp)(K:Fn rt.kds (Wp)):Prop:=
 Calls P f (args.map AV.toV).toArray w fun e w'=>(∃l:List LV,e = .returned (rt.mk l).toV∧app noW rt.kds K l w')∨∃chain,e = .panicked chain∧kp chain w'
structure Cs where
 l:List Nat
 x:List Nat
 kp:List PanicEntry→Wp
def Cs.contains(c:Cs)(f:Nat):Bool:=c.l.contains f
def Cs.calm(c:Cs):Cs:=⟨c.l,[],fun _ _=>False⟩
instance:Coe (List Nat) Cs:=⟨fun l=>⟨l,[],fun _ _=>False⟩⟩
def callF(P:Program)(v:Value)(args:List AV)(w:World)(rt:RT)(K:Fn rt.kds (Wp)):Prop:=
 ∃f a c,v = .func (.func f) a c∧(P.funcs[f]?).any (fun fn=>fn.body.isSome&&!(fn.name=="runtime.NumGoroutine"))=true ∧
   Calls P f (a++(args.map AV.toV).toArray++c) w fun e w'=>∃l:List LV,e = .returned (rt.mk l).toV∧app noW rt.kds K l w'
def callV(P:Program)(v:Value)(args:List AV)(w:World)(rt:RT)(K:Fn rt.kds (Wp)):Prop:=
 callF P v args w rt K ∨
 (∃l a c,v = .func (.yield l) a c∧a = #[]∧YieldAt Fence.wide 0 P l (args.map AV.toV).toArray w fun e w'=>∃l:List LV,e = .returned (rt.mk l).toV∧app noW rt.kds K l w')
def callI(P:Program)(v:Value)(m:String)(args:List AV)(w:World)(rt:RT)(K:Fn rt.kds (Wp)):Prop:=
 ∃(f:FuncId) (as:Array Value),(callMethod v m (args.map AV.toV).toArray).run P w = .ok (.enter f as) w ∧
  Calls P f as w fun e w'=>∃l:List LV,e = .returned (rt.mk l).toV∧app noW rt.kds K l w'
def opF(P:Program)(s:Sem Next)(w:World)(rt:RT)(K:Fn rt.kds (Wp)):Prop:=
 ∃(l:List LV) (w':World),s.run P w = .ok (.value (rt.mk l).toV) w'∧app noW rt.kds K l w'
def opU(P:Program)(s:Sem Next)(w:World)(K:Wp):Prop:=∃w':World,s.run P w = .ok .skip w'∧K w'
def opNext(P:Program)(s:Sem Next)(w:World)(KF:Wp)(KT:Value→Value→Wp):Prop:=
 (∃w':World,s.run P w = .ok (.value (.tuple #[.bool false])) w'∧KF w')∨(∃(a b:Value) (w':World),s.run P w = .ok (.value (.tuple #[.bool true,a,b])) w'∧KT a b w')
def opEnt(P:Program)(s:Sem Next)(w:World)(K:Value→Value→Wp):Prop:=∃(a b:Value) (w':World),s.run P w = .ok (.value (.tuple #[a,b])) w'∧K a b w'
def castK(v:Value)(k:Kd)(K:Den k→Prop):Prop:=∃d:Den k,v=(LV.mk k d).toV∧K d
abbrev w64(n:Int):Int:=IntKind.wrap .i64 n
def vS(s:Sem Value):Sem Next:=do pure (.value (←s))
def joinK(ks:List Kd)(A:Fn ks (Wp)→Prop)(K:Fn ks (Wp)):Prop:=A K
def loopL(ks:List Kd)(B:Fn ks (World→Fn ks (Wp)→Prop))(l:List LV)(w:World):Prop:=
 ∃(I:List LV→Wp) (μ:List LV→World→Nat),I l w∧∀l w,I l w→app (fun _ _=>False) ks B l w (lam ks fun l' w'=>I l' w'∧μ l' w'<μ l w)
inductive LSt where
 | ready | busy | done (j:Nat) | over (j:Option Nat)
def isLoop:Option Obj→Bool
 | some (.loop _)=>true
 | _=>false
def rangeK(P:Program)(ss:List Sh)(v:Value)(ro:Option Nat)(w:World)
  (B:Nat→Fn (kdsOf ss) (World→(World→(Wp)→Prop)→(Wp)→(Nat→Wp)→Prop)) (An:Nat→Wp) (As:List (Nat→Wp)):Prop:=
 (∀l0,ro=some l0→isLoop w.heap[l0]? = true) ∧
 ∀(R:LSt→Obj) (w1:World) (l:Nat),(∀s,isLoop (some (R s))=true)→w1=(match ro with | none=>w.alloc (.deferred (some [])) | some _=>w)→l=w1.heap.size →
  (∀(xs:List LV) (w':World) (K:Bool→Wp),w'.heap[l]? = some (R .ready) →
   app (fun _ _ _ _=>False) (kdsOf ss) (B l) xs w' (fun u K'=>u.heap[l]? = some (R .ready)∧K' (u.putObj l (R .busy)))
    (fun u=>u.heap[l]? = some (R .busy)∧K true (u.putObj l (R .ready))) (fun j u=>u.heap[l]? = some (R .busy)∧K false (u.putObj l (R (.done j)))) →
   callV P (.func (.yield l) #[] #[]) (mkAVs ss xs) w' (.one (.leaf .bool)) K) →
  callF P v [.leaf (.val (.func (.yield l) #[] #[]))] (w1.alloc (R .ready)) (.tup []) fun w3=>
   (w3.heap[l]? = some (R .ready)∧An w.heap.size (w3.putObj l (R (.over none)))) ∨
   (∃j A,As[j]? = some A∧w3.heap[l]? = some (R (.done j))∧A w.heap.size (w3.putObj l (R (.over (some j)))))
def deferK(P:Program)(f:FuncId)(args:List AV)(w:World)(K:Wp):Prop:=
 (P.funcs[f]?).any (fun fn=>fn.body.isSome&&!(fn.name=="runtime.NumGoroutine"))=true∧CallsDIn Fence.wide 0 P f (args.map AV.toV).toArray .returning w fun e u w'=>u = .returning∧(∃v,e = .returned v)∧K w'
def callsK(P:Program):List (FuncId×List AV×List Value)→World→(Wp)→Prop
 | [],w,K=>K w
 | (f,l,[])::r,w,K=>deferK P f l w fun w'=>callsK P r w' K
 | (_,_,_::_)::_,_,_=>False
def closeK:List Nat→World→(Wp)→Prop
 | [],w,K=>K w
 | r::rs,w,K=>w.heap[r]? = some (.deferred (some []))∧closeK rs (w.putObj r (.deferred none)) K
structure Mod(D:Nat→Prop)(w w':World):Prop where
 os:w'.os=w.os
 tape:w'.tape=w.tape
 output:w'.output=w.output
 size:w.heap.size≤w'.heap.size
 block:∀k,k<w.heap.size→¬D k→w'.heap[k]? = w.heap[k]?
def drawK(w:World)(A:(Nat→Prop)→Wp):Prop:=∃D,A D w.drew
end Go.Vw
namespace Go.Vw
def lget:List (Nat×TV)→Nat→Option TV
 | [],_=>none
 | (i,v)::r,t=>bif Nat.beq i t then some v else lget r t
structure Env where
 t:List (Nat×TV)
 n:Nat
 calls:List (FuncId×List AV×List Value)
 marks:List Nat
def eget(e:Env)(t:Nat):Option TV:=lget e.t t
def eset(e:Env)(t:Nat)(v:TV):Env:=⟨bif Nat.blt t e.n then (t,v)::e.t else e.t,e.n,e.calls,e.marks⟩
def ofLV:Value→LV
 | .int k n=>.int k n
 | .bool b=>.lit b
 | .string s=>.str s.data.toList
 | .pointer none=>.ptr none
 | .slice none l c=>.sl ⟨none,l,c⟩
 | .map r=>.map r
 | v=>.val v
def ofV:Value→TV
 | .agg vs=>.one (.agg (vs.toList.map ofLV))
 | v=>.one (.leaf (ofLV v))
def rd(e:Env):Operand→Option TV
 | .tmp t=>eget e t
 | .const v=>some (ofV v)
 | .global g=>some (.one (.leaf (.ptr (some (g,0)))))
 | .func f=>some (.one (.leaf (.val (.func (.func f) #[] #[]))))
def rdL(e:Env)(x:Operand):Option LV:=
 match rd e x with
 | some (.one (.leaf x))=>some x
 | _=>none
def rdA(e:Env)(x:Operand):Option AV:=
 match rd e x with
 | some (.one x)=>some x
 | _=>none
def rdAs(e:Env):List Operand→Option (List AV)
 | []=>some []
 | x::r=>match rdA e x,rdAs e r with
  | some v,some vs=>some (v::vs)
  | _,_=>none
def kdD:TypeDesc→Option Kd
 | .int k=>some (.int k)
 | .bool=>some .bool
 | .string=>some .str
 | .pointer _=>some .ptr
 | .slice _=>some .sl
 | .map _ _=>some .map
 | .func _ _ _=>some .val
 | .interface _=>some .val
 | .chan _ _=>some .val
 | _=>none
def kdsT(P:Program):Nat→TypeId→Option (List Kd)
 | 0,_=>none
 | n+1,t=>match P.underlying t with
  | some (.struct fs)=>go (kdsT P n) fs.toList
  | some (.array m el)=>(kdsT P n el).map fun ks=>(List.replicate m ks).flatten
  | some d=>(kdD d).map fun k=>[k]
  | none=>none
where go (f:TypeId→Option (List Kd)):List Field→Option (List Kd)
 | []=>some []
 | x::r=>match f x.type,go f r with
  | some a,some b=>some (a++b)
  | _,_=>none
def isAggD:TypeDesc→Bool
 | .struct _=>true
 | .array _ _=>true
 | _=>false
def szT(P:Program)(t:TypeId):Option Nat:=(P.info? t).map (·.size)
def shT(P:Program)(t:TypeId):Option Sh:=
 match P.underlying t with
 | some d=>if isAggD d then
   match kdsT P 8 t,szT P t with
   | some ks,some n=>if ks.length=n then some (.agg ks) else none
   | _,_=>none
  else (kdD d).map .leaf
 | none=>none
def shTs(P:Program):List TypeId→Option (List Sh)
 | []=>some []
 | t::r=>match shT P t,shTs P r with
  | some s,some l=>some (s::l)
  | _,_=>none
def rtT(P:Program)(t:TypeId):Option RT:=
 match P.underlying t with
 | some (.tuple ts)=>(shTs P ts.toList).map .tup
 | some _=>(shT P t).map .one
 | none=>none
def zeroT(P:Program)(t:TypeId):Option (List LV):=((P.info? t).bind (·.zero)).map fun v=>v.cells.toList.map ofLV
def bitI(op:BinOp)(k:IntKind)(x y:Int):Int:=
 match op with
 | .and=>k.wrap (BitVec.ofInt k.bits x &&& BitVec.ofInt k.bits y).toNat
 | .or=>k.wrap (BitVec.ofInt k.bits x ||| BitVec.ofInt k.bits y).toNat
 | .xor=>k.wrap (BitVec.ofInt k.bits x ^^^ BitVec.ofInt k.bits y).toNat
 | _=>k.wrap (BitVec.ofInt k.bits x &&& ~~~(BitVec.ofInt k.bits y)).toNat
def shlI(k:IntKind)(x y:Int):Int:=k.wrap (x*2^(min y.toNat k.bits))
def shrI(k:IntKind)(x y:Int):Int:=x.fdiv (2^(min y.toNat k.bits))
def arI(op:BinOp)(k:IntKind)(a b:Int):Option LV:=
 match op with
 | .add=>some (.int k (k.wrap (a+b)))
 | .sub=>some (.int k (k.wrap (a-b)))
 | .mul=>some (.int k (k.wrap (a*b)))
 | .and=>some (.int k (bitI .and k a b))
 | .or=>some (.int k (bitI .or k a b))
 | .xor=>some (.int k (bitI .xor k a b))
 | .andNot=>some (.int k (bitI .andNot k a b))
 | .eql=>some (.bool (a==b))
 | .neq=>some (.bool (a != b))
 | .lss=>some (.bool (decide (a<b)))
 | .leq=>some (.bool (decide (a≤b)))
 | .gtr=>some (.bool (decide (b<a)))
 | .geq=>some (.bool (decide (b≤a)))
 | _=>none
def stI(op:BinOp)(a b:List UInt8):Option LV:=
 match op with
 | .eql=>some (.bool (a==b))
 | .neq=>some (.bool (!(a==b)))
 | .lss=>some (.bool (Op.bytesLess a b))
 | .leq=>some (.bool (Op.bytesLess a b||a==b))
 | .gtr=>some (.bool (!(Op.bytesLess a b||a==b)))
 | .geq=>some (.bool (!Op.bytesLess a b))
 | _=>none
def litNZ:Operand→Bool
 | .const (.int _ n)=>n != 0
 | _=>false
def litNat:Operand→Bool
 | .const (.int _ n)=>decide (0≤n)
 | _=>false
def nilC:Operand→Bool
 | .const (.pointer none)=>true
 | .const (.slice none 0 0)=>true
 | .const (.map none)=>true
 | _=>false
def isNil:TypeDesc→LV→Option Bool
 | .pointer _,.ptr p=>some p.isNone
 | .slice _,.sl s=>some s.p.isNone
 | .map _ _,.map r=>some r.isNone
 | _,_=>none
def boolL(b:Bool):TV:=.one (.leaf (.bool b))
def intL(k:IntKind)(n:Int):TV:=.one (.leaf (.int k n))
def nilFits:TypeDesc→Operand→Bool
 | .pointer _,.const (.pointer none)=>true
 | .slice _,.const (.slice none 0 0)=>true
 | .map _ _,.const (.map none)=>true
 | _,_=>false
def nilEq(P:Program)(op:BinOp)(t:TypeId)(c:Operand)(l:LV):Option TV:=
 match P.underlying t with
 | some d=>if nilFits d c then match op,isNil d l with
  | .eql,some b=>some (boolL b)
  | .neq,some b=>some (boolL (!b))
  | _,_=>none
  else none
 | none=>none
def bin0(P:Program)(e:Env)(op:BinOp)(t:TypeId)(x y:Operand):Option TV:=
 if nilC y then (rdL e x).bind (nilEq P op t y)
 else if nilC x then (rdL e y).bind (nilEq P op t x)
 else match op,rdL e x,rdL e y with
  | .shl,some (.int k a),some (.int _ b)=>if litNat y then some (intL k (shlI k a b)) else none
  | .shr,some (.int k a),some (.int _ b)=>if litNat y then some (intL k (shrI k a b)) else none
  | .quo,some (.int k a),some (.int j b)=>if k=j then if litNZ y then some (intL k (k.wrap (a.tdiv b))) else none else none
  | .rem,some (.int k a),some (.int j b)=>if k=j then if litNZ y then some (intL k (a.tmod b)) else none else none
  | op,some (.int k a),some (.int j b)=>if k=j then (arI op k a b).map fun l=>.one (.leaf l) else none
  | op,some (.str a),some (.str b)=>(stI op a b).map fun l=>.one (.leaf l)
  | _,_,_=>none
def mxI(x y:Int):Int:=if x<y then y else x
def mnI(x y:Int):Int:=if y<x then y else x
def foldI(f:Int→Int→Int)(k:IntKind):Int→List AV→Option Int
 | x,[]=>some x
 | x,.leaf (.int j y)::r=>if k=j then foldI f k (f x y) r else none
 | _,_=>none
def built0(P:Program)(b:Builtin)(ts:List TypeId)(args:List AV):Option TV:=
 match b,ts,args with
 | .len,[t],[.leaf (.sl s)]=>match P.underlying t with
  | some (.slice _)=>some (intL .i64 s.len)
  | _=>none
 | .len,[t],[.leaf (.str l)]=>match P.underlying t with
  | some .string=>some (intL .i64 l.length)
  | _=>none
 | .cap,[t],[.leaf (.sl s)]=>match P.underlying t with
  | some (.slice _)=>some (intL .i64 s.cap)
  | _=>none
 | .max,_,.leaf (.int k x)::r=>(foldI mxI k x r).map (intL k)
 | .min,_,.leaf (.int k x)::r=>(foldI mnI k x r).map (intL k)
 | _,_,_=>none
def nth{α:Type}:List α→Nat→Option α
 | [],_=>none
 | x::_,0=>some x
 | _::r,n+1=>nth r n
def fieldT(P:Program)(s:TypeId)(f:Nat):Option Field:=
 match P.underlying s with
 | some (.struct fs)=>nth fs.toList f
 | _=>none
def lay(l:List LV)(off:Nat)(cs:List LV):List LV:=l.take off++cs++l.drop (off+cs.length)
def layAll(g:Nat→Option (Nat×Nat))(e:Env):List LV→List (Nat×Operand)→Option (List LV)
 | z,[]=>some z
 | z,(i,x)::r=>match g i,rdA e x with
  | some (off,n),some v=>if v.leaves.length=n then if off+n≤z.length then layAll g e (lay z off v.leaves) r else none else none
  | _,_=>none
def partLeaves(e:Env):List (Nat×Operand)→List LV
 | []=>[]
 | (_,x)::r=>match rdA e x with
  | some v=>v.leaves++partLeaves e r
  | none=>partLeaves e r
def placesT(P:Program)(fs:List Field):Option (List (Nat×Nat)):=fs.mapM fun f=>(P.info? f.type).map fun i=>(f.offset,i.size)
def buildW(P:Program)(e:Env)(t:TypeId)(parts:List (Nat×Operand)):Option (List LV):=
 match P.underlying t,zeroT P t with
 | some (.struct fs),some z=>match placesT P fs.toList with
  | some pl=>layAll (nth pl) e z parts
  | none=>none
 | some (.array _ el),some z=>match szT P el with
  | some n=>layAll (fun i=>some (i*n,n)) e z parts
  | none=>none
 | _,_=>none
def addO(o:Nat):Nat→Nat
 | 0=>o
 | n+1=>o+(n+1)
def pu0(P:Program)(e:Env):Op→Option TV
 | .move x=>rd e x
 | .assign x=>rd e x
 | .pick c a b=>match rdL e c with
  | some (.lit true)=>rd e a
  | some (.lit false)=>rd e b
  | some (.bool x)=>match rdL e a,rdL e b with
   | some a',some b'=>match a'.as .bool,b'.as .bool with
    | some p,some q=>some (boolL (bif x then p else q))
    | _,_=>none
   | _,_=>none
  | _=>none
 | .binOp op t x y _=>bin0 P e op t x y
 | .unOp .not _ x=>match rdL e x with
  | some (.bool b)=>some (boolL (!b))
  | some (.lit b)=>some (.one (.leaf (.lit (!b))))
  | _=>none
 | .unOp .neg _ x=>match rdL e x with
  | some (.int k n)=>some (intL k (k.wrap (0-n)))
  | _=>none
 | .unOp .xor _ x=>match rdL e x with
  | some (.int k n)=>some (intL k (bitI .xor k (if k.signed then -1 else k.max) n))
  | _=>none
 | .call {callee:=.builtin b,args:=args,argTypes:=ts}=>match rdAs e args.toList with
  | some l=>built0 P b ts.toList l
  | none=>none
 | .fieldAddr s x f=>match rdL e x,fieldT P s f with
  | some (.ptr (some (b,o))),some fd=>match szT P fd.type with
   | some (_+1)=>some (.one (.leaf (.ptr (some (b,addO o fd.offset)))))
   | _=>none
  | _,_=>none
 | .field s x f=>match rdA e x,fieldT P s f with
  | some (.agg l),some fd=>match shT P fd.type with
   | some (.leaf _)=>(nth l fd.offset).map fun x=>.one (.leaf x)
   | some (.agg ks)=>if fd.offset+ks.length≤l.length then some (.one (.agg ((l.drop fd.offset).take ks.length))) else none
   | none=>none
  | _,_=>none
 | .extract x i=>match rd e x with
  | some (.tup l)=>(nth l i).map .one
  | _=>none
 | .makeFunc fn a c=>match rdAs e a.toList,rdAs e c.toList with
  | some a',some c'=>some (.one (.leaf (.val (.func fn (a'.map AV.toV).toArray (c'.map AV.toV).toArray))))
  | _,_=>none
 | .convert s d x=>match P.underlying s,P.underlying d,rdL e x with
  | some (.int _),some (.int k),some (.int _ n)=>some (intL k (k.wrap n))
  | some .string,some .string,some (.str l)=>some (.one (.leaf (.str l)))
  | _,_,_=>none
 | .build t parts=>match valsOf (partLeaves e parts.toList) with
  | []=>(buildW P e t parts.toList).map fun l=>.one (.agg l)
  | _=>none
 | _=>none
def pu1(P:Program)(e:Env)(op:Op)(k:TV→Prop):Option Prop:=
 match op with
 | .nilCheck x=>match rdL e x with
  | some (.ptr p)=>some (dr p fun b o=>k (.one (.leaf (.ptr (some (b,o))))))
  | _=>none
 | .indexAddr t x i=>match P.underlying t,rdL e x,rdL e i with
  | some (.slice el),some (.sl s),some (.int _ n)=>match szT P el with
   | some sz=>some (ix s sz n fun b o=>k (.one (.leaf (.ptr (some (b,o))))))
   | none=>none
  | some (.array len el),some (.ptr (some (b,o))),some (.int _ n)=>match szT P el with
   | some sz=>some (0≤n∧n<(len:Int)∧k (.one (.leaf (.ptr (some (b,o+n.toNat*sz))))))
   | none=>none
  | _,_,_=>none
 | .index t x i=>match P.underlying t,rdL e x,rdL e i with
  | some .string,some (.str s),some (.int _ n)=>some (sx s n fun c=>k (intL .u8 c))
  | _,_,_=>none
 | .slice t x lo hi mx=>
  let b (o:Option Operand):Option (Option Int):=match o with
   | none=>some none
   | some o=>match rdL e o with
    | some (.int _ n)=>some (some n)
    | _=>none
  match P.underlying t,rdL e x,b lo,b hi,b mx with
  | some (.slice el),some (.sl s),some lo,some hi,some mx=>match szT P el with
   | some sz=>if mx.isSome&&hi.isNone then none else some (slx s sz lo hi mx fun s'=>k (.one (.leaf (.sl s'))))
   | none=>none
  | some .string,some (.str s),some lo,some hi,some none=>some (ssx s lo hi fun s'=>k (.one (.leaf (.str s'))))
  | _,_,_,_,_=>none
 | .binOp op t x y _=>match op,rdL e x,rdL e y with
  | .quo,some (.int i a),some (.int j b)=>if i=j then some (b≠0∧k (intL i (i.wrap (a.tdiv b)))) else none
  | .rem,some (.int i a),some (.int j b)=>if i=j then some (b≠0∧k (intL i (a.tmod b))) else none
  | .shl,some (.int i a),some (.int _ b)=>some (0≤b∧k (intL i (shlI i a b)))
  | .shr,some (.int i a),some (.int _ b)=>some (0≤b∧k (intL i (shrI i a b)))
  | .add,some (.str a),some (.str b)=>some (a.length+b.length<2^62∧k (.one (.leaf (.str (a++b)))))
  | .eql,some (.val v),some (.val .nilFunc)=>match P.underlying t with
   | some (.func _ _ _)=>some (nilF v fun b=>k (boolL b))
   | _=>none
  | .neq,some (.val v),some (.val .nilFunc)=>match P.underlying t with
   | some (.func _ _ _)=>some (nilF v fun b=>k (boolL (!b)))
   | _=>none
  | _,_,_=>none
 | .build t parts=>(buildW P e t parts.toList).map fun l=>okVals (partLeaves e parts.toList) (k (.one (.agg l)))
 | _=>none
def lo1(P:Program)(e:Env)(L:(k:Kd)→Nat→Nat→(Den k→Prop)→Prop)(op:Op)(k:TV→Prop):Option Prop:=
 match op with
 | .load t x=>match rdL e x with
  | some (.ptr (some (b,o)))=>match shT P t with
   | some (.leaf kd)=>some (L kd b o fun x=>k (.one (.leaf (LV.mk kd x))))
   | some (.agg ks)=>some (go b o ks 0 [] fun l=>k (.one (.agg l)))
   | none=>none
  | _=>none
 | _=>none
where go (b o:Nat):List Kd→Nat→List LV→(List LV→Prop)→Prop
 | [],_,acc,k=>k acc.reverse
 | kd::ks,i,acc,k=>L kd b (addO o i) fun x=>go b o ks (i+1) (LV.mk kd x::acc) k
def appE(P:Program)(args:List AV)(ts:List TypeId)(w:World)(k:TV→Wp):Option Prop:=
 match args,ts with
 | [.leaf (.sl s),.leaf (.sl x)],[t,t2]=>match P.underlying t,P.underlying t2 with
  | some (.slice el),some (.slice _)=>match P.info? el,zeroT P el with
   | some i,some zs=>if zs.length=i.size then some (ap w el i.size i.bytes zs s x fun s' w'=>k (.one (.leaf (.sl s'))) w') else none
   | _,_=>none
  | _,_=>none
 | _,_=>none
def isBuiltin:Callee→Bool
 | .builtin _=>true
 | _=>false
def evE(e:Env)(x:Operand):Value:=
 match rd e x with
 | some t=>t.toV
 | none=>undef
def fbW(P:Program)(e:Env)(o:Oper)(w:World)(k:TV→Wp):Option Prop:=
 if o.op.operands.toList.all (fun x=>(rd e x).isSome) then
  match o.op,rtT P o.type with
  | .call _,some rt=>some (opF P (execOp (evE e) o) w rt (lam rt.kds fun l w'=>k (rt.mk l) w'))
  | .range _ _,_=>some (opF P (execOp (evE e) o) w (.one (.leaf .val)) (lam (RT.one (.leaf .val)).kds fun l w'=>k ((RT.one (.leaf .val)).mk l) w'))
  | .next _ _,_=>some (opNext P (execOp (evE e) o) w (fun w'=>k (.tup [.leaf (.lit false)]) w') fun a b w'=>k (.tup [.leaf (.lit true),.leaf (.val a),.leaf (.val b)]) w')
  | .entry _,_=>some (opEnt P (execOp (evE e) o) w fun a b w'=>k (.tup [.leaf (.val a),.leaf (.val b)]) w')
  | _,some (.tup [])=>some (opU P (execOp (evE e) o) w fun w'=>k (.tup []) w')
  | _,some rt=>some (opF P (execOp (evE e) o) w rt (lam rt.kds fun l w'=>k (rt.mk l) w'))
  | _,none=>none
 else none
def panK(v:Value)(w:World)(kp:List PanicEntry→Wp):Prop:=(∃t x,v = .iface t x)∧kp [{v:=v,recovered:=false}] w
def ef1(P:Program)(cs:Cs)(e:Env)(o:Oper)(w:World)(k:TV→Wp):Option Prop:=
 match o.op with
 | .alloc el=>(zeroT P el).map fun zs=>al w el zs fun b w'=>k (.one (.leaf (.ptr (some (b,0))))) w'
 | .box el x=>match rdA e x,szT P el with
  | some v,some n=>if v.leaves.length=n then some (okVals v.leaves (al w el v.leaves fun b w'=>k (.one (.leaf (.ptr (some (b,0))))) w')) else none
  | _,_=>none
 | .store t a x=>match rdL e a,rdA e x,szT P t with
  | some (.ptr (some (b,o))),some v,some n=>if v.leaves.length=n then some (okVals v.leaves (st w b o v.leaves fun w'=>k (.tup []) w')) else none
  | _,_,_=>none
 | .buildSlice t n parts=>match P.underlying t with
  | some (.slice el)=>match szT P el,zeroT P el with
   | some sz,some zs=>if zs.length=sz then if n*sz≤4096 then (layAll (fun i=>some (i*sz,sz)) e (List.replicate n zs).flatten parts.toList).map fun l=>okVals (partLeaves e parts.toList) (al w el l fun b w'=>k (.one (.leaf (.sl ⟨some (b,0),n,n⟩))) w') else none else none
   | _,_=>none
  | _=>none
 | .makeSlice t n c=>match P.underlying t,rdL e n,rdL e c with
  | some (.slice el),some (.int _ n),some (.int _ c)=>match P.info? el,zeroT P el with
   | some i,some zs=>if zs.length=i.size then some (mk w el i.bytes zs n c fun s w'=>k (.one (.leaf (.sl s))) w') else none
   | _,_=>none
  | _,_,_=>none
 | .call {callee:=.builtin .append,args:=args,argTypes:=ts}=>match rdAs e args.toList with
  | some l=>match appE P l ts.toList w k with
   | some p=>some p
   | none=>fbW P e o w k
  | none=>none
 | .call {callee:=.value (.func f),args:=args,argTypes:=_}=>match rdAs e args.toList,rtT P o.type with
  | some l,some rt=>if cs.contains f then some (if cs.x.contains f then callX P f l w rt cs.kp (lam rt.kds fun l w'=>k (rt.mk l) w') else callK P f l w rt (lam rt.kds fun l w'=>k (rt.mk l) w')) else none
  | _,_=>none
 | .call {callee:=.value g,args:=args,argTypes:=_}=>match rdL e g,rdAs e args.toList,rtT P o.type with
  | some (.val v),some l,some rt=>some (callV P v l w rt (lam rt.kds fun l w'=>k (rt.mk l) w'))
  | _,_,_=>none
 | .call {callee:=.invoke x m,args:=args,argTypes:=_}=>match rdL e x,rdAs e args.toList,rtT P o.type with
  | some (.val v),some l,some rt=>some (callI P v m l w rt (lam rt.kds fun l w'=>k (rt.mk l) w'))
  | _,_,_=>none
 | .call c=>if isBuiltin c.callee then fbW P e o w k else none
 | .go _=>none
 | .defer _=>none
 | .select _ _=>none
 | .panic x=>match rd e x with
  | some t=>some (panK t.toV w cs.kp)
  | none=>none
 | _=>fbW P e o w k
def put(e:Env)(d:Option Tmp)(t:TV):Env:=
 match d with
 | some d=>eset e d t
 | none=>e
def esetO(e:Env)(d:Option Tmp):Env:=match d with
 | some d=>eset e d (.tup [])
 | none=>e
def isValK:Kd→Bool
 | .val=>true
 | _=>false
def castW(P:Program)(e:Env)(o:Oper)(k:TV→Prop):Option Prop:=
 match o.op with
 | .extract x i=>match rd e x with
  | some (.tup l)=>match nth l i with
   | some (.leaf (.val v))=>match shT P o.type with
    | some (.leaf kd)=>bif isValK kd then none else some (castK v kd fun d=>k (.one (.leaf (.mk kd d))))
    | _=>none
   | _=>none
  | _=>none
 | _=>none
def stepW(P:Program)(cs:Cs)(e:Env)(o:Oper)(w:World)(k:TV→Wp):Prop:=
 match castW P e o fun t=>k t w with
 | some p=>p
 | none=>
 match pu0 P e o.op with
 | some t=>k t w
 | none=>match pu1 P e o.op fun t=>k t w with
  | some p=>p
  | none=>match lo1 P e (ld w) o.op fun t=>k t w with
   | some p=>p
   | none=>match ef1 P cs e o w k with
    | some p=>p
    | none=>False
def dstOf(ops:List Oper)(j:Nat):Option Tmp:=(nth ops j).bind (·.dst)
def isDefer:Op→Bool
 | .defer _=>true
 | _=>false
def runOps(P:Program)(cs:Cs)(all:List Oper):List Oper→Env→World→(Env→Wp)→Prop
 | [],e,w,k=>k e w
 | o::r,e,w,k=>if isDefer o.op then
   match o.guard,o.op,e.marks with
   | none,.defer {callee:=.value (.func f),args:=args,argTypes:=_},[]=>match rdAs e args.toList with
    | some l=>if cs.contains f then runOps P cs all r (esetO ⟨e.t,e.n,(f,l,[])::e.calls,[]⟩ o.dst) w k else False
    | none=>False
   | none,.defer {callee:=.value g,args:=args,argTypes:=_},[]=>match rdL e g,rdAs e args.toList with
    | some (.val (.func (.func f) ⟨[]⟩ ⟨c⟩)),some l=>runOps P cs all r (esetO ⟨e.t,e.n,(f,l,c)::e.calls,[]⟩ o.dst) w k
    | _,_=>False
   | _,_,_=>False
  else match o.guard with
  | none=>stepW P cs e o w fun t w'=>runOps P cs all r (put e o.dst t) w' k
  | some (j,want)=>match dstOf all j with
   | none=>False
   | some d=>match eget e d with
    | some (.one (.leaf (.lit b)))=>if b==want then stepW P cs e o w fun t w'=>runOps P cs all r (put e o.dst t) w' k else runOps P cs all r (esetO e o.dst) w k
    | some (.tup [])=>runOps P cs all r (esetO e o.dst) w k
    | some (.one (.leaf (.bool x)))=>
     ifK x
      (if want then stepW P cs (eset e d (.one (.leaf (.lit true)))) o w fun t w'=>runOps P cs all r (put (eset e d (.one (.leaf (.lit true)))) o.dst t) w' k
       else runOps P cs all r (esetO (eset e d (.one (.leaf (.lit true)))) o.dst) w k)
      (if want then runOps P cs all r (esetO (eset e d (.one (.leaf (.lit false)))) o.dst) w k
       else stepW P cs (eset e d (.one (.leaf (.lit false)))) o w fun t w'=>runOps P cs all r (put (eset e d (.one (.leaf (.lit false)))) o.dst t) w' k)
    | _=>False
inductive Slot where
 | tmp (t:Nat) (s:Sh)
 | marks
abbrev Slots:=List Slot
def slotKds:Slots→List Kd
 | []=>[]
 | .tmp _ s::r=>s.kds++slotKds r
 | .marks::r=>.marks::slotKds r
def hasMarks:Slots→Bool
 | []=>false
 | .tmp _ _::r=>hasMarks r
 | .marks::_=>true
def collect:Slots→Env→Option (List LV)
 | [],_=>some []
 | .tmp t s::r,e=>match s,eget e t,collect r e with
  | .leaf _,some (.one (.leaf x)),some l=>some (x::l)
  | .agg ks,some (.one (.agg xs)),some l=>if xs.length=ks.length then some (xs++l) else none
  | _,_,_=>none
 | .marks::r,e=>match collect r e with
  | some l=>some (.marks e.marks::l)
  | none=>none
def rebuild:Slots→List LV→Env→Env
 | [],_,e=>e
 | .tmp t (.leaf _)::r,x::l,e=>rebuild r l (eset e t (.one (.leaf x)))
 | .tmp _ (.leaf _)::_,[],e=>e
 | .tmp t (.agg ks)::r,l,e=>rebuild r (l.drop ks.length) (eset e t (.one (.agg (l.take ks.length))))
 | .marks::r,.marks m::l,e=>rebuild r l ⟨e.t,e.n,e.calls,m⟩
 | .marks::_,_,e=>e
def keepT(l:List (Nat×TV)):List Nat→List (Nat×TV)
 | []=>[]
 | k::r=>match lget l k with
  | some v=>(k,v)::keepT l r
  | none=>keepT l r
def keep(ks:List Nat)(e:Env):Env:=⟨keepT e.t ks,e.n,e.calls,e.marks⟩
def dstsO:List Oper→List Nat
 | []=>[]
 | o::r=>match o.dst with
  | some d=>d::dstsO r
  | none=>dstsO r
def dsts:Code→List Nat
 | .region _ ops _=>dstsO ops.toList
 | .seq a b=>dsts a++dsts b
 | .cond _ a b=>dsts a++dsts b
 | .block _ a=>dsts a
 | .loop a=>dsts a
 | .scope a=>dsts a
 | _=>[]
def rngC:Code→Bool
 | .seq a b=>rngC a||rngC b
 | .cond _ a b=>rngC a||rngC b
 | .block _ a=>rngC a
 | .loop a=>rngC a
 | .scope a=>rngC a
 | .rangeFunc _ _ _ _=>true
 | _=>false
def defC:Code→Bool
 | .region _ ops _=>ops.toList.any fun o=>isDefer o.op
 | .seq a b=>defC a||defC b
 | .cond _ a b=>defC a||defC b
 | .block _ a=>defC a
 | .loop a=>defC a
 | .scope a=>defC a
 | _=>false
def joinOk(sl:Slots)(ks:List Nat)(c:Code):Bool:=!defC c&&(!rngC c||hasMarks sl)&&(let ds:=dsts c;ks.all fun k=>!ds.contains k)
def jmps:Code→List (Option Nat)
 | .seq a b=>let x:=jmps a;x++(jmps b).filter fun j=>!x.contains j
 | .cond _ a b=>let x:=jmps a;x++(jmps b).filter fun j=>!x.contains j
 | .block i a=>(jmps a).filter fun j=>j != some i
 | .loop a=>jmps a
 | .scope a=>jmps a
 | .rangeFunc _ _ _ b=>jmps b
 | .exit i=>[some i]
 | .ret=>[none]
 | _=>[]
def idxOf(j:Option Nat):List (Option Nat)→Nat
 | []=>0
 | x::r=>if x==j then 0 else idxOf j r+1
inductive Pl where
 | done
 | take (i:Nat) (r:Pl)
 | now (i:Nat) (r:Pl)
 | eff (i:Nat) (r:Pl)
 | two (i:Nat) (p:Pl) (j:Nat) (q:Pl)
 | three (i:Nat) (p:Pl) (j:Nat) (q:Pl) (l:Nat) (r:Pl)
 | last (i:Nat)
 | split (i:Nat) (p q:Pl)
inductive Ann where
 | nil
 | mk (join:Option Slots) (loop:Slots) (keep:List Nat) (plan:Pl) (a b:Ann)
 | range (ss:List Sh) (a b:Ann)
def Ann.join:Ann→Option Slots
 | .nil=>none
 | .mk j _ _ _ _ _=>j
 | .range _ _ _=>none
def Ann.loop:Ann→Slots
 | .nil=>[]
 | .mk _ l _ _ _ _=>l
 | .range _ _ _=>[]
def Ann.plan:Ann→Pl
 | .nil=>.done
 | .mk _ _ _ p _ _=>p
 | .range _ _ _=>.done
def Ann.fst:Ann→Ann
 | .nil=>.nil
 | .mk _ _ _ _ a _=>a
 | .range _ a _=>a
def Ann.snd:Ann→Ann
 | .nil=>.nil
 | .mk _ _ _ _ _ b=>b
 | .range _ _ b=>b
def Ann.keeps:Ann→List Nat
 | .mk _ _ k _ _ _=>k
 | _=>[]
def Ann.rng:Ann→List Sh
 | .range ss _ _=>ss
 | _=>[]
def meet(sl:Slots)(k:Fn (slotKds sl) (Wp))(e:Env)(w:World):Prop:=
 match collect sl e with
 | some l=>app noW (slotKds sl) k l w
 | none=>False
def withJ(j:Option Slots)(ks:List Nat)(c:Code)(e:Env)(kn:Env→Wp)(A:(Env→Wp)→Prop):Prop:=
 match j with
 | none=>A kn
 | some sl=>if joinOk sl ks c then joinK (slotKds sl) (fun k=>A (meet sl k)) (lam (slotKds sl) fun l w=>kn (rebuild sl l (keep ks e)) w) else False
def bnth:List Bool→Nat→Bool
 | [],_=>false
 | x::_,0=>x
 | _::r,n+1=>bnth r n
def bset:List Bool→Nat→List Bool
 | [],_=>[]
 | _::r,0=>true::r
 | x::r,n+1=>x::bset r n
def waitsB(o:Oper)(i:Nat):Bool:=o.after.toList.any fun e=>Region.binds .any e&&e.on==i
def rdyO(ls:List Bool)(o:Oper):Bool:=o.after.toList.all fun e=>!Region.binds .any e||bnth ls e.on
def rdyB(ops:List Oper)(ls:List Bool)(i:Nat):Bool:=!bnth ls i&&match nth ops i with
 | some o=>rdyO ls o
 | none=>false
def onlyB(l:List Nat):List Bool→List Oper→Nat→List Bool→Bool
 | ls,o::r,i,b::bs=>(b||l.contains i||!rdyO ls o)&&onlyB l ls r (i+1) bs
 | _,[],_,[]=>true
 | _,_,_,_=>false
def waitsAll(ops:List Oper)(o:Oper)(i:Nat):Bool:=(List.range ops.length).all fun j=>j==i||waitsB o j||(List.range ops.length).any fun m=>waitsB o m&&match nth ops m with
 | some x=>waitsB x j
 | none=>false
def pairOk(ops:List Oper)(i:Nat)(o:Oper):Nat→List Oper→Bool
 | _,[]=>true
 | j,x::r=>(i==j||waitsB x i||waitsB o j||o.apart ops.toArray x)&&pairOk ops i o (j+1) r
def pairsOk(ops:List Oper):Nat→List Oper→Bool
 | _,[]=>true
 | i,o::r=>pairOk ops i o 0 ops&&pairsOk ops (i+1) r
def isSelect:Op→Bool
 | .select _ _=>true
 | _=>false
def wantW(ops:List Oper)(e:Env)(o:Oper):Option Bool:=
 match o.guard with
 | none=>some true
 | some (j,want)=>match dstOf ops j with
  | some d=>match eget e d with
   | some (.one (.leaf (.lit b)))=>some (b==want)
   | some (.tup [])=>some false
   | _=>none
  | none=>none
def takeW(P:Program)(D:Nat→Prop)(w0:World)(e:Env)(o:Oper)(k:TV→Prop):Prop:=
 match pu0 P e o.op with
 | some t=>k t
 | none=>match pu1 P e o.op k with
  | some p=>p
  | none=>match lo1 P e (ldD D w0) o.op k with
   | some p=>p
   | none=>False
def nowW(P:Program)(w:World)(e:Env)(o:Oper)(k:TV→Prop):Prop:=
 match pu0 P e o.op with
 | some t=>k t
 | none=>match pu1 P e o.op k with
  | some p=>p
  | none=>match lo1 P e (ld w) o.op k with
   | some p=>p
   | none=>False
def effW(P:Program)(cs:Cs)(ops:List Oper)(D:Nat→Prop)(w0:World)(ls:List Bool)(e:Env)(w:World)(i:Nat)(k:List Bool→Env→Wp):Prop:=
 match nth ops i with
 | none=>False
 | some o=>match wantW ops e o with
  | some true=>match ef1 P cs e o w fun t w'=>Mod D w0 w'∧k (bset ls i) (put e o.dst t) w' with
   | some p=>p
   | none=>False
  | some false=>k (bset ls i) (esetO e o.dst) w
  | none=>False
def dRun(P:Program)(cs:Cs)(ops:List Oper)(D:Nat→Prop)(w0:World):Pl→List Bool→Env→World→(Env→Wp)→Prop
 | .done,ls,e,w,k=>if ls.all id then k e w else False
 | .take i r,ls,e,w,k=>if rdyB ops ls i then
   match nth ops i with
   | none=>False
   | some o=>match wantW ops e o with
    | some true=>takeW P D w0 e o fun t=>dRun P cs ops D w0 r (bset ls i) (put e o.dst t) w k
    | some false=>dRun P cs ops D w0 r (bset ls i) (esetO e o.dst) w k
    | none=>False
  else False
 | .now i r,ls,e,w,k=>if rdyB ops ls i&&onlyB [i] ls ops 0 ls then
   match nth ops i with
   | none=>False
   | some o=>match wantW ops e o with
    | some true=>nowW P w e o fun t=>dRun P cs ops D w0 r (bset ls i) (put e o.dst t) w k
    | some false=>dRun P cs ops D w0 r (bset ls i) (esetO e o.dst) w k
    | none=>False
  else False
 | .eff i r,ls,e,w,k=>if rdyB ops ls i&&onlyB [i] ls ops 0 ls then effW P cs ops D w0 ls e w i fun ls e w=>dRun P cs ops D w0 r ls e w k else False
 | .two i p j q,ls,e,w,k=>if rdyB ops ls i&&onlyB [i,j] ls ops 0 ls then
   (effW P cs ops D w0 ls e w i fun ls e w=>dRun P cs ops D w0 p ls e w k)∧(effW P cs ops D w0 ls e w j fun ls e w=>dRun P cs ops D w0 q ls e w k) else False
 | .three i p j q l r,ls,e,w,k=>if rdyB ops ls i&&onlyB [i,j,l] ls ops 0 ls then
   (effW P cs ops D w0 ls e w i fun ls e w=>dRun P cs ops D w0 p ls e w k)∧(effW P cs ops D w0 ls e w j fun ls e w=>dRun P cs ops D w0 q ls e w k)∧(effW P cs ops D w0 ls e w l fun ls e w=>dRun P cs ops D w0 r ls e w k) else False
 | .last i,ls,e,w,k=>if rdyB ops ls i&&onlyB [i] ls ops 0 ls&&(bset ls i).all id then
   match nth ops i with
   | none=>False
   | some o=>if waitsAll ops o i then
     match wantW ops e o with
     | some true=>match ef1 P cs e o w fun t w'=>k (put e o.dst t) w' with
      | some p=>p
      | none=>False
     | some false=>k (esetO e o.dst) w
     | none=>False
    else False
  else False
 | .split i p q,ls,e,w,k=>match dstOf ops i with
  | some d=>match eget e d with
   | some (.one (.leaf (.bool x)))=>ifK x (dRun P cs ops D w0 p ls (eset e d (.one (.leaf (.lit true)))) w k) (dRun P cs ops D w0 q ls (eset e d (.one (.leaf (.lit false)))) w k)
   | _=>False
  | none=>False
def setPs:List Tmp→List AV→Env→Env
 | t::ts,v::vs,e=>setPs ts vs (eset e t (.one v))
 | _,_,e=>e
def W(P:Program)(cs:Cs)(ro:Option Nat):Code→Ann→Env→World→(Env→Wp)→(Nat→Env→Wp)→(Env→Wp)→Prop
 | .skip,_,e,w,kn,_,_=>kn e w
 | .label _,_,e,w,kn,_,_=>kn e w
 | .region i ops false,n,e,w,kn,_,_=>if ro.isSome&&defC (.region i ops false) then False else
   withJ n.join n.keeps (.region i ops false) e kn fun kn=>runOps P cs ops.toList ops.toList e w kn
 | .region i ops true,n,e,w,kn,_,_=>if pairsOk ops.toList 0 ops.toList&&ops.toList.all (fun o=>!isSelect o.op&&!isDefer o.op) then
   withJ n.join n.keeps (.region i ops true) e kn fun kn=>drawK w fun D w=>dRun P cs ops.toList D w n.plan (ops.toList.map fun _=>false) e w kn
  else False
 | .seq a b,n,e,w,kn,kx,kr=>withJ n.join n.keeps (.seq a b) e kn fun kn=>W P cs ro a n.fst e w (fun e w=>W P cs ro b n.snd e w kn kx kr) kx kr
 | .cond c a b,n,e,w,kn,kx,kr=>withJ n.join n.keeps (.cond c a b) e kn fun kn=>match rdL e c with
  | some (.lit true)=>W P cs ro a n.fst e w kn kx kr
  | some (.lit false)=>W P cs ro b n.snd e w kn kx kr
  | some (.bool x)=>ifK x (W P cs ro a n.fst e w kn kx kr) (W P cs ro b n.snd e w kn kx kr)
  | _=>False
 | .block i c,n,e,w,kn,kx,kr=>withJ n.join n.keeps (.block i c) e kn fun kn=>W P cs ro c n.fst e w kn (fun j e w=>if j=i then kn e w else kx j e w) kr
 | .scope c,n,e,w,kn,kx,kr=>withJ n.join n.keeps (.scope c) e kn fun kn=>W P cs ro c n.fst e w kn kx kr
 | .loop c,n,e,w,_,kx,kr=>if joinOk n.loop n.keeps c then match collect n.loop e with
   | some l=>loopL (slotKds n.loop) (lam (slotKds n.loop) fun l w again=>W P cs ro c n.fst (rebuild n.loop l (keep n.keeps e)) w (meet n.loop again) kx kr) l w
   | none=>False
  else False
 | .rangeFunc g ps asg body,n,e,w,kn,kx,kr=>match rdL e g with
  | some (.val v)=>if n.rng.length==ps.size then
    rangeK P n.rng v ro w
     (fun rc=>lam (kdsOf n.rng) fun l w beg next leave=>
      W P cs.calm (some rc) asg n.fst (setPs ps.toList (mkAVs n.rng l) ⟨e.t,e.n,[],[]⟩) w
       (fun e1 w1=>beg w1 fun w2=>W P cs.calm (some rc) body n.snd e1 w2 (fun _ w=>next w) (fun i _ w=>leave (idxOf (some i) (jmps body)) w) (fun _ w=>leave (idxOf none (jmps body)) w))
       (fun _ _ _=>False) (fun _ _=>False))
     (fun r w'=>kn ⟨e.t,e.n,e.calls,match ro with | none=>r::e.marks | some _=>e.marks⟩ w')
     ((jmps body).map fun j r w'=>match j with
      | none=>kr ⟨e.t,e.n,e.calls,match ro with | none=>r::e.marks | some _=>e.marks⟩ w'
      | some i=>kx i ⟨e.t,e.n,e.calls,match ro with | none=>r::e.marks | some _=>e.marks⟩ w')
   else False
  | _=>False
 | .exit i,_,e,w,_,kx,_=>kx i e w
 | .ret,_,e,w,_,_,kr=>kr e w
 | _,_,_,_,_,_,_=>False
def results1(P:Program)(e:Env)(w:World):List ResultVar→List TV→(List TV→Prop)→Prop
 | [],acc,k=>k acc.reverse
 | .tmp t::r,acc,k=>match eget e t with
  | some v=>results1 P e w r (v::acc) k
  | none=>False
 | .cell a t::r,acc,k=>match lo1 P e (ld w) (.load t (.tmp a)) fun v=>results1 P e w r (v::acc) k with
  | some p=>p
  | none=>False
def onesOf:List TV→Option (List AV)
 | []=>some []
 | .one x::r=>(onesOf r).map fun l=>x::l
 | .tup _::_=>none
def fitL:List Sh→List AV→Option (List LV)
 | [],[]=>some []
 | .leaf _::ss,.leaf x::r=>(fitL ss r).map fun l=>x::l
 | .agg ks::ss,.agg xs::r=>if xs.length=ks.length then (fitL ss r).map fun l=>xs++l else none
 | _,_=>none
def fitR(rt:RT)(vs:List TV):Option (List LV):=
 match onesOf vs with
 | none=>none
 | some xs=>match rt,xs with
  | .one s,[x]=>fitL [s] [x]
  | .one _,_=>none
  | .tup _,[_]=>none
  | .tup ss,xs=>fitL ss xs
def retW(P:Program)(fn:Func)(rt:RT)(K:Fn rt.kds (Wp))(e:Env)(w:World):Prop:=
 callsK P e.calls w fun w=>closeK e.marks w fun w=>results1 P e w fn.results.toList [] fun vs=>match fitR rt vs with
  | some l=>app noW rt.kds K l w
  | none=>False
def args0:Nat→List AV→List (Nat×TV)
 | _,[]=>[]
 | i,v::r=>(i,.one v)::args0 (i+1) r
def env0(n:Nat)(args:List AV):Env:=⟨args0 0 args,n,[],[]⟩
def WF(P:Program)(cs:Cs)(fn:Func)(n:Ann)(rt:RT)(args:List AV)(K:Fn rt.kds (Wp))(w:World):Prop:=
 match fn.body with
 | some c=>if args.length≤fn.ntmps&&!(rngC c&&defC c) then W P cs.calm none c n (env0 fn.ntmps args) w (retW P fn rt K) (fun _ _ _=>False) (retW P fn rt K) else False
 | none=>False
end Go.Vw
namespace Go.Vw
variable {P:Program}
def dfOf(e:Env):List Deferred:=(e.marks.map fun r=>{target:=.collected r,args:=#[]})++e.calls.map fun c=>{target:=.fn (.func c.1) ⟨c.2.2⟩,args:=(c.2.1.map AV.toV).toArray}
structure Sim(e:Env)(a:Act):Prop where
 size:a.tmps.size=e.n
 get:∀t v,eget e t=some v→a.tmps[t]? = some v.toV
 dfs:a.defers=dfOf e
theorem lget_cons(i:Nat)(v:TV)(r:List (Nat×TV))(t:Nat):lget ((i,v)::r) t=if i=t then some v else lget r t:=by
 simp only [lget];by_cases h:i=t
 ·subst h;simp
 ·have:Nat.beq i t=false:=by
   cases hb:Nat.beq i t with
   | false=>rfl
   | true=>exact absurd (Nat.eq_of_beq_eq_true hb) h
  simp [this,h]
theorem eget_eset(e:Env)(d:Nat)(v:TV)(t:Nat):eget (eset e d v) t=if d<e.n then (if d=t then some v else eget e t) else eget e t:=by
 unfold eget eset;by_cases h:d<e.n
 ·have:Nat.blt d e.n=true:=by rw [Nat.blt_eq];exact h
  simp [this,h,lget_cons]
 ·have:Nat.blt d e.n=false:=by
   cases hb:Nat.blt d e.n with
   | false=>rfl
   | true=>rw [Nat.blt_eq] at hb;exact absurd hb h
  simp [this,h]
theorem Sim.set{e:Env}{a:Act}(h:Sim e a)(d:Nat)(t:TV):Sim (eset e d t) {a with tmps:=a.tmps.setIfInBounds d t.toV}:=by
 refine⟨by simp [eset,h.size],fun m v hv=>?_,h.dfs⟩;rw [eget_eset] at hv;by_cases hd:d<e.n
 ·rw [if_pos hd] at hv;by_cases hm:d=m
  ·subst hm;rw [if_pos rfl] at hv;cases hv;simp [Array.getElem?_setIfInBounds,h.size,hd]
  ·rw [if_neg hm] at hv;have:=h.get m v hv;simp [Array.getElem?_setIfInBounds,hm,this]
 ·rw [if_neg hd] at hv;have:=h.get m v hv;have hlt:m<a.tmps.size:=(Array.getElem?_eq_some_iff.1 this).1;have hm:d≠m:=by intro e';subst e';rw [h.size] at hlt;exact hd hlt
  simp [Array.getElem?_setIfInBounds,hm,this]
theorem Sim.learn{e:Env}{a:Act}(h:Sim e a){d:Nat}{t:TV}(ht:a.tmps[d]? = some t.toV):Sim (eset e d t) a:=by
 refine⟨by simp [eset,h.size],fun m v hv=>?_,h.dfs⟩;rw [eget_eset] at hv;split at hv
 ·split at hv
  ·rename_i hm;subst hm;cases hv;exact ht
  ·exact h.get m v hv
 ·exact h.get m v hv
theorem Sim.retell{e:Env}{a:Act}(h:Sim e a){d:Nat}{s t:TV}(hs:eget e d=some s)(ht:t.toV=s.toV):Sim (eset e d t) a:=
 h.learn (by rw [ht];exact h.get d s hs)
theorem Sim.put{e:Env}{a:Act}(h:Sim e a)(d:Option Tmp)(t:TV):Sim (put e d t) (a.put d t.toV):=by
 cases d with
 | none=>exact h
 | some d=>exact h.set d t
theorem Sim.putO{e:Env}{a:Act}(h:Sim e a)(d:Option Tmp):Sim (esetO e d) (a.put d undef):=by
 cases d with
 | none=>exact h
 | some d=>exact h.set d (.tup [])
theorem ofLV_toV(v:Value):(ofLV v).toV=v:=by
 cases v with
 | pointer a=>cases a<;>rfl
 | slice a n c=>cases a<;>rfl
 | string s=>rfl
 | _=>rfl
theorem ofV_toV(v:Value):(ofV v).toV=v:=by
 have key:∀vs:Array Value,(vs.toList.map ofLV).map LV.toV=vs.toList:=fun vs=>by
  rw [List.map_map];exact (List.map_congr_left fun x _=>ofLV_toV x).trans (List.map_id _)
 cases v with
 | agg vs=>simp [ofV,TV.toV,AV.toV,key vs]
 | pointer a=>cases a<;>rfl
 | slice a n c=>cases a<;>rfl
 | string s=>rfl
 | _=>rfl
theorem rd_sound{e:Env}{a:Act}(h:Sim e a){x:Operand}{t:TV}(hr:rd e x=some t):a.eval x=t.toV:=by
 cases x with
 | tmp n=>simp [Act.eval,Array.getD_eq_getD_getElem?,h.get n t hr]
 | const v=>simp [rd] at hr;subst hr;simp [Act.eval,ofV_toV]
 | global g=>simp [rd] at hr;subst hr;rfl
 | func f=>simp [rd] at hr;subst hr;rfl
theorem Rq{e:Env}{a:Act}(h:Sim e a){x:Operand}{l:LV}(hr:rdL e x=some l):a.eval x=l.toV:=by
 unfold rdL at hr;split at hr
 ·rename_i y hy;cases hr;exact rd_sound h hy
 ·cases hr
theorem rdA_sound{e:Env}{a:Act}(h:Sim e a){x:Operand}{v:AV}(hr:rdA e x=some v):a.eval x=v.toV:=by
 unfold rdA at hr;split at hr
 ·rename_i y hy;cases hr;exact rd_sound h hy
 ·cases hr
theorem rdAs_sound{e:Env}{a:Act}(h:Sim e a):∀{xs:List Operand} {vs:List AV},rdAs e xs=some vs→xs.map a.eval=vs.map AV.toV
 | [],vs,hr=>by simp [rdAs] at hr;subst hr;rfl
 | x::r,vs,hr=>by
  unfold rdAs at hr;split at hr
  ·rename_i v l hv hl;cases hr;simp [rdA_sound h hv,rdAs_sound h hl]
  ·cases hr
theorem rdAs_array{e:Env}{a:Act}(h:Sim e a){xs:Array Operand}{vs:List AV}(hr:rdAs e xs.toList=some vs):xs.map a.eval=(vs.map AV.toV).toArray:=by
 rw [←rdAs_sound h hr];exact Array.ext' (by rw [Array.toList_map])
theorem nth_getElem?{α:Type}:∀(l:List α) (n:Nat),nth l n=l[n]?
 | [],_=>rfl
 | _::_,0=>rfl
 | _::r,n+1=>by rw [List.getElem?_cons_succ];exact nth_getElem? r n
theorem Addr.add_none(b o n:Nat):(⟨b,o,none⟩:Addr).add n=⟨b,o+n,none⟩:=by
 unfold Addr.add;split
 ·rename_i h;subst h;rfl
 ·rfl
theorem addO_eq(o n:Nat):addO o n=o+n:=by cases n<;>rfl
def Pur(P:Program)(ρ:Operand→Value)(o:Oper)(t:TV):Prop:=∀w,(execOp ρ o).run P w = .ok (.value t.toV) w
theorem run_eqGuard_int(op:BinOp)(t:TypeId)(x y:Operand)(k j:IntKind)(a b:Int)(w:World):(eqGuard op t x y (.int k a) (.int j b)).run P w = .ok () w:=by
 unfold eqGuard;cases op<;>rfl
theorem run_eqGuard_str(op:BinOp)(t:TypeId)(x y:Operand)(a b:ByteArray)(w:World):(eqGuard op t x y (.string a) (.string b)).run P w = .ok () w:=by
 unfold eqGuard;cases op<;>rfl
theorem run_binOp_arI{op:BinOp}{t:TypeId}{k:IntKind}{x y:Int}{l:LV}(h:arI op k x y=some l)(w:World):(binOp op t (.int k x) (.int k y)).run P w = .ok l.toV w:=by
 cases op<;>simp [arI] at h<;>subst h<;>simp [binOp,Op.intArith,Op.intCmp,Op.intBits,LV.toV,bitI]
theorem ba_len(l:List UInt8):(ByteArray.mk l.toArray).size=l.length:=by simp [ByteArray.size]
theorem run_binOp_stI{op:BinOp}{t:TypeId}{x y:List UInt8}{l:LV}(h:stI op x y=some l)(w:World):(binOp op t (.string ⟨x.toArray⟩) (.string ⟨y.toArray⟩)).run P w = .ok l.toV w:=by
 cases op<;>simp [stI] at h<;>subst h<;>simp [binOp,Op.stringOp,LV.toV,ByteArray.toList_mk]
theorem slA_pos{c:Nat}(h:c≠0)(p:PA):slA c p=paV p:=by
 cases p with
 | none=>rfl
 | some a=>obtain⟨b,o⟩:=a;simp [slA,paV,h]
theorem decA_even(b o:Nat):decA b (2*o)=⟨b,o,none⟩:=by
 unfold decA;rw [if_pos (by omega)];congr 1;omega
theorem slA_zero(c b:Nat):slA c (some (b,0))=some ⟨b,0,none⟩:=by
 simp only [slA];split<;>rfl
theorem dg_all:∀s y,y≤s→∃k,dg k=(s-y,y)
 | 0,0,_=>⟨0,rfl⟩
 | s+1,0,_=>by
  obtain⟨k,hk⟩:=dg_all s s (Nlr _);refine⟨k+1,?_⟩;rw [Nat.sub_self] at hk;simp only [dg,hk,Nat.sub_zero]
 | s,y+1,h=>by
  obtain⟨k,hk⟩:=dg_all s y (by omega);refine⟨k+1,?_⟩;rw [show s-y=(s-(y+1))+1 by omega] at hk;simp only [dg,hk]
termination_by s y=>(s,y)
theorem decA_all(a:Addr):∃o,decA a.block o=a:=by
 obtain⟨b,o,sp⟩:=a
 cases sp with
 | none=>exact⟨2*o,decA_even b o⟩
 | some s=>
  obtain⟨k,hk⟩:=dg_all (o+s) s (by omega);refine⟨2*k+1,?_⟩;unfold decA;rw [if_neg (by omega),show (2*k+1)/2=k by omega,hk];simp
theorem run_equalIn_nil(n:Nat){d:TypeDesc}{t:TypeId}{l:LV}{b:Bool}{c:Operand}{cv:Value}(hu:P.underlying t=some d)(hb:isNil d l=some b)
  (hf:nilFits d c=true) (hc:c = .const cv) (w:World) :
  (Op.equalIn (n+1) t l.toV cv).run P w = .ok b w∧(Op.equalIn (n+1) t cv l.toV).run P w = .ok b w:=by
 unfold isNil at hb;subst hc;split at hb
 ·rename_i el p;cases hb;unfold nilFits at hf;split at hf<;>simp_all;cases p<;>simp [Op.equalIn,run_underlying hu,LV.toV,paV]
 ·rename_i el s;cases hb;unfold nilFits at hf;split at hf<;>simp_all;obtain⟨p,n,cp⟩:=s;cases p<;>simp [Op.equalIn,run_underlying hu,LV.toV,slA]
 ·rename_i kt el r;cases hb;unfold nilFits at hf;split at hf<;>simp_all;cases r<;>simp [Op.equalIn,run_underlying hu,LV.toV]
 ·cases hb
theorem run_eqGuard_ptrl(op:BinOp)(t:TypeId)(x y:Operand)(l:LV)(v:Value)(d:TypeDesc)(b:Bool)(hb:isNil d l=some b)(w:World) :
  (eqGuard op t x y l.toV v).run P w = .ok () w∧(eqGuard op t x y v l.toV).run P w = .ok () w:=by
 unfold isNil at hb;split at hb
 ·unfold eqGuard;constructor<;>cases op<;>(try rfl)<;>cases v<;>rfl
 ·unfold eqGuard;constructor<;>cases op<;>(try rfl)<;>cases v<;>rfl
 ·unfold eqGuard;constructor<;>cases op<;>(try rfl)<;>cases v<;>rfl
 ·cases hb
theorem run_nilEq{op:BinOp}{t:TypeId}{c:Operand}{l:LV}{r:TV}{cv:Value}(h:nilEq P op t c l=some r)(hc:c = .const cv)(w:World) :
  (binOp op t l.toV cv).run P w = .ok r.toV w∧(binOp op t cv l.toV).run P w = .ok r.toV w:=by
 unfold nilEq at h;split at h
 ·rename_i d hu;split at h
  ·rename_i hf;have key:∀b,isNil d l=some b→(Op.equal t l.toV cv).run P w = .ok b w∧(Op.equal t cv l.toV).run P w = .ok b w:=fun b hb=>
    run_equalIn_nil 9999 hu hb hf hc w
   have hsh:∀b,isNil d l=some b→(∃p,l = .ptr p∧∃q,cv = .pointer q)∨(∃s,l = .sl s∧∃q n m,cv = .slice q n m)∨(∃r,l = .map r∧∃q,cv = .map q):=fun b hb=>by
    unfold isNil at hb;subst hc;unfold nilFits at hf;split at hb<;>(try cases hb)<;>split at hf<;>simp_all
   split at h
   ·rename_i b hb;cases h;obtain⟨k1,k2⟩:=key b hb;rcases hsh b hb with⟨p,rfl,q,rfl⟩ | ⟨s,rfl,q,n,m,rfl⟩ | ⟨r,rfl,q,rfl⟩
    ·simp only [LV.toV] at k1 k2 ⊢;constructor<;>simp [binOp,k1,k2,boolL,TV.toV,AV.toV,LV.toV]
    ·simp only [LV.toV] at k1 k2 ⊢;constructor<;>simp [binOp,k1,k2,boolL,TV.toV,AV.toV,LV.toV]
    ·simp only [LV.toV] at k1 k2 ⊢;constructor<;>simp [binOp,k1,k2,boolL,TV.toV,AV.toV,LV.toV]
   ·rename_i b hb;cases h;obtain⟨k1,k2⟩:=key b hb;rcases hsh b hb with⟨p,rfl,q,rfl⟩ | ⟨s,rfl,q,n,m,rfl⟩ | ⟨r,rfl,q,rfl⟩
    ·simp only [LV.toV] at k1 k2 ⊢;constructor<;>simp [binOp,k1,k2,boolL,TV.toV,AV.toV,LV.toV]
    ·simp only [LV.toV] at k1 k2 ⊢;constructor<;>simp [binOp,k1,k2,boolL,TV.toV,AV.toV,LV.toV]
    ·simp only [LV.toV] at k1 k2 ⊢;constructor<;>simp [binOp,k1,k2,boolL,TV.toV,AV.toV,LV.toV]
   ·cases h
  ·cases h
 ·cases h
theorem nilC_const{x:Operand}(h:nilC x=true):∃v,x = .const v:=by
 unfold nilC at h;split at h<;>simp_all
theorem isNil_of_nilEq{op:BinOp}{t:TypeId}{c:Operand}{l:LV}{r:TV}(h:nilEq P op t c l=some r):∃d b,isNil d l=some b:=by
 unfold nilEq at h;split at h
 ·rename_i d hu;split at h
  ·split at h
   ·rename_i b hb;exact⟨_,_,hb⟩
   ·rename_i b hb;exact⟨_,_,hb⟩
   ·cases h
  ·cases h
 ·cases h
theorem bin0_sound{e:Env}{a:Act}(hs:Sim e a){op:BinOp}{t:TypeId}{x y:Operand}{r:TV}(h:bin0 P e op t x y=some r)(w:World) :
  (do eqGuard op t x y (a.eval x) (a.eval y);binOp op t (a.eval x) (a.eval y)).run P w = .ok r.toV w:=by
 unfold bin0 at h;split at h
 ·rename_i hn;obtain⟨l,hl,h⟩:=Option.bind_eq_some_iff.1 h;obtain⟨v,rfl⟩:=nilC_const hn;obtain⟨d,b,hb⟩:=isNil_of_nilEq h;have hv:a.eval (.const v)=v:=rfl;rw [Rq hs hl,hv];simp [(run_eqGuard_ptrl op t x (.const v) l v d b hb w).1,(run_nilEq h rfl w).1]
 ·split at h
  ·rename_i hn;obtain⟨l,hl,h⟩:=Option.bind_eq_some_iff.1 h;obtain⟨v,rfl⟩:=nilC_const hn;obtain⟨d,b,hb⟩:=isNil_of_nilEq h;have hv:a.eval (.const v)=v:=rfl;rw [Rq hs hl,hv];simp [(run_eqGuard_ptrl op t (.const v) y l v d b hb w).2,(run_nilEq h rfl w).2]
  ·split at h
   ·rename_i k m j n hx hy;rw [Rq hs hx,Rq hs hy];split at h
    ·rename_i hl;cases h;have:0≤n:=by
      cases y with
      | const v=>cases v<;>simp [litNat] at hl;simp [rdL,rd,ofV,ofLV] at hy;omega
      | _=>simp [litNat] at hl
     simp [LV.toV,run_eqGuard_int,binOp,Op.shift,Int.not_lt.2 this,intL,TV.toV,AV.toV,shlI]
    ·cases h
   ·rename_i k m j n hx hy;rw [Rq hs hx,Rq hs hy];split at h
    ·rename_i hl;cases h;have:0≤n:=by
      cases y with
      | const v=>cases v<;>simp [litNat] at hl;simp [rdL,rd,ofV,ofLV] at hy;omega
      | _=>simp [litNat] at hl
     simp [LV.toV,run_eqGuard_int,binOp,Op.shift,Int.not_lt.2 this,intL,TV.toV,AV.toV,shrI]
    ·cases h
   ·rename_i k m j n hx hy;rw [Rq hs hx,Rq hs hy];split at h
    ·rename_i hk;subst hk;split at h
     ·rename_i hl;cases h;have:n≠0:=by
       cases y with
       | const v=>cases v<;>simp [litNZ] at hl;simp [rdL,rd,ofV,ofLV] at hy;omega
       | _=>simp [litNZ] at hl
      simp [LV.toV,run_eqGuard_int,binOp,Op.intDiv,this,intL,TV.toV,AV.toV]
     ·cases h
    ·cases h
   ·rename_i k m j n hx hy;rw [Rq hs hx,Rq hs hy];split at h
    ·rename_i hk;subst hk;split at h
     ·rename_i hl;cases h;have:n≠0:=by
       cases y with
       | const v=>cases v<;>simp [litNZ] at hl;simp [rdL,rd,ofV,ofLV] at hy;omega
       | _=>simp [litNZ] at hl
      simp [LV.toV,run_eqGuard_int,binOp,Op.intDiv,this,intL,TV.toV,AV.toV]
     ·cases h
    ·cases h
   ·rename_i k m j n _ _ _ _ hx hy;rw [Rq hs hx,Rq hs hy];split at h
    ·rename_i hk;subst hk;obtain⟨l,hl,rfl⟩:=Option.map_eq_some_iff.1 h;simp only [LV.toV];simp [run_eqGuard_int,run_binOp_arI hl,TV.toV,AV.toV]
    ·cases h
   ·rename_i m n hx hy;rw [Rq hs hx,Rq hs hy];obtain⟨l,hl,rfl⟩:=Option.map_eq_some_iff.1 h;simp only [LV.toV];simp [run_eqGuard_str,run_binOp_stI hl,TV.toV,AV.toV]
   ·cases h
end Go.Vw
namespace Go.Vw
variable {P:Program}
theorem execOp_call{ρ:Operand→Value}{dst:Option Tmp}{c:Call}{ty:TypeId}{pos:String}{after:Array Edge}{g:Option (Nat×Bool)}{b:Builtin}(hc:c.callee = .builtin b)(w:World) :
  (execOp ρ ⟨dst,.call c,ty,pos,after,g⟩).run P w=(builtin b c.argTypes ty (c.args.map fun | .const _=>true | _=>false) (c.args.map ρ)).run P w:=by
 simp only [execOp,resolve,hc];simp [invoke];rfl
theorem foldI_sound(f:Int→Int→Int)(g:Value→Value→Sem Value)(k:IntKind)(hg:∀x y w,(g (.int k x) (.int k y)).run P w = .ok (.int k (f x y)) w) :
  ∀(l:List AV) (x r:Int),foldI f k x l=some r→∀w,((l.map AV.toV).foldlM g (.int k x)).run P w = .ok (.int k r) w
 | [],x,r,h,w=>by simp [foldI] at h;subst h;simp
 | .leaf (.int j y)::l,x,r,h,w=>by
  simp only [foldI] at h;split at h
  ·rename_i hk;subst hk;simp only [List.map_cons,List.foldlM_cons,AV.toV,LV.toV];simp [hg,foldI_sound f g k hg l _ _ h w]
  ·cases h
 | .leaf (.bool _)::_,_,_,h,_=>by simp [foldI] at h
 | .leaf (.lit _)::_,_,_,h,_=>by simp [foldI] at h
 | .leaf (.str _)::_,_,_,h,_=>by simp [foldI] at h
 | .leaf (.ptr _)::_,_,_,h,_=>by simp [foldI] at h
 | .leaf (.sl _)::_,_,_,h,_=>by simp [foldI] at h
 | .leaf (.map _)::_,_,_,h,_=>by simp [foldI] at h
 | .leaf (.val _)::_,_,_,h,_=>by simp [foldI] at h
 | .leaf (.marks _)::_,_,_,h,_=>by simp [foldI] at h
 | .agg _::_,_,_,h,_=>by simp [foldI] at h
theorem built0_sound{b:Builtin}{ts:Array TypeId}{ty:TypeId}{cs:Array Bool}{args:List AV}{t:TV}(h:built0 P b ts.toList args=some t)(w:World) :
  (builtin b ts ty cs (args.map AV.toV).toArray).run P w = .ok (.value t.toV) w:=by
 unfold built0 at h;split at h
 ·rename_i t0 s hts;split at h
  ·rename_i el hu;cases h;have h0:ts[0]? = some t0:=by rw [←Array.getElem?_toList,hts];rfl
   simp [builtin,Builtin.len_,h0,AV.toV,LV.toV,run_underlying hu,intL,TV.toV,goInt]
  ·cases h
 ·rename_i t0 l hts;split at h
  ·rename_i hu;cases h;have h0:ts[0]? = some t0:=by rw [←Array.getElem?_toList,hts];rfl
   simp [builtin,Builtin.len_,h0,AV.toV,LV.toV,run_underlying hu,intL,TV.toV,goInt,ba_len]
  ·cases h
 ·rename_i t0 s hts;split at h
  ·rename_i el hu;cases h;have h0:ts[0]? = some t0:=by rw [←Array.getElem?_toList,hts];rfl
   simp [builtin,Builtin.cap_,h0,AV.toV,LV.toV,run_underlying hu,intL,TV.toV,goInt]
  ·cases h
 ·rename_i k x r;obtain⟨v,hv,rfl⟩:=Option.map_eq_some_iff.1 h;have:=foldI_sound (P:=P) mxI Builtin.max2 k (fun x y w=>by simp [Builtin.max2,mxI]) r x v hv w;simp only [builtin,Builtin.max_,List.map_cons,AV.toV,LV.toV];simp [this,intL,TV.toV,AV.toV,LV.toV]
 ·rename_i k x r;obtain⟨v,hv,rfl⟩:=Option.map_eq_some_iff.1 h;have:=foldI_sound (P:=P) mnI Builtin.min2 k (fun x y w=>by simp [Builtin.min2,mnI]) r x v hv w;simp only [builtin,Builtin.min_,List.map_cons,AV.toV,LV.toV];simp [this,intL,TV.toV,AV.toV,LV.toV]
 ·cases h
theorem run_sizeOf{t:TypeId}{n:Nat}(h:szT P t=some n)(w:World):(sizeOf t).run P w = .ok n w:=by
 obtain⟨i,hi,rfl⟩:=Option.map_eq_some_iff.1 h;simp [sizeOf,typeInfo,hi]
theorem run_isAgg{t:TypeId}{d:TypeDesc}(h:P.underlying t=some d)(w:World):(isAgg t).run P w = .ok (isAggD d) w:=by
 cases d<;>simp [isAgg,run_underlying h,isAggD]
theorem shT_leaf{t:TypeId}{k:Kd}(h:shT P t=some (.leaf k)):∃d,P.underlying t=some d∧isAggD d=false:=by
 unfold shT at h;split at h
 ·rename_i d hd;split at h
  ·split at h
   ·split at h<;>cases h
   ·cases h
  ·rename_i hn;exact⟨d,hd,by simpa using hn⟩
 ·cases h
theorem shT_agg{t:TypeId}{ks:List Kd}(h:shT P t=some (.agg ks)):∃d,P.underlying t=some d∧isAggD d=true∧szT P t=some ks.length:=by
 unfold shT at h;split at h
 ·rename_i d hd;split at h
  ·rename_i ha;split at h
   ·rename_i ks' n hk hn;split at h
    ·rename_i he;cases h;exact⟨d,hd,ha,by rw [hn,he]⟩
    ·cases h
   ·cases h
  ·obtain⟨k,_,hk⟩:=Option.map_eq_some_iff.1 h;cases hk
 ·cases h
theorem fieldT_spec{s:TypeId}{f:Nat}{fd:Field}(h:fieldT P s f=some fd):∃fs,P.underlying s=some (.struct fs)∧fs[f]? = some fd:=by
 unfold fieldT at h;split at h
 ·rename_i fs hu;rw [nth_getElem?] at h;exact⟨fs,hu,by rw [←Array.getElem?_toList];exact h⟩
 ·cases h
theorem leaves_cells(v:AV)(h:∀x∈valsOf v.leaves,isCell x=true):v.toV.cells=(v.leaves.map LV.toV).toArray:=by
 cases v with
 | agg l=>rfl
 | leaf x=>
  cases x with
  | val v=>
   have:=h v (by simp [AV.leaves,valsOf]);cases v<;>simp [isCell] at this<;>rfl
  | _=>rfl
theorem zipIdx_foldl_set'(off:Nat):∀(cs:List Value) (j:Nat) (z:Array Value),off+j+cs.length≤z.size →
  ((cs.zipIdx j).foldl (fun cs (x:Value×Nat)=>cs.setIfInBounds (off+x.2) x.1) z).toList=z.toList.take (off+j)++cs++z.toList.drop (off+j+cs.length)
 | [],j,z,_=>by simp
 | c::cs,j,z,h=>by
  simp only [Llc] at h;have ih:=zipIdx_foldl_set' off cs (j+1) (z.setIfInBounds (off+j) c) (by simp;omega);rw [List.zipIdx_cons,List.foldl_cons,ih];have hlt:off+j<z.toList.length:=by simp;omega
  have h1:(z.toList.set (off+j) c).take (off+(j+1))=z.toList.take (off+j)++[c]:=by
   rw [show off+(j+1)=off+j+1 by omega,List.take_add_one,List.take_set_of_le (by omega),List.getElem?_set_self hlt];rfl
  have h2:(z.toList.set (off+j) c).drop (off+(j+1)+cs.length)=z.toList.drop (off+j+(cs.length+1)):=by
   rw [List.drop_set_of_lt (by omega)];congr 1;omega
  simp only [Array.toList_setIfInBounds,h1,h2,Llc];simp
theorem zipIdx_foldl_set(off:Nat)(cs:List Value)(z:Array Value)(h:off+cs.length≤z.size) :
  (cs.toArray.zipIdx.foldl (fun cs (x:Value×Nat)=>cs.setIfInBounds (off+x.2) x.1) z).toList=z.toList.take off++cs++z.toList.drop (off+cs.length):=by
 have:=zipIdx_foldl_set' off cs 0 z (by simpa using h);rw [←Array.foldl_toList,Array.toList_zipIdx];simpa using this
theorem valsOf_append(a b:List LV):valsOf (a++b)=valsOf a++valsOf b:=by
 induction a with
 | nil=>rfl
 | cons x a ih=>cases x<;>simp [valsOf,ih]
theorem layAll_fill{e:Env}{a:Act}(hs:Sim e a)(g:Nat→Option (Nat×Nat)):∀(parts:List (Nat×Operand)) (z r:List LV),layAll g e z parts=some r →
  (∀x∈valsOf (partLeaves e parts),isCell x=true) →
  Instr.fill g (z.map LV.toV).toArray (parts.map fun (i,x)=>(i,a.eval x))=some (r.map LV.toV).toArray
 | [],z,r,h,_=>by simp [layAll] at h;subst h;rfl
 | (i,x)::rest,z,r,h,hv=>by
  simp only [layAll] at h;split at h
  ·rename_i off n v hg hx;split at h
   ·rename_i hn;split at h
    ·rename_i hle;have hpl:partLeaves e ((i,x)::rest)=v.leaves++partLeaves e rest:=by simp [partLeaves,hx]
     rw [hpl,valsOf_append] at hv;have hc:=leaves_cells v fun y hy=>hv y (Lml _ hy);have ih:=layAll_fill hs g rest _ r h fun y hy=>hv y (Lmr _ hy);simp only [List.map_cons,Instr.fill,hg,rdA_sound hs hx,hc];have hsz:((v.leaves.map LV.toV).toArray).size=n:=by simp [hn]
     rw [if_neg (by simp [hn];omega)];rw [←ih];congr 1;apply Array.ext';have:=zipIdx_foldl_set off (v.leaves.map LV.toV) (z.map LV.toV).toArray (by simp [hn];omega);rw [this];simp [lay]
    ·cases h
   ·cases h
  ·cases h
theorem zeroT_spec{t:TypeId}{z:List LV}(h:zeroT P t=some z):∃i v,P.info? t=some i∧i.zero=some v∧v.cells=(z.map LV.toV).toArray:=by
 obtain⟨v,hv,rfl⟩:=Option.map_eq_some_iff.1 h;obtain⟨i,hi,hz⟩:=Option.bind_eq_some_iff.1 hv;refine⟨i,v,hi,hz,?_⟩;apply Array.ext';rw [List.map_map];exact ((List.map_congr_left fun x _=>ofLV_toV x).trans (List.map_id _)).symm
theorem buildW_sound{e:Env}{a:Act}(hs:Sim e a){t:TypeId}{parts:Array (Nat×Operand)}{l:List LV}(h:buildW P e t parts.toList=some l)
  (hv:∀x∈valsOf (partLeaves e parts.toList),isCell x=true) (w:World):(Instr.build t (parts.map fun (i,x)=>(i,a.eval x))).run P w = .ok (.agg (l.map LV.toV).toArray) w:=by
 unfold buildW at h;split at h
 ·rename_i fs z hu hz;split at h
  ·rename_i pl hpl;obtain⟨i,v,hi,hzv,hcells⟩:=zeroT_spec hz;refine run_build w t _ _ ?_;unfold Program.built;have hpl':fs.toList.mapM (fun f=>(P.info? f.type).map fun i=>(f.offset,i.size))=some pl:=hpl;simp only [hi,hu,hzv,hpl',hcells];have:=layAll_fill hs (nth pl) parts.toList z l h hv;rw [←this];congr 1
   ·funext n;simp [nth_getElem?]
   ·simp
  ·cases h
 ·rename_i m el z hu hz;split at h
  ·rename_i n hn;obtain⟨i,v,hi,hzv,hcells⟩:=zeroT_spec hz;obtain⟨ie,hie,rfl⟩:=Option.map_eq_some_iff.1 hn;refine run_build w t _ _ ?_;unfold Program.built;simp only [hi,hu,hzv,hie,hcells];have:=layAll_fill hs (fun i=>some (i*ie.size,ie.size)) parts.toList z l h hv;rw [←this];congr 1;simp
  ·cases h
 ·cases h
theorem okVals_iff{l:List LV}{A:Prop}:okVals l A↔(∀x∈valsOf l,isCell x=true)∧A:=by
 unfold okVals
 cases h:valsOf l with
 | nil=>simp
 | cons v vs=>simp
theorem vok{ρ:Operand→Value}{o:Oper}{s:Sem Value}{t:Value}{w w':World}(he:execOp ρ o=(do pure (.value (←s))))(h:s.run P w = .ok t w'):(execOp ρ o).run P w = .ok (.value t) w':=by
 rw [he];simp [h]
theorem pu0_sound{e:Env}{a:Act}(hs:Sim e a){o:Oper}{t:TV}(h:pu0 P e o.op=some t):Pur P a.eval o t:=by
 intro w;obtain⟨dst,op,ty,pos,after,guard⟩:=o;simp only at h
 cases op with
 | move x=>simp only [pu0] at h;simp [execOp,rd_sound hs h]
 | assign x=>simp only [pu0] at h;simp [execOp,rd_sound hs h]
 | pick c x y=>
  simp only [pu0] at h;split at h
  ·rename_i hc;simp [execOp,Rq hs hc,LV.toV,asBool,rd_sound hs h]
  ·rename_i hc;simp [execOp,Rq hs hc,LV.toV,asBool,rd_sound hs h]
  ·rename_i b hc;split at h
   ·rename_i x' y' hx hy;split at h
    ·rename_i p q hp hq;cases h;have e1:x'.toV = .bool p:=(LV.as_toV hp).symm;have e2:y'.toV = .bool q:=(LV.as_toV hq).symm;simp only [execOp,Rq hs hc,Rq hs hx,Rq hs hy,e1,e2];cases b<;>simp [asBool,boolL,TV.toV,AV.toV,LV.toV]
    ·cases h
   ·cases h
  ·cases h
 | binOp op t' x y yt=>
  simp only [pu0] at h;exact vok rfl (bin0_sound hs h w)
 | unOp u t' x=>
  cases u with
  | not=>
   simp only [pu0] at h;split at h
   ·rename_i b hx;cases h;simp [execOp,Rq hs hx,LV.toV,Op.unary,boolL,TV.toV,AV.toV]
   ·rename_i b hx;cases h;simp [execOp,Rq hs hx,LV.toV,Op.unary,TV.toV,AV.toV]
   ·cases h
  | neg=>
   simp only [pu0] at h;split at h
   ·rename_i k n hx;cases h;simp [execOp,Rq hs hx,LV.toV,Op.unary,Op.intArith,intL,TV.toV,AV.toV]
   ·cases h
  | xor=>
   simp only [pu0] at h;split at h
   ·rename_i k n hx;cases h;simp [execOp,Rq hs hx,LV.toV,Op.unary,Op.intBits,intL,TV.toV,AV.toV,bitI]
   ·cases h
  | _=>simp [pu0] at h
 | call c=>
  obtain⟨callee,args,ts⟩:=c
  cases callee with
  | builtin b=>
   simp only [pu0] at h;split at h
   ·rename_i l hl;rw [execOp_call rfl];simp only [rdAs_array hs hl];exact built0_sound h w
   ·cases h
  | _=>simp [pu0] at h
 | fieldAddr s x f=>
  simp only [pu0] at h;split at h
  ·rename_i b o' fd hx hf;split at h
   ·rename_i n hn;cases h;obtain⟨fs,hu,hfd⟩:=fieldT_spec hf;refine vok rfl ?_;simp [Instr.fieldAt,run_underlying hu,hfd,Rq hs hx,LV.toV,paV,Instr.sureAddr,fieldPlace,run_sizeOf hn,Addr.add_none,TV.toV,AV.toV,addO_eq]
   ·cases h
  ·cases h
 | field s x f=>
  simp only [pu0] at h;split at h
  ·rename_i l fd hx hf;obtain⟨fs,hu,hfd⟩:=fieldT_spec hf;split at h
   ·rename_i k hk;obtain⟨y,hy,rfl⟩:=Option.map_eq_some_iff.1 h;obtain⟨d,hd,ha⟩:=shT_leaf hk;rw [nth_getElem?] at hy;refine vok rfl ?_;simp [Instr.field,run_underlying hu,hfd,rdA_sound hs hx,AV.toV,asAgg,part,run_isAgg hd,ha,hy,TV.toV]
   ·rename_i ks hk;split at h
    ·rename_i hle;cases h;obtain⟨d,hd,ha,hz⟩:=shT_agg hk;refine vok rfl ?_;simp [Instr.field,run_underlying hu,hfd,rdA_sound hs hx,AV.toV,asAgg,part,run_isAgg hd,ha,run_sizeOf hz,TV.toV,List.map_take,List.map_drop,List.take_drop]
    ·cases h
   ·cases h
  ·cases h
 | extract x i=>
  simp only [pu0] at h;split at h
  ·rename_i l hx;obtain⟨y,hy,rfl⟩:=Option.map_eq_some_iff.1 h;rw [nth_getElem?] at hy;refine vok rfl ?_;simp [Instr.extract,rd_sound hs hx,TV.toV,hy]
  ·cases h
 | makeFunc fn x c=>
  simp only [pu0] at h;split at h
  ·rename_i x' c' hx hc;cases h;refine vok rfl ?_;simp only [Instr.makeFunc,rdAs_array hs hx,rdAs_array hs hc];rfl
  ·cases h
 | convert s d x=>
  simp only [pu0] at h;split at h
  ·rename_i k k' j n hu hd hx;cases h;refine vok rfl ?_;simp [convert,run_underlying hu,run_underlying hd,Rq hs hx,LV.toV,Conv.intToInt,intL,TV.toV,AV.toV]
  ·rename_i l hu hd hx;cases h;refine vok rfl ?_;simp [convert,run_underlying hu,run_underlying hd,Rq hs hx,LV.toV,TV.toV,AV.toV]
  ·cases h
 | build t' parts=>
  simp only [pu0] at h;split at h
  ·rename_i hv;obtain⟨l,hl,rfl⟩:=Option.map_eq_some_iff.1 h;exact vok rfl (buildW_sound hs hl (by rw [hv];simp) w)
  ·cases h
 | _=>simp [pu0] at h
end Go.Vw
namespace Go.Vw
variable {P:Program}
theorem ba_extract(s:List UInt8)(l h:Nat):(ByteArray.mk s.toArray).extract l h=⟨((s.drop l).take (h-l)).toArray⟩:=by
 apply ByteArray.ext;simp [List.extract_eq_take_drop]
theorem ba_append(a b:List UInt8):(ByteArray.mk a.toArray)++(ByteArray.mk b.toArray)=⟨(a++b).toArray⟩:=by
 apply ByteArray.ext;simp
theorem run_sliceBound{k:IntKind}{n:Int}{y:Nat}{c:BoundsCode}{m:Nat}(h:(m:Int)=n)(hy:m≤y)(w:World):(Instr.sliceBound (.int k n) y c).run P w = .ok m w:=by
 subst h;have:(0:Int)≤m∧(m:Int)≤y:=⟨by omega,by omega⟩;simp [Instr.sliceBound,asIntOf,this]
def BV(o:Option Int)(v:Option Value):Prop:=match o,v with
 | none,none=>True
 | some n,some (.int _ m)=>m=n
 | _,_=>False
theorem run_sliceBounds{sl:Bool}{len cap l h m:Nat}{lo hi mx:Option Int}{vl vh vm:Option Value}(hl:BV lo vl)(hh:BV hi vh)(hm:BV mx vm)
  (el:(l:Int)=lo.getD 0) (eh:(h:Int)=hi.getD len) (em:(m:Int)=mx.getD cap) (h1:l≤h) (h2:h≤m) (h3:m≤cap) (h4:mx.isSome=true→hi.isSome=true) (w:World) :
  (Instr.sliceBounds sl len cap vl vh vm).run P w = .ok (l,h,m) w:=by
 unfold Instr.sliceBounds
 cases mx with
 | none=>
  cases vm with
  | some v=>exact hm.elim
  | none=>
   simp only [Option.getD_none] at em;have em':m=cap:=by omega
   subst em'
   cases hi with
   | none=>
    cases vh with
    | some v=>exact hh.elim
    | none=>
     simp only [Option.getD_none] at eh;have eh':h=len:=by omega
     subst eh'
     cases lo with
     | none=>
      cases vl with
      | some v=>exact hl.elim
      | none=>simp only [Option.getD_none] at el;have:l=0:=(by omega);subst this;simp
     | some n=>
      cases vl with
      | none=>exact hl.elim
      | some v=>cases v<;>first | exact hl.elim | (simp only [BV] at hl;subst hl;simp [run_sliceBound (by simpa using el) h1])
   | some q=>
    cases vh with
    | none=>exact hh.elim
    | some v=>
     cases v<;>first | exact hh.elim | skip
     simp only [BV] at hh;subst hh
     cases lo with
     | none=>
      cases vl with
      | some v=>exact hl.elim
      | none=>simp only [Option.getD_none] at el;have:l=0:=(by omega);subst this;simp [run_sliceBound (by simpa using eh) h2]
     | some n=>
      cases vl with
      | none=>exact hl.elim
      | some v=>cases v<;>first | exact hl.elim | (simp only [BV] at hl;subst hl;simp [run_sliceBound (by simpa using el) h1,run_sliceBound (by simpa using eh) h2])
 | some r=>
  cases vm with
  | none=>exact hm.elim
  | some v=>
   cases v<;>first | exact hm.elim | skip
   simp only [BV] at hm;subst hm
   cases hi with
   | none=>simp at h4
   | some q=>
    cases vh with
    | none=>exact hh.elim
    | some v=>
     cases v<;>first | exact hh.elim | skip
     simp only [BV] at hh;subst hh
     cases lo with
     | none=>
      cases vl with
      | some v=>exact hl.elim
      | none=>simp only [Option.getD_none] at el;have:l=0:=(by omega);subst this;simp [run_sliceBound (by simpa using eh) h2,run_sliceBound (by simpa using em) h3]
     | some n=>
      cases vl with
      | none=>exact hl.elim
      | some v=>cases v<;>first | exact hl.elim | (simp only [BV] at hl;subst hl;simp [run_sliceBound (by simpa using el) h1,run_sliceBound (by simpa using eh) h2,run_sliceBound (by simpa using em) h3])
theorem slA_cut(s:Sl)(sz l h m:Nat)(g1:l≤h)(g2:h≤m)(g3:m≤s.cap):slA (s.cut sz l h m).cap (s.cut sz l h m).p=if m=l then slA s.cap s.p else (slA s.cap s.p).map (·.add (l*sz)):=by
 obtain⟨p,n,c⟩:=s;simp only at g3;unfold Sl.cut;by_cases hm:m=l
 ·subst hm;simp only [if_true,Nat.sub_self];by_cases hc:c=0
  ·subst hc;simp
  ·simp only [if_neg hc]
   cases p with
   | none=>rfl
   | some x=>obtain⟨b,o⟩:=x;simp [slA,hc,decA_even]
 ·simp only [if_neg hm];have h1:m-l≠0:=by omega
  have h2:c≠0:=by omega
  cases p with
  | none=>rfl
  | some x=>obtain⟨b,o⟩:=x;simp [slA,h1,h2,Addr.add_none]
theorem BV_of{e:Env}{a:Act}(hs:Sim e a){o:Option Operand}{r:Option Int}
  (h:(match o with | none=>some none | some o=>match rdL e o with | some (.int _ n)=>some (some n) | _=>none)=some r):BV r (o.map a.eval):=by
 cases o with
 | none=>simp at h;subst h;trivial
 | some x=>
  simp only at h;split at h
  ·rename_i k n hx;cases h;simp [BV,Rq hs hx,LV.toV]
  ·cases h
theorem run_equalIn_func(n:Nat){t:TypeId}{a1 a2:Array TypeId}{a3:Bool}(hu:P.underlying t=some (.func a1 a2 a3))(w:World) :
  (Op.equalIn (n+1) t .nilFunc .nilFunc).run P w = .ok true w∧∀f q c,(Op.equalIn (n+1) t (.func f q c) .nilFunc).run P w = .ok false w:=by
 constructor
 ·simp [Op.equalIn,run_underlying hu]
 ·intro f q c;simp [Op.equalIn,run_underlying hu]
theorem run_neq_func{t:TypeId}{a1 a2:Array TypeId}{a3:Bool}(hu:P.underlying t=some (.func a1 a2 a3))(w:World)(op:BinOp)(hop:op = .eql∨op = .neq)(x y:Operand) :
  (do eqGuard op t x y .nilFunc .nilFunc;binOp op t .nilFunc .nilFunc:Sem Value).run P w = .ok (.bool (op==.eql)) w ∧
  ∀f q c,(do eqGuard op t x y (.func f q c) .nilFunc;binOp op t (.func f q c) .nilFunc:Sem Value).run P w = .ok (.bool (!(op==.eql))) w:=by
 obtain⟨h1,h2⟩:=run_equalIn_func 9999 hu w;have h1':(Op.equal t .nilFunc .nilFunc).run P w = .ok true w:=h1;have h2':∀f q c,(Op.equal t (.func f q c) .nilFunc).run P w = .ok false w:=h2;rcases hop with rfl | rfl
 ·constructor
  ·simp [eqGuard,binOp,h1']
  ·intro f q c;simp [eqGuard,binOp,h2' f q c]
 ·constructor
  ·simp [eqGuard,binOp,h1']
  ·intro f q c;simp [eqGuard,binOp,h2' f q c]
theorem pu1_sound{e:Env}{a:Act}(hs:Sim e a){o:Oper}{k:TV→Prop}{p:Prop}(h:pu1 P e o.op k=some p)(hp:p):∃t,k t∧Pur P a.eval o t:=by
 obtain⟨dst,op,ty,pos,after,guard⟩:=o;simp only at h
 cases op with
 | nilCheck x=>
  simp only [pu1] at h;split at h
  ·rename_i q hx;cases h;obtain⟨b,o',rfl,hk⟩:=hp;exact⟨_,hk,fun w=>by simp [execOp,Rq hs hx,LV.toV,paV,TV.toV,AV.toV]⟩
  ·cases h
 | indexAddr t x i=>
  simp only [pu1] at h;split at h
  ·rename_i el s kk n hu hx hi;split at h
   ·rename_i sz hsz;cases h;obtain⟨b,o',hsp,hcz,h0,h1,hk⟩:=hp;refine⟨_,hk,fun w=>vok rfl ?_⟩;obtain⟨sp,sn,sc⟩:=s;simp only at hsp h1 hcz;subst hsp;rw [Rq hs hx,Rq hs hi];simp [LV.toV,paV,slA,hcz,Instr.indexAt,run_underlying hu,asIntOf,h0,h1,run_sizeOf hsz,Addr.add_none,TV.toV,AV.toV]
   ·cases h
  ·rename_i len el b o' kk n hu hx hi;split at h
   ·rename_i sz hsz;cases h;obtain⟨h0,h1,hk⟩:=hp;refine⟨_,hk,fun w=>vok rfl ?_⟩;rw [Rq hs hx,Rq hs hi];simp [LV.toV,paV,Instr.indexAt,run_underlying hu,asIntOf,Instr.sureAddr,h0,h1,run_sizeOf hsz,Addr.add_none,TV.toV,AV.toV]
   ·cases h
  ·cases h
 | index t x i=>
  simp only [pu1] at h;split at h
  ·rename_i s kk n hu hx hi;cases h;obtain⟨c,hc,h0,hk⟩:=hp;refine⟨_,hk,fun w=>vok rfl ?_⟩;rw [Rq hs hx,Rq hs hi];have hlt:n.toNat<s.length:=(Les.1 hc).1;have hb:(ByteArray.mk s.toArray)[n.toNat]? = some c:=by
    have h2:n.toNat<(ByteArray.mk s.toArray).size:=by simpa [ByteArray.size] using hlt
    rw [getElem?_pos (ByteArray.mk s.toArray) n.toNat h2];exact congrArg some (Les.1 hc).2
   simp [LV.toV,Instr.index,run_underlying hu,asIntOf,h0,hb,intL,TV.toV,AV.toV]
  ·cases h
 | slice t x lo hi mx=>
  simp only [pu1] at h;split at h
  ·rename_i el s lo' hi' mx' hu hx hlo hhi hmx;split at h
   ·rename_i sz hsz;split at h
    ·cases h
    ·rename_i hno;cases h;obtain⟨l,h',m,e1,e2,e3,g1,g2,g3,hk⟩:=hp;refine⟨_,hk,fun w=>vok rfl ?_⟩;rw [Rq hs hx];have hb:=run_sliceBounds (P:=P) (sl:=true) (BV_of hs hlo) (BV_of hs hhi) (BV_of hs hmx) e1 e2 e3 g1 g2 g3 (fun h=>by
      cases hi' with
      | none=>simp [h] at hno
      | some _=>rfl) w
     simp [Instr.sliceAt,run_underlying hu,Instr.slice,LV.toV,hb,run_sizeOf hsz,TV.toV,AV.toV,slA_cut s sz l h' m g1 g2 g3];simp [Sl.cut]
   ·cases h
  ·rename_i s lo' hi' hu hx hlo hhi hmx;cases h;obtain⟨l,h',e1,e2,g1,g2,hk⟩:=hp;refine⟨_,hk,fun w=>vok rfl ?_⟩;rw [Rq hs hx];have hmx':mx=none:=by
    cases mx with
    | none=>rfl
    | some q=>simp only at hmx;split at hmx<;>cases hmx
   subst hmx';have hb:=run_sliceBounds (P:=P) (sl:=false) (len:=s.length) (cap:=s.length) (m:=s.length) (mx:=none) (vm:=none) (BV_of hs hlo) (BV_of hs hhi) trivial e1 e2 (by simp) g1 g2 (Nlr _) (by simp) w;have hsz:(ByteArray.mk s.toArray).size=s.length:=ba_len s;simp [Instr.sliceAt,run_underlying hu,Instr.slice,LV.toV,hsz,hb,TV.toV,AV.toV,ba_extract]
  ·cases h
 | binOp op t x y yt=>
  simp only [pu1] at h;split at h
  ·rename_i i m j n hx hy;split at h
   ·rename_i hij;subst hij;cases h;obtain⟨hn,hk⟩:=hp;refine⟨_,hk,fun w=>vok rfl ?_⟩;rw [Rq hs hx,Rq hs hy];simp [LV.toV,run_eqGuard_int,binOp,Op.intDiv,hn,intL,TV.toV,AV.toV]
   ·cases h
  ·rename_i i m j n hx hy;split at h
   ·rename_i hij;subst hij;cases h;obtain⟨hn,hk⟩:=hp;refine⟨_,hk,fun w=>vok rfl ?_⟩;rw [Rq hs hx,Rq hs hy];simp [LV.toV,run_eqGuard_int,binOp,Op.intDiv,hn,intL,TV.toV,AV.toV]
   ·cases h
  ·rename_i i m j n hx hy;cases h;obtain⟨hn,hk⟩:=hp;refine⟨_,hk,fun w=>vok rfl ?_⟩;rw [Rq hs hx,Rq hs hy];simp [LV.toV,run_eqGuard_int,binOp,Op.shift,Int.not_lt.2 hn,intL,TV.toV,AV.toV,shlI]
  ·rename_i i m j n hx hy;cases h;obtain⟨hn,hk⟩:=hp;refine⟨_,hk,fun w=>vok rfl ?_⟩;rw [Rq hs hx,Rq hs hy];simp [LV.toV,run_eqGuard_int,binOp,Op.shift,Int.not_lt.2 hn,intL,TV.toV,AV.toV,shrI]
  ·rename_i m n hx hy;cases h;obtain⟨hn,hk⟩:=hp;refine⟨_,hk,fun w=>vok rfl ?_⟩;rw [Rq hs hx,Rq hs hy];have hle:¬(((ByteArray.mk m.toArray).size+(ByteArray.mk n.toArray).size:Nat):Int)>IntKind.i64.max:=by
    rw [ba_len,ba_len];have:IntKind.i64.max=9223372036854775807:=by decide
    rw [this];have h62:(2:Nat)^62=4611686018427387904:=by decide
    rw [h62] at hn;omega
   simp only [LV.toV];simp only [Sem.run_bind,run_eqGuard_str,Result.andThen_ok];simp only [binOp,Op.stringOp];rw [if_neg hle];simp [TV.toV,AV.toV,LV.toV,ba_append]
  ·rename_i v hx hy;split at h
   ·rename_i a1 a2 a3 hu;cases h;rcases hp with⟨rfl,hk⟩ | ⟨f,q,c,rfl,hk⟩
    ·refine⟨_,hk,fun w=>vok rfl ?_⟩;rw [Rq hs hx,Rq hs hy];exact (run_neq_func hu w _ (by simp) x y).1
    ·refine⟨_,hk,fun w=>vok rfl ?_⟩;rw [Rq hs hx,Rq hs hy];exact (run_neq_func hu w _ (by simp) x y).2 f q c
   ·cases h
  ·rename_i v hx hy;split at h
   ·rename_i a1 a2 a3 hu;cases h;rcases hp with⟨rfl,hk⟩ | ⟨f,q,c,rfl,hk⟩
    ·refine⟨_,hk,fun w=>vok rfl ?_⟩;rw [Rq hs hx,Rq hs hy];exact (run_neq_func hu w _ (by simp) x y).1
    ·refine⟨_,hk,fun w=>vok rfl ?_⟩;rw [Rq hs hx,Rq hs hy];exact (run_neq_func hu w _ (by simp) x y).2 f q c
   ·cases h
  ·cases h
 | build t' parts=>
  simp only [pu1] at h;obtain⟨l,hl,rfl⟩:=Option.map_eq_some_iff.1 h;obtain⟨hv,hk⟩:=okVals_iff.1 hp;exact⟨_,hk,fun w=>vok rfl (buildW_sound hs hl hv w)⟩
 | _=>simp [pu1] at h
theorem run_loadCells(S:Wp)(b o:Nat):∀(ks:List Kd) (i:Nat) (acc:List LV) (L:(k:Kd)→Nat→Nat→(Den k→Prop)→Prop) (k:List LV→Prop),
  (∀kd b o K,L kd b o K→∃x:Den kd,(∀w,S w→w.cell? ⟨b,o,none⟩=some (LV.mk kd x).toV)∧K x)→lo1.go L b o ks i acc k →
  ∃l:List LV,l.length=ks.length∧k (acc.reverse++l)∧∀w,S w→∀av:Array Value,(loadCellsFrom ⟨b,o,none⟩ i ks.length av).run P w = .ok (av++(l.map LV.toV).toArray) w
 | [],i,acc,L,k,_,h=>⟨[],rfl,by simpa [lo1.go] using h,fun w _ av=>by simp [loadCellsFrom]⟩
 | kd::ks,i,acc,L,k,hL,h=>by
  simp only [lo1.go] at h;obtain⟨x,hx,h⟩:=hL _ _ _ _ h;obtain⟨l,hl,hk,hr⟩:=run_loadCells S b o ks (i+1) (LV.mk kd x::acc) L k hL h;refine⟨LV.mk kd x::l,by simp [hl],by simpa using hk,fun w hw av=>?_⟩;have h1:=hx w hw;rw [addO_eq] at h1;simp only [Llc,loadCellsFrom];simp [Addr.add_none,h1,hr w hw]
theorem lo1_sound{e:Env}{a:Act}(hs:Sim e a)(S:Wp){L:(k:Kd)→Nat→Nat→(Den k→Prop)→Prop}
  (hL:∀kd b o K,L kd b o K→∃x:Den kd,(∀w,S w→w.cell? ⟨b,o,none⟩=some (LV.mk kd x).toV)∧K x) {o:Oper} {k:TV→Prop} {p:Prop}
  (h:lo1 P e L o.op k=some p) (hp:p):∃t,k t∧∀w,S w→(execOp a.eval o).run P w = .ok (.value t.toV) w:=by
 obtain⟨dst,op,ty,pos,after,guard⟩:=o;simp only at h
 cases op with
 | load t x=>
  simp only [lo1] at h;split at h
  ·rename_i b o' hx;split at h
   ·rename_i kd hk;cases h;obtain⟨d,hd,ha⟩:=shT_leaf hk;obtain⟨y,hy,hky⟩:=hL _ _ _ _ hp;refine⟨_,hky,fun w hw=>vok rfl ?_⟩;rw [Rq hs hx];simp [LV.toV,paV,Instr.loadAt,Instr.sureAddr,loadVar,run_isAgg hd,ha,hy w hw,TV.toV,AV.toV]
   ·rename_i ks hk;cases h;obtain⟨d,hd,ha,hz⟩:=shT_agg hk;obtain⟨l,hl,hkl,hr⟩:=run_loadCells (P:=P) S b o' ks 0 [] L _ hL hp;refine⟨_,hkl,fun w hw=>vok rfl ?_⟩;rw [Rq hs hx];simp [LV.toV,paV,Instr.loadAt,Instr.sureAddr,loadVar,run_isAgg hd,ha,run_sizeOf hz,loadCells,hr w hw,TV.toV,AV.toV]
   ·cases h
  ·cases h
 | _=>simp [lo1] at h
end Go.Vw
namespace Go.Vw
variable {P:Program}
def FW(r:Option Nat):Fence:={fn:=fun _=>True,depth:=none,alive:=false,round:=r}
theorem FW_room(r:Option Nat)(n:Nat):(FW r).room n:=fun _ h=>by cases h
theorem calls_in{r:Option Nat}{f:FuncId}{args:Array Value}{w:World}{R:Ending→Wp}(h:Calls P f args w R):CallsIn (FW r) 0 P f args w R:=
 ⟨trivial,fun cs _=>let ⟨e,w',fr,hr,s,x⟩:=h cs;⟨e,w',fr,hr,comesIn_wide.2 s,x⟩⟩
theorem in_calls{f:FuncId}{args:Array Value}{w:World}{R:Ending→Wp}(h:CallsIn (FW none) 0 P f args w R):Calls P f args w R:=
 fun cs=>let ⟨e,w',fr,hr,s,x⟩:=h.2 cs (FW_room _ _);⟨e,w',fr,hr,s.comes,x⟩
theorem round_in{r:Option Nat}{l:Nat}{f:FuncId}{tmps:Array Value}{assign body:Code}{w:World}{R:Ending→Wp}(h:RoundIn Fence.wide 0 P l f tmps assign body w R) :
  RoundIn (FW r) 0 P l f tmps assign body w R:=h
theorem LV.as_mk(k:Kd)(d:Den k):(LV.mk k d).as k=some d:=by cases k<;>simp [LV.as,LV.mk,LV.toV]
def Ty:List Kd→List LV→Prop
 | [],[]=>True
 | k::ks,x::l=>(∃d,x=LV.mk k d)∧Ty ks l
 | _,_=>False
theorem Ty.length:∀{ks:List Kd} {l:List LV},Ty ks l→l.length=ks.length
 | [],[],_=>rfl
 | _::ks,_::l,h=>by simp [Ty.length h.2]
theorem app_lam{R:Type}(bad:R):∀(ks:List Kd) (g:List LV→R) (l:List LV),app bad ks (lam ks g) l=bad∨∃l',app bad ks (lam ks g) l=g l'∧l'.map LV.toV=l.map LV.toV∧Ty ks l'
 | [],g,[]=>.inr ⟨[],rfl,rfl,trivial⟩
 | [],g,x::l=>.inl rfl
 | k::ks,g,[]=>.inl rfl
 | k::ks,g,x::l=>by
  simp only [app,lam]
  cases hx:x.as k with
  | none=>exact .inl rfl
  | some d=>
   rcases app_lam bad ks (fun l=>g (LV.mk k d::l)) l with h | ⟨l',h1,h2,h3⟩
   ·exact .inl h
   ·exact .inr ⟨LV.mk k d::l',h1,by simp [h2,LV.as_toV hx],⟨d,rfl⟩,h3⟩
theorem app_noW{ks:List Kd}{g:List LV→Wp}{l:List LV}{w:World}(h:app noW ks (lam ks g) l w):∃l',g l' w∧l'.map LV.toV=l.map LV.toV∧Ty ks l':=by
 rcases app_lam noW ks g l with e | ⟨l',e,h2,h3⟩
 ·rw [e] at h;exact h.elim
 ·rw [e] at h;exact⟨l',h,h2,h3⟩
theorem map_eq_cons'{l':List LV}{x:LV}{l:List LV}(h:l'.map LV.toV=(x::l).map LV.toV):∃x' l'',l'=x'::l''∧x'.toV=x.toV∧l''.map LV.toV=l.map LV.toV:=by
 cases l' with
 | nil=>simp at h
 | cons x' l''=>simp at h;exact⟨x',l'',rfl,h.1,h.2⟩
theorem mkAVs_congr:∀(ss:List Sh) (l l':List LV),l'.map LV.toV=l.map LV.toV→(mkAVs ss l').map AV.toV=(mkAVs ss l).map AV.toV
 | [],_,_,_=>rfl
 | .leaf k::ss,[],l',h=>by simp at h;subst h;rfl
 | .leaf k::ss,x::l,l',h=>by
  obtain⟨x',l'',rfl,h1,h2⟩:=map_eq_cons' h;simp [mkAVs,AV.toV,h1,mkAVs_congr ss l l'' h2]
 | .agg ks::ss,l,l',h=>by
  simp only [mkAVs,List.map_cons,AV.toV];rw [mkAVs_congr ss (l.drop ks.length) (l'.drop ks.length) (by rw [List.map_drop,List.map_drop,h]),List.map_take,List.map_take,h]
theorem RT.mk_congr(rt:RT){l l':List LV}(h:l'.map LV.toV=l.map LV.toV):(rt.mk l').toV=(rt.mk l).toV:=by
 cases rt with
 | one s=>
  cases s with
  | leaf k=>
   cases l with
   | nil=>simp at h;subst h;rfl
   | cons x l=>obtain⟨x',l'',rfl,h1,_⟩:=map_eq_cons' h;simp [RT.mk,TV.toV,AV.toV,h1]
  | agg ks=>simp [RT.mk,TV.toV,AV.toV,h]
 | tup ss=>simp [RT.mk,TV.toV,mkAVs_congr ss l l' h]
theorem loadRow(w:World)(b o:Nat):∀(n i:Nat) (c:List Value) (av:Array Value),c.length=n→(∀j,j<n→w.cell? ⟨b,o+(i+j),none⟩=c[j]?) →
  (loadCellsFrom ⟨b,o,none⟩ i n av).run P w = .ok (av++c.toArray) w
 | 0,i,c,av,hc,_=>by cases c with
  | nil=>simp [loadCellsFrom]
  | cons=>simp at hc
 | n+1,i,c,av,hc,h=>by
  cases c with
  | nil=>simp at hc
  | cons x c=>
   have h0:=h 0 (by omega);simp only [Nat.add_zero,List.getElem?_cons_zero] at h0;simp only [loadCellsFrom];have ih:=loadRow w b o n (i+1) c (av.push x) (by simpa using hc) (fun j hj=>by
    have:=h (j+1) (by omega);rw [List.getElem?_cons_succ] at this;rw [←this];congr 2;omega)
   simp [Addr.add_none,h0,ih]
theorem firstRow{w:World}{s:Sl}{len cap sz n:Nat}{c:List Value}(h:rdCells w s (n*sz) c):(Builtin.firstCells sz n (.slice (slA s.cap s.p) len cap)).run P w = .ok c.toArray w:=by
 obtain⟨hc,h⟩:=h;by_cases h0:n*sz=0
 ·have hcn:c=[]:=List.eq_nil_of_length_eq_zero (by omega);subst hcn
  cases slA s.cap s.p with
  | none=>simp [Builtin.firstCells]
  | some a=>simp [Builtin.firstCells,loadCells,h0,loadCellsFrom]
 have hcp:s.cap≠0:=by
  rcases h with h | ⟨_,_,_,h,_⟩
  ·omega
  ·exact h
 rw [slA_pos hcp];have h:n*sz=0∨∃b o,s.p=some (b,o)∧∀i,i<n*sz→w.cell? ⟨b,o+i,none⟩=c[i]?:=by
  rcases h with h | ⟨b,o,h1,_,h2⟩
  ·exact .inl h
  ·exact .inr ⟨b,o,h1,h2⟩
 generalize s.p=p at h ⊢
 cases p with
 | none=>
  rcases h with h | ⟨b,o,hp,_⟩
  ·have:c=[]:=List.eq_nil_of_length_eq_zero (by omega);subst this;simp [Builtin.firstCells,paV]
  ·cases hp
 | some q=>
  obtain⟨b,o⟩:=q;have key:∀j,j<n*sz→w.cell? ⟨b,o+(0+j),none⟩=c[j]?:=fun j hj=>by
   rcases h with h | ⟨b',o',hp,hcell⟩
   ·omega
   ·cases hp;rw [Nat.zero_add];exact hcell j hj
  simp [Builtin.firstCells,paV,loadCells,loadRow w b o (n*sz) 0 c #[] hc key]
theorem storeRow:∀(vs:List Value) (w:World) (b o i:Nat),(∀v∈vs,isCell v=true)→okCells w b (o+i) vs.length →
  (storeCells ⟨b,o,none⟩ vs i).run P w = .ok () (World.setCells w b (o+i) vs)
 | [],w,b,o,i,_,_=>by simp [storeCells,World.setCells]
 | v::vs,w,b,o,i,hv,hok=>by
  obtain⟨⟨u,hu⟩,hfr⟩:=hok 0 (by simp);simp only [Nat.add_zero] at hu hfr;have h1:v.oneCell'=true:=by have:=hv v (by simp);cases v<;>simp_all [isCell,Value.oneCell']
  have hs:(store ⟨b,o+i,none⟩ v).run P w = .ok () (w.setCell ⟨b,o+i,none⟩ v):=by simp [run_store P w _ v _ h1,hu,hfr]
  have ih:=storeRow vs (w.setCell ⟨b,o+i,none⟩ v) b o (i+1) (fun x hx=>hv x (by simp [hx])) (fun j hj=>by
   obtain⟨⟨u',hu'⟩,hfr'⟩:=hok (j+1) (by simp;omega);rw [show o+(i+1)+j=o+i+(j+1) by omega];refine⟨?_,by rw [World.frozen?_setCell];exact hfr'⟩;exact⟨u',by rw [World.cell?_setCell_other _ _ _ _ (by intro e;injection e with _ e2;omega)];exact hu'⟩)
  simp only [storeCells,Addr.add_none];simp [hs,ih,World.setCells,Nat.add_assoc]
theorem range_flat(z:Array Value):∀n:Nat,(List.range (n*z.size)).map (fun i=>z[i%z.size]!)=(List.replicate n z.toList).flatten
 | 0=>by simp
 | n+1=>by
  rw [show (n+1)*z.size=z.size+n*z.size by rw [Nat.succ_mul,Nat.add_comm],List.range_add,List.map_append,List.replicate_succ,List.flatten_cons];congr 1
  ·apply List.ext_getElem
   ·simp
   ·intro i h1 h2;have h3:i<z.size:=by simpa using h1
    simp [Nat.mod_eq_of_lt h3,getElem!_pos,h3]
  ·rw [List.map_map,←range_flat z n];apply List.map_congr_left;intro i _;simp [Function.comp]
theorem zero_flat(z:Array Value)(n:Nat):(Array.range (n*z.size)).map (fun i=>z[i%z.size]!)=((List.replicate n z.toList).flatten).toArray:=by
 apply Array.ext';simp [←range_flat z n]
theorem wpIn_value{r:Option Nat}{o:Oper}{a:Act}{w w':World}{v:Value}{next:Act→Wp}{Q:Exit→Act→Wp}(hd:∀c,o.op≠.defer c)
  (h:(execOp a.eval o).run P w = .ok (.value v) w') (hn:next (a.put o.dst v) w'):o.wpIn (FW r) 0 P a w next Q:=by
 refine⟨fun _ _=>trivial,?_⟩;rw [Oper.semAt_eq _ _ _ hd,h];exact hn
theorem wpIn_skipv{r:Option Nat}{o:Oper}{a:Act}{w w':World}{next:Act→Wp}{Q:Exit→Act→Wp}(hd:∀c,o.op≠.defer c)
  (h:(execOp a.eval o).run P w = .ok .skip w') (hn:next (a.put o.dst undef) w'):o.wpIn (FW r) 0 P a w next Q:=by
 refine⟨fun _ _=>trivial,?_⟩;rw [Oper.semAt_eq _ _ _ hd,h];exact hn
theorem wpIn_enter{r:Option Nat}{o:Oper}{a:Act}{w w':World}{f:FuncId}{args:Array Value}{next:Act→Wp}{Q:Exit→Act→Wp}{R:Ending→Wp}(hd:∀c,o.op≠.defer c)
  (h:(execOp a.eval o).run P w = .ok (.enter f args) w') (hc:Calls P f args w' R) (hR:∀e w'',R e w''→∃v,e = .returned v∧next (a.put o.dst v) w''):o.wpIn (FW r) 0 P a w next Q:=by
 refine⟨fun _ _=>trivial,?_⟩;rw [Oper.semAt_eq _ _ _ hd,h];refine⟨(fun h=>by cases h),(calls_in (hc.mono fun e w'' he=>?_))⟩;obtain⟨v,rfl,hv⟩:=hR e w'' he;exact hv
theorem wpIn_enterX{r:Option Nat}{o:Oper}{a:Act}{w w':World}{f:FuncId}{args:Array Value}{next:Act→Wp}{Q:Exit→Act→Wp}{R:Ending→Wp}(hd:∀c,o.op≠.defer c)
  (h:(execOp a.eval o).run P w = .ok (.enter f args) w') (hc:Calls P f args w' R) (hR:∀e w'',R e w''→(∃v,e = .returned v∧next (a.put o.dst v) w'')∨∃chain,e = .panicked chain∧Q (.panic chain) a w''):o.wpIn (FW r) 0 P a w next Q:=by
 refine⟨fun _ _=>trivial,?_⟩;rw [Oper.semAt_eq _ _ _ hd,h];refine⟨(fun h=>by cases h),(calls_in (hc.mono fun e w'' he=>?_))⟩;rcases hR e w'' he with⟨v,rfl,hv⟩ | ⟨chain,rfl,hv⟩
 ·exact hv
 ·exact hv
theorem wpIn_round{r:Option Nat}{o:Oper}{a:Act}{w w':World}{l f:Nat}{tmps:Array Value}{assign body:Code}{next:Act→Wp}{Q:Exit→Act→Wp}{R:Ending→Wp}(hd:∀c,o.op≠.defer c)
  (h:(execOp a.eval o).run P w = .ok (.round l f tmps assign body) w') (hc:RoundIn Fence.wide 0 P l f tmps assign body w' R) (hR:∀e w'',R e w''→∃v,e = .returned v∧next (a.put o.dst v) w''):o.wpIn (FW r) 0 P a w next Q:=by
 refine⟨fun _ _=>trivial,?_⟩;rw [Oper.semAt_eq _ _ _ hd,h];refine⟨(fun h=>by cases h),(round_in (hc.mono fun e w'' he=>?_))⟩;obtain⟨v,rfl,hv⟩:=hR e w'' he;exact hv
def callable(P:Program)(f:FuncId):Bool:=(P.funcs[f]?).any fun fn=>fn.body.isSome&&!(fn.name=="runtime.NumGoroutine")
theorem run_callFunc{f:FuncId}(h:callable P f=true)(args:Array Value)(w:World):(callFunc f args).run P w = .ok (.enter f args) w:=by
 unfold callable at h
 cases hf:P.funcs[f]? with
 | none=>simp [hf] at h
 | some fn=>
  simp only [hf,Option.any_some,Bat,Bool.not_eq_true'] at h;have h2:fn.body.isNone=false:=by cases hb:fn.body<;>simp [hb] at h ⊢
  unfold callFunc;simp only [Sem.run_bind,run_program,Result.andThen_ok,hf,h.2,h2,Bool.false_eq_true,if_false,Sem.run_pure]
theorem i64_small{c:Int}(h0:0≤c)(h:c<2^48):IntKind.i64.wrap c=c:=IntWalk.i64_in _ ⟨by omega,by omega⟩
end Go.Vw
namespace Go.Vw
variable {P:Program}
theorem nextcap_le(need cap:Nat)(h:cap<need):Builtin.nextslicecap need cap≤2*need+768:=by
 unfold Builtin.nextslicecap;split
 ·omega
 ·split
  ·omega
  ·have key:∀(r c:Nat),c≤2*need+768→Builtin.growBy need r c≤2*need+768:=by
    intro r
    induction r with
    | zero=>intro c hc;simpa [Builtin.growBy] using hc
    | succ r ih=>
     intro c hc;simp only [Builtin.growBy];split
     ·exact hc
     ·exact ih _ (by omega)
   exact key 4 cap (by omega)
theorem toV_sl0(b n c:Nat):(TV.one (AV.leaf (LV.sl ⟨some (b,0),n,c⟩))).toV = .slice (some ⟨b,0,none⟩) n c:=by
 simp only [TV.toV,AV.toV,LV.toV,slA_zero]
theorem append_sound{ts:Array TypeId}{ty el:TypeId}{t t2:TypeId}{e2:TypeId}{i:TypeInfo}{zs:List LV}{s x:Sl}{w:World}{K:Sl→Wp}
  (hts:ts.toList=[t,t2]) (hu:P.underlying t=some (.slice el)) (hu2:P.underlying t2=some (.slice e2)) (hi:P.info? el=some i) (hz:zeroT P el=some zs) (hzl:zs.length=i.size)
  (h:ap w el i.size i.bytes zs s x K) :
  ∃s' w',K s' w'∧(Builtin.append_ ts ty #[LV.toV (.sl s),LV.toV (.sl x)]).run P w = .ok (LV.toV (.sl s')) w':=by
 obtain⟨new,hnew,hcell,hroom,hnil,hgrow⟩:=h;obtain⟨i',zv,hi',hzv,hzc⟩:=zeroT_spec hz;rw [hi] at hi';cases hi';obtain⟨p,n,c⟩:=s;obtain⟨q,m,d⟩:=x;simp only at hnew hroom hnil hgrow;have h0:ts[0]? = some t:=by rw [←Array.getElem?_toList,hts];rfl
 have h1:ts[1]? = some t2:=by rw [←Array.getElem?_toList,hts];rfl
 have hsz:(sizeOf el).run P w = .ok i.size w:=by simp [sizeOf,typeInfo,hi]
 have hin:∀w,(typeInfo el).run P w = .ok i w:=fun w=>by simp [typeInfo,hi]
 have hfn:(Builtin.firstCells i.size m (.slice (slA d q) m d)).run P w = .ok new.toArray w:=firstRow (s:=⟨q,m,d⟩) hnew;by_cases hle:n+m≤c
 ·by_cases hz0:n+m=0
  ·have hm0:m=0:=by omega
   have hn0:n=0:=by omega
   subst hm0;subst hn0;have hnn:new=[]:=by have:=hnew.1;simp at this;exact this
   subst hnn;refine⟨_,_,hnil rfl,?_⟩;simp only [LV.toV];generalize slA d q=Q at hfn ⊢
   cases p with
   | none=>simp [Builtin.append_,h0,h1,run_underlying hu,run_underlying hu2,hsz,Builtin.lenOf,hfn,slA]
   | some a=>obtain⟨b,o⟩:=a;simp [Builtin.append_,h0,h1,run_underlying hu,run_underlying hu2,hsz,Builtin.lenOf,hfn,slA,storeCells]
  ·obtain⟨b,o,hp,hok,hK⟩:=hroom hle hz0;subst hp;refine⟨_,_,hK,?_⟩;have hst:=storeRow (P:=P) new w b (o+n*i.size) 0 hcell (by rw [hnew.1];simpa using hok);rw [Nat.add_zero] at hst;simp only [LV.toV];generalize slA d q=Q at hfn ⊢;simp [Builtin.append_,h0,h1,run_underlying hu,run_underlying hu2,hsz,Builtin.lenOf,hfn,slA,show c≠0 by omega,hle,Addr.add_none,hst]
 ·obtain⟨hbd,old,hold,hK⟩:=hgrow (by omega);have hcap:=nextcap_le (n+m) c (by omega);have hb:Builtin.nextslicecap (n+m) c*i.bytes≤2^48:=by
   have h1:Builtin.nextslicecap (n+m) c*i.bytes≤(2*(n+m)+768)*i.bytes:=Nat.mul_le_mul_right _ hcap;have h2:(2*(n+m)+768)*i.bytes≤2*((n+m+1024)*(i.bytes+1)):=by
    have h3:(2*(n+m)+768)*i.bytes≤(2*(n+m+1024))*(i.bytes+1):=Nat.mul_le_mul (by clear hbd;omega) (by clear hbd;omega);rw [Nat.mul_assoc] at h3;exact h3
   have h46:(2:Nat)^46=70368744177664:=by decide
   have h48:(2:Nat)^48=281474976710656:=by decide
   rw [h46] at hbd;rw [h48];omega
  have hbig:¬(((n+m:Nat):Int)>IntKind.i64.max∧i.bytes=0):=by
   rintro ⟨hg,_⟩;have:IntKind.i64.max=9223372036854775807:=by decide
   rw [this] at hg;have h3:n+m+1024≤(n+m+1024)*(i.bytes+1):=Nat.le_mul_of_pos_right _ (by omega);have h46:(2:Nat)^46=70368744177664:=by decide
   rw [h46] at hbd;omega
  have hof:(Builtin.firstCells i.size n (.slice (slA c p) n c)).run P w.drew = .ok old.toArray w.drew:=firstRow (s:=⟨p,n,c⟩) (by exact hold);have hnf:(Builtin.firstCells i.size m (.slice (slA d q) m d)).run P w.drew = .ok new.toArray w.drew:=firstRow (s:=⟨q,m,d⟩) (by exact hnew);have hzr:(zeroValue el).run P w.drew = .ok zv w.drew:=by simp [zeroValue,typeInfo,hi,hzv]
  have hzc':∀k,Builtin.zeroCells zv.cells k=((List.replicate k (zs.map LV.toV)).flatten).toArray:=fun k=>by
   unfold Builtin.zeroCells;rw [zero_flat,hzc]
  have hcut:∀t:Nat,n+m≤Question.cut (.appendCap (n+m) c el) t:=fun t=>by simp [Question.cut]
  refine⟨_,_,hK _ (hcut (w.tape w.drawn (.appendCap (n+m) c el))),?_⟩;have hif1:¬(Builtin.nextslicecap (n+m) c*i.bytes>2^48):=Nat.not_lt.2 hb;have hdr:(choose (.appendCap (n+m) c el)).run P w = .ok (Question.cut (.appendCap (n+m) c el) (w.tape w.drawn (.appendCap (n+m) c el))) w.drew:=by
   simp only [run_choose,Question.forced,Bool.false_eq_true,if_false];rfl
  generalize Question.cut (.appendCap (n+m) c el) (w.tape w.drawn (.appendCap (n+m) c el))=cap at *;have hcond:¬((((n+m:Nat):Int)>IntKind.i64.max)∧(False∨i.bytes=0)):=by
   rintro ⟨a,b⟩;rcases b with b | b
   ·cases b
   ·exact hbig ⟨a,b⟩
  have hpa:LV.toV (.sl ⟨some (w.heap.size,0),n+m,cap⟩) = .slice (some ⟨w.heap.size,0,none⟩) (n+m) cap:=by simp only [LV.toV];rw [slA_zero]
  rw [hpa];simp only [LV.toV];generalize slA c p=Pp at hof ⊢;generalize slA d q=Qq at hnf hfn ⊢;unfold Builtin.append_;simp only [h0,h1,List.getElem?_toArray,List.getElem?_cons_zero,List.getElem?_cons_succ,Sem.run_bind,run_underlying hu,run_underlying hu2,Result.andThen_ok,LV.toV,hsz,Sem.run_pure,Builtin.lenOf,Bool.false_eq_true,if_false,if_neg hle,hin,hif1];simp only [Bool.not_false,if_true,Sem.run_bind,Sem.run_ite,Sem.run_pure,hin,Result.andThen_ok,if_neg hif1,hdr,run_askRoom,hof,hnf,hzr,hzc'];rw [if_neg hcond];simp only [Result.andThen_ok,newRow,Sem.run_bind,run_newObj,Sem.run_pure,hdr,run_askRoom,hof,hnf,hzr,hzc',hin,if_neg hif1,Sem.run_ite];have hE:∀a b c:List Value,a.toArray++b.toArray++c.toArray=(a++b++c).toArray:=fun a b c=>by simp
  rw [hE];rfl
theorem isCell_of_leaves(v:AV)(h:∀x∈valsOf v.leaves,isCell x=true):∀y∈v.leaves.map LV.toV,isCell y=true:=by
 intro y hy;obtain⟨x,hx,rfl⟩:=List.mem_map.1 hy;have key:∀l:List LV,x∈l→(∀z∈valsOf l,isCell z=true)→isCell x.toV=true:=by
  intro l
  induction l with
  | nil=>intro h;cases h
  | cons a l ih=>
   intro hm hv;rcases List.mem_cons.1 hm with rfl | hm
   ·cases x<;>first | rfl | (exact hv _ (by simp [valsOf,LV.toV]))
   ·exact ih hm fun z hz=>hv z (by cases a<;>simp_all [valsOf])
 exact key _ hx h
theorem run_callv{ρ:Operand→Value}{dst:Option Tmp}{g:Operand}{args:Array Operand}{ts:Array TypeId}{ty:TypeId}{pos:String}{af:Array Edge}{gd:Option (Nat×Bool)}{f:FuncId}{a c:Array Value}
  (hg:ρ g = .func (.func f) a c) (hf:callable P f=true) (w:World) :
  (execOp ρ ⟨dst,.call ⟨.value g,args,ts⟩,ty,pos,af,gd⟩).run P w = .ok (.enter f (a++args.map ρ++c)) w:=by
 simp only [execOp,resolve,Deferred.ofValue,hg];simp [invoke,run_callFunc hf]
theorem castW_sound{e:Env}{a:Act}(hs:Sim e a){o:Oper}{k:TV→Prop}{p:Prop}(h:castW P e o k=some p)(hp:p):∃t,k t∧Pur P a.eval o t:=by
 obtain⟨dst,op,ty,pos,after,guard⟩:=o
 cases op with
 | extract x i=>
  simp only [castW] at h;split at h
  ·rename_i l hx;split at h
   ·rename_i v hv;split at h
    ·rename_i kd hkd
     cases hb:isValK kd with
     | true=>rw [hb] at h;cases h
     | false=>
      rw [hb] at h;cases h;obtain⟨d,rfl,hk⟩:=hp;refine⟨_,hk,?_⟩;have h0:pu0 P e (.extract x i)=some (.one (.leaf (.val (LV.mk kd d).toV))):=by simp only [pu0,hx,hv];rfl
      intro w;have h1:=pu0_sound hs (o:=⟨dst,.extract x i,ty,pos,after,guard⟩) h0 w;exact h1
    ·cases h
   ·cases h
  ·cases h
 | _=>simp [castW] at h
theorem fbW_sound{e:Env}{a:Act}(hs:Sim e a){r:Option Nat}{o:Oper}{w:World}{k:TV→Wp}{p:Prop}(hd:∀c,o.op≠.defer c)(hsel:∀cs b,o.op≠.select cs b)(h:fbW P e o w k=some p)(hp:p)
  {next:Act→Wp} {Q:Exit→Act→Wp} (hn:∀t w',k t w'→next (a.put o.dst t.toV) w'):o.wpIn (FW r) 0 P a w next Q:=by
 unfold fbW at h;split at h
 ·rename_i hall;have he:execOp (evE e) o=execOp a.eval o:=execOp_congr o hsel fun x hx=>by
   have:=List.all_eq_true.1 hall x (by simpa using hx);obtain⟨t,ht⟩:=Option.isSome_iff_exists.1 this;rw [rd_sound hs ht];simp [evE,ht]
  have fin:∀rt:RT,opF P (execOp (evE e) o) w rt (lam rt.kds fun l w'=>k (rt.mk l) w')→o.wpIn (FW r) 0 P a w next Q:=by
   rintro rt ⟨l,w',hr,hk⟩;rw [he] at hr;obtain⟨l',hk',hl,_⟩:=app_noW hk;refine wpIn_value hd hr ?_;rw [←RT.mk_congr _ hl];exact hn _ _ hk'
  split at h
  ·cases h;exact fin _ hp
  ·cases h;exact fin _ hp
  ·cases h;rcases hp with⟨w',hr,hk⟩ | ⟨x,y,w',hr,hk⟩
   ·rw [he] at hr;exact wpIn_value hd hr (hn _ _ hk)
   ·rw [he] at hr;exact wpIn_value hd hr (hn _ _ hk)
  ·cases h;obtain⟨x,y,w',hr,hk⟩:=hp;rw [he] at hr;exact wpIn_value hd hr (hn _ _ hk)
  ·cases h;obtain⟨w',hr,hk⟩:=hp;rw [he] at hr;exact wpIn_skipv hd hr (hn _ _ hk)
  ·cases h;exact fin _ hp
  ·cases h
 ·cases h
theorem rdL_func{e:Env}{a:Act}(hs:Sim e a){x:Operand}{v:Value}(h:rdL e x=some (.val v)):a.eval x=v:=Rq hs h
theorem callV_sound{v:Value}{args:List AV}{w:World}{rt:RT}{K:Fn rt.kds (Wp)}(hp:callV P v args w rt K){r:Option Nat}{a:Act}{dst:Option Tmp}{g:Operand}{as_:Array Operand}{ts:Array TypeId}{ty:TypeId}{pos:String}{af:Array Edge}{gd:Option (Nat×Bool)}
  (hg:a.eval g=v) (ha:as_.map a.eval=(args.map AV.toV).toArray) {next:Act→Wp} {Q:Exit→Act→Wp} (hn:∀l w',app noW rt.kds K l w'→next (a.put dst (rt.mk l).toV) w') :
  (⟨dst,.call ⟨.value g,as_,ts⟩,ty,pos,af,gd⟩:Oper).wpIn (FW r) 0 P a w next Q:=by
 rcases hp with⟨f,x,c,rfl,hf,hc⟩ | ⟨l,x,c,rfl,rfl,hc⟩
 ·refine wpIn_enter (fun _ h=>by cases h) (run_callv hg hf w) (by rw [ha];exact hc) ?_;rintro e' w'' ⟨l,rfl,hk⟩;exact⟨_,rfl,hn _ _ hk⟩
 ·obtain⟨fn,tmps,assign,body,hy,hr⟩:=hc;have hrun:(execOp a.eval ⟨dst,.call ⟨.value g,as_,ts⟩,ty,pos,af,gd⟩).run P w = .ok (.round l fn tmps assign body) w:=by
   simp only [execOp,resolve,Deferred.ofValue,hg];simpa [invoke,ha] using hy
  refine wpIn_round (fun _ h=>by cases h) hrun hr ?_;rintro e' w'' ⟨l,rfl,hk⟩;exact⟨_,rfl,hn _ _ hk⟩
theorem run_alloc{w:World}{el:TypeId}{zs:List LV}(h:zeroT P el=some zs):(Instr.alloc el true (.tuple #[])).run P w = .ok (.pointer (some ⟨w.heap.size,0,none⟩)) (w.alloc (.cells (zs.map LV.toV).toArray el)):=by
 obtain⟨i,v,hi,hz,hc⟩:=zeroT_spec h;simp [Instr.alloc,zeroValue,typeInfo,hi,hz,newVar,newRow,hc]
theorem ef1_sound{cs:Cs}(hcs:∀f,cs.contains f=true→callable P f=true){e:Env}{a:Act}(hs:Sim e a){r:Option Nat}{o:Oper}{w:World}{k:TV→Wp}{p:Prop}(h:ef1 P cs e o w k=some p)(hp:p)
  {next:Act→Wp} {Q:Exit→Act→Wp} (hP:∀chain w',cs.kp chain w'→Q (.panic chain) a w') (hn:∀t w',k t w'→next (a.put o.dst t.toV) w'):o.wpIn (FW r) 0 P a w next Q:=by
 obtain⟨dst,op,ty,pos,after,guard⟩:=o;have hn':∀t w',k t w'→next (a.put dst t.toV) w':=hn
 cases op with
 | alloc el=>
  simp only [ef1] at h;obtain⟨zs,hz,rfl⟩:=Option.map_eq_some_iff.1 h;refine wpIn_value (fun _ h=>by cases h) (vok rfl (run_alloc hz)) (hn' _ _ hp)
 | box el x=>
  simp only [ef1] at h;split at h
  ·rename_i v n hx hsz;split at h
   ·cases h;obtain⟨hv,hk⟩:=okVals_iff.1 hp;refine wpIn_value (fun _ h=>by cases h) (vok rfl ?_) (hn' _ _ hk);rw [rdA_sound hs hx];have hbx:(Instr.box el v.toV).run P w = .ok (.pointer (some ⟨w.heap.size,0,none⟩)) (w.alloc (.cells (v.leaves.map LV.toV).toArray el)):=by
     simp [Instr.box,newVar,newRow,leaves_cells v hv]
    exact hbx
   ·cases h
  ·cases h
 | store t x y=>
  simp only [ef1] at h;split at h
  ·rename_i b o' v n hx hy hsz;split at h
   ·rename_i hl;cases h;obtain⟨hv,hok,hk⟩:=okVals_iff.1 hp;refine wpIn_skipv (w':=World.setCells w b o' (v.leaves.map LV.toV)) (fun _ h=>by cases h) ?_ (hn' _ _ hk);have hc:=leaves_cells v hv;have hst:=storeRow (P:=P) (v.leaves.map LV.toV) w b o' 0 (isCell_of_leaves v hv) (by simpa using hok);rw [Nat.add_zero] at hst;simp only [execOp,Rq hs hx,rdA_sound hs hy];simp [LV.toV,paV,Instr.storeAt,Instr.sureAddr,storeVar,run_sizeOf hsz,hc,hl,hst]
   ·cases h
  ·cases h
 | buildSlice t n parts=>
  simp only [ef1] at h;split at h
  ·rename_i el hu;split at h
   ·rename_i sz zs hsz hz;split at h
    ·rename_i hzl;split at h
     ·rename_i hle;obtain⟨l,hl,rfl⟩:=Option.map_eq_some_iff.1 h;obtain⟨hv,hk⟩:=okVals_iff.1 hp;obtain⟨i,zv,hi,hzv,hzc⟩:=zeroT_spec hz;refine wpIn_value (w':=w.alloc (.cells (l.map LV.toV).toArray el)) (v:=.slice (some ⟨w.heap.size,0,none⟩) n n) (fun _ h=>by cases h) (vok rfl ?_) (by have h9:=hn' _ _ hk;rw [toV_sl0] at h9;exact h9);have hf:=layAll_fill hs (fun i=>some (i*sz,sz)) parts.toList _ l hl hv;have hlim:¬n*sz>2^24:=by
       have:(2:Nat)^24=16777216:=by decide
       omega
      have hzz:(zeroValue el).run P w = .ok zv w:=by simp [zeroValue,typeInfo,hi,hzv]
      have hzs:zv.cells.size=sz:=by rw [hzc];simp [hzl]
      have hrow:(Array.range (n*sz)).map (fun i=>zv.cells[i%zv.cells.size]!)=((List.replicate n zs).flatten.map LV.toV).toArray:=by
       have:=zero_flat zv.cells n;rw [hzs] at this;rw [hzs,this,hzc];simp [List.map_flatten]
      have hpz:(parts.map fun (i,x)=>(i,a.eval x)).toList=parts.toList.map fun (i,x)=>(i,a.eval x):=by simp
      unfold Instr.buildSlice;simp only [Sem.run_bind,run_underlying hu,Result.andThen_ok,run_sizeOf hsz,hpz];by_cases h0:n*sz=0
      ·have hr0:(Array.range (n*sz)).map (fun i=>(#[]:Array Value)[i%(#[]:Array Value).size]!)=((List.replicate n zs).flatten.map LV.toV).toArray:=by
        have:(List.replicate n zs).flatten.map LV.toV=[]:=by
         apply List.eq_nil_of_length_eq_zero;simp [hzl,h0]
        rw [this,h0];simp
       simp only [Sem.run_ite,if_neg hlim,h0,if_true,Sem.run_pure,Result.andThen_ok,Sem.run_bind];rw [h0] at hr0;simp only [hr0];rw [hf];simp [newRow]
      ·simp only [Sem.run_ite,if_neg hlim,if_neg h0,Sem.run_pure,Result.andThen_ok,Sem.run_bind,hzz,hrow];rw [hf];simp [newRow]
     ·cases h
    ·cases h
   ·cases h
  ·cases h
 | makeSlice t n c=>
  simp only [ef1] at h;split at h
  ·rename_i el k1 n' k2 c' hu hx hy;split at h
   ·rename_i i zs hi hz;split at h
    ·rename_i hzl;cases h;obtain⟨h0,h1,h2,h3,hk⟩:=hp;obtain⟨i',zv,hi',hzv,hzc⟩:=zeroT_spec hz;rw [hi] at hi';cases hi';refine wpIn_value (w':=w.alloc (.cells (List.replicate c'.toNat (zs.map LV.toV)).flatten.toArray el)) (v:=.slice (some ⟨w.heap.size,0,none⟩) n'.toNat c'.toNat) (fun _ h=>by cases h) (vok rfl ?_) (by have h9:=hn' _ _ hk;rw [toV_sl0] at h9;exact h9);rw [Rq hs hx,Rq hs hy];have hzz:(zeroValue el).run P w = .ok zv w:=by simp [zeroValue,typeInfo,hi,hzv]
     have hzs:zv.cells.size=i.size:=by rw [hzc];simp [hzl]
     have hw1:=i64_small h0 (Int.lt_of_le_of_lt h1 h2);have hw2:=i64_small (Int.le_trans h0 h1) h2;have h47:(2:Int)^47=140737488355328:=by decide
     have h48:(2:Int)^48=281474976710656:=by decide
     have ht:(decide (c'<0)||decide ((i.bytes:Int)*c'>2^48))=false:=by
      rw [h47] at h3;rw [h48];simp;omega
     have hrow:(Array.range (c'.toNat*i.size)).map (fun i=>zv.cells[i%zv.cells.size]!)=((List.replicate c'.toNat (zs.map LV.toV)).flatten).toArray:=by
      have:=zero_flat zv.cells c'.toNat;rw [hzs] at this;rw [hzs,this,hzc]
     have hin:(typeInfo el).run P w = .ok i w:=by simp [typeInfo,hi]
     unfold Instr.makeSlice;simp only [LV.toV,Sem.run_bind,run_underlying hu,Result.andThen_ok,asInt,asIntOf,Sem.run_pure,hin,hw1,hw2];rw [if_neg (by rw [ht];simp;omega)];simp only [Sem.run_bind,run_askRoom,Result.andThen_ok,sizeOf,hin,Sem.run_pure];by_cases h0':c'.toNat*i.size=0
     ·have hflat:(List.replicate c'.toNat (zs.map LV.toV)).flatten=[]:=by
       apply List.eq_nil_of_length_eq_zero;simp [hzl,h0']
      rw [h0',hflat];have hr0:Array.range 0=(#[]:Array Nat):=by decide
      simp [newRow,hr0]
     ·simp only [Sem.run_ite,if_neg h0',Sem.run_pure,Sem.run_bind,Result.andThen_ok,hzz,hrow];simp [newRow]
    ·cases h
   ·cases h
  ·cases h
 | call c=>
  obtain⟨callee,args,ts⟩:=c
  cases callee with
  | invoke rcv m=>
   simp only [ef1] at h;split at h
   ·rename_i v l rt hg hl hrt;cases h;obtain⟨f,as,hm,hcalls⟩:=hp;have hrun:(execOp a.eval ⟨dst,.call ⟨.invoke rcv m,args,ts⟩,ty,pos,after,guard⟩).run P w = .ok (.enter f as) w:=by
     simp only [execOp,resolve,rdL_func hs hg];rw [rdAs_array hs hl];have ht:List.take l.length (l.map AV.toV)=l.map AV.toV:=Ltl (by simp);simpa [invoke,ht] using hm
    refine wpIn_enter (fun _ h=>by cases h) hrun hcalls ?_;rintro e' w'' ⟨l',rfl,hk⟩;obtain⟨l'',hk',hl',_⟩:=app_noW hk;refine⟨_,rfl,?_⟩;rw [←RT.mk_congr _ hl'];exact hn' _ _ hk'
   ·cases h
  | value g=>
   cases g with
   | func f=>
    simp only [ef1] at h;split at h
    ·rename_i l rt hl hrt;split at h
     ·rename_i hc;cases h;split at hp
      ·refine wpIn_enterX (fun _ h=>by cases h) (run_callv (ρ:=a.eval) (a:=#[]) (c:=#[]) rfl (hcs f hc) w) (by simpa [rdAs_array hs hl,callX] using hp) ?_;rintro e' w'' (⟨l',rfl,hk⟩ | ⟨chain,rfl,hk⟩)
       ·obtain⟨l'',hk',hl',_⟩:=app_noW hk;refine .inl ⟨_,rfl,?_⟩;rw [←RT.mk_congr _ hl'];exact hn' _ _ hk'
       ·exact .inr ⟨_,rfl,hP _ _ hk⟩
      ·refine wpIn_enter (fun _ h=>by cases h) (run_callv (ρ:=a.eval) (a:=#[]) (c:=#[]) rfl (hcs f hc) w) (by simpa [rdAs_array hs hl,callK] using hp) ?_;rintro e' w'' ⟨l',rfl,hk⟩;obtain⟨l'',hk',hl',_⟩:=app_noW hk;refine⟨_,rfl,?_⟩;rw [←RT.mk_congr _ hl'];exact hn' _ _ hk'
     ·cases h
    ·cases h
   | _=>
    simp only [ef1] at h;split at h
    ·rename_i v l rt hg hl hrt;cases h;refine callV_sound hp (rdL_func hs hg) (rdAs_array hs hl) fun l' w' hk=>?_;obtain⟨l'',hk',hl',_⟩:=app_noW hk;rw [←RT.mk_congr _ hl'];exact hn' _ _ hk'
    ·cases h
  | builtin b=>
   by_cases hb:b = .append
   ·subst hb;simp only [ef1] at h;split at h
    ·rename_i l hl;split at h
     ·rename_i p' hp';cases h;have h:=hp';unfold appE at h;split at h
      ·rename_i s x t t2 hts;split at h
       ·rename_i el e2 hu hu2;split at h
        ·rename_i i zs hi hz;split at h
         ·rename_i hzl;cases h;obtain⟨s',w',hk,hr⟩:=append_sound (ty:=ty) hts hu hu2 hi hz hzl hp;refine wpIn_value (fun _ h=>by cases h) ?_ (hn' _ _ hk);rw [execOp_call rfl];simp only [rdAs_array hs hl];simp only [builtin,List.map_cons,List.map_nil,AV.toV];simp [hr,TV.toV,AV.toV]
         ·cases h
        ·cases h
       ·cases h
      ·cases h
     ·exact fbW_sound hs (fun _ h=>by cases h) (fun _ _ h=>by cases h) h hp hn
    ·cases h
   ·have:fbW P e ⟨dst,.call ⟨.builtin b,args,ts⟩,ty,pos,after,guard⟩ w k=some p:=by
     cases b<;>first | exact absurd rfl hb | exact h
    exact fbW_sound hs (fun _ h=>by cases h) (fun _ _ h=>by cases h) this hp hn
 | go c=>simp [ef1] at h
 | defer c=>simp [ef1] at h
 | select c b=>simp [ef1] at h
 | panic x=>
  simp only [ef1] at h;split at h
  ·rename_i t ht;cases h;refine⟨fun _ _=>trivial,?_⟩;rw [Oper.semAt_eq _ _ _ (fun _ h=>by cases h)];have hr:(execOp a.eval ⟨dst,.panic x,ty,pos,after,guard⟩).run P w = .halt (.panic t.toV) w:=by
    obtain⟨⟨u,y,hv⟩,_⟩:=hp;simp [execOp,rd_sound hs ht,Instr.panic,hv,goPanic,Sem.run]
   rw [hr];exact hP _ _ hp.2
  ·cases h
 | _=>exact fbW_sound hs (fun _ h=>by cases h) (fun _ _ h=>by cases h) h hp hn
end Go.Vw
