/- Part T02. -/
import Derived.Test.YtoegpmjoajipcaaGreatDoorT01
import Derived.TacticsIn
import Derived.Scope
import Derived.OrdersHeld
import Derived.Sort.LoopGhostIn
import Derived.RangeFuncRecord
import Derived.RecoverIn
namespace Go.Vw
variable {P:Program}
structure Stp(ds:List Nat)(rng dfr:Bool)(e e':Env)(a a':Act):Prop where
 tmps:∀t,t∉ds→a'.tmps[t]? = a.tmps[t]?
 calls:dfr=false→e'.calls=e.calls
 marks:rng=false→e'.marks=e.marks
 n:e'.n=e.n
theorem Stp.refl(ds:List Nat)(r d:Bool)(e:Env)(a:Act):Stp ds r d e e a a:=⟨fun _ _=>rfl,fun _=>rfl,fun _=>rfl,rfl⟩
theorem Stp.trans{ds1 ds2 ds:List Nat}{r1 r2 r q1 q2 q:Bool}{e e1 e2:Env}{a a1 a2:Act}(h1:Stp ds1 r1 q1 e e1 a a1)(h2:Stp ds2 r2 q2 e1 e2 a1 a2)
  (d1:∀t,t∈ds1→t∈ds) (d2:∀t,t∈ds2→t∈ds) (hr:r=false→r1=false∧r2=false) (hq:q=false→q1=false∧q2=false):Stp ds r q e e2 a a2:=
 ⟨fun t ht=>(h2.tmps t fun h=>ht (d2 t h)).trans (h1.tmps t fun h=>ht (d1 t h)),fun h=>(h2.calls (hq h).2).trans (h1.calls (hq h).1),fun h=>(h2.marks (hr h).2).trans (h1.marks (hr h).1),h2.n.trans h1.n⟩
theorem Stp.weaken{ds1 ds:List Nat}{r1 r q1 q:Bool}{e e1:Env}{a a1:Act}(h1:Stp ds1 r1 q1 e e1 a a1)(d1:∀t,t∈ds1→t∈ds)(hr:r=false→r1=false)(hq:q=false→q1=false):Stp ds r q e e1 a a1:=
 ⟨fun t ht=>h1.tmps t fun h=>ht (d1 t h),fun h=>h1.calls (hq h),fun h=>h1.marks (hr h),h1.n⟩
theorem stp_eset(e:Env)(d:Nat)(t:TV)(a:Act)(ds:List Nat)(r q:Bool):Stp ds r q e (eset e d t) a a:=⟨fun _ _=>rfl,fun _=>rfl,fun _=>rfl,rfl⟩
theorem stp_put{e:Env}{a:Act}{d:Option Tmp}{t:TV}{v:Value}{ds:List Nat}{r q:Bool}(hd:∀x,d=some x→x∈ds):Stp ds r q e (put e d t) a (a.put d v):=by
 cases d with
 | none=>exact Stp.refl _ _ _ _ _
 | some x=>
  refine⟨fun m hm=>?_,fun _=>rfl,fun _=>rfl,rfl⟩;have:x≠m:=fun h=>hm (h▸hd x rfl);simp [Act.put,Array.getElem?_setIfInBounds,this]
theorem stp_putO{e:Env}{a:Act}{d:Option Tmp}{v:Value}{ds:List Nat}{r q:Bool}(hd:∀x,d=some x→x∈ds):Stp ds r q e (esetO e d) a (a.put d v):=by
 cases d with
 | none=>exact Stp.refl _ _ _ _ _
 | some x=>
  refine⟨fun m hm=>?_,fun _=>rfl,fun _=>rfl,rfl⟩;have:x≠m:=fun h=>hm (h▸hd x rfl);simp [Act.put,Array.getElem?_setIfInBounds,this]
theorem ld_sound(w:World):∀kd b o K,ld w kd b o K→∃x:Den kd,(∀u,u=w→u.cell? ⟨b,o,none⟩=some (LV.mk kd x).toV)∧K x:=
 fun _ _ _ _ ⟨x,hx,hk⟩=>⟨x,fun u hu=>hu▸hx,hk⟩
theorem pu_ndef{e:Env}{o:Oper}{t:TV}(h:pu0 P e o.op=some t):∀c,o.op≠.defer c:=by
 intro c hc;rw [hc] at h;simp [pu0] at h
theorem stepW_sound{cs:Cs}(hcs:∀f,cs.contains f=true→callable P f=true){e:Env}{a:Act}(hs:Sim e a){r:Option Nat}{o:Oper}{w:World}{k:TV→Wp}(h:stepW P cs e o w k)
  {next:Act→Wp} {Q:Exit→Act→Wp} (hP:∀chain w',cs.kp chain w'→Q (.panic chain) a w') (hn:∀t w',k t w'→next (a.put o.dst t.toV) w'):o.wpIn (FW r) 0 P a w next Q:=by
 unfold stepW at h;split at h
 ·rename_i p hp;obtain⟨t,hk,hr⟩:=castW_sound hs hp h;exact wpIn_value (fun c hc=>by rw [castW,hc] at hp;cases hp) (hr w) (hn _ _ hk)
 split at h
 ·rename_i t ht;exact wpIn_value (pu_ndef ht) (pu0_sound hs ht w) (hn _ _ h)
 ·split at h
  ·rename_i p hp;obtain⟨t,hk,hr⟩:=pu1_sound hs hp h;exact wpIn_value (fun c hc=>by rw [hc] at hp;simp [pu1] at hp) (hr w) (hn _ _ hk)
  ·split at h
   ·rename_i p hp;obtain⟨t,hk,hr⟩:=lo1_sound hs (fun u=>u=w) (ld_sound w) hp h;exact wpIn_value (fun c hc=>by rw [hc] at hp;simp [lo1] at hp) (hr w rfl) (hn _ _ hk)
   ·split at h
    ·rename_i p hp;exact ef1_sound hcs hs hp h hP hn
    ·exact h.elim
theorem wanted_none{o:Oper}(h:o.guard=none)(y:Nat→Option Bool):Region.wanted o y=true:=by simp [Region.wanted,h]
theorem yielded_of{ops:Array Oper}{e:Env}{a:Act}(hs:Sim e a){j d:Nat}{t:TV}(hd:dstOf ops.toList j=some d)(ht:eget e d=some t) :
  yielded ops a.tmps j=match t.toV with | .bool b=>some b | _=>none:=by
 unfold dstOf at hd;rw [nth_getElem?,Array.getElem?_toList] at hd;unfold yielded;rw [hd,Option.bind_some,hs.get d t ht];generalize t.toV=v;cases v<;>rfl
def dfrO(l:List Oper):Bool:=l.any fun o=>isDefer o.op
theorem dfrO_cons(o:Oper)(l:List Oper):dfrO (o::l)=(isDefer o.op||dfrO l):=rfl
theorem runOps_sound{cs:Cs}(hcs:∀f,cs.contains f=true→callable P f=true){ops:Array Oper}{Q:Exit→Act→Wp}{r:Option Nat}:∀(l:List Oper) (e:Env) (a:Act) (w:World) (k:Env→Wp),
  (r.isSome=true→dfrO l=false)→Sim e a→runOps P cs ops.toList l e w k→(∀e' a' w',k e' w'→Sim e' a'→Stp (dstsO l) false (dfrO l) e e' a a'→Q .normal a' w') →
  (∀chain e' a' w',cs.kp chain w'→Sim e' a'→Stp (dstsO l) false (dfrO l) e e' a a'→Q (.panic chain) a' w')→wpListIn (FW r) 0 P ops Q l a w
 | [],e,a,w,k,_,hs,h,hQ,_=>hQ e a w h hs (Stp.refl _ _ _ _ _)
 | o::l,e,a,w,k,hro,hs,h,hQ,hP=>by
  have hdst:∀x,o.dst=some x→x∈dstsO (o::l):=fun x hx=>by simp [dstsO,hx]
  have hsub:∀t,t∈dstsO l→t∈dstsO (o::l):=fun t ht=>by
   unfold dstsO
   cases o.dst with
   | none=>exact ht
   | some d=>exact Lmc _ ht
  have hq:dfrO (o::l)=false→isDefer o.op=false∧dfrO l=false:=fun h=>by
   rw [dfrO_cons] at h;exact Bool.or_eq_false_iff.1 h
  have hrl:r.isSome=true→dfrO l=false:=fun h=>(hq (hro h)).2
  have run:∀e1,Sim e1 a→Stp [] false false e e1 a a→stepW P cs e1 o w (fun t w'=>runOps P cs ops.toList l (put e1 o.dst t) w' k)→o.wpIn (FW r) 0 P a w (wpListIn (FW r) 0 P ops Q l) Q:=
   fun e1 h1 st hst=>stepW_sound hcs h1 hst (fun chain w' hk=>hP chain e1 a w' hk h1 (st.weaken (by simp) (fun _=>rfl) fun _=>rfl)) fun t w' hk=>
    have tr:∀{e':Env} {a':Act},Stp (dstsO l) false (dfrO l) (put e1 o.dst t) e' (a.put o.dst t.toV) a'→Stp (dstsO (o::l)) false (dfrO (o::l)) e e' a a':=fun st'=>
     (st.trans (stp_put (ds:=dstsO (o::l)) (r:=false) (q:=false) (t:=t) hdst) (by simp) (fun _ h=>h) (fun _=>⟨rfl,rfl⟩) (q:=false) (fun _=>⟨rfl,rfl⟩)).trans st' (fun _ h=>h) hsub (fun _=>⟨rfl,rfl⟩) (fun h=>⟨rfl,(hq h).2⟩)
    runOps_sound hcs l _ _ _ k hrl (h1.put o.dst t) hk (fun e' a' w'' hk' hs' st'=>hQ e' a' w'' hk' hs' (tr st')) fun chain e' a' w'' hk' hs' st'=>hP chain e' a' w'' hk' hs' (tr st')
  have skip:∀e1,Sim e1 a→Stp [] false false e e1 a a→runOps P cs ops.toList l (esetO e1 o.dst) w k→wpListIn (FW r) 0 P ops Q l (a.put o.dst undef) w:=
   fun e1 h1 st hst=>
    have tr:∀{e':Env} {a':Act},Stp (dstsO l) false (dfrO l) (esetO e1 o.dst) e' (a.put o.dst undef) a'→Stp (dstsO (o::l)) false (dfrO (o::l)) e e' a a':=fun st'=>
     (st.trans (stp_putO (ds:=dstsO (o::l)) (r:=false) (q:=false) hdst) (by simp) (fun _ h=>h) (fun _=>⟨rfl,rfl⟩) (q:=false) (fun _=>⟨rfl,rfl⟩)).trans st' (fun _ h=>h) hsub (fun _=>⟨rfl,rfl⟩) (fun h=>⟨rfl,(hq h).2⟩)
    runOps_sound hcs l _ _ _ k hrl (h1.putO o.dst) hst (fun e' a' w'' hk' hs' st'=>hQ e' a' w'' hk' hs' (tr st')) fun chain e' a' w'' hk' hs' st'=>hP chain e' a' w'' hk' hs' (tr st')
  have later:∀(f:FuncId) (avs:List AV) (c:List Value),e.marks=[]→runOps P cs ops.toList l (esetO ⟨e.t,e.n,(f,avs,c)::e.calls,[]⟩ o.dst) w k→isDefer o.op=true →
    wpListIn (FW r) 0 P ops Q l (({a with defers:={target:=.fn (.func f) ⟨c⟩,args:=(avs.map AV.toV).toArray} :: a.defers}:Act).put o.dst undef) w:=by
   intro f avs c hmk h hdef;have st0:Stp (dstsO (o::l)) false true e (esetO ⟨e.t,e.n,(f,avs,c)::e.calls,[]⟩ o.dst) a (({a with defers:={target:=.fn (.func f) ⟨c⟩,args:=(avs.map AV.toV).toArray} :: a.defers}:Act).put o.dst undef):=by
    cases hdd:o.dst with
    | none=>exact⟨fun _ _=>rfl,fun h=>by simp at h,fun _=>hmk.symm,rfl⟩
    | some x=>
     refine⟨fun m hm=>?_,fun h=>by simp at h,fun _=>hmk.symm,rfl⟩;have:x≠m:=fun h=>hm (h▸hdst x hdd);simp [Act.put,Array.getElem?_setIfInBounds,this]
   have tr:∀{e':Env} {a':Act},Stp (dstsO l) false (dfrO l) (esetO ⟨e.t,e.n,(f,avs,c)::e.calls,[]⟩ o.dst) e' (({a with defers:={target:=.fn (.func f) ⟨c⟩,args:=(avs.map AV.toV).toArray} :: a.defers}:Act).put o.dst undef) a'→Stp (dstsO (o::l)) false (dfrO (o::l)) e e' a a':=fun st'=>
    st0.trans st' (fun _ h=>h) hsub (fun _=>⟨rfl,rfl⟩) (fun h=>absurd (hq h).1 (by rw [hdef];simp))
   refine runOps_sound hcs l _ _ _ k hrl ?_ h (fun e' a' w'' hk' hs' st'=>hQ e' a' w'' hk' hs' (tr st')) fun chain e' a' w'' hk' hs' st'=>hP chain e' a' w'' hk' hs' (tr st');have hd:Sim ⟨e.t,e.n,(f,avs,c)::e.calls,[]⟩ {a with defers:={target:=.fn (.func f) ⟨c⟩,args:=(avs.map AV.toV).toArray} :: a.defers}:=
    ⟨hs.size,hs.get,by show _::a.defers=_;rw [hs.dfs];simp [dfOf,hmk]⟩
   exact hd.putO o.dst
  unfold runOps at h;unfold wpListIn;split at h
  ·rename_i hdef;split at h
   ·rename_i f args ts hg hop hmk;split at h
    ·rename_i avs hav;split at h
     ·rename_i hcf;rw [if_pos (wanted_none hg _)];have hr0:r=none:=by
       cases r with
       | none=>rfl
       | some x=>have:=(hq (hro rfl)).1;rw [hdef] at this;cases this
      subst hr0;refine⟨fun _ _=>trivial,?_⟩;rw [show (FW none).round=none from rfl,Oper.semAt_none];have hrun:(execOp a.eval o).run P w = .ok (.defer {target:=.fn (.func f) #[],args:=(avs.map AV.toV).toArray}) w:=by
       obtain⟨dst,op,ty,pos,af,gd⟩:=o;simp only at hop;subst hop;have:a.eval (.func f) = .func (.func f) #[] #[]:=rfl;simp [execOp,resolve,Deferred.ofValue,this,rdAs_array hs hav]
      rw [hrun];exact later f avs [] hmk h hdef
     ·exact h.elim
    ·exact h.elim
   ·rename_i g args ts _ hg hop hmk;split at h
    ·rename_i f c avs hgv hav;rw [if_pos (wanted_none hg _)];have hr0:r=none:=by
      cases r with
      | none=>rfl
      | some x=>have:=(hq (hro rfl)).1;rw [hdef] at this;cases this
     subst hr0;refine⟨fun _ _=>trivial,?_⟩;rw [show (FW none).round=none from rfl,Oper.semAt_none];have hrun:(execOp a.eval o).run P w = .ok (.defer {target:=.fn (.func f) ⟨c⟩,args:=(avs.map AV.toV).toArray}) w:=by
      obtain⟨dst,op,ty,pos,af,gd⟩:=o;simp only at hop;subst hop;have hge:a.eval g = .func (.func f) ⟨[]⟩ ⟨c⟩:=Rq hs hgv;simp [execOp,resolve,Deferred.ofValue,hge,rdAs_array hs hav]
     rw [hrun];exact later f avs c hmk h hdef
    ·exact h.elim
   ·exact h.elim
  ·split at h
   ·rename_i hg;rw [if_pos (wanted_none hg _)];exact run e hs (Stp.refl _ _ _ _ _) h
   ·rename_i j want hg;split at h
    ·exact h.elim
    ·rename_i d hd;split at h
     ·rename_i b hb;have hy:yielded ops a.tmps j=some b:=yielded_of hs hd hb;split at h
      ·rename_i hbw;rw [if_pos (by simp [Region.wanted,hg,hy,(beq_iff_eq.1 hbw)])];exact run e hs (Stp.refl _ _ _ _ _) h
      ·rename_i hbw;rw [if_neg (by simp only [Region.wanted,hg,hy];simpa using hbw)];exact⟨fun _ _=>trivial,skip e hs (Stp.refl _ _ _ _ _) h⟩
     ·rename_i hb;have hy:yielded ops a.tmps j=none:=yielded_of hs hd hb;rw [if_neg (by simp [Region.wanted,hg,hy])];exact⟨fun _ _=>trivial,skip e hs (Stp.refl _ _ _ _ _) h⟩
     ·rename_i x hb;have hy:yielded ops a.tmps j=some x:=yielded_of hs hd hb;obtain⟨ht,hf⟩:=h
      cases x with
      | true=>
       have h1:Sim (eset e d (.one (.leaf (.lit true)))) a:=hs.retell hb rfl;have:=ht rfl
       cases want with
       | true=>
        rw [if_pos (by simp [Region.wanted,hg,hy])];exact run _ h1 (stp_eset _ _ _ _ _ _ _) (by simpa using this)
       | false=>
        rw [if_neg (by simp [Region.wanted,hg,hy])];exact⟨fun _ _=>trivial,skip _ h1 (stp_eset _ _ _ _ _ _ _) (by simpa using this)⟩
      | false=>
       have h1:Sim (eset e d (.one (.leaf (.lit false)))) a:=hs.retell hb rfl;have:=hf rfl
       cases want with
       | true=>
        rw [if_neg (by simp [Region.wanted,hg,hy])];exact⟨fun _ _=>trivial,skip _ h1 (stp_eset _ _ _ _ _ _ _) (by simpa using this)⟩
       | false=>
        rw [if_pos (by simp [Region.wanted,hg,hy])];exact run _ h1 (stp_eset _ _ _ _ _ _ _) (by simpa using this)
     ·exact h.elim
end Go.Vw
namespace Go.Vw
variable {P:Program}
def onlyN(Q:Exit→Act→Wp)(PX:List PanicEntry→Act→Wp):Exit→Act→Wp
 | .normal,a,w=>Q .normal a w
 | .panic ch,a,w=>PX ch a w
 | _,_,_=>False
section
variable {ops:Array Oper}{Q:Exit→Act→Wp}{PX:List PanicEntry→Act→Wp}{S:Wp}{r:Option Nat}
def Waits(o:Oper)(j:Nat):Prop:=∃e∈o.after,Region.binds .any e=true∧e.on=j
def WaitsAll(ops:Array Oper)(i:Nat):Prop:=∃o,ops[i]? = some o∧∀j,j<ops.size→j≠i→Waits o j∨∃(m:Nat) (x:Oper),ops[m]? = some x∧Waits o m∧Waits x j
def Closed(ops:Array Oper)(ls:Array Bool):Prop:=∀(m:Nat) (x:Oper),ops[m]? = some x→ls.getD m false=true→∀j,Waits x j→ls.getD j false=true
theorem getD_set{ls:Array Bool}{i m:Nat}(h:(ls.setIfInBounds i true).getD m false=true):m=i∨ls.getD m false=true:=by
 by_cases e:m=i
 ·exact .inl e
 ·right;simp only [Array.getD_eq_getD_getElem?,Array.getElem?_setIfInBounds_ne (Ne.symm e)] at h ⊢;exact h
theorem getD_set_of{ls:Array Bool}{i m:Nat}(h:ls.getD m false=true):(ls.setIfInBounds i true).getD m false=true:=by
 by_cases e:m=i
 ·subst e;have hlt:m<ls.size:=by
   rcases Nat.lt_or_ge m ls.size with h' | h'
   ·exact h'
   ·simp [Array.getElem?_eq_none h'] at h
  simp [Array.getD_eq_getD_getElem?,Array.getElem?_setIfInBounds,hlt]
 ·simp only [Array.getD_eq_getD_getElem?,Array.getElem?_setIfInBounds_ne (Ne.symm e)] at h ⊢;exact h
theorem Closed.set{ops:Array Oper}{ls:Array Bool}(h:Closed ops ls){i:Nat}(hi:i∈Region.ready .any ops ls):Closed ops (ls.setIfInBounds i true):=by
 intro m x hx hm j hw;rcases getD_set hm with rfl | hm
 ·obtain⟨_,o,ho,hall⟩:=mem_ready.1 hi;rw [hx] at ho;cases ho;obtain⟨e,he,hb,hon⟩:=hw;exact getD_set_of (hon▸hall e he hb)
 ·exact getD_set_of (h m x hx hm j hw)
def anyS(P:Program)(r:Option Nat)(ops:Array Oper)(Q:Exit→Act→Wp)(PX:List PanicEntry→Act→Wp)(S:Wp):Nat→Array Bool→Act→Wp
 | 0,ls,a,w=>Region.ready .any ops ls=[]∧Q .normal a w
 | n+1,ls,a,w=>(Region.ready .any ops ls=[]→Q .normal a w) ∧
   ∀i∈Region.ready .any ops ls,wpOpIn (FW r) 0 P ops (onlyN Q PX) i (fun a' w'=>(WaitsAll ops i∨S w')∧anyS P r ops Q PX S n (ls.setIfInBounds i true) a' w') a w
theorem anyS_any:∀(n:Nat) (ls:Array Bool) (a:Act) (w:World),anyS P r ops Q PX S n ls a w→wpAnyIn (FW r) 0 P .any ops (onlyN Q PX) n ls a w
 | 0,_,_,_,h=>h
 | n+1,_,_,_,h=>⟨h.1,fun i hi=>wpOpIn_mono (fun a' w' h'=>anyS_any n _ a' w' h'.2) (h.2 i hi)⟩
theorem yields_op{i:Nat}{o:Oper}{v:Value}{a:Act}{w:World}(hi:ops[i]? = some o)(hnd:∀c,o.op≠.defer c)(hy:YieldsIf P ops S o v a)(hS:S w){K:Act→Wp}(hK:K (a.put o.dst v) w) :
  wpOpIn (FW r) 0 P ops (onlyN Q PX) i K a w:=by
 unfold wpOpIn;simp only [hi];rcases hy with⟨hw,hr⟩ | ⟨hw,rfl⟩
 ·rw [if_pos hw];exact wpIn_value hnd (hr w hS) hK
 ·rw [if_neg (by simp [hw])];exact⟨fun _ _=>trivial,hK⟩
theorem op_put{j:Nat}{oi oj:Oper}{v:Value}(hj:ops[j]? = some oj)(hap:oi.apart ops oj=true)(hsi:∀cs b,oi.op≠.select cs b)(hsj:∀cs b,oj.op≠.select cs b)(hdj:∀c,oj.op≠.defer c)(hpx:∀ch a w,PX ch (a.put oi.dst v) w→PX ch a w)
  {K:Act→Wp} {a:Act} {w:World} (hy:YieldsIf P ops S oi v a) (h:wpOpIn (FW r) 0 P ops (onlyN Q PX) j K (a.put oi.dst v) w) :
  wpOpIn (FW r) 0 P ops (onlyN Q PX) j (fun a' w'=>YieldsIf P ops S oi v a'∧K (a'.put oi.dst v) w') a w:=by
 obtain⟨h1,h2,h3⟩:=Oper.apart_spec hap;have stays:∀(b:Act),YieldsIf P ops S oi v b→∀u,YieldsIf P ops S oi v (b.put oj.dst u):=fun b hb u=>
  hb.of_same (execOp_put oi hsi b oj.dst u h3) (wanted_put oi b oj.dst u h3)
 have turn:∀(b:Act) (u:Value) (w':World),K ((b.put oi.dst v).put oj.dst u) w'→K ((b.put oj.dst u).put oi.dst v) w':=fun b u w' hk=>by
  rw [←Act.put_comm b v u h2];exact hk
 unfold wpOpIn at *;simp only [hj] at *;rw [wanted_put oj a oi.dst v h1] at h;split
 ·rename_i hw;rw [if_pos hw] at h;obtain⟨_,h⟩:=h;refine⟨fun _ _=>trivial,?_⟩;rw [Oper.semAt_eq _ _ _ hdj] at h ⊢;rw [execOp_put oj hsj a oi.dst v h1] at h;generalize (execOp a.eval oj).run P w=res at h ⊢
  cases res with
  | halt x w'=>cases x<;>first | exact hpx _ _ _ h | exact h
  | ok x w'=>
   cases x with
   | value u=>exact⟨stays a hy u,turn a u w' h⟩
   | skip=>exact⟨stays a hy _,turn a _ w' h⟩
   | defer d=>
    have hyd:YieldsIf P ops S oi v ({a with defers:=d::a.defers}:Act):=hy.of_same rfl rfl;refine⟨stays _ hyd _,turn _ _ w' ?_⟩;have h':K (({a.put oi.dst v with defers:=d::(a.put oi.dst v).defers}:Act).put oj.dst undef) w':=h;rw [Act.put_defers] at h';exact h'
   | enter f args=>
    refine⟨h.1,CallsIn.mono h.2 fun e w'' he=>?_⟩
    cases e with
    | returned u=>exact⟨stays a hy u,turn a u w'' he⟩
    | panicked c=>exact hpx _ _ _ he
    | outgrown=>exact he
   | row nm args=>exact⟨h.1,RowsIn.mono h.2 fun u w'' he=>⟨stays a hy u,turn a u w'' he⟩⟩
   | round l f tmps asg body=>
    refine⟨h.1,RoundIn.mono h.2 fun e w'' he=>?_⟩
    cases e with
    | returned u=>exact⟨stays a hy u,turn a u w'' he⟩
    | panicked c=>exact hpx _ _ _ he
    | outgrown=>exact he
   | _=>exact h
 ·rename_i hw;rw [if_neg hw] at h;exact⟨fun _ _=>trivial,stays a hy _,turn a _ w h.2⟩
theorem anyS_take{i:Nat}{oi:Oper}{v:Value}(hi:ops[i]? = some oi)(hnd:∀(j:Nat) o,ops[j]? = some o→(∀c,o.op≠.defer c)∧∀cs b,o.op≠.select cs b)
  (hpair:∀j oj,ops[j]? = some oj→j≠i→(∃e∈oj.after,Region.binds .any e=true∧e.on=i)∨(∃e∈oi.after,Region.binds .any e=true∧e.on=j)∨oi.apart ops oj=true) (hpx:∀ch a w,PX ch (a.put oi.dst v) w→PX ch a w) :
  ∀(n:Nat) (ls:Array Bool) (a:Act) (w:World),Closed ops ls→i∈Region.ready .any ops ls→YieldsIf P ops S oi v a→S w →
   anyS P r ops Q PX S n (ls.setIfInBounds i true) (a.put oi.dst v) w→anyS P r ops Q PX S (n+1) ls a w:=by
 intro n
 induction n with
 | zero=>
  intro ls a w hcl hr hy hS H;refine⟨(fun h=>by rw [h] at hr;cases hr),fun j hj=>?_⟩;by_cases hji:j=i
  ·subst hji;exact yields_op hi (hnd _ _ hi).1 hy hS ⟨.inr hS,H⟩
  ·have:=ready_mono hj hji;rw [H.1] at this;cases this
 | succ n ih=>
  intro ls a w hcl hr hy hS H;refine⟨(fun h=>by rw [h] at hr;cases hr),fun j hj=>?_⟩;by_cases hji:j=i
  ·subst hji;exact yields_op hi (hnd _ _ hi).1 hy hS ⟨.inr hS,H⟩
  ·have hj1:=H.2 j (ready_mono hj hji);obtain⟨hjun,oj,hoj,hall⟩:=mem_ready.1 hj;obtain⟨hiun,oi',hoi',halli⟩:=mem_ready.1 hr;rw [hi] at hoi';cases hoi';have unl:∀m,ls.getD m true=false→ls.getD m false=true→False:=fun m h1 h2=>by
    rcases Nat.lt_or_ge m ls.size with h | h
    ·simp [h] at h1 h2;rw [h1] at h2;cases h2
    ·simp [Array.getElem?_eq_none h] at h2
   have hap:oi.apart ops oj=true:=by
    rcases hpair j oj hoj hji with⟨e,he,hb,hon⟩ | ⟨e,he,hb,hon⟩ | h
    ·exact (unl i hiun (hon▸hall e he hb)).elim
    ·exact (unl j hjun (hon▸halli e he hb)).elim
    ·exact h
   have h2:=op_put hoj hap (hnd _ _ hi).2 (hnd _ _ hoj).2 (hnd _ _ hoj).1 hpx hy hj1;have hnw:¬WaitsAll ops j:=by
    rintro ⟨o',ho',hw⟩;rw [hoj] at ho';cases ho';rcases hw i (Array.getElem?_eq_some_iff.1 hi).1 (Ne.symm hji) with⟨e,he,hb,hon⟩ | ⟨m,x,hx,⟨e,he,hb,hon⟩,hw2⟩
    ·exact unl i hiun (hon▸hall e he hb)
    ·exact unl i hiun (hcl m x hx (hon▸hall e he hb) i hw2)
   refine wpOpIn_mono (fun a' w' h3=>?_) h2;have hS':=h3.2.1.resolve_left hnw;refine⟨.inr hS',ih _ a' w' (hcl.set hj) (ready_mono hr (Ne.symm hji)) h3.1 hS' ?_⟩;rw [Array.setIfInBounds_comm _ _ hji];exact h3.2.2
end
theorem bnth_getD(l:List Bool)(n:Nat):l.toArray.getD n false=bnth l n:=by
 simp only [Array.getD_eq_getD_getElem?,List.getElem?_toArray]
 induction l generalizing n with
 | nil=>rfl
 | cons x l ih=>cases n with
  | zero=>rfl
  | succ n=>rw [List.getElem?_cons_succ];exact ih n
theorem bset_set(l:List Bool)(n:Nat):(bset l n).toArray=l.toArray.setIfInBounds n true:=by
 apply Array.ext';simp only [Array.toList_setIfInBounds]
 induction l generalizing n with
 | nil=>rfl
 | cons x l ih=>cases n with
  | zero=>rfl
  | succ n=>simp [bset,ih n]
theorem bset_length(l:List Bool)(n:Nat):(bset l n).length=l.length:=by
 induction l generalizing n with
 | nil=>rfl
 | cons x l ih=>cases n with
  | zero=>rfl
  | succ n=>simp [bset,ih n]
def left:List Bool→Nat
 | []=>0
 | true::r=>left r
 | false::r=>left r+1
theorem left_bset(l:List Bool)(n:Nat)(h:bnth l n=false)(hn:n<l.length):left l=left (bset l n)+1:=by
 induction l generalizing n with
 | nil=>simp at hn
 | cons x l ih=>cases n with
  | zero=>simp [bnth] at h;subst h;rfl
  | succ n=>
   have:=ih n h (by simpa using hn);cases x<;>simp [left,bset,this]
theorem rdyB_ready{ops:Array Oper}{ls:List Bool}(hl:ls.length=ops.size){i:Nat}(h:rdyB ops.toList ls i=true):i∈Region.ready .any ops ls.toArray∧bnth ls i=false∧i<ls.length:=by
 unfold rdyB at h;simp only [Bat,Bool.not_eq_true'] at h;obtain⟨h1,h2⟩:=h;rw [nth_getElem?,Array.getElem?_toList] at h2
 cases ho:ops[i]? with
 | none=>simp [ho] at h2
 | some o=>
  simp only [ho] at h2;have hlt:i<ops.size:=(Array.getElem?_eq_some_iff.1 ho).1;refine⟨mem_ready.2 ⟨?_,o,ho,fun e he hb=>?_⟩,h1,by omega⟩
  ·have hg:ls.toArray.getD i false=false:=by rw [bnth_getD];exact h1
   have hi:i<ls.length:=by omega
   simp only [Array.getD_eq_getD_getElem?,List.getElem?_toArray,Lge hi,Option.getD_some] at hg ⊢;exact hg
  ·unfold rdyO at h2;have:=List.all_eq_true.1 h2 e (by simpa using he);simp [hb] at this;rw [bnth_getD];exact this
theorem ready_only{ops:List Oper}{ls0:List Bool}{l:List Nat}:∀(os:List Oper) (bs:List Bool) (k:Nat),onlyB l ls0 os k bs=true→∀j o,os[j]? = some o→bs[j]? = some false→rdyO ls0 o=true→k+j∈l
 | [],_,_,_,j,o,h,_,_=>by simp at h
 | _::_,[],_,_,j,o,_,h,_=>by simp at h
 | x::os,b::bs,k,h,0,o,ho,hb,hr=>by
  simp only [onlyB,Bat,Bool.or_eq_true] at h;simp at ho hb;subst ho;subst hb;simpa [hr] using h.1
 | x::os,b::bs,k,h,j+1,o,ho,hb,hr=>by
  simp only [onlyB,Bat] at h;have:=ready_only (ops:=ops) os bs (k+1) h.2 j o (by simpa using ho) (by simpa using hb) hr;rw [show k+(j+1)=k+1+j by omega];exact this
theorem only_mem{ops:Array Oper}{ls:List Bool}(hl:ls.length=ops.size){l:List Nat}(h:onlyB l ls ops.toList 0 ls=true):∀j∈Region.ready .any ops ls.toArray,j∈l:=by
 intro j hj;obtain⟨h0,o,ho,hall⟩:=mem_ready.1 hj;have hlt:j<ops.size:=(Array.getElem?_eq_some_iff.1 ho).1;have hb:ls[j]? = some false:=by
  have h1:j<ls.length:=by omega
  simp [h1] at h0;rw [Lge h1,h0]
 have hr:rdyO ls o=true:=by
  unfold rdyO;rw [List.all_eq_true];intro e he
  cases hbd:Region.binds .any e with
  | false=>simp
  | true=>
   have:=hall e (by simpa using he) hbd;rw [bnth_getD] at this;simp [this]
 have:=ready_only (ops:=ops.toList) ops.toList ls 0 h j o (by rw [Array.getElem?_toList];exact ho) hb hr;rw [Nat.zero_add] at this;exact this
theorem pairs_spec{ops:List Oper}:∀(l:List Oper) (k:Nat),pairsOk ops k l=true→(∀j,l[j]? = ops[k+j]?)→∀i oi j oj,l[i]? = some oi→ops[j]? = some oj→j≠k+i →
  waitsB oj (k+i)=true∨waitsB oi j=true∨oi.apart ops.toArray oj=true:=by
 have inner:∀(i:Nat) (oi:Oper) (l:List Oper) (k:Nat),pairOk ops i oi k l=true→∀j oj,l[j]? = some oj→k+j≠i→waitsB oj i=true∨waitsB oi (k+j)=true∨oi.apart ops.toArray oj=true:=by
  intro i oi l
  induction l with
  | nil=>intro k _ j oj h;simp at h
  | cons x l ih=>
   intro k h j oj hj hne;simp only [pairOk,Bat,Bool.or_eq_true] at h
   cases j with
   | zero=>
    simp at hj;subst hj;rcases h.1 with ((h1 | h1) | h1) | h1
    ·exact absurd (beq_iff_eq.1 h1).symm (by simpa using hne)
    ·exact .inl h1
    ·exact .inr (.inl (by simpa using h1))
    ·exact .inr (.inr h1)
   | succ j=>
    have:=ih (k+1) h.2 j oj (by simpa using hj) (by omega);rw [show k+(j+1)=k+1+j by omega];exact this
 intro l
 induction l with
 | nil=>intro k _ _ i oi j oj h;simp at h
 | cons x l ih=>
  intro k h hl i oi j oj hi hj hne;simp only [pairsOk,Bat] at h
  cases i with
  | zero=>
   simp at hi;subst hi;have:=inner k x ops 0 h.1 j oj hj (by simpa using hne);simpa using this
  | succ i=>
   have:=ih (k+1) h.2 (fun j=>by have:=hl (j+1);rw [List.getElem?_cons_succ] at this;rw [this];congr 1;omega) i oi j oj (by simpa using hi) hj (by omega);rw [show k+(i+1)=k+1+i by omega];exact this
theorem waitsB_spec{o:Oper}{i:Nat}(h:waitsB o i=true):∃e∈o.after,Region.binds .any e=true∧e.on=i:=by
 unfold waitsB at h;obtain⟨e,he,hb⟩:=List.any_eq_true.1 h;simp only [Bat,beq_iff_eq] at hb;exact⟨e,by simpa using he,hb.1,hb.2⟩
theorem wantW_spec{ops:Array Oper}{e:Env}{a:Act}(hs:Sim e a){o:Oper}{b:Bool}(h:wantW ops.toList e o=some b):Region.wanted o (yielded ops a.tmps)=b:=by
 unfold wantW at h;split at h
 ·rename_i hg;cases h;exact wanted_none hg _
 ·rename_i j want hg;split at h
  ·rename_i d hd;split at h
   ·rename_i c hc;cases h;have hy:yielded ops a.tmps j=some c:=yielded_of hs hd hc;simp [Region.wanted,hg,hy]
   ·rename_i hc;cases h;have hy:yielded ops a.tmps j=none:=yielded_of hs hd hc;simp [Region.wanted,hg,hy]
   ·cases h
  ·cases h
theorem takeW_sound{e:Env}{a:Act}(hs:Sim e a){D:Nat→Prop}{w0:World}{o:Oper}{k:TV→Prop}(h:takeW P D w0 e o k):∃t,k t∧∀w,(∀b,b<w0.heap.size→¬D b→w.heap[b]? = w0.heap[b]?)→(execOp a.eval o).run P w = .ok (.value t.toV) w:=by
 unfold takeW at h;split at h
 ·rename_i t ht;exact⟨t,h,fun w _=>pu0_sound hs ht w⟩
 ·split at h
  ·rename_i p hp;obtain⟨t,hk,hr⟩:=pu1_sound hs hp h;exact⟨t,hk,fun w _=>hr w⟩
  ·split at h
   ·rename_i p hp;refine lo1_sound hs (fun w=>∀b,b<w0.heap.size→¬D b→w.heap[b]? = w0.heap[b]?) (fun kd b o K hK=>?_) hp h;obtain⟨x,hd,hc,hk⟩:=hK;refine⟨x,fun w hw=>?_,hk⟩;have hlt:b<w0.heap.size:=World.block_lt_of_cell? w0 ⟨b,o,none⟩ hc;have:w.cell? ⟨b,o,none⟩=w0.cell? ⟨b,o,none⟩:=by unfold World.cell?;rw [hw b hlt hd]
    rw [this];exact hc
   ·exact h.elim
theorem nowW_sound{e:Env}{a:Act}(hs:Sim e a){w:World}{o:Oper}{k:TV→Prop}(h:nowW P w e o k):∃t,k t∧(execOp a.eval o).run P w = .ok (.value t.toV) w:=by
 unfold nowW at h;split at h
 ·rename_i t ht;exact⟨t,h,pu0_sound hs ht w⟩
 ·split at h
  ·rename_i p hp;obtain⟨t,hk,hr⟩:=pu1_sound hs hp h;exact⟨t,hk,hr w⟩
  ·split at h
   ·rename_i p hp;obtain⟨t,hk,hr⟩:=lo1_sound hs (fun u=>u=w) (ld_sound w) hp h;exact⟨t,hk,hr w rfl⟩
   ·exact h.elim
end Go.Vw
namespace Go.Vw
variable {P:Program}
theorem left_zero:∀(l:List Bool),l.all id=true→left l=0∧∀n,n<l.length→bnth l n=true
 | [],_=>⟨rfl,fun n h=>by simp at h⟩
 | x::l,h=>by
  simp only [List.all_cons,Bat,id] at h;obtain⟨h1,h2⟩:=left_zero l (by simpa using h.2);obtain⟨h0,_⟩:=h;subst h0;exact⟨by simpa [left] using h1,fun n hn=>by
   cases n with
   | zero=>rfl
   | succ n=>exact h2 n (by simpa using hn)⟩
theorem dst_mem{l:List Oper}{i:Nat}{o:Oper}(h:l[i]? = some o):∀x,o.dst=some x→x∈dstsO l:=by
 induction l generalizing i with
 | nil=>simp at h
 | cons y l ih=>
  intro x hx;unfold dstsO
  cases i with
  | zero=>simp at h;subst h;rw [hx];exact Lcs
  | succ i=>
   have:=ih (i:=i) (by simpa using h) x hx
   cases y.dst with
   | none=>exact this
   | some d=>exact Lmc _ this
theorem Mod.refl(D:Nat→Prop)(w:World):Mod D w w:=⟨rfl,rfl,rfl,Nlr _,fun _ _ _=>rfl⟩
theorem dRun_sound{cs:Cs}(hcs:∀f,cs.contains f=true→callable P f=true){ops:Array Oper}{Q:Exit→Act→Wp}{PX:List PanicEntry→Act→Wp}(hinv:∀(i:Nat) o,ops[i]? = some o→∀ch a v w,PX ch (a.put o.dst v) w↔PX ch a w){r:Option Nat}(hp:pairsOk ops.toList 0 ops.toList=true)
  (hnd:∀o∈ops.toList,(!isSelect o.op&&!isDefer o.op)=true) {D:Nat→Prop} {w0:World} :
  ∀(pl:Pl) (ls:List Bool) (e:Env) (a:Act) (w:World) (k:Env→Wp),Closed ops ls.toArray→Sim e a→ls.length=ops.size→Mod D w0 w→(∀ch w',cs.kp ch w'→PX ch a w')→dRun P cs ops.toList D w0 pl ls e w k →
   (∀e' a' w',k e' w'→Sim e' a'→Stp (dstsO ops.toList) false false e e' a a'→Q .normal a' w')→anyS P r ops Q PX (Mod D w0) (left ls) ls.toArray a w:=by
 have hnd':∀(j:Nat) o,ops[j]? = some o→(∀c,o.op≠.defer c)∧∀cs b,o.op≠.select cs b:=fun j o ho=>by
  have:=hnd o (by rw [←Array.getElem?_toList] at ho;exact Lmg ho);constructor
  ·intro c hc;simp [hc,isDefer] at this
  ·intro c b hc;simp [hc,isSelect] at this
 have hpair:∀i oi,ops[i]? = some oi→∀j oj,ops[j]? = some oj→j≠i→(∃e∈oj.after,Region.binds .any e=true∧e.on=i)∨(∃e∈oi.after,Region.binds .any e=true∧e.on=j)∨oi.apart ops oj=true:=fun i oi hi j oj hj hne=>by
  have:=pairs_spec ops.toList 0 hp (fun j=>by rw [Nat.zero_add]) i oi j oj (by rw [Array.getElem?_toList];exact hi) (by rw [Array.getElem?_toList];exact hj) (by simpa using hne);rw [Nat.zero_add] at this;rcases this with h | h | h
  ·exact .inl (waitsB_spec h)
  ·exact .inr (.inl (waitsB_spec h))
  ·exact .inr (.inr h)
 intro pl
 have eff:∀(i:Nat) (ls:List Bool) (e:Env) (a:Act) (w:World) (K:List Bool→Env→Wp),Sim e a→ls.length=ops.size→Mod D w0 w→bnth ls i=false→i<ls.length→(∀ch w',cs.kp ch w'→PX ch a w')→effW P cs ops.toList D w0 ls e w i K →
   (∀e' a' w',Mod D w0 w'→(∀ch w',cs.kp ch w'→PX ch a' w')→K (bset ls i) e' w'→Sim e' a'→Stp (dstsO ops.toList) false false e e' a a'→anyS P r ops Q PX (Mod D w0) (left (bset ls i)) (bset ls i).toArray a' w') →
   wpOpIn (FW r) 0 P ops (onlyN Q PX) i (fun a' w'=>(WaitsAll ops i∨Mod D w0 w')∧anyS P r ops Q PX (Mod D w0) (left (bset ls i)) (ls.toArray.setIfInBounds i true) a' w') a w:=by
  intro i ls e a w K hs hl hS hb hlt hA h hK;unfold effW at h;rw [nth_getElem?,Array.getElem?_toList] at h
  cases ho:ops[i]? with
  | none=>simp [ho] at h
  | some o=>
   simp only [ho] at h;have hd:=dst_mem (l:=ops.toList) (i:=i) (o:=o) (by rw [Array.getElem?_toList];exact ho);unfold wpOpIn;simp only [ho];rw [←bset_set];split at h
   ·rename_i hw;rw [if_pos (wantW_spec hs hw)];split at h
    ·rename_i p hp;refine ef1_sound hcs hs hp h (fun chain w h=>hA chain w h) fun t w' hk=>⟨.inr hk.1,?_⟩;exact hK _ _ _ hk.1 (fun ch w' h=>(hinv i o ho ch a t.toV w').2 (hA ch w' h)) hk.2 (hs.put o.dst t) (stp_put hd)
    ·exact h.elim
   ·rename_i hw;rw [if_neg (by rw [wantW_spec hs hw];simp)];exact⟨fun _ _=>trivial,.inr hS,hK _ _ _ hS (fun ch w' h=>(hinv i o ho ch a undef w').2 (hA ch w' h)) h (hs.putO o.dst) (stp_putO hd)⟩
   ·exact h.elim
 induction pl with
 | done=>
  intro ls e a w k hcl hs hl hS hA h hQ;simp only [dRun] at h;split at h
  ·rename_i hall;obtain⟨h0,h1⟩:=left_zero ls hall;rw [h0];refine⟨?_,hQ e a w h hs (Stp.refl _ _ _ _ _)⟩
   cases hr:Region.ready .any ops ls.toArray with
   | nil=>rfl
   | cons j l=>
    have hj:j∈Region.ready .any ops ls.toArray:=by rw [hr];exact Lcs
    obtain⟨hj0,o,ho,_⟩:=mem_ready.1 hj;have hlt:j<ls.length:=by rw [hl];exact (Array.getElem?_eq_some_iff.1 ho).1
    have h2:=h1 j hlt;rw [←bnth_getD] at h2;simp only [Array.getD_eq_getD_getElem?,List.getElem?_toArray,Lge hlt,Option.getD_some] at h2 hj0;rw [h2] at hj0;cases hj0
  ·exact h.elim
 | take i pl ih=>
  intro ls e a w k hcl hs hl hS hA h hQ;simp only [dRun] at h;split at h
  ·rename_i hr;obtain⟨hr1,hr2,hr3⟩:=rdyB_ready hl hr;rw [left_bset ls i hr2 hr3];rw [nth_getElem?,Array.getElem?_toList] at h
   cases ho:ops[i]? with
   | none=>simp [ho] at h
   | some o=>
    simp only [ho] at h;have hd:=dst_mem (l:=ops.toList) (i:=i) (o:=o) (by rw [Array.getElem?_toList];exact ho);have go:∀(e1:Env) (v:Value),Sim e1 (a.put o.dst v)→Stp (dstsO ops.toList) false false e e1 a (a.put o.dst v)→YieldsIf P ops (Mod D w0) o v a→dRun P cs ops.toList D w0 pl (bset ls i) e1 w k→anyS P r ops Q PX (Mod D w0) (left (bset ls i)+1) ls.toArray a w:=
     fun e1 v h1 st hy hd1=>anyS_take ho hnd' (hpair i o ho) (fun ch a w h=>(hinv i o ho ch a v w).1 h) _ _ _ _ hcl hr1 hy hS (by
      rw [←bset_set];exact ih _ _ _ _ k (by rw [bset_set];exact hcl.set hr1) h1 (by rw [bset_length];exact hl) hS (fun ch w' h=>(hinv i o ho ch a v w').2 (hA ch w' h)) hd1 fun e' a' w' hk hs' st'=>hQ e' a' w' hk hs' (st.trans st' (fun _ h=>h) (fun _ h=>h) (fun _=>⟨rfl,rfl⟩) (fun _=>⟨rfl,rfl⟩)))
    split at h
    ·rename_i hw;obtain⟨t,hk,hrun⟩:=takeW_sound hs h;exact go _ _ (hs.put o.dst t) (stp_put hd) (.inl ⟨wantW_spec hs hw,fun u hu=>hrun u hu.block⟩) hk
    ·rename_i hw;exact go _ _ (hs.putO o.dst) (stp_putO hd) (.inr ⟨wantW_spec hs hw,rfl⟩) h
    ·exact h.elim
  ·exact h.elim
 | now i pl ih=>
  intro ls e a w k hcl hs hl hS hA h hQ;simp only [dRun] at h;split at h
  ·rename_i hr;simp only [Bat] at hr;obtain⟨hr1,hr2,hr3⟩:=rdyB_ready hl hr.1;rw [left_bset ls i hr2 hr3];refine⟨fun h0=>(by rw [h0] at hr1;cases hr1),fun j hj=>?_⟩;have hji:j=i:=by simpa using only_mem hl hr.2 j hj
   subst hji;rw [nth_getElem?,Array.getElem?_toList] at h
   cases ho:ops[j]? with
   | none=>simp [ho] at h
   | some o=>
    simp only [ho] at h;have hd:=dst_mem (l:=ops.toList) (i:=j) (o:=o) (by rw [Array.getElem?_toList];exact ho);unfold wpOpIn;simp only [ho];rw [←bset_set];split at h
    ·rename_i hw;obtain⟨t,hk,hrun⟩:=nowW_sound hs h;rw [if_pos (wantW_spec hs hw)];exact wpIn_value (hnd' _ _ ho).1 hrun ⟨.inr hS,ih _ _ _ _ k (by rw [bset_set];exact hcl.set hj) (hs.put o.dst t) (by rw [bset_length];exact hl) hS (fun ch w' h=>(hinv j o ho ch a t.toV w').2 (hA ch w' h)) hk fun e' a' w' hk hs' st'=>hQ e' a' w' hk hs' ((stp_put hd).trans st' (fun _ h=>h) (fun _ h=>h) (fun _=>⟨rfl,rfl⟩) (fun _=>⟨rfl,rfl⟩))⟩
    ·rename_i hw;rw [if_neg (by rw [wantW_spec hs hw];simp)];exact⟨fun _ _=>trivial,.inr hS,ih _ _ _ _ k (by rw [bset_set];exact hcl.set hj) (hs.putO o.dst) (by rw [bset_length];exact hl) hS (fun ch w' h=>(hinv j o ho ch a undef w').2 (hA ch w' h)) h fun e' a' w' hk hs' st'=>hQ e' a' w' hk hs' ((stp_putO hd).trans st' (fun _ h=>h) (fun _ h=>h) (fun _=>⟨rfl,rfl⟩) (fun _=>⟨rfl,rfl⟩))⟩
    ·exact h.elim
  ·exact h.elim
 | eff i pl ih=>
  intro ls e a w k hcl hs hl hS hA h hQ;simp only [dRun] at h;split at h
  ·rename_i hr;simp only [Bat] at hr;obtain⟨hr1,hr2,hr3⟩:=rdyB_ready hl hr.1;rw [left_bset ls i hr2 hr3];refine⟨fun h0=>(by rw [h0] at hr1;cases hr1),fun j hj=>?_⟩;have hji:j=i:=by simpa using only_mem hl hr.2 j hj
   subst hji;exact eff j ls e a w _ hs hl hS hr2 hr3 hA h fun e' a' w' hS' hA' hk hs' st=>ih _ _ _ _ k (by rw [bset_set];exact hcl.set hj) hs' (by rw [bset_length];exact hl) hS' hA' hk fun e2 a2 w2 hk2 hs2 st2=>hQ e2 a2 w2 hk2 hs2 (st.trans st2 (fun _ h=>h) (fun _ h=>h) (fun _=>⟨rfl,rfl⟩) (fun _=>⟨rfl,rfl⟩))
  ·exact h.elim
 | two i pl j pl2 ih1 ih2=>
  intro ls e a w k hcl hs hl hS hA h hQ;simp only [dRun] at h;split at h
  ·rename_i hr;simp only [Bat] at hr;obtain⟨hr1,hr2,hr3⟩:=rdyB_ready hl hr.1;obtain⟨hX,hB⟩:=h;rw [left_bset ls i hr2 hr3];refine⟨fun h0=>(by rw [h0] at hr1;cases hr1),fun m hm=>?_⟩;have hmm:m=i∨m=j:=by simpa using only_mem hl hr.2 m hm
   by_cases hmi:m=i
   ·subst hmi;exact eff m ls e a w _ hs hl hS hr2 hr3 hA hX fun e' a' w' hS' hA' hk hs' st=>ih1 _ _ _ _ k (by rw [bset_set];exact hcl.set hm) hs' (by rw [bset_length];exact hl) hS' hA' hk fun e2 a2 w2 hk2 hs2 st2=>hQ e2 a2 w2 hk2 hs2 (st.trans st2 (fun _ h=>h) (fun _ h=>h) (fun _=>⟨rfl,rfl⟩) (fun _=>⟨rfl,rfl⟩))
   ·have hmj:m=j:=hmm.elim (fun h=>absurd h hmi) id;subst hmj;obtain⟨hj0,o,ho,_⟩:=mem_ready.1 hm;have hlt:m<ls.length:=by rw [hl];exact (Array.getElem?_eq_some_iff.1 ho).1
    have hbm:bnth ls m=false:=by
     rw [←bnth_getD];simp only [Array.getD_eq_getD_getElem?,List.getElem?_toArray,Lge hlt,Option.getD_some] at hj0 ⊢;exact hj0
    have hcnt:left (bset ls i)=left (bset ls m):=by
     have h1:=left_bset ls i hr2 hr3;have h2:=left_bset ls m hbm hlt;omega
    rw [hcnt];exact eff m ls e a w _ hs hl hS hbm hlt hA hB fun e' a' w' hS' hA' hk hs' st=>ih2 _ _ _ _ k (by rw [bset_set];exact hcl.set hm) hs' (by rw [bset_length];exact hl) hS' hA' hk fun e2 a2 w2 hk2 hs2 st2=>hQ e2 a2 w2 hk2 hs2 (st.trans st2 (fun _ h=>h) (fun _ h=>h) (fun _=>⟨rfl,rfl⟩) (fun _=>⟨rfl,rfl⟩))
  ·exact h.elim
 | three i pl j pl2 l pl3 ih1 ih2 ih3=>
  intro ls e a w k hcl hs hl hS hA h hQ;simp only [dRun] at h;split at h
  ·rename_i hr;simp only [Bat] at hr;obtain⟨hr1,hr2,hr3⟩:=rdyB_ready hl hr.1;obtain⟨hX,hB,hC⟩:=h;rw [left_bset ls i hr2 hr3];refine⟨fun h0=>(by rw [h0] at hr1;cases hr1),fun m hm=>?_⟩;have hmm:m=i∨m=j∨m=l:=by simpa using only_mem hl hr.2 m hm
   obtain⟨hj0,o,ho,_⟩:=mem_ready.1 hm;have hlt:m<ls.length:=by rw [hl];exact (Array.getElem?_eq_some_iff.1 ho).1
   have hbm:bnth ls m=false:=by
    rw [←bnth_getD];simp only [Array.getD_eq_getD_getElem?,List.getElem?_toArray,Lge hlt,Option.getD_some] at hj0 ⊢;exact hj0
   have hcnt:left (bset ls i)=left (bset ls m):=by
    have h1:=left_bset ls i hr2 hr3;have h2:=left_bset ls m hbm hlt;omega
   rw [hcnt];by_cases hmi:m=i
   ·subst hmi;exact eff m ls e a w _ hs hl hS hbm hlt hA hX fun e' a' w' hS' hA' hk hs' st=>ih1 _ _ _ _ k (by rw [bset_set];exact hcl.set hm) hs' (by rw [bset_length];exact hl) hS' hA' hk fun e2 a2 w2 hk2 hs2 st2=>hQ e2 a2 w2 hk2 hs2 (st.trans st2 (fun _ h=>h) (fun _ h=>h) (fun _=>⟨rfl,rfl⟩) (fun _=>⟨rfl,rfl⟩))
   by_cases hmj:m=j
   ·subst hmj;exact eff m ls e a w _ hs hl hS hbm hlt hA hB fun e' a' w' hS' hA' hk hs' st=>ih2 _ _ _ _ k (by rw [bset_set];exact hcl.set hm) hs' (by rw [bset_length];exact hl) hS' hA' hk fun e2 a2 w2 hk2 hs2 st2=>hQ e2 a2 w2 hk2 hs2 (st.trans st2 (fun _ h=>h) (fun _ h=>h) (fun _=>⟨rfl,rfl⟩) (fun _=>⟨rfl,rfl⟩))
   have hml:m=l:=hmm.elim (fun h=>absurd h hmi) fun h=>h.elim (fun h=>absurd h hmj) id;subst hml;exact eff m ls e a w _ hs hl hS hbm hlt hA hC fun e' a' w' hS' hA' hk hs' st=>ih3 _ _ _ _ k (by rw [bset_set];exact hcl.set hm) hs' (by rw [bset_length];exact hl) hS' hA' hk fun e2 a2 w2 hk2 hs2 st2=>hQ e2 a2 w2 hk2 hs2 (st.trans st2 (fun _ h=>h) (fun _ h=>h) (fun _=>⟨rfl,rfl⟩) (fun _=>⟨rfl,rfl⟩))
  ·exact h.elim
 | last i=>
  intro ls e a w k hcl hs hl hS hA h hQ;simp only [dRun] at h;split at h
  ·rename_i hr;simp only [Bat] at hr;obtain⟨⟨hr0,hr1⟩,hall⟩:=hr;obtain⟨hr1',hr2,hr3⟩:=rdyB_ready hl hr0;rw [left_bset ls i hr2 hr3];have hdone:=left_zero _ hall;refine⟨fun h0=>(by rw [h0] at hr1';cases hr1'),fun j hj=>?_⟩;have hji:j=i:=by simpa using only_mem hl hr1 j hj
   subst hji;rw [nth_getElem?,Array.getElem?_toList] at h
   cases ho:ops[j]? with
   | none=>simp [ho] at h
   | some o=>
    simp only [ho] at h;have hd:=dst_mem (l:=ops.toList) (i:=j) (o:=o) (by rw [Array.getElem?_toList];exact ho);split at h
    ·rename_i hwa;have hW:WaitsAll ops j:=by
      refine⟨o,ho,fun m hm hne=>?_⟩;unfold waitsAll at hwa;have:=List.all_eq_true.1 hwa m (by simpa using hm);simp only [Bool.or_eq_true,beq_iff_eq] at this;rcases this with (h | h) | h
      ·exact absurd h hne
      ·exact .inl (waitsB_spec h)
      ·obtain⟨m',_,h⟩:=List.any_eq_true.1 h;simp only [Bat] at h;obtain⟨h1,h2⟩:=h;rw [nth_getElem?,Array.getElem?_toList] at h2
       cases hx:ops[m']? with
       | none=>rw [hx] at h2;cases h2
       | some x=>rw [hx] at h2;exact .inr ⟨m',x,hx,waitsB_spec h1,waitsB_spec h2⟩
     have fin:∀(e':Env) (a':Act) (w':World),k e' w'→Sim e' a'→Stp (dstsO ops.toList) false false e e' a a'→anyS P r ops Q PX (Mod D w0) (left (bset ls j)) (ls.toArray.setIfInBounds j true) a' w':=by
      intro e' a' w' hk hs' st;rw [hdone.1,←bset_set];refine⟨?_,hQ _ _ _ hk hs' st⟩
      cases hrd:Region.ready .any ops (bset ls j).toArray with
      | nil=>rfl
      | cons m l=>
       have hm:m∈Region.ready .any ops (bset ls j).toArray:=by rw [hrd];exact Lcs
       obtain⟨hm0,o',ho',_⟩:=mem_ready.1 hm;have hlt:m<(bset ls j).length:=by rw [bset_length,hl];exact (Array.getElem?_eq_some_iff.1 ho').1
       have h2:=hdone.2 m hlt;rw [←bnth_getD] at h2;simp only [Array.getD_eq_getD_getElem?,List.getElem?_toArray,Lge hlt,Option.getD_some] at h2 hm0;rw [h2] at hm0;cases hm0
     unfold wpOpIn;simp only [ho];split at h
     ·rename_i hw;rw [if_pos (wantW_spec hs hw)];split at h
      ·rename_i p hp;refine ef1_sound hcs hs hp h (fun chain w h=>hA chain w h) fun t w' hk=>⟨.inl hW,?_⟩;exact fin _ _ _ hk (hs.put o.dst t) (stp_put hd)
      ·exact h.elim
     ·rename_i hw;rw [if_neg (by rw [wantW_spec hs hw];simp)];exact⟨fun _ _=>trivial,.inl hW,fin _ _ _ h (hs.putO o.dst) (stp_putO hd)⟩
     ·exact h.elim
    ·exact h.elim
  ·exact h.elim
 | split i p q ih1 ih2=>
  intro ls e a w k hcl hs hl hS hA h hQ;simp only [dRun] at h;split at h
  ·rename_i d hd;split at h
   ·rename_i x hx;obtain⟨ht,hf⟩:=h
    cases x with
    | true=>exact ih1 _ _ _ _ k hcl (hs.retell (t:=.one (.leaf (.lit true))) hx rfl) hl hS hA (ht rfl) fun e2 a2 w2 hk2 hs2 st2=>hQ e2 a2 w2 hk2 hs2 ((stp_eset _ _ _ _ [] false false).trans st2 (by simp) (fun _ h=>h) (fun _=>⟨rfl,rfl⟩) (fun _=>⟨rfl,rfl⟩))
    | false=>exact ih2 _ _ _ _ k hcl (hs.retell (t:=.one (.leaf (.lit false))) hx rfl) hl hS hA (hf rfl) fun e2 a2 w2 hk2 hs2 st2=>hQ e2 a2 w2 hk2 hs2 ((stp_eset _ _ _ _ [] false false).trans st2 (by simp) (fun _ h=>h) (fun _=>⟨rfl,rfl⟩) (fun _=>⟨rfl,rfl⟩))
   ·exact h.elim
  ·exact h.elim
theorem draw_sound{cs:Cs}(hcs:∀f,cs.contains f=true→callable P f=true)(hm:P.follows .mixedOrders=true){ops:Array Oper}{Q:Exit→Act→Wp}{r:Option Nat}{id:Nat}
  (hp:pairsOk ops.toList 0 ops.toList=true) (hnd:ops.toList.all (fun o=>!isSelect o.op&&!isDefer o.op)=true) {pl:Pl} {e:Env} {a:Act} {w:World} {k:Env→Wp} (hs:Sim e a)
  (h:drawK w fun D w=>dRun P cs ops.toList D w pl (ops.toList.map fun _=>false) e w k) (hQ:∀e' a' w',k e' w'→Sim e' a'→Stp (dstsO ops.toList) false false e e' a a'→Q .normal a' w')
  (hP:∀chain e' a' w',cs.kp chain w'→Sim e' a'→Stp (dstsO ops.toList) false false e e' a a'→Q (.panic chain) a' w'):(Code.region id ops true).wpIn (FW r) 0 P Q a w:=by
 obtain⟨D,h⟩:=h;have:=dRun_sound (r:=r) (Q:=Q) (cs:=cs) (PX:=fun ch a' w'=>cs.kp ch w'∧(∀t,t∉dstsO ops.toList→a'.tmps[t]? = a.tmps[t]?)∧a'.tmps.size=a.tmps.size∧a'.defers=a.defers) hcs (fun i o ho ch b v u=>by
  have hm:=dst_mem (l:=ops.toList) (i:=i) (o:=o) (by rw [Array.getElem?_toList];exact ho)
  cases hd:o.dst with
  | none=>exact Iff.rfl
  | some d=>
   have h1:∀t,t∉dstsO ops.toList→(b.put (some d) v).tmps[t]? = b.tmps[t]?:=fun t ht=>by
    have:d≠t:=fun e=>ht (e▸hm d hd);simp [Act.put,Array.getElem?_setIfInBounds,this]
   have h2:(b.put (some d) v).tmps.size=b.tmps.size:=by simp [Act.put]
   have h3:(b.put (some d) v).defers=b.defers:=rfl;rw [h2,h3];exact⟨fun h=>⟨h.1,fun t ht=>(h1 t ht).symm.trans (h.2.1 t ht),h.2.2⟩,fun h=>⟨h.1,fun t ht=>(h1 t ht).trans (h.2.1 t ht),h.2.2⟩⟩) hp (List.all_eq_true.1 hnd) pl _ e a w.drew k (fun m x _ hm=>by
  exfalso;rw [bnth_getD] at hm;have hz:∀(l:List Oper) (m:Nat),bnth (l.map fun _=>false) m=false:=by
   intro l
   induction l with
   | nil=>intro m;rfl
   | cons x l ih=>intro m;cases m with
    | zero=>rfl
    | succ m=>exact ih m
  rw [hz] at hm;cases hm) hs (by simp) (Mod.refl D _) (fun ch w' h=>⟨h,fun _ _=>rfl,rfl,rfl⟩) h hQ
 have hl:left (ops.toList.map fun _=>false)=ops.size:=by
  rw [←Array.length_toList];generalize ops.toList=l
  induction l with
  | nil=>rfl
  | cons x l ih=>simp [left,ih]
 have ha:(ops.toList.map fun _=>false).toArray=Array.replicate ops.size false:=by
  apply Array.ext';simp [List.map_const']
 rw [hl,ha] at this;refine wpIn_mono (wpIn_region_any hm (anyS_any _ _ _ _ this)) fun x a' w' hx=>?_
 cases x with
 | panic ch=>
  obtain⟨h1,h2,h3,h4⟩:=hx;exact hP ch ⟨[],e.n,e.calls,e.marks⟩ a' w' h1 ⟨h3.trans hs.size,fun t v h=>by simp [eget,lget] at h,h4.trans hs.dfs⟩ ⟨h2,fun _=>rfl,fun _=>rfl,rfl⟩
 | _=>first | exact hx | exact hx.elim
end Go.Vw
namespace Go.Vw
variable {P:Program}
structure SimT(e:Env)(a:Act):Prop where
 size:a.tmps.size=e.n
 get:∀t v,eget e t=some v→a.tmps[t]? = some v.toV
theorem Sim.t{e:Env}{a:Act}(h:Sim e a):SimT e a:=⟨h.size,h.get⟩
theorem SimT.learn{e:Env}{a:Act}(h:SimT e a){d:Nat}{t:TV}(ht:a.tmps[d]? = some t.toV):SimT (eset e d t) a:=by
 refine⟨by simp [eset,h.size],fun m v hv=>?_⟩;rw [eget_eset] at hv;split at hv
 ·split at hv
  ·rename_i hm;subst hm;cases hv;exact ht
  ·exact h.get m v hv
 ·exact h.get m v hv
theorem keepT_get:∀(l:List (Nat×TV)) (ks:List Nat) (t:Nat) (v:TV),lget (keepT l ks) t=some v→t∈ks∧lget l t=some v
 | l,[],t,v,h=>by simp [keepT,lget] at h
 | l,k::ks,t,v,h=>by
  simp only [keepT] at h;split at h
  ·rename_i u hu;rw [lget_cons] at h;split at h
   ·rename_i hk;subst hk;cases h;exact⟨Lcs,hu⟩
   ·obtain⟨h1,h2⟩:=keepT_get l ks t v h;exact⟨Lmc _ h1,h2⟩
  ·obtain⟨h1,h2⟩:=keepT_get l ks t v h;exact⟨Lmc _ h1,h2⟩
theorem keep_sim{e:Env}{a a':Act}{ks ds:List Nat}(hs:SimT e a)(hk:∀k∈ks,k∉ds)(ht:∀t,t∉ds→a'.tmps[t]? = a.tmps[t]?)(hsz:a'.tmps.size=a.tmps.size):SimT (keep ks e) a':=
 ⟨hsz.trans hs.size,fun t v hv=>by
  obtain⟨h1,h2⟩:=keepT_get e.t ks t v hv;rw [ht t (hk t h1)];exact hs.get t v h2⟩
theorem marks_inj{m:List Nat}{x:LV}{d:Den .marks}(hx:x=LV.mk .marks d)(h:x.toV=(LV.marks m).toV):x = .marks m:=by
 subst hx;have h':(Value.func (.func 0) (List.map (fun r=>Value.map (some r)) d).toArray #[])=Value.func (.func 0) (List.map (fun r=>Value.map (some r)) m).toArray #[]:=h;injection h' with _ h2 _;have h3:List.map (fun r=>Value.map (some r)) d=List.map (fun r=>Value.map (some r)) m:=by
  have:=congrArg Array.toList h2;simpa using this
 have:d=m:=by
  have hinj:∀(a b:List Nat),List.map (fun r=>Value.map (some r)) a=List.map (fun r=>Value.map (some r)) b→a=b:=by
   intro a
   induction a with
   | nil=>intro b hb;cases b with
    | nil=>rfl
    | cons=>simp at hb
   | cons x a ih=>intro b hb;cases b with
    | nil=>simp at hb
    | cons y b=>simp at hb;rw [hb.1,ih b (by simpa using hb.2)]
  exact hinj _ _ h3
 subst this;rfl
theorem Ty.drop:∀{k1 ks:List Kd} {l:List LV},Ty (k1++ks) l→Ty ks (l.drop k1.length)
 | [],_,_,h=>by simpa using h
 | _::k1,ks,[],h=>h.elim
 | _::k1,ks,_::l,h=>by simpa using Ty.drop (k1:=k1) h.2
theorem rebuild_sim{e':Env}{a':Act}(hs:SimT e' a'):∀(sl:Slots) (l l':List LV) (E:Env),collect sl e'=some l→l'.map LV.toV=l.map LV.toV→Ty (slotKds sl) l'→SimT E a' →
  SimT (rebuild sl l' E) a'∧(rebuild sl l' E).calls=E.calls∧(rebuild sl l' E).n=E.n∧(rebuild sl l' E).marks=if hasMarks sl then e'.marks else E.marks
 | [],l,l',E,_,_,_,hE=>⟨hE,rfl,rfl,rfl⟩
 | .tmp t (.leaf k)::sl,l,l',E,hc,hm,hT,hE=>by
  simp only [collect] at hc;split at hc
  ·rename_i x l2 _ hx hl2;rename_i heq;cases hc;obtain⟨x',l2',rfl,h1,h2⟩:=map_eq_cons' hm;have:=rebuild_sim hs sl l2 l2' (eset E t (.one (.leaf x'))) hl2 h2 hT.2 (hE.learn (by rw [hs.get t _ hx];simp [TV.toV,AV.toV,h1]));exact this
  ·rename_i heq _ _;cases heq
  ·cases hc
 | .tmp t (.agg ks)::sl,l,l',E,hc,hm,hT,hE=>by
  simp only [collect] at hc;split at hc
  ·rename_i heq _ _;cases heq
  ·rename_i ks' xs l2 heq hx hl2;cases heq;split at hc
   ·rename_i hlen;cases hc;have hl':(l'.take ks.length).map LV.toV=xs.map LV.toV:=by
     rw [List.map_take,hm,List.map_append,List.take_left' (by simp [hlen])]
    have hd':(l'.drop ks.length).map LV.toV=l2.map LV.toV:=by
     rw [List.map_drop,hm,List.map_append,List.drop_left' (by simp [hlen])]
    have:=rebuild_sim hs sl l2 (l'.drop ks.length) (eset E t (.one (.agg (l'.take ks.length)))) hl2 hd' (Ty.drop hT) (hE.learn (by rw [hs.get t _ hx];simp [TV.toV,AV.toV,hl']))
    cases l' with
    | nil=>exact this
    | cons y l'=>exact this
   ·cases hc
  ·cases hc
 | .marks::sl,l,l',E,hc,hm,hT,hE=>by
  simp only [collect] at hc;split at hc
  ·rename_i l2 hl2;cases hc;obtain⟨x',l2',rfl,h1,h2⟩:=map_eq_cons' hm;obtain⟨d,hd⟩:=hT.1;have:=marks_inj hd h1;subst this;have hE':SimT ⟨E.t,E.n,E.calls,e'.marks⟩ a':=⟨hE.size,hE.get⟩;obtain⟨r1,r2,r3,r4⟩:=rebuild_sim hs sl l2 l2' ⟨E.t,E.n,E.calls,e'.marks⟩ hl2 h2 hT.2 hE';refine⟨r1,r2,r3,?_⟩;have r4':(rebuild (.marks::sl) (.marks e'.marks::l2') E).marks=if hasMarks sl then e'.marks else e'.marks:=r4;rw [r4'];have:hasMarks (.marks::sl)=true:=rfl;rw [if_pos this];split<;>rfl
  ·cases hc
theorem joinOk_spec{sl:Slots}{ks:List Nat}{c:Code}(h:joinOk sl ks c=true):defC c=false∧(rngC c=false∨hasMarks sl=true)∧∀k∈ks,k∉dsts c:=by
 unfold joinOk at h;simp only [Bat,Bool.not_eq_true',Bool.or_eq_true] at h;refine⟨h.1.1,h.1.2,fun k hk=>?_⟩;have:=List.all_eq_true.1 h.2 k hk;simpa using this
theorem rebuild_full{c:Code}{sl:Slots}{ks:List Nat}{e e':Env}{a a':Act}(hj:joinOk sl ks c=true)(hs:Sim e a)(hs':Sim e' a')(st:Stp (dsts c) (rngC c) (defC c) e e' a a'){l l':List LV}
  (hc:collect sl e'=some l) (hm:l'.map LV.toV=l.map LV.toV) (hT:Ty (slotKds sl) l') :
  Sim (rebuild sl l' (keep ks e)) a'∧Stp (dsts c) (rngC c) (defC c) e (rebuild sl l' (keep ks e)) a a':=by
 obtain⟨j1,j2,j3⟩:=joinOk_spec hj;have hsz:a'.tmps.size=a.tmps.size:=by rw [hs'.size,hs.size,st.n]
 obtain⟨r1,r2,r3,r4⟩:=rebuild_sim hs'.t sl l l' (keep ks e) hc hm hT (keep_sim hs.t j3 st.tmps hsz);have hmk:(rebuild sl l' (keep ks e)).marks=e'.marks:=by
  rw [r4];split
  ·rfl
  ·rename_i hn;rcases j2 with h | h
   ·exact (st.marks h).symm
   ·exact absurd h hn
 have hcl:(rebuild sl l' (keep ks e)).calls=e'.calls:=r2.trans (st.calls j1).symm;refine⟨⟨r1.size,r1.get,?_⟩,st.tmps,fun h=>r2,fun h=>?_,r3⟩
 ·rw [hs'.dfs];unfold dfOf;rw [hmk,hcl]
 ·rw [hmk];exact st.marks h
theorem meet_spec{sl:Slots}{g:List LV→Wp}{e:Env}{w:World}(h:meet sl (lam (slotKds sl) g) e w):∃l l',collect sl e=some l∧g l' w∧l'.map LV.toV=l.map LV.toV∧Ty (slotKds sl) l':=by
 unfold meet at h;split at h
 ·rename_i l hl;obtain⟨l',h1,h2,h3⟩:=app_noW h;exact⟨l,l',hl,h1,h2,h3⟩
 ·exact h.elim
theorem withJ_sound{j:Option Slots}{ks:List Nat}{c:Code}{e:Env}{a:Act}{kn:Env→Wp}{A:(Env→Wp)→Prop}(h:withJ j ks c e kn A)(hs:Sim e a){Q:Act→Wp}{G:Prop}
  (hN:∀e' a' w',kn e' w'→Sim e' a'→Stp (dsts c) (rngC c) (defC c) e e' a a'→Q a' w')
  (hG:∀kn',A kn'→(∀e' a' w',kn' e' w'→Sim e' a'→Stp (dsts c) (rngC c) (defC c) e e' a a'→Q a' w')→G):G:=by
 unfold withJ at h;split at h
 ·exact hG kn h hN
 ·rename_i sl;split at h
  ·rename_i hj;refine hG _ h fun e' a' w' hm hs' st=>?_;obtain⟨l,l',hc,hk,hmap,hT⟩:=meet_spec hm;obtain⟨g1,g2⟩:=rebuild_full hj hs hs' st hc hmap hT;exact hN _ _ _ hk g1 g2
  ·exact h.elim
theorem defC_region{i:Nat}{ops:Array Oper}{b:Bool}:defC (.region i ops b)=dfrO ops.toList:=rfl
end Go.Vw
namespace Go.Vw
variable {P:Program}
theorem sub_l{a b:List Nat}:∀t,t∈a→t∈a++b:=fun _ h=>Lml _ h
theorem sub_r{a b:List Nat}:∀t,t∈b→t∈a++b:=fun _ h=>Lmr _ h
def jcode:Option Nat→Code
 | none=>.ret
 | some i=>.exit i
def recOf(rec:Loop)(js:List (Option Nat)):LSt→Obj
 | .ready=>.loop {rec with state:=.ready,pending:=none}
 | .busy=>.loop {rec with state:=.busy,pending:=none}
 | .done j=>.loop {rec with state:=.done,pending:=(js[j]?).map jcode}
 | .over none=>.loop {rec with state:=.exhausted,pending:=none}
 | .over (some j)=>.loop {rec with state:=.exhausted,pending:=(js[j]?).map jcode}
theorem recOf_loop(rec:Loop)(js:List (Option Nat))(s:LSt):isLoop (some (recOf rec js s))=true:=by
 cases s with
 | over j=>cases j<;>rfl
 | _=>rfl
theorem idxOf_get:∀(js:List (Option Nat)) (j:Option Nat),j∈js→js[idxOf j js]? = some j
 | [],j,h=>by simp at h
 | x::r,j,h=>by
  unfold idxOf;by_cases hx:x=j
  ·subst hx;simp
  ·have hb:(x==j)=false:=by simpa using hx
   simp only [hb,Bool.false_eq_true,if_false];rw [List.getElem?_cons_succ];exact idxOf_get r j ((List.mem_cons.1 h).elim (fun h=>absurd h.symm hx) id)
theorem setPs_sim:∀(ts:List Tmp) (vs:List AV) (e:Env) (t:Array Value),SimT e {tmps:=t,defers:=[]}→ts.length=vs.length →
  SimT (setPs ts vs e) {tmps:=(ts.zip (vs.map AV.toV)).foldl (fun t (x:Tmp×Value)=>t.setIfInBounds x.1 x.2) t,defers:=[]}∧(setPs ts vs e).calls=e.calls∧(setPs ts vs e).marks=e.marks
 | [],[],e,t,h,_=>⟨h,rfl,rfl⟩
 | [],_::_,_,_,_,h=>by simp at h
 | _::_,[],_,_,_,h=>by simp at h
 | x::ts,v::vs,e,t,h,hl=>by
  have hset:SimT (eset e x (.one v)) {tmps:=t.setIfInBounds x v.toV,defers:=[]}:=by
   have hs:Sim ⟨e.t,e.n,[],[]⟩ {tmps:=t,defers:=[]}:=⟨h.size,h.get,rfl⟩;have:=hs.set x (.one v);exact⟨this.size,this.get⟩
  have:=setPs_sim ts vs (eset e x (.one v)) _ hset (by simpa using hl);exact this
theorem mkAVs_length:∀(ss:List Sh) (l:List LV),l.length=(kdsOf ss).length→(mkAVs ss l).length=ss.length
 | [],_,_=>rfl
 | .leaf k::ss,[],h=>by simp [kdsOf,Sh.kds] at h
 | .leaf k::ss,x::l,h=>by
  simp only [mkAVs,Llc];rw [mkAVs_length ss l (by simp [kdsOf,Sh.kds] at h;exact h)]
 | .agg ks::ss,l,h=>by
  simp only [mkAVs,Llc];rw [mkAVs_length ss (l.drop ks.length) (by simp [kdsOf,Sh.kds] at h;simp [h])]
theorem app_lam_bad{R:Type}{bad:R}{ks:List Kd}{g:List LV→R}{l:List LV}:app bad ks (lam ks g) l=bad∨∃l',app bad ks (lam ks g) l=g l'∧l'.map LV.toV=l.map LV.toV∧Ty ks l':=app_lam bad ks g l
abbrev lrec(fn:FuncId)(t:Array Value)(ps:Array Tmp)(asg body:Code)(dfs:Nat):Loop:={state:=.ready,pending:=none,fn,tmps:=t,params:=ps,assign:=asg,body,defers:=dfs}
def RK(K:Bool→Wp):Ending→Wp:=fun e w'=>∃l:List LV,e = .returned ((RT.one (.leaf .bool)).mk l).toV∧app noW (RT.one (.leaf .bool)).kds K l w'
theorem yield_at{fn:FuncId}{t:Array Value}{ps:Array Tmp}{asg body:Code}{dfs l:Nat}{ss:List Sh}(hlen:ss.length=ps.size){js:List (Option Nat)}{xs:List LV}{w':World}{K:Bool→Wp}
  (hrec:w'.heap[l]? = some (recOf (lrec fn t ps asg body dfs) js .ready)) (hxs:xs.length=(kdsOf ss).length)
  (h:asg.wpIn (FW (some l)) 0 P (Exit.then (fun a₁ w₁=>∃w₂,(Instr.beginRound l).run P w₁ = .ok () w₂∧body.wpIn (FW (some l)) 0 P (roundPost P l (RK K)) a₁ w₂) (fun _ _ _=>False))
   {tmps:=(ps.toList.zip ((mkAVs ss xs).map AV.toV)).foldl (fun t (x:Tmp×Value)=>t.setIfInBounds x.1 x.2) t,defers:=[]} w') :
  callV P (.func (.yield l) #[] #[]) (mkAVs ss xs) w' (.one (.leaf .bool)) K:=by
 refine .inr ⟨l,#[],#[],rfl,rfl,fn,(ps.toList.zip ((mkAVs ss xs).map AV.toV)).foldl (fun t (x:Tmp×Value)=>t.setIfInBounds x.1 x.2) t,asg,body,?_,?_⟩
 ·rw [run_yield hrec (by simp [mkAVs_length ss xs hxs,hlen])];congr 2;rw [←Array.foldl_toList,Array.toList_zip]
 ·exact roundIn_of_wpIn trivial h
theorem rp_normal{rec:Loop}{js:List (Option Nat)}{l:Nat}{K:Bool→Wp}{u:World}{a:Act}(h:u.heap[l]? = some (recOf rec js .busy)∧K true (u.putObj l (recOf rec js .ready))):roundPost P l (RK K) .normal a u:=
 ⟨_,_,run_endRound none h.1,[.bool true],rfl,h.2⟩
theorem rp_exit{rec:Loop}{js:List (Option Nat)}{l i:Nat}{K:Bool→Wp}{u:World}{a:Act}(hj:some i∈js)(h:u.heap[l]? = some (recOf rec js .busy)∧K false (u.putObj l (recOf rec js (.done (idxOf (some i) js))))):roundPost P l (RK K) (.exit i) a u:=by
 refine⟨_,_,run_endRound (some (.exit i)) h.1,[.bool false],rfl,?_⟩;have:=h.2;simp only [recOf,idxOf_get js _ hj] at this;exact this
theorem rp_ret{rec:Loop}{js:List (Option Nat)}{l:Nat}{K:Bool→Wp}{u:World}{a:Act}(hj:none∈js)(h:u.heap[l]? = some (recOf rec js .busy)∧K false (u.putObj l (recOf rec js (.done (idxOf none js))))):roundPost P l (RK K) .ret a u:=by
 refine⟨_,_,run_endRound (some .ret) h.1,[.bool false],rfl,?_⟩;have:=h.2;simp only [recOf,idxOf_get js _ hj] at this;exact this
theorem recOf_over{rec:Loop}{js:List (Option Nat)}{j:Nat}{jj:Option Nat}(h:js[j]? = some jj):recOf rec js (.over (some j)) = .loop {rec with state:=.exhausted,pending:=some (jcode jj)}:=by simp [recOf,h]
theorem recOf_done{rec:Loop}{js:List (Option Nat)}{j:Nat}{jj:Option Nat}(h:js[j]? = some jj):recOf rec js (.done j) = .loop {rec with state:=.done,pending:=some (jcode jj)}:=by simp [recOf,h]
theorem after_sound{Q:Exit→Act→Wp}{r:Option Nat}{rec:Loop}{js:List (Option Nat)}{l b:Nat}{a:Act}{An:Nat→Wp}{As:List (Nat→Wp)}{w3:World}
  (h:(w3.heap[l]? = some (recOf rec js .ready)∧An b (w3.putObj l (recOf rec js (.over none))))∨(∃j A,As[j]? = some A∧w3.heap[l]? = some (recOf rec js (.done j))∧A b (w3.putObj l (recOf rec js (.over (some j))))))
  (hn:∀w',An b w'→Q .normal a w') (hj:∀(j:Nat) (A:Nat→Wp),As[j]? = some A→∃jj,js[j]? = some jj∧∀w',A b w'→match jj with | none=>Q .ret a w' | some i=>Q (.exit i) a w') (v:Value):rangePost (FW r) 0 P l Q a (.returned v) w3:=by
 rcases h with⟨hrec,hA⟩ | ⟨j,A,hA1,hrec,hA⟩
 ·exact⟨none,_,run_endLoop hrec (by simp),hn _ hA⟩
 ·obtain⟨jj,hjj,hg⟩:=hj j A hA1;rw [recOf_done hjj] at hrec;rw [recOf_over hjj] at hA;refine⟨some (jcode jj),_,run_endLoop hrec (by simp),?_⟩
  cases jj with
  | none=>exact wpIn_ret (hg _ hA)
  | some i=>exact wpIn_exit (hg _ hA)
theorem call_sound{r:Option Nat}{g:Operand}{a:Act}{v:Value}(hgv:a.eval g=v){l:Nat}{w1:World}{K:Wp}{Q:Exit→Act→Wp}{a':Act}(h:callF P v [.leaf (.val (.func (.yield l) #[] #[]))] w1 (.tup []) K)
  (hk:∀w3 u,K w3→rangePost (FW r) 0 P l Q a' (.returned u) w3) :
  ∃(d:Deferred) (w₁':World) (f:FuncId) (args:Array Value) (w₂:World),(resolve a.eval (rangeCall g l) 0).run P w1 = .ok d w₁'∧(∀f',Target.leads P w₁' d.target d.args=some f'→(FW r).fn f') ∧
   (invoke d.target d.args).run P w₁' = .ok (.enter f args) w₂∧((FW r).depth.isSome=true→1≤0)∧CallsIn (FW r) (0-1) P f args w₂ (rangePost (FW r) 0 P l Q a'):=by
 obtain⟨f,x,c,rfl,hf,hc⟩:=h;have hc':CallsIn (FW r) (0-1) P f (x++#[.func (.yield l) #[] #[]]++c) w1 (rangePost (FW r) 0 P l Q a'):=by
  refine calls_in (Calls.mono hc ?_);rintro e' w3 ⟨lr,rfl,hkr⟩
  cases lr with
  | cons y lr=>exact hkr.elim
  | nil=>exact hk w3 _ hkr
 refine⟨⟨.fn (.func f) c,x++#[.func (.yield l) #[] #[]]⟩,w1,f,_,w1,?_,fun _ _=>trivial,?_,(fun h=>by cases h),hc'⟩
 ·show (resolve a.eval ⟨.value g,#[.const (.func (.yield l) #[] #[])],#[]⟩ 0).run P w1=_;have hm:#[Operand.const (.func (.yield l) #[] #[])].map a.eval = #[.func (.yield l) #[] #[]]:=by simp [Act.eval]
  simp only [resolve,Deferred.ofValue,hgv,hm];rfl
 ·simp [invoke,run_callFunc hf]
theorem stepR_scope{P:Program}{b:Frame}{a:Act}{k:List Item}{cs:List Frame}{w:World}{c:Code}:step P (lone (b.atR a (.code (.scope c)::k)) cs w) = .next (lone (b.atR a (.code c :: .inScope c::k)) cs w):=
 step_lone_go (by simp [stepG,stepG.exec,Frame.atR])
theorem stepR_inScope{P:Program}{b:Frame}{a:Act}{k:List Item}{cs:List Frame}{w:World}{c:Code}:step P (lone (b.atR a (.inScope c::k)) cs w) = .next (lone (b.atR a k) cs w):=
 step_lone_go (by simp [stepG,stepG.exec,Frame.atR])
theorem wpIn_scope{F:Fence}{n:Nat}{P:Program}{c:Code}{Q:Exit→Act→Wp}{a:Act}{w:World}(h:c.wpIn F n P (Exit.noGoto Q) a w):(Code.scope c).wpIn F n P Q a w:=by
 intro b k cs hro hb hr;have h0:(lone (b.atR a (.code (.scope c)::k)) cs w).fenced P F:=fenced_calm hb hr rfl;obtain⟨e,a₁,w₁,hq,harr⟩:=h b (.inScope c::k) cs hro hb hr
 cases e with
 | normal=>exact⟨.normal,a₁,w₁,hq,.head h0 stepR_scope (StepsIn.trans harr (.one (fenced_calm hb hr rfl) stepR_inScope))⟩
 | exit id'=>
  have hx:exitTo id' (.inScope c::k)=exitTo id' k:=by simp [exitTo]
  exact⟨.exit id',a₁,w₁,hq,fun k' hk=>.head h0 stepR_scope (harr.1 k' (by rw [hx];exact hk)),
   fun hr' hk=>let ⟨k₁,h1,h2⟩:=harr.2 hr' (by rw [hx];exact hk);⟨k₁,h1,.head h0 stepR_scope h2⟩⟩
 | goto l=>exact hq.elim
 | ret=>exact⟨_,a₁,w₁,hq,.of_steps (.one h0 stepR_scope) harr⟩
 | panic ch=>exact⟨_,a₁,w₁,hq,.of_steps (.one h0 stepR_scope) harr⟩
 | outgrown=>exact⟨_,a₁,w₁,hq,.of_steps (.one h0 stepR_scope) harr⟩
theorem W_sound{cs:Cs}(hcs:∀f,cs.contains f=true→callable P f=true)(hm:P.follows .mixedOrders=true):∀(c:Code) (r:Option Nat) (n:Ann) (e:Env) (w:World) (kn:Env→Wp) (kx:Nat→Env→Wp) (kr:Env→Wp) (a:Act) (Q:Exit→Act→Wp),
  Sim e a→W P cs r c n e w kn kx kr →
  (∀e' a' w',kn e' w'→Sim e' a'→Stp (dsts c) (rngC c) (defC c) e e' a a'→Q .normal a' w') →
  (∀i e' a' w',i∈(jmps c).filterMap id→kx i e' w'→Sim e' a'→Stp (dsts c) (rngC c) (defC c) e e' a a'→Q (.exit i) a' w') →
  (∀e' a' w',none∈jmps c→kr e' w'→Sim e' a'→Stp (dsts c) (rngC c) (defC c) e e' a a'→Q .ret a' w') →
  (∀chain e' a' w',cs.kp chain w'→Sim e' a'→Stp (dsts c) (rngC c) (defC c) e e' a a'→Q (.panic chain) a' w')→c.wpIn (FW r) 0 P Q a w:=by
 intro c
 induction c generalizing cs with
 | skip=>intro r n e w kn kx kr a Q hs h hN _ _ _;exact wpIn_skip (hN _ _ _ h hs (Stp.refl _ _ _ _ _))
 | label l=>intro r n e w kn kx kr a Q hs h hN _ _ _;exact wpIn_label (hN _ _ _ h hs (Stp.refl _ _ _ _ _))
 | goto l=>intro r n e w kn kx kr a Q hs h;exact h.elim
 | refuse s=>intro r n e w kn kx kr a Q hs h;exact h.elim
 | exit i=>intro r n e w kn kx kr a Q hs h _ hX _ _;exact wpIn_exit (hX i _ _ _ (by simp [jmps]) h hs (Stp.refl _ _ _ _ _))
 | ret=>intro r n e w kn kx kr a Q hs h _ _ hR _;exact wpIn_ret (hR _ _ _ (by simp [jmps]) h hs (Stp.refl _ _ _ _ _))
 | region id ops d=>
  intro r n e w kn kx kr a Q hs h hN hX hR hP
  cases d with
  | false=>
   simp only [W] at h;split at h
   ·exact h.elim
   ·rename_i hro;refine withJ_sound h hs hN fun kn' h' hN'=>?_;refine wpIn_region_list (runOps_sound hcs ops.toList e a w kn' ?_ hs h' (fun e' a' w' hk hs' st=>hN' _ _ _ hk hs' st) fun chain e' a' w' hk hs' st=>hP chain _ _ _ hk hs' st);intro hr;have:¬(r.isSome&&defC (.region id ops false))=true:=hro;rw [hr,Bool.true_and] at this;simpa [defC_region] using this
  | true=>
   simp only [W] at h;split at h
   ·rename_i hp;simp only [Bat] at hp;refine withJ_sound h hs hN fun kn' h' hN'=>?_;exact draw_sound hcs hm hp.1 hp.2 hs h' (fun e' a' w' hk hs' st=>hN' _ _ _ hk hs' (st.weaken (fun _ h=>h) (fun _=>rfl) (fun _=>rfl))) fun chain e' a' w' hk hs' st=>hP chain _ _ _ hk hs' (st.weaken (fun _ h=>h) (fun _=>rfl) (fun _=>rfl))
   ·exact h.elim
 | seq x y ihx ihy=>
  intro r n e w kn kx kr a Q hs h hN hX hR hP;simp only [W] at h;refine withJ_sound h hs hN fun kn' h' hN'=>?_;have hor:∀{p q:Bool},(p||q)=false→p=false∧q=false:=fun h=>Bool.or_eq_false_iff.1 h;refine wpIn_seq (ihx hcs r n.fst e w _ kx kr a _ hs h' ?_ ?_ ?_ fun chain e1 a1 w1 hk hs1 st1=>hP chain _ _ _ hk hs1 (st1.weaken sub_l (fun h=>(hor h).1) (fun h=>(hor h).1)))
  ·intro e1 a1 w1 hk hs1 st1;refine ihy hcs r n.snd e1 w1 kn' kx kr a1 Q hs1 hk ?_ ?_ ?_ fun chain e2 a2 w2 hk2 hs2 st2=>hP chain _ _ _ hk2 hs2 (st1.trans st2 sub_l sub_r hor hor)
   ·intro e2 a2 w2 hk2 hs2 st2;exact hN' _ _ _ hk2 hs2 (st1.trans st2 sub_l sub_r hor hor)
   ·intro i e2 a2 w2 hi hk2 hs2 st2;refine hX i _ _ _ ?_ hk2 hs2 (st1.trans st2 sub_l sub_r hor hor);obtain⟨j,hj,hji⟩:=List.mem_filterMap.1 hi;refine List.mem_filterMap.2 ⟨j,?_,hji⟩;simp only [jmps,Lma,List.mem_filter];by_cases hjx:j∈jmps x
    ·exact .inl hjx
    ·exact .inr ⟨hj,by simpa using hjx⟩
   ·intro e2 a2 w2 hi hk2 hs2 st2;refine hR _ _ _ ?_ hk2 hs2 (st1.trans st2 sub_l sub_r hor hor);simp only [jmps,Lma,List.mem_filter];by_cases hjx:none∈jmps x
    ·exact .inl hjx
    ·exact .inr ⟨hi,by simpa using hjx⟩
  ·intro i e1 a1 w1 hi hk hs1 st1;obtain⟨j,hj,hji⟩:=List.mem_filterMap.1 hi;exact hX i _ _ _ (List.mem_filterMap.2 ⟨j,Lml _ hj,hji⟩) hk hs1 (st1.weaken sub_l (fun h=>(hor h).1) (fun h=>(hor h).1))
  ·intro e1 a1 w1 hi hk hs1 st1;exact hR _ _ _ (Lml _ hi) hk hs1 (st1.weaken sub_l (fun h=>(hor h).1) (fun h=>(hor h).1))
 | cond c x y ihx ihy=>
  intro r n e w kn kx kr a Q hs h hN hX hR hP;simp only [W] at h;refine withJ_sound h hs hN fun kn' h' hN'=>?_;have hor:∀{p q:Bool},(p||q)=false→p=false∧q=false:=fun h=>Bool.or_eq_false_iff.1 h;have goX:W P cs r x n.fst e w kn' kx kr→x.wpIn (FW r) 0 P Q a w:=fun h=>by
   refine ihx hcs r n.fst e w kn' kx kr a Q hs h ?_ ?_ ?_ fun chain e1 a1 w1 hk hs1 st1=>hP chain _ _ _ hk hs1 (st1.weaken sub_l (fun h=>(hor h).1) (fun h=>(hor h).1))
   ·intro e1 a1 w1 hk hs1 st1;exact hN' _ _ _ hk hs1 (st1.weaken sub_l (fun h=>(hor h).1) (fun h=>(hor h).1))
   ·intro i e1 a1 w1 hi hk hs1 st1;obtain⟨j,hj,hji⟩:=List.mem_filterMap.1 hi;exact hX i _ _ _ (List.mem_filterMap.2 ⟨j,Lml _ hj,hji⟩) hk hs1 (st1.weaken sub_l (fun h=>(hor h).1) (fun h=>(hor h).1))
   ·intro e1 a1 w1 hi hk hs1 st1;exact hR _ _ _ (Lml _ hi) hk hs1 (st1.weaken sub_l (fun h=>(hor h).1) (fun h=>(hor h).1))
  have goY:W P cs r y n.snd e w kn' kx kr→y.wpIn (FW r) 0 P Q a w:=fun h=>by
   refine ihy hcs r n.snd e w kn' kx kr a Q hs h ?_ ?_ ?_ fun chain e1 a1 w1 hk hs1 st1=>hP chain _ _ _ hk hs1 (st1.weaken sub_r (fun h=>(hor h).2) (fun h=>(hor h).2))
   ·intro e1 a1 w1 hk hs1 st1;exact hN' _ _ _ hk hs1 (st1.weaken sub_r (fun h=>(hor h).2) (fun h=>(hor h).2))
   ·intro i e2 a2 w2 hi hk2 hs2 st2;refine hX i _ _ _ ?_ hk2 hs2 (st2.weaken sub_r (fun h=>(hor h).2) (fun h=>(hor h).2));obtain⟨j,hj,hji⟩:=List.mem_filterMap.1 hi;refine List.mem_filterMap.2 ⟨j,?_,hji⟩;simp only [jmps,Lma,List.mem_filter];by_cases hjx:j∈jmps x
    ·exact .inl hjx
    ·exact .inr ⟨hj,by simpa using hjx⟩
   ·intro e2 a2 w2 hi hk2 hs2 st2;refine hR _ _ _ ?_ hk2 hs2 (st2.weaken sub_r (fun h=>(hor h).2) (fun h=>(hor h).2));simp only [jmps,Lma,List.mem_filter];by_cases hjx:none∈jmps x
    ·exact .inl hjx
    ·exact .inr ⟨hi,by simpa using hjx⟩
  split at h'
  ·rename_i hc;exact wpIn_cond_true (Rq hs hc) (goX h')
  ·rename_i hc;exact wpIn_cond_false (Rq hs hc) (goY h')
  ·rename_i b hc;obtain⟨ht,hf⟩:=h';exact wpIn_cond_split (t:=b) (Rq hs hc) (fun hb=>goX (ht hb)) (fun hb=>goY (hf hb))
  ·exact h'.elim
 | block id c ih=>
  intro r n e w kn kx kr a Q hs h hN hX hR hP;simp only [W] at h;refine withJ_sound h hs hN fun kn' h' hN'=>?_;refine wpIn_block (ih hcs r n.fst e w kn' _ kr a _ hs h' ?_ ?_ ?_ fun chain e1 a1 w1 hk hs1 st1=>hP chain _ _ _ hk hs1 st1)
  ·intro e1 a1 w1 hk hs1 st1;exact hN' _ _ _ hk hs1 st1
  ·intro i e1 a1 w1 hi hk hs1 st1;simp only [Exit.inBlock];split at hk
   ·rename_i hid;rw [if_pos hid];exact hN' _ _ _ hk hs1 st1
   ·rename_i hid;rw [if_neg hid];refine hX i _ _ _ ?_ hk hs1 st1;obtain⟨j,hj,hji⟩:=List.mem_filterMap.1 hi;refine List.mem_filterMap.2 ⟨j,List.mem_filter.2 ⟨hj,?_⟩,hji⟩;simp at hji;subst hji;simpa using hid
  ·intro e1 a1 w1 hi hk hs1 st1;exact hR _ _ _ (List.mem_filter.2 ⟨hi,by simp⟩) hk hs1 st1
 | scope c ih=>
  intro r n e w kn kx kr a Q hs h hN hX hR hP;simp only [W] at h;refine withJ_sound h hs hN fun kn' h' hN'=>?_;refine wpIn_scope (ih hcs r n.fst e w kn' kx kr a _ hs h' ?_ ?_ ?_ fun chain e1 a1 w1 hk hs1 st1=>hP chain _ _ _ hk hs1 st1)
  ·intro e1 a1 w1 hk hs1 st1;exact hN' _ _ _ hk hs1 st1
  ·intro i e1 a1 w1 hi hk hs1 st1;exact hX _ _ _ _ hi hk hs1 st1
  ·intro e1 a1 w1 hi hk hs1 st1;exact hR _ _ _ hi hk hs1 st1
 | loop c ih=>
  intro r n e w kn kx kr a Q hs h hN hX hR hP;simp only [W] at h;split at h
  ·rename_i hj;split at h
   ·rename_i l hl;obtain⟨I,μ,h0,hround⟩:=h;have hor:∀{p:Bool},p=false→p=false∧p=false:=fun h=>⟨h,h⟩;refine wpIn_loop_ghost (fun m a' w'=>∃l' lc e1,I l' w'∧μ l' w'=m∧Sim e1 a'∧Stp (dsts c) (rngC c) (defC c) e e1 a a'∧collect n.loop e1=some lc∧l'.map LV.toV=lc.map LV.toV) (μ l w) ⟨l,l,e,h0,rfl,hs,Stp.refl _ _ _ _ _,hl,rfl⟩ ?_;rintro m a1 w1 ⟨l1,lc,e1,hI,rfl,hs1,st1,hc1,hm1⟩;have hr:=hround l1 w1 hI;rcases app_lam_bad (bad:=fun _ _=>False) (ks:=slotKds n.loop) (l:=l1) (g:=fun l w again=>W P cs r c n.fst (rebuild n.loop l (keep n.keeps e)) w (meet n.loop again) kx kr) with hb | ⟨l2,hb,hm2,hT2⟩
    ·rw [hb] at hr;exact hr.elim
    ·rw [hb] at hr;obtain⟨hs2,st2⟩:=rebuild_full hj hs hs1 st1 hc1 (hm2.trans hm1) hT2;refine ih hcs r n.fst _ w1 _ kx kr a1 _ hs2 hr ?_ ?_ ?_ fun chain e3 a3 w3 hk hs3 st3=>hP chain _ _ _ hk hs3 (st2.trans st3 (fun _ h=>h) (fun _ h=>h) hor hor)
     ·intro e3 a3 w3 hk hs3 st3;obtain⟨l3,l3',hc3,⟨hI3,hlt⟩,hm3,hT3⟩:=meet_spec hk;exact⟨_,hlt,l3',l3,e3,hI3,rfl,hs3,st2.trans st3 (fun _ h=>h) (fun _ h=>h) hor hor,hc3,hm3⟩
     ·intro i e3 a3 w3 hi hk hs3 st3;exact hX i _ _ _ hi hk hs3 (st2.trans st3 (fun _ h=>h) (fun _ h=>h) hor hor)
     ·intro e3 a3 w3 hi hk hs3 st3;exact hR _ _ _ hi hk hs3 (st2.trans st3 (fun _ h=>h) (fun _ h=>h) hor hor)
   ·exact h.elim
  ·exact h.elim
 | rangeFunc g ps asg body iha ihb=>
  intro r n e w kn kx kr a Q hs h hN hX hR hP;simp only [W] at h;split at h
  ·rename_i v hv;split at h
   ·rename_i hlen;have hlen':n.rng.length=ps.size:=by simpa using hlen
    obtain⟨hl0,hk⟩:=h;have hgv:a.eval g=v:=Rq hs hv;refine wpIn_rangeFunc fun fn _=>?_;have main:∀(w1:World) (mark:List Deferred) (dfs:Nat) (ms:List Nat),w1=(match (generalizing:=false) r with | none=>w.alloc (.deferred (some [])) | some _=>w) →
      ms=(match (generalizing:=false) r with | none=>w.heap.size::e.marks | some _=>e.marks)→mark++a.defers=dfOf ⟨e.t,e.n,e.calls,ms⟩ →
      (Instr.enterLoop fn a.tmps ps asg body (FW r).round).run P w = .ok (w1.heap.size,mark) (w1.alloc (.loop (lrec fn a.tmps ps asg body dfs))) →
      ∃(l:Nat) (mark:List Deferred) (w₁:World) (d:Deferred) (w₁':World) (f:FuncId) (args:Array Value) (w₂:World),
       (Instr.enterLoop fn a.tmps ps asg body (FW r).round).run P w = .ok (l,mark) w₁ ∧
       (resolve a.eval (rangeCall g l) 0).run P w₁ = .ok d w₁' ∧
       (∀f',Target.leads P w₁' d.target d.args=some f'→(FW r).fn f') ∧
       (invoke d.target d.args).run P w₁' = .ok (.enter f args) w₂ ∧
       ((FW r).depth.isSome=true→1≤0) ∧
       CallsIn (FW r) (0-1) P f args w₂ (rangePost (FW r) 0 P l Q {a with defers:=mark++a.defers}):=by
     intro w1 mark dfs ms hw1 hms hdf hent;have hin:=hk (recOf (lrec fn a.tmps ps asg body dfs) (jmps body)) w1 w1.heap.size (fun s=>recOf_loop _ _ s) hw1 rfl ?_
     ·have hst:Stp (dsts (.rangeFunc g ps asg body)) (rngC (.rangeFunc g ps asg body)) (defC (.rangeFunc g ps asg body)) e ⟨e.t,e.n,e.calls,ms⟩ a {a with defers:=mark++a.defers}:=
       ⟨fun _ _=>rfl,fun _=>rfl,(fun h=>by cases h),rfl⟩
      have hsm:Sim ⟨e.t,e.n,e.calls,ms⟩ {a with defers:=mark++a.defers}:=⟨hs.size,hs.get,hdf⟩;have hms':∀r':Nat,r'=w.heap.size→(match (generalizing:=false) r with | none=>r'::e.marks | some _=>e.marks)=ms:=by rintro _ rfl;exact hms.symm
      have:=call_sound (Q:=Q) (a':={a with defers:=mark++a.defers}) (r:=r) hgv hin fun w3 u hK=>after_sound (rec:=lrec fn a.tmps ps asg body dfs) (js:=jmps body) (b:=w.heap.size)
       (An:=fun r' w'=>kn ⟨e.t,e.n,e.calls,match (generalizing:=false) r with | none=>r'::e.marks | some _=>e.marks⟩ w')
       (As:=(jmps body).map fun j r' w'=>match j with | none=>kr ⟨e.t,e.n,e.calls,match (generalizing:=false) r with | none=>r'::e.marks | some _=>e.marks⟩ w' | some i=>kx i ⟨e.t,e.n,e.calls,match (generalizing:=false) r with | none=>r'::e.marks | some _=>e.marks⟩ w') hK ?_ ?_ u
      ·obtain⟨d,w₁',f,args,w₂,h⟩:=this;exact⟨_,mark,_,d,w₁',f,args,w₂,hent,h⟩
      ·intro w' hA;simp only [hms' _ rfl] at hA;exact hN _ _ _ hA hsm hst
      ·intro j A hj;rw [List.getElem?_map] at hj;obtain⟨jj,hjj,rfl⟩:=Option.map_eq_some_iff.1 hj;have hmem:jj∈jmps body:=Lmg hjj;refine⟨jj,hjj,fun w' hA=>?_⟩
       cases jj with
       | none=>simp only [hms' _ rfl] at hA;exact hR _ _ _ hmem hA hsm hst
       | some i=>simp only [hms' _ rfl] at hA;exact hX i _ _ _ (List.mem_filterMap.2 ⟨_,hmem,rfl⟩) hA hsm hst
     ·intro xs w' K hrec happ;rcases app_lam_bad (bad:=fun _ _ _ _=>False) (ks:=kdsOf n.rng) (l:=xs) (g:=fun l w (beg:World→(Wp)→Prop) (next:Wp) (leave:Nat→Wp)=>
       W P cs.calm (some w1.heap.size) asg n.fst (setPs ps.toList (mkAVs n.rng l) ⟨e.t,e.n,[],[]⟩) w
       (fun e1 w1'=>beg w1' fun w2=>W P cs.calm (some w1.heap.size) body n.snd e1 w2 (fun _ w=>next w) (fun i _ w=>leave (idxOf (some i) (jmps body)) w) (fun _ w=>leave (idxOf none (jmps body)) w))
       (fun _ _ _=>False) (fun _ _=>False)) with hb | ⟨l2,hb,hm2,hT2⟩
      ·rw [hb] at happ;exact happ.elim
      ·rw [hb] at happ;have hl2:xs.length=(kdsOf n.rng).length:=by
        rw [←hT2.length];have:=congrArg List.length hm2;simpa using this.symm
       refine yield_at hlen' hrec hl2 ?_;rw [←mkAVs_congr n.rng xs l2 hm2];obtain⟨s1,s2,s3⟩:=setPs_sim ps.toList (mkAVs n.rng l2) ⟨e.t,e.n,[],[]⟩ a.tmps ⟨hs.size,hs.get⟩ (by rw [mkAVs_length n.rng l2 (by rw [hT2.length]),hlen'];simp);refine iha (cs:=cs.calm) hcs (some w1.heap.size) n.fst _ w' _ _ _ _ _ ⟨s1.size,s1.get,by unfold dfOf;rw [s2,s3];rfl⟩ happ ?_ (fun _ _ _ _ _ h=>h.elim) (fun _ _ _ _ h=>h.elim) (fun _ _ _ _ h=>h.elim);intro e1 a1 w2 hbeg hs1 _;refine⟨_,run_beginRound hbeg.1 rfl,?_⟩;refine ihb (cs:=cs.calm) hcs (some w1.heap.size) n.snd _ _ _ _ _ _ _ hs1 hbeg.2 ?_ ?_ ?_ (fun _ _ _ _ h=>h.elim)
       ·intro e2 a2 w4 hk2 _ _;exact rp_normal hk2
       ·intro i e2 a2 w4 hi hk2 _ _;obtain⟨j,hj,hji⟩:=List.mem_filterMap.1 hi;simp at hji;subst hji;exact rp_exit hj hk2
       ·intro e2 a2 w4 hi hk2 _ _;exact rp_ret hi hk2
    cases r with
    | none=>
     refine main (w.alloc (.deferred (some []))) [{target:=.collected w.heap.size,args:=#[]}] w.heap.size (w.heap.size::e.marks) rfl rfl ?_ ?_
     ·rw [hs.dfs];rfl
     ·have:=run_enterLoop_outer (P:=P) (w:=w) fn a.tmps ps asg body;rw [World.size_alloc];exact this
    | some l0=>
     have:=hl0 l0 rfl
     cases ho:w.heap[l0]? with
     | none=>rw [ho] at this;cases this
     | some o=>
      cases o with
      | loop rec0=>
       refine main w [] rec0.defers e.marks rfl rfl (by rw [hs.dfs];rfl) ?_;show (Instr.enterLoop fn a.tmps ps asg body (some l0)).run P w=_;unfold Instr.enterLoop;simp only [Sem.run_bind,run_getLoop ho,run_newObj_alloc,Result.andThen,Sem.run_pure]
      | _=>rw [ho] at this;cases this
   ·exact h.elim
  ·exact h.elim
end Go.Vw
namespace Go.Vw
variable {P:Program}
theorem fitL_mk:∀(ss:List Sh) (xs:List AV) (l:List LV),fitL ss xs=some l→mkAVs ss l=xs
 | [],[],l,h=>by simp [fitL] at h;subst h;rfl
 | [],_::_,l,h=>by simp [fitL] at h
 | .leaf k::ss,[],l,h=>by simp [fitL] at h
 | .leaf k::ss,.agg xs::r,l,h=>by simp [fitL] at h
 | .leaf k::ss,.leaf x::r,l,h=>by
  simp only [fitL] at h;obtain⟨l',hl,rfl⟩:=Option.map_eq_some_iff.1 h;simp only [mkAVs,fitL_mk ss r l' hl]
 | .agg ks::ss,[],l,h=>by simp [fitL] at h
 | .agg ks::ss,.leaf x::r,l,h=>by simp [fitL] at h
 | .agg ks::ss,.agg xs::r,l,h=>by
  simp only [fitL] at h;split at h
  ·rename_i hk;obtain⟨l',hl,rfl⟩:=Option.map_eq_some_iff.1 h;simp only [mkAVs,←hk,List.take_left',List.drop_left',fitL_mk ss r l' hl]
  ·cases h
theorem onesOf_map:∀(vs:List TV) (xs:List AV),onesOf vs=some xs→vs=xs.map TV.one
 | [],xs,h=>by simp [onesOf] at h;subst h;rfl
 | .one x::r,xs,h=>by
  simp only [onesOf] at h;obtain⟨l,hl,rfl⟩:=Option.map_eq_some_iff.1 h;simp [onesOf_map r l hl]
 | .tup _::r,xs,h=>by simp [onesOf] at h
def resV(vs:List Value):Value:=match vs with
 | [v]=>v
 | vs=>.tuple vs.toArray
theorem fitR_mk{rt:RT}{vs:List TV}{l:List LV}(h:fitR rt vs=some l):(rt.mk l).toV=resV (vs.map TV.toV):=by
 unfold fitR at h;split at h
 ·cases h
 ·rename_i xs hxs;have hm:=onesOf_map _ _ hxs;subst hm;split at h
  ·rename_i s x;have:=fitL_mk _ _ _ h
   cases s with
   | leaf k=>
    cases l with
    | nil=>simp [mkAVs] at this
    | cons y l=>simp [mkAVs] at this;rw [←this];rfl
   | agg ks=>
    simp [mkAVs] at this
    cases x with
    | leaf x=>simp [fitL] at h
    | agg ys=>
     simp only [fitL] at h;split at h
     ·cases h;simp [RT.mk,TV.toV,resV,AV.toV]
     ·cases h
  ·cases h
  ·cases h
  ·rename_i hne;have:=fitL_mk _ _ _ h;simp only [RT.mk,this,TV.toV,List.map_map];have he:(TV.toV ∘ TV.one)=AV.toV:=rfl;rw [he];unfold resV;split
   ·rename_i v hv;rcases xs with _ | ⟨x,_ | ⟨y,xs⟩⟩
    ·simp at hv
    ·exact absurd rfl (hne x)
    ·simp at hv
   ·rfl
theorem mapM_runL{α:Type}(f:α→Sem Value)(w:World):∀(xs:List α) (vs:List Value),vs.length=xs.length→(∀(i:Nat) (x:α),xs[i]? = some x→∃v,vs[i]? = some v∧(f x).run P w = .ok v w)→(xs.mapM f).run P w = .ok vs w
 | [],[],_,_=>rfl
 | [],_::_,h,_=>by simp at h
 | _::_,[],h,_=>by simp at h
 | x::xs,v::vs,hl,h=>by
  obtain⟨v',hv,hr⟩:=h 0 x rfl;simp at hv;subst hv;rw [List.mapM_cons,Sem.run_bind,hr];simp only [Result.andThen];rw [Sem.run_bind,mapM_runL f w xs vs (by simpa using hl) fun i y hy=>by simpa using h (i+1) y (by simpa using hy)];rfl
theorem mapM_run{α:Type}(f:α→Sem Value)(w:World)(xs:Array α)(vs:List Value)(hl:vs.length=xs.toList.length)(h:∀(i:Nat) (x:α),xs.toList[i]? = some x→∃v,vs[i]? = some v∧(f x).run P w = .ok v w):(xs.mapM f).run P w = .ok vs.toArray w:=by
 rw [Array.mapM_eq_mapM_toList,Sem.run_map,mapM_runL f w xs.toList vs hl h];rfl
def rvS(a:Act):ResultVar→Sem Value
 | .tmp t=>pure (a.tmps.getD t undef)
 | .cell b t=>do loadVar t (←asAddr (a.tmps.getD b undef))
theorem results1_sound{e:Env}{a:Act}(hs:Sim e a)(w:World):∀(rs:List ResultVar) (acc:List TV) (k:List TV→Prop),results1 P e w rs acc k →
  ∃vs:List Value,vs.length=rs.length∧(∀(i:Nat) (x:ResultVar),rs[i]? = some x→∃v,vs[i]? = some v∧(rvS a x).run P w = .ok v w)∧∃ts:List TV,ts.map TV.toV=vs∧k (acc.reverse++ts)
 | [],acc,k,h=>⟨[],rfl,by simp,[],rfl,by simpa [results1] using h⟩
 | .tmp t::r,acc,k,h=>by
  simp only [results1] at h;split at h
  ·rename_i v hv;obtain⟨vs,hl,hr,ts,hts,hk⟩:=results1_sound hs w r (v::acc) k h;refine⟨v.toV::vs,by simp [hl],?_,v::ts,by simp [hts],by simpa using hk⟩;intro i x hx
   cases i with
   | zero=>
    simp at hx;subst hx;refine⟨v.toV,rfl,?_⟩;simp [rvS,Array.getD_eq_getD_getElem?,hs.get t v hv]
   | succ i=>simpa using hr i x (by simpa using hx)
  ·exact h.elim
 | .cell b t::r,acc,k,h=>by
  simp only [results1] at h;split at h
  ·rename_i p hp;obtain⟨v,hk,hr⟩:=lo1_sound hs (fun u=>u=w) (ld_sound w) (o:=⟨none,.load t (.tmp b),0, "",#[],none⟩) hp h;obtain⟨vs,hl,hr',ts,hts,hk'⟩:=results1_sound hs w r (v::acc) k hk;refine⟨v.toV::vs,by simp [hl],?_,v::ts,by simp [hts],by simpa using hk'⟩;intro i x hx
   cases i with
   | zero=>
    simp at hx;subst hx;refine⟨v.toV,rfl,?_⟩;have:=hr w rfl;have he:a.tmps.getD b undef=a.eval (.tmp b):=rfl;simp only [rvS,he,Sem.run_bind];simp only [execOp,Instr.loadAt,Sem.run_bind,Result.andThen] at this;revert this
    cases a.eval (.tmp b) with
    | pointer p=>
     cases p with
     | some ad=>
      simp only [Instr.sureAddr,asAddr,Sem.run_pure,Result.andThen];intro h
      cases hl:(loadVar t ad).run P w with
      | ok x u=>rw [hl] at h;simp at h;obtain⟨rfl,rfl⟩:=h;rfl
      | halt s u=>rw [hl] at h;simp at h
     | none=>intro h;simp [Instr.sureAddr,Result.andThen] at h
    | _=>intro h;simp [Instr.sureAddr,Result.andThen] at h
   | succ i=>simpa using hr' i x (by simpa using hx)
  ·exact h.elim
theorem results_sound{fn:Func}{e:Env}{a:Act}(hs:Sim e a){w:World}{rt:RT}{K:Fn rt.kds (Wp)}
  (h:results1 P e w fn.results.toList [] fun vs=>match fitR rt vs with | some l=>app noW rt.kds K l w | none=>False) :
  ∃v,(results fn a.tmps).run P w = .ok v w∧∃l,v=(rt.mk l).toV∧app noW rt.kds K l w:=by
 obtain⟨vs,hl,hr,ts,hts,hk⟩:=results1_sound hs w _ _ _ h;simp only [List.reverse_nil,List.nil_append] at hk;split at hk
 ·rename_i l hfit;refine⟨resV vs,?_,l,by rw [fitR_mk hfit,hts],hk⟩;have hm:=mapM_run (P:=P) (rvS a) w fn.results vs hl hr;have he:results fn a.tmps=(fn.results.mapM (rvS a) >>= fun vs=>pure (if h:vs.size=1 then vs[0] else .tuple vs)):=by
   unfold results;congr 1
  rw [he,Sem.run_bind,hm];simp only [Result.andThen,Sem.run_pure];congr 1
  match vs with
  | []=>rfl
  | [v]=>rfl
  | v::u::r=>simp [resV]
 ·exact hk.elim
theorem leaves_sound{fn:Func}{R:Ending→Wp}{t:Array Value}:∀(cs:List (FuncId×List AV×List Value)) (w:World) (k:Wp),callsK P cs w k→(∀w',k w'→∃v,(results fn t).run P w' = .ok v w'∧R (.returned v) w') →
  LeavesInM (FW none) 0 P fn t R (cs.map fun c=>{target:=.fn (.func c.1) ⟨c.2.2⟩,args:=(c.2.1.map AV.toV).toArray}) .returning w
 | [],w,k,h,hk=>hk _ h
 | (_,_,_::_)::_,_,_,h,_=>h.elim
 | (f,l,[])::r,w,k,h,hk=>by
  obtain⟨hf,hc⟩:=h;refine⟨(by simp),.inr ⟨(fun h=>by cases h),.func f,#[],f,(l.map AV.toV).toArray,rfl,(by simp [invoke,run_callFunc hf]),(fun _ _=>trivial),?_⟩⟩;refine CallsDIn.mono hc ?_;rintro e u w' ⟨rfl,⟨v,rfl⟩,hk'⟩;exact leaves_sound r w' k hk' hk
theorem close_sound{fn:Func}{R:Ending→Wp}{t:Array Value}(ds:List Deferred):∀(ms:List Nat) (w:World) (k:Wp),closeK ms w k→(∀w',k w'→LeavesInM (FW none) 0 P fn t R ds .returning w') →
  LeavesInM (FW none) 0 P fn t R (ms.map (fun r=>{target:=.collected r,args:=#[]})++ds) .returning w
 | [],w,k,h,hk=>hk _ h
 | r::rs,w,k,h,hk=>⟨(by simp),.inl ⟨r,_,rfl,run_takeDeferred h.1,close_sound ds rs _ k h.2 hk⟩⟩
theorem args0_get:∀(args:List AV) (i t:Nat) (v:TV),lget (args0 i args) t=some v→∃x,args[t-i]? = some x∧i≤t∧v = .one x
 | [],i,t,v,h=>by simp [args0,lget] at h
 | x::r,i,t,v,h=>by
  simp only [args0,lget_cons] at h;split at h
  ·rename_i hit;subst hit;cases h;exact⟨x,by simp,Nlr _,rfl⟩
  ·obtain⟨y,h1,h2,h3⟩:=args0_get r (i+1) t v h;refine⟨y,?_,by omega,h3⟩;have:t-i=(t-(i+1))+1:=by omega
   rw [this];simpa using h1
theorem env0_sim{n:Nat}{args:List AV}(h:args.length≤n):Sim (env0 n args) {tmps:=(args.map AV.toV).toArray++Array.replicate (n-(args.map AV.toV).toArray.size) undef,defers:=[]}:=by
 refine⟨by simp [env0];omega,fun t v hv=>?_,rfl⟩;obtain⟨x,h1,h2,rfl⟩:=args0_get args 0 t v hv;simp only [Nat.sub_zero] at h1;have hlt:t<args.length:=(Les.1 h1).1;rw [Array.getElem?_append_left (by simpa using hlt)];simp [h1,TV.toV]
theorem retW_sound{fn:Func}{rt:RT}{K:Fn rt.kds (Wp)}{e:Env}{a:Act}{w:World}(hs:Sim e a)(h:retW P fn rt K e w)(hx:e.calls=[]∨e.marks=[]) :
  LeavesInM (FW none) 0 P fn a.tmps (fun e' w'=>∃l:List LV,e' = .returned (rt.mk l).toV∧app noW rt.kds K l w') a.defers .returning w:=by
 unfold retW at h;rw [hs.dfs];unfold dfOf;have fin:∀w',(results1 P e w' fn.results.toList [] fun vs=>match fitR rt vs with | some l=>app noW rt.kds K l w' | none=>False) →
   ∃v,(results fn a.tmps).run P w' = .ok v w'∧(∃l:List LV,(Ending.returned v) = .returned (rt.mk l).toV∧app noW rt.kds K l w'):=fun w' h'=>by
  obtain⟨v,hr,l,rfl,hk⟩:=results_sound hs h';exact⟨_,hr,l,rfl,hk⟩
 rcases hx with hx | hx
 ·rw [hx] at h ⊢;exact close_sound _ _ _ _ h fun w' h'=>fin w' h'
 ·rw [hx] at h ⊢;exact leaves_sound _ _ _ h fun w' h'=>fin w' h'
theorem Fq{cs:Cs}(hcs:∀f,cs.contains f=true→callable P f=true)(hm:P.follows .mixedOrders=true){f:FuncId}{fn:Func}(hf:P.funcs[f]? = some fn){n:Ann}{rt:RT}{args:List AV}{K:Fn rt.kds (Wp)}{w:World}
  (h:WF P cs fn n rt args K w):callK P f args w rt K:=by
 unfold WF at h;split at h
 ·rename_i c hb;split at h
  ·rename_i hc;simp only [Bat,Det,Bool.not_eq_true'] at hc;obtain⟨hlen,hx⟩:=hc;refine in_calls (callsIn_of_wp_marks hf hb trivial ?_);have hx':∀e',∀a',Stp (dsts c) (rngC c) (defC c) (env0 fn.ntmps args) e' {tmps:=(args.map AV.toV).toArray++Array.replicate (fn.ntmps-(args.map AV.toV).toArray.size) undef,defers:=[]} a'→e'.calls=[]∨e'.marks=[]:=by
    intro e' a' st;rcases Bool.and_eq_false_iff.1 hx with h | h
    ·exact .inr (st.marks h)
    ·exact .inl (st.calls h)
   refine W_sound (cs:=cs.calm) hcs hm c none n _ w _ _ _ _ _ (env0_sim hlen) h ?_ ?_ ?_ (fun _ _ _ _ h=>h.elim)
   ·intro e' a' w' hk hs st;exact retW_sound hs hk (hx' _ _ st)
   ·intro i e' a' w' _ hk;exact hk.elim
   ·intro e' a' w' _ hk hs st;exact retW_sound hs hk (hx' _ _ st)
  ·exact h.elim
 ·exact h.elim
variable {P:Program}
end Go.Vw
