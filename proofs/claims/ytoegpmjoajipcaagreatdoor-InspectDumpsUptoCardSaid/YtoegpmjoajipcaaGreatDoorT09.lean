/- Part T09. -/
import Derived.Test.YtoegpmjoajipcaaGreatDoorT08
import Derived.Test.YtoegpmjoajipcaaGreatDoorT03
import Derived.Test.YtoegpmjoajipcaaGreatDoorT04
import Derived.Test.YtoegpmjoajipcaaGreatDoorT07
import Derived.Test.YtoegpmjoajipcaaGreatDoorT05
namespace Go.Proofs.YtoegpmjoajipcaaGreatDoor
open Go.Vw
def rdecC(x:Dec)(s:Sl):List Value:=[.int .i64 x.tb,.int .i64 x.tp,(LV.sl s).toV,.int .i64 (x.tp-x.left),(LV.bool x.broken).toV]
theorem rNewDecoder_ok{w:World}{b p:Int}(hp:p≤1099511627776){K:PA→Int→Wp}(hN:trailOk b p=false→∀w',Mod F0 w w'→K none 81 w')
  (hS:trailOk b p=true→∀w' d,Fresh w w' F0 [(d,rdecC (dec0 b p) ⟨none,0,0⟩)]→K (some (d,0)) 0 w') :
  callK Pg c_133 [.agg [.int .i64 b,.int .i64 p]] w (.tup [Lp,Li]) K:=by
 refine go_133 _ _ _ _ ?_;refine (Fresh.start w F0).alK fun b3 w1 f1 _ M1=>?_;have hB:Blk w1 b3 [.int .i64 b,.int .i64 p]:=f1.blk (i:=0) rfl;refine hB.ldK (k:=Ki) b rfl (hB.ldK (k:=Ki) p rfl (rMay_ok hp fun w2 M2=>?_));have hB2:=M2.blk hB id;refine Iq (fun q=>hN (by simpa using q) w2 (mod0 M1 M2)) fun q=>?_;refine hB2.ldK (k:=Ki) b rfl (hB2.ldK (k:=Ki) p rfl ?_);refine (f1.quiet M2).alK fun b11 w3 f3 _ _=>hS (by simpa using q) w3 b11 ?_;have f3:=f3.sub (Lsr _ _);have e:rdecC (dec0 b p) ⟨none,0,0⟩=[.int .i64 b,.int .i64 p,(LV.sl ⟨none,0,0⟩).toV,.int .i64 0,(LV.bool false).toV]:=by
  unfold rdecC dec0;dsimp only;rw [Int.sub_self]
 rw [e];exact f3
theorem rNext_ok{w:World}{d:Nat}{x:Dec}{s:Sl}(hB:Blk w d (rdecC x s))(hl:-1099511627776≤x.left∧x.left≤1099511627776)(hp:0≤x.tp∧x.tp≤1099511627776){K:Int→Wp}(hK:∀w',Mod F0 w w'→K (mnI x.left 4100) w') :
  callK Pg c_134 [Ap (some (d,0))] w Oi K:=by
 refine go_134 _ _ _ ?_;have hB2:=(Mq w).blk hB id;refine⟨F0,Dq (hB2.ldDK (k:=Ki) x.tp id rfl (Dq (hB2.ldDK (k:=Ki) (x.tp-x.left) id rfl ?_)))⟩;have e:w64 (x.tp-(x.tp-x.left))=x.left:=by rw [Wq (by omega) (by omega)];omega
 rw [e];have hK:=hK _ (Mq w);refine join1 (a:=Ki) (fun (n:Int) u=>n=mnI x.left 4100∧u=w.drew) (fun k hk=>Iq (fun q=>hk _ _ ⟨?_,rfl⟩) fun q=>hk _ _ ⟨?_,rfl⟩) ?_
 ·have q:4100<x.left:=odt q;show (4100:Int)=_;unfold mnI;rw [if_pos q]
 ·have q:¬4100<x.left:=odf q;show x.left=_;unfold mnI;rw [if_neg q]
 rintro n u ⟨rfl,rfl⟩;exact hK
set_option maxHeartbeats 1000000 in
theorem rPage_ok{w0 w:World}{D:Nat→Prop}{m ro:BL}{d:Nat}{x:Dec}{s:Sl}(f:At w0 D ((d,rdecC x s)::(m++ro)) w)(v:VecL ro ET s x.body)(hb:x.body.length≤549755813888)(hx:0≤x.left∧x.left≤1099511627776)(hp:0≤x.tp∧x.tp≤1099511627776){sp:Sl}{t:Str}(hr:RdS w ET sp t)(hl:t.length≤1099511627776){K:Int→Wp}
  (hK:∀w' s' ro',At w0 D ((d,rdecC (pageN x t).1 s')::(m++ro')) w'→VecL ro' ET s' (pageN x t).1.body→Mod (fun z=>z=d∨Ks ro z) w w'→K (pageN x t).2 w') :
  callK Pg c_135 [Ap (some (d,0)),Az sp] w Oi K:=by
 refine go_135 _ _ _ _ ?_;have hB:=f.blk (i:=0) rfl;have hm:=mnI_le x.left 4100;refine ifK_f rfl (rNext_ok hB (by omega) hp fun w1 M1=>?_);have f1:At w0 D ((d,rdecC x s)::(m++ro)) w1:=f.keep0 M1 fun _=>id;have hB1:=f1.blk (i:=0) rfl;have bad:∀{u:World},At w0 D ((d,rdecC x s)::(m++ro)) u→Mod F0 w u→(∀w' s' ro',At w0 D ((d,rdecC {x with broken:=true} s')::(m++ro')) w'→VecL ro' ET s' x.body→Mod (fun z=>z=d∨Ks ro z) w w'→K 80 w') →
   dr (some (d,0)) fun b12 o13=>Go.Vw.st u b12 (o13+4) [.lit true] fun W14=>K 80 W14:=fun {u} h hM hK=>
  Dq (h.st 0 rfl (by decide:0+4+1≤5) fun u' h' M'=>hK u' s ro h' v (hM.trans M' (fun _ _ h=>h.elim) fun _ _ h=>.inl h))
 have eP:pageN x t=if x.broken=true∨mnI x.left 4100=0∨(t.length:Int)≠mnI x.left 4100 then ({x with broken:=true},80)
  else if (openB t).1≠0 then ({x with broken:=true},80)
  else ({x with body:=x.body++(openB t).2,left:=x.left-mnI x.left 4100},0):=rfl
 generalize mnI x.left 4100=n at eP hm ⊢;refine join1 (a:=.bool) (fun q u=>q=decide (x.broken=true∨n=0)∧u=w1) ?_ ?_
 ·intro k hk;refine Dq (hB1.ldK (k:=.bool) x.broken rfl (Iq (fun q=>hk _ _ ⟨(Dct (.inl q)).symm,rfl⟩) fun q=>hk _ _ ⟨?_,rfl⟩));rw [Bei,beq_iff_eq,Det];exact⟨.inr,fun h=>h.resolve_left (by rw [q];decide)⟩
 rintro q u ⟨rfl,rfl⟩;refine Iq (fun q=>?_) fun q=>?_
 ·have q:=odt q;rw [if_pos (by rcases q with q | q;exact .inl q;exact .inr (.inl q))] at eP;rw [eP] at hK;exact bad f1 M1 hK
 have q:=odf q;refine rOpen_ok (hr.quiet M1) hl fun w2 ro2 s2 h2 v2=>?_;have f2:=f1.joinF (Fresh.of_at h2) (fun _ _ h=>h.elim) fun _ _=>id;have hol:=openB_le t;rw [hr.len];refine join1 (a:=.bool) (fun q v=>q=decide ((openB t).1≠0∨(t.length:Int)≠n)∧v=w2) (fun k hk=>Iq (fun q2=>hk _ _ ⟨?_,rfl⟩) fun q2=>hk _ _ ⟨?_,rfl⟩) ?_
 ·exact (Dct (.inl (by simpa using q2))).symm
 ·have q2:(openB t).1=0:=by simpa using q2
  show (((t.length:Nat):Int) != n)=_;rw [Bei,bne_iff_ne,Det];exact⟨.inr,fun h=>h.resolve_left fun h=>h q2⟩
 rintro q2 z ⟨rfl,rfl⟩;refine Iq (fun q2=>?_) fun q2=>?_
 ·have q2:=odt q2;have eP2:pageN x t=({x with broken:=true},80):=by
   rw [eP];by_cases hn:(t.length:Int)≠n
   ·rw [if_pos (.inr (.inr hn))]
   ·rw [if_neg (fun h=>by
     rcases h with h | h | h
     ·exact q (.inl h)
     ·exact q (.inr h)
     ·exact hn h),if_pos (q2.resolve_right hn)]
  rw [eP2] at hK;exact bad (f2.sub (Lsl _ _)) (mod0 M1 h2.mod) hK
 have q2:=odf q2;have htl:(t.length:Int)=n:=Decidable.not_not.1 fun h=>q2 (.inr h);rw [if_neg (fun h=>by
  rcases h with h | h | h
  ·exact q (.inl h)
  ·exact q (.inr h)
  ·exact h htl),if_neg (fun h=>q2 (.inl h))] at eP
 rw [eP] at hK;have hn:n≤4100:=hm.2.1;have f2:=at_mid f2;have hB2:=f2.blk (i:=0) rfl;have hB2:Blk z d (rdecC x s):=hB2;refine Dq (hB2.ldK (k:=Ki) (x.tp-x.left) rfl (Dq ?_));have ew:w64 (x.tp-x.left+n)=x.tp-(x.left-n):=by rw [Wq (by omega) (by omega)];omega
 rw [ew];refine f2.st 0 rfl (by decide:0+3+1≤5) fun u3 f3 M3=>?_;have f3:At w0 D ((d,rdecC {x with left:=x.left-n} s)::((m++ro2)++ro)) u3:=f3;have hB3:=f3.blk (i:=0) rfl;refine Dq (hB3.ldK (k:=.sl) s rfl ?_);refine appL2 (m:=_::_) f3 v (v2.rd fun p hp=>f3.own p (Lmc _ (Lml _ (Lmr _ hp)))) rfl rfl (by omega) fun s4 old ro4 u4 f4 v4 M4 _ _=>?_;have f4:At w0 D ((d,rdecC {x with left:=x.left-n} s)::((m++ro2)++ro4)) u4:=f4.sub (((Lsl (m++ro2) old).append (List.Sublist.refl ro4)).cons_cons _);refine Dq (f4.st 0 rfl (by decide:0+2+1≤5) fun u5 f5 M5=>?_);have f5:At w0 D ((d,rdecC {x with body:=x.body++(openB t).2,left:=x.left-n} s4)::((m++ro2)++ro4)) u5:=f5;exact hK u5 s4 ro4 (at_front f5) v4 (((((M1.trans h2.mod (fun _ _ h=>h) fun _ _ h=>h).trans M3 (D:=fun z=>z=d∨Ks ro z) (fun _ _ h=>h.elim) fun _ _ h=>.inl h).trans M4 (fun _ _ h=>h) fun _ _ h=>.inr h)).trans M5 (fun _ _ h=>h) fun _ _ h=>.inl h)
section
variable {w u u':World}{bc:Nat}{sC:Sl}{M ro:BL}{c:Cu}
theorem RcF.perm(h:RcF w u bc sC M c){M':BL}(hp:M'.Perm M):RcF w u bc sC M' c:=⟨let ⟨x,y,h⟩:=h.f;⟨x,y,h.perm (hp.cons _)⟩,h.own.mono fun p hq=>hp.symm.subset hq,h.ok⟩
theorem RcF.al1(h:RcF w u bc sC (M++ro) c){e:TypeId}{cs:List LV}{K:Nat→Wp}(hK:∀b u',RcF w u' bc sC (M++(b,cs.map LV.toV)::ro) c→Mod F0 u u'→K b u'):Go.Vw.al u e cs K:=by
 obtain⟨x,y,hf⟩:=h.f;refine hf.alK fun b u' hf' _ hM=>hK b u' ⟨⟨x,y,hf'.perm ?_⟩,h.own.mono fun p hp=>?_,h.ok⟩ hM
 ·simp only [List.cons_append,Laa];exact ((Lpc (l₁:=[(b,cs.map LV.toV)])).append_left M).cons _
 ·rcases Lma.1 hp with hp | hp<;>simp [hp]
theorem RcF.st1{b:Nat}{X X':List Value}(h:RcF w u bc sC (M++(b,X)::ro) c)(ho:OwnL M ET sC c.b){o:Nat}{vs:List LV}(hl:o+vs.length≤X.length)(e:spl X o (vs.map LV.toV)=X'){K:Wp}(hK:∀u',RcF w u' bc sC (M++(b,X')::ro) c→K u'):Go.Vw.st u b o vs K:=by
 obtain⟨x,y,hf⟩:=h.f;refine hf.stK (M.length+1) (by simp) hl fun u' hf' _=>hK u' ⟨⟨x,y,?_⟩,ho.mono fun p hp=>Lml _ hp,h.ok⟩;rw [e] at hf';simpa using hf'
theorem RcF.drop1{b:Nat}{X:List Value}(h:RcF w u bc sC (M++(b,X)::ro) c)(ho:OwnL M ET sC c.b):RcF w u bc sC (M++ro) c:=
 h.sub ((List.Sublist.refl M).append (List.sublist_cons_self _ _)) (ho.mono fun p hp=>Lml _ hp)
theorem RcF.blk1{b:Nat}{X:List Value}(h:RcF w u bc sC (M++(b,X)::ro) c):Blk u b X:=h.m (p:=(b,X)) (by simp)
theorem RcF.push1{α:Type}{E:Enc α}{s:Sl}{l:List α}(h:RcF w u bc sC (M++ro) c)(ho:OwnL M ET sC c.b)(hv:VecL ro E s l)(y:α){e e2:TypeId}{n bytes:Nat}{zs cs:List LV}(hc:cs.map LV.toV=E.f y)(hn:n=E.n)(hz:zs.length=E.n)(hlim:(l.length+1025)*(bytes+1)≤2^46)
  {K:Sl→Wp} (hK:∀s' ro' u',RcF w u' bc sC (M++ro') c→VecL ro' E s' (l++[y])→K s' u'):Go.Vw.al u e cs fun b u'=>ap u' e2 n bytes zs s ⟨some (b,0),1,1⟩ K:=by
 obtain⟨x,z,hf⟩:=h.f;exact Fresh.push (m:=(bc,RcC sC c x z)::M) hf hv y hc hn hz hlim fun s' ro' u' hf' hv' _=>hK s' ro' u' ⟨⟨x,z,hf'⟩,ho.mono fun p hp=>Lml _ hp,h.ok⟩ hv'
set_option maxHeartbeats 1000000 in
theorem rBlocks_ok(h:RcF w u bc sC M c){K:Sl→Wp}(hK:∀u' s' ro,RcF w u' bc sC (M++ro) (blksN c).2→VecL ro EBI s' (blksN c).1→K s' u') :
  callK Pg c_136 [Ap (some (bc,0))] u Oz K:=by
 refine go_136 _ _ _ ?_;have ho:=h.own;refine rNum_ok h fun u1 h1 _=>?_;have hr:=num_range c 262144;have hr2:=hr.2 (by decide);have hb:=num_b c 262144;unfold blksN at hK;generalize c.num 262144=n at hK h1 hr hr2 hb;obtain⟨n,c'⟩:=n;dsimp only at hK h1 hr hr2 hb ⊢;rw [←hb] at ho;obtain⟨N,rfl⟩:∃N:Nat,n=(N:Int):=⟨n.toNat,by omega⟩;rw [Itn] at hK;refine join1 (a:=.sl) (fun s' u=>∃ro,VecL ro EBI s' (blksRun N [] [] c').1∧RcF w u bc sC (M++ro) (blksRun N [] [] c').2) ?_ (by rintro s' u ⟨ro,v,h⟩;exact hK u s' ro h v);intro k4 hk4;refine loop3 (k1:=.sl) (k2:=.str) (k3:=Ki) (fun (s:Sl) (key:Str) (n:Int) u=>∃(k i:Nat) (ro:BL) (l:List BI) (c2:Cu),n=(i:Int)∧i+k=N∧key.length+64*k≤64*N∧l.length=i∧VecL ro EBI s l∧RcF w u bc sC (M++ro) c2∧c2.b=c'.b∧blksRun k l key c2=blksRun N [] [] c') (fun _ _ n _=>(N-n).toNat) (x1:=⟨none,0,0⟩) (x2:=[]) (x3:=0) rfl rfl rfl
  ⟨N,0,[],[],c',rfl,by simp,by simp,rfl,VecL.nil EBI,by rw [Lan];exact h1,rfl,rfl⟩ ?_
 rintro s key n u ⟨k,i,ro,l,c2,rfl,hik,hkey,hli,v,h,hcb,hrun⟩;change Str at key;have ho2:OwnL M ET sC c2.b:=by rw [hcb];exact ho
 refine join1 (a:=.bool) (fun q u'=>q=decide (k≠0∧c2.rest≠0)∧RcF w u' bc sC (M++ro) c2) ?_ ?_
 ·intro k10 hk10;refine Iq (fun q=>?_) fun q=>?_
  ·have q:(i:Int)<(N:Int):=odt q;refine rRest_ok h fun u1 h1 M=>hk10 _ _ ⟨?_,h1⟩;show decide ((0:Int)<(c2.rest:Int))=_;rw [Bei,Det,Det];omega
  ·have q:¬(i:Int)<(N:Int):=odf q;exact hk10 _ _ ⟨(Dcf fun e=>by omega).symm,h⟩
 rintro q u' ⟨rfl,h⟩;refine Iq (fun q=>?_) fun q=>?_;rotate_left
 ·have q:¬(k≠0∧c2.rest≠0):=odf q;refine hk4 _ _ ⟨ro,?_⟩;have e:blksRun k l key c2=(l,c2):=by
   cases k with
   | zero=>rfl
   | succ k=>rw [blksRun,if_pos (by omega)]
  rw [←hrun,e];exact⟨v,h⟩
 have q:k≠0∧c2.rest≠0:=odt q;obtain⟨k,rfl⟩:∃j,k=j+1:=⟨k-1,by omega⟩;rw [blksRun,if_neg q.2] at hrun;unfold blk1 at hrun;dsimp only at hrun;refine h.al1 fun b15 u1 h1 _=>?_;have h1:RcF w u1 bc sC (M++(b15,EBI.f ⟨0,0,0,[]⟩)::ro) c2:=h1;refine rNum_ok h1 fun u2 h2 _=>?_;have hb1:=num_b c2 65536;have r1:=num_range c2 65536;generalize c2.num 65536=A at h2 hb1 r1 hrun ⊢;obtain⟨A,cA⟩:=A;dsimp only at h2 hb1 r1 hrun ⊢;have hoA:OwnL M ET sC cA.b:=by rw [hb1];exact ho2
 refine h2.st1 hoA (by decide:0+1≤4) (X':=EBI.f ⟨A,0,0,[]⟩) rfl fun u3 h3=>rNum_ok h3 fun u4 h4 _=>?_;have hb2:=num_b cA 65536;generalize cA.num 65536=B at h4 hb2 hrun ⊢;obtain⟨B,cB⟩:=B;dsimp only at h4 hb2 hrun ⊢;have hoB:OwnL M ET sC cB.b:=by rw [hb2];exact hoA
 refine h4.st1 hoB (by decide:1+1≤4) (X':=EBI.f ⟨A,B,0,[]⟩) rfl fun u5 h5=>rNum_ok h5 fun u6 h6 _=>?_;have hb3:=num_b cB 65536;generalize cB.num 65536=C at h6 hb3 hrun ⊢;obtain⟨C,cC⟩:=C;dsimp only at h6 hb3 hrun ⊢;have hoC:OwnL M ET sC cC.b:=by rw [hb3];exact hoB
 refine h6.st1 hoC (by decide:2+1≤4) (X':=EBI.f ⟨A,B,C,[]⟩) rfl fun u7 h7=>rNum_ok h7 fun u8 h8 _=>?_;have hb4:=num_b cC (key.length:Int);have r4:=num_range cC (key.length:Int);have r42:=r4.2 (Int.natCast_nonneg _);generalize cC.num (key.length:Int)=Dn at h8 hb4 r4 r42 hrun ⊢;obtain⟨Dn,cD⟩:=Dn;dsimp only at h8 hb4 r4 r42 hrun ⊢;have hoD:OwnL M ET sC cD.b:=by rw [hb4];exact hoC
 obtain⟨dn,rfl⟩:∃dn:Nat,Dn=(dn:Int):=⟨Dn.toNat,by omega⟩;rw [Itn] at hrun;have hd:=h8.quiet (Mq u8);refine⟨fun z=>z=bc,ssx_take (n:=dn) (by omega) rfl ?_⟩;refine rText_ok hd fun u9 h9 M9=>⟨M9,?_⟩;have hb5:=text_b cD 64;have r5:=text_le cD 64;generalize cD.text 64=T at h9 hb5 r5 hrun ⊢;obtain⟨T,cT⟩:=T;dsimp only at h9 hb5 r5 hrun ⊢;have hoT:OwnL M ET sC cT.b:=by rw [hb5];exact hoD
 have htl:T.length≤64:=r5;have hcl:(key.take dn++T).length≤key.length+64:=by rw [Lla,Llt];omega
 refine⟨by rw [Llt];omega,?_⟩;generalize key.take dn++T=cut at hrun hcl ⊢;refine h9.st1 hoT (by decide:3+1≤4) (X':=EBI.f ⟨A,B,C,cut⟩) rfl fun u10 h10=>?_;have hB:=h10.blk1;refine hB.ldK (k:=.str) cut rfl (hB.ldK (k:=Ki) A rfl (hB.ldK (k:=Ki) B rfl (hB.ldK (k:=Ki) C rfl (hB.ldK (k:=.str) cut rfl ?_))));refine (h10.drop1 hoT).push1 hoT v ⟨A,B,C,cut⟩ rfl rfl rfl (by omega) fun s' ro' u11 h11 v11=>?_;rw [step64 (by omega)];exact⟨⟨k,i+1,ro',l++[⟨A,B,C,cut⟩],cT,rfl,by omega,by omega,by simp [hli],v11,h11,by rw [hb5,hb4,hb3,hb2,hb1,hcb],hrun⟩,by omega⟩
end
end Go.Proofs.YtoegpmjoajipcaaGreatDoor
namespace Go.Proofs.YtoegpmjoajipcaaGreatDoor
open Go.Vw
open Go
def part1R(n:Nat)(last:Int)(c:Cu):PartI×Cu:=
 (⟨last+1+(c.num 65535).1,(blksN ((c.num 65535).2.text n).2).1,(filtR ((c.num 65535).2.text n).1).1⟩,(blksN ((c.num 65535).2.text n).2).2)
def partsRunR(n:Nat):Nat→List PartI→Int→Cu→List PartI×Cu
 | 0,l,_,c=>(l,c)
 | k+1,l,last,c=>if c.rest=0 then (l,c) else partsRunR n k (l++[(part1R n last c).1]) (part1R n last c).1.part (part1R n last c).2
def readR(t:Str):Int×List PartI:=
 (((Cu.mk t 0 0).num 65535).1,(partsRunR t.length (((Cu.mk t 0 0).num 65535).2.num 65535).1.toNat [] (-1) (((Cu.mk t 0 0).num 65535).2.num 65535).2).1)
theorem filtR_len(b:Str):(filtR b).1.data.length≤4096:=by
 unfold filtR;split
 ·exact Nzl _
 split
 ·exact Nzl _
 split
 ·exact Nzl _
 split
 ·exact Nzl _
 ·rename_i h;show (b.drop (1+(getN (b.drop 1)).2.1)).length≤4096;rw [Lld];omega
section
variable {w w1 u:World}{bc:Nat}{sC:Sl}{M m0:BL}{c:Cu}
theorem RcF.under(f:Fresh w w1 F0 m0)(h:RcF w1 u bc sC M c):RcF w u bc sC (m0++M) c:=by
 obtain⟨x,y,hf⟩:=h.f;refine⟨⟨x,y,?_⟩,h.own.mono fun p hp=>Lmr _ hp,h.ok⟩;refine (f.join hf (fun _ _ h=>h) fun _ _ _ h=>h).perm ?_;exact List.perm_middle.symm
set_option maxHeartbeats 2000000 in
theorem rRead_ok{w:World}{s:Sl}{t:Str}(hr:RdS w ET s t)(hl:t.length≤1099511627776){K:Int→Sl→Wp}
  (hK:∀w' R s ps,Fresh w w' F0 R→FootL R s ps (readR t).2→K (readR t).1 s w') :
  callK Pg c_137 [Az s] w (.one (.agg [Ki,.sl])) K:=by
 refine go_137 _ _ _ ?_;refine (Fresh.start w F0).alK fun b2 w1 f1 _ M1=>?_;have f1:Fresh w w1 F0 [(b2,pairC 0 ⟨none,0,0⟩)]:=f1;refine rNewCursor_ok (hr.quiet M1) hl fun w2 bc sC roC h2=>?_;have h2:=RcF.under f1 h2;generalize hM:[(b2,pairC 0 ⟨none,0,0⟩)]++roC=M at h2;have hb2:(b2,pairC 0 ⟨none,0,0⟩)∈M:=by rw [←hM];simp
 have ho:=h2.own;have ho:OwnL M ET sC t:=ho;refine rNum_ok h2 fun w3 h3 _=>?_;unfold readR at hK;have hpb:=num_b ⟨t,0,0⟩ 65535;have hpr:=num_range ⟨t,0,0⟩ 65535;have hpr2:=hpr.2 (by decide);generalize (Cu.mk t 0 0).num 65535=P at hK h3 hpb hpr hpr2 ⊢;obtain⟨P,c1⟩:=P;dsimp only at hK h3 hpb hpr hpr2 ⊢;have h3:RcF w w3 bc sC (M++[]) c1:=by rw [Lan];exact h3
 have ho1:OwnL M ET sC c1.b:=by rw [hpb];exact ho
 refine h3.al1 fun b8 w4 h4 _=>h4.st1 ho1 (by decide:0+2≤2) (X':=pairC P ⟨none,0,0⟩) rfl fun w5 h5=>rNum_ok h5 fun w6 h6 _=>?_;have hnb:=num_b c1 65535;have hnr:=num_range c1 65535;have hnr2:=hnr.2 (by decide);generalize c1.num 65535=n at hK h6 hnb hnr hnr2 ⊢;obtain⟨n,c'⟩:=n;dsimp only at hK h6 hnb hnr hnr2 ⊢;obtain⟨N,rfl⟩:∃N:Nat,n=(N:Int):=⟨n.toNat,by omega⟩;rw [Itn] at hK;have hoc:∀{c2:Cu},c2.b=c'.b→OwnL M ET sC c2.b:=fun e=>by rw [e,hnb];exact ho1
 refine join0 (fun u=>∃s' ps Y c2,RcF w u bc sC (M++(b8,pairC P s')::Y) c2∧FootL Y s' ps (partsRunR t.length N [] (-1) c').1) ?_ ?_;rotate_left
 ·rintro u ⟨s',ps,Y,c2,hu,hF⟩;have hB8:=hu.blk1;refine hB8.ldK (k:=Ki) P rfl (hB8.ldK (k:=.sl) s' rfl ?_);obtain⟨x,y,hf⟩:=hu.f;obtain⟨M1',M2',hsp⟩:=List.append_of_mem hb2;rw [hsp] at hf;refine hf.stK (M1'.length+1) (b:=b2) (c:=pairC 0 ⟨none,0,0⟩) (by simp) (by decide:0+2≤2) fun u' hf' _=>?_;have hf':Fresh w u' F0 ((bc,RcC sC c2 x y)::((M1'++(b2,pairC P s')::M2')++(b8,pairC P s')::Y)):=by
   rw [Laa,List.cons_append];have hg:=hf';simp at hg;exact hg
  have hB2:Blk u' b2 (pairC P s'):=hf'.own (b2,pairC P s') (by simp);refine hB2.ldK (k:=Ki) P rfl (hB2.ldK (k:=.sl) s' rfl (hK u' Y s' ps (hf'.sub ?_) hF));exact ((List.sublist_cons_self _ _).trans (Lsr _ _)).trans (List.sublist_cons_self _ _)
 intro k13 hk13;refine loop2 (k1:=Ki) (k2:=Ki) (fun (last n:Int) u=>∃(k i:Nat) (ro Y:BL) (l:List PartI) (ps:List PI) (s':Sl) (c2:Cu),n=(i:Int)∧i+k=N∧-1≤last∧last≤65536*(i:Int)-1∧l.length=i∧ps.length=i∧VecL ro EPI s' ps∧(∀(j:Nat) p x,ps[j]? = some p→l[j]? = some x→InfoL Y p x) ∧
   RcF w u bc sC (M++(b8,pairC P s')::(Y++ro)) c2∧c2.b=c'.b∧partsRunR t.length k l last c2=partsRunR t.length N [] (-1) c') (fun _ n _=>(N-n).toNat) (x1:=-1) (x2:=0) rfl rfl
  ⟨N,0,[],[],[],[],_,c',rfl,by simp,Int.le_refl _,by decide,rfl,rfl,VecL.nil EPI,by simp,h6,rfl,rfl⟩ ?_
 rintro last n u ⟨k,i,ro,Y,l,ps,s',c2,rfl,hik,hl0,hl1,hll,hpl,v,heach,h,hcb,hrun⟩;change Int at last;refine join1 (a:=.bool) (fun q u'=>q=decide (k≠0∧c2.rest≠0)∧RcF w u' bc sC (M++(b8,pairC P s')::(Y++ro)) c2) ?_ ?_
 ·intro k10 hk10;refine Iq (fun q=>?_) fun q=>?_
  ·have q:(i:Int)<(N:Int):=odt q;refine rRest_ok h fun u1 h1 M=>hk10 _ _ ⟨?_,h1⟩;show decide ((0:Int)<(c2.rest:Int))=_;rw [Bei,Det,Det];omega
  ·have q:¬(i:Int)<(N:Int):=odf q;exact hk10 _ _ ⟨(Dcf fun e=>by omega).symm,h⟩
 rintro q u' ⟨rfl,h⟩;refine Iq (fun q=>?_) fun q=>?_;rotate_left
 ·have q:¬(k≠0∧c2.rest≠0):=odf q;have e:partsRunR t.length k l last c2=(l,c2):=by
   cases k with
   | zero=>rfl
   | succ k=>rw [partsRunR,if_pos (by omega)]
  refine hk13 _ ⟨s',ps,Y++ro,c2,h,?_⟩;rw [←hrun,e];exact⟨⟨ro,v,fun p hp=>Lmr _ hp⟩,by show ps.length=l.length;omega,fun j p x hp hx=>(heach j p x hp hx).mono fun q hq=>Lml _ hq,by show l.length≤_;omega⟩
 have q:k≠0∧c2.rest≠0:=odt q;obtain⟨k,rfl⟩:∃j,k=j+1:=⟨k-1,by omega⟩;rw [partsRunR,if_neg q.2] at hrun;unfold part1R at hrun;dsimp only at hrun;refine rNum_ok h fun u1 h1 _=>?_;have hb1:=num_b c2 65535;have r1:=num_range c2 65535;have r12:=r1.2 (by decide);generalize c2.num 65535=A at h1 hb1 r1 r12 hrun ⊢;obtain⟨A,cA⟩:=A;dsimp only at h1 hb1 r1 r12 hrun ⊢;have e1:w64 (last+1)=last+1:=Wq (by omega) (by omega);have e2:w64 (last+1+A)=last+1+A:=Wq (by omega) (by omega);rw [e1,e2];generalize hM2:M++(b8,pairC P s')::(Y++ro)=M2 at h1;have hoA:OwnL M2 ET sC cA.b:=by rw [←hM2];exact (hoc (hb1.trans hcb)).mono fun p hp=>Lml _ hp
 have h1:RcF w u1 bc sC (M2++[]) cA:=by rw [Lan];exact h1
 refine h1.al1 fun b25 u2 h2' _=>h2'.st1 hoA (by decide:0+5≤5) (X':=EPI.f ⟨last+1+A,⟨none,0,0⟩,false,0,⟨none,0,0⟩⟩) rfl fun u3 h3'=>?_;rw [hr.len];refine rText_ok h3' fun u4 h4' _=>?_;have hb2':=text_b cA (t.length:Int);have htl2:(cA.text (t.length:Int)).1.length≤1099511627776:=by
  have:=text_le cA (t.length:Int);omega
 generalize cA.text (t.length:Int)=T at h4' hb2' hrun htl2 ⊢;obtain⟨T,cT⟩:=T;dsimp only at h4' hb2' hrun htl2 ⊢;refine convS fun s5 u5 hr5 M5=>?_;have h5':=h4'.quiet M5;have hfl:=filtR_len T;refine rFDecode_ok hr5 htl2 fun u6 ro6 s6 v6 f6=>?_;have h6':=h5'.more f6;generalize (filtR T).1=F at hrun v6 hfl ⊢;have hoT:OwnL M2 ET sC cT.b:=by rw [hb2'];exact hoA
 have h6':RcF w u6 bc sC (M2++(b25,EPI.f ⟨last+1+A,⟨none,0,0⟩,false,0,⟨none,0,0⟩⟩)::ro6) cT:=by
  simpa using h6'
 refine h6'.st1 hoT (by decide:2+3≤5) (X':=EPI.f ⟨last+1+A,⟨none,0,0⟩,F.all,F.hashes,s6⟩) rfl fun u7 h7'=>?_;refine rBlocks_ok h7' fun u8 s8 ro8 h8' v8=>?_;have hb3:=blksN_b cT;have hbl:=blksN_len cT;generalize blksN cT=BB at h8' v8 hb3 hbl hrun ⊢;obtain⟨bl,cB⟩:=BB;dsimp only at h8' v8 hb3 hbl hrun ⊢;have hoB:OwnL M2 ET sC cB.b:=by rw [hb3];exact hoT
 have h8':RcF w u8 bc sC (M2++(b25,EPI.f ⟨last+1+A,⟨none,0,0⟩,F.all,F.hashes,s6⟩)::(ro6++ro8)) cB:=by
  simpa using h8'
 refine h8'.st1 hoB (by decide:1+1≤5) (X':=EPI.f ⟨last+1+A,s8,F.all,F.hashes,s6⟩) rfl fun u9 h9'=>?_;have hB25:=h9'.blk1;have hB8:Blk u9 b8 (pairC P s'):=h9'.m (p:=(b8,pairC P s')) (by rw [←hM2];simp);refine hB25.ldK (k:=Ki) (last+1+A) rfl (hB8.ldK (k:=.sl) s' rfl (hB25.ldK (k:=Ki) (last+1+A) rfl (hB25.ldK (k:=.sl) s8 rfl (hB25.ldK (k:=.bool) F.all rfl (hB25.ldK (k:=Ki) F.hashes rfl (hB25.ldK (k:=.sl) s6 rfl ?_))))));have h10:=h9'.drop1 hoB;rw [←hM2] at h10;have hoM:OwnL M ET sC cB.b:=by rw [hb3,hb2',hb1,hcb,hnb];exact ho1
 have h10:RcF w u9 bc sC ((M++(b8,pairC P s')::(Y++(ro6++ro8)))++ro) cB:=by
  refine h10.perm ?_;simp only [Laa,List.cons_append];refine (List.Perm.cons _ ((?_:List.Perm _ _).append_left _)).append_left _;rw [←Laa ro6 ro8 ro,←Laa ro ro6 ro8,Laa ro ro6 ro8];exact Lpc
 refine h10.push1 (hoM.mono fun p hp=>Lml _ hp) v ⟨last+1+A,s8,F.all,F.hashes,s6⟩ rfl rfl rfl (by omega) fun s9 ro9 u10 h11 v9=>?_;have h11:RcF w u10 bc sC (M++(b8,pairC P s')::((Y++(ro6++ro8))++ro9)) cB:=by
  simpa using h11
 refine h11.st1 hoM (by decide:1+1≤2) (X':=pairC P s9) rfl fun u11 h12=>?_;rw [step64 (by omega)];refine⟨⟨k,i+1,ro9,Y++(ro6++ro8),l++[⟨last+1+A,bl,F⟩],ps++[⟨last+1+A,s8,F.all,F.hashes,s6⟩],s9,cB,rfl,by omega,by omega,by omega,by simp [hll],by simp [hpl],v9,fun j p x hp hx=>?_,h12,by rw [hb3,hb2',hb1,hcb],hrun⟩,by omega⟩;rcases Nat.lt_trichotomy j i with hj | hj | hj
 ·rw [Lgl (by omega)] at hp hx;exact (heach j p x hp hx).mono fun q hq=>Lml _ hq
 ·subst hj;rw [Lgr (by omega),hpl,Nat.sub_self] at hp;rw [Lgr (by omega),hll,Nat.sub_self] at hx;cases hp;cases hx;exact⟨rfl,⟨ro8,v8,fun p hp=>by simp [hp]⟩,rfl,rfl,⟨ro6,v6,fun p hp=>by simp [hp]⟩,hbl,hfl⟩
 ·rw [List.getElem?_eq_none (by simp [hll];omega)] at hx;cases hx
end
end Go.Proofs.YtoegpmjoajipcaaGreatDoor
namespace Go.Proofs.YtoegpmjoajipcaaGreatDoor
open Go.Vw
def footOkR(d:Dec):Bool:=!d.broken&&(decide (d.left≤0)&&(chkF (readR d.body).1 (readR d.body).2&&(decide (bodyN (readR d.body).1 (readR d.body).2=d.body)&&decide (spI (readR d.body).2=d.tb))))
set_option maxHeartbeats 2000000 in
theorem rFootDec_ok{w:World}{d:Nat}{x:Dec}{s:Sl}(hB:Blk w d (rdecC x s))(hr:RdS w ET s x.body)(hl:x.body.length≤1099511627776){K:Int→Sl→Int→Wp}
  (hN:footOkR x=false→∀w',Mod F0 w w'→K 0 ⟨none,0,0⟩ 80 w')
  (hS:footOkR x=true→∀w' R s ps,Fresh w w' F0 R→FootL R s ps (readR x.body).2→K (readR x.body).1 s 0 w') :
  callK Pg c_138 [Ap (some (d,0))] w (.tup [.agg [Ki,.sl],Li]) K:=by
 refine go_138 _ _ _ ?_;refine (Fresh.start w F0).alK fun b2 w1 f1 _ M1=>?_;have f1:Fresh w w1 F0 [(b2,pairC 0 ⟨none,0,0⟩)]:=f1;have hB1:=M1.blk hB id;refine ifK_f rfl ?_;have bad:∀{u:World} {m:BL},Fresh w u F0 ((b2,pairC 0 ⟨none,0,0⟩)::m)→footOkR x=false →
   Go.Vw.st u b2 0 [.int .i64 0,.sl (⟨none,0,0⟩)] fun W16=>Go.Vw.ld W16 Ki b2 0 fun n17=>Go.Vw.ld W16 .sl b2 1 fun a18=>K n17 a18 80 W16:=fun {u m} h e=>by
  refine h.stK 0 rfl (Nlr 2) fun u' h' _=>?_;have hb:Blk u' b2 (pairC 0 ⟨none,0,0⟩):=h'.blk (i:=0) rfl;exact hb.ldK (k:=Ki) 0 rfl (hb.ldK (k:=.sl) ⟨none,0,0⟩ rfl (hN e u' h'.mod))
 refine join1 (a:=.bool) (fun q u=>q=decide (x.broken=true∨0<x.left)∧u=w1.drew) ?_ ?_
 ·intro k hk;have hBd:=(Mq w1).blk hB1 id;refine⟨F0,Dq (hBd.ldDK (k:=.bool) x.broken id rfl (Iq (fun q=>hk _ _ ⟨(Dct (.inl q)).symm,rfl⟩) fun q=>Dq (hBd.ldDK (k:=Ki) (x.tp-x.left) id rfl (Dq (hBd.ldDK (k:=Ki) x.tp id rfl (hk _ _ ⟨?_,rfl⟩))))))⟩;show decide (x.tp-x.left<x.tp)=_;rw [Bei,Det,Det];exact⟨fun h=>.inr (by omega),fun h=>by
   have:=h.resolve_left (by rw [q];decide);omega⟩
 rintro q u ⟨rfl,rfl⟩;have f1:=f1.quiet (Mq w1);have hB1:=(Mq w1).blk hB1 id;refine Iq (fun q=>?_) fun q=>?_
 ·have q:=odt q;refine bad f1 ?_;unfold footOkR;rcases q with q | q
  ·rw [q];rfl
  ·rw [Dcf (show ¬x.left≤0 by omega),Bool.false_and,Bool.and_false]
 have q:=odf q;have hbr:x.broken=false:=by
  cases h:x.broken with
  | false=>rfl
  | true=>exact absurd (.inl h) q
 have hlf:x.left≤0:=Int.not_lt.1 fun h=>q (.inr h);have eF:footOkR x=(chkF (readR x.body).1 (readR x.body).2&&(decide (bodyN (readR x.body).1 (readR x.body).2=x.body)&&decide (spI (readR x.body).2=x.tb))):=by
  unfold footOkR;rw [hbr,Dct hlf];rfl
 refine Dq (hB1.ldK (k:=.sl) s rfl (rRead_ok (hr.quiet f1.mod) hl fun w2 R s2 ps f2 hF=>?_));have fF:Fresh w w2 F0 ([(b2,pairC 0 ⟨none,0,0⟩)]++R):=f1.join f2 (fun _ _ h=>h) fun _ _ _ h=>h;generalize readR x.body=F at hF eF hS ⊢;obtain⟨P,l⟩:=F;dsimp only at hF eF hS ⊢;refine fF.alst (by rfl) fun b29 w3 f3 _ M3=>?_;have f3:Fresh w w3 F0 ((b2,pairC 0 ⟨none,0,0⟩)::(R++[(b29,pairC P s2)])):=f3;have hll:=hF.ll;have hlb:∀x∈l,x.blocks.length≤262144:=fun y hy=>by
  obtain⟨i,hi⟩:=List.mem_iff_getElem?.1 hy;obtain⟨p,hp⟩:=Gq (l:=ps) (i:=i) (by rw [hF.len];exact (Les.1 hi).1);exact (hF.each i p y hp hi).lb
 have hBo:Blk w3 d (rdecC x s):=f3.mod.blk hB id;refine join1 (a:=.bool) (fun q u=>q=(!footOkR x)∧Mod F0 w3 u) ?_ ?_;rotate_left
 ·rintro q u ⟨rfl,hM⟩;have fu:=f3.quiet hM;refine Iq (fun q=>bad fu (by simpa using q)) fun q=>?_;have q:footOkR x=true:=by simpa using q
  have hB29:Blk u b29 (pairC P s2):=fu.own (b29,pairC P s2) (by simp);refine hB29.ldK (k:=Ki) P rfl (hB29.ldK (k:=.sl) s2 rfl ?_);refine fu.stH (Nlr 2) (X':=pairC P s2) rfl fun u' fu'=>?_;have hB2:Blk u' b2 (pairC P s2):=fu'.own _ (Lcs ..);exact hB2.ldK (k:=Ki) P rfl (hB2.ldK (k:=.sl) s2 rfl (hS q u' R s2 ps (fu'.sub ((Lsl R _).trans (List.sublist_cons_self _ _))) hF))
 intro k hk;have Md:=Mq w3;have own29:∀{u:World},Mod F0 w3.drew u→Blk u b29 (pairC P s2):=fun hM=>(mod0 Md hM).blk (f3.own (b29,pairC P s2) (by simp)) id;have foot:∀{u:World},Mod F0 w3.drew u→FootR u (Ks R) s2 ps l:=fun hM=>hF.foot fun p hp=>(mod0 Md hM).blk (f3.own p (by simp [hp])) id;have hBd:=Md.blk hBo id;have rdb:∀{u:World},Mod F0 w3.drew u→RdS u ET s x.body:=fun hM=>hr.quiet (mod0 f3.mod (mod0 Md hM));have b0:=own29 (Mod.refl _ w3.drew);refine⟨F0,b0.ldDK (k:=Ki) P id rfl (b0.ldDK (k:=.sl) s2 id rfl (rCheck_ok (foot (Mod.refl _ _)) hll hlb fun w4 M4=>⟨M4,?_⟩))⟩;by_cases hc:chkF P l=true;rotate_left
 ·rw [if_neg hc];have:footOkR x=false:=by
   rw [eF]
   cases h:chkF P l with
   | false=>rfl
   | true=>exact absurd h hc
  exact ifK_t rfl (hk _ _ ⟨by rw [this];rfl,mod0 Md M4⟩)
 rw [if_pos hc];rw [hc,Bool.true_and] at eF;have hchk:chkI P l (-1) 0=true:=by
  unfold chkF at hc;rw [Bat] at hc;exact hc.2
 refine ifK_f rfl (b0.ldDK (k:=Ki) P id rfl (b0.ldDK (k:=.sl) s2 id rfl (Dq (hBd.ldDK (k:=.sl) s id rfl ?_))));have fin:∀{u:World} {q:Bool},Mod F0 w3.drew u→q=decide (bodyN P l=x.body) →
   ifK (!q) (k true u) (ldD F0 w3.drew Ki b29 0 fun n49=>ldD F0 w3.drew .sl b29 1 fun a50=>dr (some (d,0)) fun b51 o52=>ldD F0 w3.drew Ki b51 o52 fun n53=>
    callK Pg c_126 [.agg [.int .i64 n49,.sl a50]] u Oi fun n54 W55=>Mod F0 w3.drew W55∧k (n54 != n53) W55):=fun {u q} hM hq=>by
  subst hq;refine Iq (fun q=>hk _ _ ⟨?_,mod0 Md hM⟩) fun q=>?_
  ·have q:¬bodyN P l=x.body:=by simpa using q
   rw [eF,Dcf q];rfl
  have q:bodyN P l=x.body:=by simpa using q
  rw [Dct q,Bool.true_and] at eF;refine b0.ldDK (k:=Ki) P id rfl (b0.ldDK (k:=.sl) s2 id rfl (Dq (hBd.ldDK (k:=Ki) x.tb id rfl ?_)));refine rSpace_ok (foot hM) hchk fun v Mv=>⟨mod0 hM Mv,hk _ _ ⟨?_,mod0 Md (mod0 hM Mv)⟩⟩;rw [eF,Bei,bne_iff_ne,Bool.not_eq_true',decide_eq_false_iff_not]
 have qe:(bodyN P l==x.body)=decide (bodyN P l=x.body):=by rw [Bei,beq_iff_eq,Det]
 refine⟨?_,?_⟩
 ·refine rBody_ok (foot M4) hc fun w5 ro s5 f5 v5=>⟨mod0 M4 f5.mod,?_,?_⟩
  ·refine convT (v5.rd f5.own) ⟨mod0 M4 f5.mod,convT (rdb (mod0 M4 f5.mod)) ⟨mod0 M4 f5.mod,fin (mod0 M4 f5.mod) qe⟩⟩
  ·refine convT (rdb (mod0 M4 f5.mod)) ⟨mod0 M4 f5.mod,convT (v5.rd f5.own) ⟨mod0 M4 f5.mod,fin (mod0 M4 f5.mod) qe⟩⟩
 ·refine convT (rdb M4) ⟨M4,rBody_ok (foot M4) hc fun w5 ro s5 f5 v5=>⟨mod0 M4 f5.mod,convT (v5.rd f5.own) ⟨mod0 M4 f5.mod,fin (mod0 M4 f5.mod) qe⟩⟩⟩
set_option maxRecDepth 100000
theorem go_139(b1:Sl)(at_2:Int)(K:Int→Int→Wp)(w:World)(h:slx b1 1 (some at_2) none none fun s3=>callK Pg 140 [Az s3] w (.tup [Li,Li,Li]) fun n4 n5 n6 W7=>joinK [.bool] (fun k8=>ifK (n6 != 0) (k8 true W7) (k8 (decide (65536<n4)) W7)) fun t229 W10=>ifK t229 (K (-1) at_2 W10) (K n4 (w64 (at_2+n5)) W10)):callK Pg 167 [Az b1,Ai at_2] w (.tup [Li,Li]) K:=Fq (n:=(n0 .nil (n0 .nil (n0 (n0 (.mk (some [.tmp 22 Lb]) [] [1,6,7] .done .nil .nil) .nil) .nil)))) CS_ok mixed Tryz.func167 (Eq.mpr (by kernel_rfl) h)
theorem go_140(t_0_1:Sl)(t_1_2:Int)(t_2_3:Int)(n4:Int)(last5:Bool)(K:Bool→Wp)(w:World)(h:al w 238 [.sl t_0_1,.int .i64 t_1_2,.int .i64 t_2_3] fun b6 W7=>joinK [.bool] (fun k8=>ld W7 Ki b6 1 fun n9=>ifK (n9==0) (ld W7 Ki b6 2 fun n10=>k8 (n10==0) W7) (k8 false W7)) fun t1511 W12=>ifK t1511 (joinK [.bool] (fun k13=>ifK last5 (ld W12 .sl b6 0 fun a14=>k13 (decide (0<(a14.len:Int))) W12) (k13 false W12)) fun t615 W16=>K t615 W16) (ld W12 .sl b6 0 fun a17=>joinK [.bool] (fun k18=>ld W12 Ki b6 2 fun n19=>ifK (decide (4≤n19)) (ld W12 Ki b6 2 fun n20=>ifK (decide (n20≤259)) (ld W12 Ki b6 1 fun n21=>ifK (decide (1≤n21)) (ld W12 Ki b6 1 fun n22=>ifK (decide (n22≤32768)) (ld W12 Ki b6 1 fun n23=>k18 (decide (n23≤w64 (n4+(a17.len:Int)))) W12) (k18 false W12)) (k18 false W12)) (k18 false W12)) (k18 false W12)) fun t624 W25=>K t624 W25)):callK Pg 168 [.agg [.sl t_0_1,.int .i64 t_1_2,.int .i64 t_2_3],Ai n4,Ab last5] w Ob K:=Fq (n:=(n0 .nil (n0 (n0 (.mk (some [.tmp 15 Lb]) [] [1,2,3] .done .nil .nil) (n0 (n0 (.mk (some [.tmp 6 Lb]) [] [] .done .nil .nil) .nil) .nil)) (n0 .nil (n0 (.mk (some [.tmp 6 Lb]) [] [] .done .nil .nil) .nil))))) CS_ok mixed Tryz.func168 (Eq.mpr (by kernel_rfl) h)
theorem go_141(b1:Sl)(n2:Int)(K:Sl→Int→Wp)(w:World)(h:joinK [.bool] (fun k3=>ifK (decide (n2<0)) (k3 true w) (k3 (decide (65536<n2)) w)) fun t224 W5=>ifK t224 (K (⟨none,0,0⟩) 3 W5) (joinK [.sl,Ki] (fun k6=>loopL [.sl,Ki,Ki] (fun ts8 at_9 size10 W11 g7=>ifK (decide (size10<n2)) (al W11 238 [.sl (⟨none,0,0⟩),.int .i64 0,.int .i64 0] fun b12 W13=>callK Pg 167 [Az b1,Ai at_9] W13 (.tup [Li,Li]) fun n14 n15 W16=>joinK [.bool] (fun k17=>ifK (decide (n14<0)) (k17 true W16) (ifK (decide (w64 ((b1.len:Int)-n15)<n14)) (k17 true W16) (k17 (decide (n2<w64 (size10+n14))) W16))) fun t4818 W19=>ifK t4818 (K (⟨none,0,0⟩) 30 W19) (al W19 5 [] fun b20 W21=>slx b1 1 (some n15) (some (w64 (n15+n14))) none fun s22=>ap W21 5 1 1 [.int .u8 0] (⟨some (b20,0),0,0⟩) s22 fun a23 W24=>st W24 b12 0 [.sl a23] fun W25=>joinK [Ki,Ki] (fun k26=>ifK (decide (w64 (size10+n14)<n2)) (callK Pg 167 [Az b1,Ai (w64 (n15+n14))] W25 (.tup [Li,Li]) fun n27 n28 W29=>ifK (decide (n27<0)) (K (⟨none,0,0⟩) 30 W29) (callK Pg 167 [Az b1,Ai n28] W29 (.tup [Li,Li]) fun n30 n31 W32=>joinK [.bool] (fun k33=>ifK (decide (n30<0)) (k33 true W32) (k33 (decide (n2<w64 ((w64 ((w64 (size10+n14))+n27))+4))) W32)) fun t9034 W35=>ifK t9034 (K (⟨none,0,0⟩) 30 W35) (st W35 b12 2 [.int .i64 (w64 (n27+4))] fun W36=>st W36 b12 1 [.int .i64 n30] fun W37=>ld W37 Ki b12 2 fun n38=>k26 n31 (w64 ((w64 (size10+n14))+n38)) W37))) (k26 (w64 (n15+n14)) (w64 (size10+n14)) W25)) fun at_39 size40 W41=>ld W41 .sl b12 0 fun a42=>ld W41 Ki b12 1 fun n43=>ld W41 Ki b12 2 fun n44=>ld W41 Ki b12 2 fun n45=>callK Pg 168 [.agg [.sl a42,.int .i64 n43,.int .i64 n44],Ai (w64 ((w64 (size40-n14))-n45)),Ab (size40==n2)] W41 Ob fun c46 W47=>ifK (!c46) (K (⟨none,0,0⟩) 30 W47) (ld W47 .sl b12 0 fun a48=>ld W47 Ki b12 1 fun n49=>ld W47 Ki b12 2 fun n50=>al W47 238 [.sl a48,.int .i64 n49,.int .i64 n50] fun b51 W52=>ap W52 238 3 40 [.sl (⟨none,0,0⟩),.int .i64 0,.int .i64 0] ts8 (⟨some (b51,0),1,1⟩) fun a53 W54=>g7 a53 at_39 size40 W54))) (k6 ts8 at_9 W11)) [.sl (⟨none,0,0⟩),.int .i64 0,.int .i64 0] W5) fun ts55 at_56 W57=>ifK (at_56 != (b1.len:Int)) (K (⟨none,0,0⟩) 30 W57) (K ts55 0 W57))):callK Pg 144 [Az b1,Ai n2] w (.tup [Ls,Li]) K:=Fq (n:=(n0 .nil (n0 (n0 (.mk (some [.tmp 22 Lb]) [] [0,1] .done .nil .nil) .nil) (n0 .nil (n0 .nil (n0 .nil (n0 (.mk (some [.tmp 6 Ls,.tmp 7 Li]) [] [0] .done (.mk none [.tmp 6 Ls,.tmp 7 Li,.tmp 8 Li] [0,1] .done (n0 .nil (n0 (n0 .nil (n0 .nil (n0 (n0 (.mk (some [.tmp 48 Lb]) [] [0,1,6,8,9,10,11] .done .nil .nil) .nil) (n0 .nil (n0 .nil (n0 .nil (n0 (n0 .nil (.mk (some [.tmp 7 Li,.tmp 8 Li]) [] [0,1,6,9,10] .done (n0 .nil (n0 .nil (n0 .nil (n0 (n0 (.mk (some [.tmp 90 Lb]) [] [0,1,6,8,9,10,12,14,15] .done .nil .nil) .nil) .nil)))) .nil)) .nil))))))) .nil)) .nil) .nil) .nil))))))) CS_ok mixed Tryz.func144 (Eq.mpr (by kernel_rfl) h)
theorem go_142(ts1:Sl)(K:Sl→Int→Wp)(w:World)(h:joinK [.sl] (fun k2=>loopL [.sl,Ki] (fun text4 i5 W6 g3=>ifK (decide (i5<(ts1.len:Int))) (ix ts1 3 i5 fun b7 o8=>ld W6 .sl b7 o8 fun a9=>ld W6 Ki b7 (o8+1) fun n10=>ld W6 Ki b7 (o8+2) fun n11=>al W6 238 [.sl (⟨none,0,0⟩),.int .i64 0,.int .i64 0] fun b12 W13=>st W13 b12 0 [.sl a9,.int .i64 n10,.int .i64 n11] fun W14=>ld W14 .sl b12 0 fun a15=>ld W14 Ki b12 1 fun n16=>ld W14 Ki b12 2 fun n17=>callK Pg 168 [.agg [.sl a15,.int .i64 n16,.int .i64 n17],Ai (text4.len:Int),Ab (i5==(w64 ((ts1.len:Int)-1)))] W14 Ob fun c18 W19=>ifK (!c18) (K (⟨none,0,0⟩) 31 W19) (ld W19 .sl b12 0 fun a20=>ld W19 Ki b12 2 fun n21=>ifK (decide (65536<w64 ((w64 ((text4.len:Int)+(a20.len:Int)))+n21))) (K (⟨none,0,0⟩) 2 W19) (ld W19 .sl b12 0 fun a22=>ap W19 5 1 1 [.int .u8 0] text4 a22 fun a23 W24=>joinK [.sl] (fun k25=>loopL [.sl,Ki] (fun text27 k28 W29 g26=>ld W29 Ki b12 2 fun n30=>ifK (decide (k28<n30)) (ld W29 Ki b12 1 fun n31=>ix text27 1 (w64 ((text27.len:Int)-n31)) fun b32 o33=>ld W29 (.int .u8) b32 o33 fun n34=>al W29 5 [.int .u8 n34] fun b35 W36=>ap W36 5 1 1 [.int .u8 0] text27 (⟨some (b35,0),1,1⟩) fun a37 W38=>g26 a37 (w64 (k28+1)) W38) (k25 text27 W29)) [.sl a23,.int .i64 0] W24) fun text39 W40=>g3 text39 (w64 (i5+1)) W40))) (k2 text4 W6)) [.sl (⟨none,0,0⟩),.int .i64 0] w) fun text41 W42=>K text41 0 W42):callK Pg 145 [Az ts1] w (.tup [Ls,Li]) K:=Fq (n:=(n0 .nil (n0 .nil (n0 (n0 .nil (.mk (some [.tmp 4 Ls]) [] [] .done (.mk none [.tmp 4 Ls,.tmp 5 Li] [0] .done (n0 .nil (n0 (n0 (n0 .nil (n0 .nil (n0 .nil (n0 .nil (n0 .nil (n0 .nil (.mk (some [.tmp 4 Ls]) [] [0,5] .done (.mk none [.tmp 4 Ls,.tmp 8 Li] [0,5,6] .done .nil .nil) .nil))))))) .nil) .nil)) .nil) .nil)) .nil)))) CS_ok mixed Tryz.func145 (Eq.mpr (by kernel_rfl) h)
theorem go_143(b1:Sl)(n2:Int)(K:Sl→Int→Wp)(w:World)(h:callK Pg 144 [Az b1,Ai n2] w (.tup [Ls,Li]) fun a3 n4 W5=>ifK (n4 != 0) (K (⟨none,0,0⟩) n4 W5) (callK Pg 145 [Az a3] W5 (.tup [Ls,Li]) fun a6 n7 W8=>K a6 n7 W8)):callK Pg 110 [Az b1,Ai n2] w (.tup [Ls,Li]) K:=Fq (n:=.nil) CS_ok mixed Tryz.func110 (Eq.mpr (by kernel_rfl) h)
structure Tk where
 lit:Str
 dist:Nat
 len:Nat
def numR(b:Str)(at_:Nat):Option (Nat×Nat):=if (getN (b.drop at_)).2.2≠0∨65536<(getN (b.drop at_)).1 then none else some ((getN (b.drop at_)).1,at_+(getN (b.drop at_)).2.1)
def fitsN(lit dist len n:Nat)(last:Bool):Bool:=if dist=0∧len=0 then last&&decide (0<lit) else decide (4≤len∧len≤259∧1≤dist∧dist≤32768∧dist≤n+lit)
def tokRun(b:Str)(n:Nat):Nat→Nat→Nat→List Tk→Option (List Tk)
 | 0,_,_,_=>none
 | k+1,at_,size,ts=>
  if ¬size<n then (if at_=b.length then some ts else none) else
  match numR b at_ with
  | none=>none
  | some l=>
   if b.length-l.2<l.1∨n<size+l.1 then none else
   if size+l.1<n then
    match numR b (l.2+l.1) with
    | none=>none
    | some m=>match numR b m.2 with
     | none=>none
     | some d=>if n<size+l.1+m.1+4 then none else
      if fitsN l.1 d.1 (m.1+4) size (size+l.1+(m.1+4)==n) then tokRun b n k d.2 (size+l.1+(m.1+4)) (ts++[⟨(b.drop l.2).take l.1,d.1,m.1+4⟩]) else none
   else if fitsN l.1 0 0 size (size+l.1==n) then tokRun b n k (l.2+l.1) (size+l.1) (ts++[⟨(b.drop l.2).take l.1,0,0⟩]) else none
theorem numR_le{b:Str}{at_:Nat}(h:at_≤b.length){x:Nat×Nat}(hx:numR b at_=some x):x.1≤65536∧x.2≤b.length:=by
 unfold numR at hx;split at hx
 ·cases hx
 ·rename_i hh;cases hx;have:=getN_len (b.drop at_);rw [Lld] at this;exact⟨by show (getN _).1≤_;omega,by show at_+_≤_;omega⟩
theorem fitsN_len{lit dist len n:Nat}{last:Bool}(h:fitsN lit dist len n last=true):0<lit+len:=by
 unfold fitsN at h;split at h
 ·rw [Bat] at h;have:=odt h.2;omega
 ·have:=odt h;omega
structure TkM where
 sl:Sl
 dist:Nat
 len:Nat
def ETk:Enc TkM:=⟨3,fun x=>[(LV.sl x.sl).toV,.int .i64 (x.dist:Int),.int .i64 (x.len:Int)],fun _=>rfl,by decide,fun x v h=>by
 simp only [List.mem_cons,List.not_mem_nil,or_false] at h
 rcases h with rfl | rfl | rfl<;>first | rfl | exact cell_sl _⟩
structure TokM(Y:BL)(p:TkM)(x:Tk):Prop where
 lit:OwnL Y ET p.sl x.lit
 dist:p.dist=x.dist
 len:p.len=x.len
theorem TokM.mono{Y Y':BL}{p:TkM}{x:Tk}(h:TokM Y p x)(hs:∀q∈Y,q∈Y'):TokM Y' p x:=⟨h.lit.mono hs,h.dist,h.len⟩
theorem rNumber_ok{w:World}{s:Sl}{b:Str}(hr:RdS w ET s b)(hl:b.length≤1099511627776){i:Int}{at_:Nat}(hi:i=(at_:Int))(ha:at_≤b.length){K:Int→Int→Wp}
  (hN:numR b at_=none→K (-1) (at_:Int) w) (hS:∀x,numR b at_=some x→K (x.1:Int) (x.2:Int) w) :
  callK Pg c_139 [Az s,Ai i] w (.tup [Li,Li]) K:=by
 subst hi;refine go_139 _ _ _ _ ?_;refine hr.fromK ha rfl rfl fun s3 h3 _=>rGet_ok h3 (by rw [Lld];omega) ?_;have hgl:=getN_len (b.drop at_);rw [Lld] at hgl;unfold numR at hN hS;generalize getN (b.drop at_)=g at hN hS hgl ⊢;refine join1 (a:=.bool) (fun q v=>q=decide (g.2.2≠0∨65536<g.1)∧v=w) (fun k hk=>Iq (fun q=>hk _ _ ⟨?_,rfl⟩) fun q=>hk _ _ ⟨?_,rfl⟩) ?_
 ·exact (Dct (.inl (by simpa using q))).symm
 ·have q:g.2.2=0:=by simpa using q
  show decide ((65536:Int)<(g.1:Int))=_;rw [Bei,Det,Det];exact⟨fun h=>.inr (by omega),fun h=>by
   rcases h with h | h
   ·exact absurd q h
   ·omega⟩
 rintro q v ⟨rfl,rfl⟩;refine Iq (fun q=>?_) fun q=>?_
 ·exact hN (if_pos (odt q))
 ·have:=hS _ (if_neg (odf q));rw [show w64 ((at_:Int)+(g.2.1:Int))=((at_+g.2.1:Nat):Int) by rw [Wq (by omega) (by omega)];omega];exact this
theorem rFits_ok{w:World}{s:Sl}{lit dist len n:Nat}{last:Bool}(hs:s.len=lit)(hn:n+lit≤2199023255552){K:Bool→Wp}(hK:∀w',Mod F0 w w'→K (fitsN lit dist len n last) w') :
  callK Pg c_140 [.agg [.sl s,.int .i64 (dist:Int),.int .i64 (len:Int)],Ai (n:Int),Ab last] w Ob K:=by
 refine go_140 _ _ _ _ _ _ _ ?_;refine (Fresh.start w F0).alK fun b w1 f1 _ M1=>?_;have hB:Blk w1 b (ETk.f ⟨s,dist,len⟩):=f1.blk (i:=0) rfl;have l0:∀{K:Sl→Prop},K s→Go.Vw.ld w1 .sl b 0 K:=fun hK=>hB.ldK (k:=.sl) s rfl hK;have l1:∀{K:Int→Prop},K (dist:Int)→Go.Vw.ld w1 Ki b 1 K:=fun hK=>hB.ldK (k:=Ki) (dist:Int) rfl hK;have l2:∀{K:Int→Prop},K (len:Int)→Go.Vw.ld w1 Ki b 2 K:=fun hK=>hB.ldK (k:=Ki) (len:Int) rfl hK;have hK:=hK w1 M1;unfold fitsN at hK;refine join1 (a:=.bool) (fun q v=>q=decide (dist=0∧len=0)∧v=w1) (fun k hk=>l1 (Iq (fun q=>l2 (hk _ _ ⟨?_,rfl⟩)) fun q=>hk _ _ ⟨?_,rfl⟩)) ?_
 ·have q:(dist:Int)=0:=by simpa using q
  show (((len:Nat):Int)==0)=_;rw [Bei,beq_iff_eq,Det];omega
 ·have q:¬(dist:Int)=0:=by simpa using q
  exact (Dcf fun h=>by omega).symm
 rintro q v ⟨rfl,rfl⟩;refine Iq (fun q=>?_) fun q=>?_
 ·rw [if_pos (odt q)] at hK;refine join1 (a:=.bool) (fun q u=>q=(last&&decide (0<lit))∧u=v) (fun k hk=>Iq (fun q=>l0 (hk _ _ ⟨?_,rfl⟩)) fun q=>hk _ _ ⟨?_,rfl⟩) ?_
  ·have q:last=true:=q;rw [q,hs,Bool.true_and];show decide ((0:Int)<(lit:Int))=_;rw [Bei,Det,Det];omega
  ·have q:last=false:=q;rw [q];rfl
  rintro q u ⟨rfl,rfl⟩;exact hK
 ·rw [if_neg (odf q)] at hK;refine l0 ?_;rw [hs];have ew:w64 ((n:Int)+(lit:Int))=((n+lit:Nat):Int):=by rw [Wq (by omega) (by omega)];omega
  rw [ew];refine join1 (a:=.bool) (fun q u=>q=decide (4≤len∧len≤259∧1≤dist∧dist≤32768∧dist≤n+lit)∧u=v) ?_ (by rintro q u ⟨rfl,rfl⟩;exact hK);intro k hk;have no:(¬(4≤len∧len≤259∧1≤dist∧dist≤32768∧dist≤n+lit))→k false v:=fun h=>hk _ _ ⟨(Dcf h).symm,rfl⟩;refine l2 (Iq (fun q1=>l2 (Iq (fun q2=>l1 (Iq (fun q3=>l1 (Iq (fun q4=>l1 (hk _ _ ⟨?_,rfl⟩)) fun q=>no fun h=>?_)) fun q=>no fun h=>?_)) fun q=>no fun h=>?_)) fun q=>no fun h=>?_)
  ·have q1:(4:Int)≤(len:Int):=odt q1;have q2:(len:Int)≤259:=odt q2;have q3:(1:Int)≤(dist:Int):=odt q3;have q4:(dist:Int)≤32768:=odt q4;show decide ((dist:Int)≤((n+lit:Nat):Int))=_;rw [Bei,Det,Det];omega
  ·have q:¬(dist:Int)≤32768:=odf q;omega
  ·have q:¬(1:Int)≤(dist:Int):=odf q;omega
  ·have q:¬(len:Int)≤259:=odf q;omega
  ·have q:¬(4:Int)≤(len:Int):=odf q;omega
set_option maxHeartbeats 2000000 in
theorem rTokens_ok{w:World}{s:Sl}{b:Str}(hr:RdS w ET s b)(hl:b.length≤1099511627776){n:Int}{K:Sl→Int→Wp}
  (hE:n<0∨65536<n→K ⟨none,0,0⟩ 3 w)
  (hN:¬(n<0∨65536<n)→tokRun b n.toNat (n.toNat+1) 0 0 []=none→∀w',Mod F0 w w'→K ⟨none,0,0⟩ 30 w')
  (hS:¬(n<0∨65536<n)→∀ts,tokRun b n.toNat (n.toNat+1) 0 0 []=some ts→∀w' ro Y s' ps,Fresh w w' F0 (Y++ro)→VecL ro ETk s' ps→ps.length=ts.length→(∀(j:Nat) p x,ps[j]? = some p→ts[j]? = some x→TokM Y p x)→ts.length≤65537→K s' 0 w') :
  callK Pg c_141 [Az s,Ai n] w (.tup [Ls,Li]) K:=by
 refine go_141 _ _ _ _ ?_;refine join1 (a:=.bool) (fun q v=>q=decide (n<0∨65536<n)∧v=w) (fun k hk=>Iq (fun q=>hk _ _ ⟨?_,rfl⟩) fun q=>hk _ _ ⟨?_,rfl⟩) ?_
 ·exact (Dct (.inl (odt q))).symm
 ·have q:¬n<0:=odf q;show decide (65536<n)=_;rw [Bei,Det,Det];omega
 rintro q v ⟨rfl,rfl⟩;refine Iq (fun q=>hE (odt q)) fun q=>?_;have q:=odf q;have hN:=hN q;have hS:=hS q;obtain⟨N,rfl⟩:∃N:Nat,n=(N:Int):=⟨n.toNat,by omega⟩;rw [Itn] at hN hS;have hN6:N≤65536:=by omega
 generalize hT:tokRun b N (N+1) 0 0 []=T at hN hS;rw [hr.len];refine join2 (a:=.sl) (b:=Ki) (fun (s':Sl) (a:Int) u=>∃(at_:Nat) (ro Y:BL) (ts:List Tk) (ps:List TkM),a=(at_:Int)∧T=(if at_=b.length then some ts else none)∧Fresh v u F0 (Y++ro)∧VecL ro ETk s' ps∧ps.length=ts.length∧(∀(j:Nat) p x,ps[j]? = some p→ts[j]? = some x→TokM Y p x)∧ts.length≤65537) ?_ ?_;rotate_left
 ·rintro s' a u ⟨at_,ro,Y,ts,ps,rfl,hrun,hf,hv,hpl,heach,htl⟩;refine Iq (fun q=>?_) fun q=>?_
  ·have q:¬at_=b.length:=by
    intro e;rw [e] at q;simp at q
   rw [if_neg q] at hrun;exact hN hrun u hf.mod
  ·have q:at_=b.length:=by
    have:((at_:Nat):Int)=((b.length:Nat):Int):=by simpa using q
    omega
   rw [if_pos q] at hrun;exact hS ts hrun u ro Y s' ps hf hv hpl heach htl
 intro k6 hk6;refine loop3 (k1:=.sl) (k2:=Ki) (k3:=Ki) (fun (s':Sl) (a z:Int) u=>∃(k at_ size:Nat) (ro Y:BL) (ts:List Tk) (ps:List TkM),a=(at_:Int)∧z=(size:Int)∧at_≤b.length∧size≤N∧N+1≤k+size∧T=tokRun b N k at_ size ts∧Fresh v u F0 (Y++ro)∧VecL ro ETk s' ps∧ps.length=ts.length∧(∀(j:Nat) p x,ps[j]? = some p→ts[j]? = some x→TokM Y p x)∧ts.length≤size) (fun _ _ z _=>(N-z).toNat) (x1:=⟨none,0,0⟩) (x2:=0) (x3:=0) rfl rfl rfl
  ⟨N+1,0,0,[],[],[],[],rfl,rfl,Nzl _,Nzl _,by omega,hT.symm,Fresh.start v F0,VecL.nil ETk,rfl,by simp,Nlr _⟩ ?_
 rintro s' a z u ⟨k,at_,size,ro,Y,ts,ps,rfl,rfl,hat,hsz,hfu,hrun,hf,hv,hpl,heach,htl⟩;obtain⟨k,rfl⟩:∃j,k=j+1:=⟨k-1,by omega⟩;rw [tokRun] at hrun;refine Iq (fun q1=>?_) fun q1=>?_;rotate_left
 ·have q1:N≤size:=dge q1;rw [if_pos (by omega)] at hrun;exact hk6 _ _ u ⟨at_,ro,Y,ts,ps,rfl,hrun,hf,hv,hpl,heach,by omega⟩
 have q1:size<N:=dlt q1;rw [if_neg (by omega)] at hrun;refine hf.alK fun b12 u1 f1 _ M1=>?_;have f1:Fresh v u1 F0 ((b12,ETk.f ⟨⟨none,0,0⟩,0,0⟩)::(Y++ro)):=f1.perm (Lpc (l₁:=[(b12,ETk.f ⟨⟨none,0,0⟩,0,0⟩)]));have hr1:∀{z:World} {L:BL},Fresh v z F0 L→RdS z ET s b:=fun f=>hr.quiet f.mod;have none':∀{z:World} {L:BL},Fresh v z F0 L→T=none→K ⟨none,0,0⟩ 30 z:=fun f e=>hN e _ f.mod;refine rNumber_ok (hr1 f1) hl rfl hat (fun e=>?_) fun l el=>?_
 ·rw [e] at hrun;refine join1 (a:=.bool) (fun q z=>q=true∧z=u1) (fun k hk=>ifK_t rfl (hk _ _ ⟨rfl,rfl⟩)) ?_;rintro q z ⟨rfl,rfl⟩;exact ifK_t rfl (none' f1 hrun)
 rw [el] at hrun;dsimp only at hrun;have hll:=numR_le hat el;have e1:w64 ((b.length:Int)-(l.2:Int))=((b.length-l.2:Nat):Int):=by rw [Wq (by omega) (by omega)];omega
 have e2:w64 ((size:Int)+(l.1:Int))=((size+l.1:Nat):Int):=by rw [Wq (by omega) (by omega)];omega
 rw [e1,e2];refine join1 (a:=.bool) (fun q z=>q=decide (b.length-l.2<l.1∨N<size+l.1)∧z=u1) (fun k hk=>ifK_f (Dcf (by omega:¬((l.1:Nat):Int)<0)) (Iq (fun q=>hk _ _ ⟨?_,rfl⟩) fun q=>hk _ _ ⟨?_,rfl⟩)) ?_
 ·exact (Dct (.inl (dlt q))).symm
 ·have q:l.1≤b.length-l.2:=dge q;show decide ((N:Int)<((size+l.1:Nat):Int))=_;rw [Bei,Det,Det];omega
 rintro q z ⟨rfl,rfl⟩;refine Iq (fun q=>?_) fun q=>?_
 ·rw [if_pos (odt q)] at hrun;exact none' f1 hrun
 have q:=odf q;rw [if_neg q] at hrun
 refine f1.alK fun b20 u2 f2 _ M2=>?_;have f2:Fresh v u2 F0 (((b12,ETk.f ⟨⟨none,0,0⟩,0,0⟩)::(Y++ro))++[(b20,[])]):=f2;have e3:w64 ((l.2:Int)+(l.1:Int))=((l.2+l.1:Nat):Int):=by rw [Wq (by omega) (by omega)];omega
 rw [e3];refine (hr1 f2).partK (n:=l.2) (m:=l.2+l.1) (by omega) (by omega) rfl rfl rfl fun s22 h22 _=>?_;have hlit:(b.take (l.2+l.1)).drop l.2=(b.drop l.2).take l.1:=by rw [List.drop_take,Nat.add_sub_cancel_left]
 rw [hlit] at h22;have hlitl:((b.drop l.2).take l.1).length=l.1:=by rw [Llt,Lld];omega
 generalize (b.drop l.2).take l.1=lit at h22 hlitl hrun;refine Fresh.app f2 (vec0 ET b20) h22 rfl rfl (by rw [hlitl];simp only [List.length_nil];omega) fun s23 ro3 u3 f3 v3 _=>?_;rw [List.nil_append] at v3;have f3:Fresh v u3 F0 ((b12,ETk.f ⟨⟨none,0,0⟩,0,0⟩)::((Y++ro)++ro3)):=f3;refine f3.stH (by decide:0+1≤3) (X':=ETk.f ⟨s23,0,0⟩) rfl fun u4 f4=>?_;refine join2 (a:=Ki) (b:=Ki) (fun (a' z':Int) y=>∃(at2 size2 dist len:Nat),a'=(at2:Int)∧z'=(size2:Int)∧size2=size+l.1+len∧at2≤b.length∧size2≤N∧Fresh v y F0 ((b12,ETk.f ⟨s23,dist,len⟩)::((Y++ro)++ro3))∧T=if fitsN l.1 dist len size (size2==N) then tokRun b N k at2 size2 (ts++[⟨lit,dist,len⟩]) else none) ?_ ?_
 ·intro k26 hk26;refine Iq (fun q2=>?_) fun q2=>?_;rotate_left
  ·have q2:N≤size+l.1:=dge q2;rw [if_neg (by omega)] at hrun;exact hk26 _ _ u4 ⟨l.2+l.1,size+l.1,0,0,rfl,rfl,rfl,by omega,by omega,f4,hrun⟩
  have q2:size+l.1<N:=dlt q2;rw [if_pos q2] at hrun;refine rNumber_ok (hr1 f4) hl rfl (by omega:l.2+l.1≤b.length) (fun e=>?_) fun m em=>?_
  ·rw [e] at hrun;exact ifK_t rfl (none' f4 hrun)
  rw [em] at hrun;dsimp only at hrun;have hml:=numR_le (by omega:l.2+l.1≤b.length) em;refine ifK_f (Dcf (by omega:¬((m.1:Nat):Int)<0)) (rNumber_ok (hr1 f4) hl rfl hml.2 (fun e=>?_) fun d ed=>?_)
  ·rw [e] at hrun;refine join1 (a:=.bool) (fun q z=>q=true∧z=u4) (fun k hk=>ifK_t rfl (hk _ _ ⟨rfl,rfl⟩)) ?_;rintro q z ⟨rfl,rfl⟩;exact ifK_t rfl (none' f4 hrun)
  rw [ed] at hrun;dsimp only at hrun;have hdl:=numR_le hml.2 ed;have e4:w64 (w64 (((size+l.1:Nat):Int)+(m.1:Int))+4)=((size+l.1+m.1+4:Nat):Int):=by
   rw [Wq (n:=((size+l.1:Nat):Int)+(m.1:Int)) (by omega) (by omega),Wq (by omega) (by omega)];omega
  rw [e4];refine join1 (a:=.bool) (fun q z=>q=decide (N<size+l.1+m.1+4)∧z=u4) (fun k hk=>ifK_f (Dcf (by omega:¬((d.1:Nat):Int)<0)) (hk _ _ ⟨?_,rfl⟩)) ?_
  ·show decide ((N:Int)<((size+l.1+m.1+4:Nat):Int))=_;rw [Bei,Det,Det];omega
  rintro q3 z ⟨rfl,rfl⟩;refine Iq (fun q3=>?_) fun q3=>?_
  ·rw [if_pos (odt q3)] at hrun;exact none' f4 hrun
  have q3:=odf q3;rw [if_neg q3] at hrun;have e5:w64 ((m.1:Int)+4)=((m.1+4:Nat):Int):=by rw [Wq (by omega) (by omega)];omega
  rw [e5];refine f4.stH (by decide:2+1≤3) (X':=ETk.f ⟨s23,0,m.1+4⟩) rfl fun u5 f5=>f5.stH (by decide:1+1≤3) (X':=ETk.f ⟨s23,d.1,m.1+4⟩) rfl fun u6 f6=>?_;have hB6:Blk u6 b12 (ETk.f ⟨s23,d.1,m.1+4⟩):=f6.own _ (Lcs ..);refine hB6.ldK (k:=Ki) ((m.1+4:Nat):Int) rfl ?_;have e6:w64 (((size+l.1:Nat):Int)+((m.1+4:Nat):Int))=((size+l.1+(m.1+4):Nat):Int):=by rw [Wq (by omega) (by omega)];omega
  rw [e6];exact hk26 _ _ u6 ⟨d.2,size+l.1+(m.1+4),d.1,m.1+4,rfl,rfl,rfl,hdl.2,by omega,f6,hrun⟩
 rintro a' z' y ⟨at2,size2,dist,len,rfl,rfl,hs2,hat2,hsz2,fy,hrun⟩;have hBy:Blk y b12 (ETk.f ⟨s23,dist,len⟩):=fy.own _ (Lcs ..);refine hBy.ldK (k:=.sl) s23 rfl (hBy.ldK (k:=Ki) (dist:Int) rfl (hBy.ldK (k:=Ki) (len:Int) rfl (hBy.ldK (k:=Ki) (len:Int) rfl ?_)));have e7:w64 (w64 ((size2:Int)-(l.1:Int))-(len:Int))=(size:Int):=by
  rw [Wq (n:=(size2:Int)-(l.1:Int)) (by omega) (by omega),Wq (by omega) (by omega)];omega
 have e8:(((size2:Nat):Int)==((N:Nat):Int))=(size2==N):=by rw [Bei,beq_iff_eq,beq_iff_eq];omega
 rw [e7,e8];refine rFits_ok (v3.1.trans hlitl) (by omega) fun y2 My=>?_;have fy2:=fy.quiet My;refine Iq (fun q4=>?_) fun q4=>?_
 ·have q4:fitsN l.1 dist len size (size2==N)=false:=by simpa using q4
  rw [if_neg (by rw [q4];decide)] at hrun;exact none' fy2 hrun
 have q4:fitsN l.1 dist len size (size2==N)=true:=by simpa using q4
 rw [if_pos q4] at hrun;have hgrow:=fitsN_len q4;have hBy2:Blk y2 b12 (ETk.f ⟨s23,dist,len⟩):=fy2.own _ (Lcs ..);refine hBy2.ldK (k:=.sl) s23 rfl (hBy2.ldK (k:=Ki) (dist:Int) rfl (hBy2.ldK (k:=Ki) (len:Int) rfl ?_));have f7:Fresh v y2 F0 ((Y++ro3)++ro):=(fy2.sub (List.sublist_cons_self _ _)).perm (by
  rw [Laa,Laa];exact Lpc.append_left Y)
 refine Fresh.push f7 hv ⟨s23,dist,len⟩ rfl rfl rfl (by omega) fun s8 ro8 u8 f8 v8 _=>?_;refine⟨⟨k,at2,size2,ro8,Y++ro3,ts++[⟨lit,dist,len⟩],ps++[⟨s23,dist,len⟩],rfl,rfl,hat2,hsz2,by omega,hrun,f8,v8,by simp [hpl],fun j p x hp hx=>?_,by simp;omega⟩,by omega⟩;rcases Nat.lt_trichotomy j ts.length with hj | hj | hj
 ·rw [Lgl (by omega)] at hp hx;exact (heach j p x hp hx).mono fun q hq=>Lml _ hq
 ·subst hj;rw [Lgr (by omega),hpl,Nat.sub_self] at hp;rw [Lgr (by omega),Nat.sub_self] at hx;cases hp;cases hx;exact⟨⟨ro3,v3,fun p hp=>by simp [hp]⟩,rfl,rfl⟩
 ·rw [List.getElem?_eq_none (by simp;omega)] at hx;cases hx
def expRun:List Tk→Str→Option Str
 | [],t=>some t
 | x::r,t=>if fitsN x.lit.length x.dist x.len t.length (decide (r=[]))=false then none else if 65536<t.length+x.lit.length+x.len then none else expRun r (againN x.dist x.len (t++x.lit))
def lzR(b:Str)(n:Int):Option Str:=if n<0∨65536<n then none else match tokRun b n.toNat (n.toNat+1) 0 0 [] with
 | none=>none
 | some ts=>expRun ts []
theorem fitsN_dist{lit dist len n:Nat}{last:Bool}(h:fitsN lit dist len n last=true)(hl:0<len):1≤dist∧dist≤n+lit:=by
 unfold fitsN at h;split at h
 ·omega
 ·have:=odt h;omega
set_option maxHeartbeats 2000000 in
theorem rExpand_ok{w:World}{s:Sl}{ps:List TkM}{ts:List Tk}(hr:RdS w ETk s ps)(hlen:ps.length=ts.length)(hl:ts.length≤65537)(heach:∀(j:Nat) p x,ps[j]? = some p→ts[j]? = some x→RdS w ET p.sl x.lit∧p.dist=x.dist∧p.len=x.len∧x.lit.length≤1099511627776∧x.len≤1099511627776){K:Sl→Int→Wp}
  (hN:expRun ts []=none→∀(e:Int) w',e≠0→Mod F0 w w'→K ⟨none,0,0⟩ e w') (hS:∀x,expRun ts []=some x→∀w' ro s',Fresh w w' F0 ro→VecL ro ET s' x→K s' 0 w') :
  callK Pg c_142 [Az s] w (.tup [Ls,Li]) K:=by
 refine go_142 _ _ _ ?_;generalize hT:expRun ts []=T at hN hS;refine join1 (a:=.sl) (fun (s':Sl) u=>∃ro x,T=some x∧Fresh w u F0 ro∧VecL ro ET s' x) ?_ (by rintro s' u ⟨ro,x,e,hf,hv⟩;exact hS x e u ro s' hf hv);intro k2 hk2;rw [hr.len,hlen];refine loop2 (k1:=.sl) (k2:=Ki) (fun (s':Sl) (a:Int) u=>∃(i:Nat) (ro:BL) (t:Str),a=(i:Int)∧i≤ts.length∧t.length≤65536∧Fresh w u F0 ro∧VecL ro ET s' t∧T=expRun (ts.drop i) t) (fun _ a _=>(ts.length-a).toNat) (x1:=⟨none,0,0⟩) (x2:=0) rfl rfl ⟨0,[],[],rfl,Nzl _,by simp,Fresh.start w F0,VecL.nil ET,hT.symm⟩ ?_;rintro s' a u ⟨i,ro,t,rfl,hi,ht,hf,hv,hrun⟩;refine Iq (fun q1=>?_) fun q1=>?_;rotate_left
 ·have q1:ts.length≤i:=dge q1;rw [Ldn q1] at hrun;exact hk2 _ _ ⟨ro,t,hrun,hf,hv⟩
 have q1:i<ts.length:=dlt q1;obtain⟨x,hx⟩:=Gq q1;obtain⟨p,hp⟩:=Gq (l:=ps) (i:=i) (by rw [hlen];exact q1);obtain⟨hlit,hdist,hlen',hll,hlenb⟩:=heach i p x hp hx;rw [Dg hx,expRun] at hrun;refine (hr.quiet hf.mod).ix rfl rfl hp fun b o _ hc=>Lq (k:=.sl) p.sl (hc 0 (by decide)) (Lq (k:=Ki) (p.dist:Int) (hc 1 (by decide)) (Lq (k:=Ki) (p.len:Int) (hc 2 (by decide)) ?_));refine hf.alst (by rfl) fun b12 u1 f1 _ _=>?_;have f1:Fresh w u1 F0 ([(b12,ETk.f p)]++ro):=f1.perm Lpc;have hB1:Blk u1 b12 (ETk.f p):=f1.own (b12,ETk.f p) (by simp);refine hB1.ldK (k:=.sl) p.sl rfl (hB1.ldK (k:=Ki) (p.dist:Int) rfl (hB1.ldK (k:=Ki) (p.len:Int) rfl ?_));have e1:w64 ((ts.length:Int)-1)=((ts.length-1:Nat):Int):=by rw [Wq (by omega) (by omega)];omega
 have e2:(((i:Nat):Int)==((ts.length-1:Nat):Int))=decide (ts.drop (i+1)=[]):=by
  rw [Bei,beq_iff_eq,Det,List.drop_eq_nil_iff];omega
 rw [e1,e2,hv.1,hdist,hlen'];refine rFits_ok (hlit.len) (by omega) fun u2 M2=>?_;have f2:=f1.quiet M2;refine Iq (fun q2=>?_) fun q2=>?_
 ·have q2:fitsN x.lit.length x.dist x.len t.length (decide (ts.drop (i+1)=[]))=false:=by simpa using q2
  rw [if_pos q2] at hrun;exact hN hrun 31 u2 (by decide) f2.mod
 have q2:fitsN x.lit.length x.dist x.len t.length (decide (ts.drop (i+1)=[]))=true:=by simpa using q2
 rw [if_neg (by rw [q2];decide)] at hrun;have hB2:Blk u2 b12 (ETk.f p):=f2.own (b12,ETk.f p) (by simp);refine hB2.ldK (k:=.sl) p.sl rfl (hB2.ldK (k:=Ki) (p.len:Int) rfl ?_);have e3:w64 (w64 ((t.length:Int)+(p.sl.len:Int))+(p.len:Int))=((t.length+x.lit.length+x.len:Nat):Int):=by
  rw [hlit.len,hlen',Wq (n:=(t.length:Int)+(x.lit.length:Int)) (by omega) (by omega),Wq (by omega) (by omega)];omega
 rw [e3];refine Iq (fun q3=>?_) fun q3=>?_
 ·have q3:(65536:Int)<((t.length+x.lit.length+x.len:Nat):Int):=odt q3;rw [if_pos (by omega)] at hrun;exact hN hrun 2 u2 (by decide) f2.mod
 have q3:¬(65536:Int)<((t.length+x.lit.length+x.len:Nat):Int):=odf q3;rw [if_neg (by omega)] at hrun;refine hB2.ldK (k:=.sl) p.sl rfl ?_;refine Fresh.app f2 hv (hlit.quiet f2.mod) rfl rfl (by omega) fun s3 ro3 u3 f3 v3 _=>?_;refine join1 (a:=.sl) (fun (s4:Sl) y=>∃ro4,Fresh w y F0 ([(b12,ETk.f p)]++ro4)∧VecL ro4 ET s4 (againN x.dist x.len (t++x.lit))) ?_ ?_;rotate_left
 ·rintro s4 y ⟨ro4,f4,v4⟩;rw [step64 (by omega)];exact⟨⟨i+1,ro4,_,rfl,q1,by rw [againN_length,Lla];omega,f4.sub (Lsr _ _),v4,hrun⟩,by omega⟩
 intro k25 hk25;refine loop2 (k1:=.sl) (k2:=Ki) (fun (s4:Sl) (a:Int) y=>∃(j:Nat) (ro4:BL) (t':Str),a=(j:Int)∧j≤x.len∧t'.length=t.length+x.lit.length+j∧Fresh w y F0 ([(b12,ETk.f p)]++ro4)∧VecL ro4 ET s4 t'∧againN x.dist (x.len-j) t'=againN x.dist x.len (t++x.lit)) (fun _ a _=>(x.len-a).toNat) (x1:=s3) (x2:=0) rfl rfl ⟨0,ro3,_,rfl,Nzl _,by rw [Lla];rfl,f3,v3,rfl⟩ ?_;rintro s4 a y ⟨j,ro4,t',rfl,hj,htl,f4,v4,hag⟩;have hB4:Blk y b12 (ETk.f p):=f4.own (b12,ETk.f p) (by simp);refine hB4.ldK (k:=Ki) (p.len:Int) rfl ?_;rw [hlen'];refine Iq (fun q4=>?_) fun q4=>?_;rotate_left
 ·have q4:x.len≤j:=dge q4;have:j=x.len:=by omega
  subst this;rw [Nat.sub_self,againN] at hag;exact hk25 _ _ ⟨ro4,f4,hag▸v4⟩
 have q4:j<x.len:=dlt q4;have hd:=fitsN_dist q2 (by omega);refine hB4.ldK (k:=Ki) (p.dist:Int) rfl ?_;have e5:w64 ((s4.len:Int)-(p.dist:Int))=((t'.length-x.dist:Nat):Int):=by
  rw [v4.1,hdist,Wq (by omega) (by omega)];omega
 rw [e5];have hlt:t'.length-x.dist<t'.length:=by omega
 refine (v4.rd fun q hq=>f4.own q (by simp [hq])).byte rfl hlt fun b' o' _ hc=>Lq (k:=.int .u8) ((t'[t'.length-x.dist]).toNat:Int) hc ?_;refine Fresh.push f4 v4 (t'[t'.length-x.dist]) rfl rfl rfl (by omega) fun s5 ro5 u5 f5 v5 _=>?_;rw [step64 (by omega)];refine⟨⟨j+1,ro5,_,rfl,by omega,by simp;omega,f5,v5,?_⟩,by omega⟩;have e6:x.len-j=(x.len-(j+1))+1:=by omega
 rw [e6,againN] at hag;rw [←hag,Lgd,Lge hlt,Option.getD_some]
theorem tokRun_lits{b:Str}{n:Nat}:∀(k at_ size:Nat) (ts:List Tk) {r:List Tk},tokRun b n k at_ size ts=some r→(∀x∈ts,x.lit.length≤b.length∧x.len≤n)→∀x∈r,x.lit.length≤b.length∧x.len≤n
 | 0,_,_,_,_,h,_=>by cases h
 | k+1,at_,size,ts,r,h,hts=>by
  have ext:∀(y:Tk),y.lit.length≤b.length∧y.len≤n→∀x∈ts++[y],x.lit.length≤b.length∧x.len≤n:=fun y hy x hx=>by
   rcases Lma.1 hx with hx | hx
   ·exact hts x hx
   ·rw [Lms.1 hx];exact hy
  have hl:∀a c:Nat,((b.drop a).take c).length≤b.length:=fun a c=>by rw [Llt,Lld];omega
  rw [tokRun] at h;split at h
  ·split at h
   ·cases h;exact hts
   ·cases h
  split at h
  ·cases h
  split at h
  ·cases h
  split at h
  ·split at h
   ·cases h
   split at h
   ·cases h
   split at h
   ·cases h
   split at h
   ·exact tokRun_lits k _ _ _ h (ext _ ⟨hl _ _,by show _+4≤n;omega⟩)
   ·cases h
  ·split at h
   ·exact tokRun_lits k _ _ _ h (ext _ ⟨hl _ _,Nzl _⟩)
   ·cases h
theorem rLzDecode_ok{w:World}{s:Sl}{b:Str}(hr:RdS w ET s b)(hl:b.length≤1099511627776){n:Int}{K:Sl→Int→Wp}
  (hN:lzR b n=none→∀(e:Int) w',e≠0→Mod F0 w w'→K ⟨none,0,0⟩ e w') (hS:∀x,lzR b n=some x→∀w' ro s',Fresh w w' F0 ro→VecL ro ET s' x→K s' 0 w') :
  callK Pg c_143 [Az s,Ai n] w (.tup [Ls,Li]) K:=by
 refine go_143 _ _ _ _ ?_;unfold lzR at hN hS;refine rTokens_ok hr hl (fun h=>?_) (fun h e w' M=>?_) fun h ts e w' ro Y s' ps f v hpl heach htl=>?_
 ·rw [if_pos h] at hN;exact ifK_t rfl (hN rfl 3 w (by decide) (Mod.refl _ _))
 ·rw [if_neg h,e] at hN;exact ifK_t rfl (hN rfl 30 w' (by decide) M)
 ·rw [if_neg h,e] at hN hS;dsimp only at hN hS;have hlits:=tokRun_lits _ _ _ _ e (by simp);refine ifK_f rfl (rExpand_ok (v.rd fun p hp=>f.own p (Lmr _ hp)) hpl htl (fun j p x hp hx=>?_) (fun e2 er w2 he M2=>hN e2 er w2 he (mod0 f.mod M2)) fun x ex w2 ro2 s2 f2 v2=>hS x ex w2 ro2 s2 ?_ v2)
  ·have h1:=heach j p x hp hx;have h2:=hlits x (Lmg hx);exact⟨h1.lit.rd fun p hp=>f.own p (Lml _ hp),h1.dist,h1.len,by omega,by omega⟩
  ·exact (f.join f2 (fun _ _ h=>h) (fun _ _ _ h=>h)).sub (Lsr _ _)
set_option maxRecDepth 100000
theorem go_144(b1:Sl)(K:Sl→Int→Bool→Wp)(w:World)(h:joinK [.sl,Ki] (fun k2=>loopL [.sl,Ki] (fun lens4 at_5 W6 g3=>joinK [.bool] (fun k7=>ifK (decide (at_5<(b1.len:Int))) (ix b1 1 at_5 fun b8 o9=>ld W6 (.int .u8) b8 o9 fun n10=>k7 (n10 != 0) W6) (k7 false W6)) fun t2211 W12=>ifK t2211 (slx b1 1 (some at_5) none none fun s13=>callK Pg 140 [Az s13] W12 (.tup [Li,Li,Li]) fun n14 n15 n16 W17=>joinK [.bool] (fun k18=>ifK (n16 != 0) (k18 true W17) (ifK (decide (n14<1)) (k18 true W17) (ifK (decide (w64 (256-(lens4.len:Int))<n14)) (k18 true W17) (k18 (decide ((b1.len:Int)≤w64 (at_5+n15))) W17)))) fun t5119 W20=>ifK t5119 (K (⟨none,0,0⟩) 0 false W20) (ix b1 1 (w64 (at_5+n15)) fun b21 o22=>ld W20 (.int .u8) b21 o22 fun n23=>joinK [.bool] (fun k24=>ifK (decide (15<w64 (n23))) (k24 true W20) (ifK (decide (0<(lens4.len:Int))) (ix lens4 1 (w64 ((lens4.len:Int)-1)) fun b25 o26=>ld W20 Ki b25 o26 fun n27=>k24 (n27==(w64 (n23))) W20) (k24 false W20))) fun t7528 W29=>ifK t7528 (K (⟨none,0,0⟩) 0 false W29) (joinK [.sl] (fun k30=>loopL [.sl,Ki] (fun lens32 i33 W34 g31=>ifK (decide (i33<n14)) (al W34 3 [.int .i64 (w64 (n23))] fun b35 W36=>ap W36 3 1 8 [.int .i64 0] lens32 (⟨some (b35,0),1,1⟩) fun a37 W38=>g31 a37 (w64 (i33+1)) W38) (k30 lens32 W34)) [.sl lens4,.int .i64 0] W29) fun lens39 W40=>g3 lens39 (w64 ((w64 (at_5+n15))+1)) W40))) (k2 lens4 at_5 W12)) [.sl (⟨none,0,0⟩),.int .i64 0] w) fun lens41 at_42 W43=>joinK [.bool] (fun k44=>ifK (decide ((b1.len:Int)≤at_42)) (k44 true W43) (ifK (decide (0<(lens41.len:Int))) (ix lens41 1 (w64 ((lens41.len:Int)-1)) fun b45 o46=>ld W43 Ki b45 o46 fun n47=>k44 (n47==0) W43) (k44 false W43))) fun t10648 W49=>ifK t10648 (K (⟨none,0,0⟩) 0 false W49) (K lens41 (w64 (at_42+1)) true W49)):callK Pg 146 [Az b1] w (.tup [Ls,Li,Lb]) K:=Fq (n:=(n0 .nil (n0 .nil (n0 .nil (n0 (.mk (some [.tmp 5 Ls,.tmp 6 Li]) [] [0] .done (.mk none [.tmp 5 Ls,.tmp 6 Li] [0] .done (n0 (n0 (.mk (some [.tmp 22 Lb]) [] [0,5,6] .done .nil .nil) .nil) (n0 (n0 .nil (n0 (n0 (.mk (some [.tmp 51 Lb]) [] [0,5,6,7,8] .done .nil .nil) .nil) (n0 .nil (n0 (n0 (.mk (some [.tmp 75 Lb]) [] [0,5,6,7,8,10] .done .nil .nil) .nil) (n0 (n0 .nil (.mk (some [.tmp 5 Ls]) [] [0,6,8] .done (.mk none [.tmp 5 Ls,.tmp 11 Li] [0,6,7,8,10] .done .nil .nil) .nil)) .nil))))) .nil)) .nil) .nil) (n0 (n0 (.mk (some [.tmp 106 Lb]) [] [5,6] .done .nil .nil) .nil) .nil)))))) CS_ok mixed Tryz.func146 (Eq.mpr (by kernel_rfl) h)
theorem go_145(lens1:Sl)(K:Int→Wp)(w:World)(h:joinK [Ki] (fun k2=>loopL [Ki,Ki] (fun sum4 i5 W6 g3=>ifK (decide (i5<(lens1.len:Int))) (ix lens1 1 i5 fun b7 o8=>ld W6 Ki b7 o8 fun n9=>joinK [Ki] (fun k10=>ifK (decide (0<n9)) (ix lens1 1 i5 fun b11 o12=>ld W6 Ki b11 o12 fun n13=>0≤(w64 (15-n13))∧k10 (w64 (sum4+(shlI .i64 1 (w64 (15-n13))))) W6) (k10 sum4 W6)) fun sum14 W15=>g3 sum14 (w64 (i5+1)) W15) (k2 sum4 W6)) [.int .i64 0,.int .i64 0] w) fun sum16 W17=>K sum16 W17):callK Pg 169 [Az lens1] w Oi K:=Fq (n:=(n0 .nil (n0 .nil (n0 (n0 .nil (.mk (some [.tmp 3 Li]) [] [] .done (.mk none [.tmp 3 Li,.tmp 4 Li] [0] .done (n0 .nil (n0 (n0 (n0 .nil (.mk (some [.tmp 3 Li]) [] [0,4] .done .nil .nil)) .nil) .nil)) .nil) .nil)) .nil)))) CS_ok mixed Tryz.func169 (Eq.mpr (by kernel_rfl) h)
theorem go_146(lens1:Sl)(K:Sl→Int→Wp)(w:World)(h:ifK (decide (256<(lens1.len:Int))) (K (⟨none,0,0⟩) 2 w) (joinK [] (fun k2=>loopL [Ki] (fun i4 W5 g3=>ifK (decide (i4<(lens1.len:Int))) (joinK [.bool] (fun k6=>ix lens1 1 i4 fun b7 o8=>ld W5 Ki b7 o8 fun n9=>ifK (decide (n9<0)) (k6 true W5) (ix lens1 1 i4 fun b10 o11=>ld W5 Ki b10 o11 fun n12=>k6 (decide (15<n12)) W5)) fun t2913 W14=>ifK t2913 (K (⟨none,0,0⟩) 3 W14) (g3 (w64 (i4+1)) W14)) (k2 W5)) [.int .i64 0] w) fun W15=>callK Pg 169 [Az lens1] W15 Oi fun n16 W17=>ifK (decide (32768<n16)) (K (⟨none,0,0⟩) 41 W17) (mk W17 248 16 [.int .i64 0,.int .u32 0] (lens1.len:Int) (lens1.len:Int) fun a18 W19=>joinK [] (fun k20=>loopL [.int .u32,Ki] (fun word22 n23 W24 g21=>ifK (decide (n23≤15)) (joinK [.int .u32] (fun k25=>loopL [.int .u32,Ki] (fun word27 i28 W29 g26=>ifK (decide (i28<(lens1.len:Int))) (ix lens1 1 i28 fun b30 o31=>ld W29 Ki b30 o31 fun n32=>joinK [.int .u32] (fun k33=>ifK (n32==n23) (ix a18 2 i28 fun b34 o35=>st W29 b34 o35 [.int .i64 n23,.int .u32 word27] fun W36=>k33 (IntKind.wrap .u32 (word27+1)) W36) (k33 word27 W29)) fun word37 W38=>g26 word37 (w64 (i28+1)) W38) (k25 word27 W29)) [.int .u32 (IntKind.wrap .u32 (word22*2)),.int .i64 0] W24) fun word39 W40=>g21 word39 (w64 (n23+1)) W40) (k20 W24)) [.int .u32 0,.int .i64 1] W19) fun W41=>K a18 0 W41))):callK Pg 147 [Az lens1] w (.tup [Ls,Li]) K:=Fq (n:=(n0 .nil (n0 .nil (n0 (n0 .nil (.mk (some []) [] [0] .done (.mk none [.tmp 4 Li] [0] .done (n0 .nil (n0 (n0 (n0 (.mk (some [.tmp 29 Lb]) [] [0,4] .done .nil .nil) .nil) .nil) .nil)) .nil) .nil)) (n0 .nil (n0 .nil (n0 .nil (n0 (n0 .nil (.mk (some []) [] [5] .done (.mk none [.tmp 6 (.leaf (.int .u32)),.tmp 7 Li] [0,5] .done (n0 .nil (n0 (n0 (n0 .nil (n0 .nil (.mk (some [.tmp 6 (.leaf (.int .u32))]) [] [0,5,7] .done (.mk none [.tmp 6 (.leaf (.int .u32)),.tmp 8 Li] [0,5,7] .done (n0 .nil (n0 (n0 (n0 .nil (.mk (some [.tmp 6 (.leaf (.int .u32))]) [] [0,5,7,8] .done .nil .nil)) .nil) .nil)) .nil) .nil))) .nil) .nil)) .nil) .nil)) .nil)))))))) CS_ok mixed Tryz.func147 (Eq.mpr (by kernel_rfl) h)
theorem go_147(b1:Sl)(i2:Int)(K:Int→Wp)(w:World)(h:ix b1 1 (w64 (i2.tdiv 8)) fun b3 o4=>ld w (.int .u8) b3 o4 fun n5=>0≤(i2.tmod 8)∧K ((IntKind.wrap .u32 (shrI .u8 n5 (i2.tmod 8))).tmod 2) w):callK Pg 148 [Az b1,Ai i2] w (.one (.leaf (.int .u32))) K:=Fq (n:=.nil) CS_ok mixed Tryz.func148 (Eq.mpr (by kernel_rfl) h)
theorem go_148(codes1:Sl)(long2:Int)(bits3:Int)(K:Int→Wp)(w:World)(h:joinK [] (fun k4=>loopL [Ki] (fun i6 W7 g5=>ifK (decide (i6<(codes1.len:Int))) (joinK [.bool] (fun k8=>ix codes1 2 i6 fun b9 o10=>ld W7 Ki b9 o10 fun n11=>ifK (n11==long2) (ix codes1 2 i6 fun b12 o13=>ld W7 (.int .u32) b12 (o13+1) fun n14=>ifK (n14==bits3) (k8 (decide (0<long2)) W7) (k8 false W7)) (k8 false W7)) fun t3315 W16=>ifK t3315 (K i6 W16) (g5 (w64 (i6+1)) W16)) (k4 W7)) [.int .i64 0] w) fun W17=>K (-1) W17):callK Pg 149 [Az codes1,Ai long2,.leaf (.int .u32 bits3)] w Oi K:=Fq (n:=(n0 .nil (n0 (n0 .nil (.mk (some []) [] [] .done (.mk none [.tmp 7 Li] [0,1,2] .done (n0 .nil (n0 (n0 (n0 (.mk (some [.tmp 33 Lb]) [] [0,1,2,7] .done .nil .nil) .nil) .nil) .nil)) .nil) .nil)) .nil))) CS_ok mixed Tryz.func149 (Eq.mpr (by kernel_rfl) h)
theorem go_149(b1:Sl)(n2:Int)(K:Sl→Int→Wp)(w:World)(h:joinK [.bool] (fun k3=>ifK (decide (n2<0)) (k3 true w) (k3 (decide (65536<n2)) w)) fun t224 W5=>ifK t224 (K (⟨none,0,0⟩) 3 W5) (callK Pg 146 [Az b1] W5 (.tup [Ls,Li,Lb]) fun a6 n7 c8 W9=>ifK (!c8) (K (⟨none,0,0⟩) 40 W9) (callK Pg 147 [Az a6] W9 (.tup [Ls,Li]) fun a10 n11 W12=>ifK (n11 != 0) (K (⟨none,0,0⟩) 40 W12) (slx b1 1 (some n7) none none fun s13=>joinK [Ki,.sl] (fun k14=>loopL [Ki,.sl] (fun at_16 text17 W18 g15=>ifK (decide ((text17.len:Int)<n2)) (joinK [Ki,Ki] (fun k19=>loopL [Ki,.int .u32,Ki,Ki] (fun at_21 word22 s23 long24 W25 g20=>joinK [.bool] (fun k26=>ifK (decide (long24≤15)) (k26 (decide (s23<0)) W25) (k26 false W25)) fun t5027 W28=>ifK t5027 (ifK (decide (w64 (8*(s13.len:Int))≤at_21)) (K (⟨none,0,0⟩) 40 W28) (callK Pg 148 [Az s13,Ai at_21] W28 (.one (.leaf (.int .u32))) fun n29 W30=>callK Pg 149 [Az a10,Ai long24,.leaf (.int .u32 (IntKind.wrap .u32 ((IntKind.wrap .u32 (word22*2))+n29)))] W30 Oi fun n31 W32=>g20 (w64 (at_21+1)) (IntKind.wrap .u32 ((IntKind.wrap .u32 (word22*2))+n29)) n31 (w64 (long24+1)) W32)) (k19 at_21 s23 W28)) [.int .i64 at_16,.int .u32 0,.int .i64 (-1),.int .i64 1] W18) fun at_33 s34 W35=>ifK (decide (s34<0)) (K (⟨none,0,0⟩) 40 W35) (al W35 5 [.int .u8 (IntKind.wrap .u8 (s34))] fun b36 W37=>ap W37 5 1 1 [.int .u8 0] text17 (⟨some (b36,0),1,1⟩) fun a38 W39=>g15 at_33 a38 W39)) (k14 at_16 text17 W18)) [.int .i64 0,.sl (⟨none,0,0⟩)] W12) fun at_40 text41 W42=>ifK ((s13.len:Int) != (w64 ((w64 (at_40+7)).tdiv 8))) (K (⟨none,0,0⟩) 40 W42) (joinK [] (fun k43=>loopL [Ki] (fun at_45 W46 g44=>ifK (decide (at_45<w64 (8*(s13.len:Int)))) (callK Pg 148 [Az s13,Ai at_45] W46 (.one (.leaf (.int .u32))) fun n47 W48=>ifK (n47 != 0) (K (⟨none,0,0⟩) 40 W48) (g44 (w64 (at_45+1)) W48)) (k43 W46)) [.int .i64 at_40] W42) fun W49=>K text41 0 W49))))):callK Pg 111 [Az b1,Ai n2] w (.tup [Ls,Li]) K:=Fq (n:=(n0 .nil (n0 (n0 (.mk (some [.tmp 22 Lb]) [] [0,1] .done .nil .nil) .nil) (n0 .nil (n0 .nil (n0 .nil (n0 .nil (n0 .nil (n0 .nil (n0 .nil (n0 (.mk (some [.tmp 12 Li,.tmp 13 Ls]) [] [11] .done (.mk none [.tmp 12 Li,.tmp 13 Ls] [1,9,11] .done (n0 .nil (n0 (n0 .nil (n0 .nil (n0 (n0 .nil (.mk (some [.tmp 12 Li,.tmp 15 Li]) [] [1,9,11,13] .done (.mk none [.tmp 12 Li,.tmp 14 (.leaf (.int .u32)),.tmp 15 Li,.tmp 16 Li] [1,9,11,13] .done (n0 (n0 (.mk (some [.tmp 50 Lb]) [] [1,9,11,12,13,14,15,16] .done .nil .nil) .nil) .nil) .nil) .nil)) .nil))) .nil)) .nil) .nil) (n0 .nil (n0 (.mk (some []) [] [13] .done (.mk none [.tmp 12 Li] [11,13] .done .nil .nil) .nil) .nil))))))))))))) CS_ok mixed Tryz.func111 (Eq.mpr (by kernel_rfl) h)
def lensRunR(b:Str):Nat→Nat→List Nat→Option (List Nat×Nat)
 | 0,_,_=>none
 | k+1,at_,lens=>
  if at_<b.length∧(b.getD at_ 0).toNat≠0 then
   if (getN (b.drop at_)).2.2≠0∨(getN (b.drop at_)).1<1∨256-lens.length<(getN (b.drop at_)).1∨b.length≤at_+(getN (b.drop at_)).2.1 then none else
   if 15<(b.getD (at_+(getN (b.drop at_)).2.1) 0).toNat∨(0<lens.length∧lens.getD (lens.length-1) 0=(b.getD (at_+(getN (b.drop at_)).2.1) 0).toNat) then none else
   lensRunR b k (at_+(getN (b.drop at_)).2.1+1) (lens++List.replicate (getN (b.drop at_)).1 (b.getD (at_+(getN (b.drop at_)).2.1) 0).toNat)
  else if b.length≤at_∨(0<lens.length∧lens.getD (lens.length-1) 0=0) then none else some (lens,at_+1)
def lensR(b:Str):Option (List Nat×Nat):=lensRunR b (b.length+1) 0 []
theorem lensRunR_ok{b:Str}:∀(k at_:Nat) (lens:List Nat) {x:List Nat×Nat},lensRunR b k at_ lens=some x→lens.length≤256→(∀n∈lens,n≤15)→x.1.length≤256∧(∀n∈x.1,n≤15)∧x.2≤b.length
 | 0,_,_,_,h,_,_=>by cases h
 | k+1,at_,lens,x,h,h1,h2=>by
  rw [lensRunR] at h;split at h
  ·split at h
   ·cases h
   split at h
   ·cases h
   rename_i q1 q2;refine lensRunR_ok k _ _ h (by rw [Lla,List.length_replicate];omega) fun n hn=>?_;rcases Lma.1 hn with hn | hn
   ·exact h2 n hn
   ·have:=List.eq_of_mem_replicate hn;omega
  ·split at h
   ·cases h
   ·rename_i q;cases h;exact⟨h1,h2,by show at_+1≤_;omega⟩
theorem byteD{w:World}{s:Sl}{t:Str}(h:RdS w ET s t){i:Int}{k:Nat}(hk:i=(k:Int))(hlt:k<t.length){K:Int→Prop}(hK:K ((t.getD k 0).toNat:Int)):Go.Vw.ix s 1 i fun b o=>Go.Vw.ld w (.int .u8) b o K:=
 h.byte hk hlt fun b o _ hc=>Lq (k:=.int .u8) ((t[k]).toNat:Int) hc (by
  rw [Lgd,Lge hlt,Option.getD_some] at hK;exact hK)
theorem numD{w:World}{s:Sl}{l:List Nat}(h:RdS w EN s l){i:Int}{k:Nat}(hk:i=(k:Int))(hlt:k<l.length){K:Int→Prop}(hK:K ((l.getD k 0:Nat):Int)):Go.Vw.ix s 1 i fun b o=>Go.Vw.ld w Ki b o K:=
 h.ix rfl hk (Lge hlt) fun b o _ hc=>Lq (k:=Ki) ((l[k]:Nat):Int) (hc 0 (by decide)) (by
  rw [Lgd,Lge hlt,Option.getD_some] at hK;exact hK)
set_option maxHeartbeats 2000000 in
theorem rReadLens_ok{w:World}{s:Sl}{b:Str}(hr:RdS w ET s b)(hl:b.length≤1099511627776){K:Sl→Int→Bool→Wp}
  (hN:lensR b=none→∀w',Mod F0 w w'→K ⟨none,0,0⟩ 0 false w') (hS:∀x,lensR b=some x→∀w' ro s',Fresh w w' F0 ro→VecL ro EN s' x.1→K s' (x.2:Int) true w') :
  callK Pg c_144 [Az s] w (.tup [Ls,Li,Lb]) K:=by
 refine go_144 _ _ _ ?_;unfold lensR at hN hS;generalize hT:lensRunR b (b.length+1) 0 []=T at hN hS;rw [hr.len];refine join2 (a:=.sl) (b:=Ki) (fun (s':Sl) (a:Int) u=>∃(at_:Nat) (ro:BL) (lens:List Nat),a=(at_:Int)∧at_≤b.length∧lens.length≤256∧Fresh w u F0 ro∧VecL ro EN s' lens∧T=if b.length≤at_∨(0<lens.length∧lens.getD (lens.length-1) 0=0) then none else some (lens,at_+1)) ?_ ?_;rotate_left
 ·rintro s' a u ⟨at_,ro,lens,rfl,hat,hll,hf,hv,hT⟩;rw [hv.1];refine join1 (a:=.bool) (fun q z=>q=decide (b.length≤at_∨(0<lens.length∧lens.getD (lens.length-1) 0=0))∧z=u) ?_ ?_
  ·intro k hk;refine Iq (fun q=>hk _ _ ⟨?_,rfl⟩) fun q=>Iq (fun q2=>?_) fun q2=>hk _ _ ⟨?_,rfl⟩
   ·have q:((b.length:Nat):Int)≤(at_:Int):=odt q;exact (Dct (.inl (by omega))).symm
   ·have q:¬((b.length:Nat):Int)≤(at_:Int):=odf q;have q2:0<lens.length:=dpos q2;refine numD (hv.rd hf.own) (k:=lens.length-1) (by rw [Wq (by omega) (by omega)];omega) (by omega) (hk _ _ ⟨?_,rfl⟩);show (((lens.getD (lens.length-1) 0:Nat):Int)==0)=_;rw [Bei,beq_iff_eq,Det];omega
   ·have q:¬((b.length:Nat):Int)≤(at_:Int):=odf q;have q2:=dzero q2;exact (Dcf fun h=>by omega).symm
  rintro q z ⟨rfl,rfl⟩;refine Iq (fun q=>?_) fun q=>?_
  ·rw [if_pos (odt q)] at hT;exact hN hT z hf.mod
  ·rw [if_neg (odf q)] at hT;have q:=odf q;rw [step64 (by omega)];exact hS _ hT z ro s' hf hv
 intro k2 hk2;refine loop2 (k1:=.sl) (k2:=Ki) (fun (s':Sl) (a:Int) u=>∃(k at_:Nat) (ro:BL) (lens:List Nat),a=(at_:Int)∧at_≤b.length∧b.length+1≤k+at_∧lens.length≤256∧Fresh w u F0 ro∧VecL ro EN s' lens∧T=lensRunR b k at_ lens) (fun _ a _=>(b.length+1-a).toNat) (x1:=⟨none,0,0⟩) (x2:=0) rfl rfl ⟨b.length+1,0,[],[],rfl,Nzl _,by omega,by simp,Fresh.start w F0,VecL.nil EN,hT.symm⟩ ?_;rintro s' a u ⟨k,at_,ro,lens,rfl,hat,hfu,hll,hf,hv,hrun⟩;obtain⟨k,rfl⟩:∃j,k=j+1:=⟨k-1,by omega⟩;rw [lensRunR] at hrun;have hru:=hr.quiet hf.mod;refine join1 (a:=.bool) (fun q z=>q=decide (at_<b.length∧(b.getD at_ 0).toNat≠0)∧z=u) ?_ ?_
 ·intro k7 hk7;refine Iq (fun q=>byteD hru rfl (dlt q) (hk7 _ _ ⟨?_,rfl⟩)) fun q=>hk7 _ _ ⟨?_,rfl⟩
  ·have q:=dlt q;show ((((b.getD at_ 0).toNat:Nat):Int) != 0)=_;rw [Bei,bne_iff_ne,Det];omega
  ·have q:=dge q;exact (Dcf fun h=>by omega).symm
 rintro q z ⟨rfl,rfl⟩;refine Iq (fun q=>?_) fun q=>?_;rotate_left
 ·rw [if_neg (odf q)] at hrun;exact hk2 _ _ z ⟨at_,ro,lens,rfl,hat,hll,hf,hv,hrun⟩
 have q:=odt q;rw [if_pos q] at hrun;refine hru.fromK hat rfl rfl fun s13 h13 _=>rGet_ok h13 (by rw [Lld];omega) ?_;have hgl:=getN_len (b.drop at_);have hgv:=getN_val (b.drop at_);rw [Lld] at hgl;generalize getN (b.drop at_)=g at hrun hgl hgv ⊢;rw [hv.1];have e1:w64 (256-(lens.length:Int))=((256-lens.length:Nat):Int):=by rw [Wq (by omega) (by omega)];omega
 have e2:w64 ((at_:Int)+(g.2.1:Int))=((at_+g.2.1:Nat):Int):=by rw [Wq (by omega) (by omega)];omega
 rw [e1,e2];refine join1 (a:=.bool) (fun q y=>q=decide (g.2.2≠0∨g.1<1∨256-lens.length<g.1∨b.length≤at_+g.2.1)∧y=z) ?_ ?_
 ·intro k18 hk18;refine Iq (fun r1=>hk18 _ _ ⟨?_,rfl⟩) fun r1=>Iq (fun r2=>hk18 _ _ ⟨?_,rfl⟩) fun r2=>Iq (fun r3=>hk18 _ _ ⟨?_,rfl⟩) fun r3=>hk18 _ _ ⟨?_,rfl⟩
  ·exact (Dct (.inl (by simpa using r1))).symm
  ·have r2:((g.1:Nat):Int)<1:=odt r2;exact (Dct (.inr (.inl (by omega)))).symm
  ·have r3:=dlt r3;exact (Dct (.inr (.inr (.inl r3)))).symm
  ·have r1:g.2.2=0:=by simpa using r1
   have r2:¬((g.1:Nat):Int)<1:=odf r2;have r3:=dge r3;show decide (((b.length:Nat):Int)≤((at_+g.2.1:Nat):Int))=_;rw [Bei,Det,Det];constructor
   ·intro h;exact .inr (.inr (.inr (by omega)))
   ·rintro (h | h | h | h)
    ·exact absurd r1 h
    ·omega
    ·omega
    ·omega
 rintro q2 y ⟨rfl,rfl⟩;refine Iq (fun q2=>?_) fun q2=>?_
 ·rw [if_pos (odt q2)] at hrun;exact hN hrun y hf.mod
 have q2:=odf q2;rw [if_neg q2] at hrun;refine byteD hru rfl (by omega:at_+g.2.1<b.length) ?_;have hlong:(b.getD (at_+g.2.1) 0).toNat<256:=UInt8.toNat_lt_size _;generalize (b.getD (at_+g.2.1) 0).toNat=long at hrun hlong ⊢;have e3:w64 (long:Int)=(long:Int):=w64N (by omega);rw [e3];refine join1 (a:=.bool) (fun q x=>q=decide (15<long∨(0<lens.length∧lens.getD (lens.length-1) 0=long))∧x=y) ?_ ?_
 ·intro k24 hk24;refine Iq (fun r1=>hk24 _ _ ⟨?_,rfl⟩) fun r1=>Iq (fun r2=>?_) fun r2=>hk24 _ _ ⟨?_,rfl⟩
  ·have r1:(15:Int)<(long:Int):=odt r1;exact (Dct (.inl (by omega))).symm
  ·have r1:¬(15:Int)<(long:Int):=odf r1;have r2:=dpos r2;refine numD (hv.rd hf.own) (k:=lens.length-1) (by rw [Wq (by omega) (by omega)];omega) (by omega) (hk24 _ _ ⟨?_,rfl⟩);show (((lens.getD (lens.length-1) 0:Nat):Int)==((long:Nat):Int))=_;rw [Bei,beq_iff_eq,Det];omega
  ·have r1:¬(15:Int)<(long:Int):=odf r1;have r2:=dzero r2;exact (Dcf fun h=>by omega).symm
 rintro q3 x ⟨rfl,rfl⟩;refine Iq (fun q3=>?_) fun q3=>?_
 ·rw [if_pos (odt q3)] at hrun;exact hN hrun x hf.mod
 have q3:=odf q3;rw [if_neg q3] at hrun;refine join1 (a:=.sl) (fun (s4:Sl) v=>∃ro4,Fresh w v F0 ro4∧VecL ro4 EN s4 (lens++List.replicate g.1 long)) ?_ ?_;rotate_left
 ·rintro s4 v ⟨ro4,f4,v4⟩;have e4:w64 (((at_+g.2.1:Nat):Int)+1)=((at_+g.2.1+1:Nat):Int):=by rw [Wq (by omega) (by omega)];omega
  rw [e4];exact⟨⟨k,at_+g.2.1+1,ro4,_,rfl,by omega,by omega,by rw [Lla,List.length_replicate];omega,f4,v4,hrun⟩,by omega⟩
 intro k30 hk30;refine loop2 (k1:=.sl) (k2:=Ki) (fun (s4:Sl) (a:Int) v=>∃(j:Nat) (ro4:BL),a=(j:Int)∧j≤g.1∧Fresh w v F0 ro4∧VecL ro4 EN s4 (lens++List.replicate j long)) (fun _ a _=>(g.1-a).toNat) (x1:=s') (x2:=0) rfl rfl ⟨0,ro,rfl,Nzl _,hf,by simpa using hv⟩ ?_;rintro s4 a v ⟨j,ro4,rfl,hj,f4,v4⟩;refine Iq (fun q4=>?_) fun q4=>?_;rotate_left
 ·have q4:=dge q4;have:j=g.1:=by omega
  subst this;exact hk30 _ _ ⟨ro4,f4,v4⟩
 have q4:=dlt q4;refine Fresh.push (m:=[]) f4 v4 long rfl rfl rfl (by rw [Lla,List.length_replicate];omega) fun s5 ro5 v5 f5 v5' _=>?_;rw [step64 (by omega)];exact⟨⟨j+1,ro5,rfl,by omega,f5,by rw [Laa,←List.replicate_succ'] at v5';exact v5'⟩,by omega⟩
def kraftN(lens:List Nat):Nat:=(lens.map fun n=>if 0<n then 2^(15-n) else 0).sum
def wordW(lens:List Nat):Nat→Nat
 | 0=>0
 | n+1=>2*(wordW lens n+if n=0 then 0 else cntL lens n)
def codeUp(lens:List Nat)(n i j:Nat):Nat×Nat:=if 1≤lens.getD j 0∧(lens.getD j 0<n∨(lens.getD j 0=n∧j<i)) then (lens.getD j 0,wordW lens (lens.getD j 0)+(posL lens (lens.getD j 0) j).length) else (0,0)
def codesUp(lens:List Nat)(n i:Nat):List (Nat×Nat):=(List.range lens.length).map (codeUp lens n i)
def findC(codes:List (Nat×Nat))(long bits:Nat):Option Nat:=codes.findIdx? fun c=>decide (c.1=long∧c.2=bits∧0<long)
theorem codesUp_len(lens:List Nat)(n i:Nat):(codesUp lens n i).length=lens.length:=by simp [codesUp]
theorem codesUp_get{lens:List Nat}{n i j:Nat}(h:j<lens.length):(codesUp lens n i)[j]? = some (codeUp lens n i j):=by
 unfold codesUp;rw [List.getElem?_map,List.getElem?_range h];rfl
theorem codesUp_skip{lens:List Nat}{n i:Nat}(h:lens.getD i 0≠n):codesUp lens n (i+1)=codesUp lens n i:=by
 apply List.ext_getElem?;intro j;by_cases hj:j<lens.length
 ·rw [codesUp_get hj,codesUp_get hj];congr 1;unfold codeUp;have:(lens.getD j 0=n∧j<i+1)↔(lens.getD j 0=n∧j<i):=by
   constructor
   ·rintro ⟨h1,h2⟩;refine⟨h1,?_⟩;have:j≠i:=fun e=>h (e▸h1);omega
   ·rintro ⟨h1,h2⟩;exact⟨h1,by omega⟩
  simp only [this]
 ·rw [List.getElem?_eq_none (by rw [codesUp_len];omega),List.getElem?_eq_none (by rw [codesUp_len];omega)]
theorem codesUp_set{lens:List Nat}{n i:Nat}(hn:1≤n)(hi:i<lens.length)(h:lens.getD i 0=n):(codesUp lens n i).set i (n,wordW lens n+(posL lens n i).length)=codesUp lens n (i+1):=by
 apply List.ext_getElem?;intro j;rw [List.getElem?_set];by_cases hj:i=j
 ·subst hj;rw [if_pos rfl,if_pos (by rw [codesUp_len];exact hi),codesUp_get hi];congr 1;unfold codeUp;rw [h,if_pos ⟨hn,.inr ⟨rfl,by omega⟩⟩]
 ·rw [if_neg hj];by_cases hjl:j<lens.length
  ·rw [codesUp_get hjl,codesUp_get hjl];congr 1;unfold codeUp;have:(lens.getD j 0=n∧j<i+1)↔(lens.getD j 0=n∧j<i):=by
    constructor
    ·rintro ⟨h1,h2⟩;exact⟨h1,by omega⟩
    ·rintro ⟨h1,h2⟩;exact⟨h1,by omega⟩
   simp only [this]
  ·rw [List.getElem?_eq_none (by rw [codesUp_len];omega),List.getElem?_eq_none (by rw [codesUp_len];omega)]
theorem codesUp_next(lens:List Nat)(n:Nat):codesUp lens n lens.length=codesUp lens (n+1) 0:=by
 apply List.ext_getElem?;intro j;by_cases hj:j<lens.length
 ·rw [codesUp_get hj,codesUp_get hj];congr 1;unfold codeUp;have:(lens.getD j 0<n∨(lens.getD j 0=n∧j<lens.length))↔(lens.getD j 0<n+1∨(lens.getD j 0=n+1∧j<0)):=by omega
  simp only [this]
 ·rw [List.getElem?_eq_none (by rw [codesUp_len];omega),List.getElem?_eq_none (by rw [codesUp_len];omega)]
theorem codesUp_first(lens:List Nat):codesUp lens 1 0=List.replicate lens.length (0,0):=by
 apply List.ext_getElem?;intro j;by_cases hj:j<lens.length
 ·rw [codesUp_get hj,List.getElem?_replicate,if_pos hj];congr 1;unfold codeUp;rw [if_neg (by omega)]
 ·rw [List.getElem?_eq_none (by rw [codesUp_len];omega),List.getElem?_eq_none (by simp;omega)]
theorem posL_le(lens:List Nat)(n s:Nat):(posL lens n s).length≤s:=by
 unfold posL;exact Nat.le_trans (List.length_filter_le _ _) (by simp)
theorem wordW_le{lens:List Nat}(h:lens.length≤256):∀n,wordW lens n+512≤512*2^n
 | 0=>by simp [wordW]
 | n+1=>by
  have:=wordW_le h n;have h2:(if n=0 then 0 else cntL lens n)≤256:=by
   split
   ·omega
   ·exact Nat.le_trans (posL_le _ _ _) h
  rw [wordW,Nat.pow_succ];omega
def ECd:Enc (Nat×Nat):=⟨2,fun x=>[.int .i64 (x.1:Int),.int .u32 (x.2:Int)],fun _=>rfl,by decide,fun x v h=>by
 simp only [List.mem_cons,List.not_mem_nil,or_false] at h;rcases h with rfl | rfl<;>rfl⟩
theorem getD_mem{l:List Nat}{i:Nat}(h:i<l.length):l.getD i 0∈l:=by
 rw [Lgd,Lge h,Option.getD_some];exact List.getElem_mem h
theorem rKraft_ok{w:World}{s:Sl}{lens:List Nat}(hr:RdS w EN s lens)(hl:lens.length≤256)(h15:∀n∈lens,n≤15){K:Int→Wp}(hK:K (kraftN lens:Int) w) :
  callK Pg c_145 [Az s] w Oi K:=by
 refine go_145 _ _ _ ?_;refine join1 (a:=Ki) (fun (n:Int) u=>n=(kraftN lens:Int)∧u=w) ?_ (by rintro n u ⟨rfl,rfl⟩;exact hK);intro k2 hk2;rw [hr.len];have hpw:∀n,2^(15-n)≤32768:=fun n=>by
  have:(2:Nat)^(15-n)≤2^15:=Nat.pow_le_pow_right (by decide) (by omega);exact this
 refine loop2 (k1:=Ki) (k2:=Ki) (fun (n a:Int) u=>∃i m:Nat,a=(i:Int)∧i≤lens.length∧n=(m:Int)∧m≤32768*i∧m=kraftN (lens.take i)∧u=w) (fun _ a _=>(lens.length-a).toNat) (x1:=0) (x2:=0) rfl rfl ⟨0,0,rfl,Nzl _,rfl,Nzl _,rfl,rfl⟩ ?_;rintro n a u ⟨i,m,rfl,hi,rfl,hm,hmk,rfl⟩;refine Iq (fun q=>?_) fun q=>?_;rotate_left
 ·have q:=dge q;rw [Ltl q] at hmk;exact hk2 _ _ ⟨by rw [hmk],rfl⟩
 have q:=dlt q;refine numD hr rfl q ?_;have hb:=h15 _ (getD_mem q);have hstep:kraftN (lens.take (i+1))=kraftN (lens.take i)+if 0<lens.getD i 0 then 2^(15-lens.getD i 0) else 0:=by
  unfold kraftN;rw [List.take_add_one,Lge q,Option.toList_some,List.map_append,List.sum_append,Lgd,Lge q,Option.getD_some];simp
 refine join1 (a:=Ki) (fun (n:Int) v=>n=((m+if 0<lens.getD i 0 then 2^(15-lens.getD i 0) else 0:Nat):Int)∧v=u) ?_ ?_
 ·intro k hk;refine Iq (fun q2=>numD hr rfl q ?_) fun q2=>hk _ _ ⟨?_,rfl⟩
  ·have q2:(0:Int)<((lens.getD i 0:Nat):Int):=odt q2;have e1:w64 (15-((lens.getD i 0:Nat):Int))=((15-lens.getD i 0:Nat):Int):=by rw [Wq (by omega) (by omega)];omega
   rw [e1];refine⟨Int.natCast_nonneg _,hk _ _ ⟨?_,rfl⟩⟩;have hp:=hpw (lens.getD i 0);have hsh:=shl_i64 1 (15-lens.getD i 0) (by omega) (by omega);have hsh:shlI .i64 1 ((15-lens.getD i 0:Nat):Int)=((1*2^(15-lens.getD i 0):Nat):Int):=hsh;rw [hsh,if_pos (by omega),Nat.one_mul];generalize 2^(15-lens.getD i 0)=pw at hp;show w64 ((m:Int)+(pw:Int))=_;rw [Wq (by omega) (by omega)];omega
  ·have q2:¬(0:Int)<((lens.getD i 0:Nat):Int):=odf q2;rw [if_neg (by omega),Nat.add_zero]
 rintro n v ⟨rfl,rfl⟩;rw [step64 (by omega)];have hp:=hpw (lens.getD i 0);refine⟨⟨i+1,_,rfl,by omega,rfl,?_,by rw [hstep,←hmk],rfl⟩,by omega⟩;split<;>omega
set_option maxHeartbeats 2000000 in
theorem rCodes_ok{w:World}{s:Sl}{lens:List Nat}(hr:RdS w EN s lens)(hl:lens.length≤256)(h15:∀n∈lens,n≤15){K:Sl→Int→Wp}
  (hN:32768<kraftN lens→K ⟨none,0,0⟩ 41 w) (hS:¬32768<kraftN lens→∀w' ro s',Fresh w w' F0 ro→VecL ro ECd s' (codesUp lens 16 0)→K s' 0 w') :
  callK Pg c_146 [Az s] w (.tup [Ls,Li]) K:=by
 refine go_146 _ _ _ ?_;rw [hr.len];refine ifK_f (Dcf (by omega)) ?_;refine join0 (fun u=>u=w) ?_ ?_
 ·intro k hk;refine loop1 (k:=Ki) (fun (a:Int) u=>∃i:Nat,a=(i:Int)∧i≤lens.length∧u=w) (fun a _=>(lens.length-a).toNat) (x:=0) rfl ⟨0,rfl,Nzl _,rfl⟩ ?_;rintro a u ⟨i,rfl,hi,rfl⟩;refine Iq (fun q=>?_) fun q=>hk _ rfl;have q:=dlt q;have hb:=h15 _ (getD_mem q);refine join1 (a:=.bool) (fun q v=>q=false∧v=u) (fun k hk=>numD hr rfl q (ifK_f (Dcf (by omega:¬((lens.getD i 0:Nat):Int)<0)) (numD hr rfl q (hk _ _ ⟨?_,rfl⟩)))) ?_
  ·show decide ((15:Int)<((lens.getD i 0:Nat):Int))=false;exact Dcf (by omega)
  rintro q v ⟨rfl,rfl⟩;rw [step64 (by omega)];exact ifK_f rfl ⟨⟨i+1,rfl,by omega,rfl⟩,by omega⟩
 rintro u rfl;refine rKraft_ok hr hl h15 (Iq (fun q=>?_) fun q=>?_)
 ·have q:(32768:Int)<(kraftN lens:Int):=odt q;exact hN (by omega)
 have q:¬(32768:Int)<(kraftN lens:Int):=odf q;have hS:=hS (by omega);refine makeL (m:=[]) (At.init u F0) ECd (0,0) lens.length rfl rfl (by omega) (by omega) fun s' ro w1 h1 v1 _=>?_;rw [←codesUp_first] at v1;refine join0 (fun x=>∃ro',At u F0 ro' x∧VecL ro' ECd s' (codesUp lens 16 0)) ?_ (by rintro x ⟨ro',hA,hv⟩;exact hS x ro' s' (Fresh.of_at hA) hv);intro k20 hk20;refine loop2 (k1:=.int .u32) (k2:=Ki) (fun (wd n:Int) x=>∃(m:Nat) (ro':BL),n=((m+1:Nat):Int)∧m≤15∧wd=((wordW lens m+(if m=0 then 0 else cntL lens m):Nat):Int)∧At u F0 ro' x∧VecL ro' ECd s' (codesUp lens (m+1) 0)) (fun _ n _=>(16-n).toNat) (x1:=0) (x2:=1) rfl rfl ⟨0,ro,rfl,by decide,rfl,h1,v1⟩ ?_;rintro wd n x ⟨m,ro',rfl,hm,rfl,hA,hv⟩;refine Iq (fun q1=>?_) fun q1=>?_;rotate_left
 ·have q1:¬((m+1:Nat):Int)≤15:=odf q1;have:m=15:=by omega
  subst this;exact hk20 _ ⟨ro',hA,hv⟩
 have q1:((m+1:Nat):Int)≤15:=odt q1;have hW:=wordW_le hl (m+1);have hp:(2:Nat)^(m+1)≤2^15:=Nat.pow_le_pow_right (by decide) (by omega);have hp':(2:Nat)^15=32768:=by decide
 have hWb:wordW lens (m+1)≤16777216:=by omega
 have ew:IntKind.wrap .u32 (((wordW lens m+(if m=0 then 0 else cntL lens m):Nat):Int)*2)=((wordW lens (m+1):Nat):Int):=by
  have e:wordW lens (m+1)=2*(wordW lens m+if m=0 then 0 else cntL lens m):=rfl;rw [wrap_u32];omega
 rw [ew];refine join1 (a:=.int .u32) (fun (wd:Int) y=>wd=((wordW lens (m+1)+cntL lens (m+1):Nat):Int)∧∃ro2,At u F0 ro2 y∧VecL ro2 ECd s' (codesUp lens (m+1) lens.length)) ?_ ?_;rotate_left
 ·rintro wd y ⟨rfl,ro2,hA2,hv2⟩;rw [codesUp_next] at hv2;rw [step64 (by omega)];exact⟨⟨m+1,ro2,rfl,by omega,by rw [if_neg (by omega)],hA2,hv2⟩,by omega⟩
 intro k25 hk25;refine loop2 (k1:=.int .u32) (k2:=Ki) (fun (wd a:Int) y=>∃(i:Nat) (ro2:BL),a=(i:Int)∧i≤lens.length∧wd=((wordW lens (m+1)+(posL lens (m+1) i).length:Nat):Int)∧At u F0 ro2 y∧VecL ro2 ECd s' (codesUp lens (m+1) i)) (fun _ a _=>(lens.length-a).toNat) (x1:=_) (x2:=0) rfl rfl ⟨0,ro',rfl,Nzl _,by show _=((_+0:Nat):Int);rfl,hA,hv⟩ ?_;rintro wd a y ⟨i,ro2,rfl,hi,rfl,hA2,hv2⟩;refine Iq (fun q2=>?_) fun q2=>?_;rotate_left
 ·have q2:=dge q2;have:i=lens.length:=by omega
  subst this;exact hk25 _ _ ⟨rfl,ro2,hA2,hv2⟩
 have q2:=dlt q2;have hry:=hr.quiet hA2.mod;refine numD hry rfl q2 ?_;have hsucc:=posL_succ (lens:=lens) (n:=m+1) (s:=i);refine join1 (a:=.int .u32) (fun (wd:Int) z=>wd=((wordW lens (m+1)+(posL lens (m+1) (i+1)).length:Nat):Int)∧∃ro3,At u F0 ro3 z∧VecL ro3 ECd s' (codesUp lens (m+1) (i+1))) ?_ ?_;rotate_left
 ·rintro wd z ⟨rfl,ro3,hA3,hv3⟩;rw [step64 (by omega)];exact⟨⟨i+1,ro3,rfl,by omega,rfl,hA3,hv3⟩,by omega⟩
 intro k33 hk33;have hple:=posL_le lens (m+1) i;refine Iq (fun q3=>?_) fun q3=>?_
 ·have q3:lens.getD i 0=m+1:=by
   have:((lens.getD i 0:Nat):Int)=((m+1:Nat):Int):=by simpa using q3
   omega
  refine At.putK (m:=[]) hA2 hv2 (y:=(m+1,wordW lens (m+1)+(posL lens (m+1) i).length)) rfl rfl (by rw [codesUp_len];exact q2) rfl fun ro3 z hA3 hv3 _=>?_;rw [codesUp_set (by omega) q2 q3] at hv3;refine hk33 _ _ ⟨?_,ro3,hA3,hv3⟩;rw [hsucc,if_pos q3,Lla,List.length_singleton,wrap_u32];omega
 ·have q3:lens.getD i 0≠m+1:=by
   intro e;rw [e] at q3;simp at q3
  refine hk33 _ _ ⟨by rw [hsucc,if_neg q3],ro2,hA2,by rw [codesUp_skip q3];exact hv2⟩
theorem rBit_ok{w:World}{s:Sl}{b:Str}(hr:RdS w ET s b){i:Int}{k:Nat}(hi:i=(k:Int))(hk:k<8*b.length)(hk2:k≤1099511627776){K:Int→Wp}(hK:K ((bitN b k:Nat):Int) w) :
  callK Pg c_147 [Az s,Ai i] w (.one (.leaf (.int .u32))) K:=by
 subst hi;refine go_147 _ _ _ _ ?_;rw [tdiv8,tmod8,w64N (by omega)];have hlt:(b.getD (k/8) 0).toNat<256:=UInt8.toNat_lt_size _;refine byteD hr rfl (by omega:k/8<b.length) ⟨Int.natCast_nonneg _,?_⟩;rw [shr_u8 _ _ (by omega)];have hle:=Nat.div_le_self (b.getD (k/8) 0).toNat (2^(k%8));have e1:IntKind.wrap .u32 (((b.getD (k/8) 0).toNat/2^(k%8):Nat):Int)=(((b.getD (k/8) 0).toNat/2^(k%8):Nat):Int):=by
  generalize (b.getD (k/8) 0).toNat/2^(k%8)=y at hle;rw [wrap_u32];omega
 have e2:((((b.getD (k/8) 0).toNat/2^(k%8):Nat):Int).tmod 2)=((bitN b k:Nat):Int):=tmodN _ 2;rw [e1,e2];exact hK
theorem rFindC_ok{w:World}{s:Sl}{codes:List (Nat×Nat)}(hr:RdS w ECd s codes)(hl:codes.length≤65536){long bits:Nat}{K:Int→Wp}(hN:findC codes long bits=none→K (-1) w)(hS:∀i,findC codes long bits=some i→i<codes.length→K (i:Int) w) :
  callK Pg c_148 [Az s,Ai (long:Int),.leaf (.int .u32 (bits:Int))] w Oi K:=by
 refine go_148 _ _ _ _ _ ?_;rw [hr.len];refine join0 (fun u=>(∀(j:Nat) c,codes[j]? = some c→decide (c.1=long∧c.2=bits∧0<long)=false)∧u=w) ?_ (by rintro u ⟨h,rfl⟩;exact hN (findIdx_none h));intro k hk;refine loop1 (k:=Ki) (fun (a:Int) u=>∃i:Nat,a=(i:Int)∧i≤codes.length∧(∀(j:Nat) c,j<i→codes[j]? = some c→decide (c.1=long∧c.2=bits∧0<long)=false)∧u=w) (fun a _=>(codes.length-a).toNat) (x:=0) rfl ⟨0,rfl,Nzl _,fun j c h=>absurd h (Nat.not_lt_zero _),rfl⟩ ?_;rintro a u ⟨i,rfl,hi,hb,rfl⟩;refine Iq (fun q=>?_) fun q=>?_;rotate_left
 ·have q:=dge q;exact hk _ ⟨fun j c h=>hb j c (by have:=(Les.1 h).1;omega) h,rfl⟩
 have q:=dlt q;obtain⟨c,hc⟩:=Gq q;refine join1 (a:=.bool) (fun q v=>q=decide (c.1=long∧c.2=bits∧0<long)∧v=u) ?_ ?_
 ·intro k8 hk8;refine hr.ix rfl rfl hc fun b o _ hcell=>Lq (k:=Ki) (c.1:Int) (hcell 0 (by decide)) (Iq (fun r=>?_) fun r=>hk8 _ _ ⟨?_,rfl⟩)
  ·have r:c.1=long:=by
    have:((c.1:Nat):Int)=(long:Int):=by simpa using r
    omega
   refine hr.ix rfl rfl hc fun b o _ hcell=>Lq (k:=.int .u32) (c.2:Int) (hcell 1 (by decide)) (Iq (fun r2=>hk8 _ _ ⟨?_,rfl⟩) fun r2=>hk8 _ _ ⟨?_,rfl⟩)
   ·have r2:c.2=bits:=by
     have:((c.2:Nat):Int)=(bits:Int):=by simpa using r2
     omega
    show decide ((0:Int)<(long:Int))=_;rw [Bei,Det,Det];omega
   ·have r2:¬c.2=bits:=by
     intro e;rw [e] at r2;simp at r2
    exact (Dcf fun h=>r2 h.2.1).symm
  ·have r:¬c.1=long:=by
    intro e;rw [e] at r;simp at r
   exact (Dcf fun h=>r h.1).symm
 rintro q2 v ⟨rfl,rfl⟩;refine Iq (fun q2=>hS i (findIdx_some hc q2 hb) q) fun q2=>?_;have q2:decide (c.1=long∧c.2=bits∧0<long)=false:=q2;rw [step64 (by omega)];refine⟨⟨i+1,rfl,by omega,fun j c' hj hc'=>?_,rfl⟩,by omega⟩;rcases Nat.lt_or_ge j i with h | h
 ·exact hb j c' h hc'
 ·have:j=i:=by omega
  subst this;rw [hc] at hc';cases hc';exact q2
end Go.Proofs.YtoegpmjoajipcaaGreatDoor
