/- Part T08. -/
import Derived.Test.YtoegpmjoajipcaaGreatDoorT07
import Derived.Test.YtoegpmjoajipcaaGreatDoorT03
import Derived.Test.YtoegpmjoajipcaaGreatDoorT06
namespace Go.Proofs.YtoegpmjoajipcaaGreatDoor
open Go.Vw
theorem Fresh.stH{w u:World}{D:Nat→Prop}{M:BL}{b o:Nat}{X X':List Value}{vs:List LV}(h:Fresh w u D ((b,X)::M))(hl:o+vs.length≤X.length)(e:spl X o (vs.map LV.toV)=X'){K:Wp}(hK:∀u',Fresh w u' D ((b,X')::M)→K u'):Go.Vw.st u b o vs K:=
 h.stK 0 rfl hl fun u' h' _=>hK u' (by rw [List.set_cons_zero,e] at h';exact h')
theorem Fresh.stHM{w u:World}{D:Nat→Prop}{M:BL}{b o:Nat}{X X':List Value}{vs:List LV}(h:Fresh w u D ((b,X)::M))(hl:o+vs.length≤X.length)(e:spl X o (vs.map LV.toV)=X'){K:Wp}(hK:∀u',Fresh w u' D ((b,X')::M)→Mod (fun z=>z=b) u u'→K u'):Go.Vw.st u b o vs K:=
 h.stK 0 rfl hl fun u' h' hM=>hK u' (by rw [List.set_cons_zero,e] at h';exact h') hM
theorem mod1{b:Nat}{u v x:World}(h:Mod F0 u v)(k:Mod (fun z=>z=b) v x):Mod (fun z=>z=b) u x:=h.trans k (fun _ _ h=>h.elim) fun _ _ h=>h
theorem mod2{b:Nat}{u v x:World}(h:Mod (fun z=>z=b) u v)(k:Mod (fun z=>z=b) v x):Mod (fun z=>z=b) u x:=h.trans k (fun _ _ h=>h) fun _ _ h=>h
theorem mod3{b:Nat}{u v:World}(h:Mod F0 u v):Mod (fun z=>z=b) u v:=h.mono fun _ _ h=>h.elim
def RcC(s:Sl)(c:Cu)(x y:Int):List Value:=[(LV.sl s).toV,.int .i64 (c.at_:Int),(LV.bool (decide (c.e≠0))).toV,.int .i64 x,.int .i64 y]
structure RcF(w u:World)(bc:Nat)(sC:Sl)(M:BL)(c:Cu):Prop where
 f:∃x y,Fresh w u F0 ((bc,RcC sC c x y)::M)
 own:OwnL M ET sC c.b
 ok:c.Ok
section
variable {w u u':World}{bc:Nat}{sC:Sl}{M:BL}{c:Cu}
theorem RcF.blk(h:RcF w u bc sC M c):∃x y,Blk u bc (RcC sC c x y):=let ⟨x,y,h⟩:=h.f;⟨x,y,h.own _ (Lcs ..)⟩
theorem RcF.rd(h:RcF w u bc sC M c):RdS u ET sC c.b:=let ⟨_,_,hf⟩:=h.f;h.own.rd fun p hp=>hf.own p (Lmc _ hp)
theorem RcF.quiet(h:RcF w u bc sC M c)(hM:Mod F0 u u'):RcF w u' bc sC M c:=⟨let ⟨x,y,h⟩:=h.f;⟨x,y,h.quiet hM⟩,h.own,h.ok⟩
theorem RcF.more(h:RcF w u bc sC M c){ro:BL}(k:Fresh u u' F0 ro):RcF w u' bc sC (M++ro) c:=by
 obtain⟨x,y,hf⟩:=h.f;refine⟨⟨x,y,hf.join k (fun _ _ h=>h.elim) fun _ _ _ h=>h⟩,h.own.mono fun p hp=>Lml _ hp,h.ok⟩
theorem RcF.sub(h:RcF w u bc sC M c){M':BL}(hs:M'.Sublist M)(ho:OwnL M' ET sC c.b):RcF w u bc sC M' c:=⟨let ⟨x,y,h⟩:=h.f;⟨x,y,h.sub (hs.cons_cons _)⟩,ho,h.ok⟩
theorem RcF.m(h:RcF w u bc sC M c){p:Nat×List Value}(hp:p∈M):Blk u p.1 p.2:=let ⟨_,_,h⟩:=h.f;h.own p (Lmc _ hp)
theorem rFail_ok(h:RcF w u bc sC M c)(h0:c.e=0){e:Int}(he:e≠0){K:Wp}(hK:∀u',RcF w u' bc sC M ⟨c.b,c.at_,e⟩→Mod (fun z=>z=bc) u u'→K u') :
  callK Pg c_115 [Ap (some (bc,0)),Ai e] u (.tup []) K:=by
 refine go_115 _ _ _ _ ?_;obtain⟨x,y,hf⟩:=h.f;have hB:Blk u bc (RcC sC c x y):=hf.own _ (Lcs ..);refine join1 (a:=.bool) (fun q v=>q=false∧v=u) (fun k hk=>ifK_f rfl (Dq (hB.ldK (k:=.bool) (decide (c.e≠0)) rfl (ifK_f (by simpa using h0) (hk _ _ ⟨by simpa using he,rfl⟩))))) ?_;rintro q v ⟨rfl,rfl⟩;refine ifK_f rfl (Dq (hf.stHM (by decide:2+1≤5) rfl fun u1 f1 M1=>Dq ?_));have hB1:Blk u1 bc _:=f1.own _ (Lcs ..);refine hB1.ldK (k:=Ki) (c.at_:Int) rfl (Dq (f1.stHM (by decide:3+2≤5) (X':=RcC sC ⟨c.b,c.at_,e⟩ e (c.at_:Int)) ?_ fun u2 f2 M2=>hK u2 ⟨⟨_,_,f2⟩,h.own,h.ok.le,h.ok.len⟩ (mod2 M1 M2)));unfold RcC;rw [Dct he];rfl
theorem rRest_ok(h:RcF w u bc sC M c){K:Int→Wp}(hK:∀u',RcF w u' bc sC M c→Mod F0 u u'→K (c.rest:Int) u') :
  callK Pg c_116 [Ap (some (bc,0))] u Oi K:=by
 refine go_116 _ _ _ ?_;obtain⟨x,y,hB⟩:=h.blk;unfold Cu.rest at hK;refine join1 (a:=.bool) (fun q v=>q=decide (c.e≠0)∧v=u) (fun k hk=>ifK_f rfl (Dq (hB.ldK (k:=.bool) (decide (c.e≠0)) rfl (hk _ _ ⟨rfl,rfl⟩)))) ?_;rintro q v ⟨rfl,rfl⟩;refine Iq (fun q=>?_) fun q=>?_
 ·rw [if_pos (odt q)] at hK;exact hK v h (Mod.refl _ _)
 rw [if_neg (odf q)] at hK;have hB2:=(Mq v).blk hB id;refine⟨F0,Dq (hB2.ldDK (k:=.sl) sC id rfl (Dq (hB2.ldDK (k:=Ki) (c.at_:Int) id rfl ?_)))⟩;have hle:=h.ok.le;have hln:=h.ok.len;have e:w64 ((sC.len:Int)-(c.at_:Int))=(c.left.length:Int):=by
  unfold Cu.left;rw [h.rd.len,Lld,Wq (by omega) (by omega)];omega
 rw [e];exact hK _ (h.quiet (Mq v)) (Mq v)
theorem rNum_ok(h:RcF w u bc sC M c){most:Int}{K:Int→Wp}(hK:∀u',RcF w u' bc sC M (c.num most).2→Mod (fun z=>z=bc) u u'→K (c.num most).1 u') :
  callK Pg c_117 [Ap (some (bc,0)),Ai most] u Oi K:=by
 refine go_117 _ _ _ _ ?_;obtain⟨x,y,hB⟩:=h.blk;refine join1 (a:=.bool) (fun q v=>q=decide (c.e≠0)∧v=u) (fun k hk=>ifK_f rfl (Dq (hB.ldK (k:=.bool) (decide (c.e≠0)) rfl (hk _ _ ⟨rfl,rfl⟩)))) ?_;rintro q v ⟨rfl,rfl⟩;unfold Cu.num at hK;refine Iq (fun q=>?_) fun q=>?_
 ·rw [if_pos (odt q)] at hK;exact hK v h (Mod.refl _ _)
 rw [if_neg (odf q)] at hK;have he0:c.e=0:=by simpa using odf q
 have hd:=h.quiet (Mq v);obtain⟨x,y,hB2⟩:=hd.blk;have hle:=h.ok.le;have hln:=h.ok.len;refine⟨F0,Dq (hB2.ldDK (k:=.sl) sC id rfl (Dq (hB2.ldDK (k:=Ki) (c.at_:Int) id rfl (hd.rd.fromK hle rfl rfl fun s' hs' _=>?_))))⟩;have hll:c.left.length≤1099511627776:=by unfold Cu.left;rw [Lld];omega
 refine rGet_ok hs' hll ?_;have hgl:=getN_len c.left;have hgv:=getN_val c.left;dsimp only at hK;show Mod F0 v.drew v.drew∧_;have ecl:getN (c.b.drop c.at_)=getN c.left:=rfl;rw [ecl];generalize getN c.left=g at hK hgl hgv ⊢;refine⟨Mod.refl _ _,?_⟩;refine join1 (a:=.bool) (fun q z=>q=decide (g.2.2=0∧most<(g.1:Int))∧z=v.drew) ?_ ?_
 ·intro k hk;refine Iq (fun q1=>hk _ _ ⟨?_,rfl⟩) fun q1=>hk _ _ ⟨?_,rfl⟩
  ·have q1:g.2.2=0:=by simpa using q1
   show decide (most<(g.1:Int))=_;rw [Bei,Det,Det];exact⟨fun h=>⟨q1,h⟩,fun h=>h.2⟩
  ·have q1:¬g.2.2=0:=by simpa using q1
   exact (Dcf fun h=>q1 h.1).symm
 rintro q z ⟨rfl,rfl⟩;refine join1 (a:=Ki) (fun (e:Int) z=>e=(if g.2.2=0∧most<(g.1:Int) then 23 else g.2.2)∧z=v.drew) ?_ ?_
 ·intro k hk;refine Iq (fun q1=>hk _ _ ⟨?_,rfl⟩) fun q1=>hk _ _ ⟨?_,rfl⟩
  ·rw [if_pos (odt q1)]
  ·rw [if_neg (odf q1)]
 rintro e z ⟨rfl,rfl⟩;generalize (if g.2.2=0∧most<(g.1:Int) then (23:Int) else g.2.2)=e at hK ⊢;refine Iq (fun q2=>?_) fun q2=>?_
 ·have q2:e≠0:=by simpa using q2
  rw [if_neg q2,show c.go g.2.1 e=⟨c.b,c.at_,e⟩ by unfold Cu.go;rw [if_neg q2]] at hK;exact rFail_ok hd he0 q2 fun u' h' M'=>hK u' h' (mod1 (Mq v) M')
 ·have q2:e=0:=by simpa using q2
  rw [if_pos q2,show c.go g.2.1 e=⟨c.b,c.at_+g.2.1,0⟩ by unfold Cu.go;rw [if_pos q2]] at hK;refine Dq (hB2.ldK (k:=Ki) (c.at_:Int) rfl (Dq ?_));obtain⟨x,y,hf⟩:=hd.f;have hll2:c.left.length=c.b.length-c.at_:=by unfold Cu.left;rw [Lld]
  have ew:w64 ((c.at_:Int)+(g.2.1:Int))=((c.at_+g.2.1:Nat):Int):=by rw [Wq (by omega) (by omega)];omega
  rw [ew];refine hf.stHM (by decide:1+1≤5) (X':=RcC sC ⟨c.b,c.at_+g.2.1,0⟩ x y) ?_ fun u' hu' M'=>hK u' ⟨⟨_,_,hu'⟩,h.own,by show c.at_+g.2.1≤c.b.length;omega,h.ok.len⟩ (mod1 (Mq v) M');unfold RcC;rw [Dcf (by simpa using he0)];rfl
theorem rTake_ok(h:RcF w u bc sC M c){n:Int}{K:Sl→Wp}(hK:∀u' s ro,RcF w u' bc sC (M++ro) (c.take n).2→VecL ro ET s (c.take n).1→Mod (fun z=>z=bc) u u'→K s u') :
  callK Pg c_118 [Ap (some (bc,0)),Ai n] u Oz K:=by
 refine go_118 _ _ _ _ ?_;obtain⟨x,y,hB⟩:=h.blk;refine join1 (a:=.bool) (fun q v=>q=decide (c.e≠0)∧v=u) (fun k hk=>ifK_f rfl (Dq (hB.ldK (k:=.bool) (decide (c.e≠0)) rfl (hk _ _ ⟨rfl,rfl⟩)))) ?_;rintro q v ⟨rfl,rfl⟩;refine Iq (fun q=>?_) fun q=>?_
 ·have e:c.take n=([],c):=by unfold Cu.take;rw [if_pos (odt q)]
  rw [e] at hK;exact hK v _ [] (by rw [Lan];exact h) (VecL.nil ET) (Mod.refl _ _)
 have he0:c.e=0:=by simpa using odf q
 rw [Cu.take_eq he0] at hK;unfold takeE at hK;refine Iq (fun q1=>?_) fun q1=>?_
 ·have q1:n<0:=odt q1;rw [if_pos q1,if_neg (by decide),show c.go n.toNat 23=⟨c.b,c.at_,23⟩ from rfl] at hK;exact rFail_ok h he0 (by decide) fun u' hu' M'=>hK u' _ [] (by rw [Lan];exact hu') (VecL.nil ET) M'
 have q1:¬n<0:=odf q1;rw [if_neg q1] at hK;refine rRest_ok h fun u1 h1 M1=>?_;have er:c.rest=c.left.length:=by unfold Cu.rest;rw [if_neg (by simpa using he0)]
 rw [er];refine Iq (fun q2=>?_) fun q2=>?_
 ·have q2:(c.left.length:Int)<n:=odt q2;rw [if_pos q2,if_neg (by decide),show c.go n.toNat 20=⟨c.b,c.at_,20⟩ from rfl] at hK;exact rFail_ok h1 he0 (by decide) fun u' hu' M'=>hK u' _ [] (by rw [Lan];exact hu') (VecL.nil ET) (mod1 M1 M')
 have q2:¬(c.left.length:Int)<n:=odf q2;rw [if_neg q2,if_pos rfl,show c.go n.toNat 0=⟨c.b,c.at_+n.toNat,0⟩ from rfl] at hK;have hd:=h1.quiet (Mq u1);obtain⟨x,y,hf⟩:=hd.f;have hB2:Blk u1.drew bc (RcC sC c x y):=hf.own _ (Lcs ..);have hle:=h.ok.le;have hln:=h.ok.len;have hll2:c.left.length=c.b.length-c.at_:=by unfold Cu.left;rw [Lld]
 have en:n=(n.toNat:Int):=by omega
 generalize n.toNat=k at en hK;subst en;have ew:w64 ((c.at_:Int)+(k:Int))=((c.at_+k:Nat):Int):=by rw [Wq (by omega) (by omega)];omega
 refine⟨F0,Dq (hB2.ldDK (k:=.sl) sC id rfl (Dq (hB2.ldDK (k:=Ki) (c.at_:Int) id rfl (Dq (hB2.ldDK (k:=Ki) (c.at_:Int) id rfl ?_)))))⟩;rw [ew];refine hd.rd.partK (by omega) (by omega) rfl rfl rfl fun s' hs' _=>?_;have hp:(c.b.take (c.at_+k)).drop c.at_=c.left.take k:=by
  unfold Cu.left;rw [List.drop_take,Nat.add_sub_cancel_left]
 rw [hp] at hs';refine Fresh.app (m:=(bc,RcC sC c x y)::M) (ro:=[]) (by rw [Lan];exact hf) (VecL.nil ET) hs' rfl rfl (by simp;omega) fun s2 ro u2 hf2 v2 M2=>?_;have hM2:Mod F0 u1.drew u2:=M2.mono fun x _ h=>by obtain⟨p,hp,_⟩:=h;cases hp
 refine⟨hM2,Dq ?_⟩;have hf2:Fresh w u2 F0 ((bc,RcC sC c x y)::(M++ro)):=hf2;have hB3:Blk u2 bc (RcC sC c x y):=hf2.own _ (Lcs ..);refine hB3.ldK (k:=Ki) (c.at_:Int) rfl (Dq ?_);rw [ew];refine hf2.stHM (by decide:1+1≤5) (X':=RcC sC ⟨c.b,c.at_+k,0⟩ x y) ?_ fun u' hu' M'=>hK u' s2 ro ⟨⟨_,_,hu'⟩,h.own.mono fun p hp=>Lml _ hp,by show c.at_+k≤c.b.length;omega,h.ok.len⟩ (by simpa using v2) (mod1 (mod0 (mod0 M1 (Mq u1)) hM2) M');unfold RcC;rw [Dcf (by simpa using he0)];rfl
theorem text_num(c:Cu)(most:Int):c.text most=if c.e≠0 then ([],c) else if (c.num most).2.e≠0 then ([],(c.num most).2) else if ((c.num most).2.rest:Int)<(c.num most).1 then ([],⟨c.b,c.at_,20⟩) else (c.num most).2.take (c.num most).1:=by
 unfold Cu.text;by_cases he:c.e≠0
 ·rw [if_pos he,if_pos he]
 rw [if_neg he,if_neg he];have hgl:=getN_len c.left;have hll2:c.left.length=c.b.length-c.at_:=by unfold Cu.left;rw [Lld]
 have hT:textE most c.left=if (getN c.left).2.2≠0 then (getN c.left).2.2 else if most<((getN c.left).1:Int) then 23 else if (c.left.length:Int)-((getN c.left).2.1:Int)<((getN c.left).1:Int) then 20 else 0:=rfl;have hN:c.num most=(if (if (getN c.left).2.2=0∧most<((getN c.left).1:Int) then (23:Int) else (getN c.left).2.2)=0 then ((getN c.left).1:Int) else 0,c.go (getN c.left).2.1 (if (getN c.left).2.2=0∧most<((getN c.left).1:Int) then 23 else (getN c.left).2.2)):=by unfold Cu.num;rw [if_neg he]
 unfold textV textL;generalize hG:getN c.left=g at hgl hT hN;have go0:∀n,c.go n 0=⟨c.b,c.at_+n,0⟩:=fun n=>rfl;have goE:∀n e,e≠0→c.go n e=⟨c.b,c.at_,e⟩:=fun n e h=>by unfold Cu.go;rw [if_neg h]
 by_cases h1:g.2.2≠0
 ·rw [if_pos h1] at hT;have hE:(if g.2.2=0∧most<(g.1:Int) then (23:Int) else g.2.2)=g.2.2:=if_neg fun h=>h1 h.1;rw [hE,if_neg h1,goE _ _ h1] at hN;rw [hT,hN,if_neg h1,goE _ _ h1,if_pos h1]
 rw [if_neg h1] at hT;have h1:g.2.2=0:=by simpa using h1
 by_cases h2:most<(g.1:Int)
 ·rw [if_pos h2] at hT;have hE:(if g.2.2=0∧most<(g.1:Int) then (23:Int) else g.2.2)=23:=if_pos ⟨h1,h2⟩;rw [hE,if_neg (by decide),goE _ _ (by decide)] at hN;rw [hT,hN,if_neg (by decide),goE _ _ (by decide),if_pos (by show (23:Int)≠0;decide)]
 rw [if_neg h2] at hT;have hE:(if g.2.2=0∧most<(g.1:Int) then (23:Int) else g.2.2)=0:=by rw [if_neg fun h=>h2 h.2,h1]
 rw [hE,if_pos rfl,go0] at hN;rw [hN];have hcond:¬((g.1:Int),Cu.mk c.b (c.at_+g.2.1) 0).2.e≠0:=fun h=>h rfl;rw [if_neg hcond];have e2:(Cu.mk c.b (c.at_+g.2.1) 0).rest=c.left.length-g.2.1:=by
  unfold Cu.rest Cu.left;rw [if_neg (fun h=>h rfl),Lld,Lld];show c.b.length-(c.at_+g.2.1)=_;omega
 dsimp only;rw [e2];by_cases h3:(c.left.length:Int)-(g.2.1:Int)<(g.1:Int)
 ·rw [if_pos h3] at hT;rw [hT,if_neg (by decide:¬(20:Int)=0),goE _ _ (by decide),if_pos (by omega)]
 rw [if_neg h3] at hT;rw [hT,if_pos rfl,if_neg (by omega),go0];have e3:(Cu.mk c.b (c.at_+g.2.1) 0).left=c.left.drop g.2.1:=by unfold Cu.left;rw [List.drop_drop]
 rw [Cu.take_eq (c:=⟨c.b,c.at_+g.2.1,0⟩) rfl,e3];have e4:takeE (g.1:Int) (c.left.drop g.2.1).length=0:=by
  unfold takeE;rw [if_neg (by omega),Lld,if_neg (by omega)]
 rw [e4,if_pos rfl,Itn];unfold Cu.go;rw [if_pos rfl];show (_,Cu.mk _ _ _)=(_,Cu.mk _ _ _);rw [Nat.add_assoc]
theorem rText_ok(h:RcF w u bc sC M c){most:Int}{K:Str→Wp}(hK:∀u',RcF w u' bc sC M (c.text most).2→Mod (fun z=>z=bc) u u'→K (c.text most).1 u') :
  callK Pg c_119 [Ap (some (bc,0)),Ai most] u Ot K:=by
 refine go_119 _ _ _ _ ?_;obtain⟨x,y,hB⟩:=h.blk;refine join1 (a:=.bool) (fun q v=>q=decide (c.e≠0)∧v=u) (fun k hk=>ifK_f rfl (Dq (hB.ldK (k:=.bool) (decide (c.e≠0)) rfl (hk _ _ ⟨rfl,rfl⟩)))) ?_;rintro q v ⟨rfl,rfl⟩;rw [text_num] at hK;refine Iq (fun q=>?_) fun q=>?_
 ·rw [if_pos (odt q)] at hK;exact hK v h (Mod.refl _ _)
 rw [if_neg (odf q)] at hK;have he0:c.e=0:=by simpa using odf q
 refine Dq (hB.ldK (k:=Ki) (c.at_:Int) rfl (rNum_ok h fun u1 h1 M1=>Dq ?_));have hnb:=num_b c most;generalize c.num most=N at hK h1 hnb ⊢;obtain⟨n,c1⟩:=N;dsimp only at hK h1 hnb ⊢;obtain⟨x1,y1,hB1⟩:=h1.blk;refine hB1.ldK (k:=.bool) (decide (c1.e≠0)) rfl (Iq (fun q1=>?_) fun q1=>?_)
 ·rw [if_pos (odt q1)] at hK;exact hK u1 h1 M1
 rw [if_neg (odf q1)] at hK;have he1:c1.e=0:=by simpa using odf q1
 refine rRest_ok h1 fun u2 h2 M2=>Iq (fun q2=>?_) fun q2=>?_
 ·rw [if_pos (odt q2)] at hK;obtain⟨x2,y2,hf2⟩:=h2.f;refine Dq (hf2.stHM (by decide:1+1≤5) (X':=RcC sC ⟨c1.b,c.at_,0⟩ x2 y2) ?_ fun u3 hu3 M3=>?_)
  ·unfold RcC;rw [Dcf (by simpa using he1)];rfl
  have h3:RcF w u3 bc sC M ⟨c1.b,c.at_,0⟩:=⟨⟨_,_,hu3⟩,h2.own,by show c.at_≤c1.b.length;rw [hnb];exact h.ok.le,h2.ok.len⟩;refine rFail_ok h3 rfl (by decide) fun u4 h4 M4=>hK u4 ?_ (mod2 (mod2 (mod2 M1 (mod3 M2)) M3) M4);rw [←hnb];exact h4
 ·rw [if_neg (odf q2)] at hK;refine rTake_ok h2 fun u3 s ro h3 v3 M3=>?_;refine convT (v3.rd fun p hp=>h3.m (Lmr _ hp)) ?_;refine hK u3 (h3.sub (Lsl _ _) ?_) (mod2 (mod2 M1 (mod3 M2)) M3);rw [take_b];exact h2.own
theorem rNewCursor_ok{w:World}{s:Sl}{t:Str}(hr:RdS w ET s t)(hl:t.length≤1099511627776){K:PA→Wp}(hK:∀w' bc sC ro,RcF w w' bc sC ro ⟨t,0,0⟩→K (some (bc,0)) w') :
  callK Pg c_120 [Az s] w Oq K:=by
 refine go_120 _ _ _ ?_;refine (Fresh.start w F0).alK fun b w1 f1 _ M1=>Dq ?_;have f1:Fresh w w1 F0 [(b,RcC ⟨none,0,0⟩ ⟨t,0,0⟩ 0 0)]:=f1;have hB1:Blk w1 b (RcC ⟨none,0,0⟩ ⟨t,0,0⟩ 0 0):=f1.own _ (Lcs ..);refine hB1.ldK (k:=.sl) ⟨none,0,0⟩ rfl ?_;refine Fresh.app (m:=[(b,RcC ⟨none,0,0⟩ ⟨t,0,0⟩ 0 0)]) (ro:=[]) (by rw [Lan];exact f1) (VecL.nil ET) (hr.quiet M1) rfl rfl (by simp;omega) fun s2 ro w2 f2 v2 M2=>Dq ?_;have f2:Fresh w w2 F0 ((b,RcC ⟨none,0,0⟩ ⟨t,0,0⟩ 0 0)::ro):=f2;refine f2.stH (by decide:0+1≤5) (X':=RcC s2 ⟨t,0,0⟩ 0 0) rfl fun w3 f3=>hK w3 b s2 ro ⟨⟨0,0,f3⟩,⟨ro,by simpa using v2,fun _ h=>h⟩,Nzl _,hl⟩
end
set_option maxRecDepth 100000
theorem go_121(f_0_1:Bool)(f_1_2:Int)(f_2_3:Sl)(K:Int→Wp)(w:World)(h:al w 52 [.bool f_0_1,.int .i64 f_1_2,.sl f_2_3] fun b4 W5=>joinK [.bool] (fun k6=>ld W5 Ki b4 1 fun n7=>ifK (n7==0) (ld W5 .sl b4 2 fun a8=>k6 ((a8.len:Int)==0) W5) (k6 false W5)) fun t119 W10=>ifK t119 (K 0 W10) (joinK [.bool] (fun k11=>ld W10 .bool b4 0 fun c12=>ifK c12 (k11 true W10) (ld W10 Ki b4 1 fun n13=>ifK (decide (n13<1)) (k11 true W10) (ld W10 Ki b4 1 fun n14=>ifK (decide (8<n14)) (k11 true W10) (ld W10 .sl b4 2 fun a15=>ifK (decide ((a15.len:Int)<1)) (k11 true W10) (ld W10 .sl b4 2 fun a16=>k11 (decide (4096<(a16.len:Int))) W10))))) fun t3517 W18=>ifK t3517 (K 70 W18) (K 0 W18))):callK Pg 105 [.agg [.bool f_0_1,.int .i64 f_1_2,.sl f_2_3]] w Oi K:=Fq (n:=(n0 .nil (n0 (n0 (.mk (some [.tmp 11 Lb]) [] [1] .done .nil .nil) .nil) (n0 (n0 (.mk (some [.tmp 35 Lb]) [] [] .done .nil .nil) .nil) .nil)))) CS_ok mixed Tryz.func105 (Eq.mpr (by kernel_rfl) h)
theorem go_122(f_0_1:Bool)(f_1_2:Int)(f_2_3:Sl)(K:Sl→Int→Wp)(w:World)(h:al w 52 [.bool f_0_1,.int .i64 f_1_2,.sl f_2_3] fun b4 W5=>ld W5 .bool b4 0 fun c6=>ld W5 Ki b4 1 fun n7=>ld W5 .sl b4 2 fun a8=>callK Pg 105 [.agg [.bool c6,.int .i64 n7,.sl a8]] W5 Oi fun n9 W10=>ifK (n9 != 0) (K (⟨none,0,0⟩) n9 W10) (ld W10 .bool b4 0 fun c11=>ifK c11 (al W10 5 [.int .u8 255] fun b12 W13=>K (⟨some (b12,0),1,1⟩) 0 W13) (ld W10 .sl b4 2 fun a14=>ifK ((a14.len:Int)==0) (al W10 5 [.int .u8 0] fun b15 W16=>K (⟨some (b15,0),1,1⟩) 0 W16) (joinK [.sl] (fun k17=>drawK W10 fun D W18=>ldD D W18 Ki b4 1 fun n19=>ldD D W18 .sl b4 2 fun a20=>(al W18 5 [.int .u8 (IntKind.wrap .u8 (n19))] fun b21 W22=>Mod D W18 W22∧callK Pg 143 [Ai (a20.len:Int)] W22 Oz fun a23 W24=>Mod D W18 W24∧ap W24 5 1 1 [.int .u8 0] (⟨some (b21,0),1,1⟩) a23 fun a25 W26=>Mod D W18 W26∧k17 a25 W26)∧(callK Pg 143 [Ai (a20.len:Int)] W18 Oz fun a27 W28=>Mod D W18 W28∧al W28 5 [.int .u8 (IntKind.wrap .u8 (n19))] fun b29 W30=>Mod D W18 W30∧ap W30 5 1 1 [.int .u8 0] (⟨some (b29,0),1,1⟩) a27 fun a31 W32=>Mod D W18 W32∧k17 a31 W32)) fun b33 W34=>ld W34 .sl b4 2 fun a35=>ap W34 5 1 1 [.int .u8 0] b33 a35 fun a36 W37=>K a36 0 W37)))):callK Pg 108 [.agg [.bool f_0_1,.int .i64 f_1_2,.sl f_2_3]] w (.tup [Ls,Li]) K:=Fq (n:=(n0 .nil (n0 .nil (n0 .nil (n0 .nil (n0 .nil (n0 (.mk (some [.tmp 5 Ls]) [] [1] (tk [0,1,2,4,5,6] (.two 3 (.eff 7 (.eff 8 (.take 9 .done))) 7 (.eff 3 (.eff 8 (.take 9 .done))))) .nil .nil) .nil))))))) CS_ok mixed Tryz.func108 (Eq.mpr (by kernel_rfl) h)
theorem go_123(b1:Sl)(K:Bool→Int→Sl→Int→Wp)(w:World)(h:al w 52 [.lit false,.int .i64 0,.sl (⟨none,0,0⟩)] fun b2 W3=>joinK [.bool] (fun k4=>ifK ((b1.len:Int)==1) (ix b1 1 0 fun b5 o6=>ld W3 (.int .u8) b5 o6 fun n7=>k4 (n7==0) W3) (k4 false W3)) fun t158 W9=>ifK t158 (st W9 b2 0 [.lit false,.int .i64 0,.sl (⟨none,0,0⟩)] fun W10=>ld W10 .bool b2 0 fun c11=>ld W10 Ki b2 1 fun n12=>ld W10 .sl b2 2 fun a13=>K c11 n12 a13 0 W10) (joinK [.bool] (fun k14=>ifK ((b1.len:Int)==1) (ix b1 1 0 fun b15 o16=>ld W9 (.int .u8) b15 o16 fun n17=>k14 (n17==255) W9) (k14 false W9)) fun t2518 W19=>ifK t2518 (st W19 b2 0 [.lit true,.int .i64 0,.sl (⟨none,0,0⟩)] fun W20=>ld W20 .bool b2 0 fun c21=>ld W20 Ki b2 1 fun n22=>ld W20 .sl b2 2 fun a23=>K c21 n22 a23 0 W20) (joinK [.bool] (fun k24=>ifK (decide ((b1.len:Int)<1)) (k24 true W19) (ix b1 1 0 fun b25 o26=>ld W19 (.int .u8) b25 o26 fun n27=>ifK (decide (n27<1)) (k24 true W19) (ix b1 1 0 fun b28 o29=>ld W19 (.int .u8) b28 o29 fun n30=>k24 (decide (8<n30)) W19))) fun t4131 W32=>ifK t4131 (st W32 b2 0 [.lit false,.int .i64 0,.sl (⟨none,0,0⟩)] fun W33=>ld W33 .bool b2 0 fun c34=>ld W33 Ki b2 1 fun n35=>ld W33 .sl b2 2 fun a36=>K c34 n35 a36 70 W33) (slx b1 1 (some 1) none none fun s37=>callK Pg 140 [Az s37] W32 (.tup [Li,Li,Li]) fun n38 n39 n40 W41=>joinK [.bool] (fun k42=>ifK (n40 != 0) (k42 true W41) (ifK (decide (n38<1)) (k42 true W41) (ifK (decide (4096<n38)) (k42 true W41) (k42 ((b1.len:Int) != (w64 ((w64 (1+n39))+n38))) W41)))) fun t6843 W44=>ifK t6843 (st W44 b2 0 [.lit false,.int .i64 0,.sl (⟨none,0,0⟩)] fun W45=>ld W45 .bool b2 0 fun c46=>ld W45 Ki b2 1 fun n47=>ld W45 .sl b2 2 fun a48=>K c46 n47 a48 70 W45) (drawK W44 fun D W49=>ix b1 1 0 fun b50 o51=>ldD D W49 (.int .u8) b50 o51 fun n52=>slx b1 1 (some (w64 (1+n39))) none none fun s53=>al W49 5 [] fun b54 W55=>Mod D W49 W55∧ap W55 5 1 1 [.int .u8 0] (⟨some (b54,0),0,0⟩) s53 fun a56 W57=>Mod D W49 W57∧st W57 b2 0 [.lit false,.int .i64 (w64 (n52)),.sl a56] fun W58=>Mod D W49 W58∧ld W58 .bool b2 0 fun c59=>ld W58 Ki b2 1 fun n60=>ld W58 .sl b2 2 fun a61=>K c59 n60 a61 0 W58))))):callK Pg 103 [Az b1] w (.tup [.agg [.bool,Ki,.sl],Li]) K:=Fq (n:=(n0 .nil (n0 (n0 (.mk (some [.tmp 15 Lb]) [] [0,2] .done .nil .nil) .nil) (n0 (n0 (.mk (some [.tmp 25 Lb]) [] [0,2] .done .nil .nil) .nil) (n0 (n0 (.mk (some [.tmp 41 Lb]) [] [0,2] .done .nil .nil) .nil) (n0 .nil (n0 (n0 (.mk (some [.tmp 68 Lb]) [] [0,2,5] .done .nil .nil) .nil) (n0 (.mk none [] [] (tk [0,1,2,3,5,6,7,8] (.eff 4 (.eff 9 (.take 10 (.eff 11 (.take 12 .done)))))) .nil .nil) .nil)))))))) CS_ok mixed Tryz.func103 (Eq.mpr (by kernel_rfl) h)
theorem kindN_zero{a:Bool}{h:Int}{n:Nat}:kindN a h n=0↔¬(h=0∧n=0)∧¬(a=false∧1≤h∧h≤8∧1≤n∧n≤4096):=by
 unfold kindN;by_cases h1:a=true∧h=0∧n=0
 ·rw [if_pos h1];exact⟨fun h=>absurd h (by decide),fun h=>absurd h1.2 h.1⟩
 rw [if_neg h1];by_cases h2:a=false∧h=0∧n=0
 ·rw [if_pos h2];exact⟨fun h=>absurd h (by decide),fun h=>absurd h2.2 h.1⟩
 rw [if_neg h2];have h0:¬(h=0∧n=0):=fun q=>by
  cases a
  ·exact h2 ⟨rfl,q⟩
  ·exact h1 ⟨rfl,q⟩
 by_cases h3:a=false∧1≤h∧h≤8∧1≤n∧n≤4096
 ·rw [if_pos h3];exact⟨fun h=>absurd h (by decide),fun h=>absurd h3 h.2⟩
 ·rw [if_neg h3];exact⟨fun _=>⟨h0,h3⟩,fun _=>rfl⟩
theorem rFCheck_ok{w:World}{a:Bool}{h:Int}{s:Sl}{n:Nat}(hn:s.len=n){K:Int→Wp}(hK:∀w',Mod F0 w w'→K (if kindN a h n=0 then 70 else 0) w') :
  callK Pg c_121 [.agg [.bool a,.int .i64 h,.sl s]] w Oi K:=by
 refine go_121 _ _ _ _ _ ?_;refine (At.init w F0).alK fun b w1 _ h1 _=>?_;have hB:Blk w1 b (fltC a h s):=h1.blk (i:=0) rfl;have la:∀{K:Bool→Prop},K a→Go.Vw.ld w1 .bool b 0 K:=fun hk=>hB.ldK (k:=.bool) a rfl hk;have lh:∀{K:Int→Prop},K h→Go.Vw.ld w1 Ki b 1 K:=fun hk=>hB.ldK (k:=Ki) h rfl hk;have ls:∀{K:Sl→Prop},K s→Go.Vw.ld w1 .sl b 2 K:=fun hk=>hB.ldK (k:=.sl) s rfl hk;have hK:=hK w1 h1.mod;refine join1 (a:=.bool) (fun q v=>q=decide (h=0∧n=0)∧v=w1) (fun k hk=>lh (Iq (fun q=>ls (hk _ _ ⟨?_,rfl⟩)) fun q=>hk _ _ ⟨?_,rfl⟩)) ?_
 ·have q:h=0:=by simpa using q
  rw [hn];rw [Bei,beq_iff_eq,Det];omega
 ·have q:¬h=0:=by simpa using q
  exact (Dcf fun h=>q h.1).symm
 rintro q v ⟨rfl,rfl⟩;refine Iq (fun q=>?_) fun q=>?_
 ·have q:=odt q;rw [if_neg (fun h=>(kindN_zero.1 h).1 q)] at hK;exact hK
 have q:=odf q;refine join1 (a:=.bool) (fun x u=>x=decide (¬(a=false∧1≤h∧h≤8∧1≤n∧n≤4096))∧u=v) ?_ ?_
 ·intro k hk;have t:(¬(a=false∧1≤h∧h≤8∧1≤n∧n≤4096))→k true v:=fun h=>hk _ _ ⟨(Dct h).symm,rfl⟩;refine la (Iq (fun e=>t fun h=>by rw [show a=true from e] at h;cases h.1) fun e=>lh (Iq (fun e1=>t fun h9=>?_) fun e1=>lh (Iq (fun e2=>t fun h9=>?_) fun e2=>ls (Iq (fun e3=>t fun h9=>?_) fun e3=>ls (hk _ _ ⟨?_,rfl⟩)))))
  ·have:h<1:=odt e1;omega
  ·have:8<h:=odt e2;omega
  ·have e3:(s.len:Int)<1:=odt e3;omega
  ·have e:a=false:=e;have e1:¬h<1:=odf e1;have e2:¬8<h:=odf e2;have e3:¬(s.len:Int)<1:=odf e3;show decide ((4096:Int)<(s.len:Int))=_;rw [Bei,Det,Det];constructor
   ·intro h4 h5;omega
   ·intro h4;apply Classical.byContradiction;intro h5;exact h4 ⟨e,by omega,by omega,by omega,by omega⟩
 rintro x u ⟨rfl,rfl⟩;refine Iq (fun e=>?_) fun e=>?_
 ·have e:=odt e;rw [if_pos (kindN_zero.2 ⟨q,e⟩)] at hK;exact hK
 ·have e:=odf e;rw [if_neg (fun h=>e (kindN_zero.1 h).2)] at hK;exact hK
theorem kind_sort{a:Bool}{h:Int}{n:Nat}(q:kindN a h n≠0):(a=true→kindN a h n=1)∧(a=false→n=0→kindN a h n=2)∧(a=false→n≠0→kindN a h n=3):=by
 have h3:¬(a=false∧1≤h∧h≤8∧1≤n∧n≤4096)→h=0∧n=0:=fun e=>by
  apply Classical.byContradiction;intro h0;exact q (kindN_zero.2 ⟨h0,e⟩)
 refine⟨fun ha=>?_,fun ha hn=>?_,fun ha hn=>?_⟩
 ·have:=h3 (fun e=>by rw [ha] at e;cases e.1);unfold kindN;rw [if_pos ⟨ha,this⟩]
 ·have:=h3 (fun e=>by omega);unfold kindN;rw [if_neg (fun e=>by rw [ha] at e;cases e.1),if_pos ⟨ha,this⟩]
 ·have hh:a=false∧1≤h∧h≤8∧1≤n∧n≤4096:=by
   apply Classical.byContradiction;intro e;exact hn (h3 e).2
  unfold kindN;rw [if_neg (fun e=>hn e.2.2),if_neg (fun e=>hn e.2.2),if_pos hh]
theorem rFEncode_ok{w:World}{a:Bool}{h:Int}{s:Sl}{d:Str}(hr:RdS w ET s d)(hl:d.length≤1099511627776){K:Sl→Int→Wp}
  (hK:∀w' ro s',VecL ro ET s' (encF ⟨a,h,d⟩).1→Fresh w w' F0 ro→K s' (encF ⟨a,h,d⟩).2 w') :
  callK Pg c_122 [.agg [.bool a,.int .i64 h,.sl s]] w (.tup [Ls,Li]) K:=by
 refine go_122 _ _ _ _ _ ?_;refine (Fresh.start w F0).alK fun b4 w1 f1 _ M1=>?_;have f1:Fresh w w1 F0 [(b4,fltC a h s)]:=f1;have hB:=f1.blk (i:=0) rfl;refine hB.ldK (k:=.bool) a rfl (hB.ldK (k:=Ki) h rfl (hB.ldK (k:=.sl) s rfl ?_));have hr1:=hr.quiet M1;refine rFCheck_ok (n:=d.length) hr.len fun w2 M2=>?_;have f2:=f1.quiet M2;have hr2:=hr1.quiet M2;have hB2:=f2.blk (i:=0) rfl;unfold encF at hK;dsimp only at hK;by_cases hk:kindN a h d.length=0
 ·rw [if_pos hk];refine ifK_t rfl ?_;have hK:=hK w2 [] ⟨none,0,0⟩;rw [hk,if_neg (by decide),if_neg (by decide),if_neg (by decide)] at hK;exact hK (VecL.nil ET) (f2.sub (List.nil_sublist _))
 rw [if_neg hk];obtain⟨k1,k2,k3⟩:=kind_sort hk;refine ifK_f rfl (hB2.ldK (k:=.bool) a rfl (Iq (fun ha=>?_) fun ha=>?_))
 ·simp only [if_pos (k1 ha)] at hK;exact f2.alK fun b u fu _ _=>hK u _ _ (byte1 b 255) (fu.sub (Lsr _ _))
 have ha:a=false:=ha;refine hB2.ldK (k:=.sl) s rfl ?_;rw [hr.len];refine Iq (fun q=>?_) fun q=>?_
 ·have q:d.length=0:=by
   have:((d.length:Int)=0):=by simpa using q
   omega
  have k2:=k2 ha q;simp only [k2] at hK;exact f2.alK fun b u fu _ _=>hK u _ _ (byte1 b 0) (fu.sub (Lsr _ _))
 have q:d.length≠0:=by
  intro he;rw [he] at q;exact absurd q (by decide)
 have q3:=k3 ha q;simp only [q3] at hK;obtain⟨_,h1,h8,d1,d2⟩:=kindN_3 q3;have hpl:(putN d.length).length≤9:=putN_len d.length 8 (by omega);have ec:IntKind.wrap .u8 h=(((UInt8.ofNat h.toNat).toNat:Nat):Int):=by
  have:(UInt8.ofNat h.toNat).toNat=h.toNat%256:=rfl;rw [this];show h%256=_;omega
 refine join1 (a:=.sl) (fun s15 u=>∃ro,Fresh w u F0 ([(b4,fltC a h s)]++ro)∧VecL ro ET s15 (UInt8.ofNat h.toNat::putN d.length)) ?_ ?_;rotate_left
 ·rintro s15 u ⟨ro,f,v⟩;have hB:=f.blk (i:=0) rfl;refine hB.ldK (k:=.sl) s rfl ?_;have hru:=hr.quiet f.mod;refine Fresh.app f v hru rfl rfl (by simp;omega) fun s' ro' u' f' v' _=>hK u' ro' s' v' (f'.sub (Lsr _ _))
 intro k15 hk15;have f3:=f2.quiet (Mq w2);have hB3:=f3.blk (i:=0) rfl;refine⟨F0,hB3.ldDK (k:=Ki) h id rfl (hB3.ldDK (k:=.sl) s id rfl ?_)⟩;rw [hr.len,ec];have fin:∀{u u':World} {s23:Sl} {ro:BL},Fresh w2.drew u' F0 ro→VecL ro ET s23 (UInt8.ofNat h.toNat::putN d.length)→k15 s23 u':=fun f v=>
  hk15 _ _ ⟨_,f3.join f (fun _ _ h=>h) (fun _ _ _ h=>h),v⟩
 refine⟨?_,?_⟩
 ·refine (Fresh.start w2.drew F0).alK fun b19 u1 g1 _ _=>⟨g1.mod,rPut_ok (by omega) fun u2 ro2 s2 g2 v2=>?_⟩;have g2:Fresh w2.drew u2 F0 (ro2++[(b19,[LV.toV (.int .u8 (((UInt8.ofNat h.toNat).toNat:Nat):Int))])]):=(g1.join (Fresh.of_at g2) (fun _ _ h=>h) (fun _ _ _ h=>h)).perm Lpc;refine⟨g2.mod,Fresh.app g2 (byte1 b19 _) (v2.rd fun p hp=>g2.own p (Lml _ hp)) rfl rfl (by simp;omega) fun s' ro' u' f' v' _=>⟨f'.mod,fin (u:=u2) (f'.sub (Lsr _ _)) v'⟩⟩
 ·refine rPut_ok (by omega) fun u2 ro2 s2 g2 v2=>⟨g2.mod,?_⟩;refine (Fresh.of_at g2).alK fun b19 u3 g3 _ _=>⟨g3.mod,?_⟩;refine Fresh.app g3 (byte1 b19 _) (v2.rd fun p hp=>g3.own p (Lml _ hp)) rfl rfl (by simp;omega) fun s' ro' u' f' v' _=>⟨f'.mod,fin (u:=u2) (f'.sub (Lsr _ _)) v'⟩
def filtR(b:Str):Flt×Int:=
 if b=[0] then (Flt.no,0) else if b=[255] then (⟨true,0,[]⟩,0)
 else if b.length<1∨(b.getD 0 0).toNat<1∨8<(b.getD 0 0).toNat then (Flt.no,70)
 else if (getN (b.drop 1)).2.2≠0∨(getN (b.drop 1)).1<1∨4096<(getN (b.drop 1)).1∨b.length≠1+(getN (b.drop 1)).2.1+(getN (b.drop 1)).1 then (Flt.no,70)
 else (⟨false,(b.getD 0 0).toNat,b.drop (1+(getN (b.drop 1)).2.1)⟩,0)
set_option maxHeartbeats 1000000 in
theorem rFDecode_ok{w:World}{s:Sl}{t:Str}(hr:RdS w ET s t)(hl:t.length≤1099511627776){K:Bool→Int→Sl→Int→Wp}
  (hK:∀w' ro s',VecL ro ET s' (filtR t).1.data→Fresh w w' F0 ro→K (filtR t).1.all (filtR t).1.hashes s' (filtR t).2 w') :
  callK Pg c_123 [Az s] w (.tup [.agg [.bool,Ki,.sl],Li]) K:=by
 refine go_123 _ _ _ ?_;refine (Fresh.start w F0).alK fun b2 w1 f1 hb2 M1=>?_;have f1:Fresh w w1 F0 [(b2,fltC false 0 ⟨none,0,0⟩)]:=f1;have hr1:=hr.quiet M1;have tell:∀{u:World} {a:Bool} {h:Int} {e:Int} {k:Wp},Fresh w u F0 [(b2,fltC false 0 ⟨none,0,0⟩)]→filtR t=(⟨a,h,[]⟩,e)→∀{ba:LV},LV.toV ba=LV.toV (.bool a) →
   Go.Vw.st u b2 0 [ba,.int .i64 h,.sl ⟨none,0,0⟩] fun W10=>ld W10 .bool b2 0 fun c11=>ld W10 Ki b2 1 fun n12=>ld W10 .sl b2 2 fun a13=>K c11 n12 a13 e W10:=fun {u a h e k} f he {ba} hba=>by
  refine f.stH (by decide:0+3≤3) (X':=fltC a h ⟨none,0,0⟩) (by simp only [List.map_cons,List.map_nil,hba];rfl) fun u' f'=>?_;have hB:Blk u' b2 (fltC a h ⟨none,0,0⟩):=f'.own _ (Lcs ..);refine hB.ldK (k:=.bool) a rfl (hB.ldK (k:=Ki) h rfl (hB.ldK (k:=.sl) ⟨none,0,0⟩ rfl ?_));rw [he] at hK;exact hK u' [] _ (VecL.nil ET) (f'.sub (List.nil_sublist _))
 rw [hr.len]
 have first:∀{u:World} {K:Int→Prop},Mod F0 w u→1≤t.length→K ((t.getD 0 0).toNat:Int)→Go.Vw.ix s 1 0 fun b o=>Go.Vw.ld u (.int .u8) b o K:=fun {u K} hM h1 hk=>by
  refine (hr.quiet hM).byte (k:=0) rfl (by omega) fun b o _ hc=>Lq (k:=.int .u8) ((t[0]).toNat:Int) hc ?_;rw [Lgd,Lge (by omega),Option.getD_some] at hk;exact hk
 have e1:∀c:UInt8,t=[c]↔t.length=1∧(t.getD 0 0).toNat=c.toNat:=fun c=>by
  constructor
  ·rintro rfl;exact⟨rfl,rfl⟩
  ·rintro ⟨h1,h2⟩;obtain⟨x,rfl⟩:=List.length_eq_one_iff.1 h1;have:x.toNat=c.toNat:=h2;rw [UInt8.toNat_inj.1 this]
 have hlen1:(((t.length:Nat):Int)==1)=decide (t.length=1):=by rw [Bei,beq_iff_eq,Det];omega
 have hfst:(t.getD 0 0).toNat<256:=UInt8.toNat_lt_size _;rw [hlen1]
 refine join1 (a:=.bool) (fun q u=>q=decide (t=[0])∧u=w1) (fun k hk=>Iq (fun q=>first M1 (by have:=odt q;omega) (hk _ _ ⟨?_,rfl⟩)) fun q=>hk _ _ ⟨?_,rfl⟩) ?_
 ·have q:=odt q;show ((((t.getD 0 0).toNat:Nat):Int)==0)=_;rw [Bei,beq_iff_eq,Det,e1];show _↔t.length=1∧(t.getD 0 0).toNat=0;omega
 ·have q:=odf q;exact (Dcf fun h=>q ((e1 0).1 h).1).symm
 rintro q u ⟨rfl,rfl⟩;refine Iq (fun q=>?_) fun q=>?_
 ·exact tell (k:=fun _=>True) f1 (by unfold filtR;rw [if_pos (odt q)];rfl) rfl
 have q0:=odf q
 refine join1 (a:=.bool) (fun q v=>q=decide (t=[255])∧v=u) (fun k hk=>Iq (fun q=>first M1 (by have:=odt q;omega) (hk _ _ ⟨?_,rfl⟩)) fun q=>hk _ _ ⟨?_,rfl⟩) ?_
 ·have q:=odt q;show ((((t.getD 0 0).toNat:Nat):Int)==255)=_;rw [Bei,beq_iff_eq,Det,e1];show _↔t.length=1∧(t.getD 0 0).toNat=255;omega
 ·have q:=odf q;exact (Dcf fun h=>q ((e1 255).1 h).1).symm
 rintro q v ⟨rfl,rfl⟩;refine Iq (fun q=>?_) fun q=>?_
 ·exact tell (k:=fun _=>True) f1 (by unfold filtR;rw [if_neg q0,if_pos (odt q)]) rfl
 have q1:=odf q;refine join1 (a:=.bool) (fun q u=>q=decide (t.length<1∨(t.getD 0 0).toNat<1∨8<(t.getD 0 0).toNat)∧u=v) ?_ ?_
 ·intro k hk
  refine Iq (fun q=>hk _ _ ⟨?_,rfl⟩) fun q=>first M1 ?_ (Iq (fun q2=>hk _ _ ⟨?_,rfl⟩) fun q2=>first M1 ?_ (hk _ _ ⟨?_,rfl⟩))
  ·have q:((t.length:Nat):Int)<1:=odt q;exact (Dct (.inl (by omega))).symm
  ·have q:¬((t.length:Nat):Int)<1:=odf q;omega
  ·have q2:(((t.getD 0 0).toNat:Nat):Int)<1:=odt q2;exact (Dct (.inr (.inl (by omega)))).symm
  ·have q:¬((t.length:Nat):Int)<1:=odf q;omega
  ·have q:¬((t.length:Nat):Int)<1:=odf q;have q2:¬(((t.getD 0 0).toNat:Nat):Int)<1:=odf q2;show decide ((8:Int)<(((t.getD 0 0).toNat:Nat):Int))=_;rw [Bei,Det,Det];omega
 rintro q u ⟨rfl,rfl⟩;refine Iq (fun q=>?_) fun q=>?_
 ·exact tell (k:=fun _=>True) f1 (by unfold filtR;rw [if_neg q0,if_neg q1,if_pos (odt q)];rfl) rfl
 have q2:=odf q;have hl1:1≤t.length:=by omega
 refine hr1.fromK (n:=1) hl1 rfl rfl fun s37 h37 _=>rGet_ok h37 (by rw [Lld];omega) ?_;have hgl:=getN_len (t.drop 1);have hgv:=getN_val (t.drop 1);have eF:filtR t=if (getN (t.drop 1)).2.2≠0∨(getN (t.drop 1)).1<1∨4096<(getN (t.drop 1)).1∨t.length≠1+(getN (t.drop 1)).2.1+(getN (t.drop 1)).1 then (Flt.no,70) else (⟨false,(t.getD 0 0).toNat,t.drop (1+(getN (t.drop 1)).2.1)⟩,0):=by
  unfold filtR;rw [if_neg q0,if_neg q1,if_neg q2]
 rw [Lld] at hgl;generalize getN (t.drop 1)=g at hgl hgv eF ⊢;refine join1 (a:=.bool) (fun q v=>q=decide (g.2.2≠0∨g.1<1∨4096<g.1∨t.length≠1+g.2.1+g.1)∧v=u) ?_ ?_
 ·intro k hk;refine Iq (fun r1=>hk _ _ ⟨?_,rfl⟩) fun r1=>Iq (fun r2=>hk _ _ ⟨?_,rfl⟩) fun r2=>Iq (fun r3=>hk _ _ ⟨?_,rfl⟩) fun r3=>hk _ _ ⟨?_,rfl⟩
  ·exact (Dct (.inl (by simpa using r1))).symm
  ·have r2:((g.1:Nat):Int)<1:=odt r2;exact (Dct (.inr (.inl (by omega)))).symm
  ·have r3:(4096:Int)<((g.1:Nat):Int):=odt r3;exact (Dct (.inr (.inr (.inl (by omega))))).symm
  ·have r1:g.2.2=0:=by simpa using r1
   have r2:¬((g.1:Nat):Int)<1:=odf r2;have r3:¬(4096:Int)<((g.1:Nat):Int):=odf r3;have ew:w64 (w64 (1+(g.2.1:Int))+(g.1:Int))=((1+g.2.1+g.1:Nat):Int):=by
    rw [Wq (n:=1+(g.2.1:Int)) (by omega) (by omega),Wq (by omega) (by omega)];omega
   rw [ew];show (((t.length:Nat):Int) != ((1+g.2.1+g.1:Nat):Int))=_;rw [Bei,bne_iff_ne,Det];constructor
   ·intro h;exact .inr (.inr (.inr (by omega)))
   ·rintro (h | h | h | h)
    ·exact absurd r1 h
    ·omega
    ·omega
    ·omega
 rintro q v ⟨rfl,rfl⟩;refine Iq (fun q=>?_) fun q=>?_
 ·exact tell (k:=fun _=>True) f1 (by rw [eF,if_pos (odt q)];rfl) rfl
 have q3:=odf q;rw [if_neg q3] at eF;rw [eF] at hK;have hlt:t.length=1+g.2.1+g.1:=by omega
 have hdr:=Mq v;have f2:=f1.quiet hdr;have hr2:=hr1.quiet hdr;have e1':w64 (1+(g.2.1:Int))=((1+g.2.1:Nat):Int):=by rw [Wq (by omega) (by omega)];omega
 rw [e1'];have hne:∀b,rk s b→¬b=b2:=fun b hk e=>by
  obtain⟨b',o',hp',_,hc'⟩:=hr.at (i:=0) (Lge (by omega:0<t.length));have hlt:=cell_lt (hc' 0 (by decide));obtain⟨o,hp⟩:=hk.2;rw [hp'] at hp;cases hp;have hlt:b<w.heap.size:=hlt;omega
 refine⟨fun z=>z=b2,hr2.byte (k:=0) rfl (by omega) fun b o hk hc=>Lw (k:=.int .u8) ((t[0]).toNat:Int) (hne b hk) hc (hr2.fromK (n:=1+g.2.1) (by omega) rfl rfl fun s53 h53 _=>?_)⟩;have eg:t[0].toNat=(t.getD 0 0).toNat:=by rw [Lgd,Lge (by omega),Option.getD_some]
 rw [eg];refine f2.alK fun b54 u3 f3 hb3 M3=>⟨M3.mono fun _ _ h=>h.elim,?_⟩;refine Fresh.app (m:=[(b2,fltC false 0 ⟨none,0,0⟩)]) (ro:=[(b54,[])]) f3 (vec0 ET b54) (h53.quiet M3) rfl rfl (by simp;omega) fun s' ro u4 f4 v4 M4=>?_;have hM4:Mod F0 v.drew u4:=M3.trans M4 (fun _ _ h=>h.elim) fun x hx hk=>by
  obtain⟨p,hp,e⟩:=hk;rw [Lms.1 hp] at e;have e:b54=x:=e;omega
 refine⟨hM4.mono fun _ _ h=>h.elim,?_⟩;have f4:Fresh w u4 F0 ((b2,fltC false 0 ⟨none,0,0⟩)::ro):=f4;have en:w64 (((t.getD 0 0).toNat:Nat):Int)=(((t.getD 0 0).toNat:Nat):Int):=w64N (by omega);rw [en];refine f4.stK 0 rfl (by decide:0+3≤3) fun u5 f5 M5=>?_;have f5:Fresh w u5 F0 ((b2,fltC false ((t.getD 0 0).toNat:Int) s')::ro):=f5;have hB:Blk u5 b2 (fltC false ((t.getD 0 0).toNat:Int) s'):=f5.own _ (Lcs ..);refine⟨hM4.trans M5 (fun _ _ h=>h.elim) fun _ _ h=>h,hB.ldK (k:=.bool) false rfl (hB.ldK (k:=Ki) ((t.getD 0 0).toNat:Int) rfl (hB.ldK (k:=.sl) s' rfl (hK u5 ro s' (by simpa using v4) (f5.sub (List.sublist_cons_self _ _)))))⟩
set_option maxRecDepth 100000
theorem go_124(b_0_1:Int)(b_1_2:Int)(b_2_3:Int)(b_3_4:List UInt8)(K:Bool→Wp)(w:World)(h:al w 57 [.int .i64 b_0_1,.int .i64 b_1_2,.int .i64 b_2_3,.str b_3_4] fun b5 W6=>joinK [.bool] (fun k7=>ld W6 Ki b5 0 fun n8=>ifK (decide (n8<1)) (k7 true W6) (ld W6 Ki b5 0 fun n9=>ifK (decide (65536<n9)) (k7 true W6) (ld W6 Ki b5 1 fun n10=>ifK (decide (n10<1)) (k7 true W6) (ld W6 Ki b5 1 fun n11=>ifK (decide (65536<n11)) (k7 true W6) (ld W6 Ki b5 1 fun n12=>ld W6 Ki b5 0 fun n13=>k7 (decide (w64 (64*n13)<n12)) W6))))) fun t2814 W15=>ifK t2814 (K false W15) (joinK [.bool] (fun k16=>ld W15 Ki b5 2 fun n17=>ifK (decide (1≤n17)) (ld W15 Ki b5 2 fun n18=>ld W15 Ki b5 1 fun n19=>ifK (decide (n18≤n19)) (ld W15 .str b5 3 fun s20=>k16 (decide ((s20.length:Int)≤64)) W15) (k16 false W15)) (k16 false W15)) fun t221 W22=>K t221 W22)):callK Pg 106 [.agg [.int .i64 b_0_1,.int .i64 b_1_2,.int .i64 b_2_3,.str b_3_4]] w Ob K:=Fq (n:=(n0 .nil (n0 (n0 (.mk (some [.tmp 28 Lb]) [] [1] .done .nil .nil) .nil) (n0 (.mk (some [.tmp 2 Lb]) [] [] .done .nil .nil) .nil)))) CS_ok mixed Tryz.func106 (Eq.mpr (by kernel_rfl) h)
theorem go_125(f_0_1:Int)(f_1_2:Sl)(K:Int→Wp)(w:World)(h:al w 42 [.int .i64 f_0_1,.sl f_1_2] fun b3 W4=>joinK [.bool] (fun k5=>ld W4 Ki b3 0 fun n6=>ifK (decide (n6<1)) (k5 true W4) (ld W4 Ki b3 0 fun n7=>k5 (decide (65535<n7)) W4)) fun t168 W9=>ifK t168 (K 80 W9) (joinK [Ki] (fun k10=>loopL [Ki,Ki,Ki] (fun blocks12 last13 i14 W15 g11=>ld W15 .sl b3 1 fun a16=>ifK (decide (i14<(a16.len:Int))) (ld W15 .sl b3 1 fun a17=>ix a17 5 i14 fun b18 o19=>ld W15 Ki b18 o19 fun n20=>ld W15 .sl b18 (o19+1) fun a21=>ld W15 .bool b18 (o19+2) fun c22=>ld W15 Ki b18 (o19+3) fun n23=>ld W15 .sl b18 (o19+4) fun a24=>al W15 54 [.int .i64 0,.sl (⟨none,0,0⟩),.lit false,.int .i64 0,.sl (⟨none,0,0⟩)] fun b25 W26=>st W26 b25 0 [.int .i64 n20,.sl a21,.bool c22,.int .i64 n23,.sl a24] fun W27=>joinK [.bool] (fun k28=>ld W27 Ki b25 0 fun n29=>ifK (decide (n29≤last13)) (k28 true W27) (ld W27 Ki b25 0 fun n30=>ld W27 Ki b3 0 fun n31=>ifK (decide (n31≤n30)) (k28 true W27) (ld W27 .sl b25 1 fun a32=>ifK ((a32.len:Int)==0) (k28 true W27) (ld W27 .bool b25 2 fun c33=>ld W27 Ki b25 3 fun n34=>ld W27 .sl b25 4 fun a35=>callK Pg 105 [.agg [.bool c33,.int .i64 n34,.sl a35]] W27 Oi fun n36 W37=>k28 (n36 != 0) W37)))) fun t5138 W39=>ifK t5138 (K 80 W39) (ld W39 Ki b25 0 fun n40=>ld W39 .sl b25 1 fun a41=>joinK [] (fun k42=>loopL [Ki] (fun k44 W45 g43=>ld W45 .sl b25 1 fun a46=>ifK (decide (k44<(a46.len:Int))) (ld W45 .sl b25 1 fun a47=>ix a47 4 k44 fun b48 o49=>ld W45 Ki b48 o49 fun n50=>ld W45 Ki b48 (o49+1) fun n51=>ld W45 Ki b48 (o49+2) fun n52=>ld W45 .str b48 (o49+3) fun s53=>callK Pg 106 [.agg [.int .i64 n50,.int .i64 n51,.int .i64 n52,.str s53]] W45 Ob fun c54 W55=>joinK [.bool] (fun k56=>drawK W55 fun D W57=>ifK (!c54) (k56 true W57) (ifK (decide (0<k44)) (ldD D W57 .sl b25 1 fun a58=>ix a58 4 k44 fun b59 o60=>ldD D W57 .str b59 (o60+3) fun s61=>ldD D W57 .sl b25 1 fun a62=>ix a62 4 (w64 (k44-1)) fun b63 o64=>ldD D W57 .str b63 (o64+3) fun s65=>k56 (Op.bytesLess s61 s65) W57) (k56 false W57))) fun t9366 W67=>ifK t9366 (K 80 W67) (g43 (w64 (k44+1)) W67)) (k42 W45)) [.int .i64 0] W39) fun W68=>g11 (w64 (blocks12+(a41.len:Int))) n40 (w64 (i14+1)) W68)) (k10 blocks12 W15)) [.int .i64 0,.int .i64 (-1),.int .i64 0] W9) fun blocks69 W70=>ifK (decide (262144<blocks69)) (K 80 W70) (K 0 W70))):callK Pg 73 [.agg [.int .i64 f_0_1,.sl f_1_2]] w Oi K:=Fq (n:=(n0 .nil (n0 (n0 (.mk (some [.tmp 16 Lb]) [] [1] .done .nil .nil) .nil) (n0 .nil (n0 .nil (n0 (n0 .nil (.mk (some [.tmp 3 Li]) [] [] .done (.mk none [.tmp 3 Li,.tmp 4 Li,.tmp 5 Li] [1] .done (n0 .nil (n0 (n0 (n0 .nil (n0 (n0 (.mk (some [.tmp 51 Lb]) [] [1,3,5,6] .done .nil .nil) .nil) (n0 .nil (n0 .nil (n0 .nil (.mk (some []) [] [1,3,4,5] .done (.mk none [.tmp 7 Li] [1,3,4,5,6] .done (n0 .nil (n0 (n0 (n0 .nil (n0 (.mk (some [.tmp 93 Lb]) [] [1,3,4,5,6,7] (tk [0,1,2] (.split 2 (.take 3 (.take 4 (.take 5 (.take 6 (.take 7 (.take 8 (.take 9 (.take 10 (.take 11 (.take 12 (.take 13 (.take 14 (.take 15 (.take 16 (.take 17 (.take 18 (.take 19 (.take 20 (.take 21 .done))))))))))))))))))) (.take 3 (.take 4 (.take 5 (.split 5 (.take 6 (.take 7 (.take 8 (.take 9 (.take 10 (.take 11 (.take 12 (.take 13 (.take 14 (.take 15 (.take 16 (.take 17 (.take 18 (.take 19 (.take 20 (.take 21 .done)))))))))))))))) (.take 6 (.take 7 (.take 8 (.take 9 (.take 10 (.take 11 (.take 12 (.take 13 (.take 14 (.take 15 (.take 16 (.take 17 (.take 18 (.take 19 (.take 20 (.take 21 .done)))))))))))))))))))))) .nil .nil) .nil)) .nil) .nil)) .nil) .nil)))))) .nil) .nil)) .nil) .nil)) .nil)))))) CS_ok mixed Tryz.func73 (Eq.mpr (by kernel_rfl) h)
theorem go_127(b1:Sl)(v2:Int)(K:Sl→Wp)(w:World)(h:callK Pg 143 [Ai v2] w Oz fun a3 W4=>ap W4 5 1 1 [.int .u8 0] b1 a3 fun a5 W6=>K a5 W6):callK Pg 107 [Az b1,Ai v2] w Oz K:=Fq (n:=.nil) CS_ok mixed Tryz.func107 (Eq.mpr (by kernel_rfl) h)
theorem go_128(f_0_1:Int)(f_1_2:Sl)(K:Sl→Wp)(w:World)(h:al w 42 [.int .i64 f_0_1,.sl f_1_2] fun b3 W4=>ld W4 Ki b3 0 fun n5=>callK Pg 107 [Az (⟨none,0,0⟩),Ai n5] W4 Oz fun a6 W7=>ld W7 .sl b3 1 fun a8=>callK Pg 107 [Az a6,Ai (a8.len:Int)] W7 Oz fun a9 W10=>joinK [.sl] (fun k11=>loopL [.sl,Ki,Ki] (fun b13 last14 i15 W16 g12=>ld W16 .sl b3 1 fun a17=>ifK (decide (i15<(a17.len:Int))) (ld W16 .sl b3 1 fun a18=>ix a18 5 i15 fun b19 o20=>ld W16 Ki b19 o20 fun n21=>ld W16 .sl b19 (o20+1) fun a22=>ld W16 .bool b19 (o20+2) fun c23=>ld W16 Ki b19 (o20+3) fun n24=>ld W16 .sl b19 (o20+4) fun a25=>al W16 54 [.int .i64 0,.sl (⟨none,0,0⟩),.lit false,.int .i64 0,.sl (⟨none,0,0⟩)] fun b26 W27=>st W27 b26 0 [.int .i64 n21,.sl a22,.bool c23,.int .i64 n24,.sl a25] fun W28=>ld W28 Ki b26 0 fun n29=>callK Pg 107 [Az b13,Ai (w64 ((w64 (n29-last14))-1))] W28 Oz fun a30 W31=>ld W31 Ki b26 0 fun n32=>ld W31 .bool b26 2 fun c33=>ld W31 Ki b26 3 fun n34=>ld W31 .sl b26 4 fun a35=>callK Pg 108 [.agg [.bool c33,.int .i64 n34,.sl a35]] W31 (.tup [Ls,Li]) fun a36 n37 W38=>callK Pg 107 [Az a30,Ai (a36.len:Int)] W38 Oz fun a39 W40=>ap W40 5 1 1 [.int .u8 0] a39 a36 fun a41 W42=>ld W42 .sl b26 1 fun a43=>callK Pg 107 [Az a41,Ai (a43.len:Int)] W42 Oz fun a44 W45=>joinK [.sl] (fun k46=>loopL [.sl,.str,Ki] (fun b48 cut49 k50 W51 g47=>ld W51 .sl b26 1 fun a52=>ifK (decide (k50<(a52.len:Int))) (ld W51 .sl b26 1 fun a53=>ix a53 4 k50 fun b54 o55=>ld W51 Ki b54 o55 fun n56=>ld W51 Ki b54 (o55+1) fun n57=>ld W51 Ki b54 (o55+2) fun n58=>ld W51 .str b54 (o55+3) fun s59=>al W51 57 [.int .i64 0,.int .i64 0,.int .i64 0,.str []] fun b60 W61=>st W61 b60 0 [.int .i64 n56,.int .i64 n57,.int .i64 n58,.str s59] fun W62=>ld W62 .str b60 3 fun s63=>callK Pg 109 [Au cut49,Au s63] W62 Oi fun n64 W65=>ld W65 Ki b60 0 fun n66=>callK Pg 107 [Az b48,Ai n66] W65 Oz fun a67 W68=>ld W68 Ki b60 1 fun n69=>callK Pg 107 [Az a67,Ai n69] W68 Oz fun a70 W71=>ld W71 Ki b60 2 fun n72=>callK Pg 107 [Az a70,Ai n72] W71 Oz fun a73 W74=>callK Pg 107 [Az a73,Ai n64] W74 Oz fun a75 W76=>ld W76 .str b60 3 fun s77=>callK Pg 107 [Az a75,Ai (w64 ((s77.length:Int)-n64))] W76 Oz fun a78 W79=>ld W79 .str b60 3 fun s80=>ssx s80 (some n64) none fun s81=>opF Pg (builtin .append #[22,9] 22 #[false,false] #[(LV.toV (.sl a78)),(LV.toV (.str s81))]) W79 Oz fun a83 W82=>ld W82 .str b60 3 fun s84=>g47 a83 s84 (w64 (k50+1)) W82) (k46 b48 W51)) [.sl a44,.str [],.int .i64 0] W45) fun b85 W86=>g12 b85 n32 (w64 (i15+1)) W86) (k11 b13 W16)) [.sl a9,.int .i64 (-1),.int .i64 0] W10) fun b87 W88=>K b87 W88):callK Pg 74 [.agg [.int .i64 f_0_1,.sl f_1_2]] w Oz K:=Fq (n:=(n0 .nil (n0 .nil (n0 .nil (n0 .nil (n0 .nil (n0 (n0 .nil (.mk (some [.tmp 3 Ls]) [] [] .done (.mk none [.tmp 3 Ls,.tmp 4 Li,.tmp 5 Li] [1] .done (n0 .nil (n0 (n0 (n0 .nil (n0 .nil (n0 .nil (n0 .nil (n0 .nil (n0 .nil (n0 .nil (n0 .nil (n0 .nil (.mk (some [.tmp 3 Ls]) [] [1,4,5] .done (.mk none [.tmp 3 Ls,.tmp 9 Lt,.tmp 10 Li] [1,4,5,6] .done .nil .nil) .nil)))))))))) .nil) .nil)) .nil) .nil)) .nil))))))) CS_ok mixed Tryz.func74 (Eq.mpr (by kernel_rfl) h)
theorem go_126(f_0_1:Int)(f_1_2:Sl)(K:Int→Wp)(w:World)(h:al w 42 [.int .i64 f_0_1,.sl f_1_2] fun b3 W4=>joinK [Ki] (fun k5=>loopL [Ki,Ki] (fun n7 i8 W9 g6=>ld W9 .sl b3 1 fun a10=>ifK (decide (i8<(a10.len:Int))) (joinK [Ki] (fun k11=>loopL [Ki,Ki] (fun n13 k14 W15 g12=>ld W15 .sl b3 1 fun a16=>ix a16 5 i8 fun b17 o18=>ld W15 .sl b17 (o18+1) fun a19=>ifK (decide (k14<(a19.len:Int))) (ld W15 .sl b3 1 fun a20=>ix a20 5 i8 fun b21 o22=>ld W15 .sl b21 (o22+1) fun a23=>ix a23 4 k14 fun b24 o25=>ld W15 Ki b24 o25 fun n26=>g12 (w64 ((w64 (n13+n26))+5)) (w64 (k14+1)) W15) (k11 n13 W15)) [.int .i64 n7,.int .i64 0] W9) fun n27 W28=>g6 n27 (w64 (i8+1)) W28) (k5 n7 W9)) [.int .i64 0,.int .i64 0] W4) fun n29 W30=>K n29 W30):callK Pg 75 [.agg [.int .i64 f_0_1,.sl f_1_2]] w Oi K:=Fq (n:=(n0 .nil (n0 .nil (n0 (n0 .nil (.mk (some [.tmp 3 Li]) [] [] .done (.mk none [.tmp 3 Li,.tmp 4 Li] [1] .done (n0 .nil (n0 (n0 (n0 .nil (.mk (some [.tmp 3 Li]) [] [1,4] .done (.mk none [.tmp 3 Li,.tmp 5 Li] [1,4] .done .nil .nil) .nil)) .nil) .nil)) .nil) .nil)) .nil)))) CS_ok mixed Tryz.func75 (Eq.mpr (by kernel_rfl) h)
theorem go_129(n1:Int)(K:Int→Wp)(w:World)(h:K (w64 (n1+(w64 (4*(w64 ((w64 ((w64 (n1+4096))-1)).tdiv 4096)))))) w):callK Pg 97 [Ai n1] w Oi K:=Fq (n:=.nil) CS_ok mixed Tryz.func97 (Eq.mpr (by kernel_rfl) h)
theorem go_130(n1:Int)(K:Int→Wp)(w:World)(h:joinK [.bool] (fun k2=>ifK (decide (n1<1)) (k2 true w) (callK Pg 97 [Ai 16777216] w Oi fun n3 W4=>ifK (decide (n3<n1)) (k2 true W4) (ifK (decide (w64 (n1-(w64 (4*(w64 ((w64 ((w64 (n1+4096))+3)).tdiv 4100)))))<1)) (k2 true W4) (ifK (decide (16777216<w64 (n1-(w64 (4*(w64 ((w64 ((w64 (n1+4096))+3)).tdiv 4100))))))) (k2 true W4) (callK Pg 97 [Ai (w64 (n1-(w64 (4*(w64 ((w64 ((w64 (n1+4096))+3)).tdiv 4100))))))] W4 Oi fun n5 W6=>k2 (n5 != n1) W6))))) fun t337 W8=>ifK t337 (K 0 W8) (K (w64 (n1-(w64 (4*(w64 ((w64 ((w64 (n1+4096))+3)).tdiv 4100)))))) W8)):callK Pg 70 [Ai n1] w Oi K:=Fq (n:=(n0 .nil (n0 .nil (n0 .nil (n0 (n0 (.mk (some [.tmp 33 Lb]) [] [4] .done .nil .nil) .nil) .nil))))) CS_ok mixed Tryz.func70 (Eq.mpr (by kernel_rfl) h)
theorem go_131(t_0_1:Int)(t_1_2:Int)(K:Bool→Wp)(w:World)(h:al w 38 [.int .i64 t_0_1,.int .i64 t_1_2] fun b3 W4=>joinK [.bool] (fun k5=>ld W4 Ki b3 0 fun n6=>ifK (decide (n6<0)) (k5 true W4) (ld W4 Ki b3 0 fun n7=>ifK (decide (268435456<n7)) (k5 true W4) (ld W4 Ki b3 1 fun n8=>k5 (decide (n8<0)) W4))) fun t169 W10=>ifK t169 (K false W10) (ld W10 Ki b3 1 fun n11=>callK Pg 70 [Ai n11] W10 Oi fun n12 W13=>K (decide (0<n12)) W13)):callK Pg 48 [.agg [.int .i64 t_0_1,.int .i64 t_1_2]] w Ob K:=Fq (n:=(n0 .nil (n0 (n0 (.mk (some [.tmp 16 Lb]) [] [1] .done .nil .nil) .nil) .nil))) CS_ok mixed Tryz.func48 (Eq.mpr (by kernel_rfl) h)
theorem go_132(b1:Sl)(size2:Int)(K:Int→Int→Int→Wp)(w:World)(h:al w 38 [.int .i64 0,.int .i64 0] fun b3 W4=>ifK ((b1.len:Int) != 24) (st W4 b3 0 [.int .i64 0,.int .i64 0] fun W5=>ld W5 Ki b3 0 fun n6=>ld W5 Ki b3 1 fun n7=>K n6 n7 81 W5) (callK Pg 28 [Az b1] W4 (.tup [Ls,Li]) fun a8 n9 W10=>joinK [.bool] (fun k11=>ifK (n9 != 0) (k11 true W10) (slx a8 1 none (some 4) none fun s12=>opF Pg (vS (convert 22 9 (LV.toV (.sl s12)))) W10 Ot fun s14 W13=>k11 (!(s14==[119,110,119,49])) W13)) fun t2815 W16=>ifK t2815 (st W16 b3 0 [.int .i64 0,.int .i64 0] fun W17=>ld W17 Ki b3 0 fun n18=>ld W17 Ki b3 1 fun n19=>K n18 n19 81 W17) (slx a8 1 (some 4) (some 12) none fun s20=>callK Pg 47 [Az s20] W16 (.one (.leaf (.int .u64))) fun n21 W22=>slx a8 1 (some 12) (some 20) none fun s23=>callK Pg 47 [Az s23] W22 (.one (.leaf (.int .u64))) fun n24 W25=>joinK [.bool] (fun k26=>ifK (decide (268435456<n21)) (k26 true W25) (k26 (decide (1073741824<n24)) W25)) fun t4127 W28=>ifK t4127 (st W28 b3 0 [.int .i64 0,.int .i64 0] fun W29=>ld W29 Ki b3 0 fun n30=>ld W29 Ki b3 1 fun n31=>K n30 n31 81 W29) (al W28 38 [.int .i64 0,.int .i64 0] fun b32 W33=>st W33 b32 0 [.int .i64 (w64 (n21)),.int .i64 (w64 (n24))] fun W34=>ld W34 Ki b32 0 fun n35=>ld W34 Ki b32 1 fun n36=>callK Pg 48 [.agg [.int .i64 n35,.int .i64 n36]] W34 Ob fun c37 W38=>ifK (!c37) (st W38 b3 0 [.int .i64 0,.int .i64 0] fun W39=>ld W39 Ki b3 0 fun n40=>ld W39 Ki b3 1 fun n41=>K n40 n41 81 W39) (ld W38 Ki b32 0 fun n42=>ld W38 Ki b32 1 fun n43=>ifK ((w64 ((w64 (n42+n43))+24)) != size2) (st W38 b3 0 [.int .i64 0,.int .i64 0] fun W44=>ld W44 Ki b3 0 fun n45=>ld W44 Ki b3 1 fun n46=>K n45 n46 82 W44) (ld W38 Ki b32 0 fun n47=>ld W38 Ki b32 1 fun n48=>st W38 b3 0 [.int .i64 n47,.int .i64 n48] fun W49=>ld W49 Ki b3 0 fun n50=>ld W49 Ki b3 1 fun n51=>K n50 n51 0 W49)))))):callK Pg 26 [Az b1,Ai size2] w (.tup [.agg [Ki,Ki],Li]) K:=Fq (n:=(n0 .nil (n0 .nil (n0 .nil (n0 (n0 (.mk (some [.tmp 28 Lb]) [] [1,4,6] .done .nil .nil) .nil) (n0 .nil (n0 .nil (n0 (n0 (.mk (some [.tmp 41 Lb]) [] [1,4,8,9] .done .nil .nil) .nil) .nil)))))))) CS_ok mixed Tryz.func26 (Eq.mpr (by kernel_rfl) h)
theorem go_133(t_0_1:Int)(t_1_2:Int)(K:PA→Int→Wp)(w:World)(h:al w 38 [.int .i64 t_0_1,.int .i64 t_1_2] fun b3 W4=>ld W4 Ki b3 0 fun n5=>ld W4 Ki b3 1 fun n6=>callK Pg 48 [.agg [.int .i64 n5,.int .i64 n6]] W4 Ob fun c7 W8=>ifK (!c7) (K none 81 W8) (ld W8 Ki b3 0 fun n9=>ld W8 Ki b3 1 fun n10=>al W8 149 [.int .i64 n9,.int .i64 n10,.sl (⟨none,0,0⟩),.int .i64 0,.lit false] fun b11 W12=>K (some (b11,0)) 0 W12)):callK Pg 51 [.agg [.int .i64 t_0_1,.int .i64 t_1_2]] w (.tup [Lp,Li]) K:=Fq (n:=.nil) CS_ok mixed Tryz.func51 (Eq.mpr (by kernel_rfl) h)
theorem go_134(d1:PA)(K:Int→Wp)(w:World)(h:drawK w fun D W2=>dr d1 fun b3 o4=>ldD D W2 Ki b3 (o4+1) fun n5=>dr d1 fun b6 o7=>ldD D W2 Ki b6 (o7+3) fun n8=>joinK [Ki] (fun k9=>ifK (decide (4100<w64 (n5-n8))) (k9 4100 W2) (k9 (w64 (n5-n8)) W2)) fun n10 W11=>K n10 W11):callK Pg 52 [Ap d1] w Oi K:=Fq (n:=(n0 .nil (n0 (.mk none [] [] (tk [0,1,2,3,4,5,6,7,8,9,10] .done) .nil .nil) (n0 (n0 .nil (.mk (some [.tmp 3 Li]) [] [] .done .nil .nil)) .nil)))) CS_ok mixed Tryz.func52 (Eq.mpr (by kernel_rfl) h)
theorem go_135(d1:PA)(page2:Sl)(K:Int→Wp)(w:World)(h:ifK d1.isNone (K 1 w) (callK Pg 52 [Ap d1] w Oi fun n3 W4=>joinK [.bool] (fun k5=>dr d1 fun b6 o7=>ld W4 .bool b6 (o7+4) fun c8=>ifK c8 (k5 true W4) (k5 (n3==0) W4)) fun t199 W10=>ifK t199 (dr d1 fun b11 o12=>st W10 b11 (o12+4) [.lit true] fun W13=>K 80 W13) (callK Pg 28 [Az page2] W10 (.tup [Ls,Li]) fun a14 n15 W16=>joinK [.bool] (fun k17=>ifK (n15 != 0) (k17 true W16) (k17 ((page2.len:Int) != n3) W16)) fun t3518 W19=>ifK t3518 (dr d1 fun b20 o21=>st W19 b20 (o21+4) [.lit true] fun W22=>K 80 W22) (dr d1 fun b23 o24=>ld W19 Ki b23 (o24+3) fun n25=>dr d1 fun b26 o27=>st W19 b26 (o27+3) [.int .i64 (w64 (n25+n3))] fun W28=>dr d1 fun b29 o30=>ld W28 .sl b29 (o30+2) fun a31=>ap W28 5 1 1 [.int .u8 0] a31 a14 fun a32 W33=>dr d1 fun b34 o35=>st W33 b34 (o35+2) [.sl a32] fun W36=>K 0 W36)))):callK Pg 53 [Ap d1,Az page2] w Oi K:=Fq (n:=(n0 .nil (n0 .nil (n0 .nil (n0 (n0 (.mk (some [.tmp 19 Lb]) [] [0,1,5] .done .nil .nil) .nil) (n0 .nil (n0 (n0 (.mk (some [.tmp 35 Lb]) [] [0,5,6] .done .nil .nil) .nil) .nil))))))) CS_ok mixed Tryz.func53 (Eq.mpr (by kernel_rfl) h)
theorem go_136(c1:PA)(K:Sl→Wp)(w:World)(h:callK Pg 100 [Ap c1,Ai 262144] w Oi fun n2 W3=>joinK [.sl] (fun k4=>loopL [.sl,.str,Ki] (fun l6 cut7 k8 W9 g5=>joinK [.bool] (fun k10=>ifK (decide (k8<n2)) (callK Pg 101 [Ap c1] W9 Oi fun n11 W12=>k10 (decide (0<n11)) W12) (k10 false W9)) fun t1813 W14=>ifK t1813 (al W14 57 [.int .i64 0,.int .i64 0,.int .i64 0,.str []] fun b15 W16=>callK Pg 100 [Ap c1,Ai 65536] W16 Oi fun n17 W18=>st W18 b15 0 [.int .i64 n17] fun W19=>callK Pg 100 [Ap c1,Ai 65536] W19 Oi fun n20 W21=>st W21 b15 1 [.int .i64 n20] fun W22=>callK Pg 100 [Ap c1,Ai 65536] W22 Oi fun n23 W24=>st W24 b15 2 [.int .i64 n23] fun W25=>callK Pg 100 [Ap c1,Ai (cut7.length:Int)] W25 Oi fun n26 W27=>drawK W27 fun D W28=>ssx cut7 none (some n26) fun s29=>callK Pg 102 [Ap c1,Ai 64] W28 Ot fun s30 W31=>Mod D W28 W31∧s29.length+s30.length<2^62∧st W31 b15 3 [.str (s29++s30)] fun W32=>ld W32 .str b15 3 fun s33=>ld W32 Ki b15 0 fun n34=>ld W32 Ki b15 1 fun n35=>ld W32 Ki b15 2 fun n36=>ld W32 .str b15 3 fun s37=>al W32 57 [.int .i64 n34,.int .i64 n35,.int .i64 n36,.str s37] fun b38 W39=>ap W39 57 4 40 [.int .i64 0,.int .i64 0,.int .i64 0,.str []] l6 (⟨some (b38,0),1,1⟩) fun a40 W41=>g5 a40 s33 (w64 (k8+1)) W41) (k4 l6 W14)) [.sl (⟨none,0,0⟩),.str [],.int .i64 0] W3) fun l42 W43=>K l42 W43):callK Pg 104 [Ap c1] w Oz K:=Fq (n:=(n0 .nil (n0 .nil (n0 .nil (n0 .nil (n0 (n0 .nil (.mk (some [.tmp 3 Ls]) [] [] .done (.mk none [.tmp 3 Ls,.tmp 5 Lt,.tmp 6 Li] [0,4] .done (n0 (n0 (.mk (some [.tmp 18 Lb]) [] [0,3,4,5,6] .done .nil .nil) .nil) (n0 (n0 (n0 .nil (n0 .nil (n0 .nil (n0 .nil (n0 .nil (n0 (.mk none [] [] (tk [0,1,2,3] (.eff 4 (.take 5 (.take 6 (.last 7))))) .nil .nil) .nil)))))) .nil) .nil)) .nil) .nil)) .nil)))))) CS_ok mixed Tryz.func104 (Eq.mpr (by kernel_rfl) h)
theorem go_137(body1:Sl)(K:Int→Sl→Wp)(w:World)(h:al w 42 [.int .i64 0,.sl (⟨none,0,0⟩)] fun b2 W3=>callK Pg 99 [Az body1] W3 Oq fun p4 W5=>callK Pg 100 [Ap p4,Ai 65535] W5 Oi fun n6 W7=>al W7 42 [.int .i64 0,.sl (⟨none,0,0⟩)] fun b8 W9=>st W9 b8 0 [.int .i64 n6,.sl (⟨none,0,0⟩)] fun W10=>callK Pg 100 [Ap p4,Ai 65535] W10 Oi fun n11 W12=>joinK [] (fun k13=>loopL [Ki,Ki] (fun last15 i16 W17 g14=>joinK [.bool] (fun k18=>ifK (decide (i16<n11)) (callK Pg 101 [Ap p4] W17 Oi fun n19 W20=>k18 (decide (0<n19)) W20) (k18 false W17)) fun t2421 W22=>ifK t2421 (callK Pg 100 [Ap p4,Ai 65535] W22 Oi fun n23 W24=>al W24 54 [.int .i64 0,.sl (⟨none,0,0⟩),.lit false,.int .i64 0,.sl (⟨none,0,0⟩)] fun b25 W26=>st W26 b25 0 [.int .i64 (w64 ((w64 (last15+1))+n23)),.sl (⟨none,0,0⟩),.lit false,.int .i64 0,.sl (⟨none,0,0⟩)] fun W27=>callK Pg 102 [Ap p4,Ai (body1.len:Int)] W27 Ot fun s28 W29=>opF Pg (vS (convert 9 22 (LV.toV (.str s28)))) W29 Oz fun a31 W30=>callK Pg 103 [Az a31] W30 (.tup [.agg [.bool,Ki,.sl],Li]) fun c32 n33 a34 n35 W36=>st W36 b25 2 [.bool c32,.int .i64 n33,.sl a34] fun W37=>callK Pg 104 [Ap p4] W37 Oz fun a38 W39=>st W39 b25 1 [.sl a38] fun W40=>ld W40 Ki b25 0 fun n41=>ld W40 .sl b8 1 fun a42=>ld W40 Ki b25 0 fun n43=>ld W40 .sl b25 1 fun a44=>ld W40 .bool b25 2 fun c45=>ld W40 Ki b25 3 fun n46=>ld W40 .sl b25 4 fun a47=>al W40 54 [.int .i64 n43,.sl a44,.bool c45,.int .i64 n46,.sl a47] fun b48 W49=>ap W49 54 5 72 [.int .i64 0,.sl (⟨none,0,0⟩),.lit false,.int .i64 0,.sl (⟨none,0,0⟩)] a42 (⟨some (b48,0),1,1⟩) fun a50 W51=>st W51 b8 1 [.sl a50] fun W52=>g14 n41 (w64 (i16+1)) W52) (k13 W22)) [.int .i64 (-1),.int .i64 0] W12) fun W53=>ld W53 Ki b8 0 fun n54=>ld W53 .sl b8 1 fun a55=>st W53 b2 0 [.int .i64 n54,.sl a55] fun W56=>ld W56 Ki b2 0 fun n57=>ld W56 .sl b2 1 fun a58=>K n57 a58 W56):callK Pg 72 [Az body1] w (.one (.agg [Ki,.sl])) K:=Fq (n:=(n0 .nil (n0 .nil (n0 .nil (n0 .nil (n0 .nil (n0 (n0 .nil (.mk (some []) [] [2,4] .done (.mk none [.tmp 6 Li,.tmp 7 Li] [0,2,3,4,5] .done (n0 (n0 (.mk (some [.tmp 24 Lb]) [] [0,2,3,4,5,6,7] .done .nil .nil) .nil) .nil) .nil) .nil)) .nil))))))) CS_ok mixed Tryz.func72 (Eq.mpr (by kernel_rfl) h)
theorem go_138(d1:PA)(K:Int→Sl→Int→Wp)(w:World)(h:al w 42 [.int .i64 0,.sl (⟨none,0,0⟩)] fun b2 W3=>ifK d1.isNone (st W3 b2 0 [.int .i64 0,.sl (⟨none,0,0⟩)] fun W4=>ld W4 Ki b2 0 fun n5=>ld W4 .sl b2 1 fun a6=>K n5 a6 1 W4) (joinK [.bool] (fun k7=>drawK W3 fun D W8=>dr d1 fun b9 o10=>ldD D W8 .bool b9 (o10+4) fun c11=>ifK c11 (k7 true W8) (dr d1 fun b12 o13=>ldD D W8 Ki b12 (o13+3) fun n14=>dr d1 fun b15 o16=>ldD D W8 Ki b15 (o16+1) fun n17=>k7 (decide (n14<n17)) W8)) fun t2318 W19=>ifK t2318 (st W19 b2 0 [.int .i64 0,.sl (⟨none,0,0⟩)] fun W20=>ld W20 Ki b2 0 fun n21=>ld W20 .sl b2 1 fun a22=>K n21 a22 80 W20) (dr d1 fun b23 o24=>ld W19 .sl b23 (o24+2) fun a25=>callK Pg 72 [Az a25] W19 (.one (.agg [Ki,.sl])) fun n26 a27 W28=>al W28 42 [.int .i64 0,.sl (⟨none,0,0⟩)] fun b29 W30=>st W30 b29 0 [.int .i64 n26,.sl a27] fun W31=>joinK [.bool] (fun k32=>drawK W31 fun D W33=>ldD D W33 Ki b29 0 fun n34=>ldD D W33 .sl b29 1 fun a35=>callK Pg 73 [.agg [.int .i64 n34,.sl a35]] W33 Oi fun n36 W37=>Mod D W33 W37∧ifK (n36 != 0) (k32 true W37) (ldD D W33 Ki b29 0 fun n38=>ldD D W33 .sl b29 1 fun a39=>dr d1 fun b40 o41=>ldD D W33 .sl b40 (o41+2) fun a42=>(callK Pg 74 [.agg [.int .i64 n38,.sl a39]] W37 Oz fun a43 W44=>Mod D W33 W44∧(opF Pg (vS (convert 22 9 (LV.toV (.sl a43)))) W44 Ot fun s46 W45=>Mod D W33 W45∧opF Pg (vS (convert 22 9 (LV.toV (.sl a42)))) W45 Ot fun s48 W47=>Mod D W33 W47∧ifK (!(s46==s48)) (k32 true W47) (ldD D W33 Ki b29 0 fun n49=>ldD D W33 .sl b29 1 fun a50=>dr d1 fun b51 o52=>ldD D W33 Ki b51 o52 fun n53=>callK Pg 75 [.agg [.int .i64 n49,.sl a50]] W47 Oi fun n54 W55=>Mod D W33 W55∧k32 (n54 != n53) W55))∧(opF Pg (vS (convert 22 9 (LV.toV (.sl a42)))) W44 Ot fun s57 W56=>Mod D W33 W56∧opF Pg (vS (convert 22 9 (LV.toV (.sl a43)))) W56 Ot fun s59 W58=>Mod D W33 W58∧ifK (!(s59==s57)) (k32 true W58) (ldD D W33 Ki b29 0 fun n60=>ldD D W33 .sl b29 1 fun a61=>dr d1 fun b62 o63=>ldD D W33 Ki b62 o63 fun n64=>callK Pg 75 [.agg [.int .i64 n60,.sl a61]] W58 Oi fun n65 W66=>Mod D W33 W66∧k32 (n65 != n64) W66)))∧(opF Pg (vS (convert 22 9 (LV.toV (.sl a42)))) W37 Ot fun s68 W67=>Mod D W33 W67∧callK Pg 74 [.agg [.int .i64 n38,.sl a39]] W67 Oz fun a69 W70=>Mod D W33 W70∧opF Pg (vS (convert 22 9 (LV.toV (.sl a69)))) W70 Ot fun s72 W71=>Mod D W33 W71∧ifK (!(s72==s68)) (k32 true W71) (ldD D W33 Ki b29 0 fun n73=>ldD D W33 .sl b29 1 fun a74=>dr d1 fun b75 o76=>ldD D W33 Ki b75 o76 fun n77=>callK Pg 75 [.agg [.int .i64 n73,.sl a74]] W71 Oi fun n78 W79=>Mod D W33 W79∧k32 (n78 != n77) W79)))) fun t5380 W81=>ifK t5380 (st W81 b2 0 [.int .i64 0,.sl (⟨none,0,0⟩)] fun W82=>ld W82 Ki b2 0 fun n83=>ld W82 .sl b2 1 fun a84=>K n83 a84 80 W82) (ld W81 Ki b29 0 fun n85=>ld W81 .sl b29 1 fun a86=>st W81 b2 0 [.int .i64 n85,.sl a86] fun W87=>ld W87 Ki b2 0 fun n88=>ld W87 .sl b2 1 fun a89=>K n88 a89 0 W87)))):callK Pg 54 [Ap d1] w (.tup [.agg [Ki,.sl],Li]) K:=Fq (n:=(n0 .nil (n0 .nil (n0 (n0 (.mk (some [.tmp 23 Lb]) [] [0,2] (tk [0,1,2,3,4] (.split 4 (.take 5 (.take 6 (.take 7 (.take 8 (.take 9 (.take 10 (.take 11 (.take 12 (.take 13 (.take 14 (.take 15 .done))))))))))) (.take 5 (.take 6 (.take 7 (.take 8 (.take 9 (.take 10 (.take 11 (.take 12 (.take 13 (.take 14 (.take 15 .done))))))))))))) .nil .nil) .nil) (n0 .nil (n0 (n0 (.mk (some [.tmp 53 Lb]) [] [2,4] (.take 0 (.eff 1 (.take 2 (.take 3 (.split 3 (tk [4,5,6,7,8,9,10,11,12,13,14,15,16,17,18,19,20,21,22,23] .done) (tk [4,7,8,9,10] (.two 5 (.two 6 (.eff 11 (.take 12 (.take 13 (.take 14 (.split 14 (.take 15 (.take 16 (.take 17 (.take 18 (.take 19 (.take 20 (.take 21 (.take 22 (.take 23 .done))))))))) (.take 15 (.take 17 (.take 18 (.take 19 (.take 20 (.take 21 (.eff 16 (.take 22 (.take 23 .done)))))))))))))) 11 (.eff 6 (.take 12 (.take 13 (.take 14 (.split 14 (.take 15 (.take 16 (.take 17 (.take 18 (.take 19 (.take 20 (.take 21 (.take 22 (.take 23 .done))))))))) (.take 15 (.take 17 (.take 18 (.take 19 (.take 20 (.take 21 (.eff 16 (.take 22 (.take 23 .done))))))))))))))) 11 (.eff 5 (.eff 6 (.take 12 (.take 13 (.take 14 (.split 14 (.take 15 (.take 16 (.take 17 (.take 18 (.take 19 (.take 20 (.take 21 (.take 22 (.take 23 .done))))))))) (.take 15 (.take 17 (.take 18 (.take 19 (.take 20 (.take 21 (.eff 16 (.take 22 (.take 23 .done)))))))))))))))))))))) .nil .nil) .nil) .nil)))))) CS_ok mixed Tryz.func54 (Eq.mpr (by kernel_rfl) h)
def rightD(b:BI):Bool:=decide (1≤b.stored∧b.stored≤65536∧1≤b.raw∧b.raw≤65536∧b.raw≤64*b.stored∧1≤b.count∧b.count≤b.raw∧b.cut.length≤64)
theorem rightB_D(b:BI)(last:Str):rightB b last=(rightD b&&decide (0≤cmpN b.cut last)):=by
 unfold rightB rightD;rw [Bei,Bat,Det,Det,Det];constructor
 ·rintro ⟨h1,h2,h3,h4,h5,h6,h7,h8,h9⟩;exact⟨⟨h1,h2,h3,h4,h5,h6,h7,h8⟩,h9⟩
 ·rintro ⟨⟨h1,h2,h3,h4,h5,h6,h7,h8⟩,h9⟩;exact⟨h1,h2,h3,h4,h5,h6,h7,h8,h9⟩
theorem rBlockRight_ok{w:World}{x:BI}{K:Bool→Wp}(hK:∀w',Mod F0 w w'→K (rightD x) w') :
  callK Pg c_124 [.agg [.int .i64 x.stored,.int .i64 x.raw,.int .i64 x.count,.str x.cut]] w Ob K:=by
 refine go_124 _ _ _ _ _ _ ?_;refine (At.init w F0).alK fun b w1 _ h1 _=>?_;have hB:Blk w1 b (EBI.f x):=h1.blk (i:=0) rfl;have l0:∀{K:Int→Prop},K x.stored→Go.Vw.ld w1 Ki b 0 K:=fun hK=>hB.ldK (k:=Ki) x.stored rfl hK;have l1:∀{K:Int→Prop},K x.raw→Go.Vw.ld w1 Ki b 1 K:=fun hK=>hB.ldK (k:=Ki) x.raw rfl hK;have l2:∀{K:Int→Prop},K x.count→Go.Vw.ld w1 Ki b 2 K:=fun hK=>hB.ldK (k:=Ki) x.count rfl hK;have l3:∀{K:Str→Prop},K x.cut→Go.Vw.ld w1 .str b 3 K:=fun hK=>hB.ldK (k:=.str) x.cut rfl hK;have hK:=hK w1 h1.mod;unfold rightD at hK;refine join1 (a:=.bool) (fun q u=>q=decide (¬(1≤x.stored∧x.stored≤65536∧1≤x.raw∧x.raw≤65536∧x.raw≤64*x.stored))∧u=w1) ?_ ?_
 ·intro k hk;have no:(¬(1≤x.stored∧x.stored≤65536∧1≤x.raw∧x.raw≤65536∧x.raw≤64*x.stored))→k true w1:=fun h=>hk _ _ ⟨(Dct h).symm,rfl⟩;refine l0 (Iq (fun q=>no ?_) fun q1=>l0 (Iq (fun q=>no ?_) fun q2=>l1 (Iq (fun q=>no ?_) fun q3=>l1 (Iq (fun q=>no ?_) fun q4=>l1 (l0 ?_)))))
  ·have q:x.stored<1:=odt q;omega
  ·have q:65536<x.stored:=odt q;omega
  ·have q:x.raw<1:=odt q;omega
  ·have q:65536<x.raw:=odt q;omega
  ·have q1:¬x.stored<1:=odf q1;have q2:¬65536<x.stored:=odf q2;have q3:¬x.raw<1:=odf q3;have q4:¬65536<x.raw:=odf q4;rw [Wq (by omega) (by omega)];refine hk _ _ ⟨?_,rfl⟩;rw [Bei,Det,Det];omega
 rintro q u ⟨rfl,rfl⟩;refine Iq (fun q=>?_) fun q=>?_
 ·have q:=odt q;rw [Dcf (fun h=>q ⟨h.1,h.2.1,h.2.2.1,h.2.2.2.1,h.2.2.2.2.1⟩)] at hK;exact hK
 have q:=Decidable.not_not.1 (odf q);refine join1 (a:=.bool) (fun y v=>y=decide (1≤x.count∧x.count≤x.raw∧x.cut.length≤64)∧v=u) ?_ ?_
 ·intro k hk;refine l2 (Iq (fun q1=>l2 (l1 (Iq (fun q2=>l3 (hk _ _ ⟨?_,rfl⟩)) fun q2=>hk _ _ ⟨?_,rfl⟩))) fun q1=>hk _ _ ⟨?_,rfl⟩)
  ·have q1:1≤x.count:=odt q1;have q2:x.count≤x.raw:=odt q2;show decide ((x.cut.length:Int)≤64)=_;rw [Bei,Det,Det];omega
  ·have q2:¬x.count≤x.raw:=odf q2;exact (Dcf fun h=>q2 h.2.1).symm
  ·have q1:¬1≤x.count:=odf q1;exact (Dcf fun h=>q1 h.1).symm
 rintro y v ⟨rfl,rfl⟩;have e:decide (1≤x.stored∧x.stored≤65536∧1≤x.raw∧x.raw≤65536∧x.raw≤64*x.stored∧1≤x.count∧x.count≤x.raw∧x.cut.length≤64)=decide (1≤x.count∧x.count≤x.raw∧x.cut.length≤64):=by
  rw [Bei,Det,Det];exact⟨fun h=>h.2.2.2.2.2,fun h=>⟨q.1,q.2.1,q.2.2.1,q.2.2.2.1,q.2.2.2.2,h⟩⟩
 rw [e] at hK;exact hK
def totB(l:List PartI):Nat:=(l.map fun x=>x.blocks.length).sum
def chkX(parts:Int):List PartI→Int→Bool
 | [],_=>true
 | x::r,last=>decide (last<x.part∧x.part<parts∧x.blocks.length≠0∧kindN x.flt.all x.flt.hashes x.flt.data.length≠0)&&chkB x.blocks []&&chkX parts r x.part
theorem chkI_X(parts:Int):∀(l:List PartI) (last:Int) (n:Nat),n≤262144→chkI parts l last n=(chkX parts l last&&decide (n+totB l≤262144))
 | [],_,n,hn=>by
  show true=(true&&decide (n+0≤262144));rw [Dct (by omega)];rfl
 | x::r,last,n,hn=>by
  rw [chkI,chkX];have et:totB (x::r)=x.blocks.length+totB r:=rfl;rw [et];by_cases h:n+x.blocks.length≤262144
  ·rw [chkI_X parts r x.part _ h];have e:rightP parts last n x=decide (last<x.part∧x.part<parts∧x.blocks.length≠0∧kindN x.flt.all x.flt.hashes x.flt.data.length≠0):=by
    unfold rightP;rw [Bei,Det,Det];exact⟨fun q=>⟨q.1,q.2.1,q.2.2.1,q.2.2.2.2⟩,fun q=>⟨q.1,q.2.1,q.2.2.1,h,q.2.2.2⟩⟩
   rw [e,Nat.add_assoc,Bool.and_assoc,Bool.and_assoc,Bool.and_assoc]
  ·have e1:rightP parts last n x=false:=Dcf fun q=>h q.2.2.2.1;rw [e1,Dcf (by omega:¬n+(x.blocks.length+totB r)≤262144)];simp
def keyOk(g:BI):Option Str→Bool
 | some c=>!decide (cmpN g.cut c<0)
 | none=>true
def chkP:List BI→Option Str→Bool
 | [],_=>true
 | b::r,k=>(rightD b&&keyOk b k)&&chkP r (some b.cut)
theorem chkP_some:∀(l:List BI) (k:Str),chkP l (some k)=chkB l k
 | [],_=>rfl
 | b::r,k=>by
  rw [chkP,chkB_cons,rightB_D,chkP_some r b.cut];have e:(!decide (cmpN b.cut k<0))=decide (0≤cmpN b.cut k):=by
   rw [Bei,Bool.not_eq_true',decide_eq_false_iff_not,Det];omega
  simp only [keyOk,e]
theorem chkP_none(l:List BI):chkP l none=chkB l []:=by
 cases l with
 | nil=>rfl
 | cons b r=>
  rw [chkP,chkB_cons,rightB_D,chkP_some r b.cut];have e:decide (0≤cmpN b.cut [])=true:=by
   apply Dct
   cases b.cut with
   | nil=>exact Int.le_refl _
   | cons=>show (0:Int)≤1;decide
  simp only [keyOk,e]
set_option maxHeartbeats 2000000 in
theorem rCheck_ok{w:World}{S:Nat→Prop}{s:Sl}{ps:List PI}{l:List PartI}(h:FootR w S s ps l)(hll:l.length≤65535)(hlb:∀x∈l,x.blocks.length≤262144){parts:Int}{K:Int→Wp}(hK:∀w',Mod F0 w w'→K (if chkF parts l=true then 0 else 80) w') :
  callK Pg c_125 [.agg [.int .i64 parts,.sl s]] w Oi K:=by
 refine go_125 _ _ _ _ ?_;refine (Fresh.start w F0).alK fun b3 w1 f1 _ M1=>?_;have hB:Blk w1 b3 [.int .i64 parts,(LV.sl s).toV]:=f1.blk (i:=0) rfl;refine join1 (a:=.bool) (fun q v=>q=decide (¬(1≤parts∧parts≤65535))∧v=w1) ?_ ?_
 ·intro k hk;refine hB.ldK (k:=Ki) parts rfl (Iq (fun q=>hk _ _ ⟨?_,rfl⟩) fun q=>hB.ldK (k:=Ki) parts rfl (hk _ _ ⟨?_,rfl⟩))
  ·have q:parts<1:=odt q;exact (Dct (by omega)).symm
  ·have q:¬parts<1:=odf q;show decide (65535<parts)=_;rw [Bei,Det,Det];omega
 rintro q v ⟨rfl,rfl⟩;unfold chkF at hK;refine Iq (fun q=>?_) fun q=>?_
 ·have q:¬(1≤parts∧parts≤65535):=odt q;rw [Dcf q,Bool.false_and] at hK;exact hK v M1
 have q:(1≤parts∧parts≤65535):=Decidable.not_not.1 (odf q);rw [Dct q,Bool.true_and,chkI_X parts l (-1) 0 (Nzl _),Nat.zero_add] at hK;have hb:∀u,Mod F0 v u→chkX parts l (-1)=false→K 80 u:=fun u hM e=>by
  have:=hK u (mod0 M1 hM);rw [e,Bool.false_and,if_neg (by decide)] at this;exact this
 refine join1 (a:=Ki) (fun (n:Int) u=>n=(totB l:Int)∧chkX parts l (-1)=true∧Mod F0 v u) ?_ ?_;rotate_left
 ·rintro n u ⟨rfl,e,hM⟩;have hK:=hK u (mod0 M1 hM);rw [e,Bool.true_and] at hK;refine Iq (fun q=>?_) fun q=>?_
  ·have q:(262144:Int)<(totB l:Int):=odt q;rw [if_neg (by rw [Det];omega)] at hK;exact hK
  ·have q:¬(262144:Int)<(totB l:Int):=odf q;rw [if_pos (by rw [Det];omega)] at hK;exact hK
 intro k10 hk10;have h1:=h.quiet M1;refine loop3 (k1:=Ki) (k2:=Ki) (k3:=Ki) (fun (bs last t:Int) u=>∃i n:Nat,t=(i:Int)∧bs=(n:Int)∧i≤l.length∧n≤262144*i∧n+totB (l.drop i)=totB l∧chkX parts l (-1)=chkX parts (l.drop i) last∧Mod F0 v u) (fun _ _ t _=>(l.length-t).toNat) (x1:=0) (x2:=-1) (x3:=0) rfl rfl rfl
  ⟨0,0,rfl,rfl,Nzl _,Nzl _,by simp,rfl,Mod.refl _ _⟩ ?_
 rintro bs last t u ⟨i,n,rfl,rfl,hi,hn,htot,he,hM⟩;change Int at last;have hBu:Blk u b3 [.int .i64 parts,(LV.sl s).toV]:=hM.blk hB id;refine hBu.ldK (k:=.sl) s rfl ?_;rw [h.rd.len,h.len];refine Iq (fun q2=>?_) fun q2=>?_;rotate_left
 ·have q2:l.length≤i:=dge q2;rw [Ldn q2] at he htot;exact hk10 _ u ⟨by rw [←htot];rfl,he,hM⟩
 have q2:i<l.length:=dlt q2;obtain⟨x,hx⟩:=Gq q2;obtain⟨p,hp⟩:=Gq (l:=ps) (i:=i) (by rw [h.len];exact q2);have hu:=h1.quiet hM;have hi1:=h1.each i p x hp hx;have hxb:=hlb x (Lmg hx);rw [Dg hx,chkX] at he;have etot:totB (x::l.drop (i+1))=x.blocks.length+totB (l.drop (i+1)):=rfl;rw [Dg hx,etot] at htot;refine hBu.ldK (k:=.sl) s rfl ?_;refine hu.rd.ix rfl rfl hp fun b o _ hc=>Lq (k:=Ki) p.part (hc 0 (by decide)) (Lq (k:=.sl) p.sb (hc 1 (by decide)) (Lq (k:=.bool) p.all (hc 2 (by decide)) (Lq (k:=Ki) p.hashes (hc 3 (by decide)) (Lq (k:=.sl) p.sd (hc 4 (by decide)) ?_))));refine (Fresh.start u F0).alst (by rfl) fun b25 u2 f3 _ M2'=>?_;have hB2:Blk u2 b25 (EPI.f p):=f3.blk (i:=0) rfl;have M2:=mod0 hM M2';have l0:∀{K:Int→Prop},K x.part→Go.Vw.ld u2 Ki b25 0 K:=fun hK=>hB2.ldK (k:=Ki) p.part rfl (by rw [hi1.part];exact hK);have l1:∀{z:World} {K:Sl→Prop},Mod F0 u2 z→K p.sb→Go.Vw.ld z .sl b25 1 K:=fun hM hK=>(hM.blk hB2 id).ldK (k:=.sl) p.sb rfl hK;have hbl:=hi1.bl.len;have hB0:Blk u2 b3 [.int .i64 parts,(LV.sl s).toV]:=M2.blk hB id;refine join1 (a:=.bool) (fun q z=>q=decide (¬(last<x.part∧x.part<parts∧x.blocks.length≠0∧kindN x.flt.all x.flt.hashes x.flt.data.length≠0))∧Mod F0 u2 z) ?_ ?_
 ·intro k hk;have no:(¬(last<x.part∧x.part<parts∧x.blocks.length≠0∧kindN x.flt.all x.flt.hashes x.flt.data.length≠0))→k true u2:=fun h=>hk _ _ ⟨(Dct h).symm,Mod.refl _ _⟩;refine l0 (Iq (fun q=>no ?_) fun r1=>l0 (hB0.ldK (k:=Ki) parts rfl (Iq (fun q=>no ?_) fun r2=>l1 (Mod.refl _ _) ?_)))
  ·have q:x.part≤last:=odt q;intro h;omega
  ·have q:parts≤x.part:=odt q;intro h;omega
  have r1:¬x.part≤last:=odf r1;have r2:¬parts≤x.part:=odf r2;rw [hbl];refine Iq (fun q=>no ?_) fun r3=>?_
  ·have q:x.blocks.length=0:=by
    have:((x.blocks.length:Int)=0):=by simpa using q
    omega
   exact fun h=>h.2.2.1 q
  have r3:x.blocks.length≠0:=by
   intro e;rw [e] at r3;exact absurd r3 (by decide)
  refine hB2.ldK (k:=.bool) p.all rfl (hB2.ldK (k:=Ki) p.hashes rfl (hB2.ldK (k:=.sl) p.sd rfl ?_));rw [hi1.all,hi1.hs];refine rFCheck_ok hi1.dt.len fun z hz=>hk _ _ ⟨?_,hz⟩;by_cases hk0:kindN x.flt.all x.flt.hashes x.flt.data.length=0
  ·rw [if_pos hk0];refine (Dct ?_).symm;exact fun h=>h.2.2.2 hk0
  ·rw [if_neg hk0];exact (Dcf fun h=>h ⟨by omega,by omega,r3,hk0⟩).symm
 rintro q z ⟨rfl,hz⟩;have hMz:=mod0 M2 hz;refine Iq (fun q=>?_) fun q=>?_
 ·have q:=odt q;rw [Dcf q,Bool.false_and,Bool.false_and] at he;exact hb z hMz he
 have q:=Decidable.not_not.1 (odf q);rw [Dct q,Bool.true_and] at he;have hBz:=hz.blk hB2 id;refine hBz.ldK (k:=Ki) p.part rfl (l1 hz ?_);rw [hbl,hi1.part];refine join0 (fun y=>chkB x.blocks []=true∧Mod F0 z y) ?_ ?_;rotate_left
 ·rintro y ⟨e,hy⟩;rw [e,Bool.true_and] at he;have en:w64 ((n:Int)+(x.blocks.length:Int))=((n+x.blocks.length:Nat):Int):=by rw [Wq (by omega) (by omega)];omega
  rw [en,step64 (by omega)];exact⟨⟨i+1,n+x.blocks.length,rfl,rfl,by omega,by omega,by omega,he,mod0 hMz hy⟩,by omega⟩
 intro k42 hk42;have hbb:∀y,Mod F0 z y→chkB x.blocks []=false→K 80 y:=fun y hy e=>by
  rw [e,Bool.false_and] at he;exact hb y (mod0 hMz hy) he
 refine loop1 (k:=Ki) (fun (t:Int) y=>∃(j:Nat) (key:Option Str),t=(j:Int)∧j≤x.blocks.length∧chkP x.blocks none=chkP (x.blocks.drop j) key∧(key=match j with | 0=>none | k+1=>(x.blocks[k]?).map BI.cut)∧Mod F0 z y) (fun t _=>(x.blocks.length-t).toNat) (x:=0) rfl ⟨0,none,rfl,Nzl _,rfl,rfl,Mod.refl _ _⟩ ?_
 rintro t y ⟨j,key,rfl,hj,hcb,hkey,hy⟩;have hzy:=mod0 hz hy;refine l1 hzy ?_;rw [hbl];refine Iq (fun q3=>?_) fun q3=>?_;rotate_left
 ·have q3:x.blocks.length≤j:=dge q3;rw [Ldn q3,chkP_none] at hcb;exact hk42 y ⟨hcb,hy⟩
 have q3:j<x.blocks.length:=dlt q3;obtain⟨g,hg⟩:=Gq q3;have e9:chkP (g::x.blocks.drop (j+1)) key=((rightD g&&keyOk g key)&&chkP (x.blocks.drop (j+1)) (some g.cut)):=rfl;rw [Dg hg,e9] at hcb;have hry:=(hi1.bl.quiet (mod0 hM (mod0 M2' hzy)));have hrdB:RdS y EBI p.sb x.blocks:=(h.quiet (mod0 M1 (mod0 hMz hy))).each i p x hp hx |>.bl;refine l1 hzy (hrdB.ix rfl rfl hg fun b o _ hc=>Lq (k:=Ki) g.stored (hc 0 (by decide)) (Lq (k:=Ki) g.raw (hc 1 (by decide)) (Lq (k:=Ki) g.count (hc 2 (by decide)) (Lq (k:=.str) g.cut (hc 3 (by decide)) ?_))));refine rBlockRight_ok fun y2 M3=>?_;have hy2:=mod0 hy M3;refine join1 (a:=.bool) (fun q y'=>q=(!(rightD g&&keyOk g key))∧Mod F0 z y') ?_ ?_
 ·intro k hk;have hyd:=mod0 hy2 (Mq y2);have hzd:=mod0 hz hyd;have hBd:=hzd.blk hB2 id;have hrd:RdS y2.drew EBI p.sb x.blocks:=(h.quiet (mod0 M1 (mod0 hMz hyd))).each i p x hp hx |>.bl;refine⟨F0,Iq (fun r=>hk _ _ ⟨?_,hyd⟩) fun r=>Iq (fun r2=>?_) fun r2=>hk _ _ ⟨?_,hyd⟩⟩
  ·have r:rightD g=false:=by simpa using r
   rw [r];rfl
  ·have r:rightD g=true:=by simpa using r
   have r2:(0:Int)<(j:Int):=odt r2;obtain⟨j',rfl⟩:∃j',j=j'+1:=⟨j-1,by omega⟩;obtain⟨g',hg'⟩:=Gq (l:=x.blocks) (i:=j') (by omega);have hkey:key=(x.blocks[j']?).map BI.cut:=hkey;have hkey:key=some g'.cut:=by rw [hkey,hg'];rfl
   have ej:w64 (((j'+1:Nat):Int)-1)=(j':Int):=by rw [Wq (by omega) (by omega)];omega
   refine hBd.ldDK (k:=.sl) p.sb id rfl (hrd.ix rfl rfl hg fun b o _ hc=>Lw (k:=.str) g.cut id (hc 3 (by decide)) (hBd.ldDK (k:=.sl) p.sb id rfl (hrd.ix rfl ej hg' fun b2 o2 _ hc2=>Lw (k:=.str) g'.cut id (hc2 3 (by decide)) (hk _ _ ⟨?_,hyd⟩))));show Op.bytesLess g.cut g'.cut=_;rw [bytesLess_cmp,r,hkey,Bool.true_and];simp only [keyOk,Bool.not_not]
  ·have r:rightD g=true:=by simpa using r
   have r2:¬(0:Int)<(j:Int):=odf r2;have:j=0:=by omega
   subst this;have hkey:key=none:=hkey;rw [r,hkey];rfl
 rintro q y' ⟨rfl,hy'⟩;generalize (rightD g&&keyOk g key)=ok at hcb ⊢;refine Iq (fun r=>?_) fun r=>?_
 ·have r:ok=false:=by simpa using r
  rw [r,Bool.false_and,chkP_none] at hcb;exact hbb y' hy' hcb
 ·have r:ok=true:=by simpa using r
  rw [r,Bool.true_and] at hcb;rw [step64 (by omega)];exact⟨⟨j+1,some g.cut,rfl,by omega,hcb,by show _=(x.blocks[j]?).map BI.cut;rw [hg];rfl,hy'⟩,by omega⟩
set_option maxHeartbeats 1000000 in
theorem rSpace_ok{w:World}{S:Nat→Prop}{s:Sl}{ps:List PI}{l:List PartI}(h:FootR w S s ps l){parts:Int}{last:Int}(hc:chkI parts l last 0=true){K:Int→Wp}(hK:∀w',Mod F0 w w'→K (spI l) w') :
  callK Pg c_126 [.agg [.int .i64 parts,.sl s]] w Oi K:=by
 refine go_126 _ _ _ _ ?_;refine (Fresh.start w F0).alK fun b3 w1 f1 _ M1=>?_;have hB:Blk w1 b3 [.int .i64 parts,(LV.sl s).toV]:=f1.blk (i:=0) rfl;have hll:=h.ll;refine join1 (a:=Ki) (fun (n:Int) u=>n=spI l∧Mod F0 w1 u) ?_ (by rintro n u ⟨rfl,hM⟩;exact hK u (mod0 M1 hM));intro k5 hk5;refine loop2 (k1:=Ki) (k2:=Ki) (fun (n t:Int) u=>∃(i m:Nat) (la:Int),t=(i:Int)∧i≤l.length∧m≤262144∧0≤n∧n≤65541*m∧chkI parts (l.drop i) la m=true∧spI l=n+spI (l.drop i)∧Mod F0 w1 u) (fun _ t _=>(l.length-t).toNat) (x1:=0) (x2:=0) rfl rfl
  ⟨0,0,last,rfl,Nzl _,Nzl _,Int.le_refl _,by decide,hc,by simp,Mod.refl _ _⟩ ?_
 rintro n t u ⟨i,m,la,rfl,hi,hm,hn0,hn,hch,he,hM⟩;change Int at n;have l3:∀{z:World} {K:Sl→Prop},Mod F0 w1 z→K s→Go.Vw.ld z .sl b3 1 K:=fun hM hK=>(hM.blk hB id).ldK (k:=.sl) s rfl hK;refine l3 hM ?_;rw [h.rd.len,h.len];refine Iq (fun q=>?_) fun q=>?_;rotate_left
 ·have q:l.length≤i:=dge q;rw [Ldn q] at he;exact hk5 _ _ ⟨by rw [he];simp [spI],hM⟩
 have q:i<l.length:=dlt q;obtain⟨x,hx⟩:=Gq q;obtain⟨p,hp⟩:=Gq (l:=ps) (i:=i) (by rw [h.len];exact q);rw [Dg hx,chkI,Bat,Bat] at hch;rw [Dg hx] at he;have hr1:=odt hch.1.1;have hm1:=hr1.2.2.2.1;have hlb:x.blocks.length≤262144:=by omega
 refine join1 (a:=Ki) (fun (n':Int) u=>n'=n+spB x.blocks∧Mod F0 w1 u) ?_ ?_
 ·intro k11 hk11;refine loop2 (k1:=Ki) (k2:=Ki) (fun (n' t:Int) v=>∃(j:Nat) (key:Str),t=(j:Int)∧j≤x.blocks.length∧n≤n'∧n'≤n+65541*j∧chkB (x.blocks.drop j) key=true∧n+spB x.blocks=n'+spB (x.blocks.drop j)∧Mod F0 w1 v) (fun _ t _=>(x.blocks.length-t).toNat) (x1:=n) (x2:=0) rfl rfl
   ⟨0,[],rfl,Nzl _,Int.le_refl _,by simp,hch.1.2,by simp,hM⟩ ?_
  rintro n' t v ⟨j,key,rfl,hj,h1',h2',hcb,heb,hMv⟩;change Int at n';have hv:=h.quiet (mod0 M1 hMv);have hi1:=hv.each i p x hp hx;have prow:∀{K:Sl→Prop},K p.sb→Go.Vw.ix s 5 (i:Int) fun b o=>Go.Vw.ld v .sl b (o+1) K:=fun hk=>hv.rd.ix rfl rfl hp fun b o _ hc=>Lq (k:=.sl) p.sb (hc 1 (by decide)) hk;refine l3 hMv (prow ?_);rw [hi1.bl.len];refine Iq (fun q2=>?_) fun q2=>?_;rotate_left
  ·have q2:x.blocks.length≤j:=dge q2;rw [Ldn q2] at heb;exact hk11 _ _ ⟨by rw [heb];simp [spB],hMv⟩
  have q2:j<x.blocks.length:=dlt q2;obtain⟨y,hy⟩:=Gq q2;rw [Dg hy,chkB_cons,Bat] at hcb;rw [Dg hy] at heb;have hy1:=odt hcb.1;have hs1:=hy1.1;have hs2:=hy1.2.1;refine l3 hMv (prow (hi1.bl.ix rfl rfl hy fun b o _ hc=>Lq (k:=Ki) y.stored (hc 0 (by decide)) ?_));have es:=step64 (i:=j) (by omega);have e1:w64 (n'+y.stored)=n'+y.stored:=Wq (by omega) (by omega);have e2:w64 (n'+y.stored+5)=n'+(y.stored+5):=by rw [Wq (by omega) (by omega)];omega
  rw [e1,e2,es];exact⟨⟨j+1,y.cut,rfl,by omega,by omega,by omega,hcb.2,by rw [heb];simp only [spB];omega,hMv⟩,by omega⟩
 rintro n' u' ⟨rfl,hM'⟩;have es:=step64 (i:=i) (by omega);have hsb:=spB_le x.blocks [] hch.1.2;rw [es];exact⟨⟨i+1,m+x.blocks.length,x.part,rfl,by omega,hm1,by omega,by omega,hch.2,by rw [he];simp only [spI];omega,hM'⟩,by omega⟩
theorem rNum8_ok{w u:World}{m ro:BL}{s:Sl}{t:Str}(f:Fresh w u F0 (m++ro))(v:VecL ro ET s t){i:Int}{n:Nat}(hi:i=(n:Int))(hn:n<4611686018427387904)(hl:t.length≤549755813888){K:Sl→Wp}
  (hK:∀s' ro' u',Fresh w u' F0 (m++ro')→VecL ro' ET s' (t++putN n)→K s' u'):callK Pg c_127 [Az s,Ai i] u Oz K:=by
 subst hi;refine go_127 _ _ _ _ ?_;refine rPut_ok (by omega) fun u2 ro2 s2 g2 v2=>?_;have h9:=putN_9 hn;have f2:Fresh w u2 F0 ((m++ro2)++ro):=(f.join (Fresh.of_at g2) (fun _ _ h=>h) (fun _ _ _ h=>h)).perm (by
  rw [Laa,Laa];exact Lpc.append_left m)
 refine f2.app v (v2.rd fun p hp=>f2.own p (Lml _ (Lmr _ hp))) rfl rfl (by omega) fun s3 ro3 u3 f3 v3 M3=>?_;exact hK s3 ro3 u3 (f3.sub ((Lsl m ro2).append (List.Sublist.refl _))) v3
set_option maxHeartbeats 4000000 in
theorem rBody_ok{w:World}{S:Nat→Prop}{s:Sl}{ps:List PI}{l:List PartI}(h:FootR w S s ps l){parts:Int}(hc:chkF parts l=true){K:Sl→Wp}(hK:∀w' ro s',Fresh w w' F0 ro→VecL ro ET s' (bodyN parts l)→K s' w') :
  callK Pg c_128 [.agg [.int .i64 parts,.sl s]] w Oz K:=by
 refine go_128 _ _ _ _ ?_;unfold chkF at hc;rw [Bat] at hc;obtain⟨hp1,hp2⟩:=odt hc.1;have hch:=hc.2;have hnl:=(spI_le parts l (-1) 0 hch (Nzl _)).2.2;refine (Fresh.start w F0).alK fun b3 w1 f1 _ M1=>?_;have f1:Fresh w w1 F0 ([(b3,[.int .i64 parts,(LV.sl s).toV])]++[]):=f1;have l3:∀{z:World} {m ro:BL} {K:Sl→Prop},Fresh w z F0 (([(b3,[.int .i64 parts,(LV.sl s).toV])]++m)++ro)→K s→Go.Vw.ld z .sl b3 1 K:=fun f hK=>(f.own (b3,[.int .i64 parts,(LV.sl s).toV]) (by simp)).ldK (k:=.sl) s rfl hK;refine (f1.blk (i:=0) rfl).ldK (k:=Ki) parts rfl ?_;refine rNum8_ok f1 (VecL.nil ET) (n:=parts.toNat) (by omega) (by omega) (Nzl _) fun s4 ro4 w4 f4 v4=>l3 (m:=[]) f4 ?_;rw [h.rd.len,h.len];have h91:=putN_9 (v:=parts.toNat) (by omega);have h92:=putN_9 (v:=l.length) (by omega);refine rNum8_ok f4 v4 (n:=l.length) rfl (by omega) (by simp only [List.nil_append];omega) fun s5 ro5 w5 f5 v5=>?_;have hlen0:(([]++putN parts.toNat)++putN l.length).length≤18:=by simp only [List.nil_append,Lla];omega
 unfold bodyN at hK;rw [List.nil_append] at v5 hlen0;generalize putN parts.toNat++putN l.length=T0 at hK v5 hlen0;refine join1 (a:=.sl) (fun s' u=>∃ro',Fresh w u F0 ([(b3,[.int .i64 parts,(LV.sl s).toV])]++ro')∧VecL ro' ET s' (T0++bodI l (-1))) ?_ ?_;rotate_left
 ·rintro s' u ⟨ro',f,v⟩;exact hK u ro' s' (f.sub (Lsr [_] _)) v
 intro k11 hk11;refine loop3 (k1:=.sl) (k2:=Ki) (k3:=Ki) (fun (s':Sl) (last t:Int) u=>∃(i n:Nat) (ro':BL) (T:Str),t=(i:Int)∧i≤l.length∧n≤262144∧-1≤last∧last<65535∧chkI parts (l.drop i) last n=true ∧
   Fresh w u F0 ([(b3,[.int .i64 parts,(LV.sl s).toV])]++ro')∧VecL ro' ET s' T∧T++bodI (l.drop i) last=T0++bodI l (-1)∧T.length≤18+6000*i+200*n) (fun _ _ t _=>(l.length-t).toNat) (x1:=s5) (x2:=-1) (x3:=0) rfl rfl rfl
  ⟨0,0,ro5,T0,rfl,Nzl _,Nzl _,Int.le_refl _,by decide,hch,f5,v5,rfl,by omega⟩ ?_
 rintro s' last t u ⟨i,n,ro',T,rfl,hi,hn,hla,hlb,hci,fu,vu,heq,hTl⟩;change Int at last;refine l3 (m:=[]) fu ?_;rw [h.rd.len,h.len];refine Iq (fun q=>?_) fun q=>?_;rotate_left
 ·have q:l.length≤i:=dge q;rw [Ldn q,bodI,Lan] at heq;exact hk11 s' u ⟨ro',fu,heq▸vu⟩
 have q:i<l.length:=dlt q;obtain⟨x,hx⟩:=Gq q;obtain⟨p,hp⟩:=Gq (l:=ps) (i:=i) (by rw [h.len];exact q);have hi1:=(h.quiet fu.mod).each i p x hp hx;rw [Dg hx,chkI,Bat,Bat] at hci;rw [Dg hx,bodI] at heq;have hr1:=odt hci.1.1;have hlp:last<x.part:=hr1.1;have hpp:x.part<parts:=hr1.2.1;have hnb:=hr1.2.2.2.1;refine l3 (m:=[]) fu ((h.quiet fu.mod).rd.ix rfl rfl hp fun b o _ hc=>Lq (k:=Ki) p.part (hc 0 (by decide)) (Lq (k:=.sl) p.sb (hc 1 (by decide)) (Lq (k:=.bool) p.all (hc 2 (by decide)) (Lq (k:=Ki) p.hashes (hc 3 (by decide)) (Lq (k:=.sl) p.sd (hc 4 (by decide)) ?_)))));have mid:∀{z:World} {m ro R:BL},Fresh w z F0 ((m++ro)++R)→Fresh w z F0 ((m++R)++ro):=fun {z m ro R} f=>f.perm (by
  rw [Laa,Laa];exact Lpc.append_left m)
 refine fu.alst (by rfl) fun b26 u2 f26 _ M26=>?_;have g2:Fresh w u2 F0 (([(b3,[.int .i64 parts,(LV.sl s).toV])]++[(b26,EPI.f p)])++ro'):=mid f26;have pB:∀{z:World} {m ro:BL},Fresh w z F0 ((([(b3,[.int .i64 parts,(LV.sl s).toV])]++[(b26,EPI.f p)])++m)++ro)→Blk z b26 (EPI.f p):=fun f=>f.own (b26,EPI.f p) (by simp);have hB26:=pB (m:=[]) g2;refine hB26.ldK (k:=Ki) p.part rfl ?_;rw [hi1.part];have ew1:w64 (x.part-last)=x.part-last:=Wq (by omega) (by omega);have ew2:w64 (x.part-last-1)=(((x.part-last-1).toNat:Nat):Int):=by rw [Wq (by omega) (by omega),toNat_cast (by omega)]
 rw [ew1,ew2];have hTb:18+6000*i+200*n≤1625292818:=by omega
 refine rNum8_ok g2 vu rfl (by omega) (by omega) fun s30 ro30 u30 f30 v30=>?_;have hn30:=putN_9 (v:=(x.part-last-1).toNat) (by omega);have hB30:=pB (m:=[]) f30;refine hB30.ldK (k:=Ki) p.part rfl (hB30.ldK (k:=.bool) p.all rfl (hB30.ldK (k:=Ki) p.hashes rfl (hB30.ldK (k:=.sl) p.sd rfl ?_)));have hi30:=(h.quiet f30.mod).each i p x hp hx;refine rFEncode_ok hi30.dt hi30.ld fun u3 ro3 s3 v3 f3=>?_;rw [hi1.all,hi1.hs] at v3;have v3:VecL ro3 ET s3 (encF x.flt).1:=v3;have hel:=encF_len (f:=x.flt);have g3:=mid (f30.join f3 (fun _ _ h=>h) fun _ _ _ h=>h);rw [v3.1];refine rNum8_ok g3 v30 rfl (by omega) (by simp only [Lla];omega) fun s39 ro39 u39 f39 v39=>?_;have hn39:=putN_9 (v:=(encF x.flt).1.length) (by omega);refine Fresh.app f39 v39 (v3.rd fun p hp=>f39.own p (by simp [hp])) rfl rfl (by simp only [Lla];omega) fun s41 ro41 u41 f41 v41 M41=>?_;have f41:Fresh w u41 F0 (([(b3,[.int .i64 parts,(LV.sl s).toV])]++[(b26,EPI.f p)])++ro41):=f41.sub ((Lsl _ _).append (List.Sublist.refl _));have hB41:=pB (m:=[]) f41;refine hB41.ldK (k:=.sl) p.sb rfl ?_;have hlbx:x.blocks.length≤262144:=by omega
 rw [hi1.bl.len];refine rNum8_ok f41 v41 rfl (by omega) (by simp only [Lla];omega) fun s44 ro44 u44 f44 v44=>?_;have hn44:=putN_9 (v:=x.blocks.length) (by omega);have ehead:T++putN (x.part-last-1).toNat++putN (encF x.flt).1.length++(encF x.flt).1++putN x.blocks.length=T++headN x last:=by
  simp [headN]
 rw [ehead] at v44;have hT9:(T++headN x last).length≤18+6000*i+200*n+4300:=by
  rw [←ehead];simp only [Lla];omega
 have hhl:(T++headN x last)++(bodB x.blocks []++bodI (l.drop (i+1)) x.part)=T0++bodI l (-1):=by rw [←heq];simp
 generalize T++headN x last=T1 at v44 hT9 hhl;refine join1 (a:=.sl) (fun s' u'=>∃(ro':BL) (T2:Str),Fresh w u' F0 ([(b3,[.int .i64 parts,(LV.sl s).toV])]++ro')∧VecL ro' ET s' T2∧T2++bodI (l.drop (i+1)) x.part=T0++bodI l (-1)∧T2.length≤18+6000*(i+1)+200*(n+x.blocks.length)) ?_ ?_;rotate_left
 ·rintro s2 u' ⟨ro2,T2,fz,vz,hz,hzl⟩;have es:=step64 (i:=i) (by omega);rw [es,hi1.part];exact⟨⟨i+1,n+x.blocks.length,ro2,T2,rfl,by omega,hnb,by omega,by omega,hci.2,fz,vz,hz,hzl⟩,by omega⟩
 intro k46 hk46;refine loop3 (k1:=.sl) (k2:=.str) (k3:=Ki) (fun (s':Sl) (key:Str) (t:Int) v=>∃(j:Nat) (ro':BL) (T2:Str),t=(j:Int)∧j≤x.blocks.length∧key.length≤64∧chkB (x.blocks.drop j) key=true ∧
   Fresh w v F0 (([(b3,[.int .i64 parts,(LV.sl s).toV])]++[(b26,EPI.f p)])++ro')∧VecL ro' ET s' T2∧T2++(bodB (x.blocks.drop j) key++bodI (l.drop (i+1)) x.part)=T0++bodI l (-1)∧T2.length≤18+6000*i+200*n+4300+200*j) (fun _ _ t _=>(x.blocks.length-t).toNat) (x1:=s44) (x2:=[]) (x3:=0) rfl rfl rfl
  ⟨0,ro44,T1,rfl,Nzl _,Nzl _,hci.1.2,f44,v44,hhl,by omega⟩ ?_
 rintro s' key t v ⟨j,ro',T2,rfl,hj,hkl,hcb,fv,vv,hev,hTv⟩;refine (pB (m:=[]) fv).ldK (k:=.sl) p.sb rfl ?_;rw [hi1.bl.len];refine Iq (fun q2=>?_) fun q2=>?_;rotate_left
 ·have q2:x.blocks.length≤j:=dge q2;rw [Ldn q2,bodB,List.nil_append] at hev;have hz:T2.length≤18+6000*(i+1)+200*(n+x.blocks.length):=body_arith hTv hj;exact hk46 s' v ⟨ro',T2,fv.sub ((Lsl [_] [_]).append (List.Sublist.refl _)),vv,hev,hz⟩
 have q2:j<x.blocks.length:=dlt q2;obtain⟨y,hy⟩:=Gq q2;rw [Dg hy,chkB_cons,Bat] at hcb;rw [Dg hy,bodB] at hev;have hy1:=odt hcb.1;have hv:=(h.quiet fv.mod).each i p x hp hx;have hcut:y.cut.length≤64:=rightB_cut hcb.1;refine (pB (m:=[]) fv).ldK (k:=.sl) p.sb rfl (hv.bl.ix rfl rfl hy fun b o _ hc=>Lq (k:=Ki) y.stored (hc 0 (by decide)) (Lq (k:=Ki) y.raw (hc 1 (by decide)) (Lq (k:=Ki) y.count (hc 2 (by decide)) (Lq (k:=.str) y.cut (hc 3 (by decide)) ?_))));refine fv.alst (by rfl) fun b60 v2 g2 _ _=>?_;have g2:Fresh w v2 F0 ((([(b3,[.int .i64 parts,(LV.sl s).toV])]++[(b26,EPI.f p)])++[(b60,EBI.f y)])++ro'):=mid g2;have bB:∀{z:World} {ro:BL},Fresh w z F0 ((([(b3,[.int .i64 parts,(LV.sl s).toV])]++[(b26,EPI.f p)])++[(b60,EBI.f y)])++ro)→Blk z b60 (EBI.f y):=fun f=>f.own (b60,EBI.f y) (by simp);refine (bB g2).ldK (k:=.str) y.cut rfl (rCommon_ok (by omega) fun v3 M3=>?_);have g3:=g2.quiet M3;have hcle:=comN_le key y.cut;have h1:=hy1.1;have h2:=hy1.2.1;have h3:=hy1.2.2.1;have h4:=hy1.2.2.2.1;have h6:=hy1.2.2.2.2.2.1;have h7:=hy1.2.2.2.2.2.2.1;have hTb2:T2.length≤1700000000:=by omega
 have p1:=putN_9 (v:=y.stored.toNat) (by omega);have p2:=putN_9 (v:=y.raw.toNat) (by omega);have p3:=putN_9 (v:=y.count.toNat) (by omega);have p4:=putN_9 (v:=comN key y.cut) (by omega);have p5:=putN_9 (v:=y.cut.length-comN key y.cut) (by omega);refine (bB g3).ldK (k:=Ki) y.stored rfl (rNum8_ok g3 vv (n:=y.stored.toNat) (by omega) (by omega) (by omega) fun z1 ro1 x1 e1 r1=>?_);refine (bB e1).ldK (k:=Ki) y.raw rfl (rNum8_ok e1 r1 (n:=y.raw.toNat) (by omega) (by omega) (by simp only [Lla];omega) fun z2 ro2 x2 e2 r2=>?_);refine (bB e2).ldK (k:=Ki) y.count rfl (rNum8_ok e2 r2 (n:=y.count.toNat) (by omega) (by omega) (by simp only [Lla];omega) fun z3 ro3 x3 e3 r3=>?_);refine rNum8_ok e3 r3 (n:=comN key y.cut) rfl (by omega) (by simp only [Lla];omega) fun z4 ro4 x4 e4 r4=>?_;refine (bB e4).ldK (k:=.str) y.cut rfl ?_;have ew3:w64 ((y.cut.length:Int)-(comN key y.cut:Int))=((y.cut.length-comN key y.cut:Nat):Int):=by rw [Wq (by omega) (by omega)];omega
 rw [ew3];refine rNum8_ok e4 r4 rfl (by omega) (by simp only [Lla];omega) fun z5 ro5 x5 e5 r5=>?_;refine (bB e5).ldK (k:=.str) y.cut rfl (ssx_drop (by omega:comN key y.cut≤y.cut.length) rfl ?_);refine Fresh.appS e5 r5 (by simp only [Lla,Lld];omega) fun s6 ro6 v6 f6 v6' M6=>?_;refine (bB f6).ldK (k:=.str) y.cut rfl ?_;have es:=step64 (i:=j) (by omega);have eb:T2++putN y.stored.toNat++putN y.raw.toNat++putN y.count.toNat++putN (comN key y.cut)++putN (y.cut.length-comN key y.cut)++y.cut.drop (comN key y.cut)=T2++blkN key y:=by simp [blkN]
 have hlz:(T2++blkN key y).length≤T2.length+45+64:=by
  rw [←eb];simp only [Lla,Lld];omega
 rw [eb] at v6';rw [es];exact⟨⟨j+1,ro6,T2++blkN key y,rfl,by omega,hcut,hcb.2,f6.sub ((Lsl _ [_]).append (List.Sublist.refl _)),v6',by rw [←hev];simp,by omega⟩,by omega⟩
theorem rPagesOf_ok{w:World}{n:Int}(h:-1000000≤n∧n≤2199023255552){K:Int→Wp}(hK:K (n+4*((n+4095).tdiv 4096)) w):callK Pg c_129 [Ai n] w Oi K:=by
 refine go_129 _ _ _ ?_;have e1:w64 (n+4096)=n+4096:=Wq (by omega) (by omega);have e2:w64 (n+4096-1)=n+4095:=by rw [Wq (by omega) (by omega)];omega
 have hd:-1000000≤(n+4095).tdiv 4096∧(n+4095).tdiv 4096≤2199023255552:=by
  by_cases h0:0≤n+4095
  ·rw [Int.tdiv_eq_ediv_of_nonneg h0];omega
  ·obtain⟨m,hm⟩:∃m:Int,n+4095 = -m:=⟨-(n+4095),by omega⟩;rw [hm,Int.neg_tdiv,Int.tdiv_eq_ediv_of_nonneg (by omega)];omega
 rw [e1,e2];generalize (n+4095).tdiv 4096=d at hd hK ⊢;have e3:w64 d=d:=Wq (by omega) (by omega);have e4:w64 (4*d)=4*d:=Wq (by omega) (by omega);rw [e3,e4,Wq (by omega) (by omega)];exact hK
def bodyOfN(n:Int):Int:=if 1≤n∧n≤16793600∧¬(0<n.tmod 4100∧n.tmod 4100<5) then n-4*((n+4099).tdiv 4100) else 0
theorem rBodyOf_ok{w:World}{n:Int}(h:n≤1099511627776){K:Int→Wp}(hK:K (bodyOfN n) w):callK Pg c_130 [Ai n] w Oi K:=by
 refine go_130 _ _ _ ?_;unfold bodyOfN at hK;by_cases h1:n<1
 ·refine join1 (a:=.bool) (fun q u=>q=true∧u=w) (fun k hk=>ifK_t (Dct h1) (hk _ _ ⟨rfl,rfl⟩)) ?_;rintro q u ⟨rfl,rfl⟩;rw [if_neg (fun h=>by omega)] at hK;exact ifK_t rfl hK
 have hd:(n+4099).tdiv 4100=(n+4099)/4100:=Int.tdiv_eq_ediv_of_nonneg (by omega);have hm:n.tmod 4100=n%4100:=Int.tmod_eq_emod_of_nonneg (by omega);have ee:w64 (n-w64 (4*w64 ((w64 (w64 (n+4096)+3)).tdiv 4100)))=n-4*((n+4099)/4100):=by
  have e1:w64 (n+4096)=n+4096:=Wq (by omega) (by omega);have e2:w64 (n+4096+3)=n+4099:=by rw [Wq (by omega) (by omega)];omega
  rw [e1,e2,hd];have e3:w64 ((n+4099)/4100)=(n+4099)/4100:=Wq (by omega) (by omega);have e4:w64 (4*((n+4099)/4100))=4*((n+4099)/4100):=Wq (by omega) (by omega);rw [e3,e4,Wq (by omega) (by omega)]
 rw [ee];rw [hd,hm] at hK;have hq:∀k:Int,(16777216+4*((16777216+4095:Int).tdiv 4096))=16793600:=fun _=>rfl;have hbd:(n-4*((n+4099)/4100)+4095).tdiv 4096=(n-4*((n+4099)/4100)+4095)/4096:=Int.tdiv_eq_ediv_of_nonneg (by omega);refine join1 (a:=.bool) (fun q u=>q=decide (¬(1≤n∧n≤16793600∧¬(0<n%4100∧n%4100<5)))∧u=w) ?_ ?_
 ·intro k hk;refine ifK_f (Dcf h1) (rPagesOf_ok (by decide) ?_);rw [hq 0];refine Iq (fun q=>hk _ _ ⟨?_,rfl⟩) fun q=>Iq (fun q2=>hk _ _ ⟨?_,rfl⟩) fun q2=>Iq (fun q3=>hk _ _ ⟨?_,rfl⟩) fun q3=>rPagesOf_ok (by omega) (hk _ _ ⟨?_,rfl⟩)
  ·have q:16793600<n:=odt q;refine (Dct ?_).symm;intro h;omega
  ·have q2:n-4*((n+4099)/4100)<1:=odt q2;refine (Dct ?_).symm;rintro ⟨_,_,h3⟩;omega
  ·have q:¬16793600<n:=odf q;have q3:16777216<n-4*((n+4099)/4100):=odt q3;refine (Dct ?_).symm;rintro ⟨_,_,h3⟩;omega
  ·have q:¬16793600<n:=odf q;have q2:¬n-4*((n+4099)/4100)<1:=odf q2;rw [hbd];show (((n-4*((n+4099)/4100))+4*((n-4*((n+4099)/4100)+4095)/4096)) != n)=_;rw [Bei,bne_iff_ne,Det];omega
 rintro q u ⟨rfl,rfl⟩;refine Iq (fun q=>?_) fun q=>?_
 ·rw [if_neg (odt q)] at hK;exact hK
 ·rw [if_pos (Decidable.not_not.1 (odf q))] at hK;exact hK
theorem bodyOfN_pos(n:Int):0<bodyOfN n↔1≤n∧n≤16793600∧¬(0<n.tmod 4100∧n.tmod 4100<5):=by
 unfold bodyOfN;split
 ·rename_i h;refine⟨fun _=>h,fun _=>?_⟩;rw [Int.tdiv_eq_ediv_of_nonneg (by omega)];have:=h.2.2;rw [Int.tmod_eq_emod_of_nonneg (by omega)] at this;omega
 ·rename_i h;exact⟨fun h0=>absurd h0 (by decide),fun h0=>absurd h0 h⟩
theorem rMay_ok{w:World}{b p:Int}(h:p≤1099511627776){K:Bool→Wp}(hK:∀w',Mod F0 w w'→K (trailOk b p) w'):callK Pg c_131 [.agg [.int .i64 b,.int .i64 p]] w Ob K:=by
 refine go_131 _ _ _ _ ?_;refine (Fresh.start w F0).alK fun b3 w1 f1 _ M1=>?_;have hB:Blk w1 b3 [.int .i64 b,.int .i64 p]:=f1.blk (i:=0) rfl;have hK:=hK w1 M1;unfold trailOk at hK;refine join1 (a:=.bool) (fun q u=>q=decide (¬(0≤b∧b≤268435456∧0≤p))∧u=w1) ?_ ?_
 ·intro k hk;refine hB.ldK (k:=Ki) b rfl (Iq (fun q=>hk _ _ ⟨?_,rfl⟩) fun q=>hB.ldK (k:=Ki) b rfl (Iq (fun q2=>hk _ _ ⟨?_,rfl⟩) fun q2=>hB.ldK (k:=Ki) p rfl (hk _ _ ⟨?_,rfl⟩)))
  ·have q:b<0:=odt q;exact (Dct (by omega)).symm
  ·have q2:268435456<b:=odt q2;exact (Dct (by omega)).symm
  ·have q:¬b<0:=odf q;have q2:¬268435456<b:=odf q2;show decide (p<0)=_;rw [Bei,Det,Det];omega
 rintro q u ⟨rfl,rfl⟩;refine Iq (fun q=>?_) fun q=>?_
 ·have q:=odt q;rw [Dcf (fun h=>q ⟨h.1,h.2.1,by omega⟩)] at hK;exact hK
 have q:=Decidable.not_not.1 (odf q);refine hB.ldK (k:=Ki) p rfl (rBodyOf_ok h ?_);have e:decide (0<bodyOfN p)=decide (0≤b∧b≤268435456∧1≤p∧p≤16793600∧¬(0<p.tmod 4100∧p.tmod 4100<5)):=by
  rw [Bei,Det,Det,bodyOfN_pos];exact⟨fun h=>⟨q.1,q.2.1,h⟩,fun h=>h.2.2⟩
 rw [e];exact hK
set_option maxHeartbeats 1000000 in
theorem rTrailer_ok{w:World}{s:Sl}{t:Str}(hr:RdS w ET s t)(hl:t.length≤1099511627776){size:Int}{K:Int→Int→Int→Wp}(hK:∀w',Mod F0 w w'→K (trailN t size).1 (trailN t size).2.1 (trailN t size).2.2 w') :
  callK Pg c_132 [Az s,Ai size] w (.tup [.agg [Ki,Ki],Li]) K:=by
 refine go_132 _ _ _ _ ?_;refine (Fresh.start w F0).alK fun b3 w1 f1 _ M1=>?_;have out:∀{u:World} {m:BL} {X:List Value} (x y e:Int),X.length=2→Fresh w u F0 ((b3,X)::m)→(trailN t size=(x,y,e)) →
   Go.Vw.st u b3 0 [.int .i64 x,.int .i64 y] fun W5=>Go.Vw.ld W5 Ki b3 0 fun n6=>Go.Vw.ld W5 Ki b3 1 fun n7=>K n6 n7 e W5:=fun {u m X} x y e hX h he=>by
  refine h.stK 0 rfl (by simp [hX]) fun u' h' _=>?_;have hB:Blk u' b3 [.int .i64 x,.int .i64 y]:=by
   have:=h'.blk (i:=0) rfl;rw [spl_eq _ _ _ (by simp [hX]),Ldn (by simp [hX]),Lan] at this;exact this
  have h2:=hK u' h'.mod;rw [he] at h2;exact hB.ldK (k:=Ki) x rfl (hB.ldK (k:=Ki) y rfl h2)
 rw [hr.len];refine Iq (fun q=>?_) fun q=>?_
 ·have q:(t.length:Int)≠24:=by simpa using q
  exact out 0 0 81 rfl f1 (by unfold trailN;rw [if_pos (by omega)])
 have q:¬t.length≠24:=by have q:(t.length:Int)=24:=(by simpa using q);omega
 refine rOpen_ok (hr.quiet M1) hl fun w2 ro2 s2 h2 v2=>?_;have f2:Fresh w w2 F0 ((b3,[.int .i64 0,.int .i64 0])::ro2):=f1.join (Fresh.of_at h2) (fun _ _ h=>h) fun _ _ _ h=>h;by_cases q2:(openB t).1≠0
 ·refine join1 (a:=.bool) (fun c u=>c=true∧u=w2) (fun k hk=>ifK_t (by simpa using q2) (hk _ _ ⟨rfl,rfl⟩)) ?_;rintro c u ⟨rfl,rfl⟩;exact ifK_t rfl (out 0 0 81 rfl f2 (by unfold trailN;rw [if_neg q,if_pos q2]))
 have hol:=(openB_len (by simpa using q2)).1;have et:trailN t size=if (openB t).2.take 4≠magicN∨268435456<wordN (((openB t).2.take 12).drop 4)∨33554432<wordN ((openB t).2.drop 12) then ((0,0,81):Int×Int×Int) else
   if trailOk (wordN (((openB t).2.take 12).drop 4)) (wordN ((openB t).2.drop 12))=false then (0,0,81) else
   if (wordN (((openB t).2.take 12).drop 4):Int)+wordN ((openB t).2.drop 12)+24≠size then (0,0,82) else
   (wordN (((openB t).2.take 12).drop 4),wordN ((openB t).2.drop 12),0):=by unfold trailN;rw [if_neg q,if_neg q2]
 have hne:((openB t).1 != 0)=false:=by simpa using q2
 rw [hne];generalize (openB t).2=o at et v2 hol;have hr3:RdS w2 ET s2 o:=v2.rd fun p hp=>f2.own p (Lmc _ hp);refine join1 (a:=.bool) (fun c u=>c=decide (o.take 4≠magicN)∧u=w2) (fun k hk=>ifK_f rfl (hr3.toK (n:=4) (by omega) rfl rfl fun s6 h6 _=>convT h6 (hk _ _ ⟨?_,rfl⟩))) ?_
 ·rw [Bei,Bool.not_eq_true',beq_eq_false_iff_ne,Det];rfl
 rintro c u ⟨rfl,rfl⟩;refine Iq (fun q3=>?_) fun q3=>?_
 ·exact out 0 0 81 rfl f2 (by rw [et,if_pos (.inl (odt q3))])
 have q3:=Decidable.not_not.1 (odf q3);have e20:(o.take 20).drop 12=o.drop 12:=by rw [Ltl (by omega)]
 refine hr3.partK (n:=4) (m:=12) (by decide) (by omega) rfl rfl rfl fun s4 h4 _=>rWord_ok h4 (by simp;omega) (hr3.partK (n:=12) (m:=20) (by decide) (by omega) rfl rfl rfl fun s5 h5 _=>?_);rw [e20] at h5;refine rWord_ok h5 (by simp;omega) ?_;have hA:wordN ((o.take 12).drop 4)<2^64:=by
  have h:=wordF_lt (((o.take 12).drop 4).take 8);have h2:(((o.take 12).drop 4).take 8).length≤8:=by rw [Llt];omega
  have h3:256^(((o.take 12).drop 4).take 8).length≤256^8:=Nat.pow_le_pow_right (by decide) h2;exact Nat.lt_of_lt_of_le h h3
 generalize wordN ((o.take 12).drop 4)=A at et hA;generalize wordN (o.drop 12)=B at et;refine join1 (a:=.bool) (fun c v=>c=decide (268435456<A∨1073741824<B)∧v=u) ?_ ?_
 ·intro k hk;refine Iq (fun q4=>hk _ _ ⟨?_,rfl⟩) fun q4=>hk _ _ ⟨?_,rfl⟩
  ·have q4:(268435456:Int)<(A:Int):=odt q4;exact (Dct (.inl (by omega))).symm
  ·have q4:¬(268435456:Int)<(A:Int):=odf q4;show decide ((1073741824:Int)<(B:Int))=_;rw [Bei,Det,Det];omega
 rintro c v ⟨rfl,rfl⟩;refine Iq (fun q4=>?_) fun q4=>?_
 ·have q4:=odt q4;exact out 0 0 81 rfl f2 (by rw [et,if_pos (.inr (by omega))])
 have q4:=odf q4;refine f2.alst (by rfl) fun b32 w5 f5 _ M5=>?_;have ewA:w64 (A:Int)=(A:Int):=Wq (by omega) (by omega);have ewB:w64 (B:Int)=(B:Int):=Wq (by omega) (by omega);rw [ewA,ewB] at f5;have f5:Fresh w w5 F0 ((b3,[.int .i64 0,.int .i64 0])::(ro2++[(b32,[.int .i64 (A:Int),.int .i64 (B:Int)])])):=f5;have hB32:∀{z:World},Mod F0 w5 z→Blk z b32 [.int .i64 (A:Int),.int .i64 (B:Int)]:=fun hM=>hM.blk (f5.own (b32,[.int .i64 (A:Int),.int .i64 (B:Int)]) (by simp)) id;have l0:∀{z:World} {K:Int→Prop},Mod F0 w5 z→K (A:Int)→Go.Vw.ld z Ki b32 0 K:=fun hM hK=>(hB32 hM).ldK (k:=Ki) (A:Int) rfl hK;have l1:∀{z:World} {K:Int→Prop},Mod F0 w5 z→K (B:Int)→Go.Vw.ld z Ki b32 1 K:=fun hM hK=>(hB32 hM).ldK (k:=Ki) (B:Int) rfl hK;refine l0 (Mod.refl _ _) (l1 (Mod.refl _ _) (rMay_ok (by omega) fun w6 M6=>?_));have f6:=f5.quiet M6;by_cases hc2:33554432<B
 ·have ht:trailOk (A:Int) (B:Int)=false:=Dcf fun h=>by omega
  rw [ht];refine ifK_t rfl (out 0 0 81 rfl f6 (by rw [et,if_pos (.inr (.inr hc2))]))
 have hn3:¬(o.take 4≠magicN∨268435456<A∨33554432<B):=fun h=>by
  rcases h with h | h | h
  ·exact h q3
  ·exact q4 (.inl h)
  ·exact hc2 h
 rw [if_neg hn3] at et;refine Iq (fun q5=>?_) fun q5=>?_
 ·have q5:trailOk (A:Int) (B:Int)=false:=by simpa using q5
  rw [if_pos q5] at et;exact out 0 0 81 rfl f6 et
 have q5:trailOk (A:Int) (B:Int)=true:=by simpa using q5
 rw [if_neg (by rw [q5];decide)] at et;refine l0 M6 (l1 M6 ?_);have e24:w64 (w64 ((A:Int)+(B:Int))+24)=(A:Int)+(B:Int)+24:=by rw [Wq (n:=(A:Int)+(B:Int)) (by omega) (by omega),Wq (by omega) (by omega)]
 rw [e24];refine Iq (fun q6=>?_) fun q6=>?_
 ·have q6:(A:Int)+(B:Int)+24≠size:=by simpa using q6
  rw [if_pos q6] at et;exact out 0 0 82 rfl f6 et
 ·have q6:(A:Int)+(B:Int)+24=size:=by simpa using q6
  rw [if_neg (by simpa using q6)] at et;exact l0 M6 (l1 M6 (out (A:Int) (B:Int) 0 rfl f6 et))
end Go.Proofs.YtoegpmjoajipcaaGreatDoor
