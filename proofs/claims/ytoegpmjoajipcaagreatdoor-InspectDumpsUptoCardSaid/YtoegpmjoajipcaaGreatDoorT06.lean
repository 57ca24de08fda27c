/- Part T06. -/
import Derived.Test.YtoegpmjoajipcaaGreatDoorT05
import Derived.Test.YtoegpmjoajipcaaGreatDoorT03
import Derived.Lib.AppendStr
namespace Go.Proofs.YtoegpmjoajipcaaGreatDoor
open Go.Vw
def kindN(a:Bool)(h:Int)(n:Nat):Int:=if a=true∧h=0∧n=0 then 1 else if a=false∧h=0∧n=0 then 2 else if a=false∧1≤h∧h≤8∧1≤n∧n≤4096 then 3 else 0
theorem kind_ok{w:World}{a:Bool}{h:Int}{s:Sl}{n:Nat}(hn:s.len=n){K:Int→Wp}(hK:∀w',Mod F0 w w'→K (kindN a h n) w') :
  callK Pg c_86 [.agg [.bool a,.int .i64 h,.sl s]] w Oi K:=by
 subst hn;refine go_86 _ _ _ _ _ ?_;refine (At.init w F0).alK fun b w1 _ h1 _=>?_;have hB:=h1.blk (i:=0) rfl;have la:∀{K:Bool→Prop},K a→Go.Vw.ld w1 .bool b 0 K:=fun hK=>hB.ldK (k:=.bool) a rfl hK;have lh:∀{K:Int→Prop},K h→Go.Vw.ld w1 Ki b 1 K:=fun hK=>hB.ldK (k:=Ki) h rfl hK;have ls:∀{K:Sl→Prop},K s→Go.Vw.ld w1 .sl b 2 K:=fun hK=>hB.ldK (k:=.sl) s rfl hK;unfold kindN at hK;refine join1 (a:=.bool) (fun q v=>q=decide (a=true∧h=0∧s.len=0)∧v=w1) ?_ ?_
 ·intro k hk;refine la (Iq (fun q=>lh (Iq (fun q2=>ls (hk _ _ ⟨?_,rfl⟩)) fun q2=>hk _ _ ⟨?_,rfl⟩)) fun q=>hk _ _ ⟨?_,rfl⟩)
  ·have q2:h=0:=by simpa using q2
   rw [Bei,beq_iff_eq,Det];exact⟨fun e=>⟨q,q2,by omega⟩,fun e=>by omega⟩
  ·have q2:¬h=0:=by simpa using q2
   exact (Dcf fun e=>q2 e.2.1).symm
  ·exact (Dcf fun e=>by rw [e.1] at q;cases q).symm
 rintro q v ⟨rfl,rfl⟩;refine Iq (fun q=>?_) fun q=>?_
 ·have:=hK v h1.mod;rw [if_pos (odt q)] at this;exact this
 rw [if_neg (odf q)] at hK;refine join1 (a:=.bool) (fun q u=>q=decide (a=false∧h=0∧s.len=0)∧u=v) ?_ ?_
 ·intro k hk;refine la (Iq (fun q=>lh (Iq (fun q2=>ls (hk _ _ ⟨?_,rfl⟩)) fun q2=>hk _ _ ⟨?_,rfl⟩)) fun q=>hk _ _ ⟨?_,rfl⟩)
  ·have q:a=false:=by simpa using q
   have q2:h=0:=by simpa using q2
   rw [Bei,beq_iff_eq,Det];exact⟨fun e=>⟨q,q2,by omega⟩,fun e=>by omega⟩
  ·have q2:¬h=0:=by simpa using q2
   exact (Dcf fun e=>q2 e.2.1).symm
  ·have q:a=true:=by simpa using q
   exact (Dcf fun e=>by rw [e.1] at q;cases q).symm
 rintro q u ⟨rfl,rfl⟩;refine Iq (fun q=>?_) fun q=>?_
 ·have:=hK u h1.mod;rw [if_pos (odt q)] at this;exact this
 rw [if_neg (odf q)] at hK;refine join1 (a:=.bool) (fun q v=>q=decide (a=false∧1≤h∧h≤8∧1≤s.len∧s.len≤4096)∧v=u) ?_ ?_
 ·intro k hk;refine la (Iq (fun q=>?_) fun q=>hk _ _ ⟨?_,rfl⟩)
  ·have q:a=false:=by simpa using q
   refine lh (Iq (fun q2=>?_) fun q2=>hk _ _ ⟨?_,rfl⟩)
   ·have q2:(1:Int)≤h:=odt q2;refine lh (Iq (fun q3=>?_) fun q3=>hk _ _ ⟨?_,rfl⟩)
    ·have q3:h≤(8:Int):=odt q3;refine ls (Iq (fun q4=>ls (hk _ _ ⟨?_,rfl⟩)) fun q4=>hk _ _ ⟨?_,rfl⟩)
     ·have q4:(1:Int)≤(s.len:Int):=odt q4;show decide ((s.len:Int)≤4096)=_;rw [Bei,Det,Det];exact⟨fun e=>⟨q,q2,q3,by omega,by omega⟩,fun e=>by omega⟩
     ·have q4:¬(1:Int)≤(s.len:Int):=odf q4;exact (Dcf fun e=>q4 (by omega)).symm
    ·have q3:¬h≤(8:Int):=odf q3;exact (Dcf fun e=>q3 e.2.2.1).symm
   ·have q2:¬(1:Int)≤h:=odf q2;exact (Dcf fun e=>q2 e.2.1).symm
  ·have q:a=true:=by simpa using q
   exact (Dcf fun e=>by rw [e.1] at q;cases q).symm
 rintro q v ⟨rfl,rfl⟩;refine Iq (fun q=>?_) fun q=>?_
 ·have:=hK v h1.mod;rw [if_pos (odt q)] at this;exact this
 ·have:=hK v h1.mod;rw [if_neg (odf q)] at this;exact this
theorem filterCheck_ok{w:World}{a:Bool}{h:Int}{s:Sl}{n:Nat}(hn:s.len=n){K:Int→Wp}(hK:∀w',Mod F0 w w'→K (if kindN a h n=0 then 70 else 0) w') :
  callK Pg c_87 [.agg [.bool a,.int .i64 h,.sl s]] w Oi K:=by
 refine go_87 _ _ _ _ _ ?_;refine (At.init w F0).alK fun b w1 _ h1 _=>?_;have hB:=h1.blk (i:=0) rfl;refine hB.ldK (k:=.bool) a rfl (hB.ldK (k:=Ki) h rfl (hB.ldK (k:=.sl) s rfl (kind_ok hn fun w2 M2=>?_)));have:=hK w2 (mod0 h1.mod M2);refine Iq (fun q=>?_) fun q=>?_
 ·rw [if_pos (by simpa using q)] at this;exact this
 ·rw [if_neg (by simpa using q)] at this;exact this
set_option maxRecDepth 100000
theorem go_89(c1:PA)(most2:Int)(K:List UInt8→Wp)(w:World)(h:al w 3 [.int .i64 most2] fun b3 W4=>al W4 9 [.str []] fun b5 W6=>callK Pg 118 [Ap c1,.leaf (.val (.func (.func 124) #[] #[(LV.toV (.ptr (some (b3,0)))),(LV.toV (.ptr (some (b5,0))))]))] W6 (.tup []) fun W7=>ld W7 .str b5 0 fun s8=>K s8 W7):callK Pg 89 [Ap c1,Ai most2] w Ot K:=Fq (n:=.nil) CS_ok mixed Tryz.func89 (Eq.mpr (by kernel_rfl) h)
theorem go_88(left1:Sl)(t1B2:Nat)(t1O3:Nat)(t2B4:Nat)(t2O5:Nat)(K:Int→Int→Wp)(w:World)(h:callK Pg 120 [Az left1] w (.tup [Li,Li,Li]) fun n6 n7 n8 W9=>ifK (n8 != 0) (K 0 n8 W9) (ld W9 Ki t1B2 t1O3 fun n10=>ifK (decide (n10<n6)) (K 0 23 W9) (ifK (decide (w64 ((left1.len:Int)-n7)<n6)) (K 0 20 W9) (slx left1 1 (some n7) (some (w64 (n7+n6))) none fun s11=>opF Pg (vS (convert 22 9 (LV.toV (.sl s11)))) W9 Ot fun s13 W12=>st W12 t2B4 t2O5 [.str s13] fun W14=>K (w64 (n7+n6)) 0 W14)))):callK Pg 124 [Az left1,Ap (some (t1B2,t1O3)),Ap (some (t2B4,t2O5))] w (.tup [Li,Li]) K:=Fq (n:=.nil) CS_ok mixed Tryz.func124 (Eq.mpr (by kernel_rfl) h)
theorem go_90(c1:PA)(e2:Int)(K:Wp)(w:World)(h:al w 73 [.int .i64 e2] fun b3 W4=>callK Pg 118 [Ap c1,.leaf (.val (.func (.func 125) #[] #[(LV.toV (.ptr (some (b3,0))))]))] W4 (.tup []) fun W5=>K W5):callK Pg 90 [Ap c1,Ai e2] w (.tup []) K:=Fq (n:=.nil) CS_ok mixed Tryz.func90 (Eq.mpr (by kernel_rfl) h)
theorem go_91(t01:Sl)(t1B2:Nat)(t1O3:Nat)(K:Int→Int→Wp)(w:World)(h:drawK w fun D W4=>ldD D W4 Ki t1B2 t1O3 fun n5=>K 0 n5 W4):callK Pg 125 [Az t01,Ap (some (t1B2,t1O3))] w (.tup [Li,Li]) K:=Fq (n:=(n0 .nil (n0 (.mk none [] [] (tk [0,1,2] .done) .nil .nil) .nil))) CS_ok mixed Tryz.func125 (Eq.mpr (by kernel_rfl) h)
def textE(most:Int)(t:Str):Int:=let g:=getN t;if g.2.2≠0 then g.2.2 else if most<(g.1:Int) then 23 else if (t.length:Int)-(g.2.1:Int)<(g.1:Int) then 20 else 0
def textV(t:Str):Str:=(t.drop (getN t).2.1).take (getN t).1
def textL(t:Str):Nat:=(getN t).2.1+(getN t).1
def Cu.text(c:Cu)(most:Int):Str×Cu:=
 if c.e≠0 then ([],c) else (if textE most c.left=0 then textV c.left else [],c.go (textL c.left) (textE most c.left))
theorem text1_ok{w:World}{s:Sl}{t:Str}(hr:RdS w ET s t)(hl:t.length≤1099511627776){b1 b2:Nat}{most:Int}(h1:Blk w b1 [.int .i64 most])(h2:Blk w b2 [LV.toV (.str [])]){K:Int→Int→Wp}
  (hK:∀w',Blk w' b2 [LV.toV (.str (if textE most t=0 then textV t else []))]→Mod (fun b=>b=b2) w w'→K (if textE most t=0 then (textL t:Int) else 0) (textE most t) w') :
  callK Pg c_88 [Az s,Ap (some (b1,0)),Ap (some (b2,0))] w (.tup [Li,Li]) K:=by
 refine go_88 _ _ _ _ _ _ _ ?_;refine get_ok hr hl ?_;unfold textE textV textL at hK;dsimp only at hK;have hn:=getN_len t;generalize hg:getN t=g at hK hn;obtain⟨v,n,e0⟩:=g;dsimp only at hK hn ⊢;refine Iq (fun h=>?_) fun h=>?_
 ·have h:e0≠0:=by simpa using h
  simp only [if_pos h,if_neg h] at hK;exact hK w h2 (Mod.refl _ _)
 have h:¬e0≠0:=by simpa using h
 simp only [if_neg h] at hK;refine h1.ldK (k:=Ki) most rfl (Iq (fun h3=>?_) fun h3=>?_)
 ·have h3:most<(v:Int):=odt h3;simp only [if_pos h3,if_neg (show ¬(23:Int)=0 by decide)] at hK;exact hK w h2 (Mod.refl _ _)
 have h3:¬most<(v:Int):=odf h3;simp only [if_neg h3] at hK;have ew:w64 ((s.len:Int)-(n:Int))=(t.length:Int)-(n:Int):=by rw [hr.len];exact Wq (by omega) (by omega)
 rw [ew];refine Iq (fun h4=>?_) fun h4=>?_
 ·have h4:(t.length:Int)-(n:Int)<(v:Int):=odt h4;simp only [if_pos h4,if_neg (show ¬(20:Int)=0 by decide)] at hK;exact hK w h2 (Mod.refl _ _)
 have h4:¬(t.length:Int)-(n:Int)<(v:Int):=odf h4;simp only [if_neg h4,if_pos trivial] at hK;have e2:w64 ((n:Int)+(v:Int))=((n+v:Nat):Int):=by rw [Wq (by omega) (by omega)];omega
 rw [e2];refine hr.partK (n:=n) (m:=n+v) (by omega) (by omega) rfl rfl rfl fun s' hr' _=>convT hr' ?_;refine h2.stK (Nlr 1) fun w3 h5 M3=>?_;have e3:(t.take (n+v)).drop n=(t.drop n).take v:=by rw [List.drop_take,Nat.add_sub_cancel_left]
 rw [e3] at h5;exact hK w3 h5 M3
theorem textE_len{most:Int}{t:Str}(h:textE most t=0):textL t≤t.length:=by
 unfold textE at h;unfold textL;dsimp only at h;split at h
 ·rename_i h1;exact absurd h h1
 split at h
 ·cases h
 split at h
 ·cases h
 ·omega
theorem text_ok{w:World}{bc:Nat}{s:Sl}{c:Cu}(hc:CurAt w bc s c){most:Int}{K:Str→Wp}(hK:∀w',CurAt w' bc s (c.text most).2→Mod (fun b=>b=bc) w w'→K (c.text most).1 w') :
  callK Pg c_89 [Ap (some (bc,0)),Ai most] w Ot K:=by
 refine go_89 _ _ _ _ ?_;refine (At.init w F0).alK fun b3 w1 hb3 h1 _=>h1.alK fun b5 w2 hb5 h2 M2=>?_;have hc2:=hc.quiet h2.mod;have hB3:Blk w2 b3 [.int .i64 most]:=h2.blk (i:=0) rfl;have hB5:Blk w2 b5 [LV.toV (.str [])]:=h2.blk (i:=1) rfl;have hlt:=hc.blk.lt;have hle1:w.heap.size≤w1.heap.size:=h1.mod.size;have hne5:b5≠bc:=by omega
 have hne3:b3≠b5:=h2.ne (i:=0) (j:=1) rfl rfl (by decide);by_cases he:c.e=0
 ·have hnum:c.text most=(if textE most c.left=0 then textV c.left else [],c.go (textL c.left) (textE most c.left)):=by
   unfold Cu.text;rw [if_neg (by simpa using he)]
  have hll:c.left.length≤1099511627776:=by unfold Cu.left;rw [Lld];have:=hc.ok.len;omega
  have hlen:textE most c.left=0→textL c.left≤c.left.length:=textE_len;rw [hnum] at hK;generalize hE:textE most c.left=E at hK hlen;refine reads_ok hc2 he hne5 (R:=fun k e x=>(e=0→k=textL c.left)∧e=E∧Blk x b5 [LV.toV (.str (if E=0 then textV c.left else []))]) ?_ ?_ ?_
  ·intro s' y hM hr hk k hcont;refine callV_func (by kernel_rfl) [Az s',Ap (some (b3,0)),Ap (some (b5,0))] rfl ?_;refine text1_ok hr hll (hM.blk hB3 id) (hM.blk hB5 id) fun y' hb hM'=>?_;rw [hE] at hb ⊢;have:=hcont (if E=0 then textL c.left else 0) E y' ⟨fun h=>by rw [if_pos h],rfl,hb⟩ hM';by_cases h0:E=0
   ·rw [if_pos h0] at this ⊢;exact this
   ·rw [if_neg h0] at this ⊢;exact this
  ·rintro k x ⟨h1,h2,_⟩;rw [h1 rfl];exact hlen h2.symm
  ·rintro k e x y ⟨hk,rfl,hb⟩ hM hbc hM2;have hb2:=hM2.blk hb hne5;have hMM:Mod (fun b=>b=bc) w y:=(h2.mod.trans hM (D:=fun b=>b=b5) (fun _ _ h=>h.elim) fun _ _ h=>h).trans hM2 (fun b hb h=>absurd hb (by omega)) fun _ _ h=>h;have hgo:c.go k e=c.go (textL c.left) e:=by
    unfold Cu.go;by_cases h0:e=0
    ·rw [if_pos h0,if_pos h0,hk h0]
    ·rw [if_neg h0,if_neg h0]
   rw [hgo] at hbc;refine hb2.ldK (k:=.str) _ rfl ?_;exact hK y ⟨hbc,by rw [show (_:Str×Cu).2.b=c.b from Cu.go_55 c _ _];exact hc.rd.keep hMM fun b hb=>hc.ne b hb,hc.ne,hc.ok.go hlen⟩ hMM
 ·have hnum:c.text most=([],c):=by unfold Cu.text;rw [if_pos he]
  rw [hnum] at hK;refine reads_failed hc2 he (hB5.ldK (k:=.str) [] rfl (hK _ hc2 (h2.mod.mono fun _ _ h=>h.elim)))
theorem fail_ok{w:World}{bc:Nat}{s:Sl}{c:Cu}(hc:CurAt w bc s c){e:Int}{K:Wp}(hK:∀w',CurAt w' bc s (c.fail e)→Mod (fun b=>b=bc) w w'→K w') :
  callK Pg c_90 [Ap (some (bc,0)),Ai e] w (.tup []) K:=by
 refine go_90 _ _ _ _ ?_;refine (At.init w F0).alK fun b3 w1 hb3 h1 M1=>?_;have hc1:=hc.quiet M1;have hB3:Blk w1 b3 [.int .i64 e]:=h1.blk (i:=0) rfl;have hlt:=hc.blk.lt;by_cases he:c.e=0
 ·have hf:c.fail e=c.go 0 e:=by
   unfold Cu.fail Cu.go;rw [if_neg (by simpa using he)];by_cases h0:e=0
   ·rw [if_pos h0,h0,Nat.add_zero]
   ·rw [if_neg h0]
  rw [hf] at hK;refine reads_ok hc1 he (bt:=w1.heap.size) (by have:=hc1.blk.lt;omega) (R:=fun k e' x=>k=0∧e'=e) ?_ ?_ ?_
  ·intro s' y hM hr hk k hcont;refine callV_func (by kernel_rfl) [Az s',Ap (some (b3,0))] rfl ?_;refine go_91 _ _ _ _ _ ⟨F0,?_⟩;exact ((Mq y).blk (hM.blk hB3 id) id).ldDK (k:=Ki) e id rfl (hcont 0 e _ ⟨rfl,rfl⟩ ((Mq y).mono fun _ _ h=>h.elim))
  ·rintro k x ⟨rfl,_⟩;exact Nzl _
  ·rintro k e' x y ⟨rfl,rfl⟩ hM hbc hM2;have hMM:Mod (fun b=>b=bc) w y:=(M1.trans hM (D:=fun b=>b=w1.heap.size) (fun _ _ h=>h.elim) fun _ _ h=>h).trans hM2 (fun b hb h=>by have:=M1.size;omega) fun _ _ h=>h;exact hK y ⟨hbc,by rw [Cu.go_55];exact hc.rd.keep hMM fun b hb=>hc.ne b hb,hc.ne,hc.ok.go fun _=>Nzl _⟩ hMM
 ·have hf:c.fail e=c:=by unfold Cu.fail;rw [if_pos he]
  rw [hf] at hK;exact reads_failed hc1 he (hK _ hc1 (M1.mono fun _ _ h=>h.elim))
set_option maxRecDepth 100000
theorem go_92(b1:Sl)(K:Bool→Int→Sl→Int→Wp)(w:World)(h:al w 52 [.lit false,.int .i64 0,.sl (⟨none,0,0⟩)] fun b2 W3=>callK Pg 85 [Az b1] W3 Oq fun p4 W5=>al W5 52 [.lit false,.int .i64 0,.sl (⟨none,0,0⟩)] fun b6 W7=>callK Pg 121 [Ap p4,Ai 1] W7 (.one (.leaf (.int .u64))) fun n8 W9=>joinK [] (fun k10=>ifK (n8==0) (k10 W9) (joinK [] (fun k11=>ifK (n8==255) (st W9 b6 0 [.lit true] fun W12=>k11 W12) (st W9 b6 1 [.int .i64 (w64 (n8))] fun W13=>callK Pg 86 [Ap p4,Ai 4096] W13 Oi fun n14 W15=>callK Pg 122 [Ap p4,Ai n14] W15 Oz fun a16 W17=>st W17 b6 2 [.sl a16] fun W18=>ld W18 .bool b6 0 fun c19=>ld W18 Ki b6 1 fun n20=>ld W18 .sl b6 2 fun a21=>callK Pg 123 [.agg [.bool c19,.int .i64 n20,.sl a21]] W18 Oi fun n22 W23=>ifK (n22 != 3) (st W23 b2 0 [.lit false,.int .i64 0,.sl (⟨none,0,0⟩)] fun W24=>ld W24 .bool b2 0 fun c25=>ld W24 Ki b2 1 fun n26=>ld W24 .sl b2 2 fun a27=>K c25 n26 a27 70 W24) (k11 W23))) fun W28=>k10 W28)) fun W29=>callK Pg 92 [Ap p4] W29 (.one (.agg [Ki,Ki])) fun n30 n31 W32=>ifK (n30 != 0) (st W32 b2 0 [.lit false,.int .i64 0,.sl (⟨none,0,0⟩)] fun W33=>ld W33 .bool b2 0 fun c34=>ld W33 Ki b2 1 fun n35=>ld W33 .sl b2 2 fun a36=>K c34 n35 a36 70 W33) (ld W32 .bool b6 0 fun c37=>ld W32 Ki b6 1 fun n38=>ld W32 .sl b6 2 fun a39=>st W32 b2 0 [.bool c37,.int .i64 n38,.sl a39] fun W40=>ld W40 .bool b2 0 fun c41=>ld W40 Ki b2 1 fun n42=>ld W40 .sl b2 2 fun a43=>K c41 n42 a43 0 W40)):callK Pg 88 [Az b1] w (.tup [.agg [.bool,Ki,.sl],Li]) K:=Fq (n:=(n0 .nil (n0 .nil (n0 .nil (n0 (n0 .nil (n0 .nil (n0 (n0 .nil (.mk (some []) [] [2,4,5] .done .nil (n0 .nil (.mk (some []) [] [2,4,5] .done .nil .nil)))) .nil))) .nil))))) CS_ok mixed Tryz.func88 (Eq.mpr (by kernel_rfl) h)
theorem go_93(f_0_1:Bool)(f_1_2:Int)(f_2_3:Sl)(K:Sl→Int→Wp)(w:World)(h:al w 52 [.bool f_0_1,.int .i64 f_1_2,.sl f_2_3] fun b4 W5=>ld W5 .bool b4 0 fun c6=>ld W5 Ki b4 1 fun n7=>ld W5 .sl b4 2 fun a8=>callK Pg 123 [.agg [.bool c6,.int .i64 n7,.sl a8]] W5 Oi fun n9 W10=>ifK (n9==1) (al W10 5 [.int .u8 255] fun b11 W12=>K (⟨some (b11,0),1,1⟩) 0 W12) (ifK (n9==2) (al W10 5 [.int .u8 0] fun b13 W14=>K (⟨some (b13,0),1,1⟩) 0 W14) (ifK (n9==3) (joinK [.sl] (fun k15=>drawK W10 fun D W16=>ldD D W16 Ki b4 1 fun n17=>ldD D W16 .sl b4 2 fun a18=>(al W16 5 [.int .u8 (IntKind.wrap .u8 (n17))] fun b19 W20=>Mod D W16 W20∧callK Pg 129 [Ai (a18.len:Int)] W20 Oz fun a21 W22=>Mod D W16 W22∧ap W22 5 1 1 [.int .u8 0] (⟨some (b19,0),1,1⟩) a21 fun a23 W24=>Mod D W16 W24∧k15 a23 W24)∧(callK Pg 129 [Ai (a18.len:Int)] W16 Oz fun a25 W26=>Mod D W16 W26∧al W26 5 [.int .u8 (IntKind.wrap .u8 (n17))] fun b27 W28=>Mod D W16 W28∧ap W28 5 1 1 [.int .u8 0] (⟨some (b27,0),1,1⟩) a25 fun a29 W30=>Mod D W16 W30∧k15 a29 W30)) fun b31 W32=>ld W32 .sl b4 2 fun a33=>ap W32 5 1 1 [.int .u8 0] b31 a33 fun a34 W35=>K a34 0 W35) (K (⟨none,0,0⟩) 70 W10)))):callK Pg 130 [.agg [.bool f_0_1,.int .i64 f_1_2,.sl f_2_3]] w (.tup [Ls,Li]) K:=Fq (n:=(n0 .nil (n0 (n0 .nil (n0 (n0 .nil (n0 .nil (n0 .nil (n0 .nil (n0 .nil (n0 (n0 (.mk (some [.tmp 4 Ls]) [] [1] (tk [0,1,2,4,5,6] (.two 3 (.eff 7 (.eff 8 (.take 9 .done))) 7 (.eff 3 (.eff 8 (.take 9 .done))))) .nil .nil) .nil) .nil)))))) .nil)) .nil))) CS_ok mixed Tryz.func130 (Eq.mpr (by kernel_rfl) h)
theorem CuG.under{w w1 u:World}{m0 m:BL}{bc:Nat}{sC:Sl}{c:Cu}(f:Fresh w w1 F0 m0)(h:CuG w1 u bc sC m c)(hlo:∀b,rk sC b→w1.heap.size≤b):CuG w u bc sC (m0++m) c:=
 ⟨f.join h.f (fun _ _ h=>h) (fun _ _ _ h=>h),h.cur,h.low,fun p hp=>by
  rcases Lma.1 hp with hp | hp
  ·have h1:=(f.own p hp).lt;have h2:=h.new;exact⟨by omega,fun hr=>by have:=hlo _ hr;omega⟩
  ·exact h.out p hp,Nat.le_trans f.mod.size h.new⟩
theorem fixed1_lt(c:Cu):(c.fixed 1).1<256:=by
 by_cases he:c.e=0
 ·rw [Cu.fixed_eq he];show (if fixE 1 c.left.length=0 then wordN (c.left.take (1:Int).toNat) else 0)<256;split
  ·have h:=wordF_lt ((c.left.take (1:Int).toNat).take 8);have h2:((c.left.take (1:Int).toNat).take 8).length≤1:=by simp;omega
   have h3:256^((c.left.take (1:Int).toNat).take 8).length≤256^1:=Nat.pow_le_pow_right (by decide) h2;show wordF ((c.left.take (1:Int).toNat).take 8)<256;omega
  ·exact Nat.zero_lt_succ _
 ·unfold Cu.fixed;rw [if_pos he];exact Nat.zero_lt_succ _
structure Flt where
 all:Bool
 hashes:Int
 data:Str
def Flt.no:Flt:=⟨false,0,[]⟩
def filtD(b:Str):Flt×Int:=
 let x:=(Cu.mk b 0 0).fixed 1
 if x.1=0 then (if x.2.done.1≠0 then (Flt.no,70) else (Flt.no,0))
 else if x.1=255 then (if x.2.done.1≠0 then (Flt.no,70) else (⟨true,0,[]⟩,0))
 else
  let n:=x.2.num 4096
  let d:=n.2.take n.1
  if kindN false x.1 d.1.length≠3 then (Flt.no,70) else if d.2.done.1≠0 then (Flt.no,70) else (⟨false,x.1,d.1⟩,0)
def fltC(a:Bool)(h:Int)(s:Sl):List Value:=[(LV.bool a).toV,.int .i64 h,(LV.sl s).toV]
set_option maxHeartbeats 1000000 in
theorem filtDecode_ok{w:World}{s:Sl}{t:Str}(hr:RdS w ET s t)(hl:t.length≤1099511627776){K:Bool→Int→Sl→Int→Wp}
  (hK:∀w' ro s',VecL ro ET s' (filtD t).1.data→Fresh w w' F0 ro→K (filtD t).1.all (filtD t).1.hashes s' (filtD t).2 w') :
  callK Pg c_92 [Az s] w (.tup [.agg [.bool,Ki,.sl],Li]) K:=by
 refine go_92 _ _ _ ?_;refine (Fresh.start w F0).alK fun b2 w1 f1 _ M1=>?_;refine newCursor_G (hr.quiet M1) hl fun w2 bc sC h2 hlo=>?_;have h2:=CuG.under f1 h2 hlo;refine h2.alK fun b6 w3 h3=>?_;have h3:CuG w w3 bc sC [(b2,fltC false 0 ⟨none,0,0⟩),(b6,fltC false 0 ⟨none,0,0⟩)] ⟨t,0,0⟩:=h3;refine fixed_ok h3.cur fun w4 c4 M4=>?_;have h4:=h3.upd c4 (Fresh.none M4);have hlt:=fixed1_lt ⟨t,0,0⟩;unfold filtD at hK;dsimp only at hK;generalize (Cu.mk t 0 0).fixed 1=x at hK c4 h4 hlt;obtain⟨v,c⟩:=x;dsimp only at hK c4 h4 hlt ⊢;rw [Lan] at h4
 have bad:∀{u:World} {m:BL} {X:List Value} {c':Cu},X.length=3→CuG w u bc sC ((b2,X)::m) c'→(∀w' ro s',VecL ro ET s' []→Fresh w w' F0 ro→K false 0 s' 70 w') →
   Go.Vw.st u b2 0 [.lit false,.int .i64 0,.sl (⟨none,0,0⟩)] fun u'=>Go.Vw.ld u' .bool b2 0 fun c34=>Go.Vw.ld u' Ki b2 1 fun n35=>Go.Vw.ld u' .sl b2 2 fun a36=>K c34 n35 a36 70 u':=fun {u m X c'} hX h hK=>by
  refine h.stK 0 rfl (by simp [hX]) fun u' h'=>?_;have hB:Blk u' b2 (fltC false 0 ⟨none,0,0⟩):=by
   have:=h'.blk (i:=0) rfl;rw [spl_eq _ _ _ (by simp [hX]),Ldn (by simp [hX]),Lan] at this;exact this
  exact hB.ldK (k:=.bool) false rfl (hB.ldK (k:=Ki) 0 rfl (hB.ldK (k:=.sl) ⟨none,0,0⟩ rfl (hK u' [] _ (VecL.nil ET) (h'.f.sub (List.nil_sublist _)))))
 have good:∀{u:World} {ro:BL} {a:Bool} {h:Int} {s6:Sl} {d:Str} {c':Cu},CuG w u bc sC ([(b2,fltC false 0 ⟨none,0,0⟩),(b6,fltC a h s6)]++ro) c'→VecL ro ET s6 d →
   (c'.done.1≠0→∀w' ro s',VecL ro ET s' []→Fresh w w' F0 ro→K false 0 s' 70 w')→(c'.done.1=0→∀w' ro s',VecL ro ET s' d→Fresh w w' F0 ro→K a h s' 0 w') →
   callK Pg c_64 [Ap (some (bc,0))] u (.one (.agg [Ki,Ki])) fun n30 n31 W32=>
   ifK (n30 != 0)
   (Go.Vw.st W32 b2 0 [.lit false,.int .i64 0,.sl (⟨none,0,0⟩)] fun W33=>Go.Vw.ld W33 .bool b2 0 fun c34=>Go.Vw.ld W33 Ki b2 1 fun n35=>Go.Vw.ld W33 .sl b2 2 fun a36=>K c34 n35 a36 70 W33)
   (Go.Vw.ld W32 .bool b6 0 fun c37=>Go.Vw.ld W32 Ki b6 1 fun n38=>Go.Vw.ld W32 .sl b6 2 fun a39=>
    Go.Vw.st W32 b2 0 [.bool c37,.int .i64 n38,.sl a39] fun W40=>Go.Vw.ld W40 .bool b2 0 fun c41=>Go.Vw.ld W40 Ki b2 1 fun n42=>Go.Vw.ld W40 .sl b2 2 fun a43=>K c41 n42 a43 0 W40):=fun {u ro a h s6 d c'} hG hv hB hS=>by
  refine end_ok hG.cur fun u' _ M'=>?_;have hG:=hG.quiet M';refine Iq (fun q=>?_) fun q=>?_
  ·exact bad rfl hG (hB (by simpa using q))
  ·have q:c'.done.1=0:=by simpa using q
   have h6:=hG.blk (i:=1) rfl;refine h6.ldK (k:=.bool) a rfl (h6.ldK (k:=Ki) h rfl (h6.ldK (k:=.sl) s6 rfl ?_));refine hG.stK 0 rfl (Nlr 3) fun u2 h2=>?_;have h2:CuG w u2 bc sC ([(b2,fltC a h s6),(b6,fltC a h s6)]++ro) c':=h2;have hb:=h2.blk (i:=0) rfl;exact hb.ldK (k:=.bool) a rfl (hb.ldK (k:=Ki) h rfl (hb.ldK (k:=.sl) s6 rfl (hS q u2 ro s6 hv (h2.f.sub (Lsr _ _)))))
 refine join0 (fun u=>∃(ro:BL) (a:Bool) (h:Int) (s6:Sl) (d:Str) (c':Cu),CuG w u bc sC ([(b2,fltC false 0 ⟨none,0,0⟩),(b6,fltC a h s6)]++ro) c'∧VecL ro ET s6 d ∧
   (c'.done.1≠0→∀w' ro s',VecL ro ET s' []→Fresh w w' F0 ro→K false 0 s' 70 w')∧(c'.done.1=0→∀w' ro s',VecL ro ET s' d→Fresh w w' F0 ro→K a h s' 0 w')) ?_ ?_
 rotate_left
 ·rintro u ⟨ro,a,h,s6,d,c',hG,hv,hB,hS⟩;exact good hG hv hB hS
 intro k10 hk10;refine Iq (fun q=>?_) fun q=>?_
 ·have q:v=0:=by have:(v:Int)=0:=(by simpa using q);omega
  rw [if_pos q] at hK;refine hk10 _ ⟨[],false,0,⟨none,0,0⟩,[],c,h4,VecL.nil ET,fun e=>?_,fun e=>?_⟩
  ·rw [if_pos e] at hK;exact hK
  ·rw [if_neg (by simpa using e)] at hK;exact hK
 have q:¬v=0:=by have:¬(v:Int)=0:=(by simpa using q);omega
 rw [if_neg q] at hK;refine join0 (fun u=>∃(ro:BL) (a:Bool) (h:Int) (s6:Sl) (d:Str) (c':Cu),CuG w u bc sC ([(b2,fltC false 0 ⟨none,0,0⟩),(b6,fltC a h s6)]++ro) c'∧VecL ro ET s6 d ∧
   (c'.done.1≠0→∀w' ro s',VecL ro ET s' []→Fresh w w' F0 ro→K false 0 s' 70 w')∧(c'.done.1=0→∀w' ro s',VecL ro ET s' d→Fresh w w' F0 ro→K a h s' 0 w')) ?_ (fun u h=>hk10 u h)
 intro k11 hk11;refine Iq (fun q2=>?_) fun q2=>?_
 ·have q2:v=255:=by have:(v:Int)=255:=(by simpa using q2);omega
  rw [if_pos q2] at hK;refine h4.stK 1 rfl (by decide:0+1≤3) fun w5 h5=>?_;refine hk11 _ ⟨[],true,0,⟨none,0,0⟩,[],c,h5,VecL.nil ET,fun e=>?_,fun e=>?_⟩
  ·rw [if_pos e] at hK;exact hK
  ·rw [if_neg (by simpa using e)] at hK;exact hK
 have q2:¬v=255:=by have:¬(v:Int)=255:=(by simpa using q2);omega
 rw [if_neg q2] at hK;have ev:w64 (v:Int)=(v:Int):=w64N (by omega);rw [ev];refine h4.stK 1 rfl (by decide:1+1≤3) fun w5 h5=>?_;have h5:CuG w w5 bc sC [(b2,fltC false 0 ⟨none,0,0⟩),(b6,fltC false v ⟨none,0,0⟩)] c:=h5;refine num_ok h5.cur fun w6 c6 M6=>?_;have h6:=h5.upd c6 (Fresh.none M6);generalize c.num 4096=n at hK c6 h6;refine take_ok h6.cur fun w7 ro7 s7 c7 v7 F7=>?_;have h7:=h6.upd c7 F7;generalize n.2.take n.1=d at hK c7 h7 v7;rw [Lan] at h7;refine h7.stK 1 rfl (by decide:2+1≤3) fun w8 h8=>?_;have h8:CuG w w8 bc sC ([(b2,fltC false 0 ⟨none,0,0⟩),(b6,fltC false v s7)]++ro7) d.2:=h8;have hB:=h8.blk (i:=1) rfl;refine hB.ldK (k:=.bool) false rfl (hB.ldK (k:=Ki) (v:Int) rfl (hB.ldK (k:=.sl) s7 rfl ?_));refine kind_ok (n:=d.1.length) v7.1 fun w9 M9=>?_;have h9:=h8.quiet M9;refine Iq (fun q3=>?_) fun q3=>?_
 ·have q3:kindN false v d.1.length≠3:=by simpa using q3
  rw [if_pos q3] at hK;exact bad rfl h9 hK
 have q3:¬kindN false v d.1.length≠3:=by simpa using q3
 rw [if_neg q3] at hK;refine hk11 _ ⟨ro7,false,v,s7,d.1,d.2,h9,v7,fun e=>?_,fun e=>?_⟩
 ·rw [if_pos e] at hK;exact hK
 ·rw [if_neg (by simpa using e)] at hK;exact hK
def encF(f:Flt):Str×Int:=if kindN f.all f.hashes f.data.length=1 then ([255],0) else if kindN f.all f.hashes f.data.length=2 then ([0],0) else if kindN f.all f.hashes f.data.length=3 then (UInt8.ofNat f.hashes.toNat::putN f.data.length++f.data,0) else ([],70)
theorem kindN_3{a:Bool}{h:Int}{n:Nat}(k:kindN a h n=3):a=false∧1≤h∧h≤8∧1≤n∧n≤4096:=by
 unfold kindN at k;split at k
 ·cases k
 split at k
 ·cases k
 split at k
 ·assumption
 ·cases k
theorem byte1(b:Nat)(c:UInt8):VecL [(b,[LV.toV (.int .u8 (c.toNat:Int))])] ET ⟨some (b,0),1,1⟩ [c]:=⟨rfl,Nlr _,.inr ⟨b,[],rfl,rfl,Nlr _⟩⟩
theorem filtEncode_ok{w:World}{a:Bool}{h:Int}{s:Sl}{d:Str}(hr:RdS w ET s d)(hl:d.length≤1099511627776){K:Sl→Int→Wp}
  (hK:∀w' ro s',VecL ro ET s' (encF ⟨a,h,d⟩).1→Fresh w w' F0 ro→K s' (encF ⟨a,h,d⟩).2 w') :
  callK Pg c_93 [.agg [.bool a,.int .i64 h,.sl s]] w (.tup [Ls,Li]) K:=by
 refine go_93 _ _ _ _ _ ?_;refine (Fresh.start w F0).alK fun b4 w1 f1 _ M1=>?_;have f1:Fresh w w1 F0 [(b4,fltC a h s)]:=f1;have hB:=f1.blk (i:=0) rfl;refine hB.ldK (k:=.bool) a rfl (hB.ldK (k:=Ki) h rfl (hB.ldK (k:=.sl) s rfl ?_));have hr1:=hr.quiet M1;refine kind_ok (n:=d.length) hr.len fun w2 M2=>?_;have f2:=f1.quiet M2;have hr2:=hr1.quiet M2;unfold encF at hK;dsimp only at hK;refine Iq (fun q=>?_) fun q=>?_
 ·have q:kindN a h d.length=1:=by simpa using q
  simp only [if_pos q] at hK;exact f2.alK fun b u fu _ _=>hK u _ _ (byte1 b 255) (fu.sub (Lsr _ _))
 have q:¬kindN a h d.length=1:=by simpa using q
 simp only [if_neg q] at hK;refine Iq (fun q=>?_) fun q=>?_
 ·have q:kindN a h d.length=2:=by simpa using q
  simp only [if_pos q] at hK;exact f2.alK fun b u fu _ _=>hK u _ _ (byte1 b 0) (fu.sub (Lsr _ _))
 have q:¬kindN a h d.length=2:=by simpa using q
 simp only [if_neg q] at hK;refine Iq (fun q=>?_) fun q=>?_;rotate_left
 ·have q:¬kindN a h d.length=3:=by simpa using q
  simp only [if_neg q] at hK;exact hK w2 [] _ (VecL.nil ET) (f2.sub (List.nil_sublist _))
 have q:kindN a h d.length=3:=by simpa using q
 simp only [if_pos q] at hK;obtain⟨_,h1,h8,d1,d2⟩:=kindN_3 q;have hpl:(putN d.length).length≤9:=putN_len d.length 8 (by omega);have ec:IntKind.wrap .u8 h=(((UInt8.ofNat h.toNat).toNat:Nat):Int):=by
  have:(UInt8.ofNat h.toNat).toNat=h.toNat%256:=rfl;rw [this];show h%256=_;omega
 refine join1 (a:=.sl) (fun s15 u=>∃ro,Fresh w u F0 ([(b4,fltC a h s)]++ro)∧VecL ro ET s15 (UInt8.ofNat h.toNat::putN d.length)) ?_ ?_;rotate_left
 ·rintro s15 u ⟨ro,f,v⟩;have hB:=f.blk (i:=0) rfl;refine hB.ldK (k:=.sl) s rfl ?_;have hru:=hr.quiet f.mod;refine Fresh.app f v hru rfl rfl (by simp;omega) fun s' ro' u' f' v' _=>hK u' ro' s' v' (f'.sub (Lsr _ _))
 intro k15 hk15;have f3:=f2.quiet (Mq w2);have hB3:=f3.blk (i:=0) rfl;refine⟨F0,hB3.ldDK (k:=Ki) h id rfl (hB3.ldDK (k:=.sl) s id rfl ?_)⟩;rw [hr.len,ec];have fin:∀{u u':World} {s23:Sl} {ro:BL},Fresh w2.drew u' F0 ro→VecL ro ET s23 (UInt8.ofNat h.toNat::putN d.length)→k15 s23 u':=fun f v=>
  hk15 _ _ ⟨_,f3.join f (fun _ _ h=>h) (fun _ _ _ h=>h),v⟩
 refine⟨?_,?_⟩
 ·refine (Fresh.start w2.drew F0).alK fun b19 u1 g1 _ _=>⟨g1.mod,put_ok (by omega) fun u2 ro2 s2 g2 v2=>?_⟩;have g2:Fresh w2.drew u2 F0 (ro2++[(b19,[LV.toV (.int .u8 (((UInt8.ofNat h.toNat).toNat:Nat):Int))])]):=(g1.join (Fresh.of_at g2) (fun _ _ h=>h) (fun _ _ _ h=>h)).perm Lpc;refine⟨g2.mod,Fresh.app g2 (byte1 b19 _) (v2.rd fun p hp=>g2.own p (Lml _ hp)) rfl rfl (by simp;omega) fun s' ro' u' f' v' _=>⟨f'.mod,fin (u:=u2) (f'.sub (Lsr _ _)) v'⟩⟩
 ·refine put_ok (by omega) fun u2 ro2 s2 g2 v2=>⟨g2.mod,?_⟩;refine (Fresh.of_at g2).alK fun b19 u3 g3 _ _=>⟨g3.mod,?_⟩;refine Fresh.app g3 (byte1 b19 _) (v2.rd fun p hp=>g3.own p (Lml _ hp)) rfl rfl (by simp;omega) fun s' ro' u' f' v' _=>⟨f'.mod,fin (u:=u2) (f'.sub (Lsr _ _)) v'⟩
set_option maxRecDepth 100000
theorem go_94(b_0_1:Int)(b_1_2:Int)(b_2_3:Int)(b_3_4:List UInt8)(last5:List UInt8)(K:Bool→Wp)(w:World)(h:al w 57 [.int .i64 b_0_1,.int .i64 b_1_2,.int .i64 b_2_3,.str b_3_4] fun b6 W7=>joinK [.bool] (fun k8=>ld W7 Ki b6 0 fun n9=>ifK (decide (1≤n9)) (ld W7 Ki b6 0 fun n10=>ifK (decide (n10≤65536)) (ld W7 Ki b6 1 fun n11=>ifK (decide (1≤n11)) (ld W7 Ki b6 1 fun n12=>ifK (decide (n12≤65536)) (ld W7 Ki b6 1 fun n13=>ld W7 Ki b6 0 fun n14=>ifK (decide (n13≤w64 (64*n14))) (ld W7 Ki b6 2 fun n15=>ifK (decide (1≤n15)) (ld W7 Ki b6 2 fun n16=>ld W7 Ki b6 1 fun n17=>ifK (decide (n16≤n17)) (ld W7 .str b6 3 fun s18=>ifK (decide ((s18.length:Int)≤64)) (ld W7 .str b6 3 fun s19=>callK Pg 44 [Au s19,Au last5] W7 Oi fun n20 W21=>k8 (decide (0≤n20)) W21) (k8 false W7)) (k8 false W7)) (k8 false W7)) (k8 false W7)) (k8 false W7)) (k8 false W7)) (k8 false W7)) (k8 false W7)) fun t422 W23=>K t422 W23):callK Pg 127 [.agg [.int .i64 b_0_1,.int .i64 b_1_2,.int .i64 b_2_3,.str b_3_4],Au last5] w Ob K:=Fq (n:=(n0 .nil (n0 (.mk (some [.tmp 4 Lb]) [] [] .done .nil .nil) .nil))) CS_ok mixed Tryz.func127 (Eq.mpr (by kernel_rfl) h)
theorem go_95(f_0_1:Int)(f_1_2:Sl)(K:Int→Wp)(w:World)(h:al w 42 [.int .i64 f_0_1,.sl f_1_2] fun b3 W4=>joinK [.bool] (fun k5=>ld W4 Ki b3 0 fun n6=>ifK (decide (n6<1)) (k5 true W4) (ld W4 Ki b3 0 fun n7=>k5 (decide (65535<n7)) W4)) fun t178 W9=>ifK t178 (K 80 W9) (ld W9 .sl b3 1 fun a10=>joinK [] (fun k11=>loopL [Ki,Ki,Ki] (fun last13 blocks14 t2115 W16 g12=>ifK (decide (t2115<(a10.len:Int))) (ix a10 5 t2115 fun b17 o18=>ld W16 Ki b17 o18 fun n19=>ld W16 .sl b17 (o18+1) fun a20=>ld W16 .bool b17 (o18+2) fun c21=>ld W16 Ki b17 (o18+3) fun n22=>ld W16 .sl b17 (o18+4) fun a23=>al W16 54 [.int .i64 0,.sl (⟨none,0,0⟩),.lit false,.int .i64 0,.sl (⟨none,0,0⟩)] fun b24 W25=>st W25 b24 0 [.int .i64 n19,.sl a20,.bool c21,.int .i64 n22,.sl a23] fun W26=>ld W26 .sl b24 1 fun a27=>joinK [.bool] (fun k28=>ld W26 Ki b24 0 fun n29=>ifK (decide (n29≤last13)) (k28 true W26) (ld W26 Ki b24 0 fun n30=>ld W26 Ki b3 0 fun n31=>ifK (decide (n31≤n30)) (k28 true W26) (ld W26 .sl b24 1 fun a32=>ifK ((a32.len:Int)==0) (k28 true W26) (ifK (decide (262144<w64 (blocks14+(a27.len:Int)))) (k28 true W26) (ld W26 .bool b24 2 fun c33=>ld W26 Ki b24 3 fun n34=>ld W26 .sl b24 4 fun a35=>callK Pg 126 [.agg [.bool c33,.int .i64 n34,.sl a35]] W26 Oi fun n36 W37=>k28 (n36 != 0) W37))))) fun t5638 W39=>ifK t5638 (K 80 W39) (ld W39 Ki b24 0 fun n40=>ld W39 .sl b24 1 fun a41=>joinK [] (fun k42=>loopL [.str,Ki] (fun key44 t6245 W46 g43=>ifK (decide (t6245<(a41.len:Int))) (ix a41 4 t6245 fun b47 o48=>ld W46 Ki b47 o48 fun n49=>ld W46 Ki b47 (o48+1) fun n50=>ld W46 Ki b47 (o48+2) fun n51=>ld W46 .str b47 (o48+3) fun s52=>al W46 57 [.int .i64 0,.int .i64 0,.int .i64 0,.str []] fun b53 W54=>st W54 b53 0 [.int .i64 n49,.int .i64 n50,.int .i64 n51,.str s52] fun W55=>ld W55 Ki b53 0 fun n56=>ld W55 Ki b53 1 fun n57=>ld W55 Ki b53 2 fun n58=>ld W55 .str b53 3 fun s59=>callK Pg 127 [.agg [.int .i64 n56,.int .i64 n57,.int .i64 n58,.str s59],Au key44] W55 Ob fun c60 W61=>ifK (!c60) (K 80 W61) (ld W61 .str b53 3 fun s62=>g43 s62 (w64 (t6245+1)) W61)) (k42 W46)) [.str [],.int .i64 0] W39) fun W63=>g12 n40 (w64 (blocks14+(a27.len:Int))) (w64 (t2115+1)) W63)) (k11 W16)) [.int .i64 (-1),.int .i64 0,.int .i64 0] W9) fun W64=>K 0 W64)):callK Pg 93 [.agg [.int .i64 f_0_1,.sl f_1_2]] w Oi K:=Fq (n:=(n0 .nil (n0 (n0 (.mk (some [.tmp 17 Lb]) [] [1] .done .nil .nil) .nil) (n0 .nil (n0 (n0 .nil (.mk (some []) [] [] .done (.mk none [.tmp 3 Li,.tmp 4 Li,.tmp 21 Li] [1,19,20] .done (n0 .nil (n0 .nil (n0 (n0 (n0 .nil (n0 .nil (n0 (n0 (.mk (some [.tmp 56 Lb]) [] [1,4,6,19,20,21] .done .nil .nil) .nil) (n0 .nil (n0 .nil (n0 .nil (.mk (some []) [] [1,3,4,19,20,21] .done (.mk none [.tmp 7 Lt,.tmp 62 Li] [1,3,4,19,20,21,60,61] .done .nil .nil) .nil))))))) .nil) .nil))) .nil) .nil)) .nil))))) CS_ok mixed Tryz.func93 (Eq.mpr (by kernel_rfl) h)
theorem go_98(f_0_1:Int)(f_1_2:Sl)(K:Sl→Wp)(w:World)(h:al w 42 [.int .i64 f_0_1,.sl f_1_2] fun b3 W4=>al W4 22 [.sl (⟨none,0,0⟩)] fun b5 W6=>ld W6 Ki b3 0 fun n7=>ld W6 .sl b3 1 fun a8=>al W6 3 [.int .i64 n7,.int .i64 (a8.len:Int)] fun b9 W10=>callV Pg (.func (.func 128) #[] #[(LV.toV (.ptr (some (b5,0))))]) [Az (⟨some (b9,0),2,2⟩)] W10 (.tup []) fun W11=>ld W11 .sl b3 1 fun a12=>joinK [] (fun k13=>loopL [Ki,Ki] (fun last15 t2616 W17 g14=>ifK (decide (t2616<(a12.len:Int))) (ix a12 5 t2616 fun b18 o19=>ld W17 Ki b18 o19 fun n20=>ld W17 .sl b18 (o19+1) fun a21=>ld W17 .bool b18 (o19+2) fun c22=>ld W17 Ki b18 (o19+3) fun n23=>ld W17 .sl b18 (o19+4) fun a24=>al W17 54 [.int .i64 0,.sl (⟨none,0,0⟩),.lit false,.int .i64 0,.sl (⟨none,0,0⟩)] fun b25 W26=>st W26 b25 0 [.int .i64 n20,.sl a21,.bool c22,.int .i64 n23,.sl a24] fun W27=>ld W27 .bool b25 2 fun c28=>ld W27 Ki b25 3 fun n29=>ld W27 .sl b25 4 fun a30=>callK Pg 130 [.agg [.bool c28,.int .i64 n29,.sl a30]] W27 (.tup [Ls,Li]) fun a31 n32 W33=>ld W33 Ki b25 0 fun n34=>al W33 3 [.int .i64 (w64 ((w64 (n34-last15))-1)),.int .i64 (a31.len:Int)] fun b35 W36=>callV Pg (.func (.func 128) #[] #[(LV.toV (.ptr (some (b5,0))))]) [Az (⟨some (b35,0),2,2⟩)] W36 (.tup []) fun W37=>ld W37 .sl b5 0 fun a38=>ap W37 5 1 1 [.int .u8 0] a38 a31 fun a39 W40=>st W40 b5 0 [.sl a39] fun W41=>ld W41 .sl b25 1 fun a42=>al W41 3 [.int .i64 (a42.len:Int)] fun b43 W44=>callV Pg (.func (.func 128) #[] #[(LV.toV (.ptr (some (b5,0))))]) [Az (⟨some (b43,0),1,1⟩)] W44 (.tup []) fun W45=>ld W45 Ki b25 0 fun n46=>ld W45 .sl b25 1 fun a47=>joinK [] (fun k48=>loopL [.str,Ki] (fun key50 t6051 W52 g49=>ifK (decide (t6051<(a47.len:Int))) (ix a47 4 t6051 fun b53 o54=>ld W52 Ki b53 o54 fun n55=>ld W52 Ki b53 (o54+1) fun n56=>ld W52 Ki b53 (o54+2) fun n57=>ld W52 .str b53 (o54+3) fun s58=>al W52 57 [.int .i64 0,.int .i64 0,.int .i64 0,.str []] fun b59 W60=>st W60 b59 0 [.int .i64 n55,.int .i64 n56,.int .i64 n57,.str s58] fun W61=>ld W61 .str b59 3 fun s62=>callK Pg 131 [Au key50,Au s62] W61 Oi fun n63 W64=>ld W64 Ki b59 0 fun n65=>ld W64 Ki b59 1 fun n66=>ld W64 Ki b59 2 fun n67=>ld W64 .str b59 3 fun s68=>al W64 3 [.int .i64 n65,.int .i64 n66,.int .i64 n67,.int .i64 n63,.int .i64 (w64 ((s68.length:Int)-n63))] fun b69 W70=>callV Pg (.func (.func 128) #[] #[(LV.toV (.ptr (some (b5,0))))]) [Az (⟨some (b69,0),5,5⟩)] W70 (.tup []) fun W71=>drawK W71 fun D W72=>ldD D W72 .sl b5 0 fun a73=>ldD D W72 .str b59 3 fun s74=>ssx s74 (some n63) none fun s75=>opF Pg (builtin .append #[22,9] 22 #[false,false] #[(LV.toV (.sl a73)),(LV.toV (.str s75))]) W72 Oz fun a77 W76=>Mod D W72 W76∧st W76 b5 0 [.sl a77] fun W78=>ld W78 .str b59 3 fun s79=>g49 s79 (w64 (t6051+1)) W78) (k48 W52)) [.str [],.int .i64 0] W45) fun W80=>g14 n46 (w64 (t2616+1)) W80) (k13 W17)) [.int .i64 (-1),.int .i64 0] W11) fun W81=>ld W81 .sl b5 0 fun a82=>K a82 W81):callK Pg 94 [.agg [.int .i64 f_0_1,.sl f_1_2]] w Oz K:=Fq (n:=(n0 .nil (n0 .nil (n0 .nil (n0 .nil (n0 .nil (n0 (n0 .nil (.mk (some []) [] [3] .done (.mk none [.tmp 5 Li,.tmp 26 Li] [3,4,24,25] .done (n0 .nil (n0 .nil (n0 (n0 (n0 .nil (n0 .nil (n0 .nil (n0 .nil (n0 .nil (n0 .nil (n0 .nil (n0 .nil (.mk (some []) [] [3,4,5,24,25,26] .done (.mk none [.tmp 10 Lt,.tmp 60 Li] [3,4,5,24,25,26,58,59] .done (n0 .nil (n0 .nil (n0 (n0 (n0 .nil (n0 .nil (n0 .nil (n0 (.mk none [] [] (tk [0,1,2,3,4] (.eff 5 (.last 6))) .nil .nil) .nil)))) .nil) .nil))) .nil) .nil))))))))) .nil) .nil))) .nil) .nil)) .nil))))))) CS_ok mixed Tryz.func94 (Eq.mpr (by kernel_rfl) h)
theorem go_97(ns1:Sl)(t1B2:Nat)(t1O3:Nat)(K:Wp)(w:World)(h:joinK [] (fun k4=>loopL [Ki] (fun t76 W7 g5=>ifK (decide (t76<(ns1.len:Int))) (ix ns1 1 t76 fun b8 o9=>ld W7 Ki b8 o9 fun n10=>drawK W7 fun D W11=>ldD D W11 .sl t1B2 t1O3 fun a12=>callK Pg 129 [Ai n10] W11 Oz fun a13 W14=>Mod D W11 W14∧ap W14 5 1 1 [.int .u8 0] a12 a13 fun a15 W16=>Mod D W11 W16∧st W16 t1B2 t1O3 [.sl a15] fun W17=>g5 (w64 (t76+1)) W17) (k4 W7)) [.int .i64 0] w) fun W18=>K W18):callK Pg 128 [Az ns1,Ap (some (t1B2,t1O3))] w (.tup []) K:=Fq (n:=(n0 .nil (.mk (some []) [] [] .done (.mk none [.tmp 7 Li] [1,5,6] .done (n0 .nil (n0 .nil (n0 (n0 (n0 .nil (.mk none [] [] (.take 0 (.take 1 (.eff 2 (.eff 3 (.last 4))))) .nil .nil)) .nil) .nil))) .nil) .nil))) CS_ok mixed Tryz.func128 (Eq.mpr (by kernel_rfl) h)
theorem go_96(f_0_1:Int)(f_1_2:Sl)(K:Int→Wp)(w:World)(h:al w 42 [.int .i64 f_0_1,.sl f_1_2] fun b3 W4=>ld W4 .sl b3 1 fun a5=>joinK [Ki] (fun k6=>loopL [Ki,Ki] (fun n8 t119 W10 g7=>ifK (decide (t119<(a5.len:Int))) (ix a5 5 t119 fun b11 o12=>ld W10 Ki b11 o12 fun n13=>ld W10 .sl b11 (o12+1) fun a14=>ld W10 .bool b11 (o12+2) fun c15=>ld W10 Ki b11 (o12+3) fun n16=>ld W10 .sl b11 (o12+4) fun a17=>al W10 54 [.int .i64 0,.sl (⟨none,0,0⟩),.lit false,.int .i64 0,.sl (⟨none,0,0⟩)] fun b18 W19=>st W19 b18 0 [.int .i64 n13,.sl a14,.bool c15,.int .i64 n16,.sl a17] fun W20=>ld W20 .sl b18 1 fun a21=>joinK [Ki] (fun k22=>loopL [Ki,Ki] (fun n24 t1825 W26 g23=>ifK (decide (t1825<(a21.len:Int))) (ix a21 4 t1825 fun b27 o28=>ld W26 Ki b27 o28 fun n29=>ld W26 Ki b27 (o28+1) fun n30=>ld W26 Ki b27 (o28+2) fun n31=>ld W26 .str b27 (o28+3) fun s32=>al W26 57 [.int .i64 0,.int .i64 0,.int .i64 0,.str []] fun b33 W34=>st W34 b33 0 [.int .i64 n29,.int .i64 n30,.int .i64 n31,.str s32] fun W35=>ld W35 Ki b33 0 fun n36=>g23 (w64 (n24+(w64 (n36+5)))) (w64 (t1825+1)) W35) (k22 n24 W26)) [.int .i64 n8,.int .i64 0] W20) fun n37 W38=>g7 n37 (w64 (t119+1)) W38) (k6 n8 W10)) [.int .i64 0,.int .i64 0] W4) fun n39 W40=>K n39 W40):callK Pg 67 [.agg [.int .i64 f_0_1,.sl f_1_2]] w Oi K:=Fq (n:=(n0 .nil (n0 .nil (n0 (n0 .nil (.mk (some [.tmp 3 Li]) [] [] .done (.mk none [.tmp 3 Li,.tmp 11 Li] [9,10] .done (n0 .nil (n0 .nil (n0 (n0 (n0 .nil (n0 .nil (.mk (some [.tmp 3 Li]) [] [9,10,11] .done (.mk none [.tmp 3 Li,.tmp 18 Li] [9,10,11,16,17] .done .nil .nil) .nil))) .nil) .nil))) .nil) .nil)) .nil)))) CS_ok mixed Tryz.func67 (Eq.mpr (by kernel_rfl) h)
structure BI where
 stored:Int
 raw:Int
 count:Int
 cut:Str
structure PartI where
 part:Int
 blocks:List BI
 flt:Flt
def rightB(b:BI)(last:Str):Bool:=decide (1≤b.stored∧b.stored≤65536∧1≤b.raw∧b.raw≤65536∧b.raw≤64*b.stored∧1≤b.count∧b.count≤b.raw∧b.cut.length≤64∧0≤cmpN b.cut last)
def chkB:List BI→Str→Bool
 | [],_=>true
 | b::r,key=>rightB b key&&chkB r b.cut
def rightP(parts last:Int)(n:Nat)(x:PartI):Bool:=decide (last<x.part∧x.part<parts∧x.blocks.length≠0∧n+x.blocks.length≤262144∧kindN x.flt.all x.flt.hashes x.flt.data.length≠0)
def chkI(parts:Int):List PartI→Int→Nat→Bool
 | [],_,_=>true
 | x::r,last,n=>rightP parts last n x&&chkB x.blocks []&&chkI parts r x.part (n+x.blocks.length)
def chkF(parts:Int)(l:List PartI):Bool:=decide (1≤parts∧parts≤65535)&&chkI parts l (-1) 0
structure PI where
 part:Int
 sb:Sl
 all:Bool
 hashes:Int
 sd:Sl
def EBI:Enc BI:=⟨4,fun x=>[.int .i64 x.stored,.int .i64 x.raw,.int .i64 x.count,(LV.str x.cut).toV],fun _=>rfl,by decide,fun x v h=>by
 simp only [List.mem_cons,List.not_mem_nil,or_false] at h;rcases h with rfl | rfl | rfl | rfl<;>rfl⟩
def EPI:Enc PI:=⟨5,fun x=>[.int .i64 x.part,(LV.sl x.sb).toV,(LV.bool x.all).toV,.int .i64 x.hashes,(LV.sl x.sd).toV],fun _=>rfl,by decide,fun x v h=>by
 simp only [List.mem_cons,List.not_mem_nil,or_false] at h
 rcases h with rfl | rfl | rfl | rfl | rfl<;>first | rfl | exact cell_sl _⟩
structure InfoR(w:World)(p:PI)(x:PartI):Prop where
 part:p.part=x.part
 bl:RdS w EBI p.sb x.blocks
 all:p.all=x.flt.all
 hs:p.hashes=x.flt.hashes
 dt:RdS w ET p.sd x.flt.data
 lb:x.blocks.length≤1099511627776
 ld:x.flt.data.length≤1099511627776
structure FootR(w:World)(S:Nat→Prop)(s:Sl)(ps:List PI)(l:List PartI):Prop where
 rd:RdS w EPI s ps
 len:ps.length=l.length
 each:∀(i:Nat) p x,ps[i]? = some p→l[i]? = some x→InfoR w p x
 row:∀b,rk s b→S b
 dep:∀p∈ps,∀b,rk p.sb b∨rk p.sd b→S b
 ll:l.length≤1099511627776
theorem InfoR.keep{w w':World}{p:PI}{x:PartI}(h:InfoR w p x){D:Nat→Prop}(hM:Mod D w w')(hd:∀b,rk p.sb b∨rk p.sd b→¬D b):InfoR w' p x:=
 ⟨h.part,h.bl.keep hM fun b hb=>hd b (.inl hb),h.all,h.hs,h.dt.keep hM fun b hb=>hd b (.inr hb),h.lb,h.ld⟩
theorem FootR.keep{w w':World}{S:Nat→Prop}{s:Sl}{ps:List PI}{l:List PartI}(h:FootR w S s ps l){D:Nat→Prop}(hM:Mod D w w')(hd:∀b,S b→¬D b):FootR w' S s ps l:=
 ⟨h.rd.keep hM fun b hb=>hd b (h.row b hb),h.len,fun i p x hp hx=>(h.each i p x hp hx).keep hM fun b hb=>hd b (h.dep p (Lmg hp) b hb),h.row,h.dep,h.ll⟩
theorem FootR.quiet{w w':World}{S:Nat→Prop}{s:Sl}{ps:List PI}{l:List PartI}(h:FootR w S s ps l)(hM:Mod F0 w w'):FootR w' S s ps l:=h.keep hM fun _ _=>id
theorem rightBlock_ok{w:World}{x:BI}{last:Str}(hl:last.length≤1099511627776){K:Bool→Wp}(hK:∀w',Mod F0 w w'→K (rightB x last) w') :
  callK Pg c_94 [.agg [.int .i64 x.stored,.int .i64 x.raw,.int .i64 x.count,.str x.cut],Au last] w Ob K:=by
 refine go_94 _ _ _ _ _ _ _ ?_;refine (At.init w F0).alK fun b w1 _ h1 _=>?_;have hB:Blk w1 b (EBI.f x):=h1.blk (i:=0) rfl;have l0:∀{K:Int→Prop},K x.stored→Go.Vw.ld w1 Ki b 0 K:=fun hK=>hB.ldK (k:=Ki) x.stored rfl hK;have l1:∀{K:Int→Prop},K x.raw→Go.Vw.ld w1 Ki b 1 K:=fun hK=>hB.ldK (k:=Ki) x.raw rfl hK;have l2:∀{K:Int→Prop},K x.count→Go.Vw.ld w1 Ki b 2 K:=fun hK=>hB.ldK (k:=Ki) x.count rfl hK;have l3:∀{K:Str→Prop},K x.cut→Go.Vw.ld w1 .str b 3 K:=fun hK=>hB.ldK (k:=.str) x.cut rfl hK;refine join1 (a:=.bool) (fun q u=>q=rightB x last∧Mod F0 w u) ?_ (by rintro q u ⟨rfl,hM⟩;exact hK u hM);intro k hk;unfold rightB at hk;have no:(¬(1≤x.stored∧x.stored≤65536∧1≤x.raw∧x.raw≤65536∧x.raw≤64*x.stored∧1≤x.count∧x.count≤x.raw∧x.cut.length≤64∧0≤cmpN x.cut last))→k false w1:=fun h=>hk _ _ ⟨(Dcf h).symm,h1.mod⟩;refine l0 (Iq (fun q1=>?_) fun q=>no fun h=>odf q h.1);refine l0 (Iq (fun q2=>?_) fun q=>no fun h=>odf q h.2.1);refine l1 (Iq (fun q3=>?_) fun q=>no fun h=>odf q h.2.2.1);refine l1 (Iq (fun q4=>?_) fun q=>no fun h=>odf q h.2.2.2.1);have q1:1≤x.stored:=odt q1;have q2:x.stored≤65536:=odt q2;have q3:1≤x.raw:=odt q3;have q4:x.raw≤65536:=odt q4;refine l1 (l0 ?_);rw [Wq (by omega) (by omega)];refine Iq (fun q5=>?_) fun q=>no fun h=>odf q h.2.2.2.2.1;refine l2 (Iq (fun q6=>?_) fun q=>no fun h=>odf q h.2.2.2.2.2.1);refine l2 (l1 (Iq (fun q7=>?_) fun q=>no fun h=>odf q h.2.2.2.2.2.2.1));refine l3 (Iq (fun q8=>?_) fun q=>no fun h=>odf q (by have:=h.2.2.2.2.2.2.2.1;omega));have q5:x.raw≤64*x.stored:=odt q5;have q6:1≤x.count:=odt q6;have q7:x.count≤x.raw:=odt q7;have q8:(x.cut.length:Int)≤64:=odt q8;refine l3 (compare_ok (by omega) hl fun w2 M2=>hk _ _ ⟨?_,mod0 h1.mod M2⟩);rw [Bei,Det,Det];exact⟨fun h=>⟨q1,q2,q3,q4,q5,q6,q7,by omega,h⟩,fun h=>h.2.2.2.2.2.2.2.2⟩
theorem rightB_cut{x:BI}{last:Str}(h:rightB x last=true):x.cut.length≤64:=(odt h).2.2.2.2.2.2.2.1
theorem Dg{α:Type}{l:List α}{i:Nat}{x:α}(h:l[i]? = some x):l.drop i=x::l.drop (i+1):=by
 obtain⟨hi,e⟩:=Les.1 h;rw [List.drop_eq_getElem_cons hi,e]
theorem Gq{α:Type}{l:List α}{i:Nat}(h:i<l.length):∃x,l[i]? = some x:=⟨_,Lge h⟩
theorem chkB_loop{w u0:World}{tE:TypeId}{sb:Sl}{bl:List BI}(hr:RdS w EBI sb bl)(hl:bl.length≤1099511627776)(M0:Mod F0 w u0){K80:Wp}{kn:Wp}(h80:chkB bl []=false→∀u,Mod F0 w u→K80 u)(hn:chkB bl []=true→∀u,Mod F0 w u→kn u) :
  loopL [.str,Ki] (fun key44 t6245 W46 g43=>
   ifK (decide (t6245<(sb.len:Int)))
   (ix sb 4 t6245 fun b47 o48=>
    Go.Vw.ld W46 Ki b47 o48 fun n49=>
    Go.Vw.ld W46 Ki b47 (o48+1) fun n50=>
    Go.Vw.ld W46 Ki b47 (o48+2) fun n51=>
    Go.Vw.ld W46 .str b47 (o48+3) fun s52=>
    Go.Vw.al W46 tE [.int .i64 0,.int .i64 0,.int .i64 0,.str []] fun b53 W54=>
    Go.Vw.st W54 b53 0 [.int .i64 n49,.int .i64 n50,.int .i64 n51,.str s52] fun W55=>
    Go.Vw.ld W55 Ki b53 0 fun n56=>
    Go.Vw.ld W55 Ki b53 1 fun n57=>
    Go.Vw.ld W55 Ki b53 2 fun n58=>
    Go.Vw.ld W55 .str b53 3 fun s59=>
    callK Pg c_94 [.agg [.int .i64 n56,.int .i64 n57,.int .i64 n58,.str s59],Au key44] W55 Ob fun c60 W61=>
    ifK (!c60)
    (K80 W61)
    (Go.Vw.ld W61 .str b53 3 fun s62=>
     g43 s62 (w64 (t6245+1)) W61))
   (kn W46)) [.str [],.int .i64 0] u0:=by
 refine loop2 (k1:=.str) (k2:=Ki) (fun (key:Str) (t:Int) u=>∃i:Nat,t=(i:Int)∧i≤bl.length∧key.length≤64∧chkB bl []=chkB (bl.drop i) key∧Mod F0 w u) (fun _ t _=>(bl.length-t).toNat) (x1:=[]) (x2:=0) rfl rfl ⟨0,rfl,Nzl _,Nzl _,rfl,M0⟩ ?_;rintro key t u ⟨i,rfl,hi,hk,he,hM⟩;rw [hr.len];refine Iq (fun q=>?_) fun q=>?_;rotate_left
 ·have q:bl.length≤i:=dge q;rw [Ldn q] at he;exact hn he u hM
 have q:i<bl.length:=dlt q;obtain⟨x,hx⟩:=Gq q;rw [Dg hx,chkB] at he;have hu:=hr.quiet hM;refine hu.ix rfl rfl hx fun b o _ hc=>Lq (k:=Ki) x.stored (hc 0 (by decide)) (Lq (k:=Ki) x.raw (hc 1 (by decide)) (Lq (k:=Ki) x.count (hc 2 (by decide)) (Lq (k:=.str) x.cut (hc 3 (by decide)) ?_)));refine (Fresh.start u F0).alK fun b53 u1 f1 _ _=>f1.stK 0 rfl (Nlr 4) fun u2 f2 _=>?_;have hB:Blk u2 b53 (EBI.f x):=f2.blk (i:=0) rfl;refine hB.ldK (k:=Ki) x.stored rfl (hB.ldK (k:=Ki) x.raw rfl (hB.ldK (k:=Ki) x.count rfl (hB.ldK (k:=.str) x.cut rfl (rightBlock_ok (by omega) fun u3 M3=>?_))));have hM3:=mod0 (mod0 hM f2.mod) M3;refine Iq (fun q2=>?_) fun q2=>?_
 ·have q2:rightB x key=false:=by simpa using q2
  rw [q2] at he;exact h80 he u3 hM3
 have q2:rightB x key=true:=by simpa using q2
 rw [q2,Bool.true_and] at he;have es:=step64 (i:=i) (by omega);refine (M3.blk hB id).ldK (k:=.str) x.cut rfl ⟨⟨i+1,es,by omega,rightB_cut q2,he,hM3⟩,by rw [es];omega⟩
set_option maxHeartbeats 1000000 in
theorem footCheck_ok{w:World}{S:Nat→Prop}{s:Sl}{ps:List PI}{l:List PartI}(h:FootR w S s ps l){parts:Int}{K:Int→Wp}(hK:∀w',Mod F0 w w'→K (if chkF parts l=true then 0 else 80) w') :
  callK Pg c_95 [.agg [.int .i64 parts,.sl s]] w Oi K:=by
 refine go_95 _ _ _ _ ?_;refine (Fresh.start w F0).alK fun b3 w1 f1 _ M1=>?_;have hB:Blk w1 b3 [.int .i64 parts,(LV.sl s).toV]:=f1.blk (i:=0) rfl;refine join1 (a:=.bool) (fun q v=>q=decide (¬(1≤parts∧parts≤65535))∧v=w1) ?_ ?_
 ·intro k hk;refine hB.ldK (k:=Ki) parts rfl (Iq (fun q=>hk _ _ ⟨?_,rfl⟩) fun q=>hB.ldK (k:=Ki) parts rfl (hk _ _ ⟨?_,rfl⟩))
  ·have q:parts<1:=odt q;exact (Dct (by omega)).symm
  ·have q:¬parts<1:=odf q;show decide (65535<parts)=_;rw [Bei,Det,Det];omega
 rintro q v ⟨rfl,rfl⟩;unfold chkF at hK;refine Iq (fun q=>?_) fun q=>?_
 ·have q:¬(1≤parts∧parts≤65535):=odt q;rw [Dcf q,Bool.false_and] at hK;exact hK v M1
 have q:(1≤parts∧parts≤65535):=Decidable.not_not.1 (odf q);rw [Dct q,Bool.true_and] at hK;have h1:=h.quiet M1;refine hB.ldK (k:=.sl) s rfl ?_;refine join0 (fun u=>chkI parts l (-1) 0=true∧Mod F0 v u) ?_ (by rintro u ⟨e,hM⟩;have:=hK u (mod0 M1 hM);rw [if_pos e] at this;exact this);intro k11 hk11;rw [h.rd.len,h.len];have hb:∀u,Mod F0 v u→chkI parts l (-1) 0=false→K 80 u:=fun u hM e=>by
  have:=hK u (mod0 M1 hM);rw [e,if_neg (by decide)] at this;exact this
 have hll:=h.ll;refine loop3 (k1:=Ki) (k2:=Ki) (k3:=Ki) (fun (last bs t:Int) u=>∃i n:Nat,t=(i:Int)∧bs=(n:Int)∧i≤l.length∧n≤262144∧chkI parts l (-1) 0=chkI parts (l.drop i) last n∧Mod F0 v u) (fun _ _ t _=>(l.length-t).toNat) (x1:=-1) (x2:=0) (x3:=0) rfl rfl rfl
  ⟨0,0,rfl,rfl,Nzl _,Nzl _,rfl,Mod.refl _ _⟩ ?_
 rintro last bs t u ⟨i,n,rfl,rfl,hi,hn,he,hM⟩;change Int at last;refine Iq (fun q2=>?_) fun q2=>?_;rotate_left
 ·have q2:l.length≤i:=dge q2;rw [Ldn q2] at he;exact hk11 u ⟨he,hM⟩
 have q2:i<l.length:=dlt q2;obtain⟨x,hx⟩:=Gq q2;obtain⟨p,hp⟩:=Gq (l:=ps) (i:=i) (by rw [h.len];exact q2);have hu:=h1.quiet hM;have hi1:=h1.each i p x hp hx;rw [Dg hx,chkI] at he;refine hu.rd.ix rfl rfl hp fun b o _ hc=>Lq (k:=Ki) p.part (hc 0 (by decide)) (Lq (k:=.sl) p.sb (hc 1 (by decide)) (Lq (k:=.bool) p.all (hc 2 (by decide)) (Lq (k:=Ki) p.hashes (hc 3 (by decide)) (Lq (k:=.sl) p.sd (hc 4 (by decide)) ?_))));refine (Fresh.start u F0).alK fun b24 u1 f2 _ _=>f2.stK 0 rfl (Nlr 5) fun u2 f3 _=>?_;have hB2:Blk u2 b24 (EPI.f p):=f3.blk (i:=0) rfl;have M2:=mod0 hM f3.mod;have l0:∀{K:Int→Prop},K x.part→Go.Vw.ld u2 Ki b24 0 K:=fun hK=>hB2.ldK (k:=Ki) p.part rfl (by rw [hi1.part];exact hK);have l1:∀{K:Sl→Prop},K p.sb→Go.Vw.ld u2 .sl b24 1 K:=fun hK=>hB2.ldK (k:=.sl) p.sb rfl hK;have hbl:=hi1.bl.len;have hlb:=hi1.lb;have hB0:Blk u2 b3 [.int .i64 parts,(LV.sl s).toV]:=M2.blk hB id;have en:w64 ((n:Int)+(x.blocks.length:Int))=((n+x.blocks.length:Nat):Int):=by rw [Wq (by omega) (by omega)];omega
 refine l1 (join1 (a:=.bool) (fun q v'=>q=(!rightP parts last n x)∧Mod F0 u2 v') ?_ ?_)
 ·intro k hk;rw [hbl];have no:(¬(last<x.part∧x.part<parts∧x.blocks.length≠0∧n+x.blocks.length≤262144∧kindN x.flt.all x.flt.hashes x.flt.data.length≠0))→k true u2:=fun h=>hk _ _ ⟨by unfold rightP;rw [Dcf h];rfl,Mod.refl _ _⟩;refine l0 (Iq (fun q=>no fun h=>?_) fun q3=>l0 (hB0.ldK (k:=Ki) parts rfl (Iq (fun q=>no fun h=>?_) fun q4=>l1 ?_)))
  ·have q:x.part≤last:=odt q;have:=h.1;omega
  ·have q:parts≤x.part:=odt q;have:=h.2.1;omega
  have q3:¬x.part≤(last:Int):=odf q3;have q4:¬parts≤x.part:=odf q4;rw [hbl,en];refine Iq (fun q=>no fun h=>?_) fun q5=>Iq (fun q=>no fun h=>?_) fun q6=>?_
  ·have q:(x.blocks.length:Int)=0:=by simpa using q
   have:=h.2.2.1;omega
  ·have q:(262144:Int)<((n+x.blocks.length:Nat):Int):=odt q;have:=h.2.2.2.1;omega
  have q5:¬(x.blocks.length:Int)=0:=by simpa using q5
  have q6:¬(262144:Int)<((n+x.blocks.length:Nat):Int):=odf q6;refine hB2.ldK (k:=.bool) p.all rfl (hB2.ldK (k:=Ki) p.hashes rfl (hB2.ldK (k:=.sl) p.sd rfl (filterCheck_ok hi1.dt.len fun u3 M3=>hk _ _ ⟨?_,M3⟩)));rw [hi1.all,hi1.hs];unfold rightP;by_cases hk0:kindN x.flt.all x.flt.hashes x.flt.data.length=0
  ·rw [if_pos hk0,Dcf fun h=>h.2.2.2.2 hk0];rfl
  ·rw [if_neg hk0,Dct ⟨by omega,by omega,by omega,by omega,hk0⟩];rfl
 rintro q' v' ⟨rfl,M3'⟩;have M3:=mod0 M2 M3';refine Iq (fun q3=>?_) fun q3=>?_
 ·have q3:rightP parts last n x=false:=by simpa using q3
  rw [q3] at he;exact hb _ M3 he
 have q3:rightP parts last n x=true:=by simpa using q3
 rw [q3,Bool.true_and] at he;have hB3:Blk v' b24 (EPI.f p):=M3'.blk hB2 id;refine hB3.ldK (k:=Ki) p.part rfl (hB3.ldK (k:=.sl) p.sb rfl ?_);refine join0 (fun u'=>chkB x.blocks []=true∧Mod F0 v u') ?_ ?_
 ·intro k42 hk42;refine chkB_loop (w:=v) hi1.bl hlb M3 (fun e u' hM'=>hb u' hM' ?_) fun e u' hM'=>hk42 _ ⟨e,hM'⟩;rw [he,e];rfl
 rintro u' ⟨e,hM'⟩;rw [e,Bool.true_and] at he;rw [hbl,en];have es:=step64 (i:=i) (by omega);have hr3:=(odt q3).2.2.2.1;refine⟨⟨i+1,n+x.blocks.length,es,rfl,by omega,hr3,by rw [hi1.part];exact he,hM'⟩,by rw [es];omega⟩
end Go.Proofs.YtoegpmjoajipcaaGreatDoor
namespace Go.Proofs.YtoegpmjoajipcaaGreatDoor
open Go.Vw
open Go
def apC(w:World)(e:TypeId)(sz bytes:Nat)(zs:List LV)(s:Sl)(m:Nat)(new:List Value)(K:Sl→Wp):Prop:=
  (s.len+m≤s.cap→s.len+m≠0→(∃b o,s.p=some (b,o)∧okCells w b (o+s.len*sz) (m*sz) ∧
   K ⟨s.p,s.len+m,s.cap⟩ (World.setCells w b (o+s.len*sz) new))) ∧
  (s.len+m=0→K ⟨s.p,0,s.cap⟩ w) ∧
  (s.cap<s.len+m→(s.len+m+1024)*(bytes+1)≤2^46 ∧
   ∃old:List Value,rdCells w s (s.len*sz) old∧∀c,s.len+m≤c→K ⟨some (w.heap.size,0),s.len+m,c⟩
    (w.drew.alloc (.cells (old++new++(List.replicate (c-(s.len+m)) (zs.map LV.toV)).flatten).toArray e)))
section
variable {P:Program}
theorem append_str{ty el:TypeId}{t t2:TypeId}{i:TypeInfo}{zs:List LV}{s:Sl}{x:ByteArray}{w:World}{K:Sl→Wp}
  (hu:P.underlying t=some (.slice el)) (hu2:P.underlying t2=some .string) (hi:P.info? el=some i) (hz:zeroT P el=some zs) (hzl:zs.length=i.size) (hs1:i.size=1)
  (h:apC w el i.size i.bytes zs s x.size (Go.Lib.strCells x) K) :
  ∃s' w',K s' w'∧(Builtin.append_ #[t,t2] ty #[LV.toV (.sl s),.string x]).run P w = .ok (LV.toV (.sl s')) w':=by
 obtain⟨hroom,hnil,hgrow⟩:=h;obtain⟨i',zv,hi',hzv,hzc⟩:=zeroT_spec hz;rw [hi] at hi';cases hi';have hnew:(Go.Lib.strCells x).length=x.size*i.size:=by rw [Go.Lib.strCells_length,hs1,Nat.mul_one]
 have hcell:∀v∈Go.Lib.strCells x,isCell v=true:=by
  intro v hv;simp only [Go.Lib.strCells,List.mem_map] at hv;obtain⟨c,_,rfl⟩:=hv;rfl
 have hfn:∀w,(Builtin.firstCells i.size x.size (.string x)).run P w = .ok (Go.Lib.strCells x).toArray w:=fun w=>Go.Lib.run_firstCells_string w i.size x;generalize hn:Go.Lib.strCells x=new at *;generalize hm:x.size=m at *;obtain⟨p,n,c⟩:=s;simp only at hroom hnil hgrow;have hsz:(sizeOf el).run P w = .ok i.size w:=by simp [sizeOf,typeInfo,hi]
 have hin:∀w,(typeInfo el).run P w = .ok i w:=fun w=>by simp [typeInfo,hi]
 have hlen:Builtin.lenOf (.string x)=(pure m:Sem Nat):=by simp [Builtin.lenOf,hm]
 by_cases hle:n+m≤c
 ·by_cases hz0:n+m=0
  ·have hm0:m=0:=by omega
   have hn0:n=0:=by omega
   subst hn0;subst hm0;have hnn:new=[]:=by simpa using hnew
   subst hnn;refine⟨_,_,hnil hz0,?_⟩;simp only [LV.toV]
   cases p with
   | none=>simp [Builtin.append_,run_underlying hu,run_underlying hu2,hsz,hlen,hfn,slA]
   | some a=>obtain⟨b,o⟩:=a;simp [Builtin.append_,run_underlying hu,run_underlying hu2,hsz,hlen,hfn,slA,storeCells]
  ·obtain⟨b,o,hp,hok,hK⟩:=hroom hle hz0;subst hp;refine⟨_,_,hK,?_⟩;have hst:=storeRow (P:=P) new w b (o+n*i.size) 0 hcell (by rw [hnew];simpa using hok);rw [Nat.add_zero] at hst;simp only [LV.toV];simp [Builtin.append_,run_underlying hu,run_underlying hu2,hsz,hlen,hfn,slA,show c≠0 by omega,hle,Addr.add_none,hst]
 ·obtain⟨hbd,old,hold,hK⟩:=hgrow (by omega);have hcap:=nextcap_le (n+m) c (by omega);have hb:Builtin.nextslicecap (n+m) c*i.bytes≤2^48:=by
   have h1:Builtin.nextslicecap (n+m) c*i.bytes≤(2*(n+m)+768)*i.bytes:=Nat.mul_le_mul_right _ hcap;have h2:(2*(n+m)+768)*i.bytes≤2*((n+m+1024)*(i.bytes+1)):=by
    have h3:(2*(n+m)+768)*i.bytes≤(2*(n+m+1024))*(i.bytes+1):=Nat.mul_le_mul (by clear hbd;omega) (by clear hbd;omega);rw [Nat.mul_assoc] at h3;exact h3
   have h46:(2:Nat)^46=70368744177664:=by decide
   have h48:(2:Nat)^48=281474976710656:=by decide
   rw [h46] at hbd;rw [h48];omega
  have hbig:¬(((n+m:Nat):Int)>IntKind.i64.max∧i.bytes=0):=by
   rintro ⟨hg,_⟩;have:IntKind.i64.max=9223372036854775807:=by decide
   rw [this] at hg;have h3:n+m+1024≤(n+m+1024)*(i.bytes+1):=Nat.le_mul_of_pos_right _ (by omega);have h46:(2:Nat)^46=70368744177664:=by decide
   rw [h46] at hbd;omega
  have hof:(Builtin.firstCells i.size n (.slice (slA c p) n c)).run P w.drew = .ok old.toArray w.drew:=firstRow (s:=⟨p,n,c⟩) (by exact hold);have hzr:(zeroValue el).run P w.drew = .ok zv w.drew:=by simp [zeroValue,typeInfo,hi,hzv]
  have hzc':∀k,Builtin.zeroCells zv.cells k=((List.replicate k (zs.map LV.toV)).flatten).toArray:=fun k=>by
   unfold Builtin.zeroCells;rw [zero_flat,hzc]
  have hcut:∀t:Nat,n+m≤Question.cut (.appendCap (n+m) c el) t:=fun t=>by simp [Question.cut]
  refine⟨_,_,hK _ (hcut (w.tape w.drawn (.appendCap (n+m) c el))),?_⟩;have hif1:¬(Builtin.nextslicecap (n+m) c*i.bytes>2^48):=Nat.not_lt.2 hb;have hdr:(choose (.appendCap (n+m) c el)).run P w = .ok (Question.cut (.appendCap (n+m) c el) (w.tape w.drawn (.appendCap (n+m) c el))) w.drew:=by
   simp only [run_choose,Question.forced,Bool.false_eq_true,if_false];rfl
  generalize Question.cut (.appendCap (n+m) c el) (w.tape w.drawn (.appendCap (n+m) c el))=cap at *;have hcond:¬((((n+m:Nat):Int)>IntKind.i64.max)∧(False∨i.bytes=0)):=by
   rintro ⟨a,b⟩;rcases b with b | b
   ·cases b
   ·exact hbig ⟨a,b⟩
  have hpa:LV.toV (.sl ⟨some (w.heap.size,0),n+m,cap⟩) = .slice (some ⟨w.heap.size,0,none⟩) (n+m) cap:=by simp only [LV.toV];rw [slA_zero]
  rw [hpa];simp only [LV.toV];generalize slA c p=Pp at hof ⊢;have hnf:=hfn w.drew;unfold Builtin.append_;simp only [List.getElem?_toArray,List.getElem?_cons_zero,List.getElem?_cons_succ,Sem.run_bind,run_underlying hu,run_underlying hu2,Result.andThen_ok,hsz,Sem.run_pure,hlen,Bool.false_eq_true,if_false,if_neg hle,hin,hif1];simp only [Bool.not_false,if_true,Sem.run_bind,Sem.run_ite,Sem.run_pure,hin,Result.andThen_ok,if_neg hif1,hdr,run_askRoom,hof,hnf,hzr,hzc'];rw [if_neg hcond];simp only [Result.andThen_ok,newRow,Sem.run_bind,run_newObj,Sem.run_pure,hdr,run_askRoom,hof,hnf,hzr,hzc',hin,if_neg hif1,Sem.run_ite];have hE:∀a b c:List Value,a.toArray++b.toArray++c.toArray=(a++b++c).toArray:=fun a b c=>by simp
  rw [hE];rfl
end
theorem appLC{α:Type}{w0 w:World}{D:Nat→Prop}{m ro:BL}(hA:At w0 D (m++ro) w){E:Enc α}{s:Sl}{l l2:List α}(hv:VecL ro E s l){e:TypeId}{n bytes:Nat}{zs:List LV}(hn:n=E.n)(hz:zs.length=E.n)(hlim:(l.length+l2.length+1024)*(bytes+1)≤2^46)
  {K:Sl→Wp} (hK:∀s' old ro' w',At w0 D ((m++old)++ro') w'→VecL ro' E s' (l++l2)→Mod (Ks ro) w w'→(old=[]∧s'.p=s.p∧(s.p=none→ro'=ro)∨old=ro)→(∀y,Ks ro' y→Ks ro y∨w.heap.size≤y)→K s' w'):apC w e n bytes zs s l2.length (E.cells l2) K:=by
 subst hn;have hpos:=E.pos;refine⟨?_,?_,?_⟩
 ·intro hle hne;rcases hv.2.2 with⟨rfl,hn,hc0⟩ | ⟨b,rest,rfl,hp,hc⟩
  ·rw [hc0] at hle;omega
  ·have hlen:(E.cells l).length=s.len*E.n:=by rw [E.cells_length,hv.1]
   have hfit:s.len*E.n+(E.cells l2).length≤(E.cells l++rest).length:=by
    have:s.len*E.n+(E.cells l2).length≤s.cap*E.n:=by
     rw [E.cells_length,←Nat.add_mul];exact Nat.mul_le_mul_right _ hle
    omega
   have hspl:spl (E.cells l++rest) (s.len*E.n) (E.cells l2)=E.cells (l++l2)++rest.drop (E.cells l2).length:=by
    rw [spl_eq _ _ _ hfit,←hlen,List.take_left,List.drop_length_add_append,E.cells_append]
   have hi:(m++[(b,E.cells l++rest)])[m.length]? = some (b,E.cells l++rest):=by simp
   have hA':=hA.setCells hi (s.len*E.n) (E.cells l2);rw [hspl,set_last] at hA';have hb:Blk w b (E.cells l++rest):=hA.blk hi;refine⟨b,0,hp,fun i hi=>⟨⟨(E.cells l++rest)[s.len*E.n+i]'(by rw [E.cells_length] at hfit;omega),by rw [hb.cell,Nat.zero_add,Lge]⟩,hb.frz _⟩,
    hK _ [] [(b,E.cells (l++l2)++rest.drop (E.cells l2).length)] _ (by rw [Nat.zero_add,Lan];exact hA') ⟨by simp [hv.1],by simpa using hle,.inr ⟨b,_,rfl,hp,?_⟩⟩ ?_ (.inl ⟨rfl,rfl,fun h=>by rw [hp] at h;cases h⟩) ?_⟩
   ·rw [←hspl,spl_length];exact hc
   ·rw [Nat.zero_add];exact (Mod.setCells ..).mono fun y _ e=>⟨_,Lms.2 rfl,e.symm⟩
   ·rintro y ⟨q,hq,rfl⟩;simp at hq;subst hq;exact .inl ⟨_,Lms.2 rfl,rfl⟩
 ·intro h0;have h1:l=[]:=List.eq_nil_of_length_eq_zero (by have:=hv.1;omega);have h2:l2=[]:=List.eq_nil_of_length_eq_zero (by omega);subst h1;subst h2;have hs:(⟨s.p,0,s.cap⟩:Sl)=s:=by have:=hv.1;obtain⟨p,len,cap⟩:=s;simp at this;subst this;rfl
  rw [hs];exact hK _ [] ro _ (by rw [Lan];exact hA) (by simpa using hv) (Mod.refl _ _) (.inl ⟨rfl,rfl,fun _=>rfl⟩) fun y h=>.inl h
 ·intro hlt;refine⟨by rw [hv.1];exact hlim,E.cells l,(hv.rd fun p hp=>hA.own p (Lmr _ hp)).cells (by rw [E.cells_length,hv.1]),fun c hc=>?_⟩;have hA':=(hA.drew.al (E.cells l++E.cells l2++(List.replicate (c-(s.len+l2.length)) (zs.map LV.toV)).flatten) e);refine hK _ ro [(w.drew.heap.size,E.cells (l++l2)++(List.replicate (c-(s.len+l2.length)) (zs.map LV.toV)).flatten)] _ (by rw [E.cells_append];exact hA') ⟨by simp [hv.1],hc,.inr ⟨_,_,rfl,rfl,?_⟩⟩ ((Mod.drew _ w).trans (Mod.alloc _ w.drew _) (fun _ _ h=>h) (fun _ _ h=>h)) (.inr rfl) ?_
  ·simp only [Lla,E.cells_length,List.length_flatten,List.map_replicate,List.sum_replicate_nat,List.length_map,hz];rw [←Nat.add_mul,←hv.1];exact Nat.mul_le_mul_right _ (by omega)
  ·rintro y ⟨q,hq,rfl⟩;simp at hq;subst hq;exact .inr (Nlr _)
theorem strCells_et(t:Str):Go.Lib.strCells ⟨t.toArray⟩=ET.cells t:=by
 have:∀t:Str,ET.cells t=t.map fun x=>Value.int .u8 (x.toNat:Int):=by
  intro t
  induction t with
  | nil=>rfl
  | cons x t ih=>simp [Enc.cells,ih];rfl
 rw [this];simp [Go.Lib.strCells]
theorem info_byte:∃i,Pg.info? 5=some i∧zeroT Pg 5=some [.int .u8 0]∧i.bytes=1∧i.size=1:=by
 have h1:(Pg.info? 5).isSome=true:=by kernel_rfl
 have h2:(Pg.info? 5).map (fun i=>i.bytes)=some 1:=by kernel_rfl
 have h3:(Pg.info? 5).map (fun i=>i.size)=some 1:=by kernel_rfl
 have h4:zeroT Pg 5=some [.int .u8 0]:=by kernel_rfl
 obtain⟨i,hi⟩:=Option.isSome_iff_exists.1 h1;rw [hi] at h2 h3;exact⟨i,hi,h4,by simpa using h2,by simpa using h3⟩
theorem appS{w0 w:World}{D:Nat→Prop}{m ro:BL}(hA:At w0 D (m++ro) w){s:Sl}{l x:Str}(hv:VecL ro ET s l)(hlim:l.length+x.length≤1099511627776)
  {K:Sl→Wp} (hK:∀s' old ro' w',At w0 D ((m++old)++ro') w'→VecL ro' ET s' (l++x)→Mod (Ks ro) w w'→(old=[]∧s'.p=s.p∧(s.p=none→ro'=ro)∨old=ro)→(∀y,Ks ro' y→Ks ro y∨w.heap.size≤y)→K s' w') :
  opF Pg (builtin .append #[t_bytes,9] t_bytes #[false,false] #[(LV.toV (.sl s)),(LV.toV (.str x))]) w Oz K:=by
 obtain⟨i,hi,hz,hby,hsz⟩:=info_byte;have hx:(⟨x.toArray⟩:ByteArray).size=x.length:=by simp [ByteArray.size]
 have hC:=appLC (e:=5) (n:=1) (bytes:=1) (zs:=[.int .u8 0]) hA hv (l2:=x) rfl rfl (by omega) hK;obtain⟨s',w',hk,hrun⟩:=append_str (P:=Pg) (ty:=t_bytes) (x:=⟨x.toArray⟩) (K:=K) u_bytes Tryz.underlying9 hi hz (by rw [hsz];rfl) hsz (by rw [hsz,hby,hx,strCells_et];exact hC);refine⟨[.sl s'],w',?_,hk⟩;show (Sem.run _ (vS (Builtin.append_ #[t_bytes,9] t_bytes #[(LV.toV (.sl s)),(LV.toV (.str x))])) w)=_;unfold vS;simp only [Sem.run_bind];have hrun:(Builtin.append_ #[t_bytes,9] t_bytes #[(LV.toV (.sl s)),(LV.toV (.str x))]).run Pg w = .ok (LV.sl s').toV w':=hrun;rw [hrun];rfl
theorem Fresh.appS{w u:World}{D:Nat→Prop}{m ro:BL}{s:Sl}{l x:Str}(h:Fresh w u D (m++ro))(hv:VecL ro ET s l)(hlim:l.length+x.length≤1099511627776)
  {K:Sl→Wp} (hK:∀s' ro' u',Fresh w u' D (m++ro')→VecL ro' ET s' (l++x)→Mod (Ks ro) u u'→K s' u') :
  opF Pg (builtin .append #[t_bytes,9] t_bytes #[false,false] #[(LV.toV (.sl s)),(LV.toV (.str x))]) u Oz K:=
 Go.Proofs.YtoegpmjoajipcaaGreatDoor.appS h.at' hv hlim fun s' old ro' u' h' v' M' _ hro=>hK s' ro' u' (Fresh.of_new (h'.sub ((Lsl m old).append (List.Sublist.refl _))) fun p hp=>by
  rcases Lma.1 hp with hp | hp
  ·exact h.new p (Lml _ hp)
  ·rcases hro p.1 ⟨p,hp,rfl⟩ with⟨q,hq,e⟩ | h2
   ·rw [←e];exact h.new q (Lmr _ hq)
   ·exact Nat.le_trans h.mod.size h2) v' M'
end Go.Proofs.YtoegpmjoajipcaaGreatDoor
namespace Go.Proofs.YtoegpmjoajipcaaGreatDoor
open Go.Vw
def spB:List BI→Int
 | []=>0
 | b::r=>b.stored+5+spB r
def spI:List PartI→Int
 | []=>0
 | x::r=>spB x.blocks+spI r
def blkN(key:Str)(b:BI):Str:=putN b.stored.toNat++putN b.raw.toNat++putN b.count.toNat++putN (comN key b.cut)++putN (b.cut.length-comN key b.cut)++b.cut.drop (comN key b.cut)
def bodB:List BI→Str→Str
 | [],_=>[]
 | b::r,key=>blkN key b++bodB r b.cut
def headN(x:PartI)(last:Int):Str:=putN (x.part-last-1).toNat++putN (encF x.flt).1.length++(encF x.flt).1++putN x.blocks.length
def bodI:List PartI→Int→Str
 | [],_=>[]
 | x::r,last=>headN x last++bodB x.blocks []++bodI r x.part
def bodyN(parts:Int)(l:List PartI):Str:=putN parts.toNat++putN l.length++bodI l (-1)
theorem chkB_cons{x:BI}{r:List BI}{key:Str}:chkB (x::r) key=(rightB x key&&chkB r x.cut):=rfl
theorem spB_le:∀(l:List BI) (key:Str),chkB l key=true→0≤spB l∧spB l≤65541*l.length
 | [],_,_=>by simp [spB]
 | b::r,key,h=>by
  rw [chkB_cons,Bat] at h;have h1:=odt h.1;have h2:=spB_le r b.cut h.2;simp only [spB,Llc];have:=h1.1;have:=h1.2.1;omega
theorem spI_le(parts:Int):∀(l:List PartI) (last:Int) (n:Nat),chkI parts l last n=true→n≤262144→0≤spI l∧spI l≤65541*(262144-n)∧l.length≤262144-n
 | [],_,n,_,hn=>by simp [spI];omega
 | x::r,last,n,h,hn=>by
  rw [chkI,Bat,Bat] at h;have h1:=odt h.1.1;have h2:=spB_le x.blocks [] h.1.2;have h3:=spI_le parts r x.part _ h.2 h1.2.2.2.1;have:=h1.2.2.1;have:=h1.2.2.2.1;simp only [spI,Llc];omega
theorem blocksOf_ok{w:World}{S:Nat→Prop}{s:Sl}{ps:List PI}{l:List PartI}(h:FootR w S s ps l){parts:Int}{n0:Nat}{last:Int}(hc:chkI parts l last 0=true){K:Int→Wp}(hK:∀w',Mod F0 w w'→K (spI l) w') :
  callK Pg c_96 [.agg [.int .i64 parts,.sl s]] w Oi K:=by
 refine go_96 _ _ _ _ ?_;refine (Fresh.start w F0).alK fun b3 w1 f1 _ M1=>?_;have hB:Blk w1 b3 [.int .i64 parts,(LV.sl s).toV]:=f1.blk (i:=0) rfl;refine hB.ldK (k:=.sl) s rfl ?_;have h1:=h.quiet M1;have hll:=h.ll;rw [h.rd.len,h.len];refine join1 (a:=Ki) (fun (n:Int) u=>n=spI l∧Mod F0 w u) ?_ (by rintro n u ⟨rfl,hM⟩;exact hK u hM);intro k6 hk6;refine loop2 (k1:=Ki) (k2:=Ki) (fun (n t:Int) u=>∃(i m:Nat) (la:Int),t=(i:Int)∧i≤l.length∧m≤262144∧0≤n∧n≤65541*m∧chkI parts (l.drop i) la m=true∧spI l=n+spI (l.drop i)∧Mod F0 w u) (fun _ t _=>(l.length-t).toNat) (x1:=0) (x2:=0) rfl rfl
  ⟨0,0,last,rfl,Nzl _,Nzl _,Int.le_refl _,by decide,hc,by simp,M1⟩ ?_
 rintro n t u ⟨i,m,la,rfl,hi,hm,hn0,hn,hch,he,hM⟩;change Int at n;refine Iq (fun q=>?_) fun q=>?_;rotate_left
 ·have q:l.length≤i:=dge q;rw [Ldn q] at he;exact hk6 _ _ ⟨by rw [he];simp [spI],hM⟩
 have q:i<l.length:=dlt q;obtain⟨x,hx⟩:=Gq q;obtain⟨p,hp⟩:=Gq (l:=ps) (i:=i) (by rw [h.len];exact q);have hu:=h.quiet hM;have hi1:=hu.each i p x hp hx;rw [Dg hx,chkI,Bat,Bat] at hch;rw [Dg hx] at he;have hr1:=odt hch.1.1;have hm1:=hr1.2.2.2.1;refine hu.rd.ix rfl rfl hp fun b o _ hc=>Lq (k:=Ki) p.part (hc 0 (by decide)) (Lq (k:=.sl) p.sb (hc 1 (by decide)) (Lq (k:=.bool) p.all (hc 2 (by decide)) (Lq (k:=Ki) p.hashes (hc 3 (by decide)) (Lq (k:=.sl) p.sd (hc 4 (by decide)) ?_))));refine (Fresh.start u F0).alK fun b24 u1 f2 _ _=>f2.stK 0 rfl (Nlr 5) fun u2 f3 _=>?_;have hB2:Blk u2 b24 (EPI.f p):=f3.blk (i:=0) rfl;refine hB2.ldK (k:=.sl) p.sb rfl ?_;have M2:=mod0 hM f3.mod;have hbl:=hi1.bl.len;have hlb:=hi1.lb;rw [hbl];refine join1 (a:=Ki) (fun (n':Int) u=>n'=n+spB x.blocks∧Mod F0 w u) ?_ ?_
 ·intro k22 hk22;refine loop2 (k1:=Ki) (k2:=Ki) (fun (n' t:Int) v=>∃(j:Nat) (key:Str),t=(j:Int)∧j≤x.blocks.length∧n≤n'∧n'≤n+65541*j∧chkB (x.blocks.drop j) key=true∧n+spB x.blocks=n'+spB (x.blocks.drop j)∧Mod F0 w v) (fun _ t _=>(x.blocks.length-t).toNat) (x1:=n) (x2:=0) rfl rfl
   ⟨0,[],rfl,Nzl _,Int.le_refl _,by simp,hch.1.2,by simp,M2⟩ ?_
  rintro n' t v ⟨j,key,rfl,hj,h1',h2',hcb,heb,hMv⟩;change Int at n';refine Iq (fun q2=>?_) fun q2=>?_;rotate_left
  ·have q2:x.blocks.length≤j:=dge q2;rw [Ldn q2] at heb;exact hk22 _ _ ⟨by rw [heb];simp [spB],hMv⟩
  have q2:j<x.blocks.length:=dlt q2;obtain⟨y,hy⟩:=Gq q2;rw [Dg hy,chkB_cons,Bat] at hcb;rw [Dg hy] at heb;have hy1:=odt hcb.1;have hs1:=hy1.1;have hs2:=hy1.2.1;have hv:=(h.quiet hMv).each i p x hp hx;refine hv.bl.ix rfl rfl hy fun b o _ hc=>Lq (k:=Ki) y.stored (hc 0 (by decide)) (Lq (k:=Ki) y.raw (hc 1 (by decide)) (Lq (k:=Ki) y.count (hc 2 (by decide)) (Lq (k:=.str) y.cut (hc 3 (by decide)) ?_)));refine (Fresh.start v F0).alK fun b53 v1 g1 _ _=>g1.stK 0 rfl (Nlr 4) fun v2 g2 _=>?_;have hB3:Blk v2 b53 (EBI.f y):=g2.blk (i:=0) rfl;refine hB3.ldK (k:=Ki) y.stored rfl ?_;have es:=step64 (i:=j) (by omega);have e1:w64 (y.stored+5)=y.stored+5:=Wq (by omega) (by omega);have e2:w64 (n'+(y.stored+5))=n'+(y.stored+5):=Wq (by omega) (by omega);rw [e1,e2];exact⟨⟨j+1,y.cut,es,by omega,by omega,by omega,hcb.2,by rw [heb];simp only [spB];omega,mod0 hMv g2.mod⟩,by rw [es];omega⟩
 rintro n' u' ⟨rfl,hM'⟩;have es:=step64 (i:=i) (by omega);have hsb:=spB_le x.blocks [] hch.1.2;exact⟨⟨i+1,m+x.blocks.length,x.part,es,by omega,hm1,by omega,by omega,hch.2,by rw [he];simp only [spI];omega,hM'⟩,by rw [es];omega⟩
def putsN(ns:List Nat):Str:=(ns.map putN).flatten
theorem putsN_snoc(ns:List Nat)(n:Nat):putsN (ns++[n])=putsN ns++putN n:=by simp [putsN]
theorem putN_9{v:Nat}(h:v<4611686018427387904):(putN v).length≤9:=putN_len v 8 (by omega)
theorem putsN_len:∀(ns:List Nat),(∀n∈ns,n<4611686018427387904)→(putsN ns).length≤9*ns.length
 | [],_=>by simp [putsN]
 | n::r,h=>by
  have:=putsN_len r fun m hm=>h m (Lmc _ hm);have:=putN_9 (h n Lcs);simp only [putsN,List.map_cons,List.flatten_cons,Lla,Llc] at *;omega
theorem put1_ok{w0 w:World}{m ro:BL}{b5 b9:Nat}{s:Sl}{t:Str}{ns:List Nat}(f:Fresh w0 w F0 ((b5,[(LV.sl s).toV])::(m++ro)))(v:VecL ro ET s t)(hm:(b9,EN.cells ns)∈m)(hns:∀n∈ns,n<4611686018427387904)(hl:t.length+9*ns.length≤1099511627776){K:Wp}
  (hK:∀w' s' ro',Fresh w0 w' F0 ((b5,[(LV.sl s').toV])::(m++ro'))→VecL ro' ET s' (t++putsN ns)→K w') :
  callV Pg (.func (.func c_97) #[] #[(LV.toV (.ptr (some (b5,0))))]) [Az (⟨some (b9,0),ns.length,ns.length⟩)] w (.tup []) K:=by
 refine callV_func (by kernel_rfl) [Az (⟨some (b9,0),ns.length,ns.length⟩),Ap (some (b5,0))] rfl ?_;refine go_97 _ _ _ _ _ ?_;refine join0 (fun u=>∃s' ro',Fresh w0 u F0 ((b5,[(LV.sl s').toV])::(m++ro'))∧VecL ro' ET s' (t++putsN ns)) ?_ (by rintro u ⟨s',ro',f',v'⟩;exact hK u s' ro' f' v');intro k4 hk4;refine loop1 (k:=Ki) (fun (i:Int) u=>∃(j:Nat) (s':Sl) (ro':BL),i=(j:Int)∧j≤ns.length∧Fresh w0 u F0 ((b5,[(LV.sl s').toV])::(m++ro'))∧VecL ro' ET s' (t++putsN (ns.take j))) (fun i _=>(ns.length-i).toNat) (x:=0) rfl ⟨0,s,ro,rfl,Nzl _,f,by simpa [putsN] using v⟩ ?_;rintro i u ⟨j,s',ro',rfl,hj,f',v'⟩;have hrd:RdS u EN ⟨some (b9,0),ns.length,ns.length⟩ ns:=by
  have hB:Blk u b9 (EN.cells ns):=f'.own (b9,_) (Lmc _ (Lml _ hm));exact⟨rfl,.inr ⟨b9,0,rfl,fun i hi=>by rw [hB.cell,Nat.zero_add]⟩,Nlr _⟩
 refine Iq (fun q=>?_) fun q=>?_;rotate_left
 ·have q:ns.length≤j:=dge q;rw [Ltl q] at v';exact hk4 u ⟨s',ro',f',v'⟩
 have q:j<ns.length:=dlt q;obtain⟨n,hn⟩:=Gq q;have hnb:=hns n (Lmg hn);have e9:=putN_9 hnb;have htl:(putsN (ns.take j)).length≤9*j:=by
  have:=putsN_len (ns.take j) fun m hm=>hns m (List.mem_of_mem_take hm);rw [Llt] at this;omega
 refine hrd.ix rfl rfl hn fun b o _ hc=>Lq (k:=Ki) (n:Int) (hc 0 (by decide)) ?_;have hB5:=f'.blk (i:=0) rfl;have h5:¬Ks ro' b5:=by
  rintro ⟨q,hq,e⟩;have:=f'.nodup;rw [List.map_cons,List.nodup_cons] at this;exact this.1 (List.mem_map.2 ⟨q,Lmr _ hq,e⟩)
 have hd:=(Mq u).blk hB5 id;refine⟨Ks ro',hd.ldDK (k:=.sl) s' h5 rfl (put_ok (by omega) fun u2 ro2 s2 g2 v2=>⟨g2.mod.mono fun _ _ h=>h.elim,?_⟩)⟩;have f2:Fresh w0 u2 F0 ((((b5,[(LV.sl s').toV])::m)++ro2)++ro'):=by
  refine ((f'.quiet (Mq u)).join (Fresh.of_at g2) (fun _ _ h=>h) (fun _ _ _ h=>h)).perm ?_;simp only [List.cons_append,Laa];exact (Lpc.append_left m).cons _
 refine f2.app v' (v2.rd fun p hp=>f2.own p (Lml _ (Lmr _ hp))) rfl rfl (by rw [Lla];omega) fun s3 ro3 u3 f3 v3 M3=>⟨g2.mod.trans M3 (fun _ _ h=>h.elim) (fun _ _ h=>h),?_⟩;refine f3.stK 0 rfl (Nlr 1) fun u4 f4 _=>?_;have es:=step64 (i:=j) (by omega);have et:putsN (ns.take (j+1))=putsN (ns.take j)++putN n:=by
  rw [List.take_add_one,hn,Option.toList_some,putsN_snoc]
 refine⟨⟨j+1,s3,ro3,es,by omega,f4.sub ?_,by rw [et,←Laa];exact v3⟩,by rw [es];omega⟩;show List.Sublist ((b5,[(LV.sl s3).toV])::(m++ro3)) ((b5,[(LV.sl s3).toV])::((m++ro2)++ro3));exact ((Lsl m ro2).append (List.Sublist.refl _)).cons_cons _
theorem Fresh.alst{w u:World}{D:Nat→Prop}{m:BL}(h:Fresh w u D m){e:TypeId}{cs vs:List LV}(hl:vs.length=cs.length){K:Nat→Wp}(hK:∀b u',Fresh w u' D (m++[(b,vs.map LV.toV)])→u.heap.size≤b→Mod F0 u u'→K b u') :
  Go.Vw.al u e cs fun b u1=>Go.Vw.st u1 b 0 vs fun u2=>K b u2:=by
 refine h.alK fun b u1 f1 hb M1=>f1.stK (c:=cs.map LV.toV) m.length (by simp) (by simp [hl]) fun u2 f2 M2=>?_;have e:(m++[(b,cs.map LV.toV)]).set m.length (b,spl (cs.map LV.toV) 0 (vs.map LV.toV))=m++[(b,vs.map LV.toV)]:=by
  rw [List.set_append_right _ _ (Nlr _),Nat.sub_self,List.set_cons_zero];rw [spl_eq _ _ _ (by simp [hl]),Ldn (by simp [hl]),Lan];rfl
 rw [e] at f2;exact hK b u2 f2 hb (M1.trans M2 (fun _ _ h=>h) fun z hz e=>by have e:z=b:=e;omega)
theorem Fresh.mid{w u:World}{D:Nat→Prop}{x:Nat×List Value}{M ro R:BL}(h:Fresh w u D ((x::(M++ro))++R)):Fresh w u D (x::((M++R)++ro)):=by
 refine h.perm ?_;simp only [List.cons_append,Laa];exact (Lpc.append_left M).cons _
theorem Fresh.front{w u:World}{D:Nat→Prop}{x:Nat×List Value}{M R ro:BL}(h:Fresh w u D (x::((M++R)++ro))):Fresh w u D (x::(M++ro)):=
 h.sub (((Lsl M R).append (List.Sublist.refl _)).cons_cons _)
theorem encF_len{f:Flt}:(encF f).1.length≤4200:=by
 unfold encF;split
 ·exact Nat.le_of_ble_eq_true rfl
 split
 ·exact Nat.le_of_ble_eq_true rfl
 split
 ·rename_i h;obtain⟨_,_,_,_,d2⟩:=kindN_3 h;have:=putN_9 (v:=f.data.length) (by omega);simp only [Lla,Llc];omega
 ·exact Nzl _
theorem toNat_cast{n:Int}(h:0≤n):((n.toNat:Nat):Int)=n:=Int.toNat_of_nonneg h
theorem body_arith'{a A B C E X Y:Nat}(h:a≤18+A+B+X+C)(hXY:X≤Y)(hCE:C≤E):a≤18+(A+Y)+(B+E):=by omega
theorem body_arith{a i n j b:Nat}(h:a≤18+6000*i+200*n+4300+200*j)(hj:j≤b):a≤18+6000*(i+1)+200*(n+b):=by
 rw [Nat.mul_add,Nat.mul_add,Nat.mul_one];exact body_arith' h (Nat.le_of_ble_eq_true rfl) (Nat.mul_le_mul_left 200 hj)
set_option maxHeartbeats 4000000 in
theorem body_ok{w:World}{S:Nat→Prop}{s:Sl}{ps:List PI}{l:List PartI}(h:FootR w S s ps l){parts:Int}(hc:chkF parts l=true){K:Sl→Wp}(hK:∀w' ro s',Fresh w w' F0 ro→VecL ro ET s' (bodyN parts l)→K s' w') :
  callK Pg c_98 [.agg [.int .i64 parts,.sl s]] w Oz K:=by
 refine go_98 _ _ _ _ ?_;unfold chkF at hc;rw [Bat] at hc;obtain⟨hp1,hp2⟩:=odt hc.1;have hch:=hc.2;have hnl:=(spI_le parts l (-1) 0 hch (Nzl _)).2.2;refine (Fresh.start w F0).alK fun b3 w1 f1 _ M1=>f1.alK fun b5 w2 f2 _ M2=>?_;have f2:Fresh w w2 F0 [(b3,[.int .i64 parts,(LV.sl s).toV]),(b5,[(LV.sl ⟨none,0,0⟩).toV])]:=f2;have hB:=f2.blk (i:=0) rfl;refine hB.ldK (k:=Ki) parts rfl (hB.ldK (k:=.sl) s rfl (f2.alK fun b9 w3 f3 _ M3=>?_));rw [h.rd.len,h.len] at f3;have f3:Fresh w w3 F0 ((b5,[(LV.sl ⟨none,0,0⟩).toV])::([(b3,[.int .i64 parts,(LV.sl s).toV]),(b9,EN.cells [parts.toNat,l.length])]++[])):=by
  refine f3.perm ?_;have e:EN.cells [parts.toNat,l.length]=[.int .i64 parts,.int .i64 (l.length:Int)]:=by
   show [Value.int .i64 ((parts.toNat:Nat):Int),.int .i64 (l.length:Int)]=_;rw [toNat_cast (by omega)]
  rw [e];exact List.Perm.swap _ _ _
 refine put1_ok (ns:=[parts.toNat,l.length]) f3 (VecL.nil ET) (by simp) (fun n hn=>?_) (by simp) fun w4 s4 ro4 f4 v4=>?_
 ·simp only [List.mem_cons,List.not_mem_nil,or_false] at hn;rcases hn with rfl | rfl<;>omega
 have f4:Fresh w w4 F0 ((b5,[(LV.sl s4).toV])::([(b3,[.int .i64 parts,(LV.sl s).toV])]++ro4)):=Fresh.front (M:=[_]) (R:=[_]) f4;have hB3:=f4.blk (i:=1) rfl;refine hB3.ldK (k:=.sl) s rfl ?_;rw [h.rd.len,h.len];have epre:[]++putsN [parts.toNat,l.length]=putN parts.toNat++putN l.length:=by simp [putsN]
 rw [epre] at v4;have hlen0:(putN parts.toNat++putN l.length).length≤18:=by
  have h1:=putN_9 (v:=parts.toNat) (by omega);have h2:=putN_9 (v:=l.length) (by omega);rw [Lla];omega
 unfold bodyN at hK;generalize putN parts.toNat++putN l.length=T0 at hK v4 hlen0;refine join0 (fun u=>∃s' ro',Fresh w u F0 ((b5,[(LV.sl s').toV])::([(b3,[.int .i64 parts,(LV.sl s).toV])]++ro'))∧VecL ro' ET s' (T0++bodI l (-1))) ?_ ?_;rotate_left
 ·rintro u ⟨s',ro',f,v⟩;exact (f.blk (i:=0) rfl).ldK (k:=.sl) s' rfl (hK u ro' s' (f.sub ((Lsr [_] _).cons _)) v)
 intro k13 hk13;refine loop2 (k1:=Ki) (k2:=Ki) (fun (last t:Int) u=>∃(i n:Nat) (s':Sl) (ro':BL) (T:Str),t=(i:Int)∧i≤l.length∧n≤262144∧-1≤last∧last<65535∧chkI parts (l.drop i) last n=true ∧
   Fresh w u F0 ((b5,[(LV.sl s').toV])::([(b3,[.int .i64 parts,(LV.sl s).toV])]++ro'))∧VecL ro' ET s' T∧T++bodI (l.drop i) last=T0++bodI l (-1)∧T.length≤18+6000*i+200*n) (fun _ t _=>(l.length-t).toNat) (x1:=-1) (x2:=0) rfl rfl
  ⟨0,0,s4,ro4,T0,rfl,Nzl _,Nzl _,Int.le_refl _,by decide,hch,f4,v4,rfl,by omega⟩ ?_
 rintro last t u ⟨i,n,s',ro',T,rfl,hi,hn,hla,hlb,hci,fu,vu,heq,hTl⟩;change Int at last;refine Iq (fun q=>?_) fun q=>?_;rotate_left
 ·have q:l.length≤i:=dge q;rw [Ldn q,bodI,Lan] at heq;exact hk13 u ⟨s',ro',fu,heq▸vu⟩
 have q:i<l.length:=dlt q;obtain⟨x,hx⟩:=Gq q;obtain⟨p,hp⟩:=Gq (l:=ps) (i:=i) (by rw [h.len];exact q);have hi1:=(h.quiet fu.mod).each i p x hp hx;rw [Dg hx,chkI,Bat,Bat] at hci;rw [Dg hx,bodI] at heq;have hr1:=odt hci.1.1;have hlp:last<x.part:=hr1.1;have hpp:x.part<parts:=hr1.2.1;have hnb:=hr1.2.2.2.1;refine (h.quiet fu.mod).rd.ix rfl rfl hp fun b o _ hc=>Lq (k:=Ki) p.part (hc 0 (by decide)) (Lq (k:=.sl) p.sb (hc 1 (by decide)) (Lq (k:=.bool) p.all (hc 2 (by decide)) (Lq (k:=Ki) p.hashes (hc 3 (by decide)) (Lq (k:=.sl) p.sd (hc 4 (by decide)) ?_))));refine fu.alst (by rfl) fun b25 u2 f25 _ M25=>?_;have g2:Fresh w u2 F0 ((b5,[(LV.sl s').toV])::(([(b3,[.int .i64 parts,(LV.sl s).toV])]++[(b25,EPI.f p)])++ro')):=Fresh.mid f25;have hB25:Blk u2 b25 (EPI.f p):=g2.own (b25,EPI.f p) (by simp);refine hB25.ldK (k:=.bool) p.all rfl (hB25.ldK (k:=Ki) p.hashes rfl (hB25.ldK (k:=.sl) p.sd rfl ?_));refine filtEncode_ok (hi1.dt.quiet M25) hi1.ld fun u3 ro3 s3 v3 f3=>?_;rw [hi1.all,hi1.hs] at v3;have v3:VecL ro3 ET s3 (encF x.flt).1:=v3;have hel:=encF_len (f:=x.flt);have g3:=Fresh.mid (g2.join f3 (fun _ _ h=>h) fun _ _ _ h=>h);have hB25:=f3.mod.blk hB25 id;refine hB25.ldK (k:=Ki) p.part rfl ?_;rw [v3.1,hi1.part];have ew1:w64 (x.part-last)=x.part-last:=Wq (by omega) (by omega);have ew2:w64 (x.part-last-1)=(((x.part-last-1).toNat:Nat):Int):=by rw [Wq (by omega) (by omega),toNat_cast (by omega)]
 rw [ew1,ew2];refine g3.alK fun b35 u4 f4 _ M4=>?_;have g4:=Fresh.mid f4;have hB25:=M4.blk hB25 id;refine put1_ok (ns:=[(x.part-last-1).toNat,(encF x.flt).1.length]) g4 vu (b9:=b35) (by
  refine Lmr _ (Lms.2 ?_);rfl) (fun n hn=>?_) (by simp only [Llc,List.length_nil];omega) fun u5 s5 ro5 f5 v5=>?_
 ·simp only [List.mem_cons,List.not_mem_nil,or_false] at hn;rcases hn with rfl | rfl<;>omega
 have hB25:Blk u5 b25 (EPI.f p):=f5.own (b25,EPI.f p) (by simp);have hl5:=putsN_len [(x.part-last-1).toNat,(encF x.flt).1.length] (fun n hn=>by
  simp only [List.mem_cons,List.not_mem_nil,or_false] at hn;rcases hn with rfl | rfl<;>omega)
 simp only [Llc,List.length_nil] at hl5;refine (f5.blk (i:=0) rfl).ldK (k:=.sl) s5 rfl ?_;refine Fresh.app (m:=_::_) f5 v5 (v3.rd fun p hp=>f5.own p (by simp [hp])) rfl rfl (by rw [Lla];omega) fun s6 ro6 u6 f6 v6 M6=>?_;refine f6.stK 0 rfl (Nlr 1) fun u7 f7 M7=>?_;have f7:Fresh w u7 F0 ((b5,[(LV.sl s6).toV])::((((([(b3,[.int .i64 parts,(LV.sl s).toV])]++[(b25,EPI.f p)])++ro3)++[(b35,_)]))++ro6)):=f7;have f7:Fresh w u7 F0 ((b5,[(LV.sl s6).toV])::(([(b3,[.int .i64 parts,(LV.sl s).toV])]++[(b25,EPI.f p)])++ro6)):=Fresh.front (Fresh.front f7);have hB25:Blk u7 b25 (EPI.f p):=f7.own (b25,EPI.f p) (by simp);refine hB25.ldK (k:=.sl) p.sb rfl ?_;have hlb:=hi1.lb;rw [hi1.bl.len];refine f7.alK fun b43 u8 f8 _ M8=>?_;have g8:=Fresh.mid f8;refine put1_ok (ns:=[x.blocks.length]) g8 v6 (b9:=b43) (by
  refine Lmr _ (Lms.2 ?_);rfl) (fun n hn=>?_) (by simp only [Llc,List.length_nil,Lla];omega) fun u9 s9 ro9 f9 v9=>?_
 ·simp only [List.mem_cons,List.not_mem_nil,or_false] at hn;subst hn;omega
 have hl9:=putN_9 (v:=x.blocks.length) (by omega);have ehead:T++putsN [(x.part-last-1).toNat,(encF x.flt).1.length]++(encF x.flt).1++putsN [x.blocks.length]=T++headN x last:=by
  simp [putsN,headN]
 rw [ehead] at v9;have hT9:(T++headN x last).length≤18+6000*i+200*n+4300:=by
  rw [←ehead];simp only [Lla,putsN,List.map_cons,List.map_nil,List.flatten_cons,List.flatten_nil,List.length_nil] at hl5 ⊢;omega
 have f9:Fresh w u9 F0 ((b5,[(LV.sl s9).toV])::(([(b3,[.int .i64 parts,(LV.sl s).toV])]++[(b25,EPI.f p)])++ro9)):=Fresh.front f9;have hB25:Blk u9 b25 (EPI.f p):=f9.own (b25,EPI.f p) (by simp);refine hB25.ldK (k:=Ki) p.part rfl (hB25.ldK (k:=.sl) p.sb rfl ?_);rw [hi1.bl.len,hi1.part];have hhl:(T++headN x last)++(bodB x.blocks []++bodI (l.drop (i+1)) x.part)=T0++bodI l (-1):=by rw [←heq];simp
 generalize T++headN x last=T1 at v9 hT9 hhl;refine join0 (fun u'=>∃(s':Sl) (ro':BL) (T2:Str),Fresh w u' F0 ((b5,[(LV.sl s').toV])::([(b3,[.int .i64 parts,(LV.sl s).toV])]++ro'))∧VecL ro' ET s' T2∧T2++bodI (l.drop (i+1)) x.part=T0++bodI l (-1)∧T2.length≤18+6000*(i+1)+200*(n+x.blocks.length)) ?_ ?_;rotate_left
 ·rintro u' ⟨s2,ro2,T2,fz,vz,hz,hzl⟩;have es:=step64 (i:=i) (by omega);exact⟨⟨i+1,n+x.blocks.length,s2,ro2,T2,es,by omega,hnb,by omega,by omega,hci.2,fz,vz,hz,hzl⟩,by rw [es];omega⟩
 intro k48 hk48;refine loop2 (k1:=.str) (k2:=Ki) (fun (key:Str) (t:Int) v=>∃(j:Nat) (s':Sl) (ro':BL) (T2:Str),t=(j:Int)∧j≤x.blocks.length∧key.length≤64∧chkB (x.blocks.drop j) key=true ∧
   Fresh w v F0 ((b5,[(LV.sl s').toV])::(([(b3,[.int .i64 parts,(LV.sl s).toV])]++[(b25,EPI.f p)])++ro'))∧VecL ro' ET s' T2∧T2++(bodB (x.blocks.drop j) key++bodI (l.drop (i+1)) x.part)=T0++bodI l (-1)∧T2.length≤18+6000*i+200*n+4300+200*j) (fun _ t _=>(x.blocks.length-t).toNat) (x1:=[]) (x2:=0) rfl rfl
  ⟨0,s9,ro9,T1,rfl,Nzl _,Nzl _,hci.1.2,f9,v9,hhl,by omega⟩ ?_
 rintro key t v ⟨j,s',ro',T2,rfl,hj,hkl,hcb,fv,vv,hev,hTv⟩;refine Iq (fun q2=>?_) fun q2=>?_;rotate_left
 ·have q2:x.blocks.length≤j:=dge q2;rw [Ldn q2,bodB,List.nil_append] at hev;have hz:T2.length≤18+6000*(i+1)+200*(n+x.blocks.length):=body_arith hTv hj;exact hk48 v ⟨s',ro',T2,Fresh.front fv,vv,hev,hz⟩
 have q2:j<x.blocks.length:=dlt q2;obtain⟨y,hy⟩:=Gq q2;rw [Dg hy,chkB_cons,Bat] at hcb;rw [Dg hy,bodB] at hev;have hy1:=odt hcb.1;have hv:=(h.quiet fv.mod).each i p x hp hx;have hcut:y.cut.length≤64:=rightB_cut hcb.1;refine hv.bl.ix rfl rfl hy fun b o _ hc=>Lq (k:=Ki) y.stored (hc 0 (by decide)) (Lq (k:=Ki) y.raw (hc 1 (by decide)) (Lq (k:=Ki) y.count (hc 2 (by decide)) (Lq (k:=.str) y.cut (hc 3 (by decide)) ?_)));refine fv.alst (by rfl) fun b59 v2 g2 _ _=>?_;have g2:Fresh w v2 F0 ((b5,[(LV.sl s').toV])::((([(b3,[.int .i64 parts,(LV.sl s).toV])]++[(b25,EPI.f p)])++[(b59,EBI.f y)])++ro')):=Fresh.mid g2;have hB59:Blk v2 b59 (EBI.f y):=g2.own (b59,EBI.f y) (by simp);refine hB59.ldK (k:=.str) y.cut rfl (common_ok (by omega) (by omega) fun v3 M3=>?_);have g3:=g2.quiet M3;have hB59:=M3.blk hB59 id;have hcle:=comN_le key y.cut;refine hB59.ldK (k:=Ki) y.stored rfl (hB59.ldK (k:=Ki) y.raw rfl (hB59.ldK (k:=Ki) y.count rfl (hB59.ldK (k:=.str) y.cut rfl ?_)));have ew3:w64 ((y.cut.length:Int)-(comN key y.cut:Int))=((y.cut.length-comN key y.cut:Nat):Int):=by rw [Wq (by omega) (by omega)];omega
 rw [ew3];refine g3.alK fun b69 v4 f4 _ M4=>?_;have h1:=hy1.1;have h2:=hy1.2.1;have h3:=hy1.2.2.1;have h4:=hy1.2.2.2.1;have h6:=hy1.2.2.2.2.2.1;have h7:=hy1.2.2.2.2.2.2.1;have ecell:([.int .i64 y.stored,.int .i64 y.raw,.int .i64 y.count,.int .i64 (comN key y.cut:Int),.int .i64 ((y.cut.length-comN key y.cut:Nat):Int)]:List LV).map LV.toV=EN.cells [y.stored.toNat,y.raw.toNat,y.count.toNat,comN key y.cut,y.cut.length-comN key y.cut]:=by
  show _=[Value.int .i64 ((y.stored.toNat:Nat):Int),.int .i64 ((y.raw.toNat:Nat):Int),.int .i64 ((y.count.toNat:Nat):Int),.int .i64 (comN key y.cut:Int),.int .i64 ((y.cut.length-comN key y.cut:Nat):Int)];rw [toNat_cast (by omega),toNat_cast (by omega),toNat_cast (by omega)];rfl
 rw [ecell] at f4;have g4:=Fresh.mid f4;have hsm:∀n∈[y.stored.toNat,y.raw.toNat,y.count.toNat,comN key y.cut,y.cut.length-comN key y.cut],n<4611686018427387904:=fun n hn=>by
  simp only [List.mem_cons,List.not_mem_nil,or_false] at hn;rcases hn with rfl | rfl | rfl | rfl | rfl<;>omega
 refine put1_ok (ns:=[y.stored.toNat,y.raw.toNat,y.count.toNat,comN key y.cut,y.cut.length-comN key y.cut]) g4 vv (b9:=b69) (Lmr _ (Lms.2 rfl)) hsm (by simp only [Llc,List.length_nil];omega) fun v5 s5 ro5 f5 v5'=>?_;have hl5:=putsN_len _ hsm;simp only [Llc,List.length_nil] at hl5;have f5:Fresh w v5 F0 ((b5,[(LV.sl s5).toV])::((([(b3,[.int .i64 parts,(LV.sl s).toV])]++[(b25,EPI.f p)])++[(b59,EBI.f y)])++ro5)):=Fresh.front f5;have hd5:=f5.quiet (Mq v5);have hn5:∀b c,(b,c)∈((b5,[(LV.sl s5).toV])::(([(b3,[.int .i64 parts,(LV.sl s).toV])]++[(b25,EPI.f p)])++[(b59,EBI.f y)]))→¬Ks ro5 b:=fun b c hb=>by
  rintro ⟨q,hq,e⟩;have:=f5.nodup;rw [←List.cons_append,List.map_append,List.nodup_append] at this;exact this.2.2 b (List.mem_map.2 ⟨(b,c),hb,rfl⟩) q.1 (List.mem_map.2 ⟨q,hq,rfl⟩) e.symm
 refine⟨Ks ro5,(hd5.blk (i:=0) rfl).ldDK (k:=.sl) s5 (hn5 _ _ Lcs) rfl ((hd5.own (b59,EBI.f y) (by simp)).ldDK (k:=.str) y.cut (hn5 b59 (EBI.f y) (by simp)) rfl ?_)⟩;refine ssx_drop (by omega:comN key y.cut≤y.cut.length) rfl ?_;refine Fresh.appS (m:=_::_) hd5 v5' (by simp only [Lla,Lld];omega) fun s6 ro6 v6 f6 v6' M6=>⟨M6,?_⟩;refine f6.stK 0 rfl (Nlr 1) fun v7 f7 M7=>?_;have f7:Fresh w v7 F0 ((b5,[(LV.sl s6).toV])::((([(b3,[.int .i64 parts,(LV.sl s).toV])]++[(b25,EPI.f p)])++[(b59,EBI.f y)])++ro6)):=f7;refine (f7.own (b59,EBI.f y) (by simp)).ldK (k:=.str) y.cut rfl ?_;have es:=step64 (i:=j) (by omega);have eb:T2++putsN [y.stored.toNat,y.raw.toNat,y.count.toNat,comN key y.cut,y.cut.length-comN key y.cut]++y.cut.drop (comN key y.cut)=T2++blkN key y:=by simp [putsN,blkN]
 have hlz:(T2++blkN key y).length≤T2.length+45+64:=by
  rw [←eb];simp only [Lla,Lld];omega
 rw [eb] at v6';exact⟨⟨j+1,s6,ro6,T2++blkN key y,es,by omega,hcut,hcb.2,Fresh.front f7,v6',by rw [←hev];simp,by omega⟩,by rw [es];omega⟩
set_option maxRecDepth 100000
theorem go_102(n1:Int)(K:Int→Wp)(w:World)(h:K (w64 (n1+(w64 (4*(w64 ((w64 ((w64 (n1+4096))-1)).tdiv 4096)))))) w):callK Pg 64 [Ai n1] w Oi K:=Fq (n:=.nil) CS_ok mixed Tryz.func64 (Eq.mpr (by kernel_rfl) h)
theorem go_101(t_0_1:Int)(t_1_2:Int)(K:Int→Bool→Wp)(w:World)(h:al w 38 [.int .i64 t_0_1,.int .i64 t_1_2] fun b3 W4=>joinK [.bool] (fun k5=>drawK W4 fun D W6=>ldD D W6 Ki b3 0 fun n7=>ifK (decide (n7<0)) (k5 true W6) (ldD D W6 Ki b3 0 fun n8=>ifK (decide (268435456<n8)) (k5 true W6) (ldD D W6 Ki b3 1 fun n9=>ifK (decide (n9<1)) (k5 true W6) (ldD D W6 Ki b3 1 fun n10=>callK Pg 64 [Ai 16777216] W6 Oi fun n11 W12=>Mod D W6 W12∧k5 (decide (n11<n10)) W12)))) fun t2413 W14=>ifK t2413 (K 0 false W14) (ld W14 Ki b3 1 fun n15=>ld W14 Ki b3 1 fun n16=>joinK [Ki] (fun k17=>ifK (decide (0<n16.tmod 4100)) (ifK (decide (w64 ((n16.tmod 4100)-4)<1)) (K 0 false W14) (k17 (w64 ((n16.tmod 4100)-4)) W14)) (k17 (n16.tmod 4100) W14)) fun rest18 W19=>K (w64 ((w64 ((w64 (n15.tdiv 4100))*4096))+rest18)) true W19)):callK Pg 36 [.agg [.int .i64 t_0_1,.int .i64 t_1_2]] w (.tup [Li,Lb]) K:=Fq (n:=(n0 .nil (n0 (n0 (.mk (some [.tmp 24 Lb]) [] [1] (tk [0,1,2,3] (.split 3 (.take 4 (.take 5 (.take 6 (.take 7 (.take 8 (.take 9 (.take 10 (.take 11 (.take 12 (.take 13 (.take 14 (.take 15 (.take 16 (.take 17 (.take 18 .done))))))))))))))) (.take 4 (.take 5 (.take 6 (.take 7 (.take 8 (.split 8 (.take 9 (.take 10 (.take 11 (.take 12 (.take 13 (.take 14 (.take 15 (.take 16 (.take 17 (.take 18 .done)))))))))) (.take 9 (.take 10 (.take 11 (.take 12 (.take 13 (.split 13 (.take 14 (.take 15 (.take 16 (.take 17 (.take 18 .done))))) (.take 14 (.take 15 (.eff 16 (.take 17 (.take 18 .done))))))))))))))))))) .nil .nil) .nil) (n0 .nil (n0 .nil (n0 (n0 .nil (.mk (some [.tmp 5 Li]) [] [4] .done .nil .nil)) .nil)))))) CS_ok mixed Tryz.func36 (Eq.mpr (by kernel_rfl) h)
theorem go_103(b1:Sl)(size2:Int)(K:Int→Int→Int→Wp)(w:World)(h:al w 38 [.int .i64 0,.int .i64 0] fun b3 W4=>ifK ((b1.len:Int) != 24) (st W4 b3 0 [.int .i64 0,.int .i64 0] fun W5=>ld W5 Ki b3 0 fun n6=>ld W5 Ki b3 1 fun n7=>K n6 n7 81 W5) (callK Pg 23 [Az b1] W4 (.tup [Ls,Li]) fun a8 n9 W10=>ifK (n9 != 0) (st W10 b3 0 [.int .i64 0,.int .i64 0] fun W11=>ld W11 Ki b3 0 fun n12=>ld W11 Ki b3 1 fun n13=>K n12 n13 81 W11) (drawK W10 fun D W14=>slx a8 1 (some 4) (some (w64 (4+8))) none fun s15=>slx a8 1 (some (w64 (4+8))) none none fun s16=>callK Pg 35 [Az s15] W14 (.one (.leaf (.int .u64))) fun n17 W18=>Mod D W14 W18∧callK Pg 35 [Az s16] W18 (.one (.leaf (.int .u64))) fun n19 W20=>Mod D W14 W20∧joinK [.bool] (fun k21=>slx a8 1 none (some 4) none fun s22=>opF Pg (vS (convert 22 9 (LV.toV (.sl s22)))) W20 Ot fun s24 W23=>ifK (!(s24==[119,110,119,49])) (k21 true W23) (ifK (decide (268435456<n17)) (k21 true W23) (k21 (decide (33554432<n19)) W23))) fun t4925 W26=>ifK t4925 (st W26 b3 0 [.int .i64 0,.int .i64 0] fun W27=>ld W27 Ki b3 0 fun n28=>ld W27 Ki b3 1 fun n29=>K n28 n29 81 W27) (al W26 38 [.int .i64 0,.int .i64 0] fun b30 W31=>st W31 b30 0 [.int .i64 (w64 (n17)),.int .i64 (w64 (n19))] fun W32=>ld W32 Ki b30 0 fun n33=>ld W32 Ki b30 1 fun n34=>callK Pg 36 [.agg [.int .i64 n33,.int .i64 n34]] W32 (.tup [Li,Lb]) fun n35 c36 W37=>ifK (!c36) (st W37 b3 0 [.int .i64 0,.int .i64 0] fun W38=>ld W38 Ki b3 0 fun n39=>ld W38 Ki b3 1 fun n40=>K n39 n40 81 W38) (ld W37 Ki b30 0 fun n41=>ld W37 Ki b30 1 fun n42=>ifK ((w64 ((w64 (n41+n42))+24)) != size2) (st W37 b3 0 [.int .i64 0,.int .i64 0] fun W43=>ld W43 Ki b3 0 fun n44=>ld W43 Ki b3 1 fun n45=>K n44 n45 82 W43) (ld W37 Ki b30 0 fun n46=>ld W37 Ki b30 1 fun n47=>st W37 b3 0 [.int .i64 n46,.int .i64 n47] fun W48=>ld W48 Ki b3 0 fun n49=>ld W48 Ki b3 1 fun n50=>K n49 n50 0 W48)))))):callK Pg 22 [Az b1,Ai size2] w (.tup [.agg [Ki,Ki],Li]) K:=Fq (n:=(n0 .nil (n0 .nil (n0 .nil (n0 .nil (n0 .nil (n0 (.mk none [] [] (tk [0,1,2,3,4,6,7,8,9] (.eff 5 (.eff 10 (.take 11 (.take 12 .done))))) .nil .nil) (n0 (n0 (.mk (some [.tmp 49 Lb]) [] [1,4,9,10] .done .nil .nil) .nil) .nil)))))))) CS_ok mixed Tryz.func22 (Eq.mpr (by kernel_rfl) h)
theorem go_41(t_0_1:Int)(t_1_2:Int)(K:PA→Int→Wp)(w:World)(h:al w 38 [.int .i64 t_0_1,.int .i64 t_1_2] fun b3 W4=>ld W4 Ki b3 0 fun n5=>ld W4 Ki b3 1 fun n6=>callK Pg 36 [.agg [.int .i64 n5,.int .i64 n6]] W4 (.tup [Li,Lb]) fun n7 c8 W9=>ifK (!c8) (K none 81 W9) (ld W9 Ki b3 0 fun n10=>ld W9 Ki b3 1 fun n11=>ld W9 Ki b3 1 fun n12=>al W9 136 [.int .i64 n10,.int .i64 n11,.int .i64 n12,.sl (⟨none,0,0⟩),.lit false] fun b13 W14=>K (some (b13,0)) 0 W14)):callK Pg 39 [.agg [.int .i64 t_0_1,.int .i64 t_1_2]] w (.tup [Lp,Li]) K:=Fq (n:=.nil) CS_ok mixed Tryz.func39 (Eq.mpr (by kernel_rfl) h)
theorem go_42(d1:PA)(page2:Sl)(K:Int→Wp)(w:World)(h:ifK d1.isNone (K 1 w) (dr d1 fun b3 o4=>ld w Ki b3 (o4+2) fun n5=>joinK [.bool] (fun k6=>dr d1 fun b7 o8=>ld w .bool b7 (o8+4) fun c9=>ifK c9 (k6 true w) (ifK ((mnI n5 4100)==0) (k6 true w) (k6 ((page2.len:Int) != (mnI n5 4100)) w))) fun t2810 W11=>ifK t2810 (dr d1 fun b12 o13=>st W11 b12 (o13+4) [.lit true] fun W14=>K 80 W14) (callK Pg 23 [Az page2] W11 (.tup [Ls,Li]) fun a15 n16 W17=>ifK (n16 != 0) (dr d1 fun b18 o19=>st W17 b18 (o19+4) [.lit true] fun W20=>K 80 W20) (dr d1 fun b21 o22=>ld W17 .sl b21 (o22+3) fun a23=>ap W17 5 1 1 [.int .u8 0] a23 a15 fun a24 W25=>dr d1 fun b26 o27=>st W25 b26 (o27+3) [.sl a24] fun W28=>dr d1 fun b29 o30=>ld W28 Ki b29 (o30+2) fun n31=>dr d1 fun b32 o33=>st W28 b32 (o33+2) [.int .i64 (w64 (n31-(mnI n5 4100)))] fun W34=>K 0 W34)))):callK Pg 40 [Ap d1,Az page2] w Oi K:=Fq (n:=(n0 .nil (n0 .nil (n0 .nil (n0 (n0 (.mk (some [.tmp 28 Lb]) [] [0,1,5] .done .nil .nil) .nil) .nil))))) CS_ok mixed Tryz.func40 (Eq.mpr (by kernel_rfl) h)
theorem go_99(c1:PA)(K:Sl→Wp)(w:World)(h:callK Pg 86 [Ap c1,Ai 262144] w Oi fun n2 W3=>joinK [.sl] (fun k4=>loopL [.sl,.str,Ki] (fun l6 key7 n8 W9 g5=>joinK [.bool] (fun k10=>ifK (decide (0<n8)) (callK Pg 87 [Ap c1] W9 Oi fun n11 W12=>k10 (decide (0<n11)) W12) (k10 false W9)) fun t1713 W14=>ifK t1713 (callK Pg 86 [Ap c1,Ai 65536] W14 Oi fun n15 W16=>callK Pg 86 [Ap c1,Ai 65536] W16 Oi fun n17 W18=>callK Pg 86 [Ap c1,Ai 65536] W18 Oi fun n19 W20=>al W20 57 [.int .i64 0,.int .i64 0,.int .i64 0,.str []] fun b21 W22=>st W22 b21 0 [.int .i64 n15,.int .i64 n17,.int .i64 n19,.str []] fun W23=>callK Pg 86 [Ap c1,Ai (key7.length:Int)] W23 Oi fun n24 W25=>callK Pg 89 [Ap c1,Ai 64] W25 Ot fun s26 W27=>ssx key7 none (some n24) fun s28=>s28.length+s26.length<2^62∧st W27 b21 3 [.str (s28++s26)] fun W29=>ld W29 .str b21 3 fun s30=>ld W29 Ki b21 0 fun n31=>ld W29 Ki b21 1 fun n32=>ld W29 Ki b21 2 fun n33=>ld W29 .str b21 3 fun s34=>al W29 57 [.int .i64 n31,.int .i64 n32,.int .i64 n33,.str s34] fun b35 W36=>ap W36 57 4 40 [.int .i64 0,.int .i64 0,.int .i64 0,.str []] l6 (⟨some (b35,0),1,1⟩) fun a37 W38=>g5 a37 s30 (w64 (n8-1)) W38) (k4 l6 W14)) [.sl (⟨none,0,0⟩),.str [],.int .i64 n2] W3) fun l39 W40=>K l39 W40):callK Pg 91 [Ap c1] w Oz K:=Fq (n:=(n0 .nil (n0 .nil (n0 .nil (n0 (n0 .nil (.mk (some [.tmp 3 Ls]) [] [] .done (.mk none [.tmp 3 Ls,.tmp 4 Lt,.tmp 5 Li] [0] .done (n0 (n0 (.mk (some [.tmp 17 Lb]) [] [0,3,4,5] .done .nil .nil) .nil) .nil) .nil) .nil)) .nil))))) CS_ok mixed Tryz.func91 (Eq.mpr (by kernel_rfl) h)
theorem go_100(b1:Sl)(K:Int→Sl→Bool→Wp)(w:World)(h:al w 42 [.int .i64 0,.sl (⟨none,0,0⟩)] fun b2 W3=>callK Pg 85 [Az b1] W3 Oq fun p4 W5=>callK Pg 86 [Ap p4,Ai 65535] W5 Oi fun n6 W7=>al W7 42 [.int .i64 0,.sl (⟨none,0,0⟩)] fun b8 W9=>st W9 b8 0 [.int .i64 n6,.sl (⟨none,0,0⟩)] fun W10=>callK Pg 86 [Ap p4,Ai 65535] W10 Oi fun n11 W12=>joinK [] (fun k13=>loopL [Ki,Ki] (fun last15 n16 W17 g14=>joinK [.bool] (fun k18=>ifK (decide (0<n16)) (callK Pg 87 [Ap p4] W17 Oi fun n19 W20=>k18 (decide (0<n19)) W20) (k18 false W17)) fun t2421 W22=>ifK t2421 (callK Pg 86 [Ap p4,Ai 65535] W22 Oi fun n23 W24=>al W24 54 [.int .i64 0,.sl (⟨none,0,0⟩),.lit false,.int .i64 0,.sl (⟨none,0,0⟩)] fun b25 W26=>st W26 b25 0 [.int .i64 (w64 ((w64 (last15+1))+n23)),.sl (⟨none,0,0⟩),.lit false,.int .i64 0,.sl (⟨none,0,0⟩)] fun W27=>ld W27 Ki b25 0 fun n28=>callK Pg 89 [Ap p4,Ai 4112] W27 Ot fun s29 W30=>opF Pg (vS (convert 9 22 (LV.toV (.str s29)))) W30 Oz fun a32 W31=>callK Pg 88 [Az a32] W31 (.tup [.agg [.bool,Ki,.sl],Li]) fun c33 n34 a35 n36 W37=>al W37 52 [.lit false,.int .i64 0,.sl (⟨none,0,0⟩)] fun b38 W39=>st W39 b38 0 [.bool c33,.int .i64 n34,.sl a35] fun W40=>callK Pg 90 [Ap p4,Ai n36] W40 (.tup []) fun W41=>ld W41 .bool b38 0 fun c42=>ld W41 Ki b38 1 fun n43=>ld W41 .sl b38 2 fun a44=>st W41 b25 2 [.bool c42,.int .i64 n43,.sl a44] fun W45=>callK Pg 91 [Ap p4] W45 Oz fun a46 W47=>st W47 b25 1 [.sl a46] fun W48=>ld W48 .sl b8 1 fun a49=>ld W48 Ki b25 0 fun n50=>ld W48 .sl b25 1 fun a51=>ld W48 .bool b25 2 fun c52=>ld W48 Ki b25 3 fun n53=>ld W48 .sl b25 4 fun a54=>al W48 54 [.int .i64 n50,.sl a51,.bool c52,.int .i64 n53,.sl a54] fun b55 W56=>ap W56 54 5 72 [.int .i64 0,.sl (⟨none,0,0⟩),.lit false,.int .i64 0,.sl (⟨none,0,0⟩)] a49 (⟨some (b55,0),1,1⟩) fun a57 W58=>st W58 b8 1 [.sl a57] fun W59=>g14 n28 (w64 (n16-1)) W59) (k13 W22)) [.int .i64 (-1),.int .i64 n11] W12) fun W60=>joinK [.bool] (fun k61=>drawK W60 fun D W62=>ldD D W62 Ki b8 0 fun n63=>ldD D W62 .sl b8 1 fun a64=>callK Pg 92 [Ap p4] W62 (.one (.agg [Ki,Ki])) fun n65 n66 W67=>Mod D W62 W67∧ifK (n65==0) (ldD D W62 Ki b8 0 fun n68=>ldD D W62 .sl b8 1 fun a69=>callK Pg 93 [.agg [.int .i64 n68,.sl a69]] W67 Oi fun n70 W71=>Mod D W62 W71∧ifK (n70==0) (ldD D W62 Ki b8 0 fun n72=>ldD D W62 .sl b8 1 fun a73=>(callK Pg 94 [.agg [.int .i64 n72,.sl a73]] W71 Oz fun a74 W75=>Mod D W62 W75∧(opF Pg (vS (convert 22 9 (LV.toV (.sl a74)))) W75 Ot fun s77 W76=>Mod D W62 W76∧(opF Pg (vS (convert 22 9 (LV.toV (.sl b1)))) W76 Ot fun s79 W78=>Mod D W62 W78∧st W78 b2 0 [.int .i64 n63,.sl a64] fun W80=>Mod D W62 W80∧k61 (s77==s79) W80)∧(st W76 b2 0 [.int .i64 n63,.sl a64] fun W81=>Mod D W62 W81∧opF Pg (vS (convert 22 9 (LV.toV (.sl b1)))) W81 Ot fun s83 W82=>Mod D W62 W82∧k61 (s77==s83) W82))∧(opF Pg (vS (convert 22 9 (LV.toV (.sl b1)))) W75 Ot fun s85 W84=>Mod D W62 W84∧(opF Pg (vS (convert 22 9 (LV.toV (.sl a74)))) W84 Ot fun s87 W86=>Mod D W62 W86∧st W86 b2 0 [.int .i64 n63,.sl a64] fun W88=>Mod D W62 W88∧k61 (s87==s85) W88)∧(st W84 b2 0 [.int .i64 n63,.sl a64] fun W89=>Mod D W62 W89∧opF Pg (vS (convert 22 9 (LV.toV (.sl a74)))) W89 Ot fun s91 W90=>Mod D W62 W90∧k61 (s91==s85) W90))∧(st W75 b2 0 [.int .i64 n63,.sl a64] fun W92=>Mod D W62 W92∧(opF Pg (vS (convert 22 9 (LV.toV (.sl a74)))) W92 Ot fun s94 W93=>Mod D W62 W93∧opF Pg (vS (convert 22 9 (LV.toV (.sl b1)))) W93 Ot fun s96 W95=>Mod D W62 W95∧k61 (s94==s96) W95)∧(opF Pg (vS (convert 22 9 (LV.toV (.sl b1)))) W92 Ot fun s98 W97=>Mod D W62 W97∧opF Pg (vS (convert 22 9 (LV.toV (.sl a74)))) W97 Ot fun s100 W99=>Mod D W62 W99∧k61 (s100==s98) W99)))∧(opF Pg (vS (convert 22 9 (LV.toV (.sl b1)))) W71 Ot fun s102 W101=>Mod D W62 W101∧callK Pg 94 [.agg [.int .i64 n72,.sl a73]] W101 Oz fun a103 W104=>Mod D W62 W104∧(opF Pg (vS (convert 22 9 (LV.toV (.sl a103)))) W104 Ot fun s106 W105=>Mod D W62 W105∧st W105 b2 0 [.int .i64 n63,.sl a64] fun W107=>Mod D W62 W107∧k61 (s106==s102) W107)∧(st W104 b2 0 [.int .i64 n63,.sl a64] fun W108=>Mod D W62 W108∧opF Pg (vS (convert 22 9 (LV.toV (.sl a103)))) W108 Ot fun s110 W109=>Mod D W62 W109∧k61 (s110==s102) W109))) (st W71 b2 0 [.int .i64 n63,.sl a64] fun W111=>Mod D W62 W111∧k61 false W111)) (st W67 b2 0 [.int .i64 n63,.sl a64] fun W112=>Mod D W62 W112∧k61 false W112)) fun t3113 W114=>ld W114 Ki b2 0 fun n115=>ld W114 .sl b2 1 fun a116=>K n115 a116 t3113 W114):callK Pg 66 [Az b1] w (.tup [.agg [Ki,.sl],Lb]) K:=Fq (n:=(n0 .nil (n0 .nil (n0 .nil (n0 .nil (n0 (n0 .nil (.mk (some []) [] [0,2,4,5] .done (.mk none [.tmp 6 Li,.tmp 7 Li] [0,2,4,5] .done (n0 (n0 (.mk (some [.tmp 24 Lb]) [] [0,2,4,5,6,7] .done .nil .nil) .nil) .nil) .nil) .nil)) (n0 (.mk (some [.tmp 3 Lb]) [] [2] (.take 0 (.take 1 (.eff 2 (tk [3,4,5] (.split 5 (.take 6 (.eff 7 (.take 8 (.take 9 (.take 10 (.split 10 (.take 11 (.take 14 (.two 12 (.three 13 (.two 15 (.take 16 (.take 17 (.eff 18 (.take 19 .done)))) 18 (.eff 15 (.take 16 (.take 17 (.take 19 .done))))) 15 (.two 13 (.take 16 (.take 17 (.eff 18 (.take 19 .done)))) 18 (.eff 13 (.take 16 (.take 17 (.take 19 .done))))) 18 (.two 13 (.eff 15 (.take 16 (.take 17 (.take 19 .done)))) 15 (.eff 13 (.take 16 (.take 17 (.take 19 .done)))))) 15 (.eff 12 (.two 13 (.take 16 (.take 17 (.eff 18 (.take 19 .done)))) 18 (.eff 13 (.take 16 (.take 17 (.take 19 .done))))))))) (.take 11 (.take 12 (.take 13 (.take 14 (.take 15 (.take 16 (.take 17 (.eff 18 (.take 19 .done))))))))))))))) (.take 6 (.take 7 (.take 8 (.take 9 (.take 10 (.take 11 (.take 12 (.take 13 (.take 14 (.take 15 (.take 16 (.take 17 (.eff 18 (.take 19 .done))))))))))))))))))) .nil .nil) .nil))))))) CS_ok mixed Tryz.func66 (Eq.mpr (by kernel_rfl) h)
theorem go_43(d1:PA)(K:Int→Sl→Int→Wp)(w:World)(h:al w 42 [.int .i64 0,.sl (⟨none,0,0⟩)] fun b2 W3=>ifK d1.isNone (st W3 b2 0 [.int .i64 0,.sl (⟨none,0,0⟩)] fun W4=>ld W4 Ki b2 0 fun n5=>ld W4 .sl b2 1 fun a6=>K n5 a6 1 W4) (joinK [.bool] (fun k7=>dr d1 fun b8 o9=>ld W3 .bool b8 (o9+4) fun c10=>ifK c10 (k7 true W3) (dr d1 fun b11 o12=>ld W3 Ki b11 (o12+2) fun n13=>k7 (decide (0<n13)) W3)) fun t1014 W15=>ifK t1014 (st W15 b2 0 [.int .i64 0,.sl (⟨none,0,0⟩)] fun W16=>ld W16 Ki b2 0 fun n17=>ld W16 .sl b2 1 fun a18=>K n17 a18 80 W16) (dr d1 fun b19 o20=>ld W15 .sl b19 (o20+3) fun a21=>callK Pg 66 [Az a21] W15 (.tup [.agg [Ki,.sl],Lb]) fun n22 a23 c24 W25=>al W25 42 [.int .i64 0,.sl (⟨none,0,0⟩)] fun b26 W27=>st W27 b26 0 [.int .i64 n22,.sl a23] fun W28=>joinK [.bool] (fun k29=>drawK W28 fun D W30=>ifK (!c24) (k29 true W30) (ldD D W30 Ki b26 0 fun n31=>ldD D W30 .sl b26 1 fun a32=>dr d1 fun b33 o34=>ldD D W30 Ki b33 o34 fun n35=>callK Pg 67 [.agg [.int .i64 n31,.sl a32]] W30 Oi fun n36 W37=>Mod D W30 W37∧k29 (n36 != n35) W37)) fun t4238 W39=>ifK t4238 (st W39 b2 0 [.int .i64 0,.sl (⟨none,0,0⟩)] fun W40=>ld W40 Ki b2 0 fun n41=>ld W40 .sl b2 1 fun a42=>K n41 a42 80 W40) (ld W39 Ki b26 0 fun n43=>ld W39 .sl b26 1 fun a44=>st W39 b2 0 [.int .i64 n43,.sl a44] fun W45=>ld W45 Ki b2 0 fun n46=>ld W45 .sl b2 1 fun a47=>K n46 a47 0 W45)))):callK Pg 41 [Ap d1] w (.tup [.agg [Ki,.sl],Li]) K:=Fq (n:=(n0 .nil (n0 (n0 (n0 .nil (n0 .nil (n0 (.mk (some [.tmp 10 Lb]) [] [0,2] .done .nil .nil) .nil))) .nil) (n0 .nil (n0 (n0 (.mk (some [.tmp 42 Lb]) [] [2,4] (tk [0,1,2] (.split 2 (.take 3 (.take 4 (.take 5 (.take 6 (.take 7 (.take 8 (.take 9 (.take 10 (.take 11 .done))))))))) (.take 3 (.take 5 (.take 6 (.take 7 (.take 8 (.take 9 (.eff 4 (.take 10 (.take 11 .done))))))))))) .nil .nil) .nil) .nil))))) CS_ok mixed Tryz.func41 (Eq.mpr (by kernel_rfl) h)
end Go.Proofs.YtoegpmjoajipcaaGreatDoor
