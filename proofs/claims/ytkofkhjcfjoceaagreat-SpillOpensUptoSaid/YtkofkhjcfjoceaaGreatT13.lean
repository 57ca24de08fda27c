/- Part T13. -/
import Derived.Test.YtkofkhjcfjoceaaGreatT03
import Derived.Test.YtkofkhjcfjoceaaGreatT12
import Derived.Test.YtkofkhjcfjoceaaGreatT06
import Derived.Test.YtkofkhjcfjoceaaGreatT09
import Derived.Test.YtkofkhjcfjoceaaGreatT10
namespace Go.Proofs.YtkofkhjcfjoceaaGreat
open Go.Vw
set_option maxRecDepth 100000
theorem go_185(b1:Sl)(at_2:Int)(most3:Int)(K:Int→Int→Wp)(w:World)(h:slx b1 1 (some at_2) none none fun s4=>callK Pg 141 [Az s4] w (.tup [Li,Li,Li]) fun n5 n6 n7 W8=>joinK [.bool] (fun k9=>ifK (n7 != 0) (k9 true W8) (k9 (decide (most3<n5)) W8)) fun t2510 W11=>ifK t2510 (K (-1) at_2 W11) (K n5 (w64 (at_2+n6)) W11)):callK Pg 192 [Az b1,Ai at_2,Ai most3] w (.tup [Li,Li]) K:=Fq (n:=(n0 .nil (n0 .nil (n0 (n0 (.mk (some [.tmp 25 Lb]) [] [1,8,9] .done .nil .nil) .nil) .nil)))) CS_ok mixed Tryz.func192 (Eq.mpr (by kernel_rfl) h)
theorem go_183(b1:Sl)(n2:Int)(K:Sl→Bool→Wp)(w:World)(h:joinK [.sl] (fun k3=>loopL [.sl,.str,Ki,Ki] (fun l5 key6 at_7 i8 W9 g4=>ifK (decide (i8<n2)) (callK Pg 192 [Az b1,Ai at_7,Ai (key6.length:Int)] W9 (.tup [Li,Li]) fun n10 n11 W12=>ifK (decide (n10<0)) (K (⟨none,0,0⟩) false W12) (callK Pg 192 [Az b1,Ai n11,Ai (w64 (1024-n10))] W12 (.tup [Li,Li]) fun n13 n14 W15=>ifK (decide (n13<0)) (K (⟨none,0,0⟩) false W15) (callK Pg 192 [Az b1,Ai n14,Ai 1024] W15 (.tup [Li,Li]) fun n16 n17 W18=>joinK [.bool] (fun k19=>ifK (decide (n16<0)) (k19 true W18) (k19 (decide (w64 ((b1.len:Int)-n17)<w64 (n13+n16))) W18)) fun t5820 W21=>ifK t5820 (K (⟨none,0,0⟩) false W21) (drawK W21 fun D W22=>ssx key6 none (some n10) fun s23=>slx b1 1 (some n17) (some (w64 (n17+n13))) none fun s24=>opF Pg (vS (convert 22 9 (LV.toV (.sl s24)))) W22 Ot fun s26 W25=>Mod D W22 W25∧s23.length+s26.length<2^62∧slx b1 1 (some (w64 (n17+n13))) (some (w64 ((w64 (n17+n13))+n16))) none fun s27=>opF Pg (vS (convert 22 9 (LV.toV (.sl s27)))) W25 Ot fun s29 W28=>al W28 122 [.str (s23++s26),.str s29] fun b30 W31=>ap W31 122 2 32 [.str [],.str []] l5 (⟨some (b30,0),1,1⟩) fun a32 W33=>g4 a32 (s23++s26) (w64 ((w64 (n17+n13))+n16)) (w64 (i8+1)) W33)))) (k3 l5 W9)) [.sl (⟨none,0,0⟩),.str [],.int .i64 0,.int .i64 0] w) fun l34 W35=>K l34 true W35):callK Pg 173 [Az b1,Ai n2] w (.tup [Ls,Lb]) K:=Fq (n:=(n0 .nil (n0 .nil (n0 .nil (n0 .nil (n0 (n0 .nil (.mk (some [.tmp 6 Ls]) [] [] .done (.mk none [.tmp 6 Ls,.tmp 7 Lt,.tmp 8 Li,.tmp 9 Li] [0,1] .done (n0 .nil (n0 (n0 (n0 .nil (n0 .nil (n0 .nil (n0 .nil (n0 .nil (n0 (n0 (.mk (some [.tmp 58 Lb]) [] [0,1,6,7,9,10,12,14,15] .done .nil .nil) .nil) (n0 (.mk none [] [] (tk [0,1,2,3,4,5,6,7,8] (.eff 9 (.take 10 (.take 11 .done)))) .nil .nil) .nil))))))) .nil) .nil)) .nil) .nil)) .nil)))))) CS_ok mixed Tryz.func173 (Eq.mpr (by kernel_rfl) h)
theorem go_184(l1:Sl)(restart2:Int)(K:Sl→Wp)(w:World)(h:joinK [.sl,.sl] (fun k3=>loopL [.sl,.sl,Ki] (fun b5 places6 i7 W8 g4=>ifK (decide (i7<(l1.len:Int))) (restart2≠0∧joinK [.sl,Ki] (fun k9=>ifK ((i7.tmod restart2)==0) (callK Pg 193 [.leaf (.int .u64 (IntKind.wrap .u64 ((b5.len:Int)))),Ai 4] W8 Oz fun a10 W11=>ap W11 5 1 1 [.int .u8 0] places6 a10 fun a12 W13=>k9 a12 0 W13) (drawK W8 fun D W14=>ix l1 2 (w64 (i7-1)) fun b15 o16=>ldD D W14 .str b15 o16 fun s17=>ix l1 2 i7 fun b18 o19=>ldD D W14 .str b18 o19 fun s20=>callK Pg 110 [Au s17,Au s20] W14 Oi fun n21 W22=>Mod D W14 W22∧k9 places6 n21 W22)) fun places23 shared24 W25=>callK Pg 144 [Ai shared24] W25 Oz fun a26 W27=>ap W27 5 1 1 [.int .u8 0] b5 a26 fun a28 W29=>ix l1 2 i7 fun b30 o31=>ld W29 .str b30 o31 fun s32=>callK Pg 144 [Ai (w64 ((s32.length:Int)-shared24))] W29 Oz fun a33 W34=>ap W34 5 1 1 [.int .u8 0] a28 a33 fun a35 W36=>ix l1 2 i7 fun b37 o38=>ld W36 .str b37 (o38+1) fun s39=>callK Pg 144 [Ai (s39.length:Int)] W36 Oz fun a40 W41=>ap W41 5 1 1 [.int .u8 0] a35 a40 fun a42 W43=>ix l1 2 i7 fun b44 o45=>ld W43 .str b44 o45 fun s46=>ssx s46 (some shared24) none fun s47=>opF Pg (vS (convert 9 22 (LV.toV (.str s47)))) W43 Oz fun a49 W48=>ap W48 5 1 1 [.int .u8 0] a42 a49 fun a50 W51=>ix l1 2 i7 fun b52 o53=>ld W51 .str b52 (o53+1) fun s54=>opF Pg (vS (convert 9 22 (LV.toV (.str s54)))) W51 Oz fun a56 W55=>ap W55 5 1 1 [.int .u8 0] a50 a56 fun a57 W58=>g4 a57 places23 (w64 (i7+1)) W58) (k3 b5 places6 W8)) [.sl (⟨none,0,0⟩),.sl (⟨none,0,0⟩),.int .i64 0] w) fun b59 places60 W61=>ap W61 5 1 1 [.int .u8 0] b59 places60 fun a62 W63=>callK Pg 193 [.leaf (.int .u64 (IntKind.wrap .u64 (restart2))),Ai 4] W63 Oz fun a64 W65=>ap W65 5 1 1 [.int .u8 0] a62 a64 fun a66 W67=>callK Pg 193 [.leaf (.int .u64 (IntKind.wrap .u64 ((l1.len:Int)))),Ai 4] W67 Oz fun a68 W69=>ap W69 5 1 1 [.int .u8 0] a66 a68 fun a70 W71=>K a70 W71):callK Pg 174 [Az l1,Ai restart2] w Oz K:=Fq (n:=(n0 .nil (n0 .nil (n0 (n0 .nil (.mk (some [.tmp 5 Ls,.tmp 6 Ls]) [] [0,1] .done (.mk none [.tmp 5 Ls,.tmp 6 Ls,.tmp 7 Li] [0,1] .done (n0 .nil (n0 (n0 (n0 .nil (n0 (n0 .nil (.mk (some [.tmp 6 Ls,.tmp 8 Li]) [] [0,1,5,7] .done .nil (.mk none [] [] (tk [0,1,2,3,4,5,6,7,8,9,10] (.eff 11 (.take 12 .done))) .nil .nil))) .nil)) .nil) .nil)) .nil) .nil)) .nil)))) CS_ok mixed Tryz.func174 (Eq.mpr (by kernel_rfl) h)
theorem go_182(b1:Sl)(K:Sl→Bool→Wp)(w:World)(h:ifK (decide ((b1.len:Int)<8)) (K (⟨none,0,0⟩) false w) (slx b1 1 (some (w64 ((b1.len:Int)-8))) (some (w64 ((b1.len:Int)-4))) none fun s2=>callK Pg 65 [Az s2] w (.one (.leaf (.int .u64))) fun n3 W4=>slx b1 1 (some (w64 ((b1.len:Int)-4))) none none fun s5=>callK Pg 65 [Az s5] W4 (.one (.leaf (.int .u64))) fun n6 W7=>joinK [.bool] (fun k8=>ifK (decide (n3<1)) (k8 true W7) (ifK (decide (64<n3)) (k8 true W7) (ifK (decide (n6<1)) (k8 true W7) (k8 (decide (IntKind.wrap .u64 ((b1.len:Int))<n6)) W7)))) fun t439 W10=>ifK t439 (K (⟨none,0,0⟩) false W10) (slx b1 1 none (some (w64 ((b1.len:Int)-8))) none fun s11=>callK Pg 173 [Az s11,Ai (w64 (n6))] W10 (.tup [Ls,Lb]) fun a12 c13 W14=>ifK (!c13) (K (⟨none,0,0⟩) false W14) (joinK [] (fun k15=>loopL [Ki] (fun i17 W18 g16=>ifK (decide (i17<(a12.len:Int))) (drawK W18 fun D W19=>ix a12 2 i17 fun b20 o21=>ldD D W19 .str b20 o21 fun s22=>ix a12 2 (w64 (i17-1)) fun b23 o24=>ldD D W19 .str b23 o24 fun s25=>callK Pg 78 [Au s22,Au s25] W19 Oi fun n26 W27=>Mod D W19 W27∧ifK (decide (n26<0)) (K (⟨none,0,0⟩) false W27) (g16 (w64 (i17+1)) W27)) (k15 W18)) [.int .i64 1] W14) fun W28=>joinK [.sl,.bool] (fun k29=>drawK W28 fun D W30=>(callK Pg 174 [Az a12,Ai (w64 (n3))] W30 Oz fun a31 W32=>Mod D W30 W32∧(opF Pg (vS (convert 22 9 (LV.toV (.sl a31)))) W32 Ot fun s34 W33=>Mod D W30 W33∧opF Pg (vS (convert 22 9 (LV.toV (.sl b1)))) W33 Ot fun s36 W35=>Mod D W30 W35∧k29 a12 (s34==s36) W35)∧(opF Pg (vS (convert 22 9 (LV.toV (.sl b1)))) W32 Ot fun s38 W37=>Mod D W30 W37∧opF Pg (vS (convert 22 9 (LV.toV (.sl a31)))) W37 Ot fun s40 W39=>Mod D W30 W39∧k29 a12 (s40==s38) W39))∧(opF Pg (vS (convert 22 9 (LV.toV (.sl b1)))) W30 Ot fun s42 W41=>Mod D W30 W41∧callK Pg 174 [Az a12,Ai (w64 (n3))] W41 Oz fun a43 W44=>Mod D W30 W44∧opF Pg (vS (convert 22 9 (LV.toV (.sl a43)))) W44 Ot fun s46 W45=>Mod D W30 W45∧k29 a12 (s46==s42) W45)) fun t247 t348 W49=>K t247 t348 W49)))):callK Pg 152 [Az b1] w (.tup [Ls,Lb]) K:=Fq (n:=(n0 .nil (n0 .nil (n0 .nil (n0 .nil (n0 (n0 (.mk (some [.tmp 43 Lb]) [] [0,4,5] .done .nil .nil) .nil) (n0 .nil (n0 .nil (n0 (n0 .nil (.mk (some []) [] [0,4,6] .done (.mk none [.tmp 8 Li] [0,4,6] .done (n0 .nil (n0 (n0 (n0 (.mk none [] [] (tk [0,1,2,3,4,5,6,7,8,9,10] (.eff 11 (.take 12 .done))) .nil .nil) .nil) .nil) .nil)) .nil) .nil)) (n0 (.mk (some [.tmp 2 Ls,.tmp 3 Lb]) [] [] (tk [0,1,2,3,6] (.two 4 (.take 9 (.two 5 (.eff 7 (.take 8 (.take 10 .done))) 7 (.eff 5 (.take 8 (.take 10 .done))))) 7 (.eff 4 (.take 9 (.eff 5 (.take 8 (.take 10 .done))))))) .nil .nil) .nil)))))))))) CS_ok mixed Tryz.func152 (Eq.mpr (by kernel_rfl) h)
theorem go_181(payload1:Sl)(flag2:Int)(raw3:Int)(K:Sl→Bool→Wp)(w:World)(h:ifK (flag2==0) (K payload1 ((payload1.len:Int)==raw3) w) (ifK (flag2==1) (callK Pg 171 [Az payload1,Ai raw3] w (.tup [Ls,Li]) fun a4 n5 W6=>K a4 (n5==0) W6) (ifK (flag2==2) (callK Pg 172 [Az payload1,Ai raw3] w (.tup [Ls,Li]) fun a7 n8 W9=>K a7 (n8==0) W9) (K (⟨none,0,0⟩) false w)))):callK Pg 151 [Az payload1,.leaf (.int .u8 flag2),Ai raw3] w (.tup [Ls,Lb]) K:=Fq (n:=.nil) CS_ok mixed Tryz.func151 (Eq.mpr (by kernel_rfl) h)
theorem go_180(tile1:Sl)(raw2:Int)(K:PA→Int→Wp)(w:World)(h:joinK [.bool] (fun k3=>ifK (decide (raw2<1)) (k3 true w) (k3 (decide (65536<raw2)) w)) fun t184 W5=>ifK t184 (K none 3 W5) (callK Pg 64 [Az tile1] W5 (.tup [Ls,Li]) fun a6 n7 W8=>ifK (n7 != 0) (K none n7 W8) (ifK ((a6.len:Int)==0) (K none 60 W8) (slx a6 1 none (some (w64 ((a6.len:Int)-1))) none fun s9=>ifK (decide (w64 (64*(s9.len:Int))<raw2)) (K none 60 W8) (ix a6 1 (w64 ((a6.len:Int)-1)) fun b10 o11=>ld W8 (.int .u8) b10 o11 fun n12=>callK Pg 151 [Az s9,.leaf (.int .u8 n12),Ai raw2] W8 (.tup [Ls,Lb]) fun a13 c14 W15=>ifK (!c14) (K none 60 W15) (callK Pg 152 [Az a13] W15 (.tup [Ls,Lb]) fun a16 c17 W18=>ifK (!c17) (K none 60 W18) (al W18 203 [.sl a16] fun b19 W20=>K (some (b19,0)) 0 W20))))))):callK Pg 120 [Az tile1,Ai raw2] w (.tup [Lp,Li]) K:=Fq (n:=(n0 .nil (n0 (n0 (.mk (some [.tmp 18 Lb]) [] [0,1] .done .nil .nil) .nil) .nil))) CS_ok mixed Tryz.func120 (Eq.mpr (by kernel_rfl) h)
def numM(b:Str)(at_ most:Nat):Option (Nat×Nat):=if (getN (b.drop at_)).2.2≠0∨most<(getN (b.drop at_)).1 then none else some ((getN (b.drop at_)).1,at_+(getN (b.drop at_)).2.1)
def entR(b:Str):Nat→Str→Nat→List (Str×Str)→Option (List (Str×Str))
 | 0,_,_,l=>some l
 | k+1,key,at_,l=>match numM b at_ key.length with
  | none=>none
  | some sh=>match numM b sh.2 (1024-sh.1) with
   | none=>none
   | some rs=>match numM b rs.2 1024 with
    | none=>none
    | some va=>if b.length-va.2<rs.1+va.1 then none else
     entR b k (key.take sh.1++(b.drop va.2).take rs.1) (va.2+rs.1+va.1) (l++[(key.take sh.1++(b.drop va.2).take rs.1,(b.drop (va.2+rs.1)).take va.1)])
theorem numM_le{b:Str}{at_ most:Nat}(h:at_≤b.length){x:Nat×Nat}(hx:numM b at_ most=some x):x.1≤most∧x.2≤b.length:=by
 unfold numM at hx;split at hx
 ·cases hx
 ·rename_i hh;cases hx;have:=getN_len (b.drop at_);rw [Lld] at this;exact⟨by show (getN _).1≤_;omega,by show at_+_≤_;omega⟩
theorem rNumberM_ok{w:World}{s:Sl}{b:Str}(hr:RdS w ET s b)(hl:b.length≤1099511627776){i j:Int}{at_ most:Nat}(hi:i=(at_:Int))(hj:j=(most:Int))(ha:at_≤b.length){K:Int→Int→Wp}
  (hN:numM b at_ most=none→K (-1) (at_:Int) w) (hS:∀x,numM b at_ most=some x→K (x.1:Int) (x.2:Int) w) :
  callK Pg c_185 [Az s,Ai i,Ai j] w (.tup [Li,Li]) K:=by
 subst hi;subst hj;refine go_185 _ _ _ _ _ ?_;refine hr.fromK ha rfl rfl fun s3 h3 _=>rGet_ok h3 (by rw [Lld];omega) ?_;have hgl:=getN_len (b.drop at_);rw [Lld] at hgl;unfold numM at hN hS;generalize getN (b.drop at_)=g at hN hS hgl ⊢;refine join1 (a:=.bool) (fun q v=>q=decide (g.2.2≠0∨most<g.1)∧v=w) (fun k hk=>Iq (fun q=>hk _ _ ⟨?_,rfl⟩) fun q=>hk _ _ ⟨?_,rfl⟩) ?_
 ·exact (Dct (.inl (by simpa using q))).symm
 ·have q:g.2.2=0:=by simpa using q
  show decide ((most:Int)<(g.1:Int))=_;rw [Bei,Det,Det];exact⟨fun h=>.inr (by omega),fun h=>by
   rcases h with h | h
   ·exact absurd q h
   ·omega⟩
 rintro q v ⟨rfl,rfl⟩;refine Iq (fun q=>?_) fun q=>?_
 ·exact hN (if_pos (odt q))
 ·have:=hS _ (if_neg (odf q));rw [show w64 ((at_:Int)+(g.2.1:Int))=((at_+g.2.1:Nat):Int) by rw [Wq (by omega) (by omega)];omega];exact this
theorem takeL{b:Str}{a c:Nat}(h:a+c≤b.length):((b.drop a).take c).length=c:=by rw [Llt,Lld];omega
set_option maxHeartbeats 2000000 in
theorem rEntries_ok{w:World}{s:Sl}{b:Str}(hr:RdS w ET s b)(hl:b.length≤1048576){n:Nat}(hn:n≤1048576){K:Sl→Bool→Wp}
  (hN:entR b n [] 0 []=none→∀w',Mod F0 w w'→K ⟨none,0,0⟩ false w') (hS:∀l,entR b n [] 0 []=some l→∀w' ro s',Fresh w w' F0 ro→VecL ro EPr s' l→K s' true w') :
  callK Pg c_183 [Az s,Ai (n:Int)] w (.tup [Ls,Lb]) K:=by
 refine go_183 _ _ _ _ ?_;generalize hT:entR b n [] 0 []=T at hN hS;refine join1 (a:=.sl) (fun (s':Sl) u=>∃ro l,T=some l∧Fresh w u F0 ro∧VecL ro EPr s' l) ?_ (by rintro s' u ⟨ro,l,e,hf,hv⟩;exact hS l e u ro s' hf hv);intro k3 hk3;refine loop4 (k1:=.sl) (k2:=.str) (k3:=Ki) (k4:=Ki) (fun (s':Sl) (key:Str) (a i:Int) u=>∃(k at_ j:Nat) (ro:BL) (l:List (Str×Str)),a=(at_:Int)∧i=(j:Int)∧j+k=n∧l.length=j∧at_≤b.length∧key.length≤1024∧Fresh w u F0 ro∧VecL ro EPr s' l∧T=entR b k key at_ l) (fun _ _ _ i _=>(n-i).toNat) (x1:=⟨none,0,0⟩) (x2:=[]) (x3:=0) (x4:=0) rfl rfl rfl rfl
  ⟨n,0,0,[],[],rfl,rfl,by simp,rfl,Nzl _,Nzl _,Fresh.start w F0,VecL.nil EPr,hT.symm⟩ ?_
 rintro s' key a i u ⟨k,at_,j,ro,l,rfl,rfl,hjk,hlj,hat,hkey,hf,hv,hrun⟩;change Str at key;refine Iq (fun q1=>?_) fun q1=>?_;rotate_left
 ·have q1:=dge q1;have:k=0:=by omega
  subst this;exact hk3 _ _ ⟨ro,l,hrun,hf,hv⟩
 have q1:=dlt q1;obtain⟨k,rfl⟩:∃j,k=j+1:=⟨k-1,by omega⟩;rw [entR] at hrun;have hru:=hr.quiet hf.mod;refine rNumberM_ok hru (by omega) rfl rfl hat (fun e=>?_) fun sh esh=>?_
 ·rw [e] at hrun;exact ifK_t rfl (hN hrun u hf.mod)
 rw [esh] at hrun;dsimp only at hrun;have h1:=numM_le hat esh;have e1:w64 (1024-(sh.1:Int))=((1024-sh.1:Nat):Int):=by rw [Wq (by omega) (by omega)];omega
 rw [e1];refine ifK_f (Dcf (by omega:¬((sh.1:Nat):Int)<0)) (rNumberM_ok hru (by omega) rfl rfl h1.2 (fun e=>?_) fun rs ers=>?_)
 ·rw [e] at hrun;exact ifK_t rfl (hN hrun u hf.mod)
 rw [ers] at hrun;dsimp only at hrun;have h2:=numM_le h1.2 ers;refine ifK_f (Dcf (by omega:¬((rs.1:Nat):Int)<0)) (rNumberM_ok hru (by omega) rfl (most:=1024) rfl h2.2 (fun e=>?_) fun va eva=>?_)
 ·rw [e] at hrun;refine join1 (a:=.bool) (fun q z=>q=true∧z=u) (fun k hk=>ifK_t rfl (hk _ _ ⟨rfl,rfl⟩)) ?_;rintro q z ⟨rfl,rfl⟩;exact ifK_t rfl (hN hrun z hf.mod)
 rw [eva] at hrun;dsimp only at hrun;have h3:=numM_le h2.2 eva;rw [hr.len];have e2:w64 ((b.length:Int)-(va.2:Int))=((b.length-va.2:Nat):Int):=by rw [Wq (by omega) (by omega)];omega
 have e3:w64 ((rs.1:Int)+(va.1:Int))=((rs.1+va.1:Nat):Int):=by rw [Wq (by omega) (by omega)];omega
 rw [e2,e3];refine join1 (a:=.bool) (fun q z=>q=decide (b.length-va.2<rs.1+va.1)∧z=u) (fun k hk=>ifK_f (Dcf (by omega:¬((va.1:Nat):Int)<0)) (hk _ _ ⟨?_,rfl⟩)) ?_
 ·show decide (((b.length-va.2:Nat):Int)<((rs.1+va.1:Nat):Int))=_;rw [Bei,Det,Det];omega
 rintro q z ⟨rfl,rfl⟩;refine Iq (fun q=>?_) fun q=>?_
 ·rw [if_pos (odt q)] at hrun;exact hN hrun z hf.mod
 have q:=odf q;rw [if_neg q] at hrun;have e4:w64 ((va.2:Int)+(rs.1:Int))=((va.2+rs.1:Nat):Int):=by rw [Wq (by omega) (by omega)];omega
 have e5:w64 (((va.2+rs.1:Nat):Int)+(va.1:Int))=((va.2+rs.1+va.1:Nat):Int):=by rw [Wq (by omega) (by omega)];omega
 rw [e4,e5];have hfd:=hf.quiet (Mq z);have hrd:=hr.quiet hfd.mod;refine⟨F0,ssx_take (n:=sh.1) h1.1 rfl (hrd.partK (n:=va.2) (m:=va.2+rs.1) (by omega) (by omega) rfl rfl rfl fun s24 h24 _=>convT h24 ⟨Mod.refl _ _,?_,?_⟩)⟩
 ·rw [Llt,Lld,Llt];omega
 have p1:(b.take (va.2+rs.1)).drop va.2=(b.drop va.2).take rs.1:=by rw [List.drop_take,Nat.add_sub_cancel_left]
 rw [p1];refine hrd.partK (n:=va.2+rs.1) (m:=va.2+rs.1+va.1) (by omega) (by omega) rfl rfl rfl fun s27 h27 _=>convT h27 ?_;have p2:(b.take (va.2+rs.1+va.1)).drop (va.2+rs.1)=(b.drop (va.2+rs.1)).take va.1:=by rw [List.drop_take,Nat.add_sub_cancel_left]
 rw [p2];have hkl:(key.take sh.1++(b.drop va.2).take rs.1).length≤1024:=by rw [Lla,Llt,takeL (by omega)];omega
 generalize key.take sh.1++(b.drop va.2).take rs.1=nk at hrun hkl ⊢;generalize (b.drop (va.2+rs.1)).take va.1=vv at hrun ⊢;refine Fresh.push (m:=[]) hfd hv (nk,vv) rfl rfl rfl (by omega) fun s5 ro5 u5 f5 v5 _=>?_;rw [step64 (by omega)];exact⟨⟨k,va.2+rs.1+va.1,j+1,ro5,l++[(nk,vv)],rfl,rfl,by omega,by simp [hlj],by omega,hkl,f5,v5,hrun⟩,by omega⟩
def sharedN(restart i:Nat)(prev:Str)(x:Str×Str):Nat:=if i%restart=0 then 0 else comN prev x.1
def entN(shared:Nat)(x:Str×Str):Str:=putN shared++putN (x.1.length-shared)++putN x.2.length++x.1.drop shared++x.2
def rawB(restart:Nat):Nat→Str→List (Str×Str)→Str→Str→Str×Str
 | _,_,[],b,p=>(b,p)
 | i,prev,x::r,b,p=>rawB restart (i+1) x.1 r (b++entN (sharedN restart i prev x) x) (if i%restart=0 then p++fixN b.length 4 else p)
def rawN(l:List (Str×Str))(restart:Nat):Str:=(rawB restart 0 [] l [] []).1++(rawB restart 0 [] l [] []).2++fixN restart 4++fixN l.length 4
theorem entN_len{s:Nat}{x:Str×Str}(h1:x.1.length≤1024)(h2:x.2.length≤1024)(hs:s≤1024):(entN s x).length≤2100:=by
 have p1:=putN_9 (v:=s) (by omega);have p2:=putN_9 (v:=x.1.length-s) (by omega);have p3:=putN_9 (v:=x.2.length) (by omega);unfold entN;simp only [Lla,Lld];omega
theorem rPutApp{w u:World}{m ro:BL}{s:Sl}{t:Str}(f:Fresh w u F0 (m++ro))(v:VecL ro ET s t){i:Int}{n:Nat}(hi:i=(n:Int))(hn:n<4611686018427387904)(hl:t.length≤549755813888){K:Sl→Wp}
  (hK:∀s' ro' u',Fresh w u' F0 (m++ro')→VecL ro' ET s' (t++putN n)→K s' u'):callK Pg c_117 [Ai i] u Oz fun a w'=>ap w' 5 1 1 [.int .u8 0] s a K:=by
 subst hi;refine rPut_ok (by omega) fun u2 ro2 s2 g2 v2=>?_;have h9:=putN_9 hn;have f2:Fresh w u2 F0 ((m++ro2)++ro):=(f.join (Fresh.of_at g2) (fun _ _ h=>h) (fun _ _ _ h=>h)).perm (by
  rw [Laa,Laa];exact Lpc.append_left m)
 refine f2.app v (v2.rd fun p hp=>f2.own p (Lml _ (Lmr _ hp))) rfl rfl (by omega) fun s3 ro3 u3 f3 v3 M3=>?_;exact hK s3 ro3 u3 (f3.sub ((Lsl m ro2).append (List.Sublist.refl _))) v3
theorem rFixApp{w u:World}{m ro:BL}{s:Sl}{t:Str}(f:Fresh w u F0 (m++ro))(v:VecL ro ET s t){i:Int}{n:Nat}(hi:i=(n:Int))(hn:n<18446744073709551616)(hl:t.length≤549755813888){K:Sl→Wp}
  (hK:∀s' ro' u',Fresh w u' F0 (m++ro')→VecL ro' ET s' (t++fixN n 4)→K s' u'):callK Pg c_120 [.leaf (.int .u64 i),Ai 4] u Oz fun a w'=>ap w' 5 1 1 [.int .u8 0] s a K:=by
 subst hi;refine rFixed_ok (n:=4) hn (by decide) (by decide) fun u2 ro2 s2 g2 v2=>?_;have h4:=fixN_length n 4;have f2:Fresh w u2 F0 ((m++ro2)++ro):=(f.join (Fresh.of_at g2) (fun _ _ h=>h) (fun _ _ _ h=>h)).perm (by
  rw [Laa,Laa];exact Lpc.append_left m)
 refine f2.app v (v2.rd fun p hp=>f2.own p (Lml _ (Lmr _ hp))) rfl rfl (by omega) fun s3 ro3 u3 f3 v3 M3=>?_;exact hK s3 ro3 u3 (f3.sub ((Lsl m ro2).append (List.Sublist.refl _))) v3
theorem rStrApp{w u:World}{m ro:BL}{s:Sl}{t x:Str}(f:Fresh w u F0 (m++ro))(v:VecL ro ET s t)(hl:t.length+x.length≤549755813888){K:Sl→Wp}
  (hK:∀s' ro' u',Fresh w u' F0 (m++ro')→VecL ro' ET s' (t++x)→K s' u'):opF Pg (vS (convert 9 t_bytes (LV.toV (.str x)))) u Oz fun a w'=>ap w' 5 1 1 [.int .u8 0] s a K:=by
 refine convS fun s2 u2 h2 M2=>?_;have f2:=f.quiet M2;exact f2.app v h2 rfl rfl (by omega) fun s3 ro3 u3 f3 v3 M3=>hK s3 ro3 u3 f3 v3
set_option maxHeartbeats 4000000 in
theorem rRaw_ok{w:World}{s:Sl}{l:List (Str×Str)}(hr:RdS w EPr s l)(hll:l.length≤1048576)(hlen:∀x∈l,x.1.length≤1024∧x.2.length≤1024){R:Nat}(hR:1≤R)(hR2:R≤64){K:Sl→Wp}
  (hK:∀w' ro s',Fresh w w' F0 ro→VecL ro ET s' (rawN l R)→K s' w') :
  callK Pg c_184 [Az s,Ai (R:Int)] w Oz K:=by
 refine go_184 _ _ _ _ ?_;unfold rawN at hK;generalize hT:rawB R 0 [] l [] []=T at hK;rw [hr.len];refine join2 (a:=.sl) (b:=.sl) (fun (b p:Sl) u=>∃rb rp,Fresh w u F0 (rp++rb)∧VecL rb ET b T.1∧VecL rp ET p T.2∧T.1.length≤2100*l.length∧T.2.length≤4*l.length) ?_ ?_;rotate_left
 ·rintro b p u ⟨rb,rp,hf,hvb,hvp,hlb,hlp⟩;refine hf.app hvb (hvp.rd fun q hq=>hf.own q (Lml _ hq)) rfl rfl (by omega) fun s2 ro2 u2 f2 v2 _=>?_;have hw1:IntKind.wrap .u64 (R:Int)=(R:Int):=by rw [wrap_u64];omega
  rw [hw1];refine rFixApp f2 v2 rfl (by omega) (by rw [Lla];omega) fun s3 ro3 u3 f3 v3=>?_;have hw2:IntKind.wrap .u64 (l.length:Int)=(l.length:Int):=by rw [wrap_u64];omega
  rw [hw2];have h4:=fixN_length R 4;refine rFixApp f3 v3 rfl (by omega) (by rw [Lla,Lla];omega) fun s4 ro4 u4 f4 v4=>?_;exact hK u4 ro4 s4 (f4.sub (Lsr _ _)) v4
 intro k3 hk3;refine loop3 (k1:=.sl) (k2:=.sl) (k3:=Ki) (fun (b p:Sl) (a:Int) u=>∃(i:Nat) (rb rp:BL) (tb tp prev:Str),a=(i:Int)∧i≤l.length∧Fresh w u F0 (rp++rb)∧VecL rb ET b tb∧VecL rp ET p tp∧(∀j x,i=j+1→l[j]? = some x→prev=x.1)∧tb.length≤2100*i∧tp.length≤4*i∧T=rawB R i prev (l.drop i) tb tp) (fun _ _ a _=>(l.length-a).toNat) (x1:=⟨none,0,0⟩) (x2:=⟨none,0,0⟩) (x3:=0) rfl rfl rfl
  ⟨0,[],[],[],[],[],rfl,Nzl _,Fresh.start w F0,VecL.nil ET,VecL.nil ET,fun j x h=>by omega,Nzl _,Nzl _,hT.symm⟩ ?_
 rintro b p a u ⟨i,rb,rp,tb,tp,prev,rfl,hi,hf,hvb,hvp,hprev,hlb,hlp,hrun⟩;change Sl at b;change Sl at p;refine Iq (fun q1=>?_) fun q1=>?_;rotate_left
 ·have q1:=dge q1;have:i=l.length:=by omega
  subst this;rw [Ldn (Nlr _),rawB] at hrun;exact hk3 _ _ _ ⟨rb,rp,hf,by rw [hrun];exact hvb,by rw [hrun];exact hvp,by rw [hrun];exact hlb,by rw [hrun];exact hlp⟩
 have q1:=dlt q1;obtain⟨x,hx⟩:=Gq q1;rw [Dg hx,rawB] at hrun;have hxl:=hlen x (Lmg hx);refine⟨by omega,?_⟩;have etm:((i:Int).tmod (R:Int))=((i%R:Nat):Int):=tmodN i R;have etm2:(((i%R:Nat):Int)==0)=decide (i%R=0):=by rw [Bei,beq_iff_eq,Det];omega
 rw [etm,etm2];refine join2 (a:=.sl) (b:=Ki) (fun (p':Sl) (sh:Int) z=>∃rp',sh=((sharedN R i prev x:Nat):Int)∧Fresh w z F0 (rp'++rb)∧VecL rp' ET p' (if i%R=0 then tp++fixN tb.length 4 else tp)) ?_ ?_
 ·intro k9 hk9;refine Iq (fun q2=>?_) fun q2=>?_
  ·have q2:=odt q2;have hw:IntKind.wrap .u64 ((b.len:Int))=(tb.length:Int):=by rw [hvb.1,wrap_u64];omega
   rw [hw];refine rFixApp (hf.perm Lpc) hvp rfl (by omega) (by omega) fun s2 ro2 u2 f2 v2=>?_;exact hk9 _ _ u2 ⟨ro2,by unfold sharedN;rw [if_pos q2];rfl,f2.perm Lpc,by rw [if_pos q2];exact v2⟩
  ·have q2:=odf q2;have hfd:=hf.quiet (Mq u);have hrd:=hr.quiet hfd.mod;obtain⟨j,rfl⟩:∃j,i=j+1:=⟨i-1,by
    have:i≠0:=fun e=>q2 (by rw [e];exact Nat.zero_mod _);omega⟩
   obtain⟨y,hy⟩:=Gq (l:=l) (i:=j) (by omega);have hpy:=hprev j y rfl hy;have hyl:=hlen y (Lmg hy);have ej:w64 (((j+1:Nat):Int)-1)=(j:Int):=by rw [Wq (by omega) (by omega)];omega
   rw [ej];refine⟨F0,hrd.ix rfl rfl hy fun b1 o1 _ hc1=>Lw (k:=.str) y.1 id (hc1 0 (by decide)) (hrd.ix rfl rfl hx fun b2 o2 _ hc2=>Lw (k:=.str) x.1 id (hc2 0 (by decide)) (rCommon_ok (by omega) fun z M=>⟨M,hk9 _ _ z ⟨rp,?_,hfd.quiet M,?_⟩⟩))⟩
   ·unfold sharedN;rw [if_neg q2,hpy]
   ·rw [if_neg q2];exact hvp
 rintro p' sh z ⟨rp',rfl,hf2,hvp'⟩;have hsh:sharedN R i prev x≤x.1.length:=by
  unfold sharedN;split
  ·exact Nzl _
  ·exact Nat.le_trans (comN_le prev x.1) (Nat.min_le_right _ _)
 have hel:=entN_len (s:=sharedN R i prev x) hxl.1 hxl.2 (by omega);have hpl:(if i%R=0 then tp++fixN tb.length 4 else tp).length≤4*(i+1):=by
  split
  ·rw [Lla,fixN_length];omega
  ·omega
 generalize (if i%R=0 then tp++fixN tb.length 4 else tp)=tp' at hrun hvp' hpl;have eent:tb++putN (sharedN R i prev x)++putN (x.1.length-sharedN R i prev x)++putN x.2.length++x.1.drop (sharedN R i prev x)++x.2=tb++entN (sharedN R i prev x) x:=by simp [entN]
 generalize sharedN R i prev x=sh at hrun hsh hel eent ⊢;have rk:∀{z:World} {L:BL} {K:Str→Prop},Fresh w z F0 L→K x.1→Go.Vw.ix s 2 (i:Int) fun b o=>Go.Vw.ld z .str b o K:=fun f hk=>(hr.quiet f.mod).ix rfl rfl hx fun b o _ hc=>Lq (k:=.str) x.1 (hc 0 (by decide)) hk;have rv:∀{z:World} {L:BL} {K:Str→Prop},Fresh w z F0 L→K x.2→Go.Vw.ix s 2 (i:Int) fun b o=>Go.Vw.ld z .str b (o+1) K:=fun f hk=>(hr.quiet f.mod).ix rfl rfl hx fun b o _ hc=>Lq (k:=.str) x.2 (hc 1 (by decide)) hk;have p1:=putN_9 (v:=sh) (by omega);have p2:=putN_9 (v:=x.1.length-sh) (by omega);have p3:=putN_9 (v:=x.2.length) (by omega);have htb:tb.length≤2202009600:=by omega
 refine rPutApp hf2 hvb rfl (by omega) (by omega) fun s3 ro3 u3 f3 v3=>rk f3 ?_;have ew:w64 ((x.1.length:Int)-(sh:Int))=((x.1.length-sh:Nat):Int):=by rw [Wq (by omega) (by omega)];omega
 rw [ew];refine rPutApp f3 v3 rfl (by omega) (by simp only [Lla];omega) fun s4 ro4 u4 f4 v4=>rv f4 ?_;refine rPutApp f4 v4 rfl (by omega) (by simp only [Lla];omega) fun s5 ro5 u5 f5 v5=>rk f5 (ssx_drop hsh rfl ?_);refine rStrApp f5 v5 (by simp only [Lla,Lld];omega) fun s6 ro6 u6 f6 v6=>rv f6 ?_;refine rStrApp f6 v6 (by simp only [Lla,Lld];omega) fun s7 ro7 u7 f7 v7=>?_;rw [eent] at v7;rw [step64 (by omega)];refine⟨⟨i+1,ro7,rp',_,_,x.1,rfl,q1,f7,v7,hvp',fun j y h hy=>?_,by rw [Lla];omega,hpl,hrun⟩,by omega⟩;have:j=i:=by omega
 subst this;rw [hx] at hy;cases hy;rfl
def adjN:List (Str×Str)→Bool
 | x::y::r=>!decide (cmpN y.1 x.1<0)&&adjN (y::r)
 | _=>true
def parseR(b:Str):Option (List (Str×Str)):=
 if b.length<8 then none else
 if wordN ((b.take (b.length-4)).drop (b.length-8))<1∨64<wordN ((b.take (b.length-4)).drop (b.length-8))∨wordN (b.drop (b.length-4))<1∨b.length<wordN (b.drop (b.length-4)) then none else
 match entR (b.take (b.length-8)) (wordN (b.drop (b.length-4))) [] 0 [] with
 | none=>none
 | some l=>if adjN l=false then none else if rawN l (wordN ((b.take (b.length-4)).drop (b.length-8)))=b then some l else none
def textR(flag:Nat)(p:Str)(raw:Int):Option Str:=if flag=0 then (if (p.length:Int)=raw then some p else none) else if flag=1 then lzR p raw else if flag=2 then huffR p raw else none
def blockR(tile:Str)(raw:Int):Int×Option (List (Str×Str)):=
 if raw<1∨65536<raw then (3,none) else
 if (openB tile).1≠0 then ((openB tile).1,none) else
 if (openB tile).2.length=0 then (60,none) else
 if 64*(((openB tile).2.length-1:Nat):Int)<raw then (60,none) else
 match textR ((openB tile).2.getD ((openB tile).2.length-1) 0).toNat ((openB tile).2.take ((openB tile).2.length-1)) raw with
 | none=>(60,none)
 | some t=>match parseR t with
  | none=>(60,none)
  | some l=>(0,some l)
theorem entR_len{b:Str}:∀(k:Nat) (key:Str) (at_:Nat) (l:List (Str×Str)) {r:List (Str×Str)},entR b k key at_ l=some r→key.length≤1024→at_≤b.length→(∀x∈l,x.1.length≤1024∧x.2.length≤1024)→r.length=l.length+k∧∀x∈r,x.1.length≤1024∧x.2.length≤1024
 | 0,_,_,l,r,h,_,_,hl=>by cases h;exact⟨rfl,hl⟩
 | k+1,key,at_,l,r,h,hk,ha,hl=>by
  rw [entR] at h;split at h
  ·cases h
  rename_i sh esh;split at h
  ·cases h
  rename_i rs ers;split at h
  ·cases h
  rename_i va eva;split at h
  ·cases h
  rename_i hq;have h1:=numM_le ha esh;have h2:=numM_le h1.2 ers;have h3:=numM_le h2.2 eva;have hkl:(key.take sh.1++(b.drop va.2).take rs.1).length≤1024:=by rw [Lla,Llt,takeL (by omega)];omega
  have hvl:((b.drop (va.2+rs.1)).take va.1).length≤1024:=by rw [takeL (by omega)];omega
  have:=entR_len k _ _ _ h hkl (by omega) (fun x hx=>by
   rcases Lma.1 hx with hx | hx
   ·exact hl x hx
   ·rw [Lms.1 hx];exact⟨hkl,hvl⟩)
  refine⟨?_,this.2⟩;rw [this.1,Lla,List.length_singleton];omega
theorem adjN_get:∀{l:List (Str×Str)},adjN l=true↔∀i x y,l[i]? = some x→l[i+1]? = some y→¬cmpN y.1 x.1<0
 | []=>⟨fun _ i x y h=>by simp at h,fun _=>rfl⟩
 | [z]=>⟨fun _ i x y h h2=>by simp at h2,fun _=>rfl⟩
 | x::y::r=>by
  rw [adjN,Bat,Bool.not_eq_true',decide_eq_false_iff_not,adjN_get (l:=y::r)];constructor
  ·rintro ⟨h1,h2⟩ i a b ha hb
   cases i with
   | zero=>simp at ha hb;subst ha;subst hb;exact h1
   | succ i=>exact h2 i a b (by simpa using ha) (by simpa using hb)
  ·intro h;exact⟨h 0 x y rfl rfl,fun i a b ha hb=>h (i+1) a b (by simpa using ha) (by simpa using hb)⟩
theorem wordN_8(t:Str):wordN t<18446744073709551616:=by
 have h:=wordF_lt (t.take 8);have h2:(t.take 8).length≤8:=by rw [Llt];omega
 have h3:256^(t.take 8).length≤256^8:=Nat.pow_le_pow_right (by decide) h2;exact Nat.lt_of_lt_of_le h h3
set_option maxHeartbeats 2000000 in
theorem rParse_ok{w:World}{s:Sl}{b:Str}(hr:RdS w ET s b)(hl:b.length≤1048576){K:Sl→Bool→Wp}
  (hN:parseR b=none→∀s' w',Mod F0 w w'→K s' false w') (hS:∀l,parseR b=some l→∀w' ro s',Fresh w w' F0 ro→VecL ro EPr s' l→K s' true w') :
  callK Pg c_182 [Az s] w (.tup [Ls,Lb]) K:=by
 refine go_182 _ _ _ ?_;unfold parseR at hN hS;rw [hr.len];refine Iq (fun q=>?_) fun q=>?_
 ·have q:((b.length:Nat):Int)<8:=odt q;rw [if_pos (by omega)] at hN;exact hN rfl _ w (Mod.refl _ _)
 have q:¬((b.length:Nat):Int)<8:=odf q;rw [if_neg (by omega)] at hN hS;have e8:w64 ((b.length:Int)-8)=((b.length-8:Nat):Int):=by rw [Wq (by omega) (by omega)];omega
 have e4:w64 ((b.length:Int)-4)=((b.length-4:Nat):Int):=by rw [Wq (by omega) (by omega)];omega
 rw [e8,e4];refine hr.partK (n:=b.length-8) (m:=b.length-4) (by omega) (by omega) rfl rfl rfl fun s2 h2 _=>rWord_ok h2 (by simp;omega) (hr.fromK (n:=b.length-4) (by omega) rfl rfl fun s5 h5 _=>rWord_ok h5 (by simp;omega) ?_);generalize wordN ((b.take (b.length-4)).drop (b.length-8))=R at hN hS ⊢;have hn8:=wordN_8 (b.drop (b.length-4));generalize wordN (b.drop (b.length-4))=n at hN hS hn8 ⊢;have ewl:IntKind.wrap .u64 (b.length:Int)=(b.length:Int):=by rw [wrap_u64];omega
 rw [ewl];refine join1 (a:=.bool) (fun q v=>q=decide (R<1∨64<R∨n<1∨b.length<n)∧v=w) ?_ ?_
 ·intro k hk;refine Iq (fun r1=>hk _ _ ⟨?_,rfl⟩) fun r1=>Iq (fun r2=>hk _ _ ⟨?_,rfl⟩) fun r2=>Iq (fun r3=>hk _ _ ⟨?_,rfl⟩) fun r3=>hk _ _ ⟨?_,rfl⟩
  ·have r1:((R:Nat):Int)<1:=odt r1;exact (Dct (.inl (by omega))).symm
  ·have r2:(64:Int)<((R:Nat):Int):=odt r2;exact (Dct (.inr (.inl (by omega)))).symm
  ·have r3:((n:Nat):Int)<1:=odt r3;exact (Dct (.inr (.inr (.inl (by omega))))).symm
  ·have r1:¬((R:Nat):Int)<1:=odf r1;have r2:¬(64:Int)<((R:Nat):Int):=odf r2;have r3:¬((n:Nat):Int)<1:=odf r3;show decide (((b.length:Nat):Int)<((n:Nat):Int))=_;rw [Bei,Det,Det];omega
 rintro q2 v ⟨rfl,rfl⟩;refine Iq (fun q2=>?_) fun q2=>?_
 ·rw [if_pos (odt q2)] at hN;exact hN rfl _ v (Mod.refl _ _)
 have q2:=odf q2;rw [if_neg q2] at hN hS;have en:w64 (n:Int)=(n:Int):=w64N (by omega);have eR:w64 (R:Int)=(R:Int):=w64N (by omega);rw [en,eR];refine hr.toK (n:=b.length-8) (by omega) rfl rfl fun s11 h11 _=>rEntries_ok h11 (by rw [Llt];omega) (by omega) (fun e w1 M1=>?_) fun l el w1 ro s12 f1 v1=>?_
 ·rw [e] at hN;exact ifK_t rfl (hN rfl _ w1 M1)
 rw [el] at hN hS;dsimp only at hN hS;have hel:=entR_len n [] 0 [] el (Nzl _) (Nzl _) (by simp);have hll:l.length≤1048576:=by rw [hel.1];simp;omega
 have hrl:∀{z:World},Mod F0 w1 z→RdS z EPr s12 l:=fun hM=>(v1.rd f1.own).quiet hM;refine ifK_f rfl ?_;rw [v1.1];refine join0 (fun u=>adjN l=true∧Mod F0 w1 u) ?_ ?_
 ·intro k15 hk15;refine loop1 (k:=Ki) (fun (a:Int) u=>∃i:Nat,a=((i+1:Nat):Int)∧i≤l.length∧(∀j x y,j<i→l[j]? = some x→l[j+1]? = some y→¬cmpN y.1 x.1<0)∧Mod F0 w1 u) (fun a _=>(l.length-a).toNat) (x:=1) rfl ⟨0,rfl,Nzl _,fun j x y h=>absurd h (Nat.not_lt_zero _),Mod.refl _ _⟩ ?_;rintro a u ⟨i,rfl,hi,hb,hM⟩;refine Iq (fun q3=>?_) fun q3=>?_;rotate_left
  ·have q3:=dge q3;exact hk15 u ⟨adjN_get.2 fun j x y hx hy=>hb j x y (by have:=(Les.1 hy).1;omega) hx hy,hM⟩
  have q3:=dlt q3;obtain⟨y,hy⟩:=Gq q3;obtain⟨x,hx⟩:=Gq (l:=l) (i:=i) (by omega);have hMd:=mod0 hM (Mq u);have ei:w64 (((i+1:Nat):Int)-1)=(i:Int):=by rw [Wq (by omega) (by omega)];omega
  have hyl:=hel.2 y (Lmg hy);rw [ei];refine⟨F0,(hrl hMd).ix rfl rfl hy fun b1 o1 _ hc1=>Lw (k:=.str) y.1 id (hc1 0 (by decide)) ((hrl hMd).ix rfl rfl hx fun b2 o2 _ hc2=>Lw (k:=.str) x.1 id (hc2 0 (by decide)) (rCompare_ok (by omega) fun z M=>⟨M,Iq (fun q4=>?_) fun q4=>?_⟩))⟩
  ·have q4:cmpN y.1 x.1<0:=odt q4;have hadj:adjN l=false:=by
    cases h:adjN l with
    | false=>rfl
    | true=>exact absurd q4 (adjN_get.1 h i x y hx hy)
   rw [if_pos hadj] at hN;exact hN rfl _ z (mod0 f1.mod (mod0 hMd M))
  ·have q4:¬cmpN y.1 x.1<0:=odf q4;rw [step64 (by omega)];refine⟨⟨i+1,rfl,by omega,fun j x' y' hj hx' hy'=>?_,mod0 hMd M⟩,by omega⟩;rcases Nat.lt_or_ge j i with h | h
   ·exact hb j x' y' h hx' hy'
   ·have:j=i:=by omega
    subst this;rw [hx] at hx';rw [hy] at hy';cases hx';cases hy';exact q4
 rintro u ⟨hadj,hM⟩;rw [if_neg (by rw [hadj];decide)] at hN hS;have hMd:=mod0 hM (Mq u);have hfu:=f1.quiet hMd;refine join2 (a:=.sl) (b:=.bool) (fun (s':Sl) (q:Bool) z=>s'=s12∧q=decide (rawN l R=b)∧Mod F0 u.drew z) ?_ ?_;rotate_left
 ·rintro s' q z ⟨rfl,rfl,hz⟩;by_cases h:rawN l R=b
  ·rw [if_pos h] at hS;rw [Dct h];exact hS l rfl z ro s' (hfu.quiet hz) v1
  ·rw [if_neg h] at hN;rw [Dcf h];exact hN rfl _ z (mod0 hfu.mod hz)
 intro k29 hk29;have qe:(rawN l R==b)=decide (rawN l R=b):=by rw [Bei,beq_iff_eq,Det]
 have hbr:∀{z:World},Mod F0 u.drew z→RdS z ET s b:=fun hz=>hr.quiet (mod0 hfu.mod hz);have raw:∀{K:Sl→Wp},(∀w' ro s',Fresh u.drew w' F0 ro→VecL ro ET s' (rawN l R)→K s' w')→callK Pg c_184 [Az s12,Ai (R:Int)] u.drew Oz K:=fun h=>rRaw_ok (hrl hMd) hll hel.2 (by omega) (by omega) h;refine⟨F0,?_,?_⟩
 ·refine raw fun w5 ro5 s5 f5 v5=>⟨f5.mod,?_,?_⟩
  ·exact convT (v5.rd f5.own) ⟨f5.mod,convT (hbr f5.mod) ⟨f5.mod,hk29 _ _ _ ⟨rfl,qe,f5.mod⟩⟩⟩
  ·exact convT (hbr f5.mod) ⟨f5.mod,convT (v5.rd f5.own) ⟨f5.mod,hk29 _ _ _ ⟨rfl,qe,f5.mod⟩⟩⟩
 ·exact convT (hbr (Mod.refl _ _)) ⟨Mod.refl _ _,raw fun w5 ro5 s5 f5 v5=>⟨f5.mod,convT (v5.rd f5.own) ⟨f5.mod,hk29 _ _ _ ⟨rfl,qe,f5.mod⟩⟩⟩⟩
theorem rPlain_ok{w:World}{s:Sl}{p:Str}(hr:RdS w ET s p)(hl:p.length≤1048576){flag:Nat}{raw:Int}{K:Sl→Bool→Wp}
  (hN:textR flag p raw=none→∀s' w',Mod F0 w w'→K s' false w') (hS:∀x,textR flag p raw=some x→∀w' s',Mod F0 w w'→RdS w' ET s' x→K s' true w') :
  callK Pg c_181 [Az s,.leaf (.int .u8 (flag:Int)),Ai raw] w (.tup [Ls,Lb]) K:=by
 refine go_181 _ _ _ _ _ ?_;unfold textR at hN hS;have ef:∀n:Nat,(((flag:Nat):Int)==(n:Int))=decide (flag=n):=fun n=>by rw [Bei,beq_iff_eq,Det];omega
 rw [show (((flag:Nat):Int)==0)=decide (flag=0) from ef 0,show (((flag:Nat):Int)==1)=decide (flag=1) from ef 1,show (((flag:Nat):Int)==2)=decide (flag=2) from ef 2];refine Iq (fun q=>?_) fun q=>?_
 ·rw [if_pos (odt q)] at hN hS;rw [hr.len];by_cases h:(p.length:Int)=raw
  ·rw [if_pos h] at hS;rw [show (((p.length:Nat):Int)==raw)=true by simpa using h];exact hS p rfl w s (Mod.refl _ _) hr
  ·rw [if_neg h] at hN;rw [show (((p.length:Nat):Int)==raw)=false by simpa using h];exact hN rfl s w (Mod.refl _ _)
 rw [if_neg (odf q)] at hN hS;refine Iq (fun q=>?_) fun q=>?_
 ·rw [if_pos (odt q)] at hN hS;refine rLzDecode_ok hr (by omega) (fun e er w' he M=>?_) fun x e w' ro s' f v=>?_
  ·rw [show (er==0)=false by simpa using he];exact hN e _ w' M
  ·exact hS x e w' s' f.mod (v.rd f.own)
 rw [if_neg (odf q)] at hN hS;refine Iq (fun q=>?_) fun q=>?_
 ·rw [if_pos (odt q)] at hN hS;refine rHuffDecode_ok hr (by omega) (fun e er w' he M=>?_) fun x e w' ro s' f v=>?_
  ·rw [show (er==0)=false by simpa using he];exact hN e _ w' M
  ·exact hS x e w' s' f.mod (v.rd f.own)
 ·rw [if_neg (odf q)] at hN;exact hN rfl _ w (Mod.refl _ _)
theorem expRun_len:∀(ts:List Tk) (t:Str) {x:Str},expRun ts t=some x→t.length≤65536→x.length≤65536
 | [],t,x,h,ht=>by cases h;exact ht
 | y::r,t,x,h,ht=>by
  rw [expRun] at h;split at h
  ·cases h
  split at h
  ·cases h
  ·exact expRun_len r _ h (by rw [againN_length,Lla];omega)
theorem wordsR_len{codes:List (Nat×Nat)}{w:Str}:∀(n at_:Nat) (text:Str) {x:Str×Nat},wordsR codes w n at_ text=some x→x.1.length=text.length+n
 | 0,_,text,x,h=>by cases h;rfl
 | n+1,at_,text,x,h=>by
  rw [wordsR] at h;split at h
  ·cases h
  ·rw [wordsR_len n _ _ h,Lla,List.length_singleton];omega
theorem textR_len{flag:Nat}{p:Str}{raw:Int}(hraw:raw≤65536){x:Str}(h:textR flag p raw=some x):x.length≤65536:=by
 unfold textR at h;split at h
 ·split at h
  ·cases h;omega
  ·cases h
 split at h
 ·unfold lzR at h;split at h
  ·cases h
  split at h
  ·cases h
  ·exact expRun_len _ _ h (Nzl _)
 split at h
 ·unfold huffR at h;split at h
  ·cases h
  split at h
  ·cases h
  split at h
  ·cases h
  unfold huffW at h;split at h
  ·cases h
  rename_i y hy;split at h
  ·cases h;have:=wordsR_len _ _ _ hy;rw [this];simp;omega
  ·cases h
 ·cases h
theorem rBlockOpen_ok{w:World}{s:Sl}{tile:Str}(hr:RdS w ET s tile)(hl:tile.length≤1048576){raw:Int}{K:PA→Int→Wp}
  (hN:(blockR tile raw).2=none→∀w',Mod F0 w w'→K none (blockR tile raw).1 w')
  (hS:∀l,(blockR tile raw).2=some l→∀w' b s' ro,Fresh w w' F0 ((b,[(LV.sl s').toV])::ro)→VecL ro EPr s' l→K (some (b,0)) (blockR tile raw).1 w') :
  callK Pg c_180 [Az s,Ai raw] w (.tup [Lp,Li]) K:=by
 refine go_180 _ _ _ _ ?_;refine join1 (a:=.bool) (fun q v=>q=decide (raw<1∨65536<raw)∧v=w) (fun k hk=>Iq (fun q=>hk _ _ ⟨?_,rfl⟩) fun q=>hk _ _ ⟨?_,rfl⟩) ?_
 ·exact (Dct (.inl (odt q))).symm
 ·have q:¬raw<1:=odf q;show decide (65536<raw)=_;rw [Bei,Det,Det];omega
 rintro q v ⟨rfl,rfl⟩;have e0:blockR tile raw=if raw<1∨65536<raw then (3,none) else
  if (openB tile).1≠0 then ((openB tile).1,none) else
  if (openB tile).2.length=0 then (60,none) else
  if 64*(((openB tile).2.length-1:Nat):Int)<raw then (60,none) else
  match textR ((openB tile).2.getD ((openB tile).2.length-1) 0).toNat ((openB tile).2.take ((openB tile).2.length-1)) raw with
  | none=>(60,none)
  | some t=>match parseR t with
   | none=>(60,none)
   | some l=>(0,some l):=rfl
 have no:∀{e:Int} {u:World},blockR tile raw=(e,none)→Mod F0 v u→K none e u:=fun h hM=>by
  rw [h] at hN;exact hN rfl _ hM
 generalize blockR tile raw=B at hN hS e0 no;refine Iq (fun q=>?_) fun q=>?_
 ·rw [if_pos (odt q)] at e0;exact no e0 (Mod.refl _ _)
 have q:=odf q;rw [if_neg q] at e0;refine rOpen_ok hr (by omega) fun w1 ro1 s6 h1 v1=>?_;have hol:=openB_le tile;refine Iq (fun q1=>?_) fun q1=>?_
 ·have q1:(openB tile).1≠0:=by simpa using q1
  rw [if_pos q1] at e0;exact no e0 h1.mod
 have q1:¬(openB tile).1≠0:=by simpa using q1
 rw [if_neg q1] at e0;generalize (openB tile).2=o at e0 v1 hol;rw [v1.1];refine Iq (fun q2=>?_) fun q2=>?_
 ·have q2:o.length=0:=by
   have:((o.length:Nat):Int)=0:=by simpa using q2
   omega
  rw [if_pos q2] at e0;exact no e0 h1.mod
 have q2:o.length≠0:=by
  intro e;rw [e] at q2;exact absurd q2 (by decide)
 rw [if_neg q2] at e0;have e1:w64 ((o.length:Int)-1)=((o.length-1:Nat):Int):=by rw [Wq (by omega) (by omega)];omega
 rw [e1];have hro:=v1.rdAt0 h1;refine hro.toK (n:=o.length-1) (by omega) rfl rfl fun s9 h9 _=>?_;have h9l:(o.take (o.length-1)).length=o.length-1:=by rw [Llt];omega
 have e2:w64 (64*(s9.len:Int))=64*((o.length-1:Nat):Int):=by rw [h9.len,h9l,Wq (by omega) (by omega)]
 rw [e2];refine Iq (fun q3=>?_) fun q3=>?_
 ·rw [if_pos (odt q3:64*((o.length-1:Nat):Int)<raw)] at e0;exact no e0 h1.mod
 rw [if_neg (odf q3:¬64*((o.length-1:Nat):Int)<raw)] at e0;refine byteD hro rfl (by omega:o.length-1<o.length) (rPlain_ok h9 (by omega) (fun e s' w' M=>?_) fun t et w' s' M ht=>?_)
 ·rw [e] at e0;exact ifK_t rfl (no e0 (mod0 h1.mod M))
 rw [et] at e0;dsimp only at e0;have htl:=textR_len (by omega) et;refine ifK_f rfl (rParse_ok ht (by omega) (fun e s2 w2 M2=>?_) fun l el w2 ro2 s2 f2 v2=>?_)
 ·rw [e] at e0;exact ifK_t rfl (no e0 (mod0 (mod0 h1.mod M) M2))
 rw [el] at e0;have hM:=mod0 h1.mod M;refine ifK_f rfl (f2.alK fun b19 w3 f3 _ M3=>?_);have f4:Fresh v w3 F0 ((b19,[(LV.sl s2).toV])::ro2):=by
  have:=((Fresh.none hM).join f3 (fun _ _ h=>h) (fun _ _ _ h=>h)).perm (ro':=(b19,[(LV.sl s2).toV])::ro2) (by rw [List.nil_append];exact Lpc (l₁:=[(b19,[(LV.sl s2).toV])]));exact this
 rw [e0] at hS;exact hS l rfl w3 b19 s2 ro2 f4 v2
set_option maxRecDepth 100000
theorem go_163(s1:PA)(name2:List UInt8)(length3:Int)(K:PA→Int→Wp)(w:World)(h:ifK s1.isNone (K none 1 w) (callK Pg 33 [Ap s1,Au name2] w (.tup [Li,Li]) fun n4 n5 W6=>ifK (n5 != 0) (K none n5 W6) (ifK (n4 != length3) (K none 82 W6) (ifK (decide (n4<24)) (K none 81 W6) (callK Pg 34 [Ap s1,Au name2,Ai (w64 (n4-24)),Ai 24] W6 (.tup [Ls,Li]) fun a7 n8 W9=>callK Pg 35 [Az a7,Ai n4] W9 (.tup [.agg [Ki,Ki],Li]) fun n10 n11 n12 W13=>al W13 85 [.int .i64 0,.int .i64 0] fun b14 W15=>st W15 b14 0 [.int .i64 n10,.int .i64 n11] fun W16=>ifK (n12 != 0) (K none n12 W16) (ld W16 Ki b14 0 fun n17=>ld W16 Ki b14 1 fun n18=>callK Pg 36 [.agg [.int .i64 n17,.int .i64 n18]] W16 (.tup [Lp,Li]) fun p19 n20 W21=>ifK (n20 != 0) (K none n20 W21) (joinK [] (fun k22=>loopL [Ki] (fun at_24 W25 g23=>ld W25 Ki b14 1 fun n26=>ifK (decide (at_24<n26)) (ld W25 Ki b14 1 fun n27=>ld W25 Ki b14 0 fun n28=>callK Pg 34 [Ap s1,Au name2,Ai (w64 (n28+at_24)),Ai (mnI 4100 (w64 (n27-at_24)))] W25 (.tup [Ls,Li]) fun a29 n30 W31=>callK Pg 37 [Ap p19,Az a29] W31 Oi fun n32 W33=>ifK (n32 != 0) (K none n32 W33) (g23 (w64 (at_24+(mnI 4100 (w64 (n27-at_24))))) W33)) (k22 W25)) [.int .i64 0] W21) fun W34=>callK Pg 38 [Ap p19] W34 (.tup [.agg [Ki,.sl],Li]) fun n35 a36 n37 W38=>al W38 40 [.int .i64 0,.sl (⟨none,0,0⟩)] fun b39 W40=>st W40 b39 0 [.int .i64 n35,.sl a36] fun W41=>ifK (n37 != 0) (K none n37 W41) (ld W41 Ki b39 0 fun n42=>ld W41 .sl b39 1 fun a43=>al W41 107 [.ptr s1,.str name2,.int .i64 n42,.sl a43] fun b44 W45=>K (some (b44,0)) 0 W45)))))))):callK Pg 12 [Ap s1,Au name2,Ai length3] w (.tup [Lp,Li]) K:=Fq (n:=(n0 .nil (n0 .nil (n0 .nil (n0 .nil (n0 .nil (n0 .nil (n0 .nil (n0 .nil (n0 .nil (n0 .nil (n0 .nil (n0 (n0 .nil (.mk (some []) [] [0,1,13] .done (.mk none [.tmp 14 Li] [0,1,12,13] .done .nil .nil) .nil)) .nil))))))))))))) CS_ok mixed Tryz.func12 (Eq.mpr (by kernel_rfl) h)
theorem go_167(r1:PA)(K:Int→Wp)(w:World)(h:ifK r1.isNone (K 0 w) (dr r1 fun b2 o3=>ld w Ki b2 (o3+2) fun n4=>K n4 w)):callK Pg 18 [Ap r1] w Oi K:=Fq (n:=.nil) CS_ok mixed Tryz.func18 (Eq.mpr (by kernel_rfl) h)
theorem go_165(r1:PA)(K:Int→Sl→Wp)(w:World)(h:al w 40 [.int .i64 0,.sl (⟨none,0,0⟩)] fun b2 W3=>ifK r1.isNone (st W3 b2 0 [.int .i64 0,.sl (⟨none,0,0⟩)] fun W4=>ld W4 Ki b2 0 fun n5=>ld W4 .sl b2 1 fun a6=>K n5 a6 W4) (dr r1 fun b7 o8=>ld W3 Ki b7 (o8+2) fun n9=>ld W3 .sl b7 (o8+2+1) fun a10=>st W3 b2 0 [.int .i64 n9,.sl a10] fun W11=>ld W11 Ki b2 0 fun n12=>ld W11 .sl b2 1 fun a13=>K n12 a13 W11)):callK Pg 15 [Ap r1] w (.one (.agg [Ki,.sl])) K:=Fq (n:=.nil) CS_ok mixed Tryz.func15 (Eq.mpr (by kernel_rfl) h)
theorem go_176(r1:PA)(part2:Int)(K:Int→Int→Wp)(w:World)(h:ifK r1.isNone (K (-1) 1 w) (joinK [.bool] (fun k3=>ifK (decide (part2<0)) (k3 true w) (dr r1 fun b4 o5=>ld w Ki b4 (o5+2) fun n6=>k3 (decide (n6≤part2)) w)) fun t197 W8=>ifK t197 (K (-1) 3 W8) (joinK [] (fun k9=>loopL [Ki] (fun i11 W12 g10=>dr r1 fun b13 o14=>ld W12 .sl b13 (o14+2+1) fun a15=>ifK (decide (i11<(a15.len:Int))) (dr r1 fun b16 o17=>ld W12 .sl b16 (o17+2+1) fun a18=>ix a18 5 i11 fun b19 o20=>ld W12 Ki b19 o20 fun n21=>ifK (n21==part2) (K i11 0 W12) (g10 (w64 (i11+1)) W12)) (k9 W12)) [.int .i64 0] W8) fun W22=>K (-1) 0 W22))):callK Pg 74 [Ap r1,Ai part2] w (.tup [Li,Li]) K:=Fq (n:=(n0 .nil (n0 .nil (n0 (n0 (.mk (some [.tmp 19 Lb]) [] [0,1] .done .nil .nil) .nil) (n0 (n0 .nil (.mk (some []) [] [] .done (.mk none [.tmp 6 Li] [0,1] .done .nil .nil) .nil)) .nil))))) CS_ok mixed Tryz.func74 (Eq.mpr (by kernel_rfl) h)
theorem go_171(r1:PA)(part2:Int)(K:Int→Int→Wp)(w:World)(h:callK Pg 74 [Ap r1,Ai part2] w (.tup [Li,Li]) fun n3 n4 W5=>joinK [.bool] (fun k6=>ifK (n4 != 0) (k6 true W5) (k6 (decide (n3<0)) W5)) fun t217 W8=>ifK t217 (K 0 n4 W8) (joinK [Ki] (fun k9=>loopL [Ki,Ki] (fun n11 k12 W13 g10=>dr r1 fun b14 o15=>ld W13 .sl b14 (o15+2+1) fun a16=>ix a16 5 n3 fun b17 o18=>ld W13 .sl b17 (o18+1) fun a19=>ifK (decide (k12<(a19.len:Int))) (dr r1 fun b20 o21=>ld W13 .sl b20 (o21+2+1) fun a22=>ix a22 5 n3 fun b23 o24=>ld W13 .sl b23 (o24+1) fun a25=>ix a25 4 k12 fun b26 o27=>ld W13 Ki b26 (o27+2) fun n28=>g10 (w64 (n11+n28)) (w64 (k12+1)) W13) (k9 n11 W13)) [.int .i64 0,.int .i64 0] W8) fun n29 W30=>K n29 0 W30)):callK Pg 42 [Ap r1,Ai part2] w (.tup [Li,Li]) K:=Fq (n:=(n0 .nil (n0 .nil (n0 (n0 (.mk (some [.tmp 21 Lb]) [] [0,6,7] .done .nil .nil) .nil) (n0 .nil (n0 (n0 .nil (.mk (some [.tmp 8 Li]) [] [] .done (.mk none [.tmp 8 Li,.tmp 9 Li] [0,6] .done .nil .nil) .nil)) .nil)))))) CS_ok mixed Tryz.func42 (Eq.mpr (by kernel_rfl) h)
theorem go_177(key1:List UInt8)(K:List UInt8→Wp)(w:World)(h:ssx key1 none (some (mnI (key1.length:Int) 64)) fun s2=>K s2 w):callK Pg 79 [Au key1] w Ot K:=Fq (n:=.nil) CS_ok mixed Tryz.func79 (Eq.mpr (by kernel_rfl) h)
theorem go_173(r1:PA)(part2:Int)(K:PA→Int→Wp)(w:World)(h:callK Pg 74 [Ap r1,Ai part2] w (.tup [Li,Li]) fun n3 n4 W5=>ifK (n4 != 0) (K none n4 W5) (al W5 153 [.ptr r1,.int .i64 n3,.int .i64 0,.sl (⟨none,0,0⟩),.str [],.lit false,.str [],.lit false] fun b6 W7=>K (some (b6,0)) 0 W7)):callK Pg 46 [Ap r1,Ai part2] w (.tup [Lp,Li]) K:=Fq (n:=.nil) CS_ok mixed Tryz.func46 (Eq.mpr (by kernel_rfl) h)
theorem go_174(r1:PA)(part2:Int)(key3:List UInt8)(K:PA→Int→Wp)(w:World)(h:callK Pg 74 [Ap r1,Ai part2] w (.tup [Li,Li]) fun n4 n5 W6=>ifK (n5 != 0) (K none n5 W6) (al W6 153 [.ptr r1,.int .i64 n4,.int .i64 0,.sl (⟨none,0,0⟩),.str [],.lit false,.str key3,.lit false] fun b7 W8=>joinK [] (fun k9=>loopL [Ki] (fun k11 W12 g10=>joinK [.bool] (fun k13=>ifK (decide (0≤n4)) (dr r1 fun b14 o15=>ld W12 .sl b14 (o15+2+1) fun a16=>ix a16 5 n4 fun b17 o18=>ld W12 .sl b17 (o18+1) fun a19=>k13 (decide (k11<(a19.len:Int))) W12) (k13 false W12)) fun t4120 W21=>ifK t4120 (drawK W21 fun D W22=>dr r1 fun b23 o24=>ldD D W22 .sl b23 (o24+2+1) fun a25=>ix a25 5 n4 fun b26 o27=>ldD D W22 .sl b26 (o27+1) fun a28=>ix a28 4 k11 fun b29 o30=>ldD D W22 .str b29 (o30+3) fun s31=>callK Pg 79 [Au key3] W22 Ot fun s32 W33=>Mod D W22 W33∧callK Pg 78 [Au s31,Au s32] W33 Oi fun n34 W35=>Mod D W22 W35∧joinK [] (fun k36=>ifK (decide (n34<0)) (dr (some (b7,0)) fun b37 o38=>st W35 b37 (o38+2) [.int .i64 k11] fun W39=>k36 W39) (k36 W35)) fun W40=>g10 (w64 (k11+1)) W40) (k9 W21)) [.int .i64 0] W8) fun W41=>K (some (b7,0)) 0 W41)):callK Pg 48 [Ap r1,Ai part2,Au key3] w (.tup [Lp,Li]) K:=Fq (n:=(n0 .nil (n0 .nil (n0 .nil (n0 .nil (n0 (n0 .nil (.mk (some []) [] [10] .done (.mk none [.tmp 11 Li] [0,2,8,10] .done (n0 (n0 (.mk (some [.tmp 41 Lb]) [] [0,2,8,10,11] .done .nil .nil) .nil) (n0 (n0 (n0 (.mk none [] [] (tk [0,1,2,3,4,5,6,7,8,9,10,11,12,13] (.eff 14 (.eff 15 (.take 16 .done)))) .nil .nil) (.mk (some []) [] [0,2,8,10,11] .done .nil .nil)) .nil) .nil)) .nil) .nil)) .nil)))))) CS_ok mixed Tryz.func48 (Eq.mpr (by kernel_rfl) h)
theorem go_172(r1:PA)(part2:Int)(key3:List UInt8)(K:Bool→Int→Wp)(w:World)(h:callK Pg 74 [Ap r1,Ai part2] w (.tup [Li,Li]) fun n4 n5 W6=>joinK [.bool] (fun k7=>ifK (n5 != 0) (k7 true W6) (k7 (decide (n4<0)) W6)) fun t278 W9=>ifK t278 (K false n5 W9) (dr r1 fun b10 o11=>ld W9 .sl b10 (o11+2+1) fun a12=>ix a12 5 n4 fun b13 o14=>ld W9 .bool b13 (o14+2) fun c15=>ld W9 Ki b13 (o14+2+1) fun n16=>ld W9 .sl b13 (o14+2+2) fun a17=>callK Pg 77 [.agg [.bool c15,.int .i64 n16,.sl a17],Au key3] W9 Ob fun c18 W19=>ifK (!c18) (K false 0 W19) (callK Pg 48 [Ap r1,Ai part2,Au key3] W19 (.tup [Lp,Li]) fun p20 n21 W22=>callK Pg 50 [Ap p20] W22 (.tup [.agg [.str,.str],Lb,Li]) fun s23 s24 c25 n26 W27=>al W27 122 [.str [],.str []] fun b28 W29=>st W29 b28 0 [.str s23,.str s24] fun W30=>joinK [.bool,Ki] (fun k31=>ifK c25 (ld W30 .str b28 0 fun s32=>k31 (s32==key3) n26 W30) (k31 false n26 W30)) fun t633 t734 W35=>K t633 t734 W35))):callK Pg 44 [Ap r1,Ai part2,Au key3] w (.tup [Lb,Li]) K:=Fq (n:=(n0 .nil (n0 .nil (n0 (n0 (.mk (some [.tmp 27 Lb]) [] [0,1,2,8,9] .done .nil .nil) .nil) (n0 .nil (n0 .nil (n0 .nil (n0 .nil (n0 (.mk (some [.tmp 6 Lb,.tmp 7 Li]) [] [] .done .nil .nil) .nil))))))))) CS_ok mixed Tryz.func44 (Eq.mpr (by kernel_rfl) h)
theorem go_179(r1:PA)(info2:Int)(block3:Int)(K:Int→Wp)(w:World)(h:joinK [Ki] (fun k4=>loopL [Ki,Ki] (fun at_6 i7 W8 g5=>ifK (decide (i7≤info2)) (joinK [Ki] (fun k9=>loopL [Ki,Ki] (fun at_11 k12 W13 g10=>joinK [.bool] (fun k14=>dr r1 fun b15 o16=>ld W13 .sl b15 (o16+2+1) fun a17=>ix a17 5 i7 fun b18 o19=>ld W13 .sl b18 (o19+1) fun a20=>ifK (decide (k12<(a20.len:Int))) (ifK (decide (i7<info2)) (k14 true W13) (k14 (decide (k12<block3)) W13)) (k14 false W13)) fun t3621 W22=>ifK t3621 (dr r1 fun b23 o24=>ld W22 .sl b23 (o24+2+1) fun a25=>ix a25 5 i7 fun b26 o27=>ld W22 .sl b26 (o27+1) fun a28=>ix a28 4 k12 fun b29 o30=>ld W22 Ki b29 o30 fun n31=>g10 (w64 ((w64 (at_11+n31))+5)) (w64 (k12+1)) W22) (k9 at_11 W22)) [.int .i64 at_6,.int .i64 0] W8) fun at_32 W33=>g5 at_32 (w64 (i7+1)) W33) (k4 at_6 W8)) [.int .i64 0,.int .i64 0] w) fun at_34 W35=>K at_34 W35):callK Pg 119 [Ap r1,Ai info2,Ai block3] w Oi K:=Fq (n:=(n0 .nil (n0 .nil (n0 (n0 .nil (.mk (some [.tmp 7 Li]) [] [] .done (.mk none [.tmp 7 Li,.tmp 8 Li] [0,1,2] .done (n0 .nil (n0 (n0 (n0 .nil (.mk (some [.tmp 7 Li]) [] [0,1,2,8] .done (.mk none [.tmp 7 Li,.tmp 9 Li] [0,1,2,8] .done (n0 (n0 (.mk (some [.tmp 36 Lb]) [] [0,1,2,7,8,9] .done .nil .nil) .nil) .nil) .nil) .nil)) .nil) .nil)) .nil) .nil)) .nil)))) CS_ok mixed Tryz.func119 (Eq.mpr (by kernel_rfl) h)
theorem go_178(c1:PA)(K:Bool→Wp)(w:World)(h:drawK w fun D W2=>dr c1 fun b3 o4=>ldD D W2 .ptr b3 o4 fun p5=>dr p5 fun b6 o7=>ldD D W2 .sl b6 (o7+2+1) fun a8=>dr c1 fun b9 o10=>ldD D W2 Ki b9 (o10+1) fun n11=>ix a8 5 n11 fun b12 o13=>ldD D W2 .sl b12 (o13+1) fun a14=>dr c1 fun b15 o16=>ldD D W2 Ki b15 (o16+2) fun n17=>ix a14 4 n17 fun b18 o19=>ldD D W2 Ki b18 o19 fun n20=>ldD D W2 Ki b18 (o19+1) fun n21=>ldD D W2 Ki b18 (o19+2) fun n22=>ldD D W2 .str b18 (o19+3) fun s23=>al W2 97 [.int .i64 0,.int .i64 0,.int .i64 0,.str []] fun b24 W25=>Mod D W2 W25∧st W25 b24 0 [.int .i64 n20,.int .i64 n21,.int .i64 n22,.str s23] fun W26=>drawK W26 fun D W27=>dr c1 fun b28 o29=>ldD D W27 .ptr b28 o29 fun p30=>dr c1 fun b31 o32=>ldD D W27 Ki b31 (o32+1) fun n33=>dr c1 fun b34 o35=>ldD D W27 Ki b34 (o35+2) fun n36=>callK Pg 119 [Ap p30,Ai n33,Ai n36] W27 Oi fun n37 W38=>Mod D W27 W38∧drawK W38 fun D W39=>dr c1 fun b40 o41=>ldD D W39 .ptr b40 o41 fun p42=>dr p42 fun b43 o44=>ldD D W39 .ptr b43 o44 fun p45=>dr c1 fun b46 o47=>ldD D W39 .ptr b46 o47 fun p48=>dr p48 fun b49 o50=>ldD D W39 .str b49 (o50+1) fun s51=>ldD D W39 Ki b24 0 fun n52=>callK Pg 34 [Ap p45,Au s51,Ai n37,Ai (w64 (n52+5))] W39 (.tup [Ls,Li]) fun a53 n54 W55=>Mod D W39 W55∧joinK [.bool] (fun k56=>ifK (n54 != 0) (k56 true W55) (ld W55 Ki b24 0 fun n57=>k56 ((a53.len:Int) != (w64 (n57+5))) W55)) fun t7458 W59=>ifK t7458 (K false W59) (ld W59 Ki b24 1 fun n60=>callK Pg 120 [Az a53,Ai n60] W59 (.tup [Lp,Li]) fun p61 n62 W63=>joinK [.bool] (fun k64=>drawK W63 fun D W65=>ifK (n62 != 0) (k64 true W65) (dr p61 fun b66 o67=>ldD D W65 .sl b66 o67 fun a68=>ldD D W65 Ki b24 2 fun n69=>ifK ((a68.len:Int) != n69) (k64 true W65) (dr p61 fun b70 o71=>ldD D W65 .sl b70 o71 fun a72=>ix a72 2 0 fun b73 o74=>ldD D W65 .str b73 o74 fun s75=>ldD D W65 .str b24 3 fun s76=>callK Pg 79 [Au s75] W65 Ot fun s77 W78=>Mod D W65 W78∧ifK (!(s77==s76)) (k64 true W78) (dr c1 fun b79 o80=>ldD D W65 .bool b79 (o80+5) fun c81=>ifK c81 (dr p61 fun b82 o83=>ldD D W65 .sl b82 o83 fun a84=>ix a84 2 0 fun b85 o86=>ldD D W65 .str b85 o86 fun s87=>dr c1 fun b88 o89=>ldD D W65 .str b88 (o89+4) fun s90=>callK Pg 78 [Au s87,Au s90] W78 Oi fun n91 W92=>Mod D W65 W92∧k64 (decide (n91<0)) W92) (k64 false W78))))) fun t12793 W94=>ifK t12793 (K false W94) (dr p61 fun b95 o96=>ld W94 .sl b95 o96 fun a97=>dr c1 fun b98 o99=>st W94 b98 (o99+3) [.sl a97] fun W100=>drawK W100 fun D W101=>dr p61 fun b102 o103=>ldD D W101 .sl b102 o103 fun a104=>dr p61 fun b105 o106=>ldD D W101 .sl b105 o106 fun a107=>ix a104 2 (w64 ((a107.len:Int)-1)) fun b108 o109=>ldD D W101 .str b108 o109 fun s110=>dr c1 fun b111 o112=>st W101 b111 (o112+4) [.str s110] fun W113=>dr c1 fun b114 o115=>st W113 b114 (o115+5) [.lit true] fun W116=>dr c1 fun b117 o118=>ld W116 Ki b117 (o118+2) fun n119=>dr c1 fun b120 o121=>st W116 b120 (o121+2) [.int .i64 (w64 (n119+1))] fun W122=>K true W122))):callK Pg 82 [Ap c1] w Ob K:=Fq (n:=(n0 .nil (n0 (.mk none [] [] (tk [0,1,2,3,4,5,6,7,8,9,10,11,12,13,14,15,16,17,18,19,20] (.eff 21 (.last 22))) .nil .nil) (n0 (.mk none [] [] (tk [0,1,2,3,4,5,6,7,8,9,10,11] (.eff 12 (.take 13 .done))) .nil .nil) (n0 (.mk none [] [] (tk [0,1,2,3,4,5,6,7,8,9,10,11,12,13,14,15,16,17] (.eff 18 (.take 19 (.take 20 (.take 21 (.take 22 (.take 23 .done))))))) .nil .nil) (n0 (n0 (.mk (some [.tmp 74 Lb]) [] [0,3,5] .done .nil .nil) .nil) (n0 .nil (n0 (n0 (.mk (some [.tmp 127 Lb]) [] [0,7] (tk [0,1,2] (.split 2 (.take 3 (.take 4 (.take 5 (.take 6 (.take 7 (.take 8 (.take 9 (.take 10 (.take 11 (.take 12 (.take 13 (.take 14 (.take 15 (.take 16 (.take 17 (.take 18 (.take 19 (.take 20 (.take 21 (.take 22 (.take 23 (.take 24 (.take 25 (.take 26 (.take 27 (.take 28 (.take 29 (.take 30 (.take 31 (.take 32 (.take 33 (.take 34 (.take 35 (.take 36 (.take 37 (.take 38 (.take 39 (.take 40 (.take 41 (.take 42 (.take 43 (.take 44 (.take 45 .done))))))))))))))))))))))))))))))))))))))))))) (.take 3 (.take 4 (.take 5 (.take 6 (.take 7 (.take 8 (.take 9 (.take 10 (.take 11 (.take 12 (.split 12 (.take 13 (.take 14 (.take 15 (.take 16 (.take 17 (.take 18 (.take 19 (.take 20 (.take 21 (.take 22 (.take 23 (.take 24 (.take 25 (.take 26 (.take 27 (.take 28 (.take 29 (.take 30 (.take 31 (.take 32 (.take 33 (.take 34 (.take 35 (.take 36 (.take 37 (.take 38 (.take 39 (.take 40 (.take 41 (.take 42 (.take 43 (.take 44 (.take 45 .done))))))))))))))))))))))))))))))))) (.take 13 (.take 14 (.take 15 (.take 16 (.take 17 (.take 18 (.take 19 (.take 21 (.take 22 (.eff 20 (.take 23 (.take 24 (.take 25 (.split 25 (.take 26 (.take 27 (.take 28 (.take 29 (.take 30 (.take 31 (.take 32 (.take 33 (.take 34 (.take 35 (.take 36 (.take 37 (.take 38 (.take 39 (.take 40 (.take 41 (.take 42 (.take 43 (.take 44 (.take 45 .done)))))))))))))))))))) (.take 26 (.take 27 (.take 28 (.take 29 (.take 30 (.split 30 (.take 31 (.take 32 (.take 33 (.take 34 (.take 35 (.take 36 (.take 37 (.take 38 (.take 39 (.take 40 (.take 41 (.eff 42 (.take 43 (.take 44 (.take 45 .done))))))))))))))) (.take 31 (.take 32 (.take 33 (.take 34 (.take 35 (.take 36 (.take 37 (.take 38 (.take 39 (.take 40 (.take 41 (.take 42 (.take 43 (.take 44 (.take 45 .done)))))))))))))))))))))))))))))))))))))))))))))))) .nil .nil) .nil) (n0 .nil (n0 (.mk none [] [] (tk [0,1,2,3,4,5,6,7,8,9,10,11,12,13,14,15] (.last 16)) .nil .nil) .nil)))))))))) CS_ok mixed Tryz.func82 (Eq.mpr (by kernel_rfl) h)
theorem go_175(c1:PA)(K:List UInt8→List UInt8→Bool→Int→Wp)(w:World)(h:al w 122 [.str [],.str []] fun b2 W3=>ifK c1.isNone (st W3 b2 0 [.str [],.str []] fun W4=>ld W4 .str b2 0 fun s5=>ld W4 .str b2 1 fun s6=>K s5 s6 false 1 W4) (joinK [] (fun k7=>loopL [] (fun W9 g8=>dr c1 fun b10 o11=>ld W9 .bool b10 (o11+7) fun c12=>ifK (!c12) (joinK [] (fun k13=>dr c1 fun b14 o15=>ld W9 .sl b14 (o15+3) fun a16=>ifK (decide (0<(a16.len:Int))) (dr c1 fun b17 o18=>ld W9 .sl b17 (o18+3) fun a19=>ix a19 2 0 fun b20 o21=>ld W9 .str b20 o21 fun s22=>ld W9 .str b20 (o21+1) fun s23=>al W9 122 [.str [],.str []] fun b24 W25=>st W25 b24 0 [.str s22,.str s23] fun W26=>dr c1 fun b27 o28=>ld W26 .sl b27 (o28+3) fun a29=>slx a29 2 (some 1) none none fun s30=>dr c1 fun b31 o32=>st W26 b31 (o32+3) [.sl s30] fun W33=>drawK W33 fun D W34=>ldD D W34 .str b24 0 fun s35=>dr c1 fun b36 o37=>ldD D W34 .str b36 (o37+6) fun s38=>callK Pg 78 [Au s35,Au s38] W34 Oi fun n39 W40=>Mod D W34 W40∧ifK (decide (0≤n39)) (ld W40 .str b24 0 fun s41=>ld W40 .str b24 1 fun s42=>st W40 b2 0 [.str s41,.str s42] fun W43=>ld W43 .str b2 0 fun s44=>ld W43 .str b2 1 fun s45=>K s44 s45 true 0 W43) (k13 W40)) (joinK [.bool] (fun k46=>drawK W9 fun D W47=>dr c1 fun b48 o49=>ldD D W47 Ki b48 (o49+1) fun n50=>ifK (decide (n50<0)) (k46 true W47) (dr c1 fun b51 o52=>ldD D W47 Ki b51 (o52+2) fun n53=>dr c1 fun b54 o55=>ldD D W47 .ptr b54 o55 fun p56=>dr p56 fun b57 o58=>ldD D W47 .sl b57 (o58+2+1) fun a59=>dr c1 fun b60 o61=>ldD D W47 Ki b60 (o61+1) fun n62=>ix a59 5 n62 fun b63 o64=>ldD D W47 .sl b63 (o64+1) fun a65=>k46 (n53==(a65.len:Int)) W47)) fun t7166 W67=>ifK t7166 (st W67 b2 0 [.str [],.str []] fun W68=>ld W68 .str b2 0 fun s69=>ld W68 .str b2 1 fun s70=>K s69 s70 false 0 W68) (callK Pg 82 [Ap c1] W67 Ob fun c71 W72=>dr c1 fun b73 o74=>st W72 b73 (o74+7) [.bool (!c71)] fun W75=>k13 W75))) fun W76=>g8 W76) (k7 W9)) [] W3) fun W77=>st W77 b2 0 [.str [],.str []] fun W78=>ld W78 .str b2 0 fun s79=>ld W78 .str b2 1 fun s80=>K s79 s80 false 91 W78)):callK Pg 50 [Ap c1] w (.tup [.agg [.str,.str],Lb,Li]) K:=Fq (n:=(n0 .nil (n0 .nil (n0 (.mk (some []) [] [2] .done (.mk none [] [0,2] .done (n0 .nil (.mk (some []) [] [0,2] .done (n0 (n0 .nil (n0 (n0 .nil (n0 .nil (n0 (n0 (.mk none [] [] (tk [0,1,2,3,4,5] (.eff 6 (.take 7 .done))) .nil .nil) .nil) .nil))) .nil)) (n0 (n0 (.mk (some [.tmp 71 Lb]) [] [0,2] (tk [0,1,2,3,4,5] (.split 5 (.take 6 (.take 7 (.take 8 (.take 9 (.take 10 (.take 11 (.take 12 (.take 13 (.take 14 (.take 15 (.take 16 (.take 17 (.take 18 (.take 19 (.take 20 (.take 21 (.take 22 (.take 23 (.take 24 (.take 25 (.take 26 (.take 27 .done)))))))))))))))))))))) (.take 6 (.take 7 (.take 8 (.take 9 (.take 10 (.take 11 (.take 12 (.take 13 (.take 14 (.take 15 (.take 16 (.take 17 (.take 18 (.take 19 (.take 20 (.take 21 (.take 22 (.take 23 (.take 24 (.take 25 (.take 26 (.take 27 .done)))))))))))))))))))))))) .nil .nil) .nil) .nil)) .nil)) .nil) .nil) .nil)))) CS_ok mixed Tryz.func50 (Eq.mpr (by kernel_rfl) h)
def pgRunR(t:Str)(out:Bool)(tb tp:Int):Nat→Int→Dec→Int×Dec
 | 0,_,d=>(0,d)
 | k+1,at_,d=>if at_<tp then
   if (pageN d (rdX t out (tb+at_) (mnI 4100 (tp-at_))).2).2≠0 then ((pageN d (rdX t out (tb+at_) (mnI 4100 (tp-at_))).2).2,(pageN d (rdX t out (tb+at_) (mnI 4100 (tp-at_))).2).1)
   else pgRunR t out tb tp k (at_+mnI 4100 (tp-at_)) (pageN d (rdX t out (tb+at_) (mnI 4100 (tp-at_))).2).1
  else (0,d)
def pagesR(t:Str)(out:Bool)(tb tp:Int):Int×Dec:=if trailOk tb tp=false then (81,dec0 tb tp) else
 if (pgRunR t out tb tp 5000 0 (dec0 tb tp)).1≠0 then pgRunR t out tb tp 5000 0 (dec0 tb tp) else if footOkR (pgRunR t out tb tp 5000 0 (dec0 tb tp)).2=false then (80,(pgRunR t out tb tp 5000 0 (dec0 tb tp)).2) else pgRunR t out tb tp 5000 0 (dec0 tb tp)
def openR(t:Str)(out:Bool)(length:Int):Int×Dec:=
 if (sizeX t out).2≠0 then ((sizeX t out).2,dec0 0 0)
 else if (sizeX t out).1≠length then (82,dec0 0 0)
 else if (sizeX t out).1<24 then (81,dec0 0 0)
 else if (trailN (rdX t out ((sizeX t out).1-24) 24).2 (sizeX t out).1).2.2≠0 then ((trailN (rdX t out ((sizeX t out).1-24) 24).2 (sizeX t out).1).2.2,dec0 0 0)
 else pagesR t out (trailN (rdX t out ((sizeX t out).1-24) 24).2 (sizeX t out).1).1 (trailN (rdX t out ((sizeX t out).1-24) 24).2 (sizeX t out).1).2.1
theorem trailN_p(b:Str)(size:Int):(trailN b size).2.1≤16793600:=by
 unfold trailN;split
 ·show (0:Int)≤_;decide
 split
 ·show (0:Int)≤_;decide
 split
 ·show (0:Int)≤_;decide
 split
 ·show (0:Int)≤_;decide
 rename_i h;split
 ·show (0:Int)≤_;decide
 ·have h2:trailOk (wordN (((openB b).2.take 12).drop 4)) (wordN ((openB b).2.drop 12))=true:=by simpa using h
  exact trailOk_p h2
def rdrD(q:Nat)(P:Int)(si:Sl):List Value:=[(LV.ptr (some (q,0))).toV,(LV.str nameX).toV,.int .i64 P,(LV.sl si).toV]
section
variable {w0 w:World}{bs q:Nat}{t:Str}{out:Bool}{m:BL}
set_option maxHeartbeats 2000000 in
theorem rOpen9_ok(h:SS w0 bs q t out m w)(ht:t.length≤268435456){length:Int}{K:PA→Int→Wp}
  (hE:(openR t out length).1≠0→∀w',SS w0 bs q t out m w'→K none (openR t out length).1 w')
  (hK:(openR t out length).1=0→∀br R si ps w',SS w0 bs q t out (m++(br,rdrD q (readR (openR t out length).2.body).1 si)::R) w'→FootL R si ps (readR (openR t out length).2.body).2→K (some (br,0)) 0 w') :
  callK Pg c_163 [Ap (some (q,0)),Au nameX,Ai length] w (.tup [Lp,Li]) K:=by
 refine go_163 _ _ _ _ _ ?_;refine ifK_f rfl ?_;have hz:=sizeX_le t out;refine rsize1_ok h ?_;have eO:openR t out length=if (sizeX t out).2≠0 then ((sizeX t out).2,dec0 0 0)
  else if (sizeX t out).1≠length then (82,dec0 0 0)
  else if (sizeX t out).1<24 then (81,dec0 0 0)
  else if (trailN (rdX t out ((sizeX t out).1-24) 24).2 (sizeX t out).1).2.2≠0 then ((trailN (rdX t out ((sizeX t out).1-24) 24).2 (sizeX t out).1).2.2,dec0 0 0)
  else pagesR t out (trailN (rdX t out ((sizeX t out).1-24) 24).2 (sizeX t out).1).1 (trailN (rdX t out ((sizeX t out).1-24) 24).2 (sizeX t out).1).2.1:=rfl
 have no:∀{e:Int} {d:Dec} {u:World},openR t out length=(e,d)→e≠0→SS w0 bs q t out m u→K none e u:=fun {e d u} h he hu=>by
  rw [h] at hE;exact hE he u hu
 generalize openR t out length=O at hE hK eO no;refine Iq (fun e1=>?_) fun e1=>?_
 ·have e1:(sizeX t out).2≠0:=by simpa using e1
  rw [if_pos e1] at eO;exact no eO e1 h
 rw [if_neg (by simpa using e1)] at eO;refine Iq (fun e2=>?_) fun e2=>?_
 ·have e2:(sizeX t out).1≠length:=by simpa using e2
  rw [if_pos e2] at eO;exact no eO (by decide) h
 rw [if_neg (by simpa using e2)] at eO;refine Iq (fun e3=>?_) fun e3=>?_
 ·have e3:(sizeX t out).1<24:=odt e3;rw [if_pos e3] at eO;exact no eO (by decide) h
 have e3:¬(sizeX t out).1<24:=odf e3;rw [if_neg e3] at eO;have ew:w64 ((sizeX t out).1-24)=(sizeX t out).1-24:=Wq (by omega) (by omega);rw [ew];have hrl:=rdX_len t out ((sizeX t out).1-24) 24 (by decide);refine rread1_ok h (by omega) fun sl ro w2 h2 v2 _=>?_;generalize (rdX t out ((sizeX t out).1-24) 24).2=pg at eO hrl v2;refine rTrailer_ok (v2.rd fun p hp=>h2.own (Lmr _ hp)) (by omega) fun w3 M3=>?_;have hTp:=trailN_p pg (sizeX t out).1;generalize trailN pg (sizeX t out).1=T at eO hTp ⊢;have h3:=(h2.quiet M3).sub (Lsl _ _);refine h3.alst (by rfl) fun b14 w4 h4 _=>?_;have h4:SS w0 bs q t out (m++[(b14,[.int .i64 T.1,.int .i64 T.2.1])]) w4:=h4;refine Iq (fun e5=>?_) fun e5=>?_
 ·have e5:T.2.2≠0:=by simpa using e5
  rw [if_pos e5] at eO;exact no eO e5 (h4.sub (Lsl _ _))
 rw [if_neg (by simpa using e5)] at eO;obtain⟨tb,tp,te⟩:=T;dsimp only at eO hTp h4 ⊢;clear e5;have hB14:Blk w4 b14 [.int .i64 tb,.int .i64 tp]:=h4.own (by simp);refine hB14.ldK (k:=Ki) tb rfl (hB14.ldK (k:=Ki) tp rfl (rNewDecoder_ok (by omega) (fun e w5 M5=>?_) fun e w5 d f5=>?_))
 ·unfold pagesR at eO;rw [if_pos e] at eO;exact ifK_t rfl (no eO (by decide) ((h4.quiet M5).sub (Lsl _ _)))
 have hto:=odt e;have ht1:0≤tb:=hto.1;have ht2:tb≤268435456:=hto.2.1;have ht4:1≤tp:=hto.2.2.1;refine ifK_f rfl ?_;have eP:O=if (pgRunR t out tb tp 5000 0 (dec0 tb tp)).1≠0 then pgRunR t out tb tp 5000 0 (dec0 tb tp) else if footOkR (pgRunR t out tb tp 5000 0 (dec0 tb tp)).2=false then (80,(pgRunR t out tb tp 5000 0 (dec0 tb tp)).2) else pgRunR t out tb tp 5000 0 (dec0 tb tp):=by
  rw [eO];unfold pagesR;rw [if_neg (by rw [e];decide)]
 clear eO;generalize hr0:pgRunR t out tb tp 5000 0 (dec0 tb tp)=r at eP;have h5:=h4.fresh f5;generalize hM0:m++[(b14,[.int .i64 tb,.int .i64 tp])]=M at h5;have hsub:List.Sublist m M:=by rw [←hM0];exact Lsl _ _
 have h14m:(b14,[Value.int .i64 tb,.int .i64 tp])∈M:=by rw [←hM0];simp
 have h5:SS w0 bs q t out ((d,rdecC (dec0 tb tp) ⟨none,0,0⟩)::(M++[])) w5:=h5.perm (by rw [Lan];exact (List.perm_append_singleton _ _).symm);have sm:∀{x:Dec} {s:Sl} {ro:BL},List.Sublist m ((d,rdecC x s)::(M++ro)):=fun {x s ro}=>(hsub.trans (Lsl _ _)).cons _;refine join0 (fun u=>∃s ro,r.1=0∧SS w0 bs q t out ((d,rdecC r.2 s)::(M++ro)) u∧VecL ro ET s r.2.body∧r.2.body.length≤30000000) ?_ ?_
 ·intro k14 hk14;refine loop1 (k:=Ki) (fun (at_:Int) u=>∃(i:Nat) (x:Dec) (s:Sl) (ro:BL),0≤at_∧at_≤tp∧(at_<tp→at_=4100*(i:Int))∧i≤4097∧0≤x.left∧x.left≤tp∧x.tp=tp∧x.body.length≤4100*i∧SS w0 bs q t out ((d,rdecC x s)::(M++ro)) u∧VecL ro ET s x.body∧pgRunR t out tb tp (5000-i) at_ x=r) (fun at_ _=>(tp-at_).toNat) (x:=0) rfl
   ⟨0,dec0 tb tp,_,[],Int.le_refl _,by omega,fun _=>rfl,by decide,by show 0≤tp;omega,Int.le_refl _,rfl,by show ([]:Str).length≤_;simp,h5,VecL.nil ET,hr0⟩ ?_
  rintro at_ u ⟨i,x,s,ro,ha0,ha1,hai,hi,hl0,hl1,hxp,hbl,hS,hv,hrun⟩;change Int at at_;obtain⟨k,hk⟩:∃k,5000-i=k+1:=⟨5000-i-1,by omega⟩;rw [hk,pgRunR] at hrun;have hB4:Blk u b14 [.int .i64 tb,.int .i64 tp]:=hS.own (Lmc _ (Lml _ h14m));refine hB4.ldK (k:=Ki) tp rfl (Iq (fun q1=>?_) fun q1=>?_);rotate_left
  ·have q1:¬at_<tp:=odf q1;rw [if_neg q1] at hrun;subst hrun;exact hk14 u ⟨s,ro,rfl,hS,hv,by show x.body.length≤_;omega⟩
  have q1:at_<tp:=odt q1;rw [if_pos q1] at hrun;have hai:=hai q1;refine hB4.ldK (k:=Ki) tp rfl (hB4.ldK (k:=Ki) tb rfl ?_);have e1:w64 (tb+at_)=tb+at_:=Wq (by omega) (by omega);have e2:w64 (tp-at_)=tp-at_:=Wq (by omega) (by omega);rw [e1,e2];have hmn:mnI 4100 (tp-at_)=4100∨mnI 4100 (tp-at_)=tp-at_:=by unfold mnI;split<;>simp
  have hmn2:1≤mnI 4100 (tp-at_)∧mnI 4100 (tp-at_)≤4100∧mnI 4100 (tp-at_)≤tp-at_:=by unfold mnI;split<;>omega
  have hpl:=rdX_len t out (tb+at_) (mnI 4100 (tp-at_)) (by omega);refine rread1_ok hS (by omega) fun sl ro1 w6 h6 v6 M6=>?_;generalize (rdX t out (tb+at_) (mnI 4100 (tp-at_))).2=pg2 at hrun hpl v6;generalize mnI 4100 (tp-at_)=n at hrun hmn hmn2 hpl ⊢;have hA:=at_mid h6.base;have hpn:=pageN_left x pg2 hl0;have hptp:(pageN x pg2).1.tp=x.tp:=by
   unfold pageN;split
   ·rfl
   split<;>rfl
  refine rPage_ok hA hv (by omega) ⟨hl0,by omega⟩ (by omega) (v6.rd fun p hp=>hA.own p (Lmc _ (Lml _ (Lmr _ hp)))) (by omega) fun w7 s7 ro7 hA7 hv7 M7=>?_;have h7:SS w0 bs q t out ((d,rdecC (pageN x pg2).1 s7)::(M++ro7)) w7:=(h6.put hA7).sub (((Lsl M ro1).append (List.Sublist.refl _)).cons_cons _);generalize pageN x pg2=y at hrun h7 hv7 hpn hptp ⊢;refine Iq (fun e3=>?_) fun e3=>?_
  ·have e3:y.2≠0:=by simpa using e3
   rw [if_pos e3] at hrun;subst hrun;rw [if_pos e3] at eP;exact no eP e3 (h7.sub sm)
  rw [if_neg (by simpa using e3)] at hrun;have e4:w64 (at_+n)=at_+n:=Wq (by omega) (by omega);rw [e4];refine⟨⟨i+1,y.1,s7,ro7,by omega,by omega,fun h=>?_,by omega,by omega,by omega,by rw [hptp,hxp],by omega,h7,hv7,?_⟩,by omega⟩
  ·rcases hmn with h | h<;>omega
  ·have e6:5000-(i+1)=k:=by omega
   rw [e6];exact hrun
 rintro u ⟨s,ro,hr1,hS,hv,hbl⟩;rw [if_neg (by rw [hr1];decide)] at eP;have hBd:=hS.blk (i:=0) rfl;refine rFootDec_ok hBd (hv.rd fun p hp=>hS.own (Lmc _ (Lmr _ hp))) (by omega) (fun e5 w6 M6=>?_) fun e5 w6 R si ps f6 hF=>?_
 ·rw [if_pos e5] at eP;refine (hS.quiet M6).alst (by rfl) fun b39 w7 h7 _=>ifK_t rfl (no eP (by decide) (h7.sub (sm.trans (Lsl _ _))))
 rw [if_neg (by rw [e5];decide)] at eP;subst eP;have h6:=hS.fresh f6;refine h6.alst (by rfl) fun b39 w7 h7 _=>ifK_f rfl ?_;have h39:Blk w7 b39 (pairC (readR O.2.body).1 si):=h7.own (Lmr _ (Lms.2 rfl));refine h39.ldK (k:=Ki) (readR O.2.body).1 rfl (h39.ldK (k:=.sl) si rfl (h7.alK fun b44 w8 h8 _=>?_));have h8:SS w0 bs q t out (((((d,rdecC O.2 s)::(M++ro))++R)++[(b39,pairC (readR O.2.body).1 si)])++[(b44,rdrD q (readR O.2.body).1 si)]) w8:=h8;refine hK hr1 b44 R si ps w8 ?_ hF;have h9:SS w0 bs q t out ((m++R)++[(b44,rdrD q (readR O.2.body).1 si)]) w8:=h8.sub (((sm.append (List.Sublist.refl R)).trans (Lsl _ _)).append (List.Sublist.refl _));exact h9.perm (by rw [Laa];exact (Lpc (l₁:=[(b44,rdrD q (readR O.2.body).1 si)])).append_left m)
end
def infoN(P:Int)(l:List PartI)(part:Int):Int×Int:=if refN P part≠0 then (-1,refN P part) else ((findN l part []).1,0)
theorem findN_fst(l:List PartI)(part:Int)(k1 k2:Str):(findN l part k1).1=(findN l part k2).1:=by
 unfold findN;split<;>rfl
theorem lowC_iff{bl:List BI}{k:Str}(hm:∀i j,i≤j→j<bl.length→belowB bl k j=true→belowB bl k i=true){i:Nat}(hi:i<bl.length):belowB bl k i=true↔i<lowC bl k:=by
 unfold lowC;have key:∀(l:List BI) (i:Nat),i<(l.takeWhile fun b=>decide (cmpN b.cut k<0)).length→∀d,decide (cmpN (l.getD i d).cut k<0)=true:=by
  intro l
  induction l with
  | nil=>intro i h;simp at h
  | cons x l ih=>
   intro i h d;rw [List.takeWhile_cons] at h;split at h
   ·rename_i hx
    cases i with
    | zero=>exact hx
    | succ i=>exact ih i (by simpa using h) d
   ·simp at h
 have stop:∀(l:List BI),(l.takeWhile fun b=>decide (cmpN b.cut k<0)).length<l.length→∀d,decide (cmpN (l.getD (l.takeWhile fun b=>decide (cmpN b.cut k<0)).length d).cut k<0)=false:=by
  intro l
  induction l with
  | nil=>intro h;simp at h
  | cons x l ih=>
   intro h d;rw [List.takeWhile_cons] at h ⊢;split at h
   ·rename_i hx;rw [if_pos hx];exact ih (by simpa using h) d
   ·rename_i hx;rw [if_neg hx];simpa using hx
 constructor
 ·intro hb;apply Classical.byContradiction;intro hn;have hle:=Nat.not_lt.1 hn;have:=stop bl (by omega) ⟨0,0,0,[]⟩;have h2:=hm _ i hle hi hb;unfold belowB at h2;rw [h2] at this;cases this
 ·intro h;exact key bl i h ⟨0,0,0,[]⟩
structure CurE where
 info:Int
 block:Int
 lst:List (Str×Str)
 key:Str
 any:Bool
 frm:Str
 bad:Bool
def newE(info block:Int)(frm:Str):CurE:=⟨info,block,[],[],false,frm,false⟩
def curE(br:Nat)(c:CurE)(s:Sl):List Value:=[(LV.ptr (some (br,0))).toV,.int .i64 c.info,.int .i64 c.block,(LV.sl s).toV,(LV.str c.key).toV,(LV.bool c.any).toV,(LV.str c.frm).toV,(LV.bool c.bad).toV]
def RdD(q:Nat)(R:BL)(br:Nat)(P:Int)(l:List PartI):Prop:=∃si ps,(br,rdrD q P si)∈R∧FootL R si ps l∧chkF P l=true
theorem RdD.chk{q br:Nat}{R:BL}{P:Int}{l:List PartI}(h:RdD q R br P l):1≤P∧P≤65535∧chkI P l (-1) 0=true:=by
 obtain⟨_,_,_,_,h⟩:=h;unfold chkF at h;rw [Bat] at h;have:=odt h.1;exact⟨this.1,this.2,h.2⟩
section
variable {q br:Nat}{R:BL}{P:Int}{l:List PartI}{w:World}
theorem rParts_ok(h:RdD q R br P l)(hR:∀p∈R,Blk w p.1 p.2){K:Int→Wp}(hK:K P w):callK Pg c_167 [Ap (some (br,0))] w Oi K:=by
 obtain⟨si,ps,h1,h2,h3⟩:=h;have hB:Blk w br (rdrD q P si):=hR _ h1;exact go_167 _ _ _ (ifK_f rfl (Dq (hB.ldK (k:=Ki) P rfl hK)))
theorem rParts_nil{K:Int→Wp}(hK:K 0 w):callK Pg c_167 [Ap none] w Oi K:=go_167 _ _ _ (ifK_t rfl hK)
theorem rFoot9_nil{K:Int→Sl→Wp}(hK:∀w',Mod F0 w w'→K 0 ⟨none,0,0⟩ w'):callK Pg c_165 [Ap none] w (.one (.agg [Ki,.sl])) K:=by
 refine go_165 _ _ _ ?_;refine (Fresh.start w F0).alK fun b w1 f1 _ _=>ifK_t rfl (f1.stK 0 rfl (Nlr 2) fun w2 f2 _=>?_);have hB:Blk w2 b (pairC 0 ⟨none,0,0⟩):=f2.blk (i:=0) rfl;exact hB.ldK (k:=Ki) 0 rfl (hB.ldK (k:=.sl) ⟨none,0,0⟩ rfl (hK w2 f2.mod))
theorem rFoot9_ok(h:RdD q R br P l)(hR:∀p∈R,Blk w p.1 p.2){K:Int→Sl→Wp}(hK:∀si ps w',Mod F0 w w'→FootL R si ps l→K P si w'):callK Pg c_165 [Ap (some (br,0))] w (.one (.agg [Ki,.sl])) K:=by
 obtain⟨si,ps,h1,h2,h3⟩:=h;refine go_165 _ _ _ ?_;refine (Fresh.start w F0).alK fun b w1 f1 _ M1=>ifK_f rfl ?_;have hB:Blk w1 br (rdrD q P si):=M1.blk (hR _ h1) id;refine Dq (hB.ldK (k:=Ki) P rfl (hB.ldK (k:=.sl) si rfl (f1.stK 0 rfl (Nlr 2) fun w2 f2 _=>?_)));have hB2:Blk w2 b (pairC P si):=f2.blk (i:=0) rfl;exact hB2.ldK (k:=Ki) P rfl (hB2.ldK (k:=.sl) si rfl (hK si ps w2 f2.mod h2))
theorem rInfo_ok(h:RdD q R br P l)(hR:∀p∈R,Blk w p.1 p.2){part:Int}{K:Int→Int→Wp}(hK:K (infoN P l part).1 (infoN P l part).2 w):callK Pg c_176 [Ap (some (br,0)),Ai part] w (.tup [Li,Li]) K:=by
 obtain⟨si,ps,h1,h2,h3⟩:=h;have hB:Blk w br (rdrD q P si):=hR _ h1;refine go_176 _ _ _ _ (ifK_f rfl ?_);unfold infoN refN at hK;refine join1 (a:=.bool) (fun x u=>x=decide (part<0∨P≤part)∧u=w) ?_ ?_
 ·intro k hk;refine Iq (fun x=>hk _ _ ⟨?_,rfl⟩) fun x=>Dq (hB.ldK (k:=Ki) P rfl (hk _ _ ⟨?_,rfl⟩))
  ·exact (Dct (.inl (odt x:part<0))).symm
  ·have x:¬part<0:=odf x;show decide (P≤part)=_;rw [Bei,Det,Det];omega
 rintro x u ⟨rfl,rfl⟩;refine Iq (fun x=>?_) fun x=>?_
 ·rw [if_pos (odt x),if_pos (by decide)] at hK;exact hK
 rw [if_neg (odf x),if_neg (by decide)] at hK;have hll:=h2.ll;unfold findN at hK;refine join0 (fun v=>(∀(j:Nat) x,l[j]? = some x→(x.part==part)=false)∧v=u) ?_ ?_;rotate_left
 ·rintro v ⟨hn,rfl⟩;rw [findIdx_none hn] at hK;exact hK
 intro k9 hk9;refine loop1 (k:=Ki) (fun (t:Int) v=>∃i:Nat,t=(i:Int)∧i≤l.length∧(∀(j:Nat) y,j<i→l[j]? = some y→(y.part==part)=false)∧v=u) (fun t _=>(l.length-t).toNat) (x:=0) rfl ⟨0,rfl,Nzl _,fun j y hj=>absurd hj (Nat.not_lt_zero _),rfl⟩ ?_;rintro t v ⟨i,rfl,hi,hb,rfl⟩;refine Dq (hB.ldK (k:=.sl) si rfl ?_);rw [(h2.row.rd hR).len,h2.len];refine Iq (fun x=>?_) fun x=>?_;rotate_left
 ·have x:=dge x;exact hk9 _ ⟨fun j y hy=>hb j y (by have:=(Les.1 hy).1;omega) hy,rfl⟩
 have x:=dlt x;obtain⟨y,hy⟩:=Gq x;obtain⟨p,hp⟩:=Gq (l:=ps) (i:=i) (by rw [h2.len];exact x);refine Dq (hB.ldK (k:=.sl) si rfl ((h2.row.rd hR).ix rfl rfl hp fun b o _ hc=>Lq (k:=Ki) p.part (hc 0 (by decide)) ?_));rw [(h2.each i p y hp hy).part];refine Iq (fun e=>?_) fun e=>?_
 ·rw [findIdx_some hy e hb] at hK;exact hK
 ·rw [step64 (by omega)];refine⟨⟨i+1,rfl,by omega,fun j z hj hz=>?_,rfl⟩,by omega⟩;rcases Nat.lt_or_ge j i with h | h
  ·exact hb j z h hz
  ·have:j=i:=by omega
   subst this;rw [hy] at hz;cases hz;exact e
theorem infoN_neg{P:Int}{l:List PartI}{part:Int}:(infoN P l part).2≠0∨(infoN P l part).1<0↔refN P part≠0∨(findN l part []).1<0:=by
 unfold infoN;split
 ·rename_i h;exact⟨fun _=>.inl h,fun _=>.inl h⟩
 ·rename_i h;exact⟨fun x=>.inr (x.resolve_left fun h=>h rfl),fun x=>.inr (x.resolve_left h)⟩
theorem rCount_ok(h:RdD q R br P l)(hR:∀p∈R,Blk w p.1 p.2){part:Int}{K:Int→Int→Wp}(hK:∀w',Mod F0 w w'→K (countN P l part).1 (countN P l part).2 w') :
  callK Pg c_171 [Ap (some (br,0)),Ai part] w (.tup [Li,Li]) K:=by
 refine go_171 _ _ _ _ ?_;refine rInfo_ok h hR ?_;have hc:=h.chk.2.2;obtain⟨si,ps,h1,h2,h3⟩:=h;have hB:Blk w br (rdrD q P si):=hR _ h1;have hK:=hK w (Mod.refl _ _);unfold countN at hK;refine join1 (a:=.bool) (fun x u=>x=decide (refN P part≠0∨(findN l part []).1<0)∧u=w) ?_ ?_
 ·intro k hk;have hi:=infoN_neg (P:=P) (l:=l) (part:=part);generalize infoN P l part=I at hi ⊢;refine Iq (fun x=>hk _ _ ⟨?_,rfl⟩) fun x=>hk _ _ ⟨?_,rfl⟩
  ·have x:I.2≠0:=by simpa using x
   exact (Dct (hi.1 (.inl x))).symm
  ·have x:I.2=0:=by simpa using x
   show decide (I.1<0)=_;rw [Bei,Det,Det,←hi];exact⟨.inr,fun h=>h.resolve_left fun h=>h x⟩
 rintro x u ⟨rfl,rfl⟩;refine Iq (fun x=>?_) fun x=>?_
 ·have x:=odt x;unfold infoN;by_cases hr:refN P part≠0
  ·rw [if_pos hr] at hK ⊢;exact hK
  ·rw [if_neg hr] at hK ⊢;have hneg:=x.resolve_left hr;have:blocksAt l (findN l part []).1=[]:=by unfold blocksAt;rw [if_pos hneg]
   rw [this] at hK;exact hK
 have x:=odf x;have hr:¬refN P part≠0:=fun h=>x (.inl h);rw [if_neg hr] at hK;have eI:infoN P l part=((findN l part []).1,0):=by unfold infoN;rw [if_neg hr]
 rw [eI];rcases findN_cases l part [] with⟨e,_⟩ | ⟨i,y,hy,hp,e⟩
 ·rw [e] at x;exact absurd (.inr (by decide)) x
 rw [e] at hK ⊢;rw [blocksAt_some hy] at hK;obtain⟨p,hp⟩:=Gq (l:=ps) (i:=i) (by rw [h2.len];exact (Les.1 hy).1);have hi1:=h2.each i p y hp hy;have hcb:=(chkI_each P l _ _ hc y (Lmg hy)).2.2.2.2.1;have hlb:=hi1.lb;have prow:∀{K:Sl→Prop},K p.sb→dr (some (br,0)) fun b14 o15=>ld u .sl b14 (o15+2+1) fun a16=>ix a16 5 (i:Int) fun b17 o18=>ld u .sl b17 (o18+1) K:=fun hk=>Dq (hB.ldK (k:=.sl) si rfl ((h2.row.rd hR).ix rfl rfl hp fun b o _ hc=>Lq (k:=.sl) p.sb (hc 1 (by decide)) hk));refine join1 (a:=Ki) (fun (n:Int) v=>n=cntB y.blocks∧v=u) ?_ (by rintro n v ⟨rfl,rfl⟩;exact hK);intro k9 hk9;refine loop2 (k1:=Ki) (k2:=Ki) (fun (n t:Int) v=>∃(j:Nat) (key:Str),t=(j:Int)∧j≤y.blocks.length∧0≤n∧n≤65536*j∧chkB (y.blocks.drop j) key=true∧cntB y.blocks=n+cntB (y.blocks.drop j)∧v=u) (fun _ t _=>(y.blocks.length-t).toNat) (x1:=0) (x2:=0) rfl rfl
  ⟨0,[],rfl,Nzl _,Int.le_refl _,by simp,hcb,by simp,rfl⟩ ?_
 rintro n t v ⟨j,key,rfl,hj,h0,h1',hcb,he,rfl⟩;change Int at n;refine prow ?_;rw [(hi1.bl.rd hR).len];refine Iq (fun x=>?_) fun x=>?_;rotate_left
 ·have x:=dge x;rw [Ldn x] at he;exact hk9 _ _ ⟨by rw [he];simp [cntB],rfl⟩
 have x:=dlt x;obtain⟨z,hz⟩:=Gq x;rw [Dg hz,chkB_cons,Bat] at hcb;rw [Dg hz] at he;have hz1:=odt hcb.1;have:=hz1.2.2.2.1;have:=hz1.2.2.2.2.2.1;have:=hz1.2.2.2.2.2.2.1;have he:cntB y.blocks=n+(z.count+cntB (y.blocks.drop (j+1))):=he;refine prow ((hi1.bl.rd hR).ix rfl rfl hz fun b o _ hc=>Lq (k:=Ki) z.count (hc 2 (by decide)) ?_);have e1:w64 (n+z.count)=n+z.count:=Wq (by omega) (by omega);rw [e1,step64 (by omega)];exact⟨⟨j+1,z.cut,rfl,by omega,by omega,by omega,hcb.2,by omega,rfl⟩,by omega⟩
theorem rCut_ok{key:Str}{K:Str→Wp}(hK:K (key.take 64) w):callK Pg c_177 [Au key] w Ot K:=by
 refine go_177 _ _ _ ?_;have etk:key.take (min key.length 64)=key.take 64:=by
  rcases Nat.le_total key.length 64 with h | h
  ·rw [Nat.min_eq_left h,List.take_length,Ltl h]
  ·rw [Nat.min_eq_right h]
 refine ssx_take (n:=min key.length 64) (Nat.min_le_left _ _) (mn_nat _ _) ?_;rw [etk];exact hK
theorem rScan_ok(h:RdD q R br P l)(hR:∀p∈R,Blk w p.1 p.2){part:Int}{K:PA→Int→Wp}(hE:refN P part≠0→K none (refN P part) w)
  (hK:refN P part=0→∀w' b,Fresh w w' F0 [(b,curE br (newE (findN l part []).1 0 []) ⟨none,0,0⟩)]→K (some (b,0)) 0 w') :
  callK Pg c_173 [Ap (some (br,0)),Ai part] w (.tup [Lp,Li]) K:=by
 refine go_173 _ _ _ _ ?_;refine rInfo_ok h hR ?_;unfold infoN;by_cases hr:refN P part≠0
 ·rw [if_pos hr];exact ifK_t (by simpa using hr) (hE hr)
 ·rw [if_neg hr];exact ifK_f rfl ((Fresh.start w F0).alK fun b w1 f1 _ _=>hK (by simpa using hr) w1 b f1)
set_option maxHeartbeats 1000000 in
theorem rSeek_ok(h:RdD q R br P l)(hR:∀p∈R,Blk w p.1 p.2){part:Int}{key:Str}{K:PA→Int→Wp}(hE:refN P part≠0→K none (refN P part) w)
  (hK:refN P part=0→∀w' b,Fresh w w' F0 [(b,curE br (newE (findN l part key).1 (findN l part key).2 key) ⟨none,0,0⟩)]→K (some (b,0)) 0 w') :
  callK Pg c_174 [Ap (some (br,0)),Ai part,Au key] w (.tup [Lp,Li]) K:=by
 refine go_174 _ _ _ _ _ ?_;refine rInfo_ok h hR ?_;unfold infoN;by_cases hr:refN P part≠0
 ·rw [if_pos hr];exact ifK_t (by simpa using hr) (hE hr)
 rw [if_neg hr];have hK:=hK (by simpa using hr);have hc:=h.chk.2.2;obtain⟨si,ps,h1,h2,h3⟩:=h;refine ifK_f rfl ((Fresh.start w F0).alK fun b w1 f1 _ M1=>?_);rw [findN_fst l part [] key] at f1 ⊢;have f1:Fresh w w1 F0 [(b,curE br (newE (findN l part key).1 0 key) ⟨none,0,0⟩)]:=f1;refine join0 (fun u=>Fresh w u F0 [(b,curE br (newE (findN l part key).1 (findN l part key).2 key) ⟨none,0,0⟩)]) ?_ (fun u hu=>hK u b hu);intro k9 hk9;rcases findN_cases l part key with⟨e,_⟩ | ⟨i,y,hy,hp,e⟩
 ·rw [e] at f1 hk9 ⊢;refine loop1 (k:=Ki) (fun (t:Int) u=>t=0∧u=w1) (fun _ _=>0) (x:=0) rfl ⟨rfl,rfl⟩ ?_;rintro t u ⟨rfl,rfl⟩;refine join1 (a:=.bool) (fun x v=>x=false∧v=u) (fun k hk=>ifK_f (by decide) (hk _ _ ⟨rfl,rfl⟩)) ?_;rintro x v ⟨rfl,rfl⟩;exact ifK_f rfl (hk9 v f1)
 rw [e] at f1 hk9 ⊢;have hR2:∀{z:World},Mod F0 w z→∀p∈R,Blk z p.1 p.2:=fun hM p hp=>hM.blk (hR p hp) id;have hcb:=(chkI_each P l _ _ hc y (Lmg hy)).2.2.2.2.1;obtain⟨p,hp⟩:=Gq (l:=ps) (i:=i) (by rw [h2.len];exact (Les.1 hy).1);have hi1:=h2.each i p y hp hy;have hlb:=hi1.lb;have hiff:∀{j:Nat},j<y.blocks.length→(belowB y.blocks (key.take 64) j=true↔j<lowC y.blocks (key.take 64)):=fun hj=>lowC_iff (belowB_mono hcb _) hj;have hlow:=lowC_le y.blocks (key.take 64);generalize lowC y.blocks (key.take 64)=L at hiff hlow hk9;refine loop1 (k:=Ki) (fun (t:Int) u=>∃j:Nat,t=(j:Int)∧j≤y.blocks.length∧Fresh w u F0 [(b,curE br (newE (i:Int) ((min j L-1:Nat):Int) key) ⟨none,0,0⟩)]) (fun t _=>(y.blocks.length-t).toNat) (x:=0) rfl ⟨0,rfl,Nzl _,by rw [Nat.zero_min];exact f1⟩ ?_;rintro t u ⟨j,rfl,hj,fu⟩;have hBu:=hR2 fu.mod _ h1;refine join1 (a:=.bool) (fun x v=>x=decide (j<y.blocks.length)∧v=u) (fun k hk=>ifK_t (Dct (Int.natCast_nonneg i)) (Dq (hBu.ldK (k:=.sl) si rfl ((h2.row.rd (hR2 fu.mod)).ix rfl rfl hp fun b o _ hc=>Lq (k:=.sl) p.sb (hc 1 (by decide)) (hk _ _ ⟨?_,rfl⟩))))) ?_
 ·rw [(hi1.bl.rd (hR2 fu.mod)).len];show decide ((j:Int)<(y.blocks.length:Int))=_;rw [Bei,Det,Det];omega
 rintro x v ⟨rfl,rfl⟩;refine Iq (fun x=>?_) fun x=>?_;rotate_left
 ·have x:=odf x;have ej:min j L=L:=by omega
  rw [ej] at fu;exact hk9 v fu
 have x:=odt x;obtain⟨z,hz⟩:=Gq x;have fd:=fu.quiet (Mq v);have hBd:=hR2 fd.mod _ h1;refine⟨F0,Dq (hBd.ldDK (k:=.sl) si id rfl ((h2.row.rd (hR2 fd.mod)).ix rfl rfl hp fun bb oo _ hc=>Lw (k:=.sl) p.sb id (hc 1 (by decide)) ((hi1.bl.rd (hR2 fd.mod)).ix rfl rfl hz fun bb oo _ hc=>Lw (k:=.str) z.cut id (hc 3 (by decide)) ?_)))⟩;have hzc:=((chkB_srt _ _ hcb).1 z (Lmg hz)).2;refine rCut_ok ⟨Mod.refl _ _,rCompare_ok (by omega) fun v2 M2=>⟨M2,?_⟩⟩;have f2:=fd.quiet M2;have hbz:belowB y.blocks (key.take 64) j=decide (cmpN z.cut (key.take 64)<0):=by unfold belowB;rw [Lgd,hz];rfl
 have hbj:=hiff x;rw [hbz,Det] at hbj;refine join0 (fun z'=>Fresh w z' F0 [(b,curE br (newE (i:Int) ((min (j+1) L-1:Nat):Int) key) ⟨none,0,0⟩)]) ?_ ?_
 ·intro k36 hk36;refine Iq (fun r=>Dq ?_) fun r=>hk36 _ ?_
  ·have r:cmpN z.cut (key.take 64)<0:=odt r;have hjL:=hbj.1 r;refine f2.stH (by decide:0+2+1≤8) (X':=curE br (newE (i:Int) ((min (j+1) L-1:Nat):Int) key) ⟨none,0,0⟩) ?_ fun v3 f3=>hk36 v3 f3;have:min (j+1) L-1=j:=by omega
   rw [this];rfl
  ·have r:¬cmpN z.cut (key.take 64)<0:=odf r;have hjL:¬j<L:=fun h=>r (hbj.2 h);have:min (j+1) L=min j L:=by omega
   rw [this];exact f2
 rintro v4 f4;rw [step64 (by omega)];exact⟨⟨j+1,rfl,by omega,f4⟩,by omega⟩
end
def goodR(t:Str)(out:Bool)(at_:Int)(i:BI)(any:Bool)(last:Str):Option (List (Str×Str)):=
 if (rdX t out at_ (i.stored+5)).1≠0∨((rdX t out at_ (i.stored+5)).2.length:Int)≠i.stored+5 then none else
 match (blockR (rdX t out at_ (i.stored+5)).2 i.raw).2 with
 | none=>none
 | some e=>if (e.length:Int)≠i.count then none else if (e.getD 0 ([],[])).1.take 64≠i.cut∨(any=true∧cmpN (e.getD 0 ([],[])).1 last<0) then none else some e
def loadE(t:Str)(out:Bool)(l:List PartI)(c:CurE):Bool×CurE:=
 match goodR t out (offAt l c.info c.block) ((blocksAt l c.info).getD c.block.toNat ⟨0,0,0,[]⟩) c.any c.key with
 | none=>(false,c)
 | some e=>(true,{c with lst:=e,key:=(e.getD (e.length-1) ([],[])).1,any:=true,block:=c.block+1})
theorem offs_get:∀{a:Int} {bl:List BI} {k:Nat},k<bl.length→(offs a bl)[k]? = some (a+spB (bl.take k))
 | _,[],_,h=>by simp at h
 | a,b::r,0,_=>by simp [offs,spB]
 | a,b::r,k+1,h=>by
  have:=offs_get (a:=a+(b.stored+5)) (bl:=r) (k:=k) (by simpa using h);simp only [offs,List.getElem?_cons_succ,this,List.take_succ_cons,spB];congr 1;omega
theorem offI_get2:∀{a:Int} {l:List PartI} {i:Nat} {x:PartI},l[i]? = some x→(offI a l)[i]? = some (offs (a+spI (l.take i)) x.blocks)
 | _,[],_,_,h=>by simp at h
 | a,y::l,0,x,h=>by simp at h;subst h;simp [offI,spI]
 | a,y::l,i+1,x,h=>by
  have:=offI_get2 (a:=a+spB y.blocks) (l:=l) (i:=i) (x:=x) (by simpa using h);simp only [offI,List.getElem?_cons_succ,this,List.take_succ_cons,spI];congr 2;omega
theorem offAt_eq{l:List PartI}{i k:Nat}{x:PartI}(hx:l[i]? = some x)(hk:k<x.blocks.length):offAt l (i:Int) (k:Int)=spI (l.take i)+spB (x.blocks.take k):=by
 unfold offAt;rw [Itn,Itn,getD_get (offI_get2 hx),getD_get (offs_get hk)];omega
theorem spB_snoc:∀(l:List BI) (b:BI),spB (l++[b])=spB l+b.stored+5
 | [],b=>by simp [spB]
 | a::l,b=>by simp only [List.cons_append,spB,spB_snoc l b];omega
theorem spI_snoc:∀(l:List PartI) (x:PartI),spI (l++[x])=spI l+spB x.blocks
 | [],x=>by simp [spI]
 | a::l,x=>by simp only [List.cons_append,spI,spI_snoc l x];omega
theorem spB_take{bl:List BI}{key:Str}(h:chkB bl key=true)(k:Nat):0≤spB (bl.take k)∧spB (bl.take k)≤spB bl:=by
 induction bl generalizing key k with
 | nil=>simp [spB]
 | cons b r ih=>
  rw [chkB_cons,Bat] at h;have h1:=(odt h.1).1
  cases k with
  | zero=>rw [List.take_zero];have:=(spB_le _ _ h.2).1;simp only [spB];omega
  | succ k=>have:=ih h.2 k;simp only [List.take_succ_cons,spB];omega
theorem spI_take{P:Int}{l:List PartI}:∀{last:Int} {n:Nat},chkI P l last n=true→n≤262144→∀(k:Nat),0≤spI (l.take k)∧spI (l.take k)≤spI l:=by
 induction l with
 | nil=>intro last n _ _ k;simp [spI]
 | cons x r ih=>
  intro last n h hn k;have h0:=h;rw [chkI,Bat,Bat] at h;have h1:=(odt h.1.1).2.2.2.1;have h2:=(spB_le _ _ h.1.2).1;have h3:=(spI_le P r x.part _ h.2 h1).1
  cases k with
  | zero=>rw [List.take_zero];simp only [spI];omega
  | succ k=>have:=ih h.2 h1 k;simp only [List.take_succ_cons,spI];omega
def ReadL(Y:BL)(s:Sl)(l:List (Str×Str)):Prop:=∀w,(∀p∈Y,Blk w p.1 p.2)→RdS w EPr s l
theorem ReadL.mono{Y Y':BL}{s:Sl}{l:List (Str×Str)}(h:ReadL Y s l)(hs:∀q∈Y,q∈Y'):ReadL Y' s l:=fun w hb=>h w fun p hp=>hb p (hs p hp)
theorem ReadL.nil:ReadL [] ⟨none,0,0⟩ []:=fun w _=>⟨rfl,.inl rfl,Nlr _⟩
theorem ReadL.fromK{Y:BL}{s:Sl}{l:List (Str×Str)}(h:ReadL Y s l){w:World}(hb:∀p∈Y,Blk w p.1 p.2){n:Nat}(hn:n≤l.length){i:Int}(hi:i=(n:Int)){K:Sl→Prop}(hK:∀s',ReadL Y s' (l.drop n)→K s'):Go.Vw.slx s 2 (some i) none none K:=by
 subst hi;have h0:=h w hb;have hlen:=h0.len;have hcap:=h0.has;refine⟨n,s.len,s.cap,rfl,rfl,rfl,by omega,hcap,Nlr _,hK _ fun w' hb'=>?_⟩;have:=RdS.cutR (h w' hb') (lo:=n) (hi:=s.len) (mx:=s.cap) (by omega) (by omega) hcap;rw [hlen,List.take_length] at this;rw [hlen];exact this
section
variable {q br:Nat}{R:BL}{P:Int}{l:List PartI}{w:World}
set_option maxHeartbeats 1000000 in
theorem rPlace9_ok(h:RdD q R br P l)(hR:∀p∈R,Blk w p.1 p.2){a b:Int}{i k:Nat}(ha:a=(i:Int))(hb:b=(k:Int)){x:PartI}(hx:l[i]? = some x)(hk:k≤x.blocks.length){K:Int→Wp}(hK:K (spI (l.take i)+spB (x.blocks.take k)) w) :
  callK Pg c_179 [Ap (some (br,0)),Ai a,Ai b] w Oi K:=by
 subst ha;subst hb;refine go_179 _ _ _ _ _ ?_;have hc:=h.chk.2.2;obtain⟨si,ps,h1,h2,h3⟩:=h;have hB:Blk w br (rdrD q P si):=hR _ h1;have hi:i<l.length:=(Les.1 hx).1;have hle:=spI_le P l (-1) 0 hc (by decide);have hll:=h2.ll;refine join1 (a:=Ki) (fun (n:Int) v=>n=spI (l.take i)+spB (x.blocks.take k)∧v=w) ?_ (by rintro n v ⟨rfl,rfl⟩;exact hK);intro k4 hk4;refine loop2 (k1:=Ki) (k2:=Ki) (fun (n t:Int) v=>∃j:Nat,t=(j:Int)∧j≤i+1∧n=(if j≤i then spI (l.take j) else spI (l.take i)+spB (x.blocks.take k))∧v=w) (fun _ t _=>(i+1-t).toNat) (x1:=0) (x2:=0) rfl rfl ⟨0,rfl,Nzl _,by rw [if_pos (Nzl _)];rfl,rfl⟩ ?_;rintro n t v ⟨j,rfl,hj,rfl,rfl⟩;refine Iq (fun e=>?_) fun e=>?_;rotate_left
 ·have e:¬(j:Int)≤(i:Int):=odf e;rw [if_neg (by omega)];exact hk4 _ _ ⟨rfl,rfl⟩
 have e:(j:Int)≤(i:Int):=odt e;rw [if_pos (by omega)];obtain⟨y,hy⟩:=Gq (l:=l) (i:=j) (by omega);obtain⟨p,hp⟩:=Gq (l:=ps) (i:=j) (by rw [h2.len];omega);have hi1:=h2.each j p y hp hy;have hlb:=hi1.lb;have hcb:=(chkI_each P l _ _ hc y (Lmg hy)).2.2.2.2.1;have prow:∀{K:Sl→Prop},K p.sb→dr (some (br,0)) fun b14 o15=>ld v .sl b14 (o15+2+1) fun a16=>ix a16 5 (j:Int) fun b17 o18=>ld v .sl b17 (o18+1) K:=fun hk=>Dq (hB.ldK (k:=.sl) si rfl ((h2.row.rd hR).ix rfl rfl hp fun b o _ hc=>Lq (k:=.sl) p.sb (hc 1 (by decide)) hk));have htk:=spI_take hc (by decide) j;have hnext:spI (l.take (j+1))=spI (l.take j)+spB y.blocks:=by rw [List.take_add_one,hy,Option.toList_some,spI_snoc]
 have htk2:=spI_take hc (by decide) (j+1);have e3:w64 ((j:Int)+1)=((j+1:Nat):Int):=by rw [Wq (by omega) (by omega)];omega
 refine join1 (a:=Ki) (fun (n:Int) z=>n=(if j+1≤i then spI (l.take (j+1)) else spI (l.take i)+spB (x.blocks.take k))∧z=v) ?_ ?_;rotate_left
 ·rintro n z ⟨rfl,rfl⟩;rw [e3];exact⟨⟨j+1,rfl,by omega,rfl,rfl⟩,by omega⟩
 intro k9 hk9
 have hstop:∃L:Nat,L≤y.blocks.length∧(∀m:Nat,m≤y.blocks.length→((m<y.blocks.length∧(j<i∨m<k))↔m<L))∧spI (l.take j)+spB (y.blocks.take L)=(if j+1≤i then spI (l.take (j+1)) else spI (l.take i)+spB (x.blocks.take k)):=by
  by_cases hji:j+1≤i
  ·refine⟨y.blocks.length,Nlr _,fun m hm=>by omega,?_⟩;rw [if_pos hji,List.take_length,hnext]
  ·have:j=i:=by omega
   subst this;rw [hx] at hy;cases hy;refine⟨k,hk,fun m hm=>by omega,?_⟩;rw [if_neg hji]
 obtain⟨L,hL,hLi,hLe⟩:=hstop;refine loop2 (k1:=Ki) (k2:=Ki) (fun (n t:Int) z=>∃m:Nat,t=(m:Int)∧m≤L∧n=spI (l.take j)+spB (y.blocks.take m)∧z=v) (fun _ t _=>(y.blocks.length-t).toNat) (x1:=spI (l.take j)) (x2:=0) rfl rfl ⟨0,rfl,Nzl _,by simp [spB],rfl⟩ ?_;rintro n t z ⟨m,rfl,hm,rfl,rfl⟩;refine join1 (a:=.bool) (fun x z'=>x=decide (m<L)∧z'=z) ?_ ?_
 ·intro k14 hk14;refine prow ?_;rw [(hi1.bl.rd hR).len];have hLm:=hLi m (by omega);refine Iq (fun r1=>Iq (fun r2=>hk14 _ _ ⟨?_,rfl⟩) fun r2=>hk14 _ _ ⟨?_,rfl⟩) fun r1=>hk14 _ _ ⟨?_,rfl⟩
  ·exact (Dct (hLm.1 ⟨dlt r1,.inl (dlt r2)⟩)).symm
  ·have r1:=dlt r1;have r2:=dge r2;show decide ((m:Int)<(k:Int))=_;rw [Bei,Det,Det,←hLm];omega
  ·have r1:=dge r1;exact (Dcf fun h=>by omega).symm
 rintro x' z' ⟨rfl,rfl⟩;refine Iq (fun r=>?_) fun r=>?_;rotate_left
 ·have r:=odf r;have:m=L:=by omega
  subst this;exact hk9 _ _ ⟨hLe,rfl⟩
 have r:=odt r;obtain⟨g,hg⟩:=Gq (l:=y.blocks) (i:=m) (by omega);have hsn:spB (y.blocks.take (m+1))=spB (y.blocks.take m)+g.stored+5:=by rw [List.take_add_one,hg,Option.toList_some,spB_snoc]
 have hst:=spB_take hcb (m+1);have hst0:=spB_take hcb m;refine prow ((hi1.bl.rd hR).ix rfl rfl hg fun b o _ hc=>Lq (k:=Ki) g.stored (hc 0 (by decide)) ?_);have e1:w64 (spI (l.take j)+spB (y.blocks.take m)+g.stored)=spI (l.take j)+spB (y.blocks.take m)+g.stored:=Wq (by omega) (by omega);have e2:w64 (spI (l.take j)+spB (y.blocks.take m)+g.stored+5)=spI (l.take j)+spB (y.blocks.take (m+1)):=by rw [Wq (by omega) (by omega)];omega
 rw [e1,e2,step64 (by omega)];exact⟨⟨m+1,rfl,by omega,rfl,rfl⟩,by omega⟩
end
end Go.Proofs.YtkofkhjcfjoceaaGreat
