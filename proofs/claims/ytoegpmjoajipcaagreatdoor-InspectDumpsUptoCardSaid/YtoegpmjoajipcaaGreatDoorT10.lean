/- Part T10. -/
import Derived.Test.YtoegpmjoajipcaaGreatDoorT09
import Derived.Test.YtoegpmjoajipcaaGreatDoorT03
import Derived.Test.YtoegpmjoajipcaaGreatDoorT05
import Derived.Test.YtoegpmjoajipcaaGreatDoorT07
namespace Go.Proofs.YtoegpmjoajipcaaGreatDoor
open Go.Vw
def symR(codes:List (Nat×Nat))(w:Str):Nat→Nat→Nat→Nat→Option (Nat×Nat)
 | 0,_,_,_=>none
 | k+1,at_,word,long=>if 8*w.length≤at_ then none else
  match findC codes long (2*word+bitN w at_) with
  | some s=>some (s,at_+1)
  | none=>symR codes w k (at_+1) (2*word+bitN w at_) (long+1)
def wordsR(codes:List (Nat×Nat))(w:Str):Nat→Nat→Str→Option (Str×Nat)
 | 0,at_,text=>some (text,at_)
 | n+1,at_,text=>match symR codes w 15 at_ 0 1 with
  | none=>none
  | some x=>wordsR codes w n x.2 (text++[UInt8.ofNat x.1])
def zerosN(w:Str)(at_:Nat):Bool:=(List.range (8*w.length)).all fun i=>decide (at_≤i→bitN w i=0)
def huffW(codes:List (Nat×Nat))(w:Str)(n:Nat):Option Str:=match wordsR codes w n 0 [] with
 | none=>none
 | some x=>if w.length=(x.2+7)/8∧zerosN w x.2=true then some x.1 else none
def huffR(b:Str)(n:Int):Option Str:=if n<0∨65536<n then none else match lensR b with
 | none=>none
 | some x=>if 32768<kraftN x.1 then none else huffW (codesUp x.1 16 0) (b.drop x.2) n.toNat
theorem bitN_le(w:Str)(i:Nat):bitN w i≤1:=by unfold bitN;omega
theorem symR_le{codes:List (Nat×Nat)}{w:Str}:∀(k at_ word long:Nat) {x:Nat×Nat},symR codes w k at_ word long=some x→x.2≤8*w.length
 | 0,_,_,_,x,h=>by cases h
 | k+1,at_,word,long,x,h=>by
  rw [symR] at h;split at h
  ·cases h
  split at h
  ·cases h;show at_+1≤_;omega
  ·exact symR_le k _ _ _ h
theorem rHuffDecode_ok{w:World}{s:Sl}{b:Str}(hr:RdS w ET s b)(hl:b.length≤134217728){n:Int}{K:Sl→Int→Wp}
  (hN:huffR b n=none→∀(e:Int) w',e≠0→Mod F0 w w'→K ⟨none,0,0⟩ e w') (hS:∀x,huffR b n=some x→∀w' ro s',Fresh w w' F0 ro→VecL ro ET s' x→K s' 0 w') :
  callK Pg c_149 [Az s,Ai n] w (.tup [Ls,Li]) K:=by
 refine go_149 _ _ _ _ ?_;refine join1 (a:=.bool) (fun q v=>q=decide (n<0∨65536<n)∧v=w) (fun k hk=>Iq (fun q=>hk _ _ ⟨?_,rfl⟩) fun q=>hk _ _ ⟨?_,rfl⟩) ?_
 ·exact (Dct (.inl (odt q))).symm
 ·have q:¬n<0:=odf q;show decide (65536<n)=_;rw [Bei,Det,Det];omega
 rintro q v ⟨rfl,rfl⟩;unfold huffR at hN hS;refine Iq (fun q=>?_) fun q=>?_
 ·rw [if_pos (odt q)] at hN;exact hN rfl 3 v (by decide) (Mod.refl _ _)
 have q:=odf q;rw [if_neg q] at hN hS;obtain⟨N,rfl⟩:∃N:Nat,n=(N:Int):=⟨n.toNat,by omega⟩;rw [Itn] at hN hS;refine rReadLens_ok hr (by omega) (fun e w1 M1=>?_) fun x hx w1 roL sL fL vL=>?_
 ·rw [e] at hN;exact ifK_t rfl (hN rfl 40 w1 (by decide) M1)
 rw [hx] at hN hS;dsimp only at hN hS;have hok:=lensRunR_ok _ _ _ hx (by simp) (by simp);obtain⟨lens,from_⟩:=x;dsimp only at hN hS hok vL ⊢;refine ifK_f rfl (rCodes_ok (vL.rd fL.own) hok.1 hok.2.1 (fun e=>?_) fun e w2 roC sC fC vC=>?_)
 ·rw [if_pos e] at hN;exact ifK_t rfl (hN rfl 40 w1 (by decide) fL.mod)
 rw [if_neg e] at hN hS;have f2:Fresh v w2 F0 roC:=(fL.join fC (fun _ _ h=>h) (fun _ _ _ h=>h)).sub (Lsr _ _);refine ifK_f rfl ((hr.quiet f2.mod).fromK hok.2.2 rfl rfl fun s13 h13 _=>?_);have hwl:(b.drop from_).length≤134217728:=by rw [Lld];omega
 have hcl:(codesUp lens 16 0).length≤256:=by rw [codesUp_len];exact hok.1
 generalize codesUp lens 16 0=codes at hN hS vC hcl;generalize b.drop from_=W at hN hS h13 hwl;unfold huffW at hN hS;generalize hT:wordsR codes W N 0 []=T at hN hS;have rdW:∀{z:World} {L:BL},Fresh w2 z F0 L→RdS z ET s13 W:=fun f=>h13.quiet f.mod;have rdC:∀{z:World} {L:BL},Fresh w2 z F0 L→RdS z ECd sC codes:=fun f=>(vC.rd f2.own).quiet f.mod;have none':∀{z:World} {L:BL},Fresh w2 z F0 L→T=none→K ⟨none,0,0⟩ 40 z:=fun f e=>by
  rw [e] at hN;exact hN rfl 40 _ (by decide) (mod0 f2.mod f.mod)
 have e8:∀{z:Int},z=(W.length:Int)→w64 (8*z)=((8*W.length:Nat):Int):=fun h=>by rw [h,Wq (by omega) (by omega)];omega
 rw [h13.len];refine join2 (a:=Ki) (b:=.sl) (fun (a:Int) (s':Sl) u=>∃(at_:Nat) (ro:BL) (text:Str),a=(at_:Int)∧at_≤8*W.length∧Fresh w2 u F0 ro∧VecL ro ET s' text∧T=some (text,at_)) ?_ ?_;rotate_left
 ·rintro a s' u ⟨at_,ro,text,rfl,hat,hf,hv,hT⟩;rw [hT] at hN hS;dsimp only at hN hS;have e7:w64 ((w64 ((at_:Int)+7)).tdiv 8)=(((at_+7)/8:Nat):Int):=by
   have e1:w64 ((at_:Int)+7)=((at_+7:Nat):Int):=by rw [Wq (by omega) (by omega)];omega
   rw [e1,tdiv8,w64N (by omega)]
  rw [e7];refine Iq (fun q1=>?_) fun q1=>?_
  ·have q1:¬W.length=(at_+7)/8:=by
    intro e;rw [←e] at q1;simp at q1
   rw [if_neg (fun h=>q1 h.1)] at hN;exact hN rfl 40 u (by decide) (mod0 f2.mod hf.mod)
  have q1:W.length=(at_+7)/8:=by
   have:((W.length:Nat):Int)=(((at_+7)/8:Nat):Int):=by simpa using q1
   omega
  have hz:∀{j:Nat},(∀i,at_≤i→i<8*W.length→bitN W i=0)→zerosN W at_=true:=fun {_} h=>by
   unfold zerosN;rw [List.all_eq_true];intro i hi;exact Dct fun h2=>h i h2 (List.mem_range.1 hi)
  have hz2:zerosN W at_=true→∀i,at_≤i→i<8*W.length→bitN W i=0:=fun h i h1 h2=>by
   unfold zerosN at h;rw [List.all_eq_true] at h;exact odt (h i (List.mem_range.2 h2)) h1
  refine join0 (fun z=>(∀i,at_≤i→i<8*W.length→bitN W i=0)∧z=u) ?_ ?_;rotate_left
  ·rintro z ⟨h,rfl⟩;rw [if_pos ⟨q1,hz (j:=0) h⟩] at hS;exact hS _ rfl z ro s' ((f2.join hf (fun _ _ h=>h) (fun _ _ _ h=>h)).sub (Lsr _ _)) hv
  intro k43 hk43;refine loop1 (k:=Ki) (fun (a:Int) z=>∃j:Nat,a=(j:Int)∧at_≤j∧j≤8*W.length∧(∀i,at_≤i→i<j→bitN W i=0)∧z=u) (fun a _=>(8*W.length-a).toNat) (x:=(at_:Int)) rfl ⟨at_,rfl,Nlr _,hat,fun i h1 h2=>by omega,rfl⟩ ?_;rintro a z ⟨j,rfl,hj1,hj2,hb,rfl⟩;rw [e8 rfl];refine Iq (fun q2=>?_) fun q2=>?_;rotate_left
  ·have q2:=dge q2;have:j=8*W.length:=by omega
   subst this;exact hk43 _ ⟨hb,rfl⟩
  have q2:=dlt q2;refine rBit_ok (rdW hf) rfl q2 (by omega) (Iq (fun q3=>?_) fun q3=>?_)
  ·have q3:¬bitN W j=0:=by
    intro e;rw [e] at q3;simp at q3
   rw [if_neg (fun h=>q3 (hz2 h.2 j hj1 q2))] at hN;exact hN rfl 40 z (by decide) (mod0 f2.mod hf.mod)
  ·have q3:bitN W j=0:=by
    have:((bitN W j:Nat):Int)=0:=by simpa using q3
    omega
   rw [step64 (by omega)];refine⟨⟨j+1,rfl,by omega,by omega,fun i h1 h2=>?_,rfl⟩,by omega⟩;rcases Nat.lt_or_ge i j with h | h
   ·exact hb i h1 h
   ·have:i=j:=by omega
    rw [this];exact q3
 intro k14 hk14;refine loop2 (k1:=Ki) (k2:=.sl) (fun (a:Int) (s':Sl) u=>∃(k at_:Nat) (ro:BL) (text:Str),a=(at_:Int)∧at_≤8*W.length∧text.length+k=N∧Fresh w2 u F0 ro∧VecL ro ET s' text∧T=wordsR codes W k at_ text) (fun _ s' _=>N-s'.len) (x1:=0) (x2:=⟨none,0,0⟩) rfl rfl ⟨N,0,[],[],rfl,Nzl _,by simp,Fresh.start w2 F0,VecL.nil ET,hT.symm⟩ ?_;rintro a s' u ⟨k,at_,ro,text,rfl,hat,hk,hf,hv,hrun⟩;change Sl at s';rw [hv.1];refine Iq (fun q1=>?_) fun q1=>?_;rotate_left
 ·have q1:=dge q1;have:k=0:=by omega
  subst this;exact hk14 _ _ u ⟨at_,ro,text,rfl,hat,hf,hv,hrun⟩
 have q1:=dlt q1;obtain⟨k,rfl⟩:∃j,k=j+1:=⟨k-1,by omega⟩;rw [wordsR] at hrun;generalize hY:symR codes W 15 at_ 0 1=Y at hrun;refine join2 (a:=Ki) (b:=Ki) (fun (a:Int) (sy:Int) z=>∃(at2:Nat),a=(at2:Int)∧at2≤8*W.length∧z=u∧((sy = -1∧Y=none)∨∃y:Nat,sy=(y:Int)∧y<256∧Y=some (y,at2))) ?_ ?_;rotate_left
 ·rintro a sy z ⟨at2,rfl,hat2,rfl,hsy⟩;rcases hsy with⟨rfl,e⟩ | ⟨y,rfl,hy,e⟩
  ·rw [e] at hrun;exact ifK_t (by decide) (none' hf hrun)
  ·rw [e] at hrun;dsimp only at hrun;refine ifK_f (Dcf (by omega:¬((y:Nat):Int)<0)) ?_;refine Fresh.push (m:=[]) hf hv (UInt8.ofNat y) (byte_of y) rfl rfl (by omega) fun s4 ro4 u4 f4 v4 M4=>?_;refine⟨⟨k,at2,ro4,_,rfl,hat2,by simp;omega,f4,v4,hrun⟩,?_⟩;have:=v4.1;rw [Lla,List.length_singleton] at this;show N-s4.len<N-text.length;omega
 intro k19 hk19;refine loop4 (k1:=Ki) (k2:=.int .u32) (k3:=Ki) (k4:=Ki) (fun (a wd sy lg:Int) z=>∃(k' at3 wn ln:Nat),a=(at3:Int)∧wd=(wn:Int)∧lg=(ln:Int)∧at3≤8*W.length∧z=u∧1≤ln∧k'+ln=16∧wn<2^(ln-1)∧((sy = -1∧Y=symR codes W k' at3 wn ln)∨∃y:Nat,sy=(y:Int)∧y<256∧Y=some (y,at3))) (fun _ _ _ lg _=>(16-lg).toNat) (x1:=(at_:Int)) (x2:=0) (x3:=-1) (x4:=1) rfl rfl rfl rfl
  ⟨15,at_,0,1,rfl,rfl,rfl,hat,rfl,by decide,rfl,by decide,.inl ⟨rfl,hY.symm⟩⟩ ?_
 rintro a wd sy lg z ⟨k',at3,wn,ln,rfl,rfl,rfl,hat3,rfl,hln,hkl,hwn,hsy⟩;refine join1 (a:=.bool) (fun q x=>q=decide (ln≤15∧sy<0)∧x=z) ?_ ?_
 ·intro k26 hk26;refine Iq (fun q2=>hk26 _ _ ⟨?_,rfl⟩) fun q2=>hk26 _ _ ⟨?_,rfl⟩
  ·have q2:(ln:Int)≤15:=odt q2;show decide (sy<0)=_;rw [Bei,Det,Det];exact⟨fun h=>⟨by omega,h⟩,fun h=>h.2⟩
  ·have q2:¬(ln:Int)≤15:=odf q2;exact (Dcf fun h=>by have:=h.1;omega).symm
 rintro q x ⟨rfl,rfl⟩;refine Iq (fun q2=>?_) fun q2=>?_;rotate_left
 ·have q2:=odf q2;refine hk19 _ _ _ ⟨at3,rfl,hat3,rfl,?_⟩;rcases hsy with⟨rfl,e⟩ | h
  ·have:¬ln≤15:=fun h=>q2 ⟨h,by show (-1:Int)<0;decide⟩;have:k'=0:=by omega
   subst this;exact .inl ⟨rfl,e⟩
  ·exact .inr h
 have q2:=odt q2;rcases hsy with⟨rfl,hsym⟩ | ⟨y,rfl,_⟩;rotate_left
 ·exact absurd q2.2 (by show ¬((y:Nat):Int)<0;omega)
 obtain⟨k',rfl⟩:∃j,k'=j+1:=⟨k'-1,by omega⟩;rw [symR] at hsym;rw [e8 rfl];refine Iq (fun q3=>?_) fun q3=>?_
 ·have q3:((8*W.length:Nat):Int)≤(at3:Int):=odt q3;rw [if_pos (by omega)] at hsym;rw [hsym] at hrun;exact none' hf hrun
 have q3:¬((8*W.length:Nat):Int)≤(at3:Int):=odf q3;rw [if_neg (by omega)] at hsym;refine rBit_ok (rdW hf) rfl (by omega) (by omega) ?_;have hbit:=bitN_le W at3;have hpw:(2:Nat)^(ln-1)≤2^14:=Nat.pow_le_pow_right (by decide) (by omega);have hpw':(2:Nat)^14=16384:=by decide
 have hps:(2:Nat)^(ln+1-1)=2*2^(ln-1):=by
  rw [←Nat.pow_succ',show ln+1-1=(ln-1).succ by omega]
 have ew:IntKind.wrap .u32 (IntKind.wrap .u32 ((wn:Int)*2)+((bitN W at3:Nat):Int))=((2*wn+bitN W at3:Nat):Int):=by
  rw [wrap_u32,wrap_u32];omega
 have e1:w64 ((at3:Int)+1)=((at3+1:Nat):Int):=step64 (by omega);have e2:w64 ((ln:Int)+1)=((ln+1:Nat):Int):=step64 (by omega);rw [ew,e1,e2];refine rFindC_ok (rdC hf) (by omega) (fun e=>?_) fun i e hi=>?_
 ·rw [e] at hsym;refine⟨⟨k',at3+1,2*wn+bitN W at3,ln+1,rfl,rfl,rfl,by omega,rfl,by omega,by omega,by rw [hps];omega,.inl ⟨rfl,hsym⟩⟩,by omega⟩
 ·rw [e] at hsym;refine⟨⟨k',at3+1,2*wn+bitN W at3,ln+1,rfl,rfl,rfl,by omega,rfl,by omega,by omega,by rw [hps];omega,.inr ⟨i,rfl,by omega,hsym⟩⟩,by omega⟩
set_option maxRecDepth 100000
theorem go_155(b1:Sl)(at_2:Int)(most3:Int)(K:Int→Int→Wp)(w:World)(h:slx b1 1 (some at_2) none none fun s4=>callK Pg 140 [Az s4] w (.tup [Li,Li,Li]) fun n5 n6 n7 W8=>joinK [.bool] (fun k9=>ifK (n7 != 0) (k9 true W8) (k9 (decide (most3<n5)) W8)) fun t2510 W11=>ifK t2510 (K (-1) at_2 W11) (K n5 (w64 (at_2+n6)) W11)):callK Pg 150 [Az b1,Ai at_2,Ai most3] w (.tup [Li,Li]) K:=Fq (n:=(n0 .nil (n0 .nil (n0 (n0 (.mk (some [.tmp 25 Lb]) [] [1,8,9] .done .nil .nil) .nil) .nil)))) CS_ok mixed Tryz.func150 (Eq.mpr (by kernel_rfl) h)
theorem go_153(b1:Sl)(n2:Int)(K:Sl→Bool→Wp)(w:World)(h:joinK [.sl] (fun k3=>loopL [.sl,.str,Ki,Ki] (fun l5 key6 at_7 i8 W9 g4=>ifK (decide (i8<n2)) (callK Pg 150 [Az b1,Ai at_7,Ai (key6.length:Int)] W9 (.tup [Li,Li]) fun n10 n11 W12=>ifK (decide (n10<0)) (K (⟨none,0,0⟩) false W12) (callK Pg 150 [Az b1,Ai n11,Ai (w64 (1024-n10))] W12 (.tup [Li,Li]) fun n13 n14 W15=>ifK (decide (n13<0)) (K (⟨none,0,0⟩) false W15) (callK Pg 150 [Az b1,Ai n14,Ai 1024] W15 (.tup [Li,Li]) fun n16 n17 W18=>joinK [.bool] (fun k19=>ifK (decide (n16<0)) (k19 true W18) (k19 (decide (w64 ((b1.len:Int)-n17)<w64 (n13+n16))) W18)) fun t5820 W21=>ifK t5820 (K (⟨none,0,0⟩) false W21) (drawK W21 fun D W22=>ssx key6 none (some n10) fun s23=>slx b1 1 (some n17) (some (w64 (n17+n13))) none fun s24=>opF Pg (vS (convert 22 9 (LV.toV (.sl s24)))) W22 Ot fun s26 W25=>Mod D W22 W25∧s23.length+s26.length<2^62∧slx b1 1 (some (w64 (n17+n13))) (some (w64 ((w64 (n17+n13))+n16))) none fun s27=>opF Pg (vS (convert 22 9 (LV.toV (.sl s27)))) W25 Ot fun s29 W28=>al W28 161 [.str (s23++s26),.str s29] fun b30 W31=>ap W31 161 2 32 [.str [],.str []] l5 (⟨some (b30,0),1,1⟩) fun a32 W33=>g4 a32 (s23++s26) (w64 ((w64 (n17+n13))+n16)) (w64 (i8+1)) W33)))) (k3 l5 W9)) [.sl (⟨none,0,0⟩),.str [],.int .i64 0,.int .i64 0] w) fun l34 W35=>K l34 true W35):callK Pg 112 [Az b1,Ai n2] w (.tup [Ls,Lb]) K:=Fq (n:=(n0 .nil (n0 .nil (n0 .nil (n0 .nil (n0 (n0 .nil (.mk (some [.tmp 6 Ls]) [] [] .done (.mk none [.tmp 6 Ls,.tmp 7 Lt,.tmp 8 Li,.tmp 9 Li] [0,1] .done (n0 .nil (n0 (n0 (n0 .nil (n0 .nil (n0 .nil (n0 .nil (n0 .nil (n0 (n0 (.mk (some [.tmp 58 Lb]) [] [0,1,6,7,9,10,12,14,15] .done .nil .nil) .nil) (n0 (.mk none [] [] (tk [0,1,2,3,4,5,6,7,8] (.eff 9 (.take 10 (.take 11 .done)))) .nil .nil) .nil))))))) .nil) .nil)) .nil) .nil)) .nil)))))) CS_ok mixed Tryz.func112 (Eq.mpr (by kernel_rfl) h)
theorem go_154(l1:Sl)(restart2:Int)(K:Sl→Wp)(w:World)(h:joinK [.sl,.sl] (fun k3=>loopL [.sl,.sl,Ki] (fun b5 places6 i7 W8 g4=>ifK (decide (i7<(l1.len:Int))) (restart2≠0∧joinK [.sl,Ki] (fun k9=>ifK ((i7.tmod restart2)==0) (callK Pg 151 [.leaf (.int .u64 (IntKind.wrap .u64 ((b5.len:Int)))),Ai 4] W8 Oz fun a10 W11=>ap W11 5 1 1 [.int .u8 0] places6 a10 fun a12 W13=>k9 a12 0 W13) (drawK W8 fun D W14=>ix l1 2 (w64 (i7-1)) fun b15 o16=>ldD D W14 .str b15 o16 fun s17=>ix l1 2 i7 fun b18 o19=>ldD D W14 .str b18 o19 fun s20=>callK Pg 109 [Au s17,Au s20] W14 Oi fun n21 W22=>Mod D W14 W22∧k9 places6 n21 W22)) fun places23 shared24 W25=>callK Pg 143 [Ai shared24] W25 Oz fun a26 W27=>ap W27 5 1 1 [.int .u8 0] b5 a26 fun a28 W29=>ix l1 2 i7 fun b30 o31=>ld W29 .str b30 o31 fun s32=>callK Pg 143 [Ai (w64 ((s32.length:Int)-shared24))] W29 Oz fun a33 W34=>ap W34 5 1 1 [.int .u8 0] a28 a33 fun a35 W36=>ix l1 2 i7 fun b37 o38=>ld W36 .str b37 (o38+1) fun s39=>callK Pg 143 [Ai (s39.length:Int)] W36 Oz fun a40 W41=>ap W41 5 1 1 [.int .u8 0] a35 a40 fun a42 W43=>ix l1 2 i7 fun b44 o45=>ld W43 .str b44 o45 fun s46=>ssx s46 (some shared24) none fun s47=>opF Pg (vS (convert 9 22 (LV.toV (.str s47)))) W43 Oz fun a49 W48=>ap W48 5 1 1 [.int .u8 0] a42 a49 fun a50 W51=>ix l1 2 i7 fun b52 o53=>ld W51 .str b52 (o53+1) fun s54=>opF Pg (vS (convert 9 22 (LV.toV (.str s54)))) W51 Oz fun a56 W55=>ap W55 5 1 1 [.int .u8 0] a50 a56 fun a57 W58=>g4 a57 places23 (w64 (i7+1)) W58) (k3 b5 places6 W8)) [.sl (⟨none,0,0⟩),.sl (⟨none,0,0⟩),.int .i64 0] w) fun b59 places60 W61=>ap W61 5 1 1 [.int .u8 0] b59 places60 fun a62 W63=>callK Pg 151 [.leaf (.int .u64 (IntKind.wrap .u64 (restart2))),Ai 4] W63 Oz fun a64 W65=>ap W65 5 1 1 [.int .u8 0] a62 a64 fun a66 W67=>callK Pg 151 [.leaf (.int .u64 (IntKind.wrap .u64 ((l1.len:Int)))),Ai 4] W67 Oz fun a68 W69=>ap W69 5 1 1 [.int .u8 0] a66 a68 fun a70 W71=>K a70 W71):callK Pg 114 [Az l1,Ai restart2] w Oz K:=Fq (n:=(n0 .nil (n0 .nil (n0 (n0 .nil (.mk (some [.tmp 5 Ls,.tmp 6 Ls]) [] [0,1] .done (.mk none [.tmp 5 Ls,.tmp 6 Ls,.tmp 7 Li] [0,1] .done (n0 .nil (n0 (n0 (n0 .nil (n0 (n0 .nil (.mk (some [.tmp 6 Ls,.tmp 8 Li]) [] [0,1,5,7] .done .nil (.mk none [] [] (tk [0,1,2,3,4,5,6,7,8,9,10] (.eff 11 (.take 12 .done))) .nil .nil))) .nil)) .nil) .nil)) .nil) .nil)) .nil)))) CS_ok mixed Tryz.func114 (Eq.mpr (by kernel_rfl) h)
theorem go_152(b1:Sl)(K:Sl→Bool→Wp)(w:World)(h:ifK (decide ((b1.len:Int)<8)) (K (⟨none,0,0⟩) false w) (slx b1 1 (some (w64 ((b1.len:Int)-8))) (some (w64 ((b1.len:Int)-4))) none fun s2=>callK Pg 47 [Az s2] w (.one (.leaf (.int .u64))) fun n3 W4=>slx b1 1 (some (w64 ((b1.len:Int)-4))) none none fun s5=>callK Pg 47 [Az s5] W4 (.one (.leaf (.int .u64))) fun n6 W7=>joinK [.bool] (fun k8=>ifK (decide (n3<1)) (k8 true W7) (ifK (decide (64<n3)) (k8 true W7) (ifK (decide (n6<1)) (k8 true W7) (k8 (decide (IntKind.wrap .u64 ((b1.len:Int))<n6)) W7)))) fun t439 W10=>ifK t439 (K (⟨none,0,0⟩) false W10) (slx b1 1 none (some (w64 ((b1.len:Int)-8))) none fun s11=>callK Pg 112 [Az s11,Ai (w64 (n6))] W10 (.tup [Ls,Lb]) fun a12 c13 W14=>ifK (!c13) (K (⟨none,0,0⟩) false W14) (joinK [] (fun k15=>loopL [Ki] (fun i17 W18 g16=>ifK (decide (i17<(a12.len:Int))) (drawK W18 fun D W19=>ix a12 2 i17 fun b20 o21=>ldD D W19 .str b20 o21 fun s22=>ix a12 2 (w64 (i17-1)) fun b23 o24=>ldD D W19 .str b23 o24 fun s25=>callK Pg 113 [Au s22,Au s25] W19 Oi fun n26 W27=>Mod D W19 W27∧ifK (decide (n26<0)) (K (⟨none,0,0⟩) false W27) (g16 (w64 (i17+1)) W27)) (k15 W18)) [.int .i64 1] W14) fun W28=>joinK [.sl,.bool] (fun k29=>drawK W28 fun D W30=>(callK Pg 114 [Az a12,Ai (w64 (n3))] W30 Oz fun a31 W32=>Mod D W30 W32∧(opF Pg (vS (convert 22 9 (LV.toV (.sl a31)))) W32 Ot fun s34 W33=>Mod D W30 W33∧opF Pg (vS (convert 22 9 (LV.toV (.sl b1)))) W33 Ot fun s36 W35=>Mod D W30 W35∧k29 a12 (s34==s36) W35)∧(opF Pg (vS (convert 22 9 (LV.toV (.sl b1)))) W32 Ot fun s38 W37=>Mod D W30 W37∧opF Pg (vS (convert 22 9 (LV.toV (.sl a31)))) W37 Ot fun s40 W39=>Mod D W30 W39∧k29 a12 (s40==s38) W39))∧(opF Pg (vS (convert 22 9 (LV.toV (.sl b1)))) W30 Ot fun s42 W41=>Mod D W30 W41∧callK Pg 114 [Az a12,Ai (w64 (n3))] W41 Oz fun a43 W44=>Mod D W30 W44∧opF Pg (vS (convert 22 9 (LV.toV (.sl a43)))) W44 Ot fun s46 W45=>Mod D W30 W45∧k29 a12 (s46==s42) W45)) fun t247 t348 W49=>K t247 t348 W49)))):callK Pg 77 [Az b1] w (.tup [Ls,Lb]) K:=Fq (n:=(n0 .nil (n0 .nil (n0 .nil (n0 .nil (n0 (n0 (.mk (some [.tmp 43 Lb]) [] [0,4,5] .done .nil .nil) .nil) (n0 .nil (n0 .nil (n0 (n0 .nil (.mk (some []) [] [0,4,6] .done (.mk none [.tmp 8 Li] [0,4,6] .done (n0 .nil (n0 (n0 (n0 (.mk none [] [] (tk [0,1,2,3,4,5,6,7,8,9,10] (.eff 11 (.take 12 .done))) .nil .nil) .nil) .nil) .nil)) .nil) .nil)) (n0 (.mk (some [.tmp 2 Ls,.tmp 3 Lb]) [] [] (tk [0,1,2,3,6] (.two 4 (.take 9 (.two 5 (.eff 7 (.take 8 (.take 10 .done))) 7 (.eff 5 (.take 8 (.take 10 .done))))) 7 (.eff 4 (.take 9 (.eff 5 (.take 8 (.take 10 .done))))))) .nil .nil) .nil)))))))))) CS_ok mixed Tryz.func77 (Eq.mpr (by kernel_rfl) h)
theorem go_151(payload1:Sl)(flag2:Int)(raw3:Int)(K:Sl→Bool→Wp)(w:World)(h:ifK (flag2==0) (K payload1 ((payload1.len:Int)==raw3) w) (ifK (flag2==1) (callK Pg 110 [Az payload1,Ai raw3] w (.tup [Ls,Li]) fun a4 n5 W6=>K a4 (n5==0) W6) (ifK (flag2==2) (callK Pg 111 [Az payload1,Ai raw3] w (.tup [Ls,Li]) fun a7 n8 W9=>K a7 (n8==0) W9) (K (⟨none,0,0⟩) false w)))):callK Pg 76 [Az payload1,.leaf (.int .u8 flag2),Ai raw3] w (.tup [Ls,Lb]) K:=Fq (n:=.nil) CS_ok mixed Tryz.func76 (Eq.mpr (by kernel_rfl) h)
theorem go_150(tile1:Sl)(raw2:Int)(K:PA→Int→Wp)(w:World)(h:joinK [.bool] (fun k3=>ifK (decide (raw2<1)) (k3 true w) (k3 (decide (65536<raw2)) w)) fun t184 W5=>ifK t184 (K none 3 W5) (callK Pg 28 [Az tile1] W5 (.tup [Ls,Li]) fun a6 n7 W8=>ifK (n7 != 0) (K none n7 W8) (ifK ((a6.len:Int)==0) (K none 60 W8) (slx a6 1 none (some (w64 ((a6.len:Int)-1))) none fun s9=>ifK (decide (w64 (64*(s9.len:Int))<raw2)) (K none 60 W8) (ix a6 1 (w64 ((a6.len:Int)-1)) fun b10 o11=>ld W8 (.int .u8) b10 o11 fun n12=>callK Pg 76 [Az s9,.leaf (.int .u8 n12),Ai raw2] W8 (.tup [Ls,Lb]) fun a13 c14 W15=>ifK (!c14) (K none 60 W15) (callK Pg 77 [Az a13] W15 (.tup [Ls,Lb]) fun a16 c17 W18=>ifK (!c17) (K none 60 W18) (al W18 159 [.sl a16] fun b19 W20=>K (some (b19,0)) 0 W20))))))):callK Pg 55 [Az tile1,Ai raw2] w (.tup [Lp,Li]) K:=Fq (n:=(n0 .nil (n0 (n0 (.mk (some [.tmp 18 Lb]) [] [0,1] .done .nil .nil) .nil) .nil))) CS_ok mixed Tryz.func55 (Eq.mpr (by kernel_rfl) h)
def numM(b:Str)(at_ most:Nat):Option (Nat×Nat):=if (getN (b.drop at_)).2.2≠0∨most<(getN (b.drop at_)).1 then none else some ((getN (b.drop at_)).1,at_+(getN (b.drop at_)).2.1)
def entR(b:Str):Nat→Str→Nat→List (Str×Str)→Option (List (Str×Str))
 | 0,_,_,l=>some l
 | k+1,key,at_,l=>match numM b at_ key.length with
  | none=>none
  | some sh=>match numM b sh.2 (1024-sh.1) with
   | none=>none
   | some rs=>match numM b rs.2 1024 with
    | none=>none
    | some va=>if b.length-va.2<rs.1+va.1 then none else
     entR b k (key.take sh.1++(b.drop va.2).take rs.1) (va.2+rs.1+va.1) (l++[(key.take sh.1++(b.drop va.2).take rs.1,(b.drop (va.2+rs.1)).take va.1)])
theorem numM_le{b:Str}{at_ most:Nat}(h:at_≤b.length){x:Nat×Nat}(hx:numM b at_ most=some x):x.1≤most∧x.2≤b.length:=by
 unfold numM at hx;split at hx
 ·cases hx
 ·rename_i hh;cases hx;have:=getN_len (b.drop at_);rw [Lld] at this;exact⟨by show (getN _).1≤_;omega,by show at_+_≤_;omega⟩
theorem rNumberM_ok{w:World}{s:Sl}{b:Str}(hr:RdS w ET s b)(hl:b.length≤1099511627776){i j:Int}{at_ most:Nat}(hi:i=(at_:Int))(hj:j=(most:Int))(ha:at_≤b.length){K:Int→Int→Wp}
  (hN:numM b at_ most=none→K (-1) (at_:Int) w) (hS:∀x,numM b at_ most=some x→K (x.1:Int) (x.2:Int) w) :
  callK Pg c_155 [Az s,Ai i,Ai j] w (.tup [Li,Li]) K:=by
 subst hi;subst hj;refine go_155 _ _ _ _ _ ?_;refine hr.fromK ha rfl rfl fun s3 h3 _=>rGet_ok h3 (by rw [Lld];omega) ?_;have hgl:=getN_len (b.drop at_);rw [Lld] at hgl;unfold numM at hN hS;generalize getN (b.drop at_)=g at hN hS hgl ⊢;refine join1 (a:=.bool) (fun q v=>q=decide (g.2.2≠0∨most<g.1)∧v=w) (fun k hk=>Iq (fun q=>hk _ _ ⟨?_,rfl⟩) fun q=>hk _ _ ⟨?_,rfl⟩) ?_
 ·exact (Dct (.inl (by simpa using q))).symm
 ·have q:g.2.2=0:=by simpa using q
  show decide ((most:Int)<(g.1:Int))=_;rw [Bei,Det,Det];exact⟨fun h=>.inr (by omega),fun h=>by
   rcases h with h | h
   ·exact absurd q h
   ·omega⟩
 rintro q v ⟨rfl,rfl⟩;refine Iq (fun q=>?_) fun q=>?_
 ·exact hN (if_pos (odt q))
 ·have:=hS _ (if_neg (odf q));rw [show w64 ((at_:Int)+(g.2.1:Int))=((at_+g.2.1:Nat):Int) by rw [Wq (by omega) (by omega)];omega];exact this
theorem takeL{b:Str}{a c:Nat}(h:a+c≤b.length):((b.drop a).take c).length=c:=by rw [Llt,Lld];omega
set_option maxHeartbeats 2000000 in
theorem rEntries_ok{w:World}{s:Sl}{b:Str}(hr:RdS w ET s b)(hl:b.length≤1048576){n:Nat}(hn:n≤1048576){K:Sl→Bool→Wp}
  (hN:entR b n [] 0 []=none→∀w',Mod F0 w w'→K ⟨none,0,0⟩ false w') (hS:∀l,entR b n [] 0 []=some l→∀w' ro s',Fresh w w' F0 ro→VecL ro EPr s' l→K s' true w') :
  callK Pg c_153 [Az s,Ai (n:Int)] w (.tup [Ls,Lb]) K:=by
 refine go_153 _ _ _ _ ?_;generalize hT:entR b n [] 0 []=T at hN hS;refine join1 (a:=.sl) (fun (s':Sl) u=>∃ro l,T=some l∧Fresh w u F0 ro∧VecL ro EPr s' l) ?_ (by rintro s' u ⟨ro,l,e,hf,hv⟩;exact hS l e u ro s' hf hv);intro k3 hk3;refine loop4 (k1:=.sl) (k2:=.str) (k3:=Ki) (k4:=Ki) (fun (s':Sl) (key:Str) (a i:Int) u=>∃(k at_ j:Nat) (ro:BL) (l:List (Str×Str)),a=(at_:Int)∧i=(j:Int)∧j+k=n∧l.length=j∧at_≤b.length∧key.length≤1024∧Fresh w u F0 ro∧VecL ro EPr s' l∧T=entR b k key at_ l) (fun _ _ _ i _=>(n-i).toNat) (x1:=⟨none,0,0⟩) (x2:=[]) (x3:=0) (x4:=0) rfl rfl rfl rfl
  ⟨n,0,0,[],[],rfl,rfl,by simp,rfl,Nzl _,Nzl _,Fresh.start w F0,VecL.nil EPr,hT.symm⟩ ?_
 rintro s' key a i u ⟨k,at_,j,ro,l,rfl,rfl,hjk,hlj,hat,hkey,hf,hv,hrun⟩;change Str at key;refine Iq (fun q1=>?_) fun q1=>?_;rotate_left
 ·have q1:=dge q1;have:k=0:=by omega
  subst this;exact hk3 _ _ ⟨ro,l,hrun,hf,hv⟩
 have q1:=dlt q1;obtain⟨k,rfl⟩:∃j,k=j+1:=⟨k-1,by omega⟩;rw [entR] at hrun;have hru:=hr.quiet hf.mod;refine rNumberM_ok hru (by omega) rfl rfl hat (fun e=>?_) fun sh esh=>?_
 ·rw [e] at hrun;exact ifK_t rfl (hN hrun u hf.mod)
 rw [esh] at hrun;dsimp only at hrun;have h1:=numM_le hat esh;have e1:w64 (1024-(sh.1:Int))=((1024-sh.1:Nat):Int):=by rw [Wq (by omega) (by omega)];omega
 rw [e1];refine ifK_f (Dcf (by omega:¬((sh.1:Nat):Int)<0)) (rNumberM_ok hru (by omega) rfl rfl h1.2 (fun e=>?_) fun rs ers=>?_)
 ·rw [e] at hrun;exact ifK_t rfl (hN hrun u hf.mod)
 rw [ers] at hrun;dsimp only at hrun;have h2:=numM_le h1.2 ers;refine ifK_f (Dcf (by omega:¬((rs.1:Nat):Int)<0)) (rNumberM_ok hru (by omega) rfl (most:=1024) rfl h2.2 (fun e=>?_) fun va eva=>?_)
 ·rw [e] at hrun;refine join1 (a:=.bool) (fun q z=>q=true∧z=u) (fun k hk=>ifK_t rfl (hk _ _ ⟨rfl,rfl⟩)) ?_;rintro q z ⟨rfl,rfl⟩;exact ifK_t rfl (hN hrun z hf.mod)
 rw [eva] at hrun;dsimp only at hrun;have h3:=numM_le h2.2 eva;rw [hr.len];have e2:w64 ((b.length:Int)-(va.2:Int))=((b.length-va.2:Nat):Int):=by rw [Wq (by omega) (by omega)];omega
 have e3:w64 ((rs.1:Int)+(va.1:Int))=((rs.1+va.1:Nat):Int):=by rw [Wq (by omega) (by omega)];omega
 rw [e2,e3];refine join1 (a:=.bool) (fun q z=>q=decide (b.length-va.2<rs.1+va.1)∧z=u) (fun k hk=>ifK_f (Dcf (by omega:¬((va.1:Nat):Int)<0)) (hk _ _ ⟨?_,rfl⟩)) ?_
 ·show decide (((b.length-va.2:Nat):Int)<((rs.1+va.1:Nat):Int))=_;rw [Bei,Det,Det];omega
 rintro q z ⟨rfl,rfl⟩;refine Iq (fun q=>?_) fun q=>?_
 ·rw [if_pos (odt q)] at hrun;exact hN hrun z hf.mod
 have q:=odf q;rw [if_neg q] at hrun;have e4:w64 ((va.2:Int)+(rs.1:Int))=((va.2+rs.1:Nat):Int):=by rw [Wq (by omega) (by omega)];omega
 have e5:w64 (((va.2+rs.1:Nat):Int)+(va.1:Int))=((va.2+rs.1+va.1:Nat):Int):=by rw [Wq (by omega) (by omega)];omega
 rw [e4,e5];have hfd:=hf.quiet (Mq z);have hrd:=hr.quiet hfd.mod;refine⟨F0,ssx_take (n:=sh.1) h1.1 rfl (hrd.partK (n:=va.2) (m:=va.2+rs.1) (by omega) (by omega) rfl rfl rfl fun s24 h24 _=>convT h24 ⟨Mod.refl _ _,?_,?_⟩)⟩
 ·rw [Llt,Lld,Llt];omega
 have p1:(b.take (va.2+rs.1)).drop va.2=(b.drop va.2).take rs.1:=by rw [List.drop_take,Nat.add_sub_cancel_left]
 rw [p1];refine hrd.partK (n:=va.2+rs.1) (m:=va.2+rs.1+va.1) (by omega) (by omega) rfl rfl rfl fun s27 h27 _=>convT h27 ?_;have p2:(b.take (va.2+rs.1+va.1)).drop (va.2+rs.1)=(b.drop (va.2+rs.1)).take va.1:=by rw [List.drop_take,Nat.add_sub_cancel_left]
 rw [p2];have hkl:(key.take sh.1++(b.drop va.2).take rs.1).length≤1024:=by rw [Lla,Llt,takeL (by omega)];omega
 generalize key.take sh.1++(b.drop va.2).take rs.1=nk at hrun hkl ⊢;generalize (b.drop (va.2+rs.1)).take va.1=vv at hrun ⊢;refine Fresh.push (m:=[]) hfd hv (nk,vv) rfl rfl rfl (by omega) fun s5 ro5 u5 f5 v5 _=>?_;rw [step64 (by omega)];exact⟨⟨k,va.2+rs.1+va.1,j+1,ro5,l++[(nk,vv)],rfl,rfl,by omega,by simp [hlj],by omega,hkl,f5,v5,hrun⟩,by omega⟩
def sharedN(restart i:Nat)(prev:Str)(x:Str×Str):Nat:=if i%restart=0 then 0 else comN prev x.1
def entN(shared:Nat)(x:Str×Str):Str:=putN shared++putN (x.1.length-shared)++putN x.2.length++x.1.drop shared++x.2
def rawB(restart:Nat):Nat→Str→List (Str×Str)→Str→Str→Str×Str
 | _,_,[],b,p=>(b,p)
 | i,prev,x::r,b,p=>rawB restart (i+1) x.1 r (b++entN (sharedN restart i prev x) x) (if i%restart=0 then p++fixN b.length 4 else p)
def rawN(l:List (Str×Str))(restart:Nat):Str:=(rawB restart 0 [] l [] []).1++(rawB restart 0 [] l [] []).2++fixN restart 4++fixN l.length 4
theorem entN_len{s:Nat}{x:Str×Str}(h1:x.1.length≤1024)(h2:x.2.length≤1024)(hs:s≤1024):(entN s x).length≤2100:=by
 have p1:=putN_9 (v:=s) (by omega);have p2:=putN_9 (v:=x.1.length-s) (by omega);have p3:=putN_9 (v:=x.2.length) (by omega);unfold entN;simp only [Lla,Lld];omega
theorem rPutApp{w u:World}{m ro:BL}{s:Sl}{t:Str}(f:Fresh w u F0 (m++ro))(v:VecL ro ET s t){i:Int}{n:Nat}(hi:i=(n:Int))(hn:n<4611686018427387904)(hl:t.length≤549755813888){K:Sl→Wp}
  (hK:∀s' ro' u',Fresh w u' F0 (m++ro')→VecL ro' ET s' (t++putN n)→K s' u'):callK Pg c_109 [Ai i] u Oz fun a w'=>ap w' 5 1 1 [.int .u8 0] s a K:=by
 subst hi;refine rPut_ok (by omega) fun u2 ro2 s2 g2 v2=>?_;have h9:=putN_9 hn;have f2:Fresh w u2 F0 ((m++ro2)++ro):=(f.join (Fresh.of_at g2) (fun _ _ h=>h) (fun _ _ _ h=>h)).perm (by
  rw [Laa,Laa];exact Lpc.append_left m)
 refine f2.app v (v2.rd fun p hp=>f2.own p (Lml _ (Lmr _ hp))) rfl rfl (by omega) fun s3 ro3 u3 f3 v3 M3=>?_;exact hK s3 ro3 u3 (f3.sub ((Lsl m ro2).append (List.Sublist.refl _))) v3
theorem rFixApp{w u:World}{m ro:BL}{s:Sl}{t:Str}(f:Fresh w u F0 (m++ro))(v:VecL ro ET s t){i:Int}{n:Nat}(hi:i=(n:Int))(hn:n<18446744073709551616)(hl:t.length≤549755813888){K:Sl→Wp}
  (hK:∀s' ro' u',Fresh w u' F0 (m++ro')→VecL ro' ET s' (t++fixN n 4)→K s' u'):callK Pg c_112 [.leaf (.int .u64 i),Ai 4] u Oz fun a w'=>ap w' 5 1 1 [.int .u8 0] s a K:=by
 subst hi;refine rFixed_ok (n:=4) hn (by decide) (by decide) fun u2 ro2 s2 g2 v2=>?_;have h4:=fixN_length n 4;have f2:Fresh w u2 F0 ((m++ro2)++ro):=(f.join (Fresh.of_at g2) (fun _ _ h=>h) (fun _ _ _ h=>h)).perm (by
  rw [Laa,Laa];exact Lpc.append_left m)
 refine f2.app v (v2.rd fun p hp=>f2.own p (Lml _ (Lmr _ hp))) rfl rfl (by omega) fun s3 ro3 u3 f3 v3 M3=>?_;exact hK s3 ro3 u3 (f3.sub ((Lsl m ro2).append (List.Sublist.refl _))) v3
theorem rStrApp{w u:World}{m ro:BL}{s:Sl}{t x:Str}(f:Fresh w u F0 (m++ro))(v:VecL ro ET s t)(hl:t.length+x.length≤549755813888){K:Sl→Wp}
  (hK:∀s' ro' u',Fresh w u' F0 (m++ro')→VecL ro' ET s' (t++x)→K s' u'):opF Pg (vS (convert 9 t_bytes (LV.toV (.str x)))) u Oz fun a w'=>ap w' 5 1 1 [.int .u8 0] s a K:=by
 refine convS fun s2 u2 h2 M2=>?_;have f2:=f.quiet M2;exact f2.app v h2 rfl rfl (by omega) fun s3 ro3 u3 f3 v3 M3=>hK s3 ro3 u3 f3 v3
set_option maxHeartbeats 4000000 in
theorem rRaw_ok{w:World}{s:Sl}{l:List (Str×Str)}(hr:RdS w EPr s l)(hll:l.length≤1048576)(hlen:∀x∈l,x.1.length≤1024∧x.2.length≤1024){R:Nat}(hR:1≤R)(hR2:R≤64){K:Sl→Wp}
  (hK:∀w' ro s',Fresh w w' F0 ro→VecL ro ET s' (rawN l R)→K s' w') :
  callK Pg c_154 [Az s,Ai (R:Int)] w Oz K:=by
 refine go_154 _ _ _ _ ?_;unfold rawN at hK;generalize hT:rawB R 0 [] l [] []=T at hK;rw [hr.len];refine join2 (a:=.sl) (b:=.sl) (fun (b p:Sl) u=>∃rb rp,Fresh w u F0 (rp++rb)∧VecL rb ET b T.1∧VecL rp ET p T.2∧T.1.length≤2100*l.length∧T.2.length≤4*l.length) ?_ ?_;rotate_left
 ·rintro b p u ⟨rb,rp,hf,hvb,hvp,hlb,hlp⟩;refine hf.app hvb (hvp.rd fun q hq=>hf.own q (Lml _ hq)) rfl rfl (by omega) fun s2 ro2 u2 f2 v2 _=>?_;have hw1:IntKind.wrap .u64 (R:Int)=(R:Int):=by rw [wrap_u64];omega
  rw [hw1];refine rFixApp f2 v2 rfl (by omega) (by rw [Lla];omega) fun s3 ro3 u3 f3 v3=>?_;have hw2:IntKind.wrap .u64 (l.length:Int)=(l.length:Int):=by rw [wrap_u64];omega
  rw [hw2];have h4:=fixN_length R 4;refine rFixApp f3 v3 rfl (by omega) (by rw [Lla,Lla];omega) fun s4 ro4 u4 f4 v4=>?_;exact hK u4 ro4 s4 (f4.sub (Lsr _ _)) v4
 intro k3 hk3;refine loop3 (k1:=.sl) (k2:=.sl) (k3:=Ki) (fun (b p:Sl) (a:Int) u=>∃(i:Nat) (rb rp:BL) (tb tp prev:Str),a=(i:Int)∧i≤l.length∧Fresh w u F0 (rp++rb)∧VecL rb ET b tb∧VecL rp ET p tp∧(∀j x,i=j+1→l[j]? = some x→prev=x.1)∧tb.length≤2100*i∧tp.length≤4*i∧T=rawB R i prev (l.drop i) tb tp) (fun _ _ a _=>(l.length-a).toNat) (x1:=⟨none,0,0⟩) (x2:=⟨none,0,0⟩) (x3:=0) rfl rfl rfl
  ⟨0,[],[],[],[],[],rfl,Nzl _,Fresh.start w F0,VecL.nil ET,VecL.nil ET,fun j x h=>by omega,Nzl _,Nzl _,hT.symm⟩ ?_
 rintro b p a u ⟨i,rb,rp,tb,tp,prev,rfl,hi,hf,hvb,hvp,hprev,hlb,hlp,hrun⟩;change Sl at b;change Sl at p;refine Iq (fun q1=>?_) fun q1=>?_;rotate_left
 ·have q1:=dge q1;have:i=l.length:=by omega
  subst this;rw [Ldn (Nlr _),rawB] at hrun;exact hk3 _ _ _ ⟨rb,rp,hf,by rw [hrun];exact hvb,by rw [hrun];exact hvp,by rw [hrun];exact hlb,by rw [hrun];exact hlp⟩
 have q1:=dlt q1;obtain⟨x,hx⟩:=Gq q1;rw [Dg hx,rawB] at hrun;have hxl:=hlen x (Lmg hx);refine⟨by omega,?_⟩;have etm:((i:Int).tmod (R:Int))=((i%R:Nat):Int):=tmodN i R;have etm2:(((i%R:Nat):Int)==0)=decide (i%R=0):=by rw [Bei,beq_iff_eq,Det];omega
 rw [etm,etm2];refine join2 (a:=.sl) (b:=Ki) (fun (p':Sl) (sh:Int) z=>∃rp',sh=((sharedN R i prev x:Nat):Int)∧Fresh w z F0 (rp'++rb)∧VecL rp' ET p' (if i%R=0 then tp++fixN tb.length 4 else tp)) ?_ ?_
 ·intro k9 hk9;refine Iq (fun q2=>?_) fun q2=>?_
  ·have q2:=odt q2;have hw:IntKind.wrap .u64 ((b.len:Int))=(tb.length:Int):=by rw [hvb.1,wrap_u64];omega
   rw [hw];refine rFixApp (hf.perm Lpc) hvp rfl (by omega) (by omega) fun s2 ro2 u2 f2 v2=>?_;exact hk9 _ _ u2 ⟨ro2,by unfold sharedN;rw [if_pos q2];rfl,f2.perm Lpc,by rw [if_pos q2];exact v2⟩
  ·have q2:=odf q2;have hfd:=hf.quiet (Mq u);have hrd:=hr.quiet hfd.mod;obtain⟨j,rfl⟩:∃j,i=j+1:=⟨i-1,by
    have:i≠0:=fun e=>q2 (by rw [e];exact Nat.zero_mod _);omega⟩
   obtain⟨y,hy⟩:=Gq (l:=l) (i:=j) (by omega);have hpy:=hprev j y rfl hy;have hyl:=hlen y (Lmg hy);have ej:w64 (((j+1:Nat):Int)-1)=(j:Int):=by rw [Wq (by omega) (by omega)];omega
   rw [ej];refine⟨F0,hrd.ix rfl rfl hy fun b1 o1 _ hc1=>Lw (k:=.str) y.1 id (hc1 0 (by decide)) (hrd.ix rfl rfl hx fun b2 o2 _ hc2=>Lw (k:=.str) x.1 id (hc2 0 (by decide)) (rCommon_ok (by omega) fun z M=>⟨M,hk9 _ _ z ⟨rp,?_,hfd.quiet M,?_⟩⟩))⟩
   ·unfold sharedN;rw [if_neg q2,hpy]
   ·rw [if_neg q2];exact hvp
 rintro p' sh z ⟨rp',rfl,hf2,hvp'⟩;have hsh:sharedN R i prev x≤x.1.length:=by
  unfold sharedN;split
  ·exact Nzl _
  ·exact Nat.le_trans (comN_le prev x.1) (Nat.min_le_right _ _)
 have hel:=entN_len (s:=sharedN R i prev x) hxl.1 hxl.2 (by omega);have hpl:(if i%R=0 then tp++fixN tb.length 4 else tp).length≤4*(i+1):=by
  split
  ·rw [Lla,fixN_length];omega
  ·omega
 generalize (if i%R=0 then tp++fixN tb.length 4 else tp)=tp' at hrun hvp' hpl;have eent:tb++putN (sharedN R i prev x)++putN (x.1.length-sharedN R i prev x)++putN x.2.length++x.1.drop (sharedN R i prev x)++x.2=tb++entN (sharedN R i prev x) x:=by simp [entN]
 generalize sharedN R i prev x=sh at hrun hsh hel eent ⊢;have rk:∀{z:World} {L:BL} {K:Str→Prop},Fresh w z F0 L→K x.1→Go.Vw.ix s 2 (i:Int) fun b o=>Go.Vw.ld z .str b o K:=fun f hk=>(hr.quiet f.mod).ix rfl rfl hx fun b o _ hc=>Lq (k:=.str) x.1 (hc 0 (by decide)) hk;have rv:∀{z:World} {L:BL} {K:Str→Prop},Fresh w z F0 L→K x.2→Go.Vw.ix s 2 (i:Int) fun b o=>Go.Vw.ld z .str b (o+1) K:=fun f hk=>(hr.quiet f.mod).ix rfl rfl hx fun b o _ hc=>Lq (k:=.str) x.2 (hc 1 (by decide)) hk;have p1:=putN_9 (v:=sh) (by omega);have p2:=putN_9 (v:=x.1.length-sh) (by omega);have p3:=putN_9 (v:=x.2.length) (by omega);have htb:tb.length≤2202009600:=by omega
 refine rPutApp hf2 hvb rfl (by omega) (by omega) fun s3 ro3 u3 f3 v3=>rk f3 ?_;have ew:w64 ((x.1.length:Int)-(sh:Int))=((x.1.length-sh:Nat):Int):=by rw [Wq (by omega) (by omega)];omega
 rw [ew];refine rPutApp f3 v3 rfl (by omega) (by simp only [Lla];omega) fun s4 ro4 u4 f4 v4=>rv f4 ?_;refine rPutApp f4 v4 rfl (by omega) (by simp only [Lla];omega) fun s5 ro5 u5 f5 v5=>rk f5 (ssx_drop hsh rfl ?_);refine rStrApp f5 v5 (by simp only [Lla,Lld];omega) fun s6 ro6 u6 f6 v6=>rv f6 ?_;refine rStrApp f6 v6 (by simp only [Lla,Lld];omega) fun s7 ro7 u7 f7 v7=>?_;rw [eent] at v7;rw [step64 (by omega)];refine⟨⟨i+1,ro7,rp',_,_,x.1,rfl,q1,f7,v7,hvp',fun j y h hy=>?_,by rw [Lla];omega,hpl,hrun⟩,by omega⟩;have:j=i:=by omega
 subst this;rw [hx] at hy;cases hy;rfl
def adjN:List (Str×Str)→Bool
 | x::y::r=>!decide (cmpN y.1 x.1<0)&&adjN (y::r)
 | _=>true
def parseR(b:Str):Option (List (Str×Str)):=
 if b.length<8 then none else
 if wordN ((b.take (b.length-4)).drop (b.length-8))<1∨64<wordN ((b.take (b.length-4)).drop (b.length-8))∨wordN (b.drop (b.length-4))<1∨b.length<wordN (b.drop (b.length-4)) then none else
 match entR (b.take (b.length-8)) (wordN (b.drop (b.length-4))) [] 0 [] with
 | none=>none
 | some l=>if adjN l=false then none else if rawN l (wordN ((b.take (b.length-4)).drop (b.length-8)))=b then some l else none
def textR(flag:Nat)(p:Str)(raw:Int):Option Str:=if flag=0 then (if (p.length:Int)=raw then some p else none) else if flag=1 then lzR p raw else if flag=2 then huffR p raw else none
def blockR(tile:Str)(raw:Int):Int×Option (List (Str×Str)):=
 if raw<1∨65536<raw then (3,none) else
 if (openB tile).1≠0 then ((openB tile).1,none) else
 if (openB tile).2.length=0 then (60,none) else
 if 64*(((openB tile).2.length-1:Nat):Int)<raw then (60,none) else
 match textR ((openB tile).2.getD ((openB tile).2.length-1) 0).toNat ((openB tile).2.take ((openB tile).2.length-1)) raw with
 | none=>(60,none)
 | some t=>match parseR t with
  | none=>(60,none)
  | some l=>(0,some l)
theorem entR_len{b:Str}:∀(k:Nat) (key:Str) (at_:Nat) (l:List (Str×Str)) {r:List (Str×Str)},entR b k key at_ l=some r→key.length≤1024→at_≤b.length→(∀x∈l,x.1.length≤1024∧x.2.length≤1024)→r.length=l.length+k∧∀x∈r,x.1.length≤1024∧x.2.length≤1024
 | 0,_,_,l,r,h,_,_,hl=>by cases h;exact⟨rfl,hl⟩
 | k+1,key,at_,l,r,h,hk,ha,hl=>by
  rw [entR] at h;split at h
  ·cases h
  rename_i sh esh;split at h
  ·cases h
  rename_i rs ers;split at h
  ·cases h
  rename_i va eva;split at h
  ·cases h
  rename_i hq;have h1:=numM_le ha esh;have h2:=numM_le h1.2 ers;have h3:=numM_le h2.2 eva;have hkl:(key.take sh.1++(b.drop va.2).take rs.1).length≤1024:=by rw [Lla,Llt,takeL (by omega)];omega
  have hvl:((b.drop (va.2+rs.1)).take va.1).length≤1024:=by rw [takeL (by omega)];omega
  have:=entR_len k _ _ _ h hkl (by omega) (fun x hx=>by
   rcases Lma.1 hx with hx | hx
   ·exact hl x hx
   ·rw [Lms.1 hx];exact⟨hkl,hvl⟩)
  refine⟨?_,this.2⟩;rw [this.1,Lla,List.length_singleton];omega
theorem adjN_get:∀{l:List (Str×Str)},adjN l=true↔∀i x y,l[i]? = some x→l[i+1]? = some y→¬cmpN y.1 x.1<0
 | []=>⟨fun _ i x y h=>by simp at h,fun _=>rfl⟩
 | [z]=>⟨fun _ i x y h h2=>by simp at h2,fun _=>rfl⟩
 | x::y::r=>by
  rw [adjN,Bat,Bool.not_eq_true',decide_eq_false_iff_not,adjN_get (l:=y::r)];constructor
  ·rintro ⟨h1,h2⟩ i a b ha hb
   cases i with
   | zero=>simp at ha hb;subst ha;subst hb;exact h1
   | succ i=>exact h2 i a b (by simpa using ha) (by simpa using hb)
  ·intro h;exact⟨h 0 x y rfl rfl,fun i a b ha hb=>h (i+1) a b (by simpa using ha) (by simpa using hb)⟩
theorem wordN_8(t:Str):wordN t<18446744073709551616:=by
 have h:=wordF_lt (t.take 8);have h2:(t.take 8).length≤8:=by rw [Llt];omega
 have h3:256^(t.take 8).length≤256^8:=Nat.pow_le_pow_right (by decide) h2;exact Nat.lt_of_lt_of_le h h3
set_option maxHeartbeats 2000000 in
theorem rParse_ok{w:World}{s:Sl}{b:Str}(hr:RdS w ET s b)(hl:b.length≤1048576){K:Sl→Bool→Wp}
  (hN:parseR b=none→∀s' w',Mod F0 w w'→K s' false w') (hS:∀l,parseR b=some l→∀w' ro s',Fresh w w' F0 ro→VecL ro EPr s' l→K s' true w') :
  callK Pg c_152 [Az s] w (.tup [Ls,Lb]) K:=by
 refine go_152 _ _ _ ?_;unfold parseR at hN hS;rw [hr.len];refine Iq (fun q=>?_) fun q=>?_
 ·have q:((b.length:Nat):Int)<8:=odt q;rw [if_pos (by omega)] at hN;exact hN rfl _ w (Mod.refl _ _)
 have q:¬((b.length:Nat):Int)<8:=odf q;rw [if_neg (by omega)] at hN hS;have e8:w64 ((b.length:Int)-8)=((b.length-8:Nat):Int):=by rw [Wq (by omega) (by omega)];omega
 have e4:w64 ((b.length:Int)-4)=((b.length-4:Nat):Int):=by rw [Wq (by omega) (by omega)];omega
 rw [e8,e4];refine hr.partK (n:=b.length-8) (m:=b.length-4) (by omega) (by omega) rfl rfl rfl fun s2 h2 _=>rWord_ok h2 (by simp;omega) (hr.fromK (n:=b.length-4) (by omega) rfl rfl fun s5 h5 _=>rWord_ok h5 (by simp;omega) ?_);generalize wordN ((b.take (b.length-4)).drop (b.length-8))=R at hN hS ⊢;have hn8:=wordN_8 (b.drop (b.length-4));generalize wordN (b.drop (b.length-4))=n at hN hS hn8 ⊢;have ewl:IntKind.wrap .u64 (b.length:Int)=(b.length:Int):=by rw [wrap_u64];omega
 rw [ewl];refine join1 (a:=.bool) (fun q v=>q=decide (R<1∨64<R∨n<1∨b.length<n)∧v=w) ?_ ?_
 ·intro k hk;refine Iq (fun r1=>hk _ _ ⟨?_,rfl⟩) fun r1=>Iq (fun r2=>hk _ _ ⟨?_,rfl⟩) fun r2=>Iq (fun r3=>hk _ _ ⟨?_,rfl⟩) fun r3=>hk _ _ ⟨?_,rfl⟩
  ·have r1:((R:Nat):Int)<1:=odt r1;exact (Dct (.inl (by omega))).symm
  ·have r2:(64:Int)<((R:Nat):Int):=odt r2;exact (Dct (.inr (.inl (by omega)))).symm
  ·have r3:((n:Nat):Int)<1:=odt r3;exact (Dct (.inr (.inr (.inl (by omega))))).symm
  ·have r1:¬((R:Nat):Int)<1:=odf r1;have r2:¬(64:Int)<((R:Nat):Int):=odf r2;have r3:¬((n:Nat):Int)<1:=odf r3;show decide (((b.length:Nat):Int)<((n:Nat):Int))=_;rw [Bei,Det,Det];omega
 rintro q2 v ⟨rfl,rfl⟩;refine Iq (fun q2=>?_) fun q2=>?_
 ·rw [if_pos (odt q2)] at hN;exact hN rfl _ v (Mod.refl _ _)
 have q2:=odf q2;rw [if_neg q2] at hN hS;have en:w64 (n:Int)=(n:Int):=w64N (by omega);have eR:w64 (R:Int)=(R:Int):=w64N (by omega);rw [en,eR];refine hr.toK (n:=b.length-8) (by omega) rfl rfl fun s11 h11 _=>rEntries_ok h11 (by rw [Llt];omega) (by omega) (fun e w1 M1=>?_) fun l el w1 ro s12 f1 v1=>?_
 ·rw [e] at hN;exact ifK_t rfl (hN rfl _ w1 M1)
 rw [el] at hN hS;dsimp only at hN hS;have hel:=entR_len n [] 0 [] el (Nzl _) (Nzl _) (by simp);have hll:l.length≤1048576:=by rw [hel.1];simp;omega
 have hrl:∀{z:World},Mod F0 w1 z→RdS z EPr s12 l:=fun hM=>(v1.rd f1.own).quiet hM;refine ifK_f rfl ?_;rw [v1.1];refine join0 (fun u=>adjN l=true∧Mod F0 w1 u) ?_ ?_
 ·intro k15 hk15;refine loop1 (k:=Ki) (fun (a:Int) u=>∃i:Nat,a=((i+1:Nat):Int)∧i≤l.length∧(∀j x y,j<i→l[j]? = some x→l[j+1]? = some y→¬cmpN y.1 x.1<0)∧Mod F0 w1 u) (fun a _=>(l.length-a).toNat) (x:=1) rfl ⟨0,rfl,Nzl _,fun j x y h=>absurd h (Nat.not_lt_zero _),Mod.refl _ _⟩ ?_;rintro a u ⟨i,rfl,hi,hb,hM⟩;refine Iq (fun q3=>?_) fun q3=>?_;rotate_left
  ·have q3:=dge q3;exact hk15 u ⟨adjN_get.2 fun j x y hx hy=>hb j x y (by have:=(Les.1 hy).1;omega) hx hy,hM⟩
  have q3:=dlt q3;obtain⟨y,hy⟩:=Gq q3;obtain⟨x,hx⟩:=Gq (l:=l) (i:=i) (by omega);have hMd:=mod0 hM (Mq u);have ei:w64 (((i+1:Nat):Int)-1)=(i:Int):=by rw [Wq (by omega) (by omega)];omega
  have hyl:=hel.2 y (Lmg hy);rw [ei];refine⟨F0,(hrl hMd).ix rfl rfl hy fun b1 o1 _ hc1=>Lw (k:=.str) y.1 id (hc1 0 (by decide)) ((hrl hMd).ix rfl rfl hx fun b2 o2 _ hc2=>Lw (k:=.str) x.1 id (hc2 0 (by decide)) (rCompare_ok (by omega) fun z M=>⟨M,Iq (fun q4=>?_) fun q4=>?_⟩))⟩
  ·have q4:cmpN y.1 x.1<0:=odt q4;have hadj:adjN l=false:=by
    cases h:adjN l with
    | false=>rfl
    | true=>exact absurd q4 (adjN_get.1 h i x y hx hy)
   rw [if_pos hadj] at hN;exact hN rfl _ z (mod0 f1.mod (mod0 hMd M))
  ·have q4:¬cmpN y.1 x.1<0:=odf q4;rw [step64 (by omega)];refine⟨⟨i+1,rfl,by omega,fun j x' y' hj hx' hy'=>?_,mod0 hMd M⟩,by omega⟩;rcases Nat.lt_or_ge j i with h | h
   ·exact hb j x' y' h hx' hy'
   ·have:j=i:=by omega
    subst this;rw [hx] at hx';rw [hy] at hy';cases hx';cases hy';exact q4
 rintro u ⟨hadj,hM⟩;rw [if_neg (by rw [hadj];decide)] at hN hS;have hMd:=mod0 hM (Mq u);have hfu:=f1.quiet hMd;refine join2 (a:=.sl) (b:=.bool) (fun (s':Sl) (q:Bool) z=>s'=s12∧q=decide (rawN l R=b)∧Mod F0 u.drew z) ?_ ?_;rotate_left
 ·rintro s' q z ⟨rfl,rfl,hz⟩;by_cases h:rawN l R=b
  ·rw [if_pos h] at hS;rw [Dct h];exact hS l rfl z ro s' (hfu.quiet hz) v1
  ·rw [if_neg h] at hN;rw [Dcf h];exact hN rfl _ z (mod0 hfu.mod hz)
 intro k29 hk29;have qe:(rawN l R==b)=decide (rawN l R=b):=by rw [Bei,beq_iff_eq,Det]
 have hbr:∀{z:World},Mod F0 u.drew z→RdS z ET s b:=fun hz=>hr.quiet (mod0 hfu.mod hz);have raw:∀{K:Sl→Wp},(∀w' ro s',Fresh u.drew w' F0 ro→VecL ro ET s' (rawN l R)→K s' w')→callK Pg c_154 [Az s12,Ai (R:Int)] u.drew Oz K:=fun h=>rRaw_ok (hrl hMd) hll hel.2 (by omega) (by omega) h;refine⟨F0,?_,?_⟩
 ·refine raw fun w5 ro5 s5 f5 v5=>⟨f5.mod,?_,?_⟩
  ·exact convT (v5.rd f5.own) ⟨f5.mod,convT (hbr f5.mod) ⟨f5.mod,hk29 _ _ _ ⟨rfl,qe,f5.mod⟩⟩⟩
  ·exact convT (hbr f5.mod) ⟨f5.mod,convT (v5.rd f5.own) ⟨f5.mod,hk29 _ _ _ ⟨rfl,qe,f5.mod⟩⟩⟩
 ·exact convT (hbr (Mod.refl _ _)) ⟨Mod.refl _ _,raw fun w5 ro5 s5 f5 v5=>⟨f5.mod,convT (v5.rd f5.own) ⟨f5.mod,hk29 _ _ _ ⟨rfl,qe,f5.mod⟩⟩⟩⟩
theorem rPlain_ok{w:World}{s:Sl}{p:Str}(hr:RdS w ET s p)(hl:p.length≤1048576){flag:Nat}{raw:Int}{K:Sl→Bool→Wp}
  (hN:textR flag p raw=none→∀s' w',Mod F0 w w'→K s' false w') (hS:∀x,textR flag p raw=some x→∀w' s',Mod F0 w w'→RdS w' ET s' x→K s' true w') :
  callK Pg c_151 [Az s,.leaf (.int .u8 (flag:Int)),Ai raw] w (.tup [Ls,Lb]) K:=by
 refine go_151 _ _ _ _ _ ?_;unfold textR at hN hS;have ef:∀n:Nat,(((flag:Nat):Int)==(n:Int))=decide (flag=n):=fun n=>by rw [Bei,beq_iff_eq,Det];omega
 rw [show (((flag:Nat):Int)==0)=decide (flag=0) from ef 0,show (((flag:Nat):Int)==1)=decide (flag=1) from ef 1,show (((flag:Nat):Int)==2)=decide (flag=2) from ef 2];refine Iq (fun q=>?_) fun q=>?_
 ·rw [if_pos (odt q)] at hN hS;rw [hr.len];by_cases h:(p.length:Int)=raw
  ·rw [if_pos h] at hS;rw [show (((p.length:Nat):Int)==raw)=true by simpa using h];exact hS p rfl w s (Mod.refl _ _) hr
  ·rw [if_neg h] at hN;rw [show (((p.length:Nat):Int)==raw)=false by simpa using h];exact hN rfl s w (Mod.refl _ _)
 rw [if_neg (odf q)] at hN hS;refine Iq (fun q=>?_) fun q=>?_
 ·rw [if_pos (odt q)] at hN hS;refine rLzDecode_ok hr (by omega) (fun e er w' he M=>?_) fun x e w' ro s' f v=>?_
  ·rw [show (er==0)=false by simpa using he];exact hN e _ w' M
  ·exact hS x e w' s' f.mod (v.rd f.own)
 rw [if_neg (odf q)] at hN hS;refine Iq (fun q=>?_) fun q=>?_
 ·rw [if_pos (odt q)] at hN hS;refine rHuffDecode_ok hr (by omega) (fun e er w' he M=>?_) fun x e w' ro s' f v=>?_
  ·rw [show (er==0)=false by simpa using he];exact hN e _ w' M
  ·exact hS x e w' s' f.mod (v.rd f.own)
 ·rw [if_neg (odf q)] at hN;exact hN rfl _ w (Mod.refl _ _)
theorem expRun_len:∀(ts:List Tk) (t:Str) {x:Str},expRun ts t=some x→t.length≤65536→x.length≤65536
 | [],t,x,h,ht=>by cases h;exact ht
 | y::r,t,x,h,ht=>by
  rw [expRun] at h;split at h
  ·cases h
  split at h
  ·cases h
  ·exact expRun_len r _ h (by rw [againN_length,Lla];omega)
theorem wordsR_len{codes:List (Nat×Nat)}{w:Str}:∀(n at_:Nat) (text:Str) {x:Str×Nat},wordsR codes w n at_ text=some x→x.1.length=text.length+n
 | 0,_,text,x,h=>by cases h;rfl
 | n+1,at_,text,x,h=>by
  rw [wordsR] at h;split at h
  ·cases h
  ·rw [wordsR_len n _ _ h,Lla,List.length_singleton];omega
theorem textR_len{flag:Nat}{p:Str}{raw:Int}(hraw:raw≤65536){x:Str}(h:textR flag p raw=some x):x.length≤65536:=by
 unfold textR at h;split at h
 ·split at h
  ·cases h;omega
  ·cases h
 split at h
 ·unfold lzR at h;split at h
  ·cases h
  split at h
  ·cases h
  ·exact expRun_len _ _ h (Nzl _)
 split at h
 ·unfold huffR at h;split at h
  ·cases h
  split at h
  ·cases h
  split at h
  ·cases h
  unfold huffW at h;split at h
  ·cases h
  rename_i y hy;split at h
  ·cases h;have:=wordsR_len _ _ _ hy;rw [this];simp;omega
  ·cases h
 ·cases h
theorem rBlockOpen_ok{w:World}{s:Sl}{tile:Str}(hr:RdS w ET s tile)(hl:tile.length≤1048576){raw:Int}{K:PA→Int→Wp}
  (hN:(blockR tile raw).2=none→∀w',Mod F0 w w'→K none (blockR tile raw).1 w')
  (hS:∀l,(blockR tile raw).2=some l→∀w' b s' ro,Fresh w w' F0 ((b,[(LV.sl s').toV])::ro)→VecL ro EPr s' l→K (some (b,0)) (blockR tile raw).1 w') :
  callK Pg c_150 [Az s,Ai raw] w (.tup [Lp,Li]) K:=by
 refine go_150 _ _ _ _ ?_;refine join1 (a:=.bool) (fun q v=>q=decide (raw<1∨65536<raw)∧v=w) (fun k hk=>Iq (fun q=>hk _ _ ⟨?_,rfl⟩) fun q=>hk _ _ ⟨?_,rfl⟩) ?_
 ·exact (Dct (.inl (odt q))).symm
 ·have q:¬raw<1:=odf q;show decide (65536<raw)=_;rw [Bei,Det,Det];omega
 rintro q v ⟨rfl,rfl⟩;have e0:blockR tile raw=if raw<1∨65536<raw then (3,none) else
  if (openB tile).1≠0 then ((openB tile).1,none) else
  if (openB tile).2.length=0 then (60,none) else
  if 64*(((openB tile).2.length-1:Nat):Int)<raw then (60,none) else
  match textR ((openB tile).2.getD ((openB tile).2.length-1) 0).toNat ((openB tile).2.take ((openB tile).2.length-1)) raw with
  | none=>(60,none)
  | some t=>match parseR t with
   | none=>(60,none)
   | some l=>(0,some l):=rfl
 have no:∀{e:Int} {u:World},blockR tile raw=(e,none)→Mod F0 v u→K none e u:=fun h hM=>by
  rw [h] at hN;exact hN rfl _ hM
 generalize blockR tile raw=B at hN hS e0 no;refine Iq (fun q=>?_) fun q=>?_
 ·rw [if_pos (odt q)] at e0;exact no e0 (Mod.refl _ _)
 have q:=odf q;rw [if_neg q] at e0;refine rOpen_ok hr (by omega) fun w1 ro1 s6 h1 v1=>?_;have hol:=openB_le tile;refine Iq (fun q1=>?_) fun q1=>?_
 ·have q1:(openB tile).1≠0:=by simpa using q1
  rw [if_pos q1] at e0;exact no e0 h1.mod
 have q1:¬(openB tile).1≠0:=by simpa using q1
 rw [if_neg q1] at e0;generalize (openB tile).2=o at e0 v1 hol;rw [v1.1];refine Iq (fun q2=>?_) fun q2=>?_
 ·have q2:o.length=0:=by
   have:((o.length:Nat):Int)=0:=by simpa using q2
   omega
  rw [if_pos q2] at e0;exact no e0 h1.mod
 have q2:o.length≠0:=by
  intro e;rw [e] at q2;exact absurd q2 (by decide)
 rw [if_neg q2] at e0;have e1:w64 ((o.length:Int)-1)=((o.length-1:Nat):Int):=by rw [Wq (by omega) (by omega)];omega
 rw [e1];have hro:=v1.rdAt0 h1;refine hro.toK (n:=o.length-1) (by omega) rfl rfl fun s9 h9 _=>?_;have h9l:(o.take (o.length-1)).length=o.length-1:=by rw [Llt];omega
 have e2:w64 (64*(s9.len:Int))=64*((o.length-1:Nat):Int):=by rw [h9.len,h9l,Wq (by omega) (by omega)]
 rw [e2];refine Iq (fun q3=>?_) fun q3=>?_
 ·rw [if_pos (odt q3:64*((o.length-1:Nat):Int)<raw)] at e0;exact no e0 h1.mod
 rw [if_neg (odf q3:¬64*((o.length-1:Nat):Int)<raw)] at e0;refine byteD hro rfl (by omega:o.length-1<o.length) (rPlain_ok h9 (by omega) (fun e s' w' M=>?_) fun t et w' s' M ht=>?_)
 ·rw [e] at e0;exact ifK_t rfl (no e0 (mod0 h1.mod M))
 rw [et] at e0;dsimp only at e0;have htl:=textR_len (by omega) et;refine ifK_f rfl (rParse_ok ht (by omega) (fun e s2 w2 M2=>?_) fun l el w2 ro2 s2 f2 v2=>?_)
 ·rw [e] at e0;exact ifK_t rfl (no e0 (mod0 (mod0 h1.mod M) M2))
 rw [el] at e0;have hM:=mod0 h1.mod M;refine ifK_f rfl (f2.alK fun b19 w3 f3 _ M3=>?_);have f4:Fresh v w3 F0 ((b19,[(LV.sl s2).toV])::ro2):=by
  have:=((Fresh.none hM).join f3 (fun _ _ h=>h) (fun _ _ _ h=>h)).perm (ro':=(b19,[(LV.sl s2).toV])::ro2) (by rw [List.nil_append];exact Lpc (l₁:=[(b19,[(LV.sl s2).toV])]));exact this
 rw [e0] at hS;exact hS l rfl w3 b19 s2 ro2 f4 v2
theorem parseR_len{b:Str}{l:List (Str×Str)}(h:parseR b=some l):1≤l.length∧l.length≤b.length∧(∀x∈l,x.1.length≤1024∧x.2.length≤1024)∧adjN l=true:=by
 unfold parseR at h;split at h
 ·cases h
 split at h
 ·cases h
 rename_i hq;split at h
 ·cases h
 rename_i l' el;split at h
 ·cases h
 rename_i hadj;split at h
 ·cases h;have:=entR_len _ [] 0 [] el (Nzl _) (Nzl _) (by simp);simp only [List.length_nil,Nat.zero_add] at this;refine⟨by omega,by omega,this.2,by simpa using hadj⟩
 ·cases h
theorem blockR_len{tile:Str}{raw:Int}{l:List (Str×Str)}(h:(blockR tile raw).2=some l):1≤l.length∧l.length≤65536∧(∀x∈l,x.1.length≤1024∧x.2.length≤1024)∧adjN l=true:=by
 unfold blockR at h;split at h
 ·cases h
 rename_i hr;split at h
 ·cases h
 split at h
 ·cases h
 split at h
 ·cases h
 split at h
 ·cases h
 rename_i t ht;split at h
 ·cases h
 rename_i l' hl';cases h;have h1:=textR_len (by omega) ht;have h2:=parseR_len hl';exact⟨h2.1,by omega,h2.2.2⟩
theorem putN_pos(v:Nat):1≤(putN v).length:=by
 by_cases h:v<128
 ·rw [putN_small h];exact Nlr _
 ·rw [putN_big (by omega),Llc];omega
theorem u8_ofNat{n:Nat}(h:n<256):(UInt8.ofNat n).toNat=n:=by rw [UInt8.toNat_ofNat'];exact Nat.mod_eq_of_lt h
theorem u8_toNat(c:UInt8):UInt8.ofNat c.toNat=c:=by
 apply UInt8.toNat_inj.1;exact u8_ofNat (UInt8.toNat_lt_size c)
theorem getF_put:∀(k v i a:Nat) (r:Str),v<128^(k+1)→i+k≤8→(0<i→0<v)→getF i a (putN v++r)=(a+v*128^i,i+(putN v).length,0)
 | 0,v,i,a,r,hv,hi,h0=>by
  have hv:v<128:=by simpa using hv
  rw [putN_small hv];show getF i a (UInt8.ofNat v::r)=_;unfold getF;rw [u8_ofNat (by omega),if_neg (by omega),if_pos hv,if_neg (by omega)];rfl
 | k+1,v,i,a,r,hv,hi,h0=>by
  by_cases h:v<128
  ·rw [putN_small h];show getF i a (UInt8.ofNat v::r)=_;unfold getF;rw [u8_ofNat (by omega),if_neg (by omega),if_pos h,if_neg (by omega)];rfl
  ·rw [putN_big (by omega)];show getF i a (UInt8.ofNat (v%128+128)::(putN (v/128)++r))=_;unfold getF;rw [u8_ofNat (by omega),if_neg (by omega),if_neg (by omega),getF_put k (v/128) (i+1) _ r (by rw [Nat.div_lt_iff_lt_mul (by decide)];rw [Nat.pow_succ] at hv;exact hv) (by omega) (fun _=>by omega)];rw [Llc,Nat.pow_succ];have e:a+(v%128+128-128)*128^i+v/128*(128^i*128)=a+v*128^i:=by
    have h1:v%128+128-128=v%128:=by omega
    have h2:v*128^i=(v%128+128*(v/128))*128^i:=by rw [Nat.mod_add_div]
    rw [h1,h2,Nat.add_mul,Nat.mul_comm (128^i) 128,←Nat.mul_assoc,Nat.mul_comm (v/128) 128,Nat.add_assoc]
   rw [e,Nat.add_assoc,Nat.add_comm 1]
theorem getN_put{v:Nat}(h:v<9223372036854775808)(r:Str):getN (putN v++r)=(v,(putN v).length,0):=by
 unfold getN;rw [getF_put 8 v 0 0 r (by simpa using h) (by decide) (fun h=>absurd h (by decide))];simp
theorem getF_inv:∀(t:Str) (i a x n:Nat),getF i a t=(x,n,0)→∃v r,t=putN v++r∧x=a+v*128^i∧n=i+(putN v).length∧(0<i→0<v)
 | [],i,a,x,n,h=>by cases h
 | c::r,i,a,x,n,h=>by
  unfold getF at h;split at h
  ·cases h
  split at h
  ·rename_i h1;split at h
   ·cases h
   ·rename_i h2;cases h;refine⟨c.toNat,r,?_,rfl,by rw [putN_small h1];rfl,fun hi=>by omega⟩;rw [putN_small h1,u8_toNat];rfl
  ·rename_i h1;obtain⟨v,r',e1,e2,e3,e4⟩:=getF_inv r (i+1) _ x n h;have hc:c.toNat<256:=UInt8.toNat_lt_size c;have hv:=e4 (Nat.succ_pos _);have e5:putN ((c.toNat-128)+128*v)=c::putN v:=by
    rw [putN_big (v:=(c.toNat-128)+128*v) (by omega)];have m1:((c.toNat-128)+128*v)%128+128=c.toNat:=by omega
    have m2:((c.toNat-128)+128*v)/128=v:=by omega
    rw [m1,m2,u8_toNat]
   refine⟨(c.toNat-128)+128*v,r',?_,?_,?_,fun _=>by omega⟩
   ·rw [e5,e1];rfl
   ·rw [e2,Nat.pow_succ,Nat.add_mul,Nat.mul_comm (128^i) 128,←Nat.mul_assoc,Nat.mul_comm v 128,Nat.add_assoc]
   ·rw [e3,e5,Llc];omega
theorem getN_inv{t:Str}(h:(getN t).2.2=0):t=putN (getN t).1++t.drop (getN t).2.1∧(getN t).2.1=(putN (getN t).1).length:=by
 obtain⟨v,r,e1,e2,e3,_⟩:=getF_inv t 0 0 (getN t).1 (getN t).2.1 (by
  have:getF 0 0 t=((getN t).1,(getN t).2.1,(getN t).2.2):=rfl;rw [this,h])
 have ev:(getN t).1=v:=by rw [e2];simp
 have en:(getN t).2.1=(putN v).length:=by rw [e3];simp
 refine⟨?_,by rw [ev,en]⟩;rw [ev,en]
 conv=>lhs;rw [e1]
 rw [e1,List.drop_left]
theorem fixN_succ(v n:Nat):fixN v (n+1)=UInt8.ofNat v::fixN (v/256) n:=by
 unfold fixN;rw [List.range_succ_eq_map,List.map_cons,List.map_map];congr 1
 ·simp
 ·apply List.map_congr_left;intro i _;show UInt8.ofNat (v/256^(i+1))=UInt8.ofNat (v/256/256^i);rw [Nat.pow_succ,Nat.mul_comm,Nat.div_div_eq_div_mul]
theorem wordF_fix:∀(n v:Nat),v<256^n→wordF (fixN v n)=v
 | 0,v,h=>by
  have:v=0:=by simpa using h
  subst this;rfl
 | n+1,v,h=>by
  rw [fixN_succ];show (UInt8.ofNat v).toNat+256*wordF (fixN (v/256) n)=v;rw [wordF_fix n (v/256) (by rw [Nat.div_lt_iff_lt_mul (by decide)];rw [Nat.pow_succ] at h;exact h),UInt8.toNat_ofNat'];omega
theorem fix_word:∀t:Str,fixN (wordF t) t.length=t
 | []=>rfl
 | c::r=>by
  have hc:c.toNat<256:=UInt8.toNat_lt_size c;rw [Llc,fixN_succ];have m2:wordF (c::r)/256=wordF r:=by simp only [wordF];omega
  have m1:UInt8.ofNat (wordF (c::r))=c:=by
   apply UInt8.toNat_inj.1;rw [UInt8.toNat_ofNat'];simp only [wordF];omega
  rw [m1,m2,fix_word r]
theorem wordN_fix{v:Nat}(h:v<4294967296)(r:Str):wordN ((fixN v 4++r).take 4)=v:=by
 have h4:=fixN_length v 4;rw [List.take_append_of_le_length (by omega),Ltl (by omega)];unfold wordN;rw [Ltl (by omega)];exact wordF_fix 4 v h
theorem fix_wordN{t:Str}(h:t.length=4):fixN (wordN t) 4=t:=by
 unfold wordN;rw [Ltl (by omega)];have:=fix_word t;rw [h] at this;exact this
theorem comN_take:∀a b:Str,a.take (comN a b)=b.take (comN a b)
 | [],_=>by simp [comN]
 | x::a,[]=>by simp [comN]
 | x::a,y::b=>by
  rw [comN_cons];split
  ·rename_i h;subst h;rw [List.take_succ_cons,List.take_succ_cons,comN_take a b]
  ·rfl
theorem getF_err:∀(t:Str) (i a:Nat),(getF i a t).2.2=0∨(getF i a t).2.2=20∨(getF i a t).2.2=21
 | [],_,_=>.inr (.inl rfl)
 | c::r,i,a=>by
  unfold getF;split
  ·exact .inr (.inr rfl)
  split
  ·split
   ·exact .inr (.inr rfl)
   ·exact .inl rfl
  ·exact getF_err r (i+1) _
def Cu.fine(c:Cu):Prop:=c.e=0∨c.e=20∨c.e=21∨c.e=23
theorem num_fine{c:Cu}(h:c.fine)(m:Int):(c.num m).2.fine:=by
 unfold Cu.num;split
 ·exact h
 ·dsimp only;have:=getF_err c.left 0 0;have this:(getN c.left).2.2=0∨(getN c.left).2.2=20∨(getN c.left).2.2=21:=this;generalize getN c.left=g at this ⊢;unfold Cu.go Cu.fine;by_cases hm:g.2.2=0∧m<(g.1:Int)
  ·rw [if_pos hm,if_neg (by decide)];exact .inr (.inr (.inr rfl))
  ·rw [if_neg hm];split
   ·exact .inl rfl
   ·rename_i hne;show g.2.2=0∨g.2.2=20∨g.2.2=21∨g.2.2=23;omega
theorem take_fine{c:Cu}(h:c.fine)(n:Int):(c.take n).2.fine:=by
 unfold Cu.take;split
 ·exact h
 ·dsimp only;unfold Cu.go Cu.fine;by_cases h1:n<0
  ·rw [if_pos h1,if_neg (by decide)];exact .inr (.inr (.inr rfl))
  rw [if_neg h1];by_cases h2:(c.left.length:Int)<n
  ·rw [if_pos h2,if_neg (by decide)];exact .inr (.inl rfl)
  ·rw [if_neg h2,if_pos rfl];exact .inl rfl
theorem done_fine{c:Cu}(h:c.fine)(hd:c.done.1=0∨c.done.1=22):c.e=0:=by
 unfold Cu.done at hd;apply Classical.byContradiction;intro he;rw [if_pos he] at hd;rcases h with h | h | h | h<;>rcases hd with hd | hd<;>(dsimp only at hd;omega)
theorem num_e0{c:Cu}{m:Int}(h:(c.num m).2.e=0):c.e=0:=by
 apply Classical.byContradiction;intro he;unfold Cu.num at h;rw [if_pos he] at h;exact he h
theorem take_e0{c:Cu}{m:Int}(h:(c.take m).2.e=0):c.e=0:=by
 apply Classical.byContradiction;intro he;unfold Cu.take at h;rw [if_pos he] at h;exact he h
theorem left_at(c:Cu)(k:Nat):(Cu.mk c.b (c.at_+k) 0).left=c.left.drop k:=by unfold Cu.left;rw [List.drop_drop]
theorem num_inv{c:Cu}{m:Int}(h:(c.num m).2.e=0):∃n:Nat,(c.num m).1=(n:Int)∧(n:Int)≤m∧n<9223372036854775808∧c.left=putN n++(c.num m).2.left∧(c.num m).2=⟨c.b,c.at_+(putN n).length,0⟩:=by
 have he:=num_e0 h;have hv:=getN_val c.left;unfold Cu.num at h ⊢;rw [if_neg (by simpa using he)] at h ⊢;dsimp only at h ⊢;have hinv:=@getN_inv c.left;generalize getN c.left=g at h hv hinv ⊢;by_cases hm:g.2.2=0∧m<(g.1:Int)
 ·rw [if_pos hm] at h;unfold Cu.go at h;rw [if_neg (by decide)] at h;exact absurd h (by show ¬(23:Int)=0;decide)
 rw [if_neg hm] at h ⊢;have hg:g.2.2=0:=by
  apply Classical.byContradiction;intro hne;unfold Cu.go at h;rw [if_neg hne] at h;exact hne h
 obtain⟨h1,h2⟩:=hinv hg;have hgo:c.go g.2.1 g.2.2=⟨c.b,c.at_+(putN g.1).length,0⟩:=by unfold Cu.go;rw [if_pos hg,h2]
 rw [hgo,if_pos hg];refine⟨g.1,rfl,by omega,hv,?_,rfl⟩;rw [left_at,←h2];exact h1
theorem num_put{c:Cu}(he:c.e=0){n:Nat}(hn:n<9223372036854775808){m:Int}(hm:(n:Int)≤m){r:Str}(h:c.left=putN n++r):c.num m=((n:Int),⟨c.b,c.at_+(putN n).length,0⟩):=by
 unfold Cu.num;rw [if_neg (by simpa using he)];dsimp only;rw [h,getN_put hn];dsimp only;have hE:(if (0:Int)=0∧m<(n:Int) then (23:Int) else 0)=0:=if_neg fun h=>by omega
 rw [hE,if_pos rfl];unfold Cu.go;rw [if_pos rfl]
theorem take_inv{c:Cu}{n:Nat}(h:(c.take (n:Int)).2.e=0):c.left=(c.take (n:Int)).1++(c.take (n:Int)).2.left∧(c.take (n:Int)).1.length=n∧(c.take (n:Int)).2=⟨c.b,c.at_+n,0⟩:=by
 have he:=take_e0 h;rw [Cu.take_eq he] at h ⊢;by_cases h2:(c.left.length:Int)<(n:Int)
 ·have hE:takeE (n:Int) c.left.length=20:=by unfold takeE;rw [if_neg (by omega),if_pos h2]
  rw [hE] at h;unfold Cu.go at h;rw [if_neg (by decide)] at h;exact absurd h (by show ¬(20:Int)=0;decide)
 have hE:takeE (n:Int) c.left.length=0:=by unfold takeE;rw [if_neg (by omega),if_neg h2]
 have hgo:c.go (n:Int).toNat 0=⟨c.b,c.at_+n,0⟩:=by unfold Cu.go;rw [if_pos rfl,Itn]
 rw [hE,hgo,if_pos rfl,left_at,Itn];refine⟨(List.take_append_drop n c.left).symm,?_,rfl⟩;show (c.left.take n).length=n;rw [Llt];omega
theorem take_put{c:Cu}(he:c.e=0){s r:Str}(h:c.left=s++r):c.take (s.length:Int)=(s,⟨c.b,c.at_+s.length,0⟩):=by
 have hll:c.left.length=s.length+r.length:=by rw [h,Lla]
 have hE:takeE (s.length:Int) c.left.length=0:=by unfold takeE;rw [if_neg (by omega),if_neg (by omega)]
 rw [Cu.take_eq he,hE,if_pos rfl,Itn,h,List.take_left];unfold Cu.go;rw [if_pos rfl]
theorem nextN_inv{c:Cu}{key:Str}{restart first:Bool}{x:(Str×Str)×Cu}(hf:c.fine)(h:nextN c key restart first=some x) :
  c.left=entN (if restart=true then 0 else comN key x.1.1) x.1++x.2.left∧x.2=⟨c.b,c.at_+(entN (if restart=true then 0 else comN key x.1.1) x.1).length,0⟩∧c.e=0:=by
 unfold nextN at h;dsimp only at h;split at h
 ·cases h
 rename_i hd;have hd:=Decidable.not_not.1 hd;have hfin:=take_fine (take_fine (num_fine (num_fine (num_fine hf 1024) 1024) 1024) ((c.num 1024).2.num 1024).1) (((c.num 1024).2.num 1024).2.num 1024).1;have e5:=done_fine hfin hd;have e4:=take_e0 e5;have e3:=take_e0 e4;have e2:=num_e0 e3;have e1:=num_e0 e2;have e0:=num_e0 e1;obtain⟨a,ha,ham,_,hal,hac⟩:=num_inv e1;rw [ha] at h;generalize (c.num 1024).2=c1 at *;obtain⟨b,hb,hbm,_,hbl,hbc⟩:=num_inv e2;rw [hb] at h e4 e5 hd hfin;generalize (c1.num 1024).2=c2 at *;obtain⟨d,hdd,hdm,_,hdl,hdc⟩:=num_inv e3;rw [hdd] at h e5 hd hfin;generalize (c2.num 1024).2=c3 at *;obtain⟨hr1,hr2,hr3⟩:=take_inv e4;generalize c3.take (b:Int)=r at *;obtain⟨hv1,hv2,hv3⟩:=take_inv e5;generalize r.2.take (d:Int)=v at *;split at h
 ·cases h
 rename_i hq1;split at h
 ·cases h
 rename_i hq2;cases h;rw [Itn] at hq2 ⊢;have hal':a≤key.length:=by
  apply Classical.byContradiction;intro hn;exact hq1 (.inr (.inl (by omega)))
 have hkl:(key.take a).length=a:=by rw [Llt];omega
 have hsh:(if restart=true then 0 else comN key (key.take a++r.1))=a:=by
  cases restart with
  | true=>
   rw [if_pos rfl];apply Classical.byContradiction;intro hn;exact hq1 (.inl ⟨rfl,by omega⟩)
  | false=>
   rw [if_neg (by decide)];apply Classical.byContradiction;intro hn;exact hq2 (.inr ⟨rfl,by omega⟩)
 have hd1:(key.take a++r.1).drop a=r.1:=by rw [List.drop_append_of_le_length (by omega),Ldn (by omega),List.nil_append]
 have hd2:(key.take a++r.1).length-a=b:=by rw [Lla,hkl,hr2];omega
 have hent:entN a (key.take a++r.1,v.1)=putN a++putN b++putN d++r.1++v.1:=by
  unfold entN;dsimp only;rw [hd1,hd2,hv2]
 rw [hsh,hent];refine⟨?_,?_,e0⟩
 ·rw [hal,hbl,hdl,hr1,hv1];simp
 ·rw [hv3,hr3,hdc,hbc,hac];simp only [Lla,hr2,hv2];show Cu.mk _ _ _=Cu.mk _ _ _;congr 1;omega
theorem nextN_put{c:Cu}{key:Str}{restart first:Bool}{x:Str×Str}{r:Str}(he:c.e=0)(h1:x.1.length≤1024)(h2:x.2.length≤1024)(hord:first=false→0≤cmpN x.1 key)(hk:restart=false→True)
  (h:c.left=entN (if restart=true then 0 else comN key x.1) x++r):nextN c key restart first=some (x,⟨c.b,c.at_+(entN (if restart=true then 0 else comN key x.1) x).length,0⟩):=by
 have hsh:(if restart=true then 0 else comN key x.1)≤x.1.length∧(if restart=true then 0 else comN key x.1)≤key.length∧key.take (if restart=true then 0 else comN key x.1)=x.1.take (if restart=true then 0 else comN key x.1):=by
  cases restart with
  | true=>exact⟨Nzl _,Nzl _,rfl⟩
  | false=>
   have:=comN_le key x.1;exact⟨by show comN key x.1≤_;omega,by show comN key x.1≤_;omega,comN_take key x.1⟩
 have hrs:∀{s:Nat},s=(if restart=true then 0 else comN key x.1)→(restart=true→s=0)∧(restart=false→comN key x.1=s):=fun e=>by
  subst e
  cases restart with
  | true=>exact⟨fun _=>rfl,fun h=>(by cases h)⟩
  | false=>exact⟨fun h=>(by cases h),fun _=>rfl⟩
 obtain⟨hrs1,hrs2⟩:=hrs rfl;generalize (if restart=true then 0 else comN key x.1)=s at h hsh hrs1 hrs2 ⊢;unfold entN at h;have q1:=num_put (c:=c) he (n:=s) (by omega) (m:=1024) (by omega) (r:=putN (x.1.length-s)++putN x.2.length++x.1.drop s++x.2++r) (by rw [h];simp);have l1:(Cu.mk c.b (c.at_+(putN s).length) 0).left=putN (x.1.length-s)++(putN x.2.length++x.1.drop s++x.2++r):=by rw [left_at,h];simp
 have q2:=num_put (c:=⟨c.b,c.at_+(putN s).length,0⟩) rfl (n:=x.1.length-s) (by omega) (m:=1024) (by omega) l1;have l2:(Cu.mk c.b (c.at_+(putN s).length+(putN (x.1.length-s)).length) 0).left=putN x.2.length++(x.1.drop s++x.2++r):=by
  have:=left_at (Cu.mk c.b (c.at_+(putN s).length) 0) (putN (x.1.length-s)).length;rw [l1] at this;rw [show (Cu.mk c.b (c.at_+(putN s).length+(putN (x.1.length-s)).length) 0).left=_ from this];simp
 have q3:=num_put (c:=⟨c.b,c.at_+(putN s).length+(putN (x.1.length-s)).length,0⟩) rfl (n:=x.2.length) (by omega) (m:=1024) (by omega) l2;have l3:(Cu.mk c.b (c.at_+(putN s).length+(putN (x.1.length-s)).length+(putN x.2.length).length) 0).left=x.1.drop s++(x.2++r):=by
  have:=left_at (Cu.mk c.b (c.at_+(putN s).length+(putN (x.1.length-s)).length) 0) (putN x.2.length).length;rw [l2] at this;rw [show (Cu.mk c.b (c.at_+(putN s).length+(putN (x.1.length-s)).length+(putN x.2.length).length) 0).left=_ from this];simp
 have hdl:(x.1.drop s).length=x.1.length-s:=by rw [Lld]
 have q4:=take_put (c:=⟨c.b,c.at_+(putN s).length+(putN (x.1.length-s)).length+(putN x.2.length).length,0⟩) rfl l3;rw [hdl] at q4;have l4:(Cu.mk c.b (c.at_+(putN s).length+(putN (x.1.length-s)).length+(putN x.2.length).length+(x.1.length-s)) 0).left=x.2++r:=by
  have:=left_at (Cu.mk c.b (c.at_+(putN s).length+(putN (x.1.length-s)).length+(putN x.2.length).length) 0) (x.1.length-s);rw [l3] at this;rw [show (Cu.mk c.b (c.at_+(putN s).length+(putN (x.1.length-s)).length+(putN x.2.length).length+(x.1.length-s)) 0).left=_ from this];rw [←hdl,List.drop_left]
 have q5:=take_put (c:=⟨c.b,c.at_+(putN s).length+(putN (x.1.length-s)).length+(putN x.2.length).length+(x.1.length-s),0⟩) rfl l4;have hkx:key.take s++x.1.drop s=x.1:=by rw [hsh.2.2,List.take_append_drop]
 unfold nextN;dsimp only;rw [q1];dsimp only;rw [q2];dsimp only;rw [q3];dsimp only;rw [q4];dsimp only;rw [q5];dsimp only;rw [Itn,hkx];have hdone:∀(b:Str) (n:Nat),(Cu.mk b n 0).done.1=0∨(Cu.mk b n 0).done.1=22:=fun b n=>by
  unfold Cu.done;rw [if_neg (fun h=>h rfl)];split
  ·exact .inr rfl
  ·exact .inl rfl
 rw [if_neg (fun h=>h (hdone _ _)),if_neg,if_neg]
 ·congr 2;show Cu.mk _ _ _=Cu.mk _ _ _;congr 1;unfold entN;simp only [Lla,hdl];omega
 ·rintro (⟨h1,h2⟩ | ⟨h1,h2⟩)
  ·have:=hord h1;omega
  ·exact h2 (by rw [hrs2 h1])
 ·rintro (⟨h1,h2⟩ | h1 | h1)
  ·exact h2 (by rw [hrs1 h1];rfl)
  ·omega
  ·omega
def bytesL(R:Nat):Nat→Str→List (Str×Str)→Str
 | _,_,[]=>[]
 | i,prev,x::r=>entN (sharedN R i prev x) x++bytesL R (i+1) x.1 r
def placesL(R:Nat):Nat→Str→Nat→List (Str×Str)→Str
 | _,_,_,[]=>[]
 | i,prev,off,x::r=>(if i%R=0 then fixN off 4 else [])++placesL R (i+1) x.1 (off+(entN (sharedN R i prev x) x).length) r
theorem rawB_eq(R:Nat):∀(l:List (Str×Str)) (i:Nat) (prev b p:Str),rawB R i prev l b p=(b++bytesL R i prev l,p++placesL R i prev b.length l)
 | [],i,prev,b,p=>by simp [rawB,bytesL,placesL]
 | x::r,i,prev,b,p=>by
  rw [rawB,rawB_eq R r,bytesL,placesL,Lla];by_cases h:i%R=0
  ·rw [if_pos h,if_pos h,Laa,Laa]
  ·rw [if_neg h,if_neg h,Laa,List.nil_append]
theorem rawN_eq(l:List (Str×Str))(R:Nat):rawN l R=bytesL R 0 [] l++placesL R 0 [] 0 l++fixN R 4++fixN l.length 4:=by
 unfold rawN;rw [rawB_eq];simp
def cntP(R i:Nat):Nat:=(i+R-1)/R
theorem cntP_div{R i:Nat}(hR:1≤R)(h:i%R=0):i/R=cntP R i:=by
 unfold cntP;have h1:=Nat.div_add_mod i R;rw [h,Nat.add_zero] at h1;rw [show i+R-1=R*(i/R)+(R-1) by omega,Nat.mul_add_div (by omega),Nat.div_eq_of_lt (by omega:R-1<R),Nat.add_zero]
theorem cntP_succ{R:Nat}(hR:1≤R)(i:Nat):cntP R (i+1)=cntP R i+if i%R=0 then 1 else 0:=by
 have e1:cntP R (i+1)=i/R+1:=by
  unfold cntP;rw [show i+1+R-1=i+R by omega,Nat.add_div_right _ (by omega)]
 rw [e1];by_cases h:i%R=0
 ·rw [if_pos h,cntP_div hR h]
 ·rw [if_neg h,Nat.add_zero];unfold cntP;have h1:=Nat.div_add_mod i R;have h2:=Nat.mod_lt i (by omega:R>0);rw [show i+R-1=R*(i/R+1)+(i%R-1) by rw [Nat.mul_add];omega,Nat.mul_add_div (by omega),Nat.div_eq_of_lt (by omega:i%R-1<R),Nat.add_zero]
theorem cntP_zero{R:Nat}(hR:1≤R):cntP R 0=0:=by unfold cntP;rw [Nat.div_eq_of_lt (by omega)]
theorem placesL_len{R:Nat}(hR:1≤R):∀(l:List (Str×Str)) (i:Nat) (prev:Str) (off:Nat),(placesL R i prev off l).length+4*cntP R i=4*cntP R (i+l.length)
 | [],i,prev,off=>by simp [placesL]
 | x::r,i,prev,off=>by
  have:=placesL_len hR r (i+1) x.1 (off+(entN (sharedN R i prev x) x).length);have hs:=cntP_succ hR i;rw [placesL,Lla,Llc];rw [show i+(r.length+1)=i+1+r.length by omega,←this,hs];split
  ·rw [fixN_length];omega
  ·simp only [List.length_nil];omega
theorem bytesL_len(R:Nat):∀(l:List (Str×Str)) (i:Nat) (prev:Str),3*l.length≤(bytesL R i prev l).length
 | [],_,_=>by simp [bytesL]
 | x::r,i,prev=>by
  have:=bytesL_len R r (i+1) x.1;have p1:=putN_pos (sharedN R i prev x);have p2:=putN_pos (x.1.length-sharedN R i prev x);have p3:=putN_pos x.2.length;rw [bytesL,Lla,Llc];unfold entN;simp only [Lla];omega
theorem shared_flag(R i:Nat)(key:Str)(x:Str×Str):(if (i%R==0)=true then 0 else comN key x.1)=sharedN R i key x:=by
 unfold sharedN;by_cases h:i%R=0
 ·rw [if_pos (by simpa using h),if_pos h]
 ·rw [if_neg (by simpa using h),if_neg h]
theorem take_split{α:Type}(l:List α)(a b:Nat):l.take (a+b)=l.take a++(l.drop a).take b:=by rw [List.take_add]
def chainN:Nat→Str→List (Str×Str)→Prop
 | _,_,[]=>True
 | i,prev,x::r=>x.1.length≤1024∧x.2.length≤1024∧(i≠0→0≤cmpN x.1 prev)∧chainN (i+1) x.1 r
theorem rest_e0{c:Cu}(he:c.e=0):c.rest=c.left.length:=by unfold Cu.rest;rw [if_neg (by simpa using he)]
theorem entRun_inv{raw:Str}{fr R:Nat}(hR:1≤R):∀(k i:Nat) (key:Str) (c:Cu) (l0:List (Str×Str)) {r:List (Str×Str)} {c':Cu},entRun raw fr R k i key c l0=some (r,c')→c.e=0→c.b=raw.take fr→fr≤raw.length→c.at_≤fr→fr+4*cntP R (i+k)≤raw.length →
  ∃l,r=l0++l∧l.length=k∧c.left=bytesL R i key l++c'.left∧c'=⟨c.b,c.at_+(bytesL R i key l).length,0⟩∧(raw.drop (fr+4*cntP R i)).take (placesL R i key c.at_ l).length=placesL R i key c.at_ l
 | 0,i,key,c,l0,r,c',h,he,hb,hfr,hat,hpl=>by
  cases h;refine⟨[],by simp,rfl,by simp [bytesL],?_,by simp [placesL]⟩;obtain⟨b,a,e⟩:=c;have he:e=0:=he;subst he;rfl
 | k+1,i,key,c,l0,r,c',h,he,hb,hfr,hat,hpl=>by
  rw [entRun] at h;split at h
  ·cases h
  rename_i hw;split at h
  ·cases h
  rename_i x hx;obtain⟨h1,h2,_⟩:=nextN_inv (.inl he) hx;rw [shared_flag] at h1 h2;have hcl:c.left.length=fr-c.at_:=by
   unfold Cu.left;rw [hb,Lld,Llt];omega
  have hx2l:x.2.left.length+(entN (sharedN R i key x.1) x.1).length=fr-c.at_:=by rw [←hcl,h1,Lla];omega
  have hs:=cntP_succ hR i;obtain⟨l,e1,e2,e3,e4,e5⟩:=entRun_inv hR k (i+1) x.1.1 x.2 (l0++[x.1]) h (by rw [h2]) (by rw [h2];exact hb) hfr (by rw [h2];show c.at_+(entN (sharedN R i key x.1) x.1).length≤fr;omega) (by rw [show i+1+k=i+(k+1) by omega];exact hpl);refine⟨x.1::l,by rw [e1];simp,by rw [Llc,e2],?_,?_,?_⟩
  ·rw [h1,e3,bytesL,Laa]
  ·rw [e4,h2,bytesL,Lla];show Cu.mk _ _ _=Cu.mk _ _ _;congr 1;exact Nat.add_assoc _ _ _
  ·rw [placesL];have eat:x.2.at_=c.at_+(entN (sharedN R i key x.1) x.1).length:=by rw [h2]
   rw [eat] at e5;by_cases hi:i%R=0
   ·rw [if_pos hi] at hs ⊢;rw [Lla,fixN_length,take_split,List.drop_drop];have e6:fr+4*cntP R i+4=fr+4*cntP R (i+1):=by omega
    rw [e6,e5];congr 1;have hw2:wordN ((raw.take (fr+4*(i/R)+4)).drop (fr+4*(i/R)))=fr-c.rest:=by
     apply Classical.byContradiction;intro hn;exact hw ⟨hi,hn⟩
    rw [rest_e0 he,hcl,cntP_div hR hi] at hw2;have hmon:cntP R (i+1)≤cntP R (i+(k+1)):=by
     unfold cntP;exact Nat.div_le_div_right (by omega)
    have e7:(raw.take (fr+4*cntP R i+4)).drop (fr+4*cntP R i)=(raw.drop (fr+4*cntP R i)).take 4:=by rw [List.drop_take,Nat.add_sub_cancel_left]
    rw [e7] at hw2;have hl4:((raw.drop (fr+4*cntP R i)).take 4).length=4:=by rw [Llt,Lld];omega
    rw [←fix_wordN hl4,hw2];congr 1;omega
   ·have hs2:cntP R (i+1)=cntP R i:=by rw [hs,if_neg hi];rfl
    rw [if_neg hi,List.nil_append,←hs2];exact e5
theorem entRun_put{raw:Str}{fr R:Nat}(hR:1≤R)(hraw:raw.length<4294967296):∀(l:List (Str×Str)) (i:Nat) (key:Str) (c:Cu) (l0:List (Str×Str)) (rest:Str),chainN i key l→c.e=0→c.left=bytesL R i key l++rest→c.b=raw.take fr→fr≤raw.length→c.at_≤fr→fr+4*cntP R (i+l.length)≤raw.length →
  (raw.drop (fr+4*cntP R i)).take (placesL R i key c.at_ l).length=placesL R i key c.at_ l→entRun raw fr R l.length i key c l0=some (l0++l,⟨c.b,c.at_+(bytesL R i key l).length,0⟩)
 | [],i,key,c,l0,rest,hch,he,hl,hb,hfr,hat,hpl,hp=>by
  obtain⟨b,a,e⟩:=c;have he:e=0:=he;subst he;simp [entRun,bytesL]
 | x::l,i,key,c,l0,rest,hch,he,hl,hb,hfr,hat,hpl,hp=>by
  obtain⟨c1,c2,c3,c4⟩:=hch;rw [bytesL,Laa] at hl;have hs:=cntP_succ hR i;have hcl:c.left.length=fr-c.at_:=by
   unfold Cu.left;rw [hb,Lld,Llt];omega
  have hel:(entN (sharedN R i key x) x).length≤fr-c.at_:=by rw [←hcl,hl,Lla];omega
  have hmon:cntP R (i+1)≤cntP R (i+(l.length+1)):=by
   unfold cntP;exact Nat.div_le_div_right (by omega)
  rw [Llc] at hpl
  have hn:=nextN_put (c:=c) (key:=key) (restart:=(i%R==0)) (first:=(i==0)) he c1 c2 (fun h=>c3 (by simpa using h)) (fun _=>trivial) (by rw [shared_flag];exact hl)
  rw [shared_flag] at hn;rw [Llc,entRun];have hw:¬(i%R=0∧wordN ((raw.take (fr+4*(i/R)+4)).drop (fr+4*(i/R)))≠fr-c.rest):=by
   rintro ⟨hi,hw⟩;apply hw;rw [rest_e0 he,hcl,cntP_div hR hi];have e7:(raw.take (fr+4*cntP R i+4)).drop (fr+4*cntP R i)=(raw.drop (fr+4*cntP R i)).take 4:=by rw [List.drop_take,Nat.add_sub_cancel_left]
   rw [e7];rw [placesL,if_pos hi,Lla,fixN_length,take_split] at hp;have h4:((raw.drop (fr+4*cntP R i)).take 4).length=4:=by
    rw [if_pos hi] at hs;rw [Llt,Lld];omega
   have:=List.append_inj_left hp (by rw [h4,fixN_length]);rw [this];have:=wordN_fix (v:=c.at_) (by omega) [];rw [Lan,Ltl (by rw [fixN_length];omega)] at this;rw [this];omega
  rw [if_neg hw,hn];dsimp only;have hp2:(raw.drop (fr+4*cntP R (i+1))).take (placesL R (i+1) x.1 (c.at_+(entN (sharedN R i key x) x).length) l).length=placesL R (i+1) x.1 (c.at_+(entN (sharedN R i key x) x).length) l:=by
   by_cases hi:i%R=0
   ·rw [if_pos hi] at hs;rw [placesL,if_pos hi,Lla,fixN_length,take_split,List.drop_drop] at hp;have h4:((raw.drop (fr+4*cntP R i)).take 4).length=4:=by rw [Llt,Lld];omega
    have:=List.append_inj_right hp (by rw [h4,fixN_length]);rw [show fr+4*cntP R i+4=fr+4*cntP R (i+1) by omega] at this;exact this
   ·have hs2:cntP R (i+1)=cntP R i:=by rw [hs,if_neg hi];rfl
    rw [placesL,if_neg hi,List.nil_append] at hp;rw [hs2];exact hp
  have:=entRun_put hR hraw l (i+1) x.1 ⟨c.b,c.at_+(entN (sharedN R i key x) x).length,0⟩ (l0++[x]) rest c4 rfl (by rw [left_at,hl,List.drop_left]) hb hfr (by show c.at_+(entN (sharedN R i key x) x).length≤fr;omega) (by rw [show i+1+l.length=i+(l.length+1) by omega];exact hpl) hp2;rw [this,bytesL,Lla];simp [Nat.add_assoc]
theorem numM_put{b:Str}{at_ most n:Nat}(hn:n<9223372036854775808)(hm:n≤most){r:Str}(h:b.drop at_=putN n++r):numM b at_ most=some (n,at_+(putN n).length):=by
 unfold numM;rw [h,getN_put hn];dsimp only;rw [if_neg (fun h=>by rcases h with h | h;exact h rfl;omega)]
theorem entR_put{b:Str}(R:Nat):∀(l:List (Str×Str)) (i:Nat) (key:Str) (at_:Nat) (l0:List (Str×Str)) (rest:Str),chainN i key l→key.length≤1024→b.drop at_=bytesL R i key l++rest→at_≤b.length→entR b l.length key at_ l0=some (l0++l)
 | [],i,key,at_,l0,rest,_,_,_,_=>by simp [entR]
 | x::l,i,key,at_,l0,rest,hch,hk,hd,ha=>by
  obtain⟨c1,c2,c3,c4⟩:=hch;have hsk:sharedN R i key x≤key.length∧sharedN R i key x≤x.1.length∧key.take (sharedN R i key x)=x.1.take (sharedN R i key x):=by
   unfold sharedN;split
   ·exact⟨Nzl _,Nzl _,rfl⟩
   ·have:=comN_le key x.1;exact⟨by omega,by omega,comN_take key x.1⟩
  rw [bytesL] at hd;have hdl:b.length-at_=(entN (sharedN R i key x) x++bytesL R (i+1) x.1 l++rest).length:=by rw [←hd,Lld]
  have hent:entN (sharedN R i key x) x=putN (sharedN R i key x)++putN (x.1.length-sharedN R i key x)++putN x.2.length++x.1.drop (sharedN R i key x)++x.2:=rfl;generalize sharedN R i key x=s at hd hdl hsk hent;have hel:(entN s x).length=(putN s).length+(putN (x.1.length-s)).length+(putN x.2.length).length+(x.1.length-s)+x.2.length:=by
   rw [hent];simp only [Lla,Lld]
  have hle:at_+(entN s x).length≤b.length:=by
   rw [Lla,Lla] at hdl;omega
  rw [Llc,entR];have n1:=numM_put (b:=b) (at_:=at_) (n:=s) (most:=key.length) (by omega) hsk.1 (r:=putN (x.1.length-s)++(putN x.2.length++(x.1.drop s++(x.2++(bytesL R (i+1) x.1 l++rest))))) (by rw [hd,hent];simp);have d2:b.drop (at_+(putN s).length)=putN (x.1.length-s)++(putN x.2.length++(x.1.drop s++(x.2++(bytesL R (i+1) x.1 l++rest)))):=by
   rw [←List.drop_drop,hd,hent];simp
  have n2:=numM_put (b:=b) (at_:=at_+(putN s).length) (n:=x.1.length-s) (most:=1024-s) (by omega) (by omega) d2;have d3:b.drop (at_+(putN s).length+(putN (x.1.length-s)).length)=putN x.2.length++(x.1.drop s++(x.2++(bytesL R (i+1) x.1 l++rest))):=by
   rw [←List.drop_drop,d2,List.drop_left]
  have n3:=numM_put (b:=b) (n:=x.2.length) (most:=1024) (by omega) (by omega) d3;have d4:b.drop (at_+(putN s).length+(putN (x.1.length-s)).length+(putN x.2.length).length)=x.1.drop s++(x.2++(bytesL R (i+1) x.1 l++rest)):=by
   rw [←List.drop_drop,d3,List.drop_left]
  have hdsl:(x.1.drop s).length=x.1.length-s:=by rw [Lld]
  have d5:b.drop (at_+(putN s).length+(putN (x.1.length-s)).length+(putN x.2.length).length+(x.1.length-s))=x.2++(bytesL R (i+1) x.1 l++rest):=by
   rw [←List.drop_drop,d4,←hdsl,List.drop_left]
  have d6:b.drop (at_+(putN s).length+(putN (x.1.length-s)).length+(putN x.2.length).length+(x.1.length-s)+x.2.length)=bytesL R (i+1) x.1 l++rest:=by
   rw [←List.drop_drop,d5,List.drop_left]
  rw [n1];dsimp only;rw [n2];dsimp only;rw [n3];dsimp only;rw [if_neg (by omega),d4,d5];have t1:(x.1.drop s++(x.2++(bytesL R (i+1) x.1 l++rest))).take (x.1.length-s)=x.1.drop s:=by rw [←hdsl,List.take_left]
  have t2:(x.2++(bytesL R (i+1) x.1 l++rest)).take x.2.length=x.2:=List.take_left;have t3:key.take s++x.1.drop s=x.1:=by rw [hsk.2.2,List.take_append_drop]
  rw [t1,t2,t3,entR_put R l (i+1) x.1 _ (l0++[(x.1,x.2)]) rest c4 c1 d6 (by omega)];simp
theorem adj_srt:∀{l:List (Str×Str)},srtE l→adjN l=true
 | [],_=>rfl
 | [_],_=>rfl
 | x::y::r,h=>by
  rw [adjN,Bat,Bool.not_eq_true',decide_eq_false_iff_not];have h1:=List.pairwise_cons.1 h;refine⟨fun hn=>?_,adj_srt h1.2⟩;have:=h1.1 y (Lcs ..);have:=cmpN_neg x.1 y.1;omega
theorem srt_adj:∀{l:List (Str×Str)},adjN l=true→srtE l
 | [],_=>List.Pairwise.nil
 | [x],_=>List.pairwise_singleton _ _
 | x::y::r,h=>by
  rw [adjN,Bat,Bool.not_eq_true',decide_eq_false_iff_not] at h;have ih:=srt_adj h.2;have hxy:cmpN x.1 y.1≤0:=by have:=cmpN_neg x.1 y.1;omega
  refine List.pairwise_cons.2 ⟨fun z hz=>?_,ih⟩;rcases List.mem_cons.1 hz with rfl | hz
  ·exact hxy
  ·exact cmpN_le hxy ((List.pairwise_cons.1 ih).1 z hz)
theorem chain_srt:∀(l:List (Str×Str)) (i:Nat) (prev:Str),srtE l→(∀x∈l,x.1.length≤1024∧x.2.length≤1024)→(i≠0→∀x∈l,cmpN prev x.1≤0)→chainN i prev l
 | [],_,_,_,_,_=>trivial
 | x::r,i,prev,h,hl,hp=>by
  have h1:=List.pairwise_cons.1 h;refine⟨(hl x (Lcs ..)).1,(hl x (Lcs ..)).2,fun hi=>?_,chain_srt r (i+1) x.1 h1.2 (fun y hy=>hl y (Lmc _ hy)) fun _ y hy=>h1.1 y hy⟩;have:=hp hi x (Lcs ..);have:=cmpN_neg prev x.1;omega
theorem parsed_raw{raw:Str}{R:Nat}{l:List (Str×Str)}(h:parsedN raw=some (R,l)):rawN l R=raw∧wordN ((raw.take (raw.length-4)).drop (raw.length-8))=R∧wordN (raw.drop (raw.length-4))=l.length∧8≤raw.length:=by
 unfold parsedN at h;dsimp only at h;split at h
 ·cases h
 rename_i h8;split at h
 ·cases h
 rename_i hq;split at h
 ·cases h
 rename_i hfr;split at h
 ·cases h
 rename_i y hy;split at h
 ·cases h
 rename_i hd;cases h;have i1:raw.length-8+4=raw.length-4:=by omega
 rw [i1] at hy hq hfr ⊢;generalize hR:wordN ((raw.take (raw.length-4)).drop (raw.length-8))=R at hq hfr hy ⊢;generalize hn:wordN (raw.drop (raw.length-4))=n at hq hfr hy ⊢;obtain⟨r,c'⟩:=y;have hR1:1≤R:=by omega
 have hcp:(n+R-1)/R=cntP R n:=rfl;rw [hcp] at hfr hy;obtain⟨l,e1,e2,e3,e4,e5⟩:=entRun_inv hR1 n 0 [] _ [] hy rfl rfl (by omega) (Nzl _) (by rw [Nat.zero_add];omega);rw [List.nil_append] at e1;subst e1;have hd:c'.done.1=0:=by simpa using hd
 have hce:c'.e=0:=by rw [e4]
 have hleft:c'.left=[]:=by
  unfold Cu.done at hd;rw [if_neg (by simpa using hce)] at hd;split at hd
  ·cases hd
  ·unfold Cu.left;exact Ldn (by omega)
 rw [hleft,Lan] at e3;have e3:raw.take (raw.length-8-4*cntP R n)=bytesL R 0 [] r:=e3;rw [cntP_zero hR1,Nat.mul_zero,Nat.add_zero] at e5;have e5:(raw.drop (raw.length-8-4*cntP R n)).take (placesL R 0 [] 0 r).length=placesL R 0 [] 0 r:=e5;have hpl:=placesL_len hR1 r 0 [] 0;rw [cntP_zero hR1,Nat.zero_add,e2] at hpl;have hpl:(placesL R 0 [] 0 r).length=4*cntP R n:=by omega
 refine⟨?_,rfl,e2.symm,by omega⟩;rw [rawN_eq,e2];have f1:fixN R 4=(raw.take (raw.length-4)).drop (raw.length-8):=by
  rw [←hR];exact fix_wordN (by rw [Lld,Llt];omega)
 have f2:fixN n 4=raw.drop (raw.length-4):=by
  rw [←hn];exact fix_wordN (by rw [Lld];omega)
 rw [f1,f2,←e3,←e5,hpl];have s1:raw.take (raw.length-8-4*cntP R n)++(raw.drop (raw.length-8-4*cntP R n)).take (4*cntP R n)=raw.take (raw.length-8):=by
  rw [←take_split];congr 1;omega
 have s2:raw.take (raw.length-8)++(raw.take (raw.length-4)).drop (raw.length-8)=raw.take (raw.length-4):=by
  have:raw.take (raw.length-8)=(raw.take (raw.length-4)).take (raw.length-8):=by rw [List.take_take];congr 1;omega
  rw [this,List.take_append_drop]
 rw [s1,s2,List.take_append_drop]
theorem raw_parsed{l:List (Str×Str)}{R:Nat}(hR:1≤R)(hR2:R≤64)(hl:1≤l.length)(hch:chainN 0 [] l)(hlen:(rawN l R).length<4294967296):parsedN (rawN l R)=some (R,l):=by
 have hpl:=placesL_len hR l 0 [] 0;rw [cntP_zero hR,Nat.zero_add] at hpl;have hpl:(placesL R 0 [] 0 l).length=4*cntP R l.length:=by omega
 have hbl:=bytesL_len R l 0 [];have e:=rawN_eq l R;generalize rawN l R=raw at hlen e ⊢;have f4:=fixN_length R 4;have n4:=fixN_length l.length 4;have hrl:raw.length=(bytesL R 0 [] l).length+4*cntP R l.length+8:=by rw [e];simp only [Lla,hpl,f4,n4]
 have w1:(raw.take (raw.length-8+4)).drop (raw.length-8)=fixN R 4:=by
  rw [List.drop_take,Nat.add_sub_cancel_left];have:raw.drop (raw.length-8)=fixN R 4++fixN l.length 4:=by
   rw [e,Laa];exact List.drop_left' (by simp only [Lla,hpl,f4,n4];omega)
  rw [this,List.take_left' f4]
 have w2:raw.drop (raw.length-8+4)=fixN l.length 4:=by
  rw [e];exact List.drop_left' (by simp only [Lla,hpl,f4,n4];omega)
 have v1:=wordN_fix (v:=R) (by omega) [];rw [Lan,Ltl (by omega)] at v1;have v2:=wordN_fix (v:=l.length) (by omega) [];rw [Lan,Ltl (by omega)] at v2;unfold parsedN;dsimp only;rw [w1,w2,v1,v2,if_neg (by omega),if_neg (by omega)];have hcp:(l.length+R-1)/R=cntP R l.length:=rfl;rw [hcp,if_neg (by omega)];have hfr:raw.length-8-4*cntP R l.length=(bytesL R 0 [] l).length:=by omega
 rw [hfr];have htk:raw.take (bytesL R 0 [] l).length=bytesL R 0 [] l:=by
  rw [e,Laa,Laa];exact List.take_left' rfl
 have hput:=entRun_put (raw:=raw) (fr:=(bytesL R 0 [] l).length) hR hlen l 0 [] ⟨raw.take (bytesL R 0 [] l).length,0,0⟩ [] [] hch rfl (by unfold Cu.left;rw [htk];simp) rfl (by omega) (Nzl _) (by rw [Nat.zero_add];omega) (by
  rw [cntP_zero hR,Nat.mul_zero,Nat.add_zero,e,Laa,Laa,List.drop_left' rfl];exact List.take_left' rfl)
 rw [hput];dsimp only;have hdn:(Cu.mk (raw.take (bytesL R 0 [] l).length) (0+(bytesL R 0 [] l).length) 0).done.1=0:=by
  unfold Cu.done;dsimp only;rw [if_neg (fun h=>h rfl),if_neg (by rw [htk];omega)]
 rw [if_neg (by rw [hdn];exact fun h=>h rfl),List.nil_append]
theorem parse_law{raw:Str}(hraw:raw.length<4294967296):parseR raw=(parsedN raw).map Prod.snd:=by
 cases h:parsedN raw with
 | some x=>
  obtain⟨R,l⟩:=x;obtain⟨h1,h2,h3,h8⟩:=parsed_raw h;have hs:=parsedN_srt h;have hs1:1≤R:=hs.1;have hs2:R≤64:=hs.2.1;have hs3:1≤l.length:=hs.2.2.1;have hs4:3*l.length≤raw.length:=hs.2.2.2.1;show parseR raw=some l;unfold parseR;rw [if_neg (by omega),h2,h3,if_neg (by omega)];have hch:=chain_srt l 0 [] hs.2.2.2.2.1 hs.2.2.2.2.2 (fun h=>absurd rfl h);have hen:=entR_put (b:=raw.take (raw.length-8)) R l 0 [] 0 [] (placesL R 0 [] 0 l) hch (Nzl _) (by
   rw [List.drop_zero];have hrl:raw.length-8=(bytesL R 0 [] l++placesL R 0 [] 0 l).length:=by
    have:=congrArg List.length h1;rw [rawN_eq] at this;have f1:=fixN_length R 4;have f2:=fixN_length l.length 4;rw [Lla,Lla,f1,f2] at this;omega
   have e:=rawN_eq l R;rw [h1] at e;rw [hrl]
   conv=>lhs;rw [e]
   rw [Laa];exact List.take_left' rfl) (Nzl _)
  rw [hen];dsimp only;rw [List.nil_append,if_neg (by rw [adj_srt hs.2.2.2.2.1];decide),if_pos h1]
 | none=>
  show parseR raw=none
  cases h2:parseR raw with
  | none=>rfl
  | some l=>
   exfalso;have hlen:=parseR_len h2;unfold parseR at h2;split at h2
   ·cases h2
   split at h2
   ·cases h2
   rename_i hq;split at h2
   ·cases h2
   split at h2
   ·cases h2
   split at h2
   ·rename_i hrw;cases h2;have hch:=chain_srt l 0 [] (srt_adj hlen.2.2.2) hlen.2.2.1 (fun h=>absurd rfl h);have:=raw_parsed (l:=l) (R:=wordN ((raw.take (raw.length-4)).drop (raw.length-8))) (by omega) (by omega) hlen.1 hch (by rw [hrw];exact hraw);rw [hrw,h] at this;cases this
   ·cases h2
theorem tokRun_full{b:Str}{n k at_ size:Nat}{ts:List Tk}(h1:¬size<n)(h2:at_≠b.length):tokRun b n k at_ size ts=none:=by
 cases k with
 | zero=>rfl
 | succ k=>rw [tokRun,if_pos h1,if_neg h2]
theorem num_numR{b:Str}{at_:Nat}{m:Int}(hm:m≤65536):(numR b at_=none→((Cu.mk b at_ 0).num m).2.e≠0)∧∀y,numR b at_=some y→((y.1:Int)≤m→(Cu.mk b at_ 0).num m=((y.1:Int),⟨b,y.2,0⟩))∧(m<(y.1:Int)→((Cu.mk b at_ 0).num m).2.e≠0):=by
 have hl:(Cu.mk b at_ 0).left=b.drop at_:=rfl;unfold Cu.num numR;rw [if_neg (fun h:(Cu.mk b at_ 0).e≠0=>h rfl),hl];generalize getN (b.drop at_)=g;dsimp only;by_cases hg:g.2.2=0
 ·by_cases hb:m<(g.1:Int)
  ·rw [if_pos (c:=g.2.2=0∧m<(g.1:Int)) ⟨hg,hb⟩];unfold Cu.go;rw [if_neg (by decide:¬(23:Int)=0),if_neg (by decide:¬(23:Int)=0)];refine⟨fun _=>by show (23:Int)≠0;decide,fun y h=>⟨fun hy=>?_,fun _=>by show (23:Int)≠0;decide⟩⟩;split at h
   ·cases h
   ·cases h;exfalso;have:((g.1:Nat):Int)≤m:=hy;omega
  ·rw [if_neg (fun h:g.2.2=0∧m<(g.1:Int)=>hb h.2),if_pos hg];unfold Cu.go;rw [if_pos hg,if_neg (c:=g.2.2≠0∨65536<g.1) (by rintro (h | h)<;>omega)];refine⟨fun h=>(by cases h),fun y h=>?_⟩;cases h;exact And.intro (fun _=>rfl) (fun h=>absurd h hb)
 ·rw [if_neg (fun h:g.2.2=0∧m<(g.1:Int)=>hg h.1),if_neg hg];unfold Cu.go;rw [if_neg hg,if_pos (.inl hg)];exact⟨fun _=>hg,fun y h=>(by cases h)⟩
theorem mk_rest(b:Str)(at_:Nat):(Cu.mk b at_ 0).rest=b.length-at_:=by
 unfold Cu.rest;rw [if_neg (fun h:(Cu.mk b at_ 0).e≠0=>h rfl)];exact Lld
theorem numR_end{b:Str}{at_:Nat}(h:b.length≤at_):numR b at_=none:=by
 unfold numR;rw [Ldn h];exact if_pos (.inl (by show (20:Int)≠0;decide))
theorem lzTok_e{n made:Nat}{c:Cu}(hc:c.fine)(h:lzOk n made (lzTok n made c)=true):(lzTok n made c).2.2.2.e=0:=by
 have hd:(lzTok n made c).2.2.2.done.1=0∨(lzTok n made c).2.2.2.done.1=22:=by
  unfold lzOk at h;simp only [Bat,Bool.or_eq_true,beq_iff_eq] at h;exact h.1.1.1
 refine done_fine ?_ hd;unfold lzTok;dsimp only;split
 ·exact num_fine (num_fine (take_fine (num_fine hc _) _) _) _
 ·exact take_fine (num_fine hc _) _
theorem lz_run{b:Str}{n:Nat}(hn:n≤65536):∀(k at_:Nat) (text:Str) (ts:List Tk),at_≤b.length→text.length≤n →
  (lzRun n k text ⟨b,at_,0⟩=none∧tokRun b n k at_ text.length ts=none)∨∃r x,lzRun n k text ⟨b,at_,0⟩=some x∧tokRun b n k at_ text.length ts=some (ts++r)∧expRun r text=some x∧(r=[]↔text.length=n)
 | 0,_,_,_,_,_=>.inl ⟨rfl,rfl⟩
 | k+1,at_,text,ts,ha,ht=>by
  rw [lzRun,mk_rest];by_cases h0:b.length-at_=0
  ·rw [if_pos h0];by_cases hf:text.length=n
   ·have hd:(Cu.mk b at_ 0).done.1=0:=by
     unfold Cu.done;rw [if_neg (fun h:(Cu.mk b at_ 0).e≠0=>h rfl),if_neg (by show ¬at_<b.length;omega)]
    rw [if_pos ⟨hf,hd⟩,tokRun,if_pos (by omega),if_pos (by omega)];exact .inr ⟨[],text,rfl,by rw [Lan],rfl,iff_of_true rfl hf⟩
   ·rw [if_neg (fun h=>hf h.1),tokRun,if_neg (by omega),numR_end (by omega)];exact .inl ⟨rfl,rfl⟩
  rw [if_neg h0];dsimp only;by_cases hf:text.length=n
  ·left;refine⟨if_neg fun h=>?_,tokRun_full (by omega) (by omega)⟩;have:=lzOk_spec h;omega
  have hfine:(Cu.mk b at_ 0).fine:=.inl rfl;have hlz:∀{P:Prop},(lzOk n text.length (lzTok n text.length ⟨b,at_,0⟩)=true→False)→(if lzOk n text.length (lzTok n text.length ⟨b,at_,0⟩)=true then lzRun n k (againN (lzTok n text.length ⟨b,at_,0⟩).2.1.toNat (lzTok n text.length ⟨b,at_,0⟩).2.2.1.toNat (text++(lzTok n text.length ⟨b,at_,0⟩).1)) (lzTok n text.length ⟨b,at_,0⟩).2.2.2 else none)=none:=fun h=>if_neg h;have he:=@lzTok_e n text.length ⟨b,at_,0⟩ hfine;rw [tokRun,if_neg (c:=¬text.length<n) (by omega)];obtain⟨q1,q2⟩:=@num_numR b at_ ((n:Int)-text.length) (by omega);have hterr:((Cu.mk b at_ 0).num ((n:Int)-text.length)).2.e≠0∨(((Cu.mk b at_ 0).num ((n:Int)-text.length)).2.take ((Cu.mk b at_ 0).num ((n:Int)-text.length)).1).2.e≠0→lzOk n text.length (lzTok n text.length ⟨b,at_,0⟩)=true→False:=by
   intro h1 h2;have h3:=he h2;have h4:(((Cu.mk b at_ 0).num ((n:Int)-text.length)).2.take ((Cu.mk b at_ 0).num ((n:Int)-text.length)).1).2.e=0:=by
    unfold lzTok at h3;dsimp only at h3;split at h3
    ·exact num_e0 (num_e0 h3)
    ·exact h3
   rcases h1 with h1 | h1
   ·exact h1 (take_e0 h4)
   ·exact h1 h4
  cases hnum:numR b at_ with
  | none=>exact .inl ⟨if_neg (hterr (.inl (q1 hnum))),rfl⟩
  | some l=>
   obtain⟨q3,q4⟩:=q2 l hnum;have hl:=numR_le ha hnum;dsimp only;by_cases hbad:b.length-l.2<l.1∨n<text.length+l.1
   ·rw [if_pos hbad];refine .inl ⟨if_neg (hterr ?_),rfl⟩;by_cases hb2:n<text.length+l.1
    ·exact .inl (q4 (by omega))
    ·right;rw [q3 (by omega)];dsimp only;intro h;have:=(take_inv h).1;have:=congrArg List.length this;have h9:=(take_inv h).2.1;rw [Lla,h9] at this;have e:(Cu.mk b l.2 0).left.length=b.length-l.2:=Lld;omega
   rw [if_neg hbad];have hx:=q3 (by omega);have hly:((b.drop l.2).take l.1).length=l.1:=by rw [Llt,Lld];omega
   have hy:(Cu.mk b l.2 0).take (l.1:Int)=((b.drop l.2).take l.1,⟨b,l.2+l.1,0⟩):=by
    have:=take_put (c:=Cu.mk b l.2 0) rfl (s:=(b.drop l.2).take l.1) (r:=(b.drop l.2).drop l.1) (List.take_append_drop _ _).symm;rw [hly] at this;exact this
   have htok:lzTok n text.length ⟨b,at_,0⟩=if 0<b.length-(l.2+l.1) then
     ((b.drop l.2).take l.1,((((Cu.mk b (l.2+l.1) 0).num 255).2).num ((min 32768 (text.length+l.1):Nat):Int)).1,((Cu.mk b (l.2+l.1) 0).num 255).1+4,((((Cu.mk b (l.2+l.1) 0).num 255).2).num ((min 32768 (text.length+l.1):Nat):Int)).2)
     else ((b.drop l.2).take l.1,0,0,⟨b,l.2+l.1,0⟩):=by
    unfold lzTok;dsimp only;rw [hx];dsimp only;rw [hy];dsimp only;rw [mk_rest,hly]
   by_cases hr:0<b.length-(l.2+l.1)
   ·rw [if_pos hr] at htok;by_cases hsz:text.length+l.1<n
    ·rw [if_pos hsz];obtain⟨m1,m2⟩:=@num_numR b (l.2+l.1) 255 (by decide);have hze:((Cu.mk b (l.2+l.1) 0).num 255).2.e≠0∨((((Cu.mk b (l.2+l.1) 0).num 255).2).num ((min 32768 (text.length+l.1):Nat):Int)).2.e≠0→lzOk n text.length (lzTok n text.length ⟨b,at_,0⟩)=true→False:=by
      intro h1 h2;have h3:=he h2;rw [htok] at h3;rcases h1 with h1 | h1
      ·exact h1 (num_e0 h3)
      ·exact h1 h3
     cases hm:numR b (l.2+l.1) with
     | none=>exact .inl ⟨if_neg (hze (.inl (m1 hm))),rfl⟩
     | some m=>
      obtain⟨m3,m4⟩:=m2 m hm;have hml:=numR_le (by omega) hm;dsimp only;obtain⟨d1,d2⟩:=@num_numR b m.2 ((min 32768 (text.length+l.1):Nat):Int) (by omega);by_cases hm255:(m.1:Int)≤255
      ·have hz:=m3 hm255
       cases hd:numR b m.2 with
       | none=>
        refine .inl ⟨if_neg (hze (.inr ?_)),rfl⟩;rw [hz];exact d1 hd
       | some d=>
        obtain⟨d3,d4⟩:=d2 d hd;have hdl:=numR_le hml.2 hd;dsimp only;by_cases hdd:(d.1:Int)≤((min 32768 (text.length+l.1):Nat):Int)
        ·have hu:=d3 hdd;rw [hz] at htok;dsimp only at htok;rw [hu] at htok;dsimp only at htok;by_cases hC:text.length+l.1+m.1+4≤n∧1≤d.1
         ·have hok:lzOk n text.length (lzTok n text.length ⟨b,at_,0⟩)=true:=by
           rw [htok];unfold lzOk rightT;dsimp only;rw [hly];have hdone:((Cu.mk b d.2 0).done.1==0||(Cu.mk b d.2 0).done.1==22)=true:=by
            unfold Cu.done;rw [if_neg (fun h:(Cu.mk b d.2 0).e≠0=>h rfl)];split<;>rfl
           rw [hdone,if_neg (by omega)];simp only [Bool.true_and,Bat,Det,Bool.not_eq_true',Bool.and_eq_false_iff,decide_eq_false_iff_not];exact⟨⟨by omega,by omega⟩,.inl (by omega)⟩
          have hfit:∀q,fitsN l.1 d.1 (m.1+4) text.length q=true:=fun q=>by
           unfold fitsN;rw [if_neg (by omega),Det];omega
          rw [if_pos hok,if_neg (by omega),if_pos (hfit _),htok];dsimp only;have e1:((d.1:Nat):Int).toNat=d.1:=Itn _;have e2:(((m.1:Nat):Int)+4).toNat=m.1+4:=by omega
          rw [e1,e2];have hal:(againN d.1 (m.1+4) (text++(b.drop l.2).take l.1)).length=text.length+l.1+(m.1+4):=by rw [againN_length,Lla,hly]
          have ih:=lz_run hn k d.2 (againN d.1 (m.1+4) (text++(b.drop l.2).take l.1)) (ts++[⟨(b.drop l.2).take l.1,d.1,m.1+4⟩]) hdl.2 (by omega);rw [hal] at ih;rcases ih with⟨i1,i2⟩ | ⟨r,x,i1,i2,i3,i4⟩
          ·exact .inl ⟨i1,i2⟩
          ·refine .inr ⟨⟨(b.drop l.2).take l.1,d.1,m.1+4⟩::r,x,i1,by rw [i2];simp,?_,iff_of_false (by simp) hf⟩;rw [expRun,if_neg (by dsimp only;rw [hly,hfit];decide),if_neg (by dsimp only;omega)];exact i3
         ·left;refine⟨if_neg fun h=>?_,?_⟩
          ·rw [htok] at h;unfold lzOk rightT at h;dsimp only at h;rw [hly] at h;simp only [Bat,Det] at h;have h1:=h.1.2;have h2:=h.1.1.2;rw [if_neg (by omega),Det] at h2;omega
          ·by_cases hn2:n<text.length+l.1+m.1+4
           ·exact if_pos hn2
           ·rw [if_neg hn2,if_neg];unfold fitsN;rw [if_neg (by omega),Det];omega
        ·left;refine⟨if_neg (hze (.inr ?_)),?_⟩
         ·rw [hz];exact d4 (by omega)
         ·by_cases hn2:n<text.length+l.1+m.1+4
          ·exact if_pos hn2
          ·rw [if_neg hn2,if_neg];unfold fitsN;rw [if_neg (by omega),Det];omega
      ·left;refine⟨if_neg (hze (.inl (m4 (by omega)))),?_⟩
       cases hd:numR b m.2 with
       | none=>rfl
       | some d=>
        dsimp only;by_cases hn2:n<text.length+l.1+m.1+4
        ·exact if_pos hn2
        ·rw [if_neg hn2,if_neg];unfold fitsN;rw [if_neg (by omega),Det];omega
    ·rw [if_neg hsz];left;refine⟨if_neg fun h=>?_,?_⟩
     ·have hs:=lzOk_spec h;rw [htok] at hs;dsimp only at hs;rw [hly] at hs;have hge:0≤((Cu.mk b (l.2+l.1) 0).num 255).1:=by
       unfold Cu.num;rw [if_neg (fun h:(Cu.mk b (l.2+l.1) 0).e≠0=>h rfl)];dsimp only
       repeat' split
       all_goals first | exact Int.natCast_nonneg _ | exact Int.le_refl _
      omega
     ·split
      ·exact tokRun_full (by omega) (by omega)
      ·rfl
   ·rw [if_neg hr] at htok;by_cases hsz:text.length+l.1<n
    ·rw [if_pos hsz,numR_end (by omega)];left;refine⟨if_neg fun h=>?_,rfl⟩;rw [htok] at h;unfold lzOk at h;dsimp only at h;rw [hly] at h;simp only [Bat,Bool.not_eq_true',Bool.and_eq_false_iff,decide_eq_false_iff_not] at h;rcases h.2 with h | h
     ·exact h (by simp)
     ·omega
    ·rw [if_neg hsz];have hfit:fitsN l.1 0 0 text.length (text.length+l.1==n)=true:=by
      unfold fitsN;rw [if_pos ⟨rfl,rfl⟩,Bat,beq_iff_eq,Det];omega
     have hok:lzOk n text.length (lzTok n text.length ⟨b,at_,0⟩)=true:=by
      rw [htok];unfold lzOk rightT;dsimp only;rw [hly,mk_rest,if_pos ⟨rfl,rfl⟩];have hdone:(Cu.mk b (l.2+l.1) 0).done.1=0:=by
       unfold Cu.done;rw [if_neg (fun h:(Cu.mk b (l.2+l.1) 0).e≠0=>h rfl),if_neg (by show ¬l.2+l.1<b.length;omega)]
      rw [hdone];simp only [Bat,Bool.or_eq_true,beq_iff_eq,Det,Bool.not_eq_true',Bool.and_eq_false_iff,decide_eq_false_iff_not];exact⟨⟨⟨.inl trivial,by omega,by omega⟩,by omega⟩,.inr (by omega)⟩
     rw [if_pos hfit,if_pos hok,htok];dsimp only;have e0:againN (0:Int).toNat (0:Int).toNat (text++(b.drop l.2).take l.1)=text++(b.drop l.2).take l.1:=rfl;rw [e0];have hal:(text++(b.drop l.2).take l.1).length=text.length+l.1:=by rw [Lla,hly]
     have ih:=lz_run (b:=b) hn k (l.2+l.1) (text++(b.drop l.2).take l.1) (ts++[⟨(b.drop l.2).take l.1,0,0⟩]) (by omega) (by omega);rw [hal] at ih;rcases ih with⟨i1,i2⟩ | ⟨r,x,i1,i2,i3,i4⟩
     ·exact .inl ⟨i1,i2⟩
     ·refine .inr ⟨⟨(b.drop l.2).take l.1,0,0⟩::r,x,i1,by rw [i2];simp,?_,iff_of_false (by simp) hf⟩;have hr0:r=[]:=i4.2 (by omega);subst hr0;have hq:(text.length+l.1==n)=true:=by rw [beq_iff_eq];omega
      rw [hq] at hfit;rw [expRun,if_neg (by dsimp only;rw [hly,Dct rfl,hfit];decide),if_neg (c:=65536<text.length+((b.drop l.2).take l.1).length+0) (by rw [hly];omega)];exact i3
theorem lz_law(b:Str)(n:Int):lzR b n=if n<0∨65536<n then none else lzDec b n.toNat:=by
 unfold lzR lzDec;split
 ·rfl
 rename_i h;rcases lz_run (b:=b) (n:=n.toNat) (by omega) (n.toNat+1) 0 [] [] (Nzl _) (Nzl _) with⟨h1,h2⟩ | ⟨r,x,h1,h2,h3,_⟩
 ·have h2:tokRun b n.toNat (n.toNat+1) 0 0 []=none:=h2;rw [h1,h2]
 ·have h2:tokRun b n.toNat (n.toNat+1) 0 0 []=some ([]++r):=h2;rw [h1,h2];exact h3
end Go.Proofs.YtoegpmjoajipcaaGreatDoor
