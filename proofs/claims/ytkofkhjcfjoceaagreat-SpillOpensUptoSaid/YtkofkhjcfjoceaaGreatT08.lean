/- Part T08. -/
import Derived.Test.YtkofkhjcfjoceaaGreatT03
import Derived.Test.YtkofkhjcfjoceaaGreatT07
import Derived.Conc.MuLone
namespace Go.Proofs.YtkofkhjcfjoceaaGreat
open Go.Vw
set_option maxRecDepth 100000
theorem go_186(K:PA→Wp)(w:World)(h:al w 72 [.sl (⟨none,0,0⟩),.int .i64 0,.int .i64 0,.int .i64 0] fun b1 W2=>K (some (b1,0)) W2):callK Pg 21 [] w Oq K:=Fq (n:=.nil) CS_ok mixed Tryz.func21 (Eq.mpr (by kernel_rfl) h)
theorem go_78(s1:PA)(name2:List UInt8)(K:Int→Wp)(w:World)(h:callK Pg 25 [Ap s1,Au name2] w (.tup [Li,Li]) fun n3 n4 W5=>ifK (n4==0) (K 51 W5) (ifK (n4 != 52) (K n4 W5) (joinK [Ki] (fun k6=>loopL [Ki] (fun n8 W9 g7=>joinK [.bool] (fun k10=>dr s1 fun b11 o12=>ld W9 .sl b11 o12 fun a13=>ifK (decide (n8<(a13.len:Int))) (dr s1 fun b14 o15=>ld W9 .sl b14 o15 fun a16=>ix a16 6 n8 fun b17 o18=>ld W9 .str b17 o18 fun s19=>k10 (Op.bytesLess s19 name2) W9) (k10 false W9)) fun t3820 W21=>ifK t3820 (g7 (w64 (n8+1)) W21) (k6 n8 W21)) [.int .i64 0] W5) fun n22 W23=>dr s1 fun b24 o25=>ld W23 .sl b24 o25 fun a26=>slx a26 6 none (some n22) none fun s27=>ap W23 74 6 56 [.str [],.sl (⟨none,0,0⟩),.lit false,.lit false,.lit false,.int .i64 0] (⟨none,0,0⟩) s27 fun a28 W29=>al W29 74 [.str name2,.sl (⟨none,0,0⟩),.lit false,.lit false,.lit false,.int .i64 0] fun b30 W31=>ap W31 74 6 56 [.str [],.sl (⟨none,0,0⟩),.lit false,.lit false,.lit false,.int .i64 0] a28 (⟨some (b30,0),1,1⟩) fun a32 W33=>dr s1 fun b34 o35=>ld W33 .sl b34 o35 fun a36=>slx a36 6 (some n22) none none fun s37=>ap W33 74 6 56 [.str [],.sl (⟨none,0,0⟩),.lit false,.lit false,.lit false,.int .i64 0] a32 s37 fun a38 W39=>dr s1 fun b40 o41=>st W39 b40 o41 [.sl a38] fun W42=>K 0 W42))):callK Pg 6 [Ap s1,Au name2] w Oi K:=Fq (n:=(n0 .nil (n0 .nil (n0 .nil (n0 .nil (n0 .nil (n0 (.mk (some [.tmp 7 Li]) [] [0,1] .done (.mk none [.tmp 7 Li] [0,1] .done (n0 (n0 (.mk (some [.tmp 38 Lb]) [] [0,1,7] .done .nil .nil) .nil) .nil) .nil) .nil) .nil))))))) CS_ok mixed Tryz.func6 (Eq.mpr (by kernel_rfl) h)
theorem go_96(s1:PA)(name2:List UInt8)(b3:Sl)(K:Int→Wp)(w:World)(h:callK Pg 25 [Ap s1,Au name2] w (.tup [Li,Li]) fun n4 n5 W6=>ifK (n5 != 0) (K n5 W6) (dr s1 fun b7 o8=>ld W6 .sl b7 o8 fun a9=>ix a9 6 n4 fun b10 o11=>dr (some (b10,o11)) fun b12 o13=>ld W6 .bool b12 (o13+2) fun c14=>ifK c14 (K 54 W6) (dr (some (b10,o11)) fun b15 o16=>ld W6 .bool b15 (o16+3) fun c17=>ifK c17 (K 55 W6) (dr (some (b10,o11)) fun b18 o19=>ld W6 .sl b18 (o19+1) fun a20=>ifK (decide (268435456<w64 ((a20.len:Int)+(b3.len:Int)))) (K 57 W6) (joinK [.bool] (fun k21=>dr (some (b10,o11)) fun b22 o23=>ld W6 .bool b22 (o23+4) fun c24=>ifK c24 (dr (some (b10,o11)) fun b25 o26=>ld W6 Ki b25 (o26+5) fun n27=>k21 (decide (n27<w64 ((a20.len:Int)+(b3.len:Int)))) W6) (k21 false W6)) fun t5828 W29=>ifK t5828 (dr (some (b10,o11)) fun b30 o31=>ld W29 Ki b30 (o31+5) fun n32=>joinK [] (fun k33=>ifK (decide ((a20.len:Int)<n32)) (drawK W29 fun D W34=>dr (some (b10,o11)) fun b35 o36=>ldD D W34 .sl b35 (o36+1) fun a37=>dr (some (b10,o11)) fun b38 o39=>ldD D W34 Ki b38 (o39+5) fun n40=>slx b3 1 none (some (w64 (n40-(a20.len:Int)))) none fun s41=>ap W34 5 1 1 [.int .u8 0] a37 s41 fun a42 W43=>Mod D W34 W43∧dr (some (b10,o11)) fun b44 o45=>st W43 b44 (o45+1) [.sl a42] fun W46=>k33 W46) (k33 W29)) fun W47=>dr (some (b10,o11)) fun b48 o49=>st W47 b48 (o49+3) [.lit true] fun W50=>K 55 W50) (dr (some (b10,o11)) fun b51 o52=>ld W29 .sl b51 (o52+1) fun a53=>ap W29 5 1 1 [.int .u8 0] a53 b3 fun a54 W55=>dr (some (b10,o11)) fun b56 o57=>st W55 b56 (o57+1) [.sl a54] fun W58=>K 0 W58)))))):callK Pg 8 [Ap s1,Au name2,Az b3] w Oi K:=Fq (n:=(n0 .nil (n0 .nil (n0 .nil (n0 .nil (n0 .nil (n0 .nil (n0 .nil (n0 .nil (n0 (n0 (.mk (some [.tmp 58 Lb]) [] [2,9,10] .done .nil .nil) (n0 (n0 (n0 .nil (.mk (some []) [] [9] .done (.mk none [] [] (tk [0,1,2,3,4,5,6,7,8,9,10,11,12] (.eff 13 (.take 14 (.take 15 (.last 16))))) .nil .nil) .nil)) .nil) .nil)) .nil)))))))))) CS_ok mixed Tryz.func8 (Eq.mpr (by kernel_rfl) h)
theorem go_95(s1:PA)(name2:List UInt8)(K:Int→Wp)(w:World)(h:callK Pg 25 [Ap s1,Au name2] w (.tup [Li,Li]) fun n3 n4 W5=>ifK (n4 != 0) (K n4 W5) (dr s1 fun b6 o7=>ld W5 .sl b6 o7 fun a8=>ix a8 6 n3 fun b9 o10=>dr (some (b9,o10)) fun b11 o12=>ld W5 .bool b11 (o12+2) fun c13=>ifK c13 (K 54 W5) (dr (some (b9,o10)) fun b14 o15=>ld W5 .bool b14 (o15+4) fun c16=>ifK c16 (dr (some (b9,o10)) fun b17 o18=>st W5 b17 (o18+3) [.lit true] fun W19=>K 55 W19) (dr (some (b9,o10)) fun b20 o21=>st W5 b20 (o21+2) [.lit true] fun W22=>K 0 W22)))):callK Pg 10 [Ap s1,Au name2] w Oi K:=Fq (n:=.nil) CS_ok mixed Tryz.func10 (Eq.mpr (by kernel_rfl) h)
theorem go_82(s1:PA)(name2:List UInt8)(K:Int→Int→Wp)(w:World)(h:callK Pg 25 [Ap s1,Au name2] w (.tup [Li,Li]) fun n3 n4 W5=>ifK (n4 != 0) (K 0 n4 W5) (dr s1 fun b6 o7=>ld W5 .sl b6 o7 fun a8=>ix a8 6 n3 fun b9 o10=>ld W5 .bool b9 (o10+2) fun c11=>ifK (!c11) (K 0 53 W5) (dr s1 fun b12 o13=>ld W5 .sl b12 o13 fun a14=>ix a14 6 n3 fun b15 o16=>ld W5 .sl b15 (o16+1) fun a17=>K (a17.len:Int) 0 W5))):callK Pg 33 [Ap s1,Au name2] w (.tup [Li,Li]) K:=Fq (n:=.nil) CS_ok mixed Tryz.func33 (Eq.mpr (by kernel_rfl) h)
theorem go_81(s1:PA)(name2:List UInt8)(at_3:Int)(n4:Int)(K:Sl→Int→Wp)(w:World)(h:callK Pg 25 [Ap s1,Au name2] w (.tup [Li,Li]) fun n5 n6 W7=>joinK [.bool] (fun k8=>ifK (n6==1) (k8 true W7) (k8 (n6==50) W7)) fun t259 W10=>ifK t259 (K (⟨none,0,0⟩) n6 W10) (ifK (decide (n4<0)) (K (⟨none,0,0⟩) 3 W10) (ifK (n6 != 0) (K (⟨none,0,0⟩) n6 W10) (dr s1 fun b11 o12=>ld W10 .sl b11 o12 fun a13=>ix a13 6 n5 fun b14 o15=>ld W10 .bool b14 (o15+2) fun c16=>ifK (!c16) (K (⟨none,0,0⟩) 53 W10) (dr s1 fun b17 o18=>ld W10 .sl b17 o18 fun a19=>ix a19 6 n5 fun b20 o21=>ld W10 .sl b20 (o21+1) fun a22=>joinK [.bool] (fun k23=>ifK (decide (at_3<0)) (k23 true W10) (k23 (decide ((a22.len:Int)<at_3)) W10)) fun t5624 W25=>ifK t5624 (K (⟨none,0,0⟩) 56 W25) (joinK [Ki] (fun k26=>ifK (decide (w64 ((a22.len:Int)-at_3)<n4)) (k26 (w64 ((a22.len:Int)-at_3)) W25) (k26 n4 W25)) fun n27 W28=>dr s1 fun b29 o30=>ld W28 .sl b29 o30 fun a31=>ix a31 6 n5 fun b32 o33=>ld W28 .sl b32 (o33+1) fun a34=>slx a34 1 (some at_3) (some (w64 (at_3+n27))) none fun s35=>ap W28 5 1 1 [.int .u8 0] (⟨none,0,0⟩) s35 fun a36 W37=>dr s1 fun b38 o39=>ld W37 Ki b38 (o39+1) fun n40=>dr s1 fun b41 o42=>st W37 b41 (o42+1) [.int .i64 (w64 (n40+1))] fun W43=>dr s1 fun b44 o45=>ld W43 Ki b44 (o45+1+1) fun n46=>dr s1 fun b47 o48=>st W43 b47 (o48+1+1) [.int .i64 (w64 (n46+n27))] fun W49=>dr s1 fun b50 o51=>ld W49 Ki b50 (o51+1+2) fun n52=>joinK [] (fun k53=>ifK (decide (n52<n27)) (dr s1 fun b54 o55=>st W49 b54 (o55+1+2) [.int .i64 n27] fun W56=>k53 W56) (k53 W49)) fun W57=>K a36 0 W57)))))):callK Pg 34 [Ap s1,Au name2,Ai at_3,Ai n4] w (.tup [Ls,Li]) K:=Fq (n:=(n0 .nil (n0 .nil (n0 (n0 (.mk (some [.tmp 25 Lb]) [] [0,2,3,10,11] .done .nil .nil) .nil) (n0 .nil (n0 .nil (n0 .nil (n0 .nil (n0 (n0 (.mk (some [.tmp 56 Lb]) [] [0,2,3,10,12] .done .nil .nil) .nil) (n0 (n0 .nil (.mk (some [.tmp 3 Li]) [] [0,2,10] .done .nil .nil)) (n0 .nil (n0 .nil (n0 .nil (n0 .nil (n0 (n0 .nil (.mk (some []) [] [13] .done .nil .nil)) .nil))))))))))))))) CS_ok mixed Tryz.func34 (Eq.mpr (by kernel_rfl) h)
theorem go_93(s1:PA)(name2:List UInt8)(K:Int→Wp)(w:World)(h:joinK [] (fun k3=>loopL [Ki] (fun i5 W6 g4=>dr s1 fun b7 o8=>ld W6 .sl b7 o8 fun a9=>ifK (decide (i5<(a9.len:Int))) (dr s1 fun b10 o11=>ld W6 .sl b10 o11 fun a12=>ix a12 6 i5 fun b13 o14=>ld W6 .str b13 o14 fun s15=>ifK (s15==name2) (K i5 W6) (g4 (w64 (i5+1)) W6)) (k3 W6)) [.int .i64 0] w) fun W16=>K (-1) W16):callK Pg 55 [Ap s1,Au name2] w Oi K:=Fq (n:=(n0 .nil (n0 (n0 .nil (.mk (some []) [] [] .done (.mk none [.tmp 5 Li] [0,1] .done .nil .nil) .nil)) .nil))) CS_ok mixed Tryz.func55 (Eq.mpr (by kernel_rfl) h)
theorem go_94(s1:PA)(name2:List UInt8)(K:Int→Int→Wp)(w:World)(h:ifK s1.isNone (K (-1) 1 w) (callK Pg 54 [Au name2] w Ob fun c3 W4=>ifK (!c3) (K (-1) 50 W4) (callK Pg 55 [Ap s1,Au name2] W4 Oi fun n5 W6=>ifK (decide (n5<0)) (K (-1) 52 W6) (K n5 0 W6)))):callK Pg 25 [Ap s1,Au name2] w (.tup [Li,Li]) K:=Fq (n:=.nil) CS_ok mixed Tryz.func25 (Eq.mpr (by kernel_rfl) h)
theorem go_92(name1:List UInt8)(K:Bool→Wp)(w:World)(h:joinK [] (fun k2=>loopL [Ki] (fun i4 W5 g3=>ifK (decide (i4<(name1.length:Int))) (sx name1 i4 fun c6=>joinK [.bool] (fun k7=>ifK (decide (c6<97)) (ifK (decide (c6<48)) (ifK (c6 != 46) (k7 (c6 != 45) W5) (k7 false W5)) (ifK (decide (57<c6)) (ifK (c6 != 46) (k7 (c6 != 45) W5) (k7 false W5)) (k7 false W5))) (ifK (decide (122<c6)) (ifK (decide (c6<48)) (ifK (c6 != 46) (k7 (c6 != 45) W5) (k7 false W5)) (ifK (decide (57<c6)) (ifK (c6 != 46) (k7 (c6 != 45) W5) (k7 false W5)) (k7 false W5))) (k7 false W5))) fun t358 W9=>ifK t358 (K false W9) (g3 (w64 (i4+1)) W9)) (k2 W5)) [.int .i64 0] w) fun W10=>joinK [.bool] (fun k11=>ifK (decide (1≤(name1.length:Int))) (k11 (decide ((name1.length:Int)≤40)) W10) (k11 false W10)) fun t212 W13=>K t212 W13):callK Pg 54 [Au name1] w Ob K:=Fq (n:=(n0 .nil (n0 (n0 .nil (.mk (some []) [] [0] .done (.mk none [.tmp 3 Li] [0] .done (n0 .nil (n0 (n0 (n0 .nil (n0 (.mk (some [.tmp 35 Lb]) [] [0,3] .done .nil .nil) .nil)) .nil) .nil)) .nil) .nil)) (n0 (.mk (some [.tmp 2 Lb]) [] [] .done .nil .nil) .nil)))) CS_ok mixed Tryz.func54 (Eq.mpr (by kernel_rfl) h)
abbrev link:Go.Conc.Locks.MuLink:={lock:=22,unlock:=23,ilock:=51,iunlock:=52,lockSlow:=87,unlockSlow:=90,disable:=83,enable:=85,acquire:=86,relMerge:=88,cas32:=84,add32:=89,tMutex:=57,tIMutex:=55,tPMutex:=125,tPIMutex:=162,tPI32:=164,tUP:=166,tNoCopy:=52,tU32:=53}
theorem muLib:Go.Conc.Locks.MuLib Pg link:=
 ⟨Tryz.func22,Tryz.func23,Tryz.func51,Tryz.func52,Tryz.func83,Tryz.func85,Tryz.func86,Tryz.func88,Tryz.func84,Tryz.func89,Tryz.underlying55,Tryz.runUnderlying55,Tryz.sizeOf55,Tryz.isAgg55,Tryz.zeroValue55,Tryz.underlying57,Tryz.runUnderlying57,Tryz.sizeOf57,Tryz.isAgg57,Tryz.zeroValue57,Tryz.underlying125,Tryz.runUnderlying125,Tryz.sizeOf125,Tryz.isAgg125,Tryz.zeroValue125,Tryz.underlying162,Tryz.runUnderlying162,Tryz.sizeOf162,Tryz.isAgg162,Tryz.zeroValue162,Tryz.underlying164,Tryz.runUnderlying164,Tryz.sizeOf164,Tryz.isAgg164,Tryz.zeroValue164,Tryz.underlying166,Tryz.runUnderlying166,Tryz.sizeOf166,Tryz.isAgg166,Tryz.zeroValue166,Tryz.underlying52,Tryz.runUnderlying52,Tryz.sizeOf52,Tryz.isAgg52,Tryz.zeroValue52,Tryz.underlying21,Tryz.runUnderlying21,Tryz.sizeOf21,Tryz.isAgg21,Tryz.zeroValue21,(by kernel_rfl)⟩
abbrev t_names:TypeId:=58
theorem u_names:Pg.underlying t_names=some (.map 9 63):=Tryz.underlying58
theorem f_unlock:Pg.funcs[c_77]? = some Tryz.f23:=Tryz.func23
theorem z_blobp(w:World):(zeroValue 63).run Pg w = .ok (.pointer none) w:=Tryz.zeroValue63 w
def EU:Enc Int:=⟨1,fun x=>[.int .u8 x],fun _=>rfl,by decide,fun x v h=>by simp at h;subst h;rfl⟩
theorem lock_raw{b o:Nat}{w:World}(hc:w.cell? ⟨b,o,none⟩=some (.int .i32 0))(hz:w.frozen? ⟨b,o,none⟩=false){K:Wp}(hK:K (World.setCells w b o [.int .i32 1])) :
  callK Pg c_76 [Ap (some (b,o))] w (.tup []) K:=by
 refine Calls.mono (Go.MuLone.lock_free muLib ⟨b,o,none⟩ w hc hz) fun e w' ⟨he,hw⟩=>⟨[],he,?_⟩;subst hw;exact hK
theorem unlock_raw{b o:Nat}{w:World}(hc:w.cell? ⟨b,o,none⟩=some (.int .i32 1))(hz:w.frozen? ⟨b,o,none⟩=false){K:Wp}(hK:K (World.setCells w b o [.int .i32 0])) :
  callsK Pg [(c_77,[Ap (some (b,o))],[])] w K:=by
 refine WF_defer (rt:=.tup []) (K:=K) (n:=N_sync_Mutex_Unlock) CS_ok mixed f_unlock (CS_ok c_77 (by kernel_rfl)) ?_ (by kernel_rfl) ?_
 ·rw [is_sync_Mutex_Unlock];refine Dq ?_;refine Calls.mono (Go.MuLone.iunlock_held muLib ⟨b,o,none⟩ w hc hz) fun e w' ⟨he,hw⟩=>⟨[],he,?_⟩;subst hw;exact hK
 ·intro l w' h
  cases l with
  | nil=>exact h
  | cons x l=>exact h.elim
def fnd(s:Str):List (Str×Nat)→Nat→Option (Nat×Nat)
 | [],_=>none
 | x::r,i=>if s=x.1 then some (i,x.2) else fnd s r (i+1)
theorem fnd_some{s:Str}:∀{l:List (Str×Nat)} {i j b:Nat},fnd s l i=some (j,b)→∃A B,l=A++(s,b)::B∧j=i+A.length∧∀x∈A,x.1≠s
 | [],i,j,b,h=>by simp [fnd] at h
 | x::r,i,j,b,h=>by
  unfold fnd at h;split at h
  ·rename_i e;subst e;simp at h;obtain⟨rfl,rfl⟩:=h;exact⟨[],r,rfl,rfl,by simp⟩
  ·rename_i e;obtain⟨A,B,h1,h2,h3⟩:=fnd_some h;refine⟨x::A,B,by rw [h1];rfl,by rw [h2];simp;omega,?_⟩;intro y hy;rcases List.mem_cons.1 hy with rfl | hy
   ·exact Ne.symm e
   ·exact h3 y hy
theorem fnd_none{s:Str}:∀{l:List (Str×Nat)} {i:Nat},fnd s l i=none→∀x∈l,x.1≠s
 | [],i,h=>by simp
 | x::r,i,h=>by
  unfold fnd at h;split at h
  ·cases h
  ·rename_i e;intro y hy;rcases List.mem_cons.1 hy with rfl | hy
   ·exact Ne.symm e
   ·exact fnd_none h y hy
def strV(s:Str):Value:=(LV.str s).toV
def ptrV(b:Nat):Value:=(LV.ptr (some (b,0))).toV
theorem strV_beq(a b:Str):((⟨a.toArray⟩:ByteArray)==⟨b.toArray⟩)=decide (a=b):=by
 show (a.toArray==b.toArray)=_;by_cases h:a=b
 ·subst h;simp
 ·simp [h]
theorem findNow_str(s:Str):∀(es:List MapEntry) (l:List (Str×Nat)) (i:Nat),es.map (fun e=>(e.key,e.val))=l.map (fun x=>(strV x.1,ptrV x.2)) →
  Instr.findNow .string (strV s) es i=some ((fnd s l i).map fun p=>(p.1,ptrV p.2))
 | [],[],i,_=>rfl
 | [],_::_,i,h=>by simp at h
 | _::_,[],i,h=>by simp at h
 | e::es,x::l,i,h=>by
  simp only [List.map_cons,List.cons.injEq,Prod.mk.injEq] at h;obtain⟨⟨h1,h2⟩,h3⟩:=h;have hs:Instr.sameNow .string (strV s) e.key=some (decide (s=x.1)):=by
   rw [h1];show some (_==_)=_;rw [strV_beq]
  unfold Instr.findNow fnd;rw [hs];by_cases hx:s=x.1
  ·simp only [hx,decide_true,if_true,Option.map_some,h2]
  ·simp only [hx,decide_false,if_false];exact findNow_str s es l (i+1) h3
theorem findKey_str{P:Program}(hs9:P.underlying 9=some .string)(s:Str){es:List MapEntry}{l:List (Str×Nat)}(h:es.map (fun e=>(e.key,e.val))=l.map (fun x=>(strV x.1,ptrV x.2)))(w:World) :
  (Instr.findKey 9 (strV s) es).run P w = .ok ((fnd s l 0).map fun p=>(p.1,ptrV p.2)) w:=by
 unfold Instr.findKey;simp only [Sem.run_bind,run_underlying hs9,Result.andThen_ok];rw [findNow_str s es l 0 h];rfl
theorem checkKey_str{P:Program}(hs9:P.underlying 9=some .string)(b:Bool)(s:Str)(w:World):(Instr.checkKey b 10000 9 (strV s)).run P w = .ok () w:=by
 unfold Instr.checkKey;simp only [Sem.run_bind,run_underlying hs9,Result.andThen_ok];rfl
theorem getMap{P:Program}{w:World}{r:Nat}{es:Array MapEntry}{c:Nat}(h:w.heap[r]? = some (.map es c)):(getObj r).run P w = .ok (.map es c) w:=by simp [getObj,Sem.run,h]
theorem setMap{P:Program}{w:World}{r:Nat}{es:Array MapEntry}{c:Nat}(o:Obj)(h:w.heap[r]? = some (.map es c)):(setObj r o).run P w = .ok () {w with heap:=w.heap.setIfInBounds r o}:=by simp [setObj,Sem.run,h]
def Names(w:World)(r:Nat)(l:List (Str×Nat)):Prop:=∃es c,w.heap[r]? = some (.map es c)∧es.toList.map (fun e=>(e.key,e.val))=l.map (fun x=>(strV x.1,ptrV x.2))∧(es.toList.map (·.born)).Nodup∧∀e∈es.toList,e.born<c
theorem Names.keep{w w':World}{r:Nat}{l:List (Str×Nat)}(h:Names w r l){D:Nat→Prop}(hM:Mod D w w')(hD:¬D r):Names w' r l:=by
 obtain⟨es,c,h1,h2,h3⟩:=h;exact⟨es,c,(hM.block r (heap_lt h1) hD).trans h1,h2,h3⟩
theorem Names.far{w:World}{r:Nat}{l:List (Str×Nat)}(h:Names w r l){c:List Value}:¬Blk w r c:=by
 obtain⟨es,k,h1,h2⟩:=h;exact far_cell h1 rfl
theorem lookup_names{w:World}{r:Nat}{l:List (Str×Nat)}(h:Names w r l)(s:Str){K:PA→Bool→Wp}(h1:∀j b,fnd s l 0=some (j,b)→K (some (b,0)) true w)(h2:fnd s l 0=none→K none false w) :
  opF Pg (vS (Instr.lookup t_names (LV.toV (.map (some r))) (LV.toV (.str s)) true)) w (.tup [Lp,Lb]) K:=by
 obtain⟨es,c,hh,hl,hnd,hbn⟩:=h;have hrun:∀v b,((fnd s l 0).map (fun p=>(p.1,ptrV p.2))=none→v = .pointer none∧b=false)→(∀j x,(fnd s l 0).map (fun p=>(p.1,ptrV p.2))=some (j,x)→v=x∧b=true) →
   (vS (Instr.lookup t_names (LV.toV (.map (some r))) (LV.toV (.str s)) true)).run Pg w = .ok (.value (.tuple #[v,.bool b])) w:=by
  intro v b hn hs;unfold vS Instr.lookup;simp only [Sem.run_bind,run_underlying u_names,Result.andThen_ok,LV.toV,getMap hh,Sem.run_pure];have hk:=findKey_str Tryz.underlying9 s hl w;have hc:=checkKey_str Tryz.underlying9 es.isEmpty s w;unfold strV at hk hc;simp only [LV.toV] at hk hc;rw [hc];simp only [Result.andThen_ok];rw [hk];simp only [Result.andThen_ok]
  cases hf:(fnd s l 0).map (fun p=>(p.1,ptrV p.2)) with
  | none=>
   obtain⟨rfl,rfl⟩:=hn hf;simp only [Sem.run_bind,z_blobp,Result.andThen_ok,Sem.run_pure,if_true]
  | some y=>
   obtain⟨j,x⟩:=y;obtain⟨rfl,rfl⟩:=hs j x hf;simp only [Sem.run_bind,Sem.run_pure,Result.andThen_ok,if_true]
 cases hf:fnd s l 0 with
 | none=>
  refine⟨[.ptr none,.bool false],w,?_,h2 hf⟩;rw [hrun (.pointer none) false (fun _=>⟨rfl,rfl⟩) (fun j x h=>by rw [hf] at h;cases h)];rfl
 | some y=>
  obtain⟨j,b⟩:=y;refine⟨[.ptr (some (b,0)),.bool true],w,?_,h1 j b hf⟩;rw [hrun (ptrV b) true (fun h=>by rw [hf] at h;cases h) (fun j x h=>by rw [hf] at h;simp at h;exact⟨h.2,rfl⟩)];rfl
theorem setAt{w:World}{r:Nat}{o o':Obj}(h:w.heap[r]? = some o):({w with heap:=w.heap.setIfInBounds r o'}:World).heap[r]? = some o':=by
 have:=heap_lt h;simp [Array.getElem?_setIfInBounds,this]
theorem modAt{w:World}{r:Nat}{o':Obj}:Mod (fun k=>k=r) w {w with heap:=w.heap.setIfInBounds r o'}:=by
 refine⟨rfl,rfl,rfl,by simp,fun k _ hk=>?_⟩;simp [Array.getElem?_setIfInBounds,Ne.symm hk]
theorem update_names{w:World}{r:Nat}{l:List (Str×Nat)}(h:Names w r l){s:Str}{b:Nat}(hf:fnd s l 0=none){K:Wp}(hK:∀w',Names w' r (l++[(s,b)])→Mod (fun k=>k=r) w w'→K w') :
  opU Pg (uS (Instr.mapUpdate t_names (LV.toV (.map (some r))) (LV.toV (.str s)) (LV.toV (.ptr (some (b,0)))))) w K:=by
 obtain⟨es,c,hh,hl,hnd,hbn⟩:=h;refine⟨_,?_,hK _ ⟨es.push {key:=strV s,val:=ptrV b,born:=c},c+1,setAt hh,?_,?_,?_⟩ modAt⟩
 ·unfold uS Instr.mapUpdate;have hk:=findKey_str Tryz.underlying9 s hl w;have hc:=checkKey_str Tryz.underlying9 false s w;unfold strV at hk hc;simp only [LV.toV] at hk hc;simp only [Sem.run_bind,run_underlying u_names,Result.andThen_ok,LV.toV,getMap hh];rw [hc];simp only [Result.andThen_ok];rw [hk,hf];simp only [Option.map_none,Result.andThen_ok,setMap _ hh,Sem.run_pure];rfl
 ·simp [hl]
 ·rw [Array.toList_push,List.map_append,List.nodup_append];refine⟨hnd,by simp,?_⟩;rintro x hx y hy rfl;obtain⟨e,he,rfl⟩:=List.mem_map.1 hx;simp at hy;have:=hbn e he;omega
 ·intro e he;rw [Array.toList_push] at he;rcases Lma.1 he with he | he
  ·have:=hbn e he;omega
  ·simp at he;subst he;exact Nat.lt_succ_self c
theorem make_names{w:World}{K:Option Nat→Wp}(hK:∀w',Names w' w.heap.size []→Mod (fun _=>False) w w'→w'.heap.size=w.heap.size+1→K (some w.heap.size) w') :
  opF Pg (vS (Instr.makeMap 73 none)) w (.one (.leaf (.map))) K:=
 ⟨[.map (some w.heap.size)],w.alloc (.map #[] 0),rfl,hK _ ⟨#[],0,World.alloc_heap_new w _,rfl,by simp,by simp⟩ (Mod.alloc _ _ _) (World.size_alloc ..)⟩
structure Bl where
 data:List Int
 out:Bool
 stops:Bool
 stop:Int
 stopped:Bool
def Bl.new:Bl:=⟨[],false,false,0,false⟩
structure Bl.ok(b:Bl):Prop where
 lo:0≤b.stop
 hi:b.stop≤9223372036854775807
 len:b.data.length≤268435456
 byte:∀x∈b.data,0≤x∧x<256
theorem Bl.new_ok:Bl.new.ok:=⟨by decide,by decide,by decide,by simp [Bl.new]⟩
def Bl.cells(b:Bl)(s:Sl):List Value:=[(LV.sl s).toV,.bool b.out,.bool b.stops,.int .i64 b.stop,.bool b.stopped]
structure En where
 name:Str
 bb:Nat
 sl:Sl
 ro:List (Nat×List Value)
 bl:Bl
def En.blk(e:En):Nat×List Value:=(e.bb,e.bl.cells e.sl)
def owns:List En→List (Nat×List Value)
 | []=>[]
 | e::r=>(e.blk::e.ro)++owns r
theorem owns_append:∀a b:List En,owns (a++b)=owns a++owns b
 | [],b=>rfl
 | e::a,b=>by simp [owns,owns_append a b]
structure SG where
 bs:Nat
 r:Nat
 ents:List En
 m1:Int
 m2:Int
 m3:Int
def SG.hd(g:SG)(s:Int):Nat×List Value:=(g.bs,[.int .i32 s,.int .u32 0,.map (some g.r),.int .i64 g.m1,.int .i64 g.m2,.int .i64 g.m3])
def SG.names(g:SG):List (Str×Nat):=g.ents.map fun e=>(e.name,e.bb)
abbrev Abs:=List (Str×Bl)
def SG.abs(g:SG):Abs:=g.ents.map fun e=>(e.name,e.bl)
def SG.mt(g:SG):Int×Int×Int:=(g.m1,g.m2,g.m3)
def SG.D(g:SG):Nat→Prop:=fun b=>b=g.bs∨b=g.r∨Ks (owns g.ents) b
structure StA(w0:World)(m:List (Nat×List Value))(s:Int)(g:SG)(w:World):Prop where
 at_:At w0 F0 ((m++[g.hd s])++owns g.ents) w
 nm:Names w g.r g.names
 old:w0.heap.size≤g.r
 vec:∀e∈g.ents,VecL e.ro EU e.sl e.bl.data∧e.bl.ok
theorem perm_mid1{α:Type}(a b:List α)(x:α):((a++[x])++b).Perm ((a++b)++[x]):=by
 rw [Laa,Laa];exact List.Perm.append_left a Lpc
theorem At.setLast{w0 w:World}{D:Nat→Prop}{m:List (Nat×List Value)}{b:Nat}{c:List Value}(hA:At w0 D (m++[(b,c)]) w)(o:Nat)(vs:List Value):At w0 D (m++[(b,spl c o vs)]) (World.setCells w b o vs):=by
 have h:=hA.setCells (i:=m.length) (b:=b) (c:=c) (by simp) o vs;rw [set_last] at h;exact h
section
variable {w0 w:World}{m:List (Nat×List Value)}{s:Int}{g:SG}
theorem StA.head(h:StA w0 m s g w):At w0 F0 ((m++owns g.ents)++[g.hd s]) w:=h.at_.perm (perm_mid1 _ _ _).symm
theorem StA.hdBlk(h:StA w0 m s g w):Blk w g.bs (g.hd s).2:=h.at_.own (g.hd s) (by simp)
theorem StA.ne(h:StA w0 m s g w):g.bs≠g.r:=fun e=>h.nm.far (e▸h.hdBlk)
theorem StA.ldHd(h:StA w0 m s g w){k:Kd}{o:Nat}(x:Den k){K:Den k→Prop}(hx:(g.hd s).2[o]? = some (LV.mk k x).toV)(hK:K x):Go.Vw.ld w k g.bs o K:=⟨x,by rw [h.hdBlk.cell];exact hx,hK⟩
theorem StA.far(h:StA w0 m s g w){p:Nat×List Value}(hp:p∈(m++[g.hd s])++owns g.ents):p.1≠g.r:=fun e=>h.nm.far (e▸h.at_.own p hp)
theorem StA.setHd{s':Int}{g':SG}(h:StA w0 m s g w){o:Nat}{vs:List LV}(hs:spl (g.hd s).2 o (vs.map LV.toV)=(g'.hd s').2)(hbs:g'.bs=g.bs)(hr:g'.r=g.r)(he:g'.ents=g.ents):StA w0 m s' g' (World.setCells w g.bs o (vs.map LV.toV)):=by
 have h1:At w0 F0 ((m++owns g.ents)++[(g.bs,(g.hd s).2)]) w:=h.head;have h2:=At.setLast h1 o (vs.map LV.toV);rw [hs] at h2;have h3:At w0 F0 ((m++owns g.ents)++[g'.hd s']) (World.setCells w g.bs o (vs.map LV.toV)):=by
  have:g'.hd s'=(g.bs,(g'.hd s').2):=by rw [←hbs];rfl
  rw [this];exact h2
 refine⟨by rw [he];exact h3.perm (perm_mid1 _ _ _),?_,by rw [hr];exact h.old,by rw [he];exact h.vec⟩;have hn:g'.names=g.names:=by unfold SG.names;rw [he]
 rw [hn,hr];exact h.nm.keep (Mod.setCells w g.bs o _) fun e=>h.ne e.symm
theorem StA.okHd(h:StA w0 m s g w){o n:Nat}(hn:o+n≤6):okCells w g.bs o n:=by
 intro i hi;refine⟨⟨(g.hd s).2[o+i]'(by simp [SG.hd];omega),?_⟩,h.hdBlk.frz _⟩;rw [h.hdBlk.cell,Lge]
theorem StA.stHd{s':Int}{g':SG}(h:StA w0 m s g w){o:Nat}{vs:List LV}{K:Wp}(hs:spl (g.hd s).2 o (vs.map LV.toV)=(g'.hd s').2)(hbs:g'.bs=g.bs)(hr:g'.r=g.r)(he:g'.ents=g.ents)(hn:o+vs.length≤6)
  (hK:∀w',StA w0 m s' g' w'→Mod (fun b=>b=g.bs) w w'→K w'):st w g.bs o vs K:=
 ⟨h.okHd hn,hK _ (h.setHd hs hbs hr he) (Mod.setCells ..)⟩
theorem StA.focus(h:StA w0 m s g w){A B:List En}{e:En}(he:g.ents=A++e::B):At w0 F0 ((((m++[g.hd s])++(owns A++owns B))++[e.blk])++e.ro) w:=by
 refine h.at_.perm ?_;rw [he,owns_append];simp only [owns,Laa];refine List.Perm.append_left _ (List.Perm.append_left _ (List.Perm.append_left _ ?_));exact Lpc
theorem StA.unfocus(h:StA w0 m s g w){A B:List En}{e:En}(he:g.ents=A++e::B){w':World}{b':Bl}{sl':Sl}{ro':List (Nat×List Value)}(hA:At w0 F0 ((((m++[g.hd s])++(owns A++owns B))++[(e.bb,b'.cells sl')])++ro') w')
  (hv:VecL ro' EU sl' b'.data) (hk:b'.ok) {D:Nat→Prop} (hM:Mod D w w') (hD:¬D g.r):StA w0 m s {g with ents:=A++⟨e.name,e.bb,sl',ro',b'⟩::B} w':=by
 refine⟨hA.perm ?_,?_,h.old,?_⟩
 ·show List.Perm ((m++[g.hd s])++owns (A++⟨e.name,e.bb,sl',ro',b'⟩::B)) _;rw [owns_append];simp only [owns,Laa,En.blk];refine List.Perm.append_left _ (List.Perm.append_left _ (List.Perm.append_left _ ?_));exact Lpc
 ·have:({g with ents:=A++⟨e.name,e.bb,sl',ro',b'⟩::B}:SG).names=g.names:=by unfold SG.names;rw [he];simp
  rw [this];exact h.nm.keep hM hD
 ·intro x hx;rcases Lma.1 hx with hx | hx
  ·exact h.vec x (by rw [he];exact Lml _ hx)
  ·rcases List.mem_cons.1 hx with rfl | hx
   ·exact⟨hv,hk⟩
   ·exact h.vec x (by rw [he];exact Lmr _ (Lmc _ hx))
theorem StA.vecOf(h:StA w0 m s g w){A B:List En}{e:En}(he:g.ents=A++e::B):VecL e.ro EU e.sl e.bl.data:=(h.vec e (by rw [he];simp)).1
theorem StA.okOf(h:StA w0 m s g w){A B:List En}{e:En}(he:g.ents=A++e::B):e.bl.ok:=(h.vec e (by rw [he];simp)).2
theorem StA.blkOf(h:StA w0 m s g w){A B:List En}{e:En}(he:g.ents=A++e::B):Blk w e.bb (e.bl.cells e.sl):=(h.focus he).own e.blk (by simp)
theorem StA.rdOf(h:StA w0 m s g w){A B:List En}{e:En}(he:g.ents=A++e::B):RdS w EU e.sl e.bl.data:=(h.vecOf he).rd fun p hp=>(h.focus he).own p (Lmr _ hp)
theorem StA.ldE(h:StA w0 m s g w){A B:List En}{e:En}(he:g.ents=A++e::B){k:Kd}{o:Nat}(x:Den k){K:Den k→Prop}(hx:(e.bl.cells e.sl)[o]? = some (LV.mk k x).toV)(hK:K x):Go.Vw.ld w k e.bb o K:=⟨x,by rw [(h.blkOf he).cell];exact hx,hK⟩
theorem StA.ldDE(h:StA w0 m s g w){A B:List En}{e:En}(he:g.ents=A++e::B){k:Kd}{o:Nat}{D:Nat→Prop}(x:Den k){K:Den k→Prop}(hD:¬D e.bb)(hx:(e.bl.cells e.sl)[o]? = some (LV.mk k x).toV)(hK:K x):Go.Vw.ldD D w k e.bb o K:=⟨x,hD,by rw [(h.blkOf he).cell];exact hx,hK⟩
theorem StA.bbNe(h:StA w0 m s g w){A B:List En}{e:En}(he:g.ents=A++e::B):¬Ks e.ro e.bb:=(h.focus he).notKs (p:=e.blk) (by simp)
theorem StA.bbR(h:StA w0 m s g w){A B:List En}{e:En}(he:g.ents=A++e::B):e.bb≠g.r:=fun x=>h.nm.far (x▸h.blkOf he)
theorem StA.roR(h:StA w0 m s g w){A B:List En}{e:En}(he:g.ents=A++e::B):¬Ks e.ro g.r:=by
 rintro ⟨p,hp,x⟩;exact h.nm.far (x▸(h.focus he).own p (Lmr _ hp))
theorem StA.drew(h:StA w0 m s g w):StA w0 m s g w.drew:=⟨h.at_.drew,h.nm.keep (Mod.drew F0 w) id,h.old,h.vec⟩
theorem StA.side(h:StA w0 m s g w):At w0 F0 m w:=h.at_.sub ((Lsl m [g.hd s]).trans (Lsl _ _))
theorem StA.stE(h:StA w0 m s g w){A B:List En}{e:En}(he:g.ents=A++e::B){o:Nat}{vs:List LV}{b':Bl}{sl':Sl}(hs:spl (e.bl.cells e.sl) o (vs.map LV.toV)=b'.cells sl')(hv:VecL e.ro EU sl' b'.data)(hk:b'.ok)(hn:o+vs.length≤5){K:Wp}
  (hK:∀w',StA w0 m s {g with ents:=A++⟨e.name,e.bb,sl',e.ro,b'⟩::B} w'→Mod (fun b=>b=e.bb) w w'→K w'):st w e.bb o vs K:=by
 have hb:=h.blkOf he;refine⟨fun i hi=>⟨⟨(e.bl.cells e.sl)[o+i]'(by simp [Bl.cells];omega),by rw [hb.cell,Lge]⟩,hb.frz _⟩,?_⟩;refine hK _ (h.unfocus he ?_ hv hk (Mod.setCells ..) fun x=>h.bbR he x.symm) (Mod.setCells ..);have h1:=(h.focus he).perm (perm_mid1 _ _ _).symm;have h2:At w0 F0 ((((m++[g.hd s])++(owns A++owns B))++e.ro)++[(e.bb,e.bl.cells e.sl)]) w:=h1;have h3:=At.setLast h2 o (vs.map LV.toV);rw [hs] at h3;exact h3.perm (perm_mid1 _ _ _)
theorem StA.stA(h:StA w0 m s g w){A B:List En}{e:En}(he:g.ents=A++e::B){w2:World}{ro':List (Nat×List Value)}(hA:At w0 F0 ((((m++[g.hd s])++(owns A++owns B))++[e.blk])++ro') w2)(hM:Mod (Ks e.ro) w w2)
  {o:Nat} {vs:List LV} {b':Bl} {sl':Sl} (hs:spl (e.bl.cells e.sl) o (vs.map LV.toV)=b'.cells sl') (hv:VecL ro' EU sl' b'.data) (hk:b'.ok) (hn:o+vs.length≤5) {K:Wp}
  (hK:∀w',StA w0 m s {g with ents:=A++⟨e.name,e.bb,sl',ro',b'⟩::B} w'→Mod (fun b=>b=e.bb∨Ks e.ro b) w w'→K w'):st w2 e.bb o vs K:=by
 have hb:Blk w2 e.bb (e.bl.cells e.sl):=hA.own e.blk (by simp);have hM':Mod (fun b=>b=e.bb∨Ks e.ro b) w (World.setCells w2 e.bb o (vs.map LV.toV)):=hM.trans (Mod.setCells ..) (fun _ _ h=>.inr h) fun _ _ h=>.inl h;refine⟨fun i hi=>⟨⟨(e.bl.cells e.sl)[o+i]'(by simp [Bl.cells];omega),by rw [hb.cell,Lge]⟩,hb.frz _⟩,?_⟩;refine hK _ (h.unfocus he ?_ hv hk hM' fun x=>?_) hM'
 ·have h1:=hA.perm (perm_mid1 _ _ _).symm;have h2:At w0 F0 ((((m++[g.hd s])++(owns A++owns B))++ro')++[(e.bb,e.bl.cells e.sl)]) w2:=h1;have h3:=At.setLast h2 o (vs.map LV.toV);rw [hs] at h3;exact h3.perm (perm_mid1 _ _ _)
 ·rcases x with x | x
  ·exact h.bbR he x.symm
  ·exact h.roR he x
theorem StA.addE(h:StA w0 m s g w){n:Str}{b:Nat}{w' w'':World}(hA:At w0 F0 (((m++[g.hd s])++owns g.ents)++[(b,Bl.new.cells ⟨none,0,0⟩)]) w')(hM:Mod F0 w w')(hN:Names w'' g.r (g.names++[(n,b)]))(hM2:Mod (fun k=>k=g.r) w' w''):StA w0 m s {g with ents:=g.ents++[⟨n,b,⟨none,0,0⟩,[],Bl.new⟩]} w'':=by
 refine⟨?_,?_,h.old,?_⟩
 ·show At w0 F0 ((m++[g.hd s])++owns (g.ents++[⟨n,b,⟨none,0,0⟩,[],Bl.new⟩])) w'';rw [owns_append,←Laa];simp only [owns,En.blk,Lan];refine hA.keep hM2 (fun x hx e=>?_) fun p hp e=>?_
  ·subst e;exact absurd h.old (by omega)
  ·obtain⟨es,c,h1,_⟩:=hN;obtain⟨es',c',h1',_⟩:=h.nm.keep hM id;exact far_cell h1' rfl (e▸hA.own p hp)
 ·have:({g with ents:=g.ents++[⟨n,b,⟨none,0,0⟩,[],Bl.new⟩]}:SG).names=g.names++[(n,b)]:=by unfold SG.names;simp
  rw [this];exact hN
 ·intro x hx;rcases Lma.1 hx with hx | hx
  ·exact h.vec x hx
  ·simp at hx;subst hx;exact⟨VecL.nil EU,Bl.new_ok⟩
end
def getA(n:Str):Abs→Option Bl
 | []=>none
 | x::r=>if n=x.1 then some x.2 else getA n r
def putA(n:Str)(b:Bl):Abs→Abs
 | []=>[]
 | x::r=>if n=x.1 then (x.1,b)::r else x::putA n b r
theorem putA_mid{n:Str}{b b0:Bl}:∀{A B:Abs},(∀x∈A,x.1≠n)→putA n b (A++(n,b0)::B)=A++(n,b)::B
 | [],B,_=>by simp [putA]
 | x::A,B,h=>by
  have h1:=h x (by simp);rw [List.cons_append,putA,if_neg (Ne.symm h1),putA_mid fun y hy=>h y (Lmc _ hy)];rfl
theorem getA_mid{n:Str}{b0:Bl}:∀{A B:Abs},(∀x∈A,x.1≠n)→getA n (A++(n,b0)::B)=some b0
 | [],B,_=>by simp [getA]
 | x::A,B,h=>by
  have h1:=h x (by simp);rw [List.cons_append,getA,if_neg (Ne.symm h1),getA_mid fun y hy=>h y (Lmc _ hy)]
theorem getA_none{n:Str}:∀{A:Abs},(∀x∈A,x.1≠n)→getA n A=none
 | [],_=>rfl
 | x::A,h=>by
  have h1:=h x (by simp);rw [getA,if_neg (Ne.symm h1),getA_none fun y hy=>h y (Lmc _ hy)]
def goodP(x:Int):Prop:=(97≤x∧x≤122)∨(48≤x∧x≤57)∨x=46∨x=45
instance (x:Int):Decidable (goodP x):=by unfold goodP;infer_instance
def goodN(n:Str):Bool:=decide (1≤n.length)&&decide (n.length≤40)&&n.all fun c=>decide (goodP c.toNat)
def askA(n:Str)(a:Abs):Int×Option Bl:=if goodN n=false then (50,none) else match getA n a with
 | none=>(52,none)
 | some b=>(0,some b)
theorem goodName_ok(n:Str){w:World}{K:Bool→Wp}(hK:K (goodN n) w):callK Pg c_83 [Au n] w Ob K:=by
 refine go_83 _ _ _ ?_;refine join1 (fun b w'=>w'=w∧(b=true↔n.length<1∨40<n.length)) ?_ ?_
 ·intro k hk;refine Iq (fun h=>hk _ _ ⟨rfl,?_⟩) fun h=>hk _ _ ⟨rfl,?_⟩
  ·exact⟨fun _=>.inl (by simp only [Det] at h;omega),fun _=>rfl⟩
  ·simp only [Det,decide_eq_false_iff_not] at h ⊢;omega
 rintro b w' ⟨rfl,hb⟩;refine Iq (fun h=>?_) fun h=>?_
 ·have:goodN n=false:=by
   have:=hb.1 h;unfold goodN;rcases this with h | h
   ·rw [Dcf (by omega)];simp
   ·rw [Dcf (p:=n.length≤40) (by omega)];simp
  rw [this] at hK;exact hK
 have hl:¬(n.length<1∨40<n.length):=fun x=>by rw [hb.2 x] at h;cases h
 have hgN:goodN n=n.all fun c=>decide (goodP c.toNat):=by
  unfold goodN;rw [Dct (by omega),Dct (by omega)];rfl
 refine join0 (fun u=>u=w'∧goodN n=true) ?_ (fun u hu=>by obtain⟨rfl,hu⟩:=hu;rw [hu] at hK;exact hK);intro k hk;refine loop1 (k:=Ki) (fun (i:Int) u=>u=w'∧∃j:Nat,i=j∧j≤n.length∧∀c∈n.take j,goodP c.toNat) (fun i _=>(n.length-i).toNat) (x:=0) rfl ⟨rfl,0,rfl,by omega,by simp⟩ ?_;rintro i u ⟨rfl,j,rfl,hj,hg⟩;refine Iq (fun h=>?_) fun h=>?_
 ·have hlt:j<n.length:=dlt h;refine⟨n[j],by rw [Itn,Lge hlt],by omega,?_⟩;generalize hx:((n[j].toNat:Nat):Int)=x;refine join1 (fun b u'=>u'=u∧(b=true↔¬goodP x)) ?_ ?_
  ·intro k2 hk2;have lf:∀{b:Bool},(b=true↔¬goodP x)→k2 b u:=fun hb=>hk2 _ _ ⟨rfl,hb⟩;unfold goodP at lf;refine Iq (fun h1=>Iq (fun h2=>Iq (fun h3=>lf ?_) (fun h3=>lf ?_)) fun h2=>Iq (fun h3=>Iq (fun h4=>lf ?_) (fun h4=>lf ?_)) fun h3=>lf ?_)
    fun h1=>Iq (fun h2=>Iq (fun h3=>Iq (fun h4=>lf ?_) (fun h4=>lf ?_)) fun h3=>Iq (fun h4=>Iq (fun h5=>lf ?_) (fun h5=>lf ?_)) fun h4=>lf ?_) fun h2=>lf ?_
   all_goals (simp only [Det,decide_eq_false_iff_not,bne_iff_ne,bne_eq_false_iff_eq,ne_eq,Bool.false_eq_true,false_iff,Classical.not_not] at *;omega)
  ·rintro b u' ⟨rfl,hb2⟩;refine Iq (fun h2=>?_) fun h2=>?_
   ·have:goodN n=false:=by
     rw [hgN];apply Bool.eq_false_iff.2;intro ha;have:=List.all_eq_true.1 ha n[j] (List.getElem_mem hlt);simp only [Det,hx] at this;exact hb2.1 h2 this
    rw [this] at hK;exact hK
   ·have hgx:goodP x:=Classical.byContradiction fun hn=>by rw [hb2.2 hn] at h2;cases h2
    refine⟨⟨rfl,j+1,set_step (by omega),by omega,?_⟩,?_⟩
    ·intro c hc;rw [List.take_add_one,Lma] at hc;rcases hc with hc | hc
     ·exact hg c hc
     ·rw [Lge hlt] at hc;simp at hc;subst hc;rw [hx];exact hgx
    ·have:=set_step (i:=j) (by omega);simp only [this];omega
 ·have hlt:n.length≤j:=dge h;refine hk _ ⟨rfl,?_⟩;rw [hgN];apply List.all_eq_true.2;intro c hc;rw [Ltl hlt] at hg;exact Dct (hg c hc)
theorem names_fnd{n:Str}{l:List En}{j b:Nat}(h:fnd n (l.map fun e=>(e.name,e.bb)) 0=some (j,b)):∃A e B,l=A++e::B∧e.name=n∧e.bb=b∧j=A.length∧∀x∈A,x.name≠n:=by
 obtain⟨A,B,h1,h2,h3⟩:=fnd_some h;obtain⟨A',r,e1,e2,e3⟩:=List.map_eq_append_iff.1 h1;obtain⟨e,B',e4,e5,e6⟩:=List.map_eq_cons_iff.1 e3;simp only [Prod.mk.injEq] at e5;refine⟨A',e,B',by rw [e1,e4],e5.1,e5.2,by rw [h2,←e2];simp,fun x hx=>?_⟩;exact h3 (x.name,x.bb) (by rw [←e2];exact List.mem_map_of_mem (f:=fun e:En=>(e.name,e.bb)) hx)
section
variable {w0 w:World}{m:List (Nat×List Value)}{s:Int}{g:SG}
theorem abs_mid{A B:List En}{e:En}:((A++e::B).map fun e:En=>(e.name,e.bl))=(A.map fun e:En=>(e.name,e.bl))++(e.name,e.bl)::(B.map fun e:En=>(e.name,e.bl)):=by simp
theorem ask_some{n:Str}{A B:List En}{e:En}(hg:goodN n=true)(he:g.ents=A++e::B)(hn:e.name=n)(hA:∀x∈A,x.name≠n):askA n g.abs=(0,some e.bl):=by
 unfold askA SG.abs;rw [hg,he,abs_mid,hn,getA_mid (fun x hx=>by obtain⟨y,hy,rfl⟩:=List.mem_map.1 hx;exact hA y hy)];simp
theorem ask_none{n:Str}(hg:goodN n=true)(hA:∀x∈g.ents,x.name≠n):askA n g.abs=(52,none):=by
 unfold askA SG.abs;rw [hg,getA_none (fun x hx=>by obtain⟨y,hy,rfl⟩:=List.mem_map.1 hx;exact hA y hy)];simp
theorem ask_bad{n:Str}(hg:goodN n=false):askA n g.abs=(50,none):=by unfold askA;rw [if_pos hg]
theorem sfind_ok(h:StA w0 m s g w)(n:Str){K:PA→Int→Wp}(h0:∀c,askA n g.abs=(c,none)→c=50∨c=52→(c=52→goodN n=true∧fnd n g.names 0=none)→K none c w)
  (h1:∀A e B,g.ents=A++e::B→e.name=n→(∀x∈A,x.name≠n)→askA n g.abs=(0,some e.bl)→K (some (e.bb,0)) 0 w) :
  callK Pg c_84 [Ap (some (g.bs,0)),Au n] w (.tup [Lp,Li]) K:=by
 refine go_84 _ _ _ _ ?_;refine goodName_ok n ?_;refine Iq (fun hb=>?_) fun hb=>?_
 ·have hg:goodN n=false:=by simpa using hb
  exact h0 50 (ask_bad hg) (.inl rfl) (fun h=>by cases h)
 have hg:goodN n=true:=by simpa using hb
 refine Dq ?_;refine h.ldHd (k:=.map) (some g.r) rfl ?_;refine lookup_names h.nm n (fun j b hf=>?_) fun hf=>?_
 ·refine ifK_f rfl ?_;obtain⟨A,e,B,h2,h3,h4,_,h6⟩:=names_fnd hf;subst h4;exact h1 A e B h2 h3 h6 (ask_some hg h2 h3 h6)
 ·refine ifK_t rfl ?_;have hne:∀x∈g.ents,x.name≠n:=fun x hx=>fnd_none hf (x.name,x.bb) (List.mem_map_of_mem (f:=fun e:En=>(e.name,e.bb)) hx);exact h0 52 (ask_none hg hne) (.inr rfl) fun _=>⟨hg,hf⟩
def writeA(n:Str)(a:Abs):Int×Option Bl:=match askA n a with
 | (c,none)=>(c,none)
 | (_,some b)=>if b.out then (54,none) else if b.stopped then (55,none) else (0,some b)
def readA(n:Str)(a:Abs):Int×Option Bl:=match askA n a with
 | (c,none)=>(c,none)
 | (_,some b)=>if b.out then (0,some b) else (53,none)
theorem askA_c{n:Str}{a:Abs}{c:Int}(h:askA n a=(c,none)):c≠0:=by
 unfold askA at h;split at h
 ·cases h;decide
 ·split at h
  ·cases h;decide
  ·cases h
theorem writable_ok(h:StA w0 m s g w)(n:Str){K:PA→Int→Wp}(h0:∀c,writeA n g.abs=(c,none)→c≠0→K none c w)
  (h1:∀A e B,g.ents=A++e::B→e.name=n→(∀x∈A,x.name≠n)→writeA n g.abs=(0,some e.bl)→e.bl.out=false→e.bl.stopped=false→K (some (e.bb,0)) 0 w) :
  callK Pg c_85 [Ap (some (g.bs,0)),Au n] w (.tup [Lp,Li]) K:=by
 refine go_85 _ _ _ _ ?_;refine sfind_ok h n (fun c hc _ _=>?_) fun A e B he hn hA ha=>?_
 ·have:=askA_c hc;refine ifK_t (by simpa using this) (h0 c (by unfold writeA;rw [hc]) this)
 refine ifK_f rfl (Dq (h.ldE he (k:=.bool) e.bl.out rfl ?_));refine Iq (fun ho=>h0 54 (by unfold writeA;rw [ha];simp [ho]) (by decide)) fun ho=>Dq (h.ldE he (k:=.bool) e.bl.stopped rfl ?_);refine Iq (fun hs=>h0 55 (by unfold writeA;rw [ha];simp [ho,hs]) (by decide)) fun hs=>?_;exact h1 A e B he hn hA (by unfold writeA;rw [ha];simp [ho,hs]) ho hs
theorem readable_ok(h:StA w0 m s g w)(n:Str){K:PA→Int→Wp}(h0:∀c,readA n g.abs=(c,none)→c≠0→K none c w)
  (h1:∀A e B,g.ents=A++e::B→e.name=n→(∀x∈A,x.name≠n)→readA n g.abs=(0,some e.bl)→e.bl.out=true→K (some (e.bb,0)) 0 w) :
  callK Pg c_86 [Ap (some (g.bs,0)),Au n] w (.tup [Lp,Li]) K:=by
 refine go_86 _ _ _ _ ?_;refine sfind_ok h n (fun c hc _ _=>?_) fun A e B he hn hA ha=>?_
 ·have:=askA_c hc;refine ifK_t (by simpa using this) (h0 c (by unfold readA;rw [hc]) this)
 refine ifK_f rfl (Dq (h.ldE he (k:=.bool) e.bl.out rfl ?_));refine Iq (fun ho=>h0 53 (by unfold readA;rw [ha];simp at ho;simp [ho]) (by decide)) fun ho=>?_;have ho':e.bl.out=true:=by simpa using ho
 exact h1 A e B he hn hA (by unfold readA;rw [ha];simp [ho']) ho'
structure Nx(w0:World)(m:List (Nat×List Value))(s:Int)(g:SG)(w:World)(a:Abs)(t:Int×Int×Int)(g':SG)(w':World):Prop where
 st:StA w0 m s g' w'
 bs:g'.bs=g.bs
 r:g'.r=g.r
 mod:Mod g.D w w'
 abs:g'.abs=a
 mt:g'.mt=t
theorem D_bs(g:SG):g.D g.bs:=.inl rfl
theorem D_r(g:SG):g.D g.r:=.inr (.inl rfl)
theorem D_bb{A B:List En}{e:En}(he:g.ents=A++e::B):g.D e.bb:=.inr (.inr ⟨e.blk,by rw [he,owns_append];simp [owns],rfl⟩)
theorem D_ro{A B:List En}{e:En}(he:g.ents=A++e::B){b:Nat}(hb:Ks e.ro b):g.D b:=by
 obtain⟨q,hq,rfl⟩:=hb;exact .inr (.inr ⟨q,by rw [he,owns_append];simp [owns,hq],rfl⟩)
theorem modD{D D':Nat→Prop}{a b c:World}(h:Mod D a b)(k:Mod D' b c)(hd:∀x,x<a.heap.size→D' x→D x):Mod D a c:=h.trans k (fun _ _ h=>h) hd
theorem lock_ok(h:StA w0 m 0 g w){K:Wp}(hK:∀w',Nx w0 m 1 g w g.abs g.mt g w'→Mod (fun b=>b=g.bs) w w'→K w'):callK Pg c_76 [Ap (some (g.bs,0))] w (.tup []) K:=by
 refine lock_raw (by rw [h.hdBlk.cell];rfl) (h.hdBlk.frz _) (hK _ ⟨h.setHd (g':=g) (s':=1) (o:=0) (vs:=[.int .i32 1]) rfl rfl rfl rfl,rfl,rfl,(Mod.setCells ..).mono fun x _ e=>e▸D_bs g,rfl,rfl⟩ (Mod.setCells ..))
theorem unlock_ok{a:Abs}{t:Int×Int×Int}{g':SG}{w':World}(h:Nx w0 m 1 g w a t g' w'){K:Wp}(hK:∀w'',Nx w0 m 0 g w a t g' w''→Mod (fun b=>b=g.bs) w' w''→K w''):callsK Pg [(c_77,[Ap (some (g.bs,0))],[])] w' K:=by
 have hb:Blk w' g.bs (g'.hd 1).2:=by rw [←h.bs];exact h.st.hdBlk
 have h2:=h.st.setHd (g':=g') (s':=0) (o:=0) (vs:=[.int .i32 0]) rfl rfl rfl rfl;rw [h.bs] at h2;exact unlock_raw (by rw [hb.cell];rfl) (hb.frz _) (hK _ ⟨h2,h.bs,h.r,modD h.mod (Mod.setCells ..) fun x _ e=>e▸D_bs g,h.abs,h.mt⟩ (Mod.setCells ..))
theorem new_ok(hA:At w0 F0 m w){K:PA→Wp}(hK:∀g w',StA w0 m 0 g w'→Mod F0 w w'→g.abs=[]→g.mt=(0,0,0)→w.heap.size≤g.bs→w.heap.size≤g.r→g.ents=[]→K (some (g.bs,0)) w'):callK Pg c_87 [] w Oq K:=by
 refine go_87 _ _ ?_;refine make_names fun w1 hN hM _=>?_;have hA1:At w0 F0 m w1:=hA.keep0 hM fun _=>id;refine hA1.alK fun b w2 hb hA2 hM2=>?_;have hge:w.heap.size≤b:=by rw [hb];exact hM.size
 refine hK ⟨b,w.heap.size,[],0,0,0⟩ w2 ⟨by simpa [owns,SG.hd,LV.toV] using hA2,hN.keep hM2 id,hA.mod.size,fun e he=>by cases he⟩ (mod0 hM hM2) rfl rfl hge (Nlr _) rfl
def createA(n:Str)(a:Abs):Int×Abs:=match askA n a with
 | (_,some _)=>(51,a)
 | (c,none)=>if c=52 then (0,a++[(n,Bl.new)]) else (c,a)
theorem create_ok(h:StA w0 m 0 g w)(n:Str){K:Int→Wp}(hK:∀g' w',Nx w0 m 0 g w (createA n g.abs).2 g.mt g' w'→K (createA n g.abs).1 w') :
  callK Pg c_88 [Ap (some (g.bs,0)),Au n] w Oi K:=by
 refine go_88 _ _ _ _ ?_;refine ifK_f rfl (Dq (lock_ok h fun w1 h1 _=>Dq ?_));refine sfind_ok h1.st n (fun c hc hc2 hf=>?_) fun A e B he hn hA ha=>?_
 ·refine ifK_f (by simpa using askA_c hc) ?_;refine Iq (fun h52=>?_) fun h52=>?_
  ·have h52:c=52:=by simpa using h52
   subst h52;obtain⟨hg,hf⟩:=hf rfl;have e1:createA n g.abs=(0,g.abs++[(n,Bl.new)]):=by unfold createA;rw [hc];simp
   rw [e1] at hK;refine Dq (h1.st.ldHd (k:=.map) (some g.r) rfl ?_);refine h1.st.at_.alK fun b w2 hb hA2 hM2=>?_;refine update_names (h1.st.nm.keep hM2 id) hf fun w3 hN hM3=>?_;have hst:=h1.st.addE (n:=n) (b:=b) hA2 hM2 hN hM3;have hnx:Nx w0 m 1 g w (g.abs++[(n,Bl.new)]) g.mt {g with ents:=g.ents++[⟨n,b,⟨none,0,0⟩,[],Bl.new⟩]} w3:=
    ⟨hst,rfl,rfl,modD (modD h1.mod hM2 fun _ _ h=>h.elim) hM3 fun x _ e=>e▸D_r g,by simp [SG.abs],rfl⟩
   exact unlock_ok hnx fun w4 h4 _=>hK _ _ h4
  ·have h52:c≠52:=by simpa using h52
   have e1:createA n g.abs=(c,g.abs):=by unfold createA;rw [hc];simp [h52]
   rw [e1] at hK;exact unlock_ok h1 fun w4 h4 _=>hK _ _ h4
 ·have e1:createA n g.abs=(51,g.abs):=by unfold createA;rw [ha]
  rw [e1] at hK;exact ifK_t rfl (unlock_ok h1 fun w4 h4 _=>hK _ _ h4)
end
theorem clone_ok{w0 w:World}{m:List (Nat×List Value)}{s:Sl}{l:List Int}(hA:At w0 F0 m w)(hr:RdS w EU s l)(hl:l.length≤1099511627776){K:Sl→Wp}
  (hK:∀a ro w',At w0 F0 (m++ro) w'→VecL ro EU a l→Mod F0 w w'→K a w'):callK Pg c_89 [Az s] w Oz K:=by
 refine go_89 _ _ _ ?_;refine Iq (fun h=>?_) fun h=>?_
 ·have hp:s.p=none:=by simpa using h
  have:l=[]:=by
   rcases hr.rd with h | ⟨b,o,hb,_⟩
   ·have:=congrArg List.length h;rw [EU.cells_length] at this;exact List.eq_nil_of_length_eq_zero (by simpa [EU] using this)
   ·rw [hp] at hb;cases hb
  subst this;exact hK _ [] w (by simpa using hA) (VecL.nil EU) (Mod.refl _ _)
 ·refine hA.alK fun b w1 _ hA1 hM1=>?_;refine appL (m:=m) (ro:=[(b,[])]) (l:=([]:List Int)) hA1 (E:=EU) ⟨rfl,Nlr _,.inr ⟨b,[],rfl,rfl,by simp⟩⟩ (hr.keep hM1 fun _ _=>id) rfl rfl (by simp;omega) fun a ro w2 hA2 hv hM2 _=>?_;have hge:∀x,x<w.heap.size→¬Ks [(b,([]:List Value))] x:=by
   rintro x hx ⟨q,hq,rfl⟩;simp at hq;subst hq;omega
  exact hK a ro w2 hA2 hv (hM1.trans hM2 (fun _ _ h=>h) hge)
section
variable {w0 w:World}{m:List (Nat×List Value)}{g:SG}
theorem abs_put{n:Str}{A B:List En}{e:En}{sl':Sl}{ro':List (Nat×List Value)}{b':Bl}(he:g.ents=A++e::B)(hn:e.name=n)(hA:∀x∈A,x.name≠n):({g with ents:=A++⟨e.name,e.bb,sl',ro',b'⟩::B}:SG).abs=putA n b' g.abs:=by
 unfold SG.abs;rw [he,abs_mid,abs_mid,hn,putA_mid fun x hx=>by obtain⟨y,hy,rfl⟩:=List.mem_map.1 hx;exact hA y hy]
theorem Nx.of{w':World}{g':SG}{w2:World}{a:Abs}{t:Int×Int×Int}{D:Nat→Prop}(h:Nx w0 m 1 g w a t g' w'){g2:SG}(hst:StA w0 m 1 g2 w2)(hb:g2.bs=g'.bs)(hr:g2.r=g'.r)(hM:Mod D w' w2)(hD:∀x,x<w.heap.size→D x→g.D x):Nx w0 m 1 g w g2.abs g2.mt g2 w2:=
 ⟨hst,hb.trans h.bs,hr.trans h.r,modD h.mod hM hD,rfl,rfl⟩
theorem Nx.cast{s:Int}{a a':Abs}{t t':Int×Int×Int}{g':SG}{w':World}(h:Nx w0 m s g w a t g' w')(ha:a=a')(ht:t=t'):Nx w0 m s g w a' t' g' w':=by subst ha;subst ht;exact h
def appendA(n:Str)(d:List Int)(a:Abs):Int×Abs:=match writeA n a with
 | (c,none)=>(c,a)
 | (_,some b)=>if 268435456<b.data.length+d.length then (57,a) else
  if b.stops=true∧b.stop<b.data.length+d.length then (55,putA n {b with data:=b.data++d.take (b.stop-b.data.length).toNat,stopped:=true} a) else (0,putA n {b with data:=b.data++d} a)
theorem append_ok(h:StA w0 m 0 g w)(n:Str){b:Sl}{d:List Int}(hd:∀w',At w0 F0 m w'→RdS w' EU b d)(hl:d.length≤1099511627776)(hby:∀x∈d,0≤x∧x<256){K:Int→Wp}(hK:∀g' w',Nx w0 m 0 g w (appendA n d g.abs).2 g.mt g' w'→K (appendA n d g.abs).1 w') :
  callK Pg c_90 [Ap (some (g.bs,0)),Au n,Az b] w Oi K:=by
 refine go_90 _ _ _ _ _ ?_;refine ifK_f rfl (Dq (lock_ok h fun w1 h1 _=>Dq ?_));have hblen:b.len=d.length:=(hd w h.side).len;refine writable_ok h1.st n (fun c hc hc0=>?_) fun A e B he hn hA ha ho hs=>?_
 ·have e1:appendA n d g.abs=(c,g.abs):=by unfold appendA;rw [hc]
  rw [e1] at hK;exact ifK_t (by simpa using hc0) (unlock_ok h1 fun w4 h4 _=>hK _ _ h4)
 refine ifK_f rfl (Dq (h1.st.ldE he (k:=.sl) e.sl rfl ?_));have hok:=h1.st.okOf he;have hv:=h1.st.vecOf he;have hsl:e.sl.len=e.bl.data.length:=hv.1;have hk3:=hok.len;have hsum:w64 ((e.sl.len:Int)+(b.len:Int))=((e.bl.data.length+d.length:Nat):Int):=by rw [Wq (by omega) (by omega)];omega
 rw [hsum];refine Iq (fun hbig=>?_) fun hbig=>?_
 ·have hbig:268435456<e.bl.data.length+d.length:=by simp only [Det] at hbig;omega
  have e1:appendA n d g.abs=(57,g.abs):=by unfold appendA;rw [ha];simp [hbig]
  rw [e1] at hK;exact unlock_ok h1 fun w4 h4 _=>hK _ _ h4
 have hbig:¬268435456<e.bl.data.length+d.length:=by simp only [decide_eq_false_iff_not] at hbig;omega
 have hD:∀x,x<w.heap.size→(x=e.bb∨Ks e.ro x)→g.D x:=fun x _ hx=>by
  rcases hx with rfl | hx
  ·exact D_bb he
  ·exact D_ro he hx
 refine join1 (fun c u=>u=w1.drew∧(c=true↔e.bl.stops=true∧e.bl.stop<((e.bl.data.length+d.length:Nat):Int))) ?_ ?_
 ·intro k hk;refine⟨F0,Dq (h1.st.drew.ldDE he (k:=.bool) e.bl.stops id rfl ?_)⟩;refine Iq (fun h2=>Dq (h1.st.drew.ldDE he (k:=.sl) e.sl id rfl (Dq (h1.st.drew.ldDE he (k:=Ki) e.bl.stop id rfl ?_)))) fun h2=>?_
  ·rw [hsum];exact hk _ _ ⟨rfl,by simp only [Det];exact⟨fun x=>⟨h2,x⟩,fun x=>x.2⟩⟩
  ·exact hk _ _ ⟨rfl,by simp [h2]⟩
 rintro c u ⟨rfl,hc⟩;have hst1:=h1.st.drew;refine Iq (fun h2=>?_) fun h2=>?_
 ·obtain⟨hs1,hs2⟩:=hc.1 h2;have e1:appendA n d g.abs=(55,putA n {e.bl with data:=e.bl.data++d.take (e.bl.stop-e.bl.data.length).toNat,stopped:=true} g.abs):=by
   unfold appendA;rw [ha];simp only [if_neg hbig];rw [if_pos ⟨hs1,by omega⟩]
  rw [e1] at hK;refine⟨F0,Dq (hst1.drew.ldDE he (k:=Ki) e.bl.stop id rfl (Dq (hst1.drew.ldDE he (k:=.sl) e.sl id rfl ?_)))⟩;have hst3:=hst1.drew.drew;refine⟨Ks e.ro,Dq (hst3.ldDE he (k:=.sl) e.sl (hst3.bbNe he) rfl ?_)⟩;have hlo:=hok.lo;have hhi:=hok.hi;have hmx:mxI (w64 (e.bl.stop-(e.sl.len:Int))) 0=((e.bl.stop-e.bl.data.length).toNat:Int):=by
   rw [Wq (by omega) (by omega)];unfold mxI;split<;>omega
  rw [hmx];have hrd:=hd _ hst3.side;generalize hq:(e.bl.stop-e.bl.data.length).toNat=q at *;have hqd:q≤d.length:=by omega
  refine hrd.slx hqd 1 ?_;have hrd2:RdS w1.drew.drew.drew EU (b.cut 1 0 q b.cap) ((d.take q).drop 0):=RdS.cutR hrd (lo:=0) (hi:=q) (mx:=b.cap) (Nzl _) hqd (by have:=hrd.has;have:=hrd.len;omega);rw [List.drop_zero] at hrd2;refine appL (hst3.focus he) hv hrd2 rfl rfl (by simp;omega) fun s' ro' w4 hA4 hv4 hM4 _=>⟨hM4,Dq ?_⟩;have hby':∀x∈e.bl.data++d.take q,0≤x∧x<256:=fun x hx=>by
   rcases Lma.1 hx with hx | hx
   ·exact hok.byte x hx
   ·exact hby x (List.mem_of_mem_take hx)
  have hlen':(e.bl.data++d.take q).length≤268435456:=by simp;omega
  refine hst3.stA he hA4 hM4 (o:=0) (vs:=[.sl s']) (b':={e.bl with data:=e.bl.data++d.take q}) (sl':=s') rfl hv4 ⟨hok.lo,hok.hi,hlen',hby'⟩ (by simp) fun w5 h5 hM5=>Dq ?_;refine h5.stE (e:=⟨e.name,e.bb,s',ro',{e.bl with data:=e.bl.data++d.take q}⟩) (A:=A) (B:=B) rfl (o:=4) (vs:=[.lit true]) (b':={e.bl with data:=e.bl.data++d.take q,stopped:=true}) (sl':=s') rfl hv4 ⟨hok.lo,hok.hi,hlen',hby'⟩ (by simp) fun w6 h6 hM6=>?_;have hM36:Mod (fun x=>x=e.bb∨Ks e.ro x) w1 w6:=(mod0 (mod0 (Mq w1) (Mq _)) (Mq _)).trans (hM5.trans hM6 (fun _ _ h=>h) fun _ _ h=>.inl h) (fun _ _ h=>h.elim) fun _ _ h=>h;have hn6:=h1.of h6 rfl rfl hM36 hD;have ea:=abs_put (g:=g) (sl':=s') (ro':=ro') (b':={e.bl with data:=e.bl.data++d.take q,stopped:=true}) he hn hA;refine unlock_ok hn6 fun w7 h7 _=>hK _ _ (h7.cast ea rfl)
 ·have hns:¬(e.bl.stops=true∧e.bl.stop<e.bl.data.length+d.length):=fun x=>by rw [hc.2 ⟨x.1,by have:=x.2;omega⟩] at h2;cases h2
  have e1:appendA n d g.abs=(0,putA n {e.bl with data:=e.bl.data++d} g.abs):=by
   unfold appendA;rw [ha];simp only [if_neg hbig];rw [if_neg hns]
  rw [e1] at hK;refine Dq (hst1.ldE he (k:=.sl) e.sl rfl ?_);have hby':∀x∈e.bl.data++d,0≤x∧x<256:=fun x hx=>by
   rcases Lma.1 hx with hx | hx
   ·exact hok.byte x hx
   ·exact hby x hx
  have hlen':(e.bl.data++d).length≤268435456:=by simp;omega
  refine appL (hst1.focus he) hv (hd _ hst1.side) rfl rfl (by omega) fun s' ro' w4 hA4 hv4 hM4 _=>Dq ?_;refine hst1.stA he hA4 hM4 (o:=0) (vs:=[.sl s']) (b':={e.bl with data:=e.bl.data++d}) (sl':=s') rfl hv4 ⟨hok.lo,hok.hi,hlen',hby'⟩ (by simp) fun w5 h5 hM5=>?_;have hM15:Mod (fun x=>x=e.bb∨Ks e.ro x) w1 w5:=(Mq w1).trans hM5 (fun _ _ h=>h.elim) fun _ _ h=>h;have hn6:=h1.of h5 rfl rfl hM15 hD;have ea:=abs_put (g:=g) (sl':=s') (ro':=ro') (b':={e.bl with data:=e.bl.data++d}) he hn hA;refine unlock_ok hn6 fun w7 h7 _=>hK _ _ (h7.cast ea rfl)
def publishA(n:Str)(a:Abs):Int×Abs:=match writeA n a with
 | (c,none)=>(c,a)
 | (_,some b)=>if b.stops then (55,putA n {b with stopped:=true} a) else (0,putA n {b with out:=true} a)
theorem publish_ok(h:StA w0 m 0 g w)(n:Str){K:Int→Wp}(hK:∀g' w',Nx w0 m 0 g w (publishA n g.abs).2 g.mt g' w'→K (publishA n g.abs).1 w') :
  callK Pg c_91 [Ap (some (g.bs,0)),Au n] w Oi K:=by
 refine go_91 _ _ _ _ ?_;refine ifK_f rfl (Dq (lock_ok h fun w1 h1 _=>Dq ?_));refine writable_ok h1.st n (fun c hc hc0=>?_) fun A e B he hn hA ha ho hs=>?_
 ·have e1:publishA n g.abs=(c,g.abs):=by unfold publishA;rw [hc]
  rw [e1] at hK;exact ifK_t (by simpa using hc0) (unlock_ok h1 fun w4 h4 _=>hK _ _ h4)
 refine ifK_f rfl (Dq (h1.st.ldE he (k:=.bool) e.bl.stops rfl ?_));have hok:=h1.st.okOf he;have hv:=h1.st.vecOf he;have hD:∀x,x<w.heap.size→x=e.bb→g.D x:=fun x _ hx=>hx▸D_bb he;refine Iq (fun h2=>?_) fun h2=>?_
 ·have e1:publishA n g.abs=(55,putA n {e.bl with stopped:=true} g.abs):=by unfold publishA;rw [ha];simp [h2]
  rw [e1] at hK;refine Dq (h1.st.stE he (o:=4) (vs:=[.lit true]) (b':={e.bl with stopped:=true}) (sl':=e.sl) rfl hv ⟨hok.lo,hok.hi,hok.len,hok.byte⟩ (by simp) fun w5 h5 hM5=>?_);refine unlock_ok (h1.of h5 rfl rfl hM5 hD) fun w7 h7 _=>hK _ _ (h7.cast (abs_put (g:=g) (sl':=e.sl) (ro':=e.ro) he hn hA) rfl)
 ·have e1:publishA n g.abs=(0,putA n {e.bl with out:=true} g.abs):=by unfold publishA;rw [ha];simp [h2]
  rw [e1] at hK;refine Dq (h1.st.stE he (o:=1) (vs:=[.lit true]) (b':={e.bl with out:=true}) (sl':=e.sl) rfl hv ⟨hok.lo,hok.hi,hok.len,hok.byte⟩ (by simp) fun w5 h5 hM5=>?_);refine unlock_ok (h1.of h5 rfl rfl hM5 hD) fun w7 h7 _=>hK _ _ (h7.cast (abs_put (g:=g) (sl':=e.sl) (ro':=e.ro) he hn hA) rfl)
end
section
variable {w0 w:World}{m:List (Nat×List Value)}{s:Int}{g:SG}
theorem StA.beside(h:StA w0 m s g w){ro:List (Nat×List Value)}{w':World}(hA:At w0 F0 (((m++[g.hd s])++owns g.ents)++ro) w')(hM:Mod F0 w w'):StA w0 (m++ro) s g w':=by
 refine⟨hA.perm ?_,h.nm.keep hM id,h.old,h.vec⟩;simp only [Laa];refine List.Perm.append_left _ ?_;rw [←Laa [g.hd s]];exact Lpc
theorem StA.permM{m':List (Nat×List Value)}(h:StA w0 m s g w)(hs:m'.Perm m):StA w0 m' s g w:=
 ⟨h.at_.perm ((hs.append_right _).append_right _),h.nm,h.old,h.vec⟩
theorem StA.alS(h:StA w0 m s g w){e:TypeId}{cs:List LV}{K:Nat→Wp}(hK:∀b w',b=w.heap.size→StA w0 (m++[(b,cs.map LV.toV)]) s g w'→Mod F0 w w'→K b w'):Go.Vw.al w e cs K:=
 h.at_.alK fun b w' hb hA hM=>hK b w' hb (h.beside hA hM) hM
theorem StA.neS{p:Nat×List Value}(h:StA w0 m s g w)(hp:p∈m):p.1≠g.bs:=by
 obtain⟨i,hi⟩:=List.mem_iff_getElem?.1 hp;have hlt:i<m.length:=(Les.1 hi).1;exact h.at_.ne (i:=i) (j:=m.length) (b:=p.1) (c:=p.2) (b':=g.bs) (c':=(g.hd s).2) (by rw [Laa,Lgl hlt,hi]) (by simp;rfl) (by omega)
theorem StA.notD{p:Nat×List Value}(h:StA w0 m s g w)(hp:p∈m):¬g.D p.1:=by
 rintro (e | e | e)
 ·exact h.neS hp e
 ·exact h.far (p:=p) (by simp [hp]) e
 ·have h1:At w0 F0 ((m++[g.hd s])++owns g.ents) w:=h.at_;exact h1.notKs (p:=p) (by simp [hp]) e
def sizeA(n:Str)(a:Abs):Int×Int:=match readA n a with
 | (c,none)=>(0,c)
 | (_,some b)=>(b.data.length,0)
theorem size_ok(h:StA w0 m 0 g w)(n:Str){K:Int→Int→Wp}(hK:∀g' w',Nx w0 m 0 g w g.abs g.mt g' w'→K (sizeA n g.abs).1 (sizeA n g.abs).2 w') :
  callK Pg c_80 [Ap (some (g.bs,0)),Au n] w (.tup [Li,Li]) K:=by
 refine go_80 _ _ _ _ ?_;refine ifK_f rfl (Dq (lock_ok h fun w1 h1 _=>Dq ?_));refine readable_ok h1.st n (fun c hc hc0=>?_) fun A e B he hn hA ha ho=>?_
 ·have e1:sizeA n g.abs=(0,c):=by unfold sizeA;rw [hc]
  rw [e1] at hK;exact ifK_t (by simpa using hc0) (unlock_ok h1 fun w4 h4 _=>hK _ _ h4)
 ·have e1:sizeA n g.abs=((e.bl.data.length:Int),0):=by unfold sizeA;rw [ha]
  rw [e1] at hK;refine ifK_f rfl (Dq (h1.st.ldE he (k:=.sl) e.sl rfl (unlock_ok h1 fun w4 h4 _=>?_)));rw [(h1.st.vecOf he).1];exact hK _ _ h4
def readS(n:Str)(at_ k:Int)(a:Abs)(t:Int×Int×Int):Int×List Int×(Int×Int×Int):=
 if goodN n=false then (50,[],t) else if k<0 then (3,[],t) else match readA n a with
 | (c,none)=>(c,[],t)
 | (_,some b)=>if at_<0∨(b.data.length:Int)<at_ then (56,[],t) else
  (0,(b.data.drop at_.toNat).take k.toNat,(w64 (t.1+1),w64 (t.2.1+((b.data.drop at_.toNat).take k.toNat).length),mxI t.2.2 ((b.data.drop at_.toNat).take k.toNat).length))
theorem Nx.side0{a:Abs}{t:Int×Int×Int}{g':SG}{w':World}(h:Nx w0 m s g w a t g' w'):Nx w0 (m++[]) s g w a t g' w':=by rw [Lan];exact h
theorem read_ok(h:StA w0 m 0 g w)(n:Str)(at_ k:Int)(hat:at_≤9223372036854775807){K:Sl→Int→Wp}
  (hK:∀sl ro g' w',Nx w0 (m++ro) 0 g w g.abs (readS n at_ k g.abs g.mt).2.2 g' w'→VecL ro EU sl (readS n at_ k g.abs g.mt).2.1→K sl (readS n at_ k g.abs g.mt).1 w') :
  callK Pg c_79 [Ap (some (g.bs,0)),Au n,Ai at_,Ai k] w (.tup [Ls,Li]) K:=by
 refine go_79 _ _ _ _ _ _ ?_;refine ifK_f rfl (Dq (lock_ok h fun w1 h1 _=>Dq ?_));refine goodName_ok n ?_;refine Iq (fun hb=>?_) fun hb=>?_
 ·have e1:readS n at_ k g.abs g.mt=(50,[],g.mt):=by unfold readS;rw [if_pos (by simpa using hb)]
  rw [e1] at hK;exact unlock_ok h1 fun w4 h4 _=>hK _ [] _ _ h4.side0 (VecL.nil EU)
 have hg:¬goodN n=false:=by simpa using hb
 refine Iq (fun hk=>?_) fun hk=>?_
 ·have hk:k<0:=by simpa using hk
  have e1:readS n at_ k g.abs g.mt=(3,[],g.mt):=by unfold readS;rw [if_neg hg,if_pos hk]
  rw [e1] at hK;exact unlock_ok h1 fun w4 h4 _=>hK _ [] _ _ h4.side0 (VecL.nil EU)
 have hk:¬k<0:=by simpa using hk
 refine readable_ok h1.st n (fun c hc hc0=>?_) fun A e B he hn hA ha ho=>?_
 ·have e1:readS n at_ k g.abs g.mt=(c,[],g.mt):=by unfold readS;rw [if_neg hg,if_neg hk,hc]
  rw [e1] at hK;exact ifK_t (by simpa using hc0) (unlock_ok h1 fun w4 h4 _=>hK _ [] _ _ h4.side0 (VecL.nil EU))
 refine ifK_f rfl ?_;have hv:=h1.st.vecOf he;have hsl:e.sl.len=e.bl.data.length:=hv.1;have hcap:=hv.2.1;have hk3:=(h1.st.okOf he).len;refine join1 (fun c u=>u=w1∧(c=true↔at_<0∨(e.bl.data.length:Int)<at_)) ?_ ?_
 ·intro k2 hk2;refine Iq (fun h2=>hk2 _ _ ⟨rfl,?_⟩) fun h2=>Dq (h1.st.ldE he (k:=.sl) e.sl rfl (hk2 _ _ ⟨rfl,?_⟩))
  ·have h2:at_<0:=by simpa using h2
   exact⟨fun _=>.inl h2,fun _=>rfl⟩
  ·have h2:¬at_<0:=by simpa using h2
   rw [Det,hsl];omega
 rintro c u ⟨rfl,hc⟩;refine Iq (fun h2=>?_) fun h2=>?_
 ·have e1:readS n at_ k g.abs g.mt=(56,[],g.mt):=by unfold readS;rw [if_neg hg,if_neg hk,ha];simp only;rw [if_pos (hc.1 h2)]
  rw [e1] at hK;exact unlock_ok h1 fun w4 h4 _=>hK _ [] _ _ h4.side0 (VecL.nil EU)
 have h2:¬(at_<0∨(e.bl.data.length:Int)<at_):=fun x=>by rw [hc.2 x] at h2;cases h2
 have e1:readS n at_ k g.abs g.mt=(0,(e.bl.data.drop at_.toNat).take k.toNat,(w64 (g.m1+1),w64 (g.m2+((e.bl.data.drop at_.toNat).take k.toNat).length),mxI g.m3 ((e.bl.data.drop at_.toNat).take k.toNat).length)):=by
  unfold readS;rw [if_neg hg,if_neg hk,ha];simp only;rw [if_neg h2];rfl
 rw [e1] at hK;generalize hq:at_.toNat=q at *;have hqa:(q:Int)=at_:=by omega
 have hqd:q≤e.bl.data.length:=by omega
 refine Dq (h1.st.ldE he (k:=.sl) e.sl rfl ⟨q,e.sl.len,e.sl.cap,hqa,rfl,rfl,by omega,hcap,Nlr _,?_⟩);have hlen2:(e.sl.cut 1 q e.sl.len e.sl.cap).len=e.bl.data.length-q:=by simp [Sl.cut,hsl]
 have hcap2:(e.sl.cut 1 q e.sl.len e.sl.cap).cap=e.sl.cap-q:=by simp [Sl.cut]
 generalize hnn:((e.bl.data.drop q).take k.toNat).length=nn at *;have hnn':nn=min k.toNat (e.bl.data.length-q):=by rw [←hnn];simp
 have hmn:mnI k ((e.sl.cut 1 q e.sl.len e.sl.cap).len:Int)=(nn:Int):=by rw [hlen2,hnn'];unfold mnI;split<;>omega
 simp only [hmn];refine Dq (h1.st.ldHd (k:=Ki) g.m1 rfl (Dq ?_));refine h1.st.stHd (g':={g with m1:=w64 (g.m1+1)}) (s':=1) rfl rfl rfl rfl (by simp) fun w2 hs2 hM2=>Dq (hs2.ldHd (k:=Ki) g.m2 rfl (Dq ?_));refine hs2.stHd (g':={g with m1:=w64 (g.m1+1),m2:=w64 (g.m2+nn)}) (s':=1) rfl rfl rfl rfl (by simp) fun w3 hs3 hM3=>Dq (hs3.ldHd (k:=Ki) g.m3 rfl (Dq ?_));refine hs3.stHd (g':={g with m1:=w64 (g.m1+1),m2:=w64 (g.m2+nn),m3:=mxI g.m3 nn}) (s':=1) rfl rfl rfl rfl (by simp) fun w4 hs4 hM4=>?_;have hM14:Mod (fun b=>b=g.bs) u w4:=(hM2.trans hM3 (fun _ _ h=>h) fun _ _ h=>h).trans hM4 (fun _ _ h=>h) fun _ _ h=>h;have hnx:=h1.of hs4 rfl rfl hM14 fun x _ e=>e▸D_bs g;have hr4:RdS w4 EU e.sl e.bl.data:=hs4.rdOf (A:=A) (B:=B) he;have hr5:RdS w4 EU (e.sl.cut 1 q e.sl.len e.sl.cap) ((e.bl.data.take e.sl.len).drop q):=RdS.cutR hr4 (by omega) (by omega) (by omega);have hr6:RdS w4 EU ((e.sl.cut 1 q e.sl.len e.sl.cap).cut 1 0 nn nn) ((((e.bl.data.take e.sl.len).drop q).take nn).drop 0):=RdS.cutR hr5 (Nzl _) (by simp;omega) (Nlr _);have hl6:((((e.bl.data.take e.sl.len).drop q).take nn).drop 0)=(e.bl.data.drop q).take k.toNat:=by
  rw [List.drop_zero,hsl,List.take_length,←hnn,Llt];exact List.take_eq_take_min.symm
 rw [hl6] at hr6;refine⟨0,nn,nn,rfl,rfl,rfl,Nzl _,Nlr _,by rw [hcap2];omega,?_⟩;refine clone_ok hs4.at_ hr6 (by rw [hnn];omega) fun sl ro w5 hA5 hv5 hM5=>?_;have hs5:=hs4.beside hA5 hM5;have hn5:Nx w0 (m++ro) 1 g w _ _ _ w5:=⟨hs5,rfl,rfl,modD hnx.mod hM5 fun _ _ h=>h.elim,rfl,rfl⟩;exact unlock_ok hn5 fun w6 h6 _=>hK sl ro _ _ h6 hv5
end
def ERb:Enc (Str×Sl×Bl):=⟨6,fun x=>[(LV.str x.1).toV,(LV.sl x.2.1).toV,.bool x.2.2.out,.bool x.2.2.stopped,.bool x.2.2.stops,.int .i64 x.2.2.stop],fun _=>rfl,by decide,fun x v h=>by simp at h;rcases h with rfl | rfl | rfl | rfl | rfl | rfl<;>rfl⟩
structure RG where
 q:Nat
 lS:Sl
 rL:BL
 es:List (Str×Sl×Bl)
 ros:List BL
 m1:Int
 m2:Int
 m3:Int
def RG.qc(g:RG):List Value:=[(LV.sl g.lS).toV,.int .i64 g.m1,.int .i64 g.m2,.int .i64 g.m3]
def RG.parts(g:RG):List BL:=[(g.q,g.qc)]::g.rL::g.ros
def RG.abs(g:RG):Abs:=g.es.map fun x=>(x.1,x.2.2)
def RG.mt(g:RG):Int×Int×Int:=(g.m1,g.m2,g.m3)
structure RG.okB(g:RG)(i:Nat):Prop where
 vL:VecL g.rL ERb g.lS g.es
 n:g.ros.length=g.es.length
 len:g.es.length≤1073741824
 vec:∀(k:Nat) x r,k≠i→g.es[k]? = some x→g.ros[k]? = some r→VecL r EU x.2.1 x.2.2.data∧x.2.2.ok
structure RG.ok(g:RG):Prop where
 vL:VecL g.rL ERb g.lS g.es
 n:g.ros.length=g.es.length
 len:g.es.length≤1073741824
 vec:∀(k:Nat) x r,g.es[k]? = some x→g.ros[k]? = some r→VecL r EU x.2.1 x.2.2.data∧x.2.2.ok
theorem RG.ok.but{g:RG}(h:g.ok)(i:Nat):g.okB i:=⟨h.vL,h.n,h.len,fun k x r _=>h.vec k x r⟩
theorem _root_.Go.Vw.At.setLj{α:Type}{w0 w:World}{D:Nat→Prop}{m ro:BL}(hA:At w0 D (m++ro) w){E:Enc α}{s:Sl}{l:List α}(hv:VecL ro E s l){k:Nat}{x:α}(hx:l[k]? = some x){j:Nat}{y:α}{vs:List LV}(hj:j+vs.length≤E.n)(hs:spl (E.f x) j (vs.map LV.toV)=E.f y){b:Nat}(hp:s.p=some (b,0))
  {K:Wp} (hK:∀ro' w',At w0 D (m++ro') w'→VecL ro' E s (l.set k y)→Mod (Ks ro) w w'→K w'):st w b ((0+k*E.n)+j) vs K:=by
 have hk:k<l.length:=(Les.1 hx).1;rcases hv.2.2 with⟨_,h2,_⟩ | ⟨b',rest,rfl,hp',hc⟩
 ·rw [h2] at hp;cases hp
 rw [hp'] at hp;simp only [Option.some.injEq,Prod.mk.injEq] at hp;obtain⟨rfl,_⟩:=hp;have hset:=E.cells_set l k j (vs.map LV.toV) x y rest hx (by rw [List.length_map];exact hj) hs;have hb:Blk w b' (E.cells l++rest):=hA.own (b',_) (by simp);have h2:=hA.setCells (i:=m.length) (b:=b') (c:=E.cells l++rest) (by simp) (k*E.n+j) (vs.map LV.toV);rw [hset,set_last] at h2;have hle:(k+1)*E.n≤l.length*E.n:=Nat.mul_le_mul_right _ hk;rw [Nat.add_mul] at hle;rw [Nat.zero_add];refine⟨fun i hi=>⟨⟨(E.cells l++rest)[k*E.n+j+i]'(by rw [Lla,E.cells_length];omega),by rw [hb.cell,Lge]⟩,hb.frz _⟩,?_⟩;refine hK [(b',E.cells (l.set k y)++rest)] _ h2 ⟨by simp [hv.1],hv.2.1,.inr ⟨b',rest,rfl,hp',?_⟩⟩ ((Mod.setCells ..).mono fun x _ e=>⟨_,Lms.2 rfl,e.symm⟩);rw [Lla,E.cells_length] at hc ⊢;simpa using hc
section
variable {w0 w:World}{D:Nat→Prop}{g:RG}{i:Nat}{x:Str×Sl×Bl}
theorem RG.rdL(hA:At w0 D g.parts.flatten w)(hL:VecL g.rL ERb g.lS g.es):RdS w ERb g.lS g.es:=hL.rd fun p hp=>hA.own p (by simp [RG.parts,hp])
theorem RG.qBlk(hA:At w0 D g.parts.flatten w):Blk w g.q g.qc:=hA.own (g.q,g.qc) (by simp [RG.parts])
theorem RG.ldQ(hA:At w0 D g.parts.flatten w){k:Kd}{o:Nat}(y:Den k){K:Den k→Prop}(hy:g.qc[o]? = some (LV.mk k y).toV)(hK:K y):Go.Vw.ld w k g.q o K:=⟨y,by rw [(RG.qBlk hA).cell];exact hy,hK⟩
theorem RG.elt(hA:At w0 D g.parts.flatten w)(hL:VecL g.rL ERb g.lS g.es)(hx:g.es[i]? = some x):∃bL,g.lS.p=some (bL,0)∧i<g.lS.len∧g.lS.len≤g.lS.cap∧Ks g.rL bL:=by
 obtain⟨b,o,hp,hlt,_⟩:=(RG.rdL hA hL).at hx;rcases hL.2.2 with⟨_,h2,_⟩ | ⟨b',rest,hr,hp',_⟩
 ·rw [h2] at hp;cases hp
 exact⟨b',hp',hlt,hL.2.1,⟨_,by rw [hr];exact Lms.2 rfl,rfl⟩⟩
theorem RG.cellE(hA:At w0 D g.parts.flatten w)(hL:VecL g.rL ERb g.lS g.es)(hx:g.es[i]? = some x){bL:Nat}(hp:g.lS.p=some (bL,0)){j:Nat}(hj:j<6):w.cell? ⟨bL,(0+i*6)+j,none⟩=(ERb.f x)[j]?:=by
 obtain⟨b,o,hp',_,hc⟩:=(RG.rdL hA hL).at hx;rw [hp] at hp';simp only [Option.some.injEq,Prod.mk.injEq] at hp';obtain⟨rfl,rfl⟩:=hp';exact hc j hj
theorem RG.ldE(hA:At w0 D g.parts.flatten w)(hL:VecL g.rL ERb g.lS g.es)(hx:g.es[i]? = some x){bL:Nat}(hp:g.lS.p=some (bL,0)){j:Nat}(hj:j<6){k:Kd}(y:Den k){K:Den k→Prop}(hy:(ERb.f x)[j]? = some (LV.mk k y).toV)(hK:K y):Go.Vw.ld w k bL ((0+i*6)+j) K:=
 ⟨y,(RG.cellE hA hL hx hp hj).trans hy,hK⟩
theorem RG.stE(hA:At w0 D g.parts.flatten w)(hg:g.okB i)(hx:g.es[i]? = some x){bL:Nat}(hp:g.lS.p=some (bL,0)){j:Nat}{vs:List LV}{y:Str×Sl×Bl}(hj:j+vs.length≤6)(hs:spl (ERb.f x) j (vs.map LV.toV)=ERb.f y)
  (hv:∀r,g.ros[i]? = some r→VecL r EU y.2.1 y.2.2.data∧y.2.2.ok) {K:Wp} (hK:∀rL' w',At w0 D ({g with rL:=rL',es:=g.es.set i y}:RG).parts.flatten w'→({g with rL:=rL',es:=g.es.set i y}:RG).ok→Mod (Ks g.rL) w w'→K w'):st w bL ((0+i*6)+j) vs K:=by
 have h1:=At.part (L:=g.parts) (i:=1) hA rfl;have hi:i<g.es.length:=(Les.1 hx).1;refine h1.setLj hg.vL hx (j:=j) (y:=y) hj hs hp fun rL' w' hA' hv' hM=>hK rL' w' (At.unpart (L:=g.parts) (i:=1) rfl hA') ⟨hv',by simp [hg.n],by simp;exact hg.len,fun k z r hz hr=>?_⟩ hM;replace hz:(g.es.set i y)[k]? = some z:=hz;replace hr:g.ros[k]? = some r:=hr;by_cases e:i=k
 ·subst e;rw [List.getElem?_set,if_pos rfl,if_pos hi] at hz;have hz:=Option.some.inj hz;subst hz;exact hv r hr
 ·rw [List.getElem?_set,if_neg e] at hz;exact hg.vec k z r (Ne.symm e) hz hr
theorem RG.apE(hA:At w0 D g.parts.flatten w)(hg:g.ok)(hx:g.es[i]? = some x){y:Sl}{d2:List Int}(hr:RdS w EU y d2)(hl:x.2.2.data.length+d2.length≤268435456){K:Sl→Wp}
  (hK:∀t ro' w',At w0 D ({g with ros:=g.ros.set i ro'}:RG).parts.flatten w'→({g with ros:=g.ros.set i ro'}:RG).okB i→(∀r,(g.ros.set i ro')[i]? = some r→VecL r EU t (x.2.2.data++d2))→(∀r,g.ros[i]? = some r→Mod (Ks r) w w')→K t w'):ap w 5 1 1 [.int .u8 0] x.2.1 y K:=by
 have hi:i<g.es.length:=(Les.1 hx).1;have hir:i<g.ros.length:=by rw [hg.n];exact hi
 have hri:g.ros[i]? = some g.ros[i]:=Lge hir;have hv:=(hg.vec i x _ hx hri).1;have hpi:g.parts[i+2]? = some g.ros[i]:=by simp [RG.parts,hri]
 have h1:=hA.part hpi;refine appL h1 hv hr rfl rfl (by omega) fun t ro' w' hA' hv' hM _=>hK t ro' w' ?_ ⟨hg.vL,by simp [hg.n],hg.len,fun k z r hne hz hr=>?_⟩ ?_ ?_
 ·have:=At.unpart hpi hA';have e:g.parts.set (i+2) ro'=({g with ros:=g.ros.set i ro'}:RG).parts:=by simp [RG.parts,RG.qc]
  rw [e] at this;exact this
 ·have hr:(g.ros.set i ro')[k]? = some r:=hr;rw [List.getElem?_set,if_neg (Ne.symm hne)] at hr;exact hg.vec k z r hz hr
 ·intro r hr;rw [List.getElem?_set] at hr;simp [hir] at hr;subst hr;exact hv'
 ·intro r hr;rw [hri] at hr;simp only [Option.some.injEq] at hr;subst hr;exact hM
theorem RG.notR(hA:At w0 D g.parts.flatten w){r:BL}(hr:g.ros[i]? = some r){k:Nat}(hk:Ks g.rL k):¬Ks r k:=by
 have hpi:g.parts[i+2]? = some r:=by simp [RG.parts,hr]
 have h1:=hA.part hpi;obtain⟨q,hq,rfl⟩:=hk;have hq':q∈(g.parts.eraseIdx (i+2)).flatten:=by
  simp only [RG.parts,List.eraseIdx_cons_succ,List.flatten_cons,Lma];exact .inr (.inl hq)
 exact h1.notKs hq'
theorem RG.dataRd(hA:At w0 D g.parts.flatten w)(hg:g.ok)(hx:g.es[i]? = some x):RdS w EU x.2.1 x.2.2.data:=by
 have hi:i<g.es.length:=(Les.1 hx).1;have hri:g.ros[i]? = some (g.ros[i]'(by rw [hg.n];exact hi)):=Lge (by rw [hg.n];exact hi);have hpi:g.parts[i+2]? = some (g.ros[i]'(by rw [hg.n];exact hi)):=by simp [RG.parts,hri]
 exact (hg.vec i x _ hx hri).1.rd (hA.partBlk hpi)
theorem RG.okE(hg:g.ok)(hx:g.es[i]? = some x):x.2.2.ok∧x.2.1.len=x.2.2.data.length:=by
 have hi:i<g.es.length:=(Les.1 hx).1;have hri:g.ros[i]? = some (g.ros[i]'(by rw [hg.n];exact hi)):=Lge (by rw [hg.n];exact hi);exact⟨(hg.vec i x _ hx hri).2,(hg.vec i x _ hx hri).1.1⟩
theorem RG.drew(hA:At w0 D g.parts.flatten w):At w0 D g.parts.flatten w.drew:=At.drew hA
end
theorem good_ok(n:Str){w:World}(hn:n.length≤1099511627776){K:Bool→Wp}(hK:K (goodN n) w):callK Pg c_92 [Au n] w Ob K:=by
 refine go_92 _ _ _ ?_;have hbad:∀{j:Nat} (hj:j<n.length),¬goodP n[j].toNat→goodN n=false:=fun hj hx=>by
  unfold goodN;have:(n.all fun c=>decide (goodP c.toNat))=false:=by
   apply Bool.eq_false_iff.2;intro ha;have:=List.all_eq_true.1 ha _ (List.getElem_mem hj);exact hx (odt this)
  rw [this,Bool.and_false]
 refine join0 (fun u=>u=w∧∀c∈n,goodP c.toNat) ?_ ?_
 ·intro k hk;refine loop1 (k:=Ki) (fun (i:Int) u=>u=w∧∃j:Nat,i=j∧j≤n.length∧∀c∈n.take j,goodP c.toNat) (fun i _=>(n.length-i).toNat) (x:=0) rfl ⟨rfl,0,rfl,by omega,by simp⟩ ?_;rintro i u ⟨rfl,j,rfl,hj,hg⟩;refine Iq (fun h=>?_) fun h=>?_
  ·have hlt:j<n.length:=dlt h;refine⟨n[j],by rw [Itn,Lge hlt],by omega,?_⟩;have hb:=hbad hlt;generalize hx:((n[j].toNat:Nat):Int)=x at hb;refine join1 (fun b u'=>u'=u∧(b=true↔¬goodP x)) ?_ ?_
   ·intro k2 hk2;have lf:∀{b:Bool},(b=true↔¬goodP x)→k2 b u:=fun hb=>hk2 _ _ ⟨rfl,hb⟩;unfold goodP at lf;refine Iq (fun h1=>Iq (fun h2=>Iq (fun h3=>lf ?_) (fun h3=>lf ?_)) fun h2=>Iq (fun h3=>Iq (fun h4=>lf ?_) (fun h4=>lf ?_)) fun h3=>lf ?_)
     fun h1=>Iq (fun h2=>Iq (fun h3=>Iq (fun h4=>lf ?_) (fun h4=>lf ?_)) fun h3=>Iq (fun h4=>Iq (fun h5=>lf ?_) (fun h5=>lf ?_)) fun h4=>lf ?_) fun h2=>lf ?_
    all_goals (clear hb hg hx;simp only [Det,decide_eq_false_iff_not,bne_iff_ne,bne_eq_false_iff_eq,ne_eq,Bool.false_eq_true,false_iff,Classical.not_not] at *;omega)
   ·rintro b u' ⟨rfl,hb2⟩;refine Iq (fun h2=>?_) fun h2=>?_
    ·rw [hb (hb2.1 h2)] at hK;exact hK
    ·have hgx:goodP x:=Classical.byContradiction fun hn=>by rw [hb2.2 hn] at h2;cases h2
     refine⟨⟨rfl,j+1,step64 (by omega),by omega,?_⟩,by rw [step64 (by omega)];omega⟩;intro c hc;rw [List.take_add_one,Lma] at hc;rcases hc with hc | hc
     ·exact hg c hc
     ·rw [Lge hlt] at hc;simp at hc;subst hc;rw [hx];exact hgx
  ·have hlt:n.length≤j:=dge h;rw [Ltl hlt] at hg;exact hk _ ⟨rfl,hg⟩
 ·rintro u ⟨rfl,hall⟩;have ha:(n.all fun c=>decide (goodP c.toNat))=true:=List.all_eq_true.2 fun c hc=>Dct (hall c hc);refine join1 (fun b u'=>u'=u∧b=goodN n) ?_ (by rintro b u' ⟨rfl,rfl⟩;exact hK);intro k hk;refine Iq (fun h=>hk _ _ ⟨rfl,?_⟩) fun h=>hk _ _ ⟨rfl,?_⟩
  ·have h:(1:Int)≤(n.length:Int):=odt h;unfold goodN;rw [ha,Dct (p:=1≤n.length) (by omega)];simp;omega
  ·have h:¬(1:Int)≤(n.length:Int):=odf h;unfold goodN;rw [Dcf (p:=1≤n.length) (by omega)];rfl
structure RN(w0:World)(D:Nat→Prop)(g:RG)(a:Abs)(t:Int×Int×Int)(g':RG)(w':World):Prop where
 at_:At w0 D g'.parts.flatten w'
 ok:g'.ok
 q:g'.q=g.q
 abs:g'.abs=a
 mt:g'.mt=t
section
variable {w0 w:World}{D:Nat→Prop}{g:RG}
theorem rabs_set{es:List (Str×Sl×Bl)}{i:Nat}{x y:Str×Sl×Bl}{n:Str}(hx:es[i]? = some x)(hn:x.1=n)(hA:∀z∈es.take i,z.1≠n)(hy:y.1=n):((es.set i y).map fun x=>(x.1,x.2.2))=putA n y.2.2 (es.map fun x=>(x.1,x.2.2)):=by
 have hi:i<es.length:=(Les.1 hx).1;have e1:es=es.take i++x::es.drop (i+1):=by
  have:es.drop i=x::es.drop (i+1):=by rw [List.drop_eq_getElem_cons hi];congr 1;rw [Lge hi] at hx;exact Option.some.inj hx
  rw [←this,List.take_append_drop]
 have e2:es.set i y=es.take i++y::es.drop (i+1):=by
  rw [List.set_eq_take_append_cons_drop,if_pos hi]
 rw [e2]
 conv=>rhs;rw [e1]
 simp only [List.map_append,List.map_cons];rw [hn,hy,putA_mid (fun z hz=>by obtain⟨u,hu,rfl⟩:=List.mem_map.1 hz;exact hA u hu)]
theorem rask{es:List (Str×Sl×Bl)}{i:Nat}{x:Str×Sl×Bl}{n:Str}(hg:goodN n=true)(hx:es[i]? = some x)(hn:x.1=n)(hA:∀z∈es.take i,z.1≠n):askA n (es.map fun x=>(x.1,x.2.2))=(0,some x.2.2):=by
 have hi:i<es.length:=(Les.1 hx).1;have e1:es=es.take i++x::es.drop (i+1):=by
  have:es.drop i=x::es.drop (i+1):=by rw [List.drop_eq_getElem_cons hi];congr 1;rw [Lge hi] at hx;exact Option.some.inj hx
  rw [←this,List.take_append_drop]
 unfold askA;rw [hg,e1];simp only [List.map_append,List.map_cons];rw [hn,getA_mid (fun z hz=>by obtain⟨u,hu,rfl⟩:=List.mem_map.1 hz;exact hA u hu)];rfl
theorem rfind_ok(hA:At w0 D g.parts.flatten w)(hg:g.ok)(n:Str){K:Int→Wp}(h0:(∀x∈g.es,x.1≠n)→K (-1) w)(h1:∀(i:Nat) x,g.es[i]? = some x→x.1=n→(∀z∈g.es.take i,z.1≠n)→K (i:Int) w) :
  callK Pg c_93 [Ap (some (g.q,0)),Au n] w Oi K:=by
 refine go_93 _ _ _ _ ?_;have hlen:=hg.len;have hsl:g.lS.len=g.es.length:=hg.vL.1;refine join0 (fun u=>u=w∧∀x∈g.es,x.1≠n) ?_ (by rintro u ⟨rfl,h⟩;exact h0 h);intro k3 hk3;refine loop1 (k:=Ki) (fun (i:Int) u=>u=w∧∃j:Nat,i=j∧j≤g.es.length∧∀x∈g.es.take j,x.1≠n) (fun i _=>(g.es.length-i).toNat) (x:=0) rfl ⟨rfl,0,rfl,by omega,by simp⟩ ?_;rintro i u ⟨rfl,j,rfl,hj,hne⟩;refine Dq (RG.ldQ hA (k:=.sl) g.lS rfl ?_);rw [hsl];refine Iq (fun h=>?_) fun h=>?_
 ·have hlt:j<g.es.length:=dlt h;have hx:g.es[j]? = some g.es[j]:=Lge hlt;refine Dq (RG.ldQ hA (k:=.sl) g.lS rfl ?_);refine (RG.rdL hA hg.vL).ix rfl rfl hx fun b o _ hc=>Lq (k:=.str) g.es[j].1 (hc 0 (by decide)) ?_;refine Iq (fun he=>?_) fun he=>?_
  ·have he:g.es[j].1=n:=by simpa using he
   exact h1 j _ hx he hne
  ·have he:g.es[j].1≠n:=by simpa using he
   refine⟨⟨rfl,j+1,step64 (by omega),by omega,fun y hy=>?_⟩,by rw [step64 (by omega)];omega⟩;rw [List.take_add_one,Lma,hx] at hy;rcases hy with hy | hy
   ·exact hne y hy
   ·simp at hy;subst hy;exact he
 ·have hlt:g.es.length≤j:=dge h;rw [Ltl hlt] at hne;exact hk3 _ ⟨rfl,hne⟩
theorem rask_ok(hA:At w0 D g.parts.flatten w)(hg:g.ok)(n:Str)(hn:n.length≤1099511627776){K:Int→Int→Wp}(h0:∀c,askA n g.abs=(c,none)→c=50∨c=52→(c=52→goodN n=true∧∀x∈g.es,x.1≠n)→K (-1) c w)
  (h1:∀(i:Nat) x,g.es[i]? = some x→x.1=n→(∀z∈g.es.take i,z.1≠n)→askA n g.abs=(0,some x.2.2)→K (i:Int) 0 w) :
  callK Pg c_94 [Ap (some (g.q,0)),Au n] w (.tup [Li,Li]) K:=by
 refine go_94 _ _ _ _ ?_;refine ifK_f rfl (good_ok n hn ?_);refine Iq (fun hb=>?_) fun hb=>?_
 ·have hgd:goodN n=false:=by simpa using hb
  exact h0 50 (by unfold askA;rw [if_pos hgd]) (.inl rfl) (fun h=>by cases h)
 have hgd:goodN n=true:=by simpa using hb
 refine rfind_ok hA hg n (fun hne=>?_) fun i x hx hxn hpre=>?_
 ·refine ifK_t (by decide) (h0 52 ?_ (.inr rfl) fun _=>⟨hgd,hne⟩);unfold askA;rw [hgd,getA_none (fun z hz=>by unfold RG.abs at hz;obtain⟨u,hu,rfl⟩:=List.mem_map.1 hz;exact hne u hu)];rfl
 ·exact ifK_f (Dcf (Int.not_lt.2 (Int.natCast_nonneg i))) (h1 i x hx hxn hpre (rask hgd hx hxn hpre))
variable {a:Abs}
theorem rself(hA:At w0 D g.parts.flatten w)(hg:g.ok):RN w0 D g g.abs g.mt g w:=⟨hA,hg,rfl,rfl,rfl⟩
theorem rix(hA:At w0 D g.parts.flatten w)(hg:g.ok){i:Nat}{x:Str×Sl×Bl}(hx:g.es[i]? = some x){K:Nat→Nat→Prop}(hK:∀bL,g.lS.p=some (bL,0)→Ks g.rL bL→K bL (0+i*6)):ix g.lS 6 (i:Int) K:=by
 obtain⟨bL,hp,hlt,hcap,hk⟩:=RG.elt hA hg.vL hx;exact ix_some hp (by omega) (by omega) (hK bL hp hk) hcap
theorem rvecOf(hg:g.ok){i:Nat}{x:Str×Sl×Bl}(hx:g.es[i]? = some x):∀r,g.ros[i]? = some r→VecL r EU x.2.1 x.2.2.data∧x.2.2.ok:=fun r hr=>hg.vec i x r hx hr
def publishR(n:Str)(a:Abs):Int×Abs:=match askA n a with
 | (c,none)=>(c,a)
 | (_,some b)=>if b.out then (54,a) else if b.stops then (55,putA n {b with stopped:=true} a) else (0,putA n {b with out:=true} a)
theorem rpublish_ok(hA:At w0 D g.parts.flatten w)(hg:g.ok)(n:Str)(hn:n.length≤1099511627776){K:Int→Wp}(hK:∀g' w',RN w0 D g (publishR n g.abs).2 g.mt g' w'→K (publishR n g.abs).1 w') :
  callK Pg c_95 [Ap (some (g.q,0)),Au n] w Oi K:=by
 refine go_95 _ _ _ _ ?_;refine rask_ok hA hg n hn (fun c hc hc2 _=>?_) fun i x hx hxn hpre hask=>?_
 ·have e1:publishR n g.abs=(c,g.abs):=by unfold publishR;rw [hc]
  rw [e1] at hK;exact ifK_t (by simpa using askA_c hc) (hK _ _ (rself hA hg))
 refine ifK_f rfl (Dq (RG.ldQ hA (k:=.sl) g.lS rfl (rix hA hg hx fun bL hp hk=>Dq ?_)));refine RG.ldE hA hg.vL hx hp (by decide) (k:=.bool) x.2.2.out rfl ?_;refine Iq (fun ho=>?_) fun ho=>Dq (RG.ldE hA hg.vL hx hp (by decide) (k:=.bool) x.2.2.stops rfl (Iq (fun hs=>?_) fun hs=>?_))
 ·have e1:publishR n g.abs=(54,g.abs):=by unfold publishR;rw [hask];simp [ho]
  rw [e1] at hK;exact hK _ _ (rself hA hg)
 ·have e1:publishR n g.abs=(55,putA n {x.2.2 with stopped:=true} g.abs):=by unfold publishR;rw [hask];simp [ho,hs]
  rw [e1] at hK;refine Dq (RG.stE hA (hg.but i) hx hp (j:=3) (vs:=[.lit true]) (y:=(x.1,x.2.1,{x.2.2 with stopped:=true})) (by decide) rfl (fun r hr=>⟨(rvecOf hg hx r hr).1,(rvecOf hg hx r hr).2.1,(rvecOf hg hx r hr).2.2,(rvecOf hg hx r hr).2.3,(rvecOf hg hx r hr).2.4⟩) fun rL' w' hA' hg' _=>hK _ _ ⟨hA',hg',rfl,rabs_set hx hxn hpre hxn,rfl⟩)
 ·have e1:publishR n g.abs=(0,putA n {x.2.2 with out:=true} g.abs):=by unfold publishR;rw [hask];simp [ho,hs]
  rw [e1] at hK;refine Dq (RG.stE hA (hg.but i) hx hp (j:=2) (vs:=[.lit true]) (y:=(x.1,x.2.1,{x.2.2 with out:=true})) (by decide) rfl (fun r hr=>⟨(rvecOf hg hx r hr).1,(rvecOf hg hx r hr).2.1,(rvecOf hg hx r hr).2.2,(rvecOf hg hx r hr).2.3,(rvecOf hg hx r hr).2.4⟩) fun rL' w' hA' hg' _=>hK _ _ ⟨hA',hg',rfl,rabs_set hx hxn hpre hxn,rfl⟩)
theorem rsize_ok(hA:At w0 D g.parts.flatten w)(hg:g.ok)(n:Str)(hn:n.length≤1099511627776){K:Int→Int→Wp}(hK:K (sizeA n g.abs).1 (sizeA n g.abs).2 w) :
  callK Pg c_82 [Ap (some (g.q,0)),Au n] w (.tup [Li,Li]) K:=by
 refine go_82 _ _ _ _ ?_;refine rask_ok hA hg n hn (fun c hc hc2 _=>?_) fun i x hx hxn hpre hask=>?_
 ·have e1:sizeA n g.abs=(0,c):=by unfold sizeA readA;rw [hc]
  rw [e1] at hK;exact ifK_t (by simpa using askA_c hc) hK
 refine ifK_f rfl (Dq (RG.ldQ hA (k:=.sl) g.lS rfl (rix hA hg hx fun bL hp hk=>?_)));refine RG.ldE hA hg.vL hx hp (by decide) (k:=.bool) x.2.2.out rfl ?_;refine Iq (fun ho=>?_) fun ho=>?_
 ·have ho:x.2.2.out=false:=by simpa using ho
  have e1:sizeA n g.abs=(0,53):=by unfold sizeA readA;rw [hask];simp [ho]
  rw [e1] at hK;exact hK
 ·have ho:x.2.2.out=true:=by simpa using ho
  have e1:sizeA n g.abs=((x.2.2.data.length:Int),0):=by unfold sizeA readA;rw [hask];simp [ho]
  rw [e1] at hK;refine Dq (RG.ldQ hA (k:=.sl) g.lS rfl (rix hA hg hx fun bL hp hk=>?_));refine RG.ldE hA hg.vL hx hp (by decide) (k:=.sl) x.2.1 rfl ?_;rw [(RG.okE hg hx).2];exact hK
end
section
variable {w0 w:World}{D:Nat→Prop}{g:RG}
theorem RG.ldDE{i:Nat}{x:Str×Sl×Bl}(hA:At w0 D g.parts.flatten w)(hL:VecL g.rL ERb g.lS g.es)(hx:g.es[i]? = some x){bL:Nat}(hp:g.lS.p=some (bL,0)){j:Nat}(hj:j<6){k:Kd}(y:Den k){C:Nat→Prop}(hC:¬C bL){K:Den k→Prop}(hy:(ERb.f x)[j]? = some (LV.mk k y).toV)(hK:K y):Go.Vw.ldD C w k bL ((0+i*6)+j) K:=
 ⟨y,hC,(RG.cellE hA hL hx hp hj).trans hy,hK⟩
theorem rappend_ok(hA:At w0 D g.parts.flatten w)(hg:g.ok)(n:Str)(hn:n.length≤1099511627776){b:Sl}{d:List Int}(hd:RdS w EU b d)(hl:d.length≤1099511627776)(hby:∀x∈d,0≤x∧x<256){K:Int→Wp}(hK:∀g' w',RN w0 D g (appendA n d g.abs).2 g.mt g' w'→K (appendA n d g.abs).1 w') :
  callK Pg c_96 [Ap (some (g.q,0)),Au n,Az b] w Oi K:=by
 refine go_96 _ _ _ _ _ ?_;have hblen:b.len=d.length:=hd.len;refine rask_ok hA hg n hn (fun c hc hc2 _=>?_) fun i x hx hxn hpre hask=>?_
 ·have e1:appendA n d g.abs=(c,g.abs):=by unfold appendA writeA;rw [hc]
  rw [e1] at hK;exact ifK_t (by simpa using askA_c hc) (hK _ _ (rself hA hg))
 refine ifK_f rfl (Dq (RG.ldQ hA (k:=.sl) g.lS rfl (rix hA hg hx fun bL hp hk=>Dq ?_)));refine RG.ldE hA hg.vL hx hp (by decide) (k:=.bool) x.2.2.out rfl ?_;refine Iq (fun ho=>?_) fun ho=>Dq (RG.ldE hA hg.vL hx hp (by decide) (k:=.bool) x.2.2.stopped rfl (Iq (fun hs=>?_) fun hs=>Dq ?_))
 ·have e1:appendA n d g.abs=(54,g.abs):=by unfold appendA writeA;rw [hask];simp [ho]
  rw [e1] at hK;exact hK _ _ (rself hA hg)
 ·have e1:appendA n d g.abs=(55,g.abs):=by unfold appendA writeA;rw [hask];simp [ho,hs]
  rw [e1] at hK;exact hK _ _ (rself hA hg)
 have ha:writeA n g.abs=(0,some x.2.2):=by unfold writeA;rw [hask];simp [ho,hs]
 obtain⟨hok,hsl⟩:=RG.okE hg hx;have hk3:=hok.len;have hi:i<g.es.length:=(Les.1 hx).1;refine RG.ldE hA hg.vL hx hp (by decide) (k:=.sl) x.2.1 rfl ?_;have hsum:w64 ((x.2.1.len:Int)+(b.len:Int))=((x.2.2.data.length+d.length:Nat):Int):=by rw [Wq (by omega) (by omega)];omega
 rw [hsum];refine Iq (fun hbig=>?_) fun hbig=>?_
 ·have hbig:268435456<x.2.2.data.length+d.length:=by simp only [Det] at hbig;omega
  have e1:appendA n d g.abs=(57,g.abs):=by unfold appendA;rw [ha];simp [hbig]
  rw [e1] at hK;exact hK _ _ (rself hA hg)
 have hbig:¬268435456<x.2.2.data.length+d.length:=by simp only [decide_eq_false_iff_not] at hbig;omega
 have hnR:∀{u:World} (hA:At w0 D g.parts.flatten u),∀r,g.ros[i]? = some r→¬Ks r bL:=fun hA r hr=>RG.notR hA hr hk;have hri:g.ros[i]? = some (g.ros[i]'(by rw [hg.n];exact hi)):=Lge (by rw [hg.n];exact hi);refine join1 (fun c u=>u=w∧(c=true↔x.2.2.stops=true∧x.2.2.stop<((x.2.2.data.length+d.length:Nat):Int))) ?_ ?_
 ·intro k hk;refine Dq (RG.ldE hA hg.vL hx hp (by decide) (k:=.bool) x.2.2.stops rfl ?_);refine Iq (fun h2=>Dq (RG.ldE hA hg.vL hx hp (by decide) (k:=Ki) x.2.2.stop rfl ?_)) fun h2=>?_
  ·exact hk _ _ ⟨rfl,by simp only [Det];exact⟨fun x=>⟨h2,x⟩,fun x=>x.2⟩⟩
  ·exact hk _ _ ⟨rfl,by simp [h2]⟩
 rintro c u ⟨rfl,hc⟩;refine Iq (fun h2=>?_) fun h2=>?_
 ·obtain⟨hs1,hs2⟩:=hc.1 h2;have e1:appendA n d g.abs=(55,putA n {x.2.2 with data:=x.2.2.data++d.take (x.2.2.stop-x.2.2.data.length).toNat,stopped:=true} g.abs):=by
   unfold appendA;rw [ha];simp only [if_neg hbig];rw [if_pos ⟨hs1,by omega⟩]
  rw [e1] at hK;refine Dq (RG.ldE hA hg.vL hx hp (by decide) (k:=Ki) x.2.2.stop rfl ?_);have hlo:=hok.lo;have hhi:=hok.hi;refine join0 (fun w47=>∃(g':RG) (t:Sl) (r':BL),At w0 D g'.parts.flatten w47∧g'.okB i∧g'.q=g.q∧g'.lS=g.lS∧g'.mt=g.mt∧g'.es=g.es.set i (x.1,t,{x.2.2 with data:=x.2.2.data++d.take (x.2.2.stop-x.2.2.data.length).toNat})∧g'.ros[i]? = some r'∧VecL r' EU t (x.2.2.data++d.take (x.2.2.stop-x.2.2.data.length).toNat)) ?_ ?_
  ·intro k33 hk33;rw [hsl];refine Iq (fun h3=>?_) fun h3=>?_
   ·have h3:(x.2.2.data.length:Int)<x.2.2.stop:=by simpa using h3
    have hAd:=RG.drew hA;refine⟨Ks (g.ros[i]'(by rw [hg.n];exact hi)),Dq (RG.ldDE hAd hg.vL hx hp (by decide) (k:=.sl) x.2.1 (hnR hAd _ hri) rfl (Dq (RG.ldDE hAd hg.vL hx hp (by decide) (k:=Ki) x.2.2.stop (hnR hAd _ hri) rfl ?_)))⟩;have hmx:w64 (x.2.2.stop-(x.2.2.data.length:Int))=((x.2.2.stop-x.2.2.data.length).toNat:Int):=by
     rw [Wq (by omega) (by omega)];omega
    rw [hmx];have hrd:RdS u.drew EU b d:=hd.keep (Mq u) fun _ _=>id;generalize hq:(x.2.2.stop-x.2.2.data.length).toNat=q at *;have hqd:q≤d.length:=by omega
    refine hrd.slx hqd 1 ?_;have hrd2:RdS u.drew EU (b.cut 1 0 q b.cap) ((d.take q).drop 0):=RdS.cutR hrd (lo:=0) (hi:=q) (mx:=b.cap) (Nzl _) hqd (by have:=hrd.has;have:=hrd.len;omega);rw [List.drop_zero] at hrd2;have hby':∀y∈x.2.2.data++d.take q,0≤y∧y<256:=fun y hx=>by
     rcases Lma.1 hx with hx | hx
     ·exact hok.byte y hx
     ·exact hby y (List.mem_of_mem_take hx)
    have hlen':(x.2.2.data++d.take q).length≤268435456:=by simp;omega
    refine RG.apE hAd hg hx hrd2 (by simp;omega) fun t ro' w4 hA4 hg4 hv4 hM4=>⟨hM4 _ hri,Dq ?_⟩;have hxx:({g with ros:=g.ros.set i ro'}:RG).es[i]? = some x:=hx;refine RG.stE hA4 hg4 hxx hp (j:=1) (vs:=[.sl t]) (y:=(x.1,t,{x.2.2 with data:=x.2.2.data++d.take q})) (by simp) rfl (fun r hr=>⟨hv4 r hr,hlo,hhi,hlen',hby'⟩) fun rL' w5 hA5 hg5 _=>?_;have hro':(g.ros.set i ro')[i]? = some ro':=by rw [List.getElem?_set];simp [hg.n,hi]
    exact hk33 _ ⟨_,t,ro',hA5,hg5.but i,rfl,rfl,rfl,rfl,hro',hv4 _ hro'⟩
   ·have h3:x.2.2.stop≤(x.2.2.data.length:Int):=by simpa using h3
    have hz:(x.2.2.stop-x.2.2.data.length).toNat=0:=by omega
    rw [hz] at hk33;refine hk33 _ ⟨g,x.2.1,_,hA,hg.but i,rfl,rfl,rfl,?_,hri,?_⟩
    ·rw [List.take_zero,Lan];exact (set_self hx).symm
    ·rw [List.take_zero,Lan];exact (rvecOf hg hx _ hri).1
  ·rintro w47 ⟨g',t,r',hA',hg',hq',hl',hm',he',hr',hv'⟩;have hx':g'.es[i]? = some (x.1,t,{x.2.2 with data:=x.2.2.data++d.take (x.2.2.stop-x.2.2.data.length).toNat}):=by rw [he',List.getElem?_set];simp [hi]
   have hp':g'.lS.p=some (bL,0):=by rw [hl'];exact hp
   have hby':∀y∈x.2.2.data++d.take (x.2.2.stop-x.2.2.data.length).toNat,0≤y∧y<256:=fun y hx=>by
    rcases Lma.1 hx with hx | hx
    ·exact hok.byte y hx
    ·exact hby y (List.mem_of_mem_take hx)
   have hlen':(x.2.2.data++d.take (x.2.2.stop-x.2.2.data.length).toNat).length≤268435456:=by simp;omega
   refine Dq (RG.stE hA' hg' hx' hp' (j:=3) (vs:=[.lit true]) (y:=(x.1,t,{x.2.2 with data:=x.2.2.data++d.take (x.2.2.stop-x.2.2.data.length).toNat,stopped:=true})) (by simp) rfl (fun r hr=>by rw [hr'] at hr;cases hr;exact⟨hv',hlo,hhi,hlen',hby'⟩) fun rL' w5 hA5 hg5 _=>hK _ _ ⟨hA5,hg5,hq',?_,hm'⟩);show ((g'.es.set i _).map _)=_;rw [he',List.set_set];exact rabs_set hx hxn hpre hxn
 ·have hns:¬(x.2.2.stops=true∧x.2.2.stop<x.2.2.data.length+d.length):=fun y=>by rw [hc.2 ⟨y.1,by have:=y.2;omega⟩] at h2;cases h2
  have e1:appendA n d g.abs=(0,putA n {x.2.2 with data:=x.2.2.data++d} g.abs):=by
   unfold appendA;rw [ha];simp only [if_neg hbig];rw [if_neg hns]
  rw [e1] at hK;refine Dq (RG.ldE hA hg.vL hx hp (by decide) (k:=.sl) x.2.1 rfl ?_);have hby':∀y∈x.2.2.data++d,0≤y∧y<256:=fun y hx=>by
   rcases Lma.1 hx with hx | hx
   ·exact hok.byte y hx
   ·exact hby y hx
  have hlen':(x.2.2.data++d).length≤268435456:=by simp;omega
  refine RG.apE hA hg hx hd (by omega) fun t ro' w4 hA4 hg4 hv4 hM4=>Dq ?_;have hxx:({g with ros:=g.ros.set i ro'}:RG).es[i]? = some x:=hx;refine RG.stE hA4 hg4 hxx hp (j:=1) (vs:=[.sl t]) (y:=(x.1,t,{x.2.2 with data:=x.2.2.data++d})) (by simp) rfl (fun r hr=>⟨hv4 r hr,hok.lo,hok.hi,hlen',hby'⟩) fun rL' w5 hA5 hg5 _=>?_;exact hK _ _ ⟨hA5,hg5,rfl,rabs_set hx hxn hpre hxn,rfl⟩
end
section
variable {w0 w:World}{D:Nat→Prop}{g:RG}
theorem ask50{n:Str}{a:Abs}(h:askA n a=(50,none)):goodN n=false:=by
 unfold askA at h;split at h
 ·assumption
 ·split at h<;>simp at h
theorem side_nil{m:BL}(hA:At w0 D m w):At w0 D (m++[]) w:=by rw [Lan];exact hA
theorem rread_ok(hA:At w0 D g.parts.flatten w)(hg:g.ok)(n:Str)(hn:n.length≤1099511627776)(at_ k:Int)(hat:at_≤9223372036854775807){K:Sl→Int→Wp}
  (hK:∀(sl:Sl) (ro:BL) (g':RG) (w':World),At w0 D (g'.parts.flatten++ro) w'→g'.ok→g'.q=g.q→g'.abs=g.abs→g'.mt=(readS n at_ k g.abs g.mt).2.2→VecL ro EU sl (readS n at_ k g.abs g.mt).2.1→(readS n at_ k g.abs g.mt).2.1.length≤268435456→K sl (readS n at_ k g.abs g.mt).1 w') :
  callK Pg c_81 [Ap (some (g.q,0)),Au n,Ai at_,Ai k] w (.tup [Ls,Li]) K:=by
 refine go_81 _ _ _ _ _ _ ?_;have fin:∀c,readS n at_ k g.abs g.mt=(c,[],g.mt)→K ⟨none,0,0⟩ c w:=fun c e1=>by
  rw [e1] at hK;exact hK _ [] g w (side_nil hA) hg rfl rfl rfl (VecL.nil EU) (Nzl _)
 refine rask_ok hA hg n hn (fun c hc hc2 hc3=>?_) fun i x hx hxn hpre hask=>?_
 ·refine join1 (fun t u=>u=w∧t=(c==50)) ?_ ?_
  ·intro kk hkk;refine ifK_f (by rcases hc2 with rfl | rfl<;>rfl) (hkk _ _ ⟨rfl,rfl⟩)
  rintro t u ⟨rfl,rfl⟩;rcases hc2 with rfl | rfl
  ·exact ifK_t rfl (fin 50 (by unfold readS;rw [if_pos (ask50 hc)]))
  ·obtain⟨hgd,_⟩:=hc3 rfl;refine ifK_f rfl (Iq (fun hk=>?_) fun hk=>ifK_t rfl ?_)
   ·have hk:k<0:=by simpa using hk
    exact fin 3 (by unfold readS;rw [if_neg (by rw [hgd];simp),if_pos hk])
   ·have hk:¬k<0:=by simpa using hk
    refine fin 52 ?_;unfold readS readA;rw [if_neg (by rw [hgd];simp),if_neg hk,hc]
 have hgd:¬goodN n=false:=fun h=>by
  have:askA n g.abs=(50,none):=by unfold askA;rw [if_pos h]
  rw [this] at hask;cases hask
 refine join1 (fun t u=>u=w∧t=false) ?_ ?_
 ·intro kk hkk;exact ifK_f rfl (hkk _ _ ⟨rfl,rfl⟩)
 rintro t u ⟨rfl,rfl⟩;refine ifK_f rfl (Iq (fun hk=>?_) fun hk=>ifK_f rfl ?_)
 ·have hk:k<0:=by simpa using hk
  exact fin 3 (by unfold readS;rw [if_neg hgd,if_pos hk])
 have hk:¬k<0:=by simpa using hk
 refine Dq (RG.ldQ hA (k:=.sl) g.lS rfl (rix hA hg hx fun bL hp hkb=>?_));refine RG.ldE hA hg.vL hx hp (by decide) (k:=.bool) x.2.2.out rfl ?_;refine Iq (fun ho=>?_) fun ho=>?_
 ·have ho:x.2.2.out=false:=by simpa using ho
  exact fin 53 (by unfold readS readA;rw [if_neg hgd,if_neg hk,hask];simp [ho])
 have ho:x.2.2.out=true:=by simpa using ho
 have ha:readA n g.abs=(0,some x.2.2):=by unfold readA;rw [hask];simp [ho]
 obtain⟨hok,hsl⟩:=RG.okE hg hx;have hk3:=hok.len;have hrd:=RG.dataRd hA hg hx;refine Dq (RG.ldQ hA (k:=.sl) g.lS rfl (rix hA hg hx fun bL2 hp2 _=>?_));refine RG.ldE hA hg.vL hx hp2 (by decide) (k:=.sl) x.2.1 rfl ?_;rw [hsl];refine join1 (fun c v=>v=u∧(c=true↔at_<0∨(x.2.2.data.length:Int)<at_)) ?_ ?_
 ·intro k2 hk2;refine Iq (fun h2=>hk2 _ _ ⟨rfl,?_⟩) fun h2=>hk2 _ _ ⟨rfl,?_⟩
  ·have h2:at_<0:=by simpa using h2
   exact⟨fun _=>.inl h2,fun _=>rfl⟩
  ·have h2:¬at_<0:=by simpa using h2
   rw [Det];omega
 rintro c v ⟨rfl,hc⟩;refine Iq (fun h2=>?_) fun h2=>?_
 ·exact fin 56 (by unfold readS;rw [if_neg hgd,if_neg hk,ha];simp only;rw [if_pos (hc.1 h2)])
 have h2:¬(at_<0∨(x.2.2.data.length:Int)<at_):=fun x=>by rw [hc.2 x] at h2;cases h2
 have e1:readS n at_ k g.abs g.mt=(0,(x.2.2.data.drop at_.toNat).take k.toNat,(w64 (g.m1+1),w64 (g.m2+((x.2.2.data.drop at_.toNat).take k.toNat).length),mxI g.m3 ((x.2.2.data.drop at_.toNat).take k.toNat).length)):=by
  unfold readS;rw [if_neg hgd,if_neg hk,ha];simp only;rw [if_neg h2];rfl
 rw [e1] at hK;clear fin;generalize hq:at_.toNat=q at *;have hqa:(q:Int)=at_:=by omega
 have hqd:q≤x.2.2.data.length:=by omega
 generalize hnn:((x.2.2.data.drop q).take k.toNat).length=nn at *;have hnn':nn=min k.toNat (x.2.2.data.length-q):=by rw [←hnn];simp
 have hsub:w64 ((x.2.2.data.length:Int)-at_)=(x.2.2.data.length:Int)-at_:=by rw [Wq (by omega) (by omega)]
 rw [hsub];refine join1 (a:=Ki) (fun (z:Int) u=>u=v∧z=nn) ?_ ?_
 ·intro k26 hk26;refine Iq (fun h3=>hk26 _ _ ⟨rfl,?_⟩) fun h3=>hk26 _ _ ⟨rfl,?_⟩
  ·have h3:(x.2.2.data.length:Int)-at_<k:=by simpa using h3
   omega
  ·have h3:¬(x.2.2.data.length:Int)-at_<k:=by simpa using h3
   omega
 rintro z u ⟨rfl,rfl⟩;refine Dq (RG.ldQ hA (k:=.sl) g.lS rfl (rix hA hg hx fun bL3 hp3 _=>?_));refine RG.ldE hA hg.vL hx hp3 (by decide) (k:=.sl) x.2.1 rfl ?_;have hsum:w64 (at_+(nn:Int))=((q+nn:Nat):Int):=by rw [Wq (by omega) (by omega)];omega
 rw [hsum];have hcap:=hrd.has;refine⟨q,q+nn,x.2.1.cap,hqa,rfl,rfl,by omega,by omega,Nlr _,?_⟩;have hr6:RdS u EU (x.2.1.cut 1 q (q+nn) x.2.1.cap) ((x.2.2.data.take (q+nn)).drop q):=RdS.cutR hrd (by omega) (by omega) (by omega);have hl6:((x.2.2.data.take (q+nn)).drop q)=(x.2.2.data.drop q).take k.toNat:=by
  rw [List.drop_take,Nat.add_sub_cancel_left,←hnn,Llt];exact List.take_eq_take_min.symm
 rw [hl6] at hr6;refine appL (m:=g.parts.flatten) (ro:=[]) (l:=([]:List Int)) (side_nil hA) (E:=EU) (VecL.nil EU) hr6 rfl rfl (by simp;omega) fun a ro w2 hA2 hv hM2 _=>?_;rw [List.nil_append] at hv;have hA2:At w0 D (g.parts++[ro]).flatten w2:=by rw [List.flatten_append];simpa using hA2
 have ldq:∀{g:RG} {u:World} (hA:At w0 D (g.parts++[ro]).flatten u) {k:Kd} {o:Nat} (y:Den k) {K:Den k→Prop},g.qc[o]? = some (LV.mk k y).toV→K y→Go.Vw.ld u k g.q o K:=fun {g u} hA {k o} y {K} hy hK=>hA.ldP (i:=0) (b:=g.q) (c:=g.qc) rfl y hy hK;refine Dq (ldq hA2 (k:=Ki) g.m1 rfl (Dq ?_));refine hA2.stP (i:=0) (b:=g.q) (c:=g.qc) rfl (by simp [RG.qc]) fun w3 hA3 _=>?_
 let g1:RG:={g with m1:=w64 (g.m1+1)}
 have hA3:At w0 D (g1.parts++[ro]).flatten w3:=hA3;refine Dq (ldq hA3 (k:=Ki) g.m2 rfl (Dq ?_));refine hA3.stP (i:=0) (b:=g1.q) (c:=g1.qc) rfl (by simp [RG.qc]) fun w4 hA4 _=>?_
 let g2:RG:={g with m1:=w64 (g.m1+1),m2:=w64 (g.m2+nn)}
 have hA4:At w0 D (g2.parts++[ro]).flatten w4:=hA4;refine Dq (ldq hA4 (k:=Ki) g.m3 rfl ?_);refine join0 (fun w5=>∃g3:RG,At w0 D (g3.parts++[ro]).flatten w5∧g3.ok∧g3.q=g.q∧g3.abs=g.abs∧g3.mt=(w64 (g.m1+1),w64 (g.m2+nn),mxI g.m3 nn)) ?_ ?_
 ·intro k53 hk53;refine Iq (fun h3=>Dq ?_) fun h3=>?_
  ·have h3:g.m3<nn:=by simpa using h3
   refine hA4.stP (i:=0) (b:=g2.q) (c:=g2.qc) rfl (by simp [RG.qc]) fun w5 hA5 _=>?_;refine hk53 _ ⟨{g with m1:=w64 (g.m1+1),m2:=w64 (g.m2+nn),m3:=nn},hA5,⟨hg.vL,hg.n,hg.len,hg.vec⟩,rfl,rfl,?_⟩;unfold mxI RG.mt;rw [if_pos h3]
  ·have h3:¬g.m3<nn:=by simpa using h3
   refine hk53 _ ⟨g2,hA4,⟨hg.vL,hg.n,hg.len,hg.vec⟩,rfl,rfl,?_⟩;unfold mxI RG.mt;rw [if_neg h3]
 ·rintro w5 ⟨g3,hA5,hg5,hq5,ha5,hm5⟩;rw [List.flatten_append,List.flatten_singleton] at hA5;exact hK a ro g3 w5 hA5 hg5 hq5 ha5 hm5 hv (by omega)
end
def sl(a b:Str):Bool:=Op.bytesLess a b
section
variable {w0 w:World}{D:Nat→Prop}{g:RG}
theorem at_swap{q:Nat}{c:List Value}{rL ro:BL}{ros ros':List BL}(hA:At w0 D (([(q,c)]::rL::ros)++[ro]).flatten w)(hs:ros'.flatten.Sublist ros.flatten):At w0 D ([(q,c)]::ro::ros').flatten w:=by
 have h1:([(q,c)]++(ros'.flatten++ro)).Sublist (([(q,c)]::rL::ros)++[ro]).flatten:=by
  simp only [List.flatten_append,List.flatten_cons,List.flatten_nil,Lan,Laa];exact (List.Sublist.refl _).append ((hs.append (List.Sublist.refl _)).trans (Lsr _ _))
 refine (hA.sub h1).perm ?_;simp only [List.flatten_cons];exact (List.Perm.refl _).append Lpc
abbrev ldq{g:RG}{ro:BL}{u:World}(hA:At w0 D (g.parts++[ro]).flatten u){k:Kd}{o:Nat}(y:Den k){K:Den k→Prop}(hy:g.qc[o]? = some (LV.mk k y).toV)(hK:K y):Go.Vw.ld u k g.q o K:=hA.ldP (i:=0) (b:=g.q) (c:=g.qc) rfl y hy hK
theorem rdSide{ro:BL}{u:World}(hA:At w0 D (g.parts++[ro]).flatten u)(hL:VecL g.rL ERb g.lS g.es):RdS u ERb g.lS g.es:=hL.rd fun p hp=>hA.own p (by simp [RG.parts,hp])
def createR(n:Str)(a:Abs):Int×Abs:=match askA n a with
 | (_,some _)=>(51,a)
 | (c,none)=>if c=52 then (0,a.takeWhile (fun x=>sl x.1 n)++(n,Bl.new)::a.dropWhile (fun x=>sl x.1 n)) else (c,a)
theorem while_take{α:Type}{p:α→Bool}:∀{l:List α} {j:Nat},(∀x∈l.take j,p x=true)→(∀x,l[j]? = some x→p x=false)→l.takeWhile p=l.take j∧l.dropWhile p=l.drop j
 | [],j,_,_=>by simp
 | x::l,0,_,h=>by have:=h x rfl;simp [this]
 | x::l,j+1,h1,h2=>by
  have hx:=h1 x (by simp);obtain⟨e1,e2⟩:=while_take (l:=l) (j:=j) (fun y hy=>h1 y (by simp [hy])) (fun y hy=>h2 y (by simpa using hy));simp [hx,e1,e2]
theorem rcreate_ok(hA:At w0 D g.parts.flatten w)(hg:g.ok)(hlim:g.es.length<1073741824)(n:Str)(hn:n.length≤1099511627776){K:Int→Wp}(hK:∀g' w',RN w0 D g (createR n g.abs).2 g.mt g' w'→K (createR n g.abs).1 w') :
  callK Pg c_78 [Ap (some (g.q,0)),Au n] w Oi K:=by
 refine go_78 _ _ _ _ ?_;refine rask_ok hA hg n hn (fun c hc hc2 hc3=>?_) fun i x hx hxn hpre hask=>?_;rotate_left
 ·have e1:createR n g.abs=(51,g.abs):=by unfold createR;rw [hask]
  rw [e1] at hK;exact ifK_t rfl (hK _ _ (rself hA hg))
 refine ifK_f (by simpa using askA_c hc) ?_;refine Iq (fun h=>?_) fun h=>?_
 ·have h:c≠52:=by simpa using h
  have e1:createR n g.abs=(c,g.abs):=by unfold createR;rw [hc];simp [h]
  rw [e1] at hK;exact hK _ _ (rself hA hg)
 have h:c=52:=by simpa using h
 subst h;have hlen:=hg.len;have hsl:g.lS.len=g.es.length:=hg.vL.1;have hcap:=hg.vL.2.1;have hrd:=RG.rdL hA hg.vL;refine join1 (a:=Ki) (fun (z:Int) u=>∃j:Nat,z=j∧j≤g.es.length∧u=w∧(∀x∈g.es.take j,sl x.1 n=true)∧∀x,g.es[j]? = some x→sl x.1 n=false) ?_ ?_
 ·intro k6 hk6;refine loop1 (k:=Ki) (fun (i:Int) u=>u=w∧∃j:Nat,i=j∧j≤g.es.length∧∀x∈g.es.take j,sl x.1 n=true) (fun i _=>(g.es.length-i).toNat) (x:=0) rfl ⟨rfl,0,rfl,by omega,by simp⟩ ?_;rintro i u ⟨rfl,j,rfl,hj,hne⟩;refine join1 (fun b v=>v=u∧(b=true→j<g.es.length∧∀x,g.es[j]? = some x→sl x.1 n=true)∧(b=false→∀x,g.es[j]? = some x→sl x.1 n=false)) ?_ ?_
  ·intro k10 hk10;refine Dq (RG.ldQ hA (k:=.sl) g.lS rfl ?_);rw [hsl];refine Iq (fun h=>?_) fun h=>?_
   ·have hlt:j<g.es.length:=dlt h;have hx:g.es[j]? = some g.es[j]:=Lge hlt;refine Dq (RG.ldQ hA (k:=.sl) g.lS rfl ?_);refine hrd.ix rfl rfl hx fun b o _ hc=>Lq (k:=.str) g.es[j].1 (hc 0 (by decide)) ?_;refine hk10 _ _ ⟨rfl,fun hb=>⟨hlt,fun y hy=>?_⟩,fun hb y hy=>?_⟩
    ·rw [hx] at hy;cases hy;exact hb
    ·rw [hx] at hy;cases hy;exact hb
   ·have hlt:g.es.length≤j:=dge h;exact hk10 _ _ ⟨rfl,fun hb=>(by cases hb),fun _ y hy=>by rw [List.getElem?_eq_none hlt] at hy;cases hy⟩
  ·rintro b v ⟨rfl,hb1,hb2⟩;refine Iq (fun hb=>?_) fun hb=>hk6 _ _ ⟨j,rfl,hj,rfl,hne,hb2 hb⟩;obtain⟨hlt,hx⟩:=hb1 hb;refine⟨⟨rfl,j+1,step64 (by omega),by omega,fun y hy=>?_⟩,by rw [step64 (by omega)];omega⟩;rw [List.take_add_one,Lma] at hy;rcases hy with hy | hy
   ·exact hne y hy
   ·exact hx y (by simpa using hy)
 rintro z u ⟨j,rfl,hj,rfl,ht,hd⟩;obtain⟨hw1,hw2⟩:=while_take ht hd;have e1:createR n g.abs=(0,(g.es.take j++(n,(⟨none,0,0⟩:Sl),Bl.new)::g.es.drop j).map fun x=>(x.1,x.2.2)):=by
  unfold createR;rw [hc];simp only [if_true];unfold RG.abs;rw [List.takeWhile_map,List.dropWhile_map,List.map_append,List.map_cons,←hw1,←hw2];rfl
 rw [e1] at hK;refine Dq (RG.ldQ hA (k:=.sl) g.lS rfl ?_);refine⟨0,j,g.lS.cap,rfl,rfl,rfl,Nzl _,by omega,Nlr _,?_⟩;have hr1:RdS u ERb (g.lS.cut 6 0 j g.lS.cap) ((g.es.take j).drop 0):=RdS.cutR hrd (Nzl _) (by omega) (by omega);rw [List.drop_zero] at hr1;refine appL (m:=g.parts.flatten) (ro:=[]) (l:=([]:List (Str×Sl×Bl))) (side_nil hA) (E:=ERb) (VecL.nil ERb) hr1 rfl rfl (by simp;omega) fun a28 ro w2 hA2 hv _ _=>?_;rw [List.nil_append] at hv;refine hA2.alK fun b30 w31 _ hA31 hM31=>?_;have hr30:RdS w31 ERb ⟨some (b30,0),1,1⟩ [(n,(⟨none,0,0⟩:Sl),Bl.new)]:=by
  refine⟨rfl,.inr ⟨b30,0,rfl,fun i hi=>?_⟩,Nlr _⟩;rw [(hA31.own (b30,_) (Lmr _ (Lms.2 rfl))).cell,Nat.zero_add];rfl
 have hA31':At w0 D (g.parts.flatten++ro) w31:=hA31.sub (Lsl _ _);refine appL hA31' hv hr30 rfl rfl (by simp;omega) fun a32 ro2 w33 hA33 hv33 _ _=>?_;have hA33':At w0 D (g.parts++[ro2]).flatten w33:=by rw [List.flatten_append];simpa using hA33
 refine Dq (ldq hA33' (k:=.sl) g.lS rfl ?_);refine⟨j,g.lS.len,g.lS.cap,rfl,rfl,rfl,by omega,hcap,Nlr _,?_⟩;have hr2:RdS w33 ERb (g.lS.cut 6 j g.lS.len g.lS.cap) ((g.es.take g.lS.len).drop j):=RdS.cutR (rdSide hA33' hg.vL) (by omega) (by omega) (by omega);rw [Ltl (by omega)] at hr2;refine appL hA33 hv33 hr2 rfl rfl (by simp;omega) fun a38 ro3 w3 hA3 hv3 _ _=>Dq ?_;have hA3':At w0 D (g.parts++[ro3]).flatten w3:=by rw [List.flatten_append];simpa using hA3
 refine hA3'.stP (i:=0) (b:=g.q) (c:=g.qc) rfl (by simp [RG.qc]) fun w4 hA4 _=>?_;rw [Laa,List.singleton_append] at hv3
 let g':RG:={g with lS:=a38,rL:=ro3,es:=g.es.take j++(n,(⟨none,0,0⟩:Sl),Bl.new)::g.es.drop j,ros:=g.ros.take j++[]::g.ros.drop j}
 have hA4:At w0 D (([(g.q,g'.qc)]::g.rL::g.ros)++[ro3]).flatten w4:=hA4;have hA5:At w0 D g'.parts.flatten w4:=at_swap hA4 (by
  rw [List.flatten_append,List.flatten_cons,List.nil_append,←List.flatten_append,List.take_append_drop];exact List.Sublist.refl _)
 have hrn:=hg.n;refine hK g' w4 ⟨hA5,⟨hv3,?_,?_,fun k z r hz hr=>?_⟩,rfl,rfl,rfl⟩
 ·simp [g'];omega
 ·simp [g'];omega
 ·have hz:(g.es.take j++(n,(⟨none,0,0⟩:Sl),Bl.new)::g.es.drop j)[k]? = some z:=hz;have hr:(g.ros.take j++[]::g.ros.drop j)[k]? = some r:=hr;rw [List.getElem?_append] at hz hr;have l1:(g.es.take j).length=j:=by simp;omega
  have l2:(g.ros.take j).length=j:=by simp;omega
  rw [l1] at hz;rw [l2] at hr;by_cases hk:k<j
  ·rw [if_pos hk,List.getElem?_take_of_lt hk] at hz hr;exact hg.vec k z r hz hr
  ·rw [if_neg hk] at hz hr
   cases hkj:k-j with
   | zero=>
    rw [hkj] at hz hr;simp at hz hr;subst hz;subst hr;exact⟨VecL.nil EU,Bl.new_ok⟩
   | succ t=>
    rw [hkj,List.getElem?_cons_succ,List.getElem?_drop] at hz hr;exact hg.vec _ z r hz hr
end
end Go.Proofs.YtkofkhjcfjoceaaGreat
