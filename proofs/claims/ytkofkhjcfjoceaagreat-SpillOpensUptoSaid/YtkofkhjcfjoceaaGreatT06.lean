/- Part T06. -/
import Derived.Test.YtkofkhjcfjoceaaGreatT05
import Derived.Test.YtkofkhjcfjoceaaGreatT03
import Derived.Lib.AppendStr
namespace Go.Proofs.YtkofkhjcfjoceaaGreat
open Go.Vw
theorem lzRun_len{n:Nat}:∀(k:Nat) (text:Str) (c:Cu) {x:Str},lzRun n k text c=some x→x.length=n
 | 0,_,_,x,h=>by cases h
 | k+1,text,c,x,h=>by
  rw [lzRun] at h;split at h
  ·split at h
   ·rename_i h1;cases h;exact h1.1
   ·cases h
  ·dsimp only at h;split at h
   ·exact lzRun_len k _ _ h
   ·cases h
theorem lzDec_len{b:Str}{n:Nat}{x:Str}(h:lzDec b n=some x):x.length=n:=lzRun_len _ _ _ h
theorem wordsRun_len{lens:List Nat}{bits:Str}:∀(n i:Nat) (text:Str) {x:Str×Nat},wordsRun lens bits n i text=some x→x.1.length=text.length+n
 | 0,i,text,x,h=>by cases h;rfl
 | n+1,i,text,x,h=>by
  rw [wordsRun] at h;split at h
  ·cases h
  ·rw [wordsRun_len n _ _ h,Lla,List.length_singleton];omega
theorem huffDec_len{b:Str}{n:Nat}{x:Str}(h:huffDec b n=some x):x.length=n:=by
 unfold huffDec at h;split at h
 ·cases h
 unfold wordsOf at h;split at h
 ·cases h
 split at h
 ·cases h
 rename_i y hy;split at h
 ·cases h;have:=wordsRun_len _ _ _ hy;simpa using this
 ·cases h
theorem codes_ok{w:World}{K:Value→Value→Value→Value→Value→Value→Wp}
  (hK:∀w',Mod F0 w w'→K (.func (.func c_44) #[] #[]) (.func (.func c_45) #[] #[]) (.func (.func c_46) #[] #[]) (.func (.func c_37) #[] #[]) (.func (.func c_47) #[] #[]) (.func (.func c_41) #[] #[]) w') :
  callK Pg c_48 [] w (.one (.agg [.val,.val,.val,.val,.val,.val])) K:=by
 refine go_48 _ _ ?_;refine (At.init w F0).alK fun b w1 _ h1 _=>?_;have cell2:∀f g:FuncId,∀x∈[(.func (.func f) #[] #[]:Value),(.func (.func g) #[] #[]:Value)],isCell x=true:=fun f g x hx=>by
  simp only [List.mem_cons,List.not_mem_nil,or_false] at hx;rcases hx with rfl | rfl<;>rfl
 refine⟨cell2 _ _,cell2 _ _,cell2 _ _,?_,?_,?_⟩
 iterate 2
  intro x hx;simp only [List.mem_cons,List.not_mem_nil,or_false] at hx;rcases hx with rfl | rfl | rfl | rfl | rfl | rfl<;>rfl
 refine h1.st 0 rfl (Nlr 6) fun w2 h2 _=>?_;have hB:=h2.blk (i:=0) rfl;exact hB.ldK (k:=.val) _ rfl (hB.ldK (k:=.val) _ rfl (hB.ldK (k:=.val) _ rfl (hB.ldK (k:=.val) _ rfl (hB.ldK (k:=.val) _ rfl (hB.ldK (k:=.val) _ rfl (hK _ h2.mod))))))
theorem index_codes{v0 v1 v2 v3 v4 v5:Value}{w:World}{i:Nat}(hi:i<3){K:Value→Value→Wp}(hK:K (if i=0 then v0 else if i=1 then v2 else v4) (if i=0 then v1 else if i=1 then v3 else v5) w) :
  opF Pg (vS (Instr.index t_codes (.agg #[v0,v1,v2,v3,v4,v5]) (LV.toV (.int .i64 (i:Int))))) w (.one (.agg [.val,.val])) K:=by
 have r0:(Instr.index t_codes (.agg #[v0,v1,v2,v3,v4,v5]) (.int .i64 0)).run Pg w = .ok (.agg #[v0,v1]) w:=by kernel_rfl
 have r1:(Instr.index t_codes (.agg #[v0,v1,v2,v3,v4,v5]) (.int .i64 1)).run Pg w = .ok (.agg #[v2,v3]) w:=by kernel_rfl
 have r2:(Instr.index t_codes (.agg #[v0,v1,v2,v3,v4,v5]) (.int .i64 2)).run Pg w = .ok (.agg #[v4,v5]) w:=by kernel_rfl
 have fin:∀{x y:Value} {j:Int},(Instr.index t_codes (.agg #[v0,v1,v2,v3,v4,v5]) (.int .i64 j)).run Pg w = .ok (.agg #[x,y]) w→K x y w→opF Pg (vS (Instr.index t_codes (.agg #[v0,v1,v2,v3,v4,v5]) (LV.toV (.int .i64 j)))) w (.one (.agg [.val,.val])) K:=fun {x y j} hr hk=>by
  refine⟨[.val x,.val y],w,?_,hk⟩;unfold vS;have hr':(Instr.index t_codes (.agg #[v0,v1,v2,v3,v4,v5]) (LV.toV (.int .i64 j))).run Pg w = .ok (.agg #[x,y]) w:=hr;simp only [Sem.run_bind,hr',Result.andThen];rfl
 obtain rfl | rfl | rfl:i=0∨i=1∨i=2:=by omega
 ·exact fin r0 hK
 ·exact fin r1 hK
 ·exact fin r2 hK
def textN(flag:Nat)(p:Str)(n:Nat):Option Str:=if flag=0 then (if p.length=n then some p else none) else if flag=1 then lzDec p n else huffDec p n
def blockN(tile:Str)(raw:Int):Int×Option (Nat×List (Str×Str)):=
 if raw<1∨65536<raw then (3,none) else
 if (openB tile).1≠0 then ((openB tile).1,none) else
 if (openB tile).2.length=0 then (60,none) else
 if 3≤((openB tile).2.getD ((openB tile).2.length-1) 0).toNat∨64*(((openB tile).2.length-1:Nat):Int)<raw then (60,none) else
 match textN ((openB tile).2.getD ((openB tile).2.length-1) 0).toNat ((openB tile).2.take ((openB tile).2.length-1)) raw.toNat with
 | none=>(60,none)
 | some t=>match parsedN t with
  | none=>(60,none)
  | some x=>(0,some x)
set_option maxHeartbeats 1000000 in
theorem blockOpen_ok{w:World}{sT:Sl}{tile:Str}(hr:RdS w ET sT tile)(hl:tile.length≤1048576){raw:Int}{K:PA→Int→Wp}
  (hN:(blockN tile raw).2=none→∀w',Mod F0 w w'→K none (blockN tile raw).1 w')
  (hS:∀x,(blockN tile raw).2=some x→∀w' b s ro,Fresh w w' F0 ([(b,rdC x.1 s)]++ro)→VecL ro EPr s x.2→K (some (b,0)) (blockN tile raw).1 w') :
  callK Pg c_49 [Az sT,Ai raw] w (.tup [Lp,Li]) K:=by
 refine go_49 _ _ _ _ ?_;refine join1 (a:=.bool) (fun q v=>q=decide (raw<1∨65536<raw)∧v=w) ?_ ?_
 ·intro k hk;refine Iq (fun h=>hk _ _ ⟨?_,rfl⟩) fun h=>hk _ _ ⟨?_,rfl⟩
  ·exact (Dct (.inl (odt h:(raw:Int)<1))).symm
  ·have h:¬raw<1:=odf h;show decide (65536<raw)=_;rw [Bei,Det,Det];omega
 rintro q v ⟨rfl,rfl⟩;unfold blockN at hN hS;refine Iq (fun h=>?_) fun h=>?_
 ·have h:=odt h;rw [if_pos h] at hN;exact hN rfl v (Mod.refl _ _)
 have h:=odf h;rw [if_neg h] at hN hS;obtain⟨n,rfl⟩:∃n:Nat,raw=(n:Int):=⟨raw.toNat,by omega⟩;refine open_ok hr (by omega) fun w1 ro1 s1 h1 v1=>?_;have hol:(openB tile).2.length≤1048576:=by
  unfold openB;split
  ·exact Nzl _
  ·split
   ·show (tile.take _).length≤_;rw [Llt];omega
   ·exact Nzl _
 generalize openB tile=o at hN hS v1 hol ⊢;refine Iq (fun q=>?_) fun q=>?_
 ·have q:o.1≠0:=by simpa using q
  rw [if_pos q] at hN;exact hN rfl _ h1.mod
 have q:¬o.1≠0:=by simpa using q
 rw [if_neg q] at hN hS;have r1:RdS w1 ET s1 o.2:=v1.rdAt0 h1;rw [r1.len];refine Iq (fun q2=>?_) fun q2=>?_
 ·have q2:(o.2.length:Int)=0:=by simpa using q2
  rw [if_pos (by omega)] at hN;exact hN rfl _ h1.mod
 have q2:¬(o.2.length:Int)=0:=by simpa using q2
 have q2:¬o.2.length=0:=by omega
 rw [if_neg q2] at hN hS;have e1:w64 ((o.2.length:Int)-1)=((o.2.length-1:Nat):Int):=by rw [Wq (by omega) (by omega)];omega
 simp only [e1];have hd:=h1.drew;have rd:=r1.quiet (Mq w1);have hlt:o.2.length-1<o.2.length:=by omega
 refine⟨F0,rd.toK (by omega:o.2.length-1≤o.2.length) rfl rfl fun s10 r10 _=>rd.byte rfl hlt fun bb oo _ hcell=>Lw (k:=.int .u8) ((o.2[o.2.length-1]).toNat:Int) id hcell ?_⟩;have eg:o.2.getD (o.2.length-1) 0=o.2[o.2.length-1]:=by rw [Lgd,Lge hlt];rfl
 rw [eg] at hN hS;have hfb:(o.2[o.2.length-1]).toNat<256:=UInt8.toNat_lt_size _;generalize (o.2[o.2.length-1]).toNat=f at hN hS hfb ⊢;have ef:w64 (f:Int)=(f:Int):=Wq (by omega) (by omega);simp only [ef];have hpl:(o.2.take (o.2.length-1)).length=o.2.length-1:=by rw [Llt];omega
 have e64:w64 (64*((s10.len:Nat):Int))=64*((o.2.length-1:Nat):Int):=by rw [r10.len,hpl,Wq (by omega) (by omega)]
 rw [e64];have M1:Mod F0 v w1.drew:=mod0 h1.mod (Mq w1);refine join1 (a:=.bool) (fun q u=>q=decide (3≤f∨64*((o.2.length-1:Nat):Int)<(n:Int))∧Mod F0 w1.drew u) ?_ ?_
 ·intro k hk;refine codes_ok fun w2 M2=>Iq (fun h=>hk _ _ ⟨?_,M2⟩) fun h=>hk _ _ ⟨?_,M2⟩
  ·have h:(3:Int)≤(f:Int):=odt h;exact (Dct (.inl (by omega))).symm
  ·have h:¬(3:Int)≤(f:Int):=odf h;show decide (64*((o.2.length-1:Nat):Int)<(n:Int))=_;rw [Bei,Det,Det];omega
 rintro q u ⟨rfl,M2⟩;have M3:Mod F0 v u:=mod0 M1 M2;refine Iq (fun q=>?_) fun q=>?_
 ·have q:=odt q;rw [if_pos q] at hN;exact hN rfl _ M3
 have q:=odf q;rw [if_neg q] at hN hS;simp only [Itn] at hN hS;refine codes_ok fun w3 M4=>index_codes (i:=f) (by omega) ?_;have M5:Mod F0 v w3:=mod0 M3 M4;have rp:RdS w3 ET s10 (o.2.take (o.2.length-1)):=(r10.quiet M2).quiet M4;have hn:n≤65536:=by omega
 have fin:∀(t:Option Str) (s:Sl) (e:Int) (u:World),textN f (o.2.take (o.2.length-1)) n=t→(t=none↔e≠0)→Mod F0 v u→(∀x,t=some x→RdS u ET s x∧x.length=n) →
   ifK (e != 0) (K none 60 u) (callK Pg c_43 [Az s] u Oq fun p37 W38=>ifK (!p37.isNone) (K p37 0 W38) (K none 60 W38)):=fun t s e u ht hte hM hx=>by
  rw [ht] at hN hS;refine Iq (fun q=>?_) fun q=>?_
  ·have q:e≠0:=by simpa using q
   rw [hte.2 q] at hN;exact hN rfl u hM
  ·have q:e=0:=by simpa using q
   cases t with
   | none=>exact absurd q (hte.1 rfl)
   | some x=>
    obtain⟨hrx,hxl⟩:=hx x rfl;simp only at hN hS;refine parsed_ok hrx (by omega) (fun hp u' hM'=>ifK_f rfl ?_) fun y hp u' b s' ro F' v'=>ifK_t rfl ?_
    ·rw [hp] at hN;exact hN rfl u' (mod0 hM hM')
    ·rw [hp] at hS;exact hS y rfl u' b s' ro ⟨mod0 hM F'.mod,F'.own,fun p hp=>Nat.le_trans hM.size (F'.new p hp),F'.nodup⟩ v'
 obtain rfl | rfl | rfl:f=0∨f=1∨f=2:=by omega
 ·refine callV_func (by kernel_rfl) [Az s10,Ai (n:Int)] rfl (go_45 _ _ _ _ ?_);rw [rp.len,hpl];refine Iq (fun q=>?_) fun q=>?_
  ·have q:((o.2.length-1:Nat):Int)≠(n:Int):=by simpa using q
   refine fin none _ 60 w3 ?_ (by simp) M5 fun x hx=>by cases hx
   unfold textN;rw [if_pos rfl,if_neg (by rw [hpl];omega)]
  ·have q:((o.2.length-1:Nat):Int)=(n:Int):=by simpa using q
   refine fin (some (o.2.take (o.2.length-1))) _ 0 w3 ?_ (by simp) M5 fun x hx=>by cases hx;exact⟨rp,by rw [hpl];omega⟩
   unfold textN;rw [if_pos rfl,if_pos (by rw [hpl];omega)]
 ·refine callV_func (by kernel_rfl) [Az s10,Ai (n:Int)] rfl (lzDecode_ok rp (by rw [hpl];omega) fun w4 ro4 s4 v4 F4=>?_);have hD:lzD (o.2.take (o.2.length-1)) (n:Int)=match lzDec (o.2.take (o.2.length-1)) n with
    | none=>([],30)
    | some x=>(x,0):=if_neg (by omega)
  refine fin (lzDec (o.2.take (o.2.length-1)) n) s4 _ w4 rfl ?_ (mod0 M5 F4.mod) fun x hx=>?_
  ·rw [hD];cases lzDec (o.2.take (o.2.length-1)) n<;>simp
  ·rw [hD,hx] at v4;exact⟨v4.rdF F4,lzDec_len hx⟩
 ·refine callV_func (by kernel_rfl) [Az s10,Ai (n:Int)] rfl (huffDecode_ok rp (by rw [hpl];omega) fun w4 ro4 s4 v4 F4=>?_);have hD:huffD (o.2.take (o.2.length-1)) (n:Int)=match huffDec (o.2.take (o.2.length-1)) n with
    | none=>([],40)
    | some x=>(x,0):=if_neg (by omega)
  refine fin (huffDec (o.2.take (o.2.length-1)) n) s4 _ w4 rfl ?_ (mod0 M5 F4.mod) fun x hx=>?_
  ·rw [hD];cases huffDec (o.2.take (o.2.length-1)) n<;>simp
  ·rw [hD,hx] at v4;exact⟨v4.rdF F4,huffDec_len hx⟩
structure BlkR(w:World)(b:Nat)(s:Sl)(R:Nat)(l:List (Str×Str)):Prop where
 blk:Blk w b (rdC R s)
 rd:RdS w EPr s l
theorem BlkR.quiet{w u:World}{b:Nat}{s:Sl}{R:Nat}{l:List (Str×Str)}(h:BlkR w b s R l)(hM:Mod F0 w u):BlkR u b s R l:=⟨hM.blk h.blk id,h.rd.quiet hM⟩
theorem blockLen_ok{w:World}{b:Nat}{s:Sl}{R:Nat}{l:List (Str×Str)}(h:BlkR w b s R l){K:Int→Wp}(hK:K (l.length:Int) w):callK Pg c_50 [Ap (some (b,0))] w Oi K:=by
 refine go_50 _ _ _ (ifK_f rfl (Dq (h.blk.ldK (k:=.sl) s rfl ?_)));rw [h.rd.len];exact hK
def atN(l:List (Str×Str))(i:Int):Str×Str×Int:=if i<0∨(l.length:Int)≤i then ([],[],3) else ((l.getD i.toNat ([],[])).1,(l.getD i.toNat ([],[])).2,0)
theorem blockAt_ok{w:World}{b:Nat}{s:Sl}{R:Nat}{l:List (Str×Str)}(h:BlkR w b s R l){i:Int}{K:Str→Str→Int→Wp}(hK:∀w',Mod F0 w w'→K (atN l i).1 (atN l i).2.1 (atN l i).2.2 w') :
  callK Pg c_51 [Ap (some (b,0)),Ai i] w (.tup [Lt,Lt,Li]) K:=by
 refine go_51 _ _ _ _ (ifK_f rfl ?_);refine join1 (a:=.bool) (fun q v=>q=decide (i<0∨(l.length:Int)≤i)∧v=w) ?_ ?_
 ·intro k hk;refine Iq (fun q=>hk _ _ ⟨?_,rfl⟩) fun q=>Dq (h.blk.ldK (k:=.sl) s rfl (hk _ _ ⟨?_,rfl⟩))
  ·exact (Dct (.inl (odt q:i<0))).symm
  ·have q:¬i<0:=odf q;rw [h.rd.len];show decide ((l.length:Int)≤i)=_;rw [Bei,Det,Det];omega
 rintro q v ⟨rfl,rfl⟩;unfold atN at hK;refine Iq (fun q=>?_) fun q=>?_
 ·have q:=odt q;have:=hK v (Mod.refl _ _);rw [if_pos q] at this;exact this
 have q:=odf q;have:=hK _ (Mq v);rw [if_neg q] at this;obtain⟨j,rfl⟩:∃j:Nat,i=(j:Int):=⟨i.toNat,by omega⟩;simp only [Itn] at this;have hj:j<l.length:=by omega
 obtain⟨x,hx⟩:∃x,l[j]? = some x:=⟨_,Lge hj⟩;have eg:l.getD j ([],[])=x:=by rw [Lgd,hx];rfl
 rw [eg] at this;have hd:=h.quiet (Mq v);refine⟨F0,Dq (hd.blk.ldDK (k:=.sl) s id rfl (hd.rd.ix rfl rfl hx fun b1 o1 _ hc1=>Lw (k:=.str) x.1 id (hc1 0 (by decide)) (Dq (hd.blk.ldDK (k:=.sl) s id rfl (hd.rd.ix rfl rfl hx fun b2 o2 _ hc2=>Lw (k:=.str) x.2 id (hc2 1 (by decide)) this)))))⟩
set_option maxRecDepth 100000
theorem go_53(r1:PA)(k2:List UInt8)(K:Int→Wp)(w:World)(h:al w 157 [.ptr r1] fun b3 W4=>al W4 9 [.str k2] fun b5 W6=>ld W6 .ptr b3 0 fun p7=>ifK p7.isNone (K 0 W6) (drawK W6 fun D W8=>ldD D W8 .ptr b3 0 fun p9=>dr p9 fun b10 o11=>ldD D W8 .sl b10 (o11+1) fun a12=>ldD D W8 .ptr b3 0 fun p13=>dr p13 fun b14 o15=>ldD D W8 Ki b14 o15 fun n16=>ldD D W8 .ptr b3 0 fun p17=>dr p17 fun b18 o19=>ldD D W8 Ki b18 o19 fun n20=>(mxI n20 1)≠0∧joinK [Ki] (fun k21=>loopL [Ki,Ki] (fun lo23 hi24 W25 g22=>ifK (decide (lo23<hi24)) (ld W25 .ptr b3 0 fun p26=>dr p26 fun b27 o28=>ld W25 Ki b27 o28 fun n29=>callV Pg (.func (.func 170) #[] #[(LV.toV (.ptr (some (b3,0)))),(LV.toV (.ptr (some (b5,0))))]) [Ai (w64 ((w64 ((w64 (lo23+hi24)).tdiv 2))*n29))] W25 Ob fun c30 W31=>joinK [Ki,Ki] (fun k32=>ifK c30 (k32 (w64 ((w64 ((w64 (lo23+hi24)).tdiv 2))+1)) hi24 W31) (k32 lo23 (w64 ((w64 (lo23+hi24)).tdiv 2)) W31)) fun lo33 hi34 W35=>g22 lo33 hi34 W35) (k21 lo23 W25)) [.int .i64 0,.int .i64 (w64 ((w64 ((w64 ((a12.len:Int)+(mxI n16 1)))-1)).tdiv (mxI n20 1)))] W8) fun lo36 W37=>ld W37 .ptr b3 0 fun p38=>dr p38 fun b39 o40=>ld W37 Ki b39 o40 fun n41=>joinK [Ki] (fun k42=>loopL [Ki] (fun at_44 W45 g43=>ld W45 .ptr b3 0 fun p46=>dr p46 fun b47 o48=>ld W45 .sl b47 (o48+1) fun a49=>ifK (decide (at_44<(a49.len:Int))) (callV Pg (.func (.func 170) #[] #[(LV.toV (.ptr (some (b3,0)))),(LV.toV (.ptr (some (b5,0))))]) [Ai at_44] W45 Ob fun c50 W51=>ifK (!c50) (k42 at_44 W51) (g43 (w64 (at_44+1)) W51)) (k42 at_44 W45)) [.int .i64 (w64 ((mxI (w64 (lo36-1)) 0)*(mxI n41 1)))] W37) fun at_52 W53=>K at_52 W53)):callK Pg 150 [Ap r1,Au k2] w Oi K:=Fq (n:=(n0 .nil (n0 (n0 .nil (n0 .nil (n0 (.mk none [] [] (tk [0,1,2,3,4,5,6,7,8,9,10,11,12,13,14,15,16,17,18,19] .done) .nil .nil) (n0 (.mk (some [.tmp 6 Li]) [] [2,5] .done (.mk none [.tmp 6 Li,.tmp 7 Li] [2,5] .done (n0 .nil (n0 (n0 .nil (n0 .nil (.mk (some [.tmp 6 Li,.tmp 7 Li]) [] [2,5] .done .nil .nil))) .nil)) .nil) .nil) (n0 .nil (n0 .nil (n0 (.mk (some [.tmp 9 Li]) [] [] .done (.mk none [.tmp 9 Li] [2,5] .done .nil .nil) .nil) .nil))))))) .nil))) CS_ok mixed Tryz.func150 (Eq.mpr (by kernel_rfl) h)
theorem go_52(i1:Int)(t1B2:Nat)(t1O3:Nat)(t2B4:Nat)(t2O5:Nat)(K:Bool→Wp)(w:World)(h:drawK w fun D W6=>ldD D W6 .ptr t1B2 t1O3 fun p7=>dr p7 fun b8 o9=>ldD D W6 .sl b8 (o9+1) fun a10=>ix a10 2 i1 fun b11 o12=>ldD D W6 .str b11 o12 fun s13=>ldD D W6 .str t2B4 t2O5 fun s14=>callK Pg 111 [Au s13,Au s14] W6 Oi fun n15 W16=>Mod D W6 W16∧K (decide (n15<0)) W16):callK Pg 170 [Ai i1,Ap (some (t1B2,t1O3)),Ap (some (t2B4,t2O5))] w Ob K:=Fq (n:=(n0 .nil (n0 (.mk none [] [] (tk [0,1,2,3,4,5,6,7,8] (.eff 9 (.take 10 (.take 11 .done)))) .nil .nil) .nil))) CS_ok mixed Tryz.func170 (Eq.mpr (by kernel_rfl) h)
def seekN(l:List (Str×Str))(k:Str):Nat:=(l.takeWhile fun x=>decide (cmpN x.1 k<0)).length
def below(l:List (Str×Str))(k:Str)(i:Nat):Bool:=decide (cmpN (l.getD i ([],[])).1 k<0)
theorem takeWhile_stop{α:Type}(p:α→Bool):∀(l:List α) (n:Nat) (d:α),n≤l.length→(∀i,i<n→p (l.getD i d)=true)→(n=l.length∨p (l.getD n d)=false)→(l.takeWhile p).length=n
 | [],n,d,hn,_,_=>by simp at hn;subst hn;rfl
 | x::l,0,d,hn,_,h=>by
  rcases h with h | h
  ·simp at h
  ·have:p x=false:=by simpa using h
   simp [this]
 | x::l,n+1,d,hn,hb,h=>by
  have h0:p x=true:=by simpa using hb 0 (by omega)
  have ih:=takeWhile_stop p l n d (by simpa using hn) (fun i hi=>by simpa using hb (i+1) (by omega)) (by
   rcases h with h | h
   ·left;simpa using h
   ·right;simpa using h)
  simp [h0,ih]
theorem below1_ok{w:World}{b b3 b5:Nat}{s:Sl}{R:Nat}{l:List (Str×Str)}{k:Str}(h:BlkR w b s R l)(h3:Blk w b3 [LV.toV (.ptr (some (b,0)))])(h5:Blk w b5 [LV.toV (.str k)])(hk:k.length≤1099511627776)(hl:∀x∈l,x.1.length≤1099511627776){i:Nat}(hi:i<l.length){K:Bool→Wp}
  (hK:∀w',Mod F0 w w'→K (below l k i) w') :
  callK Pg c_52 [Ai (i:Int),Ap (some (b3,0)),Ap (some (b5,0))] w Ob K:=by
 refine go_52 _ _ _ _ _ _ _ ?_;obtain⟨x,hx⟩:∃x,l[i]? = some x:=⟨_,Lge hi⟩;have hd:=h.quiet (Mq w);have d3:=(Mq w).blk h3 id;have d5:=(Mq w).blk h5 id;refine⟨F0,d3.ldDK (k:=.ptr) (some (b,0)) id rfl (Dq (hd.blk.ldDK (k:=.sl) s id rfl (hd.rd.ix rfl rfl hx fun b1 o1 _ hc=>Lw (k:=.str) x.1 id (hc 0 (by decide)) (d5.ldDK (k:=.str) k id rfl (compare_ok (hl x (Lmg hx)) hk fun w2 M2=>⟨M2,?_⟩)))))⟩;have:below l k i=decide (cmpN x.1 k<0):=by unfold below;rw [Lgd,hx];rfl
 have h2:=hK w2 (mod0 (Mq w) M2);rw [this] at h2;exact h2
theorem mx1{R:Nat}(h:1≤R):mxI (R:Int) 1=(R:Int):=by unfold mxI;split<;>omega
set_option maxHeartbeats 1000000 in
theorem blockSeek_ok{w:World}{b:Nat}{s:Sl}{R:Nat}{l:List (Str×Str)}{k:Str}(h:BlkR w b s R l)(hR:1≤R)(hR2:R≤64)(hll:l.length≤1048576)(hk:k.length≤1099511627776)(hl:∀x∈l,x.1.length≤1099511627776)
  (hmono:∀i j,i≤j→j<l.length→below l k j=true→below l k i=true) {K:Int→Wp} (hK:∀w',Mod F0 w w'→K (seekN l k:Int) w') :
  callK Pg c_53 [Ap (some (b,0)),Au k] w Oi K:=by
 refine go_53 _ _ _ _ ?_;refine (Fresh.start w F0).alK fun b3 w1 f1 _ M1=>f1.alK fun b5 w2 f2 _ M2=>?_;have hb2:BlkR w2 b s R l:=h.quiet (mod0 M1 M2);have h3:Blk w2 b3 [LV.toV (.ptr (some (b,0)))]:=f2.blk (i:=0) rfl;have h5:Blk w2 b5 [LV.toV (.str k)]:=f2.blk (i:=1) rfl;have M02:=mod0 M1 M2;refine h3.ldK (k:=.ptr) (some (b,0)) rfl (ifK_f rfl ?_);have d3:=(Mq w2).blk h3 id;have hd:=hb2.quiet (Mq w2);refine⟨F0,d3.ldDK (k:=.ptr) (some (b,0)) id rfl (Dq (hd.blk.ldDK (k:=.sl) s id rfl (d3.ldDK (k:=.ptr) (some (b,0)) id rfl (Dq (hd.blk.ldDK (k:=Ki) (R:Int) id rfl (d3.ldDK (k:=.ptr) (some (b,0)) id rfl (Dq (hd.blk.ldDK (k:=Ki) (R:Int) id rfl ?_))))))))⟩;rw [mx1 hR,hb2.rd.len];have hR0:(R:Int)≠0:=by omega
 refine⟨hR0,?_⟩;have e1:w64 ((l.length:Int)+(R:Int))=((l.length+R:Nat):Int):=by rw [Wq (by omega) (by omega)];omega
 have e2:w64 (((l.length+R:Nat):Int)-1)=((l.length+R-1:Nat):Int):=by rw [Wq (by omega) (by omega)];omega
 have hq:(l.length+R-1)/R≤l.length+R:=Nat.le_trans (Nat.div_le_self _ _) (by omega);have e3:w64 (((l.length+R-1:Nat):Int).tdiv (R:Int))=(((l.length+R-1)/R:Nat):Int):=by rw [tdivN,w64N (Nat.le_trans hq (by omega))]
 rw [e1,e2,e3];have hin:∀m,m<(l.length+R-1)/R→m*R<l.length:=fun m hm=>by
  have h1:(m+1)*R≤l.length+R-1:=(Nat.le_div_iff_mul_le (by omega)).1 hm;rw [Nat.add_mul] at h1;omega
 have MD:=mod0 M02 (Mq w2);have call1:∀{u:World} {i:Nat} (hi:i<l.length) {K':Bool→Wp},Mod F0 w2 u→(∀u',Mod F0 u u'→K' (below l k i) u')→callV Pg (.func (.func c_52) #[] #[(LV.toV (.ptr (some (b3,0)))),(LV.toV (.ptr (some (b5,0))))]) [Ai (i:Int)] u Ob K':=fun {u i} hi {K'} hM hK'=>
  callV_func (by kernel_rfl) [Ai (i:Int),Ap (some (b3,0)),Ap (some (b5,0))] rfl (below1_ok (hb2.quiet hM) (hM.blk h3 id) (hM.blk h5 id) hk hl hi hK')
 refine join1 (a:=Ki) (fun (lo:Int) u=>∃m:Nat,lo=(m:Int)∧m≤(l.length+R-1)/R∧(m=0∨below l k ((m-1)*R)=true)∧Mod F0 w2 u) ?_ ?_
 ·intro k21 hk21;refine loop2 (k1:=Ki) (k2:=Ki) (fun (lo hi:Int) u=>∃m n:Nat,lo=(m:Int)∧hi=(n:Int)∧m≤n∧n≤(l.length+R-1)/R∧(m=0∨below l k ((m-1)*R)=true)∧Mod F0 w2 u) (fun lo hi _=>(hi-lo).toNat) (x1:=0) (x2:=(((l.length+R-1)/R:Nat):Int)) rfl rfl
   ⟨0,_,rfl,rfl,Nzl _,Nlr _,.inl rfl,Mq w2⟩ ?_
  rintro lo hi u ⟨m,n,rfl,rfl,hmn,hn,hm,hM⟩;have u3:=hM.blk h3 id;have ub:=hb2.quiet hM;refine Iq (fun q=>?_) fun q=>hk21 _ _ ⟨m,rfl,by omega,hm,hM⟩;have q:m<n:=dlt q;refine u3.ldK (k:=.ptr) (some (b,0)) rfl (Dq (ub.blk.ldK (k:=Ki) (R:Int) rfl ?_));have a1:w64 ((m:Int)+(n:Int))=((m+n:Nat):Int):=by rw [Wq (by omega) (by omega)];omega
  have a2:w64 (((m+n:Nat):Int).tdiv 2)=(((m+n)/2:Nat):Int):=by rw [show (2:Int)=((2:Nat):Int) from rfl,tdivN,w64N (by omega)]
  have hmid:(m+n)/2<n:=by omega
  have hid:=hin ((m+n)/2) (by omega);have a3:w64 ((((m+n)/2:Nat):Int)*(R:Int))=(((m+n)/2*R:Nat):Int):=by rw [←Int.natCast_mul,w64N (by omega)]
  rw [a1,a2,a3];refine call1 hid hM fun u' M'=>?_;have hM':=mod0 hM M';refine join2 (a:=Ki) (b:=Ki) (fun lo hi v=>(∃m' n':Nat,lo=(m':Int)∧hi=(n':Int)∧m'≤n'∧n'≤(l.length+R-1)/R∧(m'=0∨below l k ((m'-1)*R)=true)∧n'-m'<n-m)∧v=u') ?_ ?_
  ·intro k32 hk32;have a4:w64 ((((m+n)/2:Nat):Int)+1)=(((m+n)/2+1:Nat):Int):=by rw [Wq (by omega) (by omega)];omega
   rw [a4];refine Iq (fun q2=>hk32 _ _ _ ⟨⟨(m+n)/2+1,n,rfl,rfl,by omega,hn,.inr (by rw [Nat.add_sub_cancel];exact q2),by omega⟩,rfl⟩) fun q2=>hk32 _ _ _ ⟨⟨m,(m+n)/2,rfl,rfl,by omega,by omega,hm,by omega⟩,rfl⟩
  rintro lo hi v ⟨⟨m',n',rfl,rfl,h1,h2,h3',h4⟩,rfl⟩;exact⟨⟨m',n',rfl,rfl,h1,h2,h3',hM'⟩,by omega⟩
 rintro lo u ⟨m,rfl,hm,hlo,hM⟩;have u3:=hM.blk h3 id;have ub:=hb2.quiet hM;refine u3.ldK (k:=.ptr) (some (b,0)) rfl (Dq (ub.blk.ldK (k:=Ki) (R:Int) rfl ?_));have hst:(m-1)*R≤l.length:=by
  rcases Nat.eq_zero_or_pos m with h0 | h0
  ·subst h0;simp
  ·exact Nat.le_of_lt (hin (m-1) (by omega))
 have a5:mxI (w64 ((m:Int)-1)) 0=((m-1:Nat):Int):=by
  rw [Wq (by omega) (by omega)];unfold mxI;split<;>omega
 rw [a5,mx1 hR];have a6:w64 (((m-1:Nat):Int)*(R:Int))=(((m-1)*R:Nat):Int):=by rw [←Int.natCast_mul,w64N (by omega)]
 rw [a6];have hfront:∀i,i<(m-1)*R→below l k i=true:=fun i hi=>by
  rcases hlo with h0 | h0
  ·subst h0;simp at hi
  ·rcases Nat.lt_or_ge ((m-1)*R) l.length with h1 | h1
   ·exact hmono i _ (by omega) h1 h0
   ·rcases Nat.eq_zero_or_pos m with h2 | h2
    ·subst h2;simp at hi
    ·exact absurd (hin (m-1) (by omega)) (by omega)
 refine join1 (a:=Ki) (fun (x:Int) u=>x=(seekN l k:Int)∧Mod F0 w2 u) ?_ (by rintro x u ⟨rfl,hM⟩;exact hK u (mod0 M02 hM));intro k42 hk42;have stop:∀n,n≤l.length→(∀i,i<n→below l k i=true)→(n=l.length∨below l k n=false)→(n:Int)=(seekN l k:Int):=fun n hn hb he=>by
  have:=takeWhile_stop (fun x:Str×Str=>decide (cmpN x.1 k<0)) l n ([],[]) hn hb he;unfold seekN;rw [this]
 refine loop1 (k:=Ki) (fun (x:Int) u=>∃n:Nat,x=(n:Int)∧n≤l.length∧(∀i,i<n→below l k i=true)∧Mod F0 w2 u) (fun x _=>(l.length-x).toNat) (x:=(((m-1)*R:Nat):Int)) rfl ⟨_,rfl,hst,hfront,hM⟩ ?_;rintro x u ⟨n,rfl,hn,hb,hM⟩;have u3:=hM.blk h3 id;have ub:=hb2.quiet hM;refine u3.ldK (k:=.ptr) (some (b,0)) rfl (Dq (ub.blk.ldK (k:=.sl) s rfl ?_));rw [ub.rd.len];refine Iq (fun q=>?_) fun q=>hk42 _ _ ⟨stop n hn hb (.inl (by have:l.length≤n:=dge q;omega)),hM⟩;have q:n<l.length:=dlt q;refine call1 q hM fun u' M'=>?_;have hM':=mod0 hM M';refine Iq (fun q2=>hk42 _ _ ⟨stop n hn hb (.inr (by simpa using q2)),hM'⟩) fun q2=>?_;have q2:below l k n=true:=by simpa using q2
 have es:=step64 (i:=n) (by omega);refine⟨⟨n+1,es,by omega,fun i hi=>?_,hM'⟩,by rw [es];omega⟩;rcases Nat.lt_or_ge i n with h1 | h1
 ·exact hb i h1
 ·have:i=n:=by omega
  rw [this];exact q2
set_option maxRecDepth 100000
theorem go_54(f_0_1:Bool)(f_1_2:Int)(f_2_3:Sl)(K:Int→Wp)(w:World)(h:al w 92 [.bool f_0_1,.int .i64 f_1_2,.sl f_2_3] fun b4 W5=>joinK [.bool] (fun k6=>ld W5 .bool b4 0 fun c7=>ifK c7 (ld W5 Ki b4 1 fun n8=>ifK (n8==0) (ld W5 .sl b4 2 fun a9=>k6 ((a9.len:Int)==0) W5) (k6 false W5)) (k6 false W5)) fun t310 W11=>ifK t310 (K 1 W11) (joinK [.bool] (fun k12=>ld W11 .bool b4 0 fun c13=>ifK (!c13) (ld W11 Ki b4 1 fun n14=>ifK (n14==0) (ld W11 .sl b4 2 fun a15=>k12 ((a15.len:Int)==0) W11) (k12 false W11)) (k12 false W11)) fun t1716 W17=>ifK t1716 (K 2 W17) (joinK [.bool] (fun k18=>ld W17 .bool b4 0 fun c19=>ifK (!c19) (ld W17 Ki b4 1 fun n20=>ifK (decide (1≤n20)) (ld W17 Ki b4 1 fun n21=>ifK (decide (n21≤8)) (ld W17 .sl b4 2 fun a22=>ifK (decide (1≤(a22.len:Int))) (ld W17 .sl b4 2 fun a23=>k18 (decide ((a23.len:Int)≤4096)) W17) (k18 false W17)) (k18 false W17)) (k18 false W17)) (k18 false W17)) fun t3224 W25=>ifK t3224 (K 3 W25) (K 0 W25)))):callK Pg 112 [.agg [.bool f_0_1,.int .i64 f_1_2,.sl f_2_3]] w Oi K:=Fq (n:=(n0 .nil (n0 (n0 (n0 (.mk (some [.tmp 3 Lb]) [] [1] .done .nil .nil) (n0 .nil (n0 (.mk (some [.tmp 17 Lb]) [] [1] .done .nil .nil) (n0 .nil (n0 (.mk (some [.tmp 32 Lb]) [] [] .done .nil .nil) .nil))))) .nil) .nil))) CS_ok mixed Tryz.func112 (Eq.mpr (by kernel_rfl) h)
theorem go_55(f_0_1:Bool)(f_1_2:Int)(f_2_3:Sl)(K:Int→Wp)(w:World)(h:al w 92 [.bool f_0_1,.int .i64 f_1_2,.sl f_2_3] fun b4 W5=>ld W5 .bool b4 0 fun c6=>ld W5 Ki b4 1 fun n7=>ld W5 .sl b4 2 fun a8=>callK Pg 112 [.agg [.bool c6,.int .i64 n7,.sl a8]] W5 Oi fun n9 W10=>ifK (n9==0) (K 70 W10) (K 0 W10)):callK Pg 161 [.agg [.bool f_0_1,.int .i64 f_1_2,.sl f_2_3]] w Oi K:=Fq (n:=.nil) CS_ok mixed Tryz.func161 (Eq.mpr (by kernel_rfl) h)
theorem go_56(key1:List UInt8)(K:Int→Int→Wp)(w:World)(h:joinK [.int .u64] (fun k2=>loopL [.int .u64,Ki] (fun h4 t95 W6 g3=>ifK (decide (t95<(key1.length:Int))) (sx key1 t95 fun c7=>g3 (IntKind.wrap .u64 ((bitI .xor .u64 h4 (IntKind.wrap .u64 (c7)))*1099511628211)) (w64 (t95+1)) W6) (k2 h4 W6)) [.int .u64 14695981039346656037,.int .i64 0] w) fun h8 W9=>K h8 (bitI .or .u64 (bitI .xor .u64 (IntKind.wrap .u64 ((bitI .xor .u64 (IntKind.wrap .u64 ((bitI .xor .u64 (IntKind.wrap .u64 (h8+11400714819323198485)) (shrI .u64 (IntKind.wrap .u64 (h8+11400714819323198485)) 30))*13787848793156543929)) (shrI .u64 (IntKind.wrap .u64 ((bitI .xor .u64 (IntKind.wrap .u64 (h8+11400714819323198485)) (shrI .u64 (IntKind.wrap .u64 (h8+11400714819323198485)) 30))*13787848793156543929)) 27))*10723151780598845931)) (shrI .u64 (IntKind.wrap .u64 ((bitI .xor .u64 (IntKind.wrap .u64 ((bitI .xor .u64 (IntKind.wrap .u64 (h8+11400714819323198485)) (shrI .u64 (IntKind.wrap .u64 (h8+11400714819323198485)) 30))*13787848793156543929)) (shrI .u64 (IntKind.wrap .u64 ((bitI .xor .u64 (IntKind.wrap .u64 (h8+11400714819323198485)) (shrI .u64 (IntKind.wrap .u64 (h8+11400714819323198485)) 30))*13787848793156543929)) 27))*10723151780598845931)) 31)) 1) W9):callK Pg 145 [Au key1] w (.tup [.leaf (.int .u64),.leaf (.int .u64)]) K:=Fq (n:=(n0 .nil (n0 .nil (n0 (n0 .nil (.mk (some [.tmp 4 (.leaf (.int .u64))]) [] [] .done (.mk none [.tmp 4 (.leaf (.int .u64)),.tmp 9 Li] [0,8] .done .nil .nil) .nil)) .nil)))) CS_ok mixed Tryz.func145 (Eq.mpr (by kernel_rfl) h)
theorem go_59(key1:List UInt8)(hashes2:Int)(size3:Int)(look4:Value)(K:Bool→Wp)(w:World)(h:callK Pg 145 [Au key1] w (.tup [.leaf (.int .u64),.leaf (.int .u64)]) fun n5 n6 W7=>joinK [] (fun k8=>loopL [.int .u64,Ki] (fun x10 t1711 W12 g9=>ifK (decide (t1711<hashes2)) ((IntKind.wrap .u64 (w64 (8*size3)))≠0∧callV Pg look4 [.leaf (.int .u64 (x10.tmod (IntKind.wrap .u64 (w64 (8*size3)))))] W12 Ob fun c13 W14=>ifK (!c13) (K false W14) (g9 (IntKind.wrap .u64 (x10+n6)) (w64 (t1711+1)) W14)) (k8 W12)) [.int .u64 n5,.int .i64 0] W7) fun W15=>K true W15):callK Pg 113 [Au key1,Ai hashes2,Ai size3,.leaf (.val look4)] w Ob K:=Fq (n:=(n0 .nil (n0 .nil (n0 (n0 .nil (.mk (some []) [] [] .done (.mk none [.tmp 9 (.leaf (.int .u64)),.tmp 17 Li] [2,3,10,16] .done .nil .nil) .nil)) .nil)))) CS_ok mixed Tryz.func113 (Eq.mpr (by kernel_rfl) h)
theorem go_58(f_0_1:Bool)(f_1_2:Int)(f_2_3:Sl)(key4:List UInt8)(K:Bool→Wp)(w:World)(h:al w 92 [.bool f_0_1,.int .i64 f_1_2,.sl f_2_3] fun b5 W6=>ld W6 .bool b5 0 fun c7=>ld W6 Ki b5 1 fun n8=>ld W6 .sl b5 2 fun a9=>callK Pg 112 [.agg [.bool c7,.int .i64 n8,.sl a9]] W6 Oi fun n10 W11=>ifK (n10==1) (K true W11) (ifK (n10==3) (ld W11 Ki b5 1 fun n12=>ld W11 .sl b5 2 fun a13=>callK Pg 113 [Au key4,Ai n12,Ai (a13.len:Int),.leaf (.val (.func (.func 114) #[] #[(LV.toV (.ptr (some (b5,0))))]))] W11 Ob fun c14 W15=>K c14 W15) (K false W11))):callK Pg 75 [.agg [.bool f_0_1,.int .i64 f_1_2,.sl f_2_3],Au key4] w Ob K:=Fq (n:=.nil) CS_ok mixed Tryz.func75 (Eq.mpr (by kernel_rfl) h)
theorem go_57(at_1:Int)(t1B2:Nat)(t1O3:Nat)(K:Bool→Wp)(w:World)(h:ld w .sl t1B2 (t1O3+2) fun a4=>ix a4 1 (IntKind.wrap .u64 (at_1.tdiv 8)) fun b5 o6=>ld w (.int .u8) b5 o6 fun n7=>0≤(at_1.tmod 8)∧K ((bitI .and .u8 (shrI .u8 n7 (at_1.tmod 8)) 1)==1) w):callK Pg 114 [.leaf (.int .u64 at_1),Ap (some (t1B2,t1O3))] w Ob K:=Fq (n:=.nil) CS_ok mixed Tryz.func114 (Eq.mpr (by kernel_rfl) h)
def kindN(a:Bool)(h:Int)(n:Nat):Int:=if a=true∧h=0∧n=0 then 1 else if a=false∧h=0∧n=0 then 2 else if a=false∧1≤h∧h≤8∧1≤n∧n≤4096 then 3 else 0
def fnv1(h:Int)(c:UInt8):Int:=IntKind.wrap .u64 ((bitI .xor .u64 h (IntKind.wrap .u64 (c.toNat:Int)))*1099511628211)
def fnvN(key:Str):Int:=key.foldl fnv1 14695981039346656037
def mixN(h8:Int):Int:=bitI .or .u64 (bitI .xor .u64 (IntKind.wrap .u64 ((bitI .xor .u64 (IntKind.wrap .u64 ((bitI .xor .u64 (IntKind.wrap .u64 (h8+11400714819323198485)) (shrI .u64 (IntKind.wrap .u64 (h8+11400714819323198485)) 30))*13787848793156543929)) (shrI .u64 (IntKind.wrap .u64 ((bitI .xor .u64 (IntKind.wrap .u64 (h8+11400714819323198485)) (shrI .u64 (IntKind.wrap .u64 (h8+11400714819323198485)) 30))*13787848793156543929)) 27))*10723151780598845931)) (shrI .u64 (IntKind.wrap .u64 ((bitI .xor .u64 (IntKind.wrap .u64 ((bitI .xor .u64 (IntKind.wrap .u64 (h8+11400714819323198485)) (shrI .u64 (IntKind.wrap .u64 (h8+11400714819323198485)) 30))*13787848793156543929)) (shrI .u64 (IntKind.wrap .u64 ((bitI .xor .u64 (IntKind.wrap .u64 (h8+11400714819323198485)) (shrI .u64 (IntKind.wrap .u64 (h8+11400714819323198485)) 30))*13787848793156543929)) 27))*10723151780598845931)) 31)) 1
def eachN(y m:Int)(look:Int→Bool):Nat→Int→Bool
 | 0,_=>true
 | n+1,x=>if look (x.tmod m) then eachN y m look n (IntKind.wrap .u64 (x+y)) else false
def hasN(a:Bool)(h:Int)(d:Str)(key:Str):Bool:=if kindN a h d.length=1 then true else if kindN a h d.length=3 then eachN (mixN (fnvN key)) (8*d.length) (fun x=>bitN d x.toNat==1) h.toNat (fnvN key) else false
theorem wrap_u64_range(n:Int):0≤IntKind.wrap .u64 n∧IntKind.wrap .u64 n<18446744073709551616:=by rw [wrap_u64];omega
theorem fnvN_range(key:Str):0≤fnvN key∧fnvN key<18446744073709551616:=by
 unfold fnvN;rcases List.eq_nil_or_concat key with rfl | ⟨t,c,rfl⟩
 ·decide
 ·rw [List.concat_eq_append,List.foldl_append];exact wrap_u64_range _
theorem kind_ok{w:World}{a:Bool}{h:Int}{s:Sl}{n:Nat}(hn:s.len=n){K:Int→Wp}(hK:∀w',Mod F0 w w'→K (kindN a h n) w') :
  callK Pg c_54 [.agg [.bool a,.int .i64 h,.sl s]] w Oi K:=by
 subst hn;refine go_54 _ _ _ _ _ ?_;refine (At.init w F0).alK fun b w1 _ h1 _=>?_;have hB:=h1.blk (i:=0) rfl;have la:∀{K:Bool→Prop},K a→Go.Vw.ld w1 .bool b 0 K:=fun hK=>hB.ldK (k:=.bool) a rfl hK;have lh:∀{K:Int→Prop},K h→Go.Vw.ld w1 Ki b 1 K:=fun hK=>hB.ldK (k:=Ki) h rfl hK;have ls:∀{K:Sl→Prop},K s→Go.Vw.ld w1 .sl b 2 K:=fun hK=>hB.ldK (k:=.sl) s rfl hK;unfold kindN at hK;refine join1 (a:=.bool) (fun q v=>q=decide (a=true∧h=0∧s.len=0)∧v=w1) ?_ ?_
 ·intro k hk;refine la (Iq (fun q=>lh (Iq (fun q2=>ls (hk _ _ ⟨?_,rfl⟩)) fun q2=>hk _ _ ⟨?_,rfl⟩)) fun q=>hk _ _ ⟨?_,rfl⟩)
  ·have q2:h=0:=by simpa using q2
   rw [Bei,beq_iff_eq,Det];exact⟨fun e=>⟨q,q2,by omega⟩,fun e=>by omega⟩
  ·have q2:¬h=0:=by simpa using q2
   exact (Dcf fun e=>q2 e.2.1).symm
  ·exact (Dcf fun e=>by rw [e.1] at q;cases q).symm
 rintro q v ⟨rfl,rfl⟩;refine Iq (fun q=>?_) fun q=>?_
 ·have:=hK v h1.mod;rw [if_pos (odt q)] at this;exact this
 rw [if_neg (odf q)] at hK;refine join1 (a:=.bool) (fun q u=>q=decide (a=false∧h=0∧s.len=0)∧u=v) ?_ ?_
 ·intro k hk;refine la (Iq (fun q=>lh (Iq (fun q2=>ls (hk _ _ ⟨?_,rfl⟩)) fun q2=>hk _ _ ⟨?_,rfl⟩)) fun q=>hk _ _ ⟨?_,rfl⟩)
  ·have q:a=false:=by simpa using q
   have q2:h=0:=by simpa using q2
   rw [Bei,beq_iff_eq,Det];exact⟨fun e=>⟨q,q2,by omega⟩,fun e=>by omega⟩
  ·have q2:¬h=0:=by simpa using q2
   exact (Dcf fun e=>q2 e.2.1).symm
  ·have q:a=true:=by simpa using q
   exact (Dcf fun e=>by rw [e.1] at q;cases q).symm
 rintro q u ⟨rfl,rfl⟩;refine Iq (fun q=>?_) fun q=>?_
 ·have:=hK u h1.mod;rw [if_pos (odt q)] at this;exact this
 rw [if_neg (odf q)] at hK;refine join1 (a:=.bool) (fun q v=>q=decide (a=false∧1≤h∧h≤8∧1≤s.len∧s.len≤4096)∧v=u) ?_ ?_
 ·intro k hk;refine la (Iq (fun q=>?_) fun q=>hk _ _ ⟨?_,rfl⟩)
  ·have q:a=false:=by simpa using q
   refine lh (Iq (fun q2=>?_) fun q2=>hk _ _ ⟨?_,rfl⟩)
   ·have q2:(1:Int)≤h:=odt q2;refine lh (Iq (fun q3=>?_) fun q3=>hk _ _ ⟨?_,rfl⟩)
    ·have q3:h≤(8:Int):=odt q3;refine ls (Iq (fun q4=>ls (hk _ _ ⟨?_,rfl⟩)) fun q4=>hk _ _ ⟨?_,rfl⟩)
     ·have q4:(1:Int)≤(s.len:Int):=odt q4;show decide ((s.len:Int)≤4096)=_;rw [Bei,Det,Det];exact⟨fun e=>⟨q,q2,q3,by omega,by omega⟩,fun e=>by omega⟩
     ·have q4:¬(1:Int)≤(s.len:Int):=odf q4;exact (Dcf fun e=>q4 (by omega)).symm
    ·have q3:¬h≤(8:Int):=odf q3;exact (Dcf fun e=>q3 e.2.2.1).symm
   ·have q2:¬(1:Int)≤h:=odf q2;exact (Dcf fun e=>q2 e.2.1).symm
  ·have q:a=true:=by simpa using q
   exact (Dcf fun e=>by rw [e.1] at q;cases q).symm
 rintro q v ⟨rfl,rfl⟩;refine Iq (fun q=>?_) fun q=>?_
 ·have:=hK v h1.mod;rw [if_pos (odt q)] at this;exact this
 ·have:=hK v h1.mod;rw [if_neg (odf q)] at this;exact this
theorem filterCheck_ok{w:World}{a:Bool}{h:Int}{s:Sl}{n:Nat}(hn:s.len=n){K:Int→Wp}(hK:∀w',Mod F0 w w'→K (if kindN a h n=0 then 70 else 0) w') :
  callK Pg c_55 [.agg [.bool a,.int .i64 h,.sl s]] w Oi K:=by
 refine go_55 _ _ _ _ _ ?_;refine (At.init w F0).alK fun b w1 _ h1 _=>?_;have hB:=h1.blk (i:=0) rfl;refine hB.ldK (k:=.bool) a rfl (hB.ldK (k:=Ki) h rfl (hB.ldK (k:=.sl) s rfl (kind_ok hn fun w2 M2=>?_)));have:=hK w2 (mod0 h1.mod M2);refine Iq (fun q=>?_) fun q=>?_
 ·rw [if_pos (by simpa using q)] at this;exact this
 ·rw [if_neg (by simpa using q)] at this;exact this
theorem hash_ok{w:World}{key:Str}(hl:key.length≤1099511627776){K:Int→Int→Wp}(hK:K (fnvN key) (mixN (fnvN key)) w):callK Pg c_56 [Au key] w (.tup [.leaf (.int .u64),.leaf (.int .u64)]) K:=by
 refine go_56 _ _ _ ?_;refine join1 (a:=.int .u64) (fun h u=>h=fnvN key∧u=w) ?_ (by rintro h u ⟨rfl,rfl⟩;exact hK);intro k hk;refine loop2 (k1:=.int .u64) (k2:=Ki) (fun (h:Int) (i:Int) u=>∃j:Nat,i=(j:Int)∧j≤key.length∧h=fnvN (key.take j)∧u=w) (fun _ i _=>(key.length-i).toNat) (x1:=14695981039346656037) (x2:=0) rfl rfl ⟨0,rfl,Nzl _,rfl,rfl⟩ ?_;rintro h i u ⟨j,rfl,hj,rfl,rfl⟩;refine Iq (fun q=>?_) fun q=>?_
 ·have q:j<key.length:=dlt q;have es:=step64 (i:=j) (by omega);refine sx_at rfl q ⟨⟨j+1,es,by omega,?_,rfl⟩,by rw [es];omega⟩;rw [List.take_succ_eq_append_getElem q];unfold fnvN;rw [List.foldl_append];rfl
 ·have q:key.length≤j:=dge q;refine hk _ _ ⟨?_,rfl⟩;rw [Ltl q]
theorem has1_ok{w:World}{b:Nat}{a:Bool}{h:Int}{s:Sl}{d:Str}(hb:Blk w b [LV.toV (.bool a),LV.toV (.int .i64 h),LV.toV (.sl s)])(hr:RdS w ET s d){i:Nat}(hi:i<8*d.length)(hi2:i≤1099511627776){K:Bool→Wp}(hK:K (bitN d i==1) w) :
  callK Pg c_57 [.leaf (.int .u64 (i:Int)),Ap (some (b,0))] w Ob K:=by
 refine go_57 _ _ _ _ _ ?_;have hai:i/8<d.length:=by omega
 refine hb.ldK (k:=.sl) s rfl ?_;rw [tdiv8,tmod8,wrap_u64];refine hr.byte (k:=i/8) (by omega) hai fun b1 o1 _ hc=>Lq (k:=.int .u8) ((d[i/8]).toNat:Int) hc ⟨Int.natCast_nonneg _,?_⟩;have hlt:(d[i/8]).toNat<256:=UInt8.toNat_lt_size _;have hlt2:(d[i/8]).toNat/2^(i%8)<2^8:=by have:=Nat.div_le_self (d[i/8]).toNat (2^(i%8));omega
 rw [shr_u8 _ _ (by omega),show (1:Int)=((1:Nat):Int) from rfl,and_u8 hlt2 (by decide),Nat.and_one_is_mod];have e:bitN d i=(d[i/8]).toNat/2^(i%8)%2:=by unfold bitN;rw [Lgd,Lge hai];rfl
 rw [←e];have e2:((((bitN d i:Nat)):Int)==((1:Nat):Int))=(bitN d i==1):=by rw [Bei,beq_iff_eq,beq_iff_eq];omega
 rw [e2];exact hK
theorem has_ok{w:World}{a:Bool}{h:Int}{s:Sl}{d:Str}(hr:RdS w ET s d){key:Str}(hl:key.length≤1099511627776){K:Bool→Wp}(hK:∀w',Mod F0 w w'→K (hasN a h d key) w') :
  callK Pg c_58 [.agg [.bool a,.int .i64 h,.sl s],Au key] w Ob K:=by
 refine go_58 _ _ _ _ _ _ ?_;refine (At.init w F0).alK fun b w1 _ h1 _=>?_;have hB:=h1.blk (i:=0) rfl;refine hB.ldK (k:=.bool) a rfl (hB.ldK (k:=Ki) h rfl (hB.ldK (k:=.sl) s rfl (kind_ok hr.len fun w2 M2=>?_)));have M12:=mod0 h1.mod M2;unfold hasN at hK;refine Iq (fun q=>?_) fun q=>?_
 ·have:=hK w2 M12;rw [if_pos (by simpa using q)] at this;exact this
 rw [if_neg (by simpa using q)] at hK;refine Iq (fun q3=>?_) fun q3=>?_;rotate_left
 ·have:=hK w2 M12;rw [if_neg (by simpa using q3)] at this;exact this
 have q3:kindN a h d.length=3:=by simpa using q3
 rw [if_pos q3] at hK;have hkind:a=false∧1≤h∧h≤8∧1≤d.length∧d.length≤4096:=by
  unfold kindN at q3;split at q3
  ·cases q3
  split at q3
  ·cases q3
  split at q3
  ·assumption
  ·cases q3
 obtain⟨ha,hh1,hh8,hd1,hd4⟩:=hkind;obtain⟨n,rfl⟩:∃n:Nat,h=(n:Int):=⟨h.toNat,by omega⟩;have hB2:=M2.blk hB id;have hr2:=hr.quiet M12;refine hB2.ldK (k:=Ki) (n:Int) rfl (hB2.ldK (k:=.sl) s rfl ?_);rw [hr.len];refine go_59 _ _ _ _ _ _ ?_;refine hash_ok hl ?_;have em:IntKind.wrap .u64 (w64 (8*(d.length:Int)))=8*(d.length:Int):=by rw [Wq (by omega) (by omega),wrap_u64];omega
 rw [em];generalize mixN (fnvN key)=y at hK;have hx0:=fnvN_range key;simp only [Itn] at hK;refine join0 (fun u=>eachN y (8*(d.length:Int)) (fun x=>bitN d x.toNat==1) n (fnvN key)=true∧Mod F0 w2 u) ?_ ?_
 ·intro k8 hk8;refine loop2 (k1:=.int .u64) (k2:=Ki) (fun (x t:Int) u=>∃j:Nat,t=(j:Int)∧j≤n∧0≤x∧eachN y (8*(d.length:Int)) (fun x=>bitN d x.toNat==1) n (fnvN key)=eachN y (8*(d.length:Int)) (fun x=>bitN d x.toNat==1) (n-j) x∧Mod F0 w2 u) (fun _ t _=>(n-t).toNat) (x1:=fnvN key) (x2:=0) rfl rfl ⟨0,rfl,Nzl _,hx0.1,rfl,Mod.refl _ _⟩ ?_;rintro x t u ⟨j,rfl,hj,hx,hrun,hM⟩;refine Iq (fun q=>?_) fun q=>?_;rotate_left
  ·have q:n≤j:=dge q;have:j=n:=by omega
   subst this;rw [Nat.sub_self] at hrun;exact hk8 _ ⟨hrun,hM⟩
  have q:j<n:=dlt q;obtain⟨r,hr3⟩:∃r,n-j=r+1:=⟨n-j-1,by omega⟩;rw [hr3,eachN] at hrun;have hne:(8*(d.length:Int))≠0:=by omega
  have hmr:0≤x.tmod (8*(d.length:Int))∧x.tmod (8*(d.length:Int))<8*(d.length:Int):=by
   rw [Int.tmod_eq_emod_of_nonneg hx];exact⟨Int.emod_nonneg _ hne,Int.emod_lt_of_pos _ (by omega)⟩
  obtain⟨i,hi⟩:∃i:Nat,x.tmod (8*(d.length:Int))=(i:Int):=⟨(x.tmod (8*(d.length:Int))).toNat,by omega⟩;rw [hi] at hrun hmr ⊢;refine⟨hne,callV_func (by kernel_rfl) [.leaf (.int .u64 (i:Int)),Ap (some (b,0))] rfl (has1_ok (hM.blk hB2 id) (hr2.quiet hM) (by omega) (by omega) ?_)⟩;simp only [Itn] at hrun;refine Iq (fun q2=>?_) fun q2=>?_
  ·have q2:(bitN d i==1)=false:=by simpa using q2
   have hfalse:eachN y (8*(d.length:Int)) (fun x=>bitN d x.toNat==1) n (fnvN key)=false:=by
    rw [hrun,if_neg (by rw [q2];decide)]
   have:=hK u (mod0 M12 hM);rw [hfalse] at this;exact this
  ·have q2:(bitN d i==1)=true:=by simpa using q2
   rw [if_pos q2] at hrun;have es:=step64 (i:=j) (by omega);have hr4:n-(j+1)=r:=by omega
   exact⟨⟨j+1,es,by omega,(wrap_u64_range _).1,by rw [hr4];exact hrun,hM⟩,by rw [es];omega⟩
 rintro u ⟨hrun,hM⟩;have:=hK u (mod0 M12 hM);rw [hrun] at this;exact this
set_option maxRecDepth 100000
theorem go_61(c1:PA)(most2:Int)(K:List UInt8→Wp)(w:World)(h:al w 3 [.int .i64 most2] fun b3 W4=>al W4 9 [.str []] fun b5 W6=>callK Pg 154 [Ap c1,.leaf (.val (.func (.func 159) #[] #[(LV.toV (.ptr (some (b3,0)))),(LV.toV (.ptr (some (b5,0))))]))] W6 (.tup []) fun W7=>ld W7 .str b5 0 fun s8=>K s8 W7):callK Pg 133 [Ap c1,Ai most2] w Ot K:=Fq (n:=.nil) CS_ok mixed Tryz.func133 (Eq.mpr (by kernel_rfl) h)
theorem go_60(left1:Sl)(t1B2:Nat)(t1O3:Nat)(t2B4:Nat)(t2O5:Nat)(K:Int→Int→Wp)(w:World)(h:callK Pg 156 [Az left1] w (.tup [Li,Li,Li]) fun n6 n7 n8 W9=>ifK (n8 != 0) (K 0 n8 W9) (ld W9 Ki t1B2 t1O3 fun n10=>ifK (decide (n10<n6)) (K 0 23 W9) (ifK (decide (w64 ((left1.len:Int)-n7)<n6)) (K 0 20 W9) (slx left1 1 (some n7) (some (w64 (n7+n6))) none fun s11=>opF Pg (vS (convert 22 9 (LV.toV (.sl s11)))) W9 Ot fun s13 W12=>st W12 t2B4 t2O5 [.str s13] fun W14=>K (w64 (n7+n6)) 0 W14)))):callK Pg 159 [Az left1,Ap (some (t1B2,t1O3)),Ap (some (t2B4,t2O5))] w (.tup [Li,Li]) K:=Fq (n:=.nil) CS_ok mixed Tryz.func159 (Eq.mpr (by kernel_rfl) h)
theorem go_62(c1:PA)(e2:Int)(K:Wp)(w:World)(h:al w 29 [.int .i64 e2] fun b3 W4=>callK Pg 154 [Ap c1,.leaf (.val (.func (.func 160) #[] #[(LV.toV (.ptr (some (b3,0))))]))] W4 (.tup []) fun W5=>K W5):callK Pg 134 [Ap c1,Ai e2] w (.tup []) K:=Fq (n:=.nil) CS_ok mixed Tryz.func134 (Eq.mpr (by kernel_rfl) h)
theorem go_63(t01:Sl)(t1B2:Nat)(t1O3:Nat)(K:Int→Int→Wp)(w:World)(h:drawK w fun D W4=>ldD D W4 Ki t1B2 t1O3 fun n5=>K 0 n5 W4):callK Pg 160 [Az t01,Ap (some (t1B2,t1O3))] w (.tup [Li,Li]) K:=Fq (n:=(n0 .nil (n0 (.mk none [] [] (tk [0,1,2] .done) .nil .nil) .nil))) CS_ok mixed Tryz.func160 (Eq.mpr (by kernel_rfl) h)
def textE(most:Int)(t:Str):Int:=let g:=getN t;if g.2.2≠0 then g.2.2 else if most<(g.1:Int) then 23 else if (t.length:Int)-(g.2.1:Int)<(g.1:Int) then 20 else 0
def textV(t:Str):Str:=(t.drop (getN t).2.1).take (getN t).1
def textL(t:Str):Nat:=(getN t).2.1+(getN t).1
def Cu.text(c:Cu)(most:Int):Str×Cu:=
 if c.e≠0 then ([],c) else (if textE most c.left=0 then textV c.left else [],c.go (textL c.left) (textE most c.left))
theorem text1_ok{w:World}{s:Sl}{t:Str}(hr:RdS w ET s t)(hl:t.length≤1099511627776){b1 b2:Nat}{most:Int}(h1:Blk w b1 [.int .i64 most])(h2:Blk w b2 [LV.toV (.str [])]){K:Int→Int→Wp}
  (hK:∀w',Blk w' b2 [LV.toV (.str (if textE most t=0 then textV t else []))]→Mod (fun b=>b=b2) w w'→K (if textE most t=0 then (textL t:Int) else 0) (textE most t) w') :
  callK Pg c_60 [Az s,Ap (some (b1,0)),Ap (some (b2,0))] w (.tup [Li,Li]) K:=by
 refine go_60 _ _ _ _ _ _ _ ?_;refine get_ok hr hl ?_;unfold textE textV textL at hK;dsimp only at hK;have hn:=getN_len t;generalize hg:getN t=g at hK hn;obtain⟨v,n,e0⟩:=g;dsimp only at hK hn ⊢;refine Iq (fun h=>?_) fun h=>?_
 ·have h:e0≠0:=by simpa using h
  simp only [if_pos h,if_neg h] at hK;exact hK w h2 (Mod.refl _ _)
 have h:¬e0≠0:=by simpa using h
 simp only [if_neg h] at hK;refine h1.ldK (k:=Ki) most rfl (Iq (fun h3=>?_) fun h3=>?_)
 ·have h3:most<(v:Int):=odt h3;simp only [if_pos h3,if_neg (show ¬(23:Int)=0 by decide)] at hK;exact hK w h2 (Mod.refl _ _)
 have h3:¬most<(v:Int):=odf h3;simp only [if_neg h3] at hK;have ew:w64 ((s.len:Int)-(n:Int))=(t.length:Int)-(n:Int):=by rw [hr.len];exact Wq (by omega) (by omega)
 rw [ew];refine Iq (fun h4=>?_) fun h4=>?_
 ·have h4:(t.length:Int)-(n:Int)<(v:Int):=odt h4;simp only [if_pos h4,if_neg (show ¬(20:Int)=0 by decide)] at hK;exact hK w h2 (Mod.refl _ _)
 have h4:¬(t.length:Int)-(n:Int)<(v:Int):=odf h4;simp only [if_neg h4,if_pos trivial] at hK;have e2:w64 ((n:Int)+(v:Int))=((n+v:Nat):Int):=by rw [Wq (by omega) (by omega)];omega
 rw [e2];refine hr.partK (n:=n) (m:=n+v) (by omega) (by omega) rfl rfl rfl fun s' hr' _=>convT hr' ?_;refine h2.stK (Nlr 1) fun w3 h5 M3=>?_;have e3:(t.take (n+v)).drop n=(t.drop n).take v:=by rw [List.drop_take,Nat.add_sub_cancel_left]
 rw [e3] at h5;exact hK w3 h5 M3
theorem textE_len{most:Int}{t:Str}(h:textE most t=0):textL t≤t.length:=by
 unfold textE at h;unfold textL;dsimp only at h;split at h
 ·rename_i h1;exact absurd h h1
 split at h
 ·cases h
 split at h
 ·cases h
 ·omega
theorem text_ok{w:World}{bc:Nat}{s:Sl}{c:Cu}(hc:CurAt w bc s c){most:Int}{K:Str→Wp}(hK:∀w',CurAt w' bc s (c.text most).2→Mod (fun b=>b=bc) w w'→K (c.text most).1 w') :
  callK Pg c_61 [Ap (some (bc,0)),Ai most] w Ot K:=by
 refine go_61 _ _ _ _ ?_;refine (At.init w F0).alK fun b3 w1 hb3 h1 _=>h1.alK fun b5 w2 hb5 h2 M2=>?_;have hc2:=hc.quiet h2.mod;have hB3:Blk w2 b3 [.int .i64 most]:=h2.blk (i:=0) rfl;have hB5:Blk w2 b5 [LV.toV (.str [])]:=h2.blk (i:=1) rfl;have hlt:=hc.blk.lt;have hle1:w.heap.size≤w1.heap.size:=h1.mod.size;have hne5:b5≠bc:=by omega
 have hne3:b3≠b5:=h2.ne (i:=0) (j:=1) rfl rfl (by decide);by_cases he:c.e=0
 ·have hnum:c.text most=(if textE most c.left=0 then textV c.left else [],c.go (textL c.left) (textE most c.left)):=by
   unfold Cu.text;rw [if_neg (by simpa using he)]
  have hll:c.left.length≤1099511627776:=by unfold Cu.left;rw [Lld];have:=hc.ok.len;omega
  have hlen:textE most c.left=0→textL c.left≤c.left.length:=textE_len;rw [hnum] at hK;generalize hE:textE most c.left=E at hK hlen;refine reads_ok hc2 he hne5 (R:=fun k e x=>(e=0→k=textL c.left)∧e=E∧Blk x b5 [LV.toV (.str (if E=0 then textV c.left else []))]) ?_ ?_ ?_
  ·intro s' y hM hr hk k hcont;refine callV_func (by kernel_rfl) [Az s',Ap (some (b3,0)),Ap (some (b5,0))] rfl ?_;refine text1_ok hr hll (hM.blk hB3 id) (hM.blk hB5 id) fun y' hb hM'=>?_;rw [hE] at hb ⊢;have:=hcont (if E=0 then textL c.left else 0) E y' ⟨fun h=>by rw [if_pos h],rfl,hb⟩ hM';by_cases h0:E=0
   ·rw [if_pos h0] at this ⊢;exact this
   ·rw [if_neg h0] at this ⊢;exact this
  ·rintro k x ⟨h1,h2,_⟩;rw [h1 rfl];exact hlen h2.symm
  ·rintro k e x y ⟨hk,rfl,hb⟩ hM hbc hM2;have hb2:=hM2.blk hb hne5;have hMM:Mod (fun b=>b=bc) w y:=(h2.mod.trans hM (D:=fun b=>b=b5) (fun _ _ h=>h.elim) fun _ _ h=>h).trans hM2 (fun b hb h=>absurd hb (by omega)) fun _ _ h=>h;have hgo:c.go k e=c.go (textL c.left) e:=by
    unfold Cu.go;by_cases h0:e=0
    ·rw [if_pos h0,if_pos h0,hk h0]
    ·rw [if_neg h0,if_neg h0]
   rw [hgo] at hbc;refine hb2.ldK (k:=.str) _ rfl ?_;exact hK y ⟨hbc,by rw [show (_:Str×Cu).2.b=c.b from Cu.go_21 c _ _];exact hc.rd.keep hMM fun b hb=>hc.ne b hb,hc.ne,hc.ok.go hlen⟩ hMM
 ·have hnum:c.text most=([],c):=by unfold Cu.text;rw [if_pos he]
  rw [hnum] at hK;refine reads_failed hc2 he (hB5.ldK (k:=.str) [] rfl (hK _ hc2 (h2.mod.mono fun _ _ h=>h.elim)))
theorem fail_ok{w:World}{bc:Nat}{s:Sl}{c:Cu}(hc:CurAt w bc s c){e:Int}{K:Wp}(hK:∀w',CurAt w' bc s (c.fail e)→Mod (fun b=>b=bc) w w'→K w') :
  callK Pg c_62 [Ap (some (bc,0)),Ai e] w (.tup []) K:=by
 refine go_62 _ _ _ _ ?_;refine (At.init w F0).alK fun b3 w1 hb3 h1 M1=>?_;have hc1:=hc.quiet M1;have hB3:Blk w1 b3 [.int .i64 e]:=h1.blk (i:=0) rfl;have hlt:=hc.blk.lt;by_cases he:c.e=0
 ·have hf:c.fail e=c.go 0 e:=by
   unfold Cu.fail Cu.go;rw [if_neg (by simpa using he)];by_cases h0:e=0
   ·rw [if_pos h0,h0,Nat.add_zero]
   ·rw [if_neg h0]
  rw [hf] at hK;refine reads_ok hc1 he (bt:=w1.heap.size) (by have:=hc1.blk.lt;omega) (R:=fun k e' x=>k=0∧e'=e) ?_ ?_ ?_
  ·intro s' y hM hr hk k hcont;refine callV_func (by kernel_rfl) [Az s',Ap (some (b3,0))] rfl ?_;refine go_63 _ _ _ _ _ ⟨F0,?_⟩;exact ((Mq y).blk (hM.blk hB3 id) id).ldDK (k:=Ki) e id rfl (hcont 0 e _ ⟨rfl,rfl⟩ ((Mq y).mono fun _ _ h=>h.elim))
  ·rintro k x ⟨rfl,_⟩;exact Nzl _
  ·rintro k e' x y ⟨rfl,rfl⟩ hM hbc hM2;have hMM:Mod (fun b=>b=bc) w y:=(M1.trans hM (D:=fun b=>b=w1.heap.size) (fun _ _ h=>h.elim) fun _ _ h=>h).trans hM2 (fun b hb h=>by have:=M1.size;omega) fun _ _ h=>h;exact hK y ⟨hbc,by rw [Cu.go_21];exact hc.rd.keep hMM fun b hb=>hc.ne b hb,hc.ne,hc.ok.go fun _=>Nzl _⟩ hMM
 ·have hf:c.fail e=c:=by unfold Cu.fail;rw [if_pos he]
  rw [hf] at hK;exact reads_failed hc1 he (hK _ hc1 (M1.mono fun _ _ h=>h.elim))
set_option maxRecDepth 100000
theorem go_64(b1:Sl)(K:Bool→Int→Sl→Int→Wp)(w:World)(h:al w 92 [.lit false,.int .i64 0,.sl (⟨none,0,0⟩)] fun b2 W3=>callK Pg 129 [Az b1] W3 Oq fun p4 W5=>al W5 92 [.lit false,.int .i64 0,.sl (⟨none,0,0⟩)] fun b6 W7=>callK Pg 157 [Ap p4,Ai 1] W7 (.one (.leaf (.int .u64))) fun n8 W9=>joinK [] (fun k10=>ifK (n8==0) (k10 W9) (joinK [] (fun k11=>ifK (n8==255) (st W9 b6 0 [.lit true] fun W12=>k11 W12) (st W9 b6 1 [.int .i64 (w64 (n8))] fun W13=>callK Pg 130 [Ap p4,Ai 4096] W13 Oi fun n14 W15=>callK Pg 158 [Ap p4,Ai n14] W15 Oz fun a16 W17=>st W17 b6 2 [.sl a16] fun W18=>ld W18 .bool b6 0 fun c19=>ld W18 Ki b6 1 fun n20=>ld W18 .sl b6 2 fun a21=>callK Pg 112 [.agg [.bool c19,.int .i64 n20,.sl a21]] W18 Oi fun n22 W23=>ifK (n22 != 3) (st W23 b2 0 [.lit false,.int .i64 0,.sl (⟨none,0,0⟩)] fun W24=>ld W24 .bool b2 0 fun c25=>ld W24 Ki b2 1 fun n26=>ld W24 .sl b2 2 fun a27=>K c25 n26 a27 70 W24) (k11 W23))) fun W28=>k10 W28)) fun W29=>callK Pg 136 [Ap p4] W29 (.one (.agg [Ki,Ki])) fun n30 n31 W32=>ifK (n30 != 0) (st W32 b2 0 [.lit false,.int .i64 0,.sl (⟨none,0,0⟩)] fun W33=>ld W33 .bool b2 0 fun c34=>ld W33 Ki b2 1 fun n35=>ld W33 .sl b2 2 fun a36=>K c34 n35 a36 70 W33) (ld W32 .bool b6 0 fun c37=>ld W32 Ki b6 1 fun n38=>ld W32 .sl b6 2 fun a39=>st W32 b2 0 [.bool c37,.int .i64 n38,.sl a39] fun W40=>ld W40 .bool b2 0 fun c41=>ld W40 Ki b2 1 fun n42=>ld W40 .sl b2 2 fun a43=>K c41 n42 a43 0 W40)):callK Pg 132 [Az b1] w (.tup [.agg [.bool,Ki,.sl],Li]) K:=Fq (n:=(n0 .nil (n0 .nil (n0 .nil (n0 (n0 .nil (n0 .nil (n0 (n0 .nil (.mk (some []) [] [2,4,5] .done .nil (n0 .nil (.mk (some []) [] [2,4,5] .done .nil .nil)))) .nil))) .nil))))) CS_ok mixed Tryz.func132 (Eq.mpr (by kernel_rfl) h)
theorem go_65(f_0_1:Bool)(f_1_2:Int)(f_2_3:Sl)(K:Sl→Int→Wp)(w:World)(h:al w 92 [.bool f_0_1,.int .i64 f_1_2,.sl f_2_3] fun b4 W5=>ld W5 .bool b4 0 fun c6=>ld W5 Ki b4 1 fun n7=>ld W5 .sl b4 2 fun a8=>callK Pg 112 [.agg [.bool c6,.int .i64 n7,.sl a8]] W5 Oi fun n9 W10=>ifK (n9==1) (al W10 5 [.int .u8 255] fun b11 W12=>K (⟨some (b11,0),1,1⟩) 0 W12) (ifK (n9==2) (al W10 5 [.int .u8 0] fun b13 W14=>K (⟨some (b13,0),1,1⟩) 0 W14) (ifK (n9==3) (joinK [.sl] (fun k15=>drawK W10 fun D W16=>ldD D W16 Ki b4 1 fun n17=>ldD D W16 .sl b4 2 fun a18=>(al W16 5 [.int .u8 (IntKind.wrap .u8 (n17))] fun b19 W20=>Mod D W16 W20∧callK Pg 164 [Ai (a18.len:Int)] W20 Oz fun a21 W22=>Mod D W16 W22∧ap W22 5 1 1 [.int .u8 0] (⟨some (b19,0),1,1⟩) a21 fun a23 W24=>Mod D W16 W24∧k15 a23 W24)∧(callK Pg 164 [Ai (a18.len:Int)] W16 Oz fun a25 W26=>Mod D W16 W26∧al W26 5 [.int .u8 (IntKind.wrap .u8 (n17))] fun b27 W28=>Mod D W16 W28∧ap W28 5 1 1 [.int .u8 0] (⟨some (b27,0),1,1⟩) a25 fun a29 W30=>Mod D W16 W30∧k15 a29 W30)) fun b31 W32=>ld W32 .sl b4 2 fun a33=>ap W32 5 1 1 [.int .u8 0] b31 a33 fun a34 W35=>K a34 0 W35) (K (⟨none,0,0⟩) 70 W10)))):callK Pg 165 [.agg [.bool f_0_1,.int .i64 f_1_2,.sl f_2_3]] w (.tup [Ls,Li]) K:=Fq (n:=(n0 .nil (n0 (n0 .nil (n0 (n0 .nil (n0 .nil (n0 .nil (n0 .nil (n0 .nil (n0 (n0 (.mk (some [.tmp 4 Ls]) [] [1] (tk [0,1,2,4,5,6] (.two 3 (.eff 7 (.eff 8 (.take 9 .done))) 7 (.eff 3 (.eff 8 (.take 9 .done))))) .nil .nil) .nil) .nil)))))) .nil)) .nil))) CS_ok mixed Tryz.func165 (Eq.mpr (by kernel_rfl) h)
theorem CuG.under{w w1 u:World}{m0 m:BL}{bc:Nat}{sC:Sl}{c:Cu}(f:Fresh w w1 F0 m0)(h:CuG w1 u bc sC m c)(hlo:∀b,rk sC b→w1.heap.size≤b):CuG w u bc sC (m0++m) c:=
 ⟨f.join h.f (fun _ _ h=>h) (fun _ _ _ h=>h),h.cur,h.low,fun p hp=>by
  rcases Lma.1 hp with hp | hp
  ·have h1:=(f.own p hp).lt;have h2:=h.new;exact⟨by omega,fun hr=>by have:=hlo _ hr;omega⟩
  ·exact h.out p hp,Nat.le_trans f.mod.size h.new⟩
theorem fixed1_lt(c:Cu):(c.fixed 1).1<256:=by
 by_cases he:c.e=0
 ·rw [Cu.fixed_eq he];show (if fixE 1 c.left.length=0 then wordN (c.left.take (1:Int).toNat) else 0)<256;split
  ·have h:=wordF_lt ((c.left.take (1:Int).toNat).take 8);have h2:((c.left.take (1:Int).toNat).take 8).length≤1:=by simp;omega
   have h3:256^((c.left.take (1:Int).toNat).take 8).length≤256^1:=Nat.pow_le_pow_right (by decide) h2;show wordF ((c.left.take (1:Int).toNat).take 8)<256;omega
  ·exact Nat.zero_lt_succ _
 ·unfold Cu.fixed;rw [if_pos he];exact Nat.zero_lt_succ _
structure Flt where
 all:Bool
 hashes:Int
 data:Str
def Flt.no:Flt:=⟨false,0,[]⟩
def filtD(b:Str):Flt×Int:=
 let x:=(Cu.mk b 0 0).fixed 1
 if x.1=0 then (if x.2.done.1≠0 then (Flt.no,70) else (Flt.no,0))
 else if x.1=255 then (if x.2.done.1≠0 then (Flt.no,70) else (⟨true,0,[]⟩,0))
 else
  let n:=x.2.num 4096
  let d:=n.2.take n.1
  if kindN false x.1 d.1.length≠3 then (Flt.no,70) else if d.2.done.1≠0 then (Flt.no,70) else (⟨false,x.1,d.1⟩,0)
def fltC(a:Bool)(h:Int)(s:Sl):List Value:=[(LV.bool a).toV,.int .i64 h,(LV.sl s).toV]
set_option maxHeartbeats 1000000 in
theorem filtDecode_ok{w:World}{s:Sl}{t:Str}(hr:RdS w ET s t)(hl:t.length≤1099511627776){K:Bool→Int→Sl→Int→Wp}
  (hK:∀w' ro s',VecL ro ET s' (filtD t).1.data→Fresh w w' F0 ro→K (filtD t).1.all (filtD t).1.hashes s' (filtD t).2 w') :
  callK Pg c_64 [Az s] w (.tup [.agg [.bool,Ki,.sl],Li]) K:=by
 refine go_64 _ _ _ ?_;refine (Fresh.start w F0).alK fun b2 w1 f1 _ M1=>?_;refine newCursor_G (hr.quiet M1) hl fun w2 bc sC h2 hlo=>?_;have h2:=CuG.under f1 h2 hlo;refine h2.alK fun b6 w3 h3=>?_;have h3:CuG w w3 bc sC [(b2,fltC false 0 ⟨none,0,0⟩),(b6,fltC false 0 ⟨none,0,0⟩)] ⟨t,0,0⟩:=h3;refine fixed_ok h3.cur fun w4 c4 M4=>?_;have h4:=h3.upd c4 (Fresh.none M4);have hlt:=fixed1_lt ⟨t,0,0⟩;unfold filtD at hK;dsimp only at hK;generalize (Cu.mk t 0 0).fixed 1=x at hK c4 h4 hlt;obtain⟨v,c⟩:=x;dsimp only at hK c4 h4 hlt ⊢;rw [Lan] at h4
 have bad:∀{u:World} {m:BL} {X:List Value} {c':Cu},X.length=3→CuG w u bc sC ((b2,X)::m) c'→(∀w' ro s',VecL ro ET s' []→Fresh w w' F0 ro→K false 0 s' 70 w') →
   Go.Vw.st u b2 0 [.lit false,.int .i64 0,.sl (⟨none,0,0⟩)] fun u'=>Go.Vw.ld u' .bool b2 0 fun c34=>Go.Vw.ld u' Ki b2 1 fun n35=>Go.Vw.ld u' .sl b2 2 fun a36=>K c34 n35 a36 70 u':=fun {u m X c'} hX h hK=>by
  refine h.stK 0 rfl (by simp [hX]) fun u' h'=>?_;have hB:Blk u' b2 (fltC false 0 ⟨none,0,0⟩):=by
   have:=h'.blk (i:=0) rfl;rw [spl_eq _ _ _ (by simp [hX]),Ldn (by simp [hX]),Lan] at this;exact this
  exact hB.ldK (k:=.bool) false rfl (hB.ldK (k:=Ki) 0 rfl (hB.ldK (k:=.sl) ⟨none,0,0⟩ rfl (hK u' [] _ (VecL.nil ET) (h'.f.sub (List.nil_sublist _)))))
 have good:∀{u:World} {ro:BL} {a:Bool} {h:Int} {s6:Sl} {d:Str} {c':Cu},CuG w u bc sC ([(b2,fltC false 0 ⟨none,0,0⟩),(b6,fltC a h s6)]++ro) c'→VecL ro ET s6 d →
   (c'.done.1≠0→∀w' ro s',VecL ro ET s' []→Fresh w w' F0 ro→K false 0 s' 70 w')→(c'.done.1=0→∀w' ro s',VecL ro ET s' d→Fresh w w' F0 ro→K a h s' 0 w') →
   callK Pg c_30 [Ap (some (bc,0))] u (.one (.agg [Ki,Ki])) fun n30 n31 W32=>
   ifK (n30 != 0)
   (Go.Vw.st W32 b2 0 [.lit false,.int .i64 0,.sl (⟨none,0,0⟩)] fun W33=>Go.Vw.ld W33 .bool b2 0 fun c34=>Go.Vw.ld W33 Ki b2 1 fun n35=>Go.Vw.ld W33 .sl b2 2 fun a36=>K c34 n35 a36 70 W33)
   (Go.Vw.ld W32 .bool b6 0 fun c37=>Go.Vw.ld W32 Ki b6 1 fun n38=>Go.Vw.ld W32 .sl b6 2 fun a39=>
    Go.Vw.st W32 b2 0 [.bool c37,.int .i64 n38,.sl a39] fun W40=>Go.Vw.ld W40 .bool b2 0 fun c41=>Go.Vw.ld W40 Ki b2 1 fun n42=>Go.Vw.ld W40 .sl b2 2 fun a43=>K c41 n42 a43 0 W40):=fun {u ro a h s6 d c'} hG hv hB hS=>by
  refine end_ok hG.cur fun u' _ M'=>?_;have hG:=hG.quiet M';refine Iq (fun q=>?_) fun q=>?_
  ·exact bad rfl hG (hB (by simpa using q))
  ·have q:c'.done.1=0:=by simpa using q
   have h6:=hG.blk (i:=1) rfl;refine h6.ldK (k:=.bool) a rfl (h6.ldK (k:=Ki) h rfl (h6.ldK (k:=.sl) s6 rfl ?_));refine hG.stK 0 rfl (Nlr 3) fun u2 h2=>?_;have h2:CuG w u2 bc sC ([(b2,fltC a h s6),(b6,fltC a h s6)]++ro) c':=h2;have hb:=h2.blk (i:=0) rfl;exact hb.ldK (k:=.bool) a rfl (hb.ldK (k:=Ki) h rfl (hb.ldK (k:=.sl) s6 rfl (hS q u2 ro s6 hv (h2.f.sub (Lsr _ _)))))
 refine join0 (fun u=>∃(ro:BL) (a:Bool) (h:Int) (s6:Sl) (d:Str) (c':Cu),CuG w u bc sC ([(b2,fltC false 0 ⟨none,0,0⟩),(b6,fltC a h s6)]++ro) c'∧VecL ro ET s6 d ∧
   (c'.done.1≠0→∀w' ro s',VecL ro ET s' []→Fresh w w' F0 ro→K false 0 s' 70 w')∧(c'.done.1=0→∀w' ro s',VecL ro ET s' d→Fresh w w' F0 ro→K a h s' 0 w')) ?_ ?_
 rotate_left
 ·rintro u ⟨ro,a,h,s6,d,c',hG,hv,hB,hS⟩;exact good hG hv hB hS
 intro k10 hk10;refine Iq (fun q=>?_) fun q=>?_
 ·have q:v=0:=by have:(v:Int)=0:=(by simpa using q);omega
  rw [if_pos q] at hK;refine hk10 _ ⟨[],false,0,⟨none,0,0⟩,[],c,h4,VecL.nil ET,fun e=>?_,fun e=>?_⟩
  ·rw [if_pos e] at hK;exact hK
  ·rw [if_neg (by simpa using e)] at hK;exact hK
 have q:¬v=0:=by have:¬(v:Int)=0:=(by simpa using q);omega
 rw [if_neg q] at hK;refine join0 (fun u=>∃(ro:BL) (a:Bool) (h:Int) (s6:Sl) (d:Str) (c':Cu),CuG w u bc sC ([(b2,fltC false 0 ⟨none,0,0⟩),(b6,fltC a h s6)]++ro) c'∧VecL ro ET s6 d ∧
   (c'.done.1≠0→∀w' ro s',VecL ro ET s' []→Fresh w w' F0 ro→K false 0 s' 70 w')∧(c'.done.1=0→∀w' ro s',VecL ro ET s' d→Fresh w w' F0 ro→K a h s' 0 w')) ?_ (fun u h=>hk10 u h)
 intro k11 hk11;refine Iq (fun q2=>?_) fun q2=>?_
 ·have q2:v=255:=by have:(v:Int)=255:=(by simpa using q2);omega
  rw [if_pos q2] at hK;refine h4.stK 1 rfl (by decide:0+1≤3) fun w5 h5=>?_;refine hk11 _ ⟨[],true,0,⟨none,0,0⟩,[],c,h5,VecL.nil ET,fun e=>?_,fun e=>?_⟩
  ·rw [if_pos e] at hK;exact hK
  ·rw [if_neg (by simpa using e)] at hK;exact hK
 have q2:¬v=255:=by have:¬(v:Int)=255:=(by simpa using q2);omega
 rw [if_neg q2] at hK;have ev:w64 (v:Int)=(v:Int):=w64N (by omega);rw [ev];refine h4.stK 1 rfl (by decide:1+1≤3) fun w5 h5=>?_;have h5:CuG w w5 bc sC [(b2,fltC false 0 ⟨none,0,0⟩),(b6,fltC false v ⟨none,0,0⟩)] c:=h5;refine num_ok h5.cur fun w6 c6 M6=>?_;have h6:=h5.upd c6 (Fresh.none M6);generalize c.num 4096=n at hK c6 h6;refine take_ok h6.cur fun w7 ro7 s7 c7 v7 F7=>?_;have h7:=h6.upd c7 F7;generalize n.2.take n.1=d at hK c7 h7 v7;rw [Lan] at h7;refine h7.stK 1 rfl (by decide:2+1≤3) fun w8 h8=>?_;have h8:CuG w w8 bc sC ([(b2,fltC false 0 ⟨none,0,0⟩),(b6,fltC false v s7)]++ro7) d.2:=h8;have hB:=h8.blk (i:=1) rfl;refine hB.ldK (k:=.bool) false rfl (hB.ldK (k:=Ki) (v:Int) rfl (hB.ldK (k:=.sl) s7 rfl ?_));refine kind_ok (n:=d.1.length) v7.1 fun w9 M9=>?_;have h9:=h8.quiet M9;refine Iq (fun q3=>?_) fun q3=>?_
 ·have q3:kindN false v d.1.length≠3:=by simpa using q3
  rw [if_pos q3] at hK;exact bad rfl h9 hK
 have q3:¬kindN false v d.1.length≠3:=by simpa using q3
 rw [if_neg q3] at hK;refine hk11 _ ⟨ro7,false,v,s7,d.1,d.2,h9,v7,fun e=>?_,fun e=>?_⟩
 ·rw [if_pos e] at hK;exact hK
 ·rw [if_neg (by simpa using e)] at hK;exact hK
def encF(f:Flt):Str×Int:=if kindN f.all f.hashes f.data.length=1 then ([255],0) else if kindN f.all f.hashes f.data.length=2 then ([0],0) else if kindN f.all f.hashes f.data.length=3 then (UInt8.ofNat f.hashes.toNat::putN f.data.length++f.data,0) else ([],70)
theorem kindN_3{a:Bool}{h:Int}{n:Nat}(k:kindN a h n=3):a=false∧1≤h∧h≤8∧1≤n∧n≤4096:=by
 unfold kindN at k;split at k
 ·cases k
 split at k
 ·cases k
 split at k
 ·assumption
 ·cases k
theorem byte1(b:Nat)(c:UInt8):VecL [(b,[LV.toV (.int .u8 (c.toNat:Int))])] ET ⟨some (b,0),1,1⟩ [c]:=⟨rfl,Nlr _,.inr ⟨b,[],rfl,rfl,Nlr _⟩⟩
theorem filtEncode_ok{w:World}{a:Bool}{h:Int}{s:Sl}{d:Str}(hr:RdS w ET s d)(hl:d.length≤1099511627776){K:Sl→Int→Wp}
  (hK:∀w' ro s',VecL ro ET s' (encF ⟨a,h,d⟩).1→Fresh w w' F0 ro→K s' (encF ⟨a,h,d⟩).2 w') :
  callK Pg c_65 [.agg [.bool a,.int .i64 h,.sl s]] w (.tup [Ls,Li]) K:=by
 refine go_65 _ _ _ _ _ ?_;refine (Fresh.start w F0).alK fun b4 w1 f1 _ M1=>?_;have f1:Fresh w w1 F0 [(b4,fltC a h s)]:=f1;have hB:=f1.blk (i:=0) rfl;refine hB.ldK (k:=.bool) a rfl (hB.ldK (k:=Ki) h rfl (hB.ldK (k:=.sl) s rfl ?_));have hr1:=hr.quiet M1;refine kind_ok (n:=d.length) hr.len fun w2 M2=>?_;have f2:=f1.quiet M2;have hr2:=hr1.quiet M2;unfold encF at hK;dsimp only at hK;refine Iq (fun q=>?_) fun q=>?_
 ·have q:kindN a h d.length=1:=by simpa using q
  simp only [if_pos q] at hK;exact f2.alK fun b u fu _ _=>hK u _ _ (byte1 b 255) (fu.sub (Lsr _ _))
 have q:¬kindN a h d.length=1:=by simpa using q
 simp only [if_neg q] at hK;refine Iq (fun q=>?_) fun q=>?_
 ·have q:kindN a h d.length=2:=by simpa using q
  simp only [if_pos q] at hK;exact f2.alK fun b u fu _ _=>hK u _ _ (byte1 b 0) (fu.sub (Lsr _ _))
 have q:¬kindN a h d.length=2:=by simpa using q
 simp only [if_neg q] at hK;refine Iq (fun q=>?_) fun q=>?_;rotate_left
 ·have q:¬kindN a h d.length=3:=by simpa using q
  simp only [if_neg q] at hK;exact hK w2 [] _ (VecL.nil ET) (f2.sub (List.nil_sublist _))
 have q:kindN a h d.length=3:=by simpa using q
 simp only [if_pos q] at hK;obtain⟨_,h1,h8,d1,d2⟩:=kindN_3 q;have hpl:(putN d.length).length≤9:=putN_len d.length 8 (by omega);have ec:IntKind.wrap .u8 h=(((UInt8.ofNat h.toNat).toNat:Nat):Int):=by
  have:(UInt8.ofNat h.toNat).toNat=h.toNat%256:=rfl;rw [this];show h%256=_;omega
 refine join1 (a:=.sl) (fun s15 u=>∃ro,Fresh w u F0 ([(b4,fltC a h s)]++ro)∧VecL ro ET s15 (UInt8.ofNat h.toNat::putN d.length)) ?_ ?_;rotate_left
 ·rintro s15 u ⟨ro,f,v⟩;have hB:=f.blk (i:=0) rfl;refine hB.ldK (k:=.sl) s rfl ?_;have hru:=hr.quiet f.mod;refine Fresh.app f v hru rfl rfl (by simp;omega) fun s' ro' u' f' v' _=>hK u' ro' s' v' (f'.sub (Lsr _ _))
 intro k15 hk15;have f3:=f2.quiet (Mq w2);have hB3:=f3.blk (i:=0) rfl;refine⟨F0,hB3.ldDK (k:=Ki) h id rfl (hB3.ldDK (k:=.sl) s id rfl ?_)⟩;rw [hr.len,ec];have fin:∀{u u':World} {s23:Sl} {ro:BL},Fresh w2.drew u' F0 ro→VecL ro ET s23 (UInt8.ofNat h.toNat::putN d.length)→k15 s23 u':=fun f v=>
  hk15 _ _ ⟨_,f3.join f (fun _ _ h=>h) (fun _ _ _ h=>h),v⟩
 refine⟨?_,?_⟩
 ·refine (Fresh.start w2.drew F0).alK fun b19 u1 g1 _ _=>⟨g1.mod,put_ok (by omega) fun u2 ro2 s2 g2 v2=>?_⟩;have g2:Fresh w2.drew u2 F0 (ro2++[(b19,[LV.toV (.int .u8 (((UInt8.ofNat h.toNat).toNat:Nat):Int))])]):=(g1.join (Fresh.of_at g2) (fun _ _ h=>h) (fun _ _ _ h=>h)).perm Lpc;refine⟨g2.mod,Fresh.app g2 (byte1 b19 _) (v2.rd fun p hp=>g2.own p (Lml _ hp)) rfl rfl (by simp;omega) fun s' ro' u' f' v' _=>⟨f'.mod,fin (u:=u2) (f'.sub (Lsr _ _)) v'⟩⟩
 ·refine put_ok (by omega) fun u2 ro2 s2 g2 v2=>⟨g2.mod,?_⟩;refine (Fresh.of_at g2).alK fun b19 u3 g3 _ _=>⟨g3.mod,?_⟩;refine Fresh.app g3 (byte1 b19 _) (v2.rd fun p hp=>g3.own p (Lml _ hp)) rfl rfl (by simp;omega) fun s' ro' u' f' v' _=>⟨f'.mod,fin (u:=u2) (f'.sub (Lsr _ _)) v'⟩
set_option maxRecDepth 100000
theorem go_66(b_0_1:Int)(b_1_2:Int)(b_2_3:Int)(b_3_4:List UInt8)(last5:List UInt8)(K:Bool→Wp)(w:World)(h:al w 97 [.int .i64 b_0_1,.int .i64 b_1_2,.int .i64 b_2_3,.str b_3_4] fun b6 W7=>joinK [.bool] (fun k8=>ld W7 Ki b6 0 fun n9=>ifK (decide (1≤n9)) (ld W7 Ki b6 0 fun n10=>ifK (decide (n10≤65536)) (ld W7 Ki b6 1 fun n11=>ifK (decide (1≤n11)) (ld W7 Ki b6 1 fun n12=>ifK (decide (n12≤65536)) (ld W7 Ki b6 1 fun n13=>ld W7 Ki b6 0 fun n14=>ifK (decide (n13≤w64 (64*n14))) (ld W7 Ki b6 2 fun n15=>ifK (decide (1≤n15)) (ld W7 Ki b6 2 fun n16=>ld W7 Ki b6 1 fun n17=>ifK (decide (n16≤n17)) (ld W7 .str b6 3 fun s18=>ifK (decide ((s18.length:Int)≤64)) (ld W7 .str b6 3 fun s19=>callK Pg 111 [Au s19,Au last5] W7 Oi fun n20 W21=>k8 (decide (0≤n20)) W21) (k8 false W7)) (k8 false W7)) (k8 false W7)) (k8 false W7)) (k8 false W7)) (k8 false W7)) (k8 false W7)) (k8 false W7)) fun t422 W23=>K t422 W23):callK Pg 162 [.agg [.int .i64 b_0_1,.int .i64 b_1_2,.int .i64 b_2_3,.str b_3_4],Au last5] w Ob K:=Fq (n:=(n0 .nil (n0 (.mk (some [.tmp 4 Lb]) [] [] .done .nil .nil) .nil))) CS_ok mixed Tryz.func162 (Eq.mpr (by kernel_rfl) h)
theorem go_67(f_0_1:Int)(f_1_2:Sl)(K:Int→Wp)(w:World)(h:al w 40 [.int .i64 f_0_1,.sl f_1_2] fun b3 W4=>joinK [.bool] (fun k5=>ld W4 Ki b3 0 fun n6=>ifK (decide (n6<1)) (k5 true W4) (ld W4 Ki b3 0 fun n7=>k5 (decide (65535<n7)) W4)) fun t178 W9=>ifK t178 (K 80 W9) (ld W9 .sl b3 1 fun a10=>joinK [] (fun k11=>loopL [Ki,Ki,Ki] (fun last13 blocks14 t2115 W16 g12=>ifK (decide (t2115<(a10.len:Int))) (ix a10 5 t2115 fun b17 o18=>ld W16 Ki b17 o18 fun n19=>ld W16 .sl b17 (o18+1) fun a20=>ld W16 .bool b17 (o18+2) fun c21=>ld W16 Ki b17 (o18+3) fun n22=>ld W16 .sl b17 (o18+4) fun a23=>al W16 94 [.int .i64 0,.sl (⟨none,0,0⟩),.lit false,.int .i64 0,.sl (⟨none,0,0⟩)] fun b24 W25=>st W25 b24 0 [.int .i64 n19,.sl a20,.bool c21,.int .i64 n22,.sl a23] fun W26=>ld W26 .sl b24 1 fun a27=>joinK [.bool] (fun k28=>ld W26 Ki b24 0 fun n29=>ifK (decide (n29≤last13)) (k28 true W26) (ld W26 Ki b24 0 fun n30=>ld W26 Ki b3 0 fun n31=>ifK (decide (n31≤n30)) (k28 true W26) (ld W26 .sl b24 1 fun a32=>ifK ((a32.len:Int)==0) (k28 true W26) (ifK (decide (262144<w64 (blocks14+(a27.len:Int)))) (k28 true W26) (ld W26 .bool b24 2 fun c33=>ld W26 Ki b24 3 fun n34=>ld W26 .sl b24 4 fun a35=>callK Pg 161 [.agg [.bool c33,.int .i64 n34,.sl a35]] W26 Oi fun n36 W37=>k28 (n36 != 0) W37))))) fun t5638 W39=>ifK t5638 (K 80 W39) (ld W39 Ki b24 0 fun n40=>ld W39 .sl b24 1 fun a41=>joinK [] (fun k42=>loopL [.str,Ki] (fun key44 t6245 W46 g43=>ifK (decide (t6245<(a41.len:Int))) (ix a41 4 t6245 fun b47 o48=>ld W46 Ki b47 o48 fun n49=>ld W46 Ki b47 (o48+1) fun n50=>ld W46 Ki b47 (o48+2) fun n51=>ld W46 .str b47 (o48+3) fun s52=>al W46 97 [.int .i64 0,.int .i64 0,.int .i64 0,.str []] fun b53 W54=>st W54 b53 0 [.int .i64 n49,.int .i64 n50,.int .i64 n51,.str s52] fun W55=>ld W55 Ki b53 0 fun n56=>ld W55 Ki b53 1 fun n57=>ld W55 Ki b53 2 fun n58=>ld W55 .str b53 3 fun s59=>callK Pg 162 [.agg [.int .i64 n56,.int .i64 n57,.int .i64 n58,.str s59],Au key44] W55 Ob fun c60 W61=>ifK (!c60) (K 80 W61) (ld W61 .str b53 3 fun s62=>g43 s62 (w64 (t6245+1)) W61)) (k42 W46)) [.str [],.int .i64 0] W39) fun W63=>g12 n40 (w64 (blocks14+(a27.len:Int))) (w64 (t2115+1)) W63)) (k11 W16)) [.int .i64 (-1),.int .i64 0,.int .i64 0] W9) fun W64=>K 0 W64)):callK Pg 137 [.agg [.int .i64 f_0_1,.sl f_1_2]] w Oi K:=Fq (n:=(n0 .nil (n0 (n0 (.mk (some [.tmp 17 Lb]) [] [1] .done .nil .nil) .nil) (n0 .nil (n0 (n0 .nil (.mk (some []) [] [] .done (.mk none [.tmp 3 Li,.tmp 4 Li,.tmp 21 Li] [1,19,20] .done (n0 .nil (n0 .nil (n0 (n0 (n0 .nil (n0 .nil (n0 (n0 (.mk (some [.tmp 56 Lb]) [] [1,4,6,19,20,21] .done .nil .nil) .nil) (n0 .nil (n0 .nil (n0 .nil (.mk (some []) [] [1,3,4,19,20,21] .done (.mk none [.tmp 7 Lt,.tmp 62 Li] [1,3,4,19,20,21,60,61] .done .nil .nil) .nil))))))) .nil) .nil))) .nil) .nil)) .nil))))) CS_ok mixed Tryz.func137 (Eq.mpr (by kernel_rfl) h)
theorem go_70(f_0_1:Int)(f_1_2:Sl)(K:Sl→Wp)(w:World)(h:al w 40 [.int .i64 f_0_1,.sl f_1_2] fun b3 W4=>al W4 22 [.sl (⟨none,0,0⟩)] fun b5 W6=>ld W6 Ki b3 0 fun n7=>ld W6 .sl b3 1 fun a8=>al W6 3 [.int .i64 n7,.int .i64 (a8.len:Int)] fun b9 W10=>callV Pg (.func (.func 163) #[] #[(LV.toV (.ptr (some (b5,0))))]) [Az (⟨some (b9,0),2,2⟩)] W10 (.tup []) fun W11=>ld W11 .sl b3 1 fun a12=>joinK [] (fun k13=>loopL [Ki,Ki] (fun last15 t2616 W17 g14=>ifK (decide (t2616<(a12.len:Int))) (ix a12 5 t2616 fun b18 o19=>ld W17 Ki b18 o19 fun n20=>ld W17 .sl b18 (o19+1) fun a21=>ld W17 .bool b18 (o19+2) fun c22=>ld W17 Ki b18 (o19+3) fun n23=>ld W17 .sl b18 (o19+4) fun a24=>al W17 94 [.int .i64 0,.sl (⟨none,0,0⟩),.lit false,.int .i64 0,.sl (⟨none,0,0⟩)] fun b25 W26=>st W26 b25 0 [.int .i64 n20,.sl a21,.bool c22,.int .i64 n23,.sl a24] fun W27=>ld W27 .bool b25 2 fun c28=>ld W27 Ki b25 3 fun n29=>ld W27 .sl b25 4 fun a30=>callK Pg 165 [.agg [.bool c28,.int .i64 n29,.sl a30]] W27 (.tup [Ls,Li]) fun a31 n32 W33=>ld W33 Ki b25 0 fun n34=>al W33 3 [.int .i64 (w64 ((w64 (n34-last15))-1)),.int .i64 (a31.len:Int)] fun b35 W36=>callV Pg (.func (.func 163) #[] #[(LV.toV (.ptr (some (b5,0))))]) [Az (⟨some (b35,0),2,2⟩)] W36 (.tup []) fun W37=>ld W37 .sl b5 0 fun a38=>ap W37 5 1 1 [.int .u8 0] a38 a31 fun a39 W40=>st W40 b5 0 [.sl a39] fun W41=>ld W41 .sl b25 1 fun a42=>al W41 3 [.int .i64 (a42.len:Int)] fun b43 W44=>callV Pg (.func (.func 163) #[] #[(LV.toV (.ptr (some (b5,0))))]) [Az (⟨some (b43,0),1,1⟩)] W44 (.tup []) fun W45=>ld W45 Ki b25 0 fun n46=>ld W45 .sl b25 1 fun a47=>joinK [] (fun k48=>loopL [.str,Ki] (fun key50 t6051 W52 g49=>ifK (decide (t6051<(a47.len:Int))) (ix a47 4 t6051 fun b53 o54=>ld W52 Ki b53 o54 fun n55=>ld W52 Ki b53 (o54+1) fun n56=>ld W52 Ki b53 (o54+2) fun n57=>ld W52 .str b53 (o54+3) fun s58=>al W52 97 [.int .i64 0,.int .i64 0,.int .i64 0,.str []] fun b59 W60=>st W60 b59 0 [.int .i64 n55,.int .i64 n56,.int .i64 n57,.str s58] fun W61=>ld W61 .str b59 3 fun s62=>callK Pg 166 [Au key50,Au s62] W61 Oi fun n63 W64=>ld W64 Ki b59 0 fun n65=>ld W64 Ki b59 1 fun n66=>ld W64 Ki b59 2 fun n67=>ld W64 .str b59 3 fun s68=>al W64 3 [.int .i64 n65,.int .i64 n66,.int .i64 n67,.int .i64 n63,.int .i64 (w64 ((s68.length:Int)-n63))] fun b69 W70=>callV Pg (.func (.func 163) #[] #[(LV.toV (.ptr (some (b5,0))))]) [Az (⟨some (b69,0),5,5⟩)] W70 (.tup []) fun W71=>drawK W71 fun D W72=>ldD D W72 .sl b5 0 fun a73=>ldD D W72 .str b59 3 fun s74=>ssx s74 (some n63) none fun s75=>opF Pg (builtin .append #[22,9] 22 #[false,false] #[(LV.toV (.sl a73)),(LV.toV (.str s75))]) W72 Oz fun a77 W76=>Mod D W72 W76∧st W76 b5 0 [.sl a77] fun W78=>ld W78 .str b59 3 fun s79=>g49 s79 (w64 (t6051+1)) W78) (k48 W52)) [.str [],.int .i64 0] W45) fun W80=>g14 n46 (w64 (t2616+1)) W80) (k13 W17)) [.int .i64 (-1),.int .i64 0] W11) fun W81=>ld W81 .sl b5 0 fun a82=>K a82 W81):callK Pg 138 [.agg [.int .i64 f_0_1,.sl f_1_2]] w Oz K:=Fq (n:=(n0 .nil (n0 .nil (n0 .nil (n0 .nil (n0 .nil (n0 (n0 .nil (.mk (some []) [] [3] .done (.mk none [.tmp 5 Li,.tmp 26 Li] [3,4,24,25] .done (n0 .nil (n0 .nil (n0 (n0 (n0 .nil (n0 .nil (n0 .nil (n0 .nil (n0 .nil (n0 .nil (n0 .nil (n0 .nil (.mk (some []) [] [3,4,5,24,25,26] .done (.mk none [.tmp 10 Lt,.tmp 60 Li] [3,4,5,24,25,26,58,59] .done (n0 .nil (n0 .nil (n0 (n0 (n0 .nil (n0 .nil (n0 .nil (n0 (.mk none [] [] (tk [0,1,2,3,4] (.eff 5 (.last 6))) .nil .nil) .nil)))) .nil) .nil))) .nil) .nil))))))))) .nil) .nil))) .nil) .nil)) .nil))))))) CS_ok mixed Tryz.func138 (Eq.mpr (by kernel_rfl) h)
theorem go_69(ns1:Sl)(t1B2:Nat)(t1O3:Nat)(K:Wp)(w:World)(h:joinK [] (fun k4=>loopL [Ki] (fun t76 W7 g5=>ifK (decide (t76<(ns1.len:Int))) (ix ns1 1 t76 fun b8 o9=>ld W7 Ki b8 o9 fun n10=>drawK W7 fun D W11=>ldD D W11 .sl t1B2 t1O3 fun a12=>callK Pg 164 [Ai n10] W11 Oz fun a13 W14=>Mod D W11 W14∧ap W14 5 1 1 [.int .u8 0] a12 a13 fun a15 W16=>Mod D W11 W16∧st W16 t1B2 t1O3 [.sl a15] fun W17=>g5 (w64 (t76+1)) W17) (k4 W7)) [.int .i64 0] w) fun W18=>K W18):callK Pg 163 [Az ns1,Ap (some (t1B2,t1O3))] w (.tup []) K:=Fq (n:=(n0 .nil (.mk (some []) [] [] .done (.mk none [.tmp 7 Li] [1,5,6] .done (n0 .nil (n0 .nil (n0 (n0 (n0 .nil (.mk none [] [] (.take 0 (.take 1 (.eff 2 (.eff 3 (.last 4))))) .nil .nil)) .nil) .nil))) .nil) .nil))) CS_ok mixed Tryz.func163 (Eq.mpr (by kernel_rfl) h)
theorem go_68(f_0_1:Int)(f_1_2:Sl)(K:Int→Wp)(w:World)(h:al w 40 [.int .i64 f_0_1,.sl f_1_2] fun b3 W4=>ld W4 .sl b3 1 fun a5=>joinK [Ki] (fun k6=>loopL [Ki,Ki] (fun n8 t119 W10 g7=>ifK (decide (t119<(a5.len:Int))) (ix a5 5 t119 fun b11 o12=>ld W10 Ki b11 o12 fun n13=>ld W10 .sl b11 (o12+1) fun a14=>ld W10 .bool b11 (o12+2) fun c15=>ld W10 Ki b11 (o12+3) fun n16=>ld W10 .sl b11 (o12+4) fun a17=>al W10 94 [.int .i64 0,.sl (⟨none,0,0⟩),.lit false,.int .i64 0,.sl (⟨none,0,0⟩)] fun b18 W19=>st W19 b18 0 [.int .i64 n13,.sl a14,.bool c15,.int .i64 n16,.sl a17] fun W20=>ld W20 .sl b18 1 fun a21=>joinK [Ki] (fun k22=>loopL [Ki,Ki] (fun n24 t1825 W26 g23=>ifK (decide (t1825<(a21.len:Int))) (ix a21 4 t1825 fun b27 o28=>ld W26 Ki b27 o28 fun n29=>ld W26 Ki b27 (o28+1) fun n30=>ld W26 Ki b27 (o28+2) fun n31=>ld W26 .str b27 (o28+3) fun s32=>al W26 97 [.int .i64 0,.int .i64 0,.int .i64 0,.str []] fun b33 W34=>st W34 b33 0 [.int .i64 n29,.int .i64 n30,.int .i64 n31,.str s32] fun W35=>ld W35 Ki b33 0 fun n36=>g23 (w64 (n24+(w64 (n36+5)))) (w64 (t1825+1)) W35) (k22 n24 W26)) [.int .i64 n8,.int .i64 0] W20) fun n37 W38=>g7 n37 (w64 (t119+1)) W38) (k6 n8 W10)) [.int .i64 0,.int .i64 0] W4) fun n39 W40=>K n39 W40):callK Pg 96 [.agg [.int .i64 f_0_1,.sl f_1_2]] w Oi K:=Fq (n:=(n0 .nil (n0 .nil (n0 (n0 .nil (.mk (some [.tmp 3 Li]) [] [] .done (.mk none [.tmp 3 Li,.tmp 11 Li] [9,10] .done (n0 .nil (n0 .nil (n0 (n0 (n0 .nil (n0 .nil (.mk (some [.tmp 3 Li]) [] [9,10,11] .done (.mk none [.tmp 3 Li,.tmp 18 Li] [9,10,11,16,17] .done .nil .nil) .nil))) .nil) .nil))) .nil) .nil)) .nil)))) CS_ok mixed Tryz.func96 (Eq.mpr (by kernel_rfl) h)
structure BI where
 stored:Int
 raw:Int
 count:Int
 cut:Str
structure PartI where
 part:Int
 blocks:List BI
 flt:Flt
def rightB(b:BI)(last:Str):Bool:=decide (1≤b.stored∧b.stored≤65536∧1≤b.raw∧b.raw≤65536∧b.raw≤64*b.stored∧1≤b.count∧b.count≤b.raw∧b.cut.length≤64∧0≤cmpN b.cut last)
def chkB:List BI→Str→Bool
 | [],_=>true
 | b::r,key=>rightB b key&&chkB r b.cut
def rightP(parts last:Int)(n:Nat)(x:PartI):Bool:=decide (last<x.part∧x.part<parts∧x.blocks.length≠0∧n+x.blocks.length≤262144∧kindN x.flt.all x.flt.hashes x.flt.data.length≠0)
def chkI(parts:Int):List PartI→Int→Nat→Bool
 | [],_,_=>true
 | x::r,last,n=>rightP parts last n x&&chkB x.blocks []&&chkI parts r x.part (n+x.blocks.length)
def chkF(parts:Int)(l:List PartI):Bool:=decide (1≤parts∧parts≤65535)&&chkI parts l (-1) 0
structure PI where
 part:Int
 sb:Sl
 all:Bool
 hashes:Int
 sd:Sl
theorem cell_sl(s:Sl):isCell (LV.sl s).toV=true:=by
 obtain⟨p,l,c⟩:=s
 cases p with
 | none=>rfl
 | some a=>rfl
def EBI:Enc BI:=⟨4,fun x=>[.int .i64 x.stored,.int .i64 x.raw,.int .i64 x.count,(LV.str x.cut).toV],fun _=>rfl,by decide,fun x v h=>by
 simp only [List.mem_cons,List.not_mem_nil,or_false] at h;rcases h with rfl | rfl | rfl | rfl<;>rfl⟩
def EPI:Enc PI:=⟨5,fun x=>[.int .i64 x.part,(LV.sl x.sb).toV,(LV.bool x.all).toV,.int .i64 x.hashes,(LV.sl x.sd).toV],fun _=>rfl,by decide,fun x v h=>by
 simp only [List.mem_cons,List.not_mem_nil,or_false] at h
 rcases h with rfl | rfl | rfl | rfl | rfl<;>first | rfl | exact cell_sl _⟩
structure InfoR(w:World)(p:PI)(x:PartI):Prop where
 part:p.part=x.part
 bl:RdS w EBI p.sb x.blocks
 all:p.all=x.flt.all
 hs:p.hashes=x.flt.hashes
 dt:RdS w ET p.sd x.flt.data
 lb:x.blocks.length≤1099511627776
 ld:x.flt.data.length≤1099511627776
structure FootR(w:World)(S:Nat→Prop)(s:Sl)(ps:List PI)(l:List PartI):Prop where
 rd:RdS w EPI s ps
 len:ps.length=l.length
 each:∀(i:Nat) p x,ps[i]? = some p→l[i]? = some x→InfoR w p x
 row:∀b,rk s b→S b
 dep:∀p∈ps,∀b,rk p.sb b∨rk p.sd b→S b
 ll:l.length≤1099511627776
theorem InfoR.keep{w w':World}{p:PI}{x:PartI}(h:InfoR w p x){D:Nat→Prop}(hM:Mod D w w')(hd:∀b,rk p.sb b∨rk p.sd b→¬D b):InfoR w' p x:=
 ⟨h.part,h.bl.keep hM fun b hb=>hd b (.inl hb),h.all,h.hs,h.dt.keep hM fun b hb=>hd b (.inr hb),h.lb,h.ld⟩
theorem FootR.keep{w w':World}{S:Nat→Prop}{s:Sl}{ps:List PI}{l:List PartI}(h:FootR w S s ps l){D:Nat→Prop}(hM:Mod D w w')(hd:∀b,S b→¬D b):FootR w' S s ps l:=
 ⟨h.rd.keep hM fun b hb=>hd b (h.row b hb),h.len,fun i p x hp hx=>(h.each i p x hp hx).keep hM fun b hb=>hd b (h.dep p (Lmg hp) b hb),h.row,h.dep,h.ll⟩
theorem FootR.quiet{w w':World}{S:Nat→Prop}{s:Sl}{ps:List PI}{l:List PartI}(h:FootR w S s ps l)(hM:Mod F0 w w'):FootR w' S s ps l:=h.keep hM fun _ _=>id
theorem rightBlock_ok{w:World}{x:BI}{last:Str}(hl:last.length≤1099511627776){K:Bool→Wp}(hK:∀w',Mod F0 w w'→K (rightB x last) w') :
  callK Pg c_66 [.agg [.int .i64 x.stored,.int .i64 x.raw,.int .i64 x.count,.str x.cut],Au last] w Ob K:=by
 refine go_66 _ _ _ _ _ _ _ ?_;refine (At.init w F0).alK fun b w1 _ h1 _=>?_;have hB:Blk w1 b (EBI.f x):=h1.blk (i:=0) rfl;have l0:∀{K:Int→Prop},K x.stored→Go.Vw.ld w1 Ki b 0 K:=fun hK=>hB.ldK (k:=Ki) x.stored rfl hK;have l1:∀{K:Int→Prop},K x.raw→Go.Vw.ld w1 Ki b 1 K:=fun hK=>hB.ldK (k:=Ki) x.raw rfl hK;have l2:∀{K:Int→Prop},K x.count→Go.Vw.ld w1 Ki b 2 K:=fun hK=>hB.ldK (k:=Ki) x.count rfl hK;have l3:∀{K:Str→Prop},K x.cut→Go.Vw.ld w1 .str b 3 K:=fun hK=>hB.ldK (k:=.str) x.cut rfl hK;refine join1 (a:=.bool) (fun q u=>q=rightB x last∧Mod F0 w u) ?_ (by rintro q u ⟨rfl,hM⟩;exact hK u hM);intro k hk;unfold rightB at hk;have no:(¬(1≤x.stored∧x.stored≤65536∧1≤x.raw∧x.raw≤65536∧x.raw≤64*x.stored∧1≤x.count∧x.count≤x.raw∧x.cut.length≤64∧0≤cmpN x.cut last))→k false w1:=fun h=>hk _ _ ⟨(Dcf h).symm,h1.mod⟩;refine l0 (Iq (fun q1=>?_) fun q=>no fun h=>odf q h.1);refine l0 (Iq (fun q2=>?_) fun q=>no fun h=>odf q h.2.1);refine l1 (Iq (fun q3=>?_) fun q=>no fun h=>odf q h.2.2.1);refine l1 (Iq (fun q4=>?_) fun q=>no fun h=>odf q h.2.2.2.1);have q1:1≤x.stored:=odt q1;have q2:x.stored≤65536:=odt q2;have q3:1≤x.raw:=odt q3;have q4:x.raw≤65536:=odt q4;refine l1 (l0 ?_);rw [Wq (by omega) (by omega)];refine Iq (fun q5=>?_) fun q=>no fun h=>odf q h.2.2.2.2.1;refine l2 (Iq (fun q6=>?_) fun q=>no fun h=>odf q h.2.2.2.2.2.1);refine l2 (l1 (Iq (fun q7=>?_) fun q=>no fun h=>odf q h.2.2.2.2.2.2.1));refine l3 (Iq (fun q8=>?_) fun q=>no fun h=>odf q (by have:=h.2.2.2.2.2.2.2.1;omega));have q5:x.raw≤64*x.stored:=odt q5;have q6:1≤x.count:=odt q6;have q7:x.count≤x.raw:=odt q7;have q8:(x.cut.length:Int)≤64:=odt q8;refine l3 (compare_ok (by omega) hl fun w2 M2=>hk _ _ ⟨?_,mod0 h1.mod M2⟩);rw [Bei,Det,Det];exact⟨fun h=>⟨q1,q2,q3,q4,q5,q6,q7,by omega,h⟩,fun h=>h.2.2.2.2.2.2.2.2⟩
theorem rightB_cut{x:BI}{last:Str}(h:rightB x last=true):x.cut.length≤64:=(odt h).2.2.2.2.2.2.2.1
theorem Dg{α:Type}{l:List α}{i:Nat}{x:α}(h:l[i]? = some x):l.drop i=x::l.drop (i+1):=by
 obtain⟨hi,e⟩:=Les.1 h;rw [List.drop_eq_getElem_cons hi,e]
theorem Gq{α:Type}{l:List α}{i:Nat}(h:i<l.length):∃x,l[i]? = some x:=⟨_,Lge h⟩
theorem chkB_loop{w u0:World}{tE:TypeId}{sb:Sl}{bl:List BI}(hr:RdS w EBI sb bl)(hl:bl.length≤1099511627776)(M0:Mod F0 w u0){K80:Wp}{kn:Wp}(h80:chkB bl []=false→∀u,Mod F0 w u→K80 u)(hn:chkB bl []=true→∀u,Mod F0 w u→kn u) :
  loopL [.str,Ki] (fun key44 t6245 W46 g43=>
   ifK (decide (t6245<(sb.len:Int)))
   (ix sb 4 t6245 fun b47 o48=>
    Go.Vw.ld W46 Ki b47 o48 fun n49=>
    Go.Vw.ld W46 Ki b47 (o48+1) fun n50=>
    Go.Vw.ld W46 Ki b47 (o48+2) fun n51=>
    Go.Vw.ld W46 .str b47 (o48+3) fun s52=>
    Go.Vw.al W46 tE [.int .i64 0,.int .i64 0,.int .i64 0,.str []] fun b53 W54=>
    Go.Vw.st W54 b53 0 [.int .i64 n49,.int .i64 n50,.int .i64 n51,.str s52] fun W55=>
    Go.Vw.ld W55 Ki b53 0 fun n56=>
    Go.Vw.ld W55 Ki b53 1 fun n57=>
    Go.Vw.ld W55 Ki b53 2 fun n58=>
    Go.Vw.ld W55 .str b53 3 fun s59=>
    callK Pg c_66 [.agg [.int .i64 n56,.int .i64 n57,.int .i64 n58,.str s59],Au key44] W55 Ob fun c60 W61=>
    ifK (!c60)
    (K80 W61)
    (Go.Vw.ld W61 .str b53 3 fun s62=>
     g43 s62 (w64 (t6245+1)) W61))
   (kn W46)) [.str [],.int .i64 0] u0:=by
 refine loop2 (k1:=.str) (k2:=Ki) (fun (key:Str) (t:Int) u=>∃i:Nat,t=(i:Int)∧i≤bl.length∧key.length≤64∧chkB bl []=chkB (bl.drop i) key∧Mod F0 w u) (fun _ t _=>(bl.length-t).toNat) (x1:=[]) (x2:=0) rfl rfl ⟨0,rfl,Nzl _,Nzl _,rfl,M0⟩ ?_;rintro key t u ⟨i,rfl,hi,hk,he,hM⟩;rw [hr.len];refine Iq (fun q=>?_) fun q=>?_;rotate_left
 ·have q:bl.length≤i:=dge q;rw [Ldn q] at he;exact hn he u hM
 have q:i<bl.length:=dlt q;obtain⟨x,hx⟩:=Gq q;rw [Dg hx,chkB] at he;have hu:=hr.quiet hM;refine hu.ix rfl rfl hx fun b o _ hc=>Lq (k:=Ki) x.stored (hc 0 (by decide)) (Lq (k:=Ki) x.raw (hc 1 (by decide)) (Lq (k:=Ki) x.count (hc 2 (by decide)) (Lq (k:=.str) x.cut (hc 3 (by decide)) ?_)));refine (Fresh.start u F0).alK fun b53 u1 f1 _ _=>f1.stK 0 rfl (Nlr 4) fun u2 f2 _=>?_;have hB:Blk u2 b53 (EBI.f x):=f2.blk (i:=0) rfl;refine hB.ldK (k:=Ki) x.stored rfl (hB.ldK (k:=Ki) x.raw rfl (hB.ldK (k:=Ki) x.count rfl (hB.ldK (k:=.str) x.cut rfl (rightBlock_ok (by omega) fun u3 M3=>?_))));have hM3:=mod0 (mod0 hM f2.mod) M3;refine Iq (fun q2=>?_) fun q2=>?_
 ·have q2:rightB x key=false:=by simpa using q2
  rw [q2] at he;exact h80 he u3 hM3
 have q2:rightB x key=true:=by simpa using q2
 rw [q2,Bool.true_and] at he;have es:=step64 (i:=i) (by omega);refine (M3.blk hB id).ldK (k:=.str) x.cut rfl ⟨⟨i+1,es,by omega,rightB_cut q2,he,hM3⟩,by rw [es];omega⟩
set_option maxHeartbeats 1000000 in
theorem footCheck_ok{w:World}{S:Nat→Prop}{s:Sl}{ps:List PI}{l:List PartI}(h:FootR w S s ps l){parts:Int}{K:Int→Wp}(hK:∀w',Mod F0 w w'→K (if chkF parts l=true then 0 else 80) w') :
  callK Pg c_67 [.agg [.int .i64 parts,.sl s]] w Oi K:=by
 refine go_67 _ _ _ _ ?_;refine (Fresh.start w F0).alK fun b3 w1 f1 _ M1=>?_;have hB:Blk w1 b3 [.int .i64 parts,(LV.sl s).toV]:=f1.blk (i:=0) rfl;refine join1 (a:=.bool) (fun q v=>q=decide (¬(1≤parts∧parts≤65535))∧v=w1) ?_ ?_
 ·intro k hk;refine hB.ldK (k:=Ki) parts rfl (Iq (fun q=>hk _ _ ⟨?_,rfl⟩) fun q=>hB.ldK (k:=Ki) parts rfl (hk _ _ ⟨?_,rfl⟩))
  ·have q:parts<1:=odt q;exact (Dct (by omega)).symm
  ·have q:¬parts<1:=odf q;show decide (65535<parts)=_;rw [Bei,Det,Det];omega
 rintro q v ⟨rfl,rfl⟩;unfold chkF at hK;refine Iq (fun q=>?_) fun q=>?_
 ·have q:¬(1≤parts∧parts≤65535):=odt q;rw [Dcf q,Bool.false_and] at hK;exact hK v M1
 have q:(1≤parts∧parts≤65535):=Decidable.not_not.1 (odf q);rw [Dct q,Bool.true_and] at hK;have h1:=h.quiet M1;refine hB.ldK (k:=.sl) s rfl ?_;refine join0 (fun u=>chkI parts l (-1) 0=true∧Mod F0 v u) ?_ (by rintro u ⟨e,hM⟩;have:=hK u (mod0 M1 hM);rw [if_pos e] at this;exact this);intro k11 hk11;rw [h.rd.len,h.len];have hb:∀u,Mod F0 v u→chkI parts l (-1) 0=false→K 80 u:=fun u hM e=>by
  have:=hK u (mod0 M1 hM);rw [e,if_neg (by decide)] at this;exact this
 have hll:=h.ll;refine loop3 (k1:=Ki) (k2:=Ki) (k3:=Ki) (fun (last bs t:Int) u=>∃i n:Nat,t=(i:Int)∧bs=(n:Int)∧i≤l.length∧n≤262144∧chkI parts l (-1) 0=chkI parts (l.drop i) last n∧Mod F0 v u) (fun _ _ t _=>(l.length-t).toNat) (x1:=-1) (x2:=0) (x3:=0) rfl rfl rfl
  ⟨0,0,rfl,rfl,Nzl _,Nzl _,rfl,Mod.refl _ _⟩ ?_
 rintro last bs t u ⟨i,n,rfl,rfl,hi,hn,he,hM⟩;change Int at last;refine Iq (fun q2=>?_) fun q2=>?_;rotate_left
 ·have q2:l.length≤i:=dge q2;rw [Ldn q2] at he;exact hk11 u ⟨he,hM⟩
 have q2:i<l.length:=dlt q2;obtain⟨x,hx⟩:=Gq q2;obtain⟨p,hp⟩:=Gq (l:=ps) (i:=i) (by rw [h.len];exact q2);have hu:=h1.quiet hM;have hi1:=h1.each i p x hp hx;rw [Dg hx,chkI] at he;refine hu.rd.ix rfl rfl hp fun b o _ hc=>Lq (k:=Ki) p.part (hc 0 (by decide)) (Lq (k:=.sl) p.sb (hc 1 (by decide)) (Lq (k:=.bool) p.all (hc 2 (by decide)) (Lq (k:=Ki) p.hashes (hc 3 (by decide)) (Lq (k:=.sl) p.sd (hc 4 (by decide)) ?_))));refine (Fresh.start u F0).alK fun b24 u1 f2 _ _=>f2.stK 0 rfl (Nlr 5) fun u2 f3 _=>?_;have hB2:Blk u2 b24 (EPI.f p):=f3.blk (i:=0) rfl;have M2:=mod0 hM f3.mod;have l0:∀{K:Int→Prop},K x.part→Go.Vw.ld u2 Ki b24 0 K:=fun hK=>hB2.ldK (k:=Ki) p.part rfl (by rw [hi1.part];exact hK);have l1:∀{K:Sl→Prop},K p.sb→Go.Vw.ld u2 .sl b24 1 K:=fun hK=>hB2.ldK (k:=.sl) p.sb rfl hK;have hbl:=hi1.bl.len;have hlb:=hi1.lb;have hB0:Blk u2 b3 [.int .i64 parts,(LV.sl s).toV]:=M2.blk hB id;have en:w64 ((n:Int)+(x.blocks.length:Int))=((n+x.blocks.length:Nat):Int):=by rw [Wq (by omega) (by omega)];omega
 refine l1 (join1 (a:=.bool) (fun q v'=>q=(!rightP parts last n x)∧Mod F0 u2 v') ?_ ?_)
 ·intro k hk;rw [hbl];have no:(¬(last<x.part∧x.part<parts∧x.blocks.length≠0∧n+x.blocks.length≤262144∧kindN x.flt.all x.flt.hashes x.flt.data.length≠0))→k true u2:=fun h=>hk _ _ ⟨by unfold rightP;rw [Dcf h];rfl,Mod.refl _ _⟩;refine l0 (Iq (fun q=>no fun h=>?_) fun q3=>l0 (hB0.ldK (k:=Ki) parts rfl (Iq (fun q=>no fun h=>?_) fun q4=>l1 ?_)))
  ·have q:x.part≤last:=odt q;have:=h.1;omega
  ·have q:parts≤x.part:=odt q;have:=h.2.1;omega
  have q3:¬x.part≤(last:Int):=odf q3;have q4:¬parts≤x.part:=odf q4;rw [hbl,en];refine Iq (fun q=>no fun h=>?_) fun q5=>Iq (fun q=>no fun h=>?_) fun q6=>?_
  ·have q:(x.blocks.length:Int)=0:=by simpa using q
   have:=h.2.2.1;omega
  ·have q:(262144:Int)<((n+x.blocks.length:Nat):Int):=odt q;have:=h.2.2.2.1;omega
  have q5:¬(x.blocks.length:Int)=0:=by simpa using q5
  have q6:¬(262144:Int)<((n+x.blocks.length:Nat):Int):=odf q6;refine hB2.ldK (k:=.bool) p.all rfl (hB2.ldK (k:=Ki) p.hashes rfl (hB2.ldK (k:=.sl) p.sd rfl (filterCheck_ok hi1.dt.len fun u3 M3=>hk _ _ ⟨?_,M3⟩)));rw [hi1.all,hi1.hs];unfold rightP;by_cases hk0:kindN x.flt.all x.flt.hashes x.flt.data.length=0
  ·rw [if_pos hk0,Dcf fun h=>h.2.2.2.2 hk0];rfl
  ·rw [if_neg hk0,Dct ⟨by omega,by omega,by omega,by omega,hk0⟩];rfl
 rintro q' v' ⟨rfl,M3'⟩;have M3:=mod0 M2 M3';refine Iq (fun q3=>?_) fun q3=>?_
 ·have q3:rightP parts last n x=false:=by simpa using q3
  rw [q3] at he;exact hb _ M3 he
 have q3:rightP parts last n x=true:=by simpa using q3
 rw [q3,Bool.true_and] at he;have hB3:Blk v' b24 (EPI.f p):=M3'.blk hB2 id;refine hB3.ldK (k:=Ki) p.part rfl (hB3.ldK (k:=.sl) p.sb rfl ?_);refine join0 (fun u'=>chkB x.blocks []=true∧Mod F0 v u') ?_ ?_
 ·intro k42 hk42;refine chkB_loop (w:=v) hi1.bl hlb M3 (fun e u' hM'=>hb u' hM' ?_) fun e u' hM'=>hk42 _ ⟨e,hM'⟩;rw [he,e];rfl
 rintro u' ⟨e,hM'⟩;rw [e,Bool.true_and] at he;rw [hbl,en];have es:=step64 (i:=i) (by omega);have hr3:=(odt q3).2.2.2.1;refine⟨⟨i+1,n+x.blocks.length,es,rfl,by omega,hr3,by rw [hi1.part];exact he,hM'⟩,by rw [es];omega⟩
end Go.Proofs.YtkofkhjcfjoceaaGreat
namespace Go.Proofs.YtkofkhjcfjoceaaGreat
open Go.Vw
open Go
def apC(w:World)(e:TypeId)(sz bytes:Nat)(zs:List LV)(s:Sl)(m:Nat)(new:List Value)(K:Sl→Wp):Prop:=
  (s.len+m≤s.cap→s.len+m≠0→(∃b o,s.p=some (b,o)∧okCells w b (o+s.len*sz) (m*sz) ∧
   K ⟨s.p,s.len+m,s.cap⟩ (World.setCells w b (o+s.len*sz) new))) ∧
  (s.len+m=0→K ⟨s.p,0,s.cap⟩ w) ∧
  (s.cap<s.len+m→(s.len+m+1024)*(bytes+1)≤2^46 ∧
   ∃old:List Value,rdCells w s (s.len*sz) old∧∀c,s.len+m≤c→K ⟨some (w.heap.size,0),s.len+m,c⟩
    (w.drew.alloc (.cells (old++new++(List.replicate (c-(s.len+m)) (zs.map LV.toV)).flatten).toArray e)))
section
variable {P:Program}
theorem append_str{ty el:TypeId}{t t2:TypeId}{i:TypeInfo}{zs:List LV}{s:Sl}{x:ByteArray}{w:World}{K:Sl→Wp}
  (hu:P.underlying t=some (.slice el)) (hu2:P.underlying t2=some .string) (hi:P.info? el=some i) (hz:zeroT P el=some zs) (hzl:zs.length=i.size) (hs1:i.size=1)
  (h:apC w el i.size i.bytes zs s x.size (Go.Lib.strCells x) K) :
  ∃s' w',K s' w'∧(Builtin.append_ #[t,t2] ty #[LV.toV (.sl s),.string x]).run P w = .ok (LV.toV (.sl s')) w':=by
 obtain⟨hroom,hnil,hgrow⟩:=h;obtain⟨i',zv,hi',hzv,hzc⟩:=zeroT_spec hz;rw [hi] at hi';cases hi';have hnew:(Go.Lib.strCells x).length=x.size*i.size:=by rw [Go.Lib.strCells_length,hs1,Nat.mul_one]
 have hcell:∀v∈Go.Lib.strCells x,isCell v=true:=by
  intro v hv;simp only [Go.Lib.strCells,List.mem_map] at hv;obtain⟨c,_,rfl⟩:=hv;rfl
 have hfn:∀w,(Builtin.firstCells i.size x.size (.string x)).run P w = .ok (Go.Lib.strCells x).toArray w:=fun w=>Go.Lib.run_firstCells_string w i.size x;generalize hn:Go.Lib.strCells x=new at *;generalize hm:x.size=m at *;obtain⟨p,n,c⟩:=s;simp only at hroom hnil hgrow;have hsz:(sizeOf el).run P w = .ok i.size w:=by simp [sizeOf,typeInfo,hi]
 have hin:∀w,(typeInfo el).run P w = .ok i w:=fun w=>by simp [typeInfo,hi]
 have hlen:Builtin.lenOf (.string x)=(pure m:Sem Nat):=by simp [Builtin.lenOf,hm]
 by_cases hle:n+m≤c
 ·by_cases hz0:n+m=0
  ·have hm0:m=0:=by omega
   have hn0:n=0:=by omega
   subst hn0;subst hm0;have hnn:new=[]:=by simpa using hnew
   subst hnn;refine⟨_,_,hnil hz0,?_⟩;simp only [LV.toV]
   cases p with
   | none=>simp [Builtin.append_,run_underlying hu,run_underlying hu2,hsz,hlen,hfn,slA]
   | some a=>obtain⟨b,o⟩:=a;simp [Builtin.append_,run_underlying hu,run_underlying hu2,hsz,hlen,hfn,slA,storeCells]
  ·obtain⟨b,o,hp,hok,hK⟩:=hroom hle hz0;subst hp;refine⟨_,_,hK,?_⟩;have hst:=storeRow (P:=P) new w b (o+n*i.size) 0 hcell (by rw [hnew];simpa using hok);rw [Nat.add_zero] at hst;simp only [LV.toV];simp [Builtin.append_,run_underlying hu,run_underlying hu2,hsz,hlen,hfn,slA,show c≠0 by omega,hle,Addr.add_none,hst]
 ·obtain⟨hbd,old,hold,hK⟩:=hgrow (by omega);have hcap:=nextcap_le (n+m) c (by omega);have hb:Builtin.nextslicecap (n+m) c*i.bytes≤2^48:=by
   have h1:Builtin.nextslicecap (n+m) c*i.bytes≤(2*(n+m)+768)*i.bytes:=Nat.mul_le_mul_right _ hcap;have h2:(2*(n+m)+768)*i.bytes≤2*((n+m+1024)*(i.bytes+1)):=by
    have h3:(2*(n+m)+768)*i.bytes≤(2*(n+m+1024))*(i.bytes+1):=Nat.mul_le_mul (by clear hbd;omega) (by clear hbd;omega);rw [Nat.mul_assoc] at h3;exact h3
   have h46:(2:Nat)^46=70368744177664:=by decide
   have h48:(2:Nat)^48=281474976710656:=by decide
   rw [h46] at hbd;rw [h48];omega
  have hbig:¬(((n+m:Nat):Int)>IntKind.i64.max∧i.bytes=0):=by
   rintro ⟨hg,_⟩;have:IntKind.i64.max=9223372036854775807:=by decide
   rw [this] at hg;have h3:n+m+1024≤(n+m+1024)*(i.bytes+1):=Nat.le_mul_of_pos_right _ (by omega);have h46:(2:Nat)^46=70368744177664:=by decide
   rw [h46] at hbd;omega
  have hof:(Builtin.firstCells i.size n (.slice (slA c p) n c)).run P w.drew = .ok old.toArray w.drew:=firstRow (s:=⟨p,n,c⟩) (by exact hold);have hzr:(zeroValue el).run P w.drew = .ok zv w.drew:=by simp [zeroValue,typeInfo,hi,hzv]
  have hzc':∀k,Builtin.zeroCells zv.cells k=((List.replicate k (zs.map LV.toV)).flatten).toArray:=fun k=>by
   unfold Builtin.zeroCells;rw [zero_flat,hzc]
  have hcut:∀t:Nat,n+m≤Question.cut (.appendCap (n+m) c el) t:=fun t=>by simp [Question.cut]
  refine⟨_,_,hK _ (hcut (w.tape w.drawn (.appendCap (n+m) c el))),?_⟩;have hif1:¬(Builtin.nextslicecap (n+m) c*i.bytes>2^48):=Nat.not_lt.2 hb;have hdr:(choose (.appendCap (n+m) c el)).run P w = .ok (Question.cut (.appendCap (n+m) c el) (w.tape w.drawn (.appendCap (n+m) c el))) w.drew:=by
   simp only [run_choose,Question.forced,Bool.false_eq_true,if_false];rfl
  generalize Question.cut (.appendCap (n+m) c el) (w.tape w.drawn (.appendCap (n+m) c el))=cap at *;have hcond:¬((((n+m:Nat):Int)>IntKind.i64.max)∧(False∨i.bytes=0)):=by
   rintro ⟨a,b⟩;rcases b with b | b
   ·cases b
   ·exact hbig ⟨a,b⟩
  have hpa:LV.toV (.sl ⟨some (w.heap.size,0),n+m,cap⟩) = .slice (some ⟨w.heap.size,0,none⟩) (n+m) cap:=by simp only [LV.toV];rw [slA_zero]
  rw [hpa];simp only [LV.toV];generalize slA c p=Pp at hof ⊢;have hnf:=hfn w.drew;unfold Builtin.append_;simp only [List.getElem?_toArray,List.getElem?_cons_zero,List.getElem?_cons_succ,Sem.run_bind,run_underlying hu,run_underlying hu2,Result.andThen_ok,hsz,Sem.run_pure,hlen,Bool.false_eq_true,if_false,if_neg hle,hin,hif1];simp only [Bool.not_false,if_true,Sem.run_bind,Sem.run_ite,Sem.run_pure,hin,Result.andThen_ok,if_neg hif1,hdr,run_askRoom,hof,hnf,hzr,hzc'];rw [if_neg hcond];simp only [Result.andThen_ok,newRow,Sem.run_bind,run_newObj,Sem.run_pure,hdr,run_askRoom,hof,hnf,hzr,hzc',hin,if_neg hif1,Sem.run_ite];have hE:∀a b c:List Value,a.toArray++b.toArray++c.toArray=(a++b++c).toArray:=fun a b c=>by simp
  rw [hE];rfl
end
theorem appLC{α:Type}{w0 w:World}{D:Nat→Prop}{m ro:BL}(hA:At w0 D (m++ro) w){E:Enc α}{s:Sl}{l l2:List α}(hv:VecL ro E s l){e:TypeId}{n bytes:Nat}{zs:List LV}(hn:n=E.n)(hz:zs.length=E.n)(hlim:(l.length+l2.length+1024)*(bytes+1)≤2^46)
  {K:Sl→Wp} (hK:∀s' old ro' w',At w0 D ((m++old)++ro') w'→VecL ro' E s' (l++l2)→Mod (Ks ro) w w'→(old=[]∧s'.p=s.p∧(s.p=none→ro'=ro)∨old=ro)→(∀y,Ks ro' y→Ks ro y∨w.heap.size≤y)→K s' w'):apC w e n bytes zs s l2.length (E.cells l2) K:=by
 subst hn;have hpos:=E.pos;refine⟨?_,?_,?_⟩
 ·intro hle hne;rcases hv.2.2 with⟨rfl,hn,hc0⟩ | ⟨b,rest,rfl,hp,hc⟩
  ·rw [hc0] at hle;omega
  ·have hlen:(E.cells l).length=s.len*E.n:=by rw [E.cells_length,hv.1]
   have hfit:s.len*E.n+(E.cells l2).length≤(E.cells l++rest).length:=by
    have:s.len*E.n+(E.cells l2).length≤s.cap*E.n:=by
     rw [E.cells_length,←Nat.add_mul];exact Nat.mul_le_mul_right _ hle
    omega
   have hspl:spl (E.cells l++rest) (s.len*E.n) (E.cells l2)=E.cells (l++l2)++rest.drop (E.cells l2).length:=by
    rw [spl_eq _ _ _ hfit,←hlen,List.take_left,List.drop_length_add_append,E.cells_append]
   have hi:(m++[(b,E.cells l++rest)])[m.length]? = some (b,E.cells l++rest):=by simp
   have hA':=hA.setCells hi (s.len*E.n) (E.cells l2);rw [hspl,set_last] at hA';have hb:Blk w b (E.cells l++rest):=hA.blk hi;refine⟨b,0,hp,fun i hi=>⟨⟨(E.cells l++rest)[s.len*E.n+i]'(by rw [E.cells_length] at hfit;omega),by rw [hb.cell,Nat.zero_add,Lge]⟩,hb.frz _⟩,
    hK _ [] [(b,E.cells (l++l2)++rest.drop (E.cells l2).length)] _ (by rw [Nat.zero_add,Lan];exact hA') ⟨by simp [hv.1],by simpa using hle,.inr ⟨b,_,rfl,hp,?_⟩⟩ ?_ (.inl ⟨rfl,rfl,fun h=>by rw [hp] at h;cases h⟩) ?_⟩
   ·rw [←hspl,spl_length];exact hc
   ·rw [Nat.zero_add];exact (Mod.setCells ..).mono fun y _ e=>⟨_,Lms.2 rfl,e.symm⟩
   ·rintro y ⟨q,hq,rfl⟩;simp at hq;subst hq;exact .inl ⟨_,Lms.2 rfl,rfl⟩
 ·intro h0;have h1:l=[]:=List.eq_nil_of_length_eq_zero (by have:=hv.1;omega);have h2:l2=[]:=List.eq_nil_of_length_eq_zero (by omega);subst h1;subst h2;have hs:(⟨s.p,0,s.cap⟩:Sl)=s:=by have:=hv.1;obtain⟨p,len,cap⟩:=s;simp at this;subst this;rfl
  rw [hs];exact hK _ [] ro _ (by rw [Lan];exact hA) (by simpa using hv) (Mod.refl _ _) (.inl ⟨rfl,rfl,fun _=>rfl⟩) fun y h=>.inl h
 ·intro hlt;refine⟨by rw [hv.1];exact hlim,E.cells l,(hv.rd fun p hp=>hA.own p (Lmr _ hp)).cells (by rw [E.cells_length,hv.1]),fun c hc=>?_⟩;have hA':=(hA.drew.al (E.cells l++E.cells l2++(List.replicate (c-(s.len+l2.length)) (zs.map LV.toV)).flatten) e);refine hK _ ro [(w.drew.heap.size,E.cells (l++l2)++(List.replicate (c-(s.len+l2.length)) (zs.map LV.toV)).flatten)] _ (by rw [E.cells_append];exact hA') ⟨by simp [hv.1],hc,.inr ⟨_,_,rfl,rfl,?_⟩⟩ ((Mod.drew _ w).trans (Mod.alloc _ w.drew _) (fun _ _ h=>h) (fun _ _ h=>h)) (.inr rfl) ?_
  ·simp only [Lla,E.cells_length,List.length_flatten,List.map_replicate,List.sum_replicate_nat,List.length_map,hz];rw [←Nat.add_mul,←hv.1];exact Nat.mul_le_mul_right _ (by omega)
  ·rintro y ⟨q,hq,rfl⟩;simp at hq;subst hq;exact .inr (Nlr _)
theorem strCells_et(t:Str):Go.Lib.strCells ⟨t.toArray⟩=ET.cells t:=by
 have:∀t:Str,ET.cells t=t.map fun x=>Value.int .u8 (x.toNat:Int):=by
  intro t
  induction t with
  | nil=>rfl
  | cons x t ih=>simp [Enc.cells,ih];rfl
 rw [this];simp [Go.Lib.strCells]
theorem info_byte:∃i,Pg.info? 5=some i∧zeroT Pg 5=some [.int .u8 0]∧i.bytes=1∧i.size=1:=by
 have h1:(Pg.info? 5).isSome=true:=by kernel_rfl
 have h2:(Pg.info? 5).map (fun i=>i.bytes)=some 1:=by kernel_rfl
 have h3:(Pg.info? 5).map (fun i=>i.size)=some 1:=by kernel_rfl
 have h4:zeroT Pg 5=some [.int .u8 0]:=by kernel_rfl
 obtain⟨i,hi⟩:=Option.isSome_iff_exists.1 h1;rw [hi] at h2 h3;exact⟨i,hi,h4,by simpa using h2,by simpa using h3⟩
theorem appS{w0 w:World}{D:Nat→Prop}{m ro:BL}(hA:At w0 D (m++ro) w){s:Sl}{l x:Str}(hv:VecL ro ET s l)(hlim:l.length+x.length≤1099511627776)
  {K:Sl→Wp} (hK:∀s' old ro' w',At w0 D ((m++old)++ro') w'→VecL ro' ET s' (l++x)→Mod (Ks ro) w w'→(old=[]∧s'.p=s.p∧(s.p=none→ro'=ro)∨old=ro)→(∀y,Ks ro' y→Ks ro y∨w.heap.size≤y)→K s' w') :
  opF Pg (builtin .append #[t_bytes,9] t_bytes #[false,false] #[(LV.toV (.sl s)),(LV.toV (.str x))]) w Oz K:=by
 obtain⟨i,hi,hz,hby,hsz⟩:=info_byte;have hx:(⟨x.toArray⟩:ByteArray).size=x.length:=by simp [ByteArray.size]
 have hC:=appLC (e:=5) (n:=1) (bytes:=1) (zs:=[.int .u8 0]) hA hv (l2:=x) rfl rfl (by omega) hK;obtain⟨s',w',hk,hrun⟩:=append_str (P:=Pg) (ty:=t_bytes) (x:=⟨x.toArray⟩) (K:=K) u_bytes Tryz.underlying9 hi hz (by rw [hsz];rfl) hsz (by rw [hsz,hby,hx,strCells_et];exact hC);refine⟨[.sl s'],w',?_,hk⟩;show (Sem.run _ (vS (Builtin.append_ #[t_bytes,9] t_bytes #[(LV.toV (.sl s)),(LV.toV (.str x))])) w)=_;unfold vS;simp only [Sem.run_bind];have hrun:(Builtin.append_ #[t_bytes,9] t_bytes #[(LV.toV (.sl s)),(LV.toV (.str x))]).run Pg w = .ok (LV.sl s').toV w':=hrun;rw [hrun];rfl
theorem Fresh.appS{w u:World}{D:Nat→Prop}{m ro:BL}{s:Sl}{l x:Str}(h:Fresh w u D (m++ro))(hv:VecL ro ET s l)(hlim:l.length+x.length≤1099511627776)
  {K:Sl→Wp} (hK:∀s' ro' u',Fresh w u' D (m++ro')→VecL ro' ET s' (l++x)→Mod (Ks ro) u u'→K s' u') :
  opF Pg (builtin .append #[t_bytes,9] t_bytes #[false,false] #[(LV.toV (.sl s)),(LV.toV (.str x))]) u Oz K:=
 Go.Proofs.YtkofkhjcfjoceaaGreat.appS h.at' hv hlim fun s' old ro' u' h' v' M' _ hro=>hK s' ro' u' (Fresh.of_new (h'.sub ((Lsl m old).append (List.Sublist.refl _))) fun p hp=>by
  rcases Lma.1 hp with hp | hp
  ·exact h.new p (Lml _ hp)
  ·rcases hro p.1 ⟨p,hp,rfl⟩ with⟨q,hq,e⟩ | h2
   ·rw [←e];exact h.new q (Lmr _ hq)
   ·exact Nat.le_trans h.mod.size h2) v' M'
end Go.Proofs.YtkofkhjcfjoceaaGreat
