/- Part T13. -/
import Derived.Test.YtkgligdkihlfaaaGreatT12
import Derived.Test.YtkgligdkihlfaaaGreatT03
namespace Go.Proofs.YtkgligdkihlfaaaGreat
open Go.Vw
open Go
section
variable {w:World}{rb:Nat}{s:Sl}{l:List (Str×Str)}
theorem rLen_ok(hB:Blk w rb [(LV.sl s).toV])(hr:RdS w EPr s l){K:Int→Wp}(hK:K (l.length:Int) w):callK Tryz.prog c_23 [Ap (some (rb,0))] w Oi K:=by
 refine go_23 _ _ _ (ifK_f rfl (Dq (hB.ldK (k:=.sl) s rfl ?_)));rw [hr.len];exact hK
theorem rAt_ok(hB:Blk w rb [(LV.sl s).toV])(hr:RdS w EPr s l){i:Int}{K:Str→Str→Int→Wp}(hK:∀w',Mod F0 w w'→K (atN l i).1 (atN l i).2.1 (atN l i).2.2 w') :
  callK Tryz.prog c_24 [Ap (some (rb,0)),Ai i] w (.tup [Lt,Lt,Li]) K:=by
 refine go_24 _ _ _ _ (ifK_f rfl ?_);refine join1 (a:=.bool) (fun q v=>q=decide (i<0∨(l.length:Int)≤i)∧v=w) ?_ ?_
 ·intro k hk;refine Iq (fun q=>hk _ _ ⟨?_,rfl⟩) fun q=>Dq (hB.ldK (k:=.sl) s rfl (hk _ _ ⟨?_,rfl⟩))
  ·exact (Dct (.inl (odt q))).symm
  ·rw [hr.len];have q:¬i<0:=odf q;simp [q]
 rintro q v ⟨rfl,rfl⟩;unfold atN at hK;refine Iq (fun q=>?_) fun q=>?_
 ·rw [if_pos (odt q)] at hK;exact hK _ (Mod.refl _ _)
 have q:=odf q;rw [if_neg q] at hK;obtain⟨x,hx⟩:=Gq (l:=l) (i:=i.toNat) (by omega);have e:l.getD i.toNat ([],[])=x:=by rw [Lgd,hx,Option.getD_some]
 rw [e] at hK;have hM:=Mq v;have dB:=hM.blk hB id;have hr':=hr.quiet hM;refine⟨F0,Dq (dB.ldDK (k:=.sl) s id rfl (hr'.ix rfl (by omega) hx fun b o _ hc=>?_))⟩;refine⟨x.1,id,hc 0 (by decide),Dq (dB.ldDK (k:=.sl) s id rfl (hr'.ix rfl (by omega) hx fun b2 o2 _ hc2=>⟨x.2,id,hc2 1 (by decide),hK _ hM⟩))⟩
end
def bkC(x:BlkP)(s:Sl):List Value:=[.int .i64 x.frm,.int .i64 x.to,.int .i64 x.info.stored,.int .i64 x.info.raw,.int .i64 x.info.count,(LV.str x.info.cut).toV,.int .i64 x.part,.int .i64 x.how,.int .i64 (x.flag:Int),(LV.sl s).toV]
def bkR(tile:Str)(x:BlkP):BlkP:={x with flag:=flagP tile,how:=if opnP tile x.info=none then 1 else 0,ents:=(opnP tile x.info).getD []}
theorem opnP_R(tile:Str)(b:BI):opnP tile b=match (blockR tile b.raw).2 with
  | none=>none
  | some l=>if (l.length:Int)≠b.count then none else if (l.getD 0 ([],[])).1.take 64=b.cut then some l else none:=by
 unfold opnP;rw [block_law];cases (blockN tile b.raw).2<;>rfl
theorem flagP_lt(tile:Str):flagP tile<256:=UInt8.toNat_lt _
set_option maxHeartbeats 1000000 in
theorem bread_ok{w0 w:World}{X:BL}{bb:Nat}{x:BlkP}{sT:Sl}{tile:Str}(hA:At w0 F0 ((bb,bkC x ⟨none,0,0⟩)::X) w)(ht:RdS w0 ET sT tile)(hl:tile.length≤1048576)(h5:5≤tile.length){K:Wp}
  (hK:∀w' s R,At w0 F0 ((bb,bkC (bkR tile x) s)::(X++R)) w'→VecL R ERec s (recsB (bkR tile x))→K w') :
  callK Tryz.prog c_25 [Ap (some (bb,0)),Az sT] w (.tup []) K:=by
 refine go_25 _ _ _ _ ?_;have hi5:w64 ((sT.len:Int)-5)=((tile.length-5:Nat):Int):=by
  rw [ht.len,Wq (by omega) (by omega)];omega
 rw [hi5];refine (ht.quiet hA.mod).byte rfl (by omega) fun b40 o41 _ hc40=>Lq (k:=.int .u8) ((tile[tile.length-5]'(by omega)).toNat:Int) hc40 ?_;rw [flag_eq h5];have hfl:=flagP_lt tile;have ef:w64 (flagP tile:Int)=(flagP tile:Int):=Wq (by omega) (by omega);rw [ef];refine Dq (hA.st 0 rfl (by show 8+1≤10;decide) fun w1 h1 _=>?_);have h1:At w0 F0 ((bb,bkC {x with flag:=flagP tile} ⟨none,0,0⟩)::X) w1:=h1;refine Dq (h1.st 0 rfl (by show 7+1≤10;decide) fun w2 h2 _=>?_);have h2:At w0 F0 ((bb,bkC {x with flag:=flagP tile,how:=1} ⟨none,0,0⟩)::X) w2:=h2;have hB:=h2.own (bb,_) (Lcs ..);have none_:opnP tile x.info=none→∀{w':World},Mod F0 w2 w'→K w':=fun ho w' M=>by
  have eb:bkR tile x = {x with flag:=flagP tile,how:=1,ents:=[]}:=by unfold bkR;rw [ho];rfl
  refine hK w' ⟨none,0,0⟩ [] ?_ (by rw [eb];exact VecL.nil ERec);rw [eb,Lan];exact h2.keep0 M fun _=>id
 refine Dq (hB.ldK (k:=Ki) x.info.raw rfl (rBlockOpen_ok (ht.quiet h2.mod) hl (fun hn w3 M3=>?_) fun l hlR w3 rb s' ro hF hv=>?_))
 ·have hn':(blockN tile x.info.raw).2=none:=by
   rw [block_law] at hn
   cases h:(blockN tile x.info.raw).2 with
   | none=>rfl
   | some y=>rw [h] at hn;cases hn
  have he:(blockR tile x.info.raw).1≠0:=by rw [block_law];exact (blockN_e0 tile x.info.raw).1 hn'
  have ho:opnP tile x.info=none:=by rw [opnP_R,hn]
  refine join1 (a:=.bool) (fun q u=>q=true∧u=w3.drew) (fun k hk=>⟨F0,ifK_t (by simpa using he) (hk _ _ ⟨rfl,rfl⟩)⟩) ?_;rintro q u ⟨rfl,rfl⟩;exact ifK_t rfl (none_ ho (mod0 M3 (Mq _)))
 have he:(blockR tile x.info.raw).1=0:=by
  have h:=hlR;rw [block_law] at h ⊢
  cases hb:(blockN tile x.info.raw).2 with
  | none=>rw [hb] at h;cases h
  | some y=>exact (blockN_e0 tile x.info.raw).2 y hb
 have hlen:=blockR_len hlR;rw [he];have h3:At w0 F0 (((bb,bkC {x with flag:=flagP tile,how:=1} ⟨none,0,0⟩)::X)++((rb,[(LV.sl s').toV])::ro)) w3:=h2.joinF hF (fun _ _ h=>h.elim) fun _ _=>id;have hM3:Mod F0 w2 w3:=hF.mod;have hB3:=h3.own (bb,bkC {x with flag:=flagP tile,how:=1} ⟨none,0,0⟩) (Lcs ..);have rd:∀{u:World},At w0 F0 (((bb,bkC {x with flag:=flagP tile,how:=1} ⟨none,0,0⟩)::X)++((rb,[(LV.sl s').toV])::ro)) u→Blk u rb [(LV.sl s').toV]∧RdS u EPr s' l:=fun {u} h=>
  ⟨h.own (rb,_) (Lmr _ (Lcs ..)),hv.rd fun q hq=>h.own q (Lmr _ (Lmc _ hq))⟩
 refine join1 (a:=.bool) (fun q u=>q=decide ((l.length:Int)≠x.info.count)∧Mod F0 w3 u) ?_ ?_
 ·intro k hk;have hd:=h3.keep0 (Mq w3) fun _=>id;refine⟨F0,ifK_f rfl (Dq (((Mq w3).blk hB3 id).ldDK (k:=Ki) x.info.count id rfl (rLen_ok (rd hd).1 (rd hd).2 ⟨Mod.refl _ _,hk _ _ ⟨?_,Mq w3⟩⟩)))⟩;by_cases h:(l.length:Int)=x.info.count
  ·rw [h,Dcf (by simp)];exact Bsf _
  ·rw [Dct h];simpa using h
 rintro q u ⟨rfl,M4⟩;refine Iq (fun q=>?_) fun q=>?_
 ·have q:=odt q;exact none_ (by rw [opnP_R,hlR];exact if_pos q) (mod0 hM3 M4)
 have q:¬(l.length:Int)≠x.info.count:=odf q;have h4:=h3.keep0 M4 fun _=>id;refine rAt_ok (rd h4).1 (rd h4).2 fun u2 M5=>?_;have ha:atN l 0=((l.getD 0 ([],[])).1,(l.getD 0 ([],[])).2,0):=by
  unfold atN;rw [if_neg (by omega)];rfl
 rw [ha];dsimp only;have hM5:=mod0 (mod0 M4 M5) (Mq u2);have h5':=h3.keep0 hM5 fun _=>id;have hB5:=h5'.own (bb,bkC {x with flag:=flagP tile,how:=1} ⟨none,0,0⟩) (Lcs ..);have hmn:mnI ((l.getD 0 ([],[])).1.length:Int) 64=((min (l.getD 0 ([],[])).1.length 64:Nat):Int):=mnI_nat (b:=64);refine⟨F0,ssx_take (n:=min (l.getD 0 ([],[])).1.length 64) (Nat.min_le_left _ _) hmn ?_⟩;have htk:(l.getD 0 ([],[])).1.take (min (l.getD 0 ([],[])).1.length 64)=(l.getD 0 ([],[])).1.take 64:=by
  by_cases h:(l.getD 0 ([],[])).1.length≤64
  ·rw [Nat.min_eq_left h,List.take_length,Ltl h]
  ·rw [Nat.min_eq_right (by omega)]
 rw [htk];refine Dq (hB5.ldDK (k:=.str) x.info.cut id rfl ?_);by_cases hc:(l.getD 0 ([],[])).1.take 64=x.info.cut
 case neg=>
  have hb:((l.getD 0 ([],[])).1.take 64==x.info.cut)=false:=by
   rw [←Bool.not_eq_true,beq_iff_eq];exact hc
  rw [hb];exact ifK_t rfl (none_ (by rw [opnP_R,hlR];dsimp only;rw [if_neg q,if_neg hc]) (mod0 hM3 hM5))
 have ho:opnP tile x.info=some l:=by rw [opnP_R,hlR];dsimp only;rw [if_neg q,if_pos hc]
 have hb:((l.getD 0 ([],[])).1.take 64==x.info.cut)=true:=by rw [beq_iff_eq];exact hc
 rw [hb];have eb:bkR tile x = {x with flag:=flagP tile,how:=0,ents:=l}:=by unfold bkR;rw [ho];rfl
 refine ifK_f rfl (Dq (h5'.st 0 rfl (by show 7+1≤10;decide) fun w6 h6 _=>?_));have h6:At w0 F0 (((bb,bkC {x with flag:=flagP tile,how:=0} ⟨none,0,0⟩)::(X++((rb,[(LV.sl s').toV])::ro)))++[]) w6:=by rw [Lan];exact h6
 refine join0 (fun u=>∃s R,At w0 F0 (((bb,bkC {x with flag:=flagP tile,how:=0} s)::(X++((rb,[(LV.sl s').toV])::ro)))++R) u∧VecL R ERec s (l.map fun e=>(x.part,e.1,e.2))) ?_ ?_
 ·intro k hk;refine loop1 (k:=Ki) (fun (i:Int) u=>∃(c:Nat) (s:Sl) (R:BL),i=(c:Int)∧c≤l.length∧At w0 F0 (((bb,bkC {x with flag:=flagP tile,how:=0} s)::(X++((rb,[(LV.sl s').toV])::ro)))++R) u∧VecL R ERec s ((l.take c).map fun e=>(x.part,e.1,e.2))) (fun i _=>(l.length-i).toNat) (x:=0) rfl
   ⟨0,_,[],rfl,Nzl _,h6,VecL.nil ERec⟩ ?_
  rintro (i:Int) u ⟨c,s,R,rfl,hcl,h,v⟩;have rd6:∀{u:World},At w0 F0 (((bb,bkC {x with flag:=flagP tile,how:=0} s)::(X++((rb,[(LV.sl s').toV])::ro)))++R) u→Blk u rb [(LV.sl s').toV]∧RdS u EPr s' l:=fun {u} h=>
   ⟨h.own (rb,_) (Lml _ (Lmc _ (Lmr _ (Lcs ..)))),hv.rd fun q hq=>h.own q (Lml _ (Lmc _ (Lmr _ (Lmc _ hq))))⟩
  refine rLen_ok (rd6 h).1 (rd6 h).2 (Iq (fun q=>?_) fun q=>?_);rotate_left
  ·have q:l.length≤c:=dge q;rw [Ltl q] at v;exact hk u ⟨s,R,h,v⟩
  have q:c<l.length:=dlt q;obtain⟨y,hy⟩:=Gq q;refine rAt_ok (rd6 h).1 (rd6 h).2 fun u1 M1=>?_;have ha:atN l (c:Int)=(y.1,y.2,0):=by
   unfold atN;rw [if_neg (by omega),Itn,Lgd,hy,Option.getD_some]
  rw [ha];dsimp only;have h7:=h.keep0 (mod0 M1 (Mq u1)) fun _=>id;have nd:=h7.nodup;rw [List.cons_append,List.map_cons,List.nodup_cons] at nd;have n1:¬Ks R bb:=by
   rintro ⟨q,hq,e⟩;exact nd.1 (List.mem_map.2 ⟨q,Lmr _ hq,e⟩)
  have hB7:=h7.own (bb,bkC {x with flag:=flagP tile,how:=0} s) (Lcs ..);refine⟨Ks R,Dq (hB7.ldDK (k:=.sl) s n1 rfl (Dq (hB7.ldDK (k:=Ki) x.part n1 rfl ?_)))⟩;refine h7.alK fun b13 w8 _ h8 M8=>⟨M8.mono (fun _ _ h=>h.elim),?_⟩;have hb8:Blk w8 b13 (ERec.f (x.part,y.1,y.2)):=h8.own (b13,_) (Lmr _ (Lms.2 rfl));have et:(l.take (c+1)).map (fun e=>(x.part,e.1,e.2))=(l.take c).map (fun e=>(x.part,e.1,e.2))++[(x.part,y.1,y.2)]:=by rw [List.take_add_one,hy,List.map_append];rfl
  have es:=step64 (i:=c) (by omega);refine appL (h8.sub (Lsl _ _)) v (rd_one hb8) rfl rfl (by rw [List.length_map,Llt];simp;omega) fun s9 ro9 w9 h9 v9 M9 _=>⟨(M8.mono (fun _ _ h=>h.elim)).trans M9 (fun _ _ h=>h) fun _ _ h=>h,Dq (h9.st 0 rfl (by show 9+1≤10;decide) fun w10 h10 _=>⟨⟨c+1,s9,ro9,es,by omega,h10,by rw [et];exact v9⟩,by rw [es];omega⟩)⟩
 rintro u ⟨s,R,h,v⟩;refine hK u s R ?_ (by rw [eb];exact v);rw [eb];refine h.sub ?_;exact List.Sublist.append (List.Sublist.cons_cons _ (Lsl _ _)) (List.Sublist.refl R)
def EPg:Enc PgP:=⟨3,fun x=>[.int .i64 x.frm,.int .i64 x.to,(LV.bool x.ok).toV],fun _=>rfl,by decide,fun x v h=>by
 simp only [List.mem_cons,List.not_mem_nil,or_false] at h;rcases h with rfl | rfl | rfl<;>rfl⟩
def EBk:Enc (BlkP×Sl):=⟨10,fun y=>bkC y.1 y.2,fun _=>rfl,by decide,fun x v h=>by
 simp only [bkC,List.mem_cons,List.not_mem_nil,or_false] at h
 rcases h with rfl | rfl | rfl | rfl | rfl | rfl | rfl | rfl | rfl | rfl<;>first | rfl | exact cell_sl _⟩
abbrev nilS:Sl:=⟨none,0,0⟩
def tkC(n:Int)(c1:Bool)(tb tp:Int)(sp:Sl)(c2:Bool)(P:Int)(sI sB:Sl):List Value:=[.int .i64 n,(LV.bool c1).toV,.int .i64 tb,.int .i64 tp,(LV.sl sp).toV,(LV.bool c2).toV,.int .i64 P,(LV.sl sI).toV,(LV.sl sB).toV]
abbrev tk0:List Value:=tkC 0 false 0 0 nilS false 0 nilS nilS
theorem At.front{w0 w:World}{D:Nat→Prop}{m:BL}{x:Nat×List Value}(h:At w0 D (m++[x]) w):At w0 D (x::m) w:=h.perm (Lpc (l₁:=[x]) (l₂:=m))
theorem At.alst{w0 w:World}{D:Nat→Prop}{L:BL}(h:At w0 D L w){e:TypeId}{cs vs:List LV}(hl:vs.length=cs.length){K:Nat→Wp}(hK:∀b u',At w0 D ((b,vs.map LV.toV)::L) u'→K b u') :
  Go.Vw.al w e cs fun b u1=>Go.Vw.st u1 b 0 vs fun u2=>K b u2:=(FA.of_at h).alst hl fun b u' g=>hK b u' (At.front g.at_)
section
variable {w:World}{sf:Sl}{file:Str}
theorem last_ok(hf:RdS w ET sf file)(hfl:file.length≤1048576){K:Sl→Wp}(hK:∀s,RdS w ET s (file.drop (lastP file).toNat)→K s w) :
  callK Tryz.prog c_26 [Az sf,Ai 24] w Oz K:=by
 refine go_26 _ _ _ _ ?_;rw [hf.len];refine Iq (fun q=>?_) fun q=>?_
 ·have q:(file.length:Int)<24:=odt q;have e:lastP file=0:=by unfold lastP mxI;split<;>omega
  rw [e] at hK;exact hK _ hf
 ·have q:¬(file.length:Int)<24:=odf q;have e:lastP file=file.length-24:=by unfold lastP mxI;split<;>omega
  have ew:w64 ((file.length:Int)-24)=lastP file:=by rw [e];exact Wq (by omega) (by omega)
  rw [ew];exact hf.fromK (n:=(lastP file).toNat) (by omega) rfl (by omega) fun s h _=>hK s h
theorem take_ret{u:World}{b2 b4:Nat}{X:BL}{n:Int}{c1:Bool}{tb tp:Int}{sp:Sl}{c2:Bool}{P:Int}{sI sB:Sl}{K:Int→Bool→Int→Int→Sl→Bool→Int→Sl→Sl→Wp}(h:At w F0 ((b2,tk0)::(b4,tkC n c1 tb tp sp c2 P sI sB)::X) u)
  (hK:∀u',At w F0 ((b2,tkC n c1 tb tp sp c2 P sI sB)::(b4,tkC n c1 tb tp sp c2 P sI sB)::X) u'→K n c1 tb tp sp c2 P sI sB u') :
  ld u Ki b4 0 fun n38=>
  ld u .bool b4 1 fun c39=>
  ld u Ki b4 2 fun n40=>
  ld u Ki b4 3 fun n41=>
  ld u .sl b4 4 fun a42=>
  ld u .bool b4 5 fun c43=>
  ld u Ki b4 6 fun n44=>
  ld u .sl b4 7 fun a45=>
  ld u .sl b4 8 fun a46=>
  st u b2 0 [.int .i64 n38,.bool c39,.int .i64 n40,.int .i64 n41,.sl a42,.bool c43,.int .i64 n44,.sl a45,.sl a46] fun W47=>
  ld W47 Ki b2 0 fun n48=>
  ld W47 .bool b2 1 fun c49=>
  ld W47 Ki b2 2 fun n50=>
  ld W47 Ki b2 3 fun n51=>
  ld W47 .sl b2 4 fun a52=>
  ld W47 .bool b2 5 fun c53=>
  ld W47 Ki b2 6 fun n54=>
  ld W47 .sl b2 7 fun a55=>
  ld W47 .sl b2 8 fun a56=>
  K n48 c49 n50 n51 a52 c53 n54 a55 a56 W47:=by
 have hB4:=h.own (b4,tkC n c1 tb tp sp c2 P sI sB) (by simp);refine hB4.ldK (k:=Ki) n rfl (hB4.ldK (k:=.bool) c1 rfl (hB4.ldK (k:=Ki) tb rfl (hB4.ldK (k:=Ki) tp rfl (hB4.ldK (k:=.sl) sp rfl (hB4.ldK (k:=.bool) c2 rfl (hB4.ldK (k:=Ki) P rfl (hB4.ldK (k:=.sl) sI rfl (hB4.ldK (k:=.sl) sB rfl ?_))))))));refine h.st 0 rfl (Nlr 9) fun u' h' _=>?_;have h':At w F0 ((b2,tkC n c1 tb tp sp c2 P sI sB)::(b4,tkC n c1 tb tp sp c2 P sI sB)::X) u':=h';have hB2:=h'.own (b2,tkC n c1 tb tp sp c2 P sI sB) (by simp);exact hB2.ldK (k:=Ki) n rfl (hB2.ldK (k:=.bool) c1 rfl (hB2.ldK (k:=Ki) tb rfl (hB2.ldK (k:=Ki) tp rfl (hB2.ldK (k:=.sl) sp rfl (hB2.ldK (k:=.bool) c2 rfl (hB2.ldK (k:=Ki) P rfl (hB2.ldK (k:=.sl) sI rfl (hB2.ldK (k:=.sl) sB rfl (hK u' h')))))))))
theorem pagesP_end{end_:Int}:∀{n:Nat} {a:Int},¬a<end_→pagesP file end_ n a=[]
 | 0,_,_=>rfl
 | n+1,a,h=>by rw [pagesP_s,if_neg h]
set_option maxHeartbeats 1000000 in
theorem take_pages{e62:TypeId}(hf:RdS w ET sf file)(hfl:file.length≤1048576)(hq:(trailP file).2.2=0){u:World}{b2 b4 bt:Nat}
  (h:At w F0 ((b2,tk0)::(b4,tkC file.length true (trailP file).1 (trailP file).2.1 nilS false 0 nilS nilS)::(bt,[.int .i64 (trailP file).1,.int .i64 (trailP file).2.1])::[]) u) {K:Bool→Wp}
  (hK:∀u' sp Rp,At w F0 ((b2,tk0)::(b4,tkC file.length true (trailP file).1 (trailP file).2.1 sp false 0 nilS nilS)::(bt,[.int .i64 (trailP file).1,.int .i64 (trailP file).2.1])::Rp) u'→VecL Rp EPg sp (pgsP file)→K (rightP0 file) u') :
  joinK [.bool] (fun k64=>
   loopL [.bool,Ki] (fun good66 at_67 W68 g65=>
    ifK (decide (at_67<endP file))
    (al W68 e62 [.int .i64 0,.int .i64 0,.lit false] fun b69 W70=>
     st W70 b69 0 [.int .i64 at_67,.int .i64 (mnI (w64 (at_67+4100)) (endP file)),.lit false] fun W71=>
     ld W71 Ki b69 0 fun n72=>
     ld W71 Ki b69 1 fun n73=>
     slx sf 1 (some n72) (some n73) none fun s74=>
     callK Tryz.prog c_27 [Az s74] W71 (.tup [Ls,Li]) fun a75 n76 W77=>
     st W77 b69 2 [.bool (n76==0)] fun W78=>
     joinK [.bool] (fun k79=>
      ifK good66
      (ld W78 .bool b69 2 fun c80=>
       k79 c80 W78)
      (k79 false W78)) fun good81 W82=>
     ld W82 .sl b4 4 fun a83=>
     ld W82 Ki b69 0 fun n84=>
     ld W82 Ki b69 1 fun n85=>
     ld W82 .bool b69 2 fun c86=>
     al W82 e62 [.int .i64 n84,.int .i64 n85,.bool c86] fun b87 W88=>
     ap W88 e62 3 24 [.int .i64 0,.int .i64 0,.lit false] a83 (⟨some (b87,0),1,1⟩) fun a89 W90=>
     st W90 b4 4 [.sl a89] fun W91=>
     g65 good81 (w64 (at_67+4100)) W91)
    (k64 good66 W68)) [.lit true,.int .i64 (trailP file).1] u) K:=by
 have ht:trailOk (trailP file).1 (trailP file).2.1=true∧(trailP file).1+(trailP file).2.1+24=file.length:=trailN_0 hq;have ht1:=odt ht.1;have hE:endP file=(trailP file).1+(trailP file).2.1:=rfl;refine join1 (a:=.bool) (fun (q:Bool) u=>q=rightP0 file∧∃sp Rp,At w F0 ((b2,tk0)::(b4,tkC file.length true (trailP file).1 (trailP file).2.1 sp false 0 nilS nilS)::(bt,[.int .i64 (trailP file).1,.int .i64 (trailP file).2.1])::Rp) u∧VecL Rp EPg sp (pgsP file)) ?_ (by rintro q u' ⟨rfl,sp,Rp,h1,h2⟩;exact hK u' sp Rp h1 h2);intro k hk;refine loop2 (k1:=.bool) (k2:=Ki) (fun (right:Bool) (at_:Int) u=>∃(n:Nat) (done:List PgP) (sp:Sl) (Rp:BL),pgsP file=done++pagesP file (endP file) n at_∧(trailP file).1≤at_∧at_≤endP file+4100∧endP file-at_≤4100*n∧done.length+n≤5000∧right=(done.all fun p=>p.ok) ∧
   At w F0 ((b2,tk0)::(b4,tkC file.length true (trailP file).1 (trailP file).2.1 sp false 0 nilS nilS)::(bt,[.int .i64 (trailP file).1,.int .i64 (trailP file).2.1])::Rp) u∧VecL Rp EPg sp done)
  (fun _ at_ _=>(endP file-at_).toNat) (x1:=true) (x2:=(trailP file).1) rfl rfl
  ⟨5000,[],nilS,[],(List.nil_append _).symm,Int.le_refl _,by omega,by omega,by simp,rfl,h,VecL.nil EPg⟩ ?_
 rintro (right:Bool) (at_:Int) u ⟨n,done,sp,Rp,hpg,ha0,ha1,hn,hdn,rfl,g,hv⟩;refine Iq (fun q=>?_) fun q=>?_;rotate_left
 ·have q:¬at_<endP file:=odf q;rw [pagesP_end q,Lan] at hpg;exact hk _ _ ⟨by unfold rightP0;rw [hpg],sp,Rp,g,by rw [hpg];exact hv⟩
 have q:at_<endP file:=odt q;obtain⟨n',rfl⟩:∃n',n=n'+1:=⟨n-1,by omega⟩;have e1:w64 (at_+4100)=at_+4100:=Wq (by omega) (by omega);rw [e1];have hmn:at_<mnI (at_+4100) (endP file)∧mnI (at_+4100) (endP file)≤endP file:=by unfold mnI;split<;>omega
 have hnx:pagesP file (endP file) n' (mnI (at_+4100) (endP file))=pagesP file (endP file) n' (at_+4100):=by
  unfold mnI;split
  ·rw [pagesP_end (by omega),pagesP_end (by omega)]
  ·rfl
 rw [pagesP_s,if_pos q,hnx] at hpg;generalize mnI (at_+4100) (endP file)=to at hpg hmn ⊢;refine At.alst g (by rfl) fun b69 u1 g1=>?_;have g1:At w F0 ((b69,[.int .i64 at_,.int .i64 to,(LV.bool false).toV])::(b2,tk0)::(b4,tkC file.length true (trailP file).1 (trailP file).2.1 sp false 0 nilS nilS)::(bt,[.int .i64 (trailP file).1,.int .i64 (trailP file).2.1])::Rp) u1:=g1;have hB:=g1.own (b69,_) (Lcs ..);refine hB.ldK (k:=Ki) at_ rfl (hB.ldK (k:=Ki) to rfl ((hf.quiet g1.mod).partK (n:=at_.toNat) (m:=to.toNat) (by omega) (by omega) rfl (by omega) (by omega) fun s33 h33 _=>?_));have h33:RdS u1 ET s33 (cutB file at_ to):=h33;refine rOpen_ok h33 (by rw [cutB_len (by omega) (by omega) (by omega)];omega) fun u2 ro s' hA2 _=>?_;have g2:=g1.keep0 hA2.mod fun _=>id;rw [beq_dec];refine g2.st 0 rfl (by show 2+1≤3;decide) fun u3 g3 _=>?_;have g3:At w F0 (((b69,EPg.f ⟨at_,to,decide ((openB (cutB file at_ to)).1=0)⟩)::(b2,tk0)::(b4,tkC file.length true (trailP file).1 (trailP file).2.1 sp false 0 nilS nilS)::[(bt,[.int .i64 (trailP file).1,.int .i64 (trailP file).2.1])])++Rp) u3:=g3;have hB:=g3.own (b69,EPg.f ⟨at_,to,decide ((openB (cutB file at_ to)).1=0)⟩) (Lcs ..);have hB4:=g3.own (b4,tkC file.length true (trailP file).1 (trailP file).2.1 sp false 0 nilS nilS) (by simp);have ea:((done++[(⟨at_,to,decide ((openB (cutB file at_ to)).1=0)⟩:PgP)]).all fun p=>p.ok)=((done.all fun p=>p.ok)&&decide ((openB (cutB file at_ to)).1=0)):=by
  rw [List.all_append,List.all_cons,List.all_nil,Bool.and_true]
 refine join1 (a:=.bool) (fun (q:Bool) u=>q=((done++[(⟨at_,to,decide ((openB (cutB file at_ to)).1=0)⟩:PgP)]).all fun p=>p.ok)∧u=u3) ?_ ?_
 ·intro k hk;refine Iq (fun q=>hB.ldK (k:=.bool) (decide ((openB (cutB file at_ to)).1=0)) rfl (hk _ _ ⟨?_,rfl⟩)) fun q=>hk _ _ ⟨?_,rfl⟩
  ·have q:(done.all fun p=>p.ok)=true:=q;rw [ea,q,Bool.true_and]
  ·have q:(done.all fun p=>p.ok)=false:=q;rw [ea,q,Bool.false_and]
 rintro q5 u5 ⟨rfl,rfl⟩;refine hB4.ldK (k:=.sl) sp rfl (hB.ldK (k:=Ki) at_ rfl (hB.ldK (k:=Ki) to rfl (hB.ldK (k:=.bool) (decide ((openB (cutB file at_ to)).1=0)) rfl ?_)));refine g3.alK fun b87 u6 _ g6 _=>?_;have hb:Blk u6 b87 (EPg.f ⟨at_,to,decide ((openB (cutB file at_ to)).1=0)⟩):=g6.own (b87,_) (Lmr _ (Lms.2 rfl));refine appL (g6.sub (Lsl _ _)) hv (rd_one hb) rfl rfl (by simp;omega) fun s7 ro7 u7 g7 v7 _ _=>g7.st 2 rfl (by show 4+1≤9;decide) fun u8 g8 _=>⟨⟨n',done++[⟨at_,to,decide ((openB (cutB file at_ to)).1=0)⟩],s7,ro7,by rw [hpg,Laa];rfl,by omega,by omega,by omega,by rw [Lla,List.length_singleton];omega,rfl,?_,v7⟩,by omega⟩;exact g8.sub (List.sublist_cons_self _ _)
end
def lastE(e:List (Str×Str)):Str:=(e.getD (e.length-1) ([],[])).1
def bkP(tile:Str)(last:Str)(some_:Bool)(x:BlkP):BlkP×Str×Bool:=match opnP tile x.info with
 | none=>({x with flag:=flagP tile,how:=1,ents:=[]},last,some_)
 | some e=>({x with flag:=flagP tile,how:=if some_=true∧cmpN (e.getD 0 ([],[])).1 last<0 then 2 else 0,ents:=e},lastE e,true)
theorem blksP_cons(file:Str)(part:Int)(b:BI)(r:List BI)(at_:Int)(last:Str)(some_:Bool) :
  blksP file part (b::r) at_ last some_=(bkP (cutB file at_ (at_+b.stored+5)) last some_ ⟨at_,at_+b.stored+5,b,part,0,0,[]⟩).1 ::
   blksP file part r (at_+b.stored+5) (bkP (cutB file at_ (at_+b.stored+5)) last some_ ⟨at_,at_+b.stored+5,b,part,0,0,[]⟩).2.1 (bkP (cutB file at_ (at_+b.stored+5)) last some_ ⟨at_,at_+b.stored+5,b,part,0,0,[]⟩).2.2:=by
 rw [blksP];unfold bkP;dsimp only;cases opnP (cutB file at_ (at_+b.stored+5)) b<;>rfl
theorem opnP_ne{tile:Str}{b:BI}{e:List (Str×Str)}(h:opnP tile b=some e):1≤e.length∧e.length≤65536:=by
 rw [opnP_R] at h
 cases hb:(blockR tile b.raw).2 with
 | none=>rw [hb] at h;cases h
 | some l=>
  rw [hb] at h;dsimp only at h;split at h
  ·cases h
  split at h
  ·cases h;have:=blockR_len hb;exact⟨this.1,this.2.1⟩
  ·cases h
theorem blksP_ents(file:Str)(part:Int):∀(l:List BI) (at_:Int) (last:Str) (some_:Bool),∀y∈blksP file part l at_ last some_,y.ents.length≤65536
 | [],_,_,_,y,hy=>by cases hy
 | b::r,at_,last,some_,y,hy=>by
  rw [blksP_cons] at hy;rcases List.mem_cons.1 hy with rfl | hy
  ·unfold bkP;dsimp only
   cases ho:opnP (cutB file at_ (at_+b.stored+5)) b with
   | none=>exact Nzl _
   | some e=>exact (opnP_ne ho).2
  ·exact blksP_ents file part r _ _ _ y hy
theorem infosP_ents(file:Str):∀(l:List PartI) (at_:Int),∀y∈(infosP file l at_).flatMap (fun x=>x.2),y.ents.length≤65536
 | [],_,y,hy=>by cases hy
 | x::r,at_,y,hy=>by
  have e:(infosP file (x::r) at_).flatMap (fun x=>x.2)=blksP file x.part x.blocks at_ [] false++(infosP file r (at_+spB x.blocks)).flatMap (fun x=>x.2):=rfl;rw [e] at hy;rcases Lma.1 hy with hy | hy
  ·exact blksP_ents file x.part x.blocks _ _ _ y hy
  ·exact infosP_ents file r _ y hy
section
variable {w:World}{sf:Sl}{file:Str}
theorem recs_rd{u:World}{L R:BL}{x:BlkP}{s:Sl}(h:At w F0 L u)(hv:VecL R ERec s (recsB x))(hR:∀q∈R,q∈L):RdS u ERec s (recsB x):=hv.rd fun q hq=>h.own q (hR q hq)
theorem recs_get{x:BlkP}{i:Nat}(h:i<x.ents.length):(recsB x)[i]? = some (x.part,(x.ents.getD i ([],[])).1,(x.ents.getD i ([],[])).2):=by
 unfold recsB;rw [List.getElem?_map,Lgd,Lge h];rfl
set_option maxHeartbeats 4000000 in
theorem take_blocks{e54:TypeId}(hf:RdS w ET sf file)(hfl:file.length≤1048576){u:World}{n:Int}{c1 c2:Bool}{tb tp P:Int}{sp sI:Sl}{ps:List PI}{l:List PartI}{b2 b4 bf:Nat}{X R:BL}(hFL:FootL R sI ps l)(hRX:∀q∈R,q∈X)
  (hchk:∀x∈l,chkB x.blocks []=true) (hsp:spI l≤file.length)
  (h:At w F0 ((b4,tkC n c1 tb tp sp c2 P sI nilS)::(b2,tk0)::(bf,pairC P sI)::X) u) {K:Wp}
  (hK:∀u' sB rows Rc Rb,At w F0 (((b4,tkC n c1 tb tp sp c2 P sI sB)::(b2,tk0)::(bf,pairC P sI)::X)++Rc++Rb) u'→VecL Rb EBk sB rows→rows.map Prod.fst=(infosP file l 0).flatMap (fun x=>x.2)→(∀y∈rows,OwnL Rc ERec y.2 (recsB y.1))→6*(rows.length:Int)≤file.length→K u') :
  joinK [] (fun k143=>
    loopL [Ki,Ki] (fun at_145 i146 W147 g144=>
     ld W147 .sl bf (0+1) fun a148=>
     ifK (decide (i146<(a148.len:Int)))
     (joinK [Ki] (fun k149=>
       loopL [Ki,.str,.bool,Ki] (fun at_151 end_152 any153 k154 W155 g150=>
        ld W155 .sl bf (0+1) fun a156=>
        ix a156 5 i146 fun b157 o158=>
        ld W155 .sl b157 (o158+1) fun a159=>
        ifK (decide (k154<(a159.len:Int)))
        (drawK W155 fun D W160=>
         ldD D W160 .sl bf (0+1) fun a161=>
         ix a161 5 i146 fun b162 o163=>
         ldD D W160 .sl b162 (o163+1) fun a164=>
         ix a164 4 k154 fun b165 o166=>
         ldD D W160 Ki b165 o166 fun n167=>
         ldD D W160 Ki b165 (o166+1) fun n168=>
         ldD D W160 Ki b165 (o166+2) fun n169=>
         ldD D W160 .str b165 (o166+3) fun s170=>
         ldD D W160 .sl bf (0+1) fun a171=>
         ix a171 5 i146 fun b172 o173=>
         ldD D W160 Ki b172 o173 fun n174=>
         al W160 e54 [.int .i64 0,.int .i64 0,.int .i64 0,.int .i64 0,.int .i64 0,.str [],.int .i64 0,.int .i64 0,.int .i64 0,.sl (⟨none,0,0⟩)] fun b175 W176=>
         Mod D W160 W176 ∧
         st W176 b175 0 [.int .i64 at_151,.int .i64 0,.int .i64 n167,.int .i64 n168,.int .i64 n169,.str s170,.int .i64 n174,.int .i64 0,.int .i64 0,.sl (⟨none,0,0⟩)] fun W177=>
         ld W177 Ki b175 2 fun n178=>
         st W177 b175 1 [.int .i64 (w64 ((w64 (at_151+n178))+5))] fun W179=>
         ld W179 Ki b175 1 fun n180=>
         ld W179 Ki b175 0 fun n181=>
         ld W179 Ki b175 1 fun n182=>
         slx sf 1 (some n181) (some n182) none fun s183=>
         callK Tryz.prog c_25 [Ap (some (b175,0)),Az s183] W179 (.tup []) fun W184=>
         ld W184 Ki b175 7 fun n185=>
         joinK [.str,.bool] (fun k186=>
          ifK (n185==0)
          (joinK [.bool] (fun k187=>
            ifK any153
            (ld W184 .sl b175 9 fun a188=>
             ix a188 3 0 fun b189 o190=>
             ld W184 .str b189 (o190+1) fun s191=>
             k187 (Op.bytesLess s191 end_152) W184)
            (k187 false W184)) fun t160192 W193=>
           joinK [] (fun k194=>
            ifK t160192
            (st W193 b175 7 [.int .i64 2] fun W195=>
             k194 W195)
            (k194 W193)) fun W196=>
           ld W196 .sl b175 9 fun a197=>
           ld W196 .sl b175 9 fun a198=>
           ix a197 3 (w64 ((a198.len:Int)-1)) fun b199 o200=>
           ld W196 .str b199 (o200+1) fun s201=>
           k186 s201 true W196)
          (k186 end_152 any153 W184)) fun end_202 any203 W204=>
         ld W204 .sl b4 8 fun a205=>
         ld W204 Ki b175 0 fun n206=>
         ld W204 Ki b175 1 fun n207=>
         ld W204 Ki b175 2 fun n208=>
         ld W204 Ki b175 3 fun n209=>
         ld W204 Ki b175 4 fun n210=>
         ld W204 .str b175 5 fun s211=>
         ld W204 Ki b175 6 fun n212=>
         ld W204 Ki b175 7 fun n213=>
         ld W204 Ki b175 8 fun n214=>
         ld W204 .sl b175 9 fun a215=>
         al W204 e54 [.int .i64 n206,.int .i64 n207,.int .i64 n208,.int .i64 n209,.int .i64 n210,.str s211,.int .i64 n212,.int .i64 n213,.int .i64 n214,.sl a215] fun b216 W217=>
         ap W217 e54 10 104 [.int .i64 0,.int .i64 0,.int .i64 0,.int .i64 0,.int .i64 0,.str [],.int .i64 0,.int .i64 0,.int .i64 0,.sl (⟨none,0,0⟩)] a205 (⟨some (b216,0),1,1⟩) fun a218 W219=>
         st W219 b4 8 [.sl a218] fun W220=>
         g150 n180 end_202 any203 (w64 (k154+1)) W220)
        (k149 at_151 W155)) [.int .i64 at_145,.str [],.lit false,.int .i64 0] W147) fun at_221 W222=>
      g144 at_221 (w64 (i146+1)) W222)
     (k143 W147)) [.int .i64 0,.int .i64 0] u) K:=by
 have hll:=hFL.ll;refine join0 (fun u'=>∃sB rows Rc Rb,At w F0 (((b4,tkC n c1 tb tp sp c2 P sI sB)::(b2,tk0)::(bf,pairC P sI)::X)++Rc++Rb) u'∧VecL Rb EBk sB rows∧rows.map Prod.fst=(infosP file l 0).flatMap (fun x=>x.2)∧(∀y∈rows,OwnL Rc ERec y.2 (recsB y.1))∧6*(rows.length:Int)≤file.length) ?_
  (by rintro u' ⟨sB,rows,Rc,Rb,h1,h2,h3,h4,h5⟩;exact hK u' sB rows Rc Rb h1 h2 h3 h4 h5)
 intro k143 hk143;refine loop2 (k1:=Ki) (k2:=Ki) (fun (at_:Int) (t:Int) u=>∃(i:Nat) (sB:Sl) (rows:List (BlkP×Sl)) (Rc Rb:BL),t=(i:Int)∧i≤l.length∧0≤at_∧at_+spI (l.drop i)=spI l∧6*(rows.length:Int)≤at_ ∧
   (infosP file l 0).flatMap (fun x=>x.2)=rows.map Prod.fst++(infosP file (l.drop i) at_).flatMap (fun x=>x.2)∧At w F0 (((b4,tkC n c1 tb tp sp c2 P sI sB)::(b2,tk0)::(bf,pairC P sI)::X)++Rc++Rb) u∧VecL Rb EBk sB rows∧∀y∈rows,OwnL Rc ERec y.2 (recsB y.1))
  (fun _ t _=>(l.length-t).toNat) (x1:=0) (x2:=0) rfl rfl
  ⟨0,nilS,[],[],[],rfl,Nzl _,Int.le_refl _,by simp,by simp,rfl,by simpa using h,VecL.nil EBk,by simp⟩ ?_
 rintro (at0:Int) (t:Int) u ⟨i,sB,rows,Rc,Rb,rfl,hi,hat0,hsp0,hr6,hpl0,h,hv,hrows⟩;have foot:∀{u:World} {s:Sl} {A B:BL},At w F0 (((b4,tkC n c1 tb tp sp c2 P sI s)::(b2,tk0)::(bf,pairC P sI)::X)++A++B) u→Blk u bf (pairC P sI)∧(∀q∈R,Blk u q.1 q.2)∧RdS u EPI sI ps:=fun {u s A B} h=>by
  have hq:∀q∈R,Blk u q.1 q.2:=fun q hq=>h.own q (Lml _ (Lml _ (Lmc _ (Lmc _ (Lmc _ (hRX q hq))))));exact⟨h.own (bf,_) (Lml _ (Lml _ (Lmc _ (Lmc _ (Lcs ..))))),hq,hFL.row.rd hq⟩
 refine (foot h).1.ldK (k:=.sl) sI rfl ?_;rw [(foot h).2.2.len,hFL.len];refine Iq (fun q=>?_) fun q=>?_;rotate_left
 ·have q:l.length≤i:=dge q;rw [Ldn q] at hpl0 hsp0;have e0:spI []=0:=rfl;have:(infosP file [] at0).flatMap (fun x=>x.2)=[]:=rfl;rw [this,Lan] at hpl0;exact hk143 u ⟨sB,rows,Rc,Rb,h,hv,hpl0.symm,hrows,by omega⟩
 have q:i<l.length:=dlt q;obtain⟨x,hx⟩:=Gq q;obtain⟨p,hp⟩:=Gq (l:=ps) (i:=i) (by rw [hFL.len];exact q);have hI:=hFL.each i p x hp hx;have hcx:=hchk x (Lmg hx);rw [Dg hx] at hpl0 hsp0;rw [spI] at hsp0;have hnn:=spI_nn (l:=l.drop (i+1)) fun y hy=>hchk y (List.mem_of_mem_drop hy);have hpl0:(infosP file l 0).flatMap (fun x=>x.2)=rows.map Prod.fst++(blksP file x.part x.blocks at0 [] false++(infosP file (l.drop (i+1)) (at0+spB x.blocks)).flatMap (fun x=>x.2)):=hpl0;have esi:=step64 (i:=i) (by omega);refine join1 (a:=Ki) (fun (at_:Int) u=>at_=at0+spB x.blocks∧∃(sB:Sl) (rows:List (BlkP×Sl)) (Rc Rb:BL),6*(rows.length:Int)≤at_ ∧
   (infosP file l 0).flatMap (fun x=>x.2)=rows.map Prod.fst++(infosP file (l.drop (i+1)) at_).flatMap (fun x=>x.2)∧At w F0 (((b4,tkC n c1 tb tp sp c2 P sI sB)::(b2,tk0)::(bf,pairC P sI)::X)++Rc++Rb) u∧VecL Rb EBk sB rows∧∀y∈rows,OwnL Rc ERec y.2 (recsB y.1)) ?_ ?_
 rotate_left
 ·rintro (at_:Int) u' ⟨rfl,sB,rows,Rc,Rb,h1,h2,h3,h4,h5⟩;have:=spB_6 (chkB_mem hcx);exact⟨⟨i+1,sB,rows,Rc,Rb,esi,by omega,by omega,by omega,h1,h2,h3,h4,h5⟩,by rw [esi];omega⟩
 intro k149 hk149;refine loop4 (k1:=Ki) (k2:=.str) (k3:=.bool) (k4:=Ki) (fun (at_:Int) (last:Str) (some_:Bool) (t:Int) u=>∃(j:Nat) (sB:Sl) (rows:List (BlkP×Sl)) (Rc Rb:BL),t=(j:Int)∧j≤x.blocks.length∧0≤at_∧at_+spB (x.blocks.drop j)=at0+spB x.blocks∧6*(rows.length:Int)≤at_ ∧
   (infosP file l 0).flatMap (fun x=>x.2)=rows.map Prod.fst++(blksP file x.part (x.blocks.drop j) at_ last some_++(infosP file (l.drop (i+1)) (at0+spB x.blocks)).flatMap (fun x=>x.2))∧At w F0 (((b4,tkC n c1 tb tp sp c2 P sI sB)::(b2,tk0)::(bf,pairC P sI)::X)++Rc++Rb) u∧VecL Rb EBk sB rows∧∀y∈rows,OwnL Rc ERec y.2 (recsB y.1))
  (fun _ _ _ t _=>(x.blocks.length-t).toNat) (x1:=at0) (x2:=[]) (x3:=false) (x4:=0) rfl rfl rfl rfl
  ⟨0,sB,rows,Rc,Rb,rfl,Nzl _,hat0,rfl,hr6,hpl0,h,hv,hrows⟩ ?_
 clear hv hrows h hpl0 hr6 hk143;rintro (at_:Int) (last:Str) (some_:Bool) (t:Int) u ⟨j,sB,rows,Rc,Rb,rfl,hj,hat,hspj,hr6,hpl,h,hv,hrows⟩;have hfo:=foot h;refine hfo.1.ldK (k:=.sl) sI rfl (hfo.2.2.ix rfl rfl hp fun b157 o158 _ hc=>Lq (k:=.sl) p.sb (hc 1 (by decide)) ?_);have hbr:RdS u EBI p.sb x.blocks:=hI.bl.rd hfo.2.1;rw [hbr.len];refine Iq (fun q=>?_) fun q=>?_;rotate_left
 ·have q:x.blocks.length≤j:=dge q;rw [Ldn q] at hpl hspj;have:blksP file x.part [] at_ last some_=[]:=rfl;rw [this,List.nil_append] at hpl;have hspj:at_=at0+spB x.blocks:=by simpa [spB] using hspj
  exact hk149 at_ u ⟨hspj,sB,rows,Rc,Rb,hr6,by rw [hspj];exact hpl,h,hv,hrows⟩
 have q:j<x.blocks.length:=dlt q;obtain⟨b,hb⟩:=Gq q;have hlb:=hI.lb;have hrb:=odt (chkB_mem hcx b (Lmg hb));rw [Dg hb] at hpl hspj;have hspd:0≤spB (x.blocks.drop (j+1)):=by
  have:=spB_6 (l:=x.blocks.drop (j+1)) fun y hy=>chkB_mem hcx y (List.mem_of_mem_drop hy);omega
 rw [spB] at hspj;have hto:at_+b.stored+5≤file.length:=by omega
 have ew:w64 ((w64 (at_+b.stored))+5)=at_+b.stored+5:=by
  have e1:w64 (at_+b.stored)=at_+b.stored:=Wq (by omega) (by omega);rw [e1,Wq (by omega) (by omega)]
 have es:=step64 (i:=j) (by omega);rw [blksP_cons] at hpl;generalize htile:cutB file at_ (at_+b.stored+5)=tile at hpl;have htl:tile.length=(b.stored+5).toNat:=by
  rw [←htile,cutB_len hat (by omega) hto];congr 1;omega
 have hd:=h.keep0 (Mq u) fun _=>id;have hfd:=foot hd;have hbd:RdS u.drew EBI p.sb x.blocks:=hI.bl.rd hfd.2.1;refine⟨F0,hfd.1.ldDK (k:=.sl) sI id rfl (hfd.2.2.ix rfl rfl hp fun b162 o163 _ hc2=>Lw (k:=.sl) p.sb id (hc2 1 (by decide)) (hbd.ix rfl rfl hb fun b165 o166 _ hc3=>Lw (k:=Ki) b.stored id (hc3 0 (by decide)) (Lw (k:=Ki) b.raw id (hc3 1 (by decide)) (Lw (k:=Ki) b.count id (hc3 2 (by decide)) (Lw (k:=.str) b.cut id (hc3 3 (by decide)) (hfd.1.ldDK (k:=.sl) sI id rfl (hfd.2.2.ix rfl rfl hp fun b172 o173 _ hc4=>Lw (k:=Ki) p.part id (hc4 0 (by decide)) ?_)))))))⟩;rw [hI.part];refine hd.alK fun b175 u1 _ h1 M1=>⟨M1,?_⟩;have h1:=At.front h1;refine h1.st 0 rfl (Nlr 10) fun u2 h2 _=>?_;have h2:At w F0 ((b175,bkC ⟨at_,0,b,x.part,0,0,[]⟩ nilS)::(((b4,tkC n c1 tb tp sp c2 P sI sB)::(b2,tk0)::(bf,pairC P sI)::X)++Rc++Rb)) u2:=h2;have hB:=h2.own (b175,_) (Lcs ..);refine hB.ldK (k:=Ki) b.stored rfl ?_;rw [ew];refine h2.st 0 rfl (by show 1+1≤10;decide) fun u3 h3 _=>?_;have h3:At w F0 ((b175,bkC ⟨at_,at_+b.stored+5,b,x.part,0,0,[]⟩ nilS)::(((b4,tkC n c1 tb tp sp c2 P sI sB)::(b2,tk0)::(bf,pairC P sI)::X)++Rc++Rb)) u3:=h3;have hB:=h3.own (b175,_) (Lcs ..);refine hB.ldK (k:=Ki) (at_+b.stored+5) rfl (hB.ldK (k:=Ki) at_ rfl (hB.ldK (k:=Ki) (at_+b.stored+5) rfl (hf.partK (n:=at_.toNat) (m:=(at_+b.stored+5).toNat) (by omega) (by omega) rfl (by omega) (by omega) fun s183 h183 _=>?_)));have h183:RdS w ET s183 tile:=by rw [←htile];exact h183
 refine bread_ok h3 h183 (by omega) (by omega) fun u4 s R9 h4 v4=>?_;have hx0:∀y:BlkP,y=bkR tile ⟨at_,at_+b.stored+5,b,x.part,0,0,[]⟩→y.info=b:=fun y e=>by rw [e];rfl
 generalize hz0:(⟨at_,at_+b.stored+5,b,x.part,0,0,[]⟩:BlkP)=z0 at *;have hz0i:z0.info=b:=by rw [←hz0]
 have h4:At w F0 ((b175,bkC (bkR tile z0) s)::(((b4,tkC n c1 tb tp sp c2 P sI sB)::(b2,tk0)::(bf,pairC P sI)::X)++Rc++Rb)++R9) u4:=h4;have hR9:∀q∈R9,q∈(b175,bkC (bkR tile z0) s)::(((b4,tkC n c1 tb tp sp c2 P sI sB)::(b2,tk0)::(bf,pairC P sI)::X)++Rc++Rb)++R9:=fun q hq=>Lmr _ hq;have hB:=h4.own (b175,bkC (bkR tile z0) s) (Lml _ (Lcs ..));refine hB.ldK (k:=Ki) (bkR tile z0).how rfl ?_;refine join2 (a:=.str) (b:=.bool) (fun (last':Str) (some':Bool) u=>∃y:BlkP,(y,last',some')=bkP tile last some_ z0∧y.ents=(bkR tile z0).ents∧y.part=(bkR tile z0).part∧y.to=at_+b.stored+5∧At w F0 ((b175,bkC y s)::(((b4,tkC n c1 tb tp sp c2 P sI sB)::(b2,tk0)::(bf,pairC P sI)::X)++Rc++Rb)++R9) u) ?_ ?_
 ·intro k186 hk186
  cases ho:opnP tile z0.info with
  | none=>
   have eb:bkR tile z0 = {z0 with flag:=flagP tile,how:=1,ents:=[]}:=by unfold bkR;rw [ho];rfl
   have hw:(bkR tile z0).how=1:=by rw [eb]
   rw [hw];refine ifK_f rfl (hk186 _ _ _ ⟨bkR tile z0,?_,rfl,rfl,?_,h4⟩)
   ·unfold bkP;rw [ho,eb]
   ·rw [eb,←hz0]
  | some e=>
   have hne:=opnP_ne ho;have eb:bkR tile z0 = {z0 with flag:=flagP tile,how:=0,ents:=e}:=by unfold bkR;rw [ho];rfl
   have hw:(bkR tile z0).how=0:=by rw [eb]
   have hen:(bkR tile z0).ents=e:=by rw [eb]
   rw [hw];have hlen:(recsB (bkR tile z0)).length=e.length:=by unfold recsB;rw [List.length_map,hen]
   refine ifK_t rfl ?_;refine join1 (a:=.bool) (fun (q:Bool) v=>q=decide (some_=true∧cmpN (e.getD 0 ([],[])).1 last<0)∧v=u4) ?_ ?_
   ·intro k hk;refine Iq (fun q=>?_) fun q=>?_
    ·have q:some_=true:=q;refine hB.ldK (k:=.sl) s rfl ((recs_rd h4 v4 hR9).ix rfl rfl (recs_get (i:=0) (by rw [hen];omega)) fun b189 o190 _ hc5=>Lq (k:=.str) _ (hc5 1 (by decide)) (hk _ _ ⟨?_,rfl⟩));rw [bytesLess_cmp,hen];simp [q]
    ·have q:some_=false:=q;exact hk _ _ ⟨by simp [q],rfl⟩
   rintro q5 v5 ⟨rfl,rfl⟩;refine join0 (fun u=>At w F0 ((b175,bkC (bkP tile last some_ z0).1 s)::(((b4,tkC n c1 tb tp sp c2 P sI sB)::(b2,tk0)::(bf,pairC P sI)::X)++Rc++Rb)++R9) u) ?_ ?_
   ·intro k hk;refine Iq (fun q=>?_) fun q=>?_
    ·have q:=odt q;refine h4.st 0 rfl (by show 7+1≤10;decide) fun u5 h5 _=>hk _ ?_;have ebp:(bkP tile last some_ z0).1 = {z0 with flag:=flagP tile,how:=2,ents:=e}:=by unfold bkP;rw [ho];dsimp only;rw [if_pos q]
     rw [ebp];rw [eb] at h5;exact h5
    ·have q:=odf q;have ebp:(bkP tile last some_ z0).1=bkR tile z0:=by unfold bkP;rw [ho,eb];dsimp only;rw [if_neg q]
     exact hk _ (by rw [ebp];exact h4)
   intro u5 h5;have hB5:=h5.own (b175,bkC (bkP tile last some_ z0).1 s) (Lml _ (Lcs ..));have hrd5:RdS u5 ERec s (recsB (bkR tile z0)):=v4.rd fun q hq=>h5.own q (Lmr _ hq);have ei:w64 ((s.len:Int)-1)=((e.length-1:Nat):Int):=by rw [hrd5.len,hlen,Wq (by omega) (by omega)];omega
   refine hB5.ldK (k:=.sl) s rfl (hB5.ldK (k:=.sl) s rfl ?_);rw [ei];refine hrd5.ix rfl rfl (recs_get (i:=e.length-1) (by rw [hen];omega)) fun b199 o200 _ hc6=>Lq (k:=.str) _ (hc6 1 (by decide)) (hk186 _ _ _ ⟨(bkP tile last some_ z0).1,?_,?_,?_,?_,h5⟩)
   ·rw [hen];unfold bkP;rw [ho];rfl
   ·unfold bkP;rw [ho,eb]
   ·unfold bkP;rw [ho,eb]
   ·unfold bkP;rw [ho,←hz0]
 rintro (last':Str) (some':Bool) u5 ⟨y,hy,hye,hyp,hyt,h5⟩;rw [←hy] at hpl;dsimp only at hpl;have hrec:recsB y=recsB (bkR tile z0):=by unfold recsB;rw [hye,hyp]
 have hB5:=h5.own (b175,bkC y s) (Lml _ (Lcs ..));have hB4:=h5.own (b4,tkC n c1 tb tp sp c2 P sI sB) (by simp);refine hB4.ldK (k:=.sl) sB rfl (hB5.ldK (k:=Ki) y.frm rfl (hB5.ldK (k:=Ki) y.to rfl (hB5.ldK (k:=Ki) y.info.stored rfl (hB5.ldK (k:=Ki) y.info.raw rfl (hB5.ldK (k:=Ki) y.info.count rfl (hB5.ldK (k:=.str) y.info.cut rfl (hB5.ldK (k:=Ki) y.part rfl (hB5.ldK (k:=Ki) y.how rfl (hB5.ldK (k:=Ki) (y.flag:Int) rfl (hB5.ldK (k:=.sl) s rfl ?_))))))))));have h5:At w F0 (((b4,tkC n c1 tb tp sp c2 P sI sB)::(b2,tk0)::(bf,pairC P sI)::X)++(Rc++R9)++Rb) u5:=by
  have h0:At w F0 ((((b4,tkC n c1 tb tp sp c2 P sI sB)::(b2,tk0)::(bf,pairC P sI)::X)++Rc++Rb)++R9) u5:=h5.sub (List.sublist_cons_self (b175,bkC y s) _);refine h0.perm ?_;have h1:=perm_mid (((b4,tkC n c1 tb tp sp c2 P sI sB)::(b2,tk0)::(bf,pairC P sI)::X)++Rc) R9 Rb;simp only [Laa] at h1 ⊢;exact h1.symm
 refine h5.alK fun b216 u6 _ h6 _=>?_;have hb6:Blk u6 b216 (EBk.f (y,s)):=h6.own (b216,_) (Lmr _ (Lms.2 rfl));refine appL (h6.sub (Lsl _ _)) hv (rd_one hb6) rfl rfl (by simp;omega) fun s7 Rb7 u7 h7 v7 _ _=>h7.st 0 rfl (by show 8+1≤9;decide) fun u8 h8 _=>⟨⟨j+1,s7,rows++[(y,s)],Rc++R9,Rb7,es,by omega,by omega,by omega,by rw [Lla,List.length_singleton];omega,?_,h8,v7,?_⟩,by rw [es];omega⟩
 ·rw [hpl,List.map_append,Laa];rfl
 ·intro y' hy';rcases Lma.1 hy' with hy' | hy'
  ·exact (hrows y' hy').mono fun q hq=>Lml _ hq
  ·rw [Lms.1 hy'];refine⟨R9,?_,fun q hq=>Lmr _ hq⟩;show VecL R9 ERec s (recsB y);rw [hrec];exact v4
end
structure TakeR(file:Str)(R:BL)(tb tp:Int)(sp sB:Sl)(rows:List (BlkP×Sl)):Prop where
 tr:(trailP file).2.2=0→tb=(trailP file).1∧tp=(trailP file).2.1
 pg:OwnL R EPg sp (if (trailP file).2.2=0 then pgsP file else [])
 bl:OwnL R EBk sB rows
 eq:rows.map Prod.fst=(if (trailP file).2.2=0∧rightF file=true then blocksOfP file else [])
 recs:∀y∈rows,OwnL R ERec y.2 (recsB y.1)
 few:6*(rows.length:Int)≤file.length
section
variable {w:World}{sf:Sl}{file:Str}
set_option maxHeartbeats 4000000 in
theorem apart_ok(hf:RdS w ET sf file)(hfl:file.length≤1048576){K:Int→Bool→Int→Int→Sl→Bool→Int→Sl→Sl→Wp}
  (hK:∀u R tb tp sp P sI sB rows,Fresh w u F0 R→TakeR file R tb tp sp sB rows→K file.length (decide ((trailP file).2.2=0)) tb tp sp (decide ((trailP file).2.2=0∧rightF file=true)) P sI sB u) :
  callK Tryz.prog c_28 [Az sf] w (.one (.agg [Ki,.bool,Ki,Ki,.sl,.bool,Ki,.sl,.sl])) K:=by
 refine go_28 _ _ _ ?_;rw [hf.len];refine (At.init w F0).alK fun b2 w1 _ h1 _=>h1.alK fun b4 w2 _ h2 _=>?_;have h2:At w F0 [(b2,tk0),(b4,tk0)] w2:=h2;refine h2.st 1 rfl (Nlr 9) fun w3 h3 _=>?_;have h3:At w F0 ((b2,tk0)::(b4,tkC file.length false 0 0 nilS false 0 nilS nilS)::[]) w3:=h3;refine join2 (a:=.adr) (b:=Ki) (fun (t:Nat×Nat) (e:Int) u=>e=(trailP file).2.2∧∃bt,t=(bt,0)∧At w F0 ((b2,tk0)::(b4,tkC file.length false 0 0 nilS false 0 nilS nilS)::(bt,[.int .i64 (trailP file).1,.int .i64 (trailP file).2.1])::[]) u) ?_ ?_
 ·intro k hk;have hd:=h3.keep0 (Mq w3) fun _=>id;have hB4:=hd.own (b4,tkC file.length false 0 0 nilS false 0 nilS nilS) (by simp);have fin:∀{u:World} {bt:Nat},Fresh w3.drew u F0 [(bt,[.int .i64 (trailP file).1,.int .i64 (trailP file).2.1])]→k (bt,0) (trailP file).2.2 u:=fun h=>hk _ _ _ ⟨rfl,_,rfl,hd.joinF h (fun _ _ h=>h.elim) fun _ _=>id⟩;have hfd:=hf.quiet hd.mod;have hdl:(file.drop (lastP file).toNat).length≤1099511627776:=by rw [Lld];omega
  refine⟨F0,hB4.ldDK (k:=Ki) (file.length:Int) id rfl ⟨last_ok hfd hfl fun s hs=>⟨Mod.refl _ _,rTrailer_ok hs hdl fun u M=>⟨M,((Fresh.start _ F0).quiet M).alK fun bt u1 f1 _ _=>⟨f1.mod,f1.stK 0 rfl (Nlr 2) fun u2 f2 _=>⟨f2.mod,fin f2⟩⟩⟩,
   (Fresh.start _ F0).alK fun bt u1 f1 _ M1=>⟨f1.mod,rTrailer_ok (hs.quiet f1.mod) hdl fun u M=>⟨(f1.quiet M).mod,(f1.quiet M).stK 0 rfl (Nlr 2) fun u2 f2 _=>⟨f2.mod,fin f2⟩⟩⟩⟩,
   (Fresh.start _ F0).alK fun bt u1 f1 _ _=>⟨f1.mod,last_ok (hfd.quiet f1.mod) hfl fun s hs=>⟨f1.mod,rTrailer_ok hs hdl fun u M=>⟨(f1.quiet M).mod,(f1.quiet M).stK 0 rfl (Nlr 2) fun u2 f2 _=>⟨f2.mod,fin f2⟩⟩⟩⟩⟩⟩
 rintro t e u ⟨rfl,bt,rfl,h⟩;refine Iq (fun q=>?_) fun q=>?_
 ·have q:(trailP file).2.2≠0:=by simpa using q
  refine take_ret h fun u' h'=>?_;have:=hK u' _ 0 0 nilS 0 nilS nilS [] (.of_at h') ⟨fun e=>absurd e q,by rw [if_neg q];exact⟨[],VecL.nil EPg,by simp⟩,⟨[],VecL.nil EBk,by simp⟩,by rw [if_neg (fun e=>q e.1)];rfl,by simp,by simp⟩;rw [Dcf q,Dcf (fun e=>q e.1)] at this;exact this
 have q0:(trailP file).2.2=0:=by simpa using q
 have ht:trailOk (trailP file).1 (trailP file).2.1=true∧(trailP file).1+(trailP file).2.1+24=file.length:=trailN_0 q0;have ht1:=odt ht.1;have hE:endP file=(trailP file).1+(trailP file).2.1:=rfl;have ew:w64 ((trailP file).1+(trailP file).2.1)=endP file:=Wq (by omega) (by omega);refine h.st 1 rfl (by show 1+1≤9;decide) fun u1 h1 _=>?_;have h1:At w F0 ((b2,tk0)::(b4,tkC file.length true 0 0 nilS false 0 nilS nilS)::(bt,[.int .i64 (trailP file).1,.int .i64 (trailP file).2.1])::[]) u1:=h1;have hBt:=h1.own (bt,[.int .i64 (trailP file).1,.int .i64 (trailP file).2.1]) (by simp);refine hBt.ldK (k:=Ki) (trailP file).1 rfl (hBt.ldK (k:=Ki) (trailP file).2.1 rfl ?_);refine h1.st 1 rfl (by show 2+2≤9;decide) fun u2 h2 _=>?_;have h2:At w F0 ((b2,tk0)::(b4,tkC file.length true (trailP file).1 (trailP file).2.1 nilS false 0 nilS nilS)::(bt,[.int .i64 (trailP file).1,.int .i64 (trailP file).2.1])::[]) u2:=h2;have hBt:=h2.own (bt,[.int .i64 (trailP file).1,.int .i64 (trailP file).2.1]) (by simp);refine hBt.ldK (k:=Ki) (trailP file).1 rfl (hBt.ldK (k:=Ki) (trailP file).2.1 rfl (hBt.ldK (k:=Ki) (trailP file).1 rfl ?_));rw [ew];refine take_pages hf hfl q0 h2 fun u3 sp Rp h3 hvp=>?_;refine join2 (a:=.adr) (b:=Ki) (fun (t:Nat×Nat) (e:Int) u=>e=(footP file).1∧∃bf P sI ps R,t=(bf,0)∧At w F0 (((b2,tk0)::(b4,tkC file.length true (trailP file).1 (trailP file).2.1 sp false 0 nilS nilS)::(bt,[.int .i64 (trailP file).1,.int .i64 (trailP file).2.1])::Rp)++(bf,pairC P sI)::R) u∧((footP file).1=0→FootL R sI ps (listP file))) ?_ ?_
 ·intro k hk;have hd:=h3.keep0 (Mq u3) fun _=>id;have hBt:=hd.own (bt,[.int .i64 (trailP file).1,.int .i64 (trailP file).2.1]) (by simp);have hfd:=hf.quiet hd.mod;have hD:decN (cutB file (trailP file).1 (endP file)) (trailP file).1 (trailP file).2.1=footP file:=rfl;have hcl:(cutB file (trailP file).1 (endP file)).length≤20000000:=by rw [cutB_len (by omega) (by omega) (by omega)];omega
  have fin:∀{u:World} {bf:Nat} {P:Int} {sI:Sl} {ps:List PI} {R:BL},Fresh u3.drew u F0 ((bf,pairC P sI)::R)→((footP file).1=0→FootL R sI ps (listP file))→k (bf,0) (footP file).1 u:=fun h hl=>hk _ _ _ ⟨rfl,_,_,_,_,_,rfl,hd.joinF h (fun _ _ h=>h.elim) fun _ _=>id,hl⟩;refine⟨F0,hBt.ldDK (k:=Ki) (trailP file).1 id rfl (hfd.partK (n:=(trailP file).1.toNat) (m:=(endP file).toNat) (by omega) (by omega) rfl (by omega) (by omega) fun s51 h51 _=>hBt.ldDK (k:=Ki) (trailP file).1 id rfl (hBt.ldDK (k:=Ki) (trailP file).2.1 id rfl ?_))⟩;have h51:RdS u3.drew ET s51 (cutB file (trailP file).1 (endP file)):=h51;refine⟨rFootDecode_ok h51 hcl (by omega) (fun hn u8 M8=>?_) fun h0 u8 R sI ps hR hFL=>?_,(Fresh.start _ F0).alK fun bf u4 f4 _ _=>⟨f4.mod,rFootDecode_ok (h51.quiet f4.mod) hcl (by omega) (fun hn u8 M8=>?_) fun h0 u8 R sI ps hR hFL=>?_⟩⟩
  ·rw [hD] at hn ⊢;exact⟨M8,((Fresh.start _ F0).quiet M8).alK fun bf u9 f9 _ _=>⟨f9.mod,f9.stK 0 rfl (Nlr 2) fun u10 f10 _=>⟨f10.mod,fin (ps:=[]) (R:=[]) f10 fun e=>absurd e hn⟩⟩⟩
  ·rw [hD] at h0 hFL ⊢;refine⟨hR.mod,hR.alK fun bf u9 f9 _ _=>⟨f9.mod,?_⟩⟩;have f9:Fresh u3.drew u9 F0 ((bf,pairC 0 nilS)::R):=f9.perm (Lpc (l₁:=[(bf,pairC 0 nilS)]) (l₂:=R));refine f9.stK 0 rfl (Nlr 2) fun u10 f10 _=>⟨f10.mod,?_⟩;have:=fin (ps:=ps) (R:=R) f10 fun _=>hFL;rw [h0] at this;exact this
  ·rw [hD] at hn ⊢;exact⟨(f4.quiet M8).mod,(f4.quiet M8).stK 0 rfl (Nlr 2) fun u10 f10 _=>⟨f10.mod,fin (ps:=[]) (R:=[]) f10 fun e=>absurd e hn⟩⟩
  ·rw [hD] at h0 hFL ⊢;have f8:=f4.join hR (fun _ _ h=>h) fun _ _ _ h=>h;refine⟨f8.mod,f8.stK 0 rfl (Nlr 2) fun u10 f10 _=>⟨f10.mod,?_⟩⟩;have:=fin (ps:=ps) (R:=R) f10 fun _=>hFL;rw [h0] at this;exact this
 rintro t e u4 ⟨rfl,bf,P,sI,ps,R,rfl,h4,hFL⟩;refine join1 (a:=.bool) (fun (q:Bool) v=>q=(!rightF file)∧v=u4) ?_ ?_
 ·intro k hk;refine Iq (fun q=>hk _ _ ⟨?_,rfl⟩) fun q=>hk _ _ ⟨?_,rfl⟩
  ·have q:rightP0 file=false:=by simpa using q
   unfold rightF;rw [q];rfl
  ·have q:rightP0 file=true:=by simpa using q
   unfold rightF;rw [q,Bool.true_and];by_cases h0:(footP file).1=0
   ·rw [h0,Dct rfl];rfl
   ·rw [Dcf h0];simpa using h0
 rintro q5 v5 ⟨rfl,rfl⟩;have hlistD:List.Sublist Rp (((bt,[Value.int .i64 (trailP file).1,.int .i64 (trailP file).2.1])::Rp)++(bf,pairC P sI)::R):=(List.sublist_cons_self _ _).trans (Lsl _ _)
 cases hrf:rightF file with
 | false=>
  refine ifK_t rfl (take_ret h4 fun u' h'=>?_);have:=hK u' _ (trailP file).1 (trailP file).2.1 sp 0 nilS nilS [] (.of_at h') ⟨fun _=>⟨rfl,rfl⟩,by rw [if_pos q0];exact⟨Rp,hvp,fun q hq=>Lmc _ (Lmc _ (hlistD.subset hq))⟩,⟨[],VecL.nil EBk,by simp⟩,by rw [if_neg (by rw [hrf];exact fun e=>Bool.noConfusion e.2)];rfl,by simp,by simp⟩;rw [Dct q0,Dcf (by rw [hrf];exact fun e=>Bool.noConfusion e.2)] at this;exact this
 | true=>
  have hf0:(footP file).1=0:=by
   have:=hrf;unfold rightF at this;rw [Bat] at this;exact odt this.2
  have hok:=decN_ok hf0;have hspl:spI (listP file)=(trailP file).1:=hok.2;have hFL:=hFL hf0;refine ifK_f rfl (h4.st 1 rfl (by show 5+1≤9;decide) fun u5 h5 _=>?_);have h5:At w F0 (((b2,tk0)::(b4,tkC file.length true (trailP file).1 (trailP file).2.1 sp true 0 nilS nilS)::(bt,[.int .i64 (trailP file).1,.int .i64 (trailP file).2.1])::Rp)++(bf,pairC P sI)::R) u5:=h5;have hBf:=h5.own (bf,pairC P sI) (by simp);refine hBf.ldK (k:=Ki) P rfl (hBf.ldK (k:=.sl) sI rfl (h5.st 1 rfl (by show 6+2≤9;decide) fun u6 h6 _=>?_));have h6:At w F0 ((b2,tk0)::(b4,tkC file.length true (trailP file).1 (trailP file).2.1 sp true P sI nilS)::(((bt,[.int .i64 (trailP file).1,.int .i64 (trailP file).2.1])::Rp)++(bf,pairC P sI)::R)) u6:=h6;have h6:At w F0 ((b4,tkC file.length true (trailP file).1 (trailP file).2.1 sp true P sI nilS)::(b2,tk0)::(bf,pairC P sI)::(((bt,[.int .i64 (trailP file).1,.int .i64 (trailP file).2.1])::Rp)++R)) u6:=h6.perm ((List.Perm.swap _ _ _).trans ((List.perm_middle.symm.cons _).cons _));refine take_blocks hf hfl hFL (fun q hq=>Lmr _ hq) (fun y hy=>chkI_mem (Bat _ _▸(footOk_chk hok.1):_∧_).2 y hy) (by omega) h6 fun u7 sB rows Rc Rb h7 hvb hmap hrecs hfew=>?_;have h7:At w F0 ((b2,tk0)::(b4,tkC file.length true (trailP file).1 (trailP file).2.1 sp true P sI sB)::((bf,pairC P sI)::(((bt,[.int .i64 (trailP file).1,.int .i64 (trailP file).2.1])::Rp)++R)++Rc++Rb)) u7:=h7.perm (List.Perm.swap _ _ _);refine take_ret h7 fun u' h'=>?_;have:=hK u' _ (trailP file).1 (trailP file).2.1 sp P sI sB rows (.of_at h') ⟨fun _=>⟨rfl,rfl⟩,by rw [if_pos q0];exact⟨Rp,hvp,fun q hq=>by simp [hq]⟩,⟨Rb,hvb,fun q hq=>by simp [hq]⟩,by rw [if_pos ⟨q0,hrf⟩];exact hmap,fun y hy=>(hrecs y hy).mono fun q hq=>by simp [hq],hfew⟩;rw [Dct q0,Dct ⟨q0,hrf⟩] at this;exact this
end
theorem _root_.Go.Vw.At.pushK{w0 w:World}{D:Nat→Prop}{m ro:BL}{α:Type}{E:Enc α}{s:Sl}{l:List α}(h:At w0 D (m++ro) w)(hv:VecL ro E s l)(y:α){e e2:TypeId}{n bytes:Nat}{zs cs:List LV}(hc:cs.map LV.toV=E.f y)(hn:n=E.n)(hz:zs.length=E.n)(hlim:(l.length+1025)*(bytes+1)≤2^46)
  {K:Sl→Wp} (hK:∀s' ro' w',At w0 D (m++ro') w'→VecL ro' E s' (l++[y])→K s' w'):Go.Vw.al w e cs fun b u'=>ap u' e2 n bytes zs s ⟨some (b,0),1,1⟩ K:=by
 refine h.alK fun b w1 _ h1 _=>?_;rw [hc] at h1;have hb:Blk w1 b (E.f y):=h1.own (b,_) (Lmr _ (Lms.2 rfl));exact appL (h1.sub (Lsl _ _)) hv (rd_one hb) hn hz (by simpa [Nat.add_assoc] using hlim) fun s' ro' w' h' v' _ _=>hK s' ro' w' h' v'
theorem nodup_sep{w0 w:World}{D:Nat→Prop}{m ro:BL}(h:At w0 D (m++ro) w){b:Nat}(hb:Ks m b):¬Ks ro b:=by
 rintro ⟨q,hq,e⟩;obtain⟨q',hq',e'⟩:=hb;have nd:=h.nodup;rw [List.map_append,List.nodup_append] at nd;exact nd.2.2 _ (List.mem_map_of_mem hq') _ (List.mem_map_of_mem hq) (by rw [e,e'])
theorem pagesP_len(file:Str)(e:Int):∀(n:Nat) (a:Int),(pagesP file e n a).length≤n
 | 0,_=>Nlr _
 | n+1,a=>by
  rw [pagesP_s];split
  ·rw [Llc];exact Nat.succ_le_succ (pagesP_len file e n _)
  ·exact Nzl _
theorem TakeR.ents{file:Str}{R:BL}{tb tp:Int}{sp sB:Sl}{rows:List (BlkP×Sl)}(h:TakeR file R tb tp sp sB rows):∀y∈rows,(recsB y.1).length≤65536:=fun y hy=>by
 have hm:y.1∈rows.map Prod.fst:=List.mem_map_of_mem hy;rw [h.eq] at hm;unfold recsB;rw [List.length_map];split at hm
 ·exact infosP_ents file _ _ y.1 hm
 ·cases hm
section
variable {w:World}{sf:Sl}{file:Str}
set_option maxHeartbeats 1000000 in
theorem rresc_ok(hf:RdS w ET sf file)(hfl:file.length≤1048576){K:Sl→Wp}(hK:∀w' s R,Fresh w w' F0 R→VecL R ERec s (rescR file)→K s w') :
  callK Tryz.prog c_29 [Az sf] w Oz K:=by
 refine go_29 _ _ _ ?_;refine apart_ok hf hfl fun u R tb tp sp P sI sB rows hF hT=>?_;refine At.alst hF.at_ (by rfl) fun b12 u1 h1=>?_;generalize hc:(List.map LV.toV [LV.int .i64 file.length,.bool (decide ((trailP file).2.2=0)),.int .i64 tb,.int .i64 tp,.sl sp,.bool (decide ((trailP file).2.2=0∧rightF file=true)),.int .i64 P,.sl sI,.sl sB])=c12 at h1;have hc8:c12[8]? = some (LV.sl sB).toV:=by rw [←hc];rfl
 have hfew:=hT.few;refine join1 (a:=.sl) (fun (l:Sl) v=>∃ro,At w F0 (((b12,c12)::R)++ro) v∧VecL ro ERec l (rows.flatMap fun y=>recsB y.1)) ?_ ?_
 ·intro k hk;refine loop2 (k1:=.sl) (k2:=Ki) (fun (l:Sl) (t:Int) v=>∃(i:Nat) (ro:BL),t=(i:Int)∧i≤rows.length∧At w F0 (((b12,c12)::R)++ro) v∧VecL ro ERec l ((rows.take i).flatMap fun y=>recsB y.1)∧((rows.take i).flatMap fun y=>recsB y.1).length≤65536*i)
   (fun _ t _=>(rows.length-t).toNat) (x1:=nilS) (x2:=0) rfl rfl ⟨0,[],rfl,Nzl _,by simpa using h1,VecL.nil ERec,Nzl _⟩ ?_
  rintro (l:Sl) (t:Int) v ⟨i,ro,rfl,hi,h,hv,hz⟩;have hB:=h.own (b12,c12) (by simp);have own:∀q∈R,Blk v q.1 q.2:=fun q hq=>h.own q (Lml _ (Lmc _ hq));have hrd:=hT.bl.rd own;refine hB.ldK (k:=.sl) sB hc8 ?_;rw [hrd.len];refine Iq (fun q=>?_) fun q=>?_;rotate_left
  ·have q:rows.length≤i:=dge q;rw [Ltl q] at hv;exact hk _ _ ⟨ro,h,hv⟩
  have q:i<rows.length:=dlt q;obtain⟨y,hy⟩:=Gq q;have hym:=Lmg hy;have hyl:=hT.ents y hym;have es:=step64 (i:=i) (by omega);have et:(rows.take (i+1)).flatMap (fun y=>recsB y.1)=(rows.take i).flatMap (fun y=>recsB y.1)++recsB y.1:=by rw [List.take_add_one,hy,List.flatMap_append];simp
  refine hB.ldK (k:=.sl) sB hc8 (hrd.ix rfl rfl hy fun b o _ hcc=>Lq (k:=.sl) y.2 (hcc 9 (by decide)) ?_);exact appL h hv ((hT.recs y hym).rd own) rfl rfl (by omega) fun s' ro' w' h' v' _ _=>⟨⟨i+1,ro',es,by omega,h',by rw [et];exact v',by rw [et,Lla];omega⟩,by rw [es];omega⟩
 rintro (l:Sl) v ⟨ro,h,hv⟩;have e:(rows.flatMap fun y=>recsB y.1)=rescR file:=by
  have:(rows.flatMap fun y=>recsB y.1)=(rows.map Prod.fst).flatMap recsB:=by rw [List.flatMap_map]
  rw [this,hT.eq];unfold rescR;by_cases h0:(trailP file).2.2=0<;>cases rightF file<;>simp [h0]
 rw [e] at hv;exact hK v l ro (Fresh.of_at (h.sub (Lsr _ _))) hv
set_option maxHeartbeats 4000000 in
theorem rlook_ok(hf:RdS w ET sf file)(hfl:file.length≤1048576){length:Int}{K:Sl→Wp}(hK:∀w' s R,Fresh w w' F0 R→VecL R EFnd s (lookR file length)→K s w') :
  callK Tryz.prog c_30 [Az sf,Ai length] w Oz K:=by
 refine go_30 _ _ _ _ ?_;refine apart_ok hf hfl fun u R tb tp sp P sI sB rows hF hT=>?_;refine At.alst hF.at_ (by rfl) fun b13 u1 h1=>?_;generalize hc:(List.map LV.toV [LV.int .i64 file.length,.bool (decide ((trailP file).2.2=0)),.int .i64 tb,.int .i64 tp,.sl sp,.bool (decide ((trailP file).2.2=0∧rightF file=true)),.int .i64 P,.sl sI,.sl sB])=c13 at h1;have hc0:c13[0]? = some (LV.int .i64 file.length).toV:=by rw [←hc];rfl
 have hc1:c13[1]? = some (LV.bool (decide ((trailP file).2.2=0))).toV:=by rw [←hc];rfl
 have hc2:c13[2]? = some (LV.int .i64 tb).toV:=by rw [←hc];rfl
 have hc3:c13[3]? = some (LV.int .i64 tp).toV:=by rw [←hc];rfl
 have hc4:c13[4]? = some (LV.sl sp).toV:=by rw [←hc];rfl
 have hc5:c13[5]? = some (LV.bool (decide ((trailP file).2.2=0∧rightF file=true))).toV:=by rw [←hc];rfl
 have hc8:c13[8]? = some (LV.sl sB).toV:=by rw [←hc];rfl
 clear hc;have hfew:=hT.few;have h0l:(fnd0 file length).length≤1:=by unfold fnd0;split<;>simp
 have done:∀{v:World} {ro:BL} {l:Sl} {L:List Fnd},At w F0 (((b13,c13)::R)++ro) v→VecL ro EFnd l L→L=lookR file length→K l v:=fun h hv e=>by
  rw [e] at hv;exact hK _ _ _ (Fresh.of_at (h.sub (Lsr _ _))) hv
 have h1:At w F0 (((b13,c13)::R)++[]) u1:=by rw [Lan];exact h1
 have hB:=h1.own (b13,c13) (by simp);refine hB.ldK (k:=Ki) (file.length:Int) hc0 ?_;refine join1 (a:=.sl) (fun (l:Sl) v=>∃ro,At w F0 (((b13,c13)::R)++ro) v∧VecL ro EFnd l (fnd0 file length)) ?_ ?_
 ·intro k hk;unfold fnd0 at hk;refine Iq (fun q=>?_) fun q=>?_
  ·have q:(file.length:Int)≠length:=by simpa using q
   rw [if_pos q] at hk;exact hB.ldK (k:=Ki) (file.length:Int) hc0 (h1.pushK (VecL.nil EFnd) ⟨0,0,file.length⟩ rfl rfl rfl (by decide) fun s' ro' w' h' v'=>hk _ _ ⟨ro',h',v'⟩)
  ·have q:¬(file.length:Int)≠length:=by simpa using q
   rw [if_neg q] at hk;exact hk _ _ ⟨[],h1,VecL.nil EFnd⟩
 rintro (l23:Sl) u2 ⟨ro,h2,hv2⟩;have hB:=h2.own (b13,c13) (by simp);refine hB.ldK (k:=.bool) (decide ((trailP file).2.2=0)) hc1 ?_;refine Iq (fun q=>?_) fun q=>?_
 ·have q:(trailP file).2.2≠0:=by simpa using q
  refine hB.ldK (k:=Ki) (file.length:Int) hc0 (hB.ldK (k:=Ki) (file.length:Int) hc0 ?_);have e24:mxI (w64 ((file.length:Int)-24)) 0=lastP file:=by rw [Wq (by omega) (by omega)];rfl
  rw [e24];exact h2.pushK hv2 ⟨1,lastP file,file.length⟩ rfl rfl rfl (by omega) fun s' ro' w' h' v'=>done h' v' (by unfold lookR;rw [if_pos q])
 have q0:(trailP file).2.2=0:=by simpa using q
 obtain⟨rfl,rfl⟩:=hT.tr q0;have hpg:=hT.pg;rw [if_pos q0] at hpg;have hpl:(pgsP file).length≤5000:=pagesP_len _ _ _ _;refine join1 (a:=.sl) (fun (l:Sl) v=>∃ro,At w F0 (((b13,c13)::R)++ro) v∧VecL ro EFnd l (fnd0 file length++(pgsP file).flatMap fndG)∧(fnd0 file length++(pgsP file).flatMap fndG).length≤1+5000) ?_ ?_
 ·intro k hk;refine loop2 (k1:=.sl) (k2:=Ki) (fun (l:Sl) (t:Int) v=>∃(i:Nat) (ro:BL),t=(i:Int)∧i≤(pgsP file).length∧At w F0 (((b13,c13)::R)++ro) v∧VecL ro EFnd l (fnd0 file length++((pgsP file).take i).flatMap fndG)∧(fnd0 file length++((pgsP file).take i).flatMap fndG).length≤1+i)
   (fun _ t _=>((pgsP file).length-t).toNat) (x1:=l23) (x2:=0) rfl rfl ⟨0,ro,rfl,Nzl _,h2,by simpa using hv2,by simpa using h0l⟩ ?_
  clear hv2 h2 hB ro;rintro (l:Sl) (t:Int) v ⟨i,ro,rfl,hi,h,hv,hz⟩;have hB:=h.own (b13,c13) (by simp);have own:∀q∈R,Blk v q.1 q.2:=fun q hq=>h.own q (Lml _ (Lmc _ hq));have hrd:=hpg.rd own;refine hB.ldK (k:=.sl) sp hc4 ?_;rw [hrd.len];refine Iq (fun q=>?_) fun q=>?_;rotate_left
  ·have q:(pgsP file).length≤i:=dge q;rw [Ltl q] at hv hz;exact hk _ _ ⟨ro,h,hv,by omega⟩
  have q:i<(pgsP file).length:=dlt q;obtain⟨y,hy⟩:=Gq q;have es:=step64 (i:=i) (by omega);have et:((pgsP file).take (i+1)).flatMap fndG=((pgsP file).take i).flatMap fndG++fndG y:=by rw [List.take_add_one,hy,List.flatMap_append];simp
  refine hB.ldK (k:=.sl) sp hc4 (hrd.ix rfl rfl hy fun b o _ hcc=>Lq (k:=.bool) y.ok (hcc 2 (by decide)) ?_);refine join1 (a:=.sl) (fun (l:Sl) v=>∃ro,At w F0 (((b13,c13)::R)++ro) v∧VecL ro EFnd l (fnd0 file length++((pgsP file).take (i+1)).flatMap fndG)∧(fnd0 file length++((pgsP file).take (i+1)).flatMap fndG).length≤1+(i+1)) ?_ ?_
  ·intro k hk;rw [et,←Laa] at hk
   cases hok:y.ok with
   | true=>
    have ef:fndG y=[]:=if_pos hok;rw [ef,Lan] at hk;exact ifK_f rfl (hk _ _ ⟨ro,h,hv,by omega⟩)
   | false=>
    have ef:fndG y=[⟨2,y.frm,y.to⟩]:=if_neg (by rw [hok];decide);rw [ef] at hk;refine ifK_t rfl ?_;have hd:=h.keep0 (Mq v) fun _=>id;have hBd:=hd.own (b13,c13) (by simp);have nB:¬Ks ro b13:=nodup_sep hd ⟨(b13,c13),Lcs ..,rfl⟩;have nP:∀b,rk sp b→¬Ks ro b:=fun b hb=>nodup_sep hd (by obtain⟨q,hq,e⟩:=hpg.key hb;exact⟨q,Lmc _ hq,e⟩);have hrdd:RdS v.drew EPg sp (pgsP file):=hpg.rd fun q hq=>hd.own q (Lml _ (Lmc _ hq));refine⟨Ks ro,hBd.ldDK (k:=.sl) sp nB hc4 (hrdd.ix rfl rfl hy fun b o hb1 hcc=>Lw (k:=Ki) y.frm (nP b hb1) (hcc 0 (by decide)) (hBd.ldDK (k:=.sl) sp nB hc4 (hrdd.ix rfl rfl hy fun b o hb1 hcc=>Lw (k:=Ki) y.to (nP b hb1) (hcc 1 (by decide)) ?_)))⟩;refine hd.alK fun b52 w3 _ h3 M3=>⟨M3.mono (fun _ _ h=>h.elim),?_⟩;have hb:Blk w3 b52 (EFnd.f ⟨2,y.frm,y.to⟩):=h3.own (b52,_) (Lmr _ (Lms.2 rfl));exact appL (h3.sub (Lsl _ _)) hv (rd_one hb) rfl rfl (by simp at hz ⊢;omega) fun s' ro' w4 h5 v5 M5 _=>⟨(M3.mono (fun _ _ h=>h.elim)).trans M5 (fun _ _ h=>h) fun _ _ h=>h,hk _ _ ⟨ro',h5,v5,by rw [Lla,List.length_singleton];omega⟩⟩
  rintro (l':Sl) v' ⟨ro',h',hv',hz'⟩;exact⟨⟨i+1,ro',es,by omega,h',hv',hz'⟩,by rw [es];omega⟩
 rintro (l58:Sl) u3 ⟨ro3,h3,hv3,hz3⟩;rw [hv2.1,hv3.1,Lla];refine Iq (fun q=>?_) fun q=>?_
 ·have q:(fnd0 file length).length<(fnd0 file length).length+((pgsP file).flatMap fndG).length:=by have:=odt q;omega
  refine done h3 hv3 ?_;have hr0:rightP0 file=false:=by
   cases hr:rightP0 file with
   | false=>rfl
   | true=>rw [fndG_all (ps:=pgsP file) hr] at q;simp at q
  unfold lookR;rw [if_neg (fun e=>e q0),if_pos hr0]
 have q:¬(fnd0 file length).length<(fnd0 file length).length+((pgsP file).flatMap fndG).length:=by have:=odf q;omega
 have hg:(pgsP file).flatMap fndG=[]:=List.eq_nil_of_length_eq_zero (by omega);have hr0:rightP0 file=true:=by
  cases hr:rightP0 file with
  | true=>rfl
  | false=>have:=fndG_any (ps:=pgsP file) hr;rw [hg] at this;cases this
 rw [hg,Lan] at hv3;have hB:=h3.own (b13,c13) (by simp);refine hB.ldK (k:=.bool) (decide ((trailP file).2.2=0∧rightF file=true)) hc5 ?_;refine Iq (fun q=>?_) fun q=>?_
 ·have hrf:rightF file=false:=by
   cases hr:rightF file with
   | false=>rfl
   | true=>rw [Dct ⟨q0,hr⟩] at q;cases q
  have ht:trailOk (trailP file).1 (trailP file).2.1=true∧(trailP file).1+(trailP file).2.1+24=file.length:=trailN_0 q0;have ht1:=odt ht.1;have ew:w64 ((trailP file).1+(trailP file).2.1)=endP file:=Wq (by omega) (by omega);refine hB.ldK (k:=Ki) (trailP file).1 hc2 (hB.ldK (k:=Ki) (trailP file).1 hc2 (hB.ldK (k:=Ki) (trailP file).2.1 hc3 ?_));rw [ew];exact h3.pushK hv3 ⟨3,(trailP file).1,endP file⟩ rfl rfl rfl (by omega) fun s' ro' w' h' v'=>done h' v' (by unfold lookR;rw [if_neg (fun e=>e q0),if_neg (by rw [hr0];decide),if_pos hrf])
 have hrf:rightF file=true:=by
  cases hr:rightF file with
  | true=>rfl
  | false=>rw [Dcf (by rw [hr];exact fun e=>Bool.noConfusion e.2)] at q;cases q
 have heq:=hT.eq;rw [if_pos ⟨q0,hrf⟩] at heq;have hlk:lookR file length=fnd0 file length++rows.flatMap fun y=>fndB y.1:=by
  unfold lookR;rw [if_neg (fun e=>e q0),if_neg (by rw [hr0];decide),if_neg (by rw [hrf];decide),←heq,List.flatMap_map]
 refine join1 (a:=.sl) (fun (l:Sl) v=>∃ro,At w F0 (((b13,c13)::R)++ro) v∧VecL ro EFnd l (fnd0 file length++rows.flatMap fun y=>fndB y.1)) ?_ (by rintro l v ⟨ro,h,hv⟩;exact done h hv hlk.symm);intro k hk;refine loop2 (k1:=.sl) (k2:=Ki) (fun (l:Sl) (t:Int) v=>∃(i:Nat) (ro:BL),t=(i:Int)∧i≤rows.length∧At w F0 (((b13,c13)::R)++ro) v∧VecL ro EFnd l (fnd0 file length++(rows.take i).flatMap fun y=>fndB y.1)∧(fnd0 file length++(rows.take i).flatMap fun y=>fndB y.1).length≤1+i)
  (fun _ t _=>(rows.length-t).toNat) (x1:=l58) (x2:=0) rfl rfl ⟨0,ro3,rfl,Nzl _,h3,by simpa using hv3,by simpa using h0l⟩ ?_
 clear hv3 h3 hB hv2 h2 h1;rintro (l:Sl) (t:Int) v ⟨i,ro,rfl,hi,h,hv,hz⟩;have hB:=h.own (b13,c13) (by simp);have own:∀q∈R,Blk v q.1 q.2:=fun q hq=>h.own q (Lml _ (Lmc _ hq));have hrd:=hT.bl.rd own;refine hB.ldK (k:=.sl) sB hc8 ?_;rw [hrd.len];refine Iq (fun q=>?_) fun q=>?_;rotate_left
 ·have q:rows.length≤i:=dge q;rw [Ltl q] at hv;exact hk _ _ ⟨ro,h,hv⟩
 have q:i<rows.length:=dlt q;obtain⟨⟨y,s⟩,hy⟩:=Gq q;have es:=step64 (i:=i) (by omega);have et:(rows.take (i+1)).flatMap (fun y=>fndB y.1)=(rows.take i).flatMap (fun y=>fndB y.1)++fndB y:=by rw [List.take_add_one,hy,List.flatMap_append];simp
 refine hB.ldK (k:=.sl) sB hc8 (hrd.ix rfl rfl hy fun b o _ hcc=>Lq (k:=Ki) y.frm (hcc 0 (by decide)) (Lq (k:=Ki) y.to (hcc 1 (by decide)) (Lq (k:=Ki) y.info.stored (hcc 2 (by decide)) (Lq (k:=Ki) y.info.raw (hcc 3 (by decide)) (Lq (k:=Ki) y.info.count (hcc 4 (by decide)) (Lq (k:=.str) y.info.cut (hcc 5 (by decide)) (Lq (k:=Ki) y.part (hcc 6 (by decide)) (Lq (k:=Ki) y.how (hcc 7 (by decide)) (Lq (k:=Ki) (y.flag:Int) (hcc 8 (by decide)) (Lq (k:=.sl) s (hcc 9 (by decide)) ?_))))))))));refine At.alst h (by rfl) fun b87 v1 h1=>?_;have h1:At w F0 (((b87,bkC y s)::(b13,c13)::R)++ro) v1:=h1;have hB1:=h1.own (b87,bkC y s) (by simp);have fin:∀{l':Sl} {ro':BL} {v':World},At w F0 (((b87,bkC y s)::(b13,c13)::R)++ro') v'→VecL ro' EFnd l' (fnd0 file length++(rows.take (i+1)).flatMap fun y=>fndB y.1)→(fnd0 file length++(rows.take (i+1)).flatMap fun y=>fndB y.1).length≤1+(i+1) →
   (∃(i2:Nat) (ro:BL),w64 ((i:Int)+1)=(i2:Int)∧i2≤rows.length∧At w F0 (((b13,c13)::R)++ro) v'∧VecL ro EFnd l' (fnd0 file length++(rows.take i2).flatMap fun y=>fndB y.1)∧(fnd0 file length++(rows.take i2).flatMap fun y=>fndB y.1).length≤1+i2)∧((rows.length:Int)-w64 ((i:Int)+1)).toNat<((rows.length:Int)-(i:Int)).toNat:=fun h' v' hz'=>
  ⟨⟨i+1,_,es,by omega,h'.sub (List.sublist_cons_self _ _),v',hz'⟩,by rw [es];omega⟩
 rw [et,←Laa] at fin;refine hB1.ldK (k:=Ki) y.how rfl ?_;refine join1 (a:=.sl) (fun (l:Sl) v=>∃ro,At w F0 (((b87,bkC y s)::(b13,c13)::R)++ro) v∧VecL ro EFnd l ((fnd0 file length++(rows.take i).flatMap fun y=>fndB y.1)++if y.how=1 then [⟨4,y.frm,y.to⟩] else [])) ?_ ?_
 ·intro k hk;refine Iq (fun q=>?_) fun q=>?_
  ·have q:y.how=1:=odt q;rw [if_pos q] at hk;exact hB1.ldK (k:=Ki) y.frm rfl (hB1.ldK (k:=Ki) y.to rfl (h1.pushK hv ⟨4,y.frm,y.to⟩ rfl rfl rfl (by omega) fun s' ro' w' h' v'=>hk _ _ ⟨ro',h',v'⟩))
  ·have q:¬y.how=1:=odf q;rw [if_neg q,Lan] at hk;exact hk _ _ ⟨ro,h1,hv⟩
 rintro (l2:Sl) v2 ⟨ro2,h2,hv2⟩;have hB2:=h2.own (b87,bkC y s) (by simp);refine hB2.ldK (k:=Ki) y.how rfl ?_;refine join1 (a:=.sl) (fun (l:Sl) v=>∃ro,At w F0 (((b87,bkC y s)::(b13,c13)::R)++ro) v∧VecL ro EFnd l ((fnd0 file length++(rows.take i).flatMap fun y=>fndB y.1)++fndB y)) ?_ ?_
 ·intro k hk;unfold fndB at hk;refine Iq (fun q=>?_) fun q=>?_
  ·have q:y.how=2:=odt q;have n1:¬y.how=1:=by omega
   rw [if_neg n1,if_pos q] at hk;rw [if_neg n1,Lan] at hv2;exact hB2.ldK (k:=Ki) y.frm rfl (hB2.ldK (k:=Ki) y.to rfl (h2.pushK hv2 ⟨5,y.frm,y.to⟩ rfl rfl rfl (by omega) fun s' ro' w' h' v'=>hk _ _ ⟨ro',h',v'⟩))
  ·have q:¬y.how=2:=odf q;rw [if_neg q] at hk;exact hk _ _ ⟨ro2,h2,hv2⟩
 rintro (l3:Sl) v3 ⟨ro4,h4,hv4⟩;have hb1:(fndB y).length≤1:=by unfold fndB;split<;>(try split)<;>simp
 exact fin h4 hv4 (by rw [Lla];omega)
end
end Go.Proofs.YtkgligdkihlfaaaGreat
namespace Go.Proofs.YtkgligdkihlfaaaGreat
open Go.Vw
set_option maxRecDepth 100000
theorem go_31(b1:Sl)(K:Sl→Wp)(w:World)(h:mk w 5 1 [.int .u8 0] (w64 ((b1.len:Int)+64)) (w64 ((b1.len:Int)+64)) fun a2 W3=>joinK [] (fun k4=>loopL [Ki] (fun i6 W7 g5=>ifK (decide (i6<(a2.len:Int))) (ix a2 1 i6 fun b8 o9=>st W7 b8 o9 [.int .u8 165] fun W10=>joinK [] (fun k11=>ifK (decide (i6<(b1.len:Int))) (ix b1 1 i6 fun b12 o13=>ld W10 (.int .u8) b12 o13 fun n14=>ix a2 1 i6 fun b15 o16=>st W10 b15 o16 [.int .u8 n14] fun W17=>k11 W17) (k11 W10)) fun W18=>g5 (w64 (i6+1)) W18) (k4 W7)) [.int .i64 0] W3) fun W19=>K a2 W19):callK Pg 5 [Az b1] w Oz K:=Fq (n:=(n0 .nil (n0 .nil (n0 (n0 .nil (.mk (some []) [] [3] .done (.mk none [.tmp 4 Li] [0,3] .done (n0 .nil (n0 (n0 (n0 .nil (n0 .nil (.mk (some []) [] [0,3,4] .done .nil .nil))) .nil) .nil)) .nil) .nil)) .nil)))) CS_ok mixed Tryz.func5 (Eq.mpr (by kernel_rfl) h)
theorem go_32(a1:Sl)(b2:Sl)(K:Bool→Wp)(w:World)(h:ifK ((a1.len:Int) != (b2.len:Int)) (K false w) (joinK [] (fun k3=>loopL [Ki] (fun i5 W6 g4=>ifK (decide (i5<(a1.len:Int))) (drawK W6 fun D W7=>ix a1 1 i5 fun b8 o9=>ldD D W7 (.int .u8) b8 o9 fun n10=>ix b2 1 i5 fun b11 o12=>ldD D W7 (.int .u8) b11 o12 fun n13=>ifK (n10 != n13) (K false W7) (g4 (w64 (i5+1)) W7)) (k3 W6)) [.int .i64 0] w) fun W14=>K true W14)):callK Pg 9 [Az a1,Az b2] w Ob K:=Fq (n:=(n0 .nil (n0 .nil (n0 (n0 .nil (.mk (some []) [] [] .done (.mk none [.tmp 5 Li] [0,1] .done (n0 .nil (n0 (n0 (n0 (.mk none [] [] (tk [0,1,2,3,4,5,6,7,8] .done) .nil .nil) .nil) .nil) .nil)) .nil) .nil)) .nil)))) CS_ok mixed Tryz.func9 (Eq.mpr (by kernel_rfl) h)
theorem go_33(a1:Sl)(b2:Sl)(K:Bool→Wp)(w:World)(h:ifK ((a1.len:Int) != (b2.len:Int)) (K false w) (joinK [] (fun k3=>loopL [Ki] (fun i5 W6 g4=>ifK (decide (i5<(a1.len:Int))) (drawK W6 fun D W7=>ix a1 3 i5 fun b8 o9=>ldD D W7 Ki b8 o9 fun n10=>ldD D W7 Ki b8 (o9+1) fun n11=>ldD D W7 Ki b8 (o9+2) fun n12=>ix b2 3 i5 fun b13 o14=>ldD D W7 Ki b13 o14 fun n15=>ldD D W7 Ki b13 (o14+1) fun n16=>ldD D W7 Ki b13 (o14+2) fun n17=>opF Pg (vS (do eqGuard .neq 34 (.tmp 20) (.tmp 24) (.agg #[(LV.toV (.int .i64 n10)),(LV.toV (.int .i64 n11)),(LV.toV (.int .i64 n12))]) (.agg #[(LV.toV (.int .i64 n15)),(LV.toV (.int .i64 n16)),(LV.toV (.int .i64 n17))]);binOp .neq 34 (.agg #[(LV.toV (.int .i64 n10)),(LV.toV (.int .i64 n11)),(LV.toV (.int .i64 n12))]) (.agg #[(LV.toV (.int .i64 n15)),(LV.toV (.int .i64 n16)),(LV.toV (.int .i64 n17))]))) W7 Ob fun c19 W18=>Mod D W7 W18∧ifK c19 (K false W18) (g4 (w64 (i5+1)) W18)) (k3 W6)) [.int .i64 0] w) fun W20=>K true W20)):callK Pg 13 [Az a1,Az b2] w Ob K:=Fq (n:=(n0 .nil (n0 .nil (n0 (n0 .nil (.mk (some []) [] [] .done (.mk none [.tmp 5 Li] [0,1] .done (n0 .nil (n0 (n0 (n0 (.mk none [] [] (tk [0,1,2,3,4,5,6,7] (.eff 8 .done)) .nil .nil) .nil) .nil) .nil)) .nil) .nil)) .nil)))) CS_ok mixed Tryz.func13 (Eq.mpr (by kernel_rfl) h)
theorem go_34(a1:Sl)(b2:Sl)(K:Bool→Wp)(w:World)(h:ifK ((a1.len:Int) != (b2.len:Int)) (K false w) (joinK [] (fun k3=>loopL [Ki] (fun i5 W6 g4=>ifK (decide (i5<(a1.len:Int))) (drawK W6 fun D W7=>ix a1 3 i5 fun b8 o9=>ldD D W7 Ki b8 o9 fun n10=>ldD D W7 .str b8 (o9+1) fun s11=>ldD D W7 .str b8 (o9+2) fun s12=>ix b2 3 i5 fun b13 o14=>ldD D W7 Ki b13 o14 fun n15=>ldD D W7 .str b13 (o14+1) fun s16=>ldD D W7 .str b13 (o14+2) fun s17=>opF Pg (vS (do eqGuard .neq 27 (.tmp 20) (.tmp 24) (.agg #[(LV.toV (.int .i64 n10)),(LV.toV (.str s11)),(LV.toV (.str s12))]) (.agg #[(LV.toV (.int .i64 n15)),(LV.toV (.str s16)),(LV.toV (.str s17))]);binOp .neq 27 (.agg #[(LV.toV (.int .i64 n10)),(LV.toV (.str s11)),(LV.toV (.str s12))]) (.agg #[(LV.toV (.int .i64 n15)),(LV.toV (.str s16)),(LV.toV (.str s17))]))) W7 Ob fun c19 W18=>Mod D W7 W18∧ifK c19 (K false W18) (g4 (w64 (i5+1)) W18)) (k3 W6)) [.int .i64 0] w) fun W20=>K true W20)):callK Pg 8 [Az a1,Az b2] w Ob K:=Fq (n:=(n0 .nil (n0 .nil (n0 (n0 .nil (.mk (some []) [] [] .done (.mk none [.tmp 5 Li] [0,1] .done (n0 .nil (n0 (n0 (n0 (.mk none [] [] (tk [0,1,2,3,4,5,6,7] (.eff 8 .done)) .nil .nil) .nil) .nil) .nil)) .nil) .nil)) .nil)))) CS_ok mixed Tryz.func8 (Eq.mpr (by kernel_rfl) h)
theorem go_35(b1:Sl)(K:Sl→Wp)(w:World)(h:joinK [] (fun k2=>ifK (decide (0<(b1.len:Int))) (ix b1 1 (w64 ((b1.len:Int).tdiv 3)) fun b3 o4=>ld w (.int .u8) b3 o4 fun n5=>ix b1 1 (w64 ((b1.len:Int).tdiv 3)) fun b6 o7=>st w b6 o7 [.int .u8 (bitI .xor .u8 n5 1)] fun W8=>k2 W8) (k2 w)) fun W9=>K b1 W9):callK Pg 10 [Az b1] w Oz K:=Fq (n:=(n0 .nil (n0 (n0 .nil (.mk (some []) [] [0] .done .nil .nil)) .nil))) CS_ok mixed Tryz.func10 (Eq.mpr (by kernel_rfl) h)
theorem go_36(file1:Sl)(K:Bool→Wp)(w:World)(h:callK Pg 5 [Az file1] w Oz fun a2 W3=>slx a2 1 none (some (file1.len:Int)) none fun s4=>callK Pg 6 [Az s4] W3 Oz fun a5 W6=>slx a2 1 none (some (file1.len:Int)) none fun s7=>callK Pg 6 [Az s7] W6 Oz fun a8 W9=>joinK [] (fun k10=>loopL [Ki] (fun i12 W13 g11=>ifK (decide (i12<(a5.len:Int))) (ix a5 3 i12 fun b14 o15=>st W13 b14 o15 [.int .i64 (-7),.str [],.str []] fun W16=>g11 (w64 (i12+1)) W16) (k10 W13)) [.int .i64 0] W9) fun W17=>joinK [.sl] (fun k18=>loopL [.sl,Ki] (fun a20 i21 W22 g19=>ifK (decide (i21<64)) (al W22 27 [.int .i64 (-8),.str [],.str []] fun b23 W24=>ap W24 27 3 40 [.int .i64 0,.str [],.str []] a20 (⟨some (b23,0),1,1⟩) fun a25 W26=>g19 a25 (w64 (i21+1)) W26) (k18 a20 W22)) [.sl a5,.int .i64 0] W17) fun a27 W28=>callK Pg 7 [Az file1] W28 Oz fun a29 W30=>joinK [.bool] (fun k31=>callK Pg 8 [Az a8,Az a29] W30 Ob fun c32 W33=>ifK (!c32) (k31 true W33) (ifK ((a27.len:Int) != (w64 ((a29.len:Int)+64))) (k31 true W33) (callK Pg 5 [Az file1] W33 Oz fun a34 W35=>callK Pg 9 [Az a2,Az a34] W35 Ob fun c36 W37=>k31 (!c36) W37))) fun t6038 W39=>ifK t6038 (K false W39) (slx a2 1 none (some (file1.len:Int)) none fun s40=>callK Pg 10 [Az s40] W39 Oz fun a41 W42=>callK Pg 6 [Az a41] W42 Oz fun a43 W44=>joinK [.bool] (fun k45=>callK Pg 5 [Az file1] W44 Oz fun a46 W47=>slx a46 1 none (some (file1.len:Int)) none fun s48=>callK Pg 10 [Az s48] W47 Oz fun a49 W50=>callK Pg 7 [Az a49] W50 Oz fun a51 W52=>callK Pg 8 [Az a43,Az a51] W52 Ob fun c53 W54=>ifK c53 (callK Pg 8 [Az a8,Az a29] W54 Ob fun c55 W56=>k45 c55 W56) (k45 false W54)) fun t257 W58=>K t257 W58)):callK Pg 3 [Az file1] w Ob K:=Fq (n:=(n0 .nil (n0 .nil (n0 .nil (n0 .nil (n0 (n0 .nil (.mk (some []) [] [0,3,4,5] .done (.mk none [.tmp 6 Li] [0,3,4,5] .done .nil .nil) .nil)) (n0 (n0 .nil (.mk (some [.tmp 4 Ls]) [] [0,3,5] .done (.mk none [.tmp 4 Ls,.tmp 7 Li] [0,3,5] .done .nil .nil) .nil)) (n0 .nil (n0 (n0 (.mk (some [.tmp 60 Lb]) [] [0,3,5,8] .done .nil .nil) .nil) (n0 .nil (n0 (.mk (some [.tmp 2 Lb]) [] [] .done .nil .nil) .nil))))))))))) CS_ok mixed Tryz.func3 (Eq.mpr (by kernel_rfl) h)
theorem go_37(file1:Sl)(length2:Int)(K:Bool→Wp)(w:World)(h:callK Pg 5 [Az file1] w Oz fun a3 W4=>slx a3 1 none (some (file1.len:Int)) none fun s5=>callK Pg 11 [Az s5,Ai length2] W4 Oz fun a6 W7=>slx a3 1 none (some (file1.len:Int)) none fun s8=>callK Pg 11 [Az s8,Ai length2] W7 Oz fun a9 W10=>joinK [] (fun k11=>loopL [Ki] (fun i13 W14 g12=>ifK (decide (i13<(a6.len:Int))) (ix a6 3 i13 fun b15 o16=>st W14 b15 o16 [.int .i64 77,.int .i64 0,.int .i64 0] fun W17=>g12 (w64 (i13+1)) W17) (k11 W14)) [.int .i64 0] W10) fun W18=>joinK [.sl] (fun k19=>loopL [.sl,Ki] (fun a21 i22 W23 g20=>ifK (decide (i22<64)) (al W23 34 [.int .i64 78,.int .i64 0,.int .i64 0] fun b24 W25=>ap W25 34 3 24 [.int .i64 0,.int .i64 0,.int .i64 0] a21 (⟨some (b24,0),1,1⟩) fun a26 W27=>g20 a26 (w64 (i22+1)) W27) (k19 a21 W23)) [.sl a6,.int .i64 0] W18) fun a28 W29=>callK Pg 12 [Az file1,Ai length2] W29 Oz fun a30 W31=>joinK [.bool] (fun k32=>callK Pg 13 [Az a9,Az a30] W31 Ob fun c33 W34=>ifK (!c33) (k32 true W34) (ifK ((a28.len:Int) != (w64 ((a30.len:Int)+64))) (k32 true W34) (callK Pg 5 [Az file1] W34 Oz fun a35 W36=>callK Pg 9 [Az a3,Az a35] W36 Ob fun c37 W38=>k32 (!c37) W38))) fun t6539 W40=>ifK t6539 (K false W40) (slx a3 1 none (some (file1.len:Int)) none fun s41=>callK Pg 10 [Az s41] W40 Oz fun a42 W43=>callK Pg 11 [Az a42,Ai length2] W43 Oz fun a44 W45=>joinK [.bool] (fun k46=>callK Pg 5 [Az file1] W45 Oz fun a47 W48=>slx a47 1 none (some (file1.len:Int)) none fun s49=>callK Pg 10 [Az s49] W48 Oz fun a50 W51=>callK Pg 12 [Az a50,Ai length2] W51 Oz fun a52 W53=>callK Pg 13 [Az a44,Az a52] W53 Ob fun c54 W55=>ifK c54 (callK Pg 13 [Az a9,Az a30] W55 Ob fun c56 W57=>k46 c56 W57) (k46 false W55)) fun t458 W59=>K t458 W59)):callK Pg 4 [Az file1,Ai length2] w Ob K:=Fq (n:=(n0 .nil (n0 .nil (n0 .nil (n0 .nil (n0 (n0 .nil (.mk (some []) [] [0,1,5,6,7] .done (.mk none [.tmp 8 Li] [0,1,5,6,7] .done .nil .nil) .nil)) (n0 (n0 .nil (.mk (some [.tmp 6 Ls]) [] [0,1,5,7] .done (.mk none [.tmp 6 Ls,.tmp 9 Li] [0,1,5,7] .done .nil .nil) .nil)) (n0 .nil (n0 (n0 (.mk (some [.tmp 65 Lb]) [] [0,1,5,7,10] .done .nil .nil) .nil) (n0 .nil (n0 (.mk (some [.tmp 4 Lb]) [] [] .done .nil .nil) .nil))))))))))) CS_ok mixed Tryz.func4 (Eq.mpr (by kernel_rfl) h)
end Go.Proofs.YtkgligdkihlfaaaGreat
namespace Go.Proofs.YtkgligdkihlfaaaGreat
open Go.Vw
open Go
theorem blksP_len(file:Str)(part:Int):∀(l:List BI) (at_:Int) (last:Str) (some_:Bool),(blksP file part l at_ last some_).length=l.length
 | [],_,_,_=>rfl
 | b::r,at_,last,some_=>by rw [blksP_cons,Llc,Llc,blksP_len file part r]
theorem infosP_len(file:Str):∀(l:List PartI) (at_:Int),(∀x∈l,chkB x.blocks []=true)→6*(((infosP file l at_).flatMap (fun x=>x.2)).length:Int)≤spI l
 | [],_,_=>Int.le_refl _
 | x::r,at_,h=>by
  have e:(infosP file (x::r) at_).flatMap (fun x=>x.2)=blksP file x.part x.blocks at_ [] false++(infosP file r (at_+spB x.blocks)).flatMap (fun x=>x.2):=rfl;have h1:=infosP_len file r (at_+spB x.blocks) fun y hy=>h y (Lmc _ hy);have h2:=spB_6 (chkB_mem (h x (Lcs ..)));rw [e,Lla,blksP_len,spI];omega
theorem blocks_few{file:Str}(hq:(trailP file).2.2=0)(hr:rightF file=true):6*((blocksOfP file).length:Int)≤file.length:=by
 have hf0:(footP file).1=0:=by unfold rightF at hr;rw [Bat] at hr;exact odt hr.2
 have hok:=decN_ok hf0;have ht:trailOk (trailP file).1 (trailP file).2.1=true∧(trailP file).1+(trailP file).2.1+24=file.length:=trailN_0 hq;have ht1:=odt ht.1;have h:=infosP_len file (listP file) 0 fun y hy=>chkI_mem (Bat _ _▸(footOk_chk hok.1):_∧_).2 y hy;have hs:spI (listP file)=(trailP file).1:=hok.2;unfold blocksOfP;omega
theorem flat_le{α β:Type}{f:α→List β}{n:Nat}:∀{l:List α},(∀x∈l,(f x).length≤n)→(l.flatMap f).length≤n*l.length
 | [],_=>Nzl _
 | x::l,h=>by
  have h1:=h x (Lcs ..);have h2:=flat_le (f:=f) (n:=n) (l:=l) fun y hy=>h y (Lmc _ hy);rw [List.flatMap_cons,Lla,Llc,Nat.mul_add];omega
theorem rescR_len{file:Str}(hl:file.length≤1048576):(rescR file).length≤68719476736:=by
 unfold rescR;split
 ·exact Nzl _
 split
 ·exact Nzl _
 rename_i h1 h2;have h:=blocks_few (Decidable.not_not.1 h1) (by simpa using h2);have h3:=flat_le (f:=recsB) (n:=65536) (l:=blocksOfP file) fun x hx=>by
  unfold recsB;rw [List.length_map];exact infosP_ents file _ _ x hx
 omega
theorem lookR_len{file:Str}(hl:file.length≤1048576)(length:Int):(lookR file length).length≤1048576:=by
 have h0:(fnd0 file length).length≤1:=by unfold fnd0;split<;>simp
 unfold lookR;split
 ·rw [Lla];simp;omega
 split
 ·have h:=flat_le (f:=fndG) (n:=1) (l:=pgsP file) fun x _=>by unfold fndG;split<;>simp
  have:(pgsP file).length≤5000:=pagesP_len _ _ _ _;rw [Lla];omega
 split
 ·rw [Lla];simp;omega
 ·rename_i h1 _ h2;have h:=blocks_few (Decidable.not_not.1 h1) (by simpa using h2);have h3:=flat_le (f:=fndB) (n:=1) (l:=blocksOfP file) fun x _=>by unfold fndB;split<;>(try split)<;>simp
  rw [Lla];omega
def tailP:Str:=List.replicate 64 165
def roomP(file:Str):Str:=file++tailP
def turnP(file:Str):Str:=if 0<file.length then file.set (file.length/3) (file.getD (file.length/3) 0 ^^^ 1) else file
theorem turnP_len(file:Str):(turnP file).length=file.length:=by unfold turnP;split<;>simp
theorem xor8(x:UInt8):bitI .xor .u8 (x.toNat:Int) 1=((x ^^^ 1).toNat:Int):=by
 have h:∀i:Fin 256,bitI .xor .u8 (((UInt8.ofNat i.val).toNat:Nat):Int) 1=(((UInt8.ofNat i.val) ^^^ 1).toNat:Int):=by decide +kernel
 have:=h ⟨x.toNat,x.toNat_lt⟩;simpa using this
theorem VecL.some_p{α:Type}{ro:BL}{E:Enc α}{s:Sl}{l:List α}(h:VecL ro E s l)(hl:0<l.length):∃b,s.p=some (b,0):=by
 rcases h.2.2 with⟨_,_,h0⟩ | ⟨b,_,_,hp,_⟩
 ·have h1:=h.1;have h2:=h.2.1;omega
 ·exact⟨b,hp⟩
section
variable {w:World}{sf:Sl}{file:Str}
set_option maxHeartbeats 1000000 in
theorem roomy_ok{w0:World}{m:BL}(hA:At w0 F0 m w)(hf:RdS w0 ET sf file)(hfl:file.length≤1048576){K:Sl→Wp}(hK:∀w' s ro,At w0 F0 (m++ro) w'→VecL ro ET s (roomP file)→K s w') :
  callK Tryz.prog c_31 [Az sf] w Oz K:=by
 refine go_31 _ _ _ ?_;have hrl:(roomP file).length=file.length+64:=by unfold roomP tailP;rw [Lla,List.length_replicate]
 rw [hf.len];have e64:w64 ((file.length:Int)+64)=((file.length+64:Nat):Int):=by rw [Wq (by omega) (by omega)];omega
 rw [e64];refine makeL hA ET (0:UInt8) (file.length+64) rfl rfl (by omega) (by omega) fun s ro w1 h1 v1 _=>?_;refine join0 (fun u=>∃ro,At w0 F0 (m++ro) u∧VecL ro ET s (roomP file)) ?_ (by rintro u ⟨ro,h,v⟩;exact hK u s ro h v);intro k hk;refine loop1 (k:=Ki) (fun (i:Int) u=>∃(j:Nat) (ro:BL),i=(j:Int)∧j≤(roomP file).length∧At w0 F0 (m++ro) u∧VecL ro ET s ((roomP file).take j++List.replicate ((roomP file).length-j) 0)) (fun i _=>((roomP file).length-i).toNat) (x:=0) rfl
  ⟨0,ro,rfl,Nzl _,h1,by rw [List.take_zero,List.nil_append,hrl];exact v1⟩ ?_
 rintro (i:Int) u ⟨j,ro,rfl,hj,h,v⟩;have hcl:((roomP file).take j++List.replicate ((roomP file).length-j) (0:UInt8)).length=(roomP file).length:=by rw [Lla,Llt,List.length_replicate];omega
 have hsl:s.len=(roomP file).length:=by rw [v.1,hcl]
 obtain⟨b,hp⟩:=v.some_p (by omega);rw [hsl];refine Iq (fun q=>?_) fun q=>?_;rotate_left
 ·have q:(roomP file).length≤j:=dge q;rw [Ltl q,Nat.sub_eq_zero_of_le q] at v;have v:VecL ro ET s (roomP file++[]):=v;rw [Lan] at v;exact hk u ⟨ro,h,v⟩
 have q:j<(roomP file).length:=dlt q;have es:=step64 (i:=j) (by omega);refine ix_some hp (by omega) (by omega) ?_ v.2.1;refine h.setL v (k:=j) (by omega) (y:=(165:UInt8)) rfl hp fun ro2 u2 h2 v2 _=>?_;refine join0 (fun u=>∃ro,At w0 F0 (m++ro) u∧VecL ro ET s ((roomP file).take (j+1)++List.replicate ((roomP file).length-(j+1)) 0)) ?_ ?_
 ·intro k2 hk2;rw [←fill_set q] at hk2;refine Iq (fun q2=>?_) fun q2=>?_
  ·have q2:j<file.length:=dlt q2;refine (hf.quiet h2.mod).byte rfl q2 fun b12 o13 _ hc=>Lq (k:=.int .u8) ((file[j]).toNat:Int) hc (ix_some hp (by omega) (by omega) ?_ v2.2.1);have eg:(roomP file)[j]=file[j]:=by unfold roomP;exact List.getElem_append_left q2
   refine h2.setL v2 (k:=j) (by rw [List.length_set];omega) (y:=file[j]) rfl hp fun ro3 u3 h3 v3 _=>hk2 u3 ⟨ro3,h3,?_⟩;rw [List.set_set] at v3;rw [eg];exact v3
  ·have q2:¬j<file.length:=by have:=dge q2;omega
   have eg:(roomP file)[j]=165:=by
    have h9:(roomP file)[j]? = some 165:=by unfold roomP tailP;rw [Lgr (by omega),List.getElem?_replicate,if_pos (by omega)]
    exact (Les.1 h9).2
   exact hk2 u2 ⟨ro2,h2,by rw [eg];exact v2⟩
 rintro u3 ⟨ro3,h3,v3⟩;exact⟨⟨j+1,ro3,es,by omega,h3,v3⟩,by rw [es];omega⟩
theorem pre_ok{ro:BL}{s:Sl}{f:Str}(hv:VecL ro ET s (f++tailP)){n:Int}(hn:n=f.length){K:Sl→Prop}(hK:∀t,t.p=s.p→t.len=f.length→t.len≤t.cap→K t):Go.Vw.slx s 1 none (some n) none K:=by
 subst hn;have hl:(f++tailP).length=f.length+64:=by unfold tailP;rw [Lla,List.length_replicate]
 have h1:=hv.1;have h2:=hv.2.1;obtain⟨b,hp⟩:=hv.some_p (by omega);refine⟨0,f.length,s.cap,rfl,rfl,rfl,Nzl _,by omega,Nlr _,hK _ ?_ ?_ ?_⟩
 ·show (if s.cap=0 then _ else _)=_;rw [if_neg (by omega),hp];rfl
 ·show f.length-0=_;omega
 ·show f.length-0≤s.cap-0;omega
theorem same_ok{s1 s2:Sl}{t:Str}(h1:RdS w ET s1 t)(h2:RdS w ET s2 t)(hl:t.length≤1099511627776){K:Bool→Wp}(hK:∀w',Mod F0 w w'→K true w') :
  callK Tryz.prog c_32 [Az s1,Az s2] w Ob K:=by
 refine go_32 _ _ _ _ ?_;rw [h1.len,h2.len];refine ifK_f (Bsf _) ?_;refine join0 (fun u=>Mod F0 w u) ?_ (fun u hM=>hK u hM);intro k hk;refine loop1 (k:=Ki) (fun (i:Int) u=>Mod F0 w u∧∃j:Nat,i=j∧j≤t.length) (fun i _=>(t.length-i).toNat) (x:=0) rfl ⟨Mod.refl _ _,0,rfl,Nzl _⟩ ?_;rintro i u ⟨hM,j,rfl,hj⟩;refine Iq (fun h=>?_) fun h=>hk u hM;have hlt:j<t.length:=dlt h;have hd:=mod0 hM (Mq u);refine⟨F0,(h1.quiet hd).byte rfl hlt fun b1 o1 _ hc1=>Lw (k:=.int .u8) ((t[j]).toNat:Int) id hc1 ((h2.quiet hd).byte rfl hlt fun b2 o2 _ hc2=>Lw (k:=.int .u8) ((t[j]).toNat:Int) id hc2 (ifK_f (Bsf _) ?_))⟩;exact⟨⟨hd,j+1,step64 (by omega),by omega⟩,by rw [step64 (by omega)];omega⟩
theorem sameFindings_ok{s1 s2:Sl}{l:List Fnd}(h1:RdS w EFnd s1 l)(h2:RdS w EFnd s2 l)(hl:l.length≤1099511627776){K:Bool→Wp}(hK:∀w',Mod F0 w w'→K true w') :
  callK Tryz.prog c_33 [Az s1,Az s2] w Ob K:=by
 refine go_33 _ _ _ _ ?_;rw [h1.len,h2.len];refine ifK_f (Bsf _) ?_;refine join0 (fun u=>Mod F0 w u) ?_ (fun u hM=>hK u hM);intro k hk;refine loop1 (k:=Ki) (fun (i:Int) u=>Mod F0 w u∧∃j:Nat,i=j∧j≤l.length) (fun i _=>(l.length-i).toNat) (x:=0) rfl ⟨Mod.refl _ _,0,rfl,Nzl _⟩ ?_;rintro i u ⟨hM,j,rfl,hj⟩;refine Iq (fun h=>?_) fun h=>hk u hM;have hlt:j<l.length:=dlt h;obtain⟨x,hx⟩:=Gq hlt;have hd:=mod0 hM (Mq u);refine⟨F0,(h1.quiet hd).ix rfl rfl hx fun b1 o1 _ hc1=>Lw (k:=Ki) x.kind id (hc1 0 (by decide)) (Lw (k:=Ki) x.frm id (hc1 1 (by decide)) (Lw (k:=Ki) x.to id (hc1 2 (by decide)) ((h2.quiet hd).ix rfl rfl hx fun b2 o2 _ hc2=>Lw (k:=Ki) x.kind id (hc2 0 (by decide)) (Lw (k:=Ki) x.frm id (hc2 1 (by decide)) (Lw (k:=Ki) x.to id (hc2 2 (by decide)) ?_)))))⟩;refine neqK (d:=3) (ks:=[Ki,Ki,Ki]) (xs:=[.int .i64 x.kind,.int .i64 x.frm,.int .i64 x.to]) (ys:=[.int .i64 x.kind,.int .i64 x.frm,.int .i64 x.to]) (by kernel_rfl) (by decide) (by kernel_rfl) (by kernel_rfl) rfl rfl rfl rfl ?_;have e:eqLVs [.int .i64 x.kind,.int .i64 x.frm,.int .i64 x.to] [.int .i64 x.kind,.int .i64 x.frm,.int .i64 x.to]=true:=by simp [eqLVs,eqLV]
 rw [e];exact⟨Mod.refl _ _,ifK_f rfl ⟨⟨hd,j+1,step64 (by omega),by omega⟩,by rw [step64 (by omega)];omega⟩⟩
theorem sameRecords_ok{s1 s2:Sl}{l:List (Int×Str×Str)}(h1:RdS w ERec s1 l)(h2:RdS w ERec s2 l)(hl:l.length≤1099511627776){K:Bool→Wp}(hK:∀w',Mod F0 w w'→K true w') :
  callK Tryz.prog c_34 [Az s1,Az s2] w Ob K:=by
 refine go_34 _ _ _ _ ?_;rw [h1.len,h2.len];refine ifK_f (Bsf _) ?_;refine join0 (fun u=>Mod F0 w u) ?_ (fun u hM=>hK u hM);intro k hk;refine loop1 (k:=Ki) (fun (i:Int) u=>Mod F0 w u∧∃j:Nat,i=j∧j≤l.length) (fun i _=>(l.length-i).toNat) (x:=0) rfl ⟨Mod.refl _ _,0,rfl,Nzl _⟩ ?_;rintro i u ⟨hM,j,rfl,hj⟩;refine Iq (fun h=>?_) fun h=>hk u hM;have hlt:j<l.length:=dlt h;obtain⟨x,hx⟩:=Gq hlt;have hd:=mod0 hM (Mq u);refine⟨F0,(h1.quiet hd).ix rfl rfl hx fun b1 o1 _ hc1=>Lw (k:=Ki) x.1 id (hc1 0 (by decide)) (Lw (k:=.str) x.2.1 id (hc1 1 (by decide)) (Lw (k:=.str) x.2.2 id (hc1 2 (by decide)) ((h2.quiet hd).ix rfl rfl hx fun b2 o2 _ hc2=>Lw (k:=Ki) x.1 id (hc2 0 (by decide)) (Lw (k:=.str) x.2.1 id (hc2 1 (by decide)) (Lw (k:=.str) x.2.2 id (hc2 2 (by decide)) ?_)))))⟩;refine neqK (d:=3) (ks:=[Ki,.str,.str]) (xs:=[.int .i64 x.1,.str x.2.1,.str x.2.2]) (ys:=[.int .i64 x.1,.str x.2.1,.str x.2.2]) (by kernel_rfl) (by decide) (by kernel_rfl) (by kernel_rfl) rfl rfl rfl rfl ?_;have e:eqLVs [.int .i64 x.1,.str x.2.1,.str x.2.2] [.int .i64 x.1,.str x.2.1,.str x.2.2]=true:=by simp [eqLVs,eqLV]
 rw [e];exact⟨Mod.refl _ _,ifK_f rfl ⟨⟨hd,j+1,step64 (by omega),by omega⟩,by rw [step64 (by omega)];omega⟩⟩
theorem turned_ok{w0:World}{m ro:BL}{s t:Sl}(hA:At w0 F0 (m++ro) w)(hv:VecL ro ET s (roomP file))(hfl:file.length≤1048576)(hp:t.p=s.p)(htl:t.len=file.length)(htc:t.len≤t.cap){K:Sl→Wp}
  (hK:∀w' ro',At w0 F0 (m++ro') w'→VecL ro' ET s (turnP file++tailP)→K t w') :
  callK Tryz.prog c_35 [Az t] w Oz K:=by
 refine go_35 _ _ _ ?_;have hl:(roomP file).length=file.length+64:=by unfold roomP tailP;rw [Lla,List.length_replicate]
 obtain⟨b,hb⟩:=hv.some_p (by omega);rw [hb] at hp;rw [htl];refine join0 (fun u=>∃ro',At w0 F0 (m++ro') u∧VecL ro' ET s (turnP file++tailP)) ?_ (by rintro u ⟨ro',h,v⟩;exact hK u ro' h v);intro k hk;refine Iq (fun q=>?_) fun q=>?_;rotate_left
 ·have q:¬0<file.length:=by have:=odf q;omega
  have e:turnP file=file:=if_neg q;rw [e] at hk;exact hk w ⟨ro,hA,hv⟩
 have q:0<file.length:=by have:=odt q;omega
 have e3:w64 ((file.length:Int).tdiv 3)=((file.length/3:Nat):Int):=by
  have e:(file.length:Int).tdiv 3=((file.length/3:Nat):Int):=by rw [Int.tdiv_eq_ediv_of_nonneg (by omega)];rfl
  rw [e,Wq (by omega) (by omega)]
 rw [e3];have hi:file.length/3<file.length:=by omega
 have hrd:=hv.rd fun q hq=>hA.own q (Lmr _ hq);have hrt:RdS w ET t file:=(hv.viewOf htl htc (hp.trans hb.symm)).rd fun q hq=>hA.own q (Lmr _ hq);refine hrt.byte rfl hi fun b3 o4 _ hc=>Lq (k:=.int .u8) ((file[file.length/3]).toNat:Int) hc (ix_some hp (by omega) (by omega) ?_ htc);rw [xor8];refine hA.setL hv (k:=file.length/3) (by omega) (y:=file[file.length/3] ^^^ 1) rfl hb fun ro2 u2 h2 v2 _=>hk u2 ⟨ro2,h2,?_⟩;have e:turnP file++tailP=(roomP file).set (file.length/3) (file[file.length/3] ^^^ 1):=by
  unfold turnP roomP;rw [if_pos q,List.set_append_left _ _ hi,Lgd,Lge hi,Option.getD_some]
 rw [e];exact v2
end
set_option maxHeartbeats 1000000 in
theorem rescues_walk{w0:World}{sf:Sl}{file:Str}(hf:RdS w0 ET sf file)(hfl:file.length≤1048576){K:Bool→Wp}(hK:∀w',Mod F0 w0 w'→K true w') :
  callK Tryz.prog c_36 [Az sf] w0 Ob K:=by
 refine go_36 _ _ _ ?_;have hrl:=rescR_len hfl;rw [hf.len];refine roomy_ok (At.init w0 F0) hf hfl fun w1 sA RA h1 vA=>?_;have h1:At w0 F0 RA w1:=h1;have view:∀{t:Sl} {u:World} {L:BL},t.p=sA.p→t.len=file.length→t.len≤t.cap→At w0 F0 L u→(∀q∈RA,q∈L)→RdS u ET t file:=fun {t u L} hp hl hc h hm=>(VecL.viewOf vA hl hc hp).rd fun q hq=>h.own q (hm q hq);refine pre_ok (f:=file) vA rfl fun t4 hp4 hl4 hc4=>?_;refine resc_ok (view hp4 hl4 hc4 h1 fun q hq=>hq) hfl fun w2 s5 R5 h2 v5=>?_;have g2:At w0 F0 (RA++R5) w2:=h1.joinF h2 (fun _ _ h=>h.elim) fun _ _=>id;refine pre_ok (f:=file) vA rfl fun t7 hp7 hl7 hc7=>?_;refine resc_ok (view hp7 hl7 hc7 g2 fun q hq=>Lml _ hq) hfl fun w3 s8 R8 h3 v8=>?_;have g3:At w0 F0 ((RA++R5)++R8) w3:=g2.joinF h3 (fun _ _ h=>h.elim) fun _ _=>id;have g3:At w0 F0 ((RA++R8)++R5) w3:=g3.perm (perm_mid RA R5 R8);refine join0 (fun u=>∃R5',At w0 F0 ((RA++R8)++R5') u∧VecL R5' ERec s5 (List.replicate (rescR file).length ((-7:Int),([]:Str),([]:Str)))) ?_ ?_
 ·intro k hk;exact fill_loop g3 v5 (y:=((-7:Int),([]:Str),([]:Str))) rfl rfl (by omega) fun ro' w' h v=>hk w' ⟨ro',h,v⟩
 rintro w4 ⟨R5',g4,v5'⟩;refine join1 (a:=.sl) (fun (t:Sl) u=>t.len=(rescR file).length+64∧At w0 F0 (RA++R8) u) ?_ ?_
 ·intro k hk;exact grow_loop g4 v5' (y:=((-8:Int),([]:Str),([]:Str))) rfl rfl rfl (by rw [List.length_replicate];omega) fun s' old ro' w' h v _=>hk s' w' ⟨by rw [v.1,Lla,List.length_replicate,List.length_replicate],h.sub ((Lsl _ _).trans (Lsl _ _))⟩
 rintro t27 w5 ⟨hl27,g5⟩;refine rresc_ok (hf.quiet g5.mod) hfl fun w6 s29 R29 h6 v29=>?_;have g6:At w0 F0 ((RA++R8)++R29) w6:=g5.joinF h6 (fun _ _ h=>h.elim) fun _ _=>id;have rd8:∀{u:World} {L:BL},At w0 F0 L u→(∀q∈R8,q∈L)→RdS u ERec s8 (rescR file):=fun {u L} h hm=>v8.rd fun q hq=>h.own q (hm q hq);have rd29:∀{u:World} {L:BL},At w0 F0 L u→(∀q∈R29,q∈L)→RdS u ERec s29 (rescR file):=fun {u L} h hm=>v29.rd fun q hq=>h.own q (hm q hq);refine join1 (a:=.bool) (fun (q:Bool) u=>q=false∧At w0 F0 ((RA++R8)++R29) u) ?_ ?_
 ·intro k hk;refine sameRecords_ok (rd8 g6 fun q hq=>by simp [hq]) (rd29 g6 fun q hq=>by simp [hq]) (by omega) fun w7 M7=>ifK_f rfl ?_;have g7:=g6.keep0 M7 fun _=>id;have e:w64 ((s29.len:Int)+64)=(t27.len:Int):=by rw [v29.1,hl27,Wq (by omega) (by omega)];omega
  rw [e];refine ifK_f (Bsf _) (roomy_ok g7 hf hfl fun w8 s34 R34 h8 v34=>?_);refine same_ok (t:=roomP file) (vA.rd fun q hq=>h8.own q (by simp [hq])) (v34.rd fun q hq=>h8.own q (by simp [hq])) (by unfold roomP tailP;rw [Lla,List.length_replicate];omega) fun w9 M9=>hk _ _ ⟨rfl,(h8.keep0 M9 fun _=>id).sub (Lsl _ _)⟩
 rintro q5 w7 ⟨rfl,g7⟩;refine ifK_f rfl ?_;refine pre_ok (f:=file) vA rfl fun t40 hp40 hl40 hc40=>?_;have g7:At w0 F0 ((R8++R29)++RA) w7:=g7.perm (by rw [Laa RA];exact Lpc);refine turned_ok g7 vA hfl hp40 hl40 hc40 fun w8 RA' g8 vA'=>?_;have hT:(turnP file).length=file.length:=turnP_len file;have hTl:(turnP file).length≤1048576:=by omega
 have hrl':=rescR_len hTl;have view':RdS w8 ET t40 (turnP file):=(VecL.viewOf vA' (by rw [hT];exact hl40) hc40 hp40).rd fun q hq=>g8.own q (Lmr _ hq);refine resc_ok view' hTl fun w9 s43 R43 h9 v43=>?_;have g9:At w0 F0 (((R8++R29)++RA')++R43) w9:=g8.joinF h9 (fun _ _ h=>h.elim) fun _ _=>id;refine join1 (a:=.bool) (fun (q:Bool) u=>q=true∧Mod F0 w0 u) ?_ (by rintro q u ⟨rfl,M⟩;exact hK u M);intro k hk;refine roomy_ok g9 hf hfl fun w10 s46 R46 g10 v46=>?_;refine pre_ok (f:=file) v46 rfl fun t48 hp48 hl48 hc48=>?_;refine turned_ok g10 v46 hfl hp48 hl48 hc48 fun w11 R46' g11 v46'=>?_;have view2:RdS w11 ET t48 (turnP file):=(VecL.viewOf v46' (by rw [hT];exact hl48) hc48 hp48).rd fun q hq=>g11.own q (Lmr _ hq);refine rresc_ok view2 hTl fun w12 s51 R51 h12 v51=>?_;have g12:At w0 F0 (((((R8++R29)++RA')++R43)++R46')++R51) w12:=g11.joinF h12 (fun _ _ h=>h.elim) fun _ _=>id;refine sameRecords_ok (v43.rd fun q hq=>g12.own q (by simp [hq])) (v51.rd fun q hq=>g12.own q (by simp [hq])) (by omega) fun w13 M13=>ifK_t rfl ?_;have g13:=g12.keep0 M13 fun _=>id;exact sameRecords_ok (rd8 g13 fun q hq=>by simp [hq]) (rd29 g13 fun q hq=>by simp [hq]) (by omega) fun w14 M14=>hk _ _ ⟨rfl,(g13.keep0 M14 fun _=>id).mod⟩
set_option maxHeartbeats 1000000 in
theorem looks_walk{w0:World}{sf:Sl}{file:Str}(hf:RdS w0 ET sf file)(hfl:file.length≤1048576){length:Int}{K:Bool→Wp}(hK:∀w',Mod F0 w0 w'→K true w') :
  callK Tryz.prog c_37 [Az sf,Ai length] w0 Ob K:=by
 refine go_37 _ _ _ _ ?_;have hrl:=lookR_len hfl length;rw [hf.len];refine roomy_ok (At.init w0 F0) hf hfl fun w1 sA RA h1 vA=>?_;have h1:At w0 F0 RA w1:=h1;have view:∀{t:Sl} {u:World} {L:BL},t.p=sA.p→t.len=file.length→t.len≤t.cap→At w0 F0 L u→(∀q∈RA,q∈L)→RdS u ET t file:=fun {t u L} hp hl hc h hm=>(VecL.viewOf vA hl hc hp).rd fun q hq=>h.own q (hm q hq);refine pre_ok (f:=file) vA rfl fun t4 hp4 hl4 hc4=>?_;refine look_ok (view hp4 hl4 hc4 h1 fun q hq=>hq) hfl fun w2 s5 R5 h2 v5=>?_;have g2:At w0 F0 (RA++R5) w2:=h1.joinF h2 (fun _ _ h=>h.elim) fun _ _=>id;refine pre_ok (f:=file) vA rfl fun t7 hp7 hl7 hc7=>?_;refine look_ok (view hp7 hl7 hc7 g2 fun q hq=>Lml _ hq) hfl fun w3 s8 R8 h3 v8=>?_;have g3:At w0 F0 ((RA++R5)++R8) w3:=g2.joinF h3 (fun _ _ h=>h.elim) fun _ _=>id;have g3:At w0 F0 ((RA++R8)++R5) w3:=g3.perm (perm_mid RA R5 R8);refine join0 (fun u=>∃R5',At w0 F0 ((RA++R8)++R5') u∧VecL R5' EFnd s5 (List.replicate (lookR file length).length (⟨77,0,0⟩:Fnd))) ?_ ?_
 ·intro k hk;exact fill_loop g3 v5 (y:=(⟨77,0,0⟩:Fnd)) rfl rfl (by omega) fun ro' w' h v=>hk w' ⟨ro',h,v⟩
 rintro w4 ⟨R5',g4,v5'⟩;refine join1 (a:=.sl) (fun (t:Sl) u=>t.len=(lookR file length).length+64∧At w0 F0 (RA++R8) u) ?_ ?_
 ·intro k hk;exact grow_loop g4 v5' (y:=(⟨78,0,0⟩:Fnd)) rfl rfl rfl (by rw [List.length_replicate];omega) fun s' old ro' w' h v _=>hk s' w' ⟨by rw [v.1,Lla,List.length_replicate,List.length_replicate],h.sub ((Lsl _ _).trans (Lsl _ _))⟩
 rintro t27 w5 ⟨hl27,g5⟩;refine rlook_ok (hf.quiet g5.mod) hfl fun w6 s29 R29 h6 v29=>?_;have g6:At w0 F0 ((RA++R8)++R29) w6:=g5.joinF h6 (fun _ _ h=>h.elim) fun _ _=>id;have rd8:∀{u:World} {L:BL},At w0 F0 L u→(∀q∈R8,q∈L)→RdS u EFnd s8 (lookR file length):=fun {u L} h hm=>v8.rd fun q hq=>h.own q (hm q hq);have rd29:∀{u:World} {L:BL},At w0 F0 L u→(∀q∈R29,q∈L)→RdS u EFnd s29 (lookR file length):=fun {u L} h hm=>v29.rd fun q hq=>h.own q (hm q hq);refine join1 (a:=.bool) (fun (q:Bool) u=>q=false∧At w0 F0 ((RA++R8)++R29) u) ?_ ?_
 ·intro k hk;refine sameFindings_ok (rd8 g6 fun q hq=>by simp [hq]) (rd29 g6 fun q hq=>by simp [hq]) (by omega) fun w7 M7=>ifK_f rfl ?_;have g7:=g6.keep0 M7 fun _=>id;have e:w64 ((s29.len:Int)+64)=(t27.len:Int):=by rw [v29.1,hl27,Wq (by omega) (by omega)];omega
  rw [e];refine ifK_f (Bsf _) (roomy_ok g7 hf hfl fun w8 s34 R34 h8 v34=>?_);refine same_ok (t:=roomP file) (vA.rd fun q hq=>h8.own q (by simp [hq])) (v34.rd fun q hq=>h8.own q (by simp [hq])) (by unfold roomP tailP;rw [Lla,List.length_replicate];omega) fun w9 M9=>hk _ _ ⟨rfl,(h8.keep0 M9 fun _=>id).sub (Lsl _ _)⟩
 rintro q5 w7 ⟨rfl,g7⟩;refine ifK_f rfl ?_;refine pre_ok (f:=file) vA rfl fun t40 hp40 hl40 hc40=>?_;have g7:At w0 F0 ((R8++R29)++RA) w7:=g7.perm (by rw [Laa RA];exact Lpc);refine turned_ok g7 vA hfl hp40 hl40 hc40 fun w8 RA' g8 vA'=>?_;have hT:(turnP file).length=file.length:=turnP_len file;have hTl:(turnP file).length≤1048576:=by omega
 have hrl':=lookR_len hTl length;have view':RdS w8 ET t40 (turnP file):=(VecL.viewOf vA' (by rw [hT];exact hl40) hc40 hp40).rd fun q hq=>g8.own q (Lmr _ hq);refine look_ok view' hTl fun w9 s43 R43 h9 v43=>?_;have g9:At w0 F0 (((R8++R29)++RA')++R43) w9:=g8.joinF h9 (fun _ _ h=>h.elim) fun _ _=>id;refine join1 (a:=.bool) (fun (q:Bool) u=>q=true∧Mod F0 w0 u) ?_ (by rintro q u ⟨rfl,M⟩;exact hK u M);intro k hk;refine roomy_ok g9 hf hfl fun w10 s46 R46 g10 v46=>?_;refine pre_ok (f:=file) v46 rfl fun t48 hp48 hl48 hc48=>?_;refine turned_ok g10 v46 hfl hp48 hl48 hc48 fun w11 R46' g11 v46'=>?_;have view2:RdS w11 ET t48 (turnP file):=(VecL.viewOf v46' (by rw [hT];exact hl48) hc48 hp48).rd fun q hq=>g11.own q (Lmr _ hq);refine rlook_ok view2 hTl fun w12 s51 R51 h12 v51=>?_;have g12:At w0 F0 (((((R8++R29)++RA')++R43)++R46')++R51) w12:=g11.joinF h12 (fun _ _ h=>h.elim) fun _ _=>id;refine sameFindings_ok (v43.rd fun q hq=>g12.own q (by simp [hq])) (v51.rd fun q hq=>g12.own q (by simp [hq])) (by omega) fun w13 M13=>ifK_t rfl ?_;have g13:=g12.keep0 M13 fun _=>id;exact sameFindings_ok (rd8 g13 fun q hq=>by simp [hq]) (rd29 g13 fun q hq=>by simp [hq]) (by omega) fun w14 M14=>hk _ _ ⟨rfl,(g13.keep0 M14 fun _=>id).mod⟩
end Go.Proofs.YtkgligdkihlfaaaGreat
