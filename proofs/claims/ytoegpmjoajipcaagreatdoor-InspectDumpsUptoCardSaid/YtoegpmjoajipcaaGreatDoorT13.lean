/- Part T13. -/
import Derived.Test.YtoegpmjoajipcaaGreatDoorT12
import Derived.Test.YtoegpmjoajipcaaGreatDoorT03
import Derived.Shelf.Strings.OnBuilder
import Derived.Shelf.Strconv.Itoa4
import Derived.Lib.AppendIntMem
import Derived.Lib.UnsafeStr
import Derived.Test.YtoegpmjoajipcaaGreatDoorT06
import Derived.Test.YtoegpmjoajipcaaGreatDoorT11
namespace Go.Proofs.YtoegpmjoajipcaaGreatDoor
open Go.Vw
open Go
def lastE(e:List (Str×Str)):Str:=(e.getD (e.length-1) ([],[])).1
def bkP(tile:Str)(last:Str)(some_:Bool)(x:BlkP):BlkP×Str×Bool:=match opnP tile x.info with
 | none=>({x with flag:=flagP tile,how:=1,ents:=[]},last,some_)
 | some e=>({x with flag:=flagP tile,how:=if some_=true∧cmpN (e.getD 0 ([],[])).1 last<0 then 2 else 0,ents:=e},lastE e,true)
theorem blksP_cons(file:Str)(part:Int)(b:BI)(r:List BI)(at_:Int)(last:Str)(some_:Bool) :
  blksP file part (b::r) at_ last some_=(bkP (cutB file at_ (at_+b.stored+5)) last some_ ⟨at_,at_+b.stored+5,b,part,0,0,[]⟩).1 ::
   blksP file part r (at_+b.stored+5) (bkP (cutB file at_ (at_+b.stored+5)) last some_ ⟨at_,at_+b.stored+5,b,part,0,0,[]⟩).2.1 (bkP (cutB file at_ (at_+b.stored+5)) last some_ ⟨at_,at_+b.stored+5,b,part,0,0,[]⟩).2.2:=by
 rw [blksP];unfold bkP;dsimp only;cases opnP (cutB file at_ (at_+b.stored+5)) b<;>rfl
theorem opnP_ne{tile:Str}{b:BI}{e:List (Str×Str)}(h:opnP tile b=some e):1≤e.length∧e.length≤65536:=by
 rw [opnP_R] at h
 cases hb:(blockR tile b.raw).2 with
 | none=>rw [hb] at h;cases h
 | some l=>
  rw [hb] at h;dsimp only at h;split at h
  ·cases h
  split at h
  ·cases h;have:=blockR_len hb;exact⟨this.1,this.2.1⟩
  ·cases h
theorem blksP_ents(file:Str)(part:Int):∀(l:List BI) (at_:Int) (last:Str) (some_:Bool),∀y∈blksP file part l at_ last some_,y.ents.length≤65536
 | [],_,_,_,y,hy=>by cases hy
 | b::r,at_,last,some_,y,hy=>by
  rw [blksP_cons] at hy;rcases List.mem_cons.1 hy with rfl | hy
  ·unfold bkP;dsimp only
   cases ho:opnP (cutB file at_ (at_+b.stored+5)) b with
   | none=>exact Nzl _
   | some e=>exact (opnP_ne ho).2
  ·exact blksP_ents file part r _ _ _ y hy
theorem infosP_ents(file:Str):∀(l:List PartI) (at_:Int),∀y∈(infosP file l at_).flatMap (fun x=>x.2),y.ents.length≤65536
 | [],_,y,hy=>by cases hy
 | x::r,at_,y,hy=>by
  have e:(infosP file (x::r) at_).flatMap (fun x=>x.2)=blksP file x.part x.blocks at_ [] false++(infosP file r (at_+spB x.blocks)).flatMap (fun x=>x.2):=rfl;rw [e] at hy;rcases Lma.1 hy with hy | hy
  ·exact blksP_ents file x.part x.blocks _ _ _ y hy
  ·exact infosP_ents file r _ y hy
section
variable {w:World}{sf:Sl}{file:Str}
theorem recs_rd{u:World}{L R:BL}{x:BlkP}{s:Sl}(h:At w F0 L u)(hv:VecL R ERec s (recsB x))(hR:∀q∈R,q∈L):RdS u ERec s (recsB x):=hv.rd fun q hq=>h.own q (hR q hq)
theorem recs_get{x:BlkP}{i:Nat}(h:i<x.ents.length):(recsB x)[i]? = some (x.part,(x.ents.getD i ([],[])).1,(x.ents.getD i ([],[])).2):=by
 unfold recsB;rw [List.getElem?_map,Lgd,Lge h];rfl
set_option maxHeartbeats 4000000 in
theorem take_blocks{e54:TypeId}(hf:RdS w ET sf file)(hfl:file.length≤1048576){u:World}{n:Int}{c1 c2:Bool}{tb tp P:Int}{sp sI:Sl}{ps:List PI}{l:List PartI}{b2 b4 bf:Nat}{X R:BL}(hFL:FootL R sI ps l)(hRX:∀q∈R,q∈X)
  (hchk:∀x∈l,chkB x.blocks []=true) (hsp:spI l≤file.length)
  (h:At w F0 ((b4,tkC n c1 tb tp sp c2 P sI nilS)::(b2,tk0)::(bf,pairC P sI)::X) u) {K:Wp}
  (hK:∀u' sB rows Rc Rb,At w F0 (((b4,tkC n c1 tb tp sp c2 P sI sB)::(b2,tk0)::(bf,pairC P sI)::X)++Rc++Rb) u'→VecL Rb EBk sB rows→rows.map Prod.fst=(infosP file l 0).flatMap (fun x=>x.2)→(∀y∈rows,OwnL Rc ERec y.2 (recsB y.1))→6*(rows.length:Int)≤file.length→K u') :
  joinK [] (fun k143=>
    loopL [Ki,Ki] (fun at_145 i146 W147 g144=>
     ld W147 .sl bf (0+1) fun a148=>
     ifK (decide (i146<(a148.len:Int)))
     (joinK [Ki] (fun k149=>
       loopL [Ki,.str,.bool,Ki] (fun at_151 end_152 any153 k154 W155 g150=>
        ld W155 .sl bf (0+1) fun a156=>
        ix a156 5 i146 fun b157 o158=>
        ld W155 .sl b157 (o158+1) fun a159=>
        ifK (decide (k154<(a159.len:Int)))
        (drawK W155 fun D W160=>
         ldD D W160 .sl bf (0+1) fun a161=>
         ix a161 5 i146 fun b162 o163=>
         ldD D W160 .sl b162 (o163+1) fun a164=>
         ix a164 4 k154 fun b165 o166=>
         ldD D W160 Ki b165 o166 fun n167=>
         ldD D W160 Ki b165 (o166+1) fun n168=>
         ldD D W160 Ki b165 (o166+2) fun n169=>
         ldD D W160 .str b165 (o166+3) fun s170=>
         ldD D W160 .sl bf (0+1) fun a171=>
         ix a171 5 i146 fun b172 o173=>
         ldD D W160 Ki b172 o173 fun n174=>
         al W160 e54 [.int .i64 0,.int .i64 0,.int .i64 0,.int .i64 0,.int .i64 0,.str [],.int .i64 0,.int .i64 0,.int .i64 0,.sl (⟨none,0,0⟩)] fun b175 W176=>
         Mod D W160 W176 ∧
         st W176 b175 0 [.int .i64 at_151,.int .i64 0,.int .i64 n167,.int .i64 n168,.int .i64 n169,.str s170,.int .i64 n174,.int .i64 0,.int .i64 0,.sl (⟨none,0,0⟩)] fun W177=>
         ld W177 Ki b175 2 fun n178=>
         st W177 b175 1 [.int .i64 (w64 ((w64 (at_151+n178))+5))] fun W179=>
         ld W179 Ki b175 1 fun n180=>
         ld W179 Ki b175 0 fun n181=>
         ld W179 Ki b175 1 fun n182=>
         slx sf 1 (some n181) (some n182) none fun s183=>
         callK Tryz.prog c_34 [Ap (some (b175,0)),Az s183] W179 (.tup []) fun W184=>
         ld W184 Ki b175 7 fun n185=>
         joinK [.str,.bool] (fun k186=>
          ifK (n185==0)
          (joinK [.bool] (fun k187=>
            ifK any153
            (ld W184 .sl b175 9 fun a188=>
             ix a188 3 0 fun b189 o190=>
             ld W184 .str b189 (o190+1) fun s191=>
             k187 (Op.bytesLess s191 end_152) W184)
            (k187 false W184)) fun t160192 W193=>
           joinK [] (fun k194=>
            ifK t160192
            (st W193 b175 7 [.int .i64 2] fun W195=>
             k194 W195)
            (k194 W193)) fun W196=>
           ld W196 .sl b175 9 fun a197=>
           ld W196 .sl b175 9 fun a198=>
           ix a197 3 (w64 ((a198.len:Int)-1)) fun b199 o200=>
           ld W196 .str b199 (o200+1) fun s201=>
           k186 s201 true W196)
          (k186 end_152 any153 W184)) fun end_202 any203 W204=>
         ld W204 .sl b4 8 fun a205=>
         ld W204 Ki b175 0 fun n206=>
         ld W204 Ki b175 1 fun n207=>
         ld W204 Ki b175 2 fun n208=>
         ld W204 Ki b175 3 fun n209=>
         ld W204 Ki b175 4 fun n210=>
         ld W204 .str b175 5 fun s211=>
         ld W204 Ki b175 6 fun n212=>
         ld W204 Ki b175 7 fun n213=>
         ld W204 Ki b175 8 fun n214=>
         ld W204 .sl b175 9 fun a215=>
         al W204 e54 [.int .i64 n206,.int .i64 n207,.int .i64 n208,.int .i64 n209,.int .i64 n210,.str s211,.int .i64 n212,.int .i64 n213,.int .i64 n214,.sl a215] fun b216 W217=>
         ap W217 e54 10 104 [.int .i64 0,.int .i64 0,.int .i64 0,.int .i64 0,.int .i64 0,.str [],.int .i64 0,.int .i64 0,.int .i64 0,.sl (⟨none,0,0⟩)] a205 (⟨some (b216,0),1,1⟩) fun a218 W219=>
         st W219 b4 8 [.sl a218] fun W220=>
         g150 n180 end_202 any203 (w64 (k154+1)) W220)
        (k149 at_151 W155)) [.int .i64 at_145,.str [],.lit false,.int .i64 0] W147) fun at_221 W222=>
      g144 at_221 (w64 (i146+1)) W222)
     (k143 W147)) [.int .i64 0,.int .i64 0] u) K:=by
 have hll:=hFL.ll;refine join0 (fun u'=>∃sB rows Rc Rb,At w F0 (((b4,tkC n c1 tb tp sp c2 P sI sB)::(b2,tk0)::(bf,pairC P sI)::X)++Rc++Rb) u'∧VecL Rb EBk sB rows∧rows.map Prod.fst=(infosP file l 0).flatMap (fun x=>x.2)∧(∀y∈rows,OwnL Rc ERec y.2 (recsB y.1))∧6*(rows.length:Int)≤file.length) ?_
  (by rintro u' ⟨sB,rows,Rc,Rb,h1,h2,h3,h4,h5⟩;exact hK u' sB rows Rc Rb h1 h2 h3 h4 h5)
 intro k143 hk143;refine loop2 (k1:=Ki) (k2:=Ki) (fun (at_:Int) (t:Int) u=>∃(i:Nat) (sB:Sl) (rows:List (BlkP×Sl)) (Rc Rb:BL),t=(i:Int)∧i≤l.length∧0≤at_∧at_+spI (l.drop i)=spI l∧6*(rows.length:Int)≤at_ ∧
   (infosP file l 0).flatMap (fun x=>x.2)=rows.map Prod.fst++(infosP file (l.drop i) at_).flatMap (fun x=>x.2)∧At w F0 (((b4,tkC n c1 tb tp sp c2 P sI sB)::(b2,tk0)::(bf,pairC P sI)::X)++Rc++Rb) u∧VecL Rb EBk sB rows∧∀y∈rows,OwnL Rc ERec y.2 (recsB y.1))
  (fun _ t _=>(l.length-t).toNat) (x1:=0) (x2:=0) rfl rfl
  ⟨0,nilS,[],[],[],rfl,Nzl _,Int.le_refl _,by simp,by simp,rfl,by simpa using h,VecL.nil EBk,by simp⟩ ?_
 rintro (at0:Int) (t:Int) u ⟨i,sB,rows,Rc,Rb,rfl,hi,hat0,hsp0,hr6,hpl0,h,hv,hrows⟩;have foot:∀{u:World} {s:Sl} {A B:BL},At w F0 (((b4,tkC n c1 tb tp sp c2 P sI s)::(b2,tk0)::(bf,pairC P sI)::X)++A++B) u→Blk u bf (pairC P sI)∧(∀q∈R,Blk u q.1 q.2)∧RdS u EPI sI ps:=fun {u s A B} h=>by
  have hq:∀q∈R,Blk u q.1 q.2:=fun q hq=>h.own q (Lml _ (Lml _ (Lmc _ (Lmc _ (Lmc _ (hRX q hq))))));exact⟨h.own (bf,_) (Lml _ (Lml _ (Lmc _ (Lmc _ (Lcs ..))))),hq,hFL.row.rd hq⟩
 refine (foot h).1.ldK (k:=.sl) sI rfl ?_;rw [(foot h).2.2.len,hFL.len];refine Iq (fun q=>?_) fun q=>?_;rotate_left
 ·have q:l.length≤i:=dge q;rw [Ldn q] at hpl0 hsp0;have e0:spI []=0:=rfl;have:(infosP file [] at0).flatMap (fun x=>x.2)=[]:=rfl;rw [this,Lan] at hpl0;exact hk143 u ⟨sB,rows,Rc,Rb,h,hv,hpl0.symm,hrows,by omega⟩
 have q:i<l.length:=dlt q;obtain⟨x,hx⟩:=Gq q;obtain⟨p,hp⟩:=Gq (l:=ps) (i:=i) (by rw [hFL.len];exact q);have hI:=hFL.each i p x hp hx;have hcx:=hchk x (Lmg hx);rw [Dg hx] at hpl0 hsp0;rw [spI] at hsp0;have hnn:=spI_nn (l:=l.drop (i+1)) fun y hy=>hchk y (List.mem_of_mem_drop hy);have hpl0:(infosP file l 0).flatMap (fun x=>x.2)=rows.map Prod.fst++(blksP file x.part x.blocks at0 [] false++(infosP file (l.drop (i+1)) (at0+spB x.blocks)).flatMap (fun x=>x.2)):=hpl0;have esi:=step64 (i:=i) (by omega);refine join1 (a:=Ki) (fun (at_:Int) u=>at_=at0+spB x.blocks∧∃(sB:Sl) (rows:List (BlkP×Sl)) (Rc Rb:BL),6*(rows.length:Int)≤at_ ∧
   (infosP file l 0).flatMap (fun x=>x.2)=rows.map Prod.fst++(infosP file (l.drop (i+1)) at_).flatMap (fun x=>x.2)∧At w F0 (((b4,tkC n c1 tb tp sp c2 P sI sB)::(b2,tk0)::(bf,pairC P sI)::X)++Rc++Rb) u∧VecL Rb EBk sB rows∧∀y∈rows,OwnL Rc ERec y.2 (recsB y.1)) ?_ ?_
 rotate_left
 ·rintro (at_:Int) u' ⟨rfl,sB,rows,Rc,Rb,h1,h2,h3,h4,h5⟩;have:=spB_6 (chkB_mem hcx);exact⟨⟨i+1,sB,rows,Rc,Rb,esi,by omega,by omega,by omega,h1,h2,h3,h4,h5⟩,by rw [esi];omega⟩
 intro k149 hk149;refine loop4 (k1:=Ki) (k2:=.str) (k3:=.bool) (k4:=Ki) (fun (at_:Int) (last:Str) (some_:Bool) (t:Int) u=>∃(j:Nat) (sB:Sl) (rows:List (BlkP×Sl)) (Rc Rb:BL),t=(j:Int)∧j≤x.blocks.length∧0≤at_∧at_+spB (x.blocks.drop j)=at0+spB x.blocks∧6*(rows.length:Int)≤at_ ∧
   (infosP file l 0).flatMap (fun x=>x.2)=rows.map Prod.fst++(blksP file x.part (x.blocks.drop j) at_ last some_++(infosP file (l.drop (i+1)) (at0+spB x.blocks)).flatMap (fun x=>x.2))∧At w F0 (((b4,tkC n c1 tb tp sp c2 P sI sB)::(b2,tk0)::(bf,pairC P sI)::X)++Rc++Rb) u∧VecL Rb EBk sB rows∧∀y∈rows,OwnL Rc ERec y.2 (recsB y.1))
  (fun _ _ _ t _=>(x.blocks.length-t).toNat) (x1:=at0) (x2:=[]) (x3:=false) (x4:=0) rfl rfl rfl rfl
  ⟨0,sB,rows,Rc,Rb,rfl,Nzl _,hat0,rfl,hr6,hpl0,h,hv,hrows⟩ ?_
 clear hv hrows h hpl0 hr6 hk143;rintro (at_:Int) (last:Str) (some_:Bool) (t:Int) u ⟨j,sB,rows,Rc,Rb,rfl,hj,hat,hspj,hr6,hpl,h,hv,hrows⟩;have hfo:=foot h;refine hfo.1.ldK (k:=.sl) sI rfl (hfo.2.2.ix rfl rfl hp fun b157 o158 _ hc=>Lq (k:=.sl) p.sb (hc 1 (by decide)) ?_);have hbr:RdS u EBI p.sb x.blocks:=hI.bl.rd hfo.2.1;rw [hbr.len];refine Iq (fun q=>?_) fun q=>?_;rotate_left
 ·have q:x.blocks.length≤j:=dge q;rw [Ldn q] at hpl hspj;have:blksP file x.part [] at_ last some_=[]:=rfl;rw [this,List.nil_append] at hpl;have hspj:at_=at0+spB x.blocks:=by simpa [spB] using hspj
  exact hk149 at_ u ⟨hspj,sB,rows,Rc,Rb,hr6,by rw [hspj];exact hpl,h,hv,hrows⟩
 have q:j<x.blocks.length:=dlt q;obtain⟨b,hb⟩:=Gq q;have hlb:=hI.lb;have hrb:=odt (chkB_mem hcx b (Lmg hb));rw [Dg hb] at hpl hspj;have hspd:0≤spB (x.blocks.drop (j+1)):=by
  have:=spB_6 (l:=x.blocks.drop (j+1)) fun y hy=>chkB_mem hcx y (List.mem_of_mem_drop hy);omega
 rw [spB] at hspj;have hto:at_+b.stored+5≤file.length:=by omega
 have ew:w64 ((w64 (at_+b.stored))+5)=at_+b.stored+5:=by
  have e1:w64 (at_+b.stored)=at_+b.stored:=Wq (by omega) (by omega);rw [e1,Wq (by omega) (by omega)]
 have es:=step64 (i:=j) (by omega);rw [blksP_cons] at hpl;generalize htile:cutB file at_ (at_+b.stored+5)=tile at hpl;have htl:tile.length=(b.stored+5).toNat:=by
  rw [←htile,cutB_len hat (by omega) hto];congr 1;omega
 have hd:=h.keep0 (Mq u) fun _=>id;have hfd:=foot hd;have hbd:RdS u.drew EBI p.sb x.blocks:=hI.bl.rd hfd.2.1;refine⟨F0,hfd.1.ldDK (k:=.sl) sI id rfl (hfd.2.2.ix rfl rfl hp fun b162 o163 _ hc2=>Lw (k:=.sl) p.sb id (hc2 1 (by decide)) (hbd.ix rfl rfl hb fun b165 o166 _ hc3=>Lw (k:=Ki) b.stored id (hc3 0 (by decide)) (Lw (k:=Ki) b.raw id (hc3 1 (by decide)) (Lw (k:=Ki) b.count id (hc3 2 (by decide)) (Lw (k:=.str) b.cut id (hc3 3 (by decide)) (hfd.1.ldDK (k:=.sl) sI id rfl (hfd.2.2.ix rfl rfl hp fun b172 o173 _ hc4=>Lw (k:=Ki) p.part id (hc4 0 (by decide)) ?_)))))))⟩;rw [hI.part];refine hd.alK fun b175 u1 _ h1 M1=>⟨M1,?_⟩;have h1:=At.front h1;refine h1.st 0 rfl (Nlr 10) fun u2 h2 _=>?_;have h2:At w F0 ((b175,bkC ⟨at_,0,b,x.part,0,0,[]⟩ nilS)::(((b4,tkC n c1 tb tp sp c2 P sI sB)::(b2,tk0)::(bf,pairC P sI)::X)++Rc++Rb)) u2:=h2;have hB:=h2.own (b175,_) (Lcs ..);refine hB.ldK (k:=Ki) b.stored rfl ?_;rw [ew];refine h2.st 0 rfl (by show 1+1≤10;decide) fun u3 h3 _=>?_;have h3:At w F0 ((b175,bkC ⟨at_,at_+b.stored+5,b,x.part,0,0,[]⟩ nilS)::(((b4,tkC n c1 tb tp sp c2 P sI sB)::(b2,tk0)::(bf,pairC P sI)::X)++Rc++Rb)) u3:=h3;have hB:=h3.own (b175,_) (Lcs ..);refine hB.ldK (k:=Ki) (at_+b.stored+5) rfl (hB.ldK (k:=Ki) at_ rfl (hB.ldK (k:=Ki) (at_+b.stored+5) rfl (hf.partK (n:=at_.toNat) (m:=(at_+b.stored+5).toNat) (by omega) (by omega) rfl (by omega) (by omega) fun s183 h183 _=>?_)));have h183:RdS w ET s183 tile:=by rw [←htile];exact h183
 refine bread_ok h3 h183 (by omega) (by omega) fun u4 s R9 h4 v4=>?_;have hx0:∀y:BlkP,y=bkR tile ⟨at_,at_+b.stored+5,b,x.part,0,0,[]⟩→y.info=b:=fun y e=>by rw [e];rfl
 generalize hz0:(⟨at_,at_+b.stored+5,b,x.part,0,0,[]⟩:BlkP)=z0 at *;have hz0i:z0.info=b:=by rw [←hz0]
 have h4:At w F0 ((b175,bkC (bkR tile z0) s)::(((b4,tkC n c1 tb tp sp c2 P sI sB)::(b2,tk0)::(bf,pairC P sI)::X)++Rc++Rb)++R9) u4:=h4;have hR9:∀q∈R9,q∈(b175,bkC (bkR tile z0) s)::(((b4,tkC n c1 tb tp sp c2 P sI sB)::(b2,tk0)::(bf,pairC P sI)::X)++Rc++Rb)++R9:=fun q hq=>Lmr _ hq;have hB:=h4.own (b175,bkC (bkR tile z0) s) (Lml _ (Lcs ..));refine hB.ldK (k:=Ki) (bkR tile z0).how rfl ?_;refine join2 (a:=.str) (b:=.bool) (fun (last':Str) (some':Bool) u=>∃y:BlkP,(y,last',some')=bkP tile last some_ z0∧y.ents=(bkR tile z0).ents∧y.part=(bkR tile z0).part∧y.to=at_+b.stored+5∧At w F0 ((b175,bkC y s)::(((b4,tkC n c1 tb tp sp c2 P sI sB)::(b2,tk0)::(bf,pairC P sI)::X)++Rc++Rb)++R9) u) ?_ ?_
 ·intro k186 hk186
  cases ho:opnP tile z0.info with
  | none=>
   have eb:bkR tile z0 = {z0 with flag:=flagP tile,how:=1,ents:=[]}:=by unfold bkR;rw [ho];rfl
   have hw:(bkR tile z0).how=1:=by rw [eb]
   rw [hw];refine ifK_f rfl (hk186 _ _ _ ⟨bkR tile z0,?_,rfl,rfl,?_,h4⟩)
   ·unfold bkP;rw [ho,eb]
   ·rw [eb,←hz0]
  | some e=>
   have hne:=opnP_ne ho;have eb:bkR tile z0 = {z0 with flag:=flagP tile,how:=0,ents:=e}:=by unfold bkR;rw [ho];rfl
   have hw:(bkR tile z0).how=0:=by rw [eb]
   have hen:(bkR tile z0).ents=e:=by rw [eb]
   rw [hw];have hlen:(recsB (bkR tile z0)).length=e.length:=by unfold recsB;rw [List.length_map,hen]
   refine ifK_t rfl ?_;refine join1 (a:=.bool) (fun (q:Bool) v=>q=decide (some_=true∧cmpN (e.getD 0 ([],[])).1 last<0)∧v=u4) ?_ ?_
   ·intro k hk;refine Iq (fun q=>?_) fun q=>?_
    ·have q:some_=true:=q;refine hB.ldK (k:=.sl) s rfl ((recs_rd h4 v4 hR9).ix rfl rfl (recs_get (i:=0) (by rw [hen];omega)) fun b189 o190 _ hc5=>Lq (k:=.str) _ (hc5 1 (by decide)) (hk _ _ ⟨?_,rfl⟩));rw [bytesLess_cmp,hen];simp [q]
    ·have q:some_=false:=q;exact hk _ _ ⟨by simp [q],rfl⟩
   rintro q5 v5 ⟨rfl,rfl⟩;refine join0 (fun u=>At w F0 ((b175,bkC (bkP tile last some_ z0).1 s)::(((b4,tkC n c1 tb tp sp c2 P sI sB)::(b2,tk0)::(bf,pairC P sI)::X)++Rc++Rb)++R9) u) ?_ ?_
   ·intro k hk;refine Iq (fun q=>?_) fun q=>?_
    ·have q:=odt q;refine h4.st 0 rfl (by show 7+1≤10;decide) fun u5 h5 _=>hk _ ?_;have ebp:(bkP tile last some_ z0).1 = {z0 with flag:=flagP tile,how:=2,ents:=e}:=by unfold bkP;rw [ho];dsimp only;rw [if_pos q]
     rw [ebp];rw [eb] at h5;exact h5
    ·have q:=odf q;have ebp:(bkP tile last some_ z0).1=bkR tile z0:=by unfold bkP;rw [ho,eb];dsimp only;rw [if_neg q]
     exact hk _ (by rw [ebp];exact h4)
   intro u5 h5;have hB5:=h5.own (b175,bkC (bkP tile last some_ z0).1 s) (Lml _ (Lcs ..));have hrd5:RdS u5 ERec s (recsB (bkR tile z0)):=v4.rd fun q hq=>h5.own q (Lmr _ hq);have ei:w64 ((s.len:Int)-1)=((e.length-1:Nat):Int):=by rw [hrd5.len,hlen,Wq (by omega) (by omega)];omega
   refine hB5.ldK (k:=.sl) s rfl (hB5.ldK (k:=.sl) s rfl ?_);rw [ei];refine hrd5.ix rfl rfl (recs_get (i:=e.length-1) (by rw [hen];omega)) fun b199 o200 _ hc6=>Lq (k:=.str) _ (hc6 1 (by decide)) (hk186 _ _ _ ⟨(bkP tile last some_ z0).1,?_,?_,?_,?_,h5⟩)
   ·rw [hen];unfold bkP;rw [ho];rfl
   ·unfold bkP;rw [ho,eb]
   ·unfold bkP;rw [ho,eb]
   ·unfold bkP;rw [ho,←hz0]
 rintro (last':Str) (some':Bool) u5 ⟨y,hy,hye,hyp,hyt,h5⟩;rw [←hy] at hpl;dsimp only at hpl;have hrec:recsB y=recsB (bkR tile z0):=by unfold recsB;rw [hye,hyp]
 have hB5:=h5.own (b175,bkC y s) (Lml _ (Lcs ..));have hB4:=h5.own (b4,tkC n c1 tb tp sp c2 P sI sB) (by simp);refine hB4.ldK (k:=.sl) sB rfl (hB5.ldK (k:=Ki) y.frm rfl (hB5.ldK (k:=Ki) y.to rfl (hB5.ldK (k:=Ki) y.info.stored rfl (hB5.ldK (k:=Ki) y.info.raw rfl (hB5.ldK (k:=Ki) y.info.count rfl (hB5.ldK (k:=.str) y.info.cut rfl (hB5.ldK (k:=Ki) y.part rfl (hB5.ldK (k:=Ki) y.how rfl (hB5.ldK (k:=Ki) (y.flag:Int) rfl (hB5.ldK (k:=.sl) s rfl ?_))))))))));have h5:At w F0 (((b4,tkC n c1 tb tp sp c2 P sI sB)::(b2,tk0)::(bf,pairC P sI)::X)++(Rc++R9)++Rb) u5:=by
  have h0:At w F0 ((((b4,tkC n c1 tb tp sp c2 P sI sB)::(b2,tk0)::(bf,pairC P sI)::X)++Rc++Rb)++R9) u5:=h5.sub (List.sublist_cons_self (b175,bkC y s) _);refine h0.perm ?_;have h1:=perm_mid (((b4,tkC n c1 tb tp sp c2 P sI sB)::(b2,tk0)::(bf,pairC P sI)::X)++Rc) R9 Rb;simp only [Laa] at h1 ⊢;exact h1.symm
 refine h5.alK fun b216 u6 _ h6 _=>?_;have hb6:Blk u6 b216 (EBk.f (y,s)):=h6.own (b216,_) (Lmr _ (Lms.2 rfl));refine appL (h6.sub (Lsl _ _)) hv (rd_one hb6) rfl rfl (by simp;omega) fun s7 Rb7 u7 h7 v7 _ _=>h7.st 0 rfl (by show 8+1≤9;decide) fun u8 h8 _=>⟨⟨j+1,s7,rows++[(y,s)],Rc++R9,Rb7,es,by omega,by omega,by omega,by rw [Lla,List.length_singleton];omega,?_,h8,v7,?_⟩,by rw [es];omega⟩
 ·rw [hpl,List.map_append,Laa];rfl
 ·intro y' hy';rcases Lma.1 hy' with hy' | hy'
  ·exact (hrows y' hy').mono fun q hq=>Lml _ hq
  ·rw [Lms.1 hy'];refine⟨R9,?_,fun q hq=>Lmr _ hq⟩;show VecL R9 ERec s (recsB y);rw [hrec];exact v4
end
structure TakeR(file:Str)(R:BL)(tb tp:Int)(sp:Sl)(P:Int)(sI sB:Sl)(rows:List (BlkP×Sl)):Prop where
 tr:(trailP file).2.2=0→tb=(trailP file).1∧tp=(trailP file).2.1
 pg:OwnL R EPg sp (if (trailP file).2.2=0 then pgsP file else [])
 bl:OwnL R EBk sB rows
 eq:rows.map Prod.fst=(if (trailP file).2.2=0∧rightF file=true then blocksOfP file else [])
 recs:∀y∈rows,OwnL R ERec y.2 (recsB y.1)
 few:6*(rows.length:Int)≤file.length
 ft:(trailP file).2.2=0∧rightF file=true→P=partsP file∧∃ps R',FootL R' sI ps (listP file)∧∀q∈R',q∈R
section
variable {w:World}{sf:Sl}{file:Str}
set_option maxHeartbeats 4000000 in
theorem apart_ok(hf:RdS w ET sf file)(hfl:file.length≤1048576){K:Int→Bool→Int→Int→Sl→Bool→Int→Sl→Sl→Wp}
  (hK:∀u R tb tp sp P sI sB rows,Fresh w u F0 R→TakeR file R tb tp sp P sI sB rows→K file.length (decide ((trailP file).2.2=0)) tb tp sp (decide ((trailP file).2.2=0∧rightF file=true)) P sI sB u) :
  callK Tryz.prog c_37 [Az sf] w (.one (.agg [Ki,.bool,Ki,Ki,.sl,.bool,Ki,.sl,.sl])) K:=by
 refine go_37 _ _ _ ?_;rw [hf.len];refine (At.init w F0).alK fun b2 w1 _ h1 _=>h1.alK fun b4 w2 _ h2 _=>?_;have h2:At w F0 [(b2,tk0),(b4,tk0)] w2:=h2;refine h2.st 1 rfl (Nlr 9) fun w3 h3 _=>?_;have h3:At w F0 ((b2,tk0)::(b4,tkC file.length false 0 0 nilS false 0 nilS nilS)::[]) w3:=h3;refine join2 (a:=.adr) (b:=Ki) (fun (t:Nat×Nat) (e:Int) u=>e=(trailP file).2.2∧∃bt,t=(bt,0)∧At w F0 ((b2,tk0)::(b4,tkC file.length false 0 0 nilS false 0 nilS nilS)::(bt,[.int .i64 (trailP file).1,.int .i64 (trailP file).2.1])::[]) u) ?_ ?_
 ·intro k hk;have hd:=h3.keep0 (Mq w3) fun _=>id;have hB4:=hd.own (b4,tkC file.length false 0 0 nilS false 0 nilS nilS) (by simp);have fin:∀{u:World} {bt:Nat},Fresh w3.drew u F0 [(bt,[.int .i64 (trailP file).1,.int .i64 (trailP file).2.1])]→k (bt,0) (trailP file).2.2 u:=fun h=>hk _ _ _ ⟨rfl,_,rfl,hd.joinF h (fun _ _ h=>h.elim) fun _ _=>id⟩;have hfd:=hf.quiet hd.mod;have hdl:(file.drop (lastP file).toNat).length≤1099511627776:=by rw [Lld];omega
  refine⟨F0,hB4.ldDK (k:=Ki) (file.length:Int) id rfl ⟨last_ok hfd hfl fun s hs=>⟨Mod.refl _ _,rTrailer_ok hs hdl fun u M=>⟨M,((Fresh.start _ F0).quiet M).alK fun bt u1 f1 _ _=>⟨f1.mod,f1.stK 0 rfl (Nlr 2) fun u2 f2 _=>⟨f2.mod,fin f2⟩⟩⟩,
   (Fresh.start _ F0).alK fun bt u1 f1 _ M1=>⟨f1.mod,rTrailer_ok (hs.quiet f1.mod) hdl fun u M=>⟨(f1.quiet M).mod,(f1.quiet M).stK 0 rfl (Nlr 2) fun u2 f2 _=>⟨f2.mod,fin f2⟩⟩⟩⟩,
   (Fresh.start _ F0).alK fun bt u1 f1 _ _=>⟨f1.mod,last_ok (hfd.quiet f1.mod) hfl fun s hs=>⟨f1.mod,rTrailer_ok hs hdl fun u M=>⟨(f1.quiet M).mod,(f1.quiet M).stK 0 rfl (Nlr 2) fun u2 f2 _=>⟨f2.mod,fin f2⟩⟩⟩⟩⟩⟩
 rintro t e u ⟨rfl,bt,rfl,h⟩;refine Iq (fun q=>?_) fun q=>?_
 ·have q:(trailP file).2.2≠0:=by simpa using q
  refine take_ret h fun u' h'=>?_;have:=hK u' _ 0 0 nilS 0 nilS nilS [] (.of_at h') ⟨fun e=>absurd e q,by rw [if_neg q];exact⟨[],VecL.nil EPg,by simp⟩,⟨[],VecL.nil EBk,by simp⟩,by rw [if_neg (fun e=>q e.1)];rfl,by simp,by simp,fun e=>absurd e.1 q⟩;rw [Dcf q,Dcf (fun e=>q e.1)] at this;exact this
 have q0:(trailP file).2.2=0:=by simpa using q
 have ht:trailOk (trailP file).1 (trailP file).2.1=true∧(trailP file).1+(trailP file).2.1+24=file.length:=trailN_0 q0;have ht1:=odt ht.1;have hE:endP file=(trailP file).1+(trailP file).2.1:=rfl;have ew:w64 ((trailP file).1+(trailP file).2.1)=endP file:=Wq (by omega) (by omega);refine h.st 1 rfl (by show 1+1≤9;decide) fun u1 h1 _=>?_;have h1:At w F0 ((b2,tk0)::(b4,tkC file.length true 0 0 nilS false 0 nilS nilS)::(bt,[.int .i64 (trailP file).1,.int .i64 (trailP file).2.1])::[]) u1:=h1;have hBt:=h1.own (bt,[.int .i64 (trailP file).1,.int .i64 (trailP file).2.1]) (by simp);refine hBt.ldK (k:=Ki) (trailP file).1 rfl (hBt.ldK (k:=Ki) (trailP file).2.1 rfl ?_);refine h1.st 1 rfl (by show 2+2≤9;decide) fun u2 h2 _=>?_;have h2:At w F0 ((b2,tk0)::(b4,tkC file.length true (trailP file).1 (trailP file).2.1 nilS false 0 nilS nilS)::(bt,[.int .i64 (trailP file).1,.int .i64 (trailP file).2.1])::[]) u2:=h2;have hBt:=h2.own (bt,[.int .i64 (trailP file).1,.int .i64 (trailP file).2.1]) (by simp);refine hBt.ldK (k:=Ki) (trailP file).1 rfl (hBt.ldK (k:=Ki) (trailP file).2.1 rfl (hBt.ldK (k:=Ki) (trailP file).1 rfl ?_));rw [ew];refine take_pages hf hfl q0 h2 fun u3 sp Rp h3 hvp=>?_;refine join2 (a:=.adr) (b:=Ki) (fun (t:Nat×Nat) (e:Int) u=>e=(footP file).1∧∃bf P sI ps R,t=(bf,0)∧At w F0 (((b2,tk0)::(b4,tkC file.length true (trailP file).1 (trailP file).2.1 sp false 0 nilS nilS)::(bt,[.int .i64 (trailP file).1,.int .i64 (trailP file).2.1])::Rp)++(bf,pairC P sI)::R) u∧((footP file).1=0→P=partsP file∧FootL R sI ps (listP file))) ?_ ?_
 ·intro k hk;have hd:=h3.keep0 (Mq u3) fun _=>id;have hBt:=hd.own (bt,[.int .i64 (trailP file).1,.int .i64 (trailP file).2.1]) (by simp);have hfd:=hf.quiet hd.mod;have hD:decN (cutB file (trailP file).1 (endP file)) (trailP file).1 (trailP file).2.1=footP file:=rfl;have hcl:(cutB file (trailP file).1 (endP file)).length≤20000000:=by rw [cutB_len (by omega) (by omega) (by omega)];omega
  have fin:∀{u:World} {bf:Nat} {P:Int} {sI:Sl} {ps:List PI} {R:BL},Fresh u3.drew u F0 ((bf,pairC P sI)::R)→((footP file).1=0→P=partsP file∧FootL R sI ps (listP file))→k (bf,0) (footP file).1 u:=fun h hl=>hk _ _ _ ⟨rfl,_,_,_,_,_,rfl,hd.joinF h (fun _ _ h=>h.elim) fun _ _=>id,hl⟩;refine⟨F0,hBt.ldDK (k:=Ki) (trailP file).1 id rfl (hfd.partK (n:=(trailP file).1.toNat) (m:=(endP file).toNat) (by omega) (by omega) rfl (by omega) (by omega) fun s51 h51 _=>hBt.ldDK (k:=Ki) (trailP file).1 id rfl (hBt.ldDK (k:=Ki) (trailP file).2.1 id rfl ?_))⟩;have h51:RdS u3.drew ET s51 (cutB file (trailP file).1 (endP file)):=h51;refine⟨rFootDecode_ok h51 hcl (by omega) (fun hn u8 M8=>?_) fun h0 u8 R sI ps hR hFL=>?_,(Fresh.start _ F0).alK fun bf u4 f4 _ _=>⟨f4.mod,rFootDecode_ok (h51.quiet f4.mod) hcl (by omega) (fun hn u8 M8=>?_) fun h0 u8 R sI ps hR hFL=>?_⟩⟩
  ·rw [hD] at hn ⊢;exact⟨M8,((Fresh.start _ F0).quiet M8).alK fun bf u9 f9 _ _=>⟨f9.mod,f9.stK 0 rfl (Nlr 2) fun u10 f10 _=>⟨f10.mod,fin (ps:=[]) (R:=[]) f10 fun e=>absurd e hn⟩⟩⟩
  ·rw [hD] at h0 hFL ⊢;refine⟨hR.mod,hR.alK fun bf u9 f9 _ _=>⟨f9.mod,?_⟩⟩;have f9:Fresh u3.drew u9 F0 ((bf,pairC 0 nilS)::R):=f9.perm (Lpc (l₁:=[(bf,pairC 0 nilS)]) (l₂:=R));refine f9.stK 0 rfl (Nlr 2) fun u10 f10 _=>⟨f10.mod,?_⟩;have:=fin (ps:=ps) (R:=R) f10 fun _=>⟨rfl,hFL⟩;rw [h0] at this;exact this
  ·rw [hD] at hn ⊢;exact⟨(f4.quiet M8).mod,(f4.quiet M8).stK 0 rfl (Nlr 2) fun u10 f10 _=>⟨f10.mod,fin (ps:=[]) (R:=[]) f10 fun e=>absurd e hn⟩⟩
  ·rw [hD] at h0 hFL ⊢;have f8:=f4.join hR (fun _ _ h=>h) fun _ _ _ h=>h;refine⟨f8.mod,f8.stK 0 rfl (Nlr 2) fun u10 f10 _=>⟨f10.mod,?_⟩⟩;have:=fin (ps:=ps) (R:=R) f10 fun _=>⟨rfl,hFL⟩;rw [h0] at this;exact this
 rintro t e u4 ⟨rfl,bf,P,sI,ps,R,rfl,h4,hFL⟩;refine join1 (a:=.bool) (fun (q:Bool) v=>q=(!rightF file)∧v=u4) ?_ ?_
 ·intro k hk;refine Iq (fun q=>hk _ _ ⟨?_,rfl⟩) fun q=>hk _ _ ⟨?_,rfl⟩
  ·have q:rightP0 file=false:=by simpa using q
   unfold rightF;rw [q];rfl
  ·have q:rightP0 file=true:=by simpa using q
   unfold rightF;rw [q,Bool.true_and];by_cases h0:(footP file).1=0
   ·rw [h0,Dct rfl];rfl
   ·rw [Dcf h0];simpa using h0
 rintro q5 v5 ⟨rfl,rfl⟩;have hlistD:List.Sublist Rp (((bt,[Value.int .i64 (trailP file).1,.int .i64 (trailP file).2.1])::Rp)++(bf,pairC P sI)::R):=(List.sublist_cons_self _ _).trans (Lsl _ _)
 cases hrf:rightF file with
 | false=>
  refine ifK_t rfl (take_ret h4 fun u' h'=>?_);have:=hK u' _ (trailP file).1 (trailP file).2.1 sp 0 nilS nilS [] (.of_at h') ⟨fun _=>⟨rfl,rfl⟩,by rw [if_pos q0];exact⟨Rp,hvp,fun q hq=>Lmc _ (Lmc _ (hlistD.subset hq))⟩,⟨[],VecL.nil EBk,by simp⟩,by rw [if_neg (by rw [hrf];exact fun e=>Bool.noConfusion e.2)];rfl,by simp,by simp,fun e=>by rw [hrf] at e;cases e.2⟩;rw [Dct q0,Dcf (by rw [hrf];exact fun e=>Bool.noConfusion e.2)] at this;exact this
 | true=>
  have hf0:(footP file).1=0:=by
   have:=hrf;unfold rightF at this;rw [Bat] at this;exact odt this.2
  have hok:=decN_ok hf0;have hspl:spI (listP file)=(trailP file).1:=hok.2;obtain⟨hPe,hFL⟩:=hFL hf0;refine ifK_f rfl (h4.st 1 rfl (by show 5+1≤9;decide) fun u5 h5 _=>?_);have h5:At w F0 (((b2,tk0)::(b4,tkC file.length true (trailP file).1 (trailP file).2.1 sp true 0 nilS nilS)::(bt,[.int .i64 (trailP file).1,.int .i64 (trailP file).2.1])::Rp)++(bf,pairC P sI)::R) u5:=h5;have hBf:=h5.own (bf,pairC P sI) (by simp);refine hBf.ldK (k:=Ki) P rfl (hBf.ldK (k:=.sl) sI rfl (h5.st 1 rfl (by show 6+2≤9;decide) fun u6 h6 _=>?_));have h6:At w F0 ((b2,tk0)::(b4,tkC file.length true (trailP file).1 (trailP file).2.1 sp true P sI nilS)::(((bt,[.int .i64 (trailP file).1,.int .i64 (trailP file).2.1])::Rp)++(bf,pairC P sI)::R)) u6:=h6;have h6:At w F0 ((b4,tkC file.length true (trailP file).1 (trailP file).2.1 sp true P sI nilS)::(b2,tk0)::(bf,pairC P sI)::(((bt,[.int .i64 (trailP file).1,.int .i64 (trailP file).2.1])::Rp)++R)) u6:=h6.perm ((List.Perm.swap _ _ _).trans ((List.perm_middle.symm.cons _).cons _));refine take_blocks hf hfl hFL (fun q hq=>Lmr _ hq) (fun y hy=>chkI_mem (Bat _ _▸(footOk_chk hok.1):_∧_).2 y hy) (by omega) h6 fun u7 sB rows Rc Rb h7 hvb hmap hrecs hfew=>?_;have h7:At w F0 ((b2,tk0)::(b4,tkC file.length true (trailP file).1 (trailP file).2.1 sp true P sI sB)::((bf,pairC P sI)::(((bt,[.int .i64 (trailP file).1,.int .i64 (trailP file).2.1])::Rp)++R)++Rc++Rb)) u7:=h7.perm (List.Perm.swap _ _ _);refine take_ret h7 fun u' h'=>?_;have:=hK u' _ (trailP file).1 (trailP file).2.1 sp P sI sB rows (.of_at h') ⟨fun _=>⟨rfl,rfl⟩,by rw [if_pos q0];exact⟨Rp,hvp,fun q hq=>by simp [hq]⟩,⟨Rb,hvb,fun q hq=>by simp [hq]⟩,by rw [if_pos ⟨q0,hrf⟩];exact hmap,fun y hy=>(hrecs y hy).mono fun q hq=>by simp [hq],hfew,fun _=>⟨hPe,ps,R,hFL,fun q hq=>by simp [hq]⟩⟩;rw [Dct q0,Dct ⟨q0,hrf⟩] at this;exact this
end
theorem pagesP_len(file:Str)(e:Int):∀(n:Nat) (a:Int),(pagesP file e n a).length≤n
 | 0,_=>Nlr _
 | n+1,a=>by
  rw [pagesP_s];split
  ·rw [Llc];exact Nat.succ_le_succ (pagesP_len file e n _)
  ·exact Nzl _
section
variable {w:World}{sf:Sl}{file:Str}
end
end Go.Proofs.YtoegpmjoajipcaaGreatDoor
namespace Go.Proofs.YtoegpmjoajipcaaGreatDoor
open Go.Vw
set_option maxRecDepth 100000
theorem go_38(b1:Sl)(K:Sl→Wp)(w:World)(h:mk w 5 1 [.int .u8 0] (w64 ((b1.len:Int)+64)) (w64 ((b1.len:Int)+64)) fun a2 W3=>joinK [] (fun k4=>loopL [Ki] (fun i6 W7 g5=>ifK (decide (i6<(a2.len:Int))) (ix a2 1 i6 fun b8 o9=>st W7 b8 o9 [.int .u8 165] fun W10=>joinK [] (fun k11=>ifK (decide (i6<(b1.len:Int))) (ix b1 1 i6 fun b12 o13=>ld W10 (.int .u8) b12 o13 fun n14=>ix a2 1 i6 fun b15 o16=>st W10 b15 o16 [.int .u8 n14] fun W17=>k11 W17) (k11 W10)) fun W18=>g5 (w64 (i6+1)) W18) (k4 W7)) [.int .i64 0] W3) fun W19=>K a2 W19):callK Pg 4 [Az b1] w Oz K:=Fq (n:=(n0 .nil (n0 .nil (n0 (n0 .nil (.mk (some []) [] [3] .done (.mk none [.tmp 4 Li] [0,3] .done (n0 .nil (n0 (n0 (n0 .nil (n0 .nil (.mk (some []) [] [0,3,4] .done .nil .nil))) .nil) .nil)) .nil) .nil)) .nil)))) CS_ok mixed Tryz.func4 (Eq.mpr (by kernel_rfl) h)
theorem go_39(a1:Sl)(b2:Sl)(K:Bool→Wp)(w:World)(h:ifK ((a1.len:Int) != (b2.len:Int)) (K false w) (joinK [] (fun k3=>loopL [Ki] (fun i5 W6 g4=>ifK (decide (i5<(a1.len:Int))) (drawK W6 fun D W7=>ix a1 1 i5 fun b8 o9=>ldD D W7 (.int .u8) b8 o9 fun n10=>ix b2 1 i5 fun b11 o12=>ldD D W7 (.int .u8) b11 o12 fun n13=>ifK (n10 != n13) (K false W7) (g4 (w64 (i5+1)) W7)) (k3 W6)) [.int .i64 0] w) fun W14=>K true W14)):callK Pg 7 [Az a1,Az b2] w Ob K:=Fq (n:=(n0 .nil (n0 .nil (n0 (n0 .nil (.mk (some []) [] [] .done (.mk none [.tmp 5 Li] [0,1] .done (n0 .nil (n0 (n0 (n0 (.mk none [] [] (tk [0,1,2,3,4,5,6,7,8] .done) .nil .nil) .nil) .nil) .nil)) .nil) .nil)) .nil)))) CS_ok mixed Tryz.func7 (Eq.mpr (by kernel_rfl) h)
theorem go_40(b1:Sl)(K:Sl→Wp)(w:World)(h:joinK [] (fun k2=>ifK (decide (0<(b1.len:Int))) (ix b1 1 (w64 ((b1.len:Int).tdiv 3)) fun b3 o4=>ld w (.int .u8) b3 o4 fun n5=>ix b1 1 (w64 ((b1.len:Int).tdiv 3)) fun b6 o7=>st w b6 o7 [.int .u8 (bitI .xor .u8 n5 1)] fun W8=>k2 W8) (k2 w)) fun W9=>K b1 W9):callK Pg 8 [Az b1] w Oz K:=Fq (n:=(n0 .nil (n0 (n0 .nil (.mk (some []) [] [0] .done .nil .nil)) .nil))) CS_ok mixed Tryz.func8 (Eq.mpr (by kernel_rfl) h)
theorem go_24(file1:Sl)(K:Bool→Wp)(w:World)(h:callK Pg 4 [Az file1] w Oz fun a2 W3=>slx a2 1 none (some (file1.len:Int)) none fun s4=>callK Pg 5 [Az s4] W3 Ot fun s5 W6=>joinK [.bool] (fun k7=>callK Pg 6 [Az file1] W6 Ot fun s8 W9=>ifK (!(s5==s8)) (k7 true W9) (callK Pg 4 [Az file1] W9 Oz fun a10 W11=>callK Pg 7 [Az a2,Az a10] W11 Ob fun c12 W13=>k7 (!c12) W13)) fun t2314 W15=>ifK t2314 (K false W15) (slx a2 1 none (some (file1.len:Int)) none fun s16=>callK Pg 8 [Az s16] W15 Oz fun a17 W18=>callK Pg 5 [Az a17] W18 Ot fun s19 W20=>callK Pg 4 [Az file1] W20 Oz fun a21 W22=>slx a21 1 none (some (file1.len:Int)) none fun s23=>callK Pg 8 [Az s23] W22 Oz fun a24 W25=>callK Pg 6 [Az a24] W25 Ot fun s26 W27=>K (s19==s26) W27)):callK Pg 3 [Az file1] w Ob K:=Fq (n:=(n0 .nil (n0 .nil (n0 .nil (n0 (n0 (.mk (some [.tmp 23 Lb]) [] [0,3] .done .nil .nil) .nil) .nil))))) CS_ok mixed Tryz.func3 (Eq.mpr (by kernel_rfl) h)
end Go.Proofs.YtoegpmjoajipcaaGreatDoor
namespace Go.Proofs.YtoegpmjoajipcaaGreatDoor
open Go.Vw
open Go
theorem blksP_len(file:Str)(part:Int):∀(l:List BI) (at_:Int) (last:Str) (some_:Bool),(blksP file part l at_ last some_).length=l.length
 | [],_,_,_=>rfl
 | b::r,at_,last,some_=>by rw [blksP_cons,Llc,Llc,blksP_len file part r]
def tailP:Str:=List.replicate 64 165
def roomP(file:Str):Str:=file++tailP
def turnP(file:Str):Str:=if 0<file.length then file.set (file.length/3) (file.getD (file.length/3) 0 ^^^ 1) else file
theorem turnP_len(file:Str):(turnP file).length=file.length:=by unfold turnP;split<;>simp
theorem xor8(x:UInt8):bitI .xor .u8 (x.toNat:Int) 1=((x ^^^ 1).toNat:Int):=by
 have h:∀i:Fin 256,bitI .xor .u8 (((UInt8.ofNat i.val).toNat:Nat):Int) 1=(((UInt8.ofNat i.val) ^^^ 1).toNat:Int):=by decide +kernel
 have:=h ⟨x.toNat,x.toNat_lt⟩;simpa using this
theorem VecL.some_p{α:Type}{ro:BL}{E:Enc α}{s:Sl}{l:List α}(h:VecL ro E s l)(hl:0<l.length):∃b,s.p=some (b,0):=by
 rcases h.2.2 with⟨_,_,h0⟩ | ⟨b,_,_,hp,_⟩
 ·have h1:=h.1;have h2:=h.2.1;omega
 ·exact⟨b,hp⟩
section
variable {w:World}{sf:Sl}{file:Str}
set_option maxHeartbeats 1000000 in
theorem roomy_ok{w0:World}{m:BL}(hA:At w0 F0 m w)(hf:RdS w0 ET sf file)(hfl:file.length≤1048576){K:Sl→Wp}(hK:∀w' s ro,At w0 F0 (m++ro) w'→VecL ro ET s (roomP file)→K s w') :
  callK Tryz.prog c_38 [Az sf] w Oz K:=by
 refine go_38 _ _ _ ?_;have hrl:(roomP file).length=file.length+64:=by unfold roomP tailP;rw [Lla,List.length_replicate]
 rw [hf.len];have e64:w64 ((file.length:Int)+64)=((file.length+64:Nat):Int):=by rw [Wq (by omega) (by omega)];omega
 rw [e64];refine makeL hA ET (0:UInt8) (file.length+64) rfl rfl (by omega) (by omega) fun s ro w1 h1 v1 _=>?_;refine join0 (fun u=>∃ro,At w0 F0 (m++ro) u∧VecL ro ET s (roomP file)) ?_ (by rintro u ⟨ro,h,v⟩;exact hK u s ro h v);intro k hk;refine loop1 (k:=Ki) (fun (i:Int) u=>∃(j:Nat) (ro:BL),i=(j:Int)∧j≤(roomP file).length∧At w0 F0 (m++ro) u∧VecL ro ET s ((roomP file).take j++List.replicate ((roomP file).length-j) 0)) (fun i _=>((roomP file).length-i).toNat) (x:=0) rfl
  ⟨0,ro,rfl,Nzl _,h1,by rw [List.take_zero,List.nil_append,hrl];exact v1⟩ ?_
 rintro (i:Int) u ⟨j,ro,rfl,hj,h,v⟩;have hcl:((roomP file).take j++List.replicate ((roomP file).length-j) (0:UInt8)).length=(roomP file).length:=by rw [Lla,Llt,List.length_replicate];omega
 have hsl:s.len=(roomP file).length:=by rw [v.1,hcl]
 obtain⟨b,hp⟩:=v.some_p (by omega);rw [hsl];refine Iq (fun q=>?_) fun q=>?_;rotate_left
 ·have q:(roomP file).length≤j:=dge q;rw [Ltl q,Nat.sub_eq_zero_of_le q] at v;have v:VecL ro ET s (roomP file++[]):=v;rw [Lan] at v;exact hk u ⟨ro,h,v⟩
 have q:j<(roomP file).length:=dlt q;have es:=step64 (i:=j) (by omega);refine ix_some hp (by omega) (by omega) ?_ v.2.1;refine h.setL v (k:=j) (by omega) (y:=(165:UInt8)) rfl hp fun ro2 u2 h2 v2 _=>?_;refine join0 (fun u=>∃ro,At w0 F0 (m++ro) u∧VecL ro ET s ((roomP file).take (j+1)++List.replicate ((roomP file).length-(j+1)) 0)) ?_ ?_
 ·intro k2 hk2;rw [←fill_set q] at hk2;refine Iq (fun q2=>?_) fun q2=>?_
  ·have q2:j<file.length:=dlt q2;refine (hf.quiet h2.mod).byte rfl q2 fun b12 o13 _ hc=>Lq (k:=.int .u8) ((file[j]).toNat:Int) hc (ix_some hp (by omega) (by omega) ?_ v2.2.1);have eg:(roomP file)[j]=file[j]:=by unfold roomP;exact List.getElem_append_left q2
   refine h2.setL v2 (k:=j) (by rw [List.length_set];omega) (y:=file[j]) rfl hp fun ro3 u3 h3 v3 _=>hk2 u3 ⟨ro3,h3,?_⟩;rw [List.set_set] at v3;rw [eg];exact v3
  ·have q2:¬j<file.length:=by have:=dge q2;omega
   have eg:(roomP file)[j]=165:=by
    have h9:(roomP file)[j]? = some 165:=by unfold roomP tailP;rw [Lgr (by omega),List.getElem?_replicate,if_pos (by omega)]
    exact (Les.1 h9).2
   exact hk2 u2 ⟨ro2,h2,by rw [eg];exact v2⟩
 rintro u3 ⟨ro3,h3,v3⟩;exact⟨⟨j+1,ro3,es,by omega,h3,v3⟩,by rw [es];omega⟩
theorem pre_ok{ro:BL}{s:Sl}{f:Str}(hv:VecL ro ET s (f++tailP)){n:Int}(hn:n=f.length){K:Sl→Prop}(hK:∀t,t.p=s.p→t.len=f.length→t.len≤t.cap→K t):Go.Vw.slx s 1 none (some n) none K:=by
 subst hn;have hl:(f++tailP).length=f.length+64:=by unfold tailP;rw [Lla,List.length_replicate]
 have h1:=hv.1;have h2:=hv.2.1;obtain⟨b,hp⟩:=hv.some_p (by omega);refine⟨0,f.length,s.cap,rfl,rfl,rfl,Nzl _,by omega,Nlr _,hK _ ?_ ?_ ?_⟩
 ·show (if s.cap=0 then _ else _)=_;rw [if_neg (by omega),hp];rfl
 ·show f.length-0=_;omega
 ·show f.length-0≤s.cap-0;omega
theorem same_ok{s1 s2:Sl}{t:Str}(h1:RdS w ET s1 t)(h2:RdS w ET s2 t)(hl:t.length≤1099511627776){K:Bool→Wp}(hK:∀w',Mod F0 w w'→K true w') :
  callK Tryz.prog c_39 [Az s1,Az s2] w Ob K:=by
 refine go_39 _ _ _ _ ?_;rw [h1.len,h2.len];refine ifK_f (Bsf _) ?_;refine join0 (fun u=>Mod F0 w u) ?_ (fun u hM=>hK u hM);intro k hk;refine loop1 (k:=Ki) (fun (i:Int) u=>Mod F0 w u∧∃j:Nat,i=j∧j≤t.length) (fun i _=>(t.length-i).toNat) (x:=0) rfl ⟨Mod.refl _ _,0,rfl,Nzl _⟩ ?_;rintro i u ⟨hM,j,rfl,hj⟩;refine Iq (fun h=>?_) fun h=>hk u hM;have hlt:j<t.length:=dlt h;have hd:=mod0 hM (Mq u);refine⟨F0,(h1.quiet hd).byte rfl hlt fun b1 o1 _ hc1=>Lw (k:=.int .u8) ((t[j]).toNat:Int) id hc1 ((h2.quiet hd).byte rfl hlt fun b2 o2 _ hc2=>Lw (k:=.int .u8) ((t[j]).toNat:Int) id hc2 (ifK_f (Bsf _) ?_))⟩;exact⟨⟨hd,j+1,step64 (by omega),by omega⟩,by rw [step64 (by omega)];omega⟩
theorem turned_ok{w0:World}{m ro:BL}{s t:Sl}(hA:At w0 F0 (m++ro) w)(hv:VecL ro ET s (roomP file))(hfl:file.length≤1048576)(hp:t.p=s.p)(htl:t.len=file.length)(htc:t.len≤t.cap){K:Sl→Wp}
  (hK:∀w' ro',At w0 F0 (m++ro') w'→VecL ro' ET s (turnP file++tailP)→K t w') :
  callK Tryz.prog c_40 [Az t] w Oz K:=by
 refine go_40 _ _ _ ?_;have hl:(roomP file).length=file.length+64:=by unfold roomP tailP;rw [Lla,List.length_replicate]
 obtain⟨b,hb⟩:=hv.some_p (by omega);rw [hb] at hp;rw [htl];refine join0 (fun u=>∃ro',At w0 F0 (m++ro') u∧VecL ro' ET s (turnP file++tailP)) ?_ (by rintro u ⟨ro',h,v⟩;exact hK u ro' h v);intro k hk;refine Iq (fun q=>?_) fun q=>?_;rotate_left
 ·have q:¬0<file.length:=by have:=odf q;omega
  have e:turnP file=file:=if_neg q;rw [e] at hk;exact hk w ⟨ro,hA,hv⟩
 have q:0<file.length:=by have:=odt q;omega
 have e3:w64 ((file.length:Int).tdiv 3)=((file.length/3:Nat):Int):=by
  have e:(file.length:Int).tdiv 3=((file.length/3:Nat):Int):=by rw [Int.tdiv_eq_ediv_of_nonneg (by omega)];rfl
  rw [e,Wq (by omega) (by omega)]
 rw [e3];have hi:file.length/3<file.length:=by omega
 have hrd:=hv.rd fun q hq=>hA.own q (Lmr _ hq);have hrt:RdS w ET t file:=(hv.viewOf htl htc (hp.trans hb.symm)).rd fun q hq=>hA.own q (Lmr _ hq);refine hrt.byte rfl hi fun b3 o4 _ hc=>Lq (k:=.int .u8) ((file[file.length/3]).toNat:Int) hc (ix_some hp (by omega) (by omega) ?_ htc);rw [xor8];refine hA.setL hv (k:=file.length/3) (by omega) (y:=file[file.length/3] ^^^ 1) rfl hb fun ro2 u2 h2 v2 _=>hk u2 ⟨ro2,h2,?_⟩;have e:turnP file++tailP=(roomP file).set (file.length/3) (file[file.length/3] ^^^ 1):=by
  unfold turnP roomP;rw [if_pos q,List.set_append_left _ _ hi,Lgd,Lge hi,Option.getD_some]
 rw [e];exact v2
end
end Go.Proofs.YtoegpmjoajipcaaGreatDoor
namespace Go.Proofs.YtoegpmjoajipcaaGreatDoor
section
open Go.Shelf Go.RowKit Go.Lib Go.Sort
def joinLays_ren:Go.Shelf.Ren:=⟨fun | 156=>19 | 165=>33 | 166=>18 | 169=>12 | 240=>32 | 241=>59 | 276=>58 | 277=>78 | n=>n,fun | 31=>61 | 9=>9 | 3=>3 | 4=>4 | 0=>0 | 20=>20 | 72=>30 | 76=>64 | 70=>28 | 37=>22 | 75=>63 | 127=>85 | 164=>125 | 5=>5 | 80=>36 | n=>n,fun | n=>n⟩
theorem joinLays:Go.Proofs.Lays.n156 Tryz.prog joinLays_ren where
 mixed:=by kernel_rfl
 f156:=Tryz.func19.trans (congrArg some (by kernel_rfl))
 f165:=Tryz.func33.trans (congrArg some (by kernel_rfl))
 f166:=Tryz.func18.trans (congrArg some (by kernel_rfl))
 f169:=Tryz.func12.trans (congrArg some (by kernel_rfl))
 f240:=Tryz.func32.trans (congrArg some (by kernel_rfl))
 f241:=Tryz.func59.trans (congrArg some (by kernel_rfl))
 f276:=Tryz.func58.trans (congrArg some (by kernel_rfl))
 f277:=Tryz.func78.trans (congrArg some (by kernel_rfl))
 t0:=Tryz.underlying0
 a0:=Tryz.isAgg0
 z0:=Tryz.sizeOf0
 v0:=Tryz.zeroValue0
 t3:=Tryz.underlying3
 a3:=Tryz.isAgg3
 z3:=Tryz.sizeOf3
 v3:=Tryz.zeroValue3
 t4:=Tryz.underlying4
 a4:=Tryz.isAgg4
 z4:=Tryz.sizeOf4
 v4:=Tryz.zeroValue4
 t9:=Tryz.underlying9
 a9:=Tryz.isAgg9
 z9:=Tryz.sizeOf9
 v9:=Tryz.zeroValue9
 t20:=Tryz.underlying20
 a20:=Tryz.isAgg20
 z20:=Tryz.sizeOf20
 v20:=Tryz.zeroValue20
 t31:=Tryz.underlying61
 a31:=Tryz.isAgg61
 z31:=Tryz.sizeOf61
 v31:=Tryz.zeroValue61
 t37:=Tryz.underlying22
 a37:=Tryz.isAgg22
 z37:=Tryz.sizeOf22
 v37:=Tryz.zeroValue22
 t70:=Tryz.underlying28
 a70:=Tryz.isAgg28
 z70:=Tryz.sizeOf28
 v70:=Tryz.zeroValue28
 t72:=Tryz.underlying30
 a72:=Tryz.isAgg30
 z72:=Tryz.sizeOf30
 v72:=Tryz.zeroValue30
 t75:=Tryz.underlying63
 a75:=Tryz.isAgg63
 z75:=Tryz.sizeOf63
 v75:=Tryz.zeroValue63
 t76:=Tryz.underlying64
 a76:=Tryz.isAgg64
 z76:=Tryz.sizeOf64
 v76:=Tryz.zeroValue64
 t127:=Tryz.underlying85
 a127:=Tryz.isAgg85
 z127:=Tryz.sizeOf85
 v127:=Tryz.zeroValue85
 t164:=Tryz.underlying125
 a164:=Tryz.isAgg125
 z164:=Tryz.sizeOf125
 v164:=Tryz.zeroValue125
def fmtLays_ren:Go.Shelf.Ren:=⟨fun | 173=>21 | 246=>34 | 283=>60 | 284=>61 | 285=>62 | 286=>63 | 129=>80 | 317=>79 | 318=>81 | 319=>82 | 320=>83 | 337=>115 | 338=>116 | n=>n,fun | 2=>2 | 3=>3 | 9=>9 | 4=>4 | 171=>127 | 0=>0 | 53=>92 | 37=>22 | 5=>5 | 173=>130 | 212=>165 | 51=>97 | 20=>20 | 213=>166 | 46=>133 | 232=>228 | 233=>229 | n=>n,fun | 17=>0 | 18=>2 | 19=>3 | n=>n⟩
theorem fmtLays:Go.Proofs.LaysM.n173 Tryz.prog fmtLays_ren where
 mixed:=by kernel_rfl
 f129:=Tryz.func80.trans (congrArg some (by kernel_rfl))
 f173:=Tryz.func21.trans (congrArg some (by kernel_rfl))
 f246:=Tryz.func34.trans (congrArg some (by kernel_rfl))
 f283:=Tryz.func60.trans (congrArg some (by kernel_rfl))
 f284:=Tryz.func61.trans (congrArg some (by kernel_rfl))
 f285:=Tryz.func62.trans (congrArg some (by kernel_rfl))
 f286:=Tryz.func63.trans (congrArg some (by kernel_rfl))
 f317:=Tryz.func79.trans (congrArg some (by kernel_rfl))
 f318:=Tryz.func81.trans (congrArg some (by kernel_rfl))
 f319:=Tryz.func82.trans (congrArg some (by kernel_rfl))
 f320:=Tryz.func83.trans (congrArg some (by kernel_rfl))
 f337:=Tryz.func115.trans (congrArg some (by kernel_rfl))
 f338:=Tryz.func116.trans (congrArg some (by kernel_rfl))
 t0:=Tryz.underlying0
 a0:=Tryz.isAgg0
 z0:=Tryz.sizeOf0
 v0:=Tryz.zeroValue0
 t2:=Tryz.underlying2
 a2:=Tryz.isAgg2
 z2:=Tryz.sizeOf2
 v2:=Tryz.zeroValue2
 t3:=Tryz.underlying3
 a3:=Tryz.isAgg3
 z3:=Tryz.sizeOf3
 v3:=Tryz.zeroValue3
 t4:=Tryz.underlying4
 a4:=Tryz.isAgg4
 z4:=Tryz.sizeOf4
 v4:=Tryz.zeroValue4
 t5:=Tryz.underlying5
 a5:=Tryz.isAgg5
 z5:=Tryz.sizeOf5
 v5:=Tryz.zeroValue5
 t9:=Tryz.underlying9
 a9:=Tryz.isAgg9
 z9:=Tryz.sizeOf9
 v9:=Tryz.zeroValue9
 t20:=Tryz.underlying20
 a20:=Tryz.isAgg20
 z20:=Tryz.sizeOf20
 v20:=Tryz.zeroValue20
 t37:=Tryz.underlying22
 a37:=Tryz.isAgg22
 z37:=Tryz.sizeOf22
 v37:=Tryz.zeroValue22
 t46:=Tryz.underlying133
 a46:=Tryz.isAgg133
 z46:=Tryz.sizeOf133
 v46:=Tryz.zeroValue133
 t51:=Tryz.underlying97
 a51:=Tryz.isAgg97
 z51:=Tryz.sizeOf97
 v51:=Tryz.zeroValue97
 t53:=Tryz.underlying92
 a53:=Tryz.isAgg92
 z53:=Tryz.sizeOf92
 v53:=Tryz.zeroValue92
 t171:=Tryz.underlying127
 a171:=Tryz.isAgg127
 z171:=Tryz.sizeOf127
 v171:=Tryz.zeroValue127
 t173:=Tryz.underlying130
 a173:=Tryz.isAgg130
 z173:=Tryz.sizeOf130
 v173:=Tryz.zeroValue130
 t212:=Tryz.underlying165
 a212:=Tryz.isAgg165
 z212:=Tryz.sizeOf165
 v212:=Tryz.zeroValue165
 t213:=Tryz.underlying166
 a213:=Tryz.isAgg166
 z213:=Tryz.sizeOf166
 t232:=Tryz.underlying228
 a232:=Tryz.isAgg228
 z232:=Tryz.sizeOf228
 v232:=Tryz.zeroValue228
 t233:=Tryz.underlying229
 a233:=Tryz.isAgg229
 z233:=Tryz.sizeOf229
 v233:=Tryz.zeroValue229
 g17:=by kernel_rfl
 g18:=by kernel_rfl
 g19:=by kernel_rfl
 i0:=by kernel_rfl
 i2:=by kernel_rfl
 i3:=by kernel_rfl
 i4:=by kernel_rfl
 i5:=by kernel_rfl
 i9:=by kernel_rfl
 i20:=by kernel_rfl
 i37:=by kernel_rfl
 i46:=by kernel_rfl
 i51:=by kernel_rfl
 i53:=by kernel_rfl
 i171:=by kernel_rfl
 i173:=by kernel_rfl
 i212:=by kernel_rfl
 i232:=by kernel_rfl
 i233:=by kernel_rfl
 m17:=by kernel_rfl
 m18:=by kernel_rfl
 m19:=by kernel_rfl
theorem joinX:Go.Proofs.Builder.Extra Tryz.prog joinLays_ren where
 sizeBuilder:=by kernel_rfl
 liesBuilder:=by kernel_rfl
 t5:=Tryz.underlying5
 a5:=Tryz.isAgg5
 z5:=Tryz.sizeOf5
 v5:=Tryz.zeroValue5
 infoByte:=by kernel_rfl
 cellsByte:=by kernel_rfl
 sizeByte:=by kernel_rfl
 neB5:=by decide
end
end Go.Proofs.YtoegpmjoajipcaaGreatDoor
namespace Go.Proofs.YtoegpmjoajipcaaGreatDoor
open Go.Vw
set_option maxRecDepth 100000
theorem go_4(b1:PA)(s2:List UInt8)(K:Int→Value→Wp)(w:World)(h:callK Pg 32 [Ap b1] w (.tup []) fun W3=>dr b1 fun b4 o5=>ld W3 .sl b4 (o5+1) fun a6=>opF Pg (builtin .append #[22,9] 22 #[false,false] #[(LV.toV (.sl a6)),(LV.toV (.str s2))]) W3 Oz fun a8 W7=>dr b1 fun b9 o10=>st W7 b9 (o10+1) [.sl a8] fun W11=>K (s2.length:Int) .nilIface W11):callK Pg 18 [Ap b1,Au s2] w (.tup [Li,.leaf (.val)]) K:=Fq (n:=.nil) CS_ok mixed Tryz.func18 (Eq.mpr (by kernel_rfl) h)
theorem go_5(b1:PA)(c2:Int)(K:Value→Wp)(w:World)(h:callK Pg 32 [Ap b1] w (.tup []) fun W3=>dr b1 fun b4 o5=>ld W3 .sl b4 (o5+1) fun a6=>al W3 5 [.int .u8 c2] fun b7 W8=>ap W8 5 1 1 [.int .u8 0] a6 (⟨some (b7,0),1,1⟩) fun a9 W10=>dr b1 fun b11 o12=>st W10 b11 (o12+1) [.sl a9] fun W13=>K .nilIface W13):callK Pg 20 [Ap b1,.leaf (.int .u8 c2)] w (.one (.leaf (.val))) K:=Fq (n:=.nil) CS_ok mixed Tryz.func20 (Eq.mpr (by kernel_rfl) h)
set_option maxRecDepth 100000
theorem go_7(n1:Int)(K:List UInt8→Wp)(w:World)(h:callK Pg 21 [Ai n1,Ai 10] w Ot fun s2 W3=>K s2 W3):callK Pg 10 [Ai n1] w Ot K:=Fq (n:=.nil) CS_ok mixed Tryz.func10 (Eq.mpr (by kernel_rfl) h)
theorem go_9(s1:List UInt8)(K:List UInt8→Wp)(w:World)(h:al w 30 [.ptr none,.sl (⟨none,0,0⟩)] fun b2 W3=>callK Pg 20 [Ap (some (b2,0)),.leaf (.int .u8 34)] W3 (.one (.leaf (.val))) fun v4 W5=>joinK [] (fun k6=>loopL [Ki] (fun t98 W9 g7=>ifK (decide (t98<(s1.length:Int))) (sx s1 t98 fun c10=>joinK [.bool] (fun k11=>ifK (c10==34) (k11 true W9) (k11 (c10==92) W9)) fun t2412 W13=>joinK [] (fun k14=>ifK t2412 (callK Pg 20 [Ap (some (b2,0)),.leaf (.int .u8 92)] W13 (.one (.leaf (.val))) fun v15 W16=>callK Pg 20 [Ap (some (b2,0)),.leaf (.int .u8 c10)] W16 (.one (.leaf (.val))) fun v17 W18=>k14 W18) (joinK [.bool] (fun k19=>ifK (decide (32≤c10)) (k19 (decide (c10≤126)) W13) (k19 false W13)) fun t3420 W21=>joinK [] (fun k22=>ifK t3420 (callK Pg 20 [Ap (some (b2,0)),.leaf (.int .u8 c10)] W21 (.one (.leaf (.val))) fun v23 W24=>k22 W24) (callK Pg 18 [Ap (some (b2,0)),Au ([92,120])] W21 (.tup [Li,.leaf (.val)]) fun n25 v26 W27=>sx [48,49,50,51,52,53,54,55,56,57,97,98,99,100,101,102] (IntKind.wrap .u8 (c10.tdiv 16)) fun c28=>callK Pg 20 [Ap (some (b2,0)),.leaf (.int .u8 c28)] W27 (.one (.leaf (.val))) fun v29 W30=>sx [48,49,50,51,52,53,54,55,56,57,97,98,99,100,101,102] (c10.tmod 16) fun c31=>callK Pg 20 [Ap (some (b2,0)),.leaf (.int .u8 c31)] W30 (.one (.leaf (.val))) fun v32 W33=>k22 W33)) fun W34=>k14 W34)) fun W35=>g7 (w64 (t98+1)) W35) (k6 W9)) [.int .i64 0] W5) fun W36=>callK Pg 20 [Ap (some (b2,0)),.leaf (.int .u8 34)] W36 (.one (.leaf (.val))) fun v37 W38=>callK Pg 12 [Ap (some (b2,0))] W38 Ot fun s39 W40=>K s39 W40):callK Pg 208 [Au s1] w Ot K:=Fq (n:=(n0 .nil (n0 .nil (n0 .nil (n0 (n0 .nil (.mk (some []) [] [3] .done (.mk none [.tmp 9 Li] [0,3,8] .done (n0 .nil (n0 .nil (n0 (n0 (n0 .nil (n0 .nil (n0 (n0 (.mk (some [.tmp 24 Lb]) [] [0,3,5,8,9] .done .nil .nil) (.mk (some []) [] [0,3,8,9] .done .nil (n0 (.mk (some [.tmp 34 Lb]) [] [0,3,5,8,9] .done .nil .nil) (.mk (some []) [] [0,3,8,9] .done .nil .nil)))) .nil))) .nil) .nil))) .nil) .nil)) .nil))))) CS_ok mixed Tryz.func208 (Eq.mpr (by kernel_rfl) h)
theorem go_8(ok1:Bool)(K:List UInt8→Wp)(w:World)(h:ifK ok1 (K [119,104,111,108,101] w) (K [115,112,111,105,108,116] w)):callK Pg 207 [Ab ok1] w Ot K:=Fq (n:=.nil) CS_ok mixed Tryz.func207 (Eq.mpr (by kernel_rfl) h)
theorem go_10(x1:PA)(words2:Sl)(K:Wp)(w:World)(h:drawK w fun D W3=>dr x1 fun b4 o5=>callK Pg 19 [Az words2,Au ([32])] W3 Ot fun s6 W7=>Mod D W3 W7∧callK Pg 18 [Ap (some (b4,o5)),Au s6] W7 (.tup [Li,.leaf (.val)]) fun n8 v9 W10=>Mod D W3 W10∧dr x1 fun b11 o12=>callK Pg 20 [Ap (some (b11,o12)),.leaf (.int .u8 10)] W10 (.one (.leaf (.val))) fun v13 W14=>K W14):callK Pg 9 [Ap x1,Az words2] w (.tup []) K:=Fq (n:=(n0 (.mk none [] [] (tk [0,1,2,3] (.eff 4 (.eff 5 .done))) .nil .nil) .nil)) CS_ok mixed Tryz.func9 (Eq.mpr (by kernel_rfl) h)
theorem go_12(x1:PA)(__0_2:Int)(__1_3:Int)(t_0_4:Int)(t_1_5:Int)(ok6:Bool)(K:Wp)(w:World)(h:al w 72 [.int .i64 __0_2,.int .i64 __1_3] fun b7 W8=>al W8 38 [.int .i64 t_0_4,.int .i64 t_1_5] fun b9 W10=>joinK [] (fun k11=>ifK ok6 (drawK W10 fun D W12=>ldD D W12 Ki b9 0 fun n13=>ldD D W12 Ki b9 1 fun n14=>callK Pg 10 [Ai n13] W12 Ot fun s15 W16=>Mod D W12 W16∧callK Pg 10 [Ai n14] W16 Ot fun s17 W18=>Mod D W12 W18∧al W18 9 [.str [116,114,97,105,108,101,114],.str s15,.str s17] fun b19 W20=>Mod D W12 W20∧callK Pg 9 [Ap x1,Az (⟨some (b19,0),3,3⟩)] W20 (.tup []) fun W21=>Mod D W12 W21∧k11 W21) (al W10 9 [.str [110,111,32,116,114,97,105,108,101,114]] fun b22 W23=>callK Pg 9 [Ap x1,Az (⟨some (b22,0),1,1⟩)] W23 (.tup []) fun W24=>k11 W24)) fun W25=>K W25):callK Pg 206 [Ap x1,.agg [.int .i64 __0_2,.int .i64 __1_3],.agg [.int .i64 t_0_4,.int .i64 t_1_5],Ab ok6] w (.tup []) K:=Fq (n:=(n0 .nil (n0 .nil (.mk (some []) [] [] .done (.mk none [] [] (tk [0,1,2,4,5] (.eff 3 (.eff 6 (.eff 7 (.eff 8 .done))))) .nil .nil) .nil)))) CS_ok mixed Tryz.func206 (Eq.mpr (by kernel_rfl) h)
theorem go_13(x1:PA)(at_0_2:Int)(at_1_3:Int)(ok4:Bool)(K:Wp)(w:World)(h:al w 72 [.int .i64 at_0_2,.int .i64 at_1_3] fun b5 W6=>drawK W6 fun D W7=>ldD D W7 Ki b5 0 fun n8=>ldD D W7 Ki b5 1 fun n9=>callK Pg 10 [Ai n8] W7 Ot fun s10 W11=>Mod D W7 W11∧callK Pg 10 [Ai n9] W11 Ot fun s12 W13=>Mod D W7 W13∧callK Pg 207 [Ab ok4] W13 Ot fun s14 W15=>Mod D W7 W15∧al W15 9 [.str [112,97,103,101],.str s10,.str s12,.str s14] fun b16 W17=>Mod D W7 W17∧callK Pg 9 [Ap x1,Az (⟨some (b16,0),4,4⟩)] W17 (.tup []) fun W18=>Mod D W7 W18∧K W18):callK Pg 203 [Ap x1,.agg [.int .i64 at_0_2,.int .i64 at_1_3],Ab ok4] w (.tup []) K:=Fq (n:=(n0 .nil (.mk none [] [] (tk [0,1,2,4,5,7] (.eff 3 (.eff 6 (.eff 8 (.eff 9 (.eff 10 .done)))))) .nil .nil))) CS_ok mixed Tryz.func203 (Eq.mpr (by kernel_rfl) h)
theorem go_14(x1:PA)(__0_2:Int)(__1_3:Int)(f_0_4:Int)(f_1_5:Sl)(ok6:Bool)(K:Wp)(w:World)(h:al w 72 [.int .i64 __0_2,.int .i64 __1_3] fun b7 W8=>al W8 42 [.int .i64 f_0_4,.sl f_1_5] fun b9 W10=>joinK [] (fun k11=>ifK ok6 (ld W10 Ki b9 0 fun n12=>callK Pg 10 [Ai n12] W10 Ot fun s13 W14=>al W14 9 [.str [112,97,114,116,115],.str s13] fun b15 W16=>callK Pg 9 [Ap x1,Az (⟨some (b15,0),2,2⟩)] W16 (.tup []) fun W17=>k11 W17) (al W10 9 [.str [110,111,32,102,111,111,116,101,114]] fun b18 W19=>callK Pg 9 [Ap x1,Az (⟨some (b18,0),1,1⟩)] W19 (.tup []) fun W20=>k11 W20)) fun W21=>K W21):callK Pg 202 [Ap x1,.agg [.int .i64 __0_2,.int .i64 __1_3],.agg [.int .i64 f_0_4,.sl f_1_5],Ab ok6] w (.tup []) K:=Fq (n:=(n0 .nil (n0 .nil (.mk (some []) [] [] .done .nil .nil)))) CS_ok mixed Tryz.func202 (Eq.mpr (by kernel_rfl) h)
theorem go_15(x1:PA)(p_0_2:Int)(p_1_3:Sl)(p_2_4:Bool)(p_3_5:Int)(p_4_6:Sl)(K:Wp)(w:World)(h:al w 54 [.int .i64 p_0_2,.sl p_1_3,.bool p_2_4,.int .i64 p_3_5,.sl p_4_6] fun b7 W8=>drawK W8 fun D W9=>ldD D W9 Ki b7 3 fun n10=>ldD D W9 .sl b7 4 fun a11=>callK Pg 10 [Ai n10] W9 Ot fun s12 W13=>Mod D W9 W13∧s12.length+[32].length<2^62∧callK Pg 10 [Ai (a11.len:Int)] W13 Ot fun s14 W15=>Mod D W9 W15∧(s12++[32]).length+s14.length<2^62∧ld W15 .bool b7 2 fun c16=>joinK [.str] (fun k17=>ifK c16 (k17 [97,108,108] W15) (ld W15 Ki b7 3 fun n18=>joinK [.str] (fun k19=>ifK (n18==0) (k19 [110,111,110,101] W15) (k19 ((s12++[32])++s14) W15)) fun f20 W21=>k17 f20 W21)) fun f22 W23=>drawK W23 fun D W24=>ldD D W24 Ki b7 0 fun n25=>ldD D W24 .sl b7 1 fun a26=>callK Pg 10 [Ai n25] W24 Ot fun s27 W28=>Mod D W24 W28∧callK Pg 10 [Ai (a26.len:Int)] W28 Ot fun s29 W30=>Mod D W24 W30∧al W30 9 [.str [112,97,114,116],.str s27,.str [98,108,111,99,107,115],.str s29,.str [102,105,108,116,101,114],.str f22] fun b31 W32=>Mod D W24 W32∧callK Pg 9 [Ap x1,Az (⟨some (b31,0),6,6⟩)] W32 (.tup []) fun W33=>Mod D W24 W33∧K W33):callK Pg 204 [Ap x1,.agg [.int .i64 p_0_2,.sl p_1_3,.bool p_2_4,.int .i64 p_3_5,.sl p_4_6]] w (.tup []) K:=Fq (n:=(n0 .nil (n0 (.mk none [] [] (tk [0,1,2,5,6,7,8] (.eff 3 (.take 4 (.eff 9 (.take 10 (.take 11 .done)))))) .nil .nil) (n0 (n0 (n0 .nil (.mk (some [.tmp 4 Lt]) [] [0,3] .done .nil (n0 .nil (.mk (some [.tmp 4 Lt]) [] [0,3] .done .nil .nil)))) .nil) (.mk none [] [] (tk [0,1,2,4,5,6,8] (.eff 3 (.eff 7 (.eff 9 (.eff 10 .done))))) .nil .nil))))) CS_ok mixed Tryz.func204 (Eq.mpr (by kernel_rfl) h)
theorem go_16(x1:PA)(at_0_2:Int)(at_1_3:Int)(b_0_4:Int)(b_1_5:Int)(b_2_6:Int)(b_3_7:List UInt8)(flag8:Int)(state9:Int)(K:Wp)(w:World)(h:al w 72 [.int .i64 at_0_2,.int .i64 at_1_3] fun b10 W11=>al W11 57 [.int .i64 b_0_4,.int .i64 b_1_5,.int .i64 b_2_6,.str b_3_7] fun b12 W13=>callK Pg 207 [Ab (state9 != 1)] W13 Ot fun s14 W15=>joinK [.str] (fun k16=>ifK (state9==2) (k16 [102,97,108,108,115] W15) (k16 s14 W15)) fun s17 W18=>drawK W18 fun D W19=>ldD D W19 Ki b10 0 fun n20=>ldD D W19 Ki b10 1 fun n21=>ldD D W19 Ki b12 0 fun n22=>ldD D W19 Ki b12 1 fun n23=>ldD D W19 Ki b12 2 fun n24=>ldD D W19 .str b12 3 fun s25=>callK Pg 10 [Ai n20] W19 Ot fun s26 W27=>Mod D W19 W27∧callK Pg 10 [Ai n21] W27 Ot fun s28 W29=>Mod D W19 W29∧callK Pg 10 [Ai n22] W29 Ot fun s30 W31=>Mod D W19 W31∧callK Pg 10 [Ai n23] W31 Ot fun s32 W33=>Mod D W19 W33∧callK Pg 10 [Ai n24] W33 Ot fun s34 W35=>Mod D W19 W35∧callK Pg 10 [Ai (w64 (flag8))] W35 Ot fun s36 W37=>Mod D W19 W37∧callK Pg 208 [Au s25] W37 Ot fun s38 W39=>Mod D W19 W39∧al W39 9 [.str [98,108,111,99,107],.str s26,.str s28,.str [115,116,111,114,101,100],.str s30,.str [114,97,119],.str s32,.str [99,111,117,110,116],.str s34,.str [102,108,97,103],.str s36,.str [99,117,116],.str s38,.str s17] fun b40 W41=>Mod D W19 W41∧callK Pg 9 [Ap x1,Az (⟨some (b40,0),14,14⟩)] W41 (.tup []) fun W42=>Mod D W19 W42∧K W42):callK Pg 201 [Ap x1,.agg [.int .i64 at_0_2,.int .i64 at_1_3],.agg [.int .i64 b_0_4,.int .i64 b_1_5,.int .i64 b_2_6,.str b_3_7],.leaf (.int .u8 flag8),Ai state9] w (.tup []) K:=Fq (n:=(n0 .nil (n0 .nil (n0 (n0 .nil (.mk (some [.tmp 10 Lt]) [] [0,3,6,7] .done .nil .nil)) (.mk none [] [] (tk [0,1,2,4,5,7,8,10,11,13,14,16,17,19,20,22] (.eff 3 (.eff 6 (.eff 9 (.eff 12 (.eff 15 (.eff 18 (.eff 21 (.eff 23 (.eff 24 .done)))))))))) .nil .nil))))) CS_ok mixed Tryz.func201 (Eq.mpr (by kernel_rfl) h)
theorem go_11(x1:PA)(_2:Int)(key3:List UInt8)(value4:List UInt8)(K:Wp)(w:World)(h:callK Pg 208 [Au key3] w Ot fun s5 W6=>callK Pg 208 [Au value4] W6 Ot fun s7 W8=>al W8 9 [.str [114,101,99,111,114,100],.str s5,.str s7] fun b9 W10=>callK Pg 9 [Ap x1,Az (⟨some (b9,0),3,3⟩)] W10 (.tup []) fun W11=>K W11):callK Pg 205 [Ap x1,Ai _2,Au key3,Au value4] w (.tup []) K:=Fq (n:=.nil) CS_ok mixed Tryz.func205 (Eq.mpr (by kernel_rfl) h)
theorem go_17(file1:Sl)(K:List UInt8→Wp)(w:World)(h:al w 32 [.ptr none,.sl (⟨none,0,0⟩)] fun b2 W3=>callK Pg 10 [Ai (file1.len:Int)] W3 Ot fun s4 W5=>al W5 9 [.str [98,121,116,101,115],.str s4] fun b6 W7=>callK Pg 9 [Ap (some (b2,0)),Az (⟨some (b6,0),2,2⟩)] W7 (.tup []) fun W8=>opF Pg (vS (Instr.makeInterface 27 (LV.toV (.ptr (some (b2,0)))))) W8 (.one (.leaf (.val))) fun v10 W9=>callK Pg 11 [Az file1,.leaf (.val v10)] W9 (.tup []) fun W11=>dr (some (b2,0)) fun b12 o13=>callK Pg 12 [Ap (some (b12,o13))] W11 Ot fun s14 W15=>K s14 W15):callK Pg 5 [Az file1] w Ot K:=Fq (n:=.nil) CS_ok mixed Tryz.func5 (Eq.mpr (by kernel_rfl) h)
end Go.Proofs.YtoegpmjoajipcaaGreatDoor
namespace Go.Proofs.YtoegpmjoajipcaaGreatDoor
section
open Go.Shelf Go.RowKit
variable {P:Program}{ρ:Ren}
set_option maxHeartbeats 1000000 in
set_option maxRecDepth 100000 in
theorem cc_fresh(L:Lays.n240 P ρ)(X:Builder.X72 P ρ)(T:TypeId)(hlies:liesAt P P.depth T (2/P.cellsOf T) 0 (ρ.t 72) 1=true)(b:Nat)(w:World)(h0:w.cell? ⟨b,0,none⟩=some (.pointer none))(hsh:w.shape? b=some (T,2))(hfz:w.frozen? ⟨b,0,none⟩=false) :
  Calls P (ρ.f 240) #[.pointer (some ⟨b,0,none⟩)] w fun e w'=>e = .returned (.tuple #[])∧w'=w.setCell ⟨b,0,none⟩ (.pointer (some ⟨b,0,none⟩)):=by
 obtain⟨j,hj,hjs⟩:=Option.map_eq_some_iff.1 X.sizeBuilder;have mixed:=L.mixed;have t72:=L.t72;have a72:=L.a72;have z72:=L.z72;have v72:=L.v72;have u72:=run_underlying L.t72;have t70:=L.t70;have a70:=L.a70;have z70:=L.z70;have v70:=L.v70;have u70:=run_underlying L.t70;have t9:=L.t9;have a9:=L.a9;have z9:=L.z9;have v9:=L.v9;have u9:=run_underlying L.t9;have t4:=L.t4;have a4:=L.a4;have z4:=L.z4;have v4:=L.v4;have u4:=run_underlying L.t4;have t164:=L.t164;have a164:=L.a164;have z164:=L.z164;have v164:=L.v164;have u164:=run_underlying L.t164
 go_enter L.f240,Body.n240_ntmps ρ
 go_wp2
 rw [Lib.run_to_unsafe w ⟨b,0,none⟩ L.t70 L.t164 hj (by rw [hjs];decide) hsh (Nat.zero_lt_succ 1)];simp only [Result.andThen];rw [Oper.upon_value]
 go_wp2
 rw [run_callFunc_extern L.f276 (by kernel_rfl) (by kernel_rfl) (by kernel_rfl) (e:=Extern.AbiNoEscape.same) (by kernel_rfl)];rw [Lib.run_noEscape];simp only [Result.andThen];rw [Oper.upon_value]
 go_wp2
 rw [Lib.run_from_unsafe w ⟨b,0,none⟩ L.t164 L.t70 hj hsh hlies];simp only [Result.andThen];rw [Oper.upon_value]
 go_wp2
 go_end0
 exact⟨rfl,rfl⟩
set_option maxHeartbeats 1000000 in
set_option maxRecDepth 100000 in
theorem str_any(L:Lays.n169 P ρ)(X:Builder.Extra P ρ)(b g:Nat)(l:List UInt8)(cap k:Nat)(w:World)(h0:l≠[])(hc:cap≠0)(h63:l.length≤9223372036854775807)(hb:w.cell? ⟨b,1,none⟩=some (.slice (some ⟨g,0,none⟩) l.length cap))(hg:w.shape? g=some (ρ.t 5,k))(hk:l.length≤k)
  (hcell:∀j x,l[j]? = some x→w.cell? ((⟨g,0,none⟩:Addr).add j)=some (.int .u8 x.toNat)) :
  Calls P (ρ.f 169) #[.pointer (some ⟨b,0,none⟩)] w fun e w'=>e = .returned (.string ⟨l.toArray⟩)∧w'=w.drew.freeze ⟨g,0,none⟩ l.length:=by
 have c1:w.drew.cell? ⟨b,1,none⟩=some (.slice (some ⟨g,0,none⟩) l.length cap):=hb;have hSD:(Builtin.unsafeSliceData_ #[(ρ.t 37)] (ρ.t 127) #[.slice (some ⟨g,0,none⟩) l.length cap]).run P w.drew = .ok (.pointer (some ⟨g,0,none⟩)) w.drew:=
  Lib.run_unsafeSliceData_row _ _ _ _ _ _ hc
 have hUS:(Builtin.unsafeString_ #[(ρ.t 127),(ρ.t 3)] (ρ.t 9) #[.pointer (some ⟨g,0,none⟩),.int .i64 l.length]).run P w.drew = .ok (.string ⟨l.toArray⟩) (w.drew.freeze ⟨g,0,none⟩ l.length):=
  Lib.run_unsafeString_row w.drew (ρ.t 127) (ρ.t 3) (ρ.t 9) (ρ.t 5) L.t127 X.cellsByte g k hg l h0 hk h63 hcell
 clear hc;have mixed:=L.mixed;have t72:=L.t72;have a72:=L.a72;have z72:=L.z72;have v72:=L.v72;have u72:=run_underlying L.t72;have t70:=L.t70;have a70:=L.a70;have z70:=L.z70;have v70:=L.v70;have u70:=run_underlying L.t70;have t37:=L.t37;have a37:=L.a37;have z37:=L.z37;have v37:=L.v37;have u37:=run_underlying L.t37;have t127:=L.t127;have a127:=L.a127;have z127:=L.z127;have v127:=L.v127;have u127:=run_underlying L.t127;have t3:=L.t3;have a3:=L.a3;have z3:=L.z3;have v3:=L.v3;have u3:=run_underlying L.t3;have t9:=L.t9;have a9:=L.a9;have z9:=L.z9;have v9:=L.v9;have u9:=run_underlying L.t9;have t5:=X.t5;have a5:=X.a5;have z5:=X.z5;have v5:=X.v5;have u5:=run_underlying X.t5
 go_enter L.f169,Body.n169_ntmps ρ
 go_wp2
 go_region_o
 all_goals (go_wp2;go_ret;exact⟨rfl,rfl⟩)
end
open Go.Vw
theorem below_mod{w w':World}(h:Go.RowKit.Below w.heap.size w w'):Mod F0 w w':=⟨h.os,h.tape,h.output,h.size,fun k hk _=>h.block k hk⟩
abbrev TabU(w:World):Prop:=Go.Lib.TabBelow Tryz.prog w.heap.size w "internal/strconv.uint64pow10" .u64 Go.Lib.pow10Tab
theorem TabU.keep{w w':World}(h:TabU w)(hM:Mod F0 w w'):TabU w':=fun w2 h2=>h w2 ((⟨hM.os,hM.tape,hM.output,hM.size,fun k hk=>hM.block k hk id⟩:Go.RowKit.Below w.heap.size w w').trans (h2.mono hM.size))
theorem fmt_ok{n:Int}(h0:-9223372036854775808≤n)(h1:n≤9223372036854775807){w:World}(ht:TabU w){K:Str→Wp}(hK:∀w',Mod F0 w w'→K (numS n) w'):callK Tryz.prog c_1 [Ai n,Ai 10] w Ot K:=by
 have h:=Any.strconv_FormatInt_10 fmtLays n h0 h1 w ht.here;refine Calls.mono h fun e w' ⟨he,k,os,hw⟩=>⟨[.str (Go.Lib.itoa n)],he,?_⟩;subst hw;exact hK _ (below_mod (Go.Lib.below_grow _ w (Nlr _) k os))
theorem str_map(l:List Str):(l.map fun x=>(⟨x.toArray⟩:ByteArray)).map (·.data.toList)=l:=by
 rw [List.map_map]
 conv=>rhs;rw [←List.map_id l]
 exact List.map_congr_left fun x _=>rfl
theorem join_ok{w:World}{s:Sl}{l:List Str}{sep:Str}(hr:RdS w EStr s l)(hn:l.length≤1099511627776)(hb:(Go.Lib.join l sep).length≤1099511627776){K:Str→Wp}(hK:∀w',Mod F0 w w'→K (Go.Lib.join l sep) w') :
  callK Tryz.prog c_2 [Az s,Au sep] w Ot K:=by
 have hlen:=hr.len
 cases l with
 | nil=>
  have h:=Any.strings_Join_none joinLays joinX (slA s.cap s.p) s.cap ⟨sep.toArray⟩ w;have hs:s.len=0:=hlen;show Calls _ _ #[.slice (slA s.cap s.p) s.len s.cap,.string ⟨sep.toArray⟩] _ _;rw [hs];refine Calls.mono h fun e w' ⟨he,hw⟩=>⟨[.str []],he,?_⟩;subst hw;exact hK _ (Mod.refl _ _)
 | cons x r=>
  obtain⟨b,o,hp,hlt,hc0⟩:=hr.at (i:=0) (x:=x) rfl;have hcap:=hr.has;have hsa:slA s.cap s.p=some ⟨b,o,none⟩:=by
   rw [hp];show some (if s.cap=0 then decA b o else⟨b,o,none⟩)=_;rw [if_neg (by omega)]
  have hcells:∀(j:Nat) y,((x::r).map fun x=>(⟨x.toArray⟩:ByteArray))[j]? = some y→w.cell? ⟨b,o+j,none⟩=some (.string y):=by
   intro j y hy;rw [List.getElem?_map] at hy
   cases hz:(x::r)[j]? with
   | none=>rw [hz] at hy;cases hy
   | some z=>
    rw [hz] at hy;cases hy;obtain⟨b',o',hp',_,hc⟩:=hr.at hz;rw [hp] at hp';cases hp';have h1:=hc 0 (by decide);have e:o+j*EStr.n+0=o+j:=by show o+j*1+0=o+j;omega
    rw [e] at h1;exact h1
  have hbk:b<w.heap.size:=by
   have h0:=hc0 0 (by decide);refine Classical.byContradiction fun hx=>?_;have:w.heap[b]? = none:=Array.getElem?_eq_none (by omega);unfold World.cell? at h0;simp only [this] at h0;cases h0
  have h:=Any.strings_Join joinLays joinX b o s.cap ((x::r).map fun x=>(⟨x.toArray⟩:ByteArray)) ⟨sep.toArray⟩ w hcells hbk (by rw [List.length_map];omega) (by rw [List.length_map];omega) (by
   rw [str_map];show (Go.Lib.join (x::r) sep).length≤_;omega)
  rw [List.length_map,str_map] at h;show Calls _ _ #[.slice (slA s.cap s.p) s.len s.cap,.string ⟨sep.toArray⟩] _ _;rw [hsa,hlen];refine Calls.mono h fun e w' ⟨he,hw⟩=>⟨[.str (Go.Lib.join (x::r) sep)],he,hK _ (below_mod hw)⟩
theorem shape_eq{w w':World}{b:Nat}(h:w'.heap[b]? = w.heap[b]?):w'.shape? b=w.shape? b:=by simp [World.shape?,h]
theorem shape_lt{w:World}{b:Nat}{x:TypeId×Nat}(h:w.shape? b=some x):b<w.heap.size:=by
 refine Classical.byContradiction fun hx=>?_;have:w.heap[b]? = none:=Array.getElem?_eq_none (by omega);simp [World.shape?,this] at h
theorem shape_setCell(w:World)(a:Addr)(v:Value)(b:Nat):(w.setCell a v).shape? b=w.shape? b:=by
 by_cases h:b=a.block
 ·subst h;unfold World.shape? World.setCell;simp only [Array.getElem?_modify]
  cases hx:w.heap[a.block]? with
  | none=>simp
  | some o=>cases o<;>simp<;>split<;>simp
 ·exact shape_eq (heap_setCell h)
theorem shape_setCells{b b':Nat}:∀(vs:List Value) (w:World) (o:Nat),(Go.Vw.World.setCells w b o vs).shape? b'=w.shape? b'
 | [],_,_=>rfl
 | v::r,w,o=>(shape_setCells r _ _).trans (shape_setCell ..)
theorem shape_mod{D:Nat→Prop}{w w':World}(hM:Mod D w w'){b:Nat}{x:TypeId×Nat}(h:w.shape? b=some x)(hd:¬D b):w'.shape? b=some x:=(shape_eq (hM.block b (shape_lt h) hd)).trans h
def tyS(w:World)(s:Sl):Prop:=s.cap≠0→∀b o,s.p=some (b,o)→∃k,w.shape? b=some (5,k)
theorem tyS.keep{w w':World}{s:Sl}(h:tyS w s){D:Nat→Prop}(hM:Mod D w w')(hd:∀b o,s.p=some (b,o)→¬D b):tyS w' s:=fun hc b o hp=>by
 obtain⟨k,hk⟩:=h hc b o hp;exact⟨k,shape_mod hM hk (hd b o hp)⟩
theorem tyS.nil(w:World):tyS w ⟨none,0,0⟩:=fun h=>absurd rfl h
theorem tyS.cells{w:World}{s:Sl}(h:tyS w s)(b o:Nat)(vs:List Value)(n:Nat):tyS (Go.Vw.World.setCells w b o vs) ⟨s.p,n,s.cap⟩:=fun hc b' o' hp=>by
 obtain⟨k,hk⟩:=h hc b' o' hp;exact⟨k,by rw [shape_setCells];exact hk⟩
theorem tyS.new{w:World}(cs:List Value)(n c:Nat):tyS (w.drew.alloc (.cells cs.toArray 5)) ⟨some (w.heap.size,0),n,c⟩:=fun _ b o hp=>by
 cases hp;have:(w.drew.alloc (.cells cs.toArray 5)).heap[w.heap.size]? = some (.cells cs.toArray 5):=World.alloc_heap_new w.drew _;exact⟨cs.length,by unfold World.shape?;rw [this];simp⟩
theorem ap_ty{w:World}{sz bytes:Nat}{zs:List LV}{s x:Sl}{K:Sl→Wp}(ht:tyS w s)(h:ap w 5 sz bytes zs s x fun s' w'=>tyS w' s'→K s' w'):ap w 5 sz bytes zs s x K:=by
 obtain⟨new,h1,h2,h3,h4,h5⟩:=h;refine⟨new,h1,h2,fun a b=>?_,fun a=>h4 a fun hc=>ht hc,fun a=>?_⟩
 ·obtain⟨c,o,hp,hok,hk⟩:=h3 a b;exact⟨c,o,hp,hok,hk (ht.cells _ _ _ _)⟩
 ·obtain⟨hl,old,hr,hk⟩:=h5 a;exact⟨hl,old,hr,fun c hc=>hk c hc (tyS.new _ _ _)⟩
theorem apC_ty{w:World}{sz bytes:Nat}{zs:List LV}{s:Sl}{m:Nat}{new:List Value}{K:Sl→Wp}(ht:tyS w s)(h:apC w 5 sz bytes zs s m new fun s' w'=>tyS w' s'→K s' w'):apC w 5 sz bytes zs s m new K:=by
 obtain⟨h3,h4,h5⟩:=h;refine⟨fun a b=>?_,fun a=>h4 a fun hc=>ht hc,fun a=>?_⟩
 ·obtain⟨c,o,hp,hok,hk⟩:=h3 a b;exact⟨c,o,hp,hok,hk (ht.cells _ _ _ _)⟩
 ·obtain⟨hl,old,hr,hk⟩:=h5 a;exact⟨hl,old,hr,fun c hc=>hk c hc (tyS.new _ _ _)⟩
theorem lim46{a b:Nat}(h:a+b+1024≤35184372088832):(a+b+1024)*(1+1)≤2^46:=Nat.le_trans (Nat.mul_le_mul_right 2 h) (Nat.le_of_ble_eq_true rfl)
theorem appSL{w0 w:World}{D:Nat→Prop}{m ro:BL}(hA:At w0 D (m++ro) w){s:Sl}{l x:Str}(hv:VecL ro ET s l)(ht:tyS w s)(hlim:l.length+x.length+1024≤35184372088832)
  {K:Sl→Wp} (hK:∀s' ro' w',At w0 D (m++ro') w'→VecL ro' ET s' (l++x)→Mod (Ks ro) w w'→tyS w' s'→K s' w') :
  opF Tryz.prog (builtin .append #[t_bytes,9] t_bytes #[false,false] #[(LV.toV (.sl s)),(LV.toV (.str x))]) w Oz K:=by
 obtain⟨i,hi,hz,hby,hsz⟩:=info_byte;have hx:(⟨x.toArray⟩:ByteArray).size=x.length:=by simp [ByteArray.size]
 have hC:=apC_ty (K:=K) ht (appLC (e:=5) (n:=1) (bytes:=1) (zs:=[.int .u8 0]) hA hv (l2:=x) rfl rfl (lim46 hlim) fun s' old ro' w' h1 h2 h3 _ _ h4=>hK s' ro' w' (h1.sub ((Lsl m old).append (List.Sublist.refl _))) h2 h3 h4);obtain⟨s',w',hk,hrun⟩:=append_str (P:=Tryz.prog) (ty:=t_bytes) (x:=⟨x.toArray⟩) (K:=K) u_bytes Tryz.underlying9 hi hz (by rw [hsz];rfl) hsz (by rw [hsz,hby,hx,strCells_et];exact hC);refine⟨[.sl s'],w',?_,hk⟩;show (Sem.run _ (vS (Builtin.append_ #[t_bytes,9] t_bytes #[(LV.toV (.sl s)),(LV.toV (.str x))])) w)=_;unfold vS;simp only [Sem.run_bind];have hrun:(Builtin.append_ #[t_bytes,9] t_bytes #[(LV.toV (.sl s)),(LV.toV (.str x))]).run Tryz.prog w = .ok (LV.sl s').toV w':=hrun;rw [hrun];rfl
theorem At.stS{w0 w:World}{D:Nat→Prop}{m:BL}(h:At w0 D m w)(i:Nat){b o:Nat}{c:List Value}{vs:List LV}{K:Wp}(hi:m[i]? = some (b,c))(hl:o+vs.length≤c.length)
  (hK:∀w',At w0 D (m.set i (b,spl c o (vs.map LV.toV))) w'→Mod (fun k=>k=b) w w'→(∀y,w'.shape? y=w.shape? y)→K w'):Go.Vw.st w b o vs K:=
 ⟨fun j hj=>⟨⟨c[o+j]'(by omega),by rw [(h.blk hi).cell,Lge]⟩,(h.blk hi).frz _⟩,hK _ (h.setCells hi o _) (Mod.setCells ..) fun _=>shape_setCells ..⟩
abbrev bldC(p:PA)(s:Sl):List Value:=[(LV.ptr p).toV,(LV.sl s).toV]
def BP(w:World)(b:Nat)(p:PA):Prop:=p=some (b,0)∨p=none∧∃T,(T=t_builder∨T=t_printed)∧w.shape? b=some (T,2)
section
variable {w0 w:World}{D:Nat→Prop}{X R:BL}{b:Nat}{p:PA}{s:Sl}{l:Str}
theorem cc_ok(hA:At w0 D (X++(b,bldC p s)::R) w)(hp:BP w b p){K:Wp}(hK:∀w',At w0 D (X++(b,bldC (some (b,0)) s)::R) w'→Mod (fun y=>y=b) w w'→(∀y,w'.shape? y=w.shape? y)→K w') :
  callK Tryz.prog c_3 [Ap (some (b,0))] w (.tup []) K:=by
 have hB:Blk w b (bldC p s):=hA.own (b,_) (Lmr _ (Lcs ..));rcases hp with rfl | ⟨rfl,T,hT,hsh⟩
 ·have h:=Any.Builder_copyCheck_used (P:=Tryz.prog) (ρ:=joinLays_ren) {joinLays with} joinX.toX72 b w (by rw [hB.cell];rfl);refine Calls.mono h fun e w' ⟨he,hw⟩=>⟨[],he,?_⟩;subst hw;exact hK _ hA (Mod.refl _ _) fun _=>rfl
 ·have hl:liesAt Tryz.prog Tryz.prog.depth T (2/Tryz.prog.cellsOf T) 0 (joinLays_ren.t 72) 1=true:=by rcases hT with rfl | rfl<;>kernel_rfl
  have h:=cc_fresh (P:=Tryz.prog) (ρ:=joinLays_ren) {joinLays with} joinX.toX72 T hl b w (by rw [hB.cell];rfl) hsh (hB.frz _);refine Calls.mono h fun e w' ⟨he,hw⟩=>⟨[],he,?_⟩;subst hw;have h1:At w0 D ((b,bldC none s)::(X++R)) w:=hA.perm List.perm_middle.symm;have h2:=h1.setCells (i:=0) rfl 0 [(LV.ptr (some (b,0))).toV];have h2:At w0 D ((b,bldC (some (b,0)) s)::(X++R)) (w.setCell ⟨b,0,none⟩ (.pointer (some ⟨b,0,none⟩))):=h2;exact hK _ (h2.perm List.perm_middle) (Mod.setCells w b 0 [(LV.ptr (some (b,0))).toV]) fun y=>shape_setCell ..
theorem wstr_ok(hA:At w0 D (X++(b,bldC p s)::R) w)(hp:BP w b p)(hv:VecL R ET s l)(ht:tyS w s){x:Str}(hlim:l.length+x.length+1024≤35184372088832){K:Int→Value→Wp}
  (hK:∀w' s' R' n v,At w0 D (X++(b,bldC (some (b,0)) s')::R') w'→VecL R' ET s' (l++x)→tyS w' s'→Mod (fun y=>y=b∨Ks R y) w w'→K n v w') :
  callK Tryz.prog c_4 [Ap (some (b,0)),Au x] w (.tup [Li,.leaf .val]) K:=by
 refine go_4 _ _ _ _ ?_;refine cc_ok hA hp fun w1 h1 M1 hs=>Dq ?_;have hB:Blk w1 b (bldC (some (b,0)) s):=h1.own (b,_) (Lmr _ (Lcs ..));have h2:At w0 D (((b,bldC (some (b,0)) s)::X)++R) w1:=h1.perm List.perm_middle.symm;refine hB.ldK (k:=.sl) s rfl (appSL h2 hv (fun hc c o hp=>by rw [hs];exact ht hc c o hp) hlim fun s' R' w2 h3 v3 M3 t3=>Dq (At.stS h3 0 rfl (Nlr 2) fun w3 h4 M4 hs4=>?_));have h4:At w0 D ((b,bldC (some (b,0)) s')::(X++R')) w3:=h4;refine hK _ s' R' _ _ (h4.perm List.perm_middle) v3 (fun hc c o hp=>by rw [hs4];exact t3 hc c o hp) ?_;refine (M1.trans (M3.trans M4 (D:=fun y=>y=b∨Ks R y) (fun _ _ h=>.inr h) fun _ _ h=>.inl h) (fun _ _ h=>.inl h) fun _ _ h=>h)
theorem wbyte_ok(hA:At w0 D (X++(b,bldC p s)::R) w)(hp:BP w b p)(hv:VecL R ET s l)(ht:tyS w s){x:UInt8}(hlim:l.length+1+1024≤35184372088832){c:Int}(hc:c=(x.toNat:Int)){K:Value→Wp}
  (hK:∀w' s' R' v,At w0 D (X++(b,bldC (some (b,0)) s')::R') w'→VecL R' ET s' (l++[x])→tyS w' s'→Mod (fun y=>y=b∨Ks R y) w w'→K v w') :
  callK Tryz.prog c_5 [Ap (some (b,0)),.leaf (.int .u8 c)] w (.one (.leaf .val)) K:=by
 subst hc;refine go_5 _ _ _ _ ?_;refine cc_ok hA hp fun w1 h1 M1 hs=>Dq ?_;have hB:Blk w1 b (bldC (some (b,0)) s):=h1.own (b,_) (Lmr _ (Lcs ..));refine hB.ldK (k:=.sl) s rfl (h1.alK fun b7 w2 _ h2 M2=>?_);have h2:At w0 D (((b,bldC (some (b,0)) s)::(b7,[LV.toV (.int .u8 (x.toNat:Int))])::X)++R) w2:=h2.perm (by
  refine List.Perm.trans ?_ (Lpc (l₁:=[(b7,[LV.toV (.int .u8 (x.toNat:Int))])]) (l₂:=X++(b,bldC (some (b,0)) s)::R));refine List.Perm.trans (List.Perm.swap _ _ _) (List.Perm.cons _ List.perm_middle.symm))
 have t2:tyS w2 s:=tyS.keep (w:=w1) (fun hc c o hp=>by rw [hs];exact ht hc c o hp) M2 fun _ _ _=>id;refine ap_ty t2 (appL h2 hv (l2:=[x]) ((byte1 b7 x).rd fun q hq=>h2.own q (by rw [Lms.1 hq];simp)) rfl rfl (lim46 hlim) fun s' R' w3 h3 v3 M3 _ t3=>Dq (At.stS h3 0 rfl (Nlr 2) fun w4 h4 M4 hs4=>?_));have h4:At w0 D ((b,bldC (some (b,0)) s')::(b7,[LV.toV (.int .u8 (x.toNat:Int))])::(X++R')) w4:=h4;refine hK _ s' R' _ ((h4.sub ((List.sublist_cons_self _ _).cons_cons _)).perm List.perm_middle) v3 (fun hc c o hp=>by rw [hs4];exact t3 hc c o hp) ?_;exact (M1.trans (M2.trans (M3.trans M4 (D:=fun y=>y=b∨Ks R y) (fun _ _ h=>.inr h) fun _ _ h=>.inl h) (D:=fun y=>y=b∨Ks R y) (fun _ _ h=>h.elim) fun _ _ h=>h) (fun _ _ h=>.inl h) fun _ _ h=>h)
theorem bstr_ok(hA:At w0 D (X++(b,bldC p s)::R) w)(hv:VecL R ET s l)(ht:tyS w s)(h0:l≠[])(hl:l.length≤1125899906842624){K:Str→Wp}(hK:∀w',At w0 D X w'→Mod (Ks R) w w'→K l w') :
  callK Tryz.prog c_6 [Ap (some (b,0))] w Ot K:=by
 have hB:Blk w b (bldC p s):=hA.own (b,_) (Lmr _ (Lcs ..));have hn:l.length≠0:=fun e=>h0 (List.eq_nil_of_length_eq_zero e);rcases hv.2.2 with⟨rfl,h1,h2⟩ | ⟨g,rest,rfl,hp,hc⟩
 ·have:=hv.1;have:=hv.2.1;omega
 have hcap:s.cap≠0:=by have:=hv.1;have:=hv.2.1;omega
 obtain⟨k,hk⟩:=ht hcap g 0 hp;have hG:Blk w g (ET.cells l++rest):=hA.own (g,_) (Lmr _ (Lmc _ (Lms.2 rfl)));have hkl:k=(ET.cells l++rest).length:=by
  obtain⟨e,he⟩:=hG;unfold World.shape? at hk;rw [he] at hk;simp at hk;rw [←hk.2];simp
 have hEl:(ET.cells l).length=l.length:=by rw [ET.cells_length];show l.length*1=_;omega
 have hsl:(LV.sl s).toV = .slice (some ⟨g,0,none⟩) l.length s.cap:=by
  show Value.slice (slA s.cap s.p) s.len s.cap=_;rw [hp,hv.1];show Value.slice (some (if s.cap=0 then decA g 0 else⟨g,0,none⟩)) _ _=_;rw [if_neg hcap]
 have h:=str_any (P:=Tryz.prog) (ρ:=joinLays_ren) {joinLays with} joinX b g l s.cap k w h0 hcap (by omega) (by rw [hB.cell,←hsl];rfl) hk (by rw [hkl,Lla,hEl];omega) (fun j x hx=>by
  have hj:=(Les.1 hx).1;rw [Addr.add_none,hG.cell,Nat.zero_add,Lgl (by omega)];have e:=ET.cells_get l j 0 (by decide);have e2:j*ET.n+0=j:=by show j*1+0=j;omega
  rw [e2,hx] at e;rw [e];rfl)
 have hM:Mod (Ks [(g,ET.cells l++rest)]) w (w.drew.freeze ⟨g,0,none⟩ l.length):=by
  have hb:=Go.Lib.below_freeze (B:=0) (Go.RowKit.Below.drew (Go.RowKit.Below.refl 0 w)) (p:=⟨g,0,none⟩) (Nzl _) l.length;refine⟨hb.os,hb.tape,hb.output,hb.size,fun y hy hd=>?_⟩;have hne:y≠g:=fun e=>hd ⟨_,Lms.2 rfl,e.symm⟩;show (w.drew.freeze ⟨g,0,none⟩ l.length).heap[y]? = w.drew.heap[y]?;unfold World.freeze;split
  ·rfl
  ·dsimp only;rw [Array.getElem?_modify,if_neg (Ne.symm hne)]
 refine Calls.mono h fun e w' ⟨he,hw⟩=>⟨[.str l],he,?_⟩;subst hw;refine hK _ ((hA.sub (Lsl _ _)).keep hM ?_ ?_) hM
 ·rintro y hy ⟨q,hq,rfl⟩;rw [Lms.1 hq] at hy ⊢;exact hA.wr (g,_) (Lmr _ (Lmc _ (Lms.2 rfl))) hy
 ·rintro x hx ⟨q,hq,e⟩;rw [Lms.1 hq] at e;have hnd:=hA.nodup;rw [List.map_append,List.nodup_append] at hnd;exact hnd.2.2 x.1 (List.mem_map_of_mem hx) g (by simp) e.symm
end
end Go.Proofs.YtoegpmjoajipcaaGreatDoor
namespace Go.Proofs.YtoegpmjoajipcaaGreatDoor
open Go.Vw
open Go
theorem number_ok{n:Int}(h:in40 n){w:World}(ht:TabU w){K:Str→Wp}(hK:∀w',Mod F0 w w'→K (numS n) w'):callK Tryz.prog c_7 [Ai n] w Ot K:=by
 refine go_7 _ _ _ (fmt_ok ?_ ?_ ht fun w' M=>hK w' M)
 ·have:=h.1;omega
 ·have:=h.2;omega
theorem how_ok{b:Bool}{w:World}{K:Str→Wp}(hK:K (howS b) w):callK Tryz.prog c_8 [Ab b] w Ot K:=by
 refine go_8 _ _ _ ?_
 cases b with
 | true=>exact ifK_t rfl hK
 | false=>exact ifK_f rfl hK
theorem At.alT{w0 w:World}{D:Nat→Prop}{m:BL}(h:At w0 D m w){e:TypeId}{cs:List LV}{K:Nat→Wp}
  (hK:∀b w',At w0 D (m++[(b,cs.map LV.toV)]) w'→Mod F0 w w'→w'.shape? b=some (e,cs.length)→K b w'):Go.Vw.al w e cs K:=by
 refine hK _ _ (h.al _ e) (Mod.alloc _ _ _) ?_;have:(w.alloc (.cells (cs.map LV.toV).toArray e)).heap[w.heap.size]? = some (.cells (cs.map LV.toV).toArray e):=World.alloc_heap_new w _;unfold World.shape?;rw [this];simp
def BQ(w0:World)(D:Nat→Prop)(X:BL)(b:Nat)(l:Str)(u:World):Prop:=∃s R,At w0 D (X++(b,bldC (some (b,0)) s)::R) u∧VecL R ET s l∧tyS u s
section
variable {w0 u:World}{D:Nat→Prop}{X:BL}{b:Nat}{l:Str}
theorem BQ.byte(h:BQ w0 D X b l u){x:UInt8}{c:Int}(hc:c=(x.toNat:Int))(hl:l.length≤1099511627776){K:Value→Wp}(hK:∀u' v,BQ w0 D X b (l++[x]) u'→K v u'):callK Tryz.prog c_5 [Ap (some (b,0)),.leaf (.int .u8 c)] u (.one (.leaf .val)) K:=by
 obtain⟨s,R,hA,hv,ht⟩:=h;exact wbyte_ok hA (.inl rfl) hv ht (by omega) hc fun w' s' R' v h1 h2 h3 _=>hK w' v ⟨s',R',h1,h2,h3⟩
theorem BQ.str(h:BQ w0 D X b l u){x:Str}(hl:l.length+x.length≤1099511627776){K:Int→Value→Wp}(hK:∀u' n v,BQ w0 D X b (l++x) u'→K n v u'):callK Tryz.prog c_4 [Ap (some (b,0)),Au x] u (.tup [Li,.leaf .val]) K:=by
 obtain⟨s,R,hA,hv,ht⟩:=h;exact wstr_ok hA (.inl rfl) hv ht (by omega) fun w' s' R' n v h1 h2 h3 _=>hK w' n v ⟨s',R',h1,h2,h3⟩
theorem BQ.end_(h:BQ w0 D X b l u)(h0:l≠[])(hl:l.length≤1099511627776){K:Str→Wp}(hK:∀u',At w0 D X u'→K l u'):callK Tryz.prog c_6 [Ap (some (b,0))] u Ot K:=by
 obtain⟨s,R,hA,hv,ht⟩:=h;exact bstr_ok hA hv ht h0 (by omega) fun w' h1 _=>hK w' h1
end
theorem int_byte(n:Int)(c:UInt8)(k:UInt8)(hk:(k.toNat:Int)=n):((c.toNat:Int)==n)=decide (c=k):=by
 subst hk;by_cases h:c=k
 ·subst h;simp
 ·rw [Dcf h];refine beq_false_of_ne fun e=>h ?_;exact UInt8.toNat_inj.1 (by omega)
theorem dig_sx{n:Nat}(h:n<16){i:Int}(hi:i=(n:Int)){K:Int→Prop}(hK:K ((digS n).toNat:Int)):sx [48,49,50,51,52,53,54,55,56,57,97,98,99,100,101,102] i K:=by
 subst hi;refine⟨digS n,?_,Int.natCast_nonneg n,hK⟩;rw [Itn];unfold digS;rw [Lgd,Lge (by simpa using h),Option.getD_some]
theorem wrapU8{n:Int}(h0:0≤n)(h1:n≤255):IntKind.wrap .u8 n=n:=by
 have:∀k:Fin 256,IntKind.wrap .u8 (k.1:Int)=(k.1:Int):=by decide +kernel
 have h:=this ⟨n.toNat,by omega⟩;have e:((n.toNat:Nat):Int)=n:=Int.toNat_of_nonneg h0;simp only [e] at h;exact h
theorem quoted_ok{s:Str}(hs:s.length≤1048576){w:World}{K:Str→Wp}(hK:∀w',Mod F0 w w'→K (quoS s) w'):callK Tryz.prog c_9 [Au s] w Ot K:=by
 refine go_9 _ _ _ ?_;refine At.alT (At.init w F0) fun b2 w1 h1 _ hsh=>?_;have h1:At w F0 ([]++(b2,bldC none ⟨none,0,0⟩)::[]) w1:=h1;refine wbyte_ok h1 (.inr ⟨rfl,_,.inl rfl,hsh⟩) (VecL.nil ET) (tyS.nil _) (x:=34) (by simp) rfl fun w2 s2 R2 v2 h2 v2' t2 _=>?_;have q2:BQ w F0 [] b2 ([34]++(s.take 0).flatMap quoC) w2:=⟨s2,R2,h2,by simpa using v2',t2⟩;refine join0 (fun u=>BQ w F0 [] b2 ([34]++s.flatMap quoC) u) ?_ ?_;rotate_left
 ·intro u hq;have hl:=quoF_len s;have hl1:([34]++s.flatMap quoC).length≤4194400:=by rw [Lla,List.length_singleton];omega
  refine hq.byte (x:=34) rfl (by omega) fun u3 v3 q3=>q3.end_ (by simp) (by rw [Lla,List.length_singleton];omega) fun u4 h4=>?_;have:([34]++s.flatMap quoC)++[34]=quoS s:=by unfold quoS;simp
  rw [this];exact hK u4 h4.mod
 intro k hk;refine loop1 (k:=Ki) (fun (i:Int) u=>∃j:Nat,i=(j:Int)∧j≤s.length∧BQ w F0 [] b2 ([34]++(s.take j).flatMap quoC) u) (fun i _=>(s.length-i).toNat) (x:=0) rfl ⟨0,rfl,Nzl _,q2⟩ ?_;rintro i u ⟨j,rfl,hj,hq⟩;refine Iq (fun q=>?_) fun q=>?_;rotate_left
 ·have q:s.length≤j:=dge q;rw [Ltl q] at hq;exact hk u hq
 have q:j<s.length:=dlt q;obtain⟨c,hc⟩:=Gq q;have hl:=quoF_len (s.take j);have hl2:(s.take j).length≤s.length:=by rw [Llt];omega
 have hcn:c.toNat<256:=c.toNat_lt;have et:[34]++(s.take (j+1)).flatMap quoC=([34]++(s.take j).flatMap quoC)++quoC c:=by
  rw [List.take_add_one,hc,List.flatMap_append];simp
 refine⟨c,by rw [Itn];exact hc,Int.natCast_nonneg j,?_⟩;have es:=step64 (i:=j) (by omega);have fin:∀u',BQ w F0 [] b2 (([34]++(s.take j).flatMap quoC)++quoC c) u'→(∃j':Nat,w64 ((j:Int)+1)=(j':Int)∧j'≤s.length∧BQ w F0 [] b2 ([34]++(s.take j').flatMap quoC) u')∧((s.length:Int)-w64 ((j:Int)+1)).toNat<((s.length:Int)-(j:Int)).toNat:=fun u' h=>⟨⟨j+1,es,by omega,by rw [et];exact h⟩,by rw [es];omega⟩;have len0:([34]++(s.take j).flatMap quoC).length≤4194400:=by rw [Lla,List.length_singleton];omega
 generalize ([34]++(s.take j).flatMap quoC)=l at hq fin len0;refine join1 (a:=.bool) (fun (q:Bool) u'=>q=decide (c=34∨c=92)∧u'=u) ?_ ?_
 ·intro k2 hk2;rw [int_byte 34 c 34 rfl,int_byte 92 c 92 rfl];refine Iq (fun q=>hk2 _ _ ⟨?_,rfl⟩) fun q=>hk2 _ _ ⟨?_,rfl⟩
  ·have q:=odt q;rw [Dct (.inl q)]
  ·have q:=odf q;simp [q]
 rintro t u' ⟨rfl,rfl⟩;refine join0 (fun u'=>BQ w F0 [] b2 (l++quoC c) u') ?_ fun u' h=>fin u' h;intro k3 hk3;unfold quoC at hk3;refine Iq (fun q=>?_) fun q=>?_
 ·have q:=odt q;rw [if_pos q] at hk3;refine hq.byte (x:=92) rfl (by omega) fun u3 _ q3=>q3.byte (x:=c) rfl (by simp;omega) fun u4 _ q4=>hk3 _ ?_;have:(l++[92])++[c]=l++[92,c]:=by simp
  rw [←this];exact q4
 have q:=odf q;rw [if_neg q] at hk3;refine join1 (a:=.bool) (fun (q:Bool) u3=>q=decide (32≤c.toNat∧c.toNat≤126)∧u3=u') ?_ ?_
 ·intro k2 hk2;refine Iq (fun q=>hk2 _ _ ⟨?_,rfl⟩) fun q=>hk2 _ _ ⟨?_,rfl⟩
  ·have q:(32:Int)≤(c.toNat:Int):=odt q;by_cases h:(c.toNat:Int)≤126
   ·rw [Dct h,Dct ⟨by omega,by omega⟩]
   ·rw [Dcf h,Dcf (fun e=>h (by omega))]
  ·have q:¬(32:Int)≤(c.toNat:Int):=odf q;rw [Dcf (fun e=>q (by omega))]
 rintro t u3 ⟨rfl,rfl⟩;refine join0 (fun u'=>BQ w F0 [] b2 (l++quoC c) u') ?_ fun u' h=>by
  unfold quoC at h;rw [if_neg q] at h;exact hk3 u' h
 intro k4 hk4;unfold quoC at hk4;rw [if_neg q] at hk4;refine Iq (fun q2=>?_) fun q2=>?_
 ·have q2:=odt q2;rw [if_pos q2] at hk4;exact hq.byte (x:=c) rfl (by omega) fun u4 _ q4=>hk4 _ q4
 have q2:=odf q2;rw [if_neg q2] at hk4;refine hq.str (x:=[92,120]) (by simp;omega) fun u4 _ _ q4=>?_;have e16:(c.toNat:Int).tdiv 16=((c.toNat/16:Nat):Int):=rfl;have m16:(c.toNat:Int).tmod 16=((c.toNat%16:Nat):Int):=rfl;refine dig_sx (n:=c.toNat/16) (by omega) (by rw [e16,wrapU8 (by omega) (by omega)]) (q4.byte (x:=digS (c.toNat/16)) rfl (by simp;omega) fun u5 _ q5=>dig_sx (n:=c.toNat%16) (by omega) m16 (q5.byte (x:=digS (c.toNat%16)) rfl (by simp;omega) fun u6 _ q6=>hk4 _ ?_));have:((l++[92,120])++[digS (c.toNat/16)])++[digS (c.toNat%16)]=l++[92,120,digS (c.toNat/16),digS (c.toNat%16)]:=by simp
 rw [←this];exact q6
theorem BP.keep{w w':World}{b:Nat}{p:PA}(h:BP w b p)(hM:Mod F0 w w'):BP w' b p:=by
 rcases h with h | ⟨h,T,hT,hs⟩
 ·exact .inl h
 ·exact .inr ⟨h,T,hT,shape_mod hM hs id⟩
theorem vec_words(b:Nat)(l:List Str):VecL [(b,(l.map LV.str).map LV.toV)] EStr ⟨some (b,0),l.length,l.length⟩ l:=by
 have h:∀l:List Str,EStr.cells l=(l.map LV.str).map LV.toV:=fun l=>by
  induction l with
  | nil=>rfl
  | cons x l ih=>
   show EStr.f x++EStr.cells l=_;rw [ih];rfl
 refine⟨rfl,Nlr _,.inr ⟨b,[],by rw [h,Lan],rfl,?_⟩⟩;rw [Lan,EStr.cells_length];exact Nlr _
theorem rd_words{w:World}{b:Nat}{l:List Str}(h:Blk w b ((l.map LV.str).map LV.toV)):RdS w EStr ⟨some (b,0),l.length,l.length⟩ l:=(vec_words b l).rd fun q hq=>by rw [Lms.1 hq];exact h
theorem At.law1{w0 w w':World}{D:Nat→Prop}{m m':BL}(h:At w0 D m w)(hA:At w (Ks m) m' w'):At w0 D m' w':=by
 refine⟨h.mod.trans hA.mod (fun _ _ h=>h) ?_,hA.own,hA.nodup,fun q hq hlt=>?_⟩
 ·rintro x hx ⟨q,hq,rfl⟩;exact h.wr q hq hx
 ·obtain⟨q',hq',e⟩:=hA.wr q hq (Nat.lt_of_lt_of_le hlt h.mod.size);rw [←e] at hlt ⊢;exact h.wr q' hq' hlt
section
variable {w0 w:World}{D:Nat→Prop}{X R:BL}{b:Nat}{p:PA}{s:Sl}{l:Str}
theorem line_ok(hA:At w0 D (X++(b,bldC p s)::R) w)(hp:BP w b p)(hv:VecL R ET s l)(ht:tyS w s){sw:Sl}{ws:List Str}(hr:RdS w EStr sw ws)(hn:ws.length≤1000)(hw:(lineS ws).length≤100000)(hl:l.length≤35184370000000){K:Wp}
  (hK:∀w' s' R',At w0 D (X++(b,bldC (some (b,0)) s')::R') w'→VecL R' ET s' (l++lineS ws)→tyS w' s'→Mod (fun y=>y=b∨Ks R y) w w'→K w') :
  callK Tryz.prog c_10 [Ap (some (b,0)),Az sw] w (.tup []) K:=by
 refine go_10 _ _ _ _ ?_;have hA1:At w (Ks (X++(b,bldC p s)::R)) (X++(b,bldC p s)::R) w:=hA.from fun q hq=>⟨q,hq,rfl⟩;have hj:(Go.Lib.join ws [32]).length+1≤100000:=by unfold lineS at hw;rw [Lla,List.length_singleton] at hw;exact hw
 refine⟨fun y=>y=b∨Ks R y,Dq (join_ok (hr.quiet (Mod.drew _ w)) (by omega) (by omega) fun w7 M7=>?_)⟩;have M0:Mod F0 w w7:=(Mod.drew F0 w).trans M7 (fun _ _ h=>h) fun _ _ h=>h;refine⟨M7.mono fun _ _ h=>h.elim,wstr_ok (hA1.keep0 M0 fun _=>id) (hp.keep M0) hv (ht.keep M0 fun _ _ _=>id) (by omega) fun w10 s' R' n v h10 v10 t10 M10=>⟨M7.trans M10 (fun _ _ h=>h.elim) fun _ _ h=>h,Dq ?_⟩⟩;refine wbyte_ok h10 (.inl rfl) v10 t10 (x:=10) (by rw [Lla];omega) rfl fun w11 s2 R2 v h11 v11 t11 M11=>hK w11 s2 R2 (At.law1 hA h11) ?_ t11 ?_
 ·unfold lineS;rw [←Laa];exact v11
 ·refine M0.trans (M10.trans M11 (D:=fun y=>y<w.heap.size→y=b∨Ks R y) (fun _ _ h _=>h) ?_) (fun _ _ h=>h.elim) fun y hy h=>h hy;rintro y _ (h | h) hlt
  ·exact .inl h
  ·obtain⟨q,hq,rfl⟩:=h;obtain⟨q',hq',e⟩:=h10.wr q (Lmr _ (Lmc _ hq)) hlt;rcases Lma.1 hq' with hq' | hq'
   ·have hnd:=h10.nodup;rw [List.map_append,List.nodup_append] at hnd;exact absurd e (hnd.2.2 q'.1 (List.mem_map_of_mem hq') q.1 (by rw [List.map_cons];exact Lmc _ (List.mem_map_of_mem hq)))
   ·rcases List.mem_cons.1 hq' with rfl | hq'
    ·exact .inl e.symm
    ·exact .inr ⟨q',hq',e⟩
end
end Go.Proofs.YtoegpmjoajipcaaGreatDoor
