/- Part T12. -/
import Derived.Test.YtkgligdkihlfaaaGreatT03
import Derived.Test.YtkgligdkihlfaaaGreatT11
namespace Go.Proofs.YtkgligdkihlfaaaGreat
open Go.Vw
structure FA(w0:World)(D:Nat→Prop)(X:List (Nat×Obj))(m:List (Nat×List Value))(w:World):Prop where
 at_:At w0 D m w
 far:∀q∈X,w.heap[q.1]? = some q.2
 isf:∀q∈X,isFar q.2=true∧w0.heap.size≤q.1
 nd:(X.map Prod.fst).Nodup
section
variable {w0 w:World}{D:Nat→Prop}{X:List (Nat×Obj)}{m:List (Nat×List Value)}
theorem FA.rest(h:FA w0 D X m w):At w (Ks m) m w:=h.at_.from fun q hq=>⟨q,hq,rfl⟩
theorem FA.law(h:FA w0 D X m w){m':List (Nat×List Value)}{w':World}(hA:At w (Ks m) m' w'):FA w0 D X m' w':=by
 refine⟨⟨h.at_.mod.trans hA.mod (fun _ _ h=>h) ?_,hA.own,hA.nodup,fun q hq hlt=>?_⟩,fun q hq=>?_,h.isf,h.nd⟩
 ·rintro x hx ⟨q,hq,rfl⟩;exact h.at_.wr q hq hx
 ·obtain⟨q',hq',e⟩:=hA.wr q hq (Nat.lt_of_lt_of_le hlt h.at_.mod.size);rw [←e] at hlt ⊢;exact h.at_.wr q' hq' hlt
 ·refine (hA.mod.block _ (heap_lt (h.far q hq)) ?_).trans (h.far q hq);rintro ⟨q',hq',e⟩;have:=h.at_.own q' hq';rw [e] at this;exact far_cell (h.far q hq) (h.isf q hq).1 this
theorem FA.sub(h:FA w0 D X m w){m':List (Nat×List Value)}(hs:m'.Sublist m):FA w0 D X m' w:=⟨h.at_.sub hs,h.far,h.isf,h.nd⟩
theorem FA.perm(h:FA w0 D X m w){m':List (Nat×List Value)}(hs:m'.Perm m):FA w0 D X m' w:=⟨h.at_.perm hs,h.far,h.isf,h.nd⟩
theorem FA.calm(h:FA w0 D X m w){w':World}(hM:Mod (fun _=>False) w w'):FA w0 D X m w':=
 ⟨h.at_.keep0 hM fun _=>id,fun q hq=>(hM.block _ (heap_lt (h.far q hq)) id).trans (h.far q hq),h.isf,h.nd⟩
theorem FA.less(h:FA w0 D X m w){X':List (Nat×Obj)}(hs:X'.Sublist X):FA w0 D X' m w:=⟨h.at_,fun q hq=>h.far q (hs.subset hq),fun q hq=>h.isf q (hs.subset hq),(hs.map Prod.fst).nodup h.nd⟩
theorem FA.new(h:FA w0 D X m w){o:Obj}(hf:isFar o=true):FA w0 D ((w.heap.size,o)::X) m (w.alloc o):=by
 have hc:=h.calm (Mod.alloc (fun _=>False) w o);refine⟨hc.at_,fun q hq=>?_,fun q hq=>?_,?_⟩
 ·rcases List.mem_cons.1 hq with rfl | hq
  ·exact World.alloc_heap_new _ _
  ·exact hc.far q hq
 ·rcases List.mem_cons.1 hq with rfl | hq
  ·exact⟨hf,h.at_.mod.size⟩
  ·exact h.isf q hq
 ·rw [List.map_cons,List.nodup_cons];refine⟨fun hm=>?_,h.nd⟩;obtain⟨q,hq,e⟩:=List.mem_map.1 hm;have:=heap_lt (h.far q hq);simp only at e;omega
theorem FA.put{b:Nat}{o o':Obj}(h:FA w0 D ((b,o)::X) m w)(hf:isFar o'=true):FA w0 D ((b,o')::X) m (w.putObj b o'):=by
 have hb:=h.far (b,o) (by simp);have hi:=h.isf (b,o) (by simp);have hnd:=h.nd;rw [List.map_cons,List.nodup_cons] at hnd;refine⟨h.at_.keep (Mod.putObj w b o') (fun x hx e=>by have:=hi.2;simp only at this;omega) (fun q hq e=>?_),fun q hq=>?_,fun q hq=>?_,h.nd⟩
 ·have:=h.at_.own q hq;rw [e] at this;exact far_cell hb hi.1 this
 ·rcases List.mem_cons.1 hq with rfl | hq
  ·exact World.putObj_heap_same (heap_lt hb)
  ·have hne:q.1≠b:=fun e=>hnd.1 (by
    have:b=q.1:=e.symm;simp only [this];exact List.mem_map_of_mem hq)
   rw [World.putObj_heap_other hne];exact h.far q (Lmc _ hq)
 ·rcases List.mem_cons.1 hq with rfl | hq
  ·exact⟨hf,hi.2⟩
  ·exact h.isf q (Lmc _ hq)
end
abbrev Mk:Obj:=.deferred (some [])
theorem range_tt{P:Program}{v:Value}{w:World}{B:Nat→Str→Str→World→(World→(Wp)→Prop)→(Wp)→(Nat→Wp)→Prop}{An:Nat→Wp}{As:List (Nat→Wp)}
  (h:∀(R:LSt→Obj) (l:Nat),(∀s,isFar (R s)=true)→l=(w.alloc Mk).heap.size →
   (∀(x y:Str) (w':World) (K:Bool→Wp),w'.heap[l]? = some (R .ready)→B l x y w' (fun u K'=>u.heap[l]? = some (R .ready)∧K' (u.putObj l (R .busy))) (fun u=>u.heap[l]? = some (R .busy)∧K true (u.putObj l (R .ready))) (fun j u=>u.heap[l]? = some (R .busy)∧K false (u.putObj l (R (.done j)))) →
    callV P (.func (.yield l) #[] #[]) [Au x,Au y] w' Ob K) →
   callF P v [.leaf (.val (.func (.yield l) #[] #[]))] ((w.alloc Mk).alloc (R .ready)) (.tup []) fun w3=>
    (w3.heap[l]? = some (R .ready)∧An w.heap.size (w3.putObj l (R (.over none))))∨(∃j A,As[j]? = some A∧w3.heap[l]? = some (R (.done j))∧A w.heap.size (w3.putObj l (R (.over (some j)))))) :
  rangeK P [Lt,Lt] v none w B An As:=by
 refine⟨fun l0 h=>(by cases h),fun R w1 l hR hw1 hl HY=>?_⟩;have hw1:w1=w.alloc Mk:=hw1;subst hw1;exact h R l (fun s=>isFar_loop (hR s)) hl fun x y w' K h1 h2=>HY [.str x,.str y] w' K h1 h2
theorem callF_func{P:Program}{f:FuncId}{a c:Array Value}{args:List AV}{w:World}{rt:RT}{K:Go.Vw.Fn rt.kds (Wp)}(hf:callable P f=true)(args':List AV)(ha:a++(args.map AV.toV).toArray++c=(args'.map AV.toV).toArray)
  (h:callK P f args' w rt K):callF P (.func (.func f) a c) args w rt K:=⟨f,a,c,rfl,hf,by rw [ha];exact h⟩
theorem callI_of{P:Program}{v:Value}{m:String}{f:FuncId}{args args':List AV}{w:World}{rt:RT}{K:Go.Vw.Fn rt.kds (Wp)}(hm:(callMethod v m (args.map AV.toV).toArray).run P w = .ok (.enter f (args'.map AV.toV).toArray) w)
  (h:callK P f args' w rt K):callI P v m args w rt K:=⟨f,_,hm,h⟩
end Go.Proofs.YtkgligdkihlfaaaGreat
namespace Go.Proofs.YtkgligdkihlfaaaGreat
open Go.Vw
open Go
theorem FA.own{w0 w:World}{D:Nat→Prop}{Z:List (Nat×Obj)}{L:BL}(h:FA w0 D Z L w){b:Nat}{c:List Value}(hm:(b,c)∈L):Blk w b c:=h.at_.own (b,c) hm
theorem FA.fresh{w0 w w':World}{D:Nat→Prop}{Z:List (Nat×Obj)}{L ro:BL}(h:FA w0 D Z L w)(hF:Fresh w w' F0 ro):FA w0 D Z (L++ro) w':=h.law (h.rest.joinF hF (fun _ _ h=>h.elim) fun _ _=>id)
theorem FA.alst{w0 w:World}{D:Nat→Prop}{Z:List (Nat×Obj)}{L:BL}(h:FA w0 D Z L w){e:TypeId}{cs vs:List LV}(hl:vs.length=cs.length){K:Nat→Wp}(hK:∀b u',FA w0 D Z (L++[(b,vs.map LV.toV)]) u'→K b u') :
  Go.Vw.al w e cs fun b u1=>Go.Vw.st u1 b 0 vs fun u2=>K b u2:=
 (Fresh.start w F0).alst hl fun b u' hF _ _=>hK b u' (by have:=h.fresh hF;simpa using this)
theorem FA.alK{w0 w:World}{D:Nat→Prop}{Z:List (Nat×Obj)}{L:BL}(h:FA w0 D Z L w){e:TypeId}{cs:List LV}{K:Nat→Wp}(hK:∀b u',FA w0 D Z (L++[(b,cs.map LV.toV)]) u'→K b u'):Go.Vw.al w e cs K:=
 h.rest.alK fun b u' _ hA _=>hK b u' (h.law hA)
theorem blockN_e0(tile:Str)(raw:Int):((blockN tile raw).2=none→(blockN tile raw).1≠0)∧∀x,(blockN tile raw).2=some x→(blockN tile raw).1=0:=by
 unfold blockN;split
 ·exact⟨fun _=>by decide,fun x h=>by cases h⟩
 split
 ·rename_i h;exact⟨fun _=>h,fun x h=>by cases h⟩
 split
 ·exact⟨fun _=>by decide,fun x h=>by cases h⟩
 split
 ·exact⟨fun _=>by decide,fun x h=>by cases h⟩
 split
 ·exact⟨fun _=>by decide,fun x h=>by cases h⟩
 split
 ·exact⟨fun _=>by decide,fun x h=>by cases h⟩
 ·exact⟨fun h=>(by cases h),fun _ _=>rfl⟩
set_option maxHeartbeats 1000000 in
theorem opened_ok{w:World}{s:Sl}{tile:Str}(hr:RdS w ET s tile)(hl:tile.length≤1048576){b:BI}{K:PA→Bool→Wp}
  (hN:opnP tile b=none→∀p w',Mod F0 w w'→K p false w')
  (hS:∀e,opnP tile b=some e→∀w' bb sE r ro,Fresh w w' F0 ([(bb,rdC r sE)]++ro)→VecL ro EPr sE e→1≤e.length→e.length≤21845→(∀y∈e,y.1.length≤1024∧y.2.length≤1024)→K (some (bb,0)) true w') :
  callK Tryz.prog c_2 [Az s,.agg [.int .i64 b.stored,.int .i64 b.raw,.int .i64 b.count,.str b.cut]] w (.tup [Lp,Lb]) K:=by
 refine go_2 _ _ _ _ _ _ _ ?_;refine (Fresh.start w F0).alK fun b6 w1 f1 _ M1=>?_;have hB:Blk w1 b6 (EBI.f b):=f1.blk (i:=0) rfl;refine hB.ldK (k:=Ki) b.raw rfl (blockOpen_ok (hr.quiet M1) hl (fun hn w2 M2=>?_) fun x hx w2 bb sE ro hF hv=>?_)
 ·have he:=(blockN_e0 tile b.raw).1 hn;have ho:opnP tile b=none:=by unfold opnP;rw [hn]
  refine join1 (a:=.bool) (fun q u=>q=true∧u=w2.drew) (fun k hk=>⟨F0,ifK_t (by simpa using he) (hk _ _ ⟨rfl,rfl⟩)⟩) ?_;rintro q u ⟨rfl,rfl⟩;exact ifK_t rfl (hN ho none _ (mod0 (mod0 M1 M2) (Mq _)))
 have he:=(blockN_e0 tile b.raw).2 x hx;have hs:=blockN_srt hx;have f2:Fresh w w2 F0 ((([]++[(b6,EBI.f b)]))++([(bb,rdC x.1 sE)]++ro)):=f1.join hF (fun _ _ h=>h) fun _ _ _ h=>h;have hR:BlkR w2 bb sE x.1 x.2:=⟨hF.blk (i:=0) rfl,hv.rd fun p hp=>hF.own p (Lmr _ hp)⟩;have hB2:Blk w2 b6 (EBI.f b):=f2.blk (i:=0) rfl;rw [he];refine join1 (a:=.bool) (fun q u=>q=decide ((x.2.length:Int)≠b.count)∧Mod F0 w2 u) ?_ ?_
 ·intro k hk;refine⟨F0,ifK_f rfl (((Mq w2).blk hB2 id).ldDK (k:=Ki) b.count id rfl (blockLen_ok (hR.quiet (Mq w2)) ⟨Mod.refl _ _,hk _ _ ⟨?_,Mq w2⟩⟩))⟩;by_cases h:(x.2.length:Int)=b.count
  ·rw [h,Dcf (by simp)];exact Bsf _
  ·rw [Dct h];simpa using h
 rintro q u ⟨rfl,M3⟩;refine Iq (fun q=>?_) fun q=>?_
 ·have q:=odt q;have ho:opnP tile b=none:=by unfold opnP;rw [hx];exact if_pos q
  exact hN ho none u (mod0 (mod0 M1 hF.mod) M3)
 have q:¬(x.2.length:Int)≠b.count:=odf q;refine blockAt_ok (hR.quiet M3) fun u2 M4=>?_;have ha:atN x.2 0=((x.2.getD 0 ([],[])).1,(x.2.getD 0 ([],[])).2,0):=by
  unfold atN;rw [if_neg (by omega)];rfl
 rw [ha];dsimp only;have hM5:=mod0 (mod0 M3 M4) (Mq u2);refine⟨F0,?_⟩;have hmn:mnI ((x.2.getD 0 ([],[])).1.length:Int) 64=((min (x.2.getD 0 ([],[])).1.length 64:Nat):Int):=mnI_nat (b:=64);refine ssx_take (n:=min (x.2.getD 0 ([],[])).1.length 64) (Nat.min_le_left _ _) hmn ?_;have ht:(x.2.getD 0 ([],[])).1.take (min (x.2.getD 0 ([],[])).1.length 64)=(x.2.getD 0 ([],[])).1.take 64:=by
  by_cases h:(x.2.getD 0 ([],[])).1.length≤64
  ·rw [Nat.min_eq_left h,List.take_length,Ltl h]
  ·rw [Nat.min_eq_right (by omega)]
 rw [ht];refine (hM5.blk hB2 id).ldDK (k:=.str) b.cut id rfl ?_;by_cases hc:(x.2.getD 0 ([],[])).1.take 64=b.cut
 ·have ho:opnP tile b=some x.2:=by unfold opnP;rw [hx];dsimp only;rw [if_neg q,if_pos hc]
  have hb:((x.2.getD 0 ([],[])).1.take 64==b.cut)=true:=by rw [beq_iff_eq];exact hc
  rw [hb];refine hS x.2 ho _ bb sE x.1 ro ?_ hv hs.2.2.1 (by have:=hs.2.2.2.1;omega) hs.2.2.2.2.2;exact (f2.sub (Lsr _ _)).quiet hM5
 ·have ho:opnP tile b=none:=by unfold opnP;rw [hx];dsimp only;rw [if_neg q,if_neg hc]
  have hb:((x.2.getD 0 ([],[])).1.take 64==b.cut)=false:=by
   rw [←Bool.not_eq_true,beq_iff_eq];exact hc
  rw [hb];exact hN ho _ _ (mod0 (mod0 M1 hF.mod) hM5)
theorem range_ents{w0 w:World}{X0:List (Nat×Obj)}{b2 bb:Nat}{sE:Sl}{r:Nat}{es:List (Str×Str)}{R:BL}(hR:OwnL R EPr sE es)(hbb:(bb,rdC r sE)∈R)(hb2:(b2,[(LV.ptr (some (bb,0))).toV])∈R)(hl:es.length≤1048576)
  {G:Nat→BL→Prop} (hG:∀c L,G c L→∀p∈R,p∈L) {L0:BL} (h:FA w0 F0 X0 L0 w) (h0:G 0 L0)
  {B:Nat→Str→Str→World→(World→(Wp)→Prop)→(Wp)→(Nat→Wp)→Prop} {An:Nat→Wp}
  (hB:∀(l:Nat) (Xr Xb:List (Nat×Obj)) (L:BL) (x:Str×Str) (c:Nat) (w':World) (beg:World→(Wp)→Prop) (next:Wp) (leave:Nat→Wp),FA w0 F0 Xr L w'→G c L→es[c]? = some x →
   (∀K':Wp,(∀u,FA w0 F0 Xb L u→K' u)→beg w' K')→(∀L' u,FA w0 F0 Xb L' u→G (c+1) L'→next u)→B l x.1 x.2 w' beg next leave)
  (hAn:∀L u,FA w0 F0 ((w.heap.size,Mk)::X0) L u→G es.length L→An w.heap.size u) :
  rangeK Tryz.prog [Lt,Lt] (.func (.func c_3) #[] #[(LV.toV (.ptr (some (b2,0))))]) none w B An []:=by
 refine range_tt fun Rr l hfR hl2 HY=>?_;have h2:=(h.new (o:=Mk) rfl).new (hfR .ready);rw [←hl2] at h2;generalize w.heap.size=rr at *;refine callF_func (CS_ok c_3 rfl) [.leaf (.val (.func (.yield l) #[] #[])),Ap (some (b2,0))] (by rfl) ?_;refine go_3 _ _ _ _ _ ?_;have hin:=hG 0 L0 h0;have hB2:Blk ((w.alloc Mk).alloc (Rr .ready)) b2 [(LV.ptr (some (bb,0))).toV]:=h2.at_.own _ (hin _ hb2);have hBb:Blk ((w.alloc Mk).alloc (Rr .ready)) bb (rdC r sE):=h2.at_.own _ (hin _ hbb);refine hB2.ldK (k:=.ptr) (some (bb,0)) rfl (ifK_f rfl (hB2.ldK (k:=.ptr) (some (bb,0)) rfl (Dq (hBb.ldK (k:=.sl) sE rfl ?_))));refine join0 (fun u=>∃L,FA w0 F0 ((l,Rr .ready)::(rr,Mk)::X0) L u∧G es.length L) ?_ ?_;rotate_left
 ·rintro u ⟨L,hF,hg⟩;exact .inl ⟨hF.far (l,Rr .ready) (by simp),hAn L _ ((hF.put (o':=Rr (.over none)) (hfR _)).less (List.sublist_cons_self _ _)) hg⟩
 intro k hk;refine loop1 (k:=Ki) (fun (i:Int) u=>∃(c:Nat) (L:BL),i=(c:Int)∧c≤es.length∧FA w0 F0 ((l,Rr .ready)::(rr,Mk)::X0) L u∧G c L) (fun i _=>(es.length-i).toNat) (x:=0) rfl ⟨0,L0,rfl,Nzl _,h2,h0⟩ ?_;rintro i u ⟨c,L,rfl,hc,hF,hg⟩;have hrd:RdS u EPr sE es:=hR.rd fun p hp=>hF.at_.own p (hG c L hg p hp);rw [hrd.len];refine Iq (fun q=>?_) fun q=>?_;rotate_left
 ·have q:es.length≤c:=dge q;have:c=es.length:=by omega
  subst this;exact hk u ⟨L,hF,hg⟩
 have q:c<es.length:=dlt q;obtain⟨x,hx⟩:=Gq q;refine hrd.ix rfl rfl hx fun b o _ hcc=>Lq (k:=.str) x.1 (hcc 0 (by decide)) (Lq (k:=.str) x.2 (hcc 1 (by decide)) ?_);refine hF.alst (by rfl) fun b17 u2 hF2=>?_;have hF2:FA w0 F0 ((l,Rr .ready)::(rr,Mk)::X0) (L++[(b17,strs x.1 x.2)]) u2:=hF2;have hB17:Blk u2 b17 (strs x.1 x.2):=hF2.own (Lmr _ (Lms.2 rfl));refine hB17.ldK (k:=.str) x.1 rfl (hB17.ldK (k:=.str) x.2 rfl ?_);have hF3:=hF2.sub (Lsl L [(b17,strs x.1 x.2)]);have es:=step64 (i:=c) (by omega);refine HY x.1 x.2 u2 _ (hF3.far (l,Rr .ready) (by simp)) (hB l ((l,Rr .ready)::(rr,Mk)::X0) ((l,Rr .busy)::(rr,Mk)::X0) L x c u2 _ _ _ hF3 hg hx ?_ ?_)
 ·intro K' hK';exact⟨hF3.far (l,Rr .ready) (by simp),hK' _ (FA.put (o':=Rr .busy) hF3 (hfR _))⟩
 ·intro L' v hv hg';refine⟨hv.far (l,Rr .busy) (by simp),ifK_f rfl ⟨⟨c+1,L',es,by omega,FA.put (o':=Rr .ready) hv (hfR _),hg'⟩,by rw [es];omega⟩⟩
structure Mkr{σ:Type}(v:Value)(step:σ→Ev→σ)(size:σ→Nat)(Own:σ→BL→Prop):Prop where
 cell:isCell v=true
 grows:∀s e,size (step s e)≤size s+1
 trailer:∀{X m:BL} {u:World} {s:σ} {a b tb tp:Int} {ok:Bool} {K:Wp},At u (Ks (X++m)) (X++m) u→Own s m→size s≤1099511627776→(∀u' m',At u (Ks (X++m)) (X++m') u'→Own (step s (.trailer a b tb tp ok)) m'→K u') →
  callI Tryz.prog v "winnow/inspect.trailer" [.agg [.int .i64 a,.int .i64 b],.agg [.int .i64 tb,.int .i64 tp],Ab ok] u (.tup []) K
 page:∀{X m:BL} {u:World} {s:σ} {p:PgP} {K:Wp},At u (Ks (X++m)) (X++m) u→Own s m→size s≤1099511627776→(∀u' m',At u (Ks (X++m)) (X++m') u'→Own (step s (.page p)) m'→K u') →
  callI Tryz.prog v "winnow/inspect.page" [.agg [.int .i64 p.frm,.int .i64 p.to],Ab (p.ok)] u (.tup []) K
 footer:∀{X m:BL} {u:World} {s:σ} {a b P:Int} {sl:Sl} {l:List PartI} {ok:Bool} {K:Wp},At u (Ks (X++m)) (X++m) u→Own s m→size s≤1099511627776→(∀u' m',At u (Ks (X++m)) (X++m') u'→Own (step s (.footer a b P l ok)) m'→K u') →
  callI Tryz.prog v "winnow/inspect.footer" [.agg [.int .i64 a,.int .i64 b],.agg [.int .i64 P,.sl sl],Ab ok] u (.tup []) K
 part:∀{X m:BL} {u:World} {s:σ} {p:PI} {x:PartI} {K:Wp},At u (Ks (X++m)) (X++m) u→Own s m→size s≤1099511627776→p.part=x.part→p.sb.len=x.blocks.length→p.all=x.flt.all→p.hashes=x.flt.hashes→p.sd.len=x.flt.data.length→(∀u' m',At u (Ks (X++m)) (X++m') u'→Own (step s (.part x)) m'→K u') →
  callI Tryz.prog v "winnow/inspect.part" [.agg [.int .i64 p.part,.sl p.sb,.bool p.all,.int .i64 p.hashes,.sl p.sd]] u (.tup []) K
 block:∀{X m:BL} {u:World} {s:σ} {x:BlkP} {K:Wp},At u (Ks (X++m)) (X++m) u→Own s m→size s≤1099511627776→(∀u' m',At u (Ks (X++m)) (X++m') u'→Own (step s (.block x)) m'→K u') →
  callI Tryz.prog v "winnow/inspect.block" [.agg [.int .i64 x.frm,.int .i64 x.to],.agg [.int .i64 x.info.stored,.int .i64 x.info.raw,.int .i64 x.info.count,.str x.info.cut],.leaf (.int .u8 (x.flag:Int)),Ai (x.how)] u (.tup []) K
 record:∀{X m:BL} {u:World} {s:σ} {part:Int} {k z:Str} {K:Wp},At u (Ks (X++m)) (X++m) u→Own s m→size s≤1099511627776→(∀u' m',At u (Ks (X++m)) (X++m') u'→Own (step s (.record part k z)) m'→K u') →
  callI Tryz.prog v "winnow/inspect.record" [Ai part,Au k,Au z] u (.tup []) K
def marksX(rs:List Nat):List (Nat×Obj):=rs.map fun r=>(r,Mk)
theorem closes{w0:World}{D:Nat→Prop}{m:BL}:∀(rs:List Nat) {w:World} {K:Wp},FA w0 D (marksX rs) m w→(∀w',At w0 D m w'→K w')→closeK rs w K
 | [],w,K,h,hK=>hK w h.at_
 | r::rs,w,K,h,hK=>by
  refine⟨h.far (r,Mk) (by simp [marksX]),?_⟩;have h':FA w0 D ((r,Mk)::marksX rs) m w:=h;exact closes rs ((h'.put (o':=.deferred none) rfl).less (List.sublist_cons_self _ _)) hK
theorem join4{a b c d:Kd}{A:(Den a→Den b→Den c→Den d→Wp)→Prop}{K:Den a→Den b→Den c→Den d→Wp}(R:Den a→Den b→Den c→Den d→Wp)
  (hA:∀k:Den a→Den b→Den c→Den d→Wp,(∀x y z v w,R x y z v w→k x y z v w)→A k) (hK:∀x y z v w,R x y z v w→K x y z v w):joinK [a,b,c,d] A K:=hA K hK
theorem chkB_mem:∀{l:List BI} {key:Str},chkB l key=true→∀b∈l,rightD b=true
 | x::l,key,h,b,hb=>by
  rw [chkB_cons,Bat] at h;rcases List.mem_cons.1 hb with rfl | hb
  ·rw [rightB_D,Bat] at h;exact h.1.1
  ·exact chkB_mem h.2 b hb
theorem flag_eq{tile:Str}(h:5≤tile.length):((tile[tile.length-5]'(by omega)).toNat:Int)=(flagP tile:Int):=by
 unfold flagP;rw [Lgd,Lge (by omega),Option.getD_some]
theorem getD_memD{α:Type}{l:List α}{d:α}{i:Nat}(h:i<l.length):l.getD i d∈l:=by
 rw [Lgd,Lge h,Option.getD_some];exact List.getElem_mem h
section
variable {σ:Type}{v:Value}{step:σ→Ev→σ}{size:σ→Nat}{Own:σ→BL→Prop}{w0 w:World}{sf:Sl}{file:Str}
set_option maxHeartbeats 4000000 in
theorem blocks_in(hM:Mkr v step size Own)(hf:RdS w0 ET sf file)(hfl:file.length≤1048576){X m R:BL}{s:σ}(hA:At w0 F0 (X++m) w)(ho:Own s m){p:PI}{x:PartI}(hpp:p.part=x.part)(hbl:OwnL R EBI p.sb x.blocks)(hRX:∀q∈R,q∈X)(hlb:x.blocks.length≤262144)
  {at0:Int} (ha0:0≤at0) (hchk:chkB x.blocks []=true) (hsp:at0+spB x.blocks≤file.length) (hsz:size s+21846*262144≤1099511627776) {K:Int→Wp}
  (hK:∀w' m',At w0 F0 (X++m') w'→Own (((blksP file x.part x.blocks at0 [] false).flatMap blkEv).foldl step s) m'→size (((blksP file x.part x.blocks at0 [] false).flatMap blkEv).foldl step s)≤size s+21846*x.blocks.length→K (at0+spB x.blocks) w') :
  callK Tryz.prog c_4 [Az sf,Ai at0,.agg [.int .i64 p.part,.sl p.sb,.bool p.all,.int .i64 p.hashes,.sl p.sd],.leaf (.val v)] w Oi K:=by
 refine go_4 _ _ _ _ _ _ _ _ _ _ ?_;have hF0:FA w0 F0 [] (X++m) w:=⟨hA,by simp,by simp,by simp⟩;refine hF0.alK fun b9 w1 hF1=>⟨fun y hy=>by rw [Lms.1 hy];exact hM.cell,hF1.alK fun b11 w2 hF2=>?_⟩;have hF2:FA w0 F0 [] (((X++m)++[(b9,EPI.f p)])++[(b11,[v])]) w2:=hF2;have hF2:FA w0 F0 [] (((X++[(b9,EPI.f p)])++[(b11,[v])])++m) w2:=hF2.perm (by
  have h1:=perm_mid X ([(b9,EPI.f p)]++[(b11,[v])]) m;simp only [Laa] at h1 ⊢;exact h1.symm)
 have hKX:∀{at_:Int} {u:World} {m':BL},at_=at0+spB x.blocks→At w0 F0 (((X++[(b9,EPI.f p)])++[(b11,[v])])++m') u→Own (((blksP file x.part x.blocks at0 [] false).flatMap blkEv).foldl step s) m'→size (((blksP file x.part x.blocks at0 [] false).flatMap blkEv).foldl step s)≤size s+21846*x.blocks.length→K at_ u:=fun {at_ u m'} e hu ho' hz=>by
  rw [e];refine hK u m' (hu.sub ?_) ho' hz;exact List.Sublist.append ((Lsl _ _).trans (Lsl _ _)) (List.Sublist.refl _)
 have m9:(b9,EPI.f p)∈(X++[(b9,EPI.f p)])++[(b11,[v])]:=by simp
 have m11:(b11,[v])∈(X++[(b9,EPI.f p)])++[(b11,[v])]:=by simp
 have hRX2:∀q∈R,q∈(X++[(b9,EPI.f p)])++[(b11,[v])]:=fun q hq=>Lml _ (Lml _ (hRX q hq));generalize (X++[(b9,EPI.f p)])++[(b11,[v])]=X2 at hF2 hKX m9 m11 hRX2;have hB9:Blk w2 b9 (EPI.f p):=hF2.own (Lml _ m9);refine hB9.ldK (k:=.sl) p.sb rfl ?_;refine join2 (a:=Ki) (b:=.marks) (fun (at_:Int) (rs:List Nat) u=>at_=at0+spB x.blocks∧∃m',FA w0 F0 (marksX rs) (X2++m') u∧Own (((blksP file x.part x.blocks at0 [] false).flatMap blkEv).foldl step s) m'∧size (((blksP file x.part x.blocks at0 [] false).flatMap blkEv).foldl step s)≤size s+21846*x.blocks.length) ?_ ?_;rotate_left
 ·rintro at_ rs u ⟨e,m',hF,ho',hz⟩;exact closes rs hF fun u' hA'=>hKX e hA' ho' hz
 intro k14 hk14;refine loop5 (k1:=Ki) (k2:=.str) (k3:=.bool) (k4:=Ki) (k5:=.marks) (fun (at_:Int) (last:Str) (some_:Bool) (i:Int) (rs:List Nat) u=>∃(j:Nat) (done:List BlkP) (m':BL),i=(j:Int)∧j≤x.blocks.length∧0≤at_∧at_+spB (x.blocks.drop j)=at0+spB x.blocks ∧
   blksP file x.part x.blocks at0 [] false=done++blksP file x.part (x.blocks.drop j) at_ last some_∧FA w0 F0 (marksX rs) (X2++m') u∧Own ((done.flatMap blkEv).foldl step s) m'∧size ((done.flatMap blkEv).foldl step s)≤size s+21846*j∧last.length≤1024)
  (fun _ _ _ i _ _=>(x.blocks.length-i).toNat) (x1:=at0) (x2:=[]) (x3:=false) (x4:=0) (x5:=[]) rfl rfl rfl rfl rfl
  ⟨0,[],m,rfl,Nzl _,ha0,rfl,rfl,hF2,ho,by simp,Nzl _⟩ ?_
 rintro (at_:Int) (last:Str) (some_:Bool) (i:Int) (rs:List Nat) u ⟨j,done,m',rfl,hj,hat,hsp',hpl,hF,ho',hsz',hlast⟩;have hbr:RdS u EBI p.sb x.blocks:=hbl.rd fun q hq=>hF.own (Lml _ (hRX2 q hq));rw [hbr.len];refine Iq (fun q=>?_) fun q=>?_;rotate_left
 ·have q:x.blocks.length≤j:=dge q;rw [Ldn q] at hpl hsp';refine hk14 at_ rs u ⟨by simpa [spB] using hsp',m',hF,?_⟩;have:blksP file x.part [] at_ last some_=[]:=rfl;rw [this,Lan] at hpl;rw [hpl];exact⟨ho',by omega⟩
 have q:j<x.blocks.length:=dlt q;obtain⟨b,hb⟩:=Gq q;have hrb:=odt (chkB_mem hchk b (Lmg hb));rw [Dg hb] at hpl hsp';have hspd:0≤spB (x.blocks.drop (j+1)):=by
  have:∀(l:List BI),(∀y∈l,1≤y.stored)→0≤spB l:=fun l=>by
   induction l with
   | nil=>intro _;exact Int.le_refl _
   | cons y l ih=>intro h;have h1:=h y (Lcs ..);have h2:=ih fun z hz=>h z (Lmc _ hz);rw [spB];omega
  exact this _ fun y hy=>(odt (chkB_mem hchk y (List.mem_of_mem_drop hy))).1
 rw [spB] at hsp';have hto:at_+b.stored+5≤file.length:=by omega
 rw [blksP] at hpl;generalize htile:cutB file at_ (at_+b.stored+5)=tile at hpl;have htl:tile.length=(b.stored+5).toNat:=by
  rw [←htile,cutB_len hat (by omega) hto];congr 1;omega
 have ew:w64 ((w64 (at_+b.stored))+5)=at_+b.stored+5:=by
  have e1:w64 (at_+b.stored)=at_+b.stored:=Wq (by omega) (by omega);rw [e1,Wq (by omega) (by omega)]
 have es:=step64 (i:=j) (by omega);refine join4 (a:=Ki) (b:=.str) (c:=.bool) (d:=.marks) (fun (a':Int) (last':Str) (some':Bool) (rs':List Nat) u'=>a'=at_+b.stored+5∧∃(done':List BlkP) (m'':BL),blksP file x.part x.blocks at0 [] false=done'++blksP file x.part (x.blocks.drop (j+1)) (at_+b.stored+5) last' some' ∧
   FA w0 F0 (marksX rs') (X2++m'') u'∧Own ((done'.flatMap blkEv).foldl step s) m''∧size ((done'.flatMap blkEv).foldl step s)≤size s+21846*(j+1)∧last'.length≤1024) ?_ ?_
 rotate_left
 ·rintro (a':Int) (last':Str) (some':Bool) (rs':List Nat) u' ⟨rfl,done',m'',h1,h2,h3,h4,h5⟩;exact⟨⟨j+1,done',m'',es,by omega,by omega,by omega,h1,h2,h3,h4,h5⟩,by rw [es];omega⟩
 intro k22 hk22;refine hbr.ix rfl rfl hb fun bb oo _ hc=>Lq (k:=Ki) b.stored (hc 0 (by decide)) (Lq (k:=Ki) b.raw (hc 1 (by decide)) (Lq (k:=Ki) b.count (hc 2 (by decide)) (Lq (k:=.str) b.cut (hc 3 (by decide)) ?_)));refine hF.alst (by rfl) fun b29 u1 g1=>?_;have g1:FA w0 F0 (marksX rs) ((X2++m')++[(b29,EBI.f b)]) u1:=g1;have hB29:Blk u1 b29 (EBI.f b):=g1.own (by simp);refine hB29.ldK (k:=Ki) b.stored rfl ?_;rw [ew];refine g1.alst (by rfl) fun b33 u2 g2=>?_;have g2:FA w0 F0 (marksX rs) (((X2++m')++[(b29,EBI.f b)])++[(b33,[.int .i64 at_,.int .i64 (at_+b.stored+5)])]) u2:=g2;have g2:FA w0 F0 (marksX rs) (((X2++[(b29,EBI.f b)])++[(b33,[.int .i64 at_,.int .i64 (at_+b.stored+5)])])++m') u2:=g2.perm (by
  have h1:=perm_mid X2 ([(b29,EBI.f b)]++[(b33,[Value.int .i64 at_,Value.int .i64 (at_+b.stored+5)])]) m';simp only [Laa] at h1 ⊢;exact h1.symm)
 have m29:(b29,EBI.f b)∈(X2++[(b29,EBI.f b)])++[(b33,[.int .i64 at_,.int .i64 (at_+b.stored+5)])]:=by simp
 have m33:(b33,[.int .i64 at_,.int .i64 (at_+b.stored+5)])∈(X2++[(b29,EBI.f b)])++[(b33,[.int .i64 at_,.int .i64 (at_+b.stored+5)])]:=by simp
 have hX3s:X2.Sublist ((X2++[(b29,EBI.f b)])++[(b33,[.int .i64 at_,.int .i64 (at_+b.stored+5)])]):=(Lsl _ _).trans (Lsl _ _);generalize (X2++[(b29,EBI.f b)])++[(b33,[Value.int .i64 at_,.int .i64 (at_+b.stored+5)])]=X3 at g2 m29 m33 hX3s;have own3:∀{Z:List (Nat×Obj)} {L:BL} {u':World},FA w0 F0 Z L u'→(∀q∈X3,q∈L)→Blk u' b29 (EBI.f b)∧Blk u' b33 [.int .i64 at_,.int .i64 (at_+b.stored+5)]∧Blk u' b11 [v]∧Blk u' b9 (EPI.f p):=fun {Z L u'} h hm=>
  ⟨h.own (hm _ m29),h.own (hm _ m33),h.own (hm _ (hX3s.subset m11)),h.own (hm _ (hX3s.subset m9))⟩
 obtain⟨o1,o2,o3,o4⟩:=own3 g2 fun q hq=>Lml _ hq;refine o2.ldK (k:=Ki) (at_+b.stored+5) rfl (o2.ldK (k:=Ki) at_ rfl (o2.ldK (k:=Ki) (at_+b.stored+5) rfl ?_));refine (hf.quiet g2.at_.mod).partK (n:=at_.toNat) (m:=(at_+b.stored+5).toNat) (by omega) (by omega) rfl (by omega) (by omega) fun s39 h39 _=>?_;have h39:RdS u2 ET s39 tile:=by rw [←htile];exact h39
 have hi5:w64 ((s39.len:Int)-5)=((tile.length-5:Nat):Int):=by
  rw [h39.len,Wq (by omega) (by omega)];omega
 rw [hi5];refine h39.byte rfl (by omega) fun b40 o41 _ hc40=>Lq (k:=.int .u8) ((tile[tile.length-5]'(by omega)).toNat:Int) hc40 ?_;rw [flag_eq (by omega)];refine o1.ldK (k:=Ki) b.stored rfl (o1.ldK (k:=Ki) b.raw rfl (o1.ldK (k:=Ki) b.count rfl (o1.ldK (k:=.str) b.cut rfl ?_)));refine opened_ok h39 (by omega) (fun hn p47 u3 M3=>?_) fun e he u3 b47 sE r47 ro hFr hv47 he1 he2 he3=>?_
 ·rw [hn] at hpl;dsimp only at hpl;have g3:=g2.calm M3;obtain⟨o1,o2,o3,o4⟩:=own3 g3 fun q hq=>Lml _ hq;refine ifK_t rfl (o3.ldK (k:=.val) v rfl (o2.ldK (k:=Ki) at_ rfl (o2.ldK (k:=Ki) (at_+b.stored+5) rfl (o1.ldK (k:=Ki) b.stored rfl (o1.ldK (k:=Ki) b.raw rfl (o1.ldK (k:=Ki) b.count rfl (o1.ldK (k:=.str) b.cut rfl ?_)))))));refine hM.block (x:=⟨at_,at_+b.stored+5,b,x.part,flagP tile,1,[]⟩) (g3.rest) ho' (by omega) fun u4 m4 hA4 ho4=>?_;have g4:=g3.law hA4;refine hk22 _ _ _ _ _ ⟨rfl,done++[⟨at_,at_+b.stored+5,b,x.part,flagP tile,1,[]⟩],m4,by rw [hpl,Laa];rfl,g4.sub (List.Sublist.append hX3s (List.Sublist.refl _)),?_,?_,hlast⟩
  ·rw [List.flatMap_append,List.foldl_append];exact ho4
  ·rw [List.flatMap_append,List.foldl_append];have h1:=hM.grows ((done.flatMap blkEv).foldl step s) (.block ⟨at_,at_+b.stored+5,b,x.part,flagP tile,1,[]⟩);have e1:List.foldl step (List.foldl step s (done.flatMap blkEv)) ([(⟨at_,at_+b.stored+5,b,x.part,flagP tile,1,[]⟩:BlkP)].flatMap blkEv)=step ((done.flatMap blkEv).foldl step s) (.block ⟨at_,at_+b.stored+5,b,x.part,flagP tile,1,[]⟩):=rfl;rw [e1];omega
 rw [he] at hpl;dsimp only at hpl;have g3:FA w0 F0 (marksX rs) ((X3++([(b47,rdC r47 sE)]++ro))++m') u3:=(g2.fresh hFr).perm (perm_mid X3 ([(b47,rdC r47 sE)]++ro) m').symm;have m47:(b47,rdC r47 sE)∈X3++([(b47,rdC r47 sE)]++ro):=by simp
 have hro:∀q∈ro,q∈X3++([(b47,rdC r47 sE)]++ro):=fun q hq=>Lmr _ (Lmr _ hq);have hX4s:X3.Sublist (X3++([(b47,rdC r47 sE)]++ro)):=Lsl _ _;generalize X3++([(b47,rdC r47 sE)]++ro)=X4 at g3 m47 hro hX4s;have own4:∀{Z:List (Nat×Obj)} {L:BL} {u':World},FA w0 F0 Z L u'→(∀q∈X4,q∈L)→BlkR u' b47 sE r47 e:=fun {Z L u'} h hm=>
  ⟨h.own (hm _ m47),hv47.rd fun q hq=>h.at_.own q (hm q (hro q hq))⟩
 refine ifK_f rfl (blockAt_ok (own4 g3 fun q hq=>Lml _ hq) fun u4 M4=>?_);have ha:atN e 0=((e.getD 0 ([],[])).1,(e.getD 0 ([],[])).2,0):=by
  unfold atN;rw [if_neg (by omega)];rfl
 rw [ha];dsimp only;have g4:=g3.calm M4;have hk0:(e.getD 0 ([],[])).1.length≤1024:=(he3 _ (getD_memD he1)).1;refine join1 (a:=.bool) (fun q u=>q=decide (some_=true∧cmpN (e.getD 0 ([],[])).1 last<0)∧Mod F0 u4 u) ?_ ?_
 ·intro k hk;refine Iq (fun q=>?_) fun q=>?_
  ·refine compare_ok (by omega) (by omega) fun u5 M5=>hk _ _ ⟨?_,M5⟩;have q:some_=true:=q;simp [q]
  ·have q:some_=false:=q;exact hk _ _ ⟨by simp [q],Mod.refl _ _⟩
 rintro q5 u5 ⟨rfl,M5⟩;have g5:=g4.calm M5;refine join1 (a:=Ki) (fun (q:Int) u=>q=(if some_=true∧cmpN (e.getD 0 ([],[])).1 last<0 then 2 else 0)∧u=u5) ?_ ?_
 ·intro k hk;refine Iq (fun q=>hk _ _ ⟨?_,rfl⟩) fun q=>hk _ _ ⟨?_,rfl⟩
  ·rw [if_pos (odt q)]
  ·rw [if_neg (odf q)]
 rintro (how:Int) u6 ⟨hhow,rfl⟩;rw [←hhow] at hpl;refine blockLen_ok (own4 g5 fun q hq=>Lml _ hq) (blockAt_ok (own4 g5 fun q hq=>Lml _ hq) fun u7 M7=>?_);have ha2:atN e (w64 ((e.length:Int)-1))=((e.getD (e.length-1) ([],[])).1,(e.getD (e.length-1) ([],[])).2,0):=by
  have:w64 ((e.length:Int)-1)=((e.length-1:Nat):Int):=by rw [Wq (by omega) (by omega)];omega
  rw [this];unfold atN;rw [if_neg (by omega)];rfl
 rw [ha2];dsimp only;have g7:=g5.calm M7;obtain⟨o1,o2,o3,o4⟩:=own3 g7 fun q hq=>Lml _ (hX4s.subset hq);refine o3.ldK (k:=.val) v rfl (o2.ldK (k:=Ki) at_ rfl (o2.ldK (k:=Ki) (at_+b.stored+5) rfl (o1.ldK (k:=Ki) b.stored rfl (o1.ldK (k:=Ki) b.raw rfl (o1.ldK (k:=Ki) b.count rfl (o1.ldK (k:=.str) b.cut rfl ?_))))));refine hM.block (x:=⟨at_,at_+b.stored+5,b,x.part,flagP tile,how,e⟩) g7.rest ho' (by omega) fun u8 m8 hA8 ho8=>?_;have g8:=g7.law hA8;have hsz8:=hM.grows ((done.flatMap blkEv).foldl step s) (.block ⟨at_,at_+b.stored+5,b,x.part,flagP tile,how,e⟩);generalize hs8:step ((done.flatMap blkEv).foldl step s) (.block ⟨at_,at_+b.stored+5,b,x.part,flagP tile,how,e⟩)=s8 at ho8 hsz8;refine go_5 _ _ _ ?_;refine g8.alK fun b2 u9 g9=>?_;have g9:FA w0 F0 (marksX rs) ((X4++[(b2,[(LV.ptr (some (b47,0))).toV])])++m8) u9:=g9.perm (perm_mid X4 [(b2,[(LV.ptr (some (b47,0))).toV])] m8).symm;have mb2:(b2,[(LV.ptr (some (b47,0))).toV])∈X4++[(b2,[(LV.ptr (some (b47,0))).toV])]:=by simp
 have hX5s:X4.Sublist (X4++[(b2,[(LV.ptr (some (b47,0))).toV])]):=Lsl _ _;generalize X4++[(b2,[(LV.ptr (some (b47,0))).toV])]=X5 at g9 mb2 hX5s;refine range_ents (R:=X5) (r:=r47) (es:=e) ⟨ro,hv47,fun q hq=>hX5s.subset (hro q hq)⟩ (hX5s.subset m47) mb2 (by omega)
  (G:=fun c L=>∃m'',L=X5++m''∧Own (((e.take c).map fun y=>Ev.record x.part y.1 y.2).foldl step s8) m''∧size (((e.take c).map fun y=>Ev.record x.part y.1 y.2).foldl step s8)≤size s8+c)
  (fun c L ⟨m'',hL,_⟩ q hq=>by rw [hL];exact Lml _ hq) g9 ⟨m8,rfl,ho8,Nlr _⟩ ?_ ?_
 ·rintro l Xr Xb L y c w' beg next leave hFA ⟨m'',rfl,ho2,hsz2⟩ hy hbeg hnext;have hcl:=(Les.1 hy).1;refine hbeg _ fun u gu=>?_;obtain⟨o1,o2,o3,o4⟩:=own3 gu fun q hq=>Lml _ (hX5s.subset (hX4s.subset hq));refine o3.ldK (k:=.val) v rfl (o4.ldK (k:=Ki) p.part rfl ?_);rw [hpp];have et:e.take (c+1)=e.take c++[y]:=by rw [List.take_add_one,hy];rfl
  refine hM.record gu.rest ho2 (by omega) fun u' m3 hA3 ho3=>hnext _ _ (gu.law hA3) ⟨m3,rfl,?_,?_⟩
  ·rw [et,List.map_append,List.foldl_append];exact ho3
  ·rw [et,List.map_append,List.foldl_append];have h1:=hM.grows (((e.take c).map fun y=>Ev.record x.part y.1 y.2).foldl step s8) (.record x.part y.1 y.2);have e1:List.foldl step (((e.take c).map fun y=>Ev.record x.part y.1 y.2).foldl step s8) ([y].map fun y=>Ev.record x.part y.1 y.2)=step (((e.take c).map fun y=>Ev.record x.part y.1 y.2).foldl step s8) (.record x.part y.1 y.2):=rfl;rw [e1];omega
 ·rintro L u gu ⟨m'',rfl,ho2,hsz2⟩;rw [List.take_length] at ho2 hsz2;have ev:((done++[(⟨at_,at_+b.stored+5,b,x.part,flagP tile,how,e⟩:BlkP)]).flatMap blkEv).foldl step s=(e.map fun y=>Ev.record x.part y.1 y.2).foldl step s8:=by
   rw [List.flatMap_append,List.foldl_append,←hs8];have:[(⟨at_,at_+b.stored+5,b,x.part,flagP tile,how,e⟩:BlkP)].flatMap blkEv=Ev.block ⟨at_,at_+b.stored+5,b,x.part,flagP tile,how,e⟩::e.map fun y=>Ev.record x.part y.1 y.2:=Lan _;rw [this];rfl
  refine hk22 _ _ _ _ _ ⟨rfl,done++[⟨at_,at_+b.stored+5,b,x.part,flagP tile,how,e⟩],m'',by rw [hpl,Laa];rfl,?_,?_,?_,(he3 _ (getD_memD (by omega))).1⟩
  ·exact FA.sub (X:=marksX (u9.heap.size::rs)) gu (List.Sublist.append (hX3s.trans (hX4s.trans hX5s)) (List.Sublist.refl _))
  ·rw [ev];exact ho2
  ·rw [ev];omega
end
theorem trailN_0{b:Str}{size:Int}(h:(trailN b size).2.2=0):trailOk (trailN b size).1 (trailN b size).2.1=true∧(trailN b size).1+(trailN b size).2.1+24=size:=by
 unfold trailN at h ⊢;split at h
 ·cases h
 rename_i h1;rw [if_neg h1];split at h
 ·cases h
 rename_i h2;rw [if_neg h2];split at h
 ·cases h
 rename_i h3;rw [if_neg h3];split at h
 ·cases h
 rename_i h4;rw [if_neg h4];split at h
 ·cases h
 rename_i h5;rw [if_neg h5];exact⟨by simpa using h4,Decidable.not_not.1 h5⟩
theorem chkI_mem{P:Int}:∀{l:List PartI} {last:Int} {n:Nat},chkI P l last n=true→∀x∈l,chkB x.blocks []=true
 | x::l,last,n,h,y,hy=>by
  rw [chkI,Bat,Bat] at h;rcases List.mem_cons.1 hy with rfl | hy
  ·exact h.1.2
  ·exact chkI_mem h.2 y hy
theorem spB_6:∀{l:List BI},(∀y∈l,rightD y=true)→(6*(l.length:Int))≤spB l
 | [],_=>by simp [spB]
 | y::l,h=>by
  have h1:=(odt (h y (Lcs ..))).1;have h2:=spB_6 fun z hz=>h z (Lmc _ hz);rw [spB,Llc];omega
theorem spI_nn:∀{l:List PartI},(∀x∈l,chkB x.blocks []=true)→0≤spI l
 | [],_=>Int.le_refl _
 | y::l,h=>by
  have h1:=spB_6 (chkB_mem (h y (Lcs ..)));have h2:=spI_nn fun z hz=>h z (Lmc _ hz);rw [spI];omega
theorem pagesP_s(file:Str)(end_:Int)(k:Nat)(at_:Int):pagesP file end_ (k+1) at_=if at_<end_ then⟨at_,mnI (at_+4100) end_,decide ((openB (cutB file at_ (mnI (at_+4100) end_))).1=0)⟩::pagesP file end_ k (mnI (at_+4100) end_) else []:=rfl
theorem FA.of_at{w0 w:World}{D:Nat→Prop}{m:BL}(h:At w0 D m w):FA w0 D [] m w:=⟨h,by simp,by simp,by simp⟩
theorem beq_dec(n:Int):(n==0)=decide (n=0):=rfl
theorem decRun_tb:∀(n:Nat) (p:Str) (d:Dec),(decRun n p d).2.tb=d.tb
 | 0,_,_=>rfl
 | n+1,p,d=>by
  have hp:∀q,(pageN d q).1.tb=d.tb:=fun q=>by
   unfold pageN;split
   ·rfl
   split<;>rfl
  rw [decRun_s];split
  ·rfl
  split
  ·exact hp _
  ·rw [decRun_tb n,hp]
theorem decN_ok{p:Str}{tb tp:Int}(h:(decN p tb tp).1=0):footOk (decN p tb tp).2=true∧spI (readF (decN p tb tp).2.body).2.1=tb:=by
 have h0:footOk (decN p tb tp).2=true∧(decN p tb tp).2.tb=tb:=by
  unfold decN at h ⊢;split at h
  ·cases h
  rename_i h1;rw [if_neg h1];split at h
  ·cases h
  rename_i h2;rw [if_neg h2];split at h
  ·rename_i h3;exact absurd h h3
  rename_i h3;rw [if_neg h3];split at h
  ·cases h
  rename_i h4;rw [if_neg h4];exact⟨by simpa using h4,by rw [decRun_tb];rfl⟩
 refine⟨h0.1,?_⟩;have h1:=h0.1;unfold footOk at h1;rw [Bat,Bat,Bat] at h1;rw [odt h1.2.2.2,h0.2]
section
variable {σ:Type}{v:Value}{step:σ→Ev→σ}{size:σ→Nat}{Own:σ→BL→Prop}{w0 w:World}{sf:Sl}{file:Str}
set_option maxHeartbeats 4000000 in
theorem infos_in(hM:Mkr v step size Own)(hf:RdS w0 ET sf file)(hfl:file.length≤1048576){X m R:BL}{s:σ}(hF:FA w0 F0 [] (X++m) w)(ho:Own s m){sl:Sl}{ps:List PI}{l:List PartI}(hFL:FootL R sl ps l)(hRX:∀q∈R,q∈X)
  (hchk:∀x∈l,chkB x.blocks []=true) (hsp:spI l≤file.length) (hsz:size s≤1099511627776-549755813888) {e79:TypeId} {K:Wp}
  (hK:∀w' m',At w0 F0 (X++m') w'→Own (((infosP file l 0).flatMap infoEv).foldl step s) m'→K w') :
  joinK [] (fun k66=>
    loopL [Ki,Ki] (fun at_68 t10769 W70 g67=>
     ifK (decide (t10769<(sl.len:Int)))
     (ix sl 5 t10769 fun b71 o72=>
      ld W70 Ki b71 o72 fun n73=>
      ld W70 .sl b71 (o72+1) fun a74=>
      ld W70 .bool b71 (o72+2) fun c75=>
      ld W70 Ki b71 (o72+3) fun n76=>
      ld W70 .sl b71 (o72+4) fun a77=>
      al W70 e79 [.int .i64 0,.sl (⟨none,0,0⟩),.lit false,.int .i64 0,.sl (⟨none,0,0⟩)] fun b78 W79=>
      st W79 b78 0 [.int .i64 n73,.sl a74,.bool c75,.int .i64 n76,.sl a77] fun W80=>
      ld W80 Ki b78 0 fun n81=>
      ld W80 .sl b78 1 fun a82=>
      ld W80 .bool b78 2 fun c83=>
      ld W80 Ki b78 3 fun n84=>
      ld W80 .sl b78 4 fun a85=>
      callI Tryz.prog v "winnow/inspect.part" [.agg [.int .i64 n81,.sl a82,.bool c83,.int .i64 n84,.sl a85]] W80 (.tup []) fun W86=>
      ld W86 Ki b78 0 fun n87=>
      ld W86 .sl b78 1 fun a88=>
      ld W86 .bool b78 2 fun c89=>
      ld W86 Ki b78 3 fun n90=>
      ld W86 .sl b78 4 fun a91=>
      callK Tryz.prog c_4 [Az sf,Ai at_68,.agg [.int .i64 n87,.sl a88,.bool c89,.int .i64 n90,.sl a91],.leaf (.val v)] W86 Oi fun n92 W93=>
      g67 n92 (w64 (t10769+1)) W93)
     (k66 W70)) [.int .i64 0,.int .i64 0] w) fun W94=>
   K W94:=by
 refine join0 (fun u=>∃m',FA w0 F0 [] (X++m') u∧Own (((infosP file l 0).flatMap infoEv).foldl step s) m') ?_ (by rintro u ⟨m',h1,h2⟩;exact hK u m' h1.at_ h2);intro k hk;refine loop2 (k1:=Ki) (k2:=Ki) (fun (at_:Int) (t:Int) u=>∃(i:Nat) (done:List (PartI×List BlkP)) (m':BL),t=(i:Int)∧i≤l.length∧0≤at_∧at_+spI (l.drop i)=spI l∧infosP file l 0=done++infosP file (l.drop i) at_∧FA w0 F0 [] (X++m') u∧Own ((done.flatMap infoEv).foldl step s) m' ∧
   size ((done.flatMap infoEv).foldl step s)≤size s+i+21846*at_.toNat) (fun _ t _=>(l.length-t).toNat) (x1:=0) (x2:=0) rfl rfl
  ⟨0,[],m,rfl,Nzl _,Int.le_refl _,by simp,rfl,hF,ho,by simp⟩ ?_
 rintro (at_:Int) (t:Int) u ⟨i,done,m',rfl,hi,hat,hsp',hpl,g,ho',hs'⟩;have hrow:RdS u EPI sl ps:=hFL.row.rd fun q hq=>g.own (Lml _ (hRX q hq));have hll:=hFL.ll;rw [hrow.len,hFL.len];refine Iq (fun q=>?_) fun q=>?_;rotate_left
 ·have q:l.length≤i:=dge q;rw [Ldn q] at hpl;have:infosP file [] at_=[]:=rfl;rw [this,Lan] at hpl;exact hk u ⟨m',g,by rw [hpl];exact ho'⟩
 have q:i<l.length:=dlt q;obtain⟨x,hx⟩:=Gq q;obtain⟨p,hp⟩:=Gq (l:=ps) (i:=i) (by rw [hFL.len];exact q);have hI:=hFL.each i p x hp hx;have hcx:=hchk x (Lmg hx);have h6:=spB_6 (chkB_mem hcx);rw [Dg hx] at hpl hsp';rw [spI] at hsp';have hnn:=spI_nn (l:=l.drop (i+1)) fun y hy=>hchk y (List.mem_of_mem_drop hy);have hpl:infosP file l 0=done++(x,blksP file x.part x.blocks at_ [] false)::infosP file (l.drop (i+1)) (at_+spB x.blocks):=hpl;refine hrow.ix rfl rfl hp fun b71 o72 _ hc=>Lq (k:=Ki) p.part (hc 0 (by decide)) (Lq (k:=.sl) p.sb (hc 1 (by decide)) (Lq (k:=.bool) p.all (hc 2 (by decide)) (Lq (k:=Ki) p.hashes (hc 3 (by decide)) (Lq (k:=.sl) p.sd (hc 4 (by decide)) ?_))));refine g.alst (by rfl) fun b78 u1 g1=>?_;have g1:FA w0 F0 [] ((X++m')++[(b78,EPI.f p)]) u1:=g1;have g1:FA w0 F0 [] ((X++[(b78,EPI.f p)])++m') u1:=g1.perm (perm_mid X [(b78,EPI.f p)] m').symm;have hXs:X.Sublist (X++[(b78,EPI.f p)]):=Lsl _ _;have m78:(b78,EPI.f p)∈X++[(b78,EPI.f p)]:=by simp
 generalize X++[(b78,EPI.f p)]=X2 at g1 hXs m78;have hB:=g1.own (Lml _ m78);refine hB.ldK (k:=Ki) p.part rfl (hB.ldK (k:=.sl) p.sb rfl (hB.ldK (k:=.bool) p.all rfl (hB.ldK (k:=Ki) p.hashes rfl (hB.ldK (k:=.sl) p.sd rfl ?_))));have own2:∀q∈R,Blk u1 q.1 q.2:=fun q hq=>g1.own (Lml _ (hXs.subset (hRX q hq)));refine hM.part (p:=p) (x:=x) g1.rest ho' (by omega) hI.part (hI.bl.rd own2).len hI.all hI.hs (hI.dt.rd own2).len fun u2 m2 hA2 ho2=>?_;have g2:=g1.law hA2;have hB:=g2.own (Lml _ m78);refine hB.ldK (k:=Ki) p.part rfl (hB.ldK (k:=.sl) p.sb rfl (hB.ldK (k:=.bool) p.all rfl (hB.ldK (k:=Ki) p.hashes rfl (hB.ldK (k:=.sl) p.sd rfl ?_))));have hg:=hM.grows ((done.flatMap infoEv).foldl step s) (.part x);have es:=step64 (i:=i) (by omega);refine blocks_in hM hf hfl g2.at_ ho2 hI.part hI.bl (fun q hq=>hXs.subset (hRX q hq)) hI.lb hat hcx (by omega) (by omega) fun u3 m3 hA3 ho3 hz3=>?_;have ev:((done++[(x,blksP file x.part x.blocks at_ [] false)]).flatMap infoEv).foldl step s=((blksP file x.part x.blocks at_ [] false).flatMap blkEv).foldl step (step ((done.flatMap infoEv).foldl step s) (.part x)):=by
  rw [List.flatMap_append,List.foldl_append];have:[(x,blksP file x.part x.blocks at_ [] false)].flatMap infoEv=Ev.part x::(blksP file x.part x.blocks at_ [] false).flatMap blkEv:=Lan _;rw [this];rfl
 refine⟨⟨i+1,done++[(x,blksP file x.part x.blocks at_ [] false)],m3,es,by omega,by omega,by omega,by rw [hpl,Laa];rfl,FA.of_at (hA3.sub (hXs.append (List.Sublist.refl _))),by rw [ev];exact ho3,?_⟩,by rw [es];omega⟩;rw [ev];omega
set_option maxHeartbeats 4000000 in
theorem walkIn_ok(hM:Mkr v step size Own)(hf:RdS w0 ET sf file)(hfl:file.length≤1048576){X m:BL}{s:σ}(hA:At w0 F0 (X++m) w)(ho:Own s m)(hsz:size s≤1048576){K:Wp}
  (hK:∀w' m',At w0 F0 (X++m') w'→Own ((walkP file).foldl step s) m'→K w') :
  callK Tryz.prog c_6 [Az sf,.leaf (.val v)] w (.tup []) K:=by
 refine go_6 _ _ _ _ ?_;have g0:FA w0 F0 [] (X++m) w:=.of_at hA;rw [hf.len];have e24:mxI (w64 ((file.length:Int)-24)) 0=lastP file:=by rw [Wq (by omega) (by omega)];rfl
 rw [e24];have hl0:0≤lastP file∧lastP file≤file.length:=by unfold lastP mxI;split<;>omega
 refine g0.alst (by rfl) fun b3 w1 g1=>?_;have g1:FA w0 F0 [] ((X++m)++[(b3,[.int .i64 (lastP file),.int .i64 file.length])]) w1:=g1;have hB3:Blk w1 b3 [.int .i64 (lastP file),.int .i64 file.length]:=g1.own (by simp);refine hB3.ldK (k:=Ki) (lastP file) rfl ((hf.quiet g1.at_.mod).fromK (n:=(lastP file).toNat) (by omega) rfl (by omega) fun s7 h7 _=>?_);refine trailer_ok h7 (by rw [Lld];omega) fun w2 M2=>?_;have eT:trailN (file.drop (lastP file).toNat) (file.length:Int)=trailP file:=rfl;rw [eT];have g2:=g1.calm M2;refine g2.alst (by rfl) fun b12 w3 g3=>?_;have g3:FA w0 F0 [] (((X++m)++[(b3,[.int .i64 (lastP file),.int .i64 file.length])])++[(b12,[.int .i64 (trailP file).1,.int .i64 (trailP file).2.1])]) w3:=g3;have g3:FA w0 F0 [] (((X++[(b3,[.int .i64 (lastP file),.int .i64 file.length])])++[(b12,[.int .i64 (trailP file).1,.int .i64 (trailP file).2.1])])++m) w3:=g3.perm (by
  have h1:=perm_mid X ([(b3,[Value.int .i64 (lastP file),Value.int .i64 file.length])]++[(b12,[Value.int .i64 (trailP file).1,Value.int .i64 (trailP file).2.1])]) m;simp only [Laa] at h1 ⊢;exact h1.symm)
 have m3:(b3,[.int .i64 (lastP file),.int .i64 file.length])∈(X++[(b3,[.int .i64 (lastP file),.int .i64 file.length])])++[(b12,[.int .i64 (trailP file).1,.int .i64 (trailP file).2.1])]:=by simp
 have m12:(b12,[.int .i64 (trailP file).1,.int .i64 (trailP file).2.1])∈(X++[(b3,[.int .i64 (lastP file),.int .i64 file.length])])++[(b12,[.int .i64 (trailP file).1,.int .i64 (trailP file).2.1])]:=by simp
 have hX3:X.Sublist ((X++[(b3,[.int .i64 (lastP file),.int .i64 file.length])])++[(b12,[.int .i64 (trailP file).1,.int .i64 (trailP file).2.1])]):=(Lsl _ _).trans (Lsl _ _);generalize (X++[(b3,[Value.int .i64 (lastP file),Value.int .i64 file.length])])++[(b12,[Value.int .i64 (trailP file).1,Value.int .i64 (trailP file).2.1])]=X3 at g3 m3 m12 hX3;have hB3:=g3.own (Lml _ m3);have hB12:=g3.own (Lml _ m12);refine hB3.ldK (k:=Ki) (lastP file) rfl (hB3.ldK (k:=Ki) (file.length:Int) rfl (hB12.ldK (k:=Ki) (trailP file).1 rfl (hB12.ldK (k:=Ki) (trailP file).2.1 rfl ?_)));rw [beq_dec];refine hM.trailer g3.rest ho (by omega) fun w4 m4 hA4 ho4=>?_;have g4:=g3.law hA4;have hz4:=hM.grows s (.trailer (lastP file) file.length (trailP file).1 (trailP file).2.1 (decide ((trailP file).2.2=0)));refine Iq (fun q=>?_) fun q=>?_
 ·have q:(trailP file).2.2≠0:=by simpa using q
  refine hK _ m4 (g4.at_.sub (hX3.append (List.Sublist.refl _))) ?_;have:walkP file=[Ev.trailer (lastP file) file.length (trailP file).1 (trailP file).2.1 (decide ((trailP file).2.2=0))]:=by unfold walkP;rw [if_pos q]
  rw [this];exact ho4
 have q:¬(trailP file).2.2≠0:=by simpa using q
 have q0:(trailP file).2.2=0:=Decidable.not_not.1 q;have hwalk:walkP file=Ev.trailer (lastP file) file.length (trailP file).1 (trailP file).2.1 (decide ((trailP file).2.2=0))::((pgsP file).map Ev.page++Ev.footer (trailP file).1 (endP file) (if rightF file=true then partsP file else 0) (if rightF file=true then listP file else []) (rightF file) ::
  if rightF file=false then [] else (infosP file (listP file) 0).flatMap infoEv):=by unfold walkP;rw [if_neg q]
 have ht:trailOk (trailP file).1 (trailP file).2.1=true∧(trailP file).1+(trailP file).2.1+24=file.length:=trailN_0 q0;have ht1:=odt ht.1;have hE:endP file=(trailP file).1+(trailP file).2.1:=rfl;have ew:w64 ((trailP file).1+(trailP file).2.1)=endP file:=Wq (by omega) (by omega);have hB12:=g4.own (Lml _ m12);refine hB12.ldK (k:=Ki) (trailP file).1 rfl (hB12.ldK (k:=Ki) (trailP file).2.1 rfl (hB12.ldK (k:=Ki) (trailP file).1 rfl ?_));rw [ew];generalize hs1:step s (.trailer (lastP file) file.length (trailP file).1 (trailP file).2.1 (decide ((trailP file).2.2=0)))=s1 at ho4 hz4;refine join1 (a:=.bool) (fun (q:Bool) u=>q=rightP0 file∧∃m',FA w0 F0 [] (X3++m') u∧Own (((pgsP file).map Ev.page).foldl step s1) m'∧size (((pgsP file).map Ev.page).foldl step s1)≤size s1+5000) ?_ ?_
 ·intro k hk;refine loop2 (k1:=.bool) (k2:=Ki) (fun (right:Bool) (at_:Int) u=>∃(n:Nat) (done:List PgP) (m':BL),pgsP file=done++pagesP file (endP file) n at_∧(trailP file).1≤at_∧at_≤endP file∧endP file-at_≤4100*n∧done.length+n≤5000∧right=(done.all fun p=>p.ok)∧FA w0 F0 [] (X3++m') u∧Own ((done.map Ev.page).foldl step s1) m'∧size ((done.map Ev.page).foldl step s1)≤size s1+done.length)
   (fun _ at_ _=>(endP file-at_).toNat) (x1:=true) (x2:=(trailP file).1) rfl rfl
   ⟨5000,[],m4,(List.nil_append _).symm,Int.le_refl _,by omega,by omega,by simp,rfl,g4,ho4,by simp⟩ ?_
  rintro (right:Bool) (at_:Int) u ⟨n,done,m',hpg,ha0,ha1,hn,hdn,rfl,g,ho',hs'⟩;refine Iq (fun q=>?_) fun q=>?_;rotate_left
  ·have q:¬at_<endP file:=odf q;have e:pagesP file (endP file) n at_=[]:=by
    cases n with
    | zero=>rfl
    | succ n=>rw [pagesP_s,if_neg q]
   rw [e,Lan] at hpg;exact hk _ _ ⟨by unfold rightP0;rw [hpg],m',g,by rw [hpg];exact ho',by rw [hpg];omega⟩
  have q:at_<endP file:=odt q;obtain⟨n',rfl⟩:∃n',n=n'+1:=⟨n-1,by omega⟩;have em:mnI (w64 (w64 (at_+4096)+4)) (endP file)=mnI (at_+4100) (endP file):=by
   have e1:w64 (at_+4096)=at_+4096:=Wq (by omega) (by omega);rw [e1,Wq (by omega) (by omega)];congr 1;omega
  rw [em];have hmn:at_<mnI (at_+4100) (endP file)∧mnI (at_+4100) (endP file)≤endP file∧(mnI (at_+4100) (endP file)=at_+4100∨mnI (at_+4100) (endP file)=endP file):=by unfold mnI;split<;>omega
  rw [pagesP_s,if_pos q] at hpg;generalize mnI (at_+4100) (endP file)=to at hpg hmn ⊢;refine g.alst (by rfl) fun b28 u1 g1=>?_;have g1:FA w0 F0 [] ((X3++m')++[(b28,[.int .i64 at_,.int .i64 to])]) u1:=g1;have g1:FA w0 F0 [] ((X3++[(b28,[.int .i64 at_,.int .i64 to])])++m') u1:=g1.perm (perm_mid X3 [(b28,[Value.int .i64 at_,Value.int .i64 to])] m').symm;have hXs:X3.Sublist (X3++[(b28,[.int .i64 at_,.int .i64 to])]):=Lsl _ _;have m28:(b28,[.int .i64 at_,.int .i64 to])∈X3++[(b28,[.int .i64 at_,.int .i64 to])]:=by simp
  generalize X3++[(b28,[Value.int .i64 at_,Value.int .i64 to])]=X4 at g1 hXs m28;have hB:=g1.own (Lml _ m28);refine hB.ldK (k:=Ki) at_ rfl (hB.ldK (k:=Ki) to rfl ((hf.quiet g1.at_.mod).partK (n:=at_.toNat) (m:=to.toNat) (by omega) (by omega) rfl (by omega) (by omega) fun s33 h33 _=>?_));have h33:RdS u1 ET s33 (cutB file at_ to):=h33;refine open_ok h33 (by rw [cutB_len (by omega) (by omega) (by omega)];omega) fun u2 ro s' hA2 _=>?_;have g2:=g1.calm hA2.mod;have hB:=g2.own (Lml _ m28);refine hB.ldK (k:=Ki) at_ rfl (hB.ldK (k:=Ki) to rfl ?_);rw [beq_dec];have hg:=hM.grows ((done.map Ev.page).foldl step s1) (.page ⟨at_,to,decide ((openB (cutB file at_ to)).1=0)⟩);refine hM.page (p:=⟨at_,to,decide ((openB (cutB file at_ to)).1=0)⟩) g2.rest ho' (by omega) fun u3 m5 hA3 ho3=>?_;have g3:=g2.law hA3;have ev:((done++[(⟨at_,to,decide ((openB (cutB file at_ to)).1=0)⟩:PgP)]).map Ev.page).foldl step s1=step ((done.map Ev.page).foldl step s1) (.page ⟨at_,to,decide ((openB (cutB file at_ to)).1=0)⟩):=by
   rw [List.map_append,List.foldl_append];rfl
  refine join1 (a:=.bool) (fun (q:Bool) u=>q=((done++[(⟨at_,to,decide ((openB (cutB file at_ to)).1=0)⟩:PgP)]).all fun p=>p.ok)∧u=u3) ?_ ?_
  ·intro k hk;have ea:((done++[(⟨at_,to,decide ((openB (cutB file at_ to)).1=0)⟩:PgP)]).all fun p=>p.ok)=((done.all fun p=>p.ok)&&decide ((openB (cutB file at_ to)).1=0)):=by
    rw [List.all_append,List.all_cons,List.all_nil,Bool.and_true]
   refine Iq (fun q=>hk _ _ ⟨?_,rfl⟩) fun q=>hk _ _ ⟨?_,rfl⟩
   ·have q:(done.all fun p=>p.ok)=true:=q;rw [ea,q,Bool.true_and]
   ·have q:(done.all fun p=>p.ok)=false:=q;rw [ea,q,Bool.false_and]
  rintro q5 u5 ⟨rfl,rfl⟩;have hB:=g3.own (Lml _ m28);refine hB.ldK (k:=Ki) to rfl ⟨⟨n',done++[⟨at_,to,decide ((openB (cutB file at_ to)).1=0)⟩],m5,by rw [hpg,Laa];rfl,by omega,by omega,by omega,by rw [Lla,List.length_singleton];omega,rfl,g3.sub (hXs.append (List.Sublist.refl _)),by rw [ev];exact ho3,?_⟩,by omega⟩;rw [ev,Lla,List.length_singleton];omega
 rintro right u5 ⟨rfl,m5,g5,ho5,hz5⟩;generalize hs2:((pgsP file).map Ev.page).foldl step s1=s2 at ho5 hz5;refine g5.alK fun b46 u6 g6=>?_;have g6:FA w0 F0 [] ((X3++m5)++[(b46,pairC 0 ⟨none,0,0⟩)]) u6:=g6;have g6:FA w0 F0 [] (((b46,pairC 0 ⟨none,0,0⟩)::X3)++m5) u6:=g6.perm (Lpc (l₁:=[(b46,pairC 0 ⟨none,0,0⟩)]) (l₂:=X3++m5));refine join1 (a:=.bool) (fun (q:Bool) u=>q=rightF file∧∃(sl:Sl) (ps:List PI) (R:BL),FA w0 F0 [] (((b46,pairC (if rightF file=true then partsP file else 0) sl)::X3++R)++m5) u∧(rightF file=true→FootL R sl ps (listP file))) ?_ ?_
 ·intro k hk
  cases hr0:rightP0 file with
  | false=>
   have hrf:rightF file=false:=by unfold rightF;rw [hr0];rfl
   refine ifK_f rfl (hk _ _ ⟨hrf.symm,⟨none,0,0⟩,[],[],?_,fun h=>by rw [hrf] at h;cases h⟩);rw [hrf,if_neg (by decide),Lan];exact g6
  | true=>
   have hrf:rightF file=decide ((footP file).1=0):=by unfold rightF;rw [hr0];rfl
   refine ifK_t rfl ⟨fun b=>b=b46,?_⟩;have g7:FA w0 F0 [] (((b46,pairC 0 ⟨none,0,0⟩)::X3)++m5) u6.drew:=g6.calm (Mod.drew _ u6);have hB12:=g7.own (Lml _ (Lmc _ m12));have hne:¬b12=b46:=fun e=>by
    have:=g7.at_.nodup;rw [List.cons_append,List.map_cons,List.nodup_cons] at this;have h:=List.mem_map_of_mem (f:=Prod.fst) (Lml m5 m12);exact this.1 (by rw [e] at h;exact h)
   refine hB12.ldDK (k:=Ki) (trailP file).1 hne rfl ((hf.quiet g7.at_.mod).partK (n:=(trailP file).1.toNat) (m:=(endP file).toNat) (by omega) (by omega) rfl (by omega) (by omega) fun s51 h51 _=>hB12.ldDK (k:=Ki) (trailP file).1 hne rfl (hB12.ldDK (k:=Ki) (trailP file).2.1 hne rfl ?_));have h51:RdS u6.drew ET s51 (cutB file (trailP file).1 (endP file)):=h51;have hD:decN (cutB file (trailP file).1 (endP file)) (trailP file).1 (trailP file).2.1=footP file:=rfl;refine footDecode_ok h51 (by rw [cutB_len (by omega) (by omega) (by omega)];omega) (fun hn u8 M8=>?_) fun h0 u8 R sl ps hR hFL=>?_
   ·rw [hD] at hn ⊢;have hrf:rightF file=false:=by rw [hrf];exact Dcf hn
    have M8':Mod (fun b=>b=b46) u6.drew u8:=M8.mono fun _ _ h=>h.elim;refine⟨M8',(g7.calm M8).at_.st 0 rfl (Nlr 2) fun u9 hA9 M9=>⟨M8'.trans M9 (fun _ _ h=>h) fun _ _ h=>h,hk _ _ ⟨?_,⟨none,0,0⟩,[],[],?_,fun h=>by rw [hrf] at h;cases h⟩⟩⟩
    ·rw [hrf,beq_dec];exact Dcf hn
    ·rw [hrf,if_neg (by decide),Lan];exact .of_at hA9
   ·rw [hD] at h0 hFL ⊢;have hrf:rightF file=true:=by rw [hrf];exact Dct h0
    have M8':Mod (fun b=>b=b46) u6.drew u8:=hR.mod.mono fun _ _ h=>h.elim;have g8:FA w0 F0 [] ((((b46,pairC 0 ⟨none,0,0⟩)::X3)++R)++m5) u8:=(g7.fresh hR).perm (perm_mid ((b46,pairC 0 ⟨none,0,0⟩)::X3) R m5).symm;refine⟨M8',g8.at_.st 0 rfl (Nlr 2) fun u9 hA9 M9=>⟨M8'.trans M9 (fun _ _ h=>h) fun _ _ h=>h,hk _ _ ⟨?_,sl,ps,R,?_,fun _=>hFL⟩⟩⟩
    ·rw [hrf];rfl
    ·rw [hrf,if_pos rfl];exact .of_at hA9
 rintro right u7 ⟨rfl,sl,ps,R,g7,hFL⟩;have hX4:X3.Sublist ((b46,pairC (if rightF file=true then partsP file else 0) sl)::X3++R):=(List.sublist_cons_self _ _).trans (Lsl _ _);have hRX:∀q∈R,q∈(b46,pairC (if rightF file=true then partsP file else 0) sl)::X3++R:=fun q hq=>Lmr _ hq;have m46:(b46,pairC (if rightF file=true then partsP file else 0) sl)∈(b46,pairC (if rightF file=true then partsP file else 0) sl)::X3++R:=by simp
 generalize (b46,pairC (if rightF file=true then partsP file else 0) sl)::X3++R=X4 at g7 hX4 hRX m46;have hB12:=g7.own (Lml _ (hX4.subset m12));have hB46:=g7.own (Lml _ m46);refine hB12.ldK (k:=Ki) (trailP file).1 rfl (hB46.ldK (k:=Ki) (if rightF file=true then partsP file else 0) rfl (hB46.ldK (k:=.sl) sl rfl ?_));have hg:=hM.grows s2 (.footer (trailP file).1 (endP file) (if rightF file=true then partsP file else 0) (if rightF file=true then listP file else []) (rightF file));refine hM.footer (l:=if rightF file=true then listP file else []) g7.rest ho5 (by omega) fun u8 m8 hA8 ho8=>?_;have g8:=g7.law hA8;have hfold:(walkP file).foldl step s=(if rightF file=false then [] else (infosP file (listP file) 0).flatMap infoEv).foldl step (step s2 (.footer (trailP file).1 (endP file) (if rightF file=true then partsP file else 0) (if rightF file=true then listP file else []) (rightF file))):=by
  rw [hwalk,List.foldl_cons,List.foldl_append,hs1,hs2,List.foldl_cons]
 generalize step s2 (.footer (trailP file).1 (endP file) (if rightF file=true then partsP file else 0) (if rightF file=true then listP file else []) (rightF file))=s3 at ho8 hg hfold
 cases hrf:rightF file with
 | false=>
  rw [hrf,if_pos rfl] at hfold;refine ifK_t rfl (hK _ m8 (g8.at_.sub ((hX3.trans hX4).append (List.Sublist.refl _))) ?_);rw [hfold];exact ho8
 | true=>
  rw [hrf,if_neg (by decide)] at hfold;have hB46:=g8.own (Lml _ m46);refine ifK_f rfl (hB46.ldK (k:=.sl) sl rfl ?_);have hf0:(footP file).1=0:=by unfold rightF at hrf;rw [Bat] at hrf;exact odt hrf.2
  have hok:=decN_ok hf0;refine infos_in hM hf hfl g8 ho8 (hFL hrf) hRX (fun y hy=>chkI_mem (Bat _ _▸(footOk_chk hok.1):_∧_).2 y hy) ?_ (by omega) fun w' m' hA' ho'=>hK w' m' (hA'.sub ((hX3.trans hX4).append (List.Sublist.refl _))) (by rw [hfold];exact ho');have:spI (listP file)=(trailP file).1:=hok.2;omega
end
def EFnd:Enc Fnd:=⟨3,fun x=>[.int .i64 x.kind,.int .i64 x.frm,.int .i64 x.to],fun _=>rfl,by decide,fun x v h=>by
 simp only [List.mem_cons,List.not_mem_nil,or_false] at h;rcases h with rfl | rfl | rfl<;>rfl⟩
def OwnT(bt:Nat)(l:List Fnd)(m:BL):Prop:=∃sl R,m=(bt,[(LV.sl sl).toV])::R∧VecL R EFnd sl l
abbrev ifc(t:TypeId)(b:Nat):Value:=.iface t (LV.ptr (some (b,0))).toV
theorem iface_ok{t:TypeId}{b:Nat}{w:World}{K:Value→Wp}(hr:(Instr.makeInterface t (LV.ptr (some (b,0))).toV).run Tryz.prog w = .ok (ifc t b) w)(hK:K (ifc t b) w) :
  opF Tryz.prog (vS (Instr.makeInterface t (LV.toV (.ptr (some (b,0)))))) w (.one (.leaf (.val))) K:=by
 refine⟨[.val (ifc t b)],w,?_,hK⟩;unfold vS;simp only [Sem.run_bind];show ((Instr.makeInterface t (LV.ptr (some (b,0))).toV).run Tryz.prog w).andThen _=_;rw [hr];rfl
section
variable {w0 w:World}{D:Nat→Prop}{X R:BL}{bt:Nat}{sl:Sl}{l:List Fnd}
theorem finds_ok(hA:At w0 D (X++(bt,[(LV.sl sl).toV])::R) w)(hv:VecL R EFnd sl l)(hl:l.length≤1099511627776){kind a b:Int}{K:Wp}
  (hK:∀w' s' R',At w0 D (X++(bt,[(LV.sl s').toV])::R') w'→VecL R' EFnd s' (l++[⟨kind,a,b⟩])→K w') :
  callK Tryz.prog c_7 [Ap (some (bt,0)),Ai kind,.agg [.int .i64 a,.int .i64 b]] w (.tup []) K:=by
 refine go_7 _ _ _ _ _ _ ?_;refine hA.alK fun b5 w1 _ h1 _=>?_;have h1:At w0 D ((bt,[(LV.sl sl).toV])::(b5,[.int .i64 a,.int .i64 b])::(X++R)) w1:=h1.perm (by
  refine List.Perm.trans ?_ (Lpc (l₁:=[(b5,[Value.int .i64 a,Value.int .i64 b])]) (l₂:=X++(bt,[(LV.sl sl).toV])::R));refine List.Perm.trans (List.Perm.swap _ _ _) (List.Perm.cons _ List.perm_middle.symm))
 refine⟨Ks R,?_⟩;have h2:=h1.keep0 (Mod.drew (fun _=>False) w1) (fun _=>id);have hB:=h2.own (bt,_) (Lcs ..);have hB5:=h2.own (b5,_) (Lmc _ (Lcs ..));have nd:=h2.nodup;rw [List.map_cons,List.map_cons,List.nodup_cons,List.nodup_cons] at nd;have n1:¬Ks R bt:=by
  rintro ⟨q,hq,e⟩;exact nd.1 (Lmc _ (List.mem_map.2 ⟨q,Lmr _ hq,e⟩))
 have n5:¬Ks R b5:=by
  rintro ⟨q,hq,e⟩;exact nd.2.1 (List.mem_map.2 ⟨q,Lmr _ hq,e⟩)
 refine Dq (hB.ldDK (k:=.sl) sl n1 rfl (hB5.ldDK (k:=Ki) a n5 rfl (hB5.ldDK (k:=Ki) b n5 rfl ?_)));refine h2.alK fun b13 w3 _ h3 M3=>⟨M3.mono (fun _ _ h=>h.elim),?_⟩;have hb:Blk w3 b13 (EFnd.f ⟨kind,a,b⟩):=h3.own (b13,_) (Lmr _ (Lms.2 rfl));have h4:At w0 D (((bt,[(LV.sl sl).toV])::(b5,[.int .i64 a,.int .i64 b])::X)++R) w3:=h3.sub (Lsl _ _);refine appL h4 hv (rd_one hb) rfl rfl (by simp;omega) fun s' ro' w4 h5 v5 M5 _=>⟨(M3.mono (fun _ _ h=>h.elim)).trans M5 (fun _ _ h=>h) fun _ _ h=>h,Dq (h5.st 0 rfl (Nlr 1) fun w5 h6 _=>hK w5 s' ro' ?_ v5)⟩;have h6:At w0 D ((bt,[(LV.sl s').toV])::(b5,[.int .i64 a,.int .i64 b])::(X++ro')) w5:=h6;exact (h6.sub ((List.sublist_cons_self _ _).cons_cons _)).perm List.perm_middle
end
theorem perm_two(A B:BL)(x y:Nat×List Value):List.Perm (((A++[x])++[y])++B) (((A++B)++[x])++[y]):=by
 have h1:=perm_mid A ([x]++[y]) B;simp only [Laa] at h1 ⊢;exact h1.symm
abbrev t_told:TypeId:=55
section
variable {X m:BL}{u:World}{l:List Fnd}{bt:Nat}{K:Wp}
theorem tm_trailer{a b tb tp:Int}{ok:Bool}(hA:At u (Ks (X++m)) (X++m) u)(ho:OwnT bt l m)(hl:l.length≤1099511627776)(hK:∀u' m',At u (Ks (X++m)) (X++m') u'→OwnT bt (toldP l (.trailer a b tb tp ok)) m'→K u') :
  callI Tryz.prog (ifc t_told bt) "winnow/inspect.trailer" [.agg [.int .i64 a,.int .i64 b],.agg [.int .i64 tb,.int .i64 tp],Ab ok] u (.tup []) K:=by
 obtain⟨sl,R,rfl,hv⟩:=ho;refine callI_of (f:=c_8) (args':=[Ap (some (bt,0)),.agg [.int .i64 a,.int .i64 b],.agg [.int .i64 tb,.int .i64 tp],Ab ok]) (by kernel_rfl) (go_8 _ _ _ _ _ _ _ _ ?_);generalize hD:Ks (X++(bt,[(LV.sl sl).toV])::R)=D at hA hK;refine hA.alK fun b7 u1 _ h1 _=>h1.alK fun b9 u2 _ h2 _=>?_;have hB7:Blk u2 b7 [.int .i64 a,.int .i64 b]:=h2.own (b7,_) (Lml _ (Lmr _ (Lms.2 rfl)));have h2:=h2.perm (perm_two X ((bt,[(LV.sl sl).toV])::R) _ _);refine join0 (fun u'=>∃s' R',At u D (X++(bt,[(LV.sl s').toV])::R') u'∧VecL R' EFnd s' (toldP l (.trailer a b tb tp ok))) ?_ (by rintro u' ⟨s',R',h,hv'⟩;exact hK u' _ h ⟨s',R',rfl,hv'⟩);intro k hk
 cases ok with
 | true=>exact ifK_f rfl (hk _ ⟨sl,R,h2.sub (((Lsl _ _).trans (Lsl _ _)).append (List.Sublist.refl _)),hv⟩)
 | false=>exact ifK_t rfl (hB7.ldK (k:=Ki) a rfl (hB7.ldK (k:=Ki) b rfl (finds_ok h2 hv hl fun w' s' R' h' hv'=>hk _ ⟨s',R',h'.sub (((Lsl _ _).trans (Lsl _ _)).append (List.Sublist.refl _)),hv'⟩)))
theorem tm_page{p:PgP}(hA:At u (Ks (X++m)) (X++m) u)(ho:OwnT bt l m)(hl:l.length≤1099511627776)(hK:∀u' m',At u (Ks (X++m)) (X++m') u'→OwnT bt (toldP l (.page p)) m'→K u') :
  callI Tryz.prog (ifc t_told bt) "winnow/inspect.page" [.agg [.int .i64 p.frm,.int .i64 p.to],Ab (p.ok)] u (.tup []) K:=by
 obtain⟨sl,R,rfl,hv⟩:=ho;obtain⟨a,b,ok⟩:=p;refine callI_of (f:=c_9) (args':=[Ap (some (bt,0)),.agg [.int .i64 a,.int .i64 b],Ab ok]) (by kernel_rfl) (go_9 _ _ _ _ _ _ ?_);generalize hD:Ks (X++(bt,[(LV.sl sl).toV])::R)=D at hA hK;refine hA.alK fun b5 u1 _ h1 _=>?_;have hB5:Blk u1 b5 [.int .i64 a,.int .i64 b]:=h1.own (b5,_) (Lmr _ (Lms.2 rfl));have h1:=h1.perm (perm_mid X [(b5,[Value.int .i64 a,Value.int .i64 b])] ((bt,[(LV.sl sl).toV])::R)).symm;refine join0 (fun u'=>∃s' R',At u D (X++(bt,[(LV.sl s').toV])::R') u'∧VecL R' EFnd s' (toldP l (.page ⟨a,b,ok⟩))) ?_ (by rintro u' ⟨s',R',h,hv'⟩;exact hK u' _ h ⟨s',R',rfl,hv'⟩);intro k hk
 cases ok with
 | true=>exact ifK_f rfl (hk _ ⟨sl,R,h1.sub ((Lsl _ _).append (List.Sublist.refl _)),hv⟩)
 | false=>exact ifK_t rfl (hB5.ldK (k:=Ki) a rfl (hB5.ldK (k:=Ki) b rfl (finds_ok h1 hv hl fun w' s' R' h' hv'=>hk _ ⟨s',R',h'.sub ((Lsl _ _).append (List.Sublist.refl _)),hv'⟩)))
theorem tm_block{x:BlkP}(hA:At u (Ks (X++m)) (X++m) u)(ho:OwnT bt l m)(hl:l.length≤1099511627776)(hK:∀u' m',At u (Ks (X++m)) (X++m') u'→OwnT bt (toldP l (.block x)) m'→K u') :
  callI Tryz.prog (ifc t_told bt) "winnow/inspect.block" [.agg [.int .i64 x.frm,.int .i64 x.to],.agg [.int .i64 x.info.stored,.int .i64 x.info.raw,.int .i64 x.info.count,.str x.info.cut],.leaf (.int .u8 (x.flag:Int)),Ai (x.how)] u (.tup []) K:=by
 obtain⟨sl,R,rfl,hv⟩:=ho;refine callI_of (f:=c_10) (args':=[Ap (some (bt,0)),.agg [.int .i64 x.frm,.int .i64 x.to],.agg [.int .i64 x.info.stored,.int .i64 x.info.raw,.int .i64 x.info.count,.str x.info.cut],.leaf (.int .u8 (x.flag:Int)),Ai (x.how)]) (by kernel_rfl) (go_10 _ _ _ _ _ _ _ _ _ _ _ ?_);generalize hD:Ks (X++(bt,[(LV.sl sl).toV])::R)=D at hA hK;refine hA.alK fun b10 u1 _ h1 _=>h1.alK fun b12 u2 _ h2 _=>?_;have hB:Blk u2 b10 [.int .i64 x.frm,.int .i64 x.to]:=h2.own (b10,_) (Lml _ (Lmr _ (Lms.2 rfl)));have h2:=h2.perm (perm_two X ((bt,[(LV.sl sl).toV])::R) _ _);have hs:=fun (s':Sl) (R':BL) (Y Z:BL)=>(((Lsl X Y).trans (Lsl _ Z)).append (List.Sublist.refl ((bt,[(LV.sl s').toV])::R')));refine join0 (fun u'=>∃s' R',At u D (X++(bt,[(LV.sl s').toV])::R') u'∧VecL R' EFnd s' (toldP l (.block x))) ?_ (by rintro u' ⟨s',R',h,hv'⟩;exact hK u' _ h ⟨s',R',rfl,hv'⟩);intro k hk;unfold toldP at hk;dsimp only at hk;refine Iq (fun q=>?_) fun q=>?_
 ·have q:x.how=1:=odt q;rw [if_pos q] at hk;exact hB.ldK (k:=Ki) x.frm rfl (hB.ldK (k:=Ki) x.to rfl (finds_ok h2 hv hl fun w' s' R' h' hv'=>hk _ ⟨s',R',h'.sub (hs _ _ _ _),hv'⟩))
 have q:¬x.how=1:=odf q;rw [if_neg q] at hk;refine join0 (fun u'=>∃s' R',At u D (X++(bt,[(LV.sl s').toV])::R') u'∧VecL R' EFnd s' (if x.how=2 then l++[⟨5,x.frm,x.to⟩] else l)) ?_ (by rintro u' h;exact hk u' h);intro k2 hk2;refine Iq (fun q=>?_) fun q=>?_
 ·have q:x.how=2:=odt q;rw [if_pos q] at hk2;exact hB.ldK (k:=Ki) x.frm rfl (hB.ldK (k:=Ki) x.to rfl (finds_ok h2 hv hl fun w' s' R' h' hv'=>hk2 _ ⟨s',R',h'.sub (hs _ _ _ _),hv'⟩))
 ·have q:¬x.how=2:=odf q;rw [if_neg q] at hk2;exact hk2 _ ⟨sl,R,h2.sub (hs _ _ _ _),hv⟩
theorem tm_footer{a b P:Int}{sI:Sl}{li:List PartI}{ok:Bool}(hA:At u (Ks (X++m)) (X++m) u)(ho:OwnT bt l m)(hl:l.length≤1099511627776)(hK:∀u' m',At u (Ks (X++m)) (X++m') u'→OwnT bt (toldP l (.footer a b P li ok)) m'→K u') :
  callI Tryz.prog (ifc t_told bt) "winnow/inspect.footer" [.agg [.int .i64 a,.int .i64 b],.agg [.int .i64 P,.sl sI],Ab ok] u (.tup []) K:=by
 obtain⟨sl,R,rfl,hv⟩:=ho;refine callI_of (f:=c_11) (args':=[Ap (some (bt,0)),.agg [.int .i64 a,.int .i64 b],.agg [.int .i64 P,.sl sI],Ab ok]) (by kernel_rfl) (go_11 _ _ _ _ _ _ _ _ ?_);generalize hD:Ks (X++(bt,[(LV.sl sl).toV])::R)=D at hA hK;refine hA.alK fun b7 u1 _ h1 _=>h1.alK fun b9 u2 _ h2 _=>?_;have h2:At u D (((X++(bt,[(LV.sl sl).toV])::R)++[(b7,[.int .i64 a,.int .i64 b])])++[(b9,pairC P sI)]) u2:=h2;have h2:=h2.perm (perm_two X ((bt,[(LV.sl sl).toV])::R) _ _);have hXs:X.Sublist ((X++[(b7,[.int .i64 a,.int .i64 b])])++[(b9,pairC P sI)]):=(Lsl _ _).trans (Lsl _ _);have m7:(b7,[.int .i64 a,.int .i64 b])∈(X++[(b7,[.int .i64 a,.int .i64 b])])++[(b9,pairC P sI)]:=by simp
 generalize (X++[(b7,[Value.int .i64 a,Value.int .i64 b])])++[(b9,pairC P sI)]=X2 at h2 hXs m7;have hBt:Blk u2 bt [(LV.sl sl).toV]:=h2.own (bt,_) (Lmr _ (Lcs ..));refine Dq (hBt.ldK (k:=.sl) sl rfl ?_);refine join1 (a:=.bool) (fun (q:Bool) u'=>q=(ok||l.any fun f=>f.kind==2)∧At u D (X2++(bt,[(LV.sl sl).toV])::R) u') ?_ ?_
 ·intro k hk;refine loop2 (k1:=.bool) (k2:=Ki) (fun (q:Bool) (t:Int) u'=>∃i:Nat,t=(i:Int)∧i≤l.length∧q=(ok||(l.take i).any fun f=>f.kind==2)∧At u D (X2++(bt,[(LV.sl sl).toV])::R) u') (fun _ t _=>(l.length-t).toNat) (x1:=ok) (x2:=0) rfl rfl
   ⟨0,rfl,Nzl _,by simp,h2⟩ ?_
  rintro (ok':Bool) (t:Int) u3 ⟨i,rfl,hi,rfl,h3⟩;have hrd:RdS u3 EFnd sl l:=hv.rd fun q hq=>h3.own q (Lmr _ (Lmc _ hq));rw [hrd.len];refine Iq (fun q=>?_) fun q=>?_;rotate_left
  ·have q:l.length≤i:=dge q;rw [Ltl q];exact hk _ _ ⟨rfl,h3⟩
  have q:i<l.length:=dlt q;obtain⟨y,hy⟩:=Gq q;refine hrd.ix rfl rfl hy fun bb oo _ hc=>Lq (k:=Ki) y.kind (hc 0 (by decide)) (Lq (k:=Ki) y.frm (hc 1 (by decide)) (Lq (k:=Ki) y.to (hc 2 (by decide)) ?_));refine (FA.of_at h3).alst (by rfl) fun b24 u4 g4=>?_;have g4:FA u D [] ((X2++(bt,[(LV.sl sl).toV])::R)++[(b24,EFnd.f y)]) u4:=g4;have hB24:Blk u4 b24 (EFnd.f y):=g4.own (Lmr _ (Lms.2 rfl));have h4:=g4.at_.sub (Lsl _ _);have et:((l.take (i+1)).any fun f=>f.kind==2)=(((l.take i).any fun f=>f.kind==2)||y.kind==2):=by
   rw [List.take_add_one,hy,List.any_append];simp
  have es:=step64 (i:=i) (by omega);refine join1 (a:=.bool) (fun (q:Bool) u'=>q=(ok||(l.take (i+1)).any fun f=>f.kind==2)∧u'=u4) ?_ ?_
  ·intro k2 hk2;refine Iq (fun q=>hk2 _ _ ⟨?_,rfl⟩) fun q=>hB24.ldK (k:=Ki) y.kind rfl (hk2 _ _ ⟨?_,rfl⟩)
   ·have q:(ok||(l.take i).any fun f=>f.kind==2)=true:=q;rw [et,←Bool.or_assoc,q,Bool.true_or]
   ·have q:(ok||(l.take i).any fun f=>f.kind==2)=false:=q;rw [et,←Bool.or_assoc,q,Bool.false_or]
  rintro q5 u5 ⟨rfl,rfl⟩;exact⟨⟨i+1,es,by omega,rfl,h4⟩,by rw [es];omega⟩
 rintro q5 u5 ⟨rfl,h5⟩;refine join0 (fun u'=>∃s' R',At u D (X++(bt,[(LV.sl s').toV])::R') u'∧VecL R' EFnd s' (toldP l (.footer a b P li ok))) ?_ (by rintro u' ⟨s',R',h,hv'⟩;exact hK u' _ h ⟨s',R',rfl,hv'⟩);intro k hk;unfold toldP at hk;dsimp only at hk;have hB7:Blk u5 b7 [.int .i64 a,.int .i64 b]:=h5.own (b7,_) (Lml _ m7)
 cases hq:(ok||l.any fun f=>f.kind==2) with
 | true=>
  rw [if_pos hq] at hk;exact ifK_f rfl (hk _ ⟨sl,R,h5.sub (hXs.append (List.Sublist.refl _)),hv⟩)
 | false=>
  rw [if_neg (by rw [hq];decide)] at hk;exact ifK_t rfl (hB7.ldK (k:=Ki) a rfl (hB7.ldK (k:=Ki) b rfl (finds_ok h5 hv hl fun w' s' R' h' hv'=>hk _ ⟨s',R',h'.sub (hXs.append (List.Sublist.refl _)),hv'⟩)))
end
theorem told_size(l:List Fnd)(e:Ev):(toldP l e).length≤l.length+1:=by
 unfold toldP;split<;>(try split)<;>(try split)<;>simp
theorem told_mkr(bt:Nat):Mkr (ifc t_told bt) toldP List.length (OwnT bt):=by
 refine⟨rfl,told_size,tm_trailer,tm_page,tm_footer,?_,tm_block,?_⟩
 ·intro X m u s p x K hA ho hl _ _ _ _ _ hK;refine callI_of (f:=c_12) (args':=[Ap (some (bt,0)),.agg [.int .i64 p.part,.sl p.sb,.bool p.all,.int .i64 p.hashes,.sl p.sd]]) (by kernel_rfl) (go_12 _ _ _ _ _ _ _ _ ?_);exact hA.alK fun b7 u1 _ h1 _=>hK _ _ (h1.sub (Lsl _ _)) ho
 ·intro X m u s part k z K hA ho hl hK;refine callI_of (f:=c_13) (args':=[Ap (some (bt,0)),Ai part,Au k,Au z]) (by kernel_rfl) (go_13 _ _ _ _ _ _ ?_);exact hK _ _ hA ho
def ERec:Enc (Int×Str×Str):=⟨3,fun x=>[.int .i64 x.1,(LV.str x.2.1).toV,(LV.str x.2.2).toV],fun _=>rfl,by decide,fun x v h=>by
 simp only [List.mem_cons,List.not_mem_nil,or_false] at h;rcases h with rfl | rfl | rfl<;>rfl⟩
def OwnR(bt:Nat)(l:List (Int×Str×Str))(m:BL):Prop:=∃sl R,m=(bt,[(LV.sl sl).toV])::R∧VecL R ERec sl l
abbrev t_resc:TypeId:=37
section
variable {X m:BL}{u:World}{l:List (Int×Str×Str)}{bt:Nat}{K:Wp}
theorem rm_record{part:Int}{k z:Str}(hA:At u (Ks (X++m)) (X++m) u)(ho:OwnR bt l m)(hl:l.length≤1099511627776)(hK:∀u' m',At u (Ks (X++m)) (X++m') u'→OwnR bt (rescP l (.record part k z)) m'→K u') :
  callI Tryz.prog (ifc t_resc bt) "winnow/inspect.record" [Ai part,Au k,Au z] u (.tup []) K:=by
 obtain⟨sl,R,rfl,hv⟩:=ho;refine callI_of (f:=c_14) (args':=[Ap (some (bt,0)),Ai part,Au k,Au z]) (by kernel_rfl) (go_14 _ _ _ _ _ _ ?_);generalize hD:Ks (X++(bt,[(LV.sl sl).toV])::R)=D at hA hK;have hB:Blk u bt [(LV.sl sl).toV]:=hA.own (bt,_) (Lmr _ (Lcs ..));refine Dq (hB.ldK (k:=.sl) sl rfl ?_);have h1:At u D (((bt,[(LV.sl sl).toV])::X)++R) u:=hA.perm List.perm_middle.symm;refine h1.alK fun b8 u2 _ h2 M2=>?_;have hb:Blk u2 b8 (ERec.f (part,k,z)):=h2.own (b8,_) (Lmr _ (Lms.2 rfl));refine appL (h2.sub (Lsl _ _)) hv (rd_one hb) rfl rfl (by simp;omega) fun s' ro' u3 h3 v3 _ _=>Dq (h3.st 0 rfl (Nlr 1) fun u4 h4 _=>hK _ _ ?_ ⟨s',ro',rfl,v3⟩);have h4:At u D ((bt,[(LV.sl s').toV])::(X++ro')) u4:=h4;exact h4.perm List.perm_middle
end
theorem resc_size(l:List (Int×Str×Str))(e:Ev):(rescP l e).length≤l.length+1:=by
 unfold rescP;split<;>simp
theorem resc_mkr(bt:Nat):Mkr (ifc t_resc bt) rescP List.length (OwnR bt):=by
 refine⟨rfl,resc_size,?_,?_,?_,?_,?_,rm_record⟩
 ·intro X m u s a b tb tp ok K hA ho hl hK;refine callI_of (f:=c_15) (args':=[Ap (some (bt,0)),.agg [.int .i64 a,.int .i64 b],.agg [.int .i64 tb,.int .i64 tp],Ab ok]) (by kernel_rfl) (go_15 _ _ _ _ _ _ _ _ ?_);exact hA.alK fun b7 u1 _ h1 _=>h1.alK fun b9 u2 _ h2 _=>hK _ _ (h2.sub ((Lsl _ _).trans (Lsl _ _))) ho
 ·intro X m u s p K hA ho hl hK;refine callI_of (f:=c_16) (args':=[Ap (some (bt,0)),.agg [.int .i64 p.frm,.int .i64 p.to],Ab (p.ok)]) (by kernel_rfl) (go_16 _ _ _ _ _ _ ?_);exact hA.alK fun b7 u1 _ h1 _=>hK _ _ (h1.sub (Lsl _ _)) ho
 ·intro X m u s a b P sI li ok K hA ho hl hK;refine callI_of (f:=c_17) (args':=[Ap (some (bt,0)),.agg [.int .i64 a,.int .i64 b],.agg [.int .i64 P,.sl sI],Ab ok]) (by kernel_rfl) (go_17 _ _ _ _ _ _ _ _ ?_);exact hA.alK fun b7 u1 _ h1 _=>h1.alK fun b9 u2 _ h2 _=>hK _ _ (h2.sub ((Lsl _ _).trans (Lsl _ _))) ho
 ·intro X m u s p x K hA ho hl _ _ _ _ _ hK;refine callI_of (f:=c_18) (args':=[Ap (some (bt,0)),.agg [.int .i64 p.part,.sl p.sb,.bool p.all,.int .i64 p.hashes,.sl p.sd]]) (by kernel_rfl) (go_18 _ _ _ _ _ _ _ _ ?_);exact hA.alK fun b7 u1 _ h1 _=>hK _ _ (h1.sub (Lsl _ _)) ho
 ·intro X m u s x K hA ho hl hK;refine callI_of (f:=c_19) (args':=[Ap (some (bt,0)),.agg [.int .i64 x.frm,.int .i64 x.to],.agg [.int .i64 x.info.stored,.int .i64 x.info.raw,.int .i64 x.info.count,.str x.info.cut],.leaf (.int .u8 (x.flag:Int)),Ai (x.how)]) (by kernel_rfl) (go_19 _ _ _ _ _ _ _ _ _ _ _ ?_);exact hA.alK fun b7 u1 _ h1 _=>h1.alK fun b9 u2 _ h2 _=>hK _ _ (h2.sub ((Lsl _ _).trans (Lsl _ _))) ho
section
variable {w:World}{sf:Sl}{file:Str}
theorem mk_told(b:Nat)(w:World):(Instr.makeInterface t_told (LV.ptr (some (b,0))).toV).run Tryz.prog w = .ok (ifc t_told b) w:=by kernel_rfl
theorem mk_resc(b:Nat)(w:World):(Instr.makeInterface t_resc (LV.ptr (some (b,0))).toV).run Tryz.prog w = .ok (ifc t_resc b) w:=by kernel_rfl
theorem resc_ok(hf:RdS w ET sf file)(hfl:file.length≤1048576){K:Sl→Wp}(hK:∀w' s R,Fresh w w' F0 R→VecL R ERec s (rescR file)→K s w') :
  callK Tryz.prog c_20 [Az sf] w Oz K:=by
 refine go_20 _ _ _ ?_;refine (At.init w F0).alK fun b2 w1 _ h1 _=>iface_ok (mk_resc _ _) ?_;have h1:At w F0 ([]++(b2,[(LV.sl ⟨none,0,0⟩).toV])::[]) w1:=h1;refine walkIn_ok (resc_mkr b2) hf hfl h1 ⟨_,[],rfl,VecL.nil ERec⟩ (Nzl _) fun w' m' hA' ho'=>?_;obtain⟨s,R,rfl,hv⟩:=ho';rw [resc_law] at hv;have hB:Blk w' b2 [(LV.sl s).toV]:=hA'.own (b2,_) (Lcs ..);exact Dq (hB.ldK (k:=.sl) s rfl (hK w' s R (.of_at (hA'.sub (List.sublist_cons_self _ _))) hv))
theorem look_ok(hf:RdS w ET sf file)(hfl:file.length≤1048576){length:Int}{K:Sl→Wp}(hK:∀w' s R,Fresh w w' F0 R→VecL R EFnd s (lookR file length)→K s w') :
  callK Tryz.prog c_21 [Az sf,Ai length] w Oz K:=by
 refine go_21 _ _ _ _ ?_;rw [hf.len];refine (At.init w F0).alK fun b3 w1 _ h1 _=>?_;have h1:At w F0 ([]++(b3,[(LV.sl ⟨none,0,0⟩).toV])::[]) w1:=h1;refine join0 (fun u=>∃s R,At w F0 ([]++(b3,[(LV.sl s).toV])::R) u∧VecL R EFnd s (fnd0 file length)) ?_ ?_
 ·intro k hk;unfold fnd0 at hk;refine Iq (fun q=>?_) fun q=>?_
  ·have q:(file.length:Int)≠length:=by simpa using q
   rw [if_pos q] at hk;exact finds_ok h1 (VecL.nil EFnd) (Nzl _) fun w' s' R' h' hv'=>hk _ ⟨s',R',h',hv'⟩
  ·have q:¬(file.length:Int)≠length:=by simpa using q
   rw [if_neg q] at hk;exact hk _ ⟨_,[],h1,VecL.nil EFnd⟩
 rintro u ⟨s,R,hA,hv⟩;refine iface_ok (mk_told _ _) ?_;have h0:(fnd0 file length).length≤1:=by unfold fnd0;split<;>simp
 refine walkIn_ok (told_mkr b3) hf hfl hA ⟨s,R,rfl,hv⟩ (by omega) fun w' m' hA' ho'=>?_;obtain⟨s,R,rfl,hv⟩:=ho';rw [look_law] at hv;have hB:Blk w' b3 [(LV.sl s).toV]:=hA'.own (b3,_) (Lcs ..);exact Dq (hB.ldK (k:=.sl) s rfl (hK w' s R (.of_at (hA'.sub (List.sublist_cons_self _ _))) hv))
end
theorem pageN_tp(d:Dec)(q:Str):(pageN d q).1.tp=d.tp:=by
 unfold pageN;split
 ·rfl
 split<;>rfl
set_option maxHeartbeats 1000000 in
theorem rFootDecode_ok{w:World}{sp:Sl}{p:Str}{tb tp:Int}(hr:RdS w ET sp p)(hl:p.length≤20000000)(htp0:tp≤1099511627776){K:Int→Sl→Int→Wp}
  (hN:(decN p tb tp).1≠0→∀w',Mod F0 w w'→K 0 ⟨none,0,0⟩ (decN p tb tp).1 w')
  (hS:(decN p tb tp).1=0→∀w' R s ps,Fresh w w' F0 R→FootL R s ps (readF (decN p tb tp).2.body).2.1→K (readF (decN p tb tp).2.body).1 s 0 w') :
  callK Tryz.prog c_22 [Az sp,.agg [.int .i64 tb,.int .i64 tp]] w (.tup [.agg [Ki,.sl],Li]) K:=by
 refine go_22 _ _ _ _ _ ?_;refine (Fresh.start w F0).alK fun b4 w1 f1 _ _=>f1.alK fun b6 w2 f2 _ _=>?_;have hB4:Blk w2 b4 [.int .i64 tb,.int .i64 tp]:=f2.blk (i:=0) rfl;have f2:Fresh w w2 F0 [(b4,[.int .i64 tb,.int .i64 tp]),(b6,pairC 0 ⟨none,0,0⟩)]:=f2;have bad:∀{u:World} {X:BL} {e:Int},Fresh w u F0 ([(b4,[.int .i64 tb,.int .i64 tp]),(b6,pairC 0 ⟨none,0,0⟩)]++X)→e=(decN p tb tp).1→e≠0→Go.Vw.st u b6 0 [.int .i64 0,.sl ⟨none,0,0⟩] fun W27=>Go.Vw.ld W27 Ki b6 0 fun n28=>Go.Vw.ld W27 .sl b6 1 fun a29=>K n28 a29 e W27:=fun {u X e} f he hne=>by
  refine f.stK 1 rfl (Nlr 2) fun u2 f2 _=>?_;have hB6:Blk u2 b6 (pairC 0 ⟨none,0,0⟩):=f2.blk (i:=1) rfl;refine hB6.ldK (k:=Ki) 0 rfl (hB6.ldK (k:=.sl) ⟨none,0,0⟩ rfl ?_);rw [he];exact hN (by rw [←he];exact hne) u2 f2.mod
 refine hB4.ldK (k:=Ki) tb rfl (hB4.ldK (k:=Ki) tp rfl (rNewDecoder_ok htp0 (fun ht w3 M3=>?_) fun ht w3 d hF=>?_))
 ·have e:(decN p tb tp).1=81:=by unfold decN;rw [if_pos ht]
  exact ifK_t rfl (bad (X:=[]) (f2.quiet M3) e.symm (by decide))
 have f3:Fresh w w3 F0 ([(b4,[.int .i64 tb,.int .i64 tp]),(b6,pairC 0 ⟨none,0,0⟩)]++[(d,rdecC (dec0 tb tp) ⟨none,0,0⟩)]):=f2.join hF (fun _ _ h=>h) fun _ _ _ h=>h;refine ifK_f rfl ?_;have hB4':Blk w3 b4 [.int .i64 tb,.int .i64 tp]:=f3.blk (i:=0) rfl;refine hB4'.ldK (k:=Ki) tp rfl ?_;rw [hr.len];refine Iq (fun q=>?_) fun q=>?_
 ·have q:(p.length:Int)≠tp:=by simpa using q
  have e:(decN p tb tp).1=80:=by unfold decN;rw [if_neg (by rw [ht];decide),if_pos q]
  exact bad f3 e.symm (by decide)
 have q:¬(p.length:Int)≠tp:=by simpa using q
 have htp:(p.length:Int)=tp:=Decidable.not_not.1 q;have edec:decN p tb tp=if (decRun 5000 p (dec0 tb tp)).1≠0 then decRun 5000 p (dec0 tb tp) else if footOk (decRun 5000 p (dec0 tb tp)).2=false then (80,(decRun 5000 p (dec0 tb tp)).2) else decRun 5000 p (dec0 tb tp):=by
  unfold decN;rw [if_neg (by rw [ht];decide),if_neg q]
 have f3:At w F0 ((d,rdecC (dec0 tb tp) ⟨none,0,0⟩)::([(b4,[.int .i64 tb,.int .i64 tp]),(b6,pairC 0 ⟨none,0,0⟩)]++[])) w3:=(f3.perm (by
  show List.Perm [_,_,_] [_,_,_];exact (Lpc (l₁:=[(d,rdecC (dec0 tb tp) ⟨none,0,0⟩)]) (l₂:=[(b4,[Value.int .i64 tb,Value.int .i64 tp]),(b6,pairC 0 ⟨none,0,0⟩)])))).at_
 refine join0 (fun u=>∃x s ro,At w F0 ((d,rdecC x s)::([(b4,[.int .i64 tb,.int .i64 tp]),(b6,pairC 0 ⟨none,0,0⟩)]++ro)) u∧VecL ro ET s x.body∧decRun 5000 p (dec0 tb tp)=(0,x)∧x.body.length≤p.length) ?_ ?_
 ·intro k hk;refine loop1 (k:=Ki) (fun (at_:Int) u=>∃(n a:Nat) (x:Dec) (s:Sl) (ro:BL),at_=(a:Int)∧a≤p.length∧p.length-a≤4100*n∧At w F0 ((d,rdecC x s)::([(b4,[.int .i64 tb,.int .i64 tp]),(b6,pairC 0 ⟨none,0,0⟩)]++ro)) u∧VecL ro ET s x.body∧decRun 5000 p (dec0 tb tp)=decRun n (p.drop a) x ∧
   x.body.length≤a∧x.left=(p.length-a:Nat)∧x.tp=tp) (fun at_ _=>(p.length-at_).toNat) (x:=0) rfl
   ⟨5000,0,dec0 tb tp,⟨none,0,0⟩,[],rfl,Nzl _,by omega,f3,VecL.nil ET,by rw [List.drop_zero],Nzl _,by show tp=_;omega,rfl⟩ ?_
  rintro (at_:Int) u ⟨n,a,x,s,ro,rfl,ha,hn,hf,hv,he,hbl,hx0,hx1⟩;have hB4u:Blk u b4 [.int .i64 tb,.int .i64 tp]:=hf.blk (i:=1) rfl;refine hB4u.ldK (k:=Ki) tp rfl (Iq (fun q=>?_) fun q=>?_);rotate_left
  ·have q:¬(a:Int)<tp:=odf q;have h0:(p.drop a).length=0:=by rw [Lld];omega
   refine hk u ⟨x,s,ro,hf,hv,?_,by omega⟩;rw [he]
   cases n with
   | zero=>rfl
   | succ n=>rw [decRun_s,if_pos h0]
  have q:(a:Int)<tp:=odt q;obtain⟨n',rfl⟩:∃n',n=n'+1:=⟨n-1,by omega⟩;have hdl:(p.drop a).length=p.length-a:=Lld;have hmn:mnI x.left 4100=((min (p.drop a).length 4100:Nat):Int):=by rw [hx0,←hdl];exact mnI_nat (b:=4100)
  rw [decRun_s n' (p.drop a) x,if_neg (c:=(p.drop a).length=0) (by omega)] at he;have hBd:Blk u d (rdecC x s):=hf.blk (i:=0) rfl;refine rNext_ok hBd (by omega) (by omega) fun u1 M1=>?_;have hf1:=hf.keep0 M1 (fun _=>id);rw [hmn];have ew:w64 ((a:Int)+((min (p.drop a).length 4100:Nat):Int))=((a+min (p.drop a).length 4100:Nat):Int):=by rw [Wq (by omega) (by omega)];omega
  rw [ew];refine (hr.quiet hf1.mod).partK (n:=a) (m:=a+min (p.drop a).length 4100) (by omega) (by omega) rfl rfl rfl fun s27 h27 _=>?_;have etk:(p.take (a+min (p.drop a).length 4100)).drop a=(p.drop a).take (min (p.drop a).length 4100):=by rw [List.drop_take];congr 1;omega
  rw [etk] at h27;refine rPage_ok hf1 hv (by omega) (by omega) (by omega) h27 (by rw [Llt];omega) fun u2 s2 ro2 f2' v2 _=>?_;refine Iq (fun q2=>?_) fun q2=>?_
  ·have q2:(pageN x ((p.drop a).take (min (p.drop a).length 4100))).2≠0:=by simpa using q2
   rw [if_pos q2] at he;have e:(decN p tb tp).1=(pageN x ((p.drop a).take (min (p.drop a).length 4100))).2:=by rw [edec,he,if_pos q2]
   refine bad (X:=(d,rdecC (pageN x ((p.drop a).take (min (p.drop a).length 4100))).1 s2)::ro2) ((Fresh.of_at f2').perm ?_) e.symm q2;exact List.perm_middle
  ·have q2:¬(pageN x ((p.drop a).take (min (p.drop a).length 4100))).2≠0:=by simpa using q2
   rw [if_neg q2] at he;obtain⟨e1,e2,e3,_⟩:=pageN_left (Decidable.not_not.1 q2);have htl:((p.drop a).take (min (p.drop a).length 4100)).length=min (p.drop a).length 4100:=by rw [Llt];omega
   have edd:(p.drop a).drop (min (p.drop a).length 4100)=p.drop (a+min (p.drop a).length 4100):=List.drop_drop;rw [edd] at he;refine⟨⟨n',a+min (p.drop a).length 4100,_,s2,ro2,rfl,by omega,by omega,f2',v2,he,?_,?_,by rw [pageN_tp];exact hx1⟩,by omega⟩
   ·rw [e1];show (x.body++(openB ((p.drop a).take (min (p.drop a).length 4100))).2).length≤_;rw [Lla];omega
   ·rw [e1];show x.left-mnI x.left 4100=_;omega
 rintro u ⟨x,s,ro,hf,hv,he,hxl⟩;have hBd:Blk u d (rdecC x s):=hf.blk (i:=0) rfl;have hrd:RdS u ET s x.body:=hv.rd fun q hq=>hf.own q (Lmc _ (Lmr _ hq));rw [he] at edec;rw [if_neg (fun h=>h rfl)] at edec;have hf:Fresh w u F0 ([(b4,[.int .i64 tb,.int .i64 tp]),(b6,pairC 0 ⟨none,0,0⟩)]++(d,rdecC x s)::ro):=(Fresh.of_at hf).perm List.perm_middle;refine rFootDec_ok hBd hrd (by omega) (fun hb u2 M2=>?_) fun hb u2 R s2 ps2 hR hFL=>?_
 ·rw [(footer_law x).1] at hb;have e:(decN p tb tp).1=80:=by rw [edec,if_pos hb]
  refine (hf.quiet M2).stK 1 rfl (Nlr 2) fun u3 f3 _=>?_;have hB6:Blk u3 b6 (pairC 0 ⟨none,0,0⟩):=f3.blk (i:=1) rfl;refine hB6.ldK (k:=Ki) 0 rfl (hB6.ldK (k:=.sl) ⟨none,0,0⟩ rfl ?_);have:=hN (by rw [e];decide) u3 f3.mod;rw [e] at this;exact this
 ·rw [(footer_law x).1] at hb;have hq:=(footer_law x).2 hb;rw [hq] at hFL ⊢;rw [if_neg (by rw [hb];decide)] at edec;have f5:=hf.join hR (fun _ _ h=>h) fun _ _ _ h=>h;refine f5.stK 1 rfl (Nlr 2) fun u3 f6 _=>?_;have hB6:Blk u3 b6 (pairC (readF x.body).1 s2):=f6.blk (i:=1) rfl;refine hB6.ldK (k:=Ki) (readF x.body).1 rfl (hB6.ldK (k:=.sl) s2 rfl ?_);have:=hS (by rw [edec]) u3 R s2 ps2 (f6.sub (List.Sublist.cons _ (List.Sublist.cons _ (Lsr _ _)))) (by rw [edec];exact hFL);rw [edec] at this;exact this
end Go.Proofs.YtkgligdkihlfaaaGreat
namespace Go.Proofs.YtkgligdkihlfaaaGreat
open Go.Vw
set_option maxRecDepth 100000
theorem go_26(b1:Sl)(n2:Int)(K:Sl→Wp)(w:World)(h:ifK (decide ((b1.len:Int)<n2)) (K b1 w) (slx b1 1 (some (w64 ((b1.len:Int)-n2))) none none fun s3=>K s3 w)):callK Pg 22 [Az b1,Ai n2] w Oz K:=Fq (n:=.nil) CS_ok mixed Tryz.func22 (Eq.mpr (by kernel_rfl) h)
theorem go_28(b1:Sl)(K:Int→Bool→Int→Int→Sl→Bool→Int→Sl→Sl→Wp)(w:World)(h:al w 49 [.int .i64 0,.lit false,.int .i64 0,.int .i64 0,.sl (⟨none,0,0⟩),.lit false,.int .i64 0,.sl (⟨none,0,0⟩),.sl (⟨none,0,0⟩)] fun b2 W3=>al W3 49 [.int .i64 0,.lit false,.int .i64 0,.int .i64 0,.sl (⟨none,0,0⟩),.lit false,.int .i64 0,.sl (⟨none,0,0⟩),.sl (⟨none,0,0⟩)] fun b4 W5=>st W5 b4 0 [.int .i64 (b1.len:Int),.lit false,.int .i64 0,.int .i64 0,.sl (⟨none,0,0⟩),.lit false,.int .i64 0,.sl (⟨none,0,0⟩),.sl (⟨none,0,0⟩)] fun W6=>joinK [.adr,Ki] (fun k7=>drawK W6 fun D W8=>ldD D W8 Ki b4 0 fun n9=>(callK Pg 22 [Az b1,Ai 24] W8 Oz fun a10 W11=>Mod D W8 W11∧(callK Pg 21 [Az a10,Ai n9] W11 (.tup [.agg [Ki,Ki],Li]) fun n12 n13 n14 W15=>Mod D W8 W15∧al W15 42 [.int .i64 0,.int .i64 0] fun b16 W17=>Mod D W8 W17∧st W17 b16 0 [.int .i64 n12,.int .i64 n13] fun W18=>Mod D W8 W18∧k7 (b16,0) n14 W18)∧(al W11 42 [.int .i64 0,.int .i64 0] fun b19 W20=>Mod D W8 W20∧callK Pg 21 [Az a10,Ai n9] W20 (.tup [.agg [Ki,Ki],Li]) fun n21 n22 n23 W24=>Mod D W8 W24∧st W24 b19 0 [.int .i64 n21,.int .i64 n22] fun W25=>Mod D W8 W25∧k7 (b19,0) n23 W25))∧(al W8 42 [.int .i64 0,.int .i64 0] fun b26 W27=>Mod D W8 W27∧callK Pg 22 [Az b1,Ai 24] W27 Oz fun a28 W29=>Mod D W8 W29∧callK Pg 21 [Az a28,Ai n9] W29 (.tup [.agg [Ki,Ki],Li]) fun n30 n31 n32 W33=>Mod D W8 W33∧st W33 b26 0 [.int .i64 n30,.int .i64 n31] fun W34=>Mod D W8 W34∧k7 (b26,0) n32 W34)) fun t35 e36 W37=>ifK (e36 != 0) (ld W37 Ki b4 0 fun n38=>ld W37 .bool b4 1 fun c39=>ld W37 Ki b4 2 fun n40=>ld W37 Ki b4 3 fun n41=>ld W37 .sl b4 4 fun a42=>ld W37 .bool b4 5 fun c43=>ld W37 Ki b4 6 fun n44=>ld W37 .sl b4 7 fun a45=>ld W37 .sl b4 8 fun a46=>st W37 b2 0 [.int .i64 n38,.bool c39,.int .i64 n40,.int .i64 n41,.sl a42,.bool c43,.int .i64 n44,.sl a45,.sl a46] fun W47=>ld W47 Ki b2 0 fun n48=>ld W47 .bool b2 1 fun c49=>ld W47 Ki b2 2 fun n50=>ld W47 Ki b2 3 fun n51=>ld W47 .sl b2 4 fun a52=>ld W47 .bool b2 5 fun c53=>ld W47 Ki b2 6 fun n54=>ld W47 .sl b2 7 fun a55=>ld W47 .sl b2 8 fun a56=>K n48 c49 n50 n51 a52 c53 n54 a55 a56 W47) (st W37 b4 1 [.lit true] fun W57=>ld W57 Ki t35.1 t35.2 fun n58=>ld W57 Ki t35.1 (t35.2+1) fun n59=>st W57 b4 2 [.int .i64 n58,.int .i64 n59] fun W60=>ld W60 Ki t35.1 t35.2 fun n61=>ld W60 Ki t35.1 (t35.2+1) fun n62=>ld W60 Ki t35.1 t35.2 fun n63=>joinK [.bool] (fun k64=>loopL [.bool,Ki] (fun good66 at_67 W68 g65=>ifK (decide (at_67<w64 (n61+n62))) (al W68 62 [.int .i64 0,.int .i64 0,.lit false] fun b69 W70=>st W70 b69 0 [.int .i64 at_67,.int .i64 (mnI (w64 (at_67+4100)) (w64 (n61+n62))),.lit false] fun W71=>ld W71 Ki b69 0 fun n72=>ld W71 Ki b69 1 fun n73=>slx b1 1 (some n72) (some n73) none fun s74=>callK Pg 23 [Az s74] W71 (.tup [Ls,Li]) fun a75 n76 W77=>st W77 b69 2 [.bool (n76==0)] fun W78=>joinK [.bool] (fun k79=>ifK good66 (ld W78 .bool b69 2 fun c80=>k79 c80 W78) (k79 false W78)) fun good81 W82=>ld W82 .sl b4 4 fun a83=>ld W82 Ki b69 0 fun n84=>ld W82 Ki b69 1 fun n85=>ld W82 .bool b69 2 fun c86=>al W82 62 [.int .i64 n84,.int .i64 n85,.bool c86] fun b87 W88=>ap W88 62 3 24 [.int .i64 0,.int .i64 0,.lit false] a83 (⟨some (b87,0),1,1⟩) fun a89 W90=>st W90 b4 4 [.sl a89] fun W91=>g65 good81 (w64 (at_67+4100)) W91) (k64 good66 W68)) [.lit true,.int .i64 n63] W60) fun good92 W93=>joinK [.adr,Ki] (fun k94=>drawK W93 fun D W95=>ldD D W95 Ki t35.1 t35.2 fun n96=>slx b1 1 (some n96) (some (w64 (n61+n62))) none fun s97=>ldD D W95 Ki t35.1 t35.2 fun n98=>ldD D W95 Ki t35.1 (t35.2+1) fun n99=>(callK Pg 24 [Az s97,.agg [.int .i64 n98,.int .i64 n99]] W95 (.tup [.agg [Ki,.sl],Li]) fun n100 a101 n102 W103=>Mod D W95 W103∧al W103 46 [.int .i64 0,.sl (⟨none,0,0⟩)] fun b104 W105=>Mod D W95 W105∧st W105 b104 0 [.int .i64 n100,.sl a101] fun W106=>Mod D W95 W106∧k94 (b104,0) n102 W106)∧(al W95 46 [.int .i64 0,.sl (⟨none,0,0⟩)] fun b107 W108=>Mod D W95 W108∧callK Pg 24 [Az s97,.agg [.int .i64 n98,.int .i64 n99]] W108 (.tup [.agg [Ki,.sl],Li]) fun n109 a110 n111 W112=>Mod D W95 W112∧st W112 b107 0 [.int .i64 n109,.sl a110] fun W113=>Mod D W95 W113∧k94 (b107,0) n111 W113)) fun foot114 g115 W116=>joinK [.bool] (fun k117=>ifK (!good92) (k117 true W116) (k117 (g115 != 0) W116)) fun t92118 W119=>ifK t92118 (ld W119 Ki b4 0 fun n120=>ld W119 .bool b4 1 fun c121=>ld W119 Ki b4 2 fun n122=>ld W119 Ki b4 3 fun n123=>ld W119 .sl b4 4 fun a124=>ld W119 .bool b4 5 fun c125=>ld W119 Ki b4 6 fun n126=>ld W119 .sl b4 7 fun a127=>ld W119 .sl b4 8 fun a128=>st W119 b2 0 [.int .i64 n120,.bool c121,.int .i64 n122,.int .i64 n123,.sl a124,.bool c125,.int .i64 n126,.sl a127,.sl a128] fun W129=>ld W129 Ki b2 0 fun n130=>ld W129 .bool b2 1 fun c131=>ld W129 Ki b2 2 fun n132=>ld W129 Ki b2 3 fun n133=>ld W129 .sl b2 4 fun a134=>ld W129 .bool b2 5 fun c135=>ld W129 Ki b2 6 fun n136=>ld W129 .sl b2 7 fun a137=>ld W129 .sl b2 8 fun a138=>K n130 c131 n132 n133 a134 c135 n136 a137 a138 W129) (st W119 b4 5 [.lit true] fun W139=>ld W139 Ki foot114.1 foot114.2 fun n140=>ld W139 .sl foot114.1 (foot114.2+1) fun a141=>st W139 b4 6 [.int .i64 n140,.sl a141] fun W142=>joinK [] (fun k143=>loopL [Ki,Ki] (fun at_145 i146 W147 g144=>ld W147 .sl foot114.1 (foot114.2+1) fun a148=>ifK (decide (i146<(a148.len:Int))) (joinK [Ki] (fun k149=>loopL [Ki,.str,.bool,Ki] (fun at_151 end_152 any153 k154 W155 g150=>ld W155 .sl foot114.1 (foot114.2+1) fun a156=>ix a156 5 i146 fun b157 o158=>ld W155 .sl b157 (o158+1) fun a159=>ifK (decide (k154<(a159.len:Int))) (drawK W155 fun D W160=>ldD D W160 .sl foot114.1 (foot114.2+1) fun a161=>ix a161 5 i146 fun b162 o163=>ldD D W160 .sl b162 (o163+1) fun a164=>ix a164 4 k154 fun b165 o166=>ldD D W160 Ki b165 o166 fun n167=>ldD D W160 Ki b165 (o166+1) fun n168=>ldD D W160 Ki b165 (o166+2) fun n169=>ldD D W160 .str b165 (o166+3) fun s170=>ldD D W160 .sl foot114.1 (foot114.2+1) fun a171=>ix a171 5 i146 fun b172 o173=>ldD D W160 Ki b172 o173 fun n174=>al W160 54 [.int .i64 0,.int .i64 0,.int .i64 0,.int .i64 0,.int .i64 0,.str [],.int .i64 0,.int .i64 0,.int .i64 0,.sl (⟨none,0,0⟩)] fun b175 W176=>Mod D W160 W176∧st W176 b175 0 [.int .i64 at_151,.int .i64 0,.int .i64 n167,.int .i64 n168,.int .i64 n169,.str s170,.int .i64 n174,.int .i64 0,.int .i64 0,.sl (⟨none,0,0⟩)] fun W177=>ld W177 Ki b175 2 fun n178=>st W177 b175 1 [.int .i64 (w64 ((w64 (at_151+n178))+5))] fun W179=>ld W179 Ki b175 1 fun n180=>ld W179 Ki b175 0 fun n181=>ld W179 Ki b175 1 fun n182=>slx b1 1 (some n181) (some n182) none fun s183=>callK Pg 25 [Ap (some (b175,0)),Az s183] W179 (.tup []) fun W184=>ld W184 Ki b175 7 fun n185=>joinK [.str,.bool] (fun k186=>ifK (n185==0) (joinK [.bool] (fun k187=>ifK any153 (ld W184 .sl b175 9 fun a188=>ix a188 3 0 fun b189 o190=>ld W184 .str b189 (o190+1) fun s191=>k187 (Op.bytesLess s191 end_152) W184) (k187 false W184)) fun t160192 W193=>joinK [] (fun k194=>ifK t160192 (st W193 b175 7 [.int .i64 2] fun W195=>k194 W195) (k194 W193)) fun W196=>ld W196 .sl b175 9 fun a197=>ld W196 .sl b175 9 fun a198=>ix a197 3 (w64 ((a198.len:Int)-1)) fun b199 o200=>ld W196 .str b199 (o200+1) fun s201=>k186 s201 true W196) (k186 end_152 any153 W184)) fun end_202 any203 W204=>ld W204 .sl b4 8 fun a205=>ld W204 Ki b175 0 fun n206=>ld W204 Ki b175 1 fun n207=>ld W204 Ki b175 2 fun n208=>ld W204 Ki b175 3 fun n209=>ld W204 Ki b175 4 fun n210=>ld W204 .str b175 5 fun s211=>ld W204 Ki b175 6 fun n212=>ld W204 Ki b175 7 fun n213=>ld W204 Ki b175 8 fun n214=>ld W204 .sl b175 9 fun a215=>al W204 54 [.int .i64 n206,.int .i64 n207,.int .i64 n208,.int .i64 n209,.int .i64 n210,.str s211,.int .i64 n212,.int .i64 n213,.int .i64 n214,.sl a215] fun b216 W217=>ap W217 54 10 104 [.int .i64 0,.int .i64 0,.int .i64 0,.int .i64 0,.int .i64 0,.str [],.int .i64 0,.int .i64 0,.int .i64 0,.sl (⟨none,0,0⟩)] a205 (⟨some (b216,0),1,1⟩) fun a218 W219=>st W219 b4 8 [.sl a218] fun W220=>g150 n180 end_202 any203 (w64 (k154+1)) W220) (k149 at_151 W155)) [.int .i64 at_145,.str [],.lit false,.int .i64 0] W147) fun at_221 W222=>g144 at_221 (w64 (i146+1)) W222) (k143 W147)) [.int .i64 0,.int .i64 0] W142) fun W223=>ld W223 Ki b4 0 fun n224=>ld W223 .bool b4 1 fun c225=>ld W223 Ki b4 2 fun n226=>ld W223 Ki b4 3 fun n227=>ld W223 .sl b4 4 fun a228=>ld W223 .bool b4 5 fun c229=>ld W223 Ki b4 6 fun n230=>ld W223 .sl b4 7 fun a231=>ld W223 .sl b4 8 fun a232=>st W223 b2 0 [.int .i64 n224,.bool c225,.int .i64 n226,.int .i64 n227,.sl a228,.bool c229,.int .i64 n230,.sl a231,.sl a232] fun W233=>ld W233 Ki b2 0 fun n234=>ld W233 .bool b2 1 fun c235=>ld W233 Ki b2 2 fun n236=>ld W233 Ki b2 3 fun n237=>ld W233 .sl b2 4 fun a238=>ld W233 .bool b2 5 fun c239=>ld W233 Ki b2 6 fun n240=>ld W233 .sl b2 7 fun a241=>ld W233 .sl b2 8 fun a242=>K n234 c235 n236 n237 a238 c239 n240 a241 a242 W233))):callK Pg 15 [Az b1] w (.one (.agg [Ki,.bool,Ki,Ki,.sl,.bool,Ki,.sl,.sl])) K:=Fq (n:=(n0 .nil (n0 .nil (n0 (.mk (some [.tmp 4 (.leaf (.adr)),.tmp 5 Li]) [] [0,2,3] (tk [0,2,3] (.two 1 (.two 4 (.take 5 (.take 6 (.take 7 (.eff 8 (.eff 9 (.take 10 .done)))))) 8 (.eff 4 (.take 5 (.take 6 (.take 7 (.eff 9 (.take 10 .done))))))) 8 (.eff 1 (.eff 4 (.take 5 (.take 6 (.take 7 (.eff 9 (.take 10 .done))))))))) .nil .nil) (n0 .nil (n0 .nil (n0 .nil (n0 .nil (n0 .nil (n0 (n0 .nil (.mk (some [.tmp 6 Lb]) [] [0,2,3,4,7] .done (.mk none [.tmp 6 Lb,.tmp 8 Li] [0,2,3,4,7] .done (n0 .nil (n0 (n0 (n0 .nil (n0 .nil (n0 .nil (n0 (.mk (some [.tmp 6 Lb]) [] [0,2,3,4,7,8,9] .done .nil .nil) .nil)))) .nil) .nil)) .nil) .nil)) (n0 (.mk (some [.tmp 10 (.leaf (.adr)),.tmp 11 Li]) [] [0,2,3,6] (tk [0,1,2,3,4,5] (.two 6 (.take 7 (.take 8 (.take 9 (.eff 10 (.eff 11 (.take 12 .done)))))) 10 (.eff 6 (.take 7 (.take 8 (.take 9 (.eff 11 (.take 12 .done)))))))) .nil .nil) (n0 (n0 (.mk (some [.tmp 92 Lb]) [] [0,2,3,10] .done .nil .nil) .nil) (n0 .nil (n0 .nil (n0 .nil (n0 (n0 .nil (.mk (some []) [] [2,3] .done (.mk none [.tmp 12 Li,.tmp 13 Li] [0,2,3,10] .done (n0 .nil (n0 (n0 (n0 .nil (n0 .nil (n0 .nil (.mk (some [.tmp 12 Li]) [] [0,2,3,10,13] .done (.mk none [.tmp 12 Li,.tmp 14 Lt,.tmp 15 Lb,.tmp 16 Li] [0,2,3,10,13] .done (n0 .nil (n0 (n0 (n0 (.mk none [] [] (tk [0,1,2,3,4,5,6,7,8,9,10,11,12,13,14,15,16] (.eff 17 (.last 18))) .nil .nil) (n0 .nil (n0 .nil (n0 .nil (n0 (n0 .nil (.mk (some [.tmp 14 Lt,.tmp 15 Lb]) [] [0,2,3,10,12,13,16,17] .done (n0 (n0 (.mk (some [.tmp 160 Lb]) [] [0,2,3,10,12,13,16,17] .done .nil .nil) (.mk (some []) [] [0,2,3,10,12,13,16,17] .done .nil .nil)) .nil) .nil)) .nil))))) .nil) .nil)) .nil) .nil)))) .nil) .nil)) .nil) .nil)) .nil)))))))))))))))) CS_ok mixed Tryz.func15 (Eq.mpr (by kernel_rfl) h)
theorem go_25(x1:PA)(tile2:Sl)(K:Wp)(w:World)(h:ix tile2 1 (w64 ((tile2.len:Int)-5)) fun b3 o4=>ld w (.int .u8) b3 o4 fun n5=>dr x1 fun b6 o7=>st w b6 (o7+8) [.int .i64 (w64 (n5))] fun W8=>dr x1 fun b9 o10=>st W8 b9 (o10+7) [.int .i64 1] fun W11=>dr x1 fun b12 o13=>ld W11 Ki b12 (o13+2+1) fun n14=>callK Pg 46 [Az tile2,Ai n14] W11 (.tup [Lp,Li]) fun p15 n16 W17=>joinK [.bool] (fun k18=>drawK W17 fun D W19=>ifK (n16 != 0) (k18 true W19) (dr x1 fun b20 o21=>ldD D W19 Ki b20 (o21+2+2) fun n22=>callK Pg 47 [Ap p15] W19 Oi fun n23 W24=>Mod D W19 W24∧k18 (n23 != n22) W24)) fun t4725 W26=>ifK t4725 (K W26) (callK Pg 48 [Ap p15,Ai 0] W26 (.tup [Lt,Lt,Li]) fun s27 s28 n29 W30=>drawK W30 fun D W31=>ssx s27 none (some (mnI (s27.length:Int) 64)) fun s32=>dr x1 fun b33 o34=>ldD D W31 .str b33 (o34+2+3) fun s35=>ifK (!(s32==s35)) (K W31) (dr x1 fun b36 o37=>st W31 b36 (o37+7) [.int .i64 0] fun W38=>joinK [] (fun k39=>loopL [Ki] (fun i41 W42 g40=>callK Pg 47 [Ap p15] W42 Oi fun n43 W44=>ifK (decide (i41<n43)) (callK Pg 48 [Ap p15,Ai i41] W44 (.tup [Lt,Lt,Li]) fun s45 s46 n47 W48=>drawK W48 fun D W49=>dr x1 fun b50 o51=>ldD D W49 .sl b50 (o51+9) fun a52=>dr x1 fun b53 o54=>ldD D W49 Ki b53 (o54+6) fun n55=>al W49 27 [.int .i64 n55,.str s45,.str s46] fun b56 W57=>Mod D W49 W57∧ap W57 27 3 40 [.int .i64 0,.str [],.str []] a52 (⟨some (b56,0),1,1⟩) fun a58 W59=>Mod D W49 W59∧dr x1 fun b60 o61=>st W59 b60 (o61+9) [.sl a58] fun W62=>g40 (w64 (i41+1)) W62) (k39 W44)) [.int .i64 0] W38) fun W63=>K W63))):callK Pg 25 [Ap x1,Az tile2] w (.tup []) K:=Fq (n:=(n0 .nil (n0 .nil (n0 .nil (n0 (n0 (.mk (some [.tmp 47 Lb]) [] [0,4] (tk [0,1,2] (.split 2 (.take 3 (.take 4 (.take 5 (.take 6 (.take 7 (.take 8 (.take 9 (.take 10 (.take 11 .done))))))))) (.take 3 (.take 5 (.take 6 (.take 7 (.take 8 (.take 9 (.eff 4 (.take 10 (.take 11 .done))))))))))) .nil .nil) .nil) (n0 .nil (n0 (n0 (.mk none [] [] (tk [0,1,2,3,4,5,6,7,8,9,10] .done) .nil .nil) .nil) (n0 .nil (n0 .nil (.mk (some []) [] [] .done (.mk none [.tmp 9 Li] [0,4] .done (n0 .nil (n0 (n0 (n0 .nil (.mk none [] [] (tk [0,1,2,3,4,5,6,7,8,9,10,11] (.eff 12 (.eff 13 (.take 14 (.take 15 (.last 16)))))) .nil .nil)) .nil) .nil)) .nil) .nil)))))))))) CS_ok mixed Tryz.func25 (Eq.mpr (by kernel_rfl) h)
theorem go_30(b1:Sl)(length2:Int)(K:Sl→Wp)(w:World)(h:callK Pg 15 [Az b1] w (.one (.agg [Ki,.bool,Ki,Ki,.sl,.bool,Ki,.sl,.sl])) fun n3 c4 n5 n6 a7 c8 n9 a10 a11 W12=>al W12 49 [.int .i64 0,.lit false,.int .i64 0,.int .i64 0,.sl (⟨none,0,0⟩),.lit false,.int .i64 0,.sl (⟨none,0,0⟩),.sl (⟨none,0,0⟩)] fun b13 W14=>st W14 b13 0 [.int .i64 n3,.bool c4,.int .i64 n5,.int .i64 n6,.sl a7,.bool c8,.int .i64 n9,.sl a10,.sl a11] fun W15=>ld W15 Ki b13 0 fun n16=>joinK [.sl] (fun k17=>ifK (n16 != length2) (ld W15 Ki b13 0 fun n18=>al W15 34 [.int .i64 0,.int .i64 0,.int .i64 n18] fun b19 W20=>ap W20 34 3 24 [.int .i64 0,.int .i64 0,.int .i64 0] (⟨none,0,0⟩) (⟨some (b19,0),1,1⟩) fun a21 W22=>k17 a21 W22) (k17 (⟨none,0,0⟩) W15)) fun l23 W24=>ld W24 .bool b13 1 fun c25=>ifK (!c25) (ld W24 Ki b13 0 fun n26=>ld W24 Ki b13 0 fun n27=>al W24 34 [.int .i64 1,.int .i64 (mxI (w64 (n26-24)) 0),.int .i64 n27] fun b28 W29=>ap W29 34 3 24 [.int .i64 0,.int .i64 0,.int .i64 0] l23 (⟨some (b28,0),1,1⟩) fun a30 W31=>K a30 W31) (joinK [.sl] (fun k32=>loopL [.sl,Ki] (fun l34 i35 W36 g33=>ld W36 .sl b13 4 fun a37=>ifK (decide (i35<(a37.len:Int))) (ld W36 .sl b13 4 fun a38=>ix a38 3 i35 fun b39 o40=>ld W36 .bool b39 (o40+2) fun c41=>joinK [.sl] (fun k42=>ifK (!c41) (drawK W36 fun D W43=>ldD D W43 .sl b13 4 fun a44=>ix a44 3 i35 fun b45 o46=>ldD D W43 Ki b45 o46 fun n47=>ldD D W43 .sl b13 4 fun a48=>ix a48 3 i35 fun b49 o50=>ldD D W43 Ki b49 (o50+1) fun n51=>al W43 34 [.int .i64 2,.int .i64 n47,.int .i64 n51] fun b52 W53=>Mod D W43 W53∧ap W53 34 3 24 [.int .i64 0,.int .i64 0,.int .i64 0] l34 (⟨some (b52,0),1,1⟩) fun a54 W55=>Mod D W43 W55∧k42 a54 W55) (k42 l34 W36)) fun l56 W57=>g33 l56 (w64 (i35+1)) W57) (k32 l34 W36)) [.sl l23,.int .i64 0] W24) fun l58 W59=>ifK (decide ((l23.len:Int)<(l58.len:Int))) (K l58 W59) (ld W59 .bool b13 5 fun c60=>ifK (!c60) (ld W59 Ki b13 2 fun n61=>ld W59 Ki b13 2 fun n62=>ld W59 Ki b13 3 fun n63=>al W59 34 [.int .i64 3,.int .i64 n61,.int .i64 (w64 (n62+n63))] fun b64 W65=>ap W65 34 3 24 [.int .i64 0,.int .i64 0,.int .i64 0] l58 (⟨some (b64,0),1,1⟩) fun a66 W67=>K a66 W67) (joinK [.sl] (fun k68=>loopL [.sl,Ki] (fun l70 i71 W72 g69=>ld W72 .sl b13 8 fun a73=>ifK (decide (i71<(a73.len:Int))) (ld W72 .sl b13 8 fun a74=>ix a74 10 i71 fun b75 o76=>ld W72 Ki b75 o76 fun n77=>ld W72 Ki b75 (o76+1) fun n78=>ld W72 Ki b75 (o76+2) fun n79=>ld W72 Ki b75 (o76+3) fun n80=>ld W72 Ki b75 (o76+4) fun n81=>ld W72 .str b75 (o76+5) fun s82=>ld W72 Ki b75 (o76+6) fun n83=>ld W72 Ki b75 (o76+7) fun n84=>ld W72 Ki b75 (o76+8) fun n85=>ld W72 .sl b75 (o76+9) fun a86=>al W72 54 [.int .i64 0,.int .i64 0,.int .i64 0,.int .i64 0,.int .i64 0,.str [],.int .i64 0,.int .i64 0,.int .i64 0,.sl (⟨none,0,0⟩)] fun b87 W88=>st W88 b87 0 [.int .i64 n77,.int .i64 n78,.int .i64 n79,.int .i64 n80,.int .i64 n81,.str s82,.int .i64 n83,.int .i64 n84,.int .i64 n85,.sl a86] fun W89=>ld W89 Ki b87 7 fun n90=>joinK [.sl] (fun k91=>ifK (n90==1) (ld W89 Ki b87 0 fun n92=>ld W89 Ki b87 1 fun n93=>al W89 34 [.int .i64 4,.int .i64 n92,.int .i64 n93] fun b94 W95=>ap W95 34 3 24 [.int .i64 0,.int .i64 0,.int .i64 0] l70 (⟨some (b94,0),1,1⟩) fun a96 W97=>k91 a96 W97) (k91 l70 W89)) fun l98 W99=>ld W99 Ki b87 7 fun n100=>joinK [.sl] (fun k101=>ifK (n100==2) (ld W99 Ki b87 0 fun n102=>ld W99 Ki b87 1 fun n103=>al W99 34 [.int .i64 5,.int .i64 n102,.int .i64 n103] fun b104 W105=>ap W105 34 3 24 [.int .i64 0,.int .i64 0,.int .i64 0] l98 (⟨some (b104,0),1,1⟩) fun a106 W107=>k101 a106 W107) (k101 l98 W99)) fun l108 W109=>g69 l108 (w64 (i71+1)) W109) (k68 l70 W72)) [.sl l58,.int .i64 0] W59) fun l110 W111=>K l110 W111)))):callK Pg 12 [Az b1,Ai length2] w Oz K:=Fq (n:=(n0 .nil (n0 .nil (n0 .nil (n0 (n0 .nil (.mk (some [.tmp 6 Ls]) [] [5] .done .nil .nil)) (n0 .nil (n0 .nil (n0 (n0 .nil (.mk (some [.tmp 6 Ls]) [] [5,7] .done (.mk none [.tmp 6 Ls,.tmp 8 Li] [5,7] .done (n0 .nil (n0 (n0 (n0 .nil (.mk (some [.tmp 6 Ls]) [] [5,7,8] .done (.mk none [] [] (tk [0,1,2,3,4,5,6,7,8,9,10,11,12,13] (.eff 14 (.eff 15 (.take 16 .done)))) .nil .nil) .nil)) .nil) .nil)) .nil) .nil)) (n0 .nil (n0 .nil (n0 (n0 .nil (.mk (some [.tmp 6 Ls]) [] [] .done (.mk none [.tmp 6 Ls,.tmp 9 Li] [5] .done (n0 .nil (n0 (n0 (n0 .nil (n0 (n0 .nil (.mk (some [.tmp 6 Ls]) [] [5,9,10] .done .nil .nil)) (n0 .nil (.mk (some [.tmp 6 Ls]) [] [5,9] .done .nil .nil)))) .nil) .nil)) .nil) .nil)) .nil))))))))))) CS_ok mixed Tryz.func12 (Eq.mpr (by kernel_rfl) h)
theorem go_29(b1:Sl)(K:Sl→Wp)(w:World)(h:callK Pg 15 [Az b1] w (.one (.agg [Ki,.bool,Ki,Ki,.sl,.bool,Ki,.sl,.sl])) fun n2 c3 n4 n5 a6 c7 n8 a9 a10 W11=>al W11 49 [.int .i64 0,.lit false,.int .i64 0,.int .i64 0,.sl (⟨none,0,0⟩),.lit false,.int .i64 0,.sl (⟨none,0,0⟩),.sl (⟨none,0,0⟩)] fun b12 W13=>st W13 b12 0 [.int .i64 n2,.bool c3,.int .i64 n4,.int .i64 n5,.sl a6,.bool c7,.int .i64 n8,.sl a9,.sl a10] fun W14=>joinK [.sl] (fun k15=>loopL [.sl,Ki] (fun l17 i18 W19 g16=>ld W19 .sl b12 8 fun a20=>ifK (decide (i18<(a20.len:Int))) (ld W19 .sl b12 8 fun a21=>ix a21 10 i18 fun b22 o23=>ld W19 .sl b22 (o23+9) fun a24=>ap W19 27 3 40 [.int .i64 0,.str [],.str []] l17 a24 fun a25 W26=>g16 a25 (w64 (i18+1)) W26) (k15 l17 W19)) [.sl (⟨none,0,0⟩),.int .i64 0] W14) fun l27 W28=>K l27 W28):callK Pg 7 [Az b1] w Oz K:=Fq (n:=(n0 .nil (n0 .nil (n0 .nil (n0 (n0 .nil (.mk (some [.tmp 4 Ls]) [] [] .done (.mk none [.tmp 4 Ls,.tmp 5 Li] [3] .done .nil .nil) .nil)) .nil))))) CS_ok mixed Tryz.func7 (Eq.mpr (by kernel_rfl) h)
theorem go_23(r1:PA)(K:Int→Wp)(w:World)(h:ifK r1.isNone (K 0 w) (dr r1 fun b2 o3=>ld w .sl b2 o3 fun a4=>K (a4.len:Int) w)):callK Pg 47 [Ap r1] w Oi K:=Fq (n:=.nil) CS_ok mixed Tryz.func47 (Eq.mpr (by kernel_rfl) h)
theorem go_24(r1:PA)(i2:Int)(K:List UInt8→List UInt8→Int→Wp)(w:World)(h:ifK r1.isNone (K [] [] 1 w) (joinK [.bool] (fun k3=>ifK (decide (i2<0)) (k3 true w) (dr r1 fun b4 o5=>ld w .sl b4 o5 fun a6=>k3 (decide ((a6.len:Int)≤i2)) w)) fun t197 W8=>ifK t197 (K [] [] 3 W8) (drawK W8 fun D W9=>dr r1 fun b10 o11=>ldD D W9 .sl b10 o11 fun a12=>ix a12 2 i2 fun b13 o14=>ldD D W9 .str b13 o14 fun s15=>dr r1 fun b16 o17=>ldD D W9 .sl b16 o17 fun a18=>ix a18 2 i2 fun b19 o20=>ldD D W9 .str b19 (o20+1) fun s21=>K s15 s21 0 W9))):callK Pg 48 [Ap r1,Ai i2] w (.tup [Lt,Lt,Li]) K:=Fq (n:=(n0 .nil (n0 .nil (n0 (n0 (.mk (some [.tmp 19 Lb]) [] [0,1] .done .nil .nil) .nil) (n0 (.mk none [] [] (tk [0,1,2,3,4,5,6,7,8,9,10,11,12,13,14,15,16,17,18] .done) .nil .nil) .nil))))) CS_ok mixed Tryz.func48 (Eq.mpr (by kernel_rfl) h)
end Go.Proofs.YtkgligdkihlfaaaGreat
