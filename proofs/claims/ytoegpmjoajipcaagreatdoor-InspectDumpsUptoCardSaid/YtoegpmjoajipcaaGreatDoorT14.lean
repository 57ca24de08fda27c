/- Part T14. -/
import Derived.Test.YtoegpmjoajipcaaGreatDoorT13
import Derived.Test.YtoegpmjoajipcaaGreatDoorT03
namespace Go.Proofs.YtoegpmjoajipcaaGreatDoor
open Go.Vw
open Go
theorem shape_far{u:World}{b:Nat}{o:Obj}(h:u.heap[b]? = some o)(hf:isFar o=true):u.shape? b=none:=by
 unfold World.shape?;rw [h]
 cases o<;>first | rfl | cases hf
def bInv(b:Nat):Inv where
 p u:=b<u.heap.size∧∀p s,Blk u b (bldC p s)→tyS u s
 av y:=y=b
 calm:=fun {u u'} h M=>⟨Nat.lt_of_lt_of_le h.1 M.size,fun p s hB=>(h.2 p s (hB.of_heap (M.block b h.1 id).symm)).keep M fun _ _ _=>id⟩
 st:=fun {u b' o vs} h hne=>⟨by rw [size_setCells];exact h.1,fun p s hB hc g o' hp=>by
  have hB':Blk u b (bldC p s):=hB.of_heap (heap_setCells vs u o b (fun e=>hne e.symm)).symm;obtain⟨k,hk⟩:=h.2 p s hB' hc g o' hp;exact⟨k,by rw [shape_setCells];exact hk⟩⟩
 put:=fun {u b' o o'} h ho hf hf'=>by
  have hlt:=heap_lt ho;refine⟨by simpa [World.putObj] using h.1,fun p s hB hc g off hp=>?_⟩;by_cases e:b=b'
  ·subst e;exact absurd hB (far_cell (World.putObj_heap_same hlt) hf')
  ·have hB':Blk u b (bldC p s):=hB.of_heap (World.putObj_heap_other e).symm;obtain⟨k,hk⟩:=h.2 p s hB' hc g off hp;have hg:g≠b':=fun e=>by rw [e,shape_far ho hf] at hk;cases hk
   exact⟨k,(shape_eq (World.putObj_heap_other hg)).trans hk⟩
theorem sl_inj{s t:Sl}(h:(LV.sl s).toV=(LV.sl t).toV):s.cap=t.cap∧(t.cap≠0→s.p=t.p):=by
 have h:Value.slice (slA s.cap s.p) s.len s.cap=Value.slice (slA t.cap t.p) t.len t.cap:=h;injection h with h1 h2 h3;refine⟨h3,fun hc=>?_⟩;obtain⟨p,n,c⟩:=s;obtain⟨q,k,d⟩:=t;dsimp only at *;subst h3;have e:∀b o,slA c (some (b,o))=some ⟨b,o,none⟩:=fun b o=>by
  show some (if c=0 then decA b o else⟨b,o,none⟩)=_;rw [if_neg hc]
 cases p with
 | none=>
  cases q with
  | none=>rfl
  | some y=>obtain⟨b,o⟩:=y;rw [e] at h1;cases h1
 | some x=>
  obtain⟨a,i⟩:=x
  cases q with
  | none=>rw [e] at h1;cases h1
  | some y=>obtain⟨b,o⟩:=y;rw [e,e] at h1;cases h1;rfl
theorem bInv_of{u:World}{b:Nat}{p:PA}{s:Sl}(hB:Blk u b (bldC p s))(ht:tyS u s):(bInv b).p u:=by
 refine⟨hB.lt,fun p2 s2 hB2 hc g o hp=>?_⟩;obtain⟨e,he⟩:=hB;obtain⟨e2,he2⟩:=hB2;rw [he] at he2;have h1:(bldC p s).toArray=(bldC p2 s2).toArray:=by
  injection he2 with h;injection h
 have h2:bldC p s=bldC p2 s2:=by simpa using h1
 have h3:(LV.sl s).toV=(LV.sl s2).toV:=by
  injection h2 with _ h;injection h
 obtain⟨h4,h5⟩:=sl_inj h3;exact ht (by rw [h4];exact hc) g o (by rw [h5 hc];exact hp)
def OwnP(hd:Str)(b:Nat)(es:List Ev)(m:BL):Prop:=∃s R,m=(b,bldC (some (b,0)) s)::R∧VecL R ET s (hd++es.flatMap txtE)∧(es.flatMap txtE).length≤8210*es.length∧(es.flatMap txtE).length≤35184372000000
theorem mml{α:Type}{L:List α}{x:α}:x∈L++[x]:=Lmr _ (Lms.2 rfl)
theorem mm2a{α:Type}{x y:α}:x∈([]:List α)++([x]++[y]):=by simp
theorem mm2b{α:Type}{x y:α}:y∈([]:List α)++([x]++[y]):=by simp
structure PS(u:World)(D0:Nat→Prop)(L:BL)(s:Sl)(wd w:World):Prop where
 a:At u D0 L w
 t:TabU w
 y:tyS w s
 m:Mod F0 wd w
section
variable {u wd w:World}{D0:Nat→Prop}{L:BL}{s:Sl}
theorem PS.step(h:PS u D0 L s wd w){w':World}(M:Mod F0 w w'):PS u D0 L s wd w':=
 ⟨h.a.keep0 M fun _=>id,h.t.keep M,h.y.keep M fun _ _ _=>id,h.m.trans M (fun _ _ h=>h) fun _ _ h=>h⟩
theorem PS.re(h:PS u D0 L s wd w):PS u D0 L s w w:=⟨h.a,h.t,h.y,Mod.refl _ _⟩
theorem PS.draw(h:PS u D0 L s wd w):PS u D0 L s w.drew w.drew:=(h.step (Mod.drew _ w)).re
theorem PS.num(h:PS u D0 L s wd w){n:Int}(hn:in40 n){K:Str→Wp}(hK:∀w',PS u D0 L s wd w'→K (numS n) w'):callK Tryz.prog c_7 [Ai n] w Ot K:=
 number_ok hn h.t fun w' M=>hK w' (h.step M)
theorem PS.quo(h:PS u D0 L s wd w){x:Str}(hx:x.length≤1048576){K:Str→Wp}(hK:∀w',PS u D0 L s wd w'→K (quoS x) w'):callK Tryz.prog c_9 [Au x] w Ot K:=
 quoted_ok hx fun w' M=>hK w' (h.step M)
theorem PS.al(h:PS u D0 L s wd w){e:TypeId}{cs:List LV}{K:Nat→Wp}(hK:∀b w',PS u D0 (L++[(b,cs.map LV.toV)]) s wd w'→K b w'):Go.Vw.al w e cs K:=
 h.a.alK fun b w' _ hA M=>hK b w' ⟨hA,h.t.keep M,h.y.keep M fun _ _ _=>id,h.m.trans M (fun _ _ h=>h) fun _ _ h=>h⟩
theorem PS.modD(h:PS u D0 L s wd w)(D:Nat→Prop):Mod D wd w:=h.m.mono fun _ _ h=>h.elim
end
section
variable {u wd w w0:World}{D0:Nat→Prop}{X Y R m:BL}{s:Sl}{b:Nat}{hd:Str}{es:List Ev}{K:Wp}
theorem new_ni{c:List Value}(hA:At u D0 ((X++(b,c)::R)++Y) w){q:Nat×List Value}(hq:q∈Y):¬(q.1=b∨Ks R q.1):=by
 have hnd:=hA.nodup;rw [List.map_append,List.nodup_append] at hnd;rintro (h | ⟨r,hr,h⟩)
 ·exact hnd.2.2 b (List.mem_map.2 ⟨(b,c),Lmr _ (Lcs ..),rfl⟩) q.1 (List.mem_map_of_mem hq) h.symm
 ·exact hnd.2.2 r.1 (List.mem_map_of_mem (Lmr _ (Lmc _ hr))) q.1 (List.mem_map_of_mem hq) h
theorem fin_ok(h:PS u D0 ((X++(b,bldC (some (b,0)) s)::R)++Y) s wd w)(hv:VecL R ET s (hd++es.flatMap txtE))(hlen:(es.flatMap txtE).length≤8210*es.length∧(es.flatMap txtE).length≤35184372000000)(hhd:hd.length≤100)(hsz:es.length≤4280000000){e:Ev}(hr:rngE e){b9:Nat}{ws:List Str}(hb9:(b9,(ws.map LV.str).map LV.toV)∈Y)(hw:txtE e=lineS ws)(hn:ws.length≤1000)
  (hK:∀w' m',At u D0 (X++m') w'→(bInv b).p w'→OwnP hd b (es++[e]) m'→Mod (fun y=>y=b∨Ks R y) wd w'→K w') :
  callK Tryz.prog c_10 [Ap (some (b,0)),Az (⟨some (b9,0),ws.length,ws.length⟩)] w (.tup []) K:=by
 have hl:=txtE_len hr;obtain⟨hlen,_⟩:=hlen;rw [hw] at hl;have ev:(es++[e]).flatMap txtE=es.flatMap txtE++lineS ws:=by rw [List.flatMap_append,←hw];simp
 refine line_ok (h.a.sub (Lsl _ _)) (.inl rfl) hv h.y (rd_words (h.a.own _ (Lmr _ hb9))) hn (by omega) (by rw [Lla];omega) fun w' s' R' hA' hv' ht' M=>?_;refine hK w' _ hA' (bInv_of (hA'.own (b,bldC (some (b,0)) s') (Lmr _ (Lcs ..))) ht') ⟨s',R',rfl,by rw [ev,←Laa];exact hv',?_,?_⟩ (h.m.trans M (fun _ _ h=>h.elim) fun _ _ h=>h)
 ·rw [ev,Lla,Lla,List.length_singleton];omega
 ·rw [ev,Lla];omega
theorem PS.init{tw:World}(ht:TabU tw)(hM:Mod F0 tw u)(hj:(bInv b).p u)(hA:At u (Ks (X++(b,bldC (some (b,0)) s)::R)) (X++(b,bldC (some (b,0)) s)::R) u):PS u (Ks (X++(b,bldC (some (b,0)) s)::R)) ((X++(b,bldC (some (b,0)) s)::R)++[]) s u u:=
 ⟨by rw [Lan];exact hA,ht.keep hM,hj.2 _ _ (hA.own (b,_) (Lmr _ (Lcs ..))),Mod.refl _ _⟩
section
variable (ht:TabU w0)(hM:Mod F0 w0 u)(hj:(bInv b).p u)(hA:At u (Ks (X++m)) (X++m) u)(ho:OwnP hd b es m)(hhd:hd.length≤100)(hsz:es.length≤4280000000)
include ht hM hj hA ho hhd hsz
theorem pm_record{part:Int}{k z:Str}(hr:rngE (.record part k z))(hK:∀u' m',At u (Ks (X++m)) (X++m') u'→(bInv b).p u'→OwnP hd b (es++[.record part k z]) m'→K u') :
  callI Tryz.prog (ifc t_prin b) "winnow/inspect.record" [Ai part,Au k,Au z] u (.tup []) K:=by
 obtain⟨s,R,rfl,hv,hlen⟩:=ho;refine callI_of (f:=c_11) (args':=[Ap (some (b,0)),Ai part,Au k,Au z]) (by kernel_rfl) (go_11 _ _ _ _ _ _ ?_);have P0:=PS.init ht hM hj hA;have h1:=hr.1;have h2:=hr.2;refine P0.quo (by omega) fun w1 P1=>P1.quo (by omega) fun w2 P2=>P2.al fun b9 w3 P3=>?_;rw [Laa] at P3;exact fin_ok (ws:=[[114,101,99,111,114,100],quoS k,quoS z]) P3 hv hlen hhd hsz hr mml rfl (by simp) fun w' m' a1 a2 a3 _=>hK w' m' a1 a2 a3
theorem pm_trailer{a c tb tp:Int}{ok:Bool}(hr:rngE (.trailer a c tb tp ok))(hK:∀u' m',At u (Ks (X++m)) (X++m') u'→(bInv b).p u'→OwnP hd b (es++[.trailer a c tb tp ok]) m'→K u') :
  callI Tryz.prog (ifc t_prin b) "winnow/inspect.trailer" [.agg [.int .i64 a,.int .i64 c],.agg [.int .i64 tb,.int .i64 tp],Ab ok] u (.tup []) K:=by
 obtain⟨s,R,rfl,hv,hlen⟩:=ho;refine callI_of (f:=c_12) (args':=[Ap (some (b,0)),.agg [.int .i64 a,.int .i64 c],.agg [.int .i64 tb,.int .i64 tp],Ab ok]) (by kernel_rfl) (go_12 _ _ _ _ _ _ _ _ ?_);have P0:=PS.init ht hM hj hA;refine P0.al fun b7 w1 P1=>P1.al fun b9 w2 P2=>?_;rw [Laa,Laa] at P2;refine join0 (fun u'=>∃m',At u (Ks (X++(b,bldC (some (b,0)) s)::R)) (X++m') u'∧(bInv b).p u'∧OwnP hd b (es++[.trailer a c tb tp ok]) m') ?_ (by rintro u' ⟨m',h1,h2,h3⟩;exact hK u' m' h1 h2 h3);intro k hk
 cases ok with
 | true=>
  obtain⟨h1,h2⟩:=hr rfl;refine ifK_t rfl ⟨fun y=>y=b∨Ks R y,?_⟩;have P3:=P2.draw;have hn:¬(b9=b∨Ks R b9):=new_ni P3.a (q:=(b9,[.int .i64 tb,.int .i64 tp])) mm2b;have hB:Blk w2.drew b9 [.int .i64 tb,.int .i64 tp]:=P3.a.own (b9,_) (Lmr _ mm2b);refine hB.ldDK (k:=Ki) tb hn rfl (hB.ldDK (k:=Ki) tp hn rfl (P3.num h1 fun w4 P4=>⟨P4.modD _,P4.num h2 fun w5 P5=>⟨P5.modD _,P5.al fun b19 w6 P6=>⟨P6.modD _,?_⟩⟩⟩));rw [Laa] at P6;exact fin_ok (ws:=[[116,114,97,105,108,101,114],numS tb,numS tp]) P6 hv hlen hhd hsz hr mml rfl (by simp) fun w' m' a1 a2 a3 a4=>⟨a4,hk w' ⟨m',a1,a2,a3⟩⟩
 | false=>
  refine ifK_f rfl (P2.al fun b22 w4 P4=>?_);rw [Laa] at P4;exact fin_ok (ws:=[[110,111,32,116,114,97,105,108,101,114]]) P4 hv hlen hhd hsz hr mml rfl (by simp) fun w' m' a1 a2 a3 a4=>hk w' ⟨m',a1,a2,a3⟩
theorem pm_page{p:PgP}(hr:rngE (.page p))(hK:∀u' m',At u (Ks (X++m)) (X++m') u'→(bInv b).p u'→OwnP hd b (es++[.page p]) m'→K u') :
  callI Tryz.prog (ifc t_prin b) "winnow/inspect.page" [.agg [.int .i64 p.frm,.int .i64 p.to],Ab (p.ok)] u (.tup []) K:=by
 obtain⟨s,R,rfl,hv,hlen⟩:=ho;obtain⟨a,c,ok⟩:=p;refine callI_of (f:=c_13) (args':=[Ap (some (b,0)),.agg [.int .i64 a,.int .i64 c],Ab ok]) (by kernel_rfl) (go_13 _ _ _ _ _ _ ?_);have P0:=PS.init ht hM hj hA;refine P0.al fun b5 w1 P1=>⟨fun y=>y=b∨Ks R y,?_⟩;rw [Laa] at P1;have P3:=P1.draw;have hn:¬(b5=b∨Ks R b5):=new_ni P3.a (q:=(b5,[.int .i64 a,.int .i64 c])) mml;have hB:Blk w1.drew b5 [.int .i64 a,.int .i64 c]:=P3.a.own (b5,_) (Lmr _ mml);refine hB.ldDK (k:=Ki) a hn rfl (hB.ldDK (k:=Ki) c hn rfl (P3.num hr.1 fun w4 P4=>⟨P4.modD _,P4.num hr.2 fun w5 P5=>⟨P5.modD _,how_ok ⟨P5.modD _,P5.al fun b19 w6 P6=>⟨P6.modD _,?_⟩⟩⟩⟩));rw [Laa] at P6;exact fin_ok (ws:=[[112,97,103,101],numS a,numS c,howS ok]) P6 hv hlen hhd hsz hr mml rfl (by simp) fun w' m' a1 a2 a3 a4=>⟨a4,hK w' m' a1 a2 a3⟩
theorem pm_footer{a c P:Int}{sI:Sl}{l:List PartI}{ok:Bool}(hr:rngE (.footer a c P l ok))(hK:∀u' m',At u (Ks (X++m)) (X++m') u'→(bInv b).p u'→OwnP hd b (es++[.footer a c P l ok]) m'→K u') :
  callI Tryz.prog (ifc t_prin b) "winnow/inspect.footer" [.agg [.int .i64 a,.int .i64 c],.agg [.int .i64 P,.sl sI],Ab ok] u (.tup []) K:=by
 obtain⟨s,R,rfl,hv,hlen⟩:=ho;refine callI_of (f:=c_14) (args':=[Ap (some (b,0)),.agg [.int .i64 a,.int .i64 c],.agg [.int .i64 P,.sl sI],Ab ok]) (by kernel_rfl) (go_14 _ _ _ _ _ _ _ _ ?_);have P0:=PS.init ht hM hj hA;refine P0.al fun b7 w1 P1=>P1.al fun b9 w2 P2=>?_;rw [Laa,Laa] at P2;refine join0 (fun u'=>∃m',At u (Ks (X++(b,bldC (some (b,0)) s)::R)) (X++m') u'∧(bInv b).p u'∧OwnP hd b (es++[.footer a c P l ok]) m') ?_ (by rintro u' ⟨m',h1,h2,h3⟩;exact hK u' m' h1 h2 h3);intro k hk
 cases ok with
 | true=>
  have hB:Blk w2 b9 (pairC P sI):=P2.a.own (b9,_) (Lmr _ mm2b);refine ifK_t rfl (hB.ldK (k:=Ki) P rfl (P2.num (hr rfl) fun w4 P4=>P4.al fun b15 w5 P5=>?_));rw [Laa] at P5;exact fin_ok (ws:=[[112,97,114,116,115],numS P]) P5 hv hlen hhd hsz hr mml rfl (by simp) fun w' m' a1 a2 a3 a4=>hk w' ⟨m',a1,a2,a3⟩
 | false=>
  refine ifK_f rfl (P2.al fun b22 w4 P4=>?_);rw [Laa] at P4;exact fin_ok (ws:=[[110,111,32,102,111,111,116,101,114]]) P4 hv hlen hhd hsz hr mml rfl (by simp) fun w' m' a1 a2 a3 a4=>hk w' ⟨m',a1,a2,a3⟩
theorem pm_part{p:PI}{x:PartI}(hr:rngE (.part x))(e1:p.part=x.part)(e2:p.sb.len=x.blocks.length)(e3:p.all=x.flt.all)(e4:p.hashes=x.flt.hashes)(e5:p.sd.len=x.flt.data.length)(hK:∀u' m',At u (Ks (X++m)) (X++m') u'→(bInv b).p u'→OwnP hd b (es++[.part x]) m'→K u') :
  callI Tryz.prog (ifc t_prin b) "winnow/inspect.part" [.agg [.int .i64 p.part,.sl p.sb,.bool p.all,.int .i64 p.hashes,.sl p.sd]] u (.tup []) K:=by
 obtain⟨s,R,rfl,hv,hlen⟩:=ho;refine callI_of (f:=c_15) (args':=[Ap (some (b,0)),.agg [.int .i64 p.part,.sl p.sb,.bool p.all,.int .i64 p.hashes,.sl p.sd]]) (by kernel_rfl) (go_15 _ _ _ _ _ _ _ _ ?_);have P0:=PS.init ht hM hj hA;obtain⟨r1,r2,r3,r4⟩:=hr;have r3':in40 (x.blocks.length:Int):=in40_nat (by omega);have r4':in40 (x.flt.data.length:Int):=in40_nat (by omega);refine P0.al fun b7 w1 P1=>⟨F0,?_⟩;rw [Laa] at P1;have P2:=P1.draw;have hB:∀{v:World} {wd:World},PS u (Ks (X++(b,bldC (some (b,0)) s)::R)) ((X++(b,bldC (some (b,0)) s)::R)++([]++[(b7,EPI.f p)])) s wd v→Blk v b7 (EPI.f p):=fun h=>h.a.own (b7,_) (Lmr _ mml);refine (hB P2).ldDK (k:=Ki) p.hashes id rfl ((hB P2).ldDK (k:=.sl) p.sd id rfl ?_);rw [e4,e5];refine P2.num r2 fun w3 P3=>⟨P3.modD _,?_,P3.num r4' fun w4 P4=>⟨P4.modD _,?_,?_⟩⟩
 ·have:=numS_len r2;show _+1<4611686018427387904;omega
 ·have:=numS_len r2;have:=numS_len r4';rw [Lla];show _+1+_<4611686018427387904;omega
 refine (hB P4).ldK (k:=.bool) p.all rfl ?_;rw [e3];refine join1 (a:=.str) (fun (f:Str) v=>f=fltS x.flt∧v=w4) ?_ ?_
 ·intro k hk;unfold fltS at hk;refine Iq (fun q=>?_) fun q=>?_
  ·have q:x.flt.all=true:=q;rw [if_pos q] at hk;exact hk _ _ ⟨rfl,rfl⟩
  have q:x.flt.all=false:=q;rw [if_neg (by rw [q];decide)] at hk;refine (hB P4).ldK (k:=Ki) p.hashes rfl ?_;rw [e4];refine join1 (a:=.str) (fun (f:Str) v=>f=(if x.flt.hashes=0 then [110,111,110,101] else (numS x.flt.hashes++[32])++numS x.flt.data.length)∧v=w4) ?_ (by rintro f v ⟨rfl,rfl⟩;exact hk _ _ ⟨rfl,rfl⟩);intro k2 hk2;refine Iq (fun q=>hk2 _ _ ⟨?_,rfl⟩) fun q=>hk2 _ _ ⟨?_,rfl⟩
  ·rw [if_pos (by simpa using q)]
  ·rw [if_neg (by simpa using q)]
 rintro f v ⟨rfl,rfl⟩;refine⟨fun y=>y=b∨Ks R y,?_⟩;have P5:=P4.draw;have hn:¬(b7=b∨Ks R b7):=new_ni P5.a (q:=(b7,EPI.f p)) mml;refine (hB P5).ldDK (k:=Ki) p.part hn rfl ((hB P5).ldDK (k:=.sl) p.sb hn rfl ?_);rw [e1,e2];refine P5.num r1 fun w6 P6=>⟨P6.modD _,P6.num r3' fun w7 P7=>⟨P7.modD _,P7.al fun b31 w8 P8=>⟨P8.modD _,?_⟩⟩⟩;rw [Laa] at P8;exact fin_ok (e:=.part x) (ws:=[[112,97,114,116],numS x.part,[98,108,111,99,107,115],numS x.blocks.length,[102,105,108,116,101,114],fltS x.flt]) P8 hv hlen hhd hsz ⟨r1,r2,r3,r4⟩ mml rfl (by simp) fun w' m' a1 a2 a3 a4=>⟨a4,hK w' m' a1 a2 a3⟩
theorem pm_block{x:BlkP}(hr:rngE (.block x))(hK:∀u' m',At u (Ks (X++m)) (X++m') u'→(bInv b).p u'→OwnP hd b (es++[.block x]) m'→K u') :
  callI Tryz.prog (ifc t_prin b) "winnow/inspect.block" [.agg [.int .i64 x.frm,.int .i64 x.to],.agg [.int .i64 x.info.stored,.int .i64 x.info.raw,.int .i64 x.info.count,.str x.info.cut],.leaf (.int .u8 (x.flag:Int)),Ai (x.how)] u (.tup []) K:=by
 obtain⟨s,R,rfl,hv,hlen⟩:=ho;refine callI_of (f:=c_16) (args':=[Ap (some (b,0)),.agg [.int .i64 x.frm,.int .i64 x.to],.agg [.int .i64 x.info.stored,.int .i64 x.info.raw,.int .i64 x.info.count,.str x.info.cut],.leaf (.int .u8 (x.flag:Int)),Ai (x.how)]) (by kernel_rfl) (go_16 _ _ _ _ _ _ _ _ _ _ _ ?_);have P0:=PS.init ht hM hj hA;obtain⟨r1,r2,r3,r4,r5,r6,r7⟩:=hr;refine P0.al fun b10 w1 P1=>P1.al fun b12 w2 P2=>how_ok ?_;rw [Laa,Laa] at P2;refine join1 (a:=.str) (fun (f:Str) v=>f=stS x.how∧v=w2) ?_ ?_
 ·intro k hk;unfold stS at hk;refine Iq (fun q=>?_) fun q=>?_
  ·rw [if_pos (by simpa using q)] at hk;exact hk _ _ ⟨rfl,rfl⟩
  ·rw [if_neg (by simpa using q)] at hk;refine hk _ _ ⟨?_,rfl⟩;congr 1;by_cases h:x.how=1
   ·rw [h];rfl
   ·rw [Dct h];simpa using h
 rintro f v ⟨rfl,rfl⟩;refine⟨fun y=>y=b∨Ks R y,?_⟩;have P3:=P2.draw;have hn:¬(b10=b∨Ks R b10):=new_ni P3.a (q:=(b10,[.int .i64 x.frm,.int .i64 x.to])) mm2a;have hn2:¬(b12=b∨Ks R b12):=new_ni P3.a (q:=(b12,EBI.f x.info)) mm2b;have hB:Blk v.drew b10 [.int .i64 x.frm,.int .i64 x.to]:=P3.a.own (b10,_) (Lmr _ mm2a);have hB2:Blk v.drew b12 (EBI.f x.info):=P3.a.own (b12,_) (Lmr _ mm2b);refine hB.ldDK (k:=Ki) x.frm hn rfl (hB.ldDK (k:=Ki) x.to hn rfl (hB2.ldDK (k:=Ki) x.info.stored hn2 rfl (hB2.ldDK (k:=Ki) x.info.raw hn2 rfl (hB2.ldDK (k:=Ki) x.info.count hn2 rfl (hB2.ldDK (k:=.str) x.info.cut hn2 rfl ?_)))));have ew:w64 (x.flag:Int)=(x.flag:Int):=Wq (by omega) (by omega);rw [ew];refine P3.num r1 fun w4 P4=>⟨P4.modD _,P4.num r2 fun w5 P5=>⟨P5.modD _,P5.num r3 fun w6 P6=>⟨P6.modD _,P6.num r4 fun w7 P7=>⟨P7.modD _,P7.num r5 fun w8 P8=>⟨P8.modD _,P8.num (in40_nat (by omega)) fun w9 P9=>⟨P9.modD _,P9.quo (by omega) fun w10 P10=>⟨P10.modD _,P10.al fun b40 w11 P11=>⟨P11.modD _,?_⟩⟩⟩⟩⟩⟩⟩⟩;rw [Laa] at P11;exact fin_ok (e:=.block x) (ws:=[[98,108,111,99,107],numS x.frm,numS x.to,[115,116,111,114,101,100],numS x.info.stored,[114,97,119],numS x.info.raw,[99,111,117,110,116],numS x.info.count,[102,108,97,103],numS (x.flag:Int),[99,117,116],quoS x.info.cut,stS x.how]) P11 hv hlen hhd hsz ⟨r1,r2,r3,r4,r5,r6,r7⟩ mml rfl (by simp) fun w' m' a1 a2 a3 a4=>⟨a4,hK w' m' a1 a2 a3⟩
end
end
theorem prin_mkr{w0:World}(ht:TabU w0)(hd:Str)(hhd:hd.length≤100)(b:Nat):Mkr (bInv b) w0 (ifc t_prin b) (fun es e=>es++[e]) List.length (OwnP hd b):=by
 refine⟨rfl,?_,fun s e=>by simp,?_,?_,?_,?_,?_,?_⟩
 ·rintro es m ⟨s,R,rfl,_⟩ y hy;have hy:y=b:=hy;exact⟨_,Lcs ..,hy.symm⟩
 ·intro X m u s a c tb tp ok K hM hj hA ho hl hr hK;exact pm_trailer ht hM hj hA ho hhd hl hr hK
 ·intro X m u s p K hM hj hA ho hl hr hK;exact pm_page ht hM hj hA ho hhd hl hr hK
 ·intro X m u s a c P sI l ok K hM hj hA ho hl hr hK;exact pm_footer ht hM hj hA ho hhd hl hr hK
 ·intro X m u s p x K hM hj hA ho hl hr e1 e2 e3 e4 e5 hK;exact pm_part ht hM hj hA ho hhd hl hr e1 e2 e3 e4 e5 hK
 ·intro X m u s x K hM hj hA ho hl hr hK;exact pm_block ht hM hj hA ho hhd hl hr hK
 ·intro X m u s part k z K hM hj hA ho hl hr hK;exact pm_record ht hM hj hA ho hhd hl hr hK
theorem mk_prin(b:Nat)(w:World):(Instr.makeInterface t_prin (LV.ptr (some (b,0))).toV).run Tryz.prog w = .ok (ifc t_prin b) w:=by kernel_rfl
theorem foldl_app{α:Type}:∀(l acc:List α),l.foldl (fun es e=>es++[e]) acc=acc++l
 | [],acc=>by simp
 | x::l,acc=>by rw [List.foldl_cons,foldl_app l,Laa];rfl
theorem dump_ok{w:World}{sf:Sl}{file:Str}(hf:RdS w ET sf file)(hfl:file.length≤1048576)(ht:TabU w){K:Str→Wp}(hK:∀w',Mod F0 w w'→(dumpP file).length≤35184372088832→K (dumpP file) w') :
  callK Tryz.prog c_17 [Az sf] w Ot K:=by
 refine go_17 _ _ _ ?_;refine At.alT (At.init w F0) fun b2 w1 h1 M1 hsh=>?_;have h1:At w F0 ([]++(b2,bldC none ⟨none,0,0⟩)::[]) w1:=h1;rw [hf.len];have hn:in40 (file.length:Int):=in40_nat (by omega);refine number_ok hn (ht.keep M1) fun w2 M2=>?_;have h2:=h1.keep0 M2 fun _=>id;refine h2.alK fun b6 w3 _ h3 M3=>?_;have hB:BP w3 b2 none:=.inr ⟨rfl,_,.inr rfl,shape_mod M3 (shape_mod M2 hsh id) id⟩;have hl:=lineS_len [[98,121,116,101,115],numS file.length];have hnl:=numS_len hn;have hl:(lineS [[98,121,116,101,115],numS file.length]).length≤100:=by simp at hl;omega
 refine line_ok (ws:=[[98,121,116,101,115],numS file.length]) (h3.sub (Lsl _ _)) hB (VecL.nil ET) (tyS.nil _) (rd_words (h3.own (b6,_) mml)) (by simp) (by omega) (by simp) fun w4 s R h4 v4 t4 _=>?_;rw [List.nil_append] at v4;refine iface_ok (mk_prin _ _) ?_;refine walkIn_ok (J:=bInv b2) (prin_mkr ht (lineS [[98,121,116,101,115],numS file.length]) hl b2) hf hfl h4 (bInv_of (h4.own (b2,_) (Lmr _ (Lcs ..))) t4) (s:=[]) ⟨s,R,rfl,by simpa using v4,by simp,by simp⟩ (Nzl _) fun w5 m5 h5 hj5 ho5=>?_;rw [foldl_app,List.nil_append] at ho5;obtain⟨s5,R5,rfl,hv5,_,hl5⟩:=ho5;have hd:lineS [[98,121,116,101,115],numS file.length]++(walkP file).flatMap txtE=dumpP file:=rfl;have hdl:(dumpP file).length≤35184372088832:=by rw [←hd,Lla];omega
 rw [hd] at hv5;refine Dq (bstr_ok h5 hv5 (hj5.2 _ _ (h5.own (b2,_) (Lmr _ (Lcs ..)))) ?_ (by omega) fun w6 h6 _=>hK w6 h6.mod hdl);rw [←hd];unfold lineS;simp
end Go.Proofs.YtoegpmjoajipcaaGreatDoor
namespace Go.Proofs.YtoegpmjoajipcaaGreatDoor
open Go.Vw
set_option maxRecDepth 100000
theorem go_18(n1:Int)(K:List UInt8→Wp)(w:World)(h:callK Pg 21 [Ai n1,Ai 10] w Ot fun s2 W3=>[32].length+s2.length<2^62∧K ([32]++s2) W3):callK Pg 14 [Ai n1] w Ot K:=Fq (n:=.nil) CS_ok mixed Tryz.func14 (Eq.mpr (by kernel_rfl) h)
theorem go_19(s1:Int)(K:List UInt8→Wp)(w:World)(h:ifK (s1==0) (K [32,119,104,111,108,101] w) (ifK (s1==2) (K [32,102,97,108,108,115] w) (K [32,115,112,111,105,108,116] w))):callK Pg 15 [Ai s1] w Ot K:=Fq (n:=.nil) CS_ok mixed Tryz.func15 (Eq.mpr (by kernel_rfl) h)
theorem go_20(f_0_1:Bool)(f_1_2:Int)(f_2_3:Sl)(K:List UInt8→Wp)(w:World)(h:al w 52 [.bool f_0_1,.int .i64 f_1_2,.sl f_2_3] fun b4 W5=>ld W5 .bool b4 0 fun c6=>ifK c6 (K [32,97,108,108] W5) (ld W5 .sl b4 2 fun a7=>ifK ((a7.len:Int)==0) (K [32,110,111,110,101] W5) (drawK W5 fun D W8=>ldD D W8 Ki b4 1 fun n9=>ldD D W8 .sl b4 2 fun a10=>callK Pg 14 [Ai n9] W8 Ot fun s11 W12=>Mod D W8 W12∧callK Pg 14 [Ai (a10.len:Int)] W12 Ot fun s13 W14=>Mod D W8 W14∧s11.length+s13.length<2^62∧K (s11++s13) W14))):callK Pg 16 [.agg [.bool f_0_1,.int .i64 f_1_2,.sl f_2_3]] w Ot K:=Fq (n:=(n0 .nil (n0 .nil (n0 .nil (n0 (.mk none [] [] (tk [0,1,3,4,5] (.eff 2 (.eff 6 (.take 7 (.take 8 .done))))) .nil .nil) .nil))))) CS_ok mixed Tryz.func16 (Eq.mpr (by kernel_rfl) h)
theorem go_21(s1:List UInt8)(K:List UInt8→Wp)(w:World)(h:joinK [.str] (fun k2=>loopL [.str,Ki] (fun q4 i5 W6 g3=>ifK (decide (i5<(s1.length:Int))) (sx s1 i5 fun c7=>joinK [.bool] (fun k8=>ifK (c7==34) (k8 true W6) (k8 (c7==92) W6)) fun t209 W10=>joinK [.str] (fun k11=>ifK t209 (q4.length+[92].length<2^62∧al W10 5 [.int .u8 c7] fun b12 W13=>opF Pg (vS (convert 22 9 (LV.toV (.sl (⟨some (b12,0),1,1⟩))))) W13 Ot fun s15 W14=>(q4++[92]).length+s15.length<2^62∧k11 ((q4++[92])++s15) W14) (joinK [.bool] (fun k16=>ifK (decide (32≤c7)) (k16 (decide (c7≤126)) W10) (k16 false W10)) fun t3217 W18=>joinK [.str] (fun k19=>ifK t3217 (al W18 5 [.int .u8 c7] fun b20 W21=>opF Pg (vS (convert 22 9 (LV.toV (.sl (⟨some (b20,0),1,1⟩))))) W21 Ot fun s23 W22=>q4.length+s23.length<2^62∧k19 (q4++s23) W22) (drawK W18 fun D W24=>q4.length+[92,120].length<2^62∧sx [48,49,50,51,52,53,54,55,56,57,97,98,99,100,101,102] (IntKind.wrap .u8 (c7.tdiv 16)) fun c25=>sx [48,49,50,51,52,53,54,55,56,57,97,98,99,100,101,102] (c7.tmod 16) fun c26=>al W24 5 [.int .u8 c25,.int .u8 c26] fun b27 W28=>Mod D W24 W28∧opF Pg (vS (convert 22 9 (LV.toV (.sl (⟨some (b27,0),2,2⟩))))) W28 Ot fun s30 W29=>Mod D W24 W29∧(q4++[92,120]).length+s30.length<2^62∧k19 ((q4++[92,120])++s30) W29)) fun q31 W32=>k11 q31 W32)) fun q33 W34=>g3 q33 (w64 (i5+1)) W34) (k2 q4 W6)) [.str [34],.int .i64 0] w) fun q35 W36=>q35.length+[34].length<2^62∧K (q35++[34]) W36):callK Pg 31 [Au s1] w Ot K:=Fq (n:=(n0 .nil (n0 .nil (n0 (n0 .nil (.mk (some [.tmp 3 Lt]) [] [] .done (.mk none [.tmp 3 Lt,.tmp 4 Li] [0] .done (n0 .nil (n0 (n0 (n0 .nil (n0 (.mk (some [.tmp 20 Lb]) [] [0,3,4,5] .done .nil .nil) (.mk (some [.tmp 3 Lt]) [] [0,4] .done .nil (n0 (.mk (some [.tmp 32 Lb]) [] [0,3,4,5] .done .nil .nil) (.mk (some [.tmp 3 Lt]) [] [0,4] .done .nil (.mk none [] [] (tk [0,1,2,3,4,5,6,7] (.eff 8 (.eff 9 (.take 10 (.take 11 .done))))) .nil .nil)))))) .nil) .nil)) .nil) .nil)) .nil)))) CS_ok mixed Tryz.func31 (Eq.mpr (by kernel_rfl) h)
theorem go_22(x_0_1:Int)(x_1_2:Int)(x_2_3:Int)(x_3_4:Int)(x_4_5:Int)(x_5_6:List UInt8)(x_6_7:Int)(x_7_8:Int)(x_8_9:Int)(x_9_10:Sl)(K:List UInt8→Wp)(w:World)(h:al w 60 [.int .i64 x_0_1,.int .i64 x_1_2,.int .i64 x_2_3,.int .i64 x_3_4,.int .i64 x_4_5,.str x_5_6,.int .i64 x_6_7,.int .i64 x_7_8,.int .i64 x_8_9,.sl x_9_10] fun b11 W12=>ld W12 Ki b11 2 fun n13=>ld W12 Ki b11 3 fun n14=>ld W12 Ki b11 4 fun n15=>ld W12 .str b11 5 fun s16=>al W12 57 [.int .i64 0,.int .i64 0,.int .i64 0,.str []] fun b17 W18=>st W18 b17 0 [.int .i64 n13,.int .i64 n14,.int .i64 n15,.str s16] fun W19=>drawK W19 fun D W20=>ldD D W20 Ki b11 0 fun n21=>ldD D W20 Ki b11 1 fun n22=>ldD D W20 Ki b17 0 fun n23=>ldD D W20 Ki b17 1 fun n24=>ldD D W20 Ki b17 2 fun n25=>callK Pg 14 [Ai n21] W20 Ot fun s26 W27=>Mod D W20 W27∧[98,108,111,99,107].length+s26.length<2^62∧callK Pg 14 [Ai n22] W27 Ot fun s28 W29=>Mod D W20 W29∧([98,108,111,99,107]++s26).length+s28.length<2^62∧(([98,108,111,99,107]++s26)++s28).length+[32,115,116,111,114,101,100].length<2^62∧callK Pg 14 [Ai n23] W29 Ot fun s30 W31=>Mod D W20 W31∧((([98,108,111,99,107]++s26)++s28)++[32,115,116,111,114,101,100]).length+s30.length<2^62∧(((([98,108,111,99,107]++s26)++s28)++[32,115,116,111,114,101,100])++s30).length+[32,114,97,119].length<2^62∧callK Pg 14 [Ai n24] W31 Ot fun s32 W33=>Mod D W20 W33∧((((([98,108,111,99,107]++s26)++s28)++[32,115,116,111,114,101,100])++s30)++[32,114,97,119]).length+s32.length<2^62∧(((((([98,108,111,99,107]++s26)++s28)++[32,115,116,111,114,101,100])++s30)++[32,114,97,119])++s32).length+[32,99,111,117,110,116].length<2^62∧callK Pg 14 [Ai n25] W33 Ot fun s34 W35=>Mod D W20 W35∧((((((([98,108,111,99,107]++s26)++s28)++[32,115,116,111,114,101,100])++s30)++[32,114,97,119])++s32)++[32,99,111,117,110,116]).length+s34.length<2^62∧drawK W35 fun D W36=>(((((((([98,108,111,99,107]++s26)++s28)++[32,115,116,111,114,101,100])++s30)++[32,114,97,119])++s32)++[32,99,111,117,110,116])++s34).length+[32,102,108,97,103].length<2^62∧ldD D W36 Ki b11 8 fun n37=>ldD D W36 .str b17 3 fun s38=>ldD D W36 Ki b11 7 fun n39=>callK Pg 14 [Ai n37] W36 Ot fun s40 W41=>Mod D W36 W41∧((((((((([98,108,111,99,107]++s26)++s28)++[32,115,116,111,114,101,100])++s30)++[32,114,97,119])++s32)++[32,99,111,117,110,116])++s34)++[32,102,108,97,103]).length+s40.length<2^62∧(((((((((([98,108,111,99,107]++s26)++s28)++[32,115,116,111,114,101,100])++s30)++[32,114,97,119])++s32)++[32,99,111,117,110,116])++s34)++[32,102,108,97,103])++s40).length+[32,99,117,116,32].length<2^62∧callK Pg 31 [Au s38] W41 Ot fun s42 W43=>Mod D W36 W43∧((((((((((([98,108,111,99,107]++s26)++s28)++[32,115,116,111,114,101,100])++s30)++[32,114,97,119])++s32)++[32,99,111,117,110,116])++s34)++[32,102,108,97,103])++s40)++[32,99,117,116,32]).length+s42.length<2^62∧callK Pg 15 [Ai n39] W43 Ot fun s44 W45=>Mod D W36 W45∧(((((((((((([98,108,111,99,107]++s26)++s28)++[32,115,116,111,114,101,100])++s30)++[32,114,97,119])++s32)++[32,99,111,117,110,116])++s34)++[32,102,108,97,103])++s40)++[32,99,117,116,32])++s42).length+s44.length<2^62∧((((((((((((([98,108,111,99,107]++s26)++s28)++[32,115,116,111,114,101,100])++s30)++[32,114,97,119])++s32)++[32,99,111,117,110,116])++s34)++[32,102,108,97,103])++s40)++[32,99,117,116,32])++s42)++s44).length+[10].length<2^62∧joinK [.str] (fun k46=>loopL [.str,Ki] (fun s48 k49 W50 g47=>ld W50 .sl b11 9 fun a51=>ifK (decide (k49<(a51.len:Int))) (drawK W50 fun D W52=>s48.length+[114,101,99,111,114,100,32].length<2^62∧ldD D W52 .sl b11 9 fun a53=>ix a53 3 k49 fun b54 o55=>ldD D W52 .str b54 (o55+1) fun s56=>ldD D W52 .sl b11 9 fun a57=>ix a57 3 k49 fun b58 o59=>ldD D W52 .str b58 (o59+2) fun s60=>callK Pg 31 [Au s56] W52 Ot fun s61 W62=>Mod D W52 W62∧(s48++[114,101,99,111,114,100,32]).length+s61.length<2^62∧((s48++[114,101,99,111,114,100,32])++s61).length+[32].length<2^62∧callK Pg 31 [Au s60] W62 Ot fun s63 W64=>Mod D W52 W64∧(((s48++[114,101,99,111,114,100,32])++s61)++[32]).length+s63.length<2^62∧((((s48++[114,101,99,111,114,100,32])++s61)++[32])++s63).length+[10].length<2^62∧g47 (((((s48++[114,101,99,111,114,100,32])++s61)++[32])++s63)++[10]) (w64 (k49+1)) W64) (k46 s48 W50)) [.str (((((((((((((([98,108,111,99,107]++s26)++s28)++[32,115,116,111,114,101,100])++s30)++[32,114,97,119])++s32)++[32,99,111,117,110,116])++s34)++[32,102,108,97,103])++s40)++[32,99,117,116,32])++s42)++s44)++[10]),.int .i64 0] W45) fun s65 W66=>K s65 W66):callK Pg 17 [.agg [.int .i64 x_0_1,.int .i64 x_1_2,.int .i64 x_2_3,.int .i64 x_3_4,.int .i64 x_4_5,.str x_5_6,.int .i64 x_6_7,.int .i64 x_7_8,.int .i64 x_8_9,.sl x_9_10]] w Ot K:=Fq (n:=(n0 .nil (n0 .nil (n0 (.mk none [] [] (tk [0,1,4,5,9,10,14,15,19,20] (.eff 2 (.take 3 (.eff 6 (.take 7 (.take 8 (.eff 11 (.take 12 (.take 13 (.eff 16 (.take 17 (.take 18 (.eff 21 (.take 22 (.take 23 .done))))))))))))))) .nil .nil) (n0 (.mk none [] [] (tk [0,1,2,3,7,8,11,12] (.eff 4 (.take 5 (.take 6 (.eff 9 (.take 10 (.eff 13 (.take 14 (.take 15 (.take 16 .done)))))))))) .nil .nil) (n0 (n0 .nil (.mk (some [.tmp 4 Lt]) [] [] .done (.mk none [.tmp 4 Lt,.tmp 5 Li] [1] .done (n0 .nil (n0 (n0 (.mk none [] [] (tk [0,1,2,3,4,5,6,7,11,12,13,14,15,16] (.eff 8 (.take 9 (.take 10 (.eff 17 (.take 18 (.take 19 (.take 20 .done)))))))) .nil .nil) .nil) .nil)) .nil) .nil)) .nil)))))) CS_ok mixed Tryz.func17 (Eq.mpr (by kernel_rfl) h)
theorem go_23(b1:Sl)(K:List UInt8→Wp)(w:World)(h:callK Pg 13 [Az b1] w (.one (.agg [Ki,.bool,Ki,Ki,.sl,.bool,Ki,.sl,.sl])) fun n2 c3 n4 n5 a6 c7 n8 a9 a10 W11=>al W11 45 [.int .i64 0,.lit false,.int .i64 0,.int .i64 0,.sl (⟨none,0,0⟩),.lit false,.int .i64 0,.sl (⟨none,0,0⟩),.sl (⟨none,0,0⟩)] fun b12 W13=>st W13 b12 0 [.int .i64 n2,.bool c3,.int .i64 n4,.int .i64 n5,.sl a6,.bool c7,.int .i64 n8,.sl a9,.sl a10] fun W14=>ld W14 Ki b12 0 fun n15=>callK Pg 14 [Ai n15] W14 Ot fun s16 W17=>[98,121,116,101,115].length+s16.length<2^62∧([98,121,116,101,115]++s16).length+[10].length<2^62∧ld W17 .bool b12 1 fun c18=>ifK (!c18) ((([98,121,116,101,115]++s16)++[10]).length+[110,111,32,116,114,97,105,108,101,114,10].length<2^62∧K ((([98,121,116,101,115]++s16)++[10])++[110,111,32,116,114,97,105,108,101,114,10]) W17) (drawK W17 fun D W19=>(([98,121,116,101,115]++s16)++[10]).length+[116,114,97,105,108,101,114].length<2^62∧ldD D W19 Ki b12 2 fun n20=>ldD D W19 Ki b12 3 fun n21=>callK Pg 14 [Ai n20] W19 Ot fun s22 W23=>Mod D W19 W23∧((([98,121,116,101,115]++s16)++[10])++[116,114,97,105,108,101,114]).length+s22.length<2^62∧callK Pg 14 [Ai n21] W23 Ot fun s24 W25=>Mod D W19 W25∧(((([98,121,116,101,115]++s16)++[10])++[116,114,97,105,108,101,114])++s22).length+s24.length<2^62∧((((([98,121,116,101,115]++s16)++[10])++[116,114,97,105,108,101,114])++s22)++s24).length+[10].length<2^62∧joinK [.str] (fun k26=>loopL [.str,Ki] (fun s28 i29 W30 g27=>ld W30 .sl b12 4 fun a31=>ifK (decide (i29<(a31.len:Int))) (ld W30 .sl b12 4 fun a32=>ix a32 3 i29 fun b33 o34=>ld W30 Ki b33 o34 fun n35=>ld W30 Ki b33 (o34+1) fun n36=>ld W30 .bool b33 (o34+2) fun c37=>al W30 48 [.int .i64 0,.int .i64 0,.lit false] fun b38 W39=>st W39 b38 0 [.int .i64 n35,.int .i64 n36,.bool c37] fun W40=>callK Pg 15 [Ai 1] W40 Ot fun s41 W42=>ld W42 .bool b38 2 fun c43=>joinK [.str] (fun k44=>ifK c43 (callK Pg 15 [Ai 0] W42 Ot fun s45 W46=>k44 s45 W46) (k44 s41 W42)) fun word47 W48=>drawK W48 fun D W49=>s28.length+[112,97,103,101].length<2^62∧ldD D W49 Ki b38 0 fun n50=>ldD D W49 Ki b38 1 fun n51=>callK Pg 14 [Ai n50] W49 Ot fun s52 W53=>Mod D W49 W53∧(s28++[112,97,103,101]).length+s52.length<2^62∧callK Pg 14 [Ai n51] W53 Ot fun s54 W55=>Mod D W49 W55∧((s28++[112,97,103,101])++s52).length+s54.length<2^62∧(((s28++[112,97,103,101])++s52)++s54).length+word47.length<2^62∧((((s28++[112,97,103,101])++s52)++s54)++word47).length+[10].length<2^62∧g27 (((((s28++[112,97,103,101])++s52)++s54)++word47)++[10]) (w64 (i29+1)) W55) (k26 s28 W30)) [.str (((((([98,121,116,101,115]++s16)++[10])++[116,114,97,105,108,101,114])++s22)++s24)++[10]),.int .i64 0] W25) fun s56 W57=>ld W57 .bool b12 5 fun c58=>ifK (!c58) (s56.length+[110,111,32,102,111,111,116,101,114,10].length<2^62∧K (s56++[110,111,32,102,111,111,116,101,114,10]) W57) (s56.length+[112,97,114,116,115].length<2^62∧ld W57 Ki b12 6 fun n59=>callK Pg 14 [Ai n59] W57 Ot fun s60 W61=>(s56++[112,97,114,116,115]).length+s60.length<2^62∧((s56++[112,97,114,116,115])++s60).length+[10].length<2^62∧joinK [.str] (fun k62=>loopL [.str,Ki,Ki] (fun s64 k65 i66 W67 g63=>ld W67 .sl b12 7 fun a68=>ifK (decide (i66<(a68.len:Int))) (ld W67 .sl b12 7 fun a69=>ix a69 5 i66 fun b70 o71=>ld W67 Ki b70 o71 fun n72=>ld W67 .sl b70 (o71+1) fun a73=>ld W67 .bool b70 (o71+2) fun c74=>ld W67 Ki b70 (o71+3) fun n75=>ld W67 .sl b70 (o71+4) fun a76=>al W67 54 [.int .i64 0,.sl (⟨none,0,0⟩),.lit false,.int .i64 0,.sl (⟨none,0,0⟩)] fun b77 W78=>st W78 b77 0 [.int .i64 n72,.sl a73,.bool c74,.int .i64 n75,.sl a76] fun W79=>drawK W79 fun D W80=>s64.length+[112,97,114,116].length<2^62∧ldD D W80 Ki b77 0 fun n81=>ldD D W80 .sl b77 1 fun a82=>ldD D W80 .bool b77 2 fun c83=>ldD D W80 Ki b77 3 fun n84=>ldD D W80 .sl b77 4 fun a85=>callK Pg 14 [Ai n81] W80 Ot fun s86 W87=>Mod D W80 W87∧(s64++[112,97,114,116]).length+s86.length<2^62∧((s64++[112,97,114,116])++s86).length+[32,98,108,111,99,107,115].length<2^62∧callK Pg 14 [Ai (a82.len:Int)] W87 Ot fun s88 W89=>Mod D W80 W89∧(((s64++[112,97,114,116])++s86)++[32,98,108,111,99,107,115]).length+s88.length<2^62∧((((s64++[112,97,114,116])++s86)++[32,98,108,111,99,107,115])++s88).length+[32,102,105,108,116,101,114].length<2^62∧callK Pg 16 [.agg [.bool c83,.int .i64 n84,.sl a85]] W89 Ot fun s90 W91=>Mod D W80 W91∧(((((s64++[112,97,114,116])++s86)++[32,98,108,111,99,107,115])++s88)++[32,102,105,108,116,101,114]).length+s90.length<2^62∧((((((s64++[112,97,114,116])++s86)++[32,98,108,111,99,107,115])++s88)++[32,102,105,108,116,101,114])++s90).length+[10].length<2^62∧joinK [.str,Ki] (fun k92=>loopL [.str,Ki,Ki] (fun s94 k95 n96 W97 g93=>ld W97 .sl b77 1 fun a98=>ifK (decide (n96<(a98.len:Int))) (ld W97 .sl b12 8 fun a99=>ix a99 10 k95 fun b100 o101=>ld W97 Ki b100 o101 fun n102=>ld W97 Ki b100 (o101+1) fun n103=>ld W97 Ki b100 (o101+2) fun n104=>ld W97 Ki b100 (o101+3) fun n105=>ld W97 Ki b100 (o101+4) fun n106=>ld W97 .str b100 (o101+5) fun s107=>ld W97 Ki b100 (o101+6) fun n108=>ld W97 Ki b100 (o101+7) fun n109=>ld W97 Ki b100 (o101+8) fun n110=>ld W97 .sl b100 (o101+9) fun a111=>callK Pg 17 [.agg [.int .i64 n102,.int .i64 n103,.int .i64 n104,.int .i64 n105,.int .i64 n106,.str s107,.int .i64 n108,.int .i64 n109,.int .i64 n110,.sl a111]] W97 Ot fun s112 W113=>s94.length+s112.length<2^62∧g93 (s94++s112) (w64 (k95+1)) (w64 (n96+1)) W113) (k92 s94 k95 W97)) [.str (((((((s64++[112,97,114,116])++s86)++[32,98,108,111,99,107,115])++s88)++[32,102,105,108,116,101,114])++s90)++[10]),.int .i64 k65,.int .i64 0] W91) fun s114 k115 W116=>g63 s114 k115 (w64 (i66+1)) W116) (k62 s64 W67)) [.str (((s56++[112,97,114,116,115])++s60)++[10]),.int .i64 0,.int .i64 0] W61) fun s117 W118=>K s117 W118))):callK Pg 6 [Az b1] w Ot K:=Fq (n:=(n0 .nil (n0 .nil (n0 .nil (n0 .nil (n0 (.mk none [] [] (tk [0,1,2,3,4,7,8,9] (.eff 5 (.take 6 (.eff 10 (.take 11 (.take 12 (.take 13 .done))))))) .nil .nil) (n0 (n0 .nil (.mk (some [.tmp 4 Lt]) [] [3] .done (.mk none [.tmp 4 Lt,.tmp 5 Li] [3] .done (n0 .nil (n0 (n0 (n0 .nil (n0 .nil (n0 (n0 .nil (.mk (some [.tmp 7 Lt]) [] [3,4,5,6] .done .nil .nil)) (.mk none [] [] (tk [0,1,2,3,6,7,10] (.eff 4 (.take 5 (.eff 8 (.take 9 (.take 11 (.take 12 (.take 13 .done)))))))) .nil .nil)))) .nil) .nil)) .nil) .nil)) (n0 .nil (n0 .nil (n0 .nil (n0 (n0 .nil (.mk (some [.tmp 4 Lt]) [] [] .done (.mk none [.tmp 4 Lt,.tmp 8 Li,.tmp 9 Li] [3] .done (n0 .nil (n0 (n0 (n0 .nil (n0 (.mk none [] [] (tk [0,1,2,3,7,8,9,13,14] (.eff 4 (.take 5 (.take 6 (.eff 10 (.take 11 (.take 12 (.eff 15 (.take 16 (.take 17 (.take 18 .done))))))))))) .nil .nil) (n0 .nil (.mk (some [.tmp 4 Lt,.tmp 8 Li]) [] [3,9] .done (.mk none [.tmp 4 Lt,.tmp 8 Li,.tmp 11 Li] [3,9,10] .done .nil .nil) .nil)))) .nil) .nil)) .nil) .nil)) .nil))))))))))) CS_ok mixed Tryz.func6 (Eq.mpr (by kernel_rfl) h)
end Go.Proofs.YtoegpmjoajipcaaGreatDoor
namespace Go.Proofs.YtoegpmjoajipcaaGreatDoor
open Go.Vw
open Go
theorem nmR_len{n:Int}(h:in40 n):(nmR n).length≤22:=by
 have:=numS_len h;unfold nmR;rw [Llc];omega
theorem rnum_ok{n:Int}(h:in40 n){w:World}(ht:TabU w){K:Str→Wp}(hK:∀w',Mod F0 w w'→K (nmR n) w'):callK Tryz.prog c_18 [Ai n] w Ot K:=by
 refine go_18 _ _ _ (fmt_ok ?_ ?_ ht fun w' M=>⟨?_,hK w' M⟩)
 ·have:=h.1;omega
 ·have:=h.2;omega
 ·have:=numS_len h;rw [List.length_singleton];omega
theorem rstate_ok{n:Int}{w:World}{K:Str→Wp}(hK:K (stR n) w):callK Tryz.prog c_19 [Ai n] w Ot K:=by
 refine go_19 _ _ _ ?_;unfold stR at hK;refine Iq (fun q=>?_) fun q=>?_
 ·rw [if_pos (by simpa using q)] at hK;exact hK
 rw [if_neg (by simpa using q)] at hK;refine Iq (fun q=>?_) fun q=>?_
 ·rw [if_pos (by simpa using q)] at hK;exact hK
 ·rw [if_neg (by simpa using q)] at hK;exact hK
theorem rfilter_ok{f:Flt}{sd:Sl}(h0:in40 f.hashes)(h1:f.data.length≤4096)(hsd:sd.len=f.data.length){w:World}(ht:TabU w){K:Str→Wp}(hK:∀w',Mod F0 w w'→K (fltR f) w') :
  callK Tryz.prog c_20 [.agg [.bool f.all,.int .i64 f.hashes,.sl sd]] w Ot K:=by
 refine go_20 _ _ _ _ _ ?_;have h1':in40 (f.data.length:Int):=in40_nat (by omega);refine (At.init w F0).alK fun b4 w1 _ a1 M1=>?_;have a1:At w F0 [(b4,[(LV.bool f.all).toV,.int .i64 f.hashes,(LV.sl sd).toV])] w1:=a1;have hB:Blk w1 b4 [(LV.bool f.all).toV,.int .i64 f.hashes,(LV.sl sd).toV]:=a1.own (b4,_) (Lms.2 rfl);unfold fltR at hK;refine hB.ldK (k:=.bool) f.all rfl (Iq (fun q=>?_) fun q=>?_)
 ·have q:f.all=true:=q;rw [if_pos q] at hK;exact hK _ M1
 have q:f.all=false:=q;rw [if_neg (by rw [q];decide)] at hK;refine hB.ldK (k:=.sl) sd rfl ?_;rw [hsd];refine Iq (fun q=>?_) fun q=>?_
 ·rw [if_pos (by simpa using q)] at hK;exact hK _ M1
 rw [if_neg (by simpa using q)] at hK;have a2:=a1.drew;have hB2:Blk w1.drew b4 [(LV.bool f.all).toV,.int .i64 f.hashes,(LV.sl sd).toV]:=a2.own (b4,_) (Lms.2 rfl);refine⟨F0,hB2.ldDK (k:=Ki) f.hashes id rfl (hB2.ldDK (k:=.sl) sd id rfl ?_)⟩;rw [hsd];refine rnum_ok h0 (ht.keep a2.mod) fun w3 M3=>⟨M3,?_⟩;have M3':Mod F0 w w3:=a2.mod.trans M3 (fun _ _ h=>h) fun _ _ h=>h;refine rnum_ok h1' (ht.keep M3') fun w4 M4=>⟨M3.trans M4 (fun _ _ h=>h) fun _ _ h=>h,?_,hK _ (M3'.trans M4 (fun _ _ h=>h) fun _ _ h=>h)⟩;have:=nmR_len h0;have:=nmR_len h1';omega
theorem byte2(b:Nat)(x y:UInt8):VecL [(b,[LV.toV (.int .u8 (x.toNat:Int)),LV.toV (.int .u8 (y.toNat:Int))])] ET ⟨some (b,0),2,2⟩ [x,y]:=⟨rfl,Nlr _,.inr ⟨b,[],rfl,rfl,Nlr _⟩⟩
theorem rQuoted_ok{s:Str}(hs:s.length≤70368744177664){w:World}{K:Str→Wp}(hK:∀w',Mod F0 w w'→K (quoS s) w'):callK Tryz.prog c_21 [Au s] w Ot K:=by
 refine go_21 _ _ _ ?_;refine join1 (a:=.str) (fun (q:Str) u=>q=[34]++s.flatMap quoC∧Mod F0 w u) ?_ ?_;rotate_left
 ·rintro q u ⟨rfl,M⟩;have hl:=quoF_len s;refine⟨by rw [Lla,List.length_singleton,List.length_singleton];omega,?_⟩;have:([34]++s.flatMap quoC)++[34]=quoS s:=by unfold quoS;simp
  rw [this];exact hK u M
 intro k hk;refine loop2 (k1:=.str) (k2:=Ki) (fun (q:Str) (i:Int) u=>∃j:Nat,i=(j:Int)∧j≤s.length∧q=[34]++(s.take j).flatMap quoC∧Mod F0 w u) (fun _ i _=>(s.length-i).toNat) (x1:=[34]) (x2:=0) rfl rfl ⟨0,rfl,Nzl _,by simp,Mod.refl _ _⟩ ?_;rintro (q:Str) (i:Int) u ⟨j,rfl,hj,rfl,M⟩;refine Iq (fun q=>?_) fun q=>?_;rotate_left
 ·have q:s.length≤j:=dge q;rw [Ltl q];exact hk _ _ ⟨rfl,M⟩
 have q:j<s.length:=dlt q;obtain⟨c,hc⟩:=Gq q;have hl:=quoF_len (s.take j);have hl2:(s.take j).length≤s.length:=by rw [Llt];omega
 have hcn:c.toNat<256:=c.toNat_lt;have et:[34]++(s.take (j+1)).flatMap quoC=([34]++(s.take j).flatMap quoC)++quoC c:=by
  rw [List.take_add_one,hc,List.flatMap_append];simp
 refine⟨c,by rw [Itn];exact hc,Int.natCast_nonneg j,?_⟩;have es:w64 ((j:Int)+1)=((j+1:Nat):Int):=by rw [Wq (by omega) (by omega)];omega
 have fin:∀(q':Str) u',q'=([34]++(s.take j).flatMap quoC)++quoC c→Mod F0 w u'→(∃j':Nat,w64 ((j:Int)+1)=(j':Int)∧j'≤s.length∧q'=[34]++(s.take j').flatMap quoC∧Mod F0 w u')∧((s.length:Int)-w64 ((j:Int)+1)).toNat<((s.length:Int)-(j:Int)).toNat:=fun q' u' e h=>⟨⟨j+1,es,by omega,by rw [et];exact e,h⟩,by rw [es];omega⟩;have len0:([34]++(s.take j).flatMap quoC).length≤281474976710657:=by rw [Lla,List.length_singleton];omega
 generalize ([34]++(s.take j).flatMap quoC)=l at fin len0 ⊢;refine join1 (a:=.bool) (fun (q:Bool) u'=>q=decide (c=34∨c=92)∧u'=u) ?_ ?_
 ·intro k2 hk2;rw [int_byte 34 c 34 rfl,int_byte 92 c 92 rfl];refine Iq (fun q=>hk2 _ _ ⟨?_,rfl⟩) fun q=>hk2 _ _ ⟨?_,rfl⟩
  ·have q:=odt q;rw [Dct (.inl q)]
  ·have q:=odf q;simp [q]
 rintro t u' ⟨rfl,rfl⟩;refine join1 (a:=.str) (fun (q':Str) u2=>q'=l++quoC c∧Mod F0 w u2) ?_ (by rintro q' u2 ⟨e,h⟩;exact fin q' u2 e h);intro k3 hk3;unfold quoC at hk3;have one:∀{v:World} {k:Nat→Wp},(∀b v',Mod F0 v v'→RdS v' ET ⟨some (b,0),1,1⟩ [c]→k b v')→Go.Vw.al v 5 [.int .u8 (c.toNat:Int)] k:=fun {v k} h=>(At.init v F0).alK fun b v' _ a _=>h b v' a.mod ((byte1 b c).rd fun q hq=>a.own q (by rw [Lms.1 hq];exact Lms.2 rfl));refine Iq (fun q=>?_) fun q=>?_
 ·have q:=odt q;rw [if_pos q] at hk3;refine⟨by rw [List.length_singleton];omega,one fun b v M2 hr=>convT hr ⟨?_,hk3 _ _ ⟨?_,M.trans M2 (fun _ _ h=>h) fun _ _ h=>h⟩⟩⟩
  ·rw [Lla,List.length_singleton,List.length_singleton];omega
  ·simp
 have q:=odf q;rw [if_neg q] at hk3;refine join1 (a:=.bool) (fun (q:Bool) u3=>q=decide (32≤c.toNat∧c.toNat≤126)∧u3=u') ?_ ?_
 ·intro k2 hk2;refine Iq (fun q=>hk2 _ _ ⟨?_,rfl⟩) fun q=>hk2 _ _ ⟨?_,rfl⟩
  ·have q:(32:Int)≤(c.toNat:Int):=odt q;by_cases h:(c.toNat:Int)≤126
   ·rw [Dct h,Dct ⟨by omega,by omega⟩]
   ·rw [Dcf h,Dcf (fun e=>h (by omega))]
  ·have q:¬(32:Int)≤(c.toNat:Int):=odf q;rw [Dcf (fun e=>q (by omega))]
 rintro t u3 ⟨rfl,rfl⟩;refine join1 (a:=.str) (fun (q':Str) u2=>q'=l++quoC c∧Mod F0 w u2) ?_ (by
  rintro q' u2 ⟨e,h⟩;unfold quoC at e;rw [if_neg q] at e;exact hk3 q' u2 ⟨e,h⟩)
 intro k4 hk4;unfold quoC at hk4;rw [if_neg q] at hk4;refine Iq (fun q2=>?_) fun q2=>?_
 ·have q2:=odt q2;rw [if_pos q2] at hk4;exact one fun b v M2 hr=>convT hr ⟨by rw [List.length_singleton];omega,hk4 _ _ ⟨rfl,M.trans M2 (fun _ _ h=>h) fun _ _ h=>h⟩⟩
 have q2:=odf q2;rw [if_neg q2] at hk4;have e16:(c.toNat:Int).tdiv 16=((c.toNat/16:Nat):Int):=rfl;have m16:(c.toNat:Int).tmod 16=((c.toNat%16:Nat):Int):=rfl;refine⟨F0,by simp;omega,dig_sx (n:=c.toNat/16) (by omega) (by rw [e16,wrapU8 (by omega) (by omega)]) (dig_sx (n:=c.toNat%16) (by omega) m16 ?_)⟩;refine (At.init u3.drew F0).alK fun b v _ a _=>⟨a.mod,convT ((byte2 b _ _).rd fun q hq=>a.own q (by rw [Lms.1 hq];exact Lms.2 rfl)) ⟨a.mod,?_,hk4 _ _ ⟨?_,(M.trans (Mod.drew F0 u3) (fun _ _ h=>h) fun _ _ h=>h).trans a.mod (fun _ _ h=>h) fun _ _ h=>h⟩⟩⟩
 ·simp;omega
 ·simp
theorem mem_flat{α β:Type}{f:α→List β}:∀{l:List α} {x:α},x∈l→(f x).length≤(l.flatMap f).length
 | y::l,x,h=>by
  rw [List.flatMap_cons,Lla];rcases List.mem_cons.1 h with rfl | h
  ·omega
  ·have:=mem_flat (f:=f) h;omega
theorem take_flat{α β:Type}{f:α→List β}(l:List α)(n:Nat):((l.take n).flatMap f).length≤(l.flatMap f).length:=by
 conv=>rhs;rw [←List.take_append_drop n l]
 rw [List.flatMap_append,Lla];omega
theorem quoS_ge(s:Str):s.length≤(quoS s).length:=by
 have:∀s:Str,s.length≤(s.flatMap quoC).length:=fun s=>by
  induction s with
  | nil=>simp
  | cons c s ih=>
   have h:1≤(quoC c).length:=by
    unfold quoC;split
    ·simp
    split<;>simp
   rw [List.flatMap_cons,Lla,Llc];omega
 have:=this s;unfold quoS;rw [Llc,Lla];omega
theorem stR_len(n:Int):(stR n).length≤7:=by
 unfold stR;split
 ·decide
 split<;>decide
theorem recR_len(e:Str×Str):(recR e).length=(quoS e.1).length+(quoS e.2).length+9:=by
 unfold recR;simp only [Lla,Llc,List.length_nil];omega
structure LS(w:World)(L:BL)(ud v:World):Prop where
 a:At w F0 L v
 m:Mod F0 ud v
section
variable {w ud v:World}{L:BL}
theorem LS.step(h:LS w L ud v){v':World}(M:Mod F0 v v'):LS w L ud v':=⟨h.a.keep0 M fun _=>id,h.m.trans M (fun _ _ h=>h) fun _ _ h=>h⟩
theorem LS.draw(h:LS w L ud v):LS w L v.drew v.drew:=⟨h.a.drew,Mod.refl _ _⟩
theorem LS.num(h:LS w L ud v)(ht:TabU w){n:Int}(hn:in40 n){K:Str→Wp}(hK:∀v',LS w L ud v'→K (nmR n) v'):callK Tryz.prog c_18 [Ai n] v Ot K:=
 rnum_ok hn (ht.keep h.a.mod) fun _ M=>hK _ (h.step M)
theorem LS.quo(h:LS w L ud v){x:Str}(hx:x.length≤70368744177664){K:Str→Wp}(hK:∀v',LS w L ud v'→K (quoS x) v'):callK Tryz.prog c_21 [Au x] v Ot K:=
 rQuoted_ok hx fun _ M=>hK _ (h.step M)
end
theorem At.front2{w0 w:World}{D:Nat→Prop}{m:BL}{e:TypeId}{cs vs:List LV}(h:At w0 D m w)(hl:vs.length=cs.length){K:Nat→Wp}(hK:∀b u',At w0 D ((b,vs.map LV.toV)::m) u'→K b u') :
  Go.Vw.al w e cs fun b u1=>Go.Vw.st u1 b 0 vs fun u2=>K b u2:=
 (FA.of_at (J:=Inv.tt) h trivial).alst hl fun b u' g=>hK b u' (g.at_.perm (Lpc (l₁:=[(b,vs.map LV.toV)]) (l₂:=m)))
section
variable {w:World}
set_option maxHeartbeats 1000000 in
theorem lines_ok{x:BlkP}{sr:Sl}(hr0:rngE (.block x))(hr:RdS w ERec sr (recsB x))(ht:TabU w)(hlen:(blkR x).length≤35184372088832)(hel:x.ents.length≤1099511627776){K:Str→Wp}(hK:∀w',Mod F0 w w'→K (blkR x) w') :
  callK Tryz.prog c_22 [.agg [.int .i64 x.frm,.int .i64 x.to,.int .i64 x.info.stored,.int .i64 x.info.raw,.int .i64 x.info.count,.str x.info.cut,.int .i64 x.part,.int .i64 x.how,.int .i64 (x.flag:Int),.sl sr]] w Ot K:=by
 refine go_22 _ _ _ _ _ _ _ _ _ _ _ _ ?_;obtain⟨r1,r2,r3,r4,r5,r6,r7⟩:=hr0;have rf:in40 (x.flag:Int):=in40_nat (by omega);refine (At.init w F0).alK fun b11 w1 _ a1 _=>?_;have a1:At w F0 [(b11,bkC x sr)] w1:=a1;have hB1:Blk w1 b11 (bkC x sr):=a1.own (b11,_) (Lms.2 rfl);refine hB1.ldK (k:=Ki) x.info.stored rfl (hB1.ldK (k:=Ki) x.info.raw rfl (hB1.ldK (k:=Ki) x.info.count rfl (hB1.ldK (k:=.str) x.info.cut rfl ?_)));refine At.front2 a1 (by rfl) fun b17 w2 a2=>?_;have a2:At w F0 ((b17,EBI.f x.info)::[(b11,bkC x sr)]) w2:=a2;have S2:LS w ((b17,EBI.f x.info)::[(b11,bkC x sr)]) w2 w2:=⟨a2,Mod.refl _ _⟩;have S3:=S2.draw;have hB:∀{ud v:World},LS w ((b17,EBI.f x.info)::[(b11,bkC x sr)]) ud v→Blk v b11 (bkC x sr):=fun h=>h.a.own (b11,_) (Lmc _ (Lms.2 rfl));have hC:∀{ud v:World},LS w ((b17,EBI.f x.info)::[(b11,bkC x sr)]) ud v→Blk v b17 (EBI.f x.info):=fun h=>h.a.own (b17,_) (Lcs ..);have l1:=nmR_len r1;have l2:=nmR_len r2;have l3:=nmR_len r3;have l4:=nmR_len r4;have l5:=nmR_len r5;have l6:=nmR_len rf;have l7:=quoS_len x.info.cut;have l8:=stR_len x.how;refine⟨F0,(hB S3).ldDK (k:=Ki) x.frm id rfl ((hB S3).ldDK (k:=Ki) x.to id rfl ((hC S3).ldDK (k:=Ki) x.info.stored id rfl ((hC S3).ldDK (k:=Ki) x.info.raw id rfl ((hC S3).ldDK (k:=Ki) x.info.count id rfl ?_))))⟩;refine S3.num ht r1 fun v1 T1=>⟨T1.m,?_,T1.num ht r2 fun v2 T2=>⟨T2.m,?_,?_,T2.num ht r3 fun v3 T3=>⟨T3.m,?_,?_,T3.num ht r4 fun v4 T4=>⟨T4.m,?_,?_,T4.num ht r5 fun v5 T5=>⟨T5.m,?_,?_⟩⟩⟩⟩⟩
 ·simp only [Lla,Llc,List.length_nil];omega
 ·simp only [Lla,Llc,List.length_nil];omega
 ·simp only [Lla,Llc,List.length_nil];omega
 ·simp only [Lla,Llc,List.length_nil];omega
 ·simp only [Lla,Llc,List.length_nil];omega
 ·simp only [Lla,Llc,List.length_nil];omega
 ·simp only [Lla,Llc,List.length_nil];omega
 ·simp only [Lla,Llc,List.length_nil];omega
 have U0:=T5.draw;refine⟨F0,?_,(hB U0).ldDK (k:=Ki) (x.flag:Int) id rfl ((hC U0).ldDK (k:=.str) x.info.cut id rfl ((hB U0).ldDK (k:=Ki) x.how id rfl ?_))⟩
 ·simp only [Lla,Llc,List.length_nil];omega
 refine U0.num ht rf fun v6 T6=>⟨T6.m,?_,?_,T6.quo (by omega) fun v7 T7=>⟨T7.m,?_,rstate_ok ⟨T7.m,?_,?_,?_⟩⟩⟩
 ·simp only [Lla,Llc,List.length_nil];omega
 ·simp only [Lla,Llc,List.length_nil];omega
 ·simp only [Lla,Llc,List.length_nil];omega
 ·simp only [Lla,Llc,List.length_nil];omega
 ·simp only [Lla,Llc,List.length_nil];omega
 refine join1 (a:=.str) (fun (s:Str) u=>s=blkR x∧Mod F0 w u) ?_ (by rintro s u ⟨rfl,M⟩;exact hK u M);intro k hk;refine loop2 (k1:=.str) (k2:=Ki) (fun (s:Str) (i:Int) u=>∃j:Nat,i=(j:Int)∧j≤x.ents.length∧s=blkR0 x++(x.ents.take j).flatMap recR∧LS w ((b17,EBI.f x.info)::[(b11,bkC x sr)]) u u) (fun _ i _=>(x.ents.length-i).toNat) (x1:=blkR0 x) (x2:=0) rfl rfl ⟨0,rfl,Nzl _,by simp,⟨T7.a,Mod.refl _ _⟩⟩ ?_;rintro (s:Str) (i:Int) u ⟨j,rfl,hj,rfl,T⟩;have hrd:RdS u ERec sr (recsB x):=hr.quiet T.a.mod;have hrl:(recsB x).length=x.ents.length:=by unfold recsB;rw [List.length_map]
 refine (hB T).ldK (k:=.sl) sr rfl ?_;rw [hrd.len,hrl];refine Iq (fun q=>?_) fun q=>?_;rotate_left
 ·have q:x.ents.length≤j:=dge q;rw [Ltl q];exact hk _ _ ⟨rfl,T.a.mod⟩
 have q:j<x.ents.length:=dlt q;obtain⟨e,he⟩:=Gq q;have hre:(recsB x)[j]? = some (x.part,e.1,e.2):=by unfold recsB;rw [List.getElem?_map,he];rfl
 have h1:=recR_len e;have h2:=mem_flat (f:=recR) (Lmg he);have h3:=take_flat (f:=recR) x.ents j;have h4:(blkR x).length=(blkR0 x).length+(x.ents.flatMap recR).length:=by unfold blkR;rw [Lla]
 have h5:(blkR0 x++(x.ents.take j).flatMap recR).length≤(blkR x).length:=by rw [Lla];omega
 have h6:=quoS_ge e.1;have h7:=quoS_ge e.2;have et:blkR0 x++(x.ents.take (j+1)).flatMap recR=(blkR0 x++(x.ents.take j).flatMap recR)++recR e:=by
  rw [List.take_add_one,he,List.flatMap_append,←Laa];simp
 have es:=step64 (i:=j) (by omega);generalize blkR0 x++(x.ents.take j).flatMap recR=s at et h5;have Td:=T.draw;have hrd:RdS u.drew ERec sr (recsB x):=hr.quiet Td.a.mod;refine⟨F0,?_,(hB Td).ldDK (k:=.sl) sr id rfl (hrd.ix rfl rfl hre fun b54 o55 _ hc=>Lw (k:=.str) e.1 id (hc 1 (by decide)) ((hB Td).ldDK (k:=.sl) sr id rfl (hrd.ix rfl rfl hre fun b58 o59 _ hc=>Lw (k:=.str) e.2 id (hc 2 (by decide)) ?_)))⟩
 ·simp only [Llc,List.length_nil];omega
 refine Td.quo (by omega) fun v8 T8=>⟨T8.m,?_,?_,T8.quo (by omega) fun v9 T9=>⟨T9.m,?_,?_,⟨j+1,es,by omega,?_,⟨T9.a,Mod.refl _ _⟩⟩,by rw [es];omega⟩⟩
 ·simp only [Lla,Llc,List.length_nil];omega
 ·simp only [Lla,Llc,List.length_nil];omega
 ·simp only [Lla,Llc,List.length_nil];omega
 ·simp only [Lla,Llc,List.length_nil];omega
 ·rw [et];unfold recR;simp
end
theorem pagesP_rng{file:Str}{e:Int}(he:e≤1099511627776):∀(n:Nat) (a:Int),0≤a→∀p∈pagesP file e n a,in40 p.frm∧in40 p.to
 | 0,_,_,p,h=>by cases h
 | n+1,a,ha,p,h=>by
  rw [pagesP_s] at h;split at h
  ·rename_i q;have hm:a<mnI (a+4100) e∧mnI (a+4100) e≤e:=by unfold mnI;split<;>omega
   rcases List.mem_cons.1 h with rfl | h
   ·exact⟨⟨ha,by dsimp only;omega⟩,⟨by dsimp only;omega,by dsimp only;omega⟩⟩
   ·exact pagesP_rng he n _ (by omega) p h
  ·cases h
theorem blksP_rng(file:Str)(part:Int):∀(l:List BI) (a:Int) (last:Str) (some_:Bool),0≤a→(∀b∈l,rightD b=true)→a+spB l≤1048576→∀x∈blksP file part l a last some_,rngE (.block x)
 | [],_,_,_,_,_,_,x,h=>by cases h
 | b::r,a,last,some_,ha,hr,hs,x,h=>by
  have hb:=odt (hr b (Lcs ..));have hr':∀y∈r,rightD y=true:=fun y hy=>hr y (Lmc _ hy);have h6:=spB_6 hr';rw [spB] at hs;rw [blksP] at h;split at h
  ·rcases List.mem_cons.1 h with rfl | h
   ·exact blk_rng ha hb (by omega)
   ·exact blksP_rng file part r _ _ _ (by omega) hr' (by omega) x h
  ·rcases List.mem_cons.1 h with rfl | h
   ·exact blk_rng ha hb (by omega)
   ·exact blksP_rng file part r _ _ _ (by omega) hr' (by omega) x h
theorem infosP_rng(file:Str):∀(l:List PartI) (a:Int),0≤a→(∀x∈l,chkB x.blocks []=true)→a+spI l≤1048576→∀x∈(infosP file l a).flatMap (fun x=>x.2),rngE (.block x)
 | [],_,_,_,_,x,h=>by cases h
 | y::r,a,ha,hr,hs,x,h=>by
  have hr':∀z∈r,chkB z.blocks []=true:=fun z hz=>hr z (Lmc _ hz);have hb:=chkB_mem (hr y (Lcs ..));have h6:=spB_6 hb;have h7:=spI_nn hr';rw [spI] at hs;have e:infosP file (y::r) a=(y,blksP file y.part y.blocks a [] false)::infosP file r (a+spB y.blocks):=rfl;rw [e,List.flatMap_cons] at h;rcases Lma.1 h with h | h
  ·exact blksP_rng file y.part y.blocks a [] false ha hb (by omega) x h
  ·exact infosP_rng file r _ (by omega) hr' (by omega) x h
theorem infosP_get(file:Str):∀(l:List PartI) (a:Int) (i:Nat) (x:PartI),l[i]? = some x→∃bs,(infosP file l a)[i]? = some (x,bs)∧bs.length=x.blocks.length
 | y::r,a,0,x,h=>by
  cases h;exact⟨_,rfl,blksP_len ..⟩
 | y::r,a,i+1,x,h=>infosP_get file r _ i x h
theorem infosP_length(file:Str):∀(l:List PartI) (a:Int),(infosP file l a).length=l.length
 | [],_=>rfl
 | y::r,a=>congrArg (· + 1) (infosP_length file r _)
theorem flat_get{α β:Type}{f:α→List β}:∀{l:List α} {i n:Nat} {y:α} {z:β},l[i]? = some y→(f y)[n]? = some z→(l.flatMap f)[((l.take i).flatMap f).length+n]? = some z
 | x::l,0,n,y,z,h,hz=>by
  cases h;have hn:=(Les.1 hz).1;rw [List.take_zero,List.flatMap_nil,List.length_nil,Nat.zero_add,List.flatMap_cons,Lgl hn];exact hz
 | x::l,i+1,n,y,z,h,hz=>by
  rw [List.take_succ_cons,List.flatMap_cons,List.flatMap_cons,Lla,Nat.add_assoc,Lgr (by omega),Nat.add_sub_cancel_left];exact flat_get (l:=l) h hz
theorem take_flat1{α β:Type}{f:α→List β}{l:List α}{i:Nat}{x:α}(h:l[i]? = some x):(l.take (i+1)).flatMap f=(l.take i).flatMap f++f x:=by
 rw [List.take_add_one,h,List.flatMap_append];simp
theorem take_flat_mem{α β:Type}{f:α→List β}{l:List α}{i:Nat}{x:α}(h:l[i]? = some x):((l.take i).flatMap f).length+(f x).length≤(l.flatMap f).length:=by
 rw [←Lla,←take_flat1 h];exact take_flat l _
section
variable {w:World}{sf:Sl}{file:Str}
set_option maxHeartbeats 4000000 in
theorem rdump_ok(hf:RdS w ET sf file)(hfl:file.length≤1048576)(ht:TabU w)(hlen:(dumpR file).length≤35184372088832){K:Str→Wp}(hK:∀w',Mod F0 w w'→K (dumpR file) w') :
  callK Tryz.prog c_23 [Az sf] w Ot K:=by
 refine go_23 _ _ _ ?_;have hn:in40 (file.length:Int):=in40_nat (by omega);have hnl:=nmR_len hn;refine apart_ok hf hfl fun u R tb tp sp P sI sB rows hF hT=>?_;refine At.front2 hF.at_ (by rfl) fun b12 u1 h1=>?_;have S1:LS w ((b12,tkC file.length (decide ((trailP file).2.2=0)) tb tp sp (decide ((trailP file).2.2=0∧rightF file=true)) P sI sB)::R) u1 u1:=⟨h1,Mod.refl _ _⟩;have hB:∀{ud v:World},LS w ((b12,tkC file.length (decide ((trailP file).2.2=0)) tb tp sp (decide ((trailP file).2.2=0∧rightF file=true)) P sI sB)::R) ud v→Blk v b12 (tkC file.length (decide ((trailP file).2.2=0)) tb tp sp (decide ((trailP file).2.2=0∧rightF file=true)) P sI sB):=fun h=>h.a.own (b12,_) (Lcs ..);have own:∀{ud v:World},LS w ((b12,tkC file.length (decide ((trailP file).2.2=0)) tb tp sp (decide ((trailP file).2.2=0∧rightF file=true)) P sI sB)::R) ud v→∀q∈R,Blk v q.1 q.2:=fun h q hq=>h.a.own q (Lmc _ hq);generalize hL:(b12,tkC file.length (decide ((trailP file).2.2=0)) tb tp sp (decide ((trailP file).2.2=0∧rightF file=true)) P sI sB)::R=L at S1 hB own;clear hF h1;refine (hB S1).ldK (k:=Ki) (file.length:Int) rfl (S1.num ht hn fun u2 S2=>⟨?_,?_,(hB S2).ldK (k:=.bool) (decide ((trailP file).2.2=0)) rfl ?_⟩)
 ·simp only [Llc,List.length_nil];omega
 ·simp only [Lla,Llc,List.length_nil];omega
 refine Iq (fun q=>?_) fun q=>?_
 ·have q:(trailP file).2.2≠0:=by simpa using q
  have e:dumpR file=(([98,121,116,101,115]++nmR file.length)++[10])++[110,111,32,116,114,97,105,108,101,114,10]:=by unfold dumpR;rw [if_pos q]
  rw [←e];refine⟨?_,hK _ S2.a.mod⟩;simp only [Lla,Llc,List.length_nil];omega
 have q0:(trailP file).2.2=0:=by simpa using q
 obtain⟨rfl,rfl⟩:=hT.tr q0;have hpg:=hT.pg;rw [if_pos q0] at hpg;obtain⟨ha,hb⟩:=trail_rng (file:=file) (a:=0) (b:=0) (Dct q0);have hal:=nmR_len ha;have hbl:=nmR_len hb;have htr:=(trailN_0 (b:=file.drop (lastP file).toNat) (size:=file.length) q0);have htr:trailOk (trailP file).1 (trailP file).2.1=true∧(trailP file).1+(trailP file).2.1+24=file.length:=htr;have hE:endP file=(trailP file).1+(trailP file).2.1:=rfl;generalize hA1:((((([98,121,116,101,115]++nmR file.length)++[10])++[116,114,97,105,108,101,114])++nmR (trailP file).1)++nmR (trailP file).2.1)++[10]=A1;have eD:dumpR file=A1++((pgsP file).flatMap pgR++if rightF file=false then [110,111,32,102,111,111,116,101,114,10] else
 [112,97,114,116,115]++nmR (partsP file)++[10]++(infosP file (listP file) 0).flatMap infoR):=by
  rw [←hA1];unfold dumpR;rw [if_neg (fun h=>h q0)];simp only [Laa]
 have S2d:=S2.draw;refine⟨F0,?_,(hB S2d).ldDK (k:=Ki) (trailP file).1 id rfl ((hB S2d).ldDK (k:=Ki) (trailP file).2.1 id rfl (S2d.num ht ha fun u3 S3=>⟨S3.m,?_,S3.num ht hb fun u4 S4=>⟨S4.m,?_,?_,?_⟩⟩))⟩
 ·simp only [Lla,Llc,List.length_nil];omega
 ·simp only [Lla,Llc,List.length_nil];omega
 ·simp only [Lla,Llc,List.length_nil];omega
 ·simp only [Lla,Llc,List.length_nil];omega
 rw [hA1];refine join1 (a:=.str) (fun (s:Str) v=>s=A1++(pgsP file).flatMap pgR∧LS w L v v) ?_ ?_
 ·intro k hk;refine loop2 (k1:=.str) (k2:=Ki) (fun (s:Str) (t:Int) v=>∃i:Nat,t=(i:Int)∧i≤(pgsP file).length∧s=A1++((pgsP file).take i).flatMap pgR∧LS w L v v) (fun _ t _=>((pgsP file).length-t).toNat) (x1:=A1) (x2:=0) rfl rfl
   ⟨0,rfl,Nzl _,by simp,⟨S4.a,Mod.refl _ _⟩⟩ ?_
  rintro (s:Str) (t:Int) v ⟨i,rfl,hi,rfl,T⟩;have hrd:=hpg.rd (own T);refine (hB T).ldK (k:=.sl) sp rfl ?_;rw [hrd.len];refine Iq (fun q=>?_) fun q=>?_;rotate_left
  ·have q:(pgsP file).length≤i:=dge q;rw [Ltl q];exact hk _ _ ⟨rfl,T⟩
  have q:i<(pgsP file).length:=dlt q;obtain⟨p,hp⟩:=Gq q;have hpl:(pgsP file).length≤5000:=pagesP_len ..;obtain⟨hr1,hr2⟩:=pagesP_rng (e:=endP file) (by omega) 5000 (trailP file).1 (by have:=ha.1;omega) p (Lmg hp);have l1:=nmR_len hr1;have l2:=nmR_len hr2;have h3:=take_flat (f:=pgR) (pgsP file) i;have h4:(A1++((pgsP file).take i).flatMap pgR).length≤35184372088832:=by
   rw [eD,Lla,Lla] at hlen;rw [Lla];omega
  have et:A1++((pgsP file).take (i+1)).flatMap pgR=(A1++((pgsP file).take i).flatMap pgR)++pgR p:=by rw [take_flat1 hp,Laa]
  have es:=step64 (i:=i) (by omega);generalize A1++((pgsP file).take i).flatMap pgR=s at et h4 ⊢;refine (hB T).ldK (k:=.sl) sp rfl (hrd.ix rfl rfl hp fun b33 o34 _ hc=>Lq (k:=Ki) p.frm (hc 0 (by decide)) (Lq (k:=Ki) p.to (hc 1 (by decide)) (Lq (k:=.bool) p.ok (hc 2 (by decide)) ?_)));refine At.front2 T.a (by rfl) fun b38 v1 g1=>rstate_ok ?_;have g1:At w F0 ((b38,EPg.f p)::L) v1:=g1;have hB38:∀{ud v:World},LS w ((b38,EPg.f p)::L) ud v→Blk v b38 (EPg.f p):=fun h=>h.a.own (b38,_) (Lcs ..);have T1:LS w ((b38,EPg.f p)::L) v1 v1:=⟨g1,Mod.refl _ _⟩;refine (hB38 T1).ldK (k:=.bool) p.ok rfl ?_;refine join1 (a:=.str) (fun (x:Str) v=>x=(if p.ok=true then stR 0 else stR 1)∧v=v1) ?_ ?_
  ·intro k2 hk2;refine Iq (fun q=>rstate_ok (hk2 _ _ ⟨?_,rfl⟩)) fun q=>hk2 _ _ ⟨?_,rfl⟩
   ·have q:p.ok=true:=q;rw [if_pos q]
   ·have q:p.ok=false:=q;rw [if_neg (by rw [q];decide)]
  rintro x v2 ⟨rfl,rfl⟩;have l3:(if p.ok=true then stR 0 else stR 1).length≤7:=by split<;>exact stR_len _
  have T2:=T1.draw;refine⟨F0,?_,(hB38 T2).ldDK (k:=Ki) p.frm id rfl ((hB38 T2).ldDK (k:=Ki) p.to id rfl (T2.num ht hr1 fun v3 T3=>⟨T3.m,?_,T3.num ht hr2 fun v4 T4=>⟨T4.m,?_,?_,?_,⟨i+1,es,by omega,?_,⟨T4.a.sub (List.sublist_cons_self _ _),Mod.refl _ _⟩⟩,by rw [es];omega⟩⟩))⟩
  ·simp only [Llc,List.length_nil];omega
  ·simp only [Lla,Llc,List.length_nil];omega
  ·simp only [Lla,Llc,List.length_nil];omega
  ·simp only [Lla,Llc,List.length_nil];omega
  ·simp only [Lla,Llc,List.length_nil];omega
  ·rw [et];unfold pgR;simp only [Laa]
 rintro s u5 ⟨rfl,S5⟩;refine (hB S5).ldK (k:=.bool) (decide ((trailP file).2.2=0∧rightF file=true)) rfl ?_;have hA2:(A1++(pgsP file).flatMap pgR).length≤35184372088832:=by
  rw [eD,Lla,Lla] at hlen;rw [Lla];omega
 refine Iq (fun q=>?_) fun q=>?_
 ·have q:rightF file=false:=by
   cases h:rightF file with
   | false=>rfl
   | true=>rw [h,Dct ⟨q0,rfl⟩] at q;cases q
  rw [if_pos q,←Laa] at eD;rw [←eD];refine⟨?_,hK _ S5.a.mod⟩;simp only [Llc,List.length_nil];omega
 have hrf:rightF file=true:=by
  cases h:rightF file with
  | true=>rfl
  | false=>rw [h,Dcf (fun e=>by cases e.2)] at q;cases q
 obtain⟨rfl,ps,R',hFL,hR'⟩:=hT.ft ⟨q0,hrf⟩;have heq:=hT.eq;rw [if_pos ⟨q0,hrf⟩] at heq;obtain⟨hPr,hlr⟩:=list_rng hrf;have hPl:=nmR_len hPr;have hf0:(footP file).1=0:=by
  have:=hrf;unfold rightF at this;rw [Bat] at this;exact odt this.2
 have hok:=decN_ok hf0;have hspl:spI (listP file)=(trailP file).1:=hok.2;have hchk:∀y∈listP file,chkB y.blocks []=true:=fun y hy=>chkI_mem (Bat _ _▸(footOk_chk hok.1):_∧_).2 y hy;have hbr:=infosP_rng file (listP file) 0 (Int.le_refl _) hchk (by have:=hb.1;omega);have hbe:=infosP_ents file (listP file) 0;have hblk:blocksOfP file=(infosP file (listP file) 0).flatMap fun x=>x.2:=rfl;rw [hblk] at heq;have hil:(infosP file (listP file) 0).length=(listP file).length:=infosP_length ..;have hget:=infosP_get file (listP file) 0;have hfew:=hT.few;have hrl:rows.length=((infosP file (listP file) 0).flatMap fun x=>x.2).length:=by rw [←heq,List.length_map]
 rw [if_neg (by rw [hrf];decide)] at eD;generalize infosP file (listP file) 0=I at *;refine⟨?_,(hB S5).ldK (k:=Ki) (partsP file) rfl (S5.num ht hPr fun u6 S6=>⟨?_,?_,?_⟩)⟩
 ·simp only [Llc,List.length_nil];omega
 ·simp only [Lla,Llc,List.length_nil] at hA2 ⊢;omega
 ·simp only [Lla,Llc,List.length_nil] at hA2 ⊢;omega
 generalize hA3:((A1++(pgsP file).flatMap pgR)++[112,97,114,116,115])++nmR (partsP file)++[10]=A3;have eD:dumpR file=A3++I.flatMap infoR:=by rw [eD,←hA3];simp only [Laa]
 have hlen2:A3.length+(I.flatMap infoR).length≤35184372088832:=by rw [eD,Lla] at hlen;exact hlen
 refine join1 (a:=.str) (fun (s:Str) v=>s=A3++I.flatMap infoR∧LS w L v v) ?_ (by rintro s v ⟨rfl,T⟩;rw [←eD];exact hK v T.a.mod);intro k hk;refine loop3 (k1:=.str) (k2:=Ki) (k3:=Ki) (fun (s:Str) (kk:Int) (t:Int) v=>∃i:Nat,t=(i:Int)∧i≤(listP file).length∧s=A3++(I.take i).flatMap infoR∧kk=(((I.take i).flatMap fun x=>x.2).length:Int)∧LS w L v v) (fun _ _ t _=>((listP file).length-t).toNat) (x1:=A3) (x2:=0) (x3:=0) rfl rfl rfl
  ⟨0,rfl,Nzl _,by simp,by simp,⟨S6.a,Mod.refl _ _⟩⟩ ?_
 rintro (s:Str) (kk:Int) (t:Int) v ⟨i,rfl,hi,rfl,rfl,T⟩;have hrow:RdS v EPI sI ps:=hFL.row.rd fun q hq=>own T q (hR' q hq);have hll:=hFL.ll;refine (hB T).ldK (k:=.sl) sI rfl ?_;rw [hrow.len,hFL.len];refine Iq (fun q=>?_) fun q=>?_;rotate_left
 ·have q:(listP file).length≤i:=dge q;rw [Ltl (by omega)];exact hk _ _ ⟨rfl,T⟩
 have q:i<(listP file).length:=dlt q;obtain⟨x,hx⟩:=Gq q;obtain⟨p,hp⟩:=Gq (l:=ps) (i:=i) (by rw [hFL.len];exact q);obtain⟨bs,hbs,hbl2⟩:=hget i x hx;have hI:=hFL.each i p x hp hx;obtain⟨⟨r1,r2,r3,r4⟩,hfk⟩:=hlr x (Lmg hx);have r3':in40 (x.blocks.length:Int):=in40_nat (by omega);have l1:=nmR_len r1;have l2:=nmR_len r3';have l3:(fltR x.flt).length≤44:=by
  have:=nmR_len r2;have:=nmR_len (in40_nat (n:=x.flt.data.length) (by omega));unfold fltR;split
  ·decide
  split
  ·decide
  ·rw [Lla];omega
 have h4:=take_flat_mem (f:=infoR) hbs;have et:A3++(I.take (i+1)).flatMap infoR=((A3++(I.take i).flatMap infoR)++partR x)++bs.flatMap blkR:=by
  rw [take_flat1 hbs];show A3++(_++(partR x++bs.flatMap blkR))=_;simp only [Laa]
 have hIl:(infoR (x,bs)).length=(partR x).length+(bs.flatMap blkR).length:=Lla;have hAl:(A3++(I.take i).flatMap infoR).length+(partR x).length+(bs.flatMap blkR).length≤35184372088832:=by rw [Lla];omega
 have ek:((I.take (i+1)).flatMap fun x=>x.2).length=((I.take i).flatMap fun x=>x.2).length+bs.length:=by rw [take_flat1 hbs,Lla]
 have hkl:=take_flat_mem (f:=fun x:PartI×List BlkP=>x.2) hbs;have hkl:((I.take i).flatMap fun x=>x.2).length+bs.length≤(I.flatMap fun x=>x.2).length:=hkl;have es:=step64 (i:=i) (by omega);have hfget:∀{n:Nat} {z:BlkP},bs[n]? = some z→(I.flatMap fun x=>x.2)[((I.take i).flatMap fun x=>x.2).length+n]? = some z:=fun h=>flat_get (f:=fun x:PartI×List BlkP=>x.2) hbs h;generalize A3++(I.take i).flatMap infoR=s at et hAl ⊢;generalize ((I.take i).flatMap fun x=>x.2).length=base at ek hkl hfget ⊢;refine (hB T).ldK (k:=.sl) sI rfl (hrow.ix rfl rfl hp fun b70 o71 _ hc=>Lq (k:=Ki) p.part (hc 0 (by decide)) (Lq (k:=.sl) p.sb (hc 1 (by decide)) (Lq (k:=.bool) p.all (hc 2 (by decide)) (Lq (k:=Ki) p.hashes (hc 3 (by decide)) (Lq (k:=.sl) p.sd (hc 4 (by decide)) ?_)))));refine At.front2 T.a (by rfl) fun b77 v1 g1=>?_;have g1:At w F0 ((b77,EPI.f p)::L) v1:=g1;have T1:LS w ((b77,EPI.f p)::L) v1 v1:=⟨g1,Mod.refl _ _⟩;have hB77:∀{ud v:World},LS w ((b77,EPI.f p)::L) ud v→Blk v b77 (EPI.f p):=fun h=>h.a.own (b77,_) (Lcs ..);have low:∀{ud v:World},LS w ((b77,EPI.f p)::L) ud v→LS w L ud v:=fun h=>⟨h.a.sub (List.sublist_cons_self _ _),h.m⟩;have T2:=T1.draw;have hsb:∀{ud v:World},LS w L ud v→RdS v EBI p.sb x.blocks:=fun h=>hI.bl.rd fun q hq=>own h q (hR' q hq);have hsd:∀{ud v:World},LS w L ud v→RdS v ET p.sd x.flt.data:=fun h=>hI.dt.rd fun q hq=>own h q (hR' q hq);refine⟨F0,?_,(hB77 T2).ldDK (k:=Ki) p.part id rfl ((hB77 T2).ldDK (k:=.sl) p.sb id rfl ((hB77 T2).ldDK (k:=.bool) p.all id rfl ((hB77 T2).ldDK (k:=Ki) p.hashes id rfl ((hB77 T2).ldDK (k:=.sl) p.sd id rfl ?_))))⟩
 ·simp only [Llc,List.length_nil];omega
 rw [(hsb (low T2)).len,hI.part,hI.all,hI.hs];refine T2.num ht r1 fun v3 T3=>⟨T3.m,?_,?_,T3.num ht r3' fun v4 T4=>⟨T4.m,?_,?_,rfilter_ok r2 r4 (hsd (low T4)).len (ht.keep T4.a.mod) fun v5 M5=>⟨(T4.step M5).m,?_,?_,?_⟩⟩⟩
 ·simp only [Lla,Llc,List.length_nil];omega
 ·simp only [Lla,Llc,List.length_nil];omega
 ·simp only [Lla,Llc,List.length_nil];omega
 ·simp only [Lla,Llc,List.length_nil];omega
 ·simp only [Lla,Llc,List.length_nil];omega
 ·simp only [Lla,Llc,List.length_nil];omega
 have T5:=T4.step M5;have eP:((((((s++[112,97,114,116])++nmR x.part)++[32,98,108,111,99,107,115])++nmR x.blocks.length)++[32,102,105,108,116,101,114])++fltR x.flt)++[10]=s++partR x:=by unfold partR;simp only [Laa]
 rw [eP];refine join2 (a:=.str) (b:=Ki) (fun (s':Str) (kk:Int) v=>s'=(s++partR x)++bs.flatMap blkR∧kk=((base+bs.length:Nat):Int)∧LS w L v v) ?_ ?_;rotate_left
 ·rintro s' kk v6 ⟨rfl,rfl,T6⟩;exact⟨⟨i+1,es,by omega,et.symm,by rw [ek],T6⟩,by rw [es];omega⟩
 intro k2 hk2;refine loop3 (k1:=.str) (k2:=Ki) (k3:=Ki) (fun (s':Str) (kk:Int) (t:Int) v=>∃n:Nat,t=(n:Int)∧n≤bs.length∧s'=(s++partR x)++(bs.take n).flatMap blkR∧kk=((base+n:Nat):Int)∧LS w ((b77,EPI.f p)::L) v v) (fun _ _ t _=>(bs.length-t).toNat) (x1:=s++partR x) (x2:=(base:Int)) (x3:=0) rfl rfl rfl
  ⟨0,rfl,Nzl _,by simp,rfl,⟨T5.a,Mod.refl _ _⟩⟩ ?_
 rintro (s':Str) (kk:Int) (t:Int) v7 ⟨n,rfl,hn2,rfl,rfl,T7⟩;refine (hB77 T7).ldK (k:=.sl) p.sb rfl ?_;rw [(hsb (low T7)).len,←hbl2];refine Iq (fun q=>?_) fun q=>?_;rotate_left
 ·have q:bs.length≤n:=dge q;have:n=bs.length:=by omega
  subst this;rw [Ltl (Nlr _)];exact hk2 _ _ _ ⟨rfl,rfl,low T7⟩
 have q:n<bs.length:=dlt q;obtain⟨z,hz⟩:=Gq q;have hz2:=hfget hz;rw [←heq] at hz2;rw [List.getElem?_map] at hz2;obtain⟨y,hy,hyz⟩:=Option.map_eq_some_iff.1 hz2;have hrd:=hT.bl.rd (own (low T7));have hrec:=(hT.recs y (Lmg hy)).rd (own (low T7));have hzm:z∈I.flatMap fun x=>x.2:=Lmg (hfget hz);have hze:z.ents.length≤65536:=hbe z hzm;have hzr:=hbr z hzm;obtain⟨y1,sr⟩:=y;have hyz:y1=z:=hyz;subst hyz;have h6:=mem_flat (f:=blkR) (Lmg hz);have h7:=take_flat (f:=blkR) bs n;have es2:=step64 (i:=n) (by omega);have es3:=step64 (i:=base+n) (by omega);refine (hB (low T7)).ldK (k:=.sl) sB rfl (hrd.ix rfl rfl hy fun b100 o101 _ hc=>Lq (k:=Ki) y1.frm (hc 0 (by decide)) (Lq (k:=Ki) y1.to (hc 1 (by decide)) (Lq (k:=Ki) y1.info.stored (hc 2 (by decide)) (Lq (k:=Ki) y1.info.raw (hc 3 (by decide)) (Lq (k:=Ki) y1.info.count (hc 4 (by decide)) (Lq (k:=.str) y1.info.cut (hc 5 (by decide)) (Lq (k:=Ki) y1.part (hc 6 (by decide)) (Lq (k:=Ki) y1.how (hc 7 (by decide)) (Lq (k:=Ki) (y1.flag:Int) (hc 8 (by decide)) (Lq (k:=.sl) sr (hc 9 (by decide)) ?_))))))))));refine lines_ok hzr hrec (ht.keep T7.a.mod) (by omega) (by omega) fun v8 M8=>⟨?_,⟨n+1,es2,by omega,?_,es3,⟨(T7.step M8).a,Mod.refl _ _⟩⟩,by rw [es2];omega⟩
 ·rw [Lla,Lla];omega
 ·rw [take_flat1 hz,←Laa]
end
set_option maxHeartbeats 1000000 in
theorem dumps_walk{w0:World}{sf:Sl}{file:Str}(hf:RdS w0 ET sf file)(hfl:file.length≤1048576)(ht:TabU w0){K:Bool→Wp}(hK:∀w',Mod F0 w0 w'→K true w') :
  callK Tryz.prog c_24 [Az sf] w0 Ob K:=by
 refine go_24 _ _ _ ?_;have same:∀f:Str,dumpP f=dumpR f:=fun f=>dump_law f fun h x hx=>((list_rng h).2 x hx).2;rw [hf.len];refine roomy_ok (At.init w0 F0) hf hfl fun w1 sA RA h1 vA=>?_;have h1:At w0 F0 RA w1:=h1;have view:∀{t:Sl} {u:World} {L:BL},t.p=sA.p→t.len=file.length→t.len≤t.cap→At w0 F0 L u→(∀q∈RA,q∈L)→RdS u ET t file:=fun {t u L} hp hl hc h hm=>(VecL.viewOf vA hl hc hp).rd fun q hq=>h.own q (hm q hq);refine pre_ok (f:=file) vA rfl fun t4 hp4 hl4 hc4=>?_;refine dump_ok (view hp4 hl4 hc4 h1 fun q hq=>hq) hfl (ht.keep h1.mod) fun w2 M2 hdl=>?_;have g2:=h1.keep0 M2 fun _=>id;have hdr:(dumpR file).length≤35184372088832:=by rw [←same];exact hdl
 refine join1 (a:=.bool) (fun (q:Bool) u=>q=false∧At w0 F0 RA u) ?_ ?_
 ·intro k hk;refine rdump_ok (hf.quiet g2.mod) hfl (ht.keep g2.mod) hdr fun w3 M3=>?_;have g3:=g2.keep0 M3 fun _=>id;rw [same];refine ifK_f (by simp) (roomy_ok g3 hf hfl fun w8 s34 R34 h8 v34=>?_);refine same_ok (t:=roomP file) (vA.rd fun q hq=>h8.own q (by simp [hq])) (v34.rd fun q hq=>h8.own q (by simp [hq])) (by unfold roomP tailP;rw [Lla,List.length_replicate];omega) fun w9 M9=>hk _ _ ⟨rfl,(h8.keep0 M9 fun _=>id).sub (Lsl _ _)⟩
 rintro q5 w7 ⟨rfl,g7⟩;refine ifK_f rfl ?_;refine pre_ok (f:=file) vA rfl fun t40 hp40 hl40 hc40=>?_;have g7:At w0 F0 ([]++RA) w7:=g7;refine turned_ok g7 vA hfl hp40 hl40 hc40 fun w8 RA' g8 vA'=>?_;have hT:(turnP file).length=file.length:=turnP_len file;have hTl:(turnP file).length≤1048576:=by omega
 have view':RdS w8 ET t40 (turnP file):=(VecL.viewOf vA' (by rw [hT];exact hl40) hc40 hp40).rd fun q hq=>g8.own q (Lmr _ hq);refine dump_ok view' hTl (ht.keep g8.mod) fun w9 M9 hdl2=>?_;have hdr2:(dumpR (turnP file)).length≤35184372088832:=by rw [←same];exact hdl2
 have g9:=g8.keep0 M9 fun _=>id;refine roomy_ok g9 hf hfl fun w10 s46 R46 g10 v46=>?_;refine pre_ok (f:=file) v46 rfl fun t48 hp48 hl48 hc48=>?_;refine turned_ok g10 v46 hfl hp48 hl48 hc48 fun w11 R46' g11 v46'=>?_;have view2:RdS w11 ET t48 (turnP file):=(VecL.viewOf v46' (by rw [hT];exact hl48) hc48 hp48).rd fun q hq=>g11.own q (Lmr _ hq);refine rdump_ok view2 hTl (ht.keep g11.mod) hdr2 fun w12 M12=>?_;rw [same,beq_self_eq_true];exact hK _ (g11.keep0 M12 fun _=>id).mod
end Go.Proofs.YtoegpmjoajipcaaGreatDoor
