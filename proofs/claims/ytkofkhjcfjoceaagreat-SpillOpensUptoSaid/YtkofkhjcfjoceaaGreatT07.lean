/- Part T07. -/
import Derived.Test.YtkofkhjcfjoceaaGreatT06
import Derived.Test.YtkofkhjcfjoceaaGreatT03
import Derived.Lib.ConvBytes
namespace Go.Proofs.YtkofkhjcfjoceaaGreat
open Go.Vw
def spB:List BI→Int
 | []=>0
 | b::r=>b.stored+5+spB r
def spI:List PartI→Int
 | []=>0
 | x::r=>spB x.blocks+spI r
def blkN(key:Str)(b:BI):Str:=putN b.stored.toNat++putN b.raw.toNat++putN b.count.toNat++putN (comN key b.cut)++putN (b.cut.length-comN key b.cut)++b.cut.drop (comN key b.cut)
def bodB:List BI→Str→Str
 | [],_=>[]
 | b::r,key=>blkN key b++bodB r b.cut
def headN(x:PartI)(last:Int):Str:=putN (x.part-last-1).toNat++putN (encF x.flt).1.length++(encF x.flt).1++putN x.blocks.length
def bodI:List PartI→Int→Str
 | [],_=>[]
 | x::r,last=>headN x last++bodB x.blocks []++bodI r x.part
def bodyN(parts:Int)(l:List PartI):Str:=putN parts.toNat++putN l.length++bodI l (-1)
theorem chkB_cons{x:BI}{r:List BI}{key:Str}:chkB (x::r) key=(rightB x key&&chkB r x.cut):=rfl
theorem spB_le:∀(l:List BI) (key:Str),chkB l key=true→0≤spB l∧spB l≤65541*l.length
 | [],_,_=>by simp [spB]
 | b::r,key,h=>by
  rw [chkB_cons,Bat] at h;have h1:=odt h.1;have h2:=spB_le r b.cut h.2;simp only [spB,Llc];have:=h1.1;have:=h1.2.1;omega
theorem spI_le(parts:Int):∀(l:List PartI) (last:Int) (n:Nat),chkI parts l last n=true→n≤262144→0≤spI l∧spI l≤65541*(262144-n)∧l.length≤262144-n
 | [],_,n,_,hn=>by simp [spI];omega
 | x::r,last,n,h,hn=>by
  rw [chkI,Bat,Bat] at h;have h1:=odt h.1.1;have h2:=spB_le x.blocks [] h.1.2;have h3:=spI_le parts r x.part _ h.2 h1.2.2.2.1;have:=h1.2.2.1;have:=h1.2.2.2.1;simp only [spI,Llc];omega
theorem blocksOf_ok{w:World}{S:Nat→Prop}{s:Sl}{ps:List PI}{l:List PartI}(h:FootR w S s ps l){parts:Int}{n0:Nat}{last:Int}(hc:chkI parts l last 0=true){K:Int→Wp}(hK:∀w',Mod F0 w w'→K (spI l) w') :
  callK Pg c_68 [.agg [.int .i64 parts,.sl s]] w Oi K:=by
 refine go_68 _ _ _ _ ?_;refine (Fresh.start w F0).alK fun b3 w1 f1 _ M1=>?_;have hB:Blk w1 b3 [.int .i64 parts,(LV.sl s).toV]:=f1.blk (i:=0) rfl;refine hB.ldK (k:=.sl) s rfl ?_;have h1:=h.quiet M1;have hll:=h.ll;rw [h.rd.len,h.len];refine join1 (a:=Ki) (fun (n:Int) u=>n=spI l∧Mod F0 w u) ?_ (by rintro n u ⟨rfl,hM⟩;exact hK u hM);intro k6 hk6;refine loop2 (k1:=Ki) (k2:=Ki) (fun (n t:Int) u=>∃(i m:Nat) (la:Int),t=(i:Int)∧i≤l.length∧m≤262144∧0≤n∧n≤65541*m∧chkI parts (l.drop i) la m=true∧spI l=n+spI (l.drop i)∧Mod F0 w u) (fun _ t _=>(l.length-t).toNat) (x1:=0) (x2:=0) rfl rfl
  ⟨0,0,last,rfl,Nzl _,Nzl _,Int.le_refl _,by decide,hc,by simp,M1⟩ ?_
 rintro n t u ⟨i,m,la,rfl,hi,hm,hn0,hn,hch,he,hM⟩;change Int at n;refine Iq (fun q=>?_) fun q=>?_;rotate_left
 ·have q:l.length≤i:=dge q;rw [Ldn q] at he;exact hk6 _ _ ⟨by rw [he];simp [spI],hM⟩
 have q:i<l.length:=dlt q;obtain⟨x,hx⟩:=Gq q;obtain⟨p,hp⟩:=Gq (l:=ps) (i:=i) (by rw [h.len];exact q);have hu:=h.quiet hM;have hi1:=hu.each i p x hp hx;rw [Dg hx,chkI,Bat,Bat] at hch;rw [Dg hx] at he;have hr1:=odt hch.1.1;have hm1:=hr1.2.2.2.1;refine hu.rd.ix rfl rfl hp fun b o _ hc=>Lq (k:=Ki) p.part (hc 0 (by decide)) (Lq (k:=.sl) p.sb (hc 1 (by decide)) (Lq (k:=.bool) p.all (hc 2 (by decide)) (Lq (k:=Ki) p.hashes (hc 3 (by decide)) (Lq (k:=.sl) p.sd (hc 4 (by decide)) ?_))));refine (Fresh.start u F0).alK fun b24 u1 f2 _ _=>f2.stK 0 rfl (Nlr 5) fun u2 f3 _=>?_;have hB2:Blk u2 b24 (EPI.f p):=f3.blk (i:=0) rfl;refine hB2.ldK (k:=.sl) p.sb rfl ?_;have M2:=mod0 hM f3.mod;have hbl:=hi1.bl.len;have hlb:=hi1.lb;rw [hbl];refine join1 (a:=Ki) (fun (n':Int) u=>n'=n+spB x.blocks∧Mod F0 w u) ?_ ?_
 ·intro k22 hk22;refine loop2 (k1:=Ki) (k2:=Ki) (fun (n' t:Int) v=>∃(j:Nat) (key:Str),t=(j:Int)∧j≤x.blocks.length∧n≤n'∧n'≤n+65541*j∧chkB (x.blocks.drop j) key=true∧n+spB x.blocks=n'+spB (x.blocks.drop j)∧Mod F0 w v) (fun _ t _=>(x.blocks.length-t).toNat) (x1:=n) (x2:=0) rfl rfl
   ⟨0,[],rfl,Nzl _,Int.le_refl _,by simp,hch.1.2,by simp,M2⟩ ?_
  rintro n' t v ⟨j,key,rfl,hj,h1',h2',hcb,heb,hMv⟩;change Int at n';refine Iq (fun q2=>?_) fun q2=>?_;rotate_left
  ·have q2:x.blocks.length≤j:=dge q2;rw [Ldn q2] at heb;exact hk22 _ _ ⟨by rw [heb];simp [spB],hMv⟩
  have q2:j<x.blocks.length:=dlt q2;obtain⟨y,hy⟩:=Gq q2;rw [Dg hy,chkB_cons,Bat] at hcb;rw [Dg hy] at heb;have hy1:=odt hcb.1;have hs1:=hy1.1;have hs2:=hy1.2.1;have hv:=(h.quiet hMv).each i p x hp hx;refine hv.bl.ix rfl rfl hy fun b o _ hc=>Lq (k:=Ki) y.stored (hc 0 (by decide)) (Lq (k:=Ki) y.raw (hc 1 (by decide)) (Lq (k:=Ki) y.count (hc 2 (by decide)) (Lq (k:=.str) y.cut (hc 3 (by decide)) ?_)));refine (Fresh.start v F0).alK fun b53 v1 g1 _ _=>g1.stK 0 rfl (Nlr 4) fun v2 g2 _=>?_;have hB3:Blk v2 b53 (EBI.f y):=g2.blk (i:=0) rfl;refine hB3.ldK (k:=Ki) y.stored rfl ?_;have es:=step64 (i:=j) (by omega);have e1:w64 (y.stored+5)=y.stored+5:=Wq (by omega) (by omega);have e2:w64 (n'+(y.stored+5))=n'+(y.stored+5):=Wq (by omega) (by omega);rw [e1,e2];exact⟨⟨j+1,y.cut,es,by omega,by omega,by omega,hcb.2,by rw [heb];simp only [spB];omega,mod0 hMv g2.mod⟩,by rw [es];omega⟩
 rintro n' u' ⟨rfl,hM'⟩;have es:=step64 (i:=i) (by omega);have hsb:=spB_le x.blocks [] hch.1.2;exact⟨⟨i+1,m+x.blocks.length,x.part,es,by omega,hm1,by omega,by omega,hch.2,by rw [he];simp only [spI];omega,hM'⟩,by rw [es];omega⟩
def putsN(ns:List Nat):Str:=(ns.map putN).flatten
theorem putsN_snoc(ns:List Nat)(n:Nat):putsN (ns++[n])=putsN ns++putN n:=by simp [putsN]
theorem putN_9{v:Nat}(h:v<4611686018427387904):(putN v).length≤9:=putN_len v 8 (by omega)
theorem putsN_len:∀(ns:List Nat),(∀n∈ns,n<4611686018427387904)→(putsN ns).length≤9*ns.length
 | [],_=>by simp [putsN]
 | n::r,h=>by
  have:=putsN_len r fun m hm=>h m (Lmc _ hm);have:=putN_9 (h n Lcs);simp only [putsN,List.map_cons,List.flatten_cons,Lla,Llc] at *;omega
theorem put1_ok{w0 w:World}{m ro:BL}{b5 b9:Nat}{s:Sl}{t:Str}{ns:List Nat}(f:Fresh w0 w F0 ((b5,[(LV.sl s).toV])::(m++ro)))(v:VecL ro ET s t)(hm:(b9,EN.cells ns)∈m)(hns:∀n∈ns,n<4611686018427387904)(hl:t.length+9*ns.length≤1099511627776){K:Wp}
  (hK:∀w' s' ro',Fresh w0 w' F0 ((b5,[(LV.sl s').toV])::(m++ro'))→VecL ro' ET s' (t++putsN ns)→K w') :
  callV Pg (.func (.func c_69) #[] #[(LV.toV (.ptr (some (b5,0))))]) [Az (⟨some (b9,0),ns.length,ns.length⟩)] w (.tup []) K:=by
 refine callV_func (by kernel_rfl) [Az (⟨some (b9,0),ns.length,ns.length⟩),Ap (some (b5,0))] rfl ?_;refine go_69 _ _ _ _ _ ?_;refine join0 (fun u=>∃s' ro',Fresh w0 u F0 ((b5,[(LV.sl s').toV])::(m++ro'))∧VecL ro' ET s' (t++putsN ns)) ?_ (by rintro u ⟨s',ro',f',v'⟩;exact hK u s' ro' f' v');intro k4 hk4;refine loop1 (k:=Ki) (fun (i:Int) u=>∃(j:Nat) (s':Sl) (ro':BL),i=(j:Int)∧j≤ns.length∧Fresh w0 u F0 ((b5,[(LV.sl s').toV])::(m++ro'))∧VecL ro' ET s' (t++putsN (ns.take j))) (fun i _=>(ns.length-i).toNat) (x:=0) rfl ⟨0,s,ro,rfl,Nzl _,f,by simpa [putsN] using v⟩ ?_;rintro i u ⟨j,s',ro',rfl,hj,f',v'⟩;have hrd:RdS u EN ⟨some (b9,0),ns.length,ns.length⟩ ns:=by
  have hB:Blk u b9 (EN.cells ns):=f'.own (b9,_) (Lmc _ (Lml _ hm));exact⟨rfl,.inr ⟨b9,0,rfl,fun i hi=>by rw [hB.cell,Nat.zero_add]⟩,Nlr _⟩
 refine Iq (fun q=>?_) fun q=>?_;rotate_left
 ·have q:ns.length≤j:=dge q;rw [Ltl q] at v';exact hk4 u ⟨s',ro',f',v'⟩
 have q:j<ns.length:=dlt q;obtain⟨n,hn⟩:=Gq q;have hnb:=hns n (Lmg hn);have e9:=putN_9 hnb;have htl:(putsN (ns.take j)).length≤9*j:=by
  have:=putsN_len (ns.take j) fun m hm=>hns m (List.mem_of_mem_take hm);rw [Llt] at this;omega
 refine hrd.ix rfl rfl hn fun b o _ hc=>Lq (k:=Ki) (n:Int) (hc 0 (by decide)) ?_;have hB5:=f'.blk (i:=0) rfl;have h5:¬Ks ro' b5:=by
  rintro ⟨q,hq,e⟩;have:=f'.nodup;rw [List.map_cons,List.nodup_cons] at this;exact this.1 (List.mem_map.2 ⟨q,Lmr _ hq,e⟩)
 have hd:=(Mq u).blk hB5 id;refine⟨Ks ro',hd.ldDK (k:=.sl) s' h5 rfl (put_ok (by omega) fun u2 ro2 s2 g2 v2=>⟨g2.mod.mono fun _ _ h=>h.elim,?_⟩)⟩;have f2:Fresh w0 u2 F0 ((((b5,[(LV.sl s').toV])::m)++ro2)++ro'):=by
  refine ((f'.quiet (Mq u)).join (Fresh.of_at g2) (fun _ _ h=>h) (fun _ _ _ h=>h)).perm ?_;simp only [List.cons_append,Laa];exact (Lpc.append_left m).cons _
 refine f2.app v' (v2.rd fun p hp=>f2.own p (Lml _ (Lmr _ hp))) rfl rfl (by rw [Lla];omega) fun s3 ro3 u3 f3 v3 M3=>⟨g2.mod.trans M3 (fun _ _ h=>h.elim) (fun _ _ h=>h),?_⟩;refine f3.stK 0 rfl (Nlr 1) fun u4 f4 _=>?_;have es:=step64 (i:=j) (by omega);have et:putsN (ns.take (j+1))=putsN (ns.take j)++putN n:=by
  rw [List.take_add_one,hn,Option.toList_some,putsN_snoc]
 refine⟨⟨j+1,s3,ro3,es,by omega,f4.sub ?_,by rw [et,←Laa];exact v3⟩,by rw [es];omega⟩;show List.Sublist ((b5,[(LV.sl s3).toV])::(m++ro3)) ((b5,[(LV.sl s3).toV])::((m++ro2)++ro3));exact ((Lsl m ro2).append (List.Sublist.refl _)).cons_cons _
theorem Fresh.alst{w u:World}{D:Nat→Prop}{m:BL}(h:Fresh w u D m){e:TypeId}{cs vs:List LV}(hl:vs.length=cs.length){K:Nat→Wp}(hK:∀b u',Fresh w u' D (m++[(b,vs.map LV.toV)])→u.heap.size≤b→Mod F0 u u'→K b u') :
  Go.Vw.al u e cs fun b u1=>Go.Vw.st u1 b 0 vs fun u2=>K b u2:=by
 refine h.alK fun b u1 f1 hb M1=>f1.stK (c:=cs.map LV.toV) m.length (by simp) (by simp [hl]) fun u2 f2 M2=>?_;have e:(m++[(b,cs.map LV.toV)]).set m.length (b,spl (cs.map LV.toV) 0 (vs.map LV.toV))=m++[(b,vs.map LV.toV)]:=by
  rw [List.set_append_right _ _ (Nlr _),Nat.sub_self,List.set_cons_zero];rw [spl_eq _ _ _ (by simp [hl]),Ldn (by simp [hl]),Lan];rfl
 rw [e] at f2;exact hK b u2 f2 hb (M1.trans M2 (fun _ _ h=>h) fun z hz e=>by have e:z=b:=e;omega)
theorem Fresh.mid{w u:World}{D:Nat→Prop}{x:Nat×List Value}{M ro R:BL}(h:Fresh w u D ((x::(M++ro))++R)):Fresh w u D (x::((M++R)++ro)):=by
 refine h.perm ?_;simp only [List.cons_append,Laa];exact (Lpc.append_left M).cons _
theorem Fresh.front{w u:World}{D:Nat→Prop}{x:Nat×List Value}{M R ro:BL}(h:Fresh w u D (x::((M++R)++ro))):Fresh w u D (x::(M++ro)):=
 h.sub (((Lsl M R).append (List.Sublist.refl _)).cons_cons _)
theorem encF_len{f:Flt}:(encF f).1.length≤4200:=by
 unfold encF;split
 ·exact Nat.le_of_ble_eq_true rfl
 split
 ·exact Nat.le_of_ble_eq_true rfl
 split
 ·rename_i h;obtain⟨_,_,_,_,d2⟩:=kindN_3 h;have:=putN_9 (v:=f.data.length) (by omega);simp only [Lla,Llc];omega
 ·exact Nzl _
theorem toNat_cast{n:Int}(h:0≤n):((n.toNat:Nat):Int)=n:=Int.toNat_of_nonneg h
theorem body_arith'{a A B C E X Y:Nat}(h:a≤18+A+B+X+C)(hXY:X≤Y)(hCE:C≤E):a≤18+(A+Y)+(B+E):=by omega
theorem body_arith{a i n j b:Nat}(h:a≤18+6000*i+200*n+4300+200*j)(hj:j≤b):a≤18+6000*(i+1)+200*(n+b):=by
 rw [Nat.mul_add,Nat.mul_add,Nat.mul_one];exact body_arith' h (Nat.le_of_ble_eq_true rfl) (Nat.mul_le_mul_left 200 hj)
set_option maxHeartbeats 4000000 in
theorem body_ok{w:World}{S:Nat→Prop}{s:Sl}{ps:List PI}{l:List PartI}(h:FootR w S s ps l){parts:Int}(hc:chkF parts l=true){K:Sl→Wp}(hK:∀w' ro s',Fresh w w' F0 ro→VecL ro ET s' (bodyN parts l)→K s' w') :
  callK Pg c_70 [.agg [.int .i64 parts,.sl s]] w Oz K:=by
 refine go_70 _ _ _ _ ?_;unfold chkF at hc;rw [Bat] at hc;obtain⟨hp1,hp2⟩:=odt hc.1;have hch:=hc.2;have hnl:=(spI_le parts l (-1) 0 hch (Nzl _)).2.2;refine (Fresh.start w F0).alK fun b3 w1 f1 _ M1=>f1.alK fun b5 w2 f2 _ M2=>?_;have f2:Fresh w w2 F0 [(b3,[.int .i64 parts,(LV.sl s).toV]),(b5,[(LV.sl ⟨none,0,0⟩).toV])]:=f2;have hB:=f2.blk (i:=0) rfl;refine hB.ldK (k:=Ki) parts rfl (hB.ldK (k:=.sl) s rfl (f2.alK fun b9 w3 f3 _ M3=>?_));rw [h.rd.len,h.len] at f3;have f3:Fresh w w3 F0 ((b5,[(LV.sl ⟨none,0,0⟩).toV])::([(b3,[.int .i64 parts,(LV.sl s).toV]),(b9,EN.cells [parts.toNat,l.length])]++[])):=by
  refine f3.perm ?_;have e:EN.cells [parts.toNat,l.length]=[.int .i64 parts,.int .i64 (l.length:Int)]:=by
   show [Value.int .i64 ((parts.toNat:Nat):Int),.int .i64 (l.length:Int)]=_;rw [toNat_cast (by omega)]
  rw [e];exact List.Perm.swap _ _ _
 refine put1_ok (ns:=[parts.toNat,l.length]) f3 (VecL.nil ET) (by simp) (fun n hn=>?_) (by simp) fun w4 s4 ro4 f4 v4=>?_
 ·simp only [List.mem_cons,List.not_mem_nil,or_false] at hn;rcases hn with rfl | rfl<;>omega
 have f4:Fresh w w4 F0 ((b5,[(LV.sl s4).toV])::([(b3,[.int .i64 parts,(LV.sl s).toV])]++ro4)):=Fresh.front (M:=[_]) (R:=[_]) f4;have hB3:=f4.blk (i:=1) rfl;refine hB3.ldK (k:=.sl) s rfl ?_;rw [h.rd.len,h.len];have epre:[]++putsN [parts.toNat,l.length]=putN parts.toNat++putN l.length:=by simp [putsN]
 rw [epre] at v4;have hlen0:(putN parts.toNat++putN l.length).length≤18:=by
  have h1:=putN_9 (v:=parts.toNat) (by omega);have h2:=putN_9 (v:=l.length) (by omega);rw [Lla];omega
 unfold bodyN at hK;generalize putN parts.toNat++putN l.length=T0 at hK v4 hlen0;refine join0 (fun u=>∃s' ro',Fresh w u F0 ((b5,[(LV.sl s').toV])::([(b3,[.int .i64 parts,(LV.sl s).toV])]++ro'))∧VecL ro' ET s' (T0++bodI l (-1))) ?_ ?_;rotate_left
 ·rintro u ⟨s',ro',f,v⟩;exact (f.blk (i:=0) rfl).ldK (k:=.sl) s' rfl (hK u ro' s' (f.sub ((Lsr [_] _).cons _)) v)
 intro k13 hk13;refine loop2 (k1:=Ki) (k2:=Ki) (fun (last t:Int) u=>∃(i n:Nat) (s':Sl) (ro':BL) (T:Str),t=(i:Int)∧i≤l.length∧n≤262144∧-1≤last∧last<65535∧chkI parts (l.drop i) last n=true ∧
   Fresh w u F0 ((b5,[(LV.sl s').toV])::([(b3,[.int .i64 parts,(LV.sl s).toV])]++ro'))∧VecL ro' ET s' T∧T++bodI (l.drop i) last=T0++bodI l (-1)∧T.length≤18+6000*i+200*n) (fun _ t _=>(l.length-t).toNat) (x1:=-1) (x2:=0) rfl rfl
  ⟨0,0,s4,ro4,T0,rfl,Nzl _,Nzl _,Int.le_refl _,by decide,hch,f4,v4,rfl,by omega⟩ ?_
 rintro last t u ⟨i,n,s',ro',T,rfl,hi,hn,hla,hlb,hci,fu,vu,heq,hTl⟩;change Int at last;refine Iq (fun q=>?_) fun q=>?_;rotate_left
 ·have q:l.length≤i:=dge q;rw [Ldn q,bodI,Lan] at heq;exact hk13 u ⟨s',ro',fu,heq▸vu⟩
 have q:i<l.length:=dlt q;obtain⟨x,hx⟩:=Gq q;obtain⟨p,hp⟩:=Gq (l:=ps) (i:=i) (by rw [h.len];exact q);have hi1:=(h.quiet fu.mod).each i p x hp hx;rw [Dg hx,chkI,Bat,Bat] at hci;rw [Dg hx,bodI] at heq;have hr1:=odt hci.1.1;have hlp:last<x.part:=hr1.1;have hpp:x.part<parts:=hr1.2.1;have hnb:=hr1.2.2.2.1;refine (h.quiet fu.mod).rd.ix rfl rfl hp fun b o _ hc=>Lq (k:=Ki) p.part (hc 0 (by decide)) (Lq (k:=.sl) p.sb (hc 1 (by decide)) (Lq (k:=.bool) p.all (hc 2 (by decide)) (Lq (k:=Ki) p.hashes (hc 3 (by decide)) (Lq (k:=.sl) p.sd (hc 4 (by decide)) ?_))));refine fu.alst (by rfl) fun b25 u2 f25 _ M25=>?_;have g2:Fresh w u2 F0 ((b5,[(LV.sl s').toV])::(([(b3,[.int .i64 parts,(LV.sl s).toV])]++[(b25,EPI.f p)])++ro')):=Fresh.mid f25;have hB25:Blk u2 b25 (EPI.f p):=g2.own (b25,EPI.f p) (by simp);refine hB25.ldK (k:=.bool) p.all rfl (hB25.ldK (k:=Ki) p.hashes rfl (hB25.ldK (k:=.sl) p.sd rfl ?_));refine filtEncode_ok (hi1.dt.quiet M25) hi1.ld fun u3 ro3 s3 v3 f3=>?_;rw [hi1.all,hi1.hs] at v3;have v3:VecL ro3 ET s3 (encF x.flt).1:=v3;have hel:=encF_len (f:=x.flt);have g3:=Fresh.mid (g2.join f3 (fun _ _ h=>h) fun _ _ _ h=>h);have hB25:=f3.mod.blk hB25 id;refine hB25.ldK (k:=Ki) p.part rfl ?_;rw [v3.1,hi1.part];have ew1:w64 (x.part-last)=x.part-last:=Wq (by omega) (by omega);have ew2:w64 (x.part-last-1)=(((x.part-last-1).toNat:Nat):Int):=by rw [Wq (by omega) (by omega),toNat_cast (by omega)]
 rw [ew1,ew2];refine g3.alK fun b35 u4 f4 _ M4=>?_;have g4:=Fresh.mid f4;have hB25:=M4.blk hB25 id;refine put1_ok (ns:=[(x.part-last-1).toNat,(encF x.flt).1.length]) g4 vu (b9:=b35) (by
  refine Lmr _ (Lms.2 ?_);rfl) (fun n hn=>?_) (by simp only [Llc,List.length_nil];omega) fun u5 s5 ro5 f5 v5=>?_
 ·simp only [List.mem_cons,List.not_mem_nil,or_false] at hn;rcases hn with rfl | rfl<;>omega
 have hB25:Blk u5 b25 (EPI.f p):=f5.own (b25,EPI.f p) (by simp);have hl5:=putsN_len [(x.part-last-1).toNat,(encF x.flt).1.length] (fun n hn=>by
  simp only [List.mem_cons,List.not_mem_nil,or_false] at hn;rcases hn with rfl | rfl<;>omega)
 simp only [Llc,List.length_nil] at hl5;refine (f5.blk (i:=0) rfl).ldK (k:=.sl) s5 rfl ?_;refine Fresh.app (m:=_::_) f5 v5 (v3.rd fun p hp=>f5.own p (by simp [hp])) rfl rfl (by rw [Lla];omega) fun s6 ro6 u6 f6 v6 M6=>?_;refine f6.stK 0 rfl (Nlr 1) fun u7 f7 M7=>?_;have f7:Fresh w u7 F0 ((b5,[(LV.sl s6).toV])::((((([(b3,[.int .i64 parts,(LV.sl s).toV])]++[(b25,EPI.f p)])++ro3)++[(b35,_)]))++ro6)):=f7;have f7:Fresh w u7 F0 ((b5,[(LV.sl s6).toV])::(([(b3,[.int .i64 parts,(LV.sl s).toV])]++[(b25,EPI.f p)])++ro6)):=Fresh.front (Fresh.front f7);have hB25:Blk u7 b25 (EPI.f p):=f7.own (b25,EPI.f p) (by simp);refine hB25.ldK (k:=.sl) p.sb rfl ?_;have hlb:=hi1.lb;rw [hi1.bl.len];refine f7.alK fun b43 u8 f8 _ M8=>?_;have g8:=Fresh.mid f8;refine put1_ok (ns:=[x.blocks.length]) g8 v6 (b9:=b43) (by
  refine Lmr _ (Lms.2 ?_);rfl) (fun n hn=>?_) (by simp only [Llc,List.length_nil,Lla];omega) fun u9 s9 ro9 f9 v9=>?_
 ·simp only [List.mem_cons,List.not_mem_nil,or_false] at hn;subst hn;omega
 have hl9:=putN_9 (v:=x.blocks.length) (by omega);have ehead:T++putsN [(x.part-last-1).toNat,(encF x.flt).1.length]++(encF x.flt).1++putsN [x.blocks.length]=T++headN x last:=by
  simp [putsN,headN]
 rw [ehead] at v9;have hT9:(T++headN x last).length≤18+6000*i+200*n+4300:=by
  rw [←ehead];simp only [Lla,putsN,List.map_cons,List.map_nil,List.flatten_cons,List.flatten_nil,List.length_nil] at hl5 ⊢;omega
 have f9:Fresh w u9 F0 ((b5,[(LV.sl s9).toV])::(([(b3,[.int .i64 parts,(LV.sl s).toV])]++[(b25,EPI.f p)])++ro9)):=Fresh.front f9;have hB25:Blk u9 b25 (EPI.f p):=f9.own (b25,EPI.f p) (by simp);refine hB25.ldK (k:=Ki) p.part rfl (hB25.ldK (k:=.sl) p.sb rfl ?_);rw [hi1.bl.len,hi1.part];have hhl:(T++headN x last)++(bodB x.blocks []++bodI (l.drop (i+1)) x.part)=T0++bodI l (-1):=by rw [←heq];simp
 generalize T++headN x last=T1 at v9 hT9 hhl;refine join0 (fun u'=>∃(s':Sl) (ro':BL) (T2:Str),Fresh w u' F0 ((b5,[(LV.sl s').toV])::([(b3,[.int .i64 parts,(LV.sl s).toV])]++ro'))∧VecL ro' ET s' T2∧T2++bodI (l.drop (i+1)) x.part=T0++bodI l (-1)∧T2.length≤18+6000*(i+1)+200*(n+x.blocks.length)) ?_ ?_;rotate_left
 ·rintro u' ⟨s2,ro2,T2,fz,vz,hz,hzl⟩;have es:=step64 (i:=i) (by omega);exact⟨⟨i+1,n+x.blocks.length,s2,ro2,T2,es,by omega,hnb,by omega,by omega,hci.2,fz,vz,hz,hzl⟩,by rw [es];omega⟩
 intro k48 hk48;refine loop2 (k1:=.str) (k2:=Ki) (fun (key:Str) (t:Int) v=>∃(j:Nat) (s':Sl) (ro':BL) (T2:Str),t=(j:Int)∧j≤x.blocks.length∧key.length≤64∧chkB (x.blocks.drop j) key=true ∧
   Fresh w v F0 ((b5,[(LV.sl s').toV])::(([(b3,[.int .i64 parts,(LV.sl s).toV])]++[(b25,EPI.f p)])++ro'))∧VecL ro' ET s' T2∧T2++(bodB (x.blocks.drop j) key++bodI (l.drop (i+1)) x.part)=T0++bodI l (-1)∧T2.length≤18+6000*i+200*n+4300+200*j) (fun _ t _=>(x.blocks.length-t).toNat) (x1:=[]) (x2:=0) rfl rfl
  ⟨0,s9,ro9,T1,rfl,Nzl _,Nzl _,hci.1.2,f9,v9,hhl,by omega⟩ ?_
 rintro key t v ⟨j,s',ro',T2,rfl,hj,hkl,hcb,fv,vv,hev,hTv⟩;refine Iq (fun q2=>?_) fun q2=>?_;rotate_left
 ·have q2:x.blocks.length≤j:=dge q2;rw [Ldn q2,bodB,List.nil_append] at hev;have hz:T2.length≤18+6000*(i+1)+200*(n+x.blocks.length):=body_arith hTv hj;exact hk48 v ⟨s',ro',T2,Fresh.front fv,vv,hev,hz⟩
 have q2:j<x.blocks.length:=dlt q2;obtain⟨y,hy⟩:=Gq q2;rw [Dg hy,chkB_cons,Bat] at hcb;rw [Dg hy,bodB] at hev;have hy1:=odt hcb.1;have hv:=(h.quiet fv.mod).each i p x hp hx;have hcut:y.cut.length≤64:=rightB_cut hcb.1;refine hv.bl.ix rfl rfl hy fun b o _ hc=>Lq (k:=Ki) y.stored (hc 0 (by decide)) (Lq (k:=Ki) y.raw (hc 1 (by decide)) (Lq (k:=Ki) y.count (hc 2 (by decide)) (Lq (k:=.str) y.cut (hc 3 (by decide)) ?_)));refine fv.alst (by rfl) fun b59 v2 g2 _ _=>?_;have g2:Fresh w v2 F0 ((b5,[(LV.sl s').toV])::((([(b3,[.int .i64 parts,(LV.sl s).toV])]++[(b25,EPI.f p)])++[(b59,EBI.f y)])++ro')):=Fresh.mid g2;have hB59:Blk v2 b59 (EBI.f y):=g2.own (b59,EBI.f y) (by simp);refine hB59.ldK (k:=.str) y.cut rfl (common_ok (by omega) (by omega) fun v3 M3=>?_);have g3:=g2.quiet M3;have hB59:=M3.blk hB59 id;have hcle:=comN_le key y.cut;refine hB59.ldK (k:=Ki) y.stored rfl (hB59.ldK (k:=Ki) y.raw rfl (hB59.ldK (k:=Ki) y.count rfl (hB59.ldK (k:=.str) y.cut rfl ?_)));have ew3:w64 ((y.cut.length:Int)-(comN key y.cut:Int))=((y.cut.length-comN key y.cut:Nat):Int):=by rw [Wq (by omega) (by omega)];omega
 rw [ew3];refine g3.alK fun b69 v4 f4 _ M4=>?_;have h1:=hy1.1;have h2:=hy1.2.1;have h3:=hy1.2.2.1;have h4:=hy1.2.2.2.1;have h6:=hy1.2.2.2.2.2.1;have h7:=hy1.2.2.2.2.2.2.1;have ecell:([.int .i64 y.stored,.int .i64 y.raw,.int .i64 y.count,.int .i64 (comN key y.cut:Int),.int .i64 ((y.cut.length-comN key y.cut:Nat):Int)]:List LV).map LV.toV=EN.cells [y.stored.toNat,y.raw.toNat,y.count.toNat,comN key y.cut,y.cut.length-comN key y.cut]:=by
  show _=[Value.int .i64 ((y.stored.toNat:Nat):Int),.int .i64 ((y.raw.toNat:Nat):Int),.int .i64 ((y.count.toNat:Nat):Int),.int .i64 (comN key y.cut:Int),.int .i64 ((y.cut.length-comN key y.cut:Nat):Int)];rw [toNat_cast (by omega),toNat_cast (by omega),toNat_cast (by omega)];rfl
 rw [ecell] at f4;have g4:=Fresh.mid f4;have hsm:∀n∈[y.stored.toNat,y.raw.toNat,y.count.toNat,comN key y.cut,y.cut.length-comN key y.cut],n<4611686018427387904:=fun n hn=>by
  simp only [List.mem_cons,List.not_mem_nil,or_false] at hn;rcases hn with rfl | rfl | rfl | rfl | rfl<;>omega
 refine put1_ok (ns:=[y.stored.toNat,y.raw.toNat,y.count.toNat,comN key y.cut,y.cut.length-comN key y.cut]) g4 vv (b9:=b69) (Lmr _ (Lms.2 rfl)) hsm (by simp only [Llc,List.length_nil];omega) fun v5 s5 ro5 f5 v5'=>?_;have hl5:=putsN_len _ hsm;simp only [Llc,List.length_nil] at hl5;have f5:Fresh w v5 F0 ((b5,[(LV.sl s5).toV])::((([(b3,[.int .i64 parts,(LV.sl s).toV])]++[(b25,EPI.f p)])++[(b59,EBI.f y)])++ro5)):=Fresh.front f5;have hd5:=f5.quiet (Mq v5);have hn5:∀b c,(b,c)∈((b5,[(LV.sl s5).toV])::(([(b3,[.int .i64 parts,(LV.sl s).toV])]++[(b25,EPI.f p)])++[(b59,EBI.f y)]))→¬Ks ro5 b:=fun b c hb=>by
  rintro ⟨q,hq,e⟩;have:=f5.nodup;rw [←List.cons_append,List.map_append,List.nodup_append] at this;exact this.2.2 b (List.mem_map.2 ⟨(b,c),hb,rfl⟩) q.1 (List.mem_map.2 ⟨q,hq,rfl⟩) e.symm
 refine⟨Ks ro5,(hd5.blk (i:=0) rfl).ldDK (k:=.sl) s5 (hn5 _ _ Lcs) rfl ((hd5.own (b59,EBI.f y) (by simp)).ldDK (k:=.str) y.cut (hn5 b59 (EBI.f y) (by simp)) rfl ?_)⟩;refine ssx_drop (by omega:comN key y.cut≤y.cut.length) rfl ?_;refine Fresh.appS (m:=_::_) hd5 v5' (by simp only [Lla,Lld];omega) fun s6 ro6 v6 f6 v6' M6=>⟨M6,?_⟩;refine f6.stK 0 rfl (Nlr 1) fun v7 f7 M7=>?_;have f7:Fresh w v7 F0 ((b5,[(LV.sl s6).toV])::((([(b3,[.int .i64 parts,(LV.sl s).toV])]++[(b25,EPI.f p)])++[(b59,EBI.f y)])++ro6)):=f7;refine (f7.own (b59,EBI.f y) (by simp)).ldK (k:=.str) y.cut rfl ?_;have es:=step64 (i:=j) (by omega);have eb:T2++putsN [y.stored.toNat,y.raw.toNat,y.count.toNat,comN key y.cut,y.cut.length-comN key y.cut]++y.cut.drop (comN key y.cut)=T2++blkN key y:=by simp [putsN,blkN]
 have hlz:(T2++blkN key y).length≤T2.length+45+64:=by
  rw [←eb];simp only [Lla,Lld];omega
 rw [eb] at v6';exact⟨⟨j+1,s6,ro6,T2++blkN key y,es,by omega,hcut,hcb.2,Fresh.front f7,v6',by rw [←hev];simp,by omega⟩,by rw [es];omega⟩
set_option maxRecDepth 100000
theorem go_74(n1:Int)(K:Int→Wp)(w:World)(h:K (w64 (n1+(w64 (4*(w64 ((w64 ((w64 (n1+4096))-1)).tdiv 4096)))))) w):callK Pg 93 [Ai n1] w Oi K:=Fq (n:=.nil) CS_ok mixed Tryz.func93 (Eq.mpr (by kernel_rfl) h)
theorem go_73(t_0_1:Int)(t_1_2:Int)(K:Int→Bool→Wp)(w:World)(h:al w 85 [.int .i64 t_0_1,.int .i64 t_1_2] fun b3 W4=>joinK [.bool] (fun k5=>drawK W4 fun D W6=>ldD D W6 Ki b3 0 fun n7=>ifK (decide (n7<0)) (k5 true W6) (ldD D W6 Ki b3 0 fun n8=>ifK (decide (268435456<n8)) (k5 true W6) (ldD D W6 Ki b3 1 fun n9=>ifK (decide (n9<1)) (k5 true W6) (ldD D W6 Ki b3 1 fun n10=>callK Pg 93 [Ai 16777216] W6 Oi fun n11 W12=>Mod D W6 W12∧k5 (decide (n11<n10)) W12)))) fun t2413 W14=>ifK t2413 (K 0 false W14) (ld W14 Ki b3 1 fun n15=>ld W14 Ki b3 1 fun n16=>joinK [Ki] (fun k17=>ifK (decide (0<n16.tmod 4100)) (ifK (decide (w64 ((n16.tmod 4100)-4)<1)) (K 0 false W14) (k17 (w64 ((n16.tmod 4100)-4)) W14)) (k17 (n16.tmod 4100) W14)) fun rest18 W19=>K (w64 ((w64 ((w64 (n15.tdiv 4100))*4096))+rest18)) true W19)):callK Pg 59 [.agg [.int .i64 t_0_1,.int .i64 t_1_2]] w (.tup [Li,Lb]) K:=Fq (n:=(n0 .nil (n0 (n0 (.mk (some [.tmp 24 Lb]) [] [1] (tk [0,1,2,3] (.split 3 (.take 4 (.take 5 (.take 6 (.take 7 (.take 8 (.take 9 (.take 10 (.take 11 (.take 12 (.take 13 (.take 14 (.take 15 (.take 16 (.take 17 (.take 18 .done))))))))))))))) (.take 4 (.take 5 (.take 6 (.take 7 (.take 8 (.split 8 (.take 9 (.take 10 (.take 11 (.take 12 (.take 13 (.take 14 (.take 15 (.take 16 (.take 17 (.take 18 .done)))))))))) (.take 9 (.take 10 (.take 11 (.take 12 (.take 13 (.split 13 (.take 14 (.take 15 (.take 16 (.take 17 (.take 18 .done))))) (.take 14 (.take 15 (.eff 16 (.take 17 (.take 18 .done))))))))))))))))))) .nil .nil) .nil) (n0 .nil (n0 .nil (n0 (n0 .nil (.mk (some [.tmp 5 Li]) [] [4] .done .nil .nil)) .nil)))))) CS_ok mixed Tryz.func59 (Eq.mpr (by kernel_rfl) h)
theorem go_75(b1:Sl)(size2:Int)(K:Int→Int→Int→Wp)(w:World)(h:al w 85 [.int .i64 0,.int .i64 0] fun b3 W4=>ifK ((b1.len:Int) != 24) (st W4 b3 0 [.int .i64 0,.int .i64 0] fun W5=>ld W5 Ki b3 0 fun n6=>ld W5 Ki b3 1 fun n7=>K n6 n7 81 W5) (callK Pg 57 [Az b1] W4 (.tup [Ls,Li]) fun a8 n9 W10=>ifK (n9 != 0) (st W10 b3 0 [.int .i64 0,.int .i64 0] fun W11=>ld W11 Ki b3 0 fun n12=>ld W11 Ki b3 1 fun n13=>K n12 n13 81 W11) (drawK W10 fun D W14=>slx a8 1 (some 4) (some (w64 (4+8))) none fun s15=>slx a8 1 (some (w64 (4+8))) none none fun s16=>callK Pg 58 [Az s15] W14 (.one (.leaf (.int .u64))) fun n17 W18=>Mod D W14 W18∧callK Pg 58 [Az s16] W18 (.one (.leaf (.int .u64))) fun n19 W20=>Mod D W14 W20∧joinK [.bool] (fun k21=>slx a8 1 none (some 4) none fun s22=>opF Pg (vS (convert 22 9 (LV.toV (.sl s22)))) W20 Ot fun s24 W23=>ifK (!(s24==[119,110,119,49])) (k21 true W23) (ifK (decide (268435456<n17)) (k21 true W23) (k21 (decide (33554432<n19)) W23))) fun t4925 W26=>ifK t4925 (st W26 b3 0 [.int .i64 0,.int .i64 0] fun W27=>ld W27 Ki b3 0 fun n28=>ld W27 Ki b3 1 fun n29=>K n28 n29 81 W27) (al W26 85 [.int .i64 0,.int .i64 0] fun b30 W31=>st W31 b30 0 [.int .i64 (w64 (n17)),.int .i64 (w64 (n19))] fun W32=>ld W32 Ki b30 0 fun n33=>ld W32 Ki b30 1 fun n34=>callK Pg 59 [.agg [.int .i64 n33,.int .i64 n34]] W32 (.tup [Li,Lb]) fun n35 c36 W37=>ifK (!c36) (st W37 b3 0 [.int .i64 0,.int .i64 0] fun W38=>ld W38 Ki b3 0 fun n39=>ld W38 Ki b3 1 fun n40=>K n39 n40 81 W38) (ld W37 Ki b30 0 fun n41=>ld W37 Ki b30 1 fun n42=>ifK ((w64 ((w64 (n41+n42))+24)) != size2) (st W37 b3 0 [.int .i64 0,.int .i64 0] fun W43=>ld W43 Ki b3 0 fun n44=>ld W43 Ki b3 1 fun n45=>K n44 n45 82 W43) (ld W37 Ki b30 0 fun n46=>ld W37 Ki b30 1 fun n47=>st W37 b3 0 [.int .i64 n46,.int .i64 n47] fun W48=>ld W48 Ki b3 0 fun n49=>ld W48 Ki b3 1 fun n50=>K n49 n50 0 W48)))))):callK Pg 30 [Az b1,Ai size2] w (.tup [.agg [Ki,Ki],Li]) K:=Fq (n:=(n0 .nil (n0 .nil (n0 .nil (n0 .nil (n0 .nil (n0 (.mk none [] [] (tk [0,1,2,3,4,6,7,8,9] (.eff 5 (.eff 10 (.take 11 (.take 12 .done))))) .nil .nil) (n0 (n0 (.mk (some [.tmp 49 Lb]) [] [1,4,9,10] .done .nil .nil) .nil) .nil)))))))) CS_ok mixed Tryz.func30 (Eq.mpr (by kernel_rfl) h)
theorem go_1(t_0_1:Int)(t_1_2:Int)(K:PA→Int→Wp)(w:World)(h:al w 85 [.int .i64 t_0_1,.int .i64 t_1_2] fun b3 W4=>ld W4 Ki b3 0 fun n5=>ld W4 Ki b3 1 fun n6=>callK Pg 59 [.agg [.int .i64 n5,.int .i64 n6]] W4 (.tup [Li,Lb]) fun n7 c8 W9=>ifK (!c8) (K none 81 W9) (ld W9 Ki b3 0 fun n10=>ld W9 Ki b3 1 fun n11=>ld W9 Ki b3 1 fun n12=>al W9 174 [.int .i64 n10,.int .i64 n11,.int .i64 n12,.sl (⟨none,0,0⟩),.lit false] fun b13 W14=>K (some (b13,0)) 0 W14)):callK Pg 61 [.agg [.int .i64 t_0_1,.int .i64 t_1_2]] w (.tup [Lp,Li]) K:=Fq (n:=.nil) CS_ok mixed Tryz.func61 (Eq.mpr (by kernel_rfl) h)
theorem go_6(d1:PA)(page2:Sl)(K:Int→Wp)(w:World)(h:ifK d1.isNone (K 1 w) (dr d1 fun b3 o4=>ld w Ki b3 (o4+2) fun n5=>joinK [.bool] (fun k6=>dr d1 fun b7 o8=>ld w .bool b7 (o8+4) fun c9=>ifK c9 (k6 true w) (ifK ((mnI n5 4100)==0) (k6 true w) (k6 ((page2.len:Int) != (mnI n5 4100)) w))) fun t2810 W11=>ifK t2810 (dr d1 fun b12 o13=>st W11 b12 (o13+4) [.lit true] fun W14=>K 80 W14) (callK Pg 57 [Az page2] W11 (.tup [Ls,Li]) fun a15 n16 W17=>ifK (n16 != 0) (dr d1 fun b18 o19=>st W17 b18 (o19+4) [.lit true] fun W20=>K 80 W20) (dr d1 fun b21 o22=>ld W17 .sl b21 (o22+3) fun a23=>ap W17 5 1 1 [.int .u8 0] a23 a15 fun a24 W25=>dr d1 fun b26 o27=>st W25 b26 (o27+3) [.sl a24] fun W28=>dr d1 fun b29 o30=>ld W28 Ki b29 (o30+2) fun n31=>dr d1 fun b32 o33=>st W28 b32 (o33+2) [.int .i64 (w64 (n31-(mnI n5 4100)))] fun W34=>K 0 W34)))):callK Pg 62 [Ap d1,Az page2] w Oi K:=Fq (n:=(n0 .nil (n0 .nil (n0 .nil (n0 (n0 (.mk (some [.tmp 28 Lb]) [] [0,1,5] .done .nil .nil) .nil) .nil))))) CS_ok mixed Tryz.func62 (Eq.mpr (by kernel_rfl) h)
theorem go_71(c1:PA)(K:Sl→Wp)(w:World)(h:callK Pg 130 [Ap c1,Ai 262144] w Oi fun n2 W3=>joinK [.sl] (fun k4=>loopL [.sl,.str,Ki] (fun l6 key7 n8 W9 g5=>joinK [.bool] (fun k10=>ifK (decide (0<n8)) (callK Pg 131 [Ap c1] W9 Oi fun n11 W12=>k10 (decide (0<n11)) W12) (k10 false W9)) fun t1713 W14=>ifK t1713 (callK Pg 130 [Ap c1,Ai 65536] W14 Oi fun n15 W16=>callK Pg 130 [Ap c1,Ai 65536] W16 Oi fun n17 W18=>callK Pg 130 [Ap c1,Ai 65536] W18 Oi fun n19 W20=>al W20 97 [.int .i64 0,.int .i64 0,.int .i64 0,.str []] fun b21 W22=>st W22 b21 0 [.int .i64 n15,.int .i64 n17,.int .i64 n19,.str []] fun W23=>callK Pg 130 [Ap c1,Ai (key7.length:Int)] W23 Oi fun n24 W25=>callK Pg 133 [Ap c1,Ai 64] W25 Ot fun s26 W27=>ssx key7 none (some n24) fun s28=>s28.length+s26.length<2^62∧st W27 b21 3 [.str (s28++s26)] fun W29=>ld W29 .str b21 3 fun s30=>ld W29 Ki b21 0 fun n31=>ld W29 Ki b21 1 fun n32=>ld W29 Ki b21 2 fun n33=>ld W29 .str b21 3 fun s34=>al W29 97 [.int .i64 n31,.int .i64 n32,.int .i64 n33,.str s34] fun b35 W36=>ap W36 97 4 40 [.int .i64 0,.int .i64 0,.int .i64 0,.str []] l6 (⟨some (b35,0),1,1⟩) fun a37 W38=>g5 a37 s30 (w64 (n8-1)) W38) (k4 l6 W14)) [.sl (⟨none,0,0⟩),.str [],.int .i64 n2] W3) fun l39 W40=>K l39 W40):callK Pg 135 [Ap c1] w Oz K:=Fq (n:=(n0 .nil (n0 .nil (n0 .nil (n0 (n0 .nil (.mk (some [.tmp 3 Ls]) [] [] .done (.mk none [.tmp 3 Ls,.tmp 4 Lt,.tmp 5 Li] [0] .done (n0 (n0 (.mk (some [.tmp 17 Lb]) [] [0,3,4,5] .done .nil .nil) .nil) .nil) .nil) .nil)) .nil))))) CS_ok mixed Tryz.func135 (Eq.mpr (by kernel_rfl) h)
theorem go_72(b1:Sl)(K:Int→Sl→Bool→Wp)(w:World)(h:al w 40 [.int .i64 0,.sl (⟨none,0,0⟩)] fun b2 W3=>callK Pg 129 [Az b1] W3 Oq fun p4 W5=>callK Pg 130 [Ap p4,Ai 65535] W5 Oi fun n6 W7=>al W7 40 [.int .i64 0,.sl (⟨none,0,0⟩)] fun b8 W9=>st W9 b8 0 [.int .i64 n6,.sl (⟨none,0,0⟩)] fun W10=>callK Pg 130 [Ap p4,Ai 65535] W10 Oi fun n11 W12=>joinK [] (fun k13=>loopL [Ki,Ki] (fun last15 n16 W17 g14=>joinK [.bool] (fun k18=>ifK (decide (0<n16)) (callK Pg 131 [Ap p4] W17 Oi fun n19 W20=>k18 (decide (0<n19)) W20) (k18 false W17)) fun t2421 W22=>ifK t2421 (callK Pg 130 [Ap p4,Ai 65535] W22 Oi fun n23 W24=>al W24 94 [.int .i64 0,.sl (⟨none,0,0⟩),.lit false,.int .i64 0,.sl (⟨none,0,0⟩)] fun b25 W26=>st W26 b25 0 [.int .i64 (w64 ((w64 (last15+1))+n23)),.sl (⟨none,0,0⟩),.lit false,.int .i64 0,.sl (⟨none,0,0⟩)] fun W27=>ld W27 Ki b25 0 fun n28=>callK Pg 133 [Ap p4,Ai 4112] W27 Ot fun s29 W30=>opF Pg (vS (convert 9 22 (LV.toV (.str s29)))) W30 Oz fun a32 W31=>callK Pg 132 [Az a32] W31 (.tup [.agg [.bool,Ki,.sl],Li]) fun c33 n34 a35 n36 W37=>al W37 92 [.lit false,.int .i64 0,.sl (⟨none,0,0⟩)] fun b38 W39=>st W39 b38 0 [.bool c33,.int .i64 n34,.sl a35] fun W40=>callK Pg 134 [Ap p4,Ai n36] W40 (.tup []) fun W41=>ld W41 .bool b38 0 fun c42=>ld W41 Ki b38 1 fun n43=>ld W41 .sl b38 2 fun a44=>st W41 b25 2 [.bool c42,.int .i64 n43,.sl a44] fun W45=>callK Pg 135 [Ap p4] W45 Oz fun a46 W47=>st W47 b25 1 [.sl a46] fun W48=>ld W48 .sl b8 1 fun a49=>ld W48 Ki b25 0 fun n50=>ld W48 .sl b25 1 fun a51=>ld W48 .bool b25 2 fun c52=>ld W48 Ki b25 3 fun n53=>ld W48 .sl b25 4 fun a54=>al W48 94 [.int .i64 n50,.sl a51,.bool c52,.int .i64 n53,.sl a54] fun b55 W56=>ap W56 94 5 72 [.int .i64 0,.sl (⟨none,0,0⟩),.lit false,.int .i64 0,.sl (⟨none,0,0⟩)] a49 (⟨some (b55,0),1,1⟩) fun a57 W58=>st W58 b8 1 [.sl a57] fun W59=>g14 n28 (w64 (n16-1)) W59) (k13 W22)) [.int .i64 (-1),.int .i64 n11] W12) fun W60=>joinK [.bool] (fun k61=>drawK W60 fun D W62=>ldD D W62 Ki b8 0 fun n63=>ldD D W62 .sl b8 1 fun a64=>callK Pg 136 [Ap p4] W62 (.one (.agg [Ki,Ki])) fun n65 n66 W67=>Mod D W62 W67∧ifK (n65==0) (ldD D W62 Ki b8 0 fun n68=>ldD D W62 .sl b8 1 fun a69=>callK Pg 137 [.agg [.int .i64 n68,.sl a69]] W67 Oi fun n70 W71=>Mod D W62 W71∧ifK (n70==0) (ldD D W62 Ki b8 0 fun n72=>ldD D W62 .sl b8 1 fun a73=>(callK Pg 138 [.agg [.int .i64 n72,.sl a73]] W71 Oz fun a74 W75=>Mod D W62 W75∧(opF Pg (vS (convert 22 9 (LV.toV (.sl a74)))) W75 Ot fun s77 W76=>Mod D W62 W76∧(opF Pg (vS (convert 22 9 (LV.toV (.sl b1)))) W76 Ot fun s79 W78=>Mod D W62 W78∧st W78 b2 0 [.int .i64 n63,.sl a64] fun W80=>Mod D W62 W80∧k61 (s77==s79) W80)∧(st W76 b2 0 [.int .i64 n63,.sl a64] fun W81=>Mod D W62 W81∧opF Pg (vS (convert 22 9 (LV.toV (.sl b1)))) W81 Ot fun s83 W82=>Mod D W62 W82∧k61 (s77==s83) W82))∧(opF Pg (vS (convert 22 9 (LV.toV (.sl b1)))) W75 Ot fun s85 W84=>Mod D W62 W84∧(opF Pg (vS (convert 22 9 (LV.toV (.sl a74)))) W84 Ot fun s87 W86=>Mod D W62 W86∧st W86 b2 0 [.int .i64 n63,.sl a64] fun W88=>Mod D W62 W88∧k61 (s87==s85) W88)∧(st W84 b2 0 [.int .i64 n63,.sl a64] fun W89=>Mod D W62 W89∧opF Pg (vS (convert 22 9 (LV.toV (.sl a74)))) W89 Ot fun s91 W90=>Mod D W62 W90∧k61 (s91==s85) W90))∧(st W75 b2 0 [.int .i64 n63,.sl a64] fun W92=>Mod D W62 W92∧(opF Pg (vS (convert 22 9 (LV.toV (.sl a74)))) W92 Ot fun s94 W93=>Mod D W62 W93∧opF Pg (vS (convert 22 9 (LV.toV (.sl b1)))) W93 Ot fun s96 W95=>Mod D W62 W95∧k61 (s94==s96) W95)∧(opF Pg (vS (convert 22 9 (LV.toV (.sl b1)))) W92 Ot fun s98 W97=>Mod D W62 W97∧opF Pg (vS (convert 22 9 (LV.toV (.sl a74)))) W97 Ot fun s100 W99=>Mod D W62 W99∧k61 (s100==s98) W99)))∧(opF Pg (vS (convert 22 9 (LV.toV (.sl b1)))) W71 Ot fun s102 W101=>Mod D W62 W101∧callK Pg 138 [.agg [.int .i64 n72,.sl a73]] W101 Oz fun a103 W104=>Mod D W62 W104∧(opF Pg (vS (convert 22 9 (LV.toV (.sl a103)))) W104 Ot fun s106 W105=>Mod D W62 W105∧st W105 b2 0 [.int .i64 n63,.sl a64] fun W107=>Mod D W62 W107∧k61 (s106==s102) W107)∧(st W104 b2 0 [.int .i64 n63,.sl a64] fun W108=>Mod D W62 W108∧opF Pg (vS (convert 22 9 (LV.toV (.sl a103)))) W108 Ot fun s110 W109=>Mod D W62 W109∧k61 (s110==s102) W109))) (st W71 b2 0 [.int .i64 n63,.sl a64] fun W111=>Mod D W62 W111∧k61 false W111)) (st W67 b2 0 [.int .i64 n63,.sl a64] fun W112=>Mod D W62 W112∧k61 false W112)) fun t3113 W114=>ld W114 Ki b2 0 fun n115=>ld W114 .sl b2 1 fun a116=>K n115 a116 t3113 W114):callK Pg 95 [Az b1] w (.tup [.agg [Ki,.sl],Lb]) K:=Fq (n:=(n0 .nil (n0 .nil (n0 .nil (n0 .nil (n0 (n0 .nil (.mk (some []) [] [0,2,4,5] .done (.mk none [.tmp 6 Li,.tmp 7 Li] [0,2,4,5] .done (n0 (n0 (.mk (some [.tmp 24 Lb]) [] [0,2,4,5,6,7] .done .nil .nil) .nil) .nil) .nil) .nil)) (n0 (.mk (some [.tmp 3 Lb]) [] [2] (.take 0 (.take 1 (.eff 2 (tk [3,4,5] (.split 5 (.take 6 (.eff 7 (.take 8 (.take 9 (.take 10 (.split 10 (.take 11 (.take 14 (.two 12 (.three 13 (.two 15 (.take 16 (.take 17 (.eff 18 (.take 19 .done)))) 18 (.eff 15 (.take 16 (.take 17 (.take 19 .done))))) 15 (.two 13 (.take 16 (.take 17 (.eff 18 (.take 19 .done)))) 18 (.eff 13 (.take 16 (.take 17 (.take 19 .done))))) 18 (.two 13 (.eff 15 (.take 16 (.take 17 (.take 19 .done)))) 15 (.eff 13 (.take 16 (.take 17 (.take 19 .done)))))) 15 (.eff 12 (.two 13 (.take 16 (.take 17 (.eff 18 (.take 19 .done)))) 18 (.eff 13 (.take 16 (.take 17 (.take 19 .done))))))))) (.take 11 (.take 12 (.take 13 (.take 14 (.take 15 (.take 16 (.take 17 (.eff 18 (.take 19 .done))))))))))))))) (.take 6 (.take 7 (.take 8 (.take 9 (.take 10 (.take 11 (.take 12 (.take 13 (.take 14 (.take 15 (.take 16 (.take 17 (.eff 18 (.take 19 .done))))))))))))))))))) .nil .nil) .nil))))))) CS_ok mixed Tryz.func95 (Eq.mpr (by kernel_rfl) h)
theorem go_2(d1:PA)(K:Int→Sl→Int→Wp)(w:World)(h:al w 40 [.int .i64 0,.sl (⟨none,0,0⟩)] fun b2 W3=>ifK d1.isNone (st W3 b2 0 [.int .i64 0,.sl (⟨none,0,0⟩)] fun W4=>ld W4 Ki b2 0 fun n5=>ld W4 .sl b2 1 fun a6=>K n5 a6 1 W4) (joinK [.bool] (fun k7=>dr d1 fun b8 o9=>ld W3 .bool b8 (o9+4) fun c10=>ifK c10 (k7 true W3) (dr d1 fun b11 o12=>ld W3 Ki b11 (o12+2) fun n13=>k7 (decide (0<n13)) W3)) fun t1014 W15=>ifK t1014 (st W15 b2 0 [.int .i64 0,.sl (⟨none,0,0⟩)] fun W16=>ld W16 Ki b2 0 fun n17=>ld W16 .sl b2 1 fun a18=>K n17 a18 80 W16) (dr d1 fun b19 o20=>ld W15 .sl b19 (o20+3) fun a21=>callK Pg 95 [Az a21] W15 (.tup [.agg [Ki,.sl],Lb]) fun n22 a23 c24 W25=>al W25 40 [.int .i64 0,.sl (⟨none,0,0⟩)] fun b26 W27=>st W27 b26 0 [.int .i64 n22,.sl a23] fun W28=>joinK [.bool] (fun k29=>drawK W28 fun D W30=>ifK (!c24) (k29 true W30) (ldD D W30 Ki b26 0 fun n31=>ldD D W30 .sl b26 1 fun a32=>dr d1 fun b33 o34=>ldD D W30 Ki b33 o34 fun n35=>callK Pg 96 [.agg [.int .i64 n31,.sl a32]] W30 Oi fun n36 W37=>Mod D W30 W37∧k29 (n36 != n35) W37)) fun t4238 W39=>ifK t4238 (st W39 b2 0 [.int .i64 0,.sl (⟨none,0,0⟩)] fun W40=>ld W40 Ki b2 0 fun n41=>ld W40 .sl b2 1 fun a42=>K n41 a42 80 W40) (ld W39 Ki b26 0 fun n43=>ld W39 .sl b26 1 fun a44=>st W39 b2 0 [.int .i64 n43,.sl a44] fun W45=>ld W45 Ki b2 0 fun n46=>ld W45 .sl b2 1 fun a47=>K n46 a47 0 W45)))):callK Pg 63 [Ap d1] w (.tup [.agg [Ki,.sl],Li]) K:=Fq (n:=(n0 .nil (n0 (n0 (n0 .nil (n0 .nil (n0 (.mk (some [.tmp 10 Lb]) [] [0,2] .done .nil .nil) .nil))) .nil) (n0 .nil (n0 (n0 (.mk (some [.tmp 42 Lb]) [] [2,4] (tk [0,1,2] (.split 2 (.take 3 (.take 4 (.take 5 (.take 6 (.take 7 (.take 8 (.take 9 (.take 10 (.take 11 .done))))))))) (.take 3 (.take 5 (.take 6 (.take 7 (.take 8 (.take 9 (.eff 4 (.take 10 (.take 11 .done))))))))))) .nil .nil) .nil) .nil))))) CS_ok mixed Tryz.func63 (Eq.mpr (by kernel_rfl) h)
theorem go_3(f_0_1:Int)(f_1_2:Sl)(part3:Int)(key4:List UInt8)(K:Int→Int→Wp)(w:World)(h:al w 40 [.int .i64 f_0_1,.sl f_1_2] fun b5 W6=>ssx key4 none (some (mnI (key4.length:Int) 64)) fun s7=>ld W6 .sl b5 1 fun a8=>joinK [] (fun k9=>loopL [Ki] (fun t2211 W12 g10=>ifK (decide (t2211<(a8.len:Int))) (joinK [] (fun k13=>ix a8 5 t2211 fun b14 o15=>ld W12 Ki b14 o15 fun n16=>ld W12 .sl b14 (o15+1) fun a17=>ld W12 .bool b14 (o15+2) fun c18=>ld W12 Ki b14 (o15+3) fun n19=>ld W12 .sl b14 (o15+4) fun a20=>al W12 94 [.int .i64 0,.sl (⟨none,0,0⟩),.lit false,.int .i64 0,.sl (⟨none,0,0⟩)] fun b21 W22=>st W22 b21 0 [.int .i64 n16,.sl a17,.bool c18,.int .i64 n19,.sl a20] fun W23=>ld W23 Ki b21 0 fun n24=>ifK (n24 != part3) (k13 W23) (drawK W23 fun D W25=>ldD D W25 .sl b21 1 fun a26=>joinK [Ki] (fun k27=>loopL [Ki,Ki] (fun lo29 hi30 W31 g28=>ifK (decide (lo29<hi30)) (ld W31 .sl b21 1 fun a32=>ix a32 4 (w64 ((w64 (lo29+hi30)).tdiv 2)) fun b33 o34=>ld W31 .str b33 (o34+3) fun s35=>callK Pg 111 [Au s35,Au s7] W31 Oi fun n36 W37=>joinK [Ki,Ki] (fun k38=>ifK (decide (n36<0)) (k38 (w64 ((w64 ((w64 (lo29+hi30)).tdiv 2))+1)) hi30 W37) (k38 lo29 (w64 ((w64 (lo29+hi30)).tdiv 2)) W37)) fun lo39 hi40 W41=>g28 lo39 hi40 W41) (k27 lo29 W31)) [.int .i64 0,.int .i64 (a26.len:Int)] W25) fun lo42 W43=>K t2211 (mxI (w64 (lo42-1)) 0) W43)) fun W44=>g10 (w64 (t2211+1)) W44) (k9 W12)) [.int .i64 0] W6) fun W45=>K (-1) 0 W45):callK Pg 73 [.agg [.int .i64 f_0_1,.sl f_1_2],Ai part3,Au key4] w (.tup [Li,Li]) K:=Fq (n:=(n0 .nil (n0 .nil (n0 (n0 .nil (.mk (some []) [] [] .done (.mk none [.tmp 22 Li] [1,8,20,21] .done (n0 .nil (n0 .nil (n0 (.mk (some []) [] [1,8,20,21,22] .done (n0 .nil (n0 .nil (n0 (.mk none [] [] (tk [0,1,2,3,4] .done) .nil .nil) (n0 (.mk (some [.tmp 11 Li]) [] [9] .done (.mk none [.tmp 11 Li,.tmp 12 Li] [8,9,10] .done (n0 .nil (n0 (n0 .nil (n0 .nil (.mk (some [.tmp 11 Li,.tmp 12 Li]) [] [8,9,10] .done .nil .nil))) .nil)) .nil) .nil) .nil)))) .nil) .nil))) .nil) .nil)) .nil)))) CS_ok mixed Tryz.func73 (Eq.mpr (by kernel_rfl) h)
theorem text_b(c:Cu)(m:Int):(c.text m).2.b=c.b:=by
 unfold Cu.text;split
 ·rfl
 ·exact Cu.go_21 c _ _
theorem text_le(c:Cu)(m:Int):(c.text m).1.length≤m.toNat:=by
 unfold Cu.text;split
 ·exact Nzl _
 ·dsimp only;split
  ·rename_i h;unfold textE at h;unfold textV;dsimp only at h;split at h
   ·rename_i h1;exact absurd h h1
   split at h
   ·cases h
   rw [Llt];omega
  ·exact Nzl _
section
variable {w u u':World}{bc:Nat}{sC:Sl}{m:BL}{c:Cu}
theorem CuF.alst(h:CuF w u bc sC m c){e:TypeId}{cs vs:List LV}(hl:vs.length=cs.length){K:Nat→Wp}(hK:∀b u',CuF w u' bc sC (m++[(b,vs.map LV.toV)]) c→K b u') :
  Go.Vw.al u e cs fun b u1=>Go.Vw.st u1 b 0 vs fun u2=>K b u2:=
 h.f.alst hl fun b u' hF _ hM=>hK b u' (h.new hF (hM.mono fun _ _ h=>h.elim))
theorem CuF.stK(h:CuF w u bc sC m c)(i:Nat){b o:Nat}{x:List Value}{vs:List LV}{K:Wp}(hi:m[i]? = some (b,x))(hl:o+vs.length≤x.length)
  (hK:∀u',CuF w u' bc sC (m.set i (b,spl x o (vs.map LV.toV))) c→K u'):Go.Vw.st u b o vs K:=
 h.f.stK i hi hl fun u' hF hM=>hK u' (h.new hF (hM.mono fun z _ e=>by have:=h.f.new (b,x) (Lmg hi);have e:z=b:=e;subst e;exact this))
theorem CuF.push{ro:BL}{α:Type}{E:Enc α}{s:Sl}{l:List α}(h:CuF w u bc sC (m++ro) c)(hv:VecL ro E s l)(y:α){e e2:TypeId}{n bytes:Nat}{zs cs:List LV}(hc:cs.map LV.toV=E.f y)(hn:n=E.n)(hz:zs.length=E.n)(hlim:(l.length+1025)*(bytes+1)≤2^46)
  {K:Sl→Wp} (hK:∀s' ro' u',CuF w u' bc sC (m++ro') c→VecL ro' E s' (l++[y])→K s' u'):Go.Vw.al u e cs fun b u'=>ap u' e2 n bytes zs s ⟨some (b,0),1,1⟩ K:=
 h.f.push hv y hc hn hz hlim fun s' ro' u' hF hv' hM=>hK s' ro' u' (h.new hF hM) hv'
theorem CuF.perm{m':BL}(h:CuF w u bc sC m c)(hp:m'.Perm m):CuF w u bc sC m' c:=⟨h.f.perm hp,h.cur,h.lt,h.rd⟩
theorem CuF.blk(h:CuF w u bc sC m c){i b:Nat}{x:List Value}(hi:m[i]? = some (b,x)):Blk u b x:=h.f.blk hi
end
def blk1(key:Str)(c:Cu):BI×Cu:=
 let a:=c.num 65536
 let b:=a.2.num 65536
 let d:=b.2.num 65536
 let e:=d.2.num key.length
 let t:=e.2.text 64
 (⟨a.1,b.1,d.1,key.take e.1.toNat++t.1⟩,t.2)
def blksRun:Nat→List BI→Str→Cu→List BI×Cu
 | 0,l,_,c=>(l,c)
 | k+1,l,key,c=>if c.rest=0 then (l,c) else blksRun k (l++[(blk1 key c).1]) (blk1 key c).1.cut (blk1 key c).2
def blksN(c:Cu):List BI×Cu:=blksRun (c.num 262144).1.toNat [] [] (c.num 262144).2
theorem blksRun_len:∀(k:Nat) (l:List BI) (key:Str) (c:Cu),(blksRun k l key c).1.length≤l.length+k
 | 0,l,_,c=>Nlr _
 | k+1,l,key,c=>by
  rw [blksRun];split
  ·exact Nat.le_add_right _ _
  ·have:=blksRun_len k (l++[(blk1 key c).1]) (blk1 key c).1.cut (blk1 key c).2;rw [Lla,List.length_singleton] at this;omega
theorem blk1_b(key:Str)(c:Cu):(blk1 key c).2.b=c.b:=by
 unfold blk1;dsimp only;rw [text_b,num_b,num_b,num_b,num_b]
theorem blksRun_b:∀(k:Nat) (l:List BI) (key:Str) (c:Cu),(blksRun k l key c).2.b=c.b
 | 0,l,_,c=>rfl
 | k+1,l,key,c=>by
  rw [blksRun];split
  ·rfl
  ·rw [blksRun_b,blk1_b]
theorem blksN_b(c:Cu):(blksN c).2.b=c.b:=by unfold blksN;rw [blksRun_b,num_b]
theorem blksN_len(c:Cu):(blksN c).1.length≤262144:=by
 have h:=num_range c 262144;have h2:=h.2 (by decide);have:=blksRun_len (c.num 262144).1.toNat [] [] (c.num 262144).2;unfold blksN;simp only [List.length_nil] at this;omega
set_option maxHeartbeats 1000000 in
theorem blocks_ok{w:World}{bc:Nat}{sC:Sl}{c:Cu}(hc:CurAt w bc sC c){K:Sl→Wp}
  (hK:∀w' ro s',VecL ro EBI s' (blksN c).1→CuF w w' bc sC ro (blksN c).2→K s' w') :
  callK Pg c_71 [Ap (some (bc,0))] w Oz K:=by
 refine go_71 _ _ _ ?_;refine num_ok hc fun w1 c1 M1=>?_;have h1:=(CuF.start hc).upd c1 (num_b _ _) (Fresh.none M1);rw [Lan] at h1;have hr:=num_range c 262144;have hr2:=hr.2 (by decide);unfold blksN at hK;generalize c.num 262144=n at hK c1 h1 hr hr2;obtain⟨n,c'⟩:=n;dsimp only at hK c1 h1 hr hr2 ⊢;obtain⟨N,rfl⟩:∃N:Nat,n=(N:Int):=⟨n.toNat,by omega⟩;rw [Itn] at hK;refine join1 (a:=.sl) (fun s' u=>∃ro,VecL ro EBI s' (blksRun N [] [] c').1∧CuF w u bc sC ro (blksRun N [] [] c').2) ?_ (by rintro s' u ⟨ro,v,h⟩;exact hK u ro s' v h);intro k4 hk4;refine loop3 (k1:=.sl) (k2:=.str) (k3:=Ki) (fun (s:Sl) (key:Str) (n:Int) u=>∃(k:Nat) (ro:BL) (l:List BI) (c2:Cu),n=(k:Int)∧k≤N∧key.length+64*k≤64*N∧l.length+k=N∧VecL ro EBI s l∧CuF w u bc sC ro c2∧blksRun k l key c2=blksRun N [] [] c') (fun _ _ n _=>n.toNat) (x1:=⟨none,0,0⟩) (x2:=[]) (x3:=(N:Int)) rfl rfl rfl
  ⟨N,[],[],c',rfl,Nlr _,by simp,by simp,VecL.nil EBI,h1,rfl⟩ ?_
 rintro s key n u ⟨k,ro,l,c2,rfl,hkN,hkey,hlk,v,h,hrun⟩;change Str at key;refine join1 (a:=.bool) (fun q u'=>q=decide (k≠0∧c2.rest≠0)∧CuF w u' bc sC ro c2) ?_ ?_
 ·intro k10 hk10;refine Iq (fun q=>?_) fun q=>?_
  ·have q:(0:Int)<(k:Int):=odt q;refine rest_ok h.cur fun u1 _ M=>hk10 _ _ ⟨?_,h.quiet M⟩;show decide ((0:Int)<(c2.rest:Int))=_;rw [Bei,Det,Det];omega
  ·have q:¬(0:Int)<(k:Int):=odf q;exact hk10 _ _ ⟨(Dcf fun e=>by omega).symm,h⟩
 rintro q u' ⟨rfl,h⟩;refine Iq (fun q=>?_) fun q=>?_;rotate_left
 ·have q:¬(k≠0∧c2.rest≠0):=odf q;refine hk4 _ _ ⟨ro,?_⟩;have e:blksRun k l key c2=(l,c2):=by
   cases k with
   | zero=>rfl
   | succ k=>rw [blksRun,if_pos (by omega)]
  rw [←hrun,e];exact⟨v,h⟩
 have q:k≠0∧c2.rest≠0:=odt q;obtain⟨k,rfl⟩:∃j,k=j+1:=⟨k-1,by omega⟩;rw [blksRun,if_neg q.2] at hrun;unfold blk1 at hrun;dsimp only at hrun;refine num_ok h.cur fun u1 g1 M1=>?_;have h:=h.upd g1 (num_b _ _) (Fresh.none M1);generalize c2.num 65536=a at hrun g1 h;refine num_ok h.cur fun u2 g2 M2=>?_;have h:=h.upd g2 (num_b _ _) (Fresh.none M2);generalize a.2.num 65536=b at hrun g2 h;refine num_ok h.cur fun u3 g3 M3=>?_;have h:=h.upd g3 (num_b _ _) (Fresh.none M3);generalize b.2.num 65536=d at hrun g3 h;simp only [Lan] at h;refine h.alst (by rfl) fun b21 u4 h=>?_;refine num_ok h.cur fun u5 g5 M5=>?_;have h:=h.upd g5 (num_b _ _) (Fresh.none M5);have her:=num_range d.2 (key.length:Int);generalize d.2.num (key.length:Int)=e at hrun g5 h her;refine text_ok h.cur fun u6 g6 M6=>?_;have h:=h.upd g6 (text_b _ _) (Fresh.none M6);have htl:=text_le e.2 64;generalize e.2.text 64=t at hrun g6 h htl;simp only [Lan] at h;have htl:t.1.length≤64:=htl;have he2:=her.2 (Int.natCast_nonneg _);obtain⟨E,hE⟩:∃E:Nat,e.1=(E:Int):=⟨e.1.toNat,by omega⟩;rw [hE] at hrun he2 ⊢;simp only [Itn] at hrun;refine ssx_take (by omega:E≤key.length) rfl ⟨by rw [Llt];omega,?_⟩;have hcl:(key.take E++t.1).length≤key.length+64:=by rw [Lla,Llt];omega
 have h:CuF w u6 bc sC ([(b21,EBI.f ⟨a.1,b.1,d.1,[]⟩)]++ro) t.2:=h.perm Lpc;generalize key.take E++t.1=cut at hrun hcl ⊢;refine h.stK 0 rfl (by decide:3+1≤4) fun u7 h=>?_;have h:CuF w u7 bc sC ([(b21,EBI.f ⟨a.1,b.1,d.1,cut⟩)]++ro) t.2:=h;have hB:=h.blk (i:=0) rfl;refine hB.ldK (k:=.str) cut rfl (hB.ldK (k:=Ki) a.1 rfl (hB.ldK (k:=Ki) b.1 rfl (hB.ldK (k:=Ki) d.1 rfl (hB.ldK (k:=.str) cut rfl ?_))));refine h.push v ⟨a.1,b.1,d.1,cut⟩ rfl rfl rfl (by omega) fun s' ro' u8 h' v'=>?_;have es:w64 (((k+1:Nat):Int)-1)=(k:Int):=by rw [Wq (by omega) (by omega)];omega
 rw [es];exact⟨⟨k,ro',l++[⟨a.1,b.1,d.1,cut⟩],t.2,rfl,by omega,by omega,by rw [Lla,List.length_singleton];omega,v',h'.sub (Lsr _ _),hrun⟩,by omega⟩
end Go.Proofs.YtkofkhjcfjoceaaGreat
namespace Go.Proofs.YtkofkhjcfjoceaaGreat
open Go.Vw
open Go
theorem convS{w:World}{t:Str}{K:Sl→Wp}(hK:∀s' w',RdS w' ET s' t→Mod F0 w w'→K s' w') :
  opF Pg (vS (convert 9 t_bytes (LV.toV (.str t)))) w Oz K:=by
 have hrun:=Go.Lib.run_convert_string_bytes (P:=Pg) w 9 t_bytes 5 ⟨t.toArray⟩ Tryz.underlying9 u_bytes Tryz.underlying5;have hsz:(⟨t.toArray⟩:ByteArray).size=t.length:=by simp [ByteArray.size]
 have hcap:t.length≤grownCap w t.length 0 5:=by simp [grownCap,Question.cut]
 rw [hsz] at hrun;have ev:(LV.sl ⟨some (w.heap.size,0),t.length,grownCap w t.length 0 5⟩).toV=Value.slice (some ⟨w.heap.size,0,none⟩) t.length (grownCap w t.length 0 5):=by simp only [LV.toV];rw [slA_zero]
 by_cases h0:grownCap w t.length 0 5=0
 ·have ht:t=[]:=List.eq_nil_of_length_eq_zero (by omega);refine⟨[.sl ⟨some (w.heap.size,0),t.length,grownCap w t.length 0 5⟩],Go.Lib.bytesWorld w 5 ⟨t.toArray⟩,?_,hK _ _ ⟨rfl,.inl (by subst ht;rfl),hcap⟩ ?_⟩
  ·unfold vS;simp only [Sem.run_bind];show ((convert 9 t_bytes (.string ⟨t.toArray⟩)).run Pg w).andThen _=_;rw [hrun];simp only [Result.andThen_ok,Sem.run_pure];show _=Result.ok (Next.value (LV.sl ⟨some (w.heap.size,0),t.length,grownCap w t.length 0 5⟩).toV) _;rw [ev]
  ·exact⟨rfl,rfl,rfl,by rw [Go.Lib.bytesWorld_size];omega,fun k hk _=>Go.Lib.bytesWorld_at_old _ _ _ _ hk⟩
 ·refine⟨[.sl ⟨some (w.heap.size,0),t.length,grownCap w t.length 0 5⟩],Go.Lib.bytesWorld w 5 ⟨t.toArray⟩,?_,hK _ _ ⟨rfl,.inr ⟨w.heap.size,0,rfl,fun i hi=>?_⟩,hcap⟩ ?_⟩
  ·unfold vS;simp only [Sem.run_bind];show ((convert 9 t_bytes (.string ⟨t.toArray⟩)).run Pg w).andThen _=_;rw [hrun];simp only [Result.andThen_ok,Sem.run_pure];show _=Result.ok (Next.value (LV.sl ⟨some (w.heap.size,0),t.length,grownCap w t.length 0 5⟩).toV) _;rw [ev]
  ·have hi':i<t.length:=by rw [Enc.cells_length] at hi;simpa [ET] using hi
   rw [Nat.zero_add,Go.Lib.bytesWorld_cell w 5 ⟨t.toArray⟩ i (by rw [hsz];exact hi'),←strCells_et];simp [Go.Lib.strCells,List.getD,hi']
  ·exact⟨rfl,rfl,rfl,by rw [Go.Lib.bytesWorld_size];omega,fun k hk _=>Go.Lib.bytesWorld_at_old _ _ _ _ hk⟩
theorem filtD_len(b:Str):(filtD b).1.data.length≤4096:=by
 unfold filtD;dsimp only;have h1:=num_range ((Cu.mk b 0 0).fixed 1).2 4096;have h2:=h1.2 (by decide);have h3:=take_le (((Cu.mk b 0 0).fixed 1).2.num 4096).2 (((Cu.mk b 0 0).fixed 1).2.num 4096).1;split
 ·split<;>exact Nzl _
 split
 ·split<;>exact Nzl _
 split
 ·exact Nzl _
 split
 ·exact Nzl _
 ·show ((((Cu.mk b 0 0).fixed 1).2.num 4096).2.take (((Cu.mk b 0 0).fixed 1).2.num 4096).1).1.length≤_;omega
def part1(last:Int)(c:Cu):PartI×Cu:=
 let a:=c.num 65535
 let t:=a.2.text 4112
 let b:=blksN (t.2.fail (filtD t.1).2)
 (⟨last+1+a.1,b.1,(filtD t.1).1⟩,b.2)
def partsRun:Nat→List PartI→Int→Cu→List PartI×Cu
 | 0,l,_,c=>(l,c)
 | k+1,l,last,c=>if c.rest=0 then (l,c) else partsRun k (l++[(part1 last c).1]) (part1 last c).1.part (part1 last c).2
def readF(t:Str):Int×List PartI×Cu:=
 let p:=(Cu.mk t 0 0).num 65535
 let n:=p.2.num 65535
 (p.1,partsRun n.1.toNat [] (-1) n.2)
def okF(P:Int)(l:List PartI)(c:Cu)(t:Str):Bool:=decide (c.done.1=0)&&(chkF P l&&decide (bodyN P l=t))
def parseF(t:Str):Bool:=okF (readF t).1 (readF t).2.1 (readF t).2.2 t
def OwnL{α:Type}(R:BL)(E:Enc α)(s:Sl)(l:List α):Prop:=∃r,VecL r E s l∧∀q∈r,q∈R
theorem OwnL.mono{α:Type}{R R':BL}{E:Enc α}{s:Sl}{l:List α}(h:OwnL R E s l)(hs:∀q∈R,q∈R'):OwnL R' E s l:=let ⟨r,h1,h2⟩:=h;⟨r,h1,fun q hq=>hs q (h2 q hq)⟩
theorem OwnL.rd{α:Type}{R:BL}{E:Enc α}{s:Sl}{l:List α}(h:OwnL R E s l){w:World}(hb:∀p∈R,Blk w p.1 p.2):RdS w E s l:=let ⟨_,h1,h2⟩:=h;h1.rd fun p hp=>hb p (h2 p hp)
theorem OwnL.key{α:Type}{R:BL}{E:Enc α}{s:Sl}{l:List α}(h:OwnL R E s l){b:Nat}(hb:rk s b):Ks R b:=let ⟨_,h1,h2⟩:=h;let ⟨q,hq,e⟩:=h1.key hb.2;⟨q,h2 q hq,e⟩
theorem OwnL.of{α:Type}{R:BL}{E:Enc α}{s:Sl}{l:List α}(h:VecL R E s l):OwnL R E s l:=⟨R,h,fun _ h=>h⟩
structure InfoL(R:BL)(p:PI)(x:PartI):Prop where
 part:p.part=x.part
 bl:OwnL R EBI p.sb x.blocks
 all:p.all=x.flt.all
 hs:p.hashes=x.flt.hashes
 dt:OwnL R ET p.sd x.flt.data
 lb:x.blocks.length≤262144
 ld:x.flt.data.length≤4096
theorem InfoL.mono{R R':BL}{p:PI}{x:PartI}(h:InfoL R p x)(hs:∀q∈R,q∈R'):InfoL R' p x:=⟨h.part,h.bl.mono hs,h.all,h.hs,h.dt.mono hs,h.lb,h.ld⟩
structure FootL(R:BL)(s:Sl)(ps:List PI)(l:List PartI):Prop where
 row:OwnL R EPI s ps
 len:ps.length=l.length
 each:∀(i:Nat) p x,ps[i]? = some p→l[i]? = some x→InfoL R p x
 ll:l.length≤65535
theorem FootL.mono{R R':BL}{s:Sl}{ps:List PI}{l:List PartI}(h:FootL R s ps l)(hs:∀q∈R,q∈R'):FootL R' s ps l:=⟨h.row.mono hs,h.len,fun i p x hp hx=>(h.each i p x hp hx).mono hs,h.ll⟩
theorem FootL.foot{R:BL}{s:Sl}{ps:List PI}{l:List PartI}(h:FootL R s ps l){w:World}(hb:∀p∈R,Blk w p.1 p.2):FootR w (Ks R) s ps l:=by
 refine⟨h.row.rd hb,h.len,fun i p x hp hx=>?_,fun b hk=>h.row.key hk,fun p hp b hk=>?_,by have:=h.ll;omega⟩
 ·have:=h.each i p x hp hx;exact⟨this.part,this.bl.rd hb,this.all,this.hs,this.dt.rd hb,by have:=this.lb;omega,by have:=this.ld;omega⟩
 ·obtain⟨i,hi⟩:=List.mem_iff_getElem?.1 hp;obtain⟨x,hx⟩:=Gq (l:=l) (i:=i) (by rw [←h.len];exact (Les.1 hi).1);have:=h.each i p x hi hx;rcases hk with hk | hk
  ·exact this.bl.key hk
  ·exact this.dt.key hk
section
variable {w u u':World}{bc:Nat}{sC:Sl}{m:BL}{c:Cu}
theorem CuG.more(h:CuG w u bc sC m c){ro:BL}(hF:Fresh u u' F0 ro):CuG w u' bc sC (m++ro) c:=h.upd (h.cur.quiet hF.mod) (hF.weaken fun _ _ h=>h.elim)
theorem CuG.alst(h:CuG w u bc sC m c){e:TypeId}{cs vs:List LV}(hl:vs.length=cs.length){K:Nat→Wp}(hK:∀b u',CuG w u' bc sC (m++[(b,vs.map LV.toV)]) c→K b u') :
  Go.Vw.al u e cs fun b u1=>Go.Vw.st u1 b 0 vs fun u2=>K b u2:=
 h.f.alst hl fun b u' hF hb hM=>hK b u' (h.to hF hM (fun _ h=>h.elim) fun p hp=>by
  rcases Lma.1 hp with hp | hp
  ·exact .inl ⟨p,hp,rfl⟩
  ·simp at hp;subst hp;exact .inr hb)
end
theorem perm_mid{α:Type}(A B C:List α):List.Perm ((A++C)++B) ((A++B)++C):=by
 rw [Laa,Laa];exact Lpc.append_left A
def pairC(n:Int)(s:Sl):List Value:=[.int .i64 n,(LV.sl s).toV]
set_option maxHeartbeats 4000000 in
theorem partsLoop_ok{w u0:World}{bc b2 b8:Nat}{sC:Sl}{c':Cu}{P:Int}{N:Nat}{tP tF:TypeId}{X:List Value}(hN:N≤65535)(h0:CuG w u0 bc sC [(b2,X),(b8,pairC P ⟨none,0,0⟩)] c'){k13:Wp}
  (hK:∀u R ro s ps,CuG w u bc sC ([(b2,X),(b8,pairC P s)]++(R++ro)) (partsRun N [] (-1) c').2→FootL (R++ro) s ps (partsRun N [] (-1) c').1→k13 u) :
  loopL [Ki,Ki] (fun last15 n16 W17 g14=>
   joinK [.bool] (fun k18=>
    ifK (decide (0<n16))
    (callK Pg c_29 [Ap (some (bc,0))] W17 Oi fun n19 W20=>
     k18 (decide (0<n19)) W20)
    (k18 false W17)) fun t2421 W22=>
   ifK t2421
   (callK Pg c_24 [Ap (some (bc,0)),Ai 65535] W22 Oi fun n23 W24=>
    Go.Vw.al W24 tP [.int .i64 0,.sl (⟨none,0,0⟩),.lit false,.int .i64 0,.sl (⟨none,0,0⟩)] fun b25 W26=>
    Go.Vw.st W26 b25 0 [.int .i64 (w64 ((w64 (last15+1))+n23)),.sl (⟨none,0,0⟩),.lit false,.int .i64 0,.sl (⟨none,0,0⟩)] fun W27=>
    Go.Vw.ld W27 Ki b25 0 fun n28=>
    callK Pg c_61 [Ap (some (bc,0)),Ai 4112] W27 Ot fun s29 W30=>
    opF Pg (vS (convert 9 t_bytes (LV.toV (.str s29)))) W30 Oz fun a32 W31=>
    callK Pg c_64 [Az a32] W31 (.tup [.agg [.bool,Ki,.sl],Li]) fun c33 n34 a35 n36 W37=>
    Go.Vw.al W37 tF [.lit false,.int .i64 0,.sl (⟨none,0,0⟩)] fun b38 W39=>
    Go.Vw.st W39 b38 0 [.bool c33,.int .i64 n34,.sl a35] fun W40=>
    callK Pg c_62 [Ap (some (bc,0)),Ai n36] W40 (.tup []) fun W41=>
    Go.Vw.ld W41 .bool b38 0 fun c42=>
    Go.Vw.ld W41 Ki b38 1 fun n43=>
    Go.Vw.ld W41 .sl b38 2 fun a44=>
    Go.Vw.st W41 b25 2 [.bool c42,.int .i64 n43,.sl a44] fun W45=>
    callK Pg c_71 [Ap (some (bc,0))] W45 Oz fun a46 W47=>
    Go.Vw.st W47 b25 1 [.sl a46] fun W48=>
    Go.Vw.ld W48 .sl b8 1 fun a49=>
    Go.Vw.ld W48 Ki b25 0 fun n50=>
    Go.Vw.ld W48 .sl b25 1 fun a51=>
    Go.Vw.ld W48 .bool b25 2 fun c52=>
    Go.Vw.ld W48 Ki b25 3 fun n53=>
    Go.Vw.ld W48 .sl b25 4 fun a54=>
    Go.Vw.al W48 tP [.int .i64 n50,.sl a51,.bool c52,.int .i64 n53,.sl a54] fun b55 W56=>
    ap W56 tP 5 72 [.int .i64 0,.sl (⟨none,0,0⟩),.lit false,.int .i64 0,.sl (⟨none,0,0⟩)] a49 (⟨some (b55,0),1,1⟩) fun a57 W58=>
    Go.Vw.st W58 b8 1 [.sl a57] fun W59=>
    g14 n28 (w64 (n16-1)) W59)
   (k13 W22)) [.int .i64 (-1),.int .i64 (N:Int)] u0:=by
 refine loop2 (k1:=Ki) (k2:=Ki) (fun (last n:Int) u=>∃(k:Nat) (R ro:BL) (s:Sl) (ps:List PI) (l:List PartI) (c2:Cu),n=(k:Int)∧k≤N∧-1≤last∧last+65536*k≤65536*N∧l.length+k=N ∧
   CuG w u bc sC ([(b2,X),(b8,pairC P s)]++(R++ro)) c2∧VecL ro EPI s ps∧ps.length=l.length∧(∀(i:Nat) p x,ps[i]? = some p→l[i]? = some x→InfoL R p x)∧partsRun k l last c2=partsRun N [] (-1) c') (fun _ n _=>n.toNat) (x1:=-1) (x2:=(N:Int)) rfl rfl
  ⟨N,[],[],⟨none,0,0⟩,[],[],c',rfl,Nlr _,Int.le_refl _,by omega,by simp,h0,VecL.nil EPI,rfl,fun i p x h=>by simp at h,rfl⟩ ?_
 rintro last n u ⟨k,R,ro,s,ps,l,c2,rfl,hkN,hla,hlb,hlk,h,v,hpl,heach,hrun⟩;change Int at last;refine join1 (a:=.bool) (fun q u'=>q=decide (k≠0∧c2.rest≠0)∧CuG w u' bc sC ([(b2,X),(b8,pairC P s)]++(R++ro)) c2) ?_ ?_
 ·intro k10 hk10;refine Iq (fun q=>?_) fun q=>?_
  ·have q:(0:Int)<(k:Int):=odt q;refine rest_ok h.cur fun u1 _ M=>hk10 _ _ ⟨?_,h.quiet M⟩;show decide ((0:Int)<(c2.rest:Int))=_;rw [Bei,Det,Det];omega
  ·have q:¬(0:Int)<(k:Int):=odf q;exact hk10 _ _ ⟨(Dcf fun e=>by omega).symm,h⟩
 rintro q u' ⟨rfl,h⟩;refine Iq (fun q=>?_) fun q=>?_;rotate_left
 ·have q:¬(k≠0∧c2.rest≠0):=odf q;have e:partsRun k l last c2=(l,c2):=by
   cases k with
   | zero=>rfl
   | succ k=>rw [partsRun,if_pos (by omega)]
  have e1:partsRun N [] (-1) c'=(l,c2):=hrun▸e;refine hK _ R ro s ps (by rw [e1];exact h) ?_;rw [e1];exact⟨(OwnL.of v).mono fun q hq=>Lmr _ hq,hpl,fun i p x hp hx=>(heach i p x hp hx).mono fun q hq=>Lml _ hq,by show l.length≤_;omega⟩
 have q:k≠0∧c2.rest≠0:=odt q;obtain⟨k,rfl⟩:∃j,k=j+1:=⟨k-1,by omega⟩;rw [partsRun,if_neg q.2] at hrun;unfold part1 at hrun;dsimp only at hrun;refine num_ok h.cur fun u1 g1 M1=>?_;have h:=h.upd g1 (Fresh.none M1);have har:=num_range c2 65535;have har2:=har.2 (by decide);generalize c2.num 65535=a at hrun g1 h har har2;simp only [Lan] at h;have ew0:w64 (last+1)=last+1:=Wq (by omega) (by omega);have ew:w64 (w64 (last+1)+a.1)=last+1+a.1:=by rw [ew0];exact Wq (by omega) (by omega)
 rw [ew];refine h.alst (by rfl) fun b25 u2 h=>?_;have h:CuG w u2 bc sC ((b2,X)::(b8,pairC P s)::(b25,EPI.f ⟨last+1+a.1,⟨none,0,0⟩,false,0,⟨none,0,0⟩⟩)::(R++ro)) a.2:=h.perm (((List.perm_append_singleton _ _).symm.cons _).cons _);refine (h.blk (i:=2) rfl).ldK (k:=Ki) (last+1+a.1) rfl ?_;refine text_ok h.cur fun u3 g3 M3=>?_;have h:=h.upd g3 (Fresh.none M3);have htl:=text_le a.2 4112;generalize a.2.text 4112=t at hrun g3 h htl;have htl:t.1.length≤4112:=htl;simp only [Lan] at h;refine convS fun a32 u4 hr4 M4=>?_;have h:=h.quiet M4;refine filtDecode_ok hr4 (by omega) fun u5 ro2 sD v2 f2=>?_;have h:=h.more f2;have hfl:=filtD_len t.1;generalize filtD t.1=F at hrun v2 hfl ⊢;refine h.alst (by rfl) fun b38 u6 h=>?_;refine fail_ok h.cur fun u7 g7 M7=>?_;have h:=h.upd g7 (Fresh.none M7);simp only [Lan] at h;generalize t.2.fail F.2=c3 at hrun g7 h;have hB38:Blk u7 b38 (fltC F.1.all F.1.hashes sD):=h.f.own (b38,_) (Lmr _ (Lms.2 rfl));refine hB38.ldK (k:=.bool) F.1.all rfl (hB38.ldK (k:=Ki) F.1.hashes rfl (hB38.ldK (k:=.sl) sD rfl ?_));have h:=h.sub (Lsl _ _);refine h.stK 2 rfl (by decide:2+3≤5) fun u8 h=>?_;have h:CuG w u8 bc sC (((b2,X)::(b8,pairC P s)::(b25,EPI.f ⟨last+1+a.1,⟨none,0,0⟩,F.1.all,F.1.hashes,sD⟩)::(R++ro))++ro2) c3:=h;refine blocks_ok h.cur fun u9 ro3 sb v3 F3=>?_;have h:=h.upd F3.cur F3.f;have hbl:=blksN_len c3;generalize blksN c3=B at hrun v3 h F3 hbl;refine h.stK 2 rfl (by decide:1+1≤5) fun u10 h=>?_;have h:CuG w u10 bc sC ((((b2,X)::(b8,pairC P s)::(b25,EPI.f ⟨last+1+a.1,sb,F.1.all,F.1.hashes,sD⟩)::(R++ro))++ro2)++ro3) B.2:=h;refine (h.blk (i:=1) rfl).ldK (k:=.sl) s rfl ?_;have hB25:=h.blk (i:=2) rfl;refine hB25.ldK (k:=Ki) (last+1+a.1) rfl (hB25.ldK (k:=.sl) sb rfl (hB25.ldK (k:=.bool) F.1.all rfl (hB25.ldK (k:=Ki) F.1.hashes rfl (hB25.ldK (k:=.sl) sD rfl ?_))));have h:CuG w u10 bc sC (((b2,X)::(b8,pairC P s)::(b25,EPI.f ⟨last+1+a.1,sb,F.1.all,F.1.hashes,sD⟩)::(R++(ro2++ro3)))++ro) B.2:=by
  refine h.perm ?_;simp only [List.cons_append];refine List.Perm.cons _ (List.Perm.cons _ (List.Perm.cons _ ?_));rw [Laa (R++ro)];exact (perm_mid R (ro2++ro3) ro).symm
 refine h.push v ⟨last+1+a.1,sb,F.1.all,F.1.hashes,sD⟩ rfl rfl rfl (by omega) fun s' ro' u11 h v' M11=>?_;refine h.stK 1 rfl (by decide:1+1≤2) fun u12 h=>?_;have h:CuG w u12 bc sC ((b2,X)::(b8,pairC P s')::(b25,EPI.f ⟨last+1+a.1,sb,F.1.all,F.1.hashes,sD⟩)::((R++(ro2++ro3))++ro')) B.2:=h;have h:=h.sub (((List.sublist_cons_self _ _).cons_cons _).cons_cons _);have es:w64 (((k+1:Nat):Int)-1)=(k:Int):=by rw [Wq (by omega) (by omega)];omega
 rw [es];refine⟨⟨k,R++(ro2++ro3),ro',s',ps++[⟨last+1+a.1,sb,F.1.all,F.1.hashes,sD⟩],l++[⟨last+1+a.1,B.1,F.1⟩],B.2,rfl,by omega,by omega,by omega,by rw [Lla,List.length_singleton];omega,h,v',by rw [Lla,Lla,hpl,List.length_singleton,List.length_singleton],?_,hrun⟩,by omega⟩;intro i p x hp hx;rcases Nat.lt_or_ge i ps.length with hi | hi
 ·rw [Lgl hi] at hp;rw [Lgl (by omega)] at hx;exact (heach i p x hp hx).mono fun q hq=>Lml _ hq
 ·rw [Lgr hi] at hp;rw [Lgr (by omega)] at hx;have hi0:i-ps.length=0:=by
   have:=(Les.1 hp).1;rw [List.length_singleton] at this;omega
  rw [hi0] at hp;rw [←hpl,hi0] at hx;cases hp;cases hx;exact⟨rfl,(OwnL.of v3).mono fun q hq=>Lmr _ (Lmr _ hq),rfl,rfl,(OwnL.of v2).mono fun q hq=>Lmr _ (Lml _ hq),hbl,hfl⟩
set_option maxHeartbeats 4000000 in
theorem parse_ok{w:World}{sB:Sl}{t:Str}(hr:RdS w ET sB t)(hl:t.length≤1099511627776){K:Int→Sl→Bool→Wp}
  (hK:∀w' R s ps,Fresh w w' F0 R→FootL R s ps (readF t).2.1→K (readF t).1 s (parseF t) w') :
  callK Pg c_72 [Az sB] w (.tup [.agg [Ki,.sl],Lb]) K:=by
 refine go_72 _ _ _ ?_;refine (Fresh.start w F0).alK fun b2 w1 f1 _ M1=>?_;refine newCursor_G (hr.quiet M1) hl fun w2 bc sC h hlo=>?_;have h:=CuG.under f1 h hlo;refine num_ok h.cur fun w3 c3 M3=>?_;have h:=h.upd c3 (Fresh.none M3);unfold parseF at hK;have e1:∃P c,(readF t).1=P∧(Cu.mk t 0 0).num 65535=(P,c):=⟨_,_,rfl,rfl⟩;obtain⟨P,c,eP,ec⟩:=e1;have e2:(readF t).2=partsRun (c.num 65535).1.toNat [] (-1) (c.num 65535).2:=by
  unfold readF;dsimp only;rw [ec]
 rw [eP,e2] at hK;rw [ec] at c3 h;rw [ec];dsimp only at c3 h ⊢;refine h.alst (by rfl) fun b8 w4 h=>?_;have h:CuG w w4 bc sC [(b2,pairC 0 ⟨none,0,0⟩),(b8,pairC P ⟨none,0,0⟩)] c:=h;refine num_ok h.cur fun w5 c5 M5=>?_;have h:=h.upd c5 (Fresh.none M5);have hnr:=num_range c 65535;have hnr2:=hnr.2 (by decide);generalize c.num 65535=n at hK c5 h hnr hnr2;obtain⟨n,c6⟩:=n;dsimp only at hK c5 h hnr hnr2 ⊢;rw [Lan] at h;obtain⟨N,rfl⟩:∃N:Nat,n=(N:Int):=⟨n.toNat,by omega⟩;simp only [Itn] at hK;generalize hpr:partsRun N [] (-1) c6=r at hK;refine join0 (fun u=>∃R s ps,CuG w u bc sC ((b2,pairC 0 ⟨none,0,0⟩)::(b8,pairC P s)::R) r.2∧FootL R s ps r.1) ?_ ?_
 ·intro k13 hk13;refine partsLoop_ok (X:=pairC 0 ⟨none,0,0⟩) (by omega) h fun u R ro s ps hG hF=>?_;rw [hpr] at hG hF;exact hk13 u ⟨R++ro,s,ps,hG,hF⟩
 rintro u ⟨R,s,ps,hG,hF⟩
 refine join1 (a:=.bool) (fun ok v=>ok=okF P r.1 r.2 t∧Fresh w v F0 ((b2,pairC P s)::R)) ?_ ?_;rotate_left
 ·rintro ok v ⟨rfl,f⟩;have hB:=f.blk (i:=0) rfl;exact hB.ldK (k:=Ki) P rfl (hB.ldK (k:=.sl) s rfl (hK v R s ps (f.sub (List.sublist_cons_self _ _)) hF))
 intro k61 hk61;have hG:=hG.quiet (Mq u);have hn8:b8≠b2:=fun e=>by
  have:=hG.f.nodup;rw [List.map_cons,List.nodup_cons] at this;exact this.1 (by rw [←e];simp)
 have d8:=hG.blk (i:=1) rfl;refine⟨fun z=>z=b2,d8.ldDK (k:=Ki) P hn8 rfl (d8.ldDK (k:=.sl) s hn8 rfl ?_)⟩;have fin:∀{v:World} {rb:BL} {ok:Bool},Fresh w v F0 ((b2,pairC 0 ⟨none,0,0⟩)::(R++rb))→Mod (fun z=>z=b2) u.drew v→ok=okF P r.1 r.2 t →
   Go.Vw.st v b2 0 [.int .i64 P,.sl s] fun v'=>Mod (fun z=>z=b2) u.drew v'∧k61 ok v':=fun {v rb ok} f hM e=>by
  refine f.stK 0 rfl (Nlr 2) fun v' f' M'=>⟨hM.trans M' (fun _ _ h=>h) fun _ _ h=>h,hk61 _ _ ⟨e,?_⟩⟩;have f':Fresh w v' F0 ((b2,pairC P s)::(R++rb)):=f';exact f'.sub ((Lsl _ _).cons_cons _)
 have hsub:List.Sublist ((b2,pairC 0 ⟨none,0,0⟩)::R) ((b2,pairC 0 ⟨none,0,0⟩)::(b8,pairC P s)::R):=(List.sublist_cons_self _ _).cons_cons _;refine end_ok hG.cur fun w67 _ M67=>⟨M67.mono fun _ _ h=>h.elim,?_⟩;have hG67:=hG.quiet M67;refine Iq (fun q=>?_) fun q=>?_;rotate_left
 ·have q:¬r.2.done.1=0:=by simpa using q
  have f:Fresh w w67 F0 ((b2,pairC 0 ⟨none,0,0⟩)::(R++[])):=by rw [Lan];exact hG67.f.sub hsub
  exact fin f (M67.mono fun _ _ h=>h.elim) (by unfold okF;rw [Dcf q];rfl)
 have q:r.2.done.1=0:=by simpa using q
 refine d8.ldDK (k:=Ki) P hn8 rfl (d8.ldDK (k:=.sl) s hn8 rfl ?_);have hR67:FootR w67 (Ks R) s ps r.1:=hF.foot fun p hp=>hG67.f.own p (Lmc _ (Lmc _ hp));refine footCheck_ok hR67 fun w71 M71=>?_;have M271:Mod (fun z=>z=b2) u.drew w71:=(mod0 M67 M71).mono fun _ _ h=>h.elim;refine⟨M271,?_⟩;have hG71:=hG67.quiet M71;have f71:Fresh w w71 F0 ((b2,pairC 0 ⟨none,0,0⟩)::R):=hG71.f.sub hsub;by_cases hck:chkF P r.1=true;rotate_left
 ·rw [if_neg hck];refine ifK_f (by decide) ?_;have hck:chkF P r.1=false:=by simpa using hck
  have f:Fresh w w71 F0 ((b2,pairC 0 ⟨none,0,0⟩)::(R++[])):=by rw [Lan];exact f71
  exact fin f M271 (by unfold okF;rw [hck];simp)
 rw [if_pos hck];refine ifK_t (by decide) ?_;refine d8.ldDK (k:=Ki) P hn8 rfl (d8.ldDK (k:=.sl) s hn8 rfl ?_);have hR71:=hR67.quiet M71;have eok:∀{b:Bool},b=decide (bodyN P r.1=t)→b=okF P r.1 r.2 t:=fun {b} e=>by unfold okF;rw [e,Dct q,hck];rfl
 have eq1:(bodyN P r.1==t)=decide (bodyN P r.1=t):=by rw [Bei,beq_iff_eq,Det]
 have call:∀{k:Sl→Wp},(∀w75 rb sb,Fresh w w75 F0 ((b2,pairC 0 ⟨none,0,0⟩)::(R++rb))→VecL rb ET sb (bodyN P r.1)→Mod (fun z=>z=b2) u.drew w75→k sb w75) →
   callK Pg c_70 [.agg [.int .i64 P,.sl s]] w71 Oz k:=fun {k} hk=>
  body_ok hR71 hck fun w75 rb sb fb vb=>hk w75 rb sb (f71.join fb (fun _ _ h=>h) fun _ _ _ h=>h) vb ((mod0 (mod0 M67 M71) fb.mod).mono fun _ _ h=>h.elim)
 have c1:∀{v:World} {L:BL} {k:Str→Wp},Fresh w v F0 L→k t v→opF Pg (vS (convert t_bytes 9 (LV.toV (.sl sB)))) v Ot k:=fun f hk=>convT (hr.quiet f.mod) hk;have c2:∀{v:World} {x:Nat×List Value} {rb:BL} {sb:Sl} {k:Str→Wp},Fresh w v F0 (x::(R++rb))→VecL rb ET sb (bodyN P r.1)→k (bodyN P r.1) v→opF Pg (vS (convert t_bytes 9 (LV.toV (.sl sb)))) v Ot k:=fun f vb hk=>convT (vb.rd fun p hp=>f.own p (Lmc _ (Lmr _ hp))) hk;have sto:∀{v:World} {rb:BL} {k:Wp},Fresh w v F0 ((b2,pairC 0 ⟨none,0,0⟩)::(R++rb))→Mod (fun z=>z=b2) u.drew v→(∀v',Fresh w v' F0 ((b2,pairC P s)::(R++rb))→Mod (fun z=>z=b2) u.drew v'→k v')→Go.Vw.st v b2 0 [.int .i64 P,.sl s] k:=fun {v rb k} f hM hk=>
  f.stK 0 rfl (Nlr 2) fun v' f' M'=>hk v' f' (hM.trans M' (fun _ _ h=>h) fun _ _ h=>h)
 have out:∀{v:World} {rb:BL} {ok:Bool},Fresh w v F0 ((b2,pairC P s)::(R++rb))→ok=decide (bodyN P r.1=t)→k61 ok v:=fun f e=>hk61 _ _ ⟨eok e,f.sub ((Lsl _ _).cons_cons _)⟩;refine⟨call fun w75 rb sb f vb hM=>⟨hM,?_,?_,?_⟩,c1 f71 ⟨M271,call fun w75 rb sb f vb hM=>⟨hM,?_,?_⟩⟩⟩
 ·exact c2 f vb ⟨hM,c1 f ⟨hM,fin f hM (eok eq1)⟩,sto f hM fun v' f' hM'=>⟨hM',c1 f' ⟨hM',out f' eq1⟩⟩⟩
 ·exact c1 f ⟨hM,c2 f vb ⟨hM,fin f hM (eok eq1)⟩,sto f hM fun v' f' hM'=>⟨hM',c2 f' vb ⟨hM',out f' eq1⟩⟩⟩
 ·exact sto f hM fun v' f' hM'=>⟨hM',c2 f' vb ⟨hM',c1 f' ⟨hM',out f' eq1⟩⟩,c1 f' ⟨hM',c2 f' vb ⟨hM',out f' eq1⟩⟩⟩
 ·exact c2 f vb ⟨hM,fin f hM (eok eq1)⟩
 ·exact sto f hM fun v' f' hM'=>⟨hM',c2 f' vb ⟨hM',out f' eq1⟩⟩
end Go.Proofs.YtkofkhjcfjoceaaGreat
namespace Go.Proofs.YtkofkhjcfjoceaaGreat
open Go.Vw
def trailOk(b p:Int):Bool:=decide (0≤b∧b≤268435456∧1≤p∧p≤16793600∧¬(0<p.tmod 4100∧p.tmod 4100<5))
def magicN:Str:=[119,110,119,49]
def trailN(t:Str)(size:Int):Int×Int×Int:=
 if t.length≠24 then (0,0,81) else
 if (openB t).1≠0 then (0,0,81) else
 if (openB t).2.take 4≠magicN∨268435456<wordN (((openB t).2.take 12).drop 4)∨33554432<wordN ((openB t).2.drop 12) then (0,0,81) else
 if trailOk (wordN (((openB t).2.take 12).drop 4)) (wordN ((openB t).2.drop 12))=false then (0,0,81) else
 if (wordN (((openB t).2.take 12).drop 4):Int)+wordN ((openB t).2.drop 12)+24≠size then (0,0,82) else
 (wordN (((openB t).2.take 12).drop 4),wordN ((openB t).2.drop 12),0)
structure Dec where
 tb:Int
 tp:Int
 left:Int
 body:Str
 broken:Bool
def pageN(d:Dec)(page:Str):Dec×Int:=
 if d.broken=true∨mnI d.left 4100=0∨(page.length:Int)≠mnI d.left 4100 then ({d with broken:=true},80)
 else if (openB page).1≠0 then ({d with broken:=true},80)
 else ({d with body:=d.body++(openB page).2,left:=d.left-mnI d.left 4100},0)
def footOk(d:Dec):Bool:=!d.broken&&(decide (d.left≤0)&&(parseF d.body&&decide (spI (readF d.body).2.1=d.tb)))
theorem openB_len{t:Str}(h:(openB t).1=0):(openB t).2.length+4=t.length∧(openB t).2=t.take (t.length-4):=by
 unfold openB at h ⊢;split at h
 ·cases h
 ·rename_i h4;split at h
  ·rename_i h2;rw [if_neg h4,if_pos h2];refine⟨?_,rfl⟩;show (t.take (t.length-4)).length+4=_;rw [Llt];omega
  ·cases h
theorem openB_le(t:Str):(openB t).2.length≤t.length:=by
 unfold openB;split
 ·exact Nzl _
 ·split
  ·show (t.take (t.length-4)).length≤_;rw [Llt];omega
  ·exact Nzl _
theorem tmodI(n m:Int)(h:0≤n)(hm:0<m):0≤n.tmod m∧n.tmod m<m:=by
 rw [Int.tmod_eq_emod_of_nonneg h];exact⟨Int.emod_nonneg _ (by omega),Int.emod_lt_of_pos _ hm⟩
theorem rightTrail_ok{w:World}{b p:Int}{K:Int→Bool→Wp}(hK:∀n w',Mod F0 w w'→K n (trailOk b p) w') :
  callK Pg c_73 [.agg [.int .i64 b,.int .i64 p]] w (.tup [Li,Lb]) K:=by
 refine go_73 _ _ _ _ ?_;refine (Fresh.start w F0).alK fun b3 w1 f1 _ M1=>?_;have hB:Blk w1 b3 [.int .i64 b,.int .i64 p]:=f1.blk (i:=0) rfl;have l0:∀{u:World} {K:Int→Prop},Mod F0 w1 u→K b→Go.Vw.ld u Ki b3 0 K:=fun hM hK=>(hM.blk hB id).ldK (k:=Ki) b rfl hK;have l1:∀{u:World} {K:Int→Prop},Mod F0 w1 u→K p→Go.Vw.ld u Ki b3 1 K:=fun hM hK=>(hM.blk hB id).ldK (k:=Ki) p rfl hK;refine join1 (a:=.bool) (fun q u=>q=decide (¬(0≤b∧b≤268435456∧1≤p∧p≤16793600))∧Mod F0 w1 u) ?_ ?_
 ·intro k hk;have hd:=(Mq w1).blk hB id;have yes:(¬(0≤b∧b≤268435456∧1≤p∧p≤16793600))→k true w1.drew:=fun h=>hk _ _ ⟨(Dct h).symm,Mq w1⟩;refine⟨F0,hd.ldDK (k:=Ki) b id rfl (Iq (fun q=>yes fun h=>?_) fun q=>?_)⟩
  ·have q:b<0:=odt q;omega
  refine hd.ldDK (k:=Ki) b id rfl (Iq (fun q2=>yes fun h=>?_) fun q2=>?_)
  ·have q2:268435456<b:=odt q2;omega
  refine hd.ldDK (k:=Ki) p id rfl (Iq (fun q3=>yes fun h=>?_) fun q3=>?_)
  ·have q3:p<1:=odt q3;omega
  have q:¬b<0:=odf q;have q2:¬268435456<b:=odf q2;have q3:¬p<1:=odf q3;refine hd.ldDK (k:=Ki) p id rfl (go_74 _ _ _ ?_);refine⟨Mod.refl _ _,hk _ _ ⟨?_,Mq w1⟩⟩;have e:w64 (16777216+w64 (4*w64 ((w64 (w64 (16777216+4096)-1)).tdiv 4096)))=16793600:=by decide
  rw [e];show decide (16793600<p)=_;rw [Bei,Det,Det];omega
 rintro q u ⟨rfl,hM⟩;have hM2:=mod0 M1 hM;refine Iq (fun q=>?_) fun q=>?_
 ·have q:¬(0≤b∧b≤268435456∧1≤p∧p≤16793600):=odt q;have:=hK 0 u hM2;unfold trailOk at this;rw [Dcf fun h=>q ⟨h.1,h.2.1,h.2.2.1,h.2.2.2.1⟩] at this;exact this
 have q:0≤b∧b≤268435456∧1≤p∧p≤16793600:=Decidable.not_not.1 (odf q);refine l1 hM (l1 hM ?_);have hr:=tmodI p 4100 (by omega) (by decide);have ew:w64 (p.tmod 4100-4)=p.tmod 4100-4:=Wq (by omega) (by omega);rw [ew];have good:¬(0<p.tmod 4100∧p.tmod 4100<5)→∀n,K n true u:=fun h n=>by
  have:=hK n u hM2;unfold trailOk at this;rw [Dct ⟨q.1,q.2.1,q.2.2.1,q.2.2.2,h⟩] at this;exact this
 refine join1 (a:=Ki) (fun _ v=>¬(0<p.tmod 4100∧p.tmod 4100<5)∧v=u) ?_ (by rintro x v ⟨h,rfl⟩;exact good h _);intro k17 hk17;refine Iq (fun q2=>?_) fun q2=>hk17 _ _ ⟨?_,rfl⟩
 ·have q2:0<p.tmod 4100:=odt q2;refine Iq (fun q3=>?_) fun q3=>hk17 _ _ ⟨?_,rfl⟩
  ·have q3:p.tmod 4100-4<1:=odt q3;have:=hK 0 u hM2;unfold trailOk at this;rw [Dcf fun h=>h.2.2.2.2 ⟨q2,by omega⟩] at this;exact this
  ·have q3:¬p.tmod 4100-4<1:=odf q3;omega
 ·have q2:¬0<p.tmod 4100:=odf q2;omega
set_option maxHeartbeats 1000000 in
theorem trailer_ok{w:World}{s:Sl}{t:Str}(hr:RdS w ET s t)(hl:t.length≤1099511627776){size:Int}{K:Int→Int→Int→Wp}(hK:∀w',Mod F0 w w'→K (trailN t size).1 (trailN t size).2.1 (trailN t size).2.2 w') :
  callK Pg c_75 [Az s,Ai size] w (.tup [.agg [Ki,Ki],Li]) K:=by
 refine go_75 _ _ _ _ ?_;refine (Fresh.start w F0).alK fun b3 w1 f1 _ M1=>?_;have out:∀{u:World} {m:BL} {X:List Value} (x y e:Int),X.length=2→Fresh w u F0 ((b3,X)::m)→(trailN t size=(x,y,e)) →
   Go.Vw.st u b3 0 [.int .i64 x,.int .i64 y] fun W5=>Go.Vw.ld W5 Ki b3 0 fun n6=>Go.Vw.ld W5 Ki b3 1 fun n7=>K n6 n7 e W5:=fun {u m X} x y e hX h he=>by
  refine h.stK 0 rfl (by simp [hX]) fun u' h' _=>?_;have hB:Blk u' b3 [.int .i64 x,.int .i64 y]:=by
   have:=h'.blk (i:=0) rfl;rw [spl_eq _ _ _ (by simp [hX]),Ldn (by simp [hX]),Lan] at this;exact this
  have h2:=hK u' h'.mod;rw [he] at h2;exact hB.ldK (k:=Ki) x rfl (hB.ldK (k:=Ki) y rfl h2)
 rw [hr.len];refine Iq (fun q=>?_) fun q=>?_
 ·have q:(t.length:Int)≠24:=by simpa using q
  exact out 0 0 81 rfl f1 (by unfold trailN;rw [if_pos (by omega)])
 have q:¬t.length≠24:=by have q:(t.length:Int)=24:=(by simpa using q);omega
 refine open_ok (hr.quiet M1) hl fun w2 ro2 s2 h2 v2=>?_;have f2:Fresh w w2 F0 ((b3,[.int .i64 0,.int .i64 0])::ro2):=f1.join (Fresh.of_at h2) (fun _ _ h=>h) fun _ _ _ h=>h;refine Iq (fun q2=>?_) fun q2=>?_
 ·have q2:(openB t).1≠0:=by simpa using q2
  exact out 0 0 81 rfl f2 (by unfold trailN;rw [if_neg q,if_pos q2])
 have q2:¬(openB t).1≠0:=by simpa using q2
 have hol:=(openB_len (by simpa using q2)).1;have et:trailN t size=if (openB t).2.take 4≠magicN∨268435456<wordN (((openB t).2.take 12).drop 4)∨33554432<wordN ((openB t).2.drop 12) then ((0,0,81):Int×Int×Int) else
   if trailOk (wordN (((openB t).2.take 12).drop 4)) (wordN ((openB t).2.drop 12))=false then (0,0,81) else
   if (wordN (((openB t).2.take 12).drop 4):Int)+wordN ((openB t).2.drop 12)+24≠size then (0,0,82) else
   (wordN (((openB t).2.take 12).drop 4),wordN ((openB t).2.drop 12),0):=by unfold trailN;rw [if_neg q,if_neg q2]
 generalize (openB t).2=o at et v2 hol;have f3:=f2.quiet (Mq w2);have hr3:RdS w2.drew ET s2 o:=v2.rd fun p hp=>f3.own p (Lmc _ hp);have e12:w64 (4+8)=12:=by decide
 rw [e12];refine⟨F0,hr3.partK (n:=4) (m:=12) (by decide) (by omega) rfl rfl rfl fun s4 h4 _=>hr3.fromK (n:=12) (by omega) rfl rfl fun s5 h5 _=>?_⟩;refine word_ok h4 (by simp;omega) ⟨Mod.refl _ _,word_ok h5 (by simp;omega) ⟨Mod.refl _ _,?_⟩⟩;generalize wordN ((o.take 12).drop 4)=A at et;generalize wordN (o.drop 12)=B at et;refine join1 (a:=.bool) (fun c u=>c=decide (o.take 4≠magicN∨268435456<A∨33554432<B)∧u=w2.drew) ?_ ?_
 ·intro k hk;refine hr3.toK (n:=4) (by omega) rfl rfl fun s6 h6 _=>convT h6 ?_;refine Iq (fun q3=>hk _ _ ⟨?_,rfl⟩) fun q3=>Iq (fun q4=>hk _ _ ⟨?_,rfl⟩) fun q4=>hk _ _ ⟨?_,rfl⟩
  ·have q3:¬o.take 4=magicN:=by simpa [magicN] using q3
   exact (Dct (.inl q3)).symm
  ·have q4:(268435456:Int)<(A:Int):=odt q4;exact (Dct (.inr (.inl (by omega)))).symm
  ·have q3:o.take 4=magicN:=by simpa [magicN] using q3
   have q4:¬(268435456:Int)<(A:Int):=odf q4;show decide ((33554432:Int)<(B:Int))=_;rw [Bei,Det,Det];exact⟨fun h=>.inr (.inr (by omega)),fun h=>by
    rcases h with h | h | h
    ·exact absurd q3 h
    ·omega
    ·omega⟩
 rintro c u ⟨rfl,rfl⟩;refine Iq (fun q3=>?_) fun q3=>?_
 ·have q3:=odt q3;rw [if_pos q3] at et;exact out 0 0 81 rfl f3 et
 have q3:=odf q3;rw [if_neg q3] at et;have eA:w64 (A:Int)=(A:Int):=w64N (by omega);have eB:w64 (B:Int)=(B:Int):=w64N (by omega);rw [eA,eB];refine f3.alst (by rfl) fun b30 w4 f4 _ _=>?_;have hB30:Blk w4 b30 [.int .i64 (A:Int),.int .i64 (B:Int)]:=f4.own (b30,_) (Lmr _ (Lms.2 rfl));refine hB30.ldK (k:=Ki) (A:Int) rfl (hB30.ldK (k:=Ki) (B:Int) rfl (rightTrail_ok fun n w5 M5=>?_));have f5:=f4.quiet M5;have hB30:=M5.blk hB30 id;refine Iq (fun q4=>?_) fun q4=>?_
 ·have q4:trailOk A B=false:=by simpa using q4
  rw [if_pos q4] at et;exact out 0 0 81 rfl f5 et
 have q4:¬trailOk A B=false:=by simpa using q4
 rw [if_neg q4] at et;refine hB30.ldK (k:=Ki) (A:Int) rfl (hB30.ldK (k:=Ki) (B:Int) rfl ?_);have es:w64 (w64 ((A:Int)+(B:Int))+24)=(A:Int)+(B:Int)+24:=by
  rw [Wq (n:=(A:Int)+(B:Int)) (by omega) (by omega)];exact Wq (by omega) (by omega)
 rw [es];refine Iq (fun q5=>?_) fun q5=>?_
 ·have q5:(A:Int)+(B:Int)+24≠size:=by simpa using q5
  rw [if_pos q5] at et;exact out 0 0 82 rfl f5 et
 have q5:¬(A:Int)+(B:Int)+24≠size:=by simpa using q5
 rw [if_neg q5] at et;exact hB30.ldK (k:=Ki) (A:Int) rfl (hB30.ldK (k:=Ki) (B:Int) rfl (out A B 0 rfl f5 et))
def decC(d:Dec)(s:Sl):List Value:=[.int .i64 d.tb,.int .i64 d.tp,.int .i64 d.left,(LV.sl s).toV,(LV.bool d.broken).toV]
def dec0(b p:Int):Dec:=⟨b,p,p,[],false⟩
theorem newDecoder_ok{w:World}{b p:Int}{K:PA→Int→Wp}(hN:trailOk b p=false→∀w',Mod F0 w w'→K none 81 w')
  (hS:trailOk b p=true→∀w' d,Fresh w w' F0 [(d,decC (dec0 b p) ⟨none,0,0⟩)]→K (some (d,0)) 0 w') :
  callK Pg c_1 [.agg [.int .i64 b,.int .i64 p]] w (.tup [Lp,Li]) K:=by
 refine go_1 _ _ _ _ ?_;refine (Fresh.start w F0).alK fun b3 w1 f1 _ M1=>?_;have hB:Blk w1 b3 [.int .i64 b,.int .i64 p]:=f1.blk (i:=0) rfl;refine hB.ldK (k:=Ki) b rfl (hB.ldK (k:=Ki) p rfl (rightTrail_ok fun n w2 M2=>?_));have f2:=f1.quiet M2;have hB:=M2.blk hB id;refine Iq (fun q=>hN (by simpa using q) w2 (mod0 M1 M2)) fun q=>?_;refine hB.ldK (k:=Ki) b rfl (hB.ldK (k:=Ki) p rfl (hB.ldK (k:=Ki) p rfl (f2.alK fun b13 w3 f3 _ _=>?_)));exact hS (by simpa using q) w3 b13 (f3.sub (Lsr _ _))
theorem mnI_le(a b:Int):mnI a b≤a∧mnI a b≤b∧(mnI a b=a∨mnI a b=b):=by unfold mnI;split<;>omega
theorem parseF_chk{t:Str}(h:parseF t=true):chkF (readF t).1 (readF t).2.1=true:=by
 unfold parseF okF at h;rw [Bat,Bat] at h;exact h.2.1
theorem footDec_ok{w:World}{d:Nat}{x:Dec}{s:Sl}(hB:Blk w d (decC x s))(hr:RdS w ET s x.body)(hl:x.body.length≤1099511627776){K:Int→Sl→Int→Wp}
  (hN:footOk x=false→∀w',Mod F0 w w'→K 0 ⟨none,0,0⟩ 80 w')
  (hS:footOk x=true→∀w' R s ps,Fresh w w' F0 R→FootL R s ps (readF x.body).2.1→K (readF x.body).1 s 0 w') :
  callK Pg c_2 [Ap (some (d,0))] w (.tup [.agg [Ki,.sl],Li]) K:=by
 refine go_2 _ _ _ ?_;refine (Fresh.start w F0).alK fun b2 w1 f1 _ M1=>?_;have hB1:=M1.blk hB id;refine ifK_f rfl ?_;have bad:∀{u:World} {m:BL},Fresh w u F0 ((b2,pairC 0 ⟨none,0,0⟩)::m)→footOk x=false →
   Go.Vw.st u b2 0 [.int .i64 0,.sl (⟨none,0,0⟩)] fun W16=>Go.Vw.ld W16 Ki b2 0 fun n17=>Go.Vw.ld W16 .sl b2 1 fun a18=>K n17 a18 80 W16:=fun {u m} h e=>by
  refine h.stK 0 rfl (Nlr 2) fun u' h' _=>?_;have hb:Blk u' b2 (pairC 0 ⟨none,0,0⟩):=h'.blk (i:=0) rfl;exact hb.ldK (k:=Ki) 0 rfl (hb.ldK (k:=.sl) ⟨none,0,0⟩ rfl (hN e u' h'.mod))
 refine join1 (a:=.bool) (fun q u=>q=decide (x.broken=true∨0<x.left)∧u=w1) ?_ ?_
 ·intro k hk;refine Dq (hB1.ldK (k:=.bool) x.broken rfl (Iq (fun q=>hk _ _ ⟨(Dct (.inl q)).symm,rfl⟩) fun q=>Dq (hB1.ldK (k:=Ki) x.left rfl (hk _ _ ⟨?_,rfl⟩))));show decide (0<x.left)=_;rw [Bei,Det,Det];exact⟨.inr,fun h=>h.resolve_left (by rw [q];decide)⟩
 rintro q u ⟨rfl,rfl⟩;refine Iq (fun q=>?_) fun q=>?_
 ·have q:=odt q;refine bad f1 ?_;unfold footOk;rcases q with q | q
  ·rw [q];rfl
  ·rw [Dcf (show ¬x.left≤0 by omega),Bool.false_and,Bool.and_false]
 have q:=odf q;have hbr:x.broken=false:=by
  cases h:x.broken with
  | false=>rfl
  | true=>exact absurd (.inl h) q
 have hle:x.left≤0:=Int.not_lt.1 fun h=>q (.inr h);have eok:footOk x=(parseF x.body&&decide (spI (readF x.body).2.1=x.tb)):=by unfold footOk;rw [hbr,Dct hle];rfl
 refine Dq (hB1.ldK (k:=.sl) s rfl (parse_ok (hr.quiet M1) hl fun w2 R sI ps f2 hF=>?_));have f2:=f1.join f2 (fun _ _ h=>h) fun _ _ _ h=>h;refine f2.alst (by rfl) fun b26 w3 f3 _ M3=>?_;have f3:Fresh w w3 F0 ((b2,pairC 0 ⟨none,0,0⟩)::(R++[(b26,pairC (readF x.body).1 sI)])):=f3;have h26:Blk w3 b26 (pairC (readF x.body).1 sI):=f3.own (b26,_) (Lmc _ (Lmr _ (Lms.2 rfl)));have hB3:=f3.mod.blk hB id;refine join1 (a:=.bool) (fun q v=>q=(!footOk x)∧Mod F0 w3 v) ?_ ?_
 ·intro k hk;have d26:=(Mq w3).blk h26 id;have dB:=(Mq w3).blk hB3 id;refine⟨F0,Iq (fun q=>hk _ _ ⟨?_,Mq w3⟩) fun q=>?_⟩
  ·have q:parseF x.body=false:=by simpa using q
   rw [eok,q];rfl
  have q:parseF x.body=true:=by simpa using q
  refine d26.ldDK (k:=Ki) (readF x.body).1 id rfl (d26.ldDK (k:=.sl) sI id rfl (Dq (dB.ldDK (k:=Ki) x.tb id rfl ?_)));have hc:=parseF_chk q;unfold chkF at hc;rw [Bat] at hc;have hR:FootR w3.drew (Ks R) sI ps (readF x.body).2.1:=(hF.foot fun p hp=>f3.own p (Lmc _ (Lml _ hp))).quiet (Mq w3);refine blocksOf_ok (n0:=0) hR hc.2 fun w4 M4=>⟨M4,hk _ _ ⟨?_,mod0 (Mq w3) M4⟩⟩;rw [eok,q,Bool.true_and];rw [Bei,bne_iff_ne];simp
 rintro q v ⟨rfl,hM⟩;have f4:=f3.quiet hM;have h26:=hM.blk h26 id;refine Iq (fun q=>?_) fun q=>?_
 ·exact bad f4 (by simpa using q)
 have q:footOk x=true:=by simpa using q
 refine h26.ldK (k:=Ki) (readF x.body).1 rfl (h26.ldK (k:=.sl) sI rfl (f4.stK 0 rfl (Nlr 2) fun u5 f5 _=>?_));have f5:Fresh w u5 F0 ((b2,pairC (readF x.body).1 sI)::(R++[(b26,pairC (readF x.body).1 sI)])):=f5;have hb:=f5.blk (i:=0) rfl;exact hb.ldK (k:=Ki) (readF x.body).1 rfl (hb.ldK (k:=.sl) sI rfl (hS q u5 R sI ps (f5.sub ((Lsl _ _).cons _)) hF))
def belowB(bl:List BI)(k:Str)(i:Nat):Bool:=decide (cmpN (bl.getD i ⟨0,0,0,[]⟩).cut k<0)
def lowC(bl:List BI)(k:Str):Nat:=(bl.takeWhile fun b=>decide (cmpN b.cut k<0)).length
def findN(l:List PartI)(part:Int)(key:Str):Int×Int:=
 match l.findIdx? (fun x=>x.part==part) with
 | none=>(-1,0)
 | some i=>((i:Int),(((match l[i]? with | some x=>lowC x.blocks (key.take 64) | none=>0)-1:Nat):Int))
theorem findIdx_none{α:Type}{p:α→Bool}{l:List α}(h:∀(j:Nat) x,l[j]? = some x→p x=false):l.findIdx? p=none:=by
 rw [List.findIdx?_eq_none_iff];intro x hx;obtain⟨j,hj⟩:=List.mem_iff_getElem?.1 hx;simpa using h j x hj
theorem findIdx_some{α:Type}{p:α→Bool}:∀{l:List α} {i:Nat} {x:α},l[i]? = some x→p x=true→(∀(j:Nat) y,j<i→l[j]? = some y→p y=false)→l.findIdx? p=some i
 | [],i,x,h,_,_=>by simp at h
 | y::l,0,x,h,hp,_=>by
  simp at h;subst h;rw [List.findIdx?_cons,hp];rfl
 | y::l,i+1,x,h,hp,hb=>by
  have h0:p y=false:=hb 0 y (Nat.succ_pos _) rfl;rw [List.findIdx?_cons,h0];have:=findIdx_some (l:=l) (by simpa using h) hp fun j z hj hz=>hb (j+1) z (Nat.succ_lt_succ hj) (by simpa using hz);rw [if_neg (by decide),this];rfl
set_option maxHeartbeats 1000000 in
theorem find_ok{w:World}{S:Nat→Prop}{s:Sl}{ps:List PI}{l:List PartI}(h:FootR w S s ps l){parts part:Int}{key:Str}(hk:key.length≤1099511627776)(hcut:∀x∈l,∀b∈x.blocks,b.cut.length≤1099511627776)
  (hmono:∀x∈l,∀i j,i≤j→j<x.blocks.length→belowB x.blocks (key.take 64) j=true→belowB x.blocks (key.take 64) i=true) {K:Int→Int→Wp} (hK:∀w',Mod F0 w w'→K (findN l part key).1 (findN l part key).2 w') :
  callK Pg c_3 [.agg [.int .i64 parts,.sl s],Ai part,Au key] w (.tup [Li,Li]) K:=by
 refine go_3 _ _ _ _ _ _ ?_;refine (Fresh.start w F0).alK fun b5 w1 f1 _ M1=>?_;have hB:Blk w1 b5 [.int .i64 parts,(LV.sl s).toV]:=f1.blk (i:=0) rfl;have emin:mnI (key.length:Int) 64=((min key.length 64:Nat):Int):=mn_nat _ _;have etk:key.take (min key.length 64)=key.take 64:=by
  rcases Nat.le_total key.length 64 with h | h
  ·rw [Nat.min_eq_left h,List.take_length,Ltl h]
  ·rw [Nat.min_eq_right h]
 refine ssx_take (n:=min key.length 64) (Nat.min_le_left _ _) emin ?_;rw [etk];have hkl:(key.take 64).length≤64:=by rw [Llt];omega
 unfold findN at hK;generalize key.take 64=k at hK hmono hkl;refine hB.ldK (k:=.sl) s rfl ?_;have hll:=h.ll;rw [h.rd.len,h.len];refine join0 (fun u=>(∀(j:Nat) x,l[j]? = some x→(x.part==part)=false)∧Mod F0 w u) ?_ ?_;rotate_left
 ·rintro u ⟨hn,hM⟩;rw [findIdx_none hn] at hK;exact hK u hM
 intro k9 hk9;refine loop1 (k:=Ki) (fun (t:Int) u=>∃i:Nat,t=(i:Int)∧i≤l.length∧(∀(j:Nat) y,j<i→l[j]? = some y→(y.part==part)=false)∧Mod F0 w u) (fun t _=>(l.length-t).toNat) (x:=0) rfl ⟨0,rfl,Nzl _,fun j y hj=>absurd hj (Nat.not_lt_zero _),M1⟩ ?_;rintro t u ⟨i,rfl,hi,hb,hM⟩;refine Iq (fun q=>?_) fun q=>?_;rotate_left
 ·have q:l.length≤i:=dge q;exact hk9 u ⟨fun j x hx=>hb j x (by have:=(Les.1 hx).1;omega) hx,hM⟩
 have q:i<l.length:=dlt q;obtain⟨x,hx⟩:=Gq q;obtain⟨p,hp⟩:=Gq (l:=ps) (i:=i) (by rw [h.len];exact q);have hxm:=Lmg hx;have hu:=h.quiet hM;have hi1:=hu.each i p x hp hx;have es:=step64 (i:=i) (by omega);refine join0 (fun u'=>(x.part==part)=false∧Mod F0 w u') ?_ ?_;rotate_left
 ·rintro u' ⟨hne,hM'⟩;refine⟨⟨i+1,es,by omega,fun j y hj hy=>?_,hM'⟩,by rw [es];omega⟩;rcases Nat.lt_or_ge j i with h1 | h1
  ·exact hb j y h1 hy
  ·have:j=i:=by omega
   subst this;rw [hx] at hy;cases hy;exact hne
 intro k13 hk13;refine hu.rd.ix rfl rfl hp fun b o _ hc=>Lq (k:=Ki) p.part (hc 0 (by decide)) (Lq (k:=.sl) p.sb (hc 1 (by decide)) (Lq (k:=.bool) p.all (hc 2 (by decide)) (Lq (k:=Ki) p.hashes (hc 3 (by decide)) (Lq (k:=.sl) p.sd (hc 4 (by decide)) ?_))));refine (Fresh.start u F0).alst (by rfl) fun b21 u2 f2 _ M2=>?_;have hB2:Blk u2 b21 (EPI.f p):=f2.blk (i:=0) rfl;have hM2:=mod0 hM M2;refine hB2.ldK (k:=Ki) p.part rfl ?_;rw [hi1.part];refine Iq (fun q2=>?_) fun q2=>?_
 ·have q2:x.part≠part:=by simpa using q2
  exact hk13 _ ⟨by simpa using q2,hM2⟩
 have q2:x.part=part:=by simpa using q2
 rw [findIdx_some hx (by simpa using q2) hb] at hK;simp only [hx] at hK;have dB:=(Mq u2).blk hB2 id;have hMd:=mod0 hM2 (Mq u2);refine⟨F0,dB.ldDK (k:=.sl) p.sb id rfl ?_⟩;have hlb:=hi1.lb;rw [hi1.bl.len];refine join1 (a:=Ki) (fun (lo:Int) v=>∃m:Nat,lo=(m:Int)∧m≤x.blocks.length∧m=lowC x.blocks k∧Mod F0 w v) ?_ ?_;rotate_left
 ·rintro lo v ⟨m,rfl,hm,e,hMv⟩;have a5:mxI (w64 ((m:Int)-1)) 0=((lowC x.blocks k-1:Nat):Int):=by
   rw [Wq (by omega) (by omega),←e];unfold mxI;split<;>omega
  rw [a5];exact hK v hMv
 intro k27 hk27;have stop:∀n,n≤x.blocks.length→(∀i,i<n→belowB x.blocks k i=true)→(n=x.blocks.length∨belowB x.blocks k n=false)→n=lowC x.blocks k:=fun n hn hb he=>
  (takeWhile_stop (fun b:BI=>decide (cmpN b.cut k<0)) x.blocks n ⟨0,0,0,[]⟩ hn hb he).symm
 refine loop2 (k1:=Ki) (k2:=Ki) (fun (lo hi:Int) v=>∃m n:Nat,lo=(m:Int)∧hi=(n:Int)∧m≤n∧n≤x.blocks.length∧(m=0∨belowB x.blocks k (m-1)=true)∧(n=x.blocks.length∨belowB x.blocks k n=false)∧Mod F0 u2 v) (fun lo hi _=>(hi-lo).toNat) (x1:=0) (x2:=(x.blocks.length:Int)) rfl rfl
  ⟨0,_,rfl,rfl,Nzl _,Nlr _,.inl rfl,.inl rfl,Mq u2⟩ ?_
 rintro lo hi v ⟨m,n,rfl,rfl,hmn,hn,hm,hnn,hMv⟩;refine Iq (fun q3=>?_) fun q3=>?_;rotate_left
 ·have q3:n≤m:=dge q3;have:m=n:=by omega
  subst this;refine hk27 _ _ ⟨m,rfl,hn,stop m hn (fun i hi=>?_) hnn,mod0 hM2 hMv⟩;rcases hm with h0 | h0
  ·omega
  ·exact hmono x hxm i (m-1) (by omega) (by omega) h0
 have q3:m<n:=dlt q3;have hBv:=hMv.blk hB2 id;refine hBv.ldK (k:=.sl) p.sb rfl ?_;have a1:w64 ((m:Int)+(n:Int))=((m+n:Nat):Int):=by rw [Wq (by omega) (by omega)];omega
 have a2:w64 (((m+n:Nat):Int).tdiv 2)=(((m+n)/2:Nat):Int):=by rw [show (2:Int)=((2:Nat):Int) from rfl,tdivN,w64N (by omega)]
 rw [a1,a2];have hmid:(m+n)/2<n:=by omega
 generalize hgd:(m+n)/2=d at *;obtain⟨y,hy⟩:=Gq (l:=x.blocks) (i:=d) (by omega);have hbv:belowB x.blocks k d=decide (cmpN y.cut k<0):=by unfold belowB;rw [Lgd,hy];rfl
 have hv:=(h.quiet (mod0 hM2 hMv)).each i p x hp hx;refine hv.bl.ix rfl rfl hy fun b o _ hc=>Lq (k:=.str) y.cut (hc 3 (by decide)) ?_;refine compare_ok (hcut x hxm y (Lmg hy)) (by omega) fun v2 M3=>?_;have hM3:=mod0 hMv M3;refine join2 (a:=Ki) (b:=Ki) (fun lo hi v'=>(∃m' n':Nat,lo=(m':Int)∧hi=(n':Int)∧m'≤n'∧n'≤x.blocks.length∧(m'=0∨belowB x.blocks k (m'-1)=true)∧(n'=x.blocks.length∨belowB x.blocks k n'=false)∧n'-m'<n-m)∧v'=v2) ?_ ?_
 ·intro k38 hk38;have a4:w64 ((d:Int)+1)=((d+1:Nat):Int):=by rw [Wq (by omega) (by omega)];omega
  rw [a4];refine Iq (fun q4=>hk38 _ _ _ ⟨⟨d+1,n,rfl,rfl,by omega,hn,.inr (by rw [Nat.add_sub_cancel,hbv];exact q4),hnn,by omega⟩,rfl⟩) fun q4=>hk38 _ _ _ ⟨⟨m,d,rfl,rfl,by omega,by omega,hm,.inr (by rw [hbv];exact q4),by omega⟩,rfl⟩
 rintro lo hi v' ⟨⟨m',n',rfl,rfl,h1,h2,h3',h4',h5⟩,rfl⟩;exact⟨⟨m',n',rfl,rfl,h1,h2,h3',h4',hM3⟩,by omega⟩
set_option maxRecDepth 100000
def S_sync_Mutex_Unlock(m1:PA)(K:Wp)(w:World):Prop:=
 dr m1 fun b2 o3=>
 callK Pg 52 [Ap (some (b2,o3))] w (.tup []) fun W4=>
 K W4
def N_sync_Mutex_Unlock:Ann:=.nil
theorem is_sync_Mutex_Unlock(m1:PA)(K:Wp)(w:World):WF Pg CS Tryz.f23 N_sync_Mutex_Unlock (.tup []) [Ap m1] K w=S_sync_Mutex_Unlock m1 K w:=by kernel_rfl
theorem go_87(K:PA→Wp)(w:World)(h:opF Pg (vS (Instr.makeMap 58 none)) w (.one (.leaf (.map))) fun m2 W1=>al W1 62 [.int .i32 0,.int .u32 0,.map m2,.int .i64 0,.int .i64 0,.int .i64 0] fun b3 W4=>K (some (b3,0)) W4):callK Pg 20 [] w Oq K:=Fq (n:=.nil) CS_ok mixed Tryz.func20 (Eq.mpr (by kernel_rfl) h)
theorem go_88(s1:PA)(name2:List UInt8)(K:Int→Wp)(w:World)(h:ifK s1.isNone (K 1 w) (dr s1 fun b3 o4=>callK Pg 22 [Ap (some (b3,o4))] w (.tup []) fun W5=>dr s1 fun b6 o7=>callK Pg 24 [Ap s1,Au name2] W5 (.tup [Lp,Li]) fun p8 n9 W10=>ifK (n9==0) (callsK Pg [(23,[Ap (some (b6,o7))],[])] W10 fun W11=>K 51 W11) (ifK (n9==52) (dr s1 fun b12 o13=>ld W10 .map b12 (o13+2) fun m14=>al W10 67 [.sl (⟨none,0,0⟩),.lit false,.lit false,.int .i64 0,.lit false] fun b15 W16=>opU Pg (uS (Instr.mapUpdate 58 (LV.toV (.map m14)) (LV.toV (.str name2)) (LV.toV (.ptr (some (b15,0)))))) W16 fun W17=>callsK Pg [(23,[Ap (some (b6,o7))],[])] W17 fun W18=>K 0 W18) (callsK Pg [(23,[Ap (some (b6,o7))],[])] W10 fun W19=>K n9 W19)))):callK Pg 5 [Ap s1,Au name2] w Oi K:=Fq (n:=.nil) CS_ok mixed Tryz.func5 (Eq.mpr (by kernel_rfl) h)
theorem go_90(s1:PA)(name2:List UInt8)(b3:Sl)(K:Int→Wp)(w:World)(h:ifK s1.isNone (K 1 w) (dr s1 fun b4 o5=>callK Pg 22 [Ap (some (b4,o5))] w (.tup []) fun W6=>dr s1 fun b7 o8=>callK Pg 26 [Ap s1,Au name2] W6 (.tup [Lp,Li]) fun p9 n10 W11=>ifK (n10 != 0) (callsK Pg [(23,[Ap (some (b7,o8))],[])] W11 fun W12=>K n10 W12) (dr p9 fun b13 o14=>ld W11 .sl b13 o14 fun a15=>ifK (decide (268435456<w64 ((a15.len:Int)+(b3.len:Int)))) (callsK Pg [(23,[Ap (some (b7,o8))],[])] W11 fun W16=>K 57 W16) (joinK [.bool] (fun k17=>drawK W11 fun D W18=>dr p9 fun b19 o20=>ldD D W18 .bool b19 (o20+2) fun c21=>ifK c21 (dr p9 fun b22 o23=>ldD D W18 .sl b22 o23 fun a24=>dr p9 fun b25 o26=>ldD D W18 Ki b25 (o26+3) fun n27=>k17 (decide (n27<w64 ((a24.len:Int)+(b3.len:Int)))) W18) (k17 false W18)) fun t5528 W29=>ifK t5528 (drawK W29 fun D W30=>dr p9 fun b31 o32=>ldD D W30 Ki b31 (o32+3) fun n33=>dr p9 fun b34 o35=>ldD D W30 .sl b34 o35 fun a36=>drawK W30 fun D W37=>dr p9 fun b38 o39=>ldD D W37 .sl b38 o39 fun a40=>slx b3 1 none (some (mxI (w64 (n33-(a36.len:Int))) 0)) none fun s41=>ap W37 5 1 1 [.int .u8 0] a40 s41 fun a42 W43=>Mod D W37 W43∧dr p9 fun b44 o45=>st W43 b44 o45 [.sl a42] fun W46=>dr p9 fun b47 o48=>st W46 b47 (o48+4) [.lit true] fun W49=>callsK Pg [(23,[Ap (some (b7,o8))],[])] W49 fun W50=>K 55 W50) (dr p9 fun b51 o52=>ld W29 .sl b51 o52 fun a53=>ap W29 5 1 1 [.int .u8 0] a53 b3 fun a54 W55=>dr p9 fun b56 o57=>st W55 b56 o57 [.sl a54] fun W58=>callsK Pg [(23,[Ap (some (b7,o8))],[])] W58 fun W59=>K 0 W59))))):callK Pg 7 [Ap s1,Au name2,Az b3] w Oi K:=Fq (n:=(n0 .nil (n0 .nil (n0 .nil (n0 .nil (n0 .nil (n0 .nil (n0 .nil (n0 (n0 (.mk (some [.tmp 55 Lb]) [] [2,7] (tk [0,1,2,3,4] (.split 4 (.take 5 (.take 6 (.take 7 (.take 8 (.take 9 (.take 10 (.take 11 (.take 12 (.take 13 (.take 14 (.take 15 (.take 16 (.take 17 (.take 18 .done)))))))))))))) (.take 5 (.take 6 (.take 7 (.take 8 (.take 9 (.take 10 (.take 11 (.take 12 (.take 13 (.take 14 (.take 15 (.take 16 (.take 17 (.take 18 .done)))))))))))))))) .nil .nil) (n0 (n0 (.mk none [] [] (tk [0,1,2,3,4,5,6,7,8,9,10,11] .done) .nil .nil) (n0 (.mk none [] [] (tk [0,1,2,3,4,5,6,7] (.eff 8 (.take 9 (.take 10 (.last 11))))) .nil .nil) .nil)) .nil)) .nil))))))))) CS_ok mixed Tryz.func7 (Eq.mpr (by kernel_rfl) h)
theorem go_91(s1:PA)(name2:List UInt8)(K:Int→Wp)(w:World)(h:ifK s1.isNone (K 1 w) (dr s1 fun b3 o4=>callK Pg 22 [Ap (some (b3,o4))] w (.tup []) fun W5=>dr s1 fun b6 o7=>callK Pg 26 [Ap s1,Au name2] W5 (.tup [Lp,Li]) fun p8 n9 W10=>ifK (n9 != 0) (callsK Pg [(23,[Ap (some (b6,o7))],[])] W10 fun W11=>K n9 W11) (dr p8 fun b12 o13=>ld W10 .bool b12 (o13+2) fun c14=>ifK c14 (dr p8 fun b15 o16=>st W10 b15 (o16+4) [.lit true] fun W17=>callsK Pg [(23,[Ap (some (b6,o7))],[])] W17 fun W18=>K 55 W18) (dr p8 fun b19 o20=>st W10 b19 (o20+1) [.lit true] fun W21=>callsK Pg [(23,[Ap (some (b6,o7))],[])] W21 fun W22=>K 0 W22)))):callK Pg 9 [Ap s1,Au name2] w Oi K:=Fq (n:=.nil) CS_ok mixed Tryz.func9 (Eq.mpr (by kernel_rfl) h)
theorem go_80(s1:PA)(name2:List UInt8)(K:Int→Int→Wp)(w:World)(h:ifK s1.isNone (K 0 1 w) (dr s1 fun b3 o4=>callK Pg 22 [Ap (some (b3,o4))] w (.tup []) fun W5=>dr s1 fun b6 o7=>callK Pg 56 [Ap s1,Au name2] W5 (.tup [Lp,Li]) fun p8 n9 W10=>ifK (n9 != 0) (callsK Pg [(23,[Ap (some (b6,o7))],[])] W10 fun W11=>K 0 n9 W11) (dr p8 fun b12 o13=>ld W10 .sl b12 o13 fun a14=>callsK Pg [(23,[Ap (some (b6,o7))],[])] W10 fun W15=>K (a14.len:Int) 0 W15))):callK Pg 28 [Ap s1,Au name2] w (.tup [Li,Li]) K:=Fq (n:=.nil) CS_ok mixed Tryz.func28 (Eq.mpr (by kernel_rfl) h)
theorem go_79(s1:PA)(name2:List UInt8)(at_3:Int)(n4:Int)(K:Sl→Int→Wp)(w:World)(h:ifK s1.isNone (K (⟨none,0,0⟩) 1 w) (dr s1 fun b5 o6=>callK Pg 22 [Ap (some (b5,o6))] w (.tup []) fun W7=>dr s1 fun b8 o9=>callK Pg 53 [Au name2] W7 Ob fun c10 W11=>ifK (!c10) (callsK Pg [(23,[Ap (some (b8,o9))],[])] W11 fun W12=>K (⟨none,0,0⟩) 50 W12) (ifK (decide (n4<0)) (callsK Pg [(23,[Ap (some (b8,o9))],[])] W11 fun W13=>K (⟨none,0,0⟩) 3 W13) (callK Pg 56 [Ap s1,Au name2] W11 (.tup [Lp,Li]) fun p14 n15 W16=>ifK (n15 != 0) (callsK Pg [(23,[Ap (some (b8,o9))],[])] W16 fun W17=>K (⟨none,0,0⟩) n15 W17) (joinK [.bool] (fun k18=>ifK (decide (at_3<0)) (k18 true W16) (dr p14 fun b19 o20=>ld W16 .sl b19 o20 fun a21=>k18 (decide ((a21.len:Int)<at_3)) W16)) fun t4622 W23=>ifK t4622 (callsK Pg [(23,[Ap (some (b8,o9))],[])] W23 fun W24=>K (⟨none,0,0⟩) 56 W24) (dr p14 fun b25 o26=>ld W23 .sl b25 o26 fun a27=>slx a27 1 (some at_3) none none fun s28=>dr s1 fun b29 o30=>ld W23 Ki b29 (o30+3) fun n31=>dr s1 fun b32 o33=>st W23 b32 (o33+3) [.int .i64 (w64 (n31+1))] fun W34=>dr s1 fun b35 o36=>ld W34 Ki b35 (o36+3+1) fun n37=>dr s1 fun b38 o39=>st W34 b38 (o39+3+1) [.int .i64 (w64 (n37+(mnI n4 (s28.len:Int))))] fun W40=>dr s1 fun b41 o42=>ld W40 Ki b41 (o42+3+2) fun n43=>dr s1 fun b44 o45=>st W40 b44 (o45+3+2) [.int .i64 (mxI n43 (mnI n4 (s28.len:Int)))] fun W46=>slx s28 1 none (some (mnI n4 (s28.len:Int))) (some (mnI n4 (s28.len:Int))) fun s47=>callK Pg 94 [Az s47] W46 Oz fun a48 W49=>callsK Pg [(23,[Ap (some (b8,o9))],[])] W49 fun W50=>K a48 0 W50)))))):callK Pg 60 [Ap s1,Au name2,Ai at_3,Ai n4] w (.tup [Ls,Li]) K:=Fq (n:=(n0 .nil (n0 .nil (n0 .nil (n0 .nil (n0 .nil (n0 .nil (n0 .nil (n0 .nil (n0 (n0 (.mk (some [.tmp 46 Lb]) [] [0,2,3,10] .done .nil .nil) .nil) .nil)))))))))) CS_ok mixed Tryz.func60 (Eq.mpr (by kernel_rfl) h)
theorem go_84(s1:PA)(name2:List UInt8)(K:PA→Int→Wp)(w:World)(h:callK Pg 53 [Au name2] w Ob fun c3 W4=>ifK (!c3) (K none 50 W4) (dr s1 fun b5 o6=>ld W4 .map b5 (o6+2) fun m7=>opF Pg (vS (Instr.lookup 58 (LV.toV (.map m7)) (LV.toV (.str name2)) true)) W4 (.tup [Lp,Lb]) fun p9 c10 W8=>ifK (!c10) (K none 52 W8) (K p9 0 W8))):callK Pg 24 [Ap s1,Au name2] w (.tup [Lp,Li]) K:=Fq (n:=.nil) CS_ok mixed Tryz.func24 (Eq.mpr (by kernel_rfl) h)
theorem go_85(s1:PA)(name2:List UInt8)(K:PA→Int→Wp)(w:World)(h:callK Pg 24 [Ap s1,Au name2] w (.tup [Lp,Li]) fun p3 n4 W5=>ifK (n4 != 0) (K none n4 W5) (dr p3 fun b6 o7=>ld W5 .bool b6 (o7+1) fun c8=>ifK c8 (K none 54 W5) (dr p3 fun b9 o10=>ld W5 .bool b9 (o10+4) fun c11=>ifK c11 (K none 55 W5) (K p3 0 W5)))):callK Pg 26 [Ap s1,Au name2] w (.tup [Lp,Li]) K:=Fq (n:=.nil) CS_ok mixed Tryz.func26 (Eq.mpr (by kernel_rfl) h)
theorem go_86(s1:PA)(name2:List UInt8)(K:PA→Int→Wp)(w:World)(h:callK Pg 24 [Ap s1,Au name2] w (.tup [Lp,Li]) fun p3 n4 W5=>ifK (n4 != 0) (K none n4 W5) (dr p3 fun b6 o7=>ld W5 .bool b6 (o7+1) fun c8=>ifK (!c8) (K none 53 W5) (K p3 0 W5))):callK Pg 56 [Ap s1,Au name2] w (.tup [Lp,Li]) K:=Fq (n:=.nil) CS_ok mixed Tryz.func56 (Eq.mpr (by kernel_rfl) h)
theorem go_83(name1:List UInt8)(K:Bool→Wp)(w:World)(h:joinK [.bool] (fun k2=>ifK (decide ((name1.length:Int)<1)) (k2 true w) (k2 (decide (40<(name1.length:Int))) w)) fun t123 W4=>ifK t123 (K false W4) (joinK [] (fun k5=>loopL [Ki] (fun t157 W8 g6=>ifK (decide (t157<(name1.length:Int))) (sx name1 t157 fun c9=>joinK [.bool] (fun k10=>ifK (decide (c9<97)) (ifK (decide (c9<48)) (ifK (c9 != 46) (k10 (c9 != 45) W8) (k10 false W8)) (ifK (decide (57<c9)) (ifK (c9 != 46) (k10 (c9 != 45) W8) (k10 false W8)) (k10 false W8))) (ifK (decide (122<c9)) (ifK (decide (c9<48)) (ifK (c9 != 46) (k10 (c9 != 45) W8) (k10 false W8)) (ifK (decide (57<c9)) (ifK (c9 != 46) (k10 (c9 != 45) W8) (k10 false W8)) (k10 false W8))) (k10 false W8))) fun t4211 W12=>ifK t4211 (K false W12) (g6 (w64 (t157+1)) W12)) (k5 W8)) [.int .i64 0] W4) fun W13=>K true W13)):callK Pg 53 [Au name1] w Ob K:=Fq (n:=(n0 .nil (n0 (n0 (.mk (some [.tmp 12 Lb]) [] [0] .done .nil .nil) .nil) (n0 (n0 .nil (.mk (some []) [] [] .done (.mk none [.tmp 15 Li] [0,14] .done (n0 .nil (n0 .nil (n0 (n0 (n0 .nil (n0 .nil (n0 (.mk (some [.tmp 42 Lb]) [] [0,14,15] .done .nil .nil) .nil))) .nil) .nil))) .nil) .nil)) .nil)))) CS_ok mixed Tryz.func53 (Eq.mpr (by kernel_rfl) h)
theorem go_89(s1:Sl)(K:Sl→Wp)(w:World)(h:ifK s1.p.isNone (K (⟨none,0,0⟩) w) (al w 5 [] fun b2 W3=>ap W3 5 1 1 [.int .u8 0] (⟨some (b2,0),0,0⟩) s1 fun a4 W5=>K a4 W5)):callK Pg 94 [Az s1] w Oz K:=Fq (n:=.nil) CS_ok mixed Tryz.func94 (Eq.mpr (by kernel_rfl) h)
end Go.Proofs.YtkofkhjcfjoceaaGreat
