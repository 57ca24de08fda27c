/- Part T07. -/
import Derived.Test.YtoegpmjoajipcaaGreatDoorT06
import Derived.Lib.ConvBytes
import Derived.Test.YtoegpmjoajipcaaGreatDoorT05
import Derived.Test.YtoegpmjoajipcaaGreatDoorT03
import Derived.Test.YtoegpmjoajipcaaGreatDoorT04
namespace Go.Proofs.YtoegpmjoajipcaaGreatDoor
open Go.Vw
theorem text_b(c:Cu)(m:Int):(c.text m).2.b=c.b:=by
 unfold Cu.text;split
 ·rfl
 ·exact Cu.go_55 c _ _
theorem text_le(c:Cu)(m:Int):(c.text m).1.length≤m.toNat:=by
 unfold Cu.text;split
 ·exact Nzl _
 ·dsimp only;split
  ·rename_i h;unfold textE at h;unfold textV;dsimp only at h;split at h
   ·rename_i h1;exact absurd h h1
   split at h
   ·cases h
   rw [Llt];omega
  ·exact Nzl _
section
variable {w u u':World}{bc:Nat}{sC:Sl}{m:BL}{c:Cu}
theorem CuF.alst(h:CuF w u bc sC m c){e:TypeId}{cs vs:List LV}(hl:vs.length=cs.length){K:Nat→Wp}(hK:∀b u',CuF w u' bc sC (m++[(b,vs.map LV.toV)]) c→K b u') :
  Go.Vw.al u e cs fun b u1=>Go.Vw.st u1 b 0 vs fun u2=>K b u2:=
 h.f.alst hl fun b u' hF _ hM=>hK b u' (h.new hF (hM.mono fun _ _ h=>h.elim))
theorem CuF.stK(h:CuF w u bc sC m c)(i:Nat){b o:Nat}{x:List Value}{vs:List LV}{K:Wp}(hi:m[i]? = some (b,x))(hl:o+vs.length≤x.length)
  (hK:∀u',CuF w u' bc sC (m.set i (b,spl x o (vs.map LV.toV))) c→K u'):Go.Vw.st u b o vs K:=
 h.f.stK i hi hl fun u' hF hM=>hK u' (h.new hF (hM.mono fun z _ e=>by have:=h.f.new (b,x) (Lmg hi);have e:z=b:=e;subst e;exact this))
theorem CuF.push{ro:BL}{α:Type}{E:Enc α}{s:Sl}{l:List α}(h:CuF w u bc sC (m++ro) c)(hv:VecL ro E s l)(y:α){e e2:TypeId}{n bytes:Nat}{zs cs:List LV}(hc:cs.map LV.toV=E.f y)(hn:n=E.n)(hz:zs.length=E.n)(hlim:(l.length+1025)*(bytes+1)≤2^46)
  {K:Sl→Wp} (hK:∀s' ro' u',CuF w u' bc sC (m++ro') c→VecL ro' E s' (l++[y])→K s' u'):Go.Vw.al u e cs fun b u'=>ap u' e2 n bytes zs s ⟨some (b,0),1,1⟩ K:=
 h.f.push hv y hc hn hz hlim fun s' ro' u' hF hv' hM=>hK s' ro' u' (h.new hF hM) hv'
theorem CuF.perm{m':BL}(h:CuF w u bc sC m c)(hp:m'.Perm m):CuF w u bc sC m' c:=⟨h.f.perm hp,h.cur,h.lt,h.rd⟩
theorem CuF.blk(h:CuF w u bc sC m c){i b:Nat}{x:List Value}(hi:m[i]? = some (b,x)):Blk u b x:=h.f.blk hi
end
def blk1(key:Str)(c:Cu):BI×Cu:=
 let a:=c.num 65536
 let b:=a.2.num 65536
 let d:=b.2.num 65536
 let e:=d.2.num key.length
 let t:=e.2.text 64
 (⟨a.1,b.1,d.1,key.take e.1.toNat++t.1⟩,t.2)
def blksRun:Nat→List BI→Str→Cu→List BI×Cu
 | 0,l,_,c=>(l,c)
 | k+1,l,key,c=>if c.rest=0 then (l,c) else blksRun k (l++[(blk1 key c).1]) (blk1 key c).1.cut (blk1 key c).2
def blksN(c:Cu):List BI×Cu:=blksRun (c.num 262144).1.toNat [] [] (c.num 262144).2
theorem blksRun_len:∀(k:Nat) (l:List BI) (key:Str) (c:Cu),(blksRun k l key c).1.length≤l.length+k
 | 0,l,_,c=>Nlr _
 | k+1,l,key,c=>by
  rw [blksRun];split
  ·exact Nat.le_add_right _ _
  ·have:=blksRun_len k (l++[(blk1 key c).1]) (blk1 key c).1.cut (blk1 key c).2;rw [Lla,List.length_singleton] at this;omega
theorem blk1_b(key:Str)(c:Cu):(blk1 key c).2.b=c.b:=by
 unfold blk1;dsimp only;rw [text_b,num_b,num_b,num_b,num_b]
theorem blksRun_b:∀(k:Nat) (l:List BI) (key:Str) (c:Cu),(blksRun k l key c).2.b=c.b
 | 0,l,_,c=>rfl
 | k+1,l,key,c=>by
  rw [blksRun];split
  ·rfl
  ·rw [blksRun_b,blk1_b]
theorem blksN_b(c:Cu):(blksN c).2.b=c.b:=by unfold blksN;rw [blksRun_b,num_b]
theorem blksN_len(c:Cu):(blksN c).1.length≤262144:=by
 have h:=num_range c 262144;have h2:=h.2 (by decide);have:=blksRun_len (c.num 262144).1.toNat [] [] (c.num 262144).2;unfold blksN;simp only [List.length_nil] at this;omega
set_option maxHeartbeats 1000000 in
theorem blocks_ok{w:World}{bc:Nat}{sC:Sl}{c:Cu}(hc:CurAt w bc sC c){K:Sl→Wp}
  (hK:∀w' ro s',VecL ro EBI s' (blksN c).1→CuF w w' bc sC ro (blksN c).2→K s' w') :
  callK Pg c_99 [Ap (some (bc,0))] w Oz K:=by
 refine go_99 _ _ _ ?_;refine num_ok hc fun w1 c1 M1=>?_;have h1:=(CuF.start hc).upd c1 (num_b _ _) (Fresh.none M1);rw [Lan] at h1;have hr:=num_range c 262144;have hr2:=hr.2 (by decide);unfold blksN at hK;generalize c.num 262144=n at hK c1 h1 hr hr2;obtain⟨n,c'⟩:=n;dsimp only at hK c1 h1 hr hr2 ⊢;obtain⟨N,rfl⟩:∃N:Nat,n=(N:Int):=⟨n.toNat,by omega⟩;rw [Itn] at hK;refine join1 (a:=.sl) (fun s' u=>∃ro,VecL ro EBI s' (blksRun N [] [] c').1∧CuF w u bc sC ro (blksRun N [] [] c').2) ?_ (by rintro s' u ⟨ro,v,h⟩;exact hK u ro s' v h);intro k4 hk4;refine loop3 (k1:=.sl) (k2:=.str) (k3:=Ki) (fun (s:Sl) (key:Str) (n:Int) u=>∃(k:Nat) (ro:BL) (l:List BI) (c2:Cu),n=(k:Int)∧k≤N∧key.length+64*k≤64*N∧l.length+k=N∧VecL ro EBI s l∧CuF w u bc sC ro c2∧blksRun k l key c2=blksRun N [] [] c') (fun _ _ n _=>n.toNat) (x1:=⟨none,0,0⟩) (x2:=[]) (x3:=(N:Int)) rfl rfl rfl
  ⟨N,[],[],c',rfl,Nlr _,by simp,by simp,VecL.nil EBI,h1,rfl⟩ ?_
 rintro s key n u ⟨k,ro,l,c2,rfl,hkN,hkey,hlk,v,h,hrun⟩;change Str at key;refine join1 (a:=.bool) (fun q u'=>q=decide (k≠0∧c2.rest≠0)∧CuF w u' bc sC ro c2) ?_ ?_
 ·intro k10 hk10;refine Iq (fun q=>?_) fun q=>?_
  ·have q:(0:Int)<(k:Int):=odt q;refine rest_ok h.cur fun u1 _ M=>hk10 _ _ ⟨?_,h.quiet M⟩;show decide ((0:Int)<(c2.rest:Int))=_;rw [Bei,Det,Det];omega
  ·have q:¬(0:Int)<(k:Int):=odf q;exact hk10 _ _ ⟨(Dcf fun e=>by omega).symm,h⟩
 rintro q u' ⟨rfl,h⟩;refine Iq (fun q=>?_) fun q=>?_;rotate_left
 ·have q:¬(k≠0∧c2.rest≠0):=odf q;refine hk4 _ _ ⟨ro,?_⟩;have e:blksRun k l key c2=(l,c2):=by
   cases k with
   | zero=>rfl
   | succ k=>rw [blksRun,if_pos (by omega)]
  rw [←hrun,e];exact⟨v,h⟩
 have q:k≠0∧c2.rest≠0:=odt q;obtain⟨k,rfl⟩:∃j,k=j+1:=⟨k-1,by omega⟩;rw [blksRun,if_neg q.2] at hrun;unfold blk1 at hrun;dsimp only at hrun;refine num_ok h.cur fun u1 g1 M1=>?_;have h:=h.upd g1 (num_b _ _) (Fresh.none M1);generalize c2.num 65536=a at hrun g1 h;refine num_ok h.cur fun u2 g2 M2=>?_;have h:=h.upd g2 (num_b _ _) (Fresh.none M2);generalize a.2.num 65536=b at hrun g2 h;refine num_ok h.cur fun u3 g3 M3=>?_;have h:=h.upd g3 (num_b _ _) (Fresh.none M3);generalize b.2.num 65536=d at hrun g3 h;simp only [Lan] at h;refine h.alst (by rfl) fun b21 u4 h=>?_;refine num_ok h.cur fun u5 g5 M5=>?_;have h:=h.upd g5 (num_b _ _) (Fresh.none M5);have her:=num_range d.2 (key.length:Int);generalize d.2.num (key.length:Int)=e at hrun g5 h her;refine text_ok h.cur fun u6 g6 M6=>?_;have h:=h.upd g6 (text_b _ _) (Fresh.none M6);have htl:=text_le e.2 64;generalize e.2.text 64=t at hrun g6 h htl;simp only [Lan] at h;have htl:t.1.length≤64:=htl;have he2:=her.2 (Int.natCast_nonneg _);obtain⟨E,hE⟩:∃E:Nat,e.1=(E:Int):=⟨e.1.toNat,by omega⟩;rw [hE] at hrun he2 ⊢;simp only [Itn] at hrun;refine ssx_take (by omega:E≤key.length) rfl ⟨by rw [Llt];omega,?_⟩;have hcl:(key.take E++t.1).length≤key.length+64:=by rw [Lla,Llt];omega
 have h:CuF w u6 bc sC ([(b21,EBI.f ⟨a.1,b.1,d.1,[]⟩)]++ro) t.2:=h.perm Lpc;generalize key.take E++t.1=cut at hrun hcl ⊢;refine h.stK 0 rfl (by decide:3+1≤4) fun u7 h=>?_;have h:CuF w u7 bc sC ([(b21,EBI.f ⟨a.1,b.1,d.1,cut⟩)]++ro) t.2:=h;have hB:=h.blk (i:=0) rfl;refine hB.ldK (k:=.str) cut rfl (hB.ldK (k:=Ki) a.1 rfl (hB.ldK (k:=Ki) b.1 rfl (hB.ldK (k:=Ki) d.1 rfl (hB.ldK (k:=.str) cut rfl ?_))));refine h.push v ⟨a.1,b.1,d.1,cut⟩ rfl rfl rfl (by omega) fun s' ro' u8 h' v'=>?_;have es:w64 (((k+1:Nat):Int)-1)=(k:Int):=by rw [Wq (by omega) (by omega)];omega
 rw [es];exact⟨⟨k,ro',l++[⟨a.1,b.1,d.1,cut⟩],t.2,rfl,by omega,by omega,by rw [Lla,List.length_singleton];omega,v',h'.sub (Lsr _ _),hrun⟩,by omega⟩
end Go.Proofs.YtoegpmjoajipcaaGreatDoor
namespace Go.Proofs.YtoegpmjoajipcaaGreatDoor
open Go.Vw
open Go
theorem convS{w:World}{t:Str}{K:Sl→Wp}(hK:∀s' w',RdS w' ET s' t→Mod F0 w w'→K s' w') :
  opF Pg (vS (convert 9 t_bytes (LV.toV (.str t)))) w Oz K:=by
 have hrun:=Go.Lib.run_convert_string_bytes (P:=Pg) w 9 t_bytes 5 ⟨t.toArray⟩ Tryz.underlying9 u_bytes Tryz.underlying5;have hsz:(⟨t.toArray⟩:ByteArray).size=t.length:=by simp [ByteArray.size]
 have hcap:t.length≤grownCap w t.length 0 5:=by simp [grownCap,Question.cut]
 rw [hsz] at hrun;have ev:(LV.sl ⟨some (w.heap.size,0),t.length,grownCap w t.length 0 5⟩).toV=Value.slice (some ⟨w.heap.size,0,none⟩) t.length (grownCap w t.length 0 5):=by simp only [LV.toV];rw [slA_zero]
 by_cases h0:grownCap w t.length 0 5=0
 ·have ht:t=[]:=List.eq_nil_of_length_eq_zero (by omega);refine⟨[.sl ⟨some (w.heap.size,0),t.length,grownCap w t.length 0 5⟩],Go.Lib.bytesWorld w 5 ⟨t.toArray⟩,?_,hK _ _ ⟨rfl,.inl (by subst ht;rfl),hcap⟩ ?_⟩
  ·unfold vS;simp only [Sem.run_bind];show ((convert 9 t_bytes (.string ⟨t.toArray⟩)).run Pg w).andThen _=_;rw [hrun];simp only [Result.andThen_ok,Sem.run_pure];show _=Result.ok (Next.value (LV.sl ⟨some (w.heap.size,0),t.length,grownCap w t.length 0 5⟩).toV) _;rw [ev]
  ·exact⟨rfl,rfl,rfl,by rw [Go.Lib.bytesWorld_size];omega,fun k hk _=>Go.Lib.bytesWorld_at_old _ _ _ _ hk⟩
 ·refine⟨[.sl ⟨some (w.heap.size,0),t.length,grownCap w t.length 0 5⟩],Go.Lib.bytesWorld w 5 ⟨t.toArray⟩,?_,hK _ _ ⟨rfl,.inr ⟨w.heap.size,0,rfl,fun i hi=>?_⟩,hcap⟩ ?_⟩
  ·unfold vS;simp only [Sem.run_bind];show ((convert 9 t_bytes (.string ⟨t.toArray⟩)).run Pg w).andThen _=_;rw [hrun];simp only [Result.andThen_ok,Sem.run_pure];show _=Result.ok (Next.value (LV.sl ⟨some (w.heap.size,0),t.length,grownCap w t.length 0 5⟩).toV) _;rw [ev]
  ·have hi':i<t.length:=by rw [Enc.cells_length] at hi;simpa [ET] using hi
   rw [Nat.zero_add,Go.Lib.bytesWorld_cell w 5 ⟨t.toArray⟩ i (by rw [hsz];exact hi'),←strCells_et];simp [Go.Lib.strCells,List.getD,hi']
  ·exact⟨rfl,rfl,rfl,by rw [Go.Lib.bytesWorld_size];omega,fun k hk _=>Go.Lib.bytesWorld_at_old _ _ _ _ hk⟩
theorem filtD_len(b:Str):(filtD b).1.data.length≤4096:=by
 unfold filtD;dsimp only;have h1:=num_range ((Cu.mk b 0 0).fixed 1).2 4096;have h2:=h1.2 (by decide);have h3:=take_le (((Cu.mk b 0 0).fixed 1).2.num 4096).2 (((Cu.mk b 0 0).fixed 1).2.num 4096).1;split
 ·split<;>exact Nzl _
 split
 ·split<;>exact Nzl _
 split
 ·exact Nzl _
 split
 ·exact Nzl _
 ·show ((((Cu.mk b 0 0).fixed 1).2.num 4096).2.take (((Cu.mk b 0 0).fixed 1).2.num 4096).1).1.length≤_;omega
def part1(last:Int)(c:Cu):PartI×Cu:=
 let a:=c.num 65535
 let t:=a.2.text 4112
 let b:=blksN (t.2.fail (filtD t.1).2)
 (⟨last+1+a.1,b.1,(filtD t.1).1⟩,b.2)
def partsRun:Nat→List PartI→Int→Cu→List PartI×Cu
 | 0,l,_,c=>(l,c)
 | k+1,l,last,c=>if c.rest=0 then (l,c) else partsRun k (l++[(part1 last c).1]) (part1 last c).1.part (part1 last c).2
def readF(t:Str):Int×List PartI×Cu:=
 let p:=(Cu.mk t 0 0).num 65535
 let n:=p.2.num 65535
 (p.1,partsRun n.1.toNat [] (-1) n.2)
def okF(P:Int)(l:List PartI)(c:Cu)(t:Str):Bool:=decide (c.done.1=0)&&(chkF P l&&decide (bodyN P l=t))
def parseF(t:Str):Bool:=okF (readF t).1 (readF t).2.1 (readF t).2.2 t
def OwnL{α:Type}(R:BL)(E:Enc α)(s:Sl)(l:List α):Prop:=∃r,VecL r E s l∧∀q∈r,q∈R
theorem OwnL.mono{α:Type}{R R':BL}{E:Enc α}{s:Sl}{l:List α}(h:OwnL R E s l)(hs:∀q∈R,q∈R'):OwnL R' E s l:=let ⟨r,h1,h2⟩:=h;⟨r,h1,fun q hq=>hs q (h2 q hq)⟩
theorem OwnL.rd{α:Type}{R:BL}{E:Enc α}{s:Sl}{l:List α}(h:OwnL R E s l){w:World}(hb:∀p∈R,Blk w p.1 p.2):RdS w E s l:=let ⟨_,h1,h2⟩:=h;h1.rd fun p hp=>hb p (h2 p hp)
theorem OwnL.key{α:Type}{R:BL}{E:Enc α}{s:Sl}{l:List α}(h:OwnL R E s l){b:Nat}(hb:rk s b):Ks R b:=let ⟨_,h1,h2⟩:=h;let ⟨q,hq,e⟩:=h1.key hb.2;⟨q,h2 q hq,e⟩
theorem OwnL.of{α:Type}{R:BL}{E:Enc α}{s:Sl}{l:List α}(h:VecL R E s l):OwnL R E s l:=⟨R,h,fun _ h=>h⟩
structure InfoL(R:BL)(p:PI)(x:PartI):Prop where
 part:p.part=x.part
 bl:OwnL R EBI p.sb x.blocks
 all:p.all=x.flt.all
 hs:p.hashes=x.flt.hashes
 dt:OwnL R ET p.sd x.flt.data
 lb:x.blocks.length≤262144
 ld:x.flt.data.length≤4096
theorem InfoL.mono{R R':BL}{p:PI}{x:PartI}(h:InfoL R p x)(hs:∀q∈R,q∈R'):InfoL R' p x:=⟨h.part,h.bl.mono hs,h.all,h.hs,h.dt.mono hs,h.lb,h.ld⟩
structure FootL(R:BL)(s:Sl)(ps:List PI)(l:List PartI):Prop where
 row:OwnL R EPI s ps
 len:ps.length=l.length
 each:∀(i:Nat) p x,ps[i]? = some p→l[i]? = some x→InfoL R p x
 ll:l.length≤65535
theorem FootL.foot{R:BL}{s:Sl}{ps:List PI}{l:List PartI}(h:FootL R s ps l){w:World}(hb:∀p∈R,Blk w p.1 p.2):FootR w (Ks R) s ps l:=by
 refine⟨h.row.rd hb,h.len,fun i p x hp hx=>?_,fun b hk=>h.row.key hk,fun p hp b hk=>?_,by have:=h.ll;omega⟩
 ·have:=h.each i p x hp hx;exact⟨this.part,this.bl.rd hb,this.all,this.hs,this.dt.rd hb,by have:=this.lb;omega,by have:=this.ld;omega⟩
 ·obtain⟨i,hi⟩:=List.mem_iff_getElem?.1 hp;obtain⟨x,hx⟩:=Gq (l:=l) (i:=i) (by rw [←h.len];exact (Les.1 hi).1);have:=h.each i p x hi hx;rcases hk with hk | hk
  ·exact this.bl.key hk
  ·exact this.dt.key hk
section
variable {w u u':World}{bc:Nat}{sC:Sl}{m:BL}{c:Cu}
theorem CuG.more(h:CuG w u bc sC m c){ro:BL}(hF:Fresh u u' F0 ro):CuG w u' bc sC (m++ro) c:=h.upd (h.cur.quiet hF.mod) (hF.weaken fun _ _ h=>h.elim)
theorem CuG.alst(h:CuG w u bc sC m c){e:TypeId}{cs vs:List LV}(hl:vs.length=cs.length){K:Nat→Wp}(hK:∀b u',CuG w u' bc sC (m++[(b,vs.map LV.toV)]) c→K b u') :
  Go.Vw.al u e cs fun b u1=>Go.Vw.st u1 b 0 vs fun u2=>K b u2:=
 h.f.alst hl fun b u' hF hb hM=>hK b u' (h.to hF hM (fun _ h=>h.elim) fun p hp=>by
  rcases Lma.1 hp with hp | hp
  ·exact .inl ⟨p,hp,rfl⟩
  ·simp at hp;subst hp;exact .inr hb)
end
theorem perm_mid{α:Type}(A B C:List α):List.Perm ((A++C)++B) ((A++B)++C):=by
 rw [Laa,Laa];exact Lpc.append_left A
def pairC(n:Int)(s:Sl):List Value:=[.int .i64 n,(LV.sl s).toV]
set_option maxHeartbeats 4000000 in
theorem partsLoop_ok{w u0:World}{bc b2 b8:Nat}{sC:Sl}{c':Cu}{P:Int}{N:Nat}{tP tF:TypeId}{X:List Value}(hN:N≤65535)(h0:CuG w u0 bc sC [(b2,X),(b8,pairC P ⟨none,0,0⟩)] c'){k13:Wp}
  (hK:∀u R ro s ps,CuG w u bc sC ([(b2,X),(b8,pairC P s)]++(R++ro)) (partsRun N [] (-1) c').2→FootL (R++ro) s ps (partsRun N [] (-1) c').1→k13 u) :
  loopL [Ki,Ki] (fun last15 n16 W17 g14=>
   joinK [.bool] (fun k18=>
    ifK (decide (0<n16))
    (callK Pg c_63 [Ap (some (bc,0))] W17 Oi fun n19 W20=>
     k18 (decide (0<n19)) W20)
    (k18 false W17)) fun t2421 W22=>
   ifK t2421
   (callK Pg c_58 [Ap (some (bc,0)),Ai 65535] W22 Oi fun n23 W24=>
    Go.Vw.al W24 tP [.int .i64 0,.sl (⟨none,0,0⟩),.lit false,.int .i64 0,.sl (⟨none,0,0⟩)] fun b25 W26=>
    Go.Vw.st W26 b25 0 [.int .i64 (w64 ((w64 (last15+1))+n23)),.sl (⟨none,0,0⟩),.lit false,.int .i64 0,.sl (⟨none,0,0⟩)] fun W27=>
    Go.Vw.ld W27 Ki b25 0 fun n28=>
    callK Pg c_89 [Ap (some (bc,0)),Ai 4112] W27 Ot fun s29 W30=>
    opF Pg (vS (convert 9 t_bytes (LV.toV (.str s29)))) W30 Oz fun a32 W31=>
    callK Pg c_92 [Az a32] W31 (.tup [.agg [.bool,Ki,.sl],Li]) fun c33 n34 a35 n36 W37=>
    Go.Vw.al W37 tF [.lit false,.int .i64 0,.sl (⟨none,0,0⟩)] fun b38 W39=>
    Go.Vw.st W39 b38 0 [.bool c33,.int .i64 n34,.sl a35] fun W40=>
    callK Pg c_90 [Ap (some (bc,0)),Ai n36] W40 (.tup []) fun W41=>
    Go.Vw.ld W41 .bool b38 0 fun c42=>
    Go.Vw.ld W41 Ki b38 1 fun n43=>
    Go.Vw.ld W41 .sl b38 2 fun a44=>
    Go.Vw.st W41 b25 2 [.bool c42,.int .i64 n43,.sl a44] fun W45=>
    callK Pg c_99 [Ap (some (bc,0))] W45 Oz fun a46 W47=>
    Go.Vw.st W47 b25 1 [.sl a46] fun W48=>
    Go.Vw.ld W48 .sl b8 1 fun a49=>
    Go.Vw.ld W48 Ki b25 0 fun n50=>
    Go.Vw.ld W48 .sl b25 1 fun a51=>
    Go.Vw.ld W48 .bool b25 2 fun c52=>
    Go.Vw.ld W48 Ki b25 3 fun n53=>
    Go.Vw.ld W48 .sl b25 4 fun a54=>
    Go.Vw.al W48 tP [.int .i64 n50,.sl a51,.bool c52,.int .i64 n53,.sl a54] fun b55 W56=>
    ap W56 tP 5 72 [.int .i64 0,.sl (⟨none,0,0⟩),.lit false,.int .i64 0,.sl (⟨none,0,0⟩)] a49 (⟨some (b55,0),1,1⟩) fun a57 W58=>
    Go.Vw.st W58 b8 1 [.sl a57] fun W59=>
    g14 n28 (w64 (n16-1)) W59)
   (k13 W22)) [.int .i64 (-1),.int .i64 (N:Int)] u0:=by
 refine loop2 (k1:=Ki) (k2:=Ki) (fun (last n:Int) u=>∃(k:Nat) (R ro:BL) (s:Sl) (ps:List PI) (l:List PartI) (c2:Cu),n=(k:Int)∧k≤N∧-1≤last∧last+65536*k≤65536*N∧l.length+k=N ∧
   CuG w u bc sC ([(b2,X),(b8,pairC P s)]++(R++ro)) c2∧VecL ro EPI s ps∧ps.length=l.length∧(∀(i:Nat) p x,ps[i]? = some p→l[i]? = some x→InfoL R p x)∧partsRun k l last c2=partsRun N [] (-1) c') (fun _ n _=>n.toNat) (x1:=-1) (x2:=(N:Int)) rfl rfl
  ⟨N,[],[],⟨none,0,0⟩,[],[],c',rfl,Nlr _,Int.le_refl _,by omega,by simp,h0,VecL.nil EPI,rfl,fun i p x h=>by simp at h,rfl⟩ ?_
 rintro last n u ⟨k,R,ro,s,ps,l,c2,rfl,hkN,hla,hlb,hlk,h,v,hpl,heach,hrun⟩;change Int at last;refine join1 (a:=.bool) (fun q u'=>q=decide (k≠0∧c2.rest≠0)∧CuG w u' bc sC ([(b2,X),(b8,pairC P s)]++(R++ro)) c2) ?_ ?_
 ·intro k10 hk10;refine Iq (fun q=>?_) fun q=>?_
  ·have q:(0:Int)<(k:Int):=odt q;refine rest_ok h.cur fun u1 _ M=>hk10 _ _ ⟨?_,h.quiet M⟩;show decide ((0:Int)<(c2.rest:Int))=_;rw [Bei,Det,Det];omega
  ·have q:¬(0:Int)<(k:Int):=odf q;exact hk10 _ _ ⟨(Dcf fun e=>by omega).symm,h⟩
 rintro q u' ⟨rfl,h⟩;refine Iq (fun q=>?_) fun q=>?_;rotate_left
 ·have q:¬(k≠0∧c2.rest≠0):=odf q;have e:partsRun k l last c2=(l,c2):=by
   cases k with
   | zero=>rfl
   | succ k=>rw [partsRun,if_pos (by omega)]
  have e1:partsRun N [] (-1) c'=(l,c2):=hrun▸e;refine hK _ R ro s ps (by rw [e1];exact h) ?_;rw [e1];exact⟨(OwnL.of v).mono fun q hq=>Lmr _ hq,hpl,fun i p x hp hx=>(heach i p x hp hx).mono fun q hq=>Lml _ hq,by show l.length≤_;omega⟩
 have q:k≠0∧c2.rest≠0:=odt q;obtain⟨k,rfl⟩:∃j,k=j+1:=⟨k-1,by omega⟩;rw [partsRun,if_neg q.2] at hrun;unfold part1 at hrun;dsimp only at hrun;refine num_ok h.cur fun u1 g1 M1=>?_;have h:=h.upd g1 (Fresh.none M1);have har:=num_range c2 65535;have har2:=har.2 (by decide);generalize c2.num 65535=a at hrun g1 h har har2;simp only [Lan] at h;have ew0:w64 (last+1)=last+1:=Wq (by omega) (by omega);have ew:w64 (w64 (last+1)+a.1)=last+1+a.1:=by rw [ew0];exact Wq (by omega) (by omega)
 rw [ew];refine h.alst (by rfl) fun b25 u2 h=>?_;have h:CuG w u2 bc sC ((b2,X)::(b8,pairC P s)::(b25,EPI.f ⟨last+1+a.1,⟨none,0,0⟩,false,0,⟨none,0,0⟩⟩)::(R++ro)) a.2:=h.perm (((List.perm_append_singleton _ _).symm.cons _).cons _);refine (h.blk (i:=2) rfl).ldK (k:=Ki) (last+1+a.1) rfl ?_;refine text_ok h.cur fun u3 g3 M3=>?_;have h:=h.upd g3 (Fresh.none M3);have htl:=text_le a.2 4112;generalize a.2.text 4112=t at hrun g3 h htl;have htl:t.1.length≤4112:=htl;simp only [Lan] at h;refine convS fun a32 u4 hr4 M4=>?_;have h:=h.quiet M4;refine filtDecode_ok hr4 (by omega) fun u5 ro2 sD v2 f2=>?_;have h:=h.more f2;have hfl:=filtD_len t.1;generalize filtD t.1=F at hrun v2 hfl ⊢;refine h.alst (by rfl) fun b38 u6 h=>?_;refine fail_ok h.cur fun u7 g7 M7=>?_;have h:=h.upd g7 (Fresh.none M7);simp only [Lan] at h;generalize t.2.fail F.2=c3 at hrun g7 h;have hB38:Blk u7 b38 (fltC F.1.all F.1.hashes sD):=h.f.own (b38,_) (Lmr _ (Lms.2 rfl));refine hB38.ldK (k:=.bool) F.1.all rfl (hB38.ldK (k:=Ki) F.1.hashes rfl (hB38.ldK (k:=.sl) sD rfl ?_));have h:=h.sub (Lsl _ _);refine h.stK 2 rfl (by decide:2+3≤5) fun u8 h=>?_;have h:CuG w u8 bc sC (((b2,X)::(b8,pairC P s)::(b25,EPI.f ⟨last+1+a.1,⟨none,0,0⟩,F.1.all,F.1.hashes,sD⟩)::(R++ro))++ro2) c3:=h;refine blocks_ok h.cur fun u9 ro3 sb v3 F3=>?_;have h:=h.upd F3.cur F3.f;have hbl:=blksN_len c3;generalize blksN c3=B at hrun v3 h F3 hbl;refine h.stK 2 rfl (by decide:1+1≤5) fun u10 h=>?_;have h:CuG w u10 bc sC ((((b2,X)::(b8,pairC P s)::(b25,EPI.f ⟨last+1+a.1,sb,F.1.all,F.1.hashes,sD⟩)::(R++ro))++ro2)++ro3) B.2:=h;refine (h.blk (i:=1) rfl).ldK (k:=.sl) s rfl ?_;have hB25:=h.blk (i:=2) rfl;refine hB25.ldK (k:=Ki) (last+1+a.1) rfl (hB25.ldK (k:=.sl) sb rfl (hB25.ldK (k:=.bool) F.1.all rfl (hB25.ldK (k:=Ki) F.1.hashes rfl (hB25.ldK (k:=.sl) sD rfl ?_))));have h:CuG w u10 bc sC (((b2,X)::(b8,pairC P s)::(b25,EPI.f ⟨last+1+a.1,sb,F.1.all,F.1.hashes,sD⟩)::(R++(ro2++ro3)))++ro) B.2:=by
  refine h.perm ?_;simp only [List.cons_append];refine List.Perm.cons _ (List.Perm.cons _ (List.Perm.cons _ ?_));rw [Laa (R++ro)];exact (perm_mid R (ro2++ro3) ro).symm
 refine h.push v ⟨last+1+a.1,sb,F.1.all,F.1.hashes,sD⟩ rfl rfl rfl (by omega) fun s' ro' u11 h v' M11=>?_;refine h.stK 1 rfl (by decide:1+1≤2) fun u12 h=>?_;have h:CuG w u12 bc sC ((b2,X)::(b8,pairC P s')::(b25,EPI.f ⟨last+1+a.1,sb,F.1.all,F.1.hashes,sD⟩)::((R++(ro2++ro3))++ro')) B.2:=h;have h:=h.sub (((List.sublist_cons_self _ _).cons_cons _).cons_cons _);have es:w64 (((k+1:Nat):Int)-1)=(k:Int):=by rw [Wq (by omega) (by omega)];omega
 rw [es];refine⟨⟨k,R++(ro2++ro3),ro',s',ps++[⟨last+1+a.1,sb,F.1.all,F.1.hashes,sD⟩],l++[⟨last+1+a.1,B.1,F.1⟩],B.2,rfl,by omega,by omega,by omega,by rw [Lla,List.length_singleton];omega,h,v',by rw [Lla,Lla,hpl,List.length_singleton,List.length_singleton],?_,hrun⟩,by omega⟩;intro i p x hp hx;rcases Nat.lt_or_ge i ps.length with hi | hi
 ·rw [Lgl hi] at hp;rw [Lgl (by omega)] at hx;exact (heach i p x hp hx).mono fun q hq=>Lml _ hq
 ·rw [Lgr hi] at hp;rw [Lgr (by omega)] at hx;have hi0:i-ps.length=0:=by
   have:=(Les.1 hp).1;rw [List.length_singleton] at this;omega
  rw [hi0] at hp;rw [←hpl,hi0] at hx;cases hp;cases hx;exact⟨rfl,(OwnL.of v3).mono fun q hq=>Lmr _ (Lmr _ hq),rfl,rfl,(OwnL.of v2).mono fun q hq=>Lmr _ (Lml _ hq),hbl,hfl⟩
set_option maxHeartbeats 4000000 in
theorem parse_ok{w:World}{sB:Sl}{t:Str}(hr:RdS w ET sB t)(hl:t.length≤1099511627776){K:Int→Sl→Bool→Wp}
  (hK:∀w' R s ps,Fresh w w' F0 R→FootL R s ps (readF t).2.1→K (readF t).1 s (parseF t) w') :
  callK Pg c_100 [Az sB] w (.tup [.agg [Ki,.sl],Lb]) K:=by
 refine go_100 _ _ _ ?_;refine (Fresh.start w F0).alK fun b2 w1 f1 _ M1=>?_;refine newCursor_G (hr.quiet M1) hl fun w2 bc sC h hlo=>?_;have h:=CuG.under f1 h hlo;refine num_ok h.cur fun w3 c3 M3=>?_;have h:=h.upd c3 (Fresh.none M3);unfold parseF at hK;have e1:∃P c,(readF t).1=P∧(Cu.mk t 0 0).num 65535=(P,c):=⟨_,_,rfl,rfl⟩;obtain⟨P,c,eP,ec⟩:=e1;have e2:(readF t).2=partsRun (c.num 65535).1.toNat [] (-1) (c.num 65535).2:=by
  unfold readF;dsimp only;rw [ec]
 rw [eP,e2] at hK;rw [ec] at c3 h;rw [ec];dsimp only at c3 h ⊢;refine h.alst (by rfl) fun b8 w4 h=>?_;have h:CuG w w4 bc sC [(b2,pairC 0 ⟨none,0,0⟩),(b8,pairC P ⟨none,0,0⟩)] c:=h;refine num_ok h.cur fun w5 c5 M5=>?_;have h:=h.upd c5 (Fresh.none M5);have hnr:=num_range c 65535;have hnr2:=hnr.2 (by decide);generalize c.num 65535=n at hK c5 h hnr hnr2;obtain⟨n,c6⟩:=n;dsimp only at hK c5 h hnr hnr2 ⊢;rw [Lan] at h;obtain⟨N,rfl⟩:∃N:Nat,n=(N:Int):=⟨n.toNat,by omega⟩;simp only [Itn] at hK;generalize hpr:partsRun N [] (-1) c6=r at hK;refine join0 (fun u=>∃R s ps,CuG w u bc sC ((b2,pairC 0 ⟨none,0,0⟩)::(b8,pairC P s)::R) r.2∧FootL R s ps r.1) ?_ ?_
 ·intro k13 hk13;refine partsLoop_ok (X:=pairC 0 ⟨none,0,0⟩) (by omega) h fun u R ro s ps hG hF=>?_;rw [hpr] at hG hF;exact hk13 u ⟨R++ro,s,ps,hG,hF⟩
 rintro u ⟨R,s,ps,hG,hF⟩
 refine join1 (a:=.bool) (fun ok v=>ok=okF P r.1 r.2 t∧Fresh w v F0 ((b2,pairC P s)::R)) ?_ ?_;rotate_left
 ·rintro ok v ⟨rfl,f⟩;have hB:=f.blk (i:=0) rfl;exact hB.ldK (k:=Ki) P rfl (hB.ldK (k:=.sl) s rfl (hK v R s ps (f.sub (List.sublist_cons_self _ _)) hF))
 intro k61 hk61;have hG:=hG.quiet (Mq u);have hn8:b8≠b2:=fun e=>by
  have:=hG.f.nodup;rw [List.map_cons,List.nodup_cons] at this;exact this.1 (by rw [←e];simp)
 have d8:=hG.blk (i:=1) rfl;refine⟨fun z=>z=b2,d8.ldDK (k:=Ki) P hn8 rfl (d8.ldDK (k:=.sl) s hn8 rfl ?_)⟩;have fin:∀{v:World} {rb:BL} {ok:Bool},Fresh w v F0 ((b2,pairC 0 ⟨none,0,0⟩)::(R++rb))→Mod (fun z=>z=b2) u.drew v→ok=okF P r.1 r.2 t →
   Go.Vw.st v b2 0 [.int .i64 P,.sl s] fun v'=>Mod (fun z=>z=b2) u.drew v'∧k61 ok v':=fun {v rb ok} f hM e=>by
  refine f.stK 0 rfl (Nlr 2) fun v' f' M'=>⟨hM.trans M' (fun _ _ h=>h) fun _ _ h=>h,hk61 _ _ ⟨e,?_⟩⟩;have f':Fresh w v' F0 ((b2,pairC P s)::(R++rb)):=f';exact f'.sub ((Lsl _ _).cons_cons _)
 have hsub:List.Sublist ((b2,pairC 0 ⟨none,0,0⟩)::R) ((b2,pairC 0 ⟨none,0,0⟩)::(b8,pairC P s)::R):=(List.sublist_cons_self _ _).cons_cons _;refine end_ok hG.cur fun w67 _ M67=>⟨M67.mono fun _ _ h=>h.elim,?_⟩;have hG67:=hG.quiet M67;refine Iq (fun q=>?_) fun q=>?_;rotate_left
 ·have q:¬r.2.done.1=0:=by simpa using q
  have f:Fresh w w67 F0 ((b2,pairC 0 ⟨none,0,0⟩)::(R++[])):=by rw [Lan];exact hG67.f.sub hsub
  exact fin f (M67.mono fun _ _ h=>h.elim) (by unfold okF;rw [Dcf q];rfl)
 have q:r.2.done.1=0:=by simpa using q
 refine d8.ldDK (k:=Ki) P hn8 rfl (d8.ldDK (k:=.sl) s hn8 rfl ?_);have hR67:FootR w67 (Ks R) s ps r.1:=hF.foot fun p hp=>hG67.f.own p (Lmc _ (Lmc _ hp));refine footCheck_ok hR67 fun w71 M71=>?_;have M271:Mod (fun z=>z=b2) u.drew w71:=(mod0 M67 M71).mono fun _ _ h=>h.elim;refine⟨M271,?_⟩;have hG71:=hG67.quiet M71;have f71:Fresh w w71 F0 ((b2,pairC 0 ⟨none,0,0⟩)::R):=hG71.f.sub hsub;by_cases hck:chkF P r.1=true;rotate_left
 ·rw [if_neg hck];refine ifK_f (by decide) ?_;have hck:chkF P r.1=false:=by simpa using hck
  have f:Fresh w w71 F0 ((b2,pairC 0 ⟨none,0,0⟩)::(R++[])):=by rw [Lan];exact f71
  exact fin f M271 (by unfold okF;rw [hck];simp)
 rw [if_pos hck];refine ifK_t (by decide) ?_;refine d8.ldDK (k:=Ki) P hn8 rfl (d8.ldDK (k:=.sl) s hn8 rfl ?_);have hR71:=hR67.quiet M71;have eok:∀{b:Bool},b=decide (bodyN P r.1=t)→b=okF P r.1 r.2 t:=fun {b} e=>by unfold okF;rw [e,Dct q,hck];rfl
 have eq1:(bodyN P r.1==t)=decide (bodyN P r.1=t):=by rw [Bei,beq_iff_eq,Det]
 have call:∀{k:Sl→Wp},(∀w75 rb sb,Fresh w w75 F0 ((b2,pairC 0 ⟨none,0,0⟩)::(R++rb))→VecL rb ET sb (bodyN P r.1)→Mod (fun z=>z=b2) u.drew w75→k sb w75) →
   callK Pg c_98 [.agg [.int .i64 P,.sl s]] w71 Oz k:=fun {k} hk=>
  body_ok hR71 hck fun w75 rb sb fb vb=>hk w75 rb sb (f71.join fb (fun _ _ h=>h) fun _ _ _ h=>h) vb ((mod0 (mod0 M67 M71) fb.mod).mono fun _ _ h=>h.elim)
 have c1:∀{v:World} {L:BL} {k:Str→Wp},Fresh w v F0 L→k t v→opF Pg (vS (convert t_bytes 9 (LV.toV (.sl sB)))) v Ot k:=fun f hk=>convT (hr.quiet f.mod) hk;have c2:∀{v:World} {x:Nat×List Value} {rb:BL} {sb:Sl} {k:Str→Wp},Fresh w v F0 (x::(R++rb))→VecL rb ET sb (bodyN P r.1)→k (bodyN P r.1) v→opF Pg (vS (convert t_bytes 9 (LV.toV (.sl sb)))) v Ot k:=fun f vb hk=>convT (vb.rd fun p hp=>f.own p (Lmc _ (Lmr _ hp))) hk;have sto:∀{v:World} {rb:BL} {k:Wp},Fresh w v F0 ((b2,pairC 0 ⟨none,0,0⟩)::(R++rb))→Mod (fun z=>z=b2) u.drew v→(∀v',Fresh w v' F0 ((b2,pairC P s)::(R++rb))→Mod (fun z=>z=b2) u.drew v'→k v')→Go.Vw.st v b2 0 [.int .i64 P,.sl s] k:=fun {v rb k} f hM hk=>
  f.stK 0 rfl (Nlr 2) fun v' f' M'=>hk v' f' (hM.trans M' (fun _ _ h=>h) fun _ _ h=>h)
 have out:∀{v:World} {rb:BL} {ok:Bool},Fresh w v F0 ((b2,pairC P s)::(R++rb))→ok=decide (bodyN P r.1=t)→k61 ok v:=fun f e=>hk61 _ _ ⟨eok e,f.sub ((Lsl _ _).cons_cons _)⟩;refine⟨call fun w75 rb sb f vb hM=>⟨hM,?_,?_,?_⟩,c1 f71 ⟨M271,call fun w75 rb sb f vb hM=>⟨hM,?_,?_⟩⟩⟩
 ·exact c2 f vb ⟨hM,c1 f ⟨hM,fin f hM (eok eq1)⟩,sto f hM fun v' f' hM'=>⟨hM',c1 f' ⟨hM',out f' eq1⟩⟩⟩
 ·exact c1 f ⟨hM,c2 f vb ⟨hM,fin f hM (eok eq1)⟩,sto f hM fun v' f' hM'=>⟨hM',c2 f' vb ⟨hM',out f' eq1⟩⟩⟩
 ·exact sto f hM fun v' f' hM'=>⟨hM',c2 f' vb ⟨hM',c1 f' ⟨hM',out f' eq1⟩⟩,c1 f' ⟨hM',c2 f' vb ⟨hM',out f' eq1⟩⟩⟩
 ·exact c2 f vb ⟨hM,fin f hM (eok eq1)⟩
 ·exact sto f hM fun v' f' hM'=>⟨hM',c2 f' vb ⟨hM',out f' eq1⟩⟩
end Go.Proofs.YtoegpmjoajipcaaGreatDoor
namespace Go.Proofs.YtoegpmjoajipcaaGreatDoor
open Go.Vw
def trailOk(b p:Int):Bool:=decide (0≤b∧b≤268435456∧1≤p∧p≤16793600∧¬(0<p.tmod 4100∧p.tmod 4100<5))
def magicN:Str:=[119,110,119,49]
def trailN(t:Str)(size:Int):Int×Int×Int:=
 if t.length≠24 then (0,0,81) else
 if (openB t).1≠0 then (0,0,81) else
 if (openB t).2.take 4≠magicN∨268435456<wordN (((openB t).2.take 12).drop 4)∨33554432<wordN ((openB t).2.drop 12) then (0,0,81) else
 if trailOk (wordN (((openB t).2.take 12).drop 4)) (wordN ((openB t).2.drop 12))=false then (0,0,81) else
 if (wordN (((openB t).2.take 12).drop 4):Int)+wordN ((openB t).2.drop 12)+24≠size then (0,0,82) else
 (wordN (((openB t).2.take 12).drop 4),wordN ((openB t).2.drop 12),0)
structure Dec where
 tb:Int
 tp:Int
 left:Int
 body:Str
 broken:Bool
def pageN(d:Dec)(page:Str):Dec×Int:=
 if d.broken=true∨mnI d.left 4100=0∨(page.length:Int)≠mnI d.left 4100 then ({d with broken:=true},80)
 else if (openB page).1≠0 then ({d with broken:=true},80)
 else ({d with body:=d.body++(openB page).2,left:=d.left-mnI d.left 4100},0)
def footOk(d:Dec):Bool:=!d.broken&&(decide (d.left≤0)&&(parseF d.body&&decide (spI (readF d.body).2.1=d.tb)))
theorem openB_len{t:Str}(h:(openB t).1=0):(openB t).2.length+4=t.length∧(openB t).2=t.take (t.length-4):=by
 unfold openB at h ⊢;split at h
 ·cases h
 ·rename_i h4;split at h
  ·rename_i h2;rw [if_neg h4,if_pos h2];refine⟨?_,rfl⟩;show (t.take (t.length-4)).length+4=_;rw [Llt];omega
  ·cases h
theorem openB_le(t:Str):(openB t).2.length≤t.length:=by
 unfold openB;split
 ·exact Nzl _
 ·split
  ·show (t.take (t.length-4)).length≤_;rw [Llt];omega
  ·exact Nzl _
theorem tmodI(n m:Int)(h:0≤n)(hm:0<m):0≤n.tmod m∧n.tmod m<m:=by
 rw [Int.tmod_eq_emod_of_nonneg h];exact⟨Int.emod_nonneg _ (by omega),Int.emod_lt_of_pos _ hm⟩
theorem rightTrail_ok{w:World}{b p:Int}{K:Int→Bool→Wp}(hK:∀n w',Mod F0 w w'→K n (trailOk b p) w') :
  callK Pg c_101 [.agg [.int .i64 b,.int .i64 p]] w (.tup [Li,Lb]) K:=by
 refine go_101 _ _ _ _ ?_;refine (Fresh.start w F0).alK fun b3 w1 f1 _ M1=>?_;have hB:Blk w1 b3 [.int .i64 b,.int .i64 p]:=f1.blk (i:=0) rfl;have l0:∀{u:World} {K:Int→Prop},Mod F0 w1 u→K b→Go.Vw.ld u Ki b3 0 K:=fun hM hK=>(hM.blk hB id).ldK (k:=Ki) b rfl hK;have l1:∀{u:World} {K:Int→Prop},Mod F0 w1 u→K p→Go.Vw.ld u Ki b3 1 K:=fun hM hK=>(hM.blk hB id).ldK (k:=Ki) p rfl hK;refine join1 (a:=.bool) (fun q u=>q=decide (¬(0≤b∧b≤268435456∧1≤p∧p≤16793600))∧Mod F0 w1 u) ?_ ?_
 ·intro k hk;have hd:=(Mq w1).blk hB id;have yes:(¬(0≤b∧b≤268435456∧1≤p∧p≤16793600))→k true w1.drew:=fun h=>hk _ _ ⟨(Dct h).symm,Mq w1⟩;refine⟨F0,hd.ldDK (k:=Ki) b id rfl (Iq (fun q=>yes fun h=>?_) fun q=>?_)⟩
  ·have q:b<0:=odt q;omega
  refine hd.ldDK (k:=Ki) b id rfl (Iq (fun q2=>yes fun h=>?_) fun q2=>?_)
  ·have q2:268435456<b:=odt q2;omega
  refine hd.ldDK (k:=Ki) p id rfl (Iq (fun q3=>yes fun h=>?_) fun q3=>?_)
  ·have q3:p<1:=odt q3;omega
  have q:¬b<0:=odf q;have q2:¬268435456<b:=odf q2;have q3:¬p<1:=odf q3;refine hd.ldDK (k:=Ki) p id rfl (go_102 _ _ _ ?_);refine⟨Mod.refl _ _,hk _ _ ⟨?_,Mq w1⟩⟩;have e:w64 (16777216+w64 (4*w64 ((w64 (w64 (16777216+4096)-1)).tdiv 4096)))=16793600:=by decide
  rw [e];show decide (16793600<p)=_;rw [Bei,Det,Det];omega
 rintro q u ⟨rfl,hM⟩;have hM2:=mod0 M1 hM;refine Iq (fun q=>?_) fun q=>?_
 ·have q:¬(0≤b∧b≤268435456∧1≤p∧p≤16793600):=odt q;have:=hK 0 u hM2;unfold trailOk at this;rw [Dcf fun h=>q ⟨h.1,h.2.1,h.2.2.1,h.2.2.2.1⟩] at this;exact this
 have q:0≤b∧b≤268435456∧1≤p∧p≤16793600:=Decidable.not_not.1 (odf q);refine l1 hM (l1 hM ?_);have hr:=tmodI p 4100 (by omega) (by decide);have ew:w64 (p.tmod 4100-4)=p.tmod 4100-4:=Wq (by omega) (by omega);rw [ew];have good:¬(0<p.tmod 4100∧p.tmod 4100<5)→∀n,K n true u:=fun h n=>by
  have:=hK n u hM2;unfold trailOk at this;rw [Dct ⟨q.1,q.2.1,q.2.2.1,q.2.2.2,h⟩] at this;exact this
 refine join1 (a:=Ki) (fun _ v=>¬(0<p.tmod 4100∧p.tmod 4100<5)∧v=u) ?_ (by rintro x v ⟨h,rfl⟩;exact good h _);intro k17 hk17;refine Iq (fun q2=>?_) fun q2=>hk17 _ _ ⟨?_,rfl⟩
 ·have q2:0<p.tmod 4100:=odt q2;refine Iq (fun q3=>?_) fun q3=>hk17 _ _ ⟨?_,rfl⟩
  ·have q3:p.tmod 4100-4<1:=odt q3;have:=hK 0 u hM2;unfold trailOk at this;rw [Dcf fun h=>h.2.2.2.2 ⟨q2,by omega⟩] at this;exact this
  ·have q3:¬p.tmod 4100-4<1:=odf q3;omega
 ·have q2:¬0<p.tmod 4100:=odf q2;omega
set_option maxHeartbeats 1000000 in
theorem trailer_ok{w:World}{s:Sl}{t:Str}(hr:RdS w ET s t)(hl:t.length≤1099511627776){size:Int}{K:Int→Int→Int→Wp}(hK:∀w',Mod F0 w w'→K (trailN t size).1 (trailN t size).2.1 (trailN t size).2.2 w') :
  callK Pg c_103 [Az s,Ai size] w (.tup [.agg [Ki,Ki],Li]) K:=by
 refine go_103 _ _ _ _ ?_;refine (Fresh.start w F0).alK fun b3 w1 f1 _ M1=>?_;have out:∀{u:World} {m:BL} {X:List Value} (x y e:Int),X.length=2→Fresh w u F0 ((b3,X)::m)→(trailN t size=(x,y,e)) →
   Go.Vw.st u b3 0 [.int .i64 x,.int .i64 y] fun W5=>Go.Vw.ld W5 Ki b3 0 fun n6=>Go.Vw.ld W5 Ki b3 1 fun n7=>K n6 n7 e W5:=fun {u m X} x y e hX h he=>by
  refine h.stK 0 rfl (by simp [hX]) fun u' h' _=>?_;have hB:Blk u' b3 [.int .i64 x,.int .i64 y]:=by
   have:=h'.blk (i:=0) rfl;rw [spl_eq _ _ _ (by simp [hX]),Ldn (by simp [hX]),Lan] at this;exact this
  have h2:=hK u' h'.mod;rw [he] at h2;exact hB.ldK (k:=Ki) x rfl (hB.ldK (k:=Ki) y rfl h2)
 rw [hr.len];refine Iq (fun q=>?_) fun q=>?_
 ·have q:(t.length:Int)≠24:=by simpa using q
  exact out 0 0 81 rfl f1 (by unfold trailN;rw [if_pos (by omega)])
 have q:¬t.length≠24:=by have q:(t.length:Int)=24:=(by simpa using q);omega
 refine open_ok (hr.quiet M1) hl fun w2 ro2 s2 h2 v2=>?_;have f2:Fresh w w2 F0 ((b3,[.int .i64 0,.int .i64 0])::ro2):=f1.join (Fresh.of_at h2) (fun _ _ h=>h) fun _ _ _ h=>h;refine Iq (fun q2=>?_) fun q2=>?_
 ·have q2:(openB t).1≠0:=by simpa using q2
  exact out 0 0 81 rfl f2 (by unfold trailN;rw [if_neg q,if_pos q2])
 have q2:¬(openB t).1≠0:=by simpa using q2
 have hol:=(openB_len (by simpa using q2)).1;have et:trailN t size=if (openB t).2.take 4≠magicN∨268435456<wordN (((openB t).2.take 12).drop 4)∨33554432<wordN ((openB t).2.drop 12) then ((0,0,81):Int×Int×Int) else
   if trailOk (wordN (((openB t).2.take 12).drop 4)) (wordN ((openB t).2.drop 12))=false then (0,0,81) else
   if (wordN (((openB t).2.take 12).drop 4):Int)+wordN ((openB t).2.drop 12)+24≠size then (0,0,82) else
   (wordN (((openB t).2.take 12).drop 4),wordN ((openB t).2.drop 12),0):=by unfold trailN;rw [if_neg q,if_neg q2]
 generalize (openB t).2=o at et v2 hol;have f3:=f2.quiet (Mq w2);have hr3:RdS w2.drew ET s2 o:=v2.rd fun p hp=>f3.own p (Lmc _ hp);have e12:w64 (4+8)=12:=by decide
 rw [e12];refine⟨F0,hr3.partK (n:=4) (m:=12) (by decide) (by omega) rfl rfl rfl fun s4 h4 _=>hr3.fromK (n:=12) (by omega) rfl rfl fun s5 h5 _=>?_⟩;refine word_ok h4 (by simp;omega) ⟨Mod.refl _ _,word_ok h5 (by simp;omega) ⟨Mod.refl _ _,?_⟩⟩;generalize wordN ((o.take 12).drop 4)=A at et;generalize wordN (o.drop 12)=B at et;refine join1 (a:=.bool) (fun c u=>c=decide (o.take 4≠magicN∨268435456<A∨33554432<B)∧u=w2.drew) ?_ ?_
 ·intro k hk;refine hr3.toK (n:=4) (by omega) rfl rfl fun s6 h6 _=>convT h6 ?_;refine Iq (fun q3=>hk _ _ ⟨?_,rfl⟩) fun q3=>Iq (fun q4=>hk _ _ ⟨?_,rfl⟩) fun q4=>hk _ _ ⟨?_,rfl⟩
  ·have q3:¬o.take 4=magicN:=by simpa [magicN] using q3
   exact (Dct (.inl q3)).symm
  ·have q4:(268435456:Int)<(A:Int):=odt q4;exact (Dct (.inr (.inl (by omega)))).symm
  ·have q3:o.take 4=magicN:=by simpa [magicN] using q3
   have q4:¬(268435456:Int)<(A:Int):=odf q4;show decide ((33554432:Int)<(B:Int))=_;rw [Bei,Det,Det];exact⟨fun h=>.inr (.inr (by omega)),fun h=>by
    rcases h with h | h | h
    ·exact absurd q3 h
    ·omega
    ·omega⟩
 rintro c u ⟨rfl,rfl⟩;refine Iq (fun q3=>?_) fun q3=>?_
 ·have q3:=odt q3;rw [if_pos q3] at et;exact out 0 0 81 rfl f3 et
 have q3:=odf q3;rw [if_neg q3] at et;have eA:w64 (A:Int)=(A:Int):=w64N (by omega);have eB:w64 (B:Int)=(B:Int):=w64N (by omega);rw [eA,eB];refine f3.alst (by rfl) fun b30 w4 f4 _ _=>?_;have hB30:Blk w4 b30 [.int .i64 (A:Int),.int .i64 (B:Int)]:=f4.own (b30,_) (Lmr _ (Lms.2 rfl));refine hB30.ldK (k:=Ki) (A:Int) rfl (hB30.ldK (k:=Ki) (B:Int) rfl (rightTrail_ok fun n w5 M5=>?_));have f5:=f4.quiet M5;have hB30:=M5.blk hB30 id;refine Iq (fun q4=>?_) fun q4=>?_
 ·have q4:trailOk A B=false:=by simpa using q4
  rw [if_pos q4] at et;exact out 0 0 81 rfl f5 et
 have q4:¬trailOk A B=false:=by simpa using q4
 rw [if_neg q4] at et;refine hB30.ldK (k:=Ki) (A:Int) rfl (hB30.ldK (k:=Ki) (B:Int) rfl ?_);have es:w64 (w64 ((A:Int)+(B:Int))+24)=(A:Int)+(B:Int)+24:=by
  rw [Wq (n:=(A:Int)+(B:Int)) (by omega) (by omega)];exact Wq (by omega) (by omega)
 rw [es];refine Iq (fun q5=>?_) fun q5=>?_
 ·have q5:(A:Int)+(B:Int)+24≠size:=by simpa using q5
  rw [if_pos q5] at et;exact out 0 0 82 rfl f5 et
 have q5:¬(A:Int)+(B:Int)+24≠size:=by simpa using q5
 rw [if_neg q5] at et;exact hB30.ldK (k:=Ki) (A:Int) rfl (hB30.ldK (k:=Ki) (B:Int) rfl (out A B 0 rfl f5 et))
theorem at_mid{w0 w:World}{D:Nat→Prop}{x:Nat×List Value}{M ro R:BL}(h:At w0 D ((x::(M++ro))++R) w):At w0 D (x::((M++R)++ro)) w:=by
 refine h.perm ?_;simp only [List.cons_append,Laa];exact (Lpc.append_left M).cons _
theorem at_front{w0 w:World}{D:Nat→Prop}{x:Nat×List Value}{M R ro:BL}(h:At w0 D (x::((M++R)++ro)) w):At w0 D (x::(M++ro)) w:=
 h.sub (((Lsl M R).append (List.Sublist.refl _)).cons_cons _)
def decC(d:Dec)(s:Sl):List Value:=[.int .i64 d.tb,.int .i64 d.tp,.int .i64 d.left,(LV.sl s).toV,(LV.bool d.broken).toV]
def dec0(b p:Int):Dec:=⟨b,p,p,[],false⟩
theorem newDecoder_ok{w:World}{b p:Int}{K:PA→Int→Wp}(hN:trailOk b p=false→∀w',Mod F0 w w'→K none 81 w')
  (hS:trailOk b p=true→∀w' d,Fresh w w' F0 [(d,decC (dec0 b p) ⟨none,0,0⟩)]→K (some (d,0)) 0 w') :
  callK Pg c_41 [.agg [.int .i64 b,.int .i64 p]] w (.tup [Lp,Li]) K:=by
 refine go_41 _ _ _ _ ?_;refine (Fresh.start w F0).alK fun b3 w1 f1 _ M1=>?_;have hB:Blk w1 b3 [.int .i64 b,.int .i64 p]:=f1.blk (i:=0) rfl;refine hB.ldK (k:=Ki) b rfl (hB.ldK (k:=Ki) p rfl (rightTrail_ok fun n w2 M2=>?_));have f2:=f1.quiet M2;have hB:=M2.blk hB id;refine Iq (fun q=>hN (by simpa using q) w2 (mod0 M1 M2)) fun q=>?_;refine hB.ldK (k:=Ki) b rfl (hB.ldK (k:=Ki) p rfl (hB.ldK (k:=Ki) p rfl (f2.alK fun b13 w3 f3 _ _=>?_)));exact hS (by simpa using q) w3 b13 (f3.sub (Lsr _ _))
theorem mnI_le(a b:Int):mnI a b≤a∧mnI a b≤b∧(mnI a b=a∨mnI a b=b):=by unfold mnI;split<;>omega
theorem page_ok{w0 w:World}{m ro:BL}{d:Nat}{x:Dec}{s:Sl}(f:Fresh w0 w F0 ((d,decC x s)::(m++ro)))(v:VecL ro ET s x.body)(hb:x.body.length≤549755813888)(hx:0≤x.left∧x.left≤1099511627776){sp:Sl}{t:Str}(hr:RdS w ET sp t)(hl:t.length≤1099511627776){K:Int→Wp}
  (hK:∀w' s' ro',Fresh w0 w' F0 ((d,decC (pageN x t).1 s')::(m++ro'))→VecL ro' ET s' (pageN x t).1.body→K (pageN x t).2 w') :
  callK Pg c_42 [Ap (some (d,0)),Az sp] w Oi K:=by
 refine go_42 _ _ _ _ ?_;have hB:=f.blk (i:=0) rfl;have hm:=mnI_le x.left 4100;refine ifK_f rfl (Dq (hB.ldK (k:=Ki) x.left rfl ?_));rw [hr.len];unfold pageN at hK;generalize mnI x.left 4100=n at hK hm ⊢;have bad:∀{u:World},Fresh w0 u F0 ((d,decC x s)::(m++ro))→(∀w' s' ro',Fresh w0 w' F0 ((d,decC {x with broken:=true} s')::(m++ro'))→VecL ro' ET s' x.body→K 80 w') →
   dr (some (d,0)) fun b12 o13=>Go.Vw.st u b12 (o13+4) [.lit true] fun W14=>K 80 W14:=fun {u} h hK=>
  Dq (h.stK 0 rfl (by decide:0+4+1≤5) fun u' h' _=>hK u' s ro h' v)
 refine join1 (a:=.bool) (fun q u=>q=decide (x.broken=true∨n=0∨(t.length:Int)≠n)∧u=w) ?_ ?_
 ·intro k hk;refine Dq (hB.ldK (k:=.bool) x.broken rfl (Iq (fun q=>hk _ _ ⟨(Dct (.inl q)).symm,rfl⟩) fun q=>Iq (fun q2=>hk _ _ ⟨?_,rfl⟩) fun q2=>hk _ _ ⟨?_,rfl⟩))
  ·have q2:n=0:=by simpa using q2
   exact (Dct (.inr (.inl q2))).symm
  ·have q2:¬n=0:=by simpa using q2
   rw [Bei,bne_iff_ne,Det];exact⟨fun h=>.inr (.inr h),fun h=>by
    rcases h with h | h | h
    ·rw [h] at q;cases q
    ·exact absurd h q2
    ·exact h⟩
 rintro q u ⟨rfl,rfl⟩;refine Iq (fun q=>?_) fun q=>?_
 ·have q:=odt q;rw [if_pos q] at hK;exact bad f hK
 have q:=odf q;rw [if_neg q] at hK;refine open_ok hr hl fun w2 ro2 s2 h2 v2=>?_;have f2:=f.join (Fresh.of_at h2) (fun _ _ h=>h) fun _ _ _ h=>h;have hol:=openB_le t;refine Iq (fun q2=>?_) fun q2=>?_
 ·have q2:(openB t).1≠0:=by simpa using q2
  rw [if_pos q2] at hK;exact bad (f2.sub (Lsl _ _)) hK
 have q2:¬(openB t).1≠0:=by simpa using q2
 rw [if_neg q2] at hK;have f2:=Fresh.mid f2;have hB2:=f2.blk (i:=0) rfl;have hn:n≤4100:=hm.2.1;have htl:t.length≤4100:=by
  have:(t.length:Int)=n:=Decidable.not_not.1 fun h=>q (.inr (.inr h));omega
 refine Dq (hB2.ldK (k:=.sl) s rfl ?_);refine Fresh.app (m:=_::_) f2 v (v2.rd fun p hp=>f2.own p (Lmc _ (Lml _ (Lmr _ hp)))) rfl rfl (by omega) fun s3 ro3 u3 f3 v3 _=>?_;refine Dq (f3.stK 0 rfl (by decide:0+3+1≤5) fun u4 f4 _=>?_);have f4:Fresh w0 u4 F0 ((d,decC {x with body:=x.body++(openB t).2} s3)::((m++ro2)++ro3)):=f4;have f4:=Fresh.front f4;refine Dq ((f4.blk (i:=0) rfl).ldK (k:=Ki) x.left rfl (Dq (f4.stK 0 rfl (by decide:0+2+1≤5) fun u5 f5 _=>?_)));have ew:w64 (x.left-n)=x.left-n:=Wq (by omega) (by omega);rw [ew] at f5;exact hK u5 s3 ro3 f5 v3
theorem parseF_chk{t:Str}(h:parseF t=true):chkF (readF t).1 (readF t).2.1=true:=by
 unfold parseF okF at h;rw [Bat,Bat] at h;exact h.2.1
theorem footDec_ok{w:World}{d:Nat}{x:Dec}{s:Sl}(hB:Blk w d (decC x s))(hr:RdS w ET s x.body)(hl:x.body.length≤1099511627776){K:Int→Sl→Int→Wp}
  (hN:footOk x=false→∀w',Mod F0 w w'→K 0 ⟨none,0,0⟩ 80 w')
  (hS:footOk x=true→∀w' R s ps,Fresh w w' F0 R→FootL R s ps (readF x.body).2.1→K (readF x.body).1 s 0 w') :
  callK Pg c_43 [Ap (some (d,0))] w (.tup [.agg [Ki,.sl],Li]) K:=by
 refine go_43 _ _ _ ?_;refine (Fresh.start w F0).alK fun b2 w1 f1 _ M1=>?_;have hB1:=M1.blk hB id;refine ifK_f rfl ?_;have bad:∀{u:World} {m:BL},Fresh w u F0 ((b2,pairC 0 ⟨none,0,0⟩)::m)→footOk x=false →
   Go.Vw.st u b2 0 [.int .i64 0,.sl (⟨none,0,0⟩)] fun W16=>Go.Vw.ld W16 Ki b2 0 fun n17=>Go.Vw.ld W16 .sl b2 1 fun a18=>K n17 a18 80 W16:=fun {u m} h e=>by
  refine h.stK 0 rfl (Nlr 2) fun u' h' _=>?_;have hb:Blk u' b2 (pairC 0 ⟨none,0,0⟩):=h'.blk (i:=0) rfl;exact hb.ldK (k:=Ki) 0 rfl (hb.ldK (k:=.sl) ⟨none,0,0⟩ rfl (hN e u' h'.mod))
 refine join1 (a:=.bool) (fun q u=>q=decide (x.broken=true∨0<x.left)∧u=w1) ?_ ?_
 ·intro k hk;refine Dq (hB1.ldK (k:=.bool) x.broken rfl (Iq (fun q=>hk _ _ ⟨(Dct (.inl q)).symm,rfl⟩) fun q=>Dq (hB1.ldK (k:=Ki) x.left rfl (hk _ _ ⟨?_,rfl⟩))));show decide (0<x.left)=_;rw [Bei,Det,Det];exact⟨.inr,fun h=>h.resolve_left (by rw [q];decide)⟩
 rintro q u ⟨rfl,rfl⟩;refine Iq (fun q=>?_) fun q=>?_
 ·have q:=odt q;refine bad f1 ?_;unfold footOk;rcases q with q | q
  ·rw [q];rfl
  ·rw [Dcf (show ¬x.left≤0 by omega),Bool.false_and,Bool.and_false]
 have q:=odf q;have hbr:x.broken=false:=by
  cases h:x.broken with
  | false=>rfl
  | true=>exact absurd (.inl h) q
 have hle:x.left≤0:=Int.not_lt.1 fun h=>q (.inr h);have eok:footOk x=(parseF x.body&&decide (spI (readF x.body).2.1=x.tb)):=by unfold footOk;rw [hbr,Dct hle];rfl
 refine Dq (hB1.ldK (k:=.sl) s rfl (parse_ok (hr.quiet M1) hl fun w2 R sI ps f2 hF=>?_));have f2:=f1.join f2 (fun _ _ h=>h) fun _ _ _ h=>h;refine f2.alst (by rfl) fun b26 w3 f3 _ M3=>?_;have f3:Fresh w w3 F0 ((b2,pairC 0 ⟨none,0,0⟩)::(R++[(b26,pairC (readF x.body).1 sI)])):=f3;have h26:Blk w3 b26 (pairC (readF x.body).1 sI):=f3.own (b26,_) (Lmc _ (Lmr _ (Lms.2 rfl)));have hB3:=f3.mod.blk hB id;refine join1 (a:=.bool) (fun q v=>q=(!footOk x)∧Mod F0 w3 v) ?_ ?_
 ·intro k hk;have d26:=(Mq w3).blk h26 id;have dB:=(Mq w3).blk hB3 id;refine⟨F0,Iq (fun q=>hk _ _ ⟨?_,Mq w3⟩) fun q=>?_⟩
  ·have q:parseF x.body=false:=by simpa using q
   rw [eok,q];rfl
  have q:parseF x.body=true:=by simpa using q
  refine d26.ldDK (k:=Ki) (readF x.body).1 id rfl (d26.ldDK (k:=.sl) sI id rfl (Dq (dB.ldDK (k:=Ki) x.tb id rfl ?_)));have hc:=parseF_chk q;unfold chkF at hc;rw [Bat] at hc;have hR:FootR w3.drew (Ks R) sI ps (readF x.body).2.1:=(hF.foot fun p hp=>f3.own p (Lmc _ (Lml _ hp))).quiet (Mq w3);refine blocksOf_ok (n0:=0) hR hc.2 fun w4 M4=>⟨M4,hk _ _ ⟨?_,mod0 (Mq w3) M4⟩⟩;rw [eok,q,Bool.true_and];rw [Bei,bne_iff_ne];simp
 rintro q v ⟨rfl,hM⟩;have f4:=f3.quiet hM;have h26:=hM.blk h26 id;refine Iq (fun q=>?_) fun q=>?_
 ·exact bad f4 (by simpa using q)
 have q:footOk x=true:=by simpa using q
 refine h26.ldK (k:=Ki) (readF x.body).1 rfl (h26.ldK (k:=.sl) sI rfl (f4.stK 0 rfl (Nlr 2) fun u5 f5 _=>?_));have f5:Fresh w u5 F0 ((b2,pairC (readF x.body).1 sI)::(R++[(b26,pairC (readF x.body).1 sI)])):=f5;have hb:=f5.blk (i:=0) rfl;exact hb.ldK (k:=Ki) (readF x.body).1 rfl (hb.ldK (k:=.sl) sI rfl (hS q u5 R sI ps (f5.sub ((Lsl _ _).cons _)) hF))
theorem footOk_chk{d:Dec}(h:footOk d=true):chkF (readF d.body).1 (readF d.body).2.1=true:=by
 unfold footOk at h;rw [Bat,Bat,Bat] at h;exact parseF_chk h.2.2.1
theorem findIdx_none{α:Type}{p:α→Bool}{l:List α}(h:∀(j:Nat) x,l[j]? = some x→p x=false):l.findIdx? p=none:=by
 rw [List.findIdx?_eq_none_iff];intro x hx;obtain⟨j,hj⟩:=List.mem_iff_getElem?.1 hx;simpa using h j x hj
theorem findIdx_some{α:Type}{p:α→Bool}:∀{l:List α} {i:Nat} {x:α},l[i]? = some x→p x=true→(∀(j:Nat) y,j<i→l[j]? = some y→p y=false)→l.findIdx? p=some i
 | [],i,x,h,_,_=>by simp at h
 | y::l,0,x,h,hp,_=>by
  simp at h;subst h;rw [List.findIdx?_cons,hp];rfl
 | y::l,i+1,x,h,hp,hb=>by
  have h0:p y=false:=hb 0 y (Nat.succ_pos _) rfl;rw [List.findIdx?_cons,h0];have:=findIdx_some (l:=l) (by simpa using h) hp fun j z hj hz=>hb (j+1) z (Nat.succ_lt_succ hj) (by simpa using hz);rw [if_neg (by decide),this];rfl
theorem cmpN_range:∀a b:Str,cmpN a b = -1∨cmpN a b=0∨cmpN a b=1
 | [],[]=>.inr (.inl rfl)
 | [],_::_=>.inl rfl
 | _::_,[]=>.inr (.inr rfl)
 | x::a,y::b=>by
  rw [cmpN_cons];split
  ·exact .inl rfl
  split
  ·exact .inr (.inr rfl)
  ·exact cmpN_range a b
theorem cmpN_self:∀a:Str,cmpN a a=0
 | []=>rfl
 | x::a=>by rw [cmpN_cons,if_neg (Nat.lt_irrefl _),if_neg (Nat.lt_irrefl _)];exact cmpN_self a
theorem cmpN_neg:∀a b:Str,cmpN b a = - cmpN a b
 | [],[]=>rfl
 | [],_::_=>rfl
 | _::_,[]=>rfl
 | x::a,y::b=>by
  rw [cmpN_cons,cmpN_cons];by_cases h1:x.toNat<y.toNat
  ·rw [if_pos h1,if_neg (by omega),if_pos h1];rfl
  by_cases h2:y.toNat<x.toNat
  ·rw [if_pos h2,if_neg h1,if_pos h2]
  ·rw [if_neg h1,if_neg h2,if_neg h2,if_neg h1];exact cmpN_neg a b
theorem cmpN_le:∀{a b c:Str},cmpN a b≤0→cmpN b c≤0→cmpN a c≤0
 | [],_,[],_,_=>Int.le_refl _
 | [],_,_::_,_,_=>by show (-1:Int)≤0;decide
 | _::_,[],_,h,_=>absurd h (by show ¬(1:Int)≤0;decide)
 | _::_,_::_,[],_,h=>absurd h (by show ¬(1:Int)≤0;decide)
 | x::a,y::b,z::c,h1,h2=>by
  rw [cmpN_cons] at h1 h2 ⊢;by_cases k1:x.toNat<z.toNat
  ·rw [if_pos k1];decide
  by_cases p1:y.toNat<x.toNat
  ·rw [if_neg (by omega),if_pos p1] at h1;exact absurd h1 (by decide)
  by_cases p2:z.toNat<y.toNat
  ·rw [if_neg (by omega),if_pos p2] at h2;exact absurd h2 (by decide)
  rw [if_neg k1,if_neg (by omega)];rw [if_neg (by omega),if_neg p1] at h1;rw [if_neg (by omega),if_neg p2] at h2;exact cmpN_le h1 h2
theorem bytesLess_cmp:∀a b:Str,Op.bytesLess a b=decide (cmpN a b<0)
 | [],[]=>rfl
 | [],_::_=>rfl
 | _::_,[]=>rfl
 | x::a,y::b=>by
  rw [cmpN_cons];show (decide (x<y)||(x==y&&Op.bytesLess a b))=_;rw [bytesLess_cmp a b];by_cases h1:x.toNat<y.toNat
  ·rw [if_pos h1];have:x<y:=UInt8.lt_iff_toNat_lt.2 h1;simp [this]
  rw [if_neg h1];have n1:¬x<y:=fun h=>h1 (UInt8.lt_iff_toNat_lt.1 h);by_cases h2:y.toNat<x.toNat
  ·rw [if_pos h2];have:¬x=y:=fun e=>by subst e;omega
   simp [n1,this]
  ·rw [if_neg h2];have:x=y:=UInt8.toNat_inj.1 (by omega);simp [this]
abbrev srtE(l:List (Str×Str)):Prop:=l.Pairwise fun x y=>cmpN x.1 y.1≤0
theorem nextN_key{c:Cu}{key:Str}{restart:Bool}{x:(Str×Str)×Cu}(h:nextN c key restart false=some x):cmpN key x.1.1≤0:=by
 unfold nextN at h;dsimp only at h;split at h
 ·cases h
 split at h
 ·cases h
 split at h
 ·cases h
 rename_i h3;cases h;have:¬cmpN (key.take (c.num 1024).1.toNat++(((((c.num 1024).2.num 1024).2.num 1024).2.take ((c.num 1024).2.num 1024).1).1)) key<0:=fun e=>h3 (.inl ⟨rfl,e⟩);have:=cmpN_neg key (key.take (c.num 1024).1.toNat++(((((c.num 1024).2.num 1024).2.num 1024).2.take ((c.num 1024).2.num 1024).1).1));show cmpN key (key.take (c.num 1024).1.toNat++(((((c.num 1024).2.num 1024).2.num 1024).2.take ((c.num 1024).2.num 1024).1).1))≤0;omega
theorem entRun_srt{raw:Str}{fr restart:Nat}:∀(k i:Nat) (key:Str) (c:Cu) (l:List (Str×Str)) {x:List (Str×Str)×Cu},entRun raw fr restart k i key c l=some x→(i=0→l=[])→srtE l→(∀y∈l,cmpN y.1 key≤0)→(∀y∈l,y.1.length≤1024∧y.2.length≤1024) →
  srtE x.1∧(∀y∈x.1,y.1.length≤1024∧y.2.length≤1024)∧x.1.length=l.length+k
 | 0,i,key,c,l,x,h,_,h1,_,h3=>by cases h;exact⟨h1,h3,rfl⟩
 | k+1,i,key,c,l,x,h,h0,h1,h2,h3=>by
  rw [entRun] at h;split at h
  ·cases h
  split at h
  ·cases h
  rename_i y hy;have hb:=nextN_b hy;have hk:∀z∈l,cmpN z.1 y.1.1≤0:=fun z hz=>by
   by_cases hi:i=0
   ·rw [h0 hi] at hz;cases hz
   ·have e:(i==0)=false:=by simp [hi]
    rw [e] at hy;exact cmpN_le (h2 z hz) (nextN_key hy)
  have hm:∀(P:Str×Str→Prop),(∀z∈l,P z)→P y.1→∀z∈l++[y.1],P z:=fun P ha hb z hz=>by
   rcases Lma.1 hz with hz | hz
   ·exact ha z hz
   ·rw [Lms.1 hz];exact hb
  have:=entRun_srt k (i+1) y.1.1 y.2 (l++[y.1]) h (fun e=>by omega) (List.pairwise_append.2 ⟨h1,List.pairwise_singleton _ _,fun a ha b hb=>by rw [Lms.1 hb];exact hk a ha⟩) (hm _ hk (by rw [cmpN_self];exact Int.le_refl _)) (hm _ h3 hb.2);refine⟨this.1,this.2.1,?_⟩;rw [this.2.2,Lla,List.length_singleton];omega
theorem parsedN_srt{raw:Str}{x:Nat×List (Str×Str)}(h:parsedN raw=some x):1≤x.1∧x.1≤64∧1≤x.2.length∧3*x.2.length≤raw.length∧srtE x.2∧∀y∈x.2,y.1.length≤1024∧y.2.length≤1024:=by
 unfold parsedN at h;dsimp only at h;split at h
 ·cases h
 split at h
 ·cases h
 rename_i h1 h2;split at h
 ·cases h
 split at h
 ·cases h
 rename_i y hy;split at h
 ·cases h
 cases h;have:=entRun_srt _ _ _ _ _ hy (fun _=>rfl) List.Pairwise.nil (by simp) (by simp);rw [List.length_nil,Nat.zero_add] at this;refine⟨by show 1≤wordN _;omega,by show wordN _≤64;omega,by show 1≤y.1.length;omega,by show 3*y.1.length≤_;omega,this.1,this.2.1⟩
theorem blockN_srt{tile:Str}{raw:Int}{x:Nat×List (Str×Str)}(h:(blockN tile raw).2=some x):1≤x.1∧x.1≤64∧1≤x.2.length∧3*x.2.length≤65536∧srtE x.2∧∀y∈x.2,y.1.length≤1024∧y.2.length≤1024:=by
 unfold blockN at h;split at h
 ·cases h
 rename_i hr;split at h
 ·cases h
 split at h
 ·cases h
 split at h
 ·cases h
 split at h
 ·cases h
 rename_i t ht;split at h
 ·cases h
 rename_i y hy;cases h;have hl:t.length=raw.toNat:=by
  unfold textN at ht;split at ht
  ·split at ht
   ·cases ht;assumption
   ·cases ht
  split at ht
  ·exact lzDec_len ht
  ·exact huffDec_len ht
 have:=parsedN_srt hy;refine⟨this.1,this.2.1,this.2.2.1,?_,this.2.2.2.2⟩;have:=this.2.2.2.1;omega
set_option maxRecDepth 100000
theorem go_104(x1:Int)(K:Int→Wp)(w:World)(h:ifK ((x1.tmod 2)==1) (K (bitI .xor .u32 (shrI .u32 x1 1) 2197175160) w) (K (shrI .u32 x1 1) w)):callK Pg 139 [.leaf (.int .u32 x1)] w (.one (.leaf (.int .u32))) K:=Fq (n:=.nil) CS_ok mixed Tryz.func139 (Eq.mpr (by kernel_rfl) h)
theorem go_105(sum1:Int)(b2:Sl)(K:Int→Wp)(w:World)(h:joinK [.int .u32] (fun k3=>loopL [.int .u32,Ki] (fun x5 i6 W7 g4=>ifK (decide (i6<(b2.len:Int))) (ix b2 1 i6 fun b8 o9=>ld W7 (.int .u8) b8 o9 fun n10=>joinK [.int .u32] (fun k11=>loopL [.int .u32,Ki] (fun x13 k14 W15 g12=>ifK (decide (k14<8)) (callK Pg 139 [.leaf (.int .u32 x13)] W15 (.one (.leaf (.int .u32))) fun n16 W17=>g12 n16 (w64 (k14+1)) W17) (k11 x13 W15)) [.int .u32 (bitI .xor .u32 x5 (IntKind.wrap .u32 (n10))),.int .i64 0] W7) fun x18 W19=>g4 x18 (w64 (i6+1)) W19) (k3 x5 W7)) [.int .u32 (bitI .xor .u32 (if IntKind.signed .u32 then -1 else IntKind.max .u32) sum1),.int .i64 0] w) fun x20 W21=>K (bitI .xor .u32 (if IntKind.signed .u32 then -1 else IntKind.max .u32) x20) W21):callK Pg 98 [.leaf (.int .u32 sum1),Az b2] w (.one (.leaf (.int .u32))) K:=Fq (n:=(n0 .nil (n0 .nil (n0 (n0 .nil (.mk (some [.tmp 5 (.leaf (.int .u32))]) [] [] .done (.mk none [.tmp 5 (.leaf (.int .u32)),.tmp 6 Li] [1] .done (n0 .nil (n0 (n0 (n0 .nil (n0 .nil (.mk (some [.tmp 5 (.leaf (.int .u32))]) [] [1,6] .done (.mk none [.tmp 5 (.leaf (.int .u32)),.tmp 7 Li] [1,6] .done .nil .nil) .nil))) .nil) .nil)) .nil) .nil)) .nil)))) CS_ok mixed Tryz.func98 (Eq.mpr (by kernel_rfl) h)
theorem go_106(b1:Sl)(K:Int→Wp)(w:World)(h:callK Pg 98 [.leaf (.int .u32 0),Az b1] w (.one (.leaf (.int .u32))) fun n2 W3=>K n2 W3):callK Pg 71 [Az b1] w (.one (.leaf (.int .u32))) K:=Fq (n:=.nil) CS_ok mixed Tryz.func71 (Eq.mpr (by kernel_rfl) h)
theorem go_107(b1:Sl)(K:Sl→Wp)(w:World)(h:al w 5 [] fun b2 W3=>ap W3 5 1 1 [.int .u8 0] (⟨some (b2,0),0,0⟩) b1 fun a4 W5=>callK Pg 71 [Az b1] W5 (.one (.leaf (.int .u32))) fun n6 W7=>al W7 5 [.int .u8 (IntKind.wrap .u8 (n6)),.int .u8 (IntKind.wrap .u8 (shrI .u32 n6 8)),.int .u8 (IntKind.wrap .u8 (shrI .u32 n6 16)),.int .u8 (IntKind.wrap .u8 (shrI .u32 n6 24))] fun b8 W9=>ap W9 5 1 1 [.int .u8 0] a4 (⟨some (b8,0),4,4⟩) fun a10 W11=>K a10 W11):callK Pg 49 [Az b1] w Oz K:=Fq (n:=.nil) CS_ok mixed Tryz.func49 (Eq.mpr (by kernel_rfl) h)
theorem go_108(a1:Sl)(b2:Sl)(K:Bool→Wp)(w:World)(h:ifK ((a1.len:Int) != (b2.len:Int)) (K false w) (joinK [] (fun k3=>loopL [Ki] (fun i5 W6 g4=>ifK (decide (i5<(a1.len:Int))) (drawK W6 fun D W7=>ix a1 1 i5 fun b8 o9=>ldD D W7 (.int .u8) b8 o9 fun n10=>ix b2 1 i5 fun b11 o12=>ldD D W7 (.int .u8) b11 o12 fun n13=>ifK (n10 != n13) (K false W7) (g4 (w64 (i5+1)) W7)) (k3 W6)) [.int .i64 0] w) fun W14=>K true W14)):callK Pg 50 [Az a1,Az b2] w Ob K:=Fq (n:=(n0 .nil (n0 .nil (n0 (n0 .nil (.mk (some []) [] [] .done (.mk none [.tmp 5 Li] [0,1] .done (n0 .nil (n0 (n0 (n0 (.mk none [] [] (tk [0,1,2,3,4,5,6,7,8] .done) .nil .nil) .nil) .nil) .nil)) .nil) .nil)) .nil)))) CS_ok mixed Tryz.func50 (Eq.mpr (by kernel_rfl) h)
theorem go_36(tile1:Sl)(K:Sl→Int→Wp)(w:World)(h:ifK (decide ((tile1.len:Int)<4)) (K (⟨none,0,0⟩) 11 w) (al w 5 [] fun b2 W3=>slx tile1 1 none (some (w64 ((tile1.len:Int)-4))) none fun s4=>ap W3 5 1 1 [.int .u8 0] (⟨some (b2,0),0,0⟩) s4 fun a5 W6=>callK Pg 49 [Az a5] W6 Oz fun a7 W8=>callK Pg 50 [Az a7,Az tile1] W8 Ob fun c9 W10=>ifK (!c9) (K (⟨none,0,0⟩) 10 W10) (K a5 0 W10))):callK Pg 28 [Az tile1] w (.tup [Ls,Li]) K:=Fq (n:=.nil) CS_ok mixed Tryz.func28 (Eq.mpr (by kernel_rfl) h)
theorem low_bit2(x:W32):(((x.toNat:Int).tmod 2)==1)=x.getLsbD 0:=by
 have h:((x.toNat:Int).tmod 2)=((x.toNat%2:Nat):Int):=by
  rw [show (2:Int)=((2:Nat):Int) from rfl];exact (Int.ofNat_tmod _ _).symm
 rw [h];have h2:x.getLsbD 0=decide (x.toNat%2=1):=by
  show x.toNat.testBit 0=_;rw [Nat.testBit_zero]
 rw [h2];rcases Nat.mod_two_eq_zero_or_one x.toNat with h | h<;>rw [h]<;>rfl
theorem rM_ok(x:W32){w:World}{K:Int→Wp}(hK:K ((stepB x).toNat:Int) w):callK Pg c_104 [.leaf (.int .u32 (x.toNat:Int))] w (.one (.leaf (.int .u32))) K:=by
 refine go_104 _ _ _ ?_;have hs:=shr_bv x 1 (by decide);have e1:((1:Nat):Int)=1:=rfl;rw [e1] at hs;rw [low_bit2,hs];unfold stepB at hK;refine Iq (fun h=>?_) fun h=>?_
 ·rw [if_pos h] at hK;have:=xor_bv (x >>> 1) polyB;have e2:((polyB:W32).toNat:Int)=2197175160:=rfl;rw [e2] at this;rw [this];exact hK
 ·rw [if_neg (by rw [h];decide)] at hK;exact hK
theorem byteB_it(x:W32)(c:UInt8):byteB x c=itB 8 (x ^^^ BitVec.ofNat 32 c.toNat):=rfl
theorem rExtend_ok(x0:W32){w:World}{s:Sl}{t:Str}(hr:RdS w ET s t)(hl:t.length≤1099511627776){K:Int→Wp}(hK:K ((extendB x0 t).toNat:Int) w) :
  callK Pg c_105 [.leaf (.int .u32 (x0.toNat:Int)),Az s] w (.one (.leaf (.int .u32))) K:=by
 refine go_105 _ _ _ _ ?_;refine join1 (a:=.int .u32) (fun (x:Int) u=>x=((extB (~~~x0) t).toNat:Int)∧u=w) ?_ ?_
 ·intro k hk;refine loop2 (k1:=.int .u32) (k2:=Ki) (fun (x:Int) (i:Int) u=>u=w∧∃j:Nat,i=j∧j≤t.length∧x=((extB (~~~x0) (t.take j)).toNat:Int)) (fun _ i _=>(t.length-i).toNat) (x1:=_) (x2:=0) rfl rfl ⟨rfl,0,rfl,by omega,not_bv x0⟩ ?_;rintro x i u ⟨rfl,j,rfl,hj,rfl⟩;rw [hr.len];refine Iq (fun h=>?_) fun h=>?_
  ·have hlt:j<t.length:=dlt h;refine hr.byte rfl hlt fun b1 o1 _ hc=>Lq (k:=.int .u8) ((t[j]).toNat:Int) hc ?_;rw [u8_bv,xor_bv];generalize hX:extB (~~~x0) (t.take j)=X;refine join1 (a:=.int .u32) (fun (x:Int) v=>x=((byteB X t[j]).toNat:Int)∧v=u) ?_ ?_
   ·intro k11 hk11;refine loop2 (k1:=.int .u32) (k2:=Ki) (fun (x:Int) (i:Int) v=>v=u∧∃n:Nat,i=n∧n≤8∧x=((itB n (X ^^^ BitVec.ofNat 32 (t[j]).toNat)).toNat:Int)) (fun _ i _=>(8-i).toNat) (x1:=_) (x2:=0) rfl rfl ⟨rfl,0,rfl,by decide,rfl⟩ ?_;rintro x i v ⟨rfl,n,rfl,hn,rfl⟩;refine Iq (fun h8=>?_) fun h8=>?_
    ·have h8:(n:Int)<8:=odt h8;refine rM_ok _ ?_;refine⟨⟨rfl,n+1,step64 (by omega),by omega,rfl⟩,?_⟩;rw [step64 (by omega)];omega
    ·have h8:¬(n:Int)<8:=odf h8;have:n=8:=by omega
     subst this;exact hk11 _ _ ⟨by rw [byteB_it],rfl⟩
   rintro x v ⟨rfl,rfl⟩;refine⟨⟨rfl,j+1,step64 (by omega),by omega,?_⟩,?_⟩
   ·rw [List.take_add_one,Lge hlt];unfold extB at hX ⊢;rw [Option.toList_some,List.foldl_append,hX];rfl
   ·rw [step64 (by omega)];omega
  ·have hge:t.length≤j:=dge h;refine hk _ _ ⟨?_,rfl⟩;rw [Ltl hge]
 rintro x u ⟨rfl,rfl⟩;rw [not_bv];exact hK
theorem rSum_ok{w:World}{s:Sl}{t:Str}(hr:RdS w ET s t)(hl:t.length≤1099511627776){K:Int→Wp}(hK:K ((sumB t).toNat:Int) w) :
  callK Pg c_106 [Az s] w (.one (.leaf (.int .u32))) K:=by
 refine go_106 _ _ _ ?_;exact rExtend_ok 0#32 hr hl hK
theorem vec0{α:Type}(E:Enc α)(b:Nat):VecL [(b,[])] E ⟨some (b,0),0,0⟩ []:=⟨rfl,Nlr _,.inr ⟨b,[],rfl,rfl,by simp⟩⟩
theorem rSeal_ok{w:World}{s:Sl}{t:Str}(hr:RdS w ET s t)(hl:t.length≤1099511627776){K:Sl→Wp}(hK:∀w' ro s',At w F0 ro w'→VecL ro ET s' (sealB t)→K s' w') :
  callK Pg c_107 [Az s] w Oz K:=by
 refine go_107 _ _ _ ?_;refine (At.init w F0).alK fun b2 w1 _ h1 _=>?_;refine appL (m:=[]) h1 (vec0 ET b2) (hr.quiet h1.mod) rfl rfl (by simp;omega) fun a4 ro2 w2 h2 v2 _ _=>?_;have h2:At w F0 ro2 w2:=h2;refine rSum_ok (hr.quiet h2.mod) hl ?_;refine h2.alK fun b8 w4 _ h4 _=>?_;have h4:At w F0 (ro2++[(b8,ET.cells (fourB (sumB t))++[])]) w4:=by rw [←four_cells];exact h4
 have h5:At w F0 ([(b8,ET.cells (fourB (sumB t))++[])]++ro2) w4:=h4.perm Lpc;have v4:VecL [(b8,ET.cells (fourB (sumB t))++[])] ET ⟨some (b8,0),4,4⟩ (fourB (sumB t)):=⟨rfl,Nlr _,.inr ⟨b8,[],rfl,rfl,by rw [Lan,Enc.cells_length];exact Nlr 4⟩⟩;refine appL h5 v2 (v4.rd fun p hp=>h5.own p (Lml _ hp)) rfl rfl (by simp [fourB];omega) fun s5 ro5 w5 h6 v5 _ _=>?_;exact hK _ _ _ (h6.sub (Lsr _ _)) (by simpa [sealB] using v5)
theorem rSame_ok{w:World}{s1 s2:Sl}{a b:Str}(h1:RdS w ET s1 a)(h2:RdS w ET s2 b)(hl:a.length≤1099511627776){K:Bool→Wp}(hK:∀w',Mod F0 w w'→K (decide (a=b)) w') :
  callK Pg c_108 [Az s1,Az s2] w Ob K:=by
 refine go_108 _ _ _ _ ?_;rw [h1.len,h2.len];refine Iq (fun q=>?_) fun q=>?_
 ·have q:¬a.length=b.length:=fun h=>by rw [h] at q;simp at q
  rw [Dcf (fun h=>q (by rw [h]))] at hK;exact hK w (Mod.refl _ _)
 have q:a.length=b.length:=by
  have:((a.length:Int)=b.length):=by simpa using q
  omega
 refine join0 (fun u=>a=b∧Mod F0 w u) ?_ (fun u ⟨e,hM⟩=>by rw [Dct e] at hK;exact hK u hM);intro k hk;refine loop1 (k:=Ki) (fun (i:Int) u=>Mod F0 w u∧∃j:Nat,i=j∧j≤a.length∧a.take j=b.take j) (fun i _=>(a.length-i).toNat) (x:=0) rfl ⟨Mod.refl _ _,0,rfl,Nzl _,rfl⟩ ?_;rintro i u ⟨hM,j,rfl,hj,he⟩;refine Iq (fun h=>?_) fun h=>?_
 ·have hlt:j<a.length:=dlt h;have hd:=mod0 hM (Mq u);refine⟨F0,(h1.quiet hd).byte rfl hlt fun b1 o1 _ hc1=>Lw (k:=.int .u8) ((a[j]).toNat:Int) id hc1 ((h2.quiet hd).byte rfl (by omega) fun b2 o2 _ hc2=>Lw (k:=.int .u8) ((b[j]'(by omega)).toNat:Int) id hc2 ?_)⟩;have:=u8_ne (x:=a[j]) (y:=b[j]'(by omega));have h3:((((a[j]).toNat:Nat):Int) != (((b[j]'(by omega)).toNat:Nat):Int)) = !decide (a[j]=b[j]'(by omega)):=this;rw [h3];refine Iq (fun e=>?_) fun e=>?_
  ·have e:a[j]≠b[j]'(by omega):=by simpa using e
   rw [Dcf (fun h=>by subst h;exact e rfl)] at hK;exact hK _ hd
  ·have e:a[j]=b[j]'(by omega):=by simpa using e
   refine⟨⟨hd,j+1,step64 (by omega),by omega,?_⟩,by rw [step64 (by omega)];omega⟩;rw [List.take_add_one,List.take_add_one,he,Lge hlt,Lge (by omega),e]
 ·have hge:a.length≤j:=dge h;rw [Ltl hge,Ltl (by omega)] at he;exact hk u ⟨he,hM⟩
theorem rOpen_ok{w:World}{s:Sl}{t:Str}(hr:RdS w ET s t)(hl:t.length≤1099511627776){K:Sl→Int→Wp}(hK:∀w' ro s',At w F0 ro w'→VecL ro ET s' (openB t).2→K s' (openB t).1 w') :
  callK Pg c_36 [Az s] w (.tup [Ls,Li]) K:=by
 refine go_36 _ _ _ ?_;rw [hr.len];refine Iq (fun h=>?_) fun h=>?_
 ·have h:((t.length:Nat):Int)<4:=odt h;have e:openB t=(11,[]):=by unfold openB;rw [if_pos (by omega)]
  rw [e] at hK;exact hK w [] _ (At.none (Mod.refl _ _)) (VecL.nil ET)
 have h:¬((t.length:Nat):Int)<4:=odf h;have hn:w64 (((t.length:Nat):Int)-4)=((t.length-4:Nat):Int):=by rw [Wq (by omega) (by omega)];omega
 rw [hn];have eo:openB t=if fourB (sumB (t.take (t.length-4)))=t.drop (t.length-4) then (0,t.take (t.length-4)) else (10,[]):=by unfold openB;rw [if_neg (by omega)]
 rw [eo] at hK;generalize hk:t.length-4=n at hK;have hnl:n≤t.length:=by omega
 refine (At.init w F0).alK fun b2 w1 _ h1 _=>(hr.quiet h1.mod).toK hnl rfl rfl fun s4 h4 _=>?_;have htl:(t.take n).length≤1099511627776:=by rw [Llt];omega
 refine appL (m:=[]) h1 (vec0 ET b2) h4 rfl rfl (by simp;omega) fun a5 ro2 w2 h2 v2 _ _=>?_;have h2:At w F0 ro2 w2:=h2;refine rSeal_ok (v2.rdAt0 h2) htl fun w3 ro3 a7 h3 v3=>?_;have h5:=h2.join h3;have htl2:(sealB (t.take n)).length≤1099511627776:=by
  unfold sealB;rw [Lla,Llt];have:(fourB (sumB (t.take n))).length=4:=rfl;omega
 refine rSame_ok (v3.rd fun p hp=>h5.own p (Lmr _ hp)) (hr.quiet h5.mod) htl2 fun w4 M4=>?_;have h6:=h5.keep0 M4 fun _=>id;have eq:sealB (t.take n)=t↔fourB (sumB (t.take n))=t.drop n:=by
  unfold sealB;constructor
  ·intro e;have:=congrArg (List.drop n) e;rw [List.drop_append,Ldn (by rw [Llt];omega),Llt,Nat.min_eq_left hnl,Nat.sub_self] at this;simpa using this
  ·intro e;rw [e,List.take_append_drop]
 refine Iq (fun q=>?_) fun q=>?_
 ·have q:¬sealB (t.take n)=t:=by simpa using q
  rw [if_neg (fun h=>q (eq.2 h))] at hK;exact hK w4 [] _ (At.none h6.mod) (VecL.nil ET)
 ·have q:sealB (t.take n)=t:=by simpa using q
  rw [if_pos (eq.1 q)] at hK;exact hK w4 ro2 a5 (h6.sub (Lsl _ _)) (by simpa using v2)
set_option maxRecDepth 100000
theorem go_109(v1:Int)(K:Sl→Wp)(w:World)(h:ifK (decide (v1<0)) (K (⟨none,0,0⟩) w) (joinK [Ki,.sl] (fun k2=>loopL [Ki,.sl] (fun v4 b5 W6 g3=>ifK (decide (128≤v4)) (al W6 5 [.int .u8 (IntKind.wrap .u8 (w64 ((v4.tmod 128)+128)))] fun b7 W8=>ap W8 5 1 1 [.int .u8 0] b5 (⟨some (b7,0),1,1⟩) fun a9 W10=>g3 (w64 (v4.tdiv 128)) a9 W10) (k2 v4 b5 W6)) [.int .i64 v1,.sl (⟨none,0,0⟩)] w) fun v11 b12 W13=>al W13 5 [.int .u8 (IntKind.wrap .u8 (v11))] fun b14 W15=>ap W15 5 1 1 [.int .u8 0] b12 (⟨some (b14,0),1,1⟩) fun a16 W17=>K a16 W17)):callK Pg 143 [Ai v1] w Oz K:=Fq (n:=(n0 .nil (n0 .nil (n0 .nil (n0 (.mk (some [.tmp 0 Li,.tmp 3 Ls]) [] [] .done (.mk none [.tmp 0 Li,.tmp 3 Ls] [] .done .nil .nil) .nil) .nil))))) CS_ok mixed Tryz.func143 (Eq.mpr (by kernel_rfl) h)
theorem go_110(b1:Sl)(K:Int→Int→Int→Wp)(w:World)(h:joinK [] (fun k2=>loopL [Ki,Ki,Ki] (fun v4 unit5 i6 W7 g3=>ifK (decide (i6<(b1.len:Int))) (ix b1 1 i6 fun b8 o9=>ld W7 (.int .u8) b8 o9 fun n10=>ix b1 1 i6 fun b11 o12=>ld W7 (.int .u8) b11 o12 fun n13=>ifK (decide (n13<128)) (joinK [.bool] (fun k14=>ifK (decide (0<i6)) (ix b1 1 i6 fun b15 o16=>ld W7 (.int .u8) b15 o16 fun n17=>k14 (n17==0) W7) (k14 false W7)) fun t3918 W19=>ifK t3918 (K 0 0 21 W19) (K (w64 (v4+(w64 (((w64 (n10)).tmod 128)*unit5)))) (w64 (i6+1)) 0 W19)) (ifK (i6==8) (K 0 0 21 W7) (g3 (w64 (v4+(w64 (((w64 (n10)).tmod 128)*unit5)))) (w64 (unit5*128)) (w64 (i6+1)) W7))) (k2 W7)) [.int .i64 0,.int .i64 1,.int .i64 0] w) fun W20=>K 0 0 20 W20):callK Pg 140 [Az b1] w (.tup [Li,Li,Li]) K:=Fq (n:=(n0 .nil (n0 .nil (n0 .nil (n0 (n0 .nil (.mk (some []) [] [] .done (.mk none [.tmp 5 Li,.tmp 6 Li,.tmp 7 Li] [0] .done (n0 .nil (n0 (n0 (n0 .nil (n0 .nil (n0 (n0 .nil (n0 (n0 (n0 (.mk (some [.tmp 39 Lb]) [] [5,7] .done .nil .nil) .nil) .nil) .nil)) .nil))) .nil) .nil)) .nil) .nil)) .nil))))) CS_ok mixed Tryz.func140 (Eq.mpr (by kernel_rfl) h)
theorem go_112(v1:Int)(n2:Int)(K:Sl→Wp)(w:World)(h:joinK [.bool] (fun k3=>ifK (decide (n2<1)) (k3 true w) (k3 (decide (8<n2)) w)) fun t124 W5=>ifK t124 (K (⟨none,0,0⟩) W5) (joinK [.sl] (fun k6=>loopL [.int .u64,.sl,Ki] (fun v8 b9 i10 W11 g7=>ifK (decide (i10<n2)) (al W11 5 [.int .u8 (IntKind.wrap .u8 (v8.tmod 256))] fun b12 W13=>ap W13 5 1 1 [.int .u8 0] b9 (⟨some (b12,0),1,1⟩) fun a14 W15=>g7 (IntKind.wrap .u64 (v8.tdiv 256)) a14 (w64 (i10+1)) W15) (k6 b9 W11)) [.int .u64 v1,.sl (⟨none,0,0⟩),.int .i64 0] W5) fun b16 W17=>K b16 W17)):callK Pg 151 [.leaf (.int .u64 v1),Ai n2] w Oz K:=Fq (n:=(n0 .nil (n0 .nil (n0 (n0 (.mk (some [.tmp 12 Lb]) [] [0,1,5] .done .nil .nil) .nil) (n0 (n0 .nil (.mk (some [.tmp 5 Ls]) [] [] .done (.mk none [.tmp 0 (.leaf (.int .u64)),.tmp 5 Ls,.tmp 6 Li] [1] .done .nil .nil) .nil)) .nil))))) CS_ok mixed Tryz.func151 (Eq.mpr (by kernel_rfl) h)
theorem go_111(b1:Sl)(K:Int→Wp)(w:World)(h:joinK [.int .u64] (fun k2=>loopL [.int .u64,.int .u64,Ki] (fun v4 unit5 i6 W7 g3=>joinK [.bool] (fun k8=>ifK (decide (i6<(b1.len:Int))) (k8 (decide (i6<8)) W7) (k8 false W7)) fun t139 W10=>ifK t139 (ix b1 1 i6 fun b11 o12=>ld W10 (.int .u8) b11 o12 fun n13=>g3 (IntKind.wrap .u64 (v4+(IntKind.wrap .u64 ((IntKind.wrap .u64 (n13))*unit5)))) (IntKind.wrap .u64 (unit5*256)) (w64 (i6+1)) W10) (k2 v4 W10)) [.int .u64 0,.int .u64 1,.int .i64 0] w) fun v14 W15=>K v14 W15):callK Pg 47 [Az b1] w (.one (.leaf (.int .u64))) K:=Fq (n:=(n0 .nil (n0 .nil (n0 .nil (n0 (n0 .nil (.mk (some [.tmp 3 (.leaf (.int .u64))]) [] [] .done (.mk none [.tmp 3 (.leaf (.int .u64)),.tmp 4 (.leaf (.int .u64)),.tmp 5 Li] [0] .done (n0 (n0 (.mk (some [.tmp 13 Lb]) [] [0,3,4,5] .done .nil .nil) .nil) .nil) .nil) .nil)) .nil))))) CS_ok mixed Tryz.func47 (Eq.mpr (by kernel_rfl) h)
theorem go_113(a1:List UInt8)(b2:List UInt8)(K:Int→Wp)(w:World)(h:joinK [Ki] (fun k3=>loopL [Ki] (fun n5 W6 g4=>joinK [.bool] (fun k7=>drawK W6 fun D W8=>ifK (decide (n5<(a1.length:Int))) (ifK (decide (n5<(b2.length:Int))) (sx a1 n5 fun c9=>sx b2 n5 fun c10=>k7 (c9==c10) W8) (k7 false W8)) (k7 false W8)) fun t2411 W12=>ifK t2411 (g4 (w64 (n5+1)) W12) (k3 n5 W12)) [.int .i64 0] w) fun n13 W14=>K n13 W14):callK Pg 109 [Au a1,Au b2] w Oi K:=Fq (n:=(n0 .nil (n0 .nil (n0 (.mk (some [.tmp 5 Li]) [] [] .done (.mk none [.tmp 5 Li] [0,1] .done (n0 (n0 (.mk (some [.tmp 24 Lb]) [] [0,1,5] (tk [0,1,2,3,4] (.split 4 (.take 5 (.take 6 (.take 7 (.take 8 (.take 9 (.take 10 (.split 10 (.take 11 (.take 12 (.take 13 (.take 14 (.take 15 (.take 16 (.take 17 (.take 18 .done)))))))) (.take 11 (.take 12 (.take 13 (.take 14 (.take 15 (.take 16 (.take 17 (.take 18 .done))))))))))))))) (.take 5 (.take 6 (.take 7 (.take 8 (.take 9 (.take 10 (.take 11 (.take 12 (.take 13 (.take 14 (.take 15 (.take 16 (.take 17 (.take 18 .done)))))))))))))))) .nil .nil) .nil) .nil) .nil) .nil) .nil)))) CS_ok mixed Tryz.func109 (Eq.mpr (by kernel_rfl) h)
theorem go_114(a1:List UInt8)(b2:List UInt8)(K:Int→Wp)(w:World)(h:callK Pg 109 [Au a1,Au b2] w Oi fun n3 W4=>joinK [.bool] (fun k5=>ifK (n3==(a1.length:Int)) (k5 (n3==(b2.length:Int)) W4) (k5 false W4)) fun t96 W7=>ifK t96 (K 0 W7) (ifK (n3==(a1.length:Int)) (K (-1) W7) (ifK (n3==(b2.length:Int)) (K 1 W7) (drawK W7 fun D W8=>sx a1 n3 fun c9=>sx b2 n3 fun c10=>ifK (decide (c9<c10)) (K (-1) W8) (K 1 W8))))):callK Pg 113 [Au a1,Au b2] w Oi K:=Fq (n:=(n0 .nil (n0 .nil (n0 (n0 (n0 (.mk (some [.tmp 9 Lb]) [] [0,1,5] .done .nil .nil) (n0 .nil (n0 .nil (n0 .nil (n0 .nil (n0 .nil (n0 (.mk none [] [] (tk [0,1,2,3,4,5,6,7] .done) .nil .nil) .nil))))))) .nil) .nil)))) CS_ok mixed Tryz.func113 (Eq.mpr (by kernel_rfl) h)
theorem go_120(b1:Sl)(K:PA→Wp)(w:World)(h:al w 213 [.sl (⟨none,0,0⟩),.int .i64 0,.lit false,.int .i64 0,.int .i64 0] fun b2 W3=>dr (some (b2,0)) fun b4 o5=>ld W3 .sl b4 o5 fun a6=>ap W3 5 1 1 [.int .u8 0] a6 b1 fun a7 W8=>dr (some (b2,0)) fun b9 o10=>st W8 b9 o10 [.sl a7] fun W11=>K (some (b2,0)) W11):callK Pg 99 [Az b1] w Oq K:=Fq (n:=.nil) CS_ok mixed Tryz.func99 (Eq.mpr (by kernel_rfl) h)
theorem go_115(c1:PA)(e2:Int)(K:Wp)(w:World)(h:joinK [.bool] (fun k3=>ifK c1.isNone (k3 true w) (dr c1 fun b4 o5=>ld w .bool b4 (o5+2) fun c6=>ifK c6 (k3 true w) (k3 (e2==0) w))) fun t157 W8=>ifK t157 (K W8) (dr c1 fun b9 o10=>st W8 b9 (o10+2) [.lit true] fun W11=>dr c1 fun b12 o13=>ld W11 Ki b12 (o13+1) fun n14=>dr c1 fun b15 o16=>st W11 b15 (o16+3) [.int .i64 e2,.int .i64 n14] fun W17=>K W17)):callK Pg 141 [Ap c1,Ai e2] w (.tup []) K:=Fq (n:=(n0 (n0 (.mk (some [.tmp 15 Lb]) [] [0,1] .done .nil .nil) .nil) .nil)) CS_ok mixed Tryz.func141 (Eq.mpr (by kernel_rfl) h)
theorem go_116(c1:PA)(K:Int→Wp)(w:World)(h:joinK [.bool] (fun k2=>ifK c1.isNone (k2 true w) (dr c1 fun b3 o4=>ld w .bool b3 (o4+2) fun c5=>k2 c5 w)) fun t106 W7=>ifK t106 (K 0 W7) (drawK W7 fun D W8=>dr c1 fun b9 o10=>ldD D W8 .sl b9 o10 fun a11=>dr c1 fun b12 o13=>ldD D W8 Ki b12 (o13+1) fun n14=>K (w64 ((a11.len:Int)-n14)) W8)):callK Pg 101 [Ap c1] w Oi K:=Fq (n:=(n0 .nil (n0 (n0 (.mk (some [.tmp 10 Lb]) [] [0] .done .nil .nil) .nil) (n0 (.mk none [] [] (tk [0,1,2,3,4,5,6,7,8,9,10] .done) .nil .nil) .nil)))) CS_ok mixed Tryz.func101 (Eq.mpr (by kernel_rfl) h)
theorem go_117(c1:PA)(most2:Int)(K:Int→Wp)(w:World)(h:joinK [.bool] (fun k3=>ifK c1.isNone (k3 true w) (dr c1 fun b4 o5=>ld w .bool b4 (o5+2) fun c6=>k3 c6 w)) fun t157 W8=>ifK t157 (K 0 W8) (drawK W8 fun D W9=>dr c1 fun b10 o11=>ldD D W9 .sl b10 o11 fun a12=>dr c1 fun b13 o14=>ldD D W9 Ki b13 (o14+1) fun n15=>slx a12 1 (some n15) none none fun s16=>callK Pg 140 [Az s16] W9 (.tup [Li,Li,Li]) fun n17 n18 n19 W20=>Mod D W9 W20∧joinK [.bool] (fun k21=>ifK (n19==0) (k21 (decide (most2<n17)) W20) (k21 false W20)) fun t3622 W23=>joinK [Ki] (fun k24=>ifK t3622 (k24 23 W23) (k24 n19 W23)) fun e25 W26=>ifK (e25 != 0) (callK Pg 141 [Ap c1,Ai e25] W26 (.tup []) fun W27=>K 0 W27) (dr c1 fun b28 o29=>ld W26 Ki b28 (o29+1) fun n30=>dr c1 fun b31 o32=>st W26 b31 (o32+1) [.int .i64 (w64 (n30+n18))] fun W33=>K n17 W33))):callK Pg 100 [Ap c1,Ai most2] w Oi K:=Fq (n:=(n0 .nil (n0 (n0 (.mk (some [.tmp 15 Lb]) [] [0,1] .done .nil .nil) .nil) (n0 (.mk none [] [] (tk [0,1,2,3,4,5,6,7,8] (.eff 9 (.take 10 (.take 11 (.take 12 (.take 13 (.take 14 (.take 15 (.take 16 .done))))))))) .nil .nil) (n0 (n0 (.mk (some [.tmp 36 Lb]) [] [0,5,6,7] .done .nil .nil) (.mk (some [.tmp 7 Li]) [] [0,5,6] .done .nil .nil)) .nil))))) CS_ok mixed Tryz.func100 (Eq.mpr (by kernel_rfl) h)
theorem go_118(c1:PA)(n2:Int)(K:Sl→Wp)(w:World)(h:joinK [.bool] (fun k3=>ifK c1.isNone (k3 true w) (dr c1 fun b4 o5=>ld w .bool b4 (o5+2) fun c6=>k3 c6 w)) fun t137 W8=>ifK t137 (K (⟨none,0,0⟩) W8) (ifK (decide (n2<0)) (callK Pg 141 [Ap c1,Ai 23] W8 (.tup []) fun W9=>K (⟨none,0,0⟩) W9) (callK Pg 101 [Ap c1] W8 Oi fun n10 W11=>ifK (decide (n10<n2)) (callK Pg 141 [Ap c1,Ai 20] W11 (.tup []) fun W12=>K (⟨none,0,0⟩) W12) (drawK W11 fun D W13=>dr c1 fun b14 o15=>ldD D W13 .sl b14 o15 fun a16=>dr c1 fun b17 o18=>ldD D W13 Ki b17 (o18+1) fun n19=>dr c1 fun b20 o21=>ldD D W13 Ki b20 (o21+1) fun n22=>slx a16 1 (some n19) (some (w64 (n22+n2))) none fun s23=>ap W13 5 1 1 [.int .u8 0] (⟨none,0,0⟩) s23 fun a24 W25=>Mod D W13 W25∧dr c1 fun b26 o27=>ld W25 Ki b26 (o27+1) fun n28=>dr c1 fun b29 o30=>st W25 b29 (o30+1) [.int .i64 (w64 (n28+n2))] fun W31=>K a24 W31)))):callK Pg 142 [Ap c1,Ai n2] w Oz K:=Fq (n:=(n0 .nil (n0 .nil (n0 (n0 (.mk (some [.tmp 13 Lb]) [] [0,1,5] .done .nil .nil) .nil) (n0 .nil (n0 .nil (n0 (.mk none [] [] (tk [0,1,2,3,4,5,6,7,8,9,10,11,12,13,14,15] (.eff 16 (.take 17 .done))) .nil .nil) .nil))))))) CS_ok mixed Tryz.func142 (Eq.mpr (by kernel_rfl) h)
theorem go_119(c1:PA)(most2:Int)(K:List UInt8→Wp)(w:World)(h:joinK [.bool] (fun k3=>ifK c1.isNone (k3 true w) (dr c1 fun b4 o5=>ld w .bool b4 (o5+2) fun c6=>k3 c6 w)) fun t157 W8=>ifK t157 (K [] W8) (dr c1 fun b9 o10=>ld W8 Ki b9 (o10+1) fun n11=>callK Pg 100 [Ap c1,Ai most2] W8 Oi fun n12 W13=>dr c1 fun b14 o15=>ld W13 .bool b14 (o15+2) fun c16=>ifK c16 (K [] W13) (callK Pg 101 [Ap c1] W13 Oi fun n17 W18=>ifK (decide (n17<n12)) (dr c1 fun b19 o20=>st W18 b19 (o20+1) [.int .i64 n11] fun W21=>callK Pg 141 [Ap c1,Ai 20] W21 (.tup []) fun W22=>K [] W22) (callK Pg 142 [Ap c1,Ai n12] W18 Oz fun a23 W24=>opF Pg (vS (convert 22 9 (LV.toV (.sl a23)))) W24 Ot fun s26 W25=>K s26 W25)))):callK Pg 102 [Ap c1,Ai most2] w Ot K:=Fq (n:=(n0 .nil (n0 (n0 (.mk (some [.tmp 15 Lb]) [] [0,1] .done .nil .nil) .nil) .nil))) CS_ok mixed Tryz.func102 (Eq.mpr (by kernel_rfl) h)
theorem rPut_ok{v:Nat}(hv:v<9223372036854775808){w:World}{K:Sl→Wp}(hK:∀w' ro s',At w F0 ro w'→VecL ro ET s' (putN v)→K s' w'):callK Pg c_109 [Ai (v:Int)] w Oz K:=by
 refine go_109 _ _ _ ?_;have hlen:(putN v).length≤9:=putN_len v 8 (by omega);refine ifK_f (Dcf (Int.not_lt.2 (Int.natCast_nonneg v))) ?_;refine join2 (fun (x:Int) (b:Sl) u=>∃(m:Nat) (t:Str) (ro:BL),x=(m:Int)∧m<128∧At w F0 ro u∧VecL ro ET b t∧t++putN m=putN v) ?_ ?_
 ·intro k hk;refine loop2 (k1:=Ki) (k2:=.sl) (fun (x:Int) (b:Sl) u=>∃(m:Nat) (t:Str) (ro:BL),x=(m:Int)∧m≤v∧At w F0 ro u∧VecL ro ET b t∧t++putN m=putN v) (fun x _ _=>x.toNat) (x1:=(v:Int)) (x2:=⟨none,0,0⟩) rfl rfl ⟨v,[],[],rfl,Nlr _,At.init w F0,VecL.nil ET,rfl⟩ ?_;rintro x b u ⟨m,t,ro,rfl,hm,hA,hV,he⟩;refine Iq (fun h=>?_) fun h=>?_
  ·have h:(128:Int)≤(m:Int):=odt h;have h:128≤m:=by omega
   have hlt:t.length≤9:=by
    have:=congrArg List.length he;rw [Lla] at this;omega
   have e1:((m:Int).tdiv 128)=((m/128:Nat):Int):=tdivN m 128;have e2:((m:Int).tmod 128)=((m%128:Nat):Int):=tmodN m 128;rw [e1,e2,w64N (by omega)];refine push_ok (m:=[]) hA hV (by omega) (c:=UInt8.ofNat (m%128+128)) ?_ fun s' ro' w' h' v' _=>⟨⟨m/128,_,ro',rfl,by omega,h',v',?_⟩,by omega⟩
   ·rw [u8_of _ (by omega),Wq (by omega) (by omega),wrap_u8];omega
   ·rw [Laa,List.singleton_append,←putN_big h];exact he
  ·have h:¬(128:Int)≤(m:Int):=odf h;exact hk _ _ _ ⟨m,t,ro,rfl,by omega,hA,hV,he⟩
 rintro x b u ⟨m,t,ro,rfl,hm,hA,hV,he⟩;rw [putN_small hm] at he;have hlt:t.length≤9:=by
  have:=congrArg List.length he;rw [Lla] at this;omega
 refine push_ok (m:=[]) hA hV (by omega) (c:=UInt8.ofNat m) ?_ fun s' ro' w' h' v' _=>?_
 ·rw [u8_of _ (by omega),wrap_u8];omega
 ·rw [he] at v';exact hK _ _ _ h' v'
theorem rGet_ok{w:World}{s:Sl}{t:Str}(hr:RdS w ET s t)(hl:t.length≤1099511627776){K:Int→Int→Int→Wp}(hK:K ((getN t).1:Int) ((getN t).2.1:Int) (getN t).2.2 w) :
  callK Pg c_110 [Az s] w (.tup [Li,Li,Li]) K:=by
 refine go_110 _ _ _ ?_;refine join0 (fun u=>u=w∧getN t=(0,0,20)) ?_ ?_;rotate_left
 ·rintro u ⟨rfl,e⟩;rw [e] at hK;exact hK
 intro k hk;refine loop3 (k1:=Ki) (k2:=Ki) (k3:=Ki) (fun (v:Int) (n:Int) (i:Int) u=>u=w∧∃m j:Nat,v=(m:Int)∧n=((128^j:Nat):Int)∧i=(j:Int)∧j≤t.length∧j≤8∧m<128^j∧getF j m (t.drop j)=getN t) (fun _ _ i _=>(t.length-i).toNat) (x1:=0) (x2:=1) (x3:=0) rfl rfl rfl ⟨rfl,0,0,rfl,rfl,rfl,by omega,by omega,by decide,rfl⟩ ?_;rintro v n i u ⟨rfl,m,j,rfl,rfl,rfl,hj,hj8,hm,hg⟩;rw [hr.len];refine Iq (fun h=>?_) fun h=>?_;rotate_left
 ·have h:t.length≤j:=dge h;rw [Ldn h] at hg;exact hk _ ⟨rfl,hg.symm⟩
 have hlt:j<t.length:=dlt h;have rd:∀{K:Int→Prop},K ((t[j]).toNat:Int)→Go.Vw.ix s 1 (j:Int) fun b o=>Go.Vw.ld u (.int .u8) b o K:=fun hK=>hr.byte rfl hlt fun b o _ hc=>Lq (k:=.int .u8) ((t[j]).toNat:Int) hc hK;have hx:t[j].toNat<256:=t[j].toNat_lt;rw [List.drop_eq_getElem_cons hlt] at hg;refine rd (rd ?_);have hp8:(128:Nat)^j≤128^8:=Nat.pow_le_pow_right (by decide) hj8;have hp8':(128:Nat)^8=72057594037927936:=by decide
 have hpos:0<(128:Nat)^j:=Nat.pow_pos (by decide);have hbd:m+(t[j].toNat%128)*128^j<9223372036854775808:=by
  have:(t[j].toNat%128)*128^j≤127*128^j:=Nat.mul_le_mul_right _ (by omega);omega
 have ev:w64 ((m:Int)+w64 (((w64 (t[j].toNat:Int)).tmod 128)*((128^j:Nat):Int)))=((m+(t[j].toNat%128)*128^j:Nat):Int):=by
  have e1:(((t[j].toNat:Nat):Int).tmod 128)=((t[j].toNat%128:Nat):Int):=tmodN _ 128;rw [w64N (by omega),e1,←Int.natCast_mul,w64N (by omega),←Int.natCast_add,w64N (by omega)]
 rw [ev];clear ev;generalize hcx:t[j]=x at hg hx rd hbd;unfold getF at hg;have hps:(128:Nat)^(j+1)=128^j*128:=Nat.pow_succ ..;generalize hpp:(128:Nat)^j=pw at hg hbd hp8 hpos hps ⊢;refine Iq (fun hs=>?_) fun hs=>?_
 ·have hs:((x.toNat:Nat):Int)<128:=odt hs;rw [if_neg (by omega),if_pos (by omega)] at hg;refine join1 (a:=.bool) (fun c v'=>c=decide (x.toNat=0∧0<j)∧v'=u) ?_ ?_
  ·intro k14 hk14;refine Iq (fun h0=>rd (hk14 _ _ ⟨?_,rfl⟩)) fun h0=>hk14 _ _ ⟨?_,rfl⟩
   ·have h0:(0:Int)<(j:Int):=odt h0;show (((x.toNat:Nat):Int)==0)=_;rw [Bei,beq_iff_eq,Det];omega
   ·have h0:¬(0:Int)<(j:Int):=odf h0;exact (Dcf (fun q=>by omega)).symm
  rintro c v' ⟨rfl,rfl⟩;refine Iq (fun h=>?_) fun h=>?_
  ·rw [if_pos (odt h)] at hg;rw [←hg] at hK;exact hK
  ·rw [if_neg (odf h)] at hg;rw [←hg] at hK;have em:x.toNat%128=x.toNat:=Nat.mod_eq_of_lt (by omega);rw [em,step64 (by omega)];exact hK
 have hs:¬((x.toNat:Nat):Int)<128:=odf hs;have e8:(((j:Nat):Int)==8)=decide (j=8):=by
  rw [Bei,beq_iff_eq,Det];omega
 rw [e8];refine Iq (fun h=>?_) fun h=>?_
 ·have h:j=8:=odt h;rw [if_pos ⟨h,by omega⟩] at hg;rw [←hg] at hK;exact hK
 have h:¬j=8:=odf h;rw [if_neg (fun q=>h q.1),if_neg (by omega)] at hg;have em:x.toNat%128=x.toNat-128:=by omega
 rw [em] at hbd ⊢;have eu:w64 ((pw:Int)*128)=((128^(j+1):Nat):Int):=by
  have hj7:(128:Nat)^j≤128^7:=Nat.pow_le_pow_right (by decide) (by omega);have hj7':(128:Nat)^7=562949953421312:=by decide
  rw [hpp] at hj7;rw [hps,Wq (by omega) (by omega)];omega
 rw [eu,step64 (by omega)];refine⟨⟨rfl,_,j+1,rfl,rfl,rfl,by omega,by omega,?_,hg⟩,by omega⟩;have:(x.toNat-128)*pw≤127*pw:=Nat.mul_le_mul_right _ (by omega);rw [hps];rw [hpp] at hm;omega
theorem rWord_ok{w:World}{s:Sl}{t:Str}(hr:RdS w ET s t)(hl:t.length≤1099511627776){K:Int→Wp}(hK:K (wordN t:Int) w):callK Pg c_111 [Az s] w (.one (.leaf (.int .u64))) K:=by
 refine go_111 _ _ _ ?_;refine join1 (a:=.int .u64) (fun (v:Int) u=>v=(wordN t:Int)∧u=w) ?_ (by rintro v u ⟨rfl,rfl⟩;exact hK);intro k hk;refine loop3 (k1:=.int .u64) (k2:=.int .u64) (k3:=Ki) (fun (v:Int) (n:Int) (i:Int) u=>u=w∧∃j:Nat,i=(j:Int)∧j≤min t.length 8∧v=(wordF (t.take j):Int)∧(j<8→n=((256^j:Nat):Int))) (fun _ _ i _=>(8-i).toNat) (x1:=0) (x2:=1) (x3:=0) rfl rfl rfl ⟨rfl,0,rfl,Nzl _,rfl,fun _=>rfl⟩ ?_;rintro v n i u ⟨rfl,j,rfl,hj,rfl,hn⟩;rw [hr.len];refine join1 (a:=.bool) (fun q v=>q=decide (j<t.length∧j<8)∧v=u) ?_ ?_
 ·intro k8 hk8;refine Iq (fun h=>hk8 _ _ ⟨?_,rfl⟩) fun h=>hk8 _ _ ⟨?_,rfl⟩
  ·have h:=dlt h;show decide ((j:Int)<8)=_;rw [Bei,Det,Det];omega
  ·have h:=dge h;exact (Dcf (by omega)).symm
 rintro q v ⟨rfl,rfl⟩;refine Iq (fun h=>?_) fun h=>?_
 ·have h:=odt h;have hjt:=h.1;have hj8:=h.2;rw [hn hj8];refine hr.byte rfl hjt fun b o _ hc=>Lq (k:=.int .u8) ((t[j]).toNat:Int) hc ?_;have hb:t[j].toNat<256:=t[j].toNat_lt;have hlen:(t.take j).length=j:=by rw [Llt];omega
  have hw:=wordF_lt (t.take j);rw [hlen] at hw;have hp7:(256:Nat)^j≤256^7:=Nat.pow_le_pow_right (by decide) (by omega);have hp7':(256:Nat)^7=72057594037927936:=by decide
  have hmul:t[j].toNat*256^j≤255*256^j:=Nat.mul_le_mul_right _ (by omega);have e1:IntKind.wrap .u64 (t[j].toNat:Int)=(t[j].toNat:Int):=by rw [wrap_u64];omega
  have e2:IntKind.wrap .u64 ((t[j].toNat:Int)*((256^j:Nat):Int))=((t[j].toNat*256^j:Nat):Int):=by rw [←Int.natCast_mul,wrap_u64];omega
  have e3:IntKind.wrap .u64 ((wordF (t.take j):Int)+((t[j].toNat*256^j:Nat):Int))=(wordF (t.take (j+1)):Int):=by
   rw [←Int.natCast_add,wrap_u64,List.take_add_one,Lge hjt,Option.toList_some,wordF_snoc,hlen];omega
  rw [e1,e2,e3];refine⟨⟨rfl,j+1,step64 (by omega),by omega,rfl,fun h8=>?_⟩,by rw [step64 (by omega)];omega⟩;have hp6:(256:Nat)^j≤256^6:=Nat.pow_le_pow_right (by decide) (by omega);have hp6':(256:Nat)^6=281474976710656:=by decide
  rw [Nat.pow_succ,wrap_u64,Int.natCast_mul];omega
 ·have h:=odf h;refine hk _ _ ⟨?_,rfl⟩;unfold wordN;by_cases h8:t.length≤8
  ·rw [Ltl (by omega),Ltl h8]
  ·have:j=8:=by omega
   rw [this]
theorem rFixed_ok{v n:Nat}(hv:v<18446744073709551616)(h1:1≤n)(h8:n≤8){w:World}{K:Sl→Wp}(hK:∀w' ro s',At w F0 ro w'→VecL ro ET s' (fixN v n)→K s' w'):callK Pg c_112 [.leaf (.int .u64 (v:Int)),Ai (n:Int)] w Oz K:=by
 refine go_112 _ _ _ _ ?_;refine join1 (a:=.bool) (fun b u=>b=false∧u=w) (fun k hk=>ifK_f (Dcf (by omega)) (hk _ _ ⟨Dcf (by omega),rfl⟩)) ?_;rintro b u ⟨rfl,rfl⟩;refine ifK_f rfl ?_;have hl:=fixN_length v n;refine join1 (a:=.sl) (fun (s:Sl) x=>∃ro,At u F0 ro x∧VecL ro ET s (fixN v n)) ?_ fun s x ⟨ro',hA,hv⟩=>hK _ _ _ hA hv;intro k hk;refine loop3 (k1:=.int .u64) (k2:=.sl) (k3:=Ki) (fun (z:Int) (s:Sl) (i:Int) x=>∃(j:Nat) (ro:BL),i=(j:Int)∧j≤n∧z=((v/256^j:Nat):Int)∧At u F0 ro x∧VecL ro ET s ((fixN v n).take j)) (fun _ _ i _=>(n-i).toNat) (x1:=(v:Int)) (x2:=⟨none,0,0⟩) (x3:=0) rfl rfl rfl ⟨0,[],rfl,by omega,by simp,At.init u F0,VecL.nil ET⟩ ?_;rintro z s i x ⟨j,ro,rfl,hj,rfl,hA,hvv⟩;refine Iq (fun h=>?_) fun h=>?_
 ·have hlt:j<n:=dlt h;have hdle:v/256^j≤v:=Nat.div_le_self _ _;have hjl:j<(fixN v n).length:=by omega
  have hg:=fixN_get (v:=v) hlt;refine push_ok (m:=[]) hA hvv (by rw [Llt];omega) (c:=UInt8.ofNat (v/256^j)) ?_ fun s' ro' w' h' v' _=>⟨⟨j+1,ro',step64 (by omega),hlt,?_,h',?_⟩,by rw [step64 (by omega)];omega⟩
  ·have e:(((v/256^j:Nat):Int).tmod 256)=((v/256^j%256:Nat):Int):=tmodN _ 256;rw [e,wrap_u8,UInt8.toNat_ofNat'];omega
  ·have e:(((v/256^j:Nat):Int).tdiv 256)=((v/256^j/256:Nat):Int):=tdivN _ 256;rw [e,wrap_u64,Nat.pow_succ,←Nat.div_div_eq_div_mul];have:v/256^j/256≤v:=Nat.le_trans (Nat.div_le_self _ _) hdle;generalize v/256^j/256=y at this;omega
  ·rw [List.take_add_one,hg];exact v'
 ·have hge:n≤j:=dge h;rw [Ltl (by omega)] at hvv;exact hk _ _ ⟨ro,hA,hvv⟩
theorem rCommon_ok{a b:Str}(ha:a.length≤1099511627776){w:World}{K:Int→Wp}(hK:∀w',Mod F0 w w'→K (comN a b:Int) w'):callK Pg c_113 [Au a,Au b] w Oi K:=by
 refine go_113 _ _ _ _ ?_;refine join1 (a:=Ki) (fun (n:Int) u=>n=(comN a b:Int)∧Mod F0 w u) ?_ (by rintro n u ⟨rfl,hM⟩;exact hK _ hM);intro k hk;refine loop1 (k:=Ki) (fun (i:Int) u=>Mod F0 w u∧∃j:Nat,i=(j:Int)∧j≤a.length∧comN a b=j+comN (a.drop j) (b.drop j)) (fun i _=>(a.length-i).toNat) (x:=0) rfl ⟨Mod.refl _ _,0,rfl,Nzl _,by simp⟩ ?_;rintro i u ⟨hM,j,rfl,hj,he⟩;have hM2:=mod0 hM (Mq u);refine join1 (a:=.bool) (fun q v=>q=decide (j<a.length∧j<b.length∧a[j]? = b[j]?)∧v=u.drew) ?_ ?_
 ·intro k7 hk7;refine⟨F0,Iq (fun h1=>Iq (fun h2=>?_) fun h2=>hk7 _ _ ⟨(Dcf fun q=>?_).symm,rfl⟩) fun h1=>hk7 _ _ ⟨(Dcf fun q=>?_).symm,rfl⟩⟩
  ·have h1:=dlt h1;have h2:=dlt h2;refine sx_at rfl h1 (sx_at rfl h2 (hk7 _ _ ⟨?_,rfl⟩));rw [Lge h1,Lge h2];rw [Bei,beq_iff_eq,Det,Option.some.injEq];constructor
   ·intro e;exact⟨h1,h2,UInt8.toNat_inj.1 (by omega)⟩
   ·rintro ⟨_,_,e⟩;rw [e]
  ·have:=dge h2;omega
  ·have:=dge h1;omega
 rintro q v ⟨rfl,rfl⟩;refine Iq (fun h=>?_) fun h=>?_
 ·obtain⟨h1,h2,h3⟩:=odt h;rw [Lge h1,Lge h2,Option.some.injEq] at h3;rw [List.drop_eq_getElem_cons h1,List.drop_eq_getElem_cons h2,comN_cons,if_pos h3] at he;refine⟨⟨hM2,j+1,step64 (by omega),by omega,by omega⟩,by rw [step64 (by omega)];omega⟩
 ·have h:=odf h;refine hk _ _ ⟨?_,hM2⟩;have hz:comN (a.drop j) (b.drop j)=0:=by
   by_cases h1:j<a.length
   ·by_cases h2:j<b.length
    ·rw [List.drop_eq_getElem_cons h1,List.drop_eq_getElem_cons h2,comN_cons,if_neg];intro e;exact h ⟨h1,h2,by rw [Lge h1,Lge h2,e]⟩
    ·have:=comN_le (a.drop j) (b.drop j);rw [Lld,Lld] at this;omega
   ·have:=comN_le (a.drop j) (b.drop j);rw [Lld,Lld] at this;omega
  rw [he,hz,Nat.add_zero]
theorem cmpN_com:∀a b:Str,cmpN a b=if comN a b=a.length∧comN a b=b.length then 0 else if comN a b=a.length then -1 else if comN a b=b.length then 1 else if (a.getD (comN a b) 0).toNat<(b.getD (comN a b) 0).toNat then -1 else 1
 | [],[]=>rfl
 | [],_::_=>rfl
 | _::_,[]=>rfl
 | x::a,y::b=>by
  rw [cmpN_cons,comN_cons];by_cases h:x=y
  ·subst h;rw [if_neg (Nat.lt_irrefl _),if_neg (Nat.lt_irrefl _),if_pos rfl,cmpN_com a b];simp only [Llc,Nat.add_right_cancel_iff,List.getD_cons_succ]
  ·have n1:¬(0=(x::a).length):=by simp
   have n2:¬(0=(y::b).length):=by simp
   rw [if_neg h,if_neg (fun q:0=(x::a).length∧0=(y::b).length=>n1 q.1),if_neg n1,if_neg n2];have hne:x.toNat≠y.toNat:=fun e=>h (UInt8.toNat_inj.1 e);show _=if x.toNat<y.toNat then (-1:Int) else 1;by_cases h1:x.toNat<y.toNat
   ·rw [if_pos h1,if_pos h1]
   ·rw [if_neg h1,if_neg h1,if_pos (by omega)]
theorem rCompare_ok{a b:Str}(ha:a.length≤1099511627776){w:World}{K:Int→Wp}(hK:∀w',Mod F0 w w'→K (cmpN a b) w'):callK Pg c_114 [Au a,Au b] w Oi K:=by
 refine go_114 _ _ _ _ ?_;refine rCommon_ok ha fun w2 M2=>?_;rw [cmpN_com] at hK;have hle:=comN_le a b;generalize comN a b=n at hK hle ⊢;have ea:(((n:Nat):Int)==((a.length:Nat):Int))=decide (n=a.length):=by rw [Bei,beq_iff_eq,Det];omega
 have eb:(((n:Nat):Int)==((b.length:Nat):Int))=decide (n=b.length):=by rw [Bei,beq_iff_eq,Det];omega
 rw [ea,eb];refine join1 (a:=.bool) (fun q v=>q=decide (n=a.length∧n=b.length)∧v=w2) ?_ ?_
 ·intro k hk;refine Iq (fun h=>hk _ _ ⟨?_,rfl⟩) fun h=>hk _ _ ⟨?_,rfl⟩
  ·have h:=odt h;rw [Bei,Det,Det];exact⟨fun q=>⟨h,q⟩,fun q=>q.2⟩
  ·have h:=odf h;exact (Dcf fun q=>h q.1).symm
 rintro q v ⟨rfl,rfl⟩;refine Iq (fun h=>?_) fun h=>?_
 ·rw [if_pos (odt h)] at hK;exact hK v M2
 rw [if_neg (odf h)] at hK;refine Iq (fun h1=>?_) fun h1=>?_
 ·rw [if_pos (odt h1)] at hK;exact hK v M2
 rw [if_neg (odf h1)] at hK;refine Iq (fun h2=>?_) fun h2=>?_
 ·rw [if_pos (odt h2)] at hK;exact hK v M2
 rw [if_neg (odf h2)] at hK;have h1:=odf h1;have h2:=odf h2;have l1:n<a.length:=by omega
 have l2:n<b.length:=by omega
 rw [Lgd,Lgd,Lge l1,Lge l2,Option.getD_some,Option.getD_some] at hK;refine⟨F0,sx_at rfl l1 (sx_at rfl l2 (Iq (fun h3=>?_) fun h3=>?_))⟩
 ·have h3:((a[n].toNat:Nat):Int)<((b[n].toNat:Nat):Int):=odt h3;rw [if_pos (by omega)] at hK;exact hK _ (mod0 M2 (Mq v))
 ·have h3:¬((a[n].toNat:Nat):Int)<((b[n].toNat:Nat):Int):=odf h3;rw [if_neg (by omega)] at hK;exact hK _ (mod0 M2 (Mq v))
end Go.Proofs.YtoegpmjoajipcaaGreatDoor
