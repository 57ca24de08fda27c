/- Part T05. -/
import Derived.Test.YtoegpmjoajipcaaGreatDoorT04
import Derived.Test.YtoegpmjoajipcaaGreatDoorT03
namespace Go.Proofs.YtoegpmjoajipcaaGreatDoor
open Go.Vw
theorem Fresh.stK{w u:World}{D:Nat→Prop}{m:BL}(h:Fresh w u D m)(i:Nat){b o:Nat}{c:List Value}{vs:List LV}{K:Wp}(hi:m[i]? = some (b,c))(hl:o+vs.length≤c.length)
  (hK:∀u',Fresh w u' D (m.set i (b,spl c o (vs.map LV.toV)))→Mod (fun z=>z=b) u u'→K u'):Go.Vw.st u b o vs K:=
 h.at'.st i hi hl fun u' h' M'=>hK u' (Fresh.of_new h' fun p hp=>by
  obtain⟨k,hk⟩:=List.mem_iff_getElem?.1 hp;rw [List.getElem?_set] at hk;split at hk
  ·split at hk
   ·cases hk;exact h.new (b,c) (Lmg hi)
   ·cases hk
  ·exact h.new p (Lmg hk)) M'
theorem Fresh.blk{w u:World}{D:Nat→Prop}{m:BL}(h:Fresh w u D m){i b:Nat}{c:List Value}(hi:m[i]? = some (b,c)):Blk u b c:=h.own (b,c) (Lmg hi)
def posL(lens:List Nat)(n s:Nat):List Nat:=(List.range s).filter fun i=>lens.getD i 0==n
def cntL(lens:List Nat)(n:Nat):Nat:=(posL lens n lens.length).length
def ordT(lens:List Nat):Nat→List Nat
 | 0=>[]
 | n+1=>ordT lens n++posL lens (n+1) lens.length
def roomT(lens:List Nat):Nat→Int
 | 0=>32768
 | n+1=>roomT lens n-(cntL lens (n+1):Int)*2^(14-n)
def manyT(lens:List Nat)(k:Nat):Nat:=if 1≤k∧k≤15 then cntL lens k else 0
theorem posL_succ(lens:List Nat)(n s:Nat):posL lens n (s+1)=if lens.getD s 0=n then posL lens n s++[s] else posL lens n s:=by
 unfold posL;rw [List.range_succ,List.filter_append];by_cases h:lens.getD s 0=n
 ·rw [if_pos h,List.filter_cons,if_pos (beq_iff_eq.2 h)];rfl
 ·rw [if_neg h,List.filter_cons,if_neg (fun e=>h (beq_iff_eq.1 e))];simp
theorem posL_len(lens:List Nat)(n s:Nat):(posL lens n s).length≤s:=by
 unfold posL;exact Nat.le_trans (List.length_filter_le _ _) (by simp)
theorem ordT_len(lens:List Nat)(n:Nat):(ordT lens n).length≤n*lens.length:=by
 induction n with
 | zero=>simp [ordT]
 | succ n ih=>rw [ordT,Lla,Nat.add_mul];have:=posL_len lens (n+1) lens.length;omega
theorem roomT_low(lens:List Nat)(hl:lens.length≤256)(n:Nat):-(n*4194304:Int)≤roomT lens n∧roomT lens n≤32768:=by
 induction n with
 | zero=>simp [roomT]
 | succ n ih=>
  have h1:cntL lens (n+1)≤256:=Nat.le_trans (posL_len _ _ _) hl;have h2:(2:Nat)^(14-n)≤16384:=Nat.pow_le_pow_right (by decide:0<2) (by omega:14-n≤14);have h3:cntL lens (n+1)*2^(14-n)≤256*16384:=Nat.mul_le_mul h1 h2;have h4:(cntL lens (n+1):Int)*2^(14-n)=((cntL lens (n+1)*2^(14-n):Nat):Int):=by push_cast;rfl
  rw [roomT,h4];omega
def cntC(f:Nat→Nat):List Value:=(List.range 16).map fun k=>.int .i64 (f k:Int)
theorem cntC_get(f:Nat→Nat){k:Nat}(h:k<16):(cntC f)[k]? = some (.int .i64 (f k:Int)):=by
 unfold cntC;rw [List.getElem?_map,List.getElem?_range h];rfl
theorem cntC_len(f:Nat→Nat):(cntC f).length=16:=by simp [cntC]
theorem cntC_set(f g:Nat→Nat){k:Nat}(h:k<16){v:Int}(hv:v=(g k:Int))(hg:∀j,j≠k→g j=f j):(cntC f).set k (.int .i64 v)=cntC g:=by
 apply List.ext_getElem?;intro j;rw [List.getElem?_set];by_cases hj:k=j
 ·subst hj;rw [if_pos rfl,if_pos (by rw [cntC_len];exact h),cntC_get g h,hv]
 ·rw [if_neg hj];by_cases hlt:j<16
  ·rw [cntC_get f hlt,cntC_get g hlt,hg j (fun e=>hj e.symm)]
  ·rw [List.getElem?_eq_none (by rw [cntC_len];omega),List.getElem?_eq_none (by rw [cntC_len];omega)]
def manyP(lens:List Nat)(n s:Nat)(k:Nat):Nat:=if k=n then (posL lens n s).length else if 1≤k∧k<n then cntL lens k else 0
theorem manyP_zero(lens:List Nat)(n:Nat)(h:1≤n):manyP lens (n+1) 0=manyP lens n lens.length:=by
 funext k;unfold manyP;by_cases h1:k=n+1
 ·rw [if_pos h1,if_neg (by omega),if_neg (by omega)];rfl
 ·rw [if_neg h1];by_cases h2:k=n
  ·subst h2;rw [if_pos rfl,if_pos (by omega)];rfl
  ·rw [if_neg h2];by_cases h3:1≤k∧k<n
   ·rw [if_pos h3,if_pos (by omega)]
   ·rw [if_neg h3,if_neg (by omega)]
theorem manyP_one(lens:List Nat):manyP lens 1 0=fun _=>0:=by
 funext k;unfold manyP;by_cases h1:k=1
 ·rw [if_pos h1];rfl
 ·rw [if_neg h1,if_neg (by omega)]
theorem manyP_end(lens:List Nat):manyP lens 16 0=manyT lens:=by
 funext k;unfold manyP manyT;by_cases h1:k=16
 ·subst h1;rw [if_pos rfl,if_neg (by omega)];rfl
 ·rw [if_neg h1];by_cases h2:1≤k∧k<16
  ·rw [if_pos h2,if_pos (by omega)]
  ·rw [if_neg h2,if_neg (by omega)]
set_option maxHeartbeats 1000000 in
theorem order_ok{w:World}{s:Sl}{lens:List Nat}(hr:RdS w EN s lens)(hl:lens.length≤256){K:Sl→Int→Int→Int→Int→Int→Int→Int→Int→Int→Int→Int→Int→Int→Int→Int→Int→Bool→Wp}
  (hK:∀w' ro s',Fresh w w' F0 ro→VecL ro EN s' (ordT lens 15)→K s' (manyT lens 0:Int) (manyT lens 1:Int) (manyT lens 2:Int) (manyT lens 3:Int) (manyT lens 4:Int) (manyT lens 5:Int) (manyT lens 6:Int) (manyT lens 7:Int) (manyT lens 8:Int) (manyT lens 9:Int) (manyT lens 10:Int) (manyT lens 11:Int) (manyT lens 12:Int) (manyT lens 13:Int) (manyT lens 14:Int) (manyT lens 15:Int) (decide (0≤roomT lens 15)) w') :
  callK Pg c_72 [Az s] w (.tup [Ls,.agg [Ki,Ki,Ki,Ki,Ki,Ki,Ki,Ki,Ki,Ki,Ki,Ki,Ki,Ki,Ki,Ki],Lb]) K:=by
 refine go_72 _ _ _ ?_;refine (Fresh.start w F0).alK fun b2 w1 h1 _ _=>h1.alK fun b4 w2 h2 _ _=>?_;have h2:Fresh w w2 F0 (([(b2,cntC fun _=>0),(b4,cntC (manyP lens 1 0))]:BL)++[]):=by rw [manyP_one];exact h2
 refine join2 (a:=.sl) (b:=Ki) (fun sL room u=>∃ro,Fresh w u F0 (([(b2,cntC fun _=>0),(b4,cntC (manyT lens))]:BL)++ro)∧VecL ro EN sL (ordT lens 15)∧room=roomT lens 15) ?_ ?_
 ·intro k6 hk6;refine loop3 (k1:=.sl) (k2:=Ki) (k3:=Ki) (fun (sL:Sl) (room n:Int) u=>∃(j:Nat) (ro:BL),n=((j+1:Nat):Int)∧j≤15∧Fresh w u F0 (([(b2,cntC fun _=>0),(b4,cntC (manyP lens (j+1) 0))]:BL)++ro)∧VecL ro EN sL (ordT lens j)∧room=roomT lens j) (fun _ _ n _=>(16-n).toNat) (x1:=⟨none,0,0⟩) (x2:=32768) (x3:=1) rfl rfl rfl
   ⟨0,[],rfl,by decide,h2,VecL.nil EN,rfl⟩ ?_
  rintro sL room n u ⟨j,ro,rfl,hj,hF,hv,rfl⟩;refine Iq (fun h=>?_) fun h=>?_;rotate_left
  ·have h:¬((j+1:Nat):Int)≤15:=odf h;have:j=15:=by omega
   subst this;refine hk6 _ _ _ ⟨ro,?_,hv,rfl⟩;rw [manyP_end] at hF;exact hF
  have h:((j+1:Nat):Int)≤15:=odt h;have hj:j<15:=by omega
  refine join2 (a:=.sl) (b:=Ki) (fun sL room u'=>∃ro,Fresh w u' F0 (([(b2,cntC fun _=>0),(b4,cntC (manyP lens (j+1) lens.length))]:BL)++ro)∧VecL ro EN sL (ordT lens (j+1))∧room=roomT lens (j+1)) ?_ ?_
  ·intro k12 hk12;refine loop3 (k1:=.sl) (k2:=Ki) (k3:=Ki) (fun (sL:Sl) (room i:Int) u=>∃(t:Nat) (ro:BL),i=(t:Int)∧t≤lens.length∧Fresh w u F0 (([(b2,cntC fun _=>0),(b4,cntC (manyP lens (j+1) t))]:BL)++ro)∧VecL ro EN sL (ordT lens j++posL lens (j+1) t)∧room=roomT lens j-((posL lens (j+1) t).length:Int)*2^(14-j)) (fun _ _ i _=>(lens.length-i).toNat) (x1:=sL) (x2:=roomT lens j) (x3:=0) rfl rfl rfl
    ⟨0,ro,rfl,Nzl _,hF,by simpa [posL] using hv,by simp [posL]⟩ ?_
   rintro sL room i u ⟨t,ro,rfl,ht,hF,hv,rfl⟩;rw [hr.len];refine Iq (fun h=>?_) fun h=>?_;rotate_left
   ·have h:lens.length≤t:=dge h;have:t=lens.length:=by omega
    subst this;exact hk12 _ _ _ ⟨ro,hF,hv,rfl⟩
   have hlt:t<lens.length:=dlt h;have hru:=hr.quiet hF.mod;refine hru.ix rfl rfl (Lge hlt) fun b o _ hc=>Lq (k:=Ki) ((lens[t]:Nat):Int) (hc 0 (by decide)) ?_;have hgd:lens.getD t 0=lens[t]:=by rw [Lgd,Lge hlt];rfl
   refine join2 (a:=.sl) (b:=Ki) (fun sL room u'=>∃ro,Fresh w u' F0 (([(b2,cntC fun _=>0),(b4,cntC (manyP lens (j+1) (t+1)))]:BL)++ro)∧VecL ro EN sL (ordT lens j++posL lens (j+1) (t+1))∧room=roomT lens j-((posL lens (j+1) (t+1)).length:Int)*2^(14-j)) ?_ ?_
   ·intro k21 hk21;have hpl:=posL_len lens (j+1) t;have hol:=ordT_len lens j;have ho2:j*lens.length≤15*256:=Nat.mul_le_mul (by omega) hl;refine Iq (fun he=>?_) fun he=>?_
    ·have he:lens.getD t 0=j+1:=by
      have:((lens[t]:Nat):Int)=((j+1:Nat):Int):=by simpa using he
      omega
     refine hF.push hv t rfl rfl rfl (by simp only [Lla];omega) fun s' ro' u' hF' hv' M'=>?_;have e2:0+((j+1:Nat):Int).toNat*1=j+1:=by rw [Itn,Nat.mul_one,Nat.zero_add]
     rw [e2];have hB4:=hF'.blk (i:=1) rfl;have p0:(0:Int)≤((j+1:Nat):Int):=by omega
     have p1:((j+1:Nat):Int)<16:=by omega
     refine⟨p0,p1,hB4.ldK (k:=Ki) ((manyP lens (j+1) t (j+1):Nat):Int) (cntC_get _ (by omega)) ⟨p0,p1,?_⟩⟩;refine hF'.stK 1 rfl (by rw [cntC_len];simp;omega) fun u2 hF2 M2=>?_;have hp:manyP lens (j+1) t (j+1)=(posL lens (j+1) t).length:=by unfold manyP;rw [if_pos rfl]
     have hset:(cntC (manyP lens (j+1) t)).set (j+1) (.int .i64 (w64 (((manyP lens (j+1) t (j+1):Nat):Int)+1)))=cntC (manyP lens (j+1) (t+1)):=by
      refine cntC_set _ _ (by omega) ?_ fun i hi=>?_
      ·rw [hp,Wq (by omega) (by omega)];unfold manyP;rw [if_pos rfl,posL_succ,if_pos he,Lla];simp
      ·unfold manyP;rw [if_neg hi,if_neg hi]
     have hF2:Fresh w u2 F0 (([(b2,cntC fun _=>0),(b4,(cntC (manyP lens (j+1) t)).set (j+1) (.int .i64 (w64 (((manyP lens (j+1) t (j+1):Nat):Int)+1))))]:BL)++ro'):=hF2;rw [hset] at hF2;have e3:w64 (15-((j+1:Nat):Int))=((14-j:Nat):Int):=by rw [Wq (by omega) (by omega)];omega
     rw [e3];have hpow:(2:Nat)^(14-j)≤16384:=Nat.pow_le_pow_right (by decide:0<2) (by omega:14-j≤14);have e4:shlI .i64 1 ((14-j:Nat):Int)=((2^(14-j):Nat):Int):=by
      have:=shl_i64 1 (14-j) (by omega) (by omega);rw [Nat.one_mul] at this;exact this
     rw [e4];refine⟨by omega,hk21 _ _ _ ⟨ro',hF2,?_,?_⟩⟩
     ·rw [posL_succ,if_pos he,←Laa];exact hv'
     ·rw [posL_succ,if_pos he,Lla];have hrm:=roomT_low lens hl j;have h5:(posL lens (j+1) t).length*2^(14-j)≤256*16384:=Nat.mul_le_mul (by omega) hpow;have h6:((posL lens (j+1) t).length:Int)*((2^(14-j):Nat):Int)=(((posL lens (j+1) t).length*2^(14-j):Nat):Int):=by push_cast;rfl
      have h7:((2^(14-j):Nat):Int)=(2:Int)^(14-j):=by push_cast;rfl
      have h8:(((posL lens (j+1) t).length+[t].length:Nat):Int)*2^(14-j)=((posL lens (j+1) t).length:Int)*2^(14-j)+2^(14-j):=by
       rw [show ((((posL lens (j+1) t).length+[t].length:Nat)):Int)=((posL lens (j+1) t).length:Int)+1 from by simp,Int.add_mul,Int.one_mul]
      rw [h8,←h7,h6];clear h6 h7 h8 e4;generalize (posL lens (j+1) t).length*2^(14-j)=Q at h5 ⊢;generalize 2^(14-j)=P at hpow ⊢;rw [Wq (by omega) (by omega)];exact Int.sub_sub _ _ _
    ·have he:¬lens.getD t 0=j+1:=by
      have:¬((lens[t]:Nat):Int)=((j+1:Nat):Int):=by simpa using he
      omega
     have e5:manyP lens (j+1) (t+1)=manyP lens (j+1) t:=by
      funext k;unfold manyP;rw [posL_succ,if_neg he]
     refine hk21 _ _ _ ⟨ro,?_,?_,?_⟩
     ·rw [e5];exact hF
     ·rw [posL_succ,if_neg he];exact hv
     ·rw [posL_succ,if_neg he]
   rintro sL' room' u' ⟨ro',hF',hv',rfl⟩;have es:=step64 (i:=t) (by omega);exact⟨⟨t+1,ro',es,by omega,hF',hv',rfl⟩,by rw [es];omega⟩
  rintro sL' room' u' ⟨ro',hF',hv',rfl⟩;have es:=step64 (i:=j+1) (by omega);exact⟨⟨j+1,ro',es,by omega,by rw [manyP_zero _ _ (by omega)];exact hF',hv',rfl⟩,by rw [es];omega⟩
 rintro sL room u ⟨ro,hF,hv,rfl⟩;have hd:=hF.quiet (Mq u);have hB4:=hd.blk (i:=1) rfl;have hB2:=hd.blk (i:=0) rfl;refine⟨fun z=>z=b2,?_⟩;have hne:b4≠b2:=(hF.at'.ne (i:=1) (j:=0) rfl rfl (by decide));have L:∀(o:Nat) (ho:o<16) {K:Int→Prop},K (manyT lens o:Int)→Go.Vw.ldD (fun z=>z=b2) u.drew Ki b4 o K:=fun o ho K hK=>hB4.ldDK (k:=Ki) ((manyT lens o:Nat):Int) hne (cntC_get _ ho) hK;refine L 0 (by decide) (L 1 (by decide) (L 2 (by decide) (L 3 (by decide) (L 4 (by decide) (L 5 (by decide) (L 6 (by decide) (L 7 (by decide) (L 8 (by decide) (L 9 (by decide) (L 10 (by decide) (L 11 (by decide) (L 12 (by decide) (L 13 (by decide) (L 14 (by decide) (L 15 (by decide) ?_)))))))))))))));refine hd.stK 0 rfl (Nlr 16) fun u2 hF2 M2=>⟨M2,?_⟩;have hB:Blk u2 b2 (cntC (manyT lens)):=hF2.blk (i:=0) rfl;have L:∀(o:Nat) (ho:o<16) {K:Int→Prop},K (manyT lens o:Int)→Go.Vw.ld u2 Ki b2 o K:=fun o ho K hK=>hB.ldK (k:=Ki) ((manyT lens o:Nat):Int) (cntC_get _ ho) hK;refine L 0 (by decide) (L 1 (by decide) (L 2 (by decide) (L 3 (by decide) (L 4 (by decide) (L 5 (by decide) (L 6 (by decide) (L 7 (by decide) (L 8 (by decide) (L 9 (by decide) (L 10 (by decide) (L 11 (by decide) (L 12 (by decide) (L 13 (by decide) (L 14 (by decide) (L 15 (by decide) ?_)))))))))))))));exact hK u2 ro sL (hF2.sub (Lsr [_,_] ro)) hv
structure CuF(w u:World)(bc:Nat)(sC:Sl)(m:BL)(c:Cu):Prop where
 f:Fresh w u (fun z=>z=bc) m
 cur:CurAt u bc sC c
 lt:bc<w.heap.size
 rd:RdS w ET sC c.b
section
variable {w u u':World}{bc:Nat}{sC:Sl}{m:BL}{c:Cu}
theorem CuF.start(h:CurAt w bc sC c):CuF w w bc sC [] c:=⟨Fresh.start w _,h,h.blk.lt,h.rd⟩
theorem CuF.quiet(h:CuF w u bc sC m c)(hM:Mod F0 u u'):CuF w u' bc sC m c:=⟨h.f.quiet hM,h.cur.quiet hM,h.lt,h.rd⟩
theorem CuF.upd(h:CuF w u bc sC m c){c':Cu}{ro:BL}(hc:CurAt u' bc sC c')(hb:c'.b=c.b)(hF:Fresh u u' (fun z=>z=bc) ro):CuF w u' bc sC (m++ro) c':=
 ⟨h.f.join hF (fun _ _ h=>h) (fun b hb _ e=>by have:=h.lt;omega),hc,h.lt,by rw [hb];exact h.rd⟩
theorem CuF.new(h:CuF w u bc sC m c){m':BL}(hF:Fresh w u' (fun z=>z=bc) m')(hM:Mod (fun b=>w.heap.size≤b) u u'):CuF w u' bc sC m' c:=
 ⟨hF,⟨hM.blk h.cur.blk (by have:=h.lt;omega),h.rd.keepN hF.mod fun b hb _=>h.cur.ne b hb,h.cur.ne,h.cur.ok⟩,h.lt,h.rd⟩
theorem CuF.sub{m':BL}(h:CuF w u bc sC m c)(hs:m'.Sublist m):CuF w u bc sC m' c:=⟨h.f.sub hs,h.cur,h.lt,h.rd⟩
end
theorem fixed_b(c:Cu)(m:Int):(c.fixed m).2.b=c.b:=by
 unfold Cu.fixed;split
 ·rfl
 ·exact Cu.go_55 c _ _
theorem wordN_one(t:Str):wordN (t.take 1)<256:=by
 unfold wordN;have h:=wordF_lt ((t.take 1).take 8);have hl:((t.take 1).take 8).length≤1:=by simp only [Llt];omega
 have:(256:Nat)^((t.take 1).take 8).length≤256^1:=Nat.pow_le_pow_right (by decide) hl;omega
theorem fixed_one(c:Cu):(c.fixed 1).1<256:=by
 by_cases he:c.e=0
 ·rw [Cu.fixed_eq he];show (if _ then wordN (c.left.take 1) else 0)<256;split
  ·exact wordN_one _
  ·decide
 ·unfold Cu.fixed;rw [if_pos he];exact (by decide:0<256)
def lensRun:Nat→List Nat→Int→Cu→Option (List Nat×Cu)
 | 0,_,_,_=>none
 | k+1,lens,last,c=>
  if (c.num 256).1=0 then (if last≠0∧((c.num 256).2.done.1=0∨(c.num 256).2.done.1=22) then some (lens,(c.num 256).2) else none)
  else if 15<((c.num 256).2.fixed 1).1∨(((c.num 256).2.fixed 1).1:Int)=last∨256<lens.length+(c.num 256).1.toNat then none
  else lensRun k (lens++List.replicate (c.num 256).1.toNat ((c.num 256).2.fixed 1).1) ((c.num 256).2.fixed 1).1 ((c.num 256).2.fixed 1).2
def lensOf(c:Cu):Option (List Nat×Cu):=lensRun 257 [] (-1) c
theorem lensRun_le:∀(k:Nat) (lens:List Nat) (last:Int) (c:Cu) {x:List Nat×Cu},lens.length≤256→lensRun k lens last c=some x→x.1.length≤256
 | 0,_,_,_,x,_,h=>by cases h
 | k+1,lens,last,c,x,hl,h=>by
  rw [lensRun] at h;split at h
  ·split at h
   ·cases h;exact hl
   ·cases h
  ·split at h
   ·cases h
   ·rename_i h1;refine lensRun_le k _ _ _ ?_ h;rw [Lla,List.length_replicate];omega
set_option maxHeartbeats 1000000 in
theorem lengths_ok{w:World}{bc:Nat}{sC:Sl}{c:Cu}(hc:CurAt w bc sC c){K:Sl→Bool→Wp}
  (hK:∀w' ro s',(lensOf c=none∨∃x,lensOf c=some x∧VecL ro EN s' x.1∧CuF w w' bc sC ro x.2)→Mod (fun z=>z=bc) w w'→K s' (lensOf c).isSome w') :
  callK Pg c_73 [Ap (some (bc,0))] w (.tup [Ls,Lb]) K:=by
 refine go_73 _ _ _ ?_;have fail:lensOf c=none→∀s' u,Mod (fun z=>z=bc) w u→K s' false u:=fun h s' u hM=>by
  have:=hK u [] s' (.inl h) hM;rw [h] at this;exact this
 refine join2 (a:=.sl) (b:=Ki) (fun sL last u=>∃(ro:BL) (lens:List Nat) (c':Cu),CuF w u bc sC ro c'∧VecL ro EN sL lens∧lensOf c=if last≠0∧(c'.done.1=0∨c'.done.1=22) then some (lens,c') else none) ?_ ?_
 ·intro k2 hk2;refine loop2 (k1:=.sl) (k2:=Ki) (fun (sL:Sl) (last:Int) u=>∃(k:Nat) (ro:BL) (lens:List Nat) (c':Cu),CuF w u bc sC ro c'∧VecL ro EN sL lens∧lens.length≤256∧256-lens.length<k∧lensOf c=lensRun k lens last c'∧sL.len=lens.length) (fun sL _ _=>256-sL.len) (x1:=⟨none,0,0⟩) (x2:=-1) rfl rfl
   ⟨257,[],[],c,CuF.start hc,VecL.nil EN,by simp,by simp,rfl,rfl⟩ ?_
  rintro sL last u ⟨k,ro,lens,c',hS,hv,hlen,hk,hrun,hsl⟩;obtain⟨k,rfl⟩:∃q,k=q+1:=⟨k-1,by omega⟩;refine num_ok hS.cur fun u1 c1 M1=>?_;have h1:=hS.upd c1 (num_b _ _) (Fresh.none M1);rw [Lan] at h1;rw [lensRun] at hrun;have hnr:=num_range c' 256;generalize c'.num 256=y at hrun c1 h1 hnr;obtain⟨n,c2⟩:=y;simp only at hrun c1 h1 hnr ⊢;refine Iq (fun h=>?_) fun h=>?_
  ·have h:n=0:=by simpa using h
   rw [if_pos h] at hrun;exact hk2 _ _ _ ⟨ro,lens,c2,h1,hv,hrun⟩
  have h:n≠0:=by simpa using h
  rw [if_neg h] at hrun;obtain⟨j,rfl⟩:∃j:Nat,n=(j:Int):=⟨n.toNat,by omega⟩;refine fixed_ok h1.cur fun u2 c3 M2=>?_;have h2:=h1.upd c3 (fixed_b _ _) (Fresh.none M2);rw [Lan] at h2;have hfr:=fixed_one c2;generalize c2.fixed 1=y at hrun c3 h2 hfr;obtain⟨x,c4⟩:=y;simp only [Itn] at hrun c3 h2 hfr ⊢;have ew:w64 (x:Int)=(x:Int):=Wq (by omega) (by omega);rw [ew];have hj:j≤256:=by have:=hnr.2 (by decide);omega
  refine join1 (a:=.bool) (fun q v=>q=decide (15<x∨(x:Int)=last∨256<lens.length+j)∧v=u2) ?_ ?_
  ·intro k11 hk11;refine Iq (fun q=>hk11 _ _ ⟨?_,rfl⟩) fun q=>Iq (fun q2=>hk11 _ _ ⟨?_,rfl⟩) fun q2=>hk11 _ _ ⟨?_,rfl⟩
   ·have q:(15:Int)<(x:Int):=odt q;exact (Dct (.inl (by omega))).symm
   ·have q2:(x:Int)=last:=by simpa using q2
    exact (Dct (.inr (.inl q2))).symm
   ·have q:¬(15:Int)<(x:Int):=odf q;have q2:¬(x:Int)=last:=by simpa using q2
    rw [hsl,Wq (by omega) (by omega)];show decide ((256:Int)<(lens.length:Int)+(j:Int))=_;rw [Bei,Det,Det];constructor
    ·intro h;exact .inr (.inr (by omega))
    ·rintro (h | h | h)
     ·omega
     ·exact absurd h q2
     ·omega
  rintro q v ⟨rfl,rfl⟩;refine Iq (fun q=>?_) fun q=>?_
  ·have q:=odt q;rw [if_pos q] at hrun;exact fail hrun _ _ h2.f.mod
  have q:=odf q;rw [if_neg q] at hrun;have q3:lens.length+j≤256:=by omega
  refine join1 (a:=.sl) (fun sL u=>∃ro,CuF w u bc sC ro c4∧VecL ro EN sL (lens++List.replicate j x)) ?_ ?_
  ·intro k14 hk14;refine loop2 (k1:=.sl) (k2:=Ki) (fun (sL:Sl) (i:Int) u=>∃(t:Nat) (ro:BL),i=(t:Int)∧t≤j∧CuF w u bc sC ro c4∧VecL ro EN sL (lens++List.replicate t x)) (fun _ i _=>(j-i).toNat) (x1:=sL) (x2:=0) rfl rfl
    ⟨0,ro,rfl,Nzl _,h2,by simpa using hv⟩ ?_
   rintro sL i u ⟨t,ro,rfl,ht,hS,hv⟩;refine Iq (fun h=>?_) fun h=>?_
   ·have hlt:t<j:=dlt h;refine hS.f.push (m:=[]) hv x rfl rfl rfl (by simp only [Lla,List.length_replicate];omega) fun s' ro' u' hF hv' hM=>?_;have es:=step64 (i:=t) (by omega);refine⟨⟨t+1,ro',es,by omega,hS.new hF hM,?_⟩,by rw [es];omega⟩;rw [List.replicate_succ',←Laa];exact hv'
   ·have hge:j≤t:=dge h;have:t=j:=by omega
    subst this;exact hk14 _ _ ⟨ro,hS,hv⟩
  rintro sL' u' ⟨ro',hS',hv'⟩;have hl':=hv'.1;rw [Lla,List.length_replicate] at hl';refine⟨⟨k,ro',lens++List.replicate j x,c4,hS',hv',by rw [Lla,List.length_replicate];omega,by rw [Lla,List.length_replicate];omega,hrun,hv'.1⟩,?_⟩;show 256-sL'.len<256-sL.len;omega
 rintro sL last u ⟨ro,lens,c',hS,hv,hrun⟩;refine end_ok hS.cur fun u1 _ M1=>?_;have h1:=hS.quiet M1;refine join2 (a:=.sl) (b:=.bool) (fun s' b v=>s'=sL∧b=decide (last≠0∧(c'.done.1=0∨c'.done.1=22))∧v=u1) ?_ ?_
 ·intro k31 hk31;refine Iq (fun h=>?_) fun h=>?_
  ·have h:last≠0:=by simpa using h
   refine Iq (fun h2=>hk31 _ _ _ ⟨rfl,?_,rfl⟩) fun h2=>hk31 _ _ _ ⟨rfl,?_,rfl⟩
   ·have h2:c'.done.1=0:=by simpa using h2
    exact (Dct ⟨h,.inl h2⟩).symm
   ·have h2:c'.done.1≠0:=by simpa using h2
    rw [Bei,beq_iff_eq,Det];exact⟨fun e=>⟨h,.inr e⟩,fun e=>e.2.resolve_left h2⟩
  ·have h:last=0:=by simpa using h
   exact hk31 _ _ _ ⟨rfl,(Dcf fun q=>q.1 h).symm,rfl⟩
 rintro s' b v ⟨rfl,rfl,rfl⟩;by_cases hq:last≠0∧(c'.done.1=0∨c'.done.1=22)
 ·rw [if_pos hq] at hrun;have:=hK v ro s' (.inr ⟨_,hrun,hv,h1⟩) h1.f.mod;rw [hrun] at this;rw [Dct hq];exact this
 ·rw [if_neg hq] at hrun;rw [Dcf hq];exact fail hrun _ _ h1.f.mod
theorem Fresh.capK{w u:World}{D:Nat→Prop}{m:BL}(h:Fresh w u D m){α:Type}(E:Enc α)(z:α){e:TypeId}{bytes:Nat}{zs:List LV}{n:Int}(k:Nat)(hk:n=(k:Int))(hz:zs.map LV.toV=E.f z)(h1:k<2^48)(h2:bytes*k≤2^47)
  {K:Sl→Wp} (hK:∀s ro u',Fresh w u' D (m++ro)→VecL ro E s []→Mod F0 u u'→K s u'):Go.Vw.mk u e bytes zs 0 n K:=by
 subst hk;refine⟨Int.le_refl _,Int.natCast_nonneg _,by exact_mod_cast h1,by exact_mod_cast h2,?_⟩;have hA:=h.at'.al (List.replicate k (zs.map LV.toV)).flatten e;refine hK _ [(u.heap.size,(List.replicate k (zs.map LV.toV)).flatten)] _ (Fresh.of_new hA fun p hp=>?_) ⟨rfl,Nzl _,.inr ⟨_,(List.replicate k (zs.map LV.toV)).flatten,rfl,rfl,?_⟩⟩ (Mod.alloc _ _ _)
 ·rcases Lma.1 hp with hp | hp
  ·exact h.new p hp
  ·simp at hp;subst hp;exact h.mod.size
 ·rw [cells_repl E k z _ hz];simp [Enc.cells,E.cells_length]
theorem tdiv8(a:Nat):((a:Int).tdiv 8)=((a/8:Nat):Int):=by rw [Int.tdiv_eq_ediv_of_nonneg (Int.natCast_nonneg _)];omega
theorem tmod8(a:Nat):((a:Int).tmod 8)=((a%8:Nat):Int):=by rw [Int.tmod_eq_emod_of_nonneg (Int.natCast_nonneg _)];omega
theorem byte_of(s:Nat):([LV.int .u8 (IntKind.wrap .u8 (s:Int))]:List LV).map LV.toV=ET.f (UInt8.ofNat s):=by
 have:((UInt8.ofNat s).toNat:Int)=(s:Int)%256:=by rw [UInt8.toNat_ofNat'];omega
 show [Value.int .u8 (IntKind.wrap .u8 (s:Int))]=[Value.int .u8 ((UInt8.ofNat s).toNat:Int)];rw [this,wrap_u8]
def bitN(b:Str)(i:Nat):Nat:=(b.getD (i/8) 0).toNat/2^(i%8)%2
def symRun(lens:List Nat)(bits:Str):Nat→Nat→Nat→Nat→Nat→Nat→Option (Nat×Nat)
 | 0,_,_,_,_,_=>none
 | k+1,at_,word,first,before,size=>
  if at_=8*bits.length then none
  else if 2*word+bitN bits at_-2*first<manyT lens size then some ((ordT lens 15).getD (before+(2*word+bitN bits at_-2*first)) 0,at_+1)
  else symRun lens bits k (at_+1) (2*word+bitN bits at_) (2*first+manyT lens size) (before+manyT lens size) (size+1)
def wordsRun(lens:List Nat)(bits:Str):Nat→Nat→Str→Option (Str×Nat)
 | 0,at_,text=>some (text,at_)
 | n+1,at_,text=>match symRun lens bits 15 at_ 0 0 0 1 with
  | none=>none
  | some x=>wordsRun lens bits n x.2 (text++[UInt8.ofNat x.1])
def endsAt(bits:Str)(at_:Nat):Bool:=decide ((at_+7)/8=bits.length)&&!(decide (at_%8≠0)&&decide ((bits.getD (at_/8) 0).toNat/2^(at_%8)≠0))
def wordsOf(lens:List Nat)(bits:Str)(n:Nat):Option Str:=if roomT lens 15<0∨8*bits.length<n then none else match wordsRun lens bits n 0 [] with
 | none=>none
 | some x=>if endsAt bits x.2 then some x.1 else none
theorem ordT_split(lens:List Nat){n m:Nat}(h:n≤m):∃t,ordT lens m=ordT lens n++t:=by
 induction m with
 | zero=>have:n=0:=(by omega);subst this;exact⟨[],by simp⟩
 | succ m ih=>
  by_cases e:n=m+1
  ·subst e;exact⟨[],by simp⟩
  ·obtain⟨t,ht⟩:=ih (by omega);exact⟨t++posL lens (m+1) lens.length,by rw [ordT,ht,Laa]⟩
theorem manyT_le(lens:List Nat)(k:Nat):manyT lens k≤lens.length:=by
 unfold manyT;split
 ·exact posL_len _ _ _
 ·exact Nzl _
theorem bitN_lt(b:Str)(i:Nat):bitN b i<2:=Nat.mod_lt _ (by decide)
theorem bit_step(word x i:Nat)(hw:word<2^40)(hx:x<256):bitI .or .i64 (shlI .i64 (word:Int) 1) (w64 (bitI .and .u8 (shrI .u8 (x:Int) ((i%8:Nat):Int)) 1))=((2*word+x/2^(i%8)%2:Nat):Int):=by
 have h1:shlI .i64 (word:Int) 1=((word*2^1:Nat):Int):=shl_i64 word 1 (by omega) (by omega);have hlt:x/2^(i%8)<2^8:=by have:=Nat.div_le_self x (2^(i%8));omega
 rw [h1,shr_u8 x (i%8) (by omega),show (1:Int)=((1:Nat):Int) from rfl,and_u8 hlt (by decide),Nat.and_one_is_mod];have h2:x/2^(i%8)%2<2:=Nat.mod_lt _ (by decide);generalize x/2^(i%8)%2=y at h2;rw [Wq (by omega) (by omega),or_i64 (by omega) (by omega)];have h3:=Nat.shiftLeft_add_eq_or_of_lt (i:=1) (b:=y) (by omega) word;rw [Nat.shiftLeft_eq] at h3;rw [←h3];congr 1;omega
set_option maxHeartbeats 2000000 in
theorem words_ok{w:World}{sL sB:Sl}{lens:List Nat}{bits:Str}(hl:RdS w EN sL lens)(hb:RdS w ET sB bits)(hll:lens.length≤256)(hbl:bits.length≤1099511627776){n:Nat}(hn:n≤65536){K:Sl→Bool→Wp}
  (hK:∀w' ro s',VecL ro ET s' ((wordsOf lens bits n).getD [])→Fresh w w' F0 ro→K s' (wordsOf lens bits n).isSome w') :
  callK Pg c_74 [Az sL,Az sB,Ai (n:Int)] w (.tup [Ls,Lb]) K:=by
 refine go_74 _ _ _ _ _ ?_;have fail:wordsOf lens bits n=none→∀u,Mod F0 w u→K ⟨none,0,0⟩ false u:=fun h u hM=>by
  have:=hK u [] ⟨none,0,0⟩ (by rw [h];exact VecL.nil ET) (Fresh.none hM);rw [h] at this;exact this
 refine order_ok hl hll fun w1 roL sO h1 vO=>h1.alK fun b23 w2 h2 _ _=>?_;have vO1:=vO.1;refine h2.stK (c:=cntC fun _=>0) roL.length (by rw [Lgr (Nlr _),Nat.sub_self];rfl) (by rw [cntC_len];exact Nlr 16) fun w3 h3 _=>?_;rw [set_last] at h3;have h3:Fresh w w3 F0 (roL++[(b23,cntC (manyT lens))]):=h3;have hb3:=hb.quiet h3.mod;have e8:w64 (8*((sB.len:Nat):Int))=((8*bits.length:Nat):Int):=by rw [hb.len,Wq (by omega) (by omega)];omega
 rw [e8];refine join1 (a:=.bool) (fun q v=>q=decide (roomT lens 15<0∨8*bits.length<n)∧v=w3) ?_ ?_
 ·intro k26 hk26;refine Iq (fun h=>hk26 _ _ ⟨?_,rfl⟩) fun h=>hk26 _ _ ⟨?_,rfl⟩
  ·have h:decide (0≤roomT lens 15)=false:=by simpa using h
   have h:=odf h;exact (Dct (.inl (by omega))).symm
  ·have h:decide (0≤roomT lens 15)=true:=by simpa using h
   have h:=odt h;show decide (((8*bits.length:Nat):Int)<(n:Int))=_;rw [Bei,Det,Det];omega
 rintro q v ⟨rfl,rfl⟩;refine Iq (fun h=>?_) fun h=>?_
 ·exact fail (if_pos (odt h)) _ h3.mod
 have hrm:=odf h;have hW:wordsOf lens bits n=match wordsRun lens bits n 0 [] with
   | none=>none
   | some x=>if endsAt bits x.2 then some x.1 else none:=if_neg hrm
 refine h3.capK ET 0 n rfl rfl (by omega) (by omega) fun s29 ro w4 h4 v4 _=>?_;refine join2 (a:=.sl) (b:=Ki) (fun sT at_ u=>∃(ro:BL) (text:Str) (i:Nat),at_=(i:Int)∧i≤8*bits.length∧Fresh w u F0 ((roL++[(b23,cntC (manyT lens))])++ro)∧VecL ro ET sT text∧wordsRun lens bits n 0 []=some (text,i)) ?_ ?_
 ·intro k31 hk31;refine loop3 (k1:=.sl) (k2:=Ki) (k3:=Ki) (fun (sT:Sl) (at_ t:Int) u=>∃(ro:BL) (text:Str) (i j:Nat),at_=(i:Int)∧t=(j:Int)∧j≤n∧i≤8*bits.length∧text.length=j∧Fresh w u F0 ((roL++[(b23,cntC (manyT lens))])++ro)∧VecL ro ET sT text∧wordsRun lens bits n 0 []=wordsRun lens bits (n-j) i text) (fun _ _ t _=>(n-t).toNat) (x1:=s29) (x2:=0) (x3:=0) rfl rfl rfl
   ⟨ro,[],0,0,rfl,rfl,Nzl _,Nzl _,rfl,h4,v4,rfl⟩ ?_
  rintro sT at_ t u ⟨ro,text,i,j,rfl,rfl,hj,hi,htl,hF,hv,hrun⟩;refine Iq (fun h=>?_) fun h=>?_;rotate_left
  ·have h:n≤j:=dge h;have:j=n:=by omega
   subst this;rw [Nat.sub_self] at hrun;exact hk31 _ _ _ ⟨ro,text,i,rfl,hi,hF,hv,hrun⟩
  have hlt:j<n:=dlt h;obtain⟨r,hr⟩:∃r,n-j=r+1:=⟨n-j-1,by omega⟩;have hr2:n-(j+1)=r:=by omega
  rw [hr,wordsRun] at hrun;refine join2 (a:=.sl) (b:=Ki) (fun sT at_ u=>∃(ro:BL) (x:Nat×Nat),symRun lens bits 15 i 0 0 0 1=some x∧at_=(x.2:Int)∧x.2≤8*bits.length∧Fresh w u F0 ((roL++[(b23,cntC (manyT lens))])++ro)∧VecL ro ET sT (text++[UInt8.ofNat x.1])) ?_ ?_
  ·intro k37 hk37
   refine loop6 (k1:=.sl) (k2:=Ki) (k3:=Ki) (k4:=Ki) (k5:=Ki) (k6:=Ki) (fun (sX:Sl) (at_ word first before size:Int) v=>sX=sT∧v=u∧∃(k a wd f b s:Nat),at_=(a:Int)∧word=(wd:Int)∧first=(f:Int)∧before=(b:Int)∧size=(s:Int)∧a≤8*bits.length∧1≤s∧s+k=16∧f≤wd∧wd<2^(s-1)∧b=(ordT lens (s-1)).length∧symRun lens bits 15 i 0 0 0 1=symRun lens bits k a wd f b s) (fun _ _ _ _ _ size _=>(16-size).toNat) (x1:=sT) (x2:=(i:Int)) (x3:=0) (x4:=0) (x5:=0) (x6:=1) rfl rfl rfl rfl rfl rfl
    ⟨rfl,rfl,15,i,0,0,0,1,rfl,rfl,rfl,rfl,rfl,hi,Nlr _,rfl,Nlr _,by decide,rfl,rfl⟩ ?_
   rintro sX at_ word first before size v ⟨rfl,rfl,k,a,wd,f,b,s,rfl,rfl,rfl,rfl,rfl,ha,hs1,hsk,hfw,hwd,hbo,hsym⟩
   refine join1 (a:=.bool) (fun q v'=>q=decide (s=16∨a=8*bits.length)∧v'=v) ?_ ?_
   ·intro k46 hk46;refine Iq (fun h=>hk46 _ _ ⟨?_,rfl⟩) fun h=>hk46 _ _ ⟨?_,rfl⟩
    ·have h:(15:Int)<(s:Int):=odt h;exact (Dct (.inl (by omega))).symm
    ·have h:¬(15:Int)<(s:Int):=odf h;show ((a:Int)==((8*bits.length:Nat):Int))=_;rw [Bei,beq_iff_eq,Det];omega
   rintro q v' ⟨rfl,rfl⟩;refine Iq (fun h=>?_) fun h=>?_
   ·have h:=odt h;have hnone:symRun lens bits 15 i 0 0 0 1=none:=by
     rw [hsym];rcases h with h | h
     ·have:k=0:=by omega
      subst this;rfl
     ·cases k with
      | zero=>rfl
      | succ k=>rw [symRun,if_pos h]
    rw [hnone] at hrun;simp only at hrun;rw [hrun] at hW;exact fail hW _ hF.mod
   have h:=odf h;obtain⟨k,rfl⟩:∃q,k=q+1:=⟨k-1,by omega⟩;have hal:a<8*bits.length:=by omega
   have hstep:symRun lens bits (k+1) a wd f b s=(if 2*wd+bitN bits a-2*f<manyT lens s then some ((ordT lens 15).getD (b+(2*wd+bitN bits a-2*f)) 0,a+1) else symRun lens bits k (a+1) (2*wd+bitN bits a) (2*f+manyT lens s) (b+manyT lens s) (s+1)):=by rw [symRun,if_neg (by omega)]
   rw [hstep] at hsym;clear hstep;have hbu:=hb.quiet hF.mod;rw [tdiv8,tmod8,Wq (by omega) (by omega)];have hai:a/8<bits.length:=by omega
   refine hbu.byte rfl hai fun bb oo _ hc=>Lq (k:=.int .u8) ((bits[a/8]).toNat:Int) hc ?_;have hbit:bitN bits a=(bits[a/8]).toNat/2^(a%8)%2:=by
    unfold bitN;rw [Lgd,Lge hai];rfl
   have hp1:(2:Nat)^(s-1)≤16384:=Nat.pow_le_pow_right (by decide:0<2) (by omega:s-1≤14);have hwl:wd<16384:=by omega
   have hbyte:(bits[a/8]).toNat<256:=UInt8.toNat_lt_size _;rw [bit_step wd _ a (by omega) hbyte,←hbit];have hb2:=bitN_lt bits a;generalize bitN bits a=y at hsym hb2;have ef:shlI .i64 (f:Int) 1=((2*f:Nat):Int):=by rw [show (1:Int)=((1:Nat):Int) from rfl,shl_i64 f 1 (by omega) (by omega)];congr 1;omega
   rw [ef];have p0:(0:Int)≤((a%8:Nat):Int):=Int.natCast_nonneg _;have p1:(0:Int)≤(s:Int):=Int.natCast_nonneg _;have p2:(s:Int)<16:=by omega
   have eo:0+(s:Int).toNat*1=s:=by rw [Itn,Nat.mul_one,Nat.zero_add]
   rw [eo];have hB:=hF.own (b23,cntC (manyT lens)) (by simp);have hmb:=manyT_le lens s;have hms:manyT lens s=(posL lens s lens.length).length:=by unfold manyT;rw [if_pos (by omega)];rfl
   have hos:ordT lens s=ordT lens (s-1)++posL lens s lens.length:=by
    obtain⟨q,rfl⟩:∃q,s=q+1:=⟨s-1,by omega⟩;rfl
   have hbl2:b≤15*256:=by rw [hbo];exact Nat.le_trans (ordT_len _ _) (Nat.mul_le_mul (by omega) hll)
   have es:w64 ((a:Int)+1)=((a+1:Nat):Int):=by rw [Wq (by omega) (by omega)];omega
   have ed:w64 (((2*wd+y:Nat):Int)-((2*f:Nat):Int))=((2*wd+y-2*f:Nat):Int):=by rw [Wq (by omega) (by omega)];omega
   have L:∀{K:Int→Prop},K (manyT lens s:Int)→Go.Vw.ld v' Ki b23 s K:=fun hK=>hB.ldK (k:=Ki) ((manyT lens s:Nat):Int) (cntC_get _ (by omega)) hK;refine⟨p0,p1,p2,L ?_⟩;rw [ed];refine Iq (fun hc=>?_) fun hc=>?_
   ·have hc:2*wd+y-2*f<manyT lens s:=dlt hc;rw [if_pos hc] at hsym;have e9:w64 (w64 ((b:Int)+((2*wd+y:Nat):Int))-((2*f:Nat):Int))=((b+(2*wd+y-2*f):Nat):Int):=by
     rw [Wq (n:=(b:Int)+_) (by omega) (by omega),Wq (by omega) (by omega)];omega
    rw [e9];obtain⟨tl,htl2⟩:=ordT_split lens (n:=s) (m:=15) (by omega);have hix:b+(2*wd+y-2*f)<(ordT lens 15).length:=by
     rw [htl2,hos,Lla,Lla,←hbo,←hms];omega
    have vO':RdS v' EN sO (ordT lens 15):=vO.rd fun p hp=>hF.own p (by simp [hp]);obtain⟨q,hq⟩:∃q,(ordT lens 15)[b+(2*wd+y-2*f)]? = some q:=⟨_,Lge hix⟩;have eg:(ordT lens 15).getD (b+(2*wd+y-2*f)) 0=q:=by rw [Lgd,hq];rfl
    rw [eg] at hsym;refine vO'.ix rfl rfl hq fun b3 o3 _ hc3=>Lq (k:=Ki) (q:Int) (hc3 0 (by decide)) ?_;refine hF.push hv (UInt8.ofNat q) (byte_of _) rfl rfl (by omega) fun s' ro' u' hF' hv' _=>?_;exact hk37 _ _ _ ⟨ro',(q,a+1),hsym,es,by show a+1≤_;omega,hF',hv'⟩
   ·have hc:manyT lens s≤2*wd+y-2*f:=dge hc;rw [if_neg (by omega)] at hsym;refine⟨p1,p2,L ⟨p1,p2,L ?_⟩⟩;have e10:w64 (((2*f:Nat):Int)+(manyT lens s:Int))=((2*f+manyT lens s:Nat):Int):=by rw [Wq (by omega) (by omega)];omega
    have e11:w64 ((b:Int)+(manyT lens s:Int))=((b+manyT lens s:Nat):Int):=by rw [Wq (by omega) (by omega)];omega
    have e12:=step64 (i:=s) (by omega);refine⟨⟨rfl,rfl,k,a+1,2*wd+y,2*f+manyT lens s,b+manyT lens s,s+1,es,rfl,e10,e11,e12,by omega,by omega,by omega,by omega,?_,?_,hsym⟩,?_⟩
    ·have:s+1-1=(s-1)+1:=by omega
     rw [this,Nat.pow_succ];omega
    ·show _=(ordT lens s).length;rw [hos,Lla,←hbo,←hms]
    ·rw [e12];omega
  rintro sT' at' u' ⟨ro',x,hsym,rfl,hx,hF',hv'⟩;rw [hsym] at hrun;have es:=step64 (i:=j) (by omega);exact⟨⟨ro',_,x.2,j+1,rfl,es,by omega,hx,by rw [Lla,htl];rfl,hF',hv',by rw [hr2];exact hrun⟩,by rw [es];omega⟩
 rintro sT at_ u ⟨ro,text,i,rfl,hi,hF,hv,hrun⟩;rw [hrun] at hW;have hbu:=hb.quiet hF.mod;refine join1 (a:=.bool) (fun q v=>q = !endsAt bits i∧v=u) ?_ ?_
 ·intro k68 hk68;have e7:w64 ((w64 ((i:Int)+7)).tdiv 8)=(((i+7)/8:Nat):Int):=by
   rw [Wq (n:=(i:Int)+7) (by omega) (by omega),show (i:Int)+7=((i+7:Nat):Int) from by omega,tdiv8,Wq (by omega) (by omega)]
  rw [e7,hb.len];unfold endsAt at hk68;refine Iq (fun h=>hk68 _ _ ⟨?_,rfl⟩) fun h=>?_
  ·have h:¬(((i+7)/8:Nat):Int)=(bits.length:Int):=by simpa using h
   rw [Dcf (by omega)];rfl
  have h:(((i+7)/8:Nat):Int)=(bits.length:Int):=by simpa using h
  have h:(i+7)/8=bits.length:=by omega
  rw [Dct h] at hk68;rw [tmod8];refine Iq (fun h2=>?_) fun h2=>hk68 _ _ ⟨?_,rfl⟩
  ·have h2:¬((i%8:Nat):Int)=0:=by simpa using h2
   have h2:i%8≠0:=by omega
   have hai:i/8<bits.length:=by omega
   rw [tdiv8,Wq (by omega) (by omega)];refine hbu.byte rfl hai fun bb oo _ hc=>Lq (k:=.int .u8) ((bits[i/8]).toNat:Int) hc ⟨Int.natCast_nonneg _,hk68 _ _ ⟨?_,rfl⟩⟩;have eg:bits.getD (i/8) 0=bits[i/8]:=by rw [Lgd,Lge hai];rfl
   rw [shr_u8 _ _ (by omega),Dct h2,eg,Bool.true_and,Bool.true_and,Bool.not_not,Bei,bne_iff_ne,Det];omega
  ·have h2:((i%8:Nat):Int)=0:=by simpa using h2
   rw [Dcf (by omega)];rfl
 rintro q v ⟨rfl,rfl⟩;refine Iq (fun h=>?_) fun h=>?_
 ·have h:endsAt bits i=false:=by simpa using h
  simp only [h] at hW;exact fail hW _ hF.mod
 ·have h:endsAt bits i=true:=by simpa using h
  simp only [h,if_true] at hW;have:=hK v ro sT (by rw [hW];exact hv) (hF.sub (Lsr _ ro));rw [hW] at this;exact this
def huffDec(b:Str)(n:Nat):Option Str:=match lensOf ⟨b,0,0⟩ with
 | none=>none
 | some x=>wordsOf x.1 (x.2.take (x.2.rest:Int)).1 n
def huffD(b:Str)(n:Int):Str×Int:=if n<0∨65536<n then ([],3) else match huffDec b n.toNat with
 | none=>([],40)
 | some x=>(x,0)
theorem huffDecode_ok{w:World}{sB:Sl}{b:Str}(hr:RdS w ET sB b)(hl:b.length≤1099511627776){n:Int}{K:Sl→Int→Wp}
  (hK:∀w' ro s',VecL ro ET s' (huffD b n).1→Fresh w w' F0 ro→K s' (huffD b n).2 w') :
  callK Pg c_75 [Az sB,Ai n] w (.tup [Ls,Li]) K:=by
 refine go_75 _ _ _ _ ?_;refine join1 (a:=.bool) (fun q v=>q=decide (n<0∨65536<n)∧v=w) ?_ ?_
 ·intro k hk;refine Iq (fun h=>hk _ _ ⟨?_,rfl⟩) fun h=>hk _ _ ⟨?_,rfl⟩
  ·have h:n<0:=odt h;exact (Dct (.inl h)).symm
  ·have h:¬n<0:=odf h;show decide (65536<n)=_;rw [Bei,Det,Det];omega
 rintro q v ⟨rfl,rfl⟩;refine Iq (fun h=>?_) fun h=>?_
 ·have h:=odt h;have e:huffD b n=([],3):=if_pos h;rw [e] at hK;exact hK v [] _ (VecL.nil ET) (Fresh.none (Mod.refl _ _))
 have h:=odf h;obtain⟨k,rfl⟩:∃k:Nat,n=(k:Int):=⟨n.toNat,by omega⟩;have hD:huffD b (k:Int)=match huffDec b k with
   | none=>([],40)
   | some x=>(x,0):=if_neg h
 have fail:huffDec b k=none→∀u,Mod F0 v u→K ⟨none,0,0⟩ 40 u:=fun h u hM=>by
  rw [h] at hD;rw [hD] at hK;exact hK u [] _ (VecL.nil ET) (Fresh.none hM)
 refine newCursor_ok hr hl fun w1 bc sC roC hc1 hA1 _=>?_;have hbc:v.heap.size≤bc:=Nat.not_lt.1 fun hlt=>hA1.wr (bc,_) (Lmr _ (Lms.2 rfl)) hlt;refine lengths_ok hc1 fun w2 roS sS hcase hM=>?_;have M2:Mod F0 v w2:=hA1.mod.trans hM (fun _ _ h=>h.elim) fun z hz e=>by omega
 unfold huffDec at fail hD;refine Iq (fun hq=>?_) fun hq=>?_
 ·have hn:lensOf ⟨b,0,0⟩=none:=by
   cases hx:lensOf ⟨b,0,0⟩ with
   | none=>rfl
   | some x=>rw [hx] at hq;cases hq
  rw [hn] at fail;exact fail rfl w2 M2
 rcases hcase with hn | ⟨x,hx,hvS,hC⟩
 ·rw [hn] at hq;cases hq
 rw [hx] at fail hD;have hlen:=lensRun_le _ _ _ _ (by simp) hx;refine rest_ok hC.cur fun w3 hc3 M3=>take_ok hc3 fun w4 ro4 s4 hc4 v4 F4=>?_;have hC3:=hC.quiet M3;have hC4:=hC3.upd hc4 (take_b _ _) F4;have hS4:RdS w4 EN sS x.1:=hvS.rd fun p hp=>hC4.f.own p (Lml _ hp);have hB4:RdS w4 ET s4 (x.2.take (x.2.rest:Int)).1:=v4.rdF F4;have hbl:=take_len x.2 hC.cur.ok (x.2.rest:Int);have M4:Mod F0 v w4:=hA1.mod.trans hC4.f.mod (fun _ _ h=>h.elim) fun z hz e=>by omega
 refine words_ok hS4 hB4 hlen hbl (by omega) fun w5 ro5 s5 v5 F5=>?_;simp only at fail hD;have M5:Mod F0 v w5:=mod0 M4 F5.mod;refine Iq (fun hq=>?_) fun hq=>?_
 ·have hn:wordsOf x.1 (x.2.take (x.2.rest:Int)).1 k=none:=by
   cases hx:wordsOf x.1 (x.2.take (x.2.rest:Int)).1 k with
   | none=>rfl
   | some x=>rw [hx] at hq;cases hq
  exact fail hn w5 M5
 ·obtain⟨y,hy⟩:∃y,wordsOf x.1 (x.2.take (x.2.rest:Int)).1 k=some y:=by
   cases hx:wordsOf x.1 (x.2.take (x.2.rest:Int)).1 k with
   | none=>rw [hx] at hq;cases hq
   | some y=>exact⟨y,rfl⟩
  rw [hy] at hD v5;rw [hD] at hK;exact hK w5 ro5 s5 v5 ⟨M5,F5.own,fun p hp=>Nat.le_trans M4.size (F5.new p hp),F5.nodup⟩
set_option maxRecDepth 100000
theorem go_82(K:Value→Value→Value→Value→Value→Value→Wp)(w:World)(h:al w 183 [.val .nilFunc,.val .nilFunc,.val .nilFunc,.val .nilFunc,.val .nilFunc,.val .nilFunc] fun b1 W2=>(∀x∈[(.func (.func 132) #[] #[]:Value),(.func (.func 133) #[] #[]:Value)],isCell x=true)∧(∀x∈[(.func (.func 134) #[] #[]:Value),(.func (.func 135) #[] #[]:Value)],isCell x=true)∧(∀x∈[(.func (.func 136) #[] #[]:Value),(.func (.func 137) #[] #[]:Value)],isCell x=true)∧(∀x∈[(.func (.func 132) #[] #[]:Value),(.func (.func 133) #[] #[]:Value),(.func (.func 134) #[] #[]:Value),(.func (.func 135) #[] #[]:Value),(.func (.func 136) #[] #[]:Value),(.func (.func 137) #[] #[]:Value)],isCell x=true)∧(∀x∈[(.func (.func 132) #[] #[]:Value),(.func (.func 133) #[] #[]:Value),(.func (.func 134) #[] #[]:Value),(.func (.func 135) #[] #[]:Value),(.func (.func 136) #[] #[]:Value),(.func (.func 137) #[] #[]:Value)],isCell x=true)∧st W2 b1 0 [.val (.func (.func 132) #[] #[]),.val (.func (.func 133) #[] #[]),.val (.func (.func 134) #[] #[]),.val (.func (.func 135) #[] #[]),.val (.func (.func 136) #[] #[]),.val (.func (.func 137) #[] #[])] fun W3=>ld W3 .val b1 0 fun v4=>ld W3 .val b1 1 fun v5=>ld W3 .val b1 2 fun v6=>ld W3 .val b1 3 fun v7=>ld W3 .val b1 4 fun v8=>ld W3 .val b1 5 fun v9=>K v4 v5 v6 v7 v8 v9 W3):callK Pg 95 [] w (.one (.agg [.val,.val,.val,.val,.val,.val])) K:=Fq (n:=.nil) CS_ok mixed Tryz.func95 (Eq.mpr (by kernel_rfl) h)
theorem go_79(b1:Sl)(n2:Int)(K:Sl→Int→Wp)(w:World)(h:ifK ((b1.len:Int) != n2) (K (⟨none,0,0⟩) 60 w) (K b1 0 w)):callK Pg 133 [Az b1,Ai n2] w (.tup [Ls,Li]) K:=Fq (n:=.nil) CS_ok mixed Tryz.func133 (Eq.mpr (by kernel_rfl) h)
theorem go_76(W1:PA)(restart2:Bool)(first3:Bool)(K:List UInt8→List UInt8→Bool→Wp)(w:World)(h:al w 146 [.str [],.str []] fun b4 W5=>dr W1 fun b6 o7=>ld W5 .ptr b6 o7 fun p8=>callK Pg 86 [Ap p8,Ai 1024] W5 Oi fun n9 W10=>dr W1 fun b11 o12=>ld W10 .ptr b11 o12 fun p13=>callK Pg 86 [Ap p13,Ai 1024] W10 Oi fun n14 W15=>dr W1 fun b16 o17=>ld W15 .ptr b16 o17 fun p18=>callK Pg 86 [Ap p18,Ai 1024] W15 Oi fun n19 W20=>dr W1 fun b21 o22=>ld W20 .ptr b21 o22 fun p23=>callK Pg 122 [Ap p23,Ai n14] W20 Oz fun a24 W25=>opF Pg (vS (convert 22 9 (LV.toV (.sl a24)))) W25 Ot fun s27 W26=>dr W1 fun b28 o29=>ld W26 .ptr b28 o29 fun p30=>callK Pg 122 [Ap p30,Ai n19] W26 Oz fun a31 W32=>opF Pg (vS (convert 22 9 (LV.toV (.sl a31)))) W32 Ot fun s34 W33=>al W33 146 [.str [],.str []] fun b35 W36=>st W36 b35 0 [.str [],.str s34] fun W37=>dr W1 fun b38 o39=>ld W37 .ptr b38 o39 fun p40=>callK Pg 92 [Ap p40] W37 (.one (.agg [Ki,Ki])) fun n41 n42 W43=>al W43 178 [.int .i64 0,.int .i64 0] fun b44 W45=>st W45 b44 0 [.int .i64 n41,.int .i64 n42] fun W46=>joinK [.bool] (fun k47=>ld W46 Ki b44 0 fun n48=>ifK (n48 != 0) (ld W46 Ki b44 0 fun n49=>k47 (n49 != 22) W46) (k47 false W46)) fun t5650 W51=>ifK t5650 (st W51 b4 0 [.str [],.str []] fun W52=>ld W52 .str b4 0 fun s53=>ld W52 .str b4 1 fun s54=>K s53 s54 false W52) (joinK [.bool] (fun k55=>ifK restart2 (ifK (n9 != 0) (k55 true W51) (dr W1 fun b56 o57=>ld W51 .str b56 (o57+1) fun s58=>ifK (decide ((s58.length:Int)<n9)) (k55 true W51) (k55 (decide (1024<w64 (n9+n14))) W51))) (dr W1 fun b59 o60=>ld W51 .str b59 (o60+1) fun s61=>ifK (decide ((s61.length:Int)<n9)) (k55 true W51) (k55 (decide (1024<w64 (n9+n14))) W51))) fun t7762 W63=>ifK t7762 (st W63 b4 0 [.str [],.str []] fun W64=>ld W64 .str b4 0 fun s65=>ld W64 .str b4 1 fun s66=>K s65 s66 false W64) (dr W1 fun b67 o68=>ld W63 .str b67 (o68+1) fun s69=>ssx s69 none (some n9) fun s70=>s70.length+s27.length<2^62∧st W63 b35 0 [.str (s70++s27)] fun W71=>joinK [.bool] (fun k72=>drawK W71 fun D W73=>ifK (!first3) (ldD D W73 .str b35 0 fun s74=>dr W1 fun b75 o76=>ldD D W73 .str b75 (o76+1) fun s77=>callK Pg 44 [Au s74,Au s77] W73 Oi fun n78 W79=>Mod D W73 W79∧ifK (decide (n78<0)) (k72 true W79) (ifK (!restart2) (dr W1 fun b80 o81=>ldD D W73 .str b80 (o81+1) fun s82=>ldD D W73 .str b35 0 fun s83=>callK Pg 131 [Au s82,Au s83] W79 Oi fun n84 W85=>Mod D W73 W85∧k72 (n84 != n9) W85) (k72 false W79))) (ifK (!restart2) (dr W1 fun b86 o87=>ldD D W73 .str b86 (o87+1) fun s88=>ldD D W73 .str b35 0 fun s89=>callK Pg 131 [Au s88,Au s89] W73 Oi fun n90 W91=>Mod D W73 W91∧k72 (n90 != n9) W91) (k72 false W73))) fun t11492 W93=>ifK t11492 (st W93 b4 0 [.str [],.str []] fun W94=>ld W94 .str b4 0 fun s95=>ld W94 .str b4 1 fun s96=>K s95 s96 false W94) (ld W93 .str b35 0 fun s97=>dr W1 fun b98 o99=>st W93 b98 (o99+1) [.str s97] fun W100=>ld W100 .str b35 0 fun s101=>ld W100 .str b35 1 fun s102=>st W100 b4 0 [.str s101,.str s102] fun W103=>ld W103 .str b4 0 fun s104=>ld W103 .str b4 1 fun s105=>K s104 s105 true W103)))):callK Pg 138 [Ap W1,Ab restart2,Ab first3] w (.tup [.agg [.str,.str],Lb]) K:=Fq (n:=(n0 .nil (n0 .nil (n0 .nil (n0 .nil (n0 .nil (n0 .nil (n0 (n0 .nil (n0 (.mk (some [.tmp 56 Lb]) [] [0,1,2,6,8,9,11,12] .done .nil .nil) .nil)) (n0 (n0 (.mk (some [.tmp 77 Lb]) [] [0,1,2,6,8,11,12] .done .nil .nil) .nil) (n0 .nil (n0 (n0 (.mk (some [.tmp 114 Lb]) [] [0,6,12] (tk [0,1,2] (.split 2 (.take 3 (.take 4 (.take 5 (.take 6 (.take 7 (.take 8 (.eff 9 (.take 10 (.take 11 (.take 12 (.split 12 (.take 13 (.take 14 (.take 15 (.take 16 (.take 17 (.take 18 (.take 19 (.take 20 (.take 21 (.take 22 (.take 23 (.take 24 (.take 25 (.take 26 .done)))))))))))))) (.take 13 (.take 14 (.take 15 (.split 15 (.take 16 (.take 17 (.take 18 (.take 19 (.take 20 (.take 21 (.take 23 (.eff 22 (.take 24 (.take 25 (.take 26 .done))))))))))) (.take 16 (.take 17 (.take 18 (.take 19 (.take 20 (.take 21 (.take 22 (.take 23 (.take 24 (.take 25 (.take 26 .done)))))))))))))))))))))))))) (.take 3 (.take 4 (.take 5 (.take 6 (.take 7 (.take 8 (.take 9 (.take 10 (.take 11 (.take 12 (.take 13 (.take 14 (.take 15 (.split 15 (.take 16 (.take 17 (.take 18 (.take 19 (.take 20 (.take 21 (.take 23 (.eff 22 (.take 24 (.take 25 (.take 26 .done))))))))))) (.take 16 (.take 17 (.take 18 (.take 19 (.take 20 (.take 21 (.take 22 (.take 23 (.take 24 (.take 25 (.take 26 .done))))))))))))))))))))))))))) .nil .nil) .nil) .nil))))))))))) CS_ok mixed Tryz.func138 (Eq.mpr (by kernel_rfl) h)
theorem go_77(raw1:Sl)(K:PA→Wp)(w:World)(h:ifK (decide ((raw1.len:Int)<8)) (K none w) (slx raw1 1 (some (w64 ((raw1.len:Int)-8))) (some (w64 ((w64 ((raw1.len:Int)-8))+4))) none fun s2=>callK Pg 35 [Az s2] w (.one (.leaf (.int .u64))) fun n3 W4=>slx raw1 1 (some (w64 ((w64 ((raw1.len:Int)-8))+4))) none none fun s5=>callK Pg 35 [Az s5] W4 (.one (.leaf (.int .u64))) fun n6 W7=>joinK [.bool] (fun k8=>ifK (decide (w64 (n3)<1)) (k8 true W7) (ifK (decide (64<w64 (n3))) (k8 true W7) (ifK (decide (w64 (n6)<1)) (k8 true W7) (k8 (decide (w64 ((w64 ((raw1.len:Int)-8)).tdiv 3)<w64 (n6))) W7)))) fun t479 W10=>ifK t479 (K none W10) ((w64 (n3))≠0∧ifK (decide (w64 ((w64 ((raw1.len:Int)-8))-(w64 (4*(w64 ((w64 ((w64 ((w64 (n6))+(w64 (n3))))-1)).tdiv (w64 (n3)))))))<0)) (K none W10) (al W10 144 [.int .i64 (w64 (n3)),.sl (⟨none,0,0⟩)] fun b11 W12=>slx raw1 1 none (some (w64 ((w64 ((raw1.len:Int)-8))-(w64 (4*(w64 ((w64 ((w64 ((w64 (n6))+(w64 (n3))))-1)).tdiv (w64 (n3))))))))) none fun s13=>callK Pg 85 [Az s13] W12 Oq fun p14 W15=>al W15 209 [.ptr none,.str []] fun b16 W17=>st W17 b16 0 [.ptr p14,.str []] fun W18=>joinK [] (fun k19=>loopL [Ki] (fun t6821 W22 g20=>ifK (decide (t6821<w64 (n6))) ((w64 (n3))≠0∧joinK [] (fun k23=>ifK ((t6821.tmod (w64 (n3)))==0) ((w64 (n3))≠0∧drawK W22 fun D W24=>slx raw1 1 (some (w64 ((w64 ((w64 ((raw1.len:Int)-8))-(w64 (4*(w64 ((w64 ((w64 ((w64 (n6))+(w64 (n3))))-1)).tdiv (w64 (n3))))))))+(w64 (4*(w64 (t6821.tdiv (w64 (n3))))))))) (some (w64 ((w64 ((w64 ((w64 ((raw1.len:Int)-8))-(w64 (4*(w64 ((w64 ((w64 ((w64 (n6))+(w64 (n3))))-1)).tdiv (w64 (n3))))))))+(w64 (4*(w64 (t6821.tdiv (w64 (n3))))))))+4))) none fun s25=>ldD D W24 .ptr b16 0 fun p26=>callK Pg 35 [Az s25] W24 (.one (.leaf (.int .u64))) fun n27 W28=>Mod D W24 W28∧callK Pg 87 [Ap p26] W28 Oi fun n29 W30=>Mod D W24 W30∧ifK (n27 != (IntKind.wrap .u64 (w64 ((w64 ((w64 ((raw1.len:Int)-8))-(w64 (4*(w64 ((w64 ((w64 ((w64 (n6))+(w64 (n3))))-1)).tdiv (w64 (n3))))))))-n29)))) (K none W30) (k23 W30)) (k23 W22)) fun W31=>(w64 (n3))≠0∧callK Pg 138 [Ap (some (b16,0)),Ab ((t6821.tmod (w64 (n3)))==0),Ab (t6821==0)] W31 (.tup [.agg [.str,.str],Lb]) fun s32 s33 c34 W35=>al W35 146 [.str [],.str []] fun b36 W37=>st W37 b36 0 [.str s32,.str s33] fun W38=>ifK (!c34) (K none W38) (drawK W38 fun D W39=>dr (some (b11,0)) fun b40 o41=>ldD D W39 .sl b40 (o41+1) fun a42=>ldD D W39 .str b36 0 fun s43=>ldD D W39 .str b36 1 fun s44=>al W39 146 [.str s43,.str s44] fun b45 W46=>Mod D W39 W46∧ap W46 146 2 32 [.str [],.str []] a42 (⟨some (b45,0),1,1⟩) fun a47 W48=>Mod D W39 W48∧dr (some (b11,0)) fun b49 o50=>st W48 b49 (o50+1) [.sl a47] fun W51=>g20 (w64 (t6821+1)) W51)) (k19 W22)) [.int .i64 0] W18) fun W52=>ld W52 .ptr b16 0 fun p53=>callK Pg 92 [Ap p53] W52 (.one (.agg [Ki,Ki])) fun n54 n55 W56=>ifK (n54 != 0) (K none W56) (K (some (b11,0)) W56))))):callK Pg 96 [Az raw1] w Oq K:=Fq (n:=(n0 .nil (n0 .nil (n0 .nil (n0 .nil (n0 .nil (n0 (n0 (.mk (some [.tmp 47 Lb]) [] [0,3,4,5] .done .nil .nil) .nil) (n0 .nil (n0 .nil (n0 .nil (n0 .nil (n0 (n0 .nil (.mk (some []) [] [7,8] .done (.mk none [.tmp 68 Li] [0,4,6,7,8,67] .done (n0 .nil (n0 .nil (n0 (n0 (n0 .nil (n0 (n0 .nil (.mk (some []) [] [0,4,6,7,8,9,67,68] .done (n0 .nil (n0 (.mk none [] [] (tk [0,1,2,3,4,6,7,8] (.eff 5 (.eff 9 (.take 10 (.take 11 (.take 12 .done)))))) .nil .nil) .nil)) .nil)) (n0 .nil (n0 .nil (.mk none [] [] (tk [0,1,2,3,4,5] (.eff 6 (.eff 7 (.take 8 (.take 9 (.last 10)))))) .nil .nil))))) .nil) .nil))) .nil) .nil)) .nil)))))))))))) CS_ok mixed Tryz.func96 (Eq.mpr (by kernel_rfl) h)
theorem go_83(tile1:Sl)(raw2:Int)(K:PA→Int→Wp)(w:World)(h:joinK [.bool] (fun k3=>ifK (decide (raw2<1)) (k3 true w) (k3 (decide (65536<raw2)) w)) fun t174 W5=>ifK t174 (K none 3 W5) (callK Pg 23 [Az tile1] W5 (.tup [Ls,Li]) fun a6 n7 W8=>ifK (n7 != 0) (K none n7 W8) (ifK ((a6.len:Int)==0) (K none 60 W8) (drawK W8 fun D W9=>slx a6 1 none (some (w64 ((a6.len:Int)-1))) none fun s10=>ix a6 1 (w64 ((a6.len:Int)-1)) fun b11 o12=>ldD D W9 (.int .u8) b11 o12 fun n13=>joinK [.bool] (fun k14=>callK Pg 95 [] W9 (.one (.agg [.val,.val,.val,.val,.val,.val])) fun v15 v16 v17 v18 v19 v20 W21=>ifK (decide (3≤w64 (n13))) (k14 true W21) (k14 (decide (w64 (64*(s10.len:Int))<raw2)) W21)) fun t5122 W23=>ifK t5122 (K none 60 W23) (callK Pg 95 [] W23 (.one (.agg [.val,.val,.val,.val,.val,.val])) fun v24 v25 v26 v27 v28 v29 W30=>opF Pg (vS (Instr.index 183 (.agg #[v24,v25,v26,v27,v28,v29]) (LV.toV (.int .i64 (w64 (n13)))))) W30 (.one (.agg [.val,.val])) fun v32 v33 W31=>callV Pg v33 [Az s10,Ai raw2] W31 (.tup [Ls,Li]) fun a34 n35 W36=>ifK (n35 != 0) (K none 60 W36) (callK Pg 96 [Az a34] W36 Oq fun p37 W38=>ifK (!p37.isNone) (K p37 0 W38) (K none 60 W38))))))):callK Pg 68 [Az tile1,Ai raw2] w (.tup [Lp,Li]) K:=Fq (n:=(n0 .nil (n0 (n0 (.mk (some [.tmp 17 Lb]) [] [0,1] .done .nil .nil) .nil) (n0 .nil (n0 .nil (n0 .nil (n0 (.mk none [] [] (tk [0,1,2,3,4,5,6,7,8,9,10,11,12,13] .done) .nil .nil) (n0 (n0 (.mk (some [.tmp 51 Lb]) [] [1,8,9] .done .nil .nil) .nil) .nil)))))))) CS_ok mixed Tryz.func68 (Eq.mpr (by kernel_rfl) h)
theorem go_84(r1:PA)(K:Int→Wp)(w:World)(h:ifK r1.isNone (K 0 w) (dr r1 fun b2 o3=>ld w .sl b2 (o3+1) fun a4=>K (a4.len:Int) w)):callK Pg 45 [Ap r1] w Oi K:=Fq (n:=.nil) CS_ok mixed Tryz.func45 (Eq.mpr (by kernel_rfl) h)
theorem go_85(r1:PA)(i2:Int)(K:List UInt8→List UInt8→Int→Wp)(w:World)(h:ifK r1.isNone (K [] [] 1 w) (joinK [.bool] (fun k3=>ifK (decide (i2<0)) (k3 true w) (dr r1 fun b4 o5=>ld w .sl b4 (o5+1) fun a6=>k3 (decide ((a6.len:Int)≤i2)) w)) fun t107 W8=>ifK t107 (K [] [] 3 W8) (drawK W8 fun D W9=>dr r1 fun b10 o11=>ldD D W9 .sl b10 (o11+1) fun a12=>ix a12 2 i2 fun b13 o14=>ldD D W9 .str b13 o14 fun s15=>dr r1 fun b16 o17=>ldD D W9 .sl b16 (o17+1) fun a18=>ix a18 2 i2 fun b19 o20=>ldD D W9 .str b19 (o20+1) fun s21=>K s15 s21 0 W9))):callK Pg 43 [Ap r1,Ai i2] w (.tup [Lt,Lt,Li]) K:=Fq (n:=(n0 .nil (n0 (n0 (n0 .nil (n0 .nil (n0 (.mk (some [.tmp 10 Lb]) [] [0,1] .done .nil .nil) .nil))) .nil) (n0 (.mk none [] [] (tk [0,1,2,3,4,5,6,7,8,9,10,11,12,13,14,15,16,17,18] .done) .nil .nil) .nil)))) CS_ok mixed Tryz.func43 (Eq.mpr (by kernel_rfl) h)
theorem ssx_take{s:Str}{n:Nat}(h:n≤s.length){i:Int}(hi:i=(n:Int)){K:Str→Prop}(hK:K (s.take n)):ssx s none (some i) K:=⟨0,n,rfl,hi.symm,Nzl _,h,by simpa using hK⟩
theorem ssx_drop{s:Str}{n:Nat}(h:n≤s.length){i:Int}(hi:i=(n:Int)){K:Str→Prop}(hK:K (s.drop n)):ssx s (some i) none K:=⟨n,s.length,hi.symm,rfl,h,Nlr _,by rw [←Lld,List.take_length];exact hK⟩
theorem Fresh.push2{w u:World}{D:Nat→Prop}{m ro:BL}{α:Type}{E:Enc α}{s:Sl}{l:List α}(h:Fresh w u D (m++ro))(hv:VecL ro E s l)(y:α){e e2:TypeId}{n bytes:Nat}{zs cs:List LV}(hc:cs.map LV.toV=E.f y)(hn:n=E.n)(hz:zs.length=E.n)(hlim:(l.length+1025)*(bytes+1)≤2^46)
  {K:Sl→Wp} (hK:∀s' ro' u',Fresh w u' D (m++ro')→VecL ro' E s' (l++[y])→Mod (Ks ro) u u'→(∀z,Ks ro' z→Ks ro z∨u.heap.size≤z)→K s' u'):Go.Vw.al u e cs fun b u'=>ap u' e2 n bytes zs s ⟨some (b,0),1,1⟩ K:=by
 refine h.alK fun b u1 h1 hb M1=>?_;rw [hc] at h1;have hB:=h1.own (b,E.f y) (Lmr _ (Lms.2 rfl));have h2:Fresh w u1 D (m++ro):=h1.sub (Lsl _ _);refine appL2 h2.at' hv (rd_one hB) hn hz (by simpa [Nat.add_assoc] using hlim) fun s' old ro' u' h' v' M' _ hro=>?_;have hro':∀z,Ks ro' z→Ks ro z∨u.heap.size≤z:=fun z hz=>(hro z hz).imp id fun h=>Nat.le_trans M1.size h;refine hK s' ro' u' (Fresh.of_new (h'.sub ((Lsl m old).append (List.Sublist.refl _))) fun p hp=>?_) v' (M1.trans M' (fun _ _ h=>h.elim) fun _ _ h=>h) hro';rcases Lma.1 hp with hp | hp
 ·exact h.new p (Lml _ hp)
 ·rcases hro' p.1 ⟨p,hp,rfl⟩ with⟨q,hq,e⟩ | h2
  ·rw [←e];exact h.new q (Lmr _ hq)
  ·exact Nat.le_trans h.mod.size h2
structure CuG(w u:World)(bc:Nat)(sC:Sl)(m:BL)(c:Cu):Prop where
 f:Fresh w u F0 m
 cur:CurAt u bc sC c
 low:∀b,rk sC b→b<u.heap.size
 out:∀p∈m,p.1≠bc∧¬rk sC p.1
 new:w.heap.size≤bc
section
variable {w u u':World}{bc:Nat}{sC:Sl}{m:BL}{c:Cu}
theorem CuG.quiet(h:CuG w u bc sC m c)(hM:Mod F0 u u'):CuG w u' bc sC m c:=⟨h.f.quiet hM,h.cur.quiet hM,fun b hb=>Nat.lt_of_lt_of_le (h.low b hb) hM.size,h.out,h.new⟩
theorem CuG.upd(h:CuG w u bc sC m c){c':Cu}{ro:BL}(hc:CurAt u' bc sC c')(hF:Fresh u u' (fun z=>z=bc) ro):CuG w u' bc sC (m++ro) c':=by
 have hlt:=h.cur.blk.lt;refine⟨⟨h.f.mod.trans hF.mod (fun _ _ h=>h) fun b hb e=>by have:=h.new;omega,?_,?_,?_⟩,hc,fun b hb=>Nat.lt_of_lt_of_le (h.low b hb) hF.mod.size,?_,h.new⟩
 ·intro p hp;rcases Lma.1 hp with hp | hp
  ·exact hF.mod.blk (h.f.own p hp) (h.out p hp).1
  ·exact hF.own p hp
 ·intro p hp;rcases Lma.1 hp with hp | hp
  ·exact h.f.new p hp
  ·exact Nat.le_trans h.f.mod.size (hF.new p hp)
 ·rw [List.map_append,List.nodup_append];refine⟨h.f.nodup,hF.nodup,?_⟩;rintro a ha b hb rfl;obtain⟨p,hp,rfl⟩:=List.mem_map.1 ha;obtain⟨q,hq,e⟩:=List.mem_map.1 hb;have h1:=(h.f.own p hp).lt;have h2:=hF.new q hq;omega
 ·intro p hp;rcases Lma.1 hp with hp | hp
  ·exact h.out p hp
  ·have:=hF.new p hp;exact⟨by omega,fun hr=>by have:=h.low _ hr;omega⟩
theorem CuG.sub{m':BL}(h:CuG w u bc sC m c)(hs:m'.Sublist m):CuG w u bc sC m' c:=⟨h.f.sub hs,h.cur,h.low,fun p hp=>h.out p (hs.subset hp),h.new⟩
theorem CuG.perm{m':BL}(h:CuG w u bc sC m c)(hp:m'.Perm m):CuG w u bc sC m' c:=⟨h.f.perm hp,h.cur,h.low,fun p hq=>h.out p (hp.subset hq),h.new⟩
theorem CuG.blk(h:CuG w u bc sC m c){i b:Nat}{x:List Value}(hi:m[i]? = some (b,x)):Blk u b x:=h.f.blk hi
theorem CuG.blk'(h:CuG w u bc sC m c){b:Nat}{x:List Value}(hi:(b,x)∈m):Blk u b x:=h.f.own (b,x) hi
theorem CuG.to(h:CuG w u bc sC m c){m':BL}{D:Nat→Prop}(hF:Fresh w u' F0 m')(hM:Mod D u u')(hD:∀b,D b→Ks m b)(hm:∀p∈m',Ks m p.1∨u.heap.size≤p.1):CuG w u' bc sC m' c:=by
 have hn:¬D bc:=fun e=>by
  obtain⟨q,hq,e2⟩:=hD _ e;exact (h.out q hq).1 e2
 have hr:∀b,rk sC b→¬D b:=fun b hb e=>by
  obtain⟨q,hq,e2⟩:=hD _ e;exact (h.out q hq).2 (by rw [e2];exact hb)
 refine⟨hF,h.cur.keep hM hn hr,fun b hb=>Nat.lt_of_lt_of_le (h.low b hb) hM.size,fun p hp=>?_,h.new⟩;rcases hm p hp with⟨q,hq,e⟩ | h2
 ·rw [←e];exact h.out q hq
 ·have:=h.cur.blk.lt;exact⟨by omega,fun hr=>by have:=h.low _ hr;omega⟩
theorem CuG.alK(h:CuG w u bc sC m c){e:TypeId}{cs:List LV}{K:Nat→Wp}(hK:∀b u',CuG w u' bc sC (m++[(b,cs.map LV.toV)]) c→K b u'):Go.Vw.al u e cs K:=
 h.f.alK fun b u' hF hb hM=>hK b u' (h.to hF hM (fun _ h=>h.elim) fun p hp=>by
  rcases Lma.1 hp with hp | hp
  ·exact .inl ⟨p,hp,rfl⟩
  ·simp at hp;subst hp;exact .inr hb)
theorem CuG.stK(h:CuG w u bc sC m c)(i:Nat){b o:Nat}{x:List Value}{vs:List LV}{K:Wp}(hi:m[i]? = some (b,x))(hl:o+vs.length≤x.length)
  (hK:∀u',CuG w u' bc sC (m.set i (b,spl x o (vs.map LV.toV))) c→K u'):Go.Vw.st u b o vs K:=
 h.f.stK i hi hl fun u' hF hM=>hK u' (h.to hF hM (fun z e=>⟨(b,x),Lmg hi,e.symm⟩) fun p hp=>by
  obtain⟨k,hk⟩:=List.mem_iff_getElem?.1 hp;rw [List.getElem?_set] at hk;split at hk
  ·split at hk
   ·cases hk;exact .inl ⟨(b,x),Lmg hi,rfl⟩
   ·cases hk
  ·exact .inl ⟨p,Lmg hk,rfl⟩)
theorem CuG.alM(h:CuG w u bc sC m c){e:TypeId}{cs:List LV}{K:Nat→Wp}(hK:∀b u',CuG w u' bc sC (m++[(b,cs.map LV.toV)]) c→Mod F0 u u'→K b u'):Go.Vw.al u e cs K:=
 h.f.alK fun b u' hF hb hM=>hK b u' (h.to hF hM (fun _ h=>h.elim) fun p hp=>by
  rcases Lma.1 hp with hp | hp
  ·exact .inl ⟨p,hp,rfl⟩
  ·simp at hp;subst hp;exact .inr hb) hM
theorem CuG.app{ro:BL}{α:Type}{E:Enc α}{s x:Sl}{l l2:List α}(h:CuG w u bc sC (m++ro) c)(hv:VecL ro E s l)(hr:RdS u E x l2){e:TypeId}{n bytes:Nat}{zs:List LV}(hn:n=E.n)(hz:zs.length=E.n)(hlim:(l.length+l2.length+1024)*(bytes+1)≤2^46)
  {K:Sl→Wp} (hK:∀s' ro' u',CuG w u' bc sC (m++ro') c→VecL ro' E s' (l++l2)→Mod (Ks ro) u u'→K s' u'):ap u e n bytes zs s x K:=
 appL2 h.f.at' hv hr hn hz hlim fun s' old ro' u' h' v' M' _ hro=>hK s' ro' u' (h.to (Fresh.of_new (h'.sub ((Lsl m old).append (List.Sublist.refl _))) fun p hp=>by
  rcases Lma.1 hp with hp | hp
  ·exact h.f.new p (Lml _ hp)
  ·rcases hro p.1 ⟨p,hp,rfl⟩ with⟨q,hq,e⟩ | h2
   ·rw [←e];exact h.f.new q (Lmr _ hq)
   ·exact Nat.le_trans h.f.mod.size h2) M' (fun z hz=>by obtain⟨q,hq,e⟩:=hz;exact⟨q,Lmr _ hq,e⟩) fun p hp=>by
  rcases Lma.1 hp with hp | hp
  ·exact .inl ⟨p,Lml _ hp,rfl⟩
  ·rcases hro p.1 ⟨p,hp,rfl⟩ with⟨q,hq,e⟩ | h2
   ·exact .inl ⟨q,Lmr _ hq,e⟩
   ·exact .inr h2) v' M'
theorem CuG.push{ro:BL}{α:Type}{E:Enc α}{s:Sl}{l:List α}(h:CuG w u bc sC (m++ro) c)(hv:VecL ro E s l)(y:α){e e2:TypeId}{n bytes:Nat}{zs cs:List LV}(hc:cs.map LV.toV=E.f y)(hn:n=E.n)(hz:zs.length=E.n)(hlim:(l.length+1025)*(bytes+1)≤2^46)
  {K:Sl→Wp} (hK:∀s' ro' u',CuG w u' bc sC (m++ro') c→VecL ro' E s' (l++[y])→Mod (Ks ro) u u'→K s' u'):Go.Vw.al u e cs fun b u'=>ap u' e2 n bytes zs s ⟨some (b,0),1,1⟩ K:=
 h.f.push2 hv y hc hn hz hlim fun s' ro' u' hF hv' hM hro=>hK s' ro' u' (h.to hF hM (fun z hz=>by obtain⟨q,hq,e⟩:=hz;exact⟨q,Lmr _ hq,e⟩) fun p hp=>by
  rcases Lma.1 hp with hp | hp
  ·exact .inl ⟨p,Lml _ hp,rfl⟩
  ·rcases hro p.1 ⟨p,hp,rfl⟩ with⟨q,hq,e⟩ | h2
   ·exact .inl ⟨q,Lmr _ hq,e⟩
   ·exact .inr h2) hv' hM
end
theorem newCursor_G{w:World}{s:Sl}{t:Str}(hr:RdS w ET s t)(hl:t.length≤1099511627776){K:PA→Wp}(hK:∀w' bc s',CuG w w' bc s' [] ⟨t,0,0⟩→(∀b,rk s' b→w.heap.size≤b)→K (some (bc,0)) w') :
  callK Pg c_65 [Az s] w Oq K:=
 newCursor_ok hr hl fun w' bc s' ro hc hA hv=>hK w' bc s' ⟨Fresh.none hA.mod,hc,fun b hb=>by
  obtain⟨q,hq,e⟩:=hv.key hb.2;have:=(hA.own q (Lml _ hq)).lt;omega,by simp,Nat.not_lt.1 fun hlt=>hA.wr (bc,_) (Lmr _ (Lms.2 rfl)) hlt⟩ fun b hb=>by
  obtain⟨q,hq,e⟩:=hv.key hb.2;exact Nat.not_lt.1 fun hlt=>hA.wr q (Lml _ hq) (by omega)
theorem take_le(c:Cu)(m:Int):(c.take m).1.length≤m.toNat:=by
 by_cases he:c.e=0
 ·rw [Cu.take_eq he];by_cases h0:takeE m c.left.length=0
  ·rw [if_pos h0];show (c.left.take m.toNat).length≤_;rw [Llt];omega
  ·rw [if_neg h0];exact Nzl _
 ·unfold Cu.take;rw [if_pos he];exact Nzl _
def nextN(c:Cu)(key:Str)(restart first:Bool):Option ((Str×Str)×Cu):=
 let a:=c.num 1024
 let b:=a.2.num 1024
 let d:=b.2.num 1024
 let r:=d.2.take b.1
 let v:=r.2.take d.1
 if ¬(v.2.done.1=0∨v.2.done.1=22) then none
 else if (restart=true∧a.1≠0)∨(key.length:Int)<a.1∨1024<a.1+b.1 then none
 else if (first=false∧cmpN (key.take a.1.toNat++r.1) key<0)∨(restart=false∧(comN key (key.take a.1.toNat++r.1):Int)≠a.1) then none
 else some ((key.take a.1.toNat++r.1,v.1),v.2)
theorem nextN_b{c:Cu}{key:Str}{restart first:Bool}{x:(Str×Str)×Cu}(h:nextN c key restart first=some x):x.2.b=c.b∧x.1.1.length≤1024∧x.1.2.length≤1024:=by
 unfold nextN at h;dsimp only at h;have ra:=num_range c 1024;have ba:=num_b c 1024;generalize c.num 1024=a at h ra ba;have rb:=num_range a.2 1024;have bb:=num_b a.2 1024;generalize a.2.num 1024=b at h rb bb;have rd:=num_range b.2 1024;have bd:=num_b b.2 1024;generalize b.2.num 1024=d at h rd bd;have hr:=take_le d.2 b.1;have br:=take_b d.2 b.1;generalize d.2.take b.1=r at h hr br;have hv:=take_le r.2 d.1;have bv:=take_b r.2 d.1;generalize r.2.take d.1=v at h hv bv;have ra2:=ra.2 (by decide);have rb2:=rb.2 (by decide);have rd2:=rd.2 (by decide);split at h
 ·cases h
 split at h
 ·cases h
 rename_i hq;split at h
 ·cases h
 have hq2:¬1024<a.1+b.1:=fun e=>hq (.inr (.inr e));cases h;refine⟨by show v.2.b=c.b;rw [bv,br,bd,bb,ba],?_,?_⟩
 ·show (key.take a.1.toNat++r.1).length≤1024;rw [Lla,Llt];omega
 ·show v.1.length≤1024;omega
def walkC(bc:Nat)(key:Str):List Value:=[(LV.ptr (some (bc,0))).toV,(LV.str key).toV]
def strs(x y:Str):List Value:=[(LV.str x).toV,(LV.str y).toV]
set_option maxHeartbeats 1000000 in
theorem next_ok{w:World}{bc bw:Nat}{sC:Sl}{c:Cu}{key:Str}(hc:CurAt w bc sC c)(hw:Blk w bw (walkC bc key))(hne:bw≠bc)(hnw:∀b,rk sC b→b≠bw)(hk:key.length≤1024){restart first:Bool}{K:Str→Str→Bool→Wp}
  (hN:nextN c key restart first=none→∀w',Mod (fun z=>z=bc) w w'→K [] [] false w')
  (hS:∀x,nextN c key restart first=some x→∀w',CurAt w' bc sC x.2→Blk w' bw (walkC bc x.1.1)→Mod (fun z=>z=bc∨z=bw) w w'→K x.1.1 x.1.2 true w') :
  callK Pg c_76 [Ap (some (bw,0)),Ab restart,Ab first] w (.tup [.agg [.str,.str],Lb]) K:=by
 refine go_76 _ _ _ _ _ ?_;unfold nextN at hN hS;dsimp only at hN hS;have hbw:=hw.lt;have LW:∀{u:World} {m:BL} {c':Cu} (h:CuF w u bc sC m c') {K:PA→Prop},K (some (bc,0))→dr (some (bw,0)) fun b o=>Go.Vw.ld u .ptr b o K:=fun {_ _ _} h {K} hK=>Dq ((h.f.mod.blk hw hne).ldK (k:=.ptr) (some (bc,0)) rfl hK);have LK:∀{u:World} {m:BL} {c':Cu} (h:CuF w u bc sC m c') {K:Str→Prop},K key→dr (some (bw,0)) fun b o=>Go.Vw.ld u .str b (o+1) K:=fun {_ _ _} h {K} hK=>Dq ((h.f.mod.blk hw hne).ldK (k:=.str) key rfl hK);have new:∀{u u':World} {m m':BL} {c':Cu},CuF w u bc sC m c'→Fresh w u' (fun z=>z=bc) m'→Mod (fun b=>w.heap.size≤b) u u'→CuF w u' bc sC m' c':=fun h hF hM=>h.new hF hM;refine (CuF.start hc).f.alK fun b4 w1 f1 _ M1=>?_;have h1:=(CuF.start hc).new f1 (M1.mono fun _ _ h=>h.elim);refine LW h1 (num_ok h1.cur fun w2 c2 M2=>?_);have h2:=h1.upd c2 (num_b _ _) (Fresh.none M2);have ra:=num_range c 1024;generalize c.num 1024=a at hN hS c2 h2 ra;refine LW h2 (num_ok h2.cur fun w3 c3 M3=>?_);have h3:=h2.upd c3 (num_b _ _) (Fresh.none M3);have rb:=num_range a.2 1024;generalize a.2.num 1024=b at hN hS c3 h3 rb;refine LW h3 (num_ok h3.cur fun w4 c4 M4=>?_);have h4:=h3.upd c4 (num_b _ _) (Fresh.none M4);have rd:=num_range b.2 1024;generalize b.2.num 1024=d at hN hS c4 h4 rd;refine LW h4 (take_ok h4.cur fun w5 ro5 s5 c5 v5 F5=>?_);have h5:=h4.upd c5 (take_b _ _) F5;have hrl:=take_le d.2 b.1;generalize d.2.take b.1=r at hN hS c5 h5 v5 hrl;refine convT (v5.rdF F5) (LW h5 (take_ok h5.cur fun w6 ro6 s6 c6 v6 F6=>?_));have h6:=h5.upd c6 (take_b _ _) F6;have hvl:=take_le r.2 d.1;generalize r.2.take d.1=v at hN hS c6 h6 v6 hvl;refine convT (v6.rdF F6) ?_;simp only [Lan,List.nil_append,Laa] at h6;have h6:CuF w w6 bc sC [(b4,strs [] [])] v.2:=h6.sub (Lsl [_] _);refine h6.f.alK fun b35 w7 f7 _ M7=>?_;have h7:=h6.new f7 (M7.mono fun _ _ h=>h.elim);refine h7.f.stK 1 rfl (Nlr 2) fun w8 f8 M8=>?_;have h8:CuF w w8 bc sC [(b4,strs [] []),(b35,strs [] v.1)] v.2:=h7.new f8 (M8.mono fun z _ e=>by rw [show z=b35 from e];exact h7.f.new (b35,_) (Lmr _ (Lms.2 rfl)));refine LW h8 (end_ok h8.cur fun w9 _ M9=>?_);have h9:=h8.quiet M9;refine h9.f.alK fun b44 w10 f10 _ M10=>?_;have h10:=h9.new f10 (M10.mono fun _ _ h=>h.elim);refine h10.f.stK 2 rfl (Nlr 2) fun w11 f11 M11=>?_;have h11:CuF w w11 bc sC [(b4,strs [] []),(b35,strs [] v.1),(b44,[.int .i64 v.2.done.1,.int .i64 v.2.done.2])] v.2:=h10.new f11 (M11.mono fun z _ e=>by rw [show z=b44 from e];exact h10.f.new (b44,_) (Lmr _ (Lms.2 rfl)));have hB44:=h11.f.blk (i:=2) rfl
 have out:∀{u:World} {m:BL} {x:List Value} {c':Cu},x.length=2→CuF w u bc sC ((b4,x)::m) c'→(∀w',Mod (fun z=>z=bc) w w'→K [] [] false w')→Go.Vw.st u b4 0 [.str [],.str []] fun u'=>Go.Vw.ld u' .str b4 0 fun s53=>Go.Vw.ld u' .str b4 1 fun s54=>K s53 s54 false u':=fun hx h hK=>by
  refine h.f.stK 0 rfl (by simp [hx]) fun u' f' M'=>?_;have hB:Blk u' b4 (strs [] []):=by
   have:=f'.blk (i:=0) rfl;rw [spl_eq _ _ _ (by simp [hx])] at this;simpa [strs,Ldn (Nat.le_of_eq hx)] using this
  exact hB.ldK (k:=.str) [] rfl (hB.ldK (k:=.str) [] rfl (hK _ f'.mod))
 refine join1 (a:=.bool) (fun q u=>q=decide (¬(v.2.done.1=0∨v.2.done.1=22))∧u=w11) ?_ ?_
 ·intro k47 hk47;refine hB44.ldK (k:=Ki) v.2.done.1 rfl (Iq (fun q=>?_) fun q=>hk47 _ _ ⟨?_,rfl⟩)
  ·have q:v.2.done.1≠0:=by simpa using q
   refine hB44.ldK (k:=Ki) v.2.done.1 rfl (hk47 _ _ ⟨?_,rfl⟩);rw [Bei,bne_iff_ne,Det];exact⟨fun e h=>h.elim q e,fun e h=>e (.inr h)⟩
  ·have q:v.2.done.1=0:=by simpa using q
   exact (Dcf fun h=>h (.inl q)).symm
 rintro q u ⟨rfl,rfl⟩;refine Iq (fun q=>?_) fun q=>?_
 ·have q:=odt q;exact out rfl h11 (hN (if_pos q))
 have q:=odf q;simp only [if_neg q] at hN hS;have ew:w64 (a.1+b.1)=a.1+b.1:=by have:=ra.2 (by decide);have:=rb.2 (by decide);exact Wq (by omega) (by omega)
 rw [ew];refine join1 (a:=.bool) (fun q v=>q=decide ((restart=true∧a.1≠0)∨(key.length:Int)<a.1∨1024<a.1+b.1)∧v=u) ?_ ?_
 ·intro k55 hk55;have rest:(¬(restart=true∧a.1≠0))→dr (some (bw,0)) fun b59 o60=>Go.Vw.ld u .str b59 (o60+1) fun s61=>ifK (decide ((s61.length:Int)<a.1)) (k55 true u) (k55 (decide (1024<a.1+b.1)) u):=fun hq=>by
   refine LK h11 (Iq (fun q1=>hk55 _ _ ⟨?_,rfl⟩) fun q1=>hk55 _ _ ⟨?_,rfl⟩)
   ·exact (Dct (.inr (.inl (odt q1)))).symm
   ·have q1:=odf q1;show decide (1024<a.1+b.1)=_;rw [Bei,Det,Det];exact⟨fun h=>.inr (.inr h),fun h=>(h.resolve_left hq).resolve_left q1⟩
  refine Iq (fun q1=>?_) fun q1=>rest fun h=>by rw [q1] at h;exact absurd h.1 (by decide)
  refine Iq (fun q2=>hk55 _ _ ⟨?_,rfl⟩) fun q2=>rest fun h=>?_
  ·have q2:a.1≠0:=by simpa using q2
   exact (Dct (.inl ⟨q1,q2⟩)).symm
  ·have q2:a.1=0:=by simpa using q2
   exact h.2 q2
 rintro q' u' ⟨rfl,rfl⟩;refine Iq (fun q2=>?_) fun q2=>?_
 ·have q2:=odt q2;exact out rfl h11 (hN (if_pos q2))
 have q2:=odf q2;simp only [if_neg q2] at hN hS;have ra2:=ra.2 (by decide);have rb2:=rb.2 (by decide);obtain⟨i,hi⟩:∃i:Nat,a.1=(i:Int):=⟨a.1.toNat,by omega⟩;have hik:i≤key.length:=by
  have:¬(key.length:Int)<a.1:=fun h=>q2 (.inr (.inl h));omega
 rw [hi] at hN hS q2 ⊢;simp only [Itn] at hN hS;refine LK h11 (ssx_take hik rfl ⟨by rw [Llt];omega,?_⟩);have hxl:(key.take i++r.1).length≤1099511627776:=by rw [Lla,Llt];omega
 generalize key.take i++r.1=x at hN hS hxl ⊢;refine h11.f.stK 1 rfl (by decide:0+1≤2) fun w12 f12 M12=>?_;have h12:CuF w w12 bc sC [(b4,strs [] []),(b35,strs x v.1),(b44,[.int .i64 v.2.done.1,.int .i64 v.2.done.2])] v.2:=h11.new f12 (M12.mono fun z _ e=>by rw [show z=b35 from e];exact h11.f.new (b35,strs [] v.1) (by simp))
 refine join1 (a:=.bool) (fun q v'=>q=decide ((first=false∧cmpN x key<0)∨(restart=false∧(comN key x:Int)≠(i:Int)))∧CuF w v' bc sC [(b4,strs [] []),(b35,strs x v.1),(b44,[.int .i64 v.2.done.1,.int .i64 v.2.done.2])] v.2) ?_ ?_
 ·intro k72 hk72;have h13:=h12.quiet (Mq w12);have hB:=h13.f.blk (i:=1) rfl;have hW:Blk w12.drew bw (walkC bc key):=h13.f.mod.blk hw hne;refine⟨F0,?_⟩
  have tail:∀{u:World},Mod F0 w12.drew u→¬(first=false∧cmpN x key<0)→ifK (!restart) (dr (some (bw,0)) fun b86 o87=>ldD F0 w12.drew .str b86 (o87+1) fun s88=>ldD F0 w12.drew .str b35 0 fun s89=>callK Pg c_53 [Au s88,Au s89] u Oi fun n90 W91=>Mod F0 w12.drew W91∧k72 (n90 != (i:Int)) W91) (k72 false u):=fun hM hq=>by
   refine Iq (fun q3=>?_) fun q3=>hk72 _ _ ⟨?_,h13.quiet hM⟩
   ·have q3:restart=false:=by simpa using q3
    refine Dq (hW.ldDK (k:=.str) key id rfl (hB.ldDK (k:=.str) x id rfl (common_ok (by omega) hxl fun w14 M14=>⟨mod0 hM M14,hk72 _ _ ⟨?_,h13.quiet (mod0 hM M14)⟩⟩)));rw [Bei,bne_iff_ne,Det];exact⟨fun h=>.inr ⟨q3,h⟩,fun h=>(h.resolve_left hq).2⟩
   ·have q3:restart=true:=by simpa using q3
    exact (Dcf fun h=>by
     rcases h with h | h
     ·exact hq h
     ·rw [q3] at h;exact absurd h.1 (by decide)).symm
  refine Iq (fun q3=>?_) fun q3=>tail (Mod.refl _ _) fun h=>?_
  ·have q3:first=false:=by simpa using q3
   refine hB.ldDK (k:=.str) x id rfl (Dq (hW.ldDK (k:=.str) key id rfl (compare_ok hxl (by omega) fun w14 M14=>⟨M14,Iq (fun q4=>hk72 _ _ ⟨?_,h13.quiet M14⟩) fun q4=>tail M14 fun h=>?_⟩)))
   ·exact (Dct (.inl ⟨q3,odt q4⟩)).symm
   ·exact odf q4 h.2
  ·rw [h.1] at q3;cases q3
 rintro q' v' ⟨rfl,h14⟩;refine Iq (fun q3=>?_) fun q3=>?_
 ·have q3:=odt q3;exact out rfl h14 (hN (if_pos q3))
 have q3:=odf q3;simp only [if_neg q3] at hS;have hB:=h14.f.blk (i:=1) rfl;have hW:Blk v' bw (walkC bc key):=h14.f.mod.blk hw hne;refine hB.ldK (k:=.str) x rfl (Dq (hW.stK (by decide:0+1+1≤2) fun w15 hW15 M15=>?_));have f15:Fresh w w15 (fun z=>z=bc∨z=bw) [(b4,strs [] []),(b35,strs x v.1),(b44,[.int .i64 v.2.done.1,.int .i64 v.2.done.2])]:=(h14.f.weaken (D':=fun z=>z=bc∨z=bw) fun _ _ h=>.inl h).step M15 (fun _ _ e=>.inr e) fun z hz e=>by omega
 have c15:CurAt w15 bc sC v.2:=h14.cur.keep M15 (fun e=>hne e.symm) fun z hz e=>hnw z hz e;have hB15:=f15.blk (i:=1) rfl;refine hB15.ldK (k:=.str) x rfl (hB15.ldK (k:=.str) v.1 rfl ?_);refine f15.stK 0 rfl (Nlr 2) fun w16 f16 M16=>?_;have hB16:Blk w16 b4 (strs x v.1):=f16.blk (i:=0) rfl;have hb4:w.heap.size≤b4:=f15.new (b4,strs [] []) (by simp);refine hB16.ldK (k:=.str) x rfl (hB16.ldK (k:=.str) v.1 rfl (hS _ rfl w16 ?_ (M16.blk hW15 (by omega)) f16.mod));have hcl:=hc.blk.lt;refine⟨M16.blk c15.blk (by omega),h14.rd.keepN f16.mod fun z hz _ e=>?_,c15.ne,c15.ok⟩;rcases e with e | e
 ·exact hc.ne z hz e
 ·exact hnw z hz e
theorem tdivN(a b:Nat):((a:Int).tdiv (b:Int))=((a/b:Nat):Int):=by
 rw [Int.tdiv_eq_ediv_of_nonneg (Int.natCast_nonneg _)];exact (Int.natCast_ediv a b).symm
theorem tmodN(a b:Nat):((a:Int).tmod (b:Int))=((a%b:Nat):Int):=by
 rw [Int.tmod_eq_emod_of_nonneg (Int.natCast_nonneg _)];exact (Int.natCast_emod a b).symm
theorem w64N{n:Nat}(h:n≤9223372036854775807):w64 (n:Int)=(n:Int):=Wq (by omega) (by omega)
theorem wordN_lt4(t:Str)(h:t.length≤4):wordN t<4294967296:=by
 unfold wordN;have h1:=wordF_lt (t.take 8);have h2:(t.take 8).length≤4:=by rw [Llt];omega
 have:(256:Nat)^(t.take 8).length≤256^4:=Nat.pow_le_pow_right (by decide) h2;omega
theorem rest_le(c:Cu):c.rest≤c.b.length:=by
 unfold Cu.rest;split
 ·exact Nzl _
 ·unfold Cu.left;rw [Lld];omega
theorem set_ne{m:BL}{w u:World}{D:Nat→Prop}(h:Fresh w u D m){i b:Nat}{x y:List Value}(hi:m[i]? = some (b,x)){p:Nat×List Value}(hp:p∈m.set i (b,y)):p=(b,y)∨(p∈m∧p.1≠b):=by
 obtain⟨k,hk⟩:=List.mem_iff_getElem?.1 hp;rw [List.getElem?_set] at hk;split at hk
 ·split at hk
  ·cases hk;exact .inl rfl
  ·cases hk
 ·rename_i hik;refine .inr ⟨Lmg hk,fun e=>?_⟩;exact h.at'.ne (b':=p.1) (c':=p.2) hi (by rw [hk]) hik e.symm
theorem set_keys{m:BL}{i b:Nat}{x y:List Value}(hi:m[i]? = some (b,x)):(m.set i (b,y)).map Prod.fst=m.map Prod.fst:=by
 rw [List.map_set];apply List.ext_getElem?;intro k;rw [List.getElem?_set];split
 ·rename_i hk;subst hk;split
  ·simp [hi]
  ·rename_i hn;simp at hn;simp [hn]
 ·rfl
theorem CuG.both{w u u':World}{bc:Nat}{sC:Sl}{m:BL}{c c':Cu}(h:CuG w u bc sC m c){i b:Nat}{x y:List Value}(hi:m[i]? = some (b,x))(hc:CurAt u' bc sC c')(hb:Blk u' b y)(hM:Mod (fun z=>z=bc∨z=b) u u'):CuG w u' bc sC (m.set i (b,y)) c':=by
 have hnb:=h.f.new (b,x) (Lmg hi);refine⟨⟨h.f.mod.trans hM (fun _ _ h=>h) fun z hz e=>?_,fun p hp=>?_,fun p hp=>?_,by rw [set_keys hi];exact h.f.nodup⟩,hc,fun z hz=>Nat.lt_of_lt_of_le (h.low z hz) hM.size,fun p hp=>?_,h.new⟩
 ·have:=h.new;simp only at hnb;rcases e with e | e<;>omega
 ·rcases set_ne h.f hi hp with rfl | ⟨h1,h2⟩
  ·exact hb
  ·exact hM.blk (h.f.own p h1) (fun e=>e.elim (h.out p h1).1 h2)
 ·rcases set_ne h.f hi hp with rfl | ⟨h1,h2⟩
  ·exact hnb
  ·exact h.f.new p h1
 ·rcases set_ne h.f hi hp with rfl | ⟨h1,h2⟩
  ·exact h.out (b,x) (Lmg hi)
  ·exact h.out p h1
def entRun(raw:Str)(fr restart:Nat):Nat→Nat→Str→Cu→List (Str×Str)→Option (List (Str×Str)×Cu)
 | 0,_,_,c,l=>some (l,c)
 | k+1,i,key,c,l=>
  if i%restart=0∧wordN ((raw.take (fr+4*(i/restart)+4)).drop (fr+4*(i/restart)))≠fr-c.rest then none
  else match nextN c key (i%restart==0) (i==0) with
  | none=>none
  | some x=>entRun raw fr restart k (i+1) x.1.1 x.2 (l++[x.1])
def parsedN(raw:Str):Option (Nat×List (Str×Str)):=
 if raw.length<8 then none else
 let restart:=wordN ((raw.take (raw.length-8+4)).drop (raw.length-8))
 let n:=wordN (raw.drop (raw.length-8+4))
 if restart<1∨64<restart∨n<1∨(raw.length-8)/3<n then none else
 if raw.length-8<4*((n+restart-1)/restart) then none else
 match entRun raw (raw.length-8-4*((n+restart-1)/restart)) restart n 0 [] ⟨raw.take (raw.length-8-4*((n+restart-1)/restart)),0,0⟩ [] with
 | none=>none
 | some x=>if x.2.done.1≠0 then none else some (restart,x.1)
def rdC(restart:Nat)(s:Sl):List Value:=[.int .i64 (restart:Int),(LV.sl s).toV]
set_option maxHeartbeats 2000000 in
theorem parsed_ok{w:World}{sR:Sl}{raw:Str}(hr:RdS w ET sR raw)(hl:raw.length≤1048576){K:PA→Wp}
  (hN:parsedN raw=none→∀w',Mod F0 w w'→K none w')
  (hS:∀x,parsedN raw=some x→∀w' b s ro,Fresh w w' F0 ([(b,rdC x.1 s)]++ro)→VecL ro EPr s x.2→K (some (b,0)) w') :
  callK Pg c_77 [Az sR] w Oq K:=by
 refine go_77 _ _ _ ?_;rw [hr.len];refine Iq (fun h=>?_) fun h=>?_
 ·have h:((raw.length:Nat):Int)<8:=odt h;exact hN (if_pos (by omega)) w (Mod.refl _ _)
 have h8:¬((raw.length:Nat):Int)<8:=odf h;have h8:¬raw.length<8:=by omega
 unfold parsedN at hN hS;rw [if_neg h8] at hN hS;have eE:w64 ((raw.length:Int)-8)=((raw.length-8:Nat):Int):=by rw [Wq (by omega) (by omega)];omega
 have eE4:w64 (((raw.length-8:Nat):Int)+4)=((raw.length-8+4:Nat):Int):=by rw [Wq (by omega) (by omega)];omega
 simp only [eE,eE4];refine hr.partK (by omega:raw.length-8≤raw.length-8+4) (by omega) rfl rfl rfl fun s2 hr2 _=>word_ok hr2 (by simp;omega) ?_;refine hr.fromK (by omega:raw.length-8+4≤raw.length) rfl rfl fun s5 hr5 _=>word_ok hr5 (by simp;omega) ?_;have hRl:=wordN_lt4 ((raw.take (raw.length-8+4)).drop (raw.length-8)) (by simp;omega);have hNl:=wordN_lt4 (raw.drop (raw.length-8+4)) (by simp;omega);generalize wordN ((raw.take (raw.length-8+4)).drop (raw.length-8))=R at hN hS hRl ⊢;generalize wordN (raw.drop (raw.length-8+4))=N at hN hS hNl ⊢;simp only at hN hS;have eR:w64 (R:Int)=(R:Int):=w64N (by omega);have eN:w64 (N:Int)=(N:Int):=w64N (by omega);simp only [eR,eN];have eE3:w64 ((((raw.length-8:Nat)):Int).tdiv 3)=(((raw.length-8)/3:Nat):Int):=by
  rw [show (3:Int)=((3:Nat):Int) from rfl,tdivN,w64N (by omega)]
 rw [eE3];refine join1 (a:=.bool) (fun q v=>q=decide (R<1∨64<R∨N<1∨(raw.length-8)/3<N)∧v=w) ?_ ?_
 ·intro k8 hk8;refine Iq (fun q=>hk8 _ _ ⟨?_,rfl⟩) fun q=>Iq (fun q2=>hk8 _ _ ⟨?_,rfl⟩) fun q2=>Iq (fun q3=>hk8 _ _ ⟨?_,rfl⟩) fun q3=>hk8 _ _ ⟨?_,rfl⟩
  ·have q:(R:Int)<1:=odt q;exact (Dct (.inl (by omega))).symm
  ·have q2:(64:Int)<R:=odt q2;exact (Dct (.inr (.inl (by omega)))).symm
  ·have q3:(N:Int)<1:=odt q3;exact (Dct (.inr (.inr (.inl (by omega))))).symm
  ·have q:¬(R:Int)<1:=odf q;have q2:¬(64:Int)<R:=odf q2;have q3:¬(N:Int)<1:=odf q3;show decide ((((raw.length-8)/3:Nat):Int)<(N:Int))=_;rw [Bei,Det,Det];omega
 rintro q v ⟨rfl,rfl⟩;refine Iq (fun q=>?_) fun q=>?_
 ·have q:=odt q;exact hN (if_pos q) v (Mod.refl _ _)
 have q:=odf q;rw [if_neg q] at hN hS;have hR1:1≤R:=by omega
 have hR0:(R:Int)≠0:=by omega
 refine⟨hR0,?_⟩;have hM1:(N+R-1)/R≤N+R:=Nat.le_trans (Nat.div_le_self _ _) (by omega);have e1:w64 ((N:Int)+(R:Int))=((N+R:Nat):Int):=by rw [Wq (by omega) (by omega)];omega
 have e2:w64 (((N+R:Nat):Int)-1)=((N+R-1:Nat):Int):=by rw [Wq (by omega) (by omega)];omega
 have hMi:∀i,i<N→i/R+1≤(N+R-1)/R:=fun i hi=>by
  rw [←Nat.add_div_right i (by omega)];exact Nat.div_le_div_right (by omega)
 generalize hMM:(N+R-1)/R=M at hN hS hM1 hMi;have e3:w64 ((((N+R-1:Nat)):Int).tdiv (R:Int))=((M:Nat):Int):=by rw [tdivN,hMM,w64N (by omega)]
 have e4:w64 (4*((M:Nat):Int))=((4*M:Nat):Int):=by rw [Wq (by omega) (by omega)];omega
 simp only [e1,e2,e3,e4];clear hMM;refine Iq (fun h=>?_) fun h=>?_
 ·have h:w64 (((raw.length-8:Nat):Int)-((4*M:Nat):Int))<0:=odt h;rw [Wq (by omega) (by omega)] at h;exact hN (if_pos (by omega)) v (Mod.refl _ _)
 have h:¬w64 (((raw.length-8:Nat):Int)-((4*M:Nat):Int))<0:=odf h;rw [Wq (by omega) (by omega)] at h;have hFE:¬raw.length-8<4*M:=by omega
 rw [if_neg hFE] at hN hS;have e5:w64 (((raw.length-8:Nat):Int)-((4*M:Nat):Int))=((raw.length-8-4*M:Nat):Int):=by rw [Wq (by omega) (by omega)];omega
 simp only [e5];have hfl:raw.length-8-4*M≤raw.length-8:=Nat.sub_le _ _;have hfm:raw.length-8-4*M+4*M≤raw.length-8:=by omega
 generalize raw.length-8-4*M=FR at hN hS hfl hfm ⊢;refine (Fresh.start v F0).alK fun b11 w1 f1 _ M1=>?_;refine (hr.quiet M1).toK (by omega:FR≤raw.length) rfl rfl fun s13 hr13 _=>newCursor_G hr13 (by simp;omega) fun w2 bc sC h2 hlo=>?_;have hb11:=f1.own (b11,_) (Lmr _ (Lms.2 rfl));have hlt11:=hb11.lt;have h2:CuG v w2 bc sC [(b11,rdC R ⟨none,0,0⟩)] ⟨raw.take FR,0,0⟩:=by
  have f2:=f1.join h2.f (fun _ _ h=>h) fun _ _ _ h=>h;refine⟨f2,h2.cur,h2.low,fun p hp=>?_,Nat.le_trans M1.size h2.new⟩;simp at hp;subst hp;have:=h2.new;exact⟨by omega,fun hr=>by have:=hlo _ hr;omega⟩
 refine h2.alK fun b16 w3 h3=>?_;refine h3.stK 1 rfl (Nlr 2) fun w4 h4=>?_;have h4:CuG v w4 bc sC ([(b11,rdC R ⟨none,0,0⟩),(b16,walkC bc [])]++[]) ⟨raw.take FR,0,0⟩:=h4;refine join0 (fun u=>∃(key:Str) (s:Sl) (ro:BL) (l:List (Str×Str)) (c:Cu),CuG v u bc sC ([(b11,rdC R s),(b16,walkC bc key)]++ro) c∧VecL ro EPr s l∧entRun raw FR R N 0 [] ⟨raw.take FR,0,0⟩ []=some (l,c)) ?_ ?_
 ·intro k19 hk19;refine loop1 (k:=Ki) (fun (t:Int) u=>∃(i:Nat) (key:Str) (s:Sl) (ro:BL) (l:List (Str×Str)) (c:Cu),t=(i:Int)∧i≤N∧l.length=i∧key.length≤1024∧c.b=raw.take FR∧CuG v u bc sC ([(b11,rdC R s),(b16,walkC bc key)]++ro) c∧VecL ro EPr s l∧entRun raw FR R N 0 [] ⟨raw.take FR,0,0⟩ []=entRun raw FR R (N-i) i key c l) (fun t _=>(N-t).toNat) (x:=0) rfl
   ⟨0,[],⟨none,0,0⟩,[],[],_,rfl,Nzl _,rfl,by simp,rfl,h4,VecL.nil EPr,rfl⟩ ?_
  rintro t u ⟨i,key,s,ro,l,c,rfl,hi,hll,hkl,hcb,hS',hv,hrun⟩;refine Iq (fun h=>?_) fun h=>?_;rotate_left
  ·have h:N≤i:=dge h;have:i=N:=by omega
   subst this;rw [Nat.sub_self] at hrun;exact hk19 _ ⟨key,s,ro,l,c,hS',hv,hrun⟩
  have hlt:i<N:=dlt h;obtain⟨k,hk⟩:∃k,N-i=k+1:=⟨N-i-1,by omega⟩;have hk2:N-(i+1)=k:=by omega
  rw [hk,entRun] at hrun;refine⟨hR0,?_⟩;have fail:entRun raw FR R N 0 [] ⟨raw.take FR,0,0⟩ []=none→∀u,Mod F0 v u→K none u:=fun h u hM=>hN (by rw [h]) u hM;rw [tmodN];have em:((((i%R:Nat):Int))==0)=(i%R==0):=by rw [Bei,beq_iff_eq,beq_iff_eq];omega
  have ez:(((i:Nat):Int)==0)=(i==0):=by rw [Bei,beq_iff_eq,beq_iff_eq];omega
  rw [em,ez];have hdi:i/R≤i:=Nat.div_le_self _ _;have hiM:i%R=0→FR+4*(i/R)+4≤raw.length:=fun _=>by
   have:=hMi i hlt;omega
  refine join0 (fun u'=>¬(i%R=0∧wordN ((raw.take (FR+4*(i/R)+4)).drop (FR+4*(i/R)))≠FR-c.rest)∧Mod F0 u u') ?_ ?_
  ·intro k23 hk23;refine Iq (fun q=>?_) fun q=>hk23 _ ⟨fun h=>?_,Mod.refl _ _⟩
   ·have q:i%R=0:=by simpa using q
    have hd:=hS'.quiet (Mq u);refine⟨hR0,F0,?_⟩;have d1:w64 (((i:Nat):Int).tdiv (R:Int))=((i/R:Nat):Int):=by rw [tdivN,w64N (by omega)]
    have d2:w64 (4*((i/R:Nat):Int))=((4*(i/R):Nat):Int):=by rw [Wq (by omega) (by omega)];omega
    have d3:w64 ((FR:Int)+((4*(i/R):Nat):Int))=((FR+4*(i/R):Nat):Int):=by rw [Wq (by omega) (by omega)];omega
    have d4:w64 (((FR+4*(i/R):Nat):Int)+4)=((FR+4*(i/R)+4:Nat):Int):=by rw [Wq (by omega) (by omega)];omega
    simp only [d1,d2,d3,d4];have hru:=hr.quiet hd.f.mod;refine hru.partK (Nat.le_add_right _ 4) (hiM q) rfl rfl rfl fun s25 hr25 _=>?_;refine (hd.blk (i:=1) rfl).ldDK (k:=.ptr) (some (bc,0)) id rfl (word_ok hr25 (by simp;omega) ⟨Mod.refl _ _,rest_ok hd.cur fun w5 _ M5=>⟨M5,?_⟩⟩);have hrl:=rest_le c;rw [hcb,Llt] at hrl;have d5:IntKind.wrap .u64 (w64 ((FR:Int)-(c.rest:Int)))=((FR-c.rest:Nat):Int):=by rw [Wq (by omega) (by omega),wrap_u64];omega
    rw [d5];refine Iq (fun q2=>?_) fun q2=>hk23 _ ⟨fun h=>?_,mod0 (Mq u) M5⟩
    ·have q2:((wordN ((raw.take (FR+4*(i/R)+4)).drop (FR+4*(i/R))):Nat):Int)≠((FR-c.rest:Nat):Int):=by simpa using q2
     rw [if_pos ⟨q,fun e=>q2 (by rw [e])⟩] at hrun;exact fail hrun _ (mod0 hd.f.mod M5)
    ·have q2:((wordN ((raw.take (FR+4*(i/R)+4)).drop (FR+4*(i/R))):Nat):Int)=((FR-c.rest:Nat):Int):=by simpa using q2
     exact h.2 (by omega)
   ·rw [h.1] at q;cases q
  rintro u' ⟨hq,hM'⟩;rw [if_neg hq] at hrun;have h5:=hS'.quiet hM';refine⟨hR0,?_⟩;have o16:=h5.out (b16,walkC bc key) (by simp);refine next_ok h5.cur (h5.blk (i:=1) rfl) o16.1 (fun z hz e=>o16.2 (by rw [←e];exact hz)) hkl (fun hn w6 M6=>?_) fun x hx w6 c6 B6 M6=>?_
  ·rw [hn] at hrun;have M7:Mod F0 v w6:=h5.f.mod.trans M6 (fun _ _ h=>h) fun z hz e=>by have:=h5.new;omega
   refine (Fresh.none M7).alK fun b36 w7 f7 _ M7=>f7.stK 0 rfl (Nlr 2) fun w8 f8 _=>ifK_t rfl (fail hrun _ f8.mod)
  rw [hx] at hrun;simp only at hrun;obtain⟨xb,xl1,xl2⟩:=nextN_b hx;have h6:CuG v w6 bc sC ([(b11,rdC R s),(b16,walkC bc x.1.1)]++ro) x.2:=h5.both (i:=1) rfl c6 B6 M6;have h6':CuG v w6 bc sC (([(b11,rdC R s),(b16,walkC bc x.1.1)]:BL)++ro) x.2:=h6;refine h6'.alK fun b36 w7 h7=>?_;have h7:CuG v w7 bc sC (([(b11,rdC R s),(b16,walkC bc x.1.1)]++ro)++[(b36,strs [] [])]) x.2:=h7;refine h7.stK (x:=strs [] []) (([(b11,rdC R s),(b16,walkC bc x.1.1)]:BL)++ro).length (by rw [Lgr (Nlr _),Nat.sub_self];rfl) (Nlr 2) fun w8 h8=>?_;rw [set_last] at h8;have h8:CuG v w8 bc sC (([(b11,rdC R s),(b16,walkC bc x.1.1)]++ro)++[(b36,strs x.1.1 x.1.2)]) x.2:=h8;refine ifK_f rfl ?_;have h9:CuG v w8.drew bc sC (([(b11,rdC R s),(b16,walkC bc x.1.1)]++[(b36,strs x.1.1 x.1.2)])++ro) x.2:=(h8.quiet (Mq w8)).perm (perm_last _ _ _);have hB36:=h9.blk' (b:=b36) (x:=strs x.1.1 x.1.2) (by simp);have nk:∀{p:Nat×List Value},p∈([(b11,rdC R s),(b16,walkC bc x.1.1)]++[(b36,strs x.1.1 x.1.2)]:BL)→¬Ks ro p.1:=fun hp=>h9.f.at'.notKs hp;have n11:¬Ks ro b11:=nk (p:=(b11,rdC R s)) (by simp);have n36:¬Ks ro b36:=nk (p:=(b36,strs x.1.1 x.1.2)) (by simp);refine⟨fun z=>Ks ro z,?_⟩;refine Dq ((h9.blk (i:=0) rfl).ldDK (k:=.sl) s n11 rfl ?_);refine hB36.ldDK (k:=.str) x.1.1 n36 rfl (hB36.ldDK (k:=.str) x.1.2 n36 rfl ?_);refine h9.alM fun b45 w10 h10 M10=>⟨M10.mono fun _ _ h=>h.elim,?_⟩;have hB45:Blk w10 b45 (EPr.f x.1):=h10.f.own (b45,_) (Lmr _ (Lms.2 rfl));have h10:CuG v w10 bc sC ((([(b11,rdC R s),(b16,walkC bc x.1.1)]++[(b36,strs x.1.1 x.1.2)])++[(b45,EPr.f x.1)])++ro) x.2:=h10.perm (perm_last _ _ _);refine h10.app hv (rd_one hB45) rfl rfl (by simp;omega) fun s' ro' w11 h11 v11 M11=>⟨M10.trans M11 (fun _ _ h=>h.elim) fun _ _ h=>h,Dq ?_⟩;refine h11.stK 0 rfl (by decide:0+1+1≤2) fun w12 h12=>?_;have h12:CuG v w12 bc sC ((([(b11,rdC R s'),(b16,walkC bc x.1.1)]++[(b36,strs x.1.1 x.1.2)])++[(b45,EPr.f x.1)])++ro') x.2:=h12;have es:=step64 (i:=i) (by omega);refine⟨⟨i+1,x.1.1,s',ro',l++[x.1],x.2,es,by omega,by simp [hll],xl1,by rw [xb,hcb],h12.sub ?_,v11,by rw [hk2];exact hrun⟩,by rw [es];omega⟩;exact ((Lsl _ _).trans (Lsl _ _)).append (List.Sublist.refl _)
 rintro u ⟨key,s,ro,l,c,hS',hv,hrun⟩;refine (hS'.blk (i:=1) rfl).ldK (k:=.ptr) (some (bc,0)) rfl (end_ok hS'.cur fun u1 _ M1'=>?_);have h9:=hS'.quiet M1';refine Iq (fun q=>?_) fun q=>?_
 ·have q:c.done.1≠0:=by simpa using q
  exact hN (by rw [hrun];exact if_pos q) _ h9.f.mod
 ·have q:¬c.done.1≠0:=by simpa using q
  refine hS (R,l) (by rw [hrun];exact if_neg q) u1 b11 s ro ?_ hv;exact h9.f.sub (List.Sublist.append (List.Sublist.cons_cons _ (List.Sublist.cons _ (List.Sublist.refl _))) (List.Sublist.refl _))
theorem lzRun_len{n:Nat}:∀(k:Nat) (text:Str) (c:Cu) {x:Str},lzRun n k text c=some x→x.length=n
 | 0,_,_,x,h=>by cases h
 | k+1,text,c,x,h=>by
  rw [lzRun] at h;split at h
  ·split at h
   ·rename_i h1;cases h;exact h1.1
   ·cases h
  ·dsimp only at h;split at h
   ·exact lzRun_len k _ _ h
   ·cases h
theorem lzDec_len{b:Str}{n:Nat}{x:Str}(h:lzDec b n=some x):x.length=n:=lzRun_len _ _ _ h
theorem wordsRun_len{lens:List Nat}{bits:Str}:∀(n i:Nat) (text:Str) {x:Str×Nat},wordsRun lens bits n i text=some x→x.1.length=text.length+n
 | 0,i,text,x,h=>by cases h;rfl
 | n+1,i,text,x,h=>by
  rw [wordsRun] at h;split at h
  ·cases h
  ·rw [wordsRun_len n _ _ h,Lla,List.length_singleton];omega
theorem huffDec_len{b:Str}{n:Nat}{x:Str}(h:huffDec b n=some x):x.length=n:=by
 unfold huffDec at h;split at h
 ·cases h
 unfold wordsOf at h;split at h
 ·cases h
 split at h
 ·cases h
 rename_i y hy;split at h
 ·cases h;have:=wordsRun_len _ _ _ hy;simpa using this
 ·cases h
theorem codes_ok{w:World}{K:Value→Value→Value→Value→Value→Value→Wp}
  (hK:∀w',Mod F0 w w'→K (.func (.func c_78) #[] #[]) (.func (.func c_79) #[] #[]) (.func (.func c_80) #[] #[]) (.func (.func c_71) #[] #[]) (.func (.func c_81) #[] #[]) (.func (.func c_75) #[] #[]) w') :
  callK Pg c_82 [] w (.one (.agg [.val,.val,.val,.val,.val,.val])) K:=by
 refine go_82 _ _ ?_;refine (At.init w F0).alK fun b w1 _ h1 _=>?_;have cell2:∀f g:FuncId,∀x∈[(.func (.func f) #[] #[]:Value),(.func (.func g) #[] #[]:Value)],isCell x=true:=fun f g x hx=>by
  simp only [List.mem_cons,List.not_mem_nil,or_false] at hx;rcases hx with rfl | rfl<;>rfl
 refine⟨cell2 _ _,cell2 _ _,cell2 _ _,?_,?_,?_⟩
 iterate 2
  intro x hx;simp only [List.mem_cons,List.not_mem_nil,or_false] at hx;rcases hx with rfl | rfl | rfl | rfl | rfl | rfl<;>rfl
 refine h1.st 0 rfl (Nlr 6) fun w2 h2 _=>?_;have hB:=h2.blk (i:=0) rfl;exact hB.ldK (k:=.val) _ rfl (hB.ldK (k:=.val) _ rfl (hB.ldK (k:=.val) _ rfl (hB.ldK (k:=.val) _ rfl (hB.ldK (k:=.val) _ rfl (hB.ldK (k:=.val) _ rfl (hK _ h2.mod))))))
theorem index_codes{v0 v1 v2 v3 v4 v5:Value}{w:World}{i:Nat}(hi:i<3){K:Value→Value→Wp}(hK:K (if i=0 then v0 else if i=1 then v2 else v4) (if i=0 then v1 else if i=1 then v3 else v5) w) :
  opF Pg (vS (Instr.index t_codes (.agg #[v0,v1,v2,v3,v4,v5]) (LV.toV (.int .i64 (i:Int))))) w (.one (.agg [.val,.val])) K:=by
 have r0:(Instr.index t_codes (.agg #[v0,v1,v2,v3,v4,v5]) (.int .i64 0)).run Pg w = .ok (.agg #[v0,v1]) w:=by kernel_rfl
 have r1:(Instr.index t_codes (.agg #[v0,v1,v2,v3,v4,v5]) (.int .i64 1)).run Pg w = .ok (.agg #[v2,v3]) w:=by kernel_rfl
 have r2:(Instr.index t_codes (.agg #[v0,v1,v2,v3,v4,v5]) (.int .i64 2)).run Pg w = .ok (.agg #[v4,v5]) w:=by kernel_rfl
 have fin:∀{x y:Value} {j:Int},(Instr.index t_codes (.agg #[v0,v1,v2,v3,v4,v5]) (.int .i64 j)).run Pg w = .ok (.agg #[x,y]) w→K x y w→opF Pg (vS (Instr.index t_codes (.agg #[v0,v1,v2,v3,v4,v5]) (LV.toV (.int .i64 j)))) w (.one (.agg [.val,.val])) K:=fun {x y j} hr hk=>by
  refine⟨[.val x,.val y],w,?_,hk⟩;unfold vS;have hr':(Instr.index t_codes (.agg #[v0,v1,v2,v3,v4,v5]) (LV.toV (.int .i64 j))).run Pg w = .ok (.agg #[x,y]) w:=hr;simp only [Sem.run_bind,hr',Result.andThen];rfl
 obtain rfl | rfl | rfl:i=0∨i=1∨i=2:=by omega
 ·exact fin r0 hK
 ·exact fin r1 hK
 ·exact fin r2 hK
def textN(flag:Nat)(p:Str)(n:Nat):Option Str:=if flag=0 then (if p.length=n then some p else none) else if flag=1 then lzDec p n else huffDec p n
def blockN(tile:Str)(raw:Int):Int×Option (Nat×List (Str×Str)):=
 if raw<1∨65536<raw then (3,none) else
 if (openB tile).1≠0 then ((openB tile).1,none) else
 if (openB tile).2.length=0 then (60,none) else
 if 3≤((openB tile).2.getD ((openB tile).2.length-1) 0).toNat∨64*(((openB tile).2.length-1:Nat):Int)<raw then (60,none) else
 match textN ((openB tile).2.getD ((openB tile).2.length-1) 0).toNat ((openB tile).2.take ((openB tile).2.length-1)) raw.toNat with
 | none=>(60,none)
 | some t=>match parsedN t with
  | none=>(60,none)
  | some x=>(0,some x)
set_option maxHeartbeats 1000000 in
theorem blockOpen_ok{w:World}{sT:Sl}{tile:Str}(hr:RdS w ET sT tile)(hl:tile.length≤1048576){raw:Int}{K:PA→Int→Wp}
  (hN:(blockN tile raw).2=none→∀w',Mod F0 w w'→K none (blockN tile raw).1 w')
  (hS:∀x,(blockN tile raw).2=some x→∀w' b s ro,Fresh w w' F0 ([(b,rdC x.1 s)]++ro)→VecL ro EPr s x.2→K (some (b,0)) (blockN tile raw).1 w') :
  callK Pg c_83 [Az sT,Ai raw] w (.tup [Lp,Li]) K:=by
 refine go_83 _ _ _ _ ?_;refine join1 (a:=.bool) (fun q v=>q=decide (raw<1∨65536<raw)∧v=w) ?_ ?_
 ·intro k hk;refine Iq (fun h=>hk _ _ ⟨?_,rfl⟩) fun h=>hk _ _ ⟨?_,rfl⟩
  ·exact (Dct (.inl (odt h:(raw:Int)<1))).symm
  ·have h:¬raw<1:=odf h;show decide (65536<raw)=_;rw [Bei,Det,Det];omega
 rintro q v ⟨rfl,rfl⟩;unfold blockN at hN hS;refine Iq (fun h=>?_) fun h=>?_
 ·have h:=odt h;rw [if_pos h] at hN;exact hN rfl v (Mod.refl _ _)
 have h:=odf h;rw [if_neg h] at hN hS;obtain⟨n,rfl⟩:∃n:Nat,raw=(n:Int):=⟨raw.toNat,by omega⟩;refine open_ok hr (by omega) fun w1 ro1 s1 h1 v1=>?_;have hol:(openB tile).2.length≤1048576:=by
  unfold openB;split
  ·exact Nzl _
  ·split
   ·show (tile.take _).length≤_;rw [Llt];omega
   ·exact Nzl _
 generalize openB tile=o at hN hS v1 hol ⊢;refine Iq (fun q=>?_) fun q=>?_
 ·have q:o.1≠0:=by simpa using q
  rw [if_pos q] at hN;exact hN rfl _ h1.mod
 have q:¬o.1≠0:=by simpa using q
 rw [if_neg q] at hN hS;have r1:RdS w1 ET s1 o.2:=v1.rdAt0 h1;rw [r1.len];refine Iq (fun q2=>?_) fun q2=>?_
 ·have q2:(o.2.length:Int)=0:=by simpa using q2
  rw [if_pos (by omega)] at hN;exact hN rfl _ h1.mod
 have q2:¬(o.2.length:Int)=0:=by simpa using q2
 have q2:¬o.2.length=0:=by omega
 rw [if_neg q2] at hN hS;have e1:w64 ((o.2.length:Int)-1)=((o.2.length-1:Nat):Int):=by rw [Wq (by omega) (by omega)];omega
 simp only [e1];have hd:=h1.drew;have rd:=r1.quiet (Mq w1);have hlt:o.2.length-1<o.2.length:=by omega
 refine⟨F0,rd.toK (by omega:o.2.length-1≤o.2.length) rfl rfl fun s10 r10 _=>rd.byte rfl hlt fun bb oo _ hcell=>Lw (k:=.int .u8) ((o.2[o.2.length-1]).toNat:Int) id hcell ?_⟩;have eg:o.2.getD (o.2.length-1) 0=o.2[o.2.length-1]:=by rw [Lgd,Lge hlt];rfl
 rw [eg] at hN hS;have hfb:(o.2[o.2.length-1]).toNat<256:=UInt8.toNat_lt_size _;generalize (o.2[o.2.length-1]).toNat=f at hN hS hfb ⊢;have ef:w64 (f:Int)=(f:Int):=Wq (by omega) (by omega);simp only [ef];have hpl:(o.2.take (o.2.length-1)).length=o.2.length-1:=by rw [Llt];omega
 have e64:w64 (64*((s10.len:Nat):Int))=64*((o.2.length-1:Nat):Int):=by rw [r10.len,hpl,Wq (by omega) (by omega)]
 rw [e64];have M1:Mod F0 v w1.drew:=mod0 h1.mod (Mq w1);refine join1 (a:=.bool) (fun q u=>q=decide (3≤f∨64*((o.2.length-1:Nat):Int)<(n:Int))∧Mod F0 w1.drew u) ?_ ?_
 ·intro k hk;refine codes_ok fun w2 M2=>Iq (fun h=>hk _ _ ⟨?_,M2⟩) fun h=>hk _ _ ⟨?_,M2⟩
  ·have h:(3:Int)≤(f:Int):=odt h;exact (Dct (.inl (by omega))).symm
  ·have h:¬(3:Int)≤(f:Int):=odf h;show decide (64*((o.2.length-1:Nat):Int)<(n:Int))=_;rw [Bei,Det,Det];omega
 rintro q u ⟨rfl,M2⟩;have M3:Mod F0 v u:=mod0 M1 M2;refine Iq (fun q=>?_) fun q=>?_
 ·have q:=odt q;rw [if_pos q] at hN;exact hN rfl _ M3
 have q:=odf q;rw [if_neg q] at hN hS;simp only [Itn] at hN hS;refine codes_ok fun w3 M4=>index_codes (i:=f) (by omega) ?_;have M5:Mod F0 v w3:=mod0 M3 M4;have rp:RdS w3 ET s10 (o.2.take (o.2.length-1)):=(r10.quiet M2).quiet M4;have hn:n≤65536:=by omega
 have fin:∀(t:Option Str) (s:Sl) (e:Int) (u:World),textN f (o.2.take (o.2.length-1)) n=t→(t=none↔e≠0)→Mod F0 v u→(∀x,t=some x→RdS u ET s x∧x.length=n) →
   ifK (e != 0) (K none 60 u) (callK Pg c_77 [Az s] u Oq fun p37 W38=>ifK (!p37.isNone) (K p37 0 W38) (K none 60 W38)):=fun t s e u ht hte hM hx=>by
  rw [ht] at hN hS;refine Iq (fun q=>?_) fun q=>?_
  ·have q:e≠0:=by simpa using q
   rw [hte.2 q] at hN;exact hN rfl u hM
  ·have q:e=0:=by simpa using q
   cases t with
   | none=>exact absurd q (hte.1 rfl)
   | some x=>
    obtain⟨hrx,hxl⟩:=hx x rfl;simp only at hN hS;refine parsed_ok hrx (by omega) (fun hp u' hM'=>ifK_f rfl ?_) fun y hp u' b s' ro F' v'=>ifK_t rfl ?_
    ·rw [hp] at hN;exact hN rfl u' (mod0 hM hM')
    ·rw [hp] at hS;exact hS y rfl u' b s' ro ⟨mod0 hM F'.mod,F'.own,fun p hp=>Nat.le_trans hM.size (F'.new p hp),F'.nodup⟩ v'
 obtain rfl | rfl | rfl:f=0∨f=1∨f=2:=by omega
 ·refine callV_func (by kernel_rfl) [Az s10,Ai (n:Int)] rfl (go_79 _ _ _ _ ?_);rw [rp.len,hpl];refine Iq (fun q=>?_) fun q=>?_
  ·have q:((o.2.length-1:Nat):Int)≠(n:Int):=by simpa using q
   refine fin none _ 60 w3 ?_ (by simp) M5 fun x hx=>by cases hx
   unfold textN;rw [if_pos rfl,if_neg (by rw [hpl];omega)]
  ·have q:((o.2.length-1:Nat):Int)=(n:Int):=by simpa using q
   refine fin (some (o.2.take (o.2.length-1))) _ 0 w3 ?_ (by simp) M5 fun x hx=>by cases hx;exact⟨rp,by rw [hpl];omega⟩
   unfold textN;rw [if_pos rfl,if_pos (by rw [hpl];omega)]
 ·refine callV_func (by kernel_rfl) [Az s10,Ai (n:Int)] rfl (lzDecode_ok rp (by rw [hpl];omega) fun w4 ro4 s4 v4 F4=>?_);have hD:lzD (o.2.take (o.2.length-1)) (n:Int)=match lzDec (o.2.take (o.2.length-1)) n with
    | none=>([],30)
    | some x=>(x,0):=if_neg (by omega)
  refine fin (lzDec (o.2.take (o.2.length-1)) n) s4 _ w4 rfl ?_ (mod0 M5 F4.mod) fun x hx=>?_
  ·rw [hD];cases lzDec (o.2.take (o.2.length-1)) n<;>simp
  ·rw [hD,hx] at v4;exact⟨v4.rdF F4,lzDec_len hx⟩
 ·refine callV_func (by kernel_rfl) [Az s10,Ai (n:Int)] rfl (huffDecode_ok rp (by rw [hpl];omega) fun w4 ro4 s4 v4 F4=>?_);have hD:huffD (o.2.take (o.2.length-1)) (n:Int)=match huffDec (o.2.take (o.2.length-1)) n with
    | none=>([],40)
    | some x=>(x,0):=if_neg (by omega)
  refine fin (huffDec (o.2.take (o.2.length-1)) n) s4 _ w4 rfl ?_ (mod0 M5 F4.mod) fun x hx=>?_
  ·rw [hD];cases huffDec (o.2.take (o.2.length-1)) n<;>simp
  ·rw [hD,hx] at v4;exact⟨v4.rdF F4,huffDec_len hx⟩
structure BlkR(w:World)(b:Nat)(s:Sl)(R:Nat)(l:List (Str×Str)):Prop where
 blk:Blk w b (rdC R s)
 rd:RdS w EPr s l
theorem BlkR.quiet{w u:World}{b:Nat}{s:Sl}{R:Nat}{l:List (Str×Str)}(h:BlkR w b s R l)(hM:Mod F0 w u):BlkR u b s R l:=⟨hM.blk h.blk id,h.rd.quiet hM⟩
theorem blockLen_ok{w:World}{b:Nat}{s:Sl}{R:Nat}{l:List (Str×Str)}(h:BlkR w b s R l){K:Int→Wp}(hK:K (l.length:Int) w):callK Pg c_84 [Ap (some (b,0))] w Oi K:=by
 refine go_84 _ _ _ (ifK_f rfl (Dq (h.blk.ldK (k:=.sl) s rfl ?_)));rw [h.rd.len];exact hK
def atN(l:List (Str×Str))(i:Int):Str×Str×Int:=if i<0∨(l.length:Int)≤i then ([],[],3) else ((l.getD i.toNat ([],[])).1,(l.getD i.toNat ([],[])).2,0)
theorem blockAt_ok{w:World}{b:Nat}{s:Sl}{R:Nat}{l:List (Str×Str)}(h:BlkR w b s R l){i:Int}{K:Str→Str→Int→Wp}(hK:∀w',Mod F0 w w'→K (atN l i).1 (atN l i).2.1 (atN l i).2.2 w') :
  callK Pg c_85 [Ap (some (b,0)),Ai i] w (.tup [Lt,Lt,Li]) K:=by
 refine go_85 _ _ _ _ (ifK_f rfl ?_);refine join1 (a:=.bool) (fun q v=>q=decide (i<0∨(l.length:Int)≤i)∧v=w) ?_ ?_
 ·intro k hk;refine Iq (fun q=>hk _ _ ⟨?_,rfl⟩) fun q=>Dq (h.blk.ldK (k:=.sl) s rfl (hk _ _ ⟨?_,rfl⟩))
  ·exact (Dct (.inl (odt q:i<0))).symm
  ·have q:¬i<0:=odf q;rw [h.rd.len];show decide ((l.length:Int)≤i)=_;rw [Bei,Det,Det];omega
 rintro q v ⟨rfl,rfl⟩;unfold atN at hK;refine Iq (fun q=>?_) fun q=>?_
 ·have q:=odt q;have:=hK v (Mod.refl _ _);rw [if_pos q] at this;exact this
 have q:=odf q;have:=hK _ (Mq v);rw [if_neg q] at this;obtain⟨j,rfl⟩:∃j:Nat,i=(j:Int):=⟨i.toNat,by omega⟩;simp only [Itn] at this;have hj:j<l.length:=by omega
 obtain⟨x,hx⟩:∃x,l[j]? = some x:=⟨_,Lge hj⟩;have eg:l.getD j ([],[])=x:=by rw [Lgd,hx];rfl
 rw [eg] at this;have hd:=h.quiet (Mq v);refine⟨F0,Dq (hd.blk.ldDK (k:=.sl) s id rfl (hd.rd.ix rfl rfl hx fun b1 o1 _ hc1=>Lw (k:=.str) x.1 id (hc1 0 (by decide)) (Dq (hd.blk.ldDK (k:=.sl) s id rfl (hd.rd.ix rfl rfl hx fun b2 o2 _ hc2=>Lw (k:=.str) x.2 id (hc2 1 (by decide)) this)))))⟩
end Go.Proofs.YtoegpmjoajipcaaGreatDoor

namespace Go.Proofs.YtoegpmjoajipcaaGreatDoor
open Go.Vw
set_option maxRecDepth 100000
theorem go_86(f_0_1:Bool)(f_1_2:Int)(f_2_3:Sl)(K:Int→Wp)(w:World)(h:al w 52 [.bool f_0_1,.int .i64 f_1_2,.sl f_2_3] fun b4 W5=>joinK [.bool] (fun k6=>ld W5 .bool b4 0 fun c7=>ifK c7 (ld W5 Ki b4 1 fun n8=>ifK (n8==0) (ld W5 .sl b4 2 fun a9=>k6 ((a9.len:Int)==0) W5) (k6 false W5)) (k6 false W5)) fun t310 W11=>ifK t310 (K 1 W11) (joinK [.bool] (fun k12=>ld W11 .bool b4 0 fun c13=>ifK (!c13) (ld W11 Ki b4 1 fun n14=>ifK (n14==0) (ld W11 .sl b4 2 fun a15=>k12 ((a15.len:Int)==0) W11) (k12 false W11)) (k12 false W11)) fun t1716 W17=>ifK t1716 (K 2 W17) (joinK [.bool] (fun k18=>ld W17 .bool b4 0 fun c19=>ifK (!c19) (ld W17 Ki b4 1 fun n20=>ifK (decide (1≤n20)) (ld W17 Ki b4 1 fun n21=>ifK (decide (n21≤8)) (ld W17 .sl b4 2 fun a22=>ifK (decide (1≤(a22.len:Int))) (ld W17 .sl b4 2 fun a23=>k18 (decide ((a23.len:Int)≤4096)) W17) (k18 false W17)) (k18 false W17)) (k18 false W17)) (k18 false W17)) fun t3224 W25=>ifK t3224 (K 3 W25) (K 0 W25)))):callK Pg 123 [.agg [.bool f_0_1,.int .i64 f_1_2,.sl f_2_3]] w Oi K:=Fq (n:=(n0 .nil (n0 (n0 (n0 (.mk (some [.tmp 3 Lb]) [] [1] .done .nil .nil) (n0 .nil (n0 (.mk (some [.tmp 17 Lb]) [] [1] .done .nil .nil) (n0 .nil (n0 (.mk (some [.tmp 32 Lb]) [] [] .done .nil .nil) .nil))))) .nil) .nil))) CS_ok mixed Tryz.func123 (Eq.mpr (by kernel_rfl) h)
theorem go_87(f_0_1:Bool)(f_1_2:Int)(f_2_3:Sl)(K:Int→Wp)(w:World)(h:al w 52 [.bool f_0_1,.int .i64 f_1_2,.sl f_2_3] fun b4 W5=>ld W5 .bool b4 0 fun c6=>ld W5 Ki b4 1 fun n7=>ld W5 .sl b4 2 fun a8=>callK Pg 123 [.agg [.bool c6,.int .i64 n7,.sl a8]] W5 Oi fun n9 W10=>ifK (n9==0) (K 70 W10) (K 0 W10)):callK Pg 126 [.agg [.bool f_0_1,.int .i64 f_1_2,.sl f_2_3]] w Oi K:=Fq (n:=.nil) CS_ok mixed Tryz.func126 (Eq.mpr (by kernel_rfl) h)
end Go.Proofs.YtoegpmjoajipcaaGreatDoor
