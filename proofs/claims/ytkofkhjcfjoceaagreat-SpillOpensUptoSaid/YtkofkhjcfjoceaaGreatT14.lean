/- Part T14. -/
import Derived.Test.YtkofkhjcfjoceaaGreatT13
namespace Go.Proofs.YtkofkhjcfjoceaaGreat
open Go.Vw
structure Ce(l:List PartI)(c:CurE):Prop where
 at_:¬c.info<0→∃(i k:Nat) (x:PartI),c.info=(i:Int)∧l[i]? = some x∧c.block=(k:Int)∧k≤x.blocks.length
 key:c.key.length≤1024
 frm:c.frm.length≤1099511627776
 lst:c.lst.length≤1048576∧∀x∈c.lst,x.1.length≤1024∧x.2.length≤1024
theorem parseR_len{b:Str}{l:List (Str×Str)}(h:parseR b=some l):1≤l.length∧l.length≤b.length∧(∀x∈l,x.1.length≤1024∧x.2.length≤1024)∧adjN l=true:=by
 unfold parseR at h;split at h
 ·cases h
 split at h
 ·cases h
 rename_i hq;split at h
 ·cases h
 rename_i l' el;split at h
 ·cases h
 rename_i hadj;split at h
 ·cases h;have:=entR_len _ [] 0 [] el (Nzl _) (Nzl _) (by simp);simp only [List.length_nil,Nat.zero_add] at this;refine⟨by omega,by omega,this.2,by simpa using hadj⟩
 ·cases h
theorem blockR_len{tile:Str}{raw:Int}{l:List (Str×Str)}(h:(blockR tile raw).2=some l):1≤l.length∧l.length≤65536∧(∀x∈l,x.1.length≤1024∧x.2.length≤1024)∧adjN l=true:=by
 unfold blockR at h;split at h
 ·cases h
 rename_i hr;split at h
 ·cases h
 split at h
 ·cases h
 split at h
 ·cases h
 split at h
 ·cases h
 rename_i t ht;split at h
 ·cases h
 rename_i l' hl';cases h;have h1:=textR_len (by omega) ht;have h2:=parseR_len hl';exact⟨h2.1,by omega,h2.2.2⟩
theorem blockR_err{tile:Str}{raw:Int}:(blockR tile raw).1=0↔∃x,(blockR tile raw).2=some x:=by
 unfold blockR;split
 ·simp
 split
 ·rename_i h;simpa using h
 split
 ·simp
 split
 ·simp
 split
 ·simp
 ·split
  ·simp
  ·simp
theorem chk_stored{bl:List BI}{key:Str}(h:chkB bl key=true):∀y∈bl,1≤y.stored∧y.stored≤65536∧1≤y.count:=by
 induction bl generalizing key with
 | nil=>intro y hy;cases hy
 | cons a r ih=>
  intro y hy;rw [chkB_cons,Bat] at h;rcases List.mem_cons.1 hy with rfl | hy
  ·have:=odt h.1;exact⟨this.1,this.2.1,this.2.2.2.2.2.1⟩
  ·exact ih h.2 y hy
section
variable {w0 w:World}{bs q:Nat}{t:Str}{out:Bool}{M Y R:BL}{br bc:Nat}{P:Int}{l:List PartI}{c:CurE}{s:Sl}
set_option maxHeartbeats 4000000 in
theorem rLoad9_ok(h:SS w0 bs q t out (M++(bc,curE br c s)::Y) w)(ht:t.length≤268435456)(hr:RdD q R br P l)(hRM:∀p∈R,p∈M)(hv:Ce l c)(hlst:ReadL Y s c.lst){i k:Nat}{x:PartI}(hci:c.info=(i:Int))(hx:l[i]? = some x)(hcb:c.block=(k:Int))(hk:k<x.blocks.length){K:Bool→Wp}
  (hK:∀w' s' Y',SS w0 bs q t out (M++(bc,curE br (loadE t out l c).2 s')::(Y++Y')) w'→ReadL (Y++Y') s' (loadE t out l c).2.lst→Ce l (loadE t out l c).2→K (loadE t out l c).1 w') :
  callK Pg c_178 [Ap (some (bc,0))] w Ob K:=by
 refine go_178 _ _ _ ?_;have hr0:=hr;have hc:=hr.chk.2.2;obtain⟨si,ps,h1,h2,h3⟩:=hr;obtain⟨p,hp⟩:=Gq (l:=ps) (i:=i) (by rw [h2.len];exact (Les.1 hx).1);have hi1:=h2.each i p x hp hx;have hxc:=chkI_each P l _ _ hc x (Lmg hx);have hlb:=hi1.lb;obtain⟨y,hy⟩:=Gq hk;have hys:=chk_stored hxc.2.2.2.2.1 y (Lmg hy);have ea:blocksAt l c.info=x.blocks:=by rw [hci];exact blocksAt_some hx
 have eb:(blocksAt l c.info).getD c.block.toNat ⟨0,0,0,[]⟩=y:=by rw [ea,hcb,Itn];exact getD_get hy
 have eo:offAt l c.info c.block=spI (l.take i)+spB (x.blocks.take k):=by rw [hci,hcb];exact offAt_eq hx hk
 have hsp:=spI_le P l (-1) 0 hc (by decide);have ht1:=spI_take hc (by decide) i;have ht2:=spB_take hxc.2.2.2.2.1 k;have htn:spI (l.take (i+1))=spI (l.take i)+spB x.blocks:=by rw [List.take_add_one,hx,Option.toList_some,spI_snoc]
 have ht3:=spI_take hc (by decide) (i+1);unfold loadE at hK;rw [eb,eo] at hK;generalize hva:spI (l.take i)+spB (x.blocks.take k)=va at hK;have cur:∀{u:World} {c':CurE} {s':Sl} {Y':BL},SS w0 bs q t out (M++(bc,curE br c' s')::Y') u→Blk u bc (curE br c' s'):=fun h=>h.own (by simp);have red:∀{u:World} {c':CurE} {s':Sl} {Y':BL},SS w0 bs q t out (M++(bc,curE br c' s')::Y') u→∀p∈R,Blk u p.1 p.2:=fun h p hp=>h.own (Lml _ (hRM p hp));have rdr:∀{u:World} {c':CurE} {s':Sl} {Y':BL},SS w0 bs q t out (M++(bc,curE br c' s')::Y') u→Blk u br (rdrD q P si):=fun h=>red h _ h1;have hd:=h.quiet (Mq w);refine⟨F0,Dq ((cur hd).ldDK (k:=.ptr) (some (br,0)) id rfl (Dq ((rdr hd).ldDK (k:=.sl) si id rfl (Dq ((cur hd).ldDK (k:=Ki) c.info id rfl ?_)))))⟩;refine (h2.row.rd (red hd)).ix rfl hci hp fun b o _ hce=>Lw (k:=.sl) p.sb id (hce 1 (by decide)) (Dq ((cur hd).ldDK (k:=Ki) c.block id rfl ?_));refine (hi1.bl.rd (red hd)).ix rfl hcb hy fun b o _ hce=>Lw (k:=Ki) y.stored id (hce 0 (by decide)) (Lw (k:=Ki) y.raw id (hce 1 (by decide)) (Lw (k:=Ki) y.count id (hce 2 (by decide)) (Lw (k:=.str) y.cut id (hce 3 (by decide)) ?_)));refine hd.alK fun b24 w1 s1 M1=>⟨M1,?_⟩;have s1:SS w0 bs q t out ((M++(bc,curE br c s)::Y)++[(b24,EBI.f ⟨0,0,0,[]⟩)]) w1:=s1;refine SS.setC s1 (Nlr 4) (x':=EBI.f y) rfl fun w2 s2=>?_;have s2:SS w0 bs q t out (M++(bc,curE br c s)::(Y++[(b24,EBI.f y)])) w2:=by rw [Laa,List.cons_append] at s2;exact s2
 have hd2:=s2.quiet (Mq w2);refine⟨F0,Dq ((cur hd2).ldDK (k:=.ptr) (some (br,0)) id rfl (Dq ((cur hd2).ldDK (k:=Ki) c.info id rfl (Dq ((cur hd2).ldDK (k:=Ki) c.block id rfl ?_)))))⟩;refine rPlace9_ok hr0 (red hd2) hci hcb hx (by omega) ⟨Mod.refl _ _,?_⟩;rw [hva];have hd3:=hd2.quiet (Mq w2.drew);have nkm:∀{z:Nat} {cz:List Value},(z,cz)∈M++(bc,curE br c s)::(Y++[(b24,EBI.f y)])→¬nk (M++(bc,curE br c s)::(Y++[(b24,EBI.f y)])) z:=fun h=>not_nk ⟨_,h,rfl⟩;have ncu:¬nk (M++(bc,curE br c s)::(Y++[(b24,EBI.f y)])) bc:=nkm (cz:=curE br c s) (by simp);have nrd:¬nk (M++(bc,curE br c s)::(Y++[(b24,EBI.f y)])) br:=nkm (cz:=rdrD q P si) (Lml _ (hRM _ h1));have n24:¬nk (M++(bc,curE br c s)::(Y++[(b24,EBI.f y)])) b24:=nkm (cz:=EBI.f y) (by simp);have hB24:∀{u:World} {c':CurE} {s':Sl} {Y':BL},SS w0 bs q t out (M++(bc,curE br c' s')::((Y++[(b24,EBI.f y)])++Y')) u→Blk u b24 (EBI.f y):=fun h=>h.own (by simp);have hd3':SS w0 bs q t out (M++(bc,curE br c s)::((Y++[(b24,EBI.f y)])++[])) w2.drew.drew:=by rw [Lan];exact hd3
 refine⟨nk _,Dq ((cur hd3).ldDK (k:=.ptr) (some (br,0)) ncu rfl (Dq ((rdr hd3).ldDK (k:=.ptr) (some (q,0)) nrd rfl (Dq ((cur hd3).ldDK (k:=.ptr) (some (br,0)) ncu rfl (Dq ((rdr hd3).ldDK (k:=.str) nameX nrd rfl ((hB24 hd3').ldDK (k:=Ki) y.stored n24 rfl ?_))))))))⟩;have e5:w64 (y.stored+5)=y.stored+5:=Wq (by omega) (by omega);rw [e5];unfold goodR at hK;have hrl:=rdX_len t out va (y.stored+5) (by omega);refine rread1_ok hd3 (by omega) fun sl ro w4 s4 v4 M4=>⟨M4,?_⟩;have s4:SS w0 bs q t out (M++(bc,curE br c s)::((Y++[(b24,EBI.f y)])++ro)) w4:=by
  rw [Laa,List.cons_append] at s4;exact s4
 have fail:∀{u:World} {Y':BL},(∀w' s' Y',SS w0 bs q t out (M++(bc,curE br c s')::(Y++Y')) w'→ReadL (Y++Y') s' c.lst→Ce l c→K false w')→SS w0 bs q t out (M++(bc,curE br c s)::((Y++[(b24,EBI.f y)])++Y')) u→K false u:=fun {u Y'} hk hu=>hk u s ([(b24,EBI.f y)]++Y') (by rw [←Laa];exact hu) (hlst.mono fun p hp=>Lml _ hp) hv;refine join1 (a:=.bool) (fun q u=>q=decide ((rdX t out va (y.stored+5)).1≠0∨((rdX t out va (y.stored+5)).2.length:Int)≠y.stored+5)∧u=w4) ?_ ?_
 ·intro k56 hk56;refine Iq (fun qa=>hk56 _ _ ⟨?_,rfl⟩) fun qa=>(hB24 s4).ldK (k:=Ki) y.stored rfl ?_
  ·have qa:(rdX t out va (y.stored+5)).1≠0:=by simpa using qa
   exact (Dct (.inl qa)).symm
  ·have qa:(rdX t out va (y.stored+5)).1=0:=by simpa using qa
   rw [e5,v4.1];refine hk56 _ _ ⟨?_,rfl⟩;rw [Bei,bne_iff_ne,Det];exact⟨.inr,fun h=>h.resolve_left fun h=>h qa⟩
 rintro qa u ⟨rfl,rfl⟩;refine Iq (fun qa=>?_) fun qa=>?_
 ·rw [if_pos (odt qa)] at hK;exact fail hK s4
 rw [if_neg (odf qa)] at hK;generalize (rdX t out va (y.stored+5)).2=tile at hK hrl v4;refine (hB24 s4).ldK (k:=Ki) y.raw rfl ?_;refine rBlockOpen_ok (v4.rd fun p hp=>s4.own (by simp [hp])) (by omega) (fun e0 w5 M5=>?_) fun z hz w5 bb s' ro' F5 v5=>?_
 ·have hne:(blockR tile y.raw).1≠0:=fun h0=>by
   obtain⟨x,hx⟩:=blockR_err.1 h0;rw [e0] at hx;cases hx
  rw [e0] at hK;have s5:=(s4.quiet M5).quiet (Mq w5);refine join1 (a:=.bool) (fun qb z=>qb=true∧z=w5.drew) (fun k hk=>⟨F0,ifK_t (by simpa using hne) (hk _ _ ⟨rfl,rfl⟩)⟩) ?_;rintro qb z ⟨rfl,rfl⟩;exact ifK_t rfl (fail hK s5)
 have hz0:(blockR tile y.raw).1=0:=blockR_err.2 ⟨_,hz⟩;have hzf:=blockR_len hz;rw [hz] at hK;rw [hz0];dsimp only at hK;have s5:SS w0 bs q t out (M++(bc,curE br c s)::((Y++[(b24,EBI.f y)])++(ro++((bb,[(LV.sl s').toV])::ro')))) w5:=by
  have:=s4.fresh F5;simpa only [Laa,List.cons_append] using this
 generalize hYY:ro++((bb,[(LV.sl s').toV])::ro')=YY at s5;have hbb:(bb,[(LV.sl s').toV])∈YY:=by rw [←hYY];simp
 have hro':∀p∈ro',p∈YY:=fun p hp=>by rw [←hYY];simp [hp]
 have hread:ReadL YY s' z:=fun w hb=>v5.rd fun p hp=>hb p (hro' p hp);have bk:∀{u:World} {c':CurE} {sc:Sl},SS w0 bs q t out (M++(bc,curE br c' sc)::((Y++[(b24,EBI.f y)])++YY)) u→Blk u bb [(LV.sl s').toV]:=fun hu=>hu.own (by simp [hbb]);have rz:∀{u:World} {c':CurE} {sc:Sl},SS w0 bs q t out (M++(bc,curE br c' sc)::((Y++[(b24,EBI.f y)])++YY)) u→RdS u EPr s' z:=fun hu=>hread _ fun p hp=>hu.own (by simp [hp]);have hd5:=s5.quiet (Mq w5);obtain⟨f,hf⟩:=Gq (l:=z) (i:=0) (by omega);have hfd:z.getD 0 ([],[])=f:=getD_get hf;have hfl:=hzf.2.2.1 f (Lmg hf);rw [hfd] at hK;refine join1 (a:=.bool) (fun qb u=>qb=decide ((z.length:Int)≠y.count∨(f.1.take 64≠y.cut∨(c.any=true∧cmpN f.1 c.key<0)))∧Mod F0 w5 u) ?_ ?_
 ·intro k64 hk64;have Md:=Mq w5;refine⟨F0,ifK_f (by decide) (Dq ((bk hd5).ldDK (k:=.sl) s' id rfl ((hB24 hd5).ldDK (k:=Ki) y.count id rfl ?_)))⟩;rw [v5.1];refine Iq (fun r1=>hk64 _ _ ⟨?_,Md⟩) fun r1=>?_
  ·have r1:(z.length:Int)≠y.count:=by simpa using r1
   exact (Dct (.inl r1)).symm
  have r1:(z.length:Int)=y.count:=by simpa using r1
  refine Dq ((bk hd5).ldDK (k:=.sl) s' id rfl ((rz hd5).ix rfl (k:=0) rfl hf fun b o _ hce=>Lw (k:=.str) f.1 id (hce 0 (by decide)) ((hB24 hd5).ldDK (k:=.str) y.cut id rfl (rCut_ok ⟨Mod.refl _ _,Iq (fun r2=>hk64 _ _ ⟨?_,Md⟩) fun r2=>Dq ((cur hd5).ldDK (k:=.bool) c.any id rfl (Iq (fun r3=>Dq ((bk hd5).ldDK (k:=.sl) s' id rfl ((rz hd5).ix rfl (k:=0) rfl hf fun b o _ hce=>Lw (k:=.str) f.1 id (hce 0 (by decide)) (Dq ((cur hd5).ldDK (k:=.str) c.key id rfl (rCompare_ok (by omega) fun u M6=>⟨M6,hk64 _ _ ⟨?_,mod0 Md M6⟩⟩)))))) fun r3=>hk64 _ _ ⟨?_,Md⟩))⟩))))
  ·have r2:f.1.take 64≠y.cut:=by simpa using r2
   exact (Dct (.inr (.inl r2))).symm
  ·have r2:f.1.take 64=y.cut:=by simpa using r2
   have r3:c.any=true:=r3;show decide (cmpN f.1 c.key<0)=_;rw [Bei,Det,Det];exact⟨fun h=>.inr (.inr ⟨r3,h⟩),fun h=>((h.resolve_left fun h=>h r1).resolve_left fun h=>h r2).2⟩
  ·have r2:f.1.take 64=y.cut:=by simpa using r2
   have r3:c.any=false:=r3;refine (Dcf fun h=>?_).symm;have:=((h.resolve_left fun h=>h r1).resolve_left fun h=>h r2).1;rw [r3] at this;cases this
 rintro qb u ⟨rfl,M6⟩;have s6:=s5.quiet M6;refine Iq (fun r=>?_) fun r=>?_
 ·have r:=odt r;have:(if (z.length:Int)≠y.count then (none:Option (List (Str×Str))) else if f.1.take 64≠y.cut∨c.any=true∧cmpN f.1 c.key<0 then none else some z)=none:=by
   split
   ·rfl
   ·rename_i hn;rw [if_pos (r.resolve_left hn)]
  rw [this] at hK;exact fail hK s6
 have r:=odf r;rw [if_neg (fun h=>r (.inl h)),if_neg (fun h=>r (.inr h))] at hK;dsimp only at hK;refine Dq ((bk s6).ldK (k:=.sl) s' rfl (Dq ?_));refine SS.setC s6 (by decide:3+1≤8) (x':=curE br {c with lst:=z} s') rfl fun w7 s7=>?_;have hd7:=s7.quiet (Mq w7);obtain⟨g,hg⟩:=Gq (l:=z) (i:=z.length-1) (by omega);have hgd:z.getD (z.length-1) ([],[])=g:=getD_get hg;rw [hgd] at hK;have hgl:=hzf.2.2.1 g (Lmg hg);have e6:w64 ((s'.len:Int)-1)=((z.length-1:Nat):Int):=by rw [v5.1,Wq (by omega) (by omega)];omega
 refine⟨F0,Dq ((bk hd7).ldDK (k:=.sl) s' id rfl (Dq ((bk hd7).ldDK (k:=.sl) s' id rfl ?_)))⟩;rw [e6];refine (rz hd7).ix rfl rfl hg fun b o hbk hce=>Lw (k:=.str) g.1 id (hce 0 (by decide)) (Dq ?_);refine SS.setC hd7 (by decide:4+1≤8) (x':=curE br {c with lst:=z,key:=g.1} s') rfl fun w8 s8=>Dq ?_;refine SS.setC s8 (by decide:5+1≤8) (x':=curE br {c with lst:=z,key:=g.1,any:=true} s') rfl fun w9 s9=>?_;refine Dq ((cur s9).ldK (k:=Ki) c.block rfl (Dq ?_));have e7:w64 (c.block+1)=c.block+1:=by rw [hcb,Wq (by omega) (by omega)]
 rw [e7];refine SS.setC s9 (by decide:2+1≤8) (x':=curE br {c with lst:=z,key:=g.1,any:=true,block:=c.block+1} s') rfl fun w10 s10=>?_;refine hK w10 s' ([(b24,EBI.f y)]++YY) (by rw [←Laa];exact s10) (hread.mono fun p hp=>by simp [hp]) ⟨fun _=>⟨i,k+1,x,hci,hx,by show c.block+1=_;rw [hcb];rfl,hk⟩,hgl.1,hv.frm,by show z.length≤_;omega,hzf.2.2.1⟩
end
def fromF(frm:Str)(e:List (Str×Str)):List (Str×Str):=e.filter fun x=>decide (0≤cmpN x.1 frm)
def runE(t:Str)(out:Bool)(frm:Str):List BI→List Int→Bool→Str→List (Str×Str)×Int
 | b::r,o::os,any,last=>match goodR t out o b any last with
  | none=>([],91)
  | some e=>(fromF frm e++(runE t out frm r os true (e.getD (e.length-1) ([],[])).1).1,(runE t out frm r os true (e.getD (e.length-1) ([],[])).1).2)
 | _,_,_,_=>([],0)
def restE(t:Str)(out:Bool)(l:List PartI)(c:CurE):List (Str×Str)×Int:=if c.info<0 then ([],0) else runE t out c.frm ((blocksAt l c.info).drop c.block.toNat) (((offI 0 l).getD c.info.toNat []).drop c.block.toNat) c.any c.key
def meanE(t:Str)(out:Bool)(l:List PartI)(c:CurE):List (Str×Str)×Int:=
 if c.bad=true then ([],91) else (fromF c.frm c.lst++(restE t out l c).1,(restE t out l c).2)
theorem mean_loadE{t:Str}{out:Bool}{l:List PartI}{c:CurE}(hb:c.bad=false)(hl:c.lst=[]){i k:Nat}{x:PartI}(hci:c.info=(i:Int))(hx:l[i]? = some x)(hcb:c.block=(k:Int))(hk:k<x.blocks.length) :
  meanE t out l {(loadE t out l c).2 with bad:=!(loadE t out l c).1} = meanE t out l c:=by
 obtain⟨y,hy⟩:=Gq hk;obtain⟨bo,hof⟩:=offI_get (a:=0) hx;obtain⟨v,hvv⟩:=Gq (l:=offs bo x.blocks) (i:=k) (by rw [offs_length];exact hk);have ea:blocksAt l c.info=x.blocks:=by rw [hci];exact blocksAt_some hx
 have eo:(offI 0 l).getD c.info.toNat []=offs bo x.blocks:=by rw [hci,Itn];exact getD_get hof
 have hkt:c.block.toNat=k:=by rw [hcb,Itn]
 have eoa:offAt l c.info c.block=v:=by unfold offAt;rw [eo,hkt,getD_get hvv]
 have hneg:¬c.info<0:=by rw [hci];omega
 have e2:meanE t out l c=runE t out c.frm (y::x.blocks.drop (k+1)) (v::(offs bo x.blocks).drop (k+1)) c.any c.key:=by
  unfold meanE restE;rw [hb,if_neg (by decide),if_neg hneg,hl,ea,eo,hkt,Dg hy,Dg hvv];unfold fromF;simp
 rw [e2,runE];unfold loadE;rw [ea,hkt,getD_get hy,eoa]
 cases hg:goodR t out v y c.any c.key with
 | none=>
  show meanE t out l {c with bad:=true} = _;unfold meanE;rw [if_pos rfl]
 | some e=>
  show meanE t out l {c with lst:=e,key:=(e.getD (e.length-1) ([],[])).1,any:=true,block:=c.block+1,bad:=false} = _;unfold meanE restE;have hk1:(c.block+1).toNat=k+1:=by omega
  rw [if_neg (by show ¬false=true;decide),if_neg hneg];dsimp only;rw [ea,eo,hk1]
def muE(l:List PartI)(c:CurE):Nat:=(if c.bad=true then 0 else 1)+c.lst.length+1048577*((blocksAt l c.info).length-c.block.toNat)
section
variable {w0 w:World}{bs q:Nat}{t:Str}{out:Bool}{M Y R:BL}{br bc:Nat}{P:Int}{l:List PartI}{c:CurE}{s:Sl}
theorem rNext9_nil{K:Str→Str→Bool→Int→Wp}(hK:∀w',Mod F0 w w'→K [] [] false 1 w'):callK Pg c_175 [Ap none] w (.tup [.agg [.str,.str],Lb,Li]) K:=by
 refine go_175 _ _ _ ?_;refine (Fresh.start w F0).alK fun b w1 f1 _ _=>ifK_t rfl (f1.stK 0 rfl (Nlr 2) fun w2 f2 _=>?_);have hB:Blk w2 b (strs [] []):=f2.blk (i:=0) rfl;exact hB.ldK (k:=.str) [] rfl (hB.ldK (k:=.str) [] rfl (hK w2 f2.mod))
set_option maxHeartbeats 4000000 in
theorem rNext9_ok(h:SS w0 bs q t out (M++(bc,curE br c s)::Y) w)(ht:t.length≤268435456)(hr:RdD q R br P l)(hRM:∀p∈R,p∈M)(hv:Ce l c)(hlst:ReadL Y s c.lst){K:Str→Str→Bool→Int→Wp}
  (hK:∀w' c' s' Y',SS w0 bs q t out (M++(bc,curE br c' s')::(Y++Y')) w'→ReadL (Y++Y') s' c'.lst→Ce l c'→meanE t out l c'=(nextM (meanE t out l c)).2 →
   K (nextM (meanE t out l c)).1.1 (nextM (meanE t out l c)).1.2.1 (nextM (meanE t out l c)).1.2.2.1 (nextM (meanE t out l c)).1.2.2.2 w') :
  callK Pg c_175 [Ap (some (bc,0))] w (.tup [.agg [.str,.str],Lb,Li]) K:=by
 refine go_175 _ _ _ ?_;refine h.alK fun b2 w1 s1 _=>ifK_f rfl ?_;have s1:SS w0 bs q t out ((M++[(b2,strs [] [])])++(bc,curE br c s)::Y) w1:=SS.perm s1 (perm_mid M [(b2,strs [] [])] ((bc,curE br c s)::Y)).symm;have hRM1:∀p∈R,p∈M++[(b2,strs [] [])]:=fun p hp=>Lml _ (hRM p hp);generalize hmean:meanE t out l c=mn at hK;have tell:∀{v:World} {c2:CurE} {sc:Sl} {Y':BL} {x y:Str} {k:Str→Str→Wp},SS w0 bs q t out ((M++[(b2,strs [] [])])++(bc,curE br c2 sc)::Y') v→(∀v',SS w0 bs q t out (M++(bc,curE br c2 sc)::Y') v'→k x y v') →
   Go.Vw.st v b2 0 [.str x,.str y] fun W16=>ld W16 .str b2 0 fun s17=>ld W16 .str b2 1 fun s18=>k s17 s18 W16:=fun {v c2 sc Y' x y k} hv hk=>by
  have hv:SS w0 bs q t out (M++(b2,strs [] [])::((bc,curE br c2 sc)::Y')) v:=by rw [Laa] at hv;exact hv
  refine SS.setC hv (Nlr 2) (x':=strs x y) rfl fun v' hv'=>?_;have hB:Blk v' b2 (strs x y):=hv'.own (by simp);refine hB.ldK (k:=.str) x rfl (hB.ldK (k:=.str) y rfl (hk v' (hv'.sub ((List.Sublist.refl M).append ((List.Sublist.refl _).cons _)))))
 have cur:∀{M' Y':BL} {u:World} {c':CurE} {s':Sl},SS w0 bs q t out (M'++(bc,curE br c' s')::Y') u→Blk u bc (curE br c' s'):=fun h=>h.own (by simp);refine join0 (fun u=>∃c' s' Y',c'.bad=true∧SS w0 bs q t out ((M++[(b2,strs [] [])])++(bc,curE br c' s')::(Y++Y')) u∧ReadL (Y++Y') s' c'.lst∧Ce l c'∧meanE t out l c'=mn) ?_ ?_;rotate_left
 ·rintro u ⟨c',s',Y',hb,su,hl,hC,hm⟩;have em:meanE t out l c'=([],91):=by unfold meanE;rw [if_pos hb]
  rw [em] at hm;subst hm;exact tell su fun v' sv=>hK v' c' s' Y' sv hl hC em
 intro k7 hk7;refine loop0G (γ:=CurE) (fun c' u=>∃s' Y',SS w0 bs q t out ((M++[(b2,strs [] [])])++(bc,curE br c' s')::(Y++Y')) u∧ReadL (Y++Y') s' c'.lst∧Ce l c'∧meanE t out l c'=mn) (muE l) c ⟨s,[],by rw [Lan];exact s1,by rw [Lan];exact hlst,hv,hmean⟩ ?_;rintro c' u Kl ⟨s',Y',su,hl,hC,hm⟩ hKl;refine Dq ((cur su).ldK (k:=.bool) c'.bad rfl (Iq (fun e1=>?_) fun e1=>?_));rotate_left
 ·have e1:c'.bad=true:=by simpa using e1
  exact hk7 u ⟨c',s',Y',e1,su,hl,hC,hm⟩
 have hbad:c'.bad=false:=by simpa using e1
 have blk:∀{z:World} {c2:CurE} {sc:Sl} {L:BL},SS w0 bs q t out ((M++[(b2,strs [] [])])++(bc,curE br c2 sc)::((Y++Y')++L)) z→∀p∈Y++Y',Blk z p.1 p.2:=fun h p hp=>h.own (Lmr _ (Lmc _ (Lml _ hp)));have su0:SS w0 bs q t out ((M++[(b2,strs [] [])])++(bc,curE br c' s')::((Y++Y')++[])) u:=by rw [Lan];exact su
 have hrl:=hl u (blk su0);refine join0 (fun z=>∃c2 s2 L,SS w0 bs q t out ((M++[(b2,strs [] [])])++(bc,curE br c2 s2)::((Y++Y')++L)) z∧ReadL ((Y++Y')++L) s2 c2.lst∧Ce l c2∧meanE t out l c2=mn∧muE l c2<muE l c') ?_ ?_;rotate_left
 ·rintro z ⟨c2,s2,L,sz,hl2,hC2,hm2,hmu⟩;rw [Laa Y Y' L] at sz hl2;exact hKl c2 z ⟨s2,Y'++L,sz,hl2,hC2,hm2⟩ hmu
 intro k13 hk13;refine Dq ((cur su).ldK (k:=.sl) s' rfl ?_);rw [hrl.len];refine Iq (fun e2=>?_) fun e2=>?_
 ·have e2:=dpos e2;obtain⟨x,r,hxr⟩:∃x r,c'.lst=x::r:=by
   cases hcl:c'.lst with
   | nil=>rw [hcl] at e2;cases e2
   | cons x r=>exact⟨x,r,rfl⟩
  have hx0:c'.lst[0]? = some x:=by rw [hxr];rfl
  have hxl:=hC.lst.2 x (Lmg hx0);refine Dq ((cur su).ldK (k:=.sl) s' rfl (hrl.ix rfl (k:=0) rfl hx0 fun b o _ hce=>Lq (k:=.str) x.1 (hce 0 (by decide)) (Lq (k:=.str) x.2 (hce 1 (by decide)) ?_)));refine su0.alst (by rfl) fun b24 w3 s3 _=>?_;have s3:SS w0 bs q t out ((M++[(b2,strs [] [])])++(bc,curE br c' s')::((Y++Y')++[(b24,strs x.1 x.2)])) w3:=by
   have hg:=s3;simp only [Laa,List.cons_append,Lan,List.nil_append] at hg ⊢;exact hg
  refine Dq ((cur s3).ldK (k:=.sl) s' rfl (hl.fromK (blk s3) (n:=1) (by omega) rfl fun s5 hl5=>Dq ?_));have hdr:c'.lst.drop 1=r:=by rw [hxr];rfl
  rw [hdr] at hl5;refine SS.setC s3 (by decide:3+1≤8) (x':=curE br {c' with lst:=r} s5) rfl fun w4 s4=>?_;have sd:=s4.quiet (Mq w4);have hB24:∀{z:World} {c2:CurE} {sc:Sl},SS w0 bs q t out ((M++[(b2,strs [] [])])++(bc,curE br c2 sc)::((Y++Y')++[(b24,strs x.1 x.2)])) z→Blk z b24 (strs x.1 x.2):=fun h=>h.own (by simp);have hC2:Ce l {c' with lst:=r}:=⟨hC.at_,hC.key,hC.frm,by have:=hC.lst.1;rw [hxr] at this;simp only [Llc] at this;show r.length≤_;omega,fun y hy=>hC.lst.2 y (by rw [hxr];exact Lmc _ hy)⟩;have hl5':ReadL ((Y++Y')++[(b24,strs x.1 x.2)]) s5 r:=hl5.mono fun p hp=>Lml _ hp;refine⟨F0,(hB24 sd).ldDK (k:=.str) x.1 id rfl (Dq ((cur sd).ldDK (k:=.str) c'.frm id rfl (rCompare_ok (by omega) fun w5 M5=>⟨M5,?_⟩)))⟩;have s5':=sd.quiet M5;have emean:meanE t out l c'=(if 0≤cmpN x.1 c'.frm then x::(meanE t out l {c' with lst:=r}).1 else (meanE t out l {c' with lst:=r}).1,(meanE t out l {c' with lst:=r}).2):=by
   have e1:meanE t out l c'=(fromF c'.frm c'.lst++(restE t out l c').1,(restE t out l c').2):=by unfold meanE;rw [if_neg (by rw [hbad];decide)]
   have e2:meanE t out l {c' with lst:=r} = (fromF c'.frm r++(restE t out l c').1,(restE t out l c').2):=by unfold meanE;rw [if_neg (by show ¬c'.bad=true;rw [hbad];decide)];rfl
   rw [e1,e2];have:fromF c'.frm c'.lst=if 0≤cmpN x.1 c'.frm then x::fromF c'.frm r else fromF c'.frm r:=by
    rw [hxr];unfold fromF;rw [List.filter_cons];by_cases h:0≤cmpN x.1 c'.frm
    ·rw [Dct h,if_pos rfl,if_pos h]
    ·rw [Dcf h,if_neg (by decide),if_neg h]
   rw [this];by_cases h:0≤cmpN x.1 c'.frm
   ·rw [if_pos h,if_pos h];rfl
   ·rw [if_neg h,if_neg h]
  refine Iq (fun e3=>?_) fun e3=>?_
  ·have e3:0≤cmpN x.1 c'.frm:=odt e3;rw [if_pos e3] at emean;rw [emean] at hm;subst hm;refine (hB24 s5').ldK (k:=.str) x.1 rfl ((hB24 s5').ldK (k:=.str) x.2 rfl (tell (k:=fun a b v=>K a b true 0 v) s5' fun v' sv=>?_));rw [Laa Y Y' [(b24,strs x.1 x.2)]] at sv hl5';exact hK v' {c' with lst:=r} s5 (Y'++[(b24,strs x.1 x.2)]) sv hl5' hC2 rfl
  ·have e3:¬0≤cmpN x.1 c'.frm:=odf e3;rw [if_neg e3] at emean;refine hk13 _ ⟨{c' with lst:=r},s5,_,s5',hl5',hC2,by rw [←hm,emean],?_⟩;unfold muE;rw [hxr];simp only [Llc];omega
 have e2:=dzero e2;have hnil:c'.lst=[]:=List.eq_nil_of_length_eq_zero e2;have hrd:=hr;obtain⟨si,ps,h1,h2,h3⟩:=hr;have sd:=su.quiet (Mq u);have hRd:∀p∈R,Blk u.drew p.1 p.2:=fun p hp=>sd.own (Lml _ (hRM1 p hp));refine join1 (a:=.bool) (fun x z=>x=decide (c'.info<0∨c'.block=((blocksAt l c'.info).length:Int))∧z=u.drew) ?_ ?_
 ·intro k46 hk46;refine⟨F0,Dq ((cur sd).ldDK (k:=Ki) c'.info id rfl (Iq (fun r1=>hk46 _ _ ⟨(Dct (.inl (odt r1))).symm,rfl⟩) fun r1=>?_))⟩;have r1:¬c'.info<0:=odf r1;obtain⟨i,k,x,hci,hx,hcb,hk⟩:=hC.at_ r1;obtain⟨p,hp⟩:=Gq (l:=ps) (i:=i) (by rw [h2.len];exact (Les.1 hx).1);have hi1:=h2.each i p x hp hx;refine Dq ((cur sd).ldDK (k:=Ki) c'.block id rfl (Dq ((cur sd).ldDK (k:=.ptr) (some (br,0)) id rfl (Dq ((hRd _ h1).ldDK (k:=.sl) si id rfl (Dq ((cur sd).ldDK (k:=Ki) c'.info id rfl ((h2.row.rd hRd).ix rfl hci hp fun b o _ hce=>Lw (k:=.sl) p.sb id (hce 1 (by decide)) (hk46 _ _ ⟨?_,rfl⟩)))))))));have ea:blocksAt l c'.info=x.blocks:=by rw [hci];exact blocksAt_some hx
  rw [(hi1.bl.rd hRd).len,ea,Bei,beq_iff_eq,Det];exact⟨.inr,fun h=>h.resolve_left r1⟩
 rintro xq z ⟨rfl,rfl⟩;refine Iq (fun e3=>?_) fun e3=>?_
 ·have e3:=odt e3;have em:meanE t out l c'=([],0):=by
   unfold meanE restE;rw [hbad,if_neg (by decide),hnil];by_cases hneg:c'.info<0
   ·rw [if_pos hneg];rfl
   ·have e4:=e3.resolve_left hneg;rw [if_neg hneg,Ldn (by omega)];unfold runE fromF;rfl
  rw [em] at hm;subst hm;exact tell sd fun v' sv=>hK v' c' s' Y' sv hl hC em
 have e3:=odf e3;have hneg:¬c'.info<0:=fun h=>e3 (.inl h);obtain⟨i,k,x,hci,hx,hcb,hk⟩:=hC.at_ hneg;have ea:blocksAt l c'.info=x.blocks:=by rw [hci];exact blocksAt_some hx
 have hklt:k<x.blocks.length:=by
  have:¬c'.block=(x.blocks.length:Int):=fun h=>e3 (.inr (by rw [ea];exact h));omega
 refine rLoad9_ok sd ht hrd hRM1 hC hl hci hx hcb hklt fun w3 s3 L s3' hl3 hC3=>Dq ?_;have hml:=mean_loadE (t:=t) (out:=out) hbad hnil hci hx hcb hklt;generalize hLd:loadE t out l c'=Ld at s3' hl3 hC3 hml ⊢;refine SS.setC s3' (by decide:7+1≤8) (x':=curE br {Ld.2 with bad:=!Ld.1} s3) rfl fun w4 s4=>?_;refine hk13 w4 ⟨{Ld.2 with bad:=!Ld.1},s3,L,s4,hl3,⟨hC3.at_,hC3.key,hC3.frm,hC3.lst⟩,by rw [hml,hm],?_⟩;unfold loadE at hLd;have e1:muE l c'=1+1048577*(x.blocks.length-k):=by
  unfold muE;rw [hbad,if_neg (by decide),hnil,ea,hcb,Itn];simp
 rw [e1];split at hLd
 ·subst hLd;show muE l {c' with bad:=true} < _;unfold muE;rw [if_pos rfl];dsimp only;rw [hnil,ea,hcb,Itn];simp only [List.length_nil];omega
 ·rename_i e he;have hle:=hC3.lst.1;subst hLd;have hle:e.length≤1048576:=hle;show muE l {c' with lst:=e,key:=(e.getD (e.length-1) ([],[])).1,any:=true,block:=c'.block+1,bad:=false} < _;unfold muE;rw [if_neg (by show ¬false=true;decide)];dsimp only;rw [ea,hcb];have hk1:((k:Int)+1).toNat=k+1:=by omega
  rw [hk1];omega
end
def hasE(t:Str)(out:Bool)(P:Int)(l:List PartI)(part:Int)(key:Str):Bool×Int:=
 if refN P part≠0 then (false,refN P part) else
 if (findN l part key).1<0∨hasN (fltAt l (findN l part key).1).all (fltAt l (findN l part key).1).hashes (fltAt l (findN l part key).1).data key=false then (false,0) else
 let a:=(nextM (meanE t out l (newE (findN l part key).1 (findN l part key).2 key))).1
 (decide (a.2.2.1=true∧a.1=key),a.2.2.2)
theorem newE_v(l:List PartI)(part:Int)(key frm:Str)(hk:frm.length≤1099511627776){k:Int}(h:k=0∨k=(findN l part key).2):Ce l (newE (findN l part key).1 k frm):=by
 refine⟨fun hneg=>?_,Nzl _,hk,Nzl _,fun x hx=>by cases hx⟩;rcases findN_cases l part key with⟨e,_⟩ | ⟨i,x,hx,hp,e⟩
 ·rw [e] at hneg;exact absurd (by show (-1:Int)<0;decide) hneg
 ·rw [e] at h ⊢;have hl:=lowC_le x.blocks (key.take 64);rcases h with h | h
  ·exact⟨i,0,x,rfl,hx,h,Nzl _⟩
  ·exact⟨i,lowC x.blocks (key.take 64)-1,x,rfl,hx,h,by omega⟩
section
variable {w0 w:World}{bs q:Nat}{t:Str}{out:Bool}{M R:BL}{br:Nat}{P:Int}{l:List PartI}
set_option maxHeartbeats 1000000 in
theorem rHas9_ok(h:SS w0 bs q t out M w)(ht:t.length≤268435456)(hr:RdD q R br P l)(hRM:∀p∈R,p∈M){part:Int}{key:Str}(hk:key.length≤1099511627776){K:Bool→Int→Wp}
  (hK:∀w',SS w0 bs q t out M w'→K (hasE t out P l part key).1 (hasE t out P l part key).2 w') :
  callK Pg c_172 [Ap (some (br,0)),Ai part,Au key] w (.tup [Lb,Li]) K:=by
 refine go_172 _ _ _ _ _ ?_;have hR:∀{u:World},SS w0 bs q t out M u→∀p∈R,Blk u p.1 p.2:=fun hu p hp=>hu.own (hRM p hp);refine rInfo_ok hr (hR h) ?_;have hr':=hr;have hc:=hr.chk.2.2;obtain⟨si,ps,h1,h2,h3⟩:=hr;have hB:∀{u:World},SS w0 bs q t out M u→Blk u br (rdrD q P si):=fun hu=>hR hu _ h1;unfold hasE at hK;have hne:(findN l part []).1=(findN l part key).1:=findN_fst l part [] key;refine join1 (a:=.bool) (fun x u=>x=decide (refN P part≠0∨(findN l part key).1<0)∧u=w) ?_ ?_
 ·intro k hk;have hi:=infoN_neg (P:=P) (l:=l) (part:=part);rw [hne] at hi;generalize infoN P l part=I at hi ⊢;refine Iq (fun x=>hk _ _ ⟨?_,rfl⟩) fun x=>hk _ _ ⟨?_,rfl⟩
  ·have x:I.2≠0:=by simpa using x
   exact (Dct (hi.1 (.inl x))).symm
  ·have x:I.2=0:=by simpa using x
   show decide (I.1<0)=_;rw [Bei,Det,Det,←hi];exact⟨.inr,fun h=>h.resolve_left fun h=>h x⟩
 rintro x u ⟨rfl,rfl⟩;refine Iq (fun x=>?_) fun x=>?_
 ·have x:=odt x;unfold infoN;by_cases hrf:refN P part≠0
  ·rw [if_pos hrf] at hK ⊢;exact hK u h
  ·rw [if_neg hrf] at hK ⊢;rw [if_pos (.inl (x.resolve_left hrf))] at hK;exact hK u h
 have x:=odf x;have hrf:¬refN P part≠0:=fun h=>x (.inl h);have hng:¬(findN l part key).1<0:=fun h=>x (.inr h);rw [if_neg hrf] at hK;have eI:infoN P l part=((findN l part key).1,0):=by unfold infoN;rw [if_neg hrf,hne]
 rw [eI];rcases findN_cases l part key with⟨e,_⟩ | ⟨i,y,hy,hp,e⟩
 ·rw [e] at hng;exact absurd (by decide) hng
 obtain⟨p,hp⟩:=Gq (l:=ps) (i:=i) (by rw [h2.len];exact (Les.1 hy).1);have hi1:=h2.each i p y hp hy;refine Dq ((hB h).ldK (k:=.sl) si rfl ?_);have e1:(findN l part key).1=(i:Int):=by rw [e]
 refine (h2.row.rd (hR h)).ix rfl e1 hp fun b o _ hc=>Lq (k:=.bool) p.all (hc 2 (by decide)) (Lq (k:=Ki) p.hashes (hc 3 (by decide)) (Lq (k:=.sl) p.sd (hc 4 (by decide)) ?_));rw [hi1.all,hi1.hs];refine rFHas_ok (hi1.dt.rd (hR h)) hk fun w3 M3=>?_;have s3:=h.quiet M3;have ef:fltAt l (findN l part key).1=y.flt:=by rw [e1];exact fltAt_some hy
 rw [ef] at hK;refine Iq (fun qa=>?_) fun qa=>?_
 ·have qa:hasN y.flt.all y.flt.hashes y.flt.data key=false:=by simpa using qa
  rw [if_pos (.inr qa)] at hK;exact hK w3 s3
 have qa:hasN y.flt.all y.flt.hashes y.flt.data key=true:=by simpa using qa
 rw [if_neg (fun h=>by rcases h with h | h;exact hng h;rw [qa] at h;cases h)] at hK;refine rSeek_ok hr' (hR s3) (fun hx=>absurd hx hrf) fun _ w4 bc f4=>?_;have s4:=s3.fresh f4;refine rNext9_ok (Y:=[]) s4 ht hr' hRM (newE_v l part key key hk (.inr rfl)) ReadL.nil fun w5 c' s' Y' s5 _ _ _=>?_;have s5:=s5.sub (Lsl _ _);generalize (nextM (meanE t out l (newE (findN l part key).1 (findN l part key).2 key))).1=a at hK ⊢;dsimp only at hK;refine s5.alst (by rfl) fun b28 w6 s6 _=>?_;have hB6:Blk w6 b28 (strs a.1 a.2.1):=s6.own (Lmr _ (Lms.2 rfl));have s6:=s6.sub (Lsl _ _);refine join2 (a:=.bool) (b:=Ki) (fun (x:Bool) (e:Int) u=>x=decide (a.2.2.1=true∧a.1=key)∧e=a.2.2.2∧u=w6) ?_ ?_
 ·intro k hk;refine Iq (fun e2=>hB6.ldK (k:=.str) a.1 rfl (hk _ _ _ ⟨?_,rfl,rfl⟩)) fun e2=>hk _ _ _ ⟨?_,rfl,rfl⟩
  ·have e2:a.2.2.1=true:=e2;rw [Bei,beq_iff_eq,Det];exact⟨fun h=>⟨e2,h⟩,fun h=>h.2⟩
  ·have e2:a.2.2.1=false:=e2;exact (Dcf fun h=>by rw [e2] at h;exact absurd h.1 (by decide)).symm
 rintro x e u' ⟨rfl,rfl,rfl⟩;exact hK u' s6
end
theorem putN_pos(v:Nat):1≤(putN v).length:=by
 by_cases h:v<128
 ·rw [putN_small h];exact Nlr _
 ·rw [putN_big (by omega),Llc];omega
theorem u8_ofNat{n:Nat}(h:n<256):(UInt8.ofNat n).toNat=n:=by rw [UInt8.toNat_ofNat'];exact Nat.mod_eq_of_lt h
theorem u8_toNat(c:UInt8):UInt8.ofNat c.toNat=c:=by
 apply UInt8.toNat_inj.1;exact u8_ofNat (UInt8.toNat_lt_size c)
theorem getF_put:∀(k v i a:Nat) (r:Str),v<128^(k+1)→i+k≤8→(0<i→0<v)→getF i a (putN v++r)=(a+v*128^i,i+(putN v).length,0)
 | 0,v,i,a,r,hv,hi,h0=>by
  have hv:v<128:=by simpa using hv
  rw [putN_small hv];show getF i a (UInt8.ofNat v::r)=_;unfold getF;rw [u8_ofNat (by omega),if_neg (by omega),if_pos hv,if_neg (by omega)];rfl
 | k+1,v,i,a,r,hv,hi,h0=>by
  by_cases h:v<128
  ·rw [putN_small h];show getF i a (UInt8.ofNat v::r)=_;unfold getF;rw [u8_ofNat (by omega),if_neg (by omega),if_pos h,if_neg (by omega)];rfl
  ·rw [putN_big (by omega)];show getF i a (UInt8.ofNat (v%128+128)::(putN (v/128)++r))=_;unfold getF;rw [u8_ofNat (by omega),if_neg (by omega),if_neg (by omega),getF_put k (v/128) (i+1) _ r (by rw [Nat.div_lt_iff_lt_mul (by decide)];rw [Nat.pow_succ] at hv;exact hv) (by omega) (fun _=>by omega)];rw [Llc,Nat.pow_succ];have e:a+(v%128+128-128)*128^i+v/128*(128^i*128)=a+v*128^i:=by
    have h1:v%128+128-128=v%128:=by omega
    have h2:v*128^i=(v%128+128*(v/128))*128^i:=by rw [Nat.mod_add_div]
    rw [h1,h2,Nat.add_mul,Nat.mul_comm (128^i) 128,←Nat.mul_assoc,Nat.mul_comm (v/128) 128,Nat.add_assoc]
   rw [e,Nat.add_assoc,Nat.add_comm 1]
theorem getN_put{v:Nat}(h:v<9223372036854775808)(r:Str):getN (putN v++r)=(v,(putN v).length,0):=by
 unfold getN;rw [getF_put 8 v 0 0 r (by simpa using h) (by decide) (fun h=>absurd h (by decide))];simp
theorem getF_inv:∀(t:Str) (i a x n:Nat),getF i a t=(x,n,0)→∃v r,t=putN v++r∧x=a+v*128^i∧n=i+(putN v).length∧(0<i→0<v)
 | [],i,a,x,n,h=>by cases h
 | c::r,i,a,x,n,h=>by
  unfold getF at h;split at h
  ·cases h
  split at h
  ·rename_i h1;split at h
   ·cases h
   ·rename_i h2;cases h;refine⟨c.toNat,r,?_,rfl,by rw [putN_small h1];rfl,fun hi=>by omega⟩;rw [putN_small h1,u8_toNat];rfl
  ·rename_i h1;obtain⟨v,r',e1,e2,e3,e4⟩:=getF_inv r (i+1) _ x n h;have hc:c.toNat<256:=UInt8.toNat_lt_size c;have hv:=e4 (Nat.succ_pos _);have e5:putN ((c.toNat-128)+128*v)=c::putN v:=by
    rw [putN_big (v:=(c.toNat-128)+128*v) (by omega)];have m1:((c.toNat-128)+128*v)%128+128=c.toNat:=by omega
    have m2:((c.toNat-128)+128*v)/128=v:=by omega
    rw [m1,m2,u8_toNat]
   refine⟨(c.toNat-128)+128*v,r',?_,?_,?_,fun _=>by omega⟩
   ·rw [e5,e1];rfl
   ·rw [e2,Nat.pow_succ,Nat.add_mul,Nat.mul_comm (128^i) 128,←Nat.mul_assoc,Nat.mul_comm v 128,Nat.add_assoc]
   ·rw [e3,e5,Llc];omega
theorem getN_inv{t:Str}(h:(getN t).2.2=0):t=putN (getN t).1++t.drop (getN t).2.1∧(getN t).2.1=(putN (getN t).1).length:=by
 obtain⟨v,r,e1,e2,e3,_⟩:=getF_inv t 0 0 (getN t).1 (getN t).2.1 (by
  have:getF 0 0 t=((getN t).1,(getN t).2.1,(getN t).2.2):=rfl;rw [this,h])
 have ev:(getN t).1=v:=by rw [e2];simp
 have en:(getN t).2.1=(putN v).length:=by rw [e3];simp
 refine⟨?_,by rw [ev,en]⟩;rw [ev,en]
 conv=>lhs;rw [e1]
 rw [e1,List.drop_left]
theorem fixN_succ(v n:Nat):fixN v (n+1)=UInt8.ofNat v::fixN (v/256) n:=by
 unfold fixN;rw [List.range_succ_eq_map,List.map_cons,List.map_map];congr 1
 ·simp
 ·apply List.map_congr_left;intro i _;show UInt8.ofNat (v/256^(i+1))=UInt8.ofNat (v/256/256^i);rw [Nat.pow_succ,Nat.mul_comm,Nat.div_div_eq_div_mul]
theorem wordF_fix:∀(n v:Nat),v<256^n→wordF (fixN v n)=v
 | 0,v,h=>by
  have:v=0:=by simpa using h
  subst this;rfl
 | n+1,v,h=>by
  rw [fixN_succ];show (UInt8.ofNat v).toNat+256*wordF (fixN (v/256) n)=v;rw [wordF_fix n (v/256) (by rw [Nat.div_lt_iff_lt_mul (by decide)];rw [Nat.pow_succ] at h;exact h),UInt8.toNat_ofNat'];omega
theorem fix_word:∀t:Str,fixN (wordF t) t.length=t
 | []=>rfl
 | c::r=>by
  have hc:c.toNat<256:=UInt8.toNat_lt_size c;rw [Llc,fixN_succ];have m2:wordF (c::r)/256=wordF r:=by simp only [wordF];omega
  have m1:UInt8.ofNat (wordF (c::r))=c:=by
   apply UInt8.toNat_inj.1;rw [UInt8.toNat_ofNat'];simp only [wordF];omega
  rw [m1,m2,fix_word r]
theorem wordN_fix{v:Nat}(h:v<4294967296)(r:Str):wordN ((fixN v 4++r).take 4)=v:=by
 have h4:=fixN_length v 4;rw [List.take_append_of_le_length (by omega),Ltl (by omega)];unfold wordN;rw [Ltl (by omega)];exact wordF_fix 4 v h
theorem fix_wordN{t:Str}(h:t.length=4):fixN (wordN t) 4=t:=by
 unfold wordN;rw [Ltl (by omega)];have:=fix_word t;rw [h] at this;exact this
theorem comN_take:∀a b:Str,a.take (comN a b)=b.take (comN a b)
 | [],_=>by simp [comN]
 | x::a,[]=>by simp [comN]
 | x::a,y::b=>by
  rw [comN_cons];split
  ·rename_i h;subst h;rw [List.take_succ_cons,List.take_succ_cons,comN_take a b]
  ·rfl
theorem getF_err:∀(t:Str) (i a:Nat),(getF i a t).2.2=0∨(getF i a t).2.2=20∨(getF i a t).2.2=21
 | [],_,_=>.inr (.inl rfl)
 | c::r,i,a=>by
  unfold getF;split
  ·exact .inr (.inr rfl)
  split
  ·split
   ·exact .inr (.inr rfl)
   ·exact .inl rfl
  ·exact getF_err r (i+1) _
def Cu.fine(c:Cu):Prop:=c.e=0∨c.e=20∨c.e=21∨c.e=23
theorem num_fine{c:Cu}(h:c.fine)(m:Int):(c.num m).2.fine:=by
 unfold Cu.num;split
 ·exact h
 ·dsimp only;have:=getF_err c.left 0 0;have this:(getN c.left).2.2=0∨(getN c.left).2.2=20∨(getN c.left).2.2=21:=this;generalize getN c.left=g at this ⊢;unfold Cu.go Cu.fine;by_cases hm:g.2.2=0∧m<(g.1:Int)
  ·rw [if_pos hm,if_neg (by decide)];exact .inr (.inr (.inr rfl))
  ·rw [if_neg hm];split
   ·exact .inl rfl
   ·rename_i hne;show g.2.2=0∨g.2.2=20∨g.2.2=21∨g.2.2=23;omega
theorem take_fine{c:Cu}(h:c.fine)(n:Int):(c.take n).2.fine:=by
 unfold Cu.take;split
 ·exact h
 ·dsimp only;unfold Cu.go Cu.fine;by_cases h1:n<0
  ·rw [if_pos h1,if_neg (by decide)];exact .inr (.inr (.inr rfl))
  rw [if_neg h1];by_cases h2:(c.left.length:Int)<n
  ·rw [if_pos h2,if_neg (by decide)];exact .inr (.inl rfl)
  ·rw [if_neg h2,if_pos rfl];exact .inl rfl
theorem done_fine{c:Cu}(h:c.fine)(hd:c.done.1=0∨c.done.1=22):c.e=0:=by
 unfold Cu.done at hd;apply Classical.byContradiction;intro he;rw [if_pos he] at hd;rcases h with h | h | h | h<;>rcases hd with hd | hd<;>(dsimp only at hd;omega)
theorem num_e0{c:Cu}{m:Int}(h:(c.num m).2.e=0):c.e=0:=by
 apply Classical.byContradiction;intro he;unfold Cu.num at h;rw [if_pos he] at h;exact he h
theorem take_e0{c:Cu}{m:Int}(h:(c.take m).2.e=0):c.e=0:=by
 apply Classical.byContradiction;intro he;unfold Cu.take at h;rw [if_pos he] at h;exact he h
theorem left_at(c:Cu)(k:Nat):(Cu.mk c.b (c.at_+k) 0).left=c.left.drop k:=by unfold Cu.left;rw [List.drop_drop]
theorem num_inv{c:Cu}{m:Int}(h:(c.num m).2.e=0):∃n:Nat,(c.num m).1=(n:Int)∧(n:Int)≤m∧n<9223372036854775808∧c.left=putN n++(c.num m).2.left∧(c.num m).2=⟨c.b,c.at_+(putN n).length,0⟩:=by
 have he:=num_e0 h;have hv:=getN_val c.left;unfold Cu.num at h ⊢;rw [if_neg (by simpa using he)] at h ⊢;dsimp only at h ⊢;have hinv:=@getN_inv c.left;generalize getN c.left=g at h hv hinv ⊢;by_cases hm:g.2.2=0∧m<(g.1:Int)
 ·rw [if_pos hm] at h;unfold Cu.go at h;rw [if_neg (by decide)] at h;exact absurd h (by show ¬(23:Int)=0;decide)
 rw [if_neg hm] at h ⊢;have hg:g.2.2=0:=by
  apply Classical.byContradiction;intro hne;unfold Cu.go at h;rw [if_neg hne] at h;exact hne h
 obtain⟨h1,h2⟩:=hinv hg;have hgo:c.go g.2.1 g.2.2=⟨c.b,c.at_+(putN g.1).length,0⟩:=by unfold Cu.go;rw [if_pos hg,h2]
 rw [hgo,if_pos hg];refine⟨g.1,rfl,by omega,hv,?_,rfl⟩;rw [left_at,←h2];exact h1
theorem num_put{c:Cu}(he:c.e=0){n:Nat}(hn:n<9223372036854775808){m:Int}(hm:(n:Int)≤m){r:Str}(h:c.left=putN n++r):c.num m=((n:Int),⟨c.b,c.at_+(putN n).length,0⟩):=by
 unfold Cu.num;rw [if_neg (by simpa using he)];dsimp only;rw [h,getN_put hn];dsimp only;have hE:(if (0:Int)=0∧m<(n:Int) then (23:Int) else 0)=0:=if_neg fun h=>by omega
 rw [hE,if_pos rfl];unfold Cu.go;rw [if_pos rfl]
theorem take_inv{c:Cu}{n:Nat}(h:(c.take (n:Int)).2.e=0):c.left=(c.take (n:Int)).1++(c.take (n:Int)).2.left∧(c.take (n:Int)).1.length=n∧(c.take (n:Int)).2=⟨c.b,c.at_+n,0⟩:=by
 have he:=take_e0 h;rw [Cu.take_eq he] at h ⊢;by_cases h2:(c.left.length:Int)<(n:Int)
 ·have hE:takeE (n:Int) c.left.length=20:=by unfold takeE;rw [if_neg (by omega),if_pos h2]
  rw [hE] at h;unfold Cu.go at h;rw [if_neg (by decide)] at h;exact absurd h (by show ¬(20:Int)=0;decide)
 have hE:takeE (n:Int) c.left.length=0:=by unfold takeE;rw [if_neg (by omega),if_neg h2]
 have hgo:c.go (n:Int).toNat 0=⟨c.b,c.at_+n,0⟩:=by unfold Cu.go;rw [if_pos rfl,Itn]
 rw [hE,hgo,if_pos rfl,left_at,Itn];refine⟨(List.take_append_drop n c.left).symm,?_,rfl⟩;show (c.left.take n).length=n;rw [Llt];omega
theorem take_put{c:Cu}(he:c.e=0){s r:Str}(h:c.left=s++r):c.take (s.length:Int)=(s,⟨c.b,c.at_+s.length,0⟩):=by
 have hll:c.left.length=s.length+r.length:=by rw [h,Lla]
 have hE:takeE (s.length:Int) c.left.length=0:=by unfold takeE;rw [if_neg (by omega),if_neg (by omega)]
 rw [Cu.take_eq he,hE,if_pos rfl,Itn,h,List.take_left];unfold Cu.go;rw [if_pos rfl]
theorem nextN_inv{c:Cu}{key:Str}{restart first:Bool}{x:(Str×Str)×Cu}(hf:c.fine)(h:nextN c key restart first=some x) :
  c.left=entN (if restart=true then 0 else comN key x.1.1) x.1++x.2.left∧x.2=⟨c.b,c.at_+(entN (if restart=true then 0 else comN key x.1.1) x.1).length,0⟩∧c.e=0:=by
 unfold nextN at h;dsimp only at h;split at h
 ·cases h
 rename_i hd;have hd:=Decidable.not_not.1 hd;have hfin:=take_fine (take_fine (num_fine (num_fine (num_fine hf 1024) 1024) 1024) ((c.num 1024).2.num 1024).1) (((c.num 1024).2.num 1024).2.num 1024).1;have e5:=done_fine hfin hd;have e4:=take_e0 e5;have e3:=take_e0 e4;have e2:=num_e0 e3;have e1:=num_e0 e2;have e0:=num_e0 e1;obtain⟨a,ha,ham,_,hal,hac⟩:=num_inv e1;rw [ha] at h;generalize (c.num 1024).2=c1 at *;obtain⟨b,hb,hbm,_,hbl,hbc⟩:=num_inv e2;rw [hb] at h e4 e5 hd hfin;generalize (c1.num 1024).2=c2 at *;obtain⟨d,hdd,hdm,_,hdl,hdc⟩:=num_inv e3;rw [hdd] at h e5 hd hfin;generalize (c2.num 1024).2=c3 at *;obtain⟨hr1,hr2,hr3⟩:=take_inv e4;generalize c3.take (b:Int)=r at *;obtain⟨hv1,hv2,hv3⟩:=take_inv e5;generalize r.2.take (d:Int)=v at *;split at h
 ·cases h
 rename_i hq1;split at h
 ·cases h
 rename_i hq2;cases h;rw [Itn] at hq2 ⊢;have hal':a≤key.length:=by
  apply Classical.byContradiction;intro hn;exact hq1 (.inr (.inl (by omega)))
 have hkl:(key.take a).length=a:=by rw [Llt];omega
 have hsh:(if restart=true then 0 else comN key (key.take a++r.1))=a:=by
  cases restart with
  | true=>
   rw [if_pos rfl];apply Classical.byContradiction;intro hn;exact hq1 (.inl ⟨rfl,by omega⟩)
  | false=>
   rw [if_neg (by decide)];apply Classical.byContradiction;intro hn;exact hq2 (.inr ⟨rfl,by omega⟩)
 have hd1:(key.take a++r.1).drop a=r.1:=by rw [List.drop_append_of_le_length (by omega),Ldn (by omega),List.nil_append]
 have hd2:(key.take a++r.1).length-a=b:=by rw [Lla,hkl,hr2];omega
 have hent:entN a (key.take a++r.1,v.1)=putN a++putN b++putN d++r.1++v.1:=by
  unfold entN;dsimp only;rw [hd1,hd2,hv2]
 rw [hsh,hent];refine⟨?_,?_,e0⟩
 ·rw [hal,hbl,hdl,hr1,hv1];simp
 ·rw [hv3,hr3,hdc,hbc,hac];simp only [Lla,hr2,hv2];show Cu.mk _ _ _=Cu.mk _ _ _;congr 1;omega
theorem nextN_put{c:Cu}{key:Str}{restart first:Bool}{x:Str×Str}{r:Str}(he:c.e=0)(h1:x.1.length≤1024)(h2:x.2.length≤1024)(hord:first=false→0≤cmpN x.1 key)(hk:restart=false→True)
  (h:c.left=entN (if restart=true then 0 else comN key x.1) x++r):nextN c key restart first=some (x,⟨c.b,c.at_+(entN (if restart=true then 0 else comN key x.1) x).length,0⟩):=by
 have hsh:(if restart=true then 0 else comN key x.1)≤x.1.length∧(if restart=true then 0 else comN key x.1)≤key.length∧key.take (if restart=true then 0 else comN key x.1)=x.1.take (if restart=true then 0 else comN key x.1):=by
  cases restart with
  | true=>exact⟨Nzl _,Nzl _,rfl⟩
  | false=>
   have:=comN_le key x.1;exact⟨by show comN key x.1≤_;omega,by show comN key x.1≤_;omega,comN_take key x.1⟩
 have hrs:∀{s:Nat},s=(if restart=true then 0 else comN key x.1)→(restart=true→s=0)∧(restart=false→comN key x.1=s):=fun e=>by
  subst e
  cases restart with
  | true=>exact⟨fun _=>rfl,fun h=>(by cases h)⟩
  | false=>exact⟨fun h=>(by cases h),fun _=>rfl⟩
 obtain⟨hrs1,hrs2⟩:=hrs rfl;generalize (if restart=true then 0 else comN key x.1)=s at h hsh hrs1 hrs2 ⊢;unfold entN at h;have q1:=num_put (c:=c) he (n:=s) (by omega) (m:=1024) (by omega) (r:=putN (x.1.length-s)++putN x.2.length++x.1.drop s++x.2++r) (by rw [h];simp);have l1:(Cu.mk c.b (c.at_+(putN s).length) 0).left=putN (x.1.length-s)++(putN x.2.length++x.1.drop s++x.2++r):=by rw [left_at,h];simp
 have q2:=num_put (c:=⟨c.b,c.at_+(putN s).length,0⟩) rfl (n:=x.1.length-s) (by omega) (m:=1024) (by omega) l1;have l2:(Cu.mk c.b (c.at_+(putN s).length+(putN (x.1.length-s)).length) 0).left=putN x.2.length++(x.1.drop s++x.2++r):=by
  have:=left_at (Cu.mk c.b (c.at_+(putN s).length) 0) (putN (x.1.length-s)).length;rw [l1] at this;rw [show (Cu.mk c.b (c.at_+(putN s).length+(putN (x.1.length-s)).length) 0).left=_ from this];simp
 have q3:=num_put (c:=⟨c.b,c.at_+(putN s).length+(putN (x.1.length-s)).length,0⟩) rfl (n:=x.2.length) (by omega) (m:=1024) (by omega) l2;have l3:(Cu.mk c.b (c.at_+(putN s).length+(putN (x.1.length-s)).length+(putN x.2.length).length) 0).left=x.1.drop s++(x.2++r):=by
  have:=left_at (Cu.mk c.b (c.at_+(putN s).length+(putN (x.1.length-s)).length) 0) (putN x.2.length).length;rw [l2] at this;rw [show (Cu.mk c.b (c.at_+(putN s).length+(putN (x.1.length-s)).length+(putN x.2.length).length) 0).left=_ from this];simp
 have hdl:(x.1.drop s).length=x.1.length-s:=by rw [Lld]
 have q4:=take_put (c:=⟨c.b,c.at_+(putN s).length+(putN (x.1.length-s)).length+(putN x.2.length).length,0⟩) rfl l3;rw [hdl] at q4;have l4:(Cu.mk c.b (c.at_+(putN s).length+(putN (x.1.length-s)).length+(putN x.2.length).length+(x.1.length-s)) 0).left=x.2++r:=by
  have:=left_at (Cu.mk c.b (c.at_+(putN s).length+(putN (x.1.length-s)).length+(putN x.2.length).length) 0) (x.1.length-s);rw [l3] at this;rw [show (Cu.mk c.b (c.at_+(putN s).length+(putN (x.1.length-s)).length+(putN x.2.length).length+(x.1.length-s)) 0).left=_ from this];rw [←hdl,List.drop_left]
 have q5:=take_put (c:=⟨c.b,c.at_+(putN s).length+(putN (x.1.length-s)).length+(putN x.2.length).length+(x.1.length-s),0⟩) rfl l4;have hkx:key.take s++x.1.drop s=x.1:=by rw [hsh.2.2,List.take_append_drop]
 unfold nextN;dsimp only;rw [q1];dsimp only;rw [q2];dsimp only;rw [q3];dsimp only;rw [q4];dsimp only;rw [q5];dsimp only;rw [Itn,hkx];have hdone:∀(b:Str) (n:Nat),(Cu.mk b n 0).done.1=0∨(Cu.mk b n 0).done.1=22:=fun b n=>by
  unfold Cu.done;rw [if_neg (fun h=>h rfl)];split
  ·exact .inr rfl
  ·exact .inl rfl
 rw [if_neg (fun h=>h (hdone _ _)),if_neg,if_neg]
 ·congr 2;show Cu.mk _ _ _=Cu.mk _ _ _;congr 1;unfold entN;simp only [Lla,hdl];omega
 ·rintro (⟨h1,h2⟩ | ⟨h1,h2⟩)
  ·have:=hord h1;omega
  ·exact h2 (by rw [hrs2 h1])
 ·rintro (⟨h1,h2⟩ | h1 | h1)
  ·exact h2 (by rw [hrs1 h1];rfl)
  ·omega
  ·omega
def bytesL(R:Nat):Nat→Str→List (Str×Str)→Str
 | _,_,[]=>[]
 | i,prev,x::r=>entN (sharedN R i prev x) x++bytesL R (i+1) x.1 r
def placesL(R:Nat):Nat→Str→Nat→List (Str×Str)→Str
 | _,_,_,[]=>[]
 | i,prev,off,x::r=>(if i%R=0 then fixN off 4 else [])++placesL R (i+1) x.1 (off+(entN (sharedN R i prev x) x).length) r
theorem rawB_eq(R:Nat):∀(l:List (Str×Str)) (i:Nat) (prev b p:Str),rawB R i prev l b p=(b++bytesL R i prev l,p++placesL R i prev b.length l)
 | [],i,prev,b,p=>by simp [rawB,bytesL,placesL]
 | x::r,i,prev,b,p=>by
  rw [rawB,rawB_eq R r,bytesL,placesL,Lla];by_cases h:i%R=0
  ·rw [if_pos h,if_pos h,Laa,Laa]
  ·rw [if_neg h,if_neg h,Laa,List.nil_append]
theorem rawN_eq(l:List (Str×Str))(R:Nat):rawN l R=bytesL R 0 [] l++placesL R 0 [] 0 l++fixN R 4++fixN l.length 4:=by
 unfold rawN;rw [rawB_eq];simp
def cntP(R i:Nat):Nat:=(i+R-1)/R
theorem cntP_div{R i:Nat}(hR:1≤R)(h:i%R=0):i/R=cntP R i:=by
 unfold cntP;have h1:=Nat.div_add_mod i R;rw [h,Nat.add_zero] at h1;rw [show i+R-1=R*(i/R)+(R-1) by omega,Nat.mul_add_div (by omega),Nat.div_eq_of_lt (by omega:R-1<R),Nat.add_zero]
theorem cntP_succ{R:Nat}(hR:1≤R)(i:Nat):cntP R (i+1)=cntP R i+if i%R=0 then 1 else 0:=by
 have e1:cntP R (i+1)=i/R+1:=by
  unfold cntP;rw [show i+1+R-1=i+R by omega,Nat.add_div_right _ (by omega)]
 rw [e1];by_cases h:i%R=0
 ·rw [if_pos h,cntP_div hR h]
 ·rw [if_neg h,Nat.add_zero];unfold cntP;have h1:=Nat.div_add_mod i R;have h2:=Nat.mod_lt i (by omega:R>0);rw [show i+R-1=R*(i/R+1)+(i%R-1) by rw [Nat.mul_add];omega,Nat.mul_add_div (by omega),Nat.div_eq_of_lt (by omega:i%R-1<R),Nat.add_zero]
theorem cntP_zero{R:Nat}(hR:1≤R):cntP R 0=0:=by unfold cntP;rw [Nat.div_eq_of_lt (by omega)]
theorem placesL_len{R:Nat}(hR:1≤R):∀(l:List (Str×Str)) (i:Nat) (prev:Str) (off:Nat),(placesL R i prev off l).length+4*cntP R i=4*cntP R (i+l.length)
 | [],i,prev,off=>by simp [placesL]
 | x::r,i,prev,off=>by
  have:=placesL_len hR r (i+1) x.1 (off+(entN (sharedN R i prev x) x).length);have hs:=cntP_succ hR i;rw [placesL,Lla,Llc];rw [show i+(r.length+1)=i+1+r.length by omega,←this,hs];split
  ·rw [fixN_length];omega
  ·simp only [List.length_nil];omega
theorem bytesL_len(R:Nat):∀(l:List (Str×Str)) (i:Nat) (prev:Str),3*l.length≤(bytesL R i prev l).length
 | [],_,_=>by simp [bytesL]
 | x::r,i,prev=>by
  have:=bytesL_len R r (i+1) x.1;have p1:=putN_pos (sharedN R i prev x);have p2:=putN_pos (x.1.length-sharedN R i prev x);have p3:=putN_pos x.2.length;rw [bytesL,Lla,Llc];unfold entN;simp only [Lla];omega
theorem shared_flag(R i:Nat)(key:Str)(x:Str×Str):(if (i%R==0)=true then 0 else comN key x.1)=sharedN R i key x:=by
 unfold sharedN;by_cases h:i%R=0
 ·rw [if_pos (by simpa using h),if_pos h]
 ·rw [if_neg (by simpa using h),if_neg h]
theorem take_split{α:Type}(l:List α)(a b:Nat):l.take (a+b)=l.take a++(l.drop a).take b:=by rw [List.take_add]
def chainN:Nat→Str→List (Str×Str)→Prop
 | _,_,[]=>True
 | i,prev,x::r=>x.1.length≤1024∧x.2.length≤1024∧(i≠0→0≤cmpN x.1 prev)∧chainN (i+1) x.1 r
theorem rest_e0{c:Cu}(he:c.e=0):c.rest=c.left.length:=by unfold Cu.rest;rw [if_neg (by simpa using he)]
theorem entRun_inv{raw:Str}{fr R:Nat}(hR:1≤R):∀(k i:Nat) (key:Str) (c:Cu) (l0:List (Str×Str)) {r:List (Str×Str)} {c':Cu},entRun raw fr R k i key c l0=some (r,c')→c.e=0→c.b=raw.take fr→fr≤raw.length→c.at_≤fr→fr+4*cntP R (i+k)≤raw.length →
  ∃l,r=l0++l∧l.length=k∧c.left=bytesL R i key l++c'.left∧c'=⟨c.b,c.at_+(bytesL R i key l).length,0⟩∧(raw.drop (fr+4*cntP R i)).take (placesL R i key c.at_ l).length=placesL R i key c.at_ l
 | 0,i,key,c,l0,r,c',h,he,hb,hfr,hat,hpl=>by
  cases h;refine⟨[],by simp,rfl,by simp [bytesL],?_,by simp [placesL]⟩;obtain⟨b,a,e⟩:=c;have he:e=0:=he;subst he;rfl
 | k+1,i,key,c,l0,r,c',h,he,hb,hfr,hat,hpl=>by
  rw [entRun] at h;split at h
  ·cases h
  rename_i hw;split at h
  ·cases h
  rename_i x hx;obtain⟨h1,h2,_⟩:=nextN_inv (.inl he) hx;rw [shared_flag] at h1 h2;have hcl:c.left.length=fr-c.at_:=by
   unfold Cu.left;rw [hb,Lld,Llt];omega
  have hx2l:x.2.left.length+(entN (sharedN R i key x.1) x.1).length=fr-c.at_:=by rw [←hcl,h1,Lla];omega
  have hs:=cntP_succ hR i;obtain⟨l,e1,e2,e3,e4,e5⟩:=entRun_inv hR k (i+1) x.1.1 x.2 (l0++[x.1]) h (by rw [h2]) (by rw [h2];exact hb) hfr (by rw [h2];show c.at_+(entN (sharedN R i key x.1) x.1).length≤fr;omega) (by rw [show i+1+k=i+(k+1) by omega];exact hpl);refine⟨x.1::l,by rw [e1];simp,by rw [Llc,e2],?_,?_,?_⟩
  ·rw [h1,e3,bytesL,Laa]
  ·rw [e4,h2,bytesL,Lla];show Cu.mk _ _ _=Cu.mk _ _ _;congr 1;exact Nat.add_assoc _ _ _
  ·rw [placesL];have eat:x.2.at_=c.at_+(entN (sharedN R i key x.1) x.1).length:=by rw [h2]
   rw [eat] at e5;by_cases hi:i%R=0
   ·rw [if_pos hi] at hs ⊢;rw [Lla,fixN_length,take_split,List.drop_drop];have e6:fr+4*cntP R i+4=fr+4*cntP R (i+1):=by omega
    rw [e6,e5];congr 1;have hw2:wordN ((raw.take (fr+4*(i/R)+4)).drop (fr+4*(i/R)))=fr-c.rest:=by
     apply Classical.byContradiction;intro hn;exact hw ⟨hi,hn⟩
    rw [rest_e0 he,hcl,cntP_div hR hi] at hw2;have hmon:cntP R (i+1)≤cntP R (i+(k+1)):=by
     unfold cntP;exact Nat.div_le_div_right (by omega)
    have e7:(raw.take (fr+4*cntP R i+4)).drop (fr+4*cntP R i)=(raw.drop (fr+4*cntP R i)).take 4:=by rw [List.drop_take,Nat.add_sub_cancel_left]
    rw [e7] at hw2;have hl4:((raw.drop (fr+4*cntP R i)).take 4).length=4:=by rw [Llt,Lld];omega
    rw [←fix_wordN hl4,hw2];congr 1;omega
   ·have hs2:cntP R (i+1)=cntP R i:=by rw [hs,if_neg hi];rfl
    rw [if_neg hi,List.nil_append,←hs2];exact e5
theorem entRun_put{raw:Str}{fr R:Nat}(hR:1≤R)(hraw:raw.length<4294967296):∀(l:List (Str×Str)) (i:Nat) (key:Str) (c:Cu) (l0:List (Str×Str)) (rest:Str),chainN i key l→c.e=0→c.left=bytesL R i key l++rest→c.b=raw.take fr→fr≤raw.length→c.at_≤fr→fr+4*cntP R (i+l.length)≤raw.length →
  (raw.drop (fr+4*cntP R i)).take (placesL R i key c.at_ l).length=placesL R i key c.at_ l→entRun raw fr R l.length i key c l0=some (l0++l,⟨c.b,c.at_+(bytesL R i key l).length,0⟩)
 | [],i,key,c,l0,rest,hch,he,hl,hb,hfr,hat,hpl,hp=>by
  obtain⟨b,a,e⟩:=c;have he:e=0:=he;subst he;simp [entRun,bytesL]
 | x::l,i,key,c,l0,rest,hch,he,hl,hb,hfr,hat,hpl,hp=>by
  obtain⟨c1,c2,c3,c4⟩:=hch;rw [bytesL,Laa] at hl;have hs:=cntP_succ hR i;have hcl:c.left.length=fr-c.at_:=by
   unfold Cu.left;rw [hb,Lld,Llt];omega
  have hel:(entN (sharedN R i key x) x).length≤fr-c.at_:=by rw [←hcl,hl,Lla];omega
  have hmon:cntP R (i+1)≤cntP R (i+(l.length+1)):=by
   unfold cntP;exact Nat.div_le_div_right (by omega)
  rw [Llc] at hpl
  have hn:=nextN_put (c:=c) (key:=key) (restart:=(i%R==0)) (first:=(i==0)) he c1 c2 (fun h=>c3 (by simpa using h)) (fun _=>trivial) (by rw [shared_flag];exact hl)
  rw [shared_flag] at hn;rw [Llc,entRun];have hw:¬(i%R=0∧wordN ((raw.take (fr+4*(i/R)+4)).drop (fr+4*(i/R)))≠fr-c.rest):=by
   rintro ⟨hi,hw⟩;apply hw;rw [rest_e0 he,hcl,cntP_div hR hi];have e7:(raw.take (fr+4*cntP R i+4)).drop (fr+4*cntP R i)=(raw.drop (fr+4*cntP R i)).take 4:=by rw [List.drop_take,Nat.add_sub_cancel_left]
   rw [e7];rw [placesL,if_pos hi,Lla,fixN_length,take_split] at hp;have h4:((raw.drop (fr+4*cntP R i)).take 4).length=4:=by
    rw [if_pos hi] at hs;rw [Llt,Lld];omega
   have:=List.append_inj_left hp (by rw [h4,fixN_length]);rw [this];have:=wordN_fix (v:=c.at_) (by omega) [];rw [Lan,Ltl (by rw [fixN_length];omega)] at this;rw [this];omega
  rw [if_neg hw,hn];dsimp only;have hp2:(raw.drop (fr+4*cntP R (i+1))).take (placesL R (i+1) x.1 (c.at_+(entN (sharedN R i key x) x).length) l).length=placesL R (i+1) x.1 (c.at_+(entN (sharedN R i key x) x).length) l:=by
   by_cases hi:i%R=0
   ·rw [if_pos hi] at hs;rw [placesL,if_pos hi,Lla,fixN_length,take_split,List.drop_drop] at hp;have h4:((raw.drop (fr+4*cntP R i)).take 4).length=4:=by rw [Llt,Lld];omega
    have:=List.append_inj_right hp (by rw [h4,fixN_length]);rw [show fr+4*cntP R i+4=fr+4*cntP R (i+1) by omega] at this;exact this
   ·have hs2:cntP R (i+1)=cntP R i:=by rw [hs,if_neg hi];rfl
    rw [placesL,if_neg hi,List.nil_append] at hp;rw [hs2];exact hp
  have:=entRun_put hR hraw l (i+1) x.1 ⟨c.b,c.at_+(entN (sharedN R i key x) x).length,0⟩ (l0++[x]) rest c4 rfl (by rw [left_at,hl,List.drop_left]) hb hfr (by show c.at_+(entN (sharedN R i key x) x).length≤fr;omega) (by rw [show i+1+l.length=i+(l.length+1) by omega];exact hpl) hp2;rw [this,bytesL,Lla];simp [Nat.add_assoc]
theorem numM_put{b:Str}{at_ most n:Nat}(hn:n<9223372036854775808)(hm:n≤most){r:Str}(h:b.drop at_=putN n++r):numM b at_ most=some (n,at_+(putN n).length):=by
 unfold numM;rw [h,getN_put hn];dsimp only;rw [if_neg (fun h=>by rcases h with h | h;exact h rfl;omega)]
theorem entR_put{b:Str}(R:Nat):∀(l:List (Str×Str)) (i:Nat) (key:Str) (at_:Nat) (l0:List (Str×Str)) (rest:Str),chainN i key l→key.length≤1024→b.drop at_=bytesL R i key l++rest→at_≤b.length→entR b l.length key at_ l0=some (l0++l)
 | [],i,key,at_,l0,rest,_,_,_,_=>by simp [entR]
 | x::l,i,key,at_,l0,rest,hch,hk,hd,ha=>by
  obtain⟨c1,c2,c3,c4⟩:=hch;have hsk:sharedN R i key x≤key.length∧sharedN R i key x≤x.1.length∧key.take (sharedN R i key x)=x.1.take (sharedN R i key x):=by
   unfold sharedN;split
   ·exact⟨Nzl _,Nzl _,rfl⟩
   ·have:=comN_le key x.1;exact⟨by omega,by omega,comN_take key x.1⟩
  rw [bytesL] at hd;have hdl:b.length-at_=(entN (sharedN R i key x) x++bytesL R (i+1) x.1 l++rest).length:=by rw [←hd,Lld]
  have hent:entN (sharedN R i key x) x=putN (sharedN R i key x)++putN (x.1.length-sharedN R i key x)++putN x.2.length++x.1.drop (sharedN R i key x)++x.2:=rfl;generalize sharedN R i key x=s at hd hdl hsk hent;have hel:(entN s x).length=(putN s).length+(putN (x.1.length-s)).length+(putN x.2.length).length+(x.1.length-s)+x.2.length:=by
   rw [hent];simp only [Lla,Lld]
  have hle:at_+(entN s x).length≤b.length:=by
   rw [Lla,Lla] at hdl;omega
  rw [Llc,entR];have n1:=numM_put (b:=b) (at_:=at_) (n:=s) (most:=key.length) (by omega) hsk.1 (r:=putN (x.1.length-s)++(putN x.2.length++(x.1.drop s++(x.2++(bytesL R (i+1) x.1 l++rest))))) (by rw [hd,hent];simp);have d2:b.drop (at_+(putN s).length)=putN (x.1.length-s)++(putN x.2.length++(x.1.drop s++(x.2++(bytesL R (i+1) x.1 l++rest)))):=by
   rw [←List.drop_drop,hd,hent];simp
  have n2:=numM_put (b:=b) (at_:=at_+(putN s).length) (n:=x.1.length-s) (most:=1024-s) (by omega) (by omega) d2;have d3:b.drop (at_+(putN s).length+(putN (x.1.length-s)).length)=putN x.2.length++(x.1.drop s++(x.2++(bytesL R (i+1) x.1 l++rest))):=by
   rw [←List.drop_drop,d2,List.drop_left]
  have n3:=numM_put (b:=b) (n:=x.2.length) (most:=1024) (by omega) (by omega) d3;have d4:b.drop (at_+(putN s).length+(putN (x.1.length-s)).length+(putN x.2.length).length)=x.1.drop s++(x.2++(bytesL R (i+1) x.1 l++rest)):=by
   rw [←List.drop_drop,d3,List.drop_left]
  have hdsl:(x.1.drop s).length=x.1.length-s:=by rw [Lld]
  have d5:b.drop (at_+(putN s).length+(putN (x.1.length-s)).length+(putN x.2.length).length+(x.1.length-s))=x.2++(bytesL R (i+1) x.1 l++rest):=by
   rw [←List.drop_drop,d4,←hdsl,List.drop_left]
  have d6:b.drop (at_+(putN s).length+(putN (x.1.length-s)).length+(putN x.2.length).length+(x.1.length-s)+x.2.length)=bytesL R (i+1) x.1 l++rest:=by
   rw [←List.drop_drop,d5,List.drop_left]
  rw [n1];dsimp only;rw [n2];dsimp only;rw [n3];dsimp only;rw [if_neg (by omega),d4,d5];have t1:(x.1.drop s++(x.2++(bytesL R (i+1) x.1 l++rest))).take (x.1.length-s)=x.1.drop s:=by rw [←hdsl,List.take_left]
  have t2:(x.2++(bytesL R (i+1) x.1 l++rest)).take x.2.length=x.2:=List.take_left;have t3:key.take s++x.1.drop s=x.1:=by rw [hsk.2.2,List.take_append_drop]
  rw [t1,t2,t3,entR_put R l (i+1) x.1 _ (l0++[(x.1,x.2)]) rest c4 c1 d6 (by omega)];simp
theorem adj_srt:∀{l:List (Str×Str)},srtE l→adjN l=true
 | [],_=>rfl
 | [_],_=>rfl
 | x::y::r,h=>by
  rw [adjN,Bat,Bool.not_eq_true',decide_eq_false_iff_not];have h1:=List.pairwise_cons.1 h;refine⟨fun hn=>?_,adj_srt h1.2⟩;have:=h1.1 y (Lcs ..);have:=cmpN_neg x.1 y.1;omega
theorem srt_adj:∀{l:List (Str×Str)},adjN l=true→srtE l
 | [],_=>List.Pairwise.nil
 | [x],_=>List.pairwise_singleton _ _
 | x::y::r,h=>by
  rw [adjN,Bat,Bool.not_eq_true',decide_eq_false_iff_not] at h;have ih:=srt_adj h.2;have hxy:cmpN x.1 y.1≤0:=by have:=cmpN_neg x.1 y.1;omega
  refine List.pairwise_cons.2 ⟨fun z hz=>?_,ih⟩;rcases List.mem_cons.1 hz with rfl | hz
  ·exact hxy
  ·exact cmpN_le hxy ((List.pairwise_cons.1 ih).1 z hz)
theorem chain_srt:∀(l:List (Str×Str)) (i:Nat) (prev:Str),srtE l→(∀x∈l,x.1.length≤1024∧x.2.length≤1024)→(i≠0→∀x∈l,cmpN prev x.1≤0)→chainN i prev l
 | [],_,_,_,_,_=>trivial
 | x::r,i,prev,h,hl,hp=>by
  have h1:=List.pairwise_cons.1 h;refine⟨(hl x (Lcs ..)).1,(hl x (Lcs ..)).2,fun hi=>?_,chain_srt r (i+1) x.1 h1.2 (fun y hy=>hl y (Lmc _ hy)) fun _ y hy=>h1.1 y hy⟩;have:=hp hi x (Lcs ..);have:=cmpN_neg prev x.1;omega
theorem parsed_raw{raw:Str}{R:Nat}{l:List (Str×Str)}(h:parsedN raw=some (R,l)):rawN l R=raw∧wordN ((raw.take (raw.length-4)).drop (raw.length-8))=R∧wordN (raw.drop (raw.length-4))=l.length∧8≤raw.length:=by
 unfold parsedN at h;dsimp only at h;split at h
 ·cases h
 rename_i h8;split at h
 ·cases h
 rename_i hq;split at h
 ·cases h
 rename_i hfr;split at h
 ·cases h
 rename_i y hy;split at h
 ·cases h
 rename_i hd;cases h;have i1:raw.length-8+4=raw.length-4:=by omega
 rw [i1] at hy hq hfr ⊢;generalize hR:wordN ((raw.take (raw.length-4)).drop (raw.length-8))=R at hq hfr hy ⊢;generalize hn:wordN (raw.drop (raw.length-4))=n at hq hfr hy ⊢;obtain⟨r,c'⟩:=y;have hR1:1≤R:=by omega
 have hcp:(n+R-1)/R=cntP R n:=rfl;rw [hcp] at hfr hy;obtain⟨l,e1,e2,e3,e4,e5⟩:=entRun_inv hR1 n 0 [] _ [] hy rfl rfl (by omega) (Nzl _) (by rw [Nat.zero_add];omega);rw [List.nil_append] at e1;subst e1;have hd:c'.done.1=0:=by simpa using hd
 have hce:c'.e=0:=by rw [e4]
 have hleft:c'.left=[]:=by
  unfold Cu.done at hd;rw [if_neg (by simpa using hce)] at hd;split at hd
  ·cases hd
  ·unfold Cu.left;exact Ldn (by omega)
 rw [hleft,Lan] at e3;have e3:raw.take (raw.length-8-4*cntP R n)=bytesL R 0 [] r:=e3;rw [cntP_zero hR1,Nat.mul_zero,Nat.add_zero] at e5;have e5:(raw.drop (raw.length-8-4*cntP R n)).take (placesL R 0 [] 0 r).length=placesL R 0 [] 0 r:=e5;have hpl:=placesL_len hR1 r 0 [] 0;rw [cntP_zero hR1,Nat.zero_add,e2] at hpl;have hpl:(placesL R 0 [] 0 r).length=4*cntP R n:=by omega
 refine⟨?_,rfl,e2.symm,by omega⟩;rw [rawN_eq,e2];have f1:fixN R 4=(raw.take (raw.length-4)).drop (raw.length-8):=by
  rw [←hR];exact fix_wordN (by rw [Lld,Llt];omega)
 have f2:fixN n 4=raw.drop (raw.length-4):=by
  rw [←hn];exact fix_wordN (by rw [Lld];omega)
 rw [f1,f2,←e3,←e5,hpl];have s1:raw.take (raw.length-8-4*cntP R n)++(raw.drop (raw.length-8-4*cntP R n)).take (4*cntP R n)=raw.take (raw.length-8):=by
  rw [←take_split];congr 1;omega
 have s2:raw.take (raw.length-8)++(raw.take (raw.length-4)).drop (raw.length-8)=raw.take (raw.length-4):=by
  have:raw.take (raw.length-8)=(raw.take (raw.length-4)).take (raw.length-8):=by rw [List.take_take];congr 1;omega
  rw [this,List.take_append_drop]
 rw [s1,s2,List.take_append_drop]
theorem raw_parsed{l:List (Str×Str)}{R:Nat}(hR:1≤R)(hR2:R≤64)(hl:1≤l.length)(hch:chainN 0 [] l)(hlen:(rawN l R).length<4294967296):parsedN (rawN l R)=some (R,l):=by
 have hpl:=placesL_len hR l 0 [] 0;rw [cntP_zero hR,Nat.zero_add] at hpl;have hpl:(placesL R 0 [] 0 l).length=4*cntP R l.length:=by omega
 have hbl:=bytesL_len R l 0 [];have e:=rawN_eq l R;generalize rawN l R=raw at hlen e ⊢;have f4:=fixN_length R 4;have n4:=fixN_length l.length 4;have hrl:raw.length=(bytesL R 0 [] l).length+4*cntP R l.length+8:=by rw [e];simp only [Lla,hpl,f4,n4]
 have w1:(raw.take (raw.length-8+4)).drop (raw.length-8)=fixN R 4:=by
  rw [List.drop_take,Nat.add_sub_cancel_left];have:raw.drop (raw.length-8)=fixN R 4++fixN l.length 4:=by
   rw [e,Laa];exact List.drop_left' (by simp only [Lla,hpl,f4,n4];omega)
  rw [this,List.take_left' f4]
 have w2:raw.drop (raw.length-8+4)=fixN l.length 4:=by
  rw [e];exact List.drop_left' (by simp only [Lla,hpl,f4,n4];omega)
 have v1:=wordN_fix (v:=R) (by omega) [];rw [Lan,Ltl (by omega)] at v1;have v2:=wordN_fix (v:=l.length) (by omega) [];rw [Lan,Ltl (by omega)] at v2;unfold parsedN;dsimp only;rw [w1,w2,v1,v2,if_neg (by omega),if_neg (by omega)];have hcp:(l.length+R-1)/R=cntP R l.length:=rfl;rw [hcp,if_neg (by omega)];have hfr:raw.length-8-4*cntP R l.length=(bytesL R 0 [] l).length:=by omega
 rw [hfr];have htk:raw.take (bytesL R 0 [] l).length=bytesL R 0 [] l:=by
  rw [e,Laa,Laa];exact List.take_left' rfl
 have hput:=entRun_put (raw:=raw) (fr:=(bytesL R 0 [] l).length) hR hlen l 0 [] ⟨raw.take (bytesL R 0 [] l).length,0,0⟩ [] [] hch rfl (by unfold Cu.left;rw [htk];simp) rfl (by omega) (Nzl _) (by rw [Nat.zero_add];omega) (by
  rw [cntP_zero hR,Nat.mul_zero,Nat.add_zero,e,Laa,Laa,List.drop_left' rfl];exact List.take_left' rfl)
 rw [hput];dsimp only;have hdn:(Cu.mk (raw.take (bytesL R 0 [] l).length) (0+(bytesL R 0 [] l).length) 0).done.1=0:=by
  unfold Cu.done;dsimp only;rw [if_neg (fun h=>h rfl),if_neg (by rw [htk];omega)]
 rw [if_neg (by rw [hdn];exact fun h=>h rfl),List.nil_append]
theorem parse_law{raw:Str}(hraw:raw.length<4294967296):parseR raw=(parsedN raw).map Prod.snd:=by
 cases h:parsedN raw with
 | some x=>
  obtain⟨R,l⟩:=x;obtain⟨h1,h2,h3,h8⟩:=parsed_raw h;have hs:=parsedN_srt h;have hs1:1≤R:=hs.1;have hs2:R≤64:=hs.2.1;have hs3:1≤l.length:=hs.2.2.1;have hs4:3*l.length≤raw.length:=hs.2.2.2.1;show parseR raw=some l;unfold parseR;rw [if_neg (by omega),h2,h3,if_neg (by omega)];have hch:=chain_srt l 0 [] hs.2.2.2.2.1 hs.2.2.2.2.2 (fun h=>absurd rfl h);have hen:=entR_put (b:=raw.take (raw.length-8)) R l 0 [] 0 [] (placesL R 0 [] 0 l) hch (Nzl _) (by
   rw [List.drop_zero];have hrl:raw.length-8=(bytesL R 0 [] l++placesL R 0 [] 0 l).length:=by
    have:=congrArg List.length h1;rw [rawN_eq] at this;have f1:=fixN_length R 4;have f2:=fixN_length l.length 4;rw [Lla,Lla,f1,f2] at this;omega
   have e:=rawN_eq l R;rw [h1] at e;rw [hrl]
   conv=>lhs;rw [e]
   rw [Laa];exact List.take_left' rfl) (Nzl _)
  rw [hen];dsimp only;rw [List.nil_append,if_neg (by rw [adj_srt hs.2.2.2.2.1];decide),if_pos h1]
 | none=>
  show parseR raw=none
  cases h2:parseR raw with
  | none=>rfl
  | some l=>
   exfalso;have hlen:=parseR_len h2;unfold parseR at h2;split at h2
   ·cases h2
   split at h2
   ·cases h2
   rename_i hq;split at h2
   ·cases h2
   split at h2
   ·cases h2
   split at h2
   ·rename_i hrw;cases h2;have hch:=chain_srt l 0 [] (srt_adj hlen.2.2.2) hlen.2.2.1 (fun h=>absurd rfl h);have:=raw_parsed (l:=l) (R:=wordN ((raw.take (raw.length-4)).drop (raw.length-8))) (by omega) (by omega) hlen.1 hch (by rw [hrw];exact hraw);rw [hrw,h] at this;cases this
   ·cases h2
theorem tokRun_full{b:Str}{n k at_ size:Nat}{ts:List Tk}(h1:¬size<n)(h2:at_≠b.length):tokRun b n k at_ size ts=none:=by
 cases k with
 | zero=>rfl
 | succ k=>rw [tokRun,if_pos h1,if_neg h2]
theorem num_numR{b:Str}{at_:Nat}{m:Int}(hm:m≤65536):(numR b at_=none→((Cu.mk b at_ 0).num m).2.e≠0)∧∀y,numR b at_=some y→((y.1:Int)≤m→(Cu.mk b at_ 0).num m=((y.1:Int),⟨b,y.2,0⟩))∧(m<(y.1:Int)→((Cu.mk b at_ 0).num m).2.e≠0):=by
 have hl:(Cu.mk b at_ 0).left=b.drop at_:=rfl;unfold Cu.num numR;rw [if_neg (fun h:(Cu.mk b at_ 0).e≠0=>h rfl),hl];generalize getN (b.drop at_)=g;dsimp only;by_cases hg:g.2.2=0
 ·by_cases hb:m<(g.1:Int)
  ·rw [if_pos (c:=g.2.2=0∧m<(g.1:Int)) ⟨hg,hb⟩];unfold Cu.go;rw [if_neg (by decide:¬(23:Int)=0),if_neg (by decide:¬(23:Int)=0)];refine⟨fun _=>by show (23:Int)≠0;decide,fun y h=>⟨fun hy=>?_,fun _=>by show (23:Int)≠0;decide⟩⟩;split at h
   ·cases h
   ·cases h;exfalso;have:((g.1:Nat):Int)≤m:=hy;omega
  ·rw [if_neg (fun h:g.2.2=0∧m<(g.1:Int)=>hb h.2),if_pos hg];unfold Cu.go;rw [if_pos hg,if_neg (c:=g.2.2≠0∨65536<g.1) (by rintro (h | h)<;>omega)];refine⟨fun h=>(by cases h),fun y h=>?_⟩;cases h;exact And.intro (fun _=>rfl) (fun h=>absurd h hb)
 ·rw [if_neg (fun h:g.2.2=0∧m<(g.1:Int)=>hg h.1),if_neg hg];unfold Cu.go;rw [if_neg hg,if_pos (.inl hg)];exact⟨fun _=>hg,fun y h=>(by cases h)⟩
theorem mk_rest(b:Str)(at_:Nat):(Cu.mk b at_ 0).rest=b.length-at_:=by
 unfold Cu.rest;rw [if_neg (fun h:(Cu.mk b at_ 0).e≠0=>h rfl)];exact Lld
theorem numR_end{b:Str}{at_:Nat}(h:b.length≤at_):numR b at_=none:=by
 unfold numR;rw [Ldn h];exact if_pos (.inl (by show (20:Int)≠0;decide))
theorem lzTok_e{n made:Nat}{c:Cu}(hc:c.fine)(h:lzOk n made (lzTok n made c)=true):(lzTok n made c).2.2.2.e=0:=by
 have hd:(lzTok n made c).2.2.2.done.1=0∨(lzTok n made c).2.2.2.done.1=22:=by
  unfold lzOk at h;simp only [Bat,Bool.or_eq_true,beq_iff_eq] at h;exact h.1.1.1
 refine done_fine ?_ hd;unfold lzTok;dsimp only;split
 ·exact num_fine (num_fine (take_fine (num_fine hc _) _) _) _
 ·exact take_fine (num_fine hc _) _
theorem lz_run{b:Str}{n:Nat}(hn:n≤65536):∀(k at_:Nat) (text:Str) (ts:List Tk),at_≤b.length→text.length≤n →
  (lzRun n k text ⟨b,at_,0⟩=none∧tokRun b n k at_ text.length ts=none)∨∃r x,lzRun n k text ⟨b,at_,0⟩=some x∧tokRun b n k at_ text.length ts=some (ts++r)∧expRun r text=some x∧(r=[]↔text.length=n)
 | 0,_,_,_,_,_=>.inl ⟨rfl,rfl⟩
 | k+1,at_,text,ts,ha,ht=>by
  rw [lzRun,mk_rest];by_cases h0:b.length-at_=0
  ·rw [if_pos h0];by_cases hf:text.length=n
   ·have hd:(Cu.mk b at_ 0).done.1=0:=by
     unfold Cu.done;rw [if_neg (fun h:(Cu.mk b at_ 0).e≠0=>h rfl),if_neg (by show ¬at_<b.length;omega)]
    rw [if_pos ⟨hf,hd⟩,tokRun,if_pos (by omega),if_pos (by omega)];exact .inr ⟨[],text,rfl,by rw [Lan],rfl,iff_of_true rfl hf⟩
   ·rw [if_neg (fun h=>hf h.1),tokRun,if_neg (by omega),numR_end (by omega)];exact .inl ⟨rfl,rfl⟩
  rw [if_neg h0];dsimp only;by_cases hf:text.length=n
  ·left;refine⟨if_neg fun h=>?_,tokRun_full (by omega) (by omega)⟩;have:=lzOk_spec h;omega
  have hfine:(Cu.mk b at_ 0).fine:=.inl rfl;have hlz:∀{P:Prop},(lzOk n text.length (lzTok n text.length ⟨b,at_,0⟩)=true→False)→(if lzOk n text.length (lzTok n text.length ⟨b,at_,0⟩)=true then lzRun n k (againN (lzTok n text.length ⟨b,at_,0⟩).2.1.toNat (lzTok n text.length ⟨b,at_,0⟩).2.2.1.toNat (text++(lzTok n text.length ⟨b,at_,0⟩).1)) (lzTok n text.length ⟨b,at_,0⟩).2.2.2 else none)=none:=fun h=>if_neg h;have he:=@lzTok_e n text.length ⟨b,at_,0⟩ hfine;rw [tokRun,if_neg (c:=¬text.length<n) (by omega)];obtain⟨q1,q2⟩:=@num_numR b at_ ((n:Int)-text.length) (by omega);have hterr:((Cu.mk b at_ 0).num ((n:Int)-text.length)).2.e≠0∨(((Cu.mk b at_ 0).num ((n:Int)-text.length)).2.take ((Cu.mk b at_ 0).num ((n:Int)-text.length)).1).2.e≠0→lzOk n text.length (lzTok n text.length ⟨b,at_,0⟩)=true→False:=by
   intro h1 h2;have h3:=he h2;have h4:(((Cu.mk b at_ 0).num ((n:Int)-text.length)).2.take ((Cu.mk b at_ 0).num ((n:Int)-text.length)).1).2.e=0:=by
    unfold lzTok at h3;dsimp only at h3;split at h3
    ·exact num_e0 (num_e0 h3)
    ·exact h3
   rcases h1 with h1 | h1
   ·exact h1 (take_e0 h4)
   ·exact h1 h4
  cases hnum:numR b at_ with
  | none=>exact .inl ⟨if_neg (hterr (.inl (q1 hnum))),rfl⟩
  | some l=>
   obtain⟨q3,q4⟩:=q2 l hnum;have hl:=numR_le ha hnum;dsimp only;by_cases hbad:b.length-l.2<l.1∨n<text.length+l.1
   ·rw [if_pos hbad];refine .inl ⟨if_neg (hterr ?_),rfl⟩;by_cases hb2:n<text.length+l.1
    ·exact .inl (q4 (by omega))
    ·right;rw [q3 (by omega)];dsimp only;intro h;have:=(take_inv h).1;have:=congrArg List.length this;have h9:=(take_inv h).2.1;rw [Lla,h9] at this;have e:(Cu.mk b l.2 0).left.length=b.length-l.2:=Lld;omega
   rw [if_neg hbad];have hx:=q3 (by omega);have hly:((b.drop l.2).take l.1).length=l.1:=by rw [Llt,Lld];omega
   have hy:(Cu.mk b l.2 0).take (l.1:Int)=((b.drop l.2).take l.1,⟨b,l.2+l.1,0⟩):=by
    have:=take_put (c:=Cu.mk b l.2 0) rfl (s:=(b.drop l.2).take l.1) (r:=(b.drop l.2).drop l.1) (List.take_append_drop _ _).symm;rw [hly] at this;exact this
   have htok:lzTok n text.length ⟨b,at_,0⟩=if 0<b.length-(l.2+l.1) then
     ((b.drop l.2).take l.1,((((Cu.mk b (l.2+l.1) 0).num 255).2).num ((min 32768 (text.length+l.1):Nat):Int)).1,((Cu.mk b (l.2+l.1) 0).num 255).1+4,((((Cu.mk b (l.2+l.1) 0).num 255).2).num ((min 32768 (text.length+l.1):Nat):Int)).2)
     else ((b.drop l.2).take l.1,0,0,⟨b,l.2+l.1,0⟩):=by
    unfold lzTok;dsimp only;rw [hx];dsimp only;rw [hy];dsimp only;rw [mk_rest,hly]
   by_cases hr:0<b.length-(l.2+l.1)
   ·rw [if_pos hr] at htok;by_cases hsz:text.length+l.1<n
    ·rw [if_pos hsz];obtain⟨m1,m2⟩:=@num_numR b (l.2+l.1) 255 (by decide);have hze:((Cu.mk b (l.2+l.1) 0).num 255).2.e≠0∨((((Cu.mk b (l.2+l.1) 0).num 255).2).num ((min 32768 (text.length+l.1):Nat):Int)).2.e≠0→lzOk n text.length (lzTok n text.length ⟨b,at_,0⟩)=true→False:=by
      intro h1 h2;have h3:=he h2;rw [htok] at h3;rcases h1 with h1 | h1
      ·exact h1 (num_e0 h3)
      ·exact h1 h3
     cases hm:numR b (l.2+l.1) with
     | none=>exact .inl ⟨if_neg (hze (.inl (m1 hm))),rfl⟩
     | some m=>
      obtain⟨m3,m4⟩:=m2 m hm;have hml:=numR_le (by omega) hm;dsimp only;obtain⟨d1,d2⟩:=@num_numR b m.2 ((min 32768 (text.length+l.1):Nat):Int) (by omega);by_cases hm255:(m.1:Int)≤255
      ·have hz:=m3 hm255
       cases hd:numR b m.2 with
       | none=>
        refine .inl ⟨if_neg (hze (.inr ?_)),rfl⟩;rw [hz];exact d1 hd
       | some d=>
        obtain⟨d3,d4⟩:=d2 d hd;have hdl:=numR_le hml.2 hd;dsimp only;by_cases hdd:(d.1:Int)≤((min 32768 (text.length+l.1):Nat):Int)
        ·have hu:=d3 hdd;rw [hz] at htok;dsimp only at htok;rw [hu] at htok;dsimp only at htok;by_cases hC:text.length+l.1+m.1+4≤n∧1≤d.1
         ·have hok:lzOk n text.length (lzTok n text.length ⟨b,at_,0⟩)=true:=by
           rw [htok];unfold lzOk rightT;dsimp only;rw [hly];have hdone:((Cu.mk b d.2 0).done.1==0||(Cu.mk b d.2 0).done.1==22)=true:=by
            unfold Cu.done;rw [if_neg (fun h:(Cu.mk b d.2 0).e≠0=>h rfl)];split<;>rfl
           rw [hdone,if_neg (by omega)];simp only [Bool.true_and,Bat,Det,Bool.not_eq_true',Bool.and_eq_false_iff,decide_eq_false_iff_not];exact⟨⟨by omega,by omega⟩,.inl (by omega)⟩
          have hfit:∀q,fitsN l.1 d.1 (m.1+4) text.length q=true:=fun q=>by
           unfold fitsN;rw [if_neg (by omega),Det];omega
          rw [if_pos hok,if_neg (by omega),if_pos (hfit _),htok];dsimp only;have e1:((d.1:Nat):Int).toNat=d.1:=Itn _;have e2:(((m.1:Nat):Int)+4).toNat=m.1+4:=by omega
          rw [e1,e2];have hal:(againN d.1 (m.1+4) (text++(b.drop l.2).take l.1)).length=text.length+l.1+(m.1+4):=by rw [againN_length,Lla,hly]
          have ih:=lz_run hn k d.2 (againN d.1 (m.1+4) (text++(b.drop l.2).take l.1)) (ts++[⟨(b.drop l.2).take l.1,d.1,m.1+4⟩]) hdl.2 (by omega);rw [hal] at ih;rcases ih with⟨i1,i2⟩ | ⟨r,x,i1,i2,i3,i4⟩
          ·exact .inl ⟨i1,i2⟩
          ·refine .inr ⟨⟨(b.drop l.2).take l.1,d.1,m.1+4⟩::r,x,i1,by rw [i2];simp,?_,iff_of_false (by simp) hf⟩;rw [expRun,if_neg (by dsimp only;rw [hly,hfit];decide),if_neg (by dsimp only;omega)];exact i3
         ·left;refine⟨if_neg fun h=>?_,?_⟩
          ·rw [htok] at h;unfold lzOk rightT at h;dsimp only at h;rw [hly] at h;simp only [Bat,Det] at h;have h1:=h.1.2;have h2:=h.1.1.2;rw [if_neg (by omega),Det] at h2;omega
          ·by_cases hn2:n<text.length+l.1+m.1+4
           ·exact if_pos hn2
           ·rw [if_neg hn2,if_neg];unfold fitsN;rw [if_neg (by omega),Det];omega
        ·left;refine⟨if_neg (hze (.inr ?_)),?_⟩
         ·rw [hz];exact d4 (by omega)
         ·by_cases hn2:n<text.length+l.1+m.1+4
          ·exact if_pos hn2
          ·rw [if_neg hn2,if_neg];unfold fitsN;rw [if_neg (by omega),Det];omega
      ·left;refine⟨if_neg (hze (.inl (m4 (by omega)))),?_⟩
       cases hd:numR b m.2 with
       | none=>rfl
       | some d=>
        dsimp only;by_cases hn2:n<text.length+l.1+m.1+4
        ·exact if_pos hn2
        ·rw [if_neg hn2,if_neg];unfold fitsN;rw [if_neg (by omega),Det];omega
    ·rw [if_neg hsz];left;refine⟨if_neg fun h=>?_,?_⟩
     ·have hs:=lzOk_spec h;rw [htok] at hs;dsimp only at hs;rw [hly] at hs;have hge:0≤((Cu.mk b (l.2+l.1) 0).num 255).1:=by
       unfold Cu.num;rw [if_neg (fun h:(Cu.mk b (l.2+l.1) 0).e≠0=>h rfl)];dsimp only
       repeat' split
       all_goals first | exact Int.natCast_nonneg _ | exact Int.le_refl _
      omega
     ·split
      ·exact tokRun_full (by omega) (by omega)
      ·rfl
   ·rw [if_neg hr] at htok;by_cases hsz:text.length+l.1<n
    ·rw [if_pos hsz,numR_end (by omega)];left;refine⟨if_neg fun h=>?_,rfl⟩;rw [htok] at h;unfold lzOk at h;dsimp only at h;rw [hly] at h;simp only [Bat,Bool.not_eq_true',Bool.and_eq_false_iff,decide_eq_false_iff_not] at h;rcases h.2 with h | h
     ·exact h (by simp)
     ·omega
    ·rw [if_neg hsz];have hfit:fitsN l.1 0 0 text.length (text.length+l.1==n)=true:=by
      unfold fitsN;rw [if_pos ⟨rfl,rfl⟩,Bat,beq_iff_eq,Det];omega
     have hok:lzOk n text.length (lzTok n text.length ⟨b,at_,0⟩)=true:=by
      rw [htok];unfold lzOk rightT;dsimp only;rw [hly,mk_rest,if_pos ⟨rfl,rfl⟩];have hdone:(Cu.mk b (l.2+l.1) 0).done.1=0:=by
       unfold Cu.done;rw [if_neg (fun h:(Cu.mk b (l.2+l.1) 0).e≠0=>h rfl),if_neg (by show ¬l.2+l.1<b.length;omega)]
      rw [hdone];simp only [Bat,Bool.or_eq_true,beq_iff_eq,Det,Bool.not_eq_true',Bool.and_eq_false_iff,decide_eq_false_iff_not];exact⟨⟨⟨.inl trivial,by omega,by omega⟩,by omega⟩,.inr (by omega)⟩
     rw [if_pos hfit,if_pos hok,htok];dsimp only;have e0:againN (0:Int).toNat (0:Int).toNat (text++(b.drop l.2).take l.1)=text++(b.drop l.2).take l.1:=rfl;rw [e0];have hal:(text++(b.drop l.2).take l.1).length=text.length+l.1:=by rw [Lla,hly]
     have ih:=lz_run (b:=b) hn k (l.2+l.1) (text++(b.drop l.2).take l.1) (ts++[⟨(b.drop l.2).take l.1,0,0⟩]) (by omega) (by omega);rw [hal] at ih;rcases ih with⟨i1,i2⟩ | ⟨r,x,i1,i2,i3,i4⟩
     ·exact .inl ⟨i1,i2⟩
     ·refine .inr ⟨⟨(b.drop l.2).take l.1,0,0⟩::r,x,i1,by rw [i2];simp,?_,iff_of_false (by simp) hf⟩;have hr0:r=[]:=i4.2 (by omega);subst hr0;have hq:(text.length+l.1==n)=true:=by rw [beq_iff_eq];omega
      rw [hq] at hfit;rw [expRun,if_neg (by dsimp only;rw [hly,Dct rfl,hfit];decide),if_neg (c:=65536<text.length+((b.drop l.2).take l.1).length+0) (by rw [hly];omega)];exact i3
theorem lz_law(b:Str)(n:Int):lzR b n=if n<0∨65536<n then none else lzDec b n.toNat:=by
 unfold lzR lzDec;split
 ·rfl
 rename_i h;rcases lz_run (b:=b) (n:=n.toNat) (by omega) (n.toNat+1) 0 [] [] (Nzl _) (Nzl _) with⟨h1,h2⟩ | ⟨r,x,h1,h2,h3,_⟩
 ·have h2:tokRun b n.toNat (n.toNat+1) 0 0 []=none:=h2;rw [h1,h2]
 ·have h2:tokRun b n.toNat (n.toNat+1) 0 0 []=some ([]++r):=h2;rw [h1,h2];exact h3
theorem fixed_end{b:Str}{at_:Nat}(h:b.length≤at_):((Cu.mk b at_ 0).fixed 1).2.e≠0:=by
 have hl:(Cu.mk b at_ 0).left.length=0:=by
  have:(Cu.mk b at_ 0).left.length=b.length-at_:=Lld;omega
 unfold Cu.fixed;rw [if_neg (fun h:(Cu.mk b at_ 0).e≠0=>h rfl),hl];have he:(if (1:Int)<1∨8<(1:Int) then (23:Int) else if ((0:Nat):Int)<1 then 20 else 0)=20:=by decide
 dsimp only;rw [he];unfold Cu.go;rw [if_neg (by decide)];show (20:Int)≠0;decide
theorem fixed_fine{c:Cu}(h:c.fine)(n:Int):(c.fixed n).2.fine:=by
 unfold Cu.fixed;split
 ·exact h
 ·dsimp only;unfold Cu.go Cu.fine;by_cases h1:n<1∨8<n
  ·rw [if_pos h1,if_neg (by decide)];exact .inr (.inr (.inr rfl))
  rw [if_neg h1];by_cases h2:(c.left.length:Int)<n
  ·rw [if_pos h2,if_neg (by decide)];exact .inr (.inl rfl)
  ·rw [if_neg h2,if_pos rfl];exact .inl rfl
theorem fixed_byte{b:Str}{at_:Nat}(h:at_<b.length):(Cu.mk b at_ 0).fixed 1=((b.getD at_ 0).toNat,⟨b,at_+1,0⟩):=by
 have hl:(Cu.mk b at_ 0).left=b[at_]::b.drop (at_+1):=List.drop_eq_getElem_cons h;have hd:b.getD at_ 0=b[at_]:=by rw [Lgd,Lge h,Option.getD_some]
 unfold Cu.fixed;rw [if_neg (fun h:(Cu.mk b at_ 0).e≠0=>h rfl),hl,hd];have he:(if (1:Int)<1∨8<(1:Int) then (23:Int) else if ((b[at_]::b.drop (at_+1)).length:Int)<1 then 20 else 0)=0:=by
  rw [if_neg (by decide),if_neg];rw [Llc];omega
 rw [he];show ((if (0:Int)=0 then wordN (List.take 1 (b[at_]::b.drop (at_+1))) else 0),Cu.go _ 1 0)=_;rw [if_pos rfl];unfold Cu.go;rw [if_pos rfl];rfl
theorem getN_zero(r:Str):getN (0::r)=(0,1,0):=rfl
theorem getN_pos{c:UInt8}{r:Str}(h:c.toNat≠0)(he:(getN (c::r)).2.2=0):1≤(getN (c::r)).1:=by
 apply Classical.byContradiction;intro hn;have h0:(getN (c::r)).1=0:=by omega
 have:=(getN_inv he).1;rw [h0,putN_small (by decide)] at this;have:=(List.cons.inj this).1;rw [this] at h;exact h rfl
theorem lensRun_err{k:Nat}{lens:List Nat}{last:Int}{c:Cu}(hf:c.fine)(he:c.e≠0):lensRun k lens last c=none:=by
 cases k with
 | zero=>rfl
 | succ k=>
  have hn:c.num 256=(0,c):=by unfold Cu.num;rw [if_pos he]
  rw [lensRun,hn];dsimp only;rw [if_pos rfl,if_neg];rintro ⟨_,h⟩;exact he (done_fine hf h)
def lastI(lens:List Nat):Int:=if lens=[] then -1 else (lens.getD (lens.length-1) 0:Int)
theorem lastI_rep(lens:List Nat){n:Nat}(h:1≤n)(x:Nat):lastI (lens++List.replicate n x)=(x:Int):=by
 unfold lastI;have hne:lens++List.replicate n x≠[]:=by
  intro h0;have:=congrArg List.length h0;simp at this;omega
 rw [if_neg hne];have:(lens++List.replicate n x).getD ((lens++List.replicate n x).length-1) 0=x:=by
  rw [Lgd,Lgr (by simp;omega),List.getElem?_replicate,if_pos (by simp;omega)];rfl
 rw [this]
theorem lens_run{b:Str}:∀(k2 k1 at_:Nat) (lens:List Nat),at_≤b.length→lens.length≤256→257≤k1+lens.length→b.length+1≤k2+at_ →
  lensRun k1 lens (lastI lens) ⟨b,at_,0⟩=(lensRunR b k2 at_ lens).map fun x=>(x.1,Cu.mk b x.2 0)
 | 0,k1,at_,lens,h1,h2,h3,h4=>by omega
 | k2+1,0,at_,lens,h1,h2,h3,h4=>by omega
 | k2+1,k1+1,at_,lens,h1,h2,h3,h4=>by
  have hfine:(Cu.mk b at_ 0).fine:=.inl rfl;have herr:((Cu.mk b at_ 0).num 256).2.e≠0→lensRun (k1+1) lens (lastI lens) ⟨b,at_,0⟩=none:=by
   intro he;have hz:((Cu.mk b at_ 0).num 256).1=0:=by
    unfold Cu.num at he ⊢;rw [if_neg (fun h:(Cu.mk b at_ 0).e≠0=>h rfl)] at he ⊢;dsimp only at he ⊢;apply if_neg;intro h0;unfold Cu.go at he;rw [if_pos h0] at he;exact he rfl
   rw [lensRun,if_pos hz,if_neg];rintro ⟨_,h⟩;exact he (done_fine (num_fine hfine 256) h)
  have hnum:∀(g:Nat×Nat×Int),getN (b.drop at_)=g→(g.2.2=0→g.1≤256→(Cu.mk b at_ 0).num 256=((g.1:Int),⟨b,at_+g.2.1,0⟩))∧((g.2.2≠0∨256<g.1)→((Cu.mk b at_ 0).num 256).2.e≠0):=by
   intro g hg;unfold Cu.num;rw [if_neg (fun h:(Cu.mk b at_ 0).e≠0=>h rfl)];have hl:(Cu.mk b at_ 0).left=b.drop at_:=rfl;rw [hl,hg];dsimp only;unfold Cu.go;constructor
   ·intro h0 h1;rw [if_neg (fun h:g.2.2=0∧(256:Int)<(g.1:Int)=>by omega),if_pos h0,if_pos h0]
   ·intro h0;by_cases hg0:g.2.2=0
    ·rw [if_pos (c:=g.2.2=0∧(256:Int)<(g.1:Int)) ⟨hg0,by omega⟩,if_neg (by decide:¬(23:Int)=0)];show (23:Int)≠0;decide
    ·rw [if_neg (fun h:g.2.2=0∧(256:Int)<(g.1:Int)=>hg0 h.1),if_neg hg0];exact hg0
  rw [lensRunR];by_cases hat:at_<b.length
  ·have hd:=List.drop_eq_getElem_cons hat;have hg:b.getD at_ 0=b[at_]:=by rw [Lgd,Lge hat,Option.getD_some]
   by_cases hz:(b.getD at_ 0).toNat=0
   ·rw [if_neg (fun h=>h.2 hz)];have hz':b[at_]=0:=by
     apply UInt8.toNat_inj.1;rw [←hg,hz];rfl
    have h5:=(hnum (0,1,0) (by rw [hd,hz'];exact getN_zero _)).1 rfl (by decide);rw [lensRun,h5];dsimp only;rw [if_pos (c:=((0:Nat):Int)=0) rfl];have hdn:(Cu.mk b (at_+1) 0).done.1=0∨(Cu.mk b (at_+1) 0).done.1=22:=by
     unfold Cu.done;rw [if_neg (fun h:(Cu.mk b (at_+1) 0).e≠0=>h rfl)];split
     ·exact .inr rfl
     ·exact .inl rfl
    by_cases hlast:lastI lens=0
    ·rw [if_neg (fun h=>h.1 hlast),if_pos]
     ·rfl
     ·right;unfold lastI at hlast;split at hlast
      ·cases hlast
      ·rename_i hne;exact⟨List.length_pos_iff.2 hne,by omega⟩
    ·rw [if_pos ⟨hlast,hdn⟩,if_neg]
     ·rfl
     ·rintro (h | ⟨h,h0⟩)
      ·omega
      ·apply hlast;unfold lastI;rw [if_neg (fun e=>by rw [e] at h;exact absurd h (by decide)),h0];rfl
   ·rw [if_pos ⟨hat,hz⟩];have hz':b[at_].toNat≠0:=by rw [←hg];exact hz
    obtain⟨n1,n2⟩:=hnum _ rfl;have hpos:(getN (b.drop at_)).2.2=0→1≤(getN (b.drop at_)).1:=by
     intro h0;rw [hd] at h0 ⊢;exact getN_pos hz' h0
    have hge1:(getN (b.drop at_)).2.2=0→1≤(getN (b.drop at_)).2.1:=by
     intro h0;have:=(getN_inv h0).2;have:=putN_pos (getN (b.drop at_)).1;omega
    generalize getN (b.drop at_)=g at *;by_cases hE:g.2.2≠0
    ·rw [if_pos (.inl hE),herr (n2 (.inl hE))];rfl
    have hE:g.2.2=0:=Decidable.not_not.1 hE;by_cases hB:256<g.1
    ·rw [if_pos (by omega),herr (n2 (.inr hB))];rfl
    have hn:=n1 hE (by omega);have hp:=hpos hE;rw [lensRun,hn];dsimp only;rw [if_neg (by omega)];by_cases hend:b.length≤at_+g.2.1
    ·rw [if_pos (c:=g.2.2≠0∨g.1<1∨256-lens.length<g.1∨b.length≤at_+g.2.1) (.inr (.inr (.inr hend)))];have hfe:=fixed_end hend;have hff:=fixed_fine (c:=Cu.mk b (at_+g.2.1) 0) (.inl rfl) 1;split
     ·rfl
     ·rw [lensRun_err hff hfe];rfl
    have hfb:=fixed_byte (b:=b) (at_:=at_+g.2.1) (by omega);rw [hfb];dsimp only;generalize (b.getD (at_+g.2.1) 0).toNat=x at *;by_cases hL:256-lens.length<g.1
    ·rw [if_pos (c:=g.2.2≠0∨g.1<1∨256-lens.length<g.1∨b.length≤at_+g.2.1) (.inr (.inr (.inl hL))),if_pos (by right;right;omega)];rfl
    rw [if_neg (c:=g.2.2≠0∨g.1<1∨256-lens.length<g.1∨b.length≤at_+g.2.1) (by omega)];have hiff:(x:Int)=lastI lens↔(0<lens.length∧lens.getD (lens.length-1) 0=x):=by
     unfold lastI;by_cases hl:lens=[]
     ·rw [if_pos hl,hl];constructor
      ·intro h;omega
      ·rintro ⟨h,_⟩;exact absurd h (by decide)
     ·rw [if_neg hl];have:=List.length_pos_iff.2 hl;constructor
      ·intro h;exact⟨this,by omega⟩
      ·rintro ⟨_,h⟩;omega
    by_cases hx:15<x∨(0<lens.length∧lens.getD (lens.length-1) 0=x)
    ·rw [if_pos (c:=15<x∨(0<lens.length∧lens.getD (lens.length-1) 0=x)) hx,if_pos]
     ·rfl
     ·rcases hx with h | h
      ·exact .inl h
      ·exact .inr (.inl (hiff.2 h))
    ·rw [if_neg (c:=15<x∨(0<lens.length∧lens.getD (lens.length-1) 0=x)) hx,if_neg]
     ·have ht:((g.1:Nat):Int).toNat=g.1:=Itn _;rw [ht];have:=lens_run (b:=b) k2 k1 (at_+g.2.1+1) (lens++List.replicate g.1 x) (by omega) (by rw [Lla,List.length_replicate];omega) (by rw [Lla,List.length_replicate];omega) (by have:=hge1 hE;omega);rw [lastI_rep lens hp x] at this;exact this
     ·rintro (h | h | h)
      ·exact hx (.inl h)
      ·exact hx (.inr (hiff.1 h))
      ·omega
  ·rw [if_neg (fun h=>hat h.1),if_pos (.inl (by omega))];have:getN (b.drop at_)=(0,0,20):=by rw [Ldn (by omega)];rfl
   rw [herr ((hnum _ this).2 (.inl (by show (20:Int)≠0;decide)))];rfl
theorem lens_law(b:Str):lensOf ⟨b,0,0⟩=(lensR b).map fun x=>(x.1,Cu.mk b x.2 0):=by
 unfold lensOf lensR;exact lens_run (b.length+1) 257 0 [] (Nzl _) (by decide) (by decide) (by omega)
theorem posL_count(lens:List Nat)(n:Nat):∀s,s≤lens.length→(posL lens n s).length=(lens.take s).countP (·==n)
 | 0,_=>by simp [posL]
 | s+1,h=>by
  have hs:s<lens.length:=h;have hg:lens.getD s 0=lens[s]:=by rw [Lgd,Lge hs,Option.getD_some]
  rw [posL_succ,List.take_succ_eq_append_getElem hs,List.countP_append,←posL_count lens n s (by omega),hg];by_cases e:lens[s]=n
  ·rw [if_pos e,Lla];simp [e]
  ·rw [if_neg e];simp [e]
theorem cntL_count(lens:List Nat)(n:Nat):cntL lens n=lens.countP (·==n):=by
 unfold cntL;rw [posL_count lens n _ (Nlr _),List.take_length]
def krF(n x:Nat):Nat:=if 1≤x∧x≤n then 2^(15-x) else 0
theorem kr_step(n:Nat):∀lens:List Nat,(lens.map (krF (n+1))).sum=(lens.map (krF n)).sum+lens.countP (·==n+1)*2^(15-(n+1))
 | []=>by simp
 | x::r=>by
  rw [List.map_cons,List.sum_cons,List.map_cons,List.sum_cons,kr_step n r,List.countP_cons,Nat.add_mul];have:krF (n+1) x=krF n x+(if (x==n+1)=true then 1 else 0)*2^(15-(n+1)):=by
   unfold krF;by_cases e:x=n+1
   ·subst e;rw [if_pos (by omega),if_neg (by omega),if_pos (by simp)];simp
   ·rw [if_neg (c:=(x==n+1)=true) (by simpa using e),Nat.zero_mul];by_cases h:1≤x∧x≤n
    ·rw [if_pos h,if_pos (by omega),Nat.add_zero]
    ·rw [if_neg h,if_neg (by omega)]
  rw [this];omega
theorem roomT_kr(lens:List Nat):∀n,n≤15→roomT lens n=32768-((lens.map (krF n)).sum:Int)
 | 0,_=>by
  have:lens.map (krF 0)=lens.map fun _=>0:=List.map_congr_left fun x _=>by unfold krF;rw [if_neg (by omega)]
  rw [this];have:∀l:List Nat,(l.map fun _=>0).sum=0:=fun l=>by induction l with | nil=>rfl | cons a l ih=>simp [ih]
  rw [this];rfl
 | n+1,h=>by
  rw [roomT,roomT_kr lens n (by omega),kr_step,cntL_count];have:15-(n+1)=14-n:=by omega
  rw [this];push_cast;omega
theorem room_law{lens:List Nat}(h:∀n∈lens,n≤15):roomT lens 15<0↔32768<kraftN lens:=by
 rw [roomT_kr lens 15 (Nlr _)];have:kraftN lens=(lens.map (krF 15)).sum:=by
  unfold kraftN;congr 1;apply List.map_congr_left;intro x hx;have:=h x hx;unfold krF;by_cases h0:0<x
  ·rw [if_pos h0,if_pos ⟨h0,this⟩]
  ·rw [if_neg h0,if_neg (by omega)]
 rw [this];omega
theorem posL_nth(lens:List Nat)(s:Nat):∀L r,r<(posL lens s L).length→(posL lens s L).getD r 0<L∧lens.getD ((posL lens s L).getD r 0) 0=s∧(posL lens s ((posL lens s L).getD r 0)).length=r
 | 0,r,h=>by simp [posL] at h
 | L+1,r,h=>by
  rw [posL_succ] at h ⊢;by_cases e:lens.getD L 0=s
  ·rw [if_pos e] at h ⊢;rw [Lla,List.length_singleton] at h;by_cases hr:r<(posL lens s L).length
   ·have:=posL_nth lens s L r hr;have hg:(posL lens s L++[L]).getD r 0=(posL lens s L).getD r 0:=by rw [Lgd,Lgl hr,←Lgd]
    rw [hg];exact⟨by omega,this.2⟩
   ·have hr:r=(posL lens s L).length:=by omega
    have hg:(posL lens s L++[L]).getD r 0=L:=by rw [Lgd,hr,Lgr (Nlr _),Nat.sub_self];rfl
    rw [hg];exact⟨by omega,e,hr.symm⟩
  ·rw [if_neg e] at h ⊢;have:=posL_nth lens s L r h;exact⟨by omega,this.2⟩
theorem posL_mono(lens:List Nat)(s a:Nat):∀b,a≤b→(posL lens s a).length≤(posL lens s b).length
 | 0,h=>by
  have:a=0:=by omega
  subst this;exact Nlr _
 | b+1,h=>by
  by_cases e:a=b+1
  ·subst e;exact Nlr _
  ·have:=posL_mono lens s a b (by omega);rw [posL_succ];split
   ·rw [Lla];omega
   ·exact this
theorem posL_step{lens:List Nat}{s j:Nat}(h:lens.getD j 0=s){b:Nat}(hb:j<b):(posL lens s j).length+1≤(posL lens s b).length:=by
 have:=posL_mono lens s (j+1) b hb;rw [posL_succ,if_pos h,Lla,List.length_singleton] at this;exact this
theorem codeUp_word{lens:List Nat}{s j word:Nat}(h1:1≤s)(h2:s≤15):((codeUp lens 16 0 j).1=s∧(codeUp lens 16 0 j).2=word∧0<s)↔(lens.getD j 0=s∧wordW lens s+(posL lens s j).length=word):=by
 unfold codeUp;constructor
 ·rintro ⟨a,b,_⟩;split at a
  ·rename_i hc;rw [if_pos hc] at b;dsimp only at a b;rw [a] at b;exact⟨a,b⟩
  ·dsimp only at a;omega
 ·rintro ⟨a,b⟩;rw [if_pos (by omega),a];exact⟨rfl,b,h1⟩
theorem find_law{lens:List Nat}{s word:Nat}(h1:1≤s)(h2:s≤15)(hw:wordW lens s≤word) :
  findC (codesUp lens 16 0) s word=if word-wordW lens s<cntL lens s then some ((posL lens s lens.length).getD (word-wordW lens s) 0) else none:=by
 unfold findC;split
 ·rename_i hr;obtain⟨n1,n2,n3⟩:=posL_nth lens s lens.length _ hr;refine findIdx_some (codesUp_get n1) ?_ fun j y hj hy=>?_
  ·rw [Det,codeUp_word h1 h2];exact⟨n2,by omega⟩
  ·have hjl:j<lens.length:=by omega
   rw [codesUp_get hjl] at hy;cases hy;rw [decide_eq_false_iff_not,codeUp_word h1 h2];rintro ⟨a,b⟩;have:=posL_step a hj;omega
 ·rename_i hr;refine findIdx_none fun j y hy=>?_;have hjl:j<lens.length:=by
   have:=(Les.1 hy).1;rw [codesUp_len] at this;exact this
  rw [codesUp_get hjl] at hy;cases hy;rw [decide_eq_false_iff_not,codeUp_word h1 h2];rintro ⟨a,b⟩;have:=posL_step a hjl;unfold cntL at hr;omega
theorem sym_law{lens:List Nat}{w:Str}:∀(k at_ word first before s:Nat),k+s=16→1≤s→at_≤8*w.length→2*first=wordW lens s→first≤word→before=(ordT lens (s-1)).length →
  symRun lens w k at_ word first before s=symR (codesUp lens 16 0) w k at_ word s
 | 0,_,_,_,_,_,_,_,_,_,_,_=>rfl
 | k+1,at_,word,first,before,s,h1,h2,h3,h4,h5,h6=>by
  rw [symRun,symR];by_cases he:at_=8*w.length
  ·rw [if_pos he,if_pos (by omega)]
  rw [if_neg he,if_neg (c:=8*w.length≤at_) (by omega)];have hm:manyT lens s=cntL lens s:=by unfold manyT;rw [if_pos (by omega)]
  rw [hm,h4,find_law h2 (by omega) (by omega)];obtain⟨s',rfl⟩:∃s',s=s'+1:=⟨s-1,by omega⟩;have hord:ordT lens (s'+1)=ordT lens s'++posL lens (s'+1) lens.length:=rfl;have h6:before=(ordT lens s').length:=h6;by_cases hr:2*word+bitN w at_-wordW lens (s'+1)<cntL lens (s'+1)
  ·rw [if_pos hr,if_pos hr];dsimp only;obtain⟨t,ht⟩:=ordT_split lens (n:=s'+1) (m:=15) (by omega);rw [ht,hord,Laa,h6];have:(ordT lens s'++(posL lens (s'+1) lens.length++t)).getD ((ordT lens s').length+(2*word+bitN w at_-wordW lens (s'+1))) 0=(posL lens (s'+1) lens.length).getD (2*word+bitN w at_-wordW lens (s'+1)) 0:=by
    rw [Lgd,Lgr (by omega),Nat.add_sub_cancel_left,Lgl hr,←Lgd]
   rw [this]
  ·rw [if_neg hr,if_neg hr];dsimp only;refine sym_law k (at_+1) _ _ _ _ (by omega) (by omega) (by omega) ?_ (by omega) ?_
   ·show 2*(wordW lens (s'+1)+cntL lens (s'+1))=2*(wordW lens (s'+1)+if s'+1=0 then 0 else cntL lens (s'+1));rw [if_neg (by omega)]
   ·show before+cntL lens (s'+1)=(ordT lens (s'+1)).length;rw [hord,Lla,h6];rfl
theorem symR_ge{codes:List (Nat×Nat)}{w:Str}:∀(k at_ word long:Nat) {x:Nat×Nat},symR codes w k at_ word long=some x→at_+1≤x.2
 | 0,_,_,_,x,h=>by cases h
 | k+1,at_,word,long,x,h=>by
  rw [symR] at h;split at h
  ·cases h
  split at h
  ·cases h;exact Nlr _
  ·have:=symR_ge k _ _ _ h;omega
theorem words_law{lens:List Nat}{w:Str}:∀(n at_:Nat) (text:Str),at_≤8*w.length→wordsRun lens w n at_ text=wordsR (codesUp lens 16 0) w n at_ text
 | 0,_,_,_=>rfl
 | n+1,at_,text,h=>by
  rw [wordsRun,wordsR,sym_law 15 at_ 0 0 0 1 (by decide) (by decide) h rfl (Nlr _) rfl]
  cases hs:symR (codesUp lens 16 0) w 15 at_ 0 1 with
  | none=>rfl
  | some x=>exact words_law n x.2 _ (symR_le _ _ _ _ hs)
theorem wordsR_ge{codes:List (Nat×Nat)}{w:Str}:∀(n at_:Nat) (text:Str) {x:Str×Nat},at_≤8*w.length→wordsR codes w n at_ text=some x→at_+n≤x.2∧x.2≤8*w.length
 | 0,at_,text,x,h1,h=>by cases h;exact⟨Nlr _,h1⟩
 | n+1,at_,text,x,h1,h=>by
  rw [wordsR] at h;split at h
  ·cases h
  ·rename_i y hy;have h2:=symR_ge _ _ _ _ hy;have h3:=wordsR_ge n y.2 _ (symR_le _ _ _ _ hy) h;exact⟨by omega,h3.2⟩
theorem bits_zero{x m:Nat}(hx:x<256):(∀e,m≤e→e<8→x/2^e%2=0)↔x/2^m=0:=by
 constructor
 ·intro h;apply Nat.eq_of_testBit_eq;intro i;rw [Nat.zero_testBit,Nat.testBit_div_two_pow];by_cases hi:m+i<8
  ·rw [Nat.testBit_eq_decide_div_mod_eq,decide_eq_false_iff_not];have:=h (m+i) (by omega) hi;rw [Nat.add_comm i m];omega
  ·apply Nat.testBit_lt_two_pow;have:(2:Nat)^8≤2^(i+m):=Nat.pow_le_pow_right (by decide) (by omega);omega
 ·intro h e he _;have hlt:x<2^m:=by
   rcases Nat.div_eq_zero_iff.1 h with h | h
   ·have:=Nat.two_pow_pos m;omega
   ·exact h
  have:(2:Nat)^m≤2^e:=Nat.pow_le_pow_right (by decide) he;rw [Nat.div_eq_of_lt (by omega)]
theorem ends_law{w:Str}{at_:Nat}(h:at_≤8*w.length):endsAt w at_=true↔(w.length=(at_+7)/8∧zerosN w at_=true):=by
 unfold endsAt zerosN;simp only [Bat,Det,Bool.not_eq_true',Bool.and_eq_false_iff,decide_eq_false_iff_not,List.all_eq_true,List.mem_range];constructor
 ·rintro ⟨h1,h2⟩;refine⟨h1.symm,fun i hi hle=>?_⟩;rcases h2 with h2 | h2
  ·omega
  ·have h2:(w.getD (at_/8) 0).toNat/2^(at_%8)=0:=by omega
   have hc:=UInt8.toNat_lt_size (w.getD (at_/8) 0);have:=(bits_zero (m:=at_%8) hc).2 h2 (i%8) (by omega) (by omega);have e:i/8=at_/8:=by omega
   unfold bitN;rw [e];exact this
 ·rintro ⟨h1,h2⟩;refine⟨h1.symm,?_⟩;by_cases h3:at_%8=0
  ·exact .inl (by omega)
  ·right;have hc:=UInt8.toNat_lt_size (w.getD (at_/8) 0);have:=(bits_zero (m:=at_%8) hc).1 fun e he h8=>by
    have:=h2 (8*(at_/8)+e) (by omega) (by omega);unfold bitN at this;rw [show (8*(at_/8)+e)/8=at_/8 by omega,show (8*(at_/8)+e)%8=e by omega] at this;exact this
   omega
theorem huff_law(b:Str)(n:Int):huffR b n=if n<0∨65536<n then none else huffDec b n.toNat:=by
 unfold huffR huffDec;split
 ·rfl
 rename_i hn;rw [lens_law]
 cases hl:lensR b with
 | none=>rfl
 | some x=>
  have hok:=lensRunR_ok _ _ _ hl (by decide) (fun n h=>by cases h);rw [Option.map_some];dsimp only;have htk:((Cu.mk b x.2 0).take ((Cu.mk b x.2 0).rest:Int)).1=b.drop x.2:=by
   have:=take_put (c:=Cu.mk b x.2 0) rfl (s:=b.drop x.2) (r:=[]) (by rw [Lan];rfl);rw [mk_rest,←Lld,this]
  rw [htk];unfold wordsOf;have hrm:=room_law hok.2.1;by_cases hk:32768<kraftN x.1
  ·rw [if_pos hk,if_pos (.inl (hrm.2 hk))]
  rw [if_neg hk];have hk':¬roomT x.1 15<0:=fun h=>hk (hrm.1 h);unfold huffW;rw [words_law n.toNat 0 [] (Nzl _)]
  cases hw:wordsR (codesUp x.1 16 0) (b.drop x.2) n.toNat 0 [] with
  | none=>dsimp only;split<;>rfl
  | some y=>
   have hy:=wordsR_ge _ _ _ (Nzl _) hw;rw [if_neg (by rintro (h | h);exact hk' h;omega)];dsimp only;have he:=ends_law hy.2;by_cases hz:endsAt (b.drop x.2) y.2=true
   ·rw [if_pos hz,if_pos (he.1 hz)]
   ·rw [if_neg hz,if_neg fun h=>hz (he.2 h)]
theorem text_law{flag:Nat}(hf:flag<3){p:Str}{raw:Int}(h1:1≤raw)(h2:raw≤65536):textR flag p raw=textN flag p raw.toNat:=by
 unfold textR textN;by_cases h0:flag=0
 ·rw [if_pos h0,if_pos h0];by_cases h:p.length=raw.toNat
  ·rw [if_pos h,if_pos (by omega)]
  ·rw [if_neg h,if_neg (by omega)]
 rw [if_neg h0,if_neg h0];by_cases h1:flag=1
 ·rw [if_pos h1,if_pos h1,lz_law,if_neg (by omega)]
 rw [if_neg h1,if_neg h1,if_pos (by omega),huff_law,if_neg (by omega)]
theorem textN_len{flag:Nat}{p:Str}{n:Nat}{x:Str}(h:textN flag p n=some x):x.length=n:=by
 unfold textN at h;split at h
 ·split at h
  ·cases h;assumption
  ·cases h
 split at h
 ·exact lzDec_len h
 ·exact huffDec_len h
theorem block_law(tile:Str)(raw:Int):blockR tile raw=((blockN tile raw).1,(blockN tile raw).2.map Prod.snd):=by
 unfold blockR blockN;by_cases h1:raw<1∨65536<raw
 ·rw [if_pos h1,if_pos h1];rfl
 rw [if_neg h1,if_neg h1];by_cases h2:(openB tile).1≠0
 ·rw [if_pos h2,if_pos h2];rfl
 rw [if_neg h2,if_neg h2];by_cases h3:(openB tile).2.length=0
 ·rw [if_pos h3,if_pos h3];rfl
 rw [if_neg h3,if_neg h3];by_cases h4:64*(((openB tile).2.length-1:Nat):Int)<raw
 ·rw [if_pos h4,if_pos (.inr h4)];rfl
 rw [if_neg h4];generalize ((openB tile).2.getD ((openB tile).2.length-1) 0).toNat=flag;generalize (openB tile).2.take ((openB tile).2.length-1)=p;by_cases h5:3≤flag
 ·rw [if_pos (.inl h5)];have:textR flag p raw=none:=by unfold textR;rw [if_neg (by omega),if_neg (by omega),if_neg (by omega)]
  rw [this];rfl
 rw [if_neg (by rintro (h | h);exact h5 h;exact h4 h),text_law (by omega) (by omega) (by omega)]
 cases ht:textN flag p raw.toNat with
 | none=>rfl
 | some t=>
  have hl:=textN_len ht;dsimp only;rw [parse_law (by omega)]
  cases parsedN t with
  | none=>rfl
  | some x=>rfl
theorem good_law(t:Str)(out:Bool)(at_:Int)(i:BI)(any:Bool)(last:Str):goodR t out at_ i any last=goodB t out at_ i any last:=by
 unfold goodR goodB;split
 ·rfl
 rw [block_law]
 cases (blockN (rdX t out at_ (i.stored+5)).2 i.raw).2 with
 | none=>rfl
 | some x=>rfl
theorem goodB_srt{t:Str}{out:Bool}{at_:Int}{i:BI}{any:Bool}{last:Str}{e:List (Str×Str)}(h:goodB t out at_ i any last=some e):srtE e:=by
 unfold goodB at h;split at h
 ·cases h
 split at h
 ·cases h
 rename_i x hx;split at h
 ·cases h
 split at h
 ·cases h
 ·cases h;exact (blockN_srt hx).2.2.2.2.1
theorem run_law(t:Str)(out:Bool)(frm:Str):∀(bl:List BI) (os:List Int) (any:Bool) (last:Str),runE t out frm bl os any last=runB t out frm bl os any last
 | [],_,_,_=>by simp [runE,runB]
 | b::r,[],_,_=>by simp [runE,runB]
 | b::r,o::os,any,last=>by
  rw [runE,runB,good_law]
  cases h:goodB t out o b any last with
  | none=>rfl
  | some e=>
   dsimp only;rw [run_law t out frm r os,seekN_filter (goodB_srt h)];rfl
theorem mean_law(t:Str)(out:Bool)(l:List PartI)(info block:Int)(frm:Str):meanE t out l (newE info block frm)=meanC t out l (newC info block frm):=by
 unfold meanE meanC restE restC newE newC;dsimp only;rw [if_neg (by decide)];by_cases hi:info<0
 ·rw [if_pos hi,if_pos hi,if_pos rfl];rfl
 ·rw [if_neg hi,if_neg hi,if_neg (by decide),if_neg (by decide),if_pos rfl,run_law];rfl
theorem nextM_err{m:List (Str×Str)×Int}(h:(nextM m).1.2.2.1=true):(nextM m).1.2.2.2=0:=by
 unfold nextM at h ⊢;split at h
 ·cases h
 ·rfl
theorem has_law(t:Str)(out:Bool)(P:Int)(l:List PartI)(part:Int)(key:Str):hasE t out P l part key=hasQ t out P l part key:=by
 unfold hasE hasQ;split
 ·rfl
 split
 ·rfl
 dsimp only;rw [mean_law];have:=@nextM_err (meanC t out l (newC (findN l part key).1 (findN l part key).2 key));generalize nextM (meanC t out l (newC (findN l part key).1 (findN l part key).2 key))=a at this ⊢;congr 1;rw [Bei,Det,Det];constructor
 ·rintro ⟨h1,h2⟩;exact⟨this h1,h1,h2⟩
 ·rintro ⟨_,h1,h2⟩;exact⟨h1,h2⟩
end Go.Proofs.YtkofkhjcfjoceaaGreat
