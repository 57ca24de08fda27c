/- Part T10. -/
import Derived.Test.YtkofkhjcfjoceaaGreatT09
import Derived.Test.YtkofkhjcfjoceaaGreatT03
import Derived.Test.YtkofkhjcfjoceaaGreatT04
import Derived.Test.YtkofkhjcfjoceaaGreatT05
import Derived.Test.YtkofkhjcfjoceaaGreatT07
namespace Go.Proofs.YtkofkhjcfjoceaaGreat
open Go.Vw
def goodB(t:Str)(out:Bool)(at_:Int)(i:BI)(any:Bool)(last:Str):Option (List (Str×Str)):=
 if (rdX t out at_ (i.stored+5)).1≠0∨((rdX t out at_ (i.stored+5)).2.length:Int)≠i.stored+5 then none else
 match (blockN (rdX t out at_ (i.stored+5)).2 i.raw).2 with
 | none=>none
 | some x=>if (x.2.length:Int)≠i.count then none else if (x.2.getD 0 ([],[])).1.take 64≠i.cut∨(any=true∧cmpN (x.2.getD 0 ([],[])).1 last<0) then none else some x.2
def offAt(l:List PartI)(i k:Int):Int:=((offI 0 l).getD i.toNat []).getD k.toNat 0
def loadN(t:Str)(out:Bool)(l:List PartI)(c:CurN):CurN:=
 if c.block=(blocksAt l c.info).length then {c with state:=2} else
 match goodB t out (offAt l c.info c.block) ((blocksAt l c.info).getD c.block.toNat ⟨0,0,0,[]⟩) c.any c.last with
 | none=>{c with state:=3}
 | some e=>{c with last:=(e.getD (e.length-1) ([],[])).1,any:=true,ent:=e,pos:=seekN e c.frm,block:=c.block+1,state:=1}
theorem blockN_err{tile:Str}{raw:Int}:(blockN tile raw).1=0↔∃x,(blockN tile raw).2=some x:=by
 unfold blockN;split
 ·simp
 split
 ·rename_i h;simpa using h
 split
 ·simp
 split
 ·simp
 split
 ·simp
 ·split
  ·simp
  ·simp
theorem blockN_srt{tile:Str}{raw:Int}{x:Nat×List (Str×Str)}(h:(blockN tile raw).2=some x):1≤x.1∧x.1≤64∧1≤x.2.length∧3*x.2.length≤65536∧srtE x.2∧∀y∈x.2,y.1.length≤1024∧y.2.length≤1024:=by
 unfold blockN at h;split at h
 ·cases h
 rename_i hr;split at h
 ·cases h
 split at h
 ·cases h
 split at h
 ·cases h
 split at h
 ·cases h
 rename_i t ht;split at h
 ·cases h
 rename_i y hy;cases h;have hl:t.length=raw.toNat:=by
  unfold textN at ht;split at ht
  ·split at ht
   ·cases ht;assumption
   ·cases ht
  split at ht
  ·exact lzDec_len ht
  ·exact huffDec_len ht
 have:=parsedN_srt hy;refine⟨this.1,this.2.1,this.2.2.1,?_,this.2.2.2.2⟩;have:=this.2.2.2.1;omega
structure Cv(l:List PartI)(c:CurN):Prop where
 st:c.state=0∨c.state=1∨c.state=2∨c.state=3
 at_:c.state=0∨c.state=1→∃(i k:Nat) (x:PartI),c.info=(i:Int)∧l[i]? = some x∧c.block=(k:Int)∧k≤x.blocks.length
 pos:c.state=1→∃n:Nat,c.pos=(n:Int)∧n≤c.ent.length∧c.ent.length≤65536
 lst:c.last.length≤1024
 frm:c.frm.length≤1099511627776
def CurL(Y:BL)(c:CurN)(pb:PA):Prop:=c.state=1→∃(bb:Nat) (s:Sl) (r:Nat),pb=some (bb,0)∧(bb,rdC r s)∈Y∧OwnL Y EPr s c.ent
theorem CurL.mono{Y Y':BL}{c:CurN}{pb:PA}(h:CurL Y c pb)(hs:∀q∈Y,q∈Y'):CurL Y' c pb:=fun h1=>let ⟨bb,s,r,h2,h3,h4⟩:=h h1;⟨bb,s,r,h2,hs _ h3,h4.mono hs⟩
theorem offI_get:∀{l:List PartI} {a:Int} {i:Nat} {x:PartI},l[i]? = some x→∃b,(offI a l)[i]? = some (offs b x.blocks)
 | [],_,_,_,h=>by simp at h
 | y::l,a,0,x,h=>by simp at h;subst h;exact⟨a,rfl⟩
 | y::l,a,i+1,x,h=>by
  obtain⟨b,hb⟩:=offI_get (l:=l) (a:=a+spB y.blocks) (i:=i) (by simpa using h);exact⟨b,by simpa [offI] using hb⟩
theorem offs_length:∀(a:Int) (l:List BI),(offs a l).length=l.length
 | _,[]=>rfl
 | a,b::r=>by simp [offs,offs_length]
theorem offI_length:∀(a:Int) (l:List PartI),(offI a l).length=l.length
 | _,[]=>rfl
 | a,x::r=>by simp [offI,offI_length]
theorem offs_le:∀{l:List BI} {key:Str} {a:Int},chkB l key=true→∀v∈offs a l,a≤v∧v≤a+spB l
 | [],_,_,_,v,hv=>by cases hv
 | b::r,key,a,h,v,hv=>by
  rw [chkB_cons,Bat] at h;have h1:=(odt h.1).1;have h2:=(spB_le r b.cut h.2).1;simp only [spB];rcases List.mem_cons.1 hv with rfl | hv
  ·omega
  ·have:=offs_le h.2 v hv;omega
theorem offI_le{P:Int}:∀{l:List PartI} {last:Int} {n:Nat} {a:Int},chkI P l last n=true→n≤262144→∀o∈offI a l,∀v∈o,a≤v∧v≤a+spI l
 | [],_,_,_,_,_,o,ho,_,_=>by cases ho
 | x::r,last,n,a,h,hn,o,ho,v,hv=>by
  rw [chkI,Bat,Bat] at h;have h1:=odt h.1.1;have h2:=(spB_le _ _ h.1.2).1;have h3:=(spI_le P r x.part _ h.2 h1.2.2.2.1).1;simp only [spI];rcases List.mem_cons.1 ho with rfl | ho
  ·have:=offs_le h.1.2 v hv;omega
  ·have:=offI_le h.2 h1.2.2.2.1 o ho v hv;omega
section
variable {w0 w:World}{bs q:Nat}{t:Str}{out:Bool}{M Y R:BL}{br bc:Nat}{P:Int}{l:List PartI}{c:CurN}{pb:PA}
theorem SS.setC{b:Nat}{x x':List Value}(h:SS w0 bs q t out (M++(b,x)::Y) w){o:Nat}{vs:List LV}(hl:o+vs.length≤x.length)(e:spl x o (vs.map LV.toV)=x'){K:Wp}(hK:∀w',SS w0 bs q t out (M++(b,x')::Y) w'→K w'):Go.Vw.st w b o vs K:=
 SS.setA h hl fun w' h' _=>hK w' (by rw [e] at h';exact h')
theorem not_nk{m:BL}{b:Nat}(h:Ks m b):¬nk m b:=fun hn=>hn h
theorem getD_get{α:Type}{l:List α}{i:Nat}{x d:α}(h:l[i]? = some x):l.getD i d=x:=by rw [Lgd,h];rfl
set_option maxHeartbeats 2000000 in
theorem load_ok(h:SS w0 bs q t out (M++(bc,curC br c pb)::Y) w)(ht:t.length≤268435456)(hr:RdL bs R br P l)(hRM:∀p∈R,p∈M)(hv:Cv l c)(hs:c.state=0){K:Bool→Wp}
  (hK:∀w' pb' Y',SS w0 bs q t out (M++(bc,curC br (loadN t out l c) pb')::(Y++Y')) w'→CurL (Y++Y') (loadN t out l c) pb'→Cv l (loadN t out l c)→K false w') :
  callK Pg c_104 [Ap (some (bc,0))] w Ob K:=by
 refine go_104 _ _ _ ?_;have hc:=hr.chk.2.2;obtain⟨si,sf,ps,rs,h1,h2,h3,h4⟩:=hr;obtain⟨i,k,x,hci,hx,hcb,hk⟩:=hv.at_ (.inl hs);obtain⟨p,hp⟩:=Gq (l:=ps) (i:=i) (by rw [h2.len];exact (Les.1 hx).1);have hi1:=h2.each i p x hp hx;have hxc:=chkI_each P l _ _ hc x (Lmg hx);have hlb:=hi1.lb;have ea:blocksAt l c.info=x.blocks:=by rw [hci];exact blocksAt_some hx
 have hK2:=hK;unfold loadN at hK;rw [ea] at hK
 have hd:=h.quiet (Mq w);have cur:∀{u:World} {c':CurN} {pb':PA} {Y':BL},SS w0 bs q t out (M++(bc,curC br c' pb')::Y') u→Blk u bc (curC br c' pb'):=fun h=>h.own (by simp);have red:∀{u:World} {c':CurN} {pb':PA} {Y':BL},SS w0 bs q t out (M++(bc,curC br c' pb')::Y') u→∀p∈R,Blk u p.1 p.2:=fun h p hp=>h.own (Lml _ (hRM p hp));have rdr:∀{u:World} {c':CurN} {pb':PA} {Y':BL},SS w0 bs q t out (M++(bc,curC br c' pb')::Y') u→Blk u br (rdrC bs P si sf):=fun h=>red h _ h1;refine⟨F0,Dq ((cur hd).ldDK (k:=.ptr) (some (br,0)) id rfl (Dq ((rdr hd).ldDK (k:=.sl) si id rfl (Dq ((cur hd).ldDK (k:=Ki) c.info id rfl ?_)))))⟩;refine (h2.row.rd (red hd)).ix rfl hci hp fun b o _ hce=>Lw (k:=.sl) p.sb id (hce 1 (by decide)) (Dq ((cur hd).ldK (k:=Ki) c.block rfl ?_));rw [(hi1.bl.rd (red hd)).len];refine Iq (fun q1=>Dq ?_) fun q1=>?_
 ·have q1:c.block=(x.blocks.length:Int):=by simpa using q1
  rw [if_pos q1] at hK;refine SS.setC hd (by decide:8+1≤9) (x':=curC br {c with state:=2} pb) rfl fun u hu=>hK u pb [] (by simpa using hu) (fun h=>by cases h) ⟨.inr (.inr (.inl rfl)),(fun h=>by rcases h with h | h<;>cases h),(fun h=>by cases h),hv.lst,hv.frm⟩
 have q1:¬c.block=(x.blocks.length:Int):=by simpa using q1
 rw [if_neg q1] at hK;have hkl:k<x.blocks.length:=by omega
 obtain⟨y,hy⟩:=Gq hkl;have hyc:=chkB_srt _ _ hxc.2.2.2.2.1
 obtain⟨bo,hof⟩:=offI_get (a:=0) hx;obtain⟨s,hsr⟩:=Gq (l:=rs) (i:=i) (by rw [h3.len,offI_length];exact (Les.1 hx).1);have hrow:=h3.each i s _ hsr hof;obtain⟨v,hvv⟩:=Gq (l:=offs bo x.blocks) (i:=k) (by rw [offs_length];exact hkl);have eo:offAt l c.info c.block=v:=by
  unfold offAt;rw [hci,hcb,Itn,Itn,getD_get hof,getD_get hvv]
 have hvle:=offI_le hc (by decide) _ (Lmg hof) v (Lmg hvv);have hsp:=spI_le P l (-1) 0 hc (by decide);have eb:x.blocks.getD c.block.toNat ⟨0,0,0,[]⟩=y:=by rw [hcb,Itn];exact getD_get hy
 rw [eo,eb] at hK;have hy1:∃key,rightB y key=true:=by
  have:∀(l:List BI) (key:Str),chkB l key=true→∀z∈l,∃key,rightB z key=true:=fun l=>by
   induction l with
   | nil=>intro _ _ z hz;cases hz
   | cons a r ih=>
    intro key hh z hz;rw [chkB_cons,Bat] at hh;rcases List.mem_cons.1 hz with rfl | hz
    ·exact⟨key,hh.1⟩
    ·exact ih _ hh.2 z hz
  exact this _ _ hxc.2.2.2.2.1 y (Lmg hy)
 obtain⟨ky,hy1⟩:=hy1;have hy1:=odt hy1;have hys:=hy1.1;have hys2:=hy1.2.1;refine Dq ((cur hd).ldK (k:=Ki) c.block rfl ?_);refine (hi1.bl.rd (red hd)).ix rfl hcb hy fun b o _ hce=>Lq (k:=Ki) y.stored (hce 0 (by decide)) (Lq (k:=Ki) y.raw (hce 1 (by decide)) (Lq (k:=Ki) y.count (hce 2 (by decide)) (Lq (k:=.str) y.cut (hce 3 (by decide)) ?_)));refine hd.alst (by rfl) fun b30 w1 h1' _=>?_;have h1':SS w0 bs q t out (M++(bc,curC br c pb)::(Y++[(b30,EBI.f y)])) w1:=by
  rw [Laa,List.cons_append] at h1';exact h1'
 have hd1:=h1'.quiet (Mq w1)
 have nkm:∀{z:Nat} {cz:List Value},(z,cz)∈M++(bc,curC br c pb)::(Y++[(b30,EBI.f y)])→¬nk (M++(bc,curC br c pb)::(Y++[(b30,EBI.f y)])) z:=fun h=>not_nk ⟨_,h,rfl⟩;have nkR:∀{z:Nat},Ks R z→¬nk (M++(bc,curC br c pb)::(Y++[(b30,EBI.f y)])) z:=fun ⟨p,hp,e⟩=>not_nk ⟨p,Lml _ (hRM p hp),e⟩;have ncu:¬nk (M++(bc,curC br c pb)::(Y++[(b30,EBI.f y)])) bc:=nkm (cz:=curC br c pb) (by simp);have nrd:¬nk (M++(bc,curC br c pb)::(Y++[(b30,EBI.f y)])) br:=nkR ⟨_,h1,rfl⟩;have n30:¬nk (M++(bc,curC br c pb)::(Y++[(b30,EBI.f y)])) b30:=nkm (cz:=EBI.f y) (by simp);have hB30:∀{u:World} {c':CurN} {pb':PA} {Y':BL},SS w0 bs q t out (M++(bc,curC br c' pb')::((Y++[(b30,EBI.f y)])++Y')) u→Blk u b30 (EBI.f y):=fun h=>h.own (by simp);have hd1':SS w0 bs q t out (M++(bc,curC br c pb)::((Y++[(b30,EBI.f y)])++[])) w1.drew:=by rw [Lan];exact hd1
 refine⟨nk _,Dq ((cur hd1).ldDK (k:=.ptr) (some (br,0)) ncu rfl (Dq ((rdr hd1).ldDK (k:=.ptr) (some (bs,0)) nrd rfl (Dq ((cur hd1).ldDK (k:=.ptr) (some (br,0)) ncu rfl (Dq ((rdr hd1).ldDK (k:=.str) nameX nrd rfl (Dq ((cur hd1).ldDK (k:=.ptr) (some (br,0)) ncu rfl (Dq ((rdr hd1).ldDK (k:=.sl) sf nrd rfl (Dq ((cur hd1).ldDK (k:=Ki) c.info ncu rfl ?_)))))))))))))⟩;refine (h3.row.rd (red hd1)).ix rfl hci hsr fun bz oz hz hce=>Lw (k:=.sl) s (nkR (h3.row.key hz)) (hce 0 (by decide)) (Dq ((cur hd1).ldDK (k:=Ki) c.block ncu rfl ?_));refine (hrow.rd (red hd1)).ix rfl hcb hvv fun bz oz hz hce=>Lw (k:=Ki) v (nkR (hrow.key hz)) (hce 0 (by decide)) ((hB30 hd1').ldDK (k:=Ki) y.stored n30 rfl ?_);have e5:w64 (y.stored+5)=y.stored+5:=Wq (by omega) (by omega);rw [e5];unfold goodB at hK;have hrl:=rdX_len t out v (y.stored+5) (by omega);refine sread_ok hd1 (by omega) fun sl ro w2 h2' v2 M2=>⟨M2,?_⟩;have h2':SS w0 bs q t out (M++(bc,curC br c pb)::((Y++[(b30,EBI.f y)])++ro)) w2:=by
  rw [Laa,List.cons_append] at h2';exact h2'
 have fail:∀{u:World} {Y':BL},SS w0 bs q t out (M++(bc,curC br c pb)::((Y++[(b30,EBI.f y)])++Y')) u→(∀u,SS w0 bs q t out (M++(bc,curC br {c with state:=3} pb)::(Y++([(b30,EBI.f y)]++Y'))) u→K false u)→dr (some (bc,0)) fun b72 o73=>Go.Vw.st u b72 (o73+8) [.int .i64 3] fun W74=>K false W74:=fun {u Y'} hu hk=>
  Dq (SS.setC hu (by decide:8+1≤9) (x':=curC br {c with state:=3} pb) rfl fun u' hu'=>hk u' (by rw [Laa] at hu';exact hu'))
 have cv3:Cv l {c with state:=3}:=⟨.inr (.inr (.inr rfl)),(fun h=>by rcases h with h | h<;>cases h),(fun h=>by cases h),hv.lst,hv.frm⟩;refine join1 (a:=.bool) (fun q u=>q=decide ((rdX t out v (y.stored+5)).1≠0∨((rdX t out v (y.stored+5)).2.length:Int)≠y.stored+5)∧u=w2) ?_ ?_
 ·intro k68 hk68;refine Iq (fun q=>hk68 _ _ ⟨?_,rfl⟩) fun q=>(hB30 h2').ldK (k:=Ki) y.stored rfl ?_
  ·have q:(rdX t out v (y.stored+5)).1≠0:=by simpa using q
   exact (Dct (.inl q)).symm
  ·have q:(rdX t out v (y.stored+5)).1=0:=by simpa using q
   rw [e5,v2.1];refine hk68 _ _ ⟨?_,rfl⟩;rw [Bei,bne_iff_ne,Det];exact⟨.inr,fun h=>h.resolve_left fun h=>h q⟩
 rintro q2 u ⟨rfl,rfl⟩;refine Iq (fun qa=>?_) fun qa=>?_
 ·rw [if_pos (odt qa)] at hK;exact fail h2' fun u' hu'=>hK u' pb _ hu' (fun h=>by cases h) cv3
 rw [if_neg (odf qa)] at hK;generalize (rdX t out v (y.stored+5)).2=tile at hK hrl v2;refine (hB30 h2').ldK (k:=Ki) y.raw rfl ?_;have hrdT:RdS u ET sl tile:=v2.rd fun p hp=>h2'.own (by simp [hp]);refine blockOpen_ok hrdT (by omega) (fun e0 w3 M3=>?_) fun z hz w3 bb s' ro' F3 v3=>?_
 ·have hne:(blockN tile y.raw).1≠0:=fun h0=>by
   obtain⟨x,hx⟩:=blockN_err.1 h0;rw [e0] at hx;cases hx
  have h3':=h2'.quiet M3;rw [e0] at hK;refine join1 (a:=.bool) (fun q u=>q=true∧u=w3.drew) (fun k hk=>⟨F0,ifK_t (by simpa using hne) (hk _ _ ⟨rfl,rfl⟩)⟩) ?_;rintro q u ⟨rfl,rfl⟩;exact ifK_t rfl (fail (h3'.quiet (Mq w3)) fun u' hu'=>hK u' pb _ hu' (fun h=>by cases h) cv3)
 have hz0:(blockN tile y.raw).1=0:=blockN_err.2 ⟨_,hz⟩;have hzf:=blockN_srt hz;rw [hz] at hK;rw [hz0];dsimp only at hK;have h3':SS w0 bs q t out (M++(bc,curC br c pb)::((Y++[(b30,EBI.f y)])++(ro++([(bb,rdC z.1 s')]++ro')))) w3:=by
  have:=h2'.fresh F3;simpa only [Laa,List.cons_append] using this
 generalize hYY:ro++([(bb,rdC z.1 s')]++ro')=YY at h3';have hbb:(bb,rdC z.1 s')∈YY:=by rw [←hYY];simp
 have hro':∀p∈ro',p∈YY:=fun p hp=>by rw [←hYY];simp [hp]
 have hown:OwnL YY EPr s' z.2:=⟨ro',v3,hro'⟩;have bk:∀{u:World},SS w0 bs q t out (M++(bc,curC br c pb)::((Y++[(b30,EBI.f y)])++YY)) u→BlkR u bb s' z.1 z.2:=fun hu=>⟨hu.own (by simp [hbb]),hown.rd fun p hp=>hu.own (by simp [hp])⟩;have hd3:=h3'.quiet (Mq w3);refine join1 (a:=.bool) (fun q u=>q=decide ((z.2.length:Int)≠y.count)∧u=w3.drew) (fun k hk=>⟨F0,ifK_f (by decide) ((hB30 hd3).ldDK (k:=Ki) y.count id rfl (blockLen_ok (bk hd3) ⟨Mod.refl _ _,hk _ _ ⟨?_,rfl⟩⟩))⟩) ?_
 ·rw [Bei,bne_iff_ne,Det]
 rintro q u ⟨rfl,rfl⟩;refine Iq (fun q4=>?_) fun q4=>?_
 ·rw [if_pos (odt q4)] at hK;exact fail hd3 fun u' hu'=>hK u' pb _ hu' (fun h=>by cases h) cv3
 rw [if_neg (odf q4)] at hK;have at0:atN z.2 0=((z.2.getD 0 ([],[])).1,(z.2.getD 0 ([],[])).2,0):=by unfold atN;rw [if_neg (by have:=hzf.2.2.1;omega)];rfl
 refine blockAt_ok (bk hd3) fun w4 M4=>?_;rw [at0];have h4':=hd3.quiet M4;have hfl:(z.2.getD 0 ([],[])).1.length≤1024:=by
  obtain⟨a,ha⟩:=Gq (l:=z.2) (i:=0) hzf.2.2.1;rw [getD_get ha];exact (hzf.2.2.2.2.2 a (Lmg ha)).1
 generalize hfk:(z.2.getD 0 ([],[])).1=fk at hK hfl ⊢;have hd4:=h4'.quiet (Mq w4);refine join1 (a:=.bool) (fun q u=>q=decide (fk.take 64≠y.cut∨(c.any=true∧cmpN fk c.last<0))∧Mod F0 w4 u) (fun k hk=>⟨F0,(hB30 hd4).ldDK (k:=.str) y.cut id rfl (cut_ok ⟨Mod.refl _ _,Iq (fun q5=>hk _ _ ⟨?_,Mq w4⟩) fun q5=>Dq ((cur hd4).ldDK (k:=.bool) c.any id rfl (Iq (fun q6=>Dq ((cur hd4).ldDK (k:=.str) c.last id rfl (compare_ok (by omega) (by have:=hv.lst;omega) fun w5 M5=>⟨M5,hk _ _ ⟨?_,mod0 (Mq w4) M5⟩⟩))) fun q6=>hk _ _ ⟨?_,Mq w4⟩))⟩)⟩) ?_
 ·have q5:fk.take 64≠y.cut:=by simpa using q5
  exact (Dct (.inl q5)).symm
 ·have q5:fk.take 64=y.cut:=by simpa using q5
  have q6:c.any=true:=q6;show decide (cmpN fk c.last<0)=_;rw [Bei,Det,Det];exact⟨fun h=>.inr ⟨q6,h⟩,fun h=>(h.resolve_left fun h=>h q5).2⟩
 ·have q5:fk.take 64=y.cut:=by simpa using q5
  have q6:c.any=false:=q6;refine (Dcf fun h=>?_).symm;have h2:=(h.resolve_left fun h=>h q5).1;rw [q6] at h2;cases h2
 rintro q u ⟨rfl,M5⟩;have h5:=h4'.quiet M5;refine Iq (fun q7=>?_) fun q7=>?_
 ·rw [if_pos (odt q7)] at hK;exact fail h5 fun u' hu'=>hK u' pb _ hu' (fun h=>by cases h) cv3
 rw [if_neg (odf q7)] at hK;dsimp only at hK;refine blockLen_ok (bk h5) ?_;have e6:w64 ((z.2.length:Int)-1)=((z.2.length-1:Nat):Int):=by rw [Wq (by have:=hzf.2.2.1;omega) (by have:=hzf.2.2.2.1;omega)];have:=hzf.2.2.1;omega
 rw [e6];have atL:atN z.2 ((z.2.length-1:Nat):Int)=((z.2.getD (z.2.length-1) ([],[])).1,(z.2.getD (z.2.length-1) ([],[])).2,0):=by unfold atN;rw [if_neg (by have:=hzf.2.2.1;omega),Itn]
 refine blockAt_ok (bk h5) fun w6 M6=>?_;rw [atL];have h6:=h5.quiet M6;have hll:(z.2.getD (z.2.length-1) ([],[])).1.length≤1024:=by
  obtain⟨a,ha⟩:=Gq (l:=z.2) (i:=z.2.length-1) (by have:=hzf.2.2.1;omega);rw [getD_get ha];exact (hzf.2.2.2.2.2 a (Lmg ha)).1
 generalize (z.2.getD (z.2.length-1) ([],[])).1=lk at hK hll ⊢;refine Dq (SS.setC h6 (by decide:6+1≤9) (x':=curC br {c with last:=lk} pb) rfl fun w7 h7=>?_);refine Dq (SS.setC h7 (by decide:7+1≤9) (x':=curC br {c with last:=lk,any:=true} pb) rfl fun w8 h8=>?_);refine Dq ((cur h8).ldK (k:=.str) c.frm rfl ?_);have bk8:BlkR w8 bb s' z.1 z.2:=⟨h8.own (by simp [hbb]),hown.rd fun p hp=>h8.own (by simp [hp])⟩;refine blockSeek_ok bk8 hzf.1 hzf.2.1 (by have:=hzf.2.2.2.1;omega) hv.frm (fun y hy=>by have:=(hzf.2.2.2.2.2 y hy).1;omega) (srt_mono hzf.2.2.2.2.1 c.frm) fun w9 M9=>?_;have h9:=h8.quiet M9;refine Dq (SS.setC h9 (by decide:4+1≤9) (x':=curC br {c with last:=lk,any:=true} (some (bb,0))) rfl fun w10 h10=>?_);refine Dq (SS.setC h10 (by decide:5+1≤9) (x':=curC br {c with last:=lk,any:=true,pos:=seekN z.2 c.frm} (some (bb,0))) rfl fun w11 h11=>?_);refine Dq ((cur h11).ldK (k:=Ki) c.block rfl (Dq ?_));have e7:w64 (c.block+1)=c.block+1:=by rw [hcb,Wq (by omega) (by omega)]
 rw [e7];refine SS.setC h11 (by decide:2+1≤9) (x':=curC br {c with last:=lk,any:=true,pos:=seekN z.2 c.frm,block:=c.block+1} (some (bb,0))) rfl fun w12 h12=>?_;refine Dq (SS.setC h12 (by decide:8+1≤9) (x':=curC br {c with last:=lk,any:=true,ent:=z.2,pos:=seekN z.2 c.frm,block:=c.block+1,state:=1} (some (bb,0))) rfl fun w13 h13=>?_);have hK:=hK w13 (some (bb,0)) ([(b30,EBI.f y)]++YY);refine hK (by rw [←Laa];exact h13) (fun _=>⟨bb,s',z.1,rfl,by simp [hbb],hown.mono fun p hp=>by simp [hp]⟩) ⟨.inr (.inl rfl),fun _=>⟨i,k+1,x,hci,hx,by show c.block+1=_;rw [hcb];rfl,hkl⟩,fun _=>⟨seekN z.2 c.frm,rfl,?_,by have:=hzf.2.2.2.1;show z.2.length≤_;omega⟩,hll,hv.frm⟩;exact (List.takeWhile_sublist _).length_le
end
def runB(t:Str)(out:Bool)(frm:Str):List BI→List Int→Bool→Str→List (Str×Str)×Int
 | b::r,o::os,any,last=>match goodB t out o b any last with
  | none=>([],91)
  | some e=>(e.drop (seekN e frm)++(runB t out frm r os true (e.getD (e.length-1) ([],[])).1).1,(runB t out frm r os true (e.getD (e.length-1) ([],[])).1).2)
 | _,_,_,_=>([],0)
def restC(t:Str)(out:Bool)(l:List PartI)(c:CurN):List (Str×Str)×Int:=runB t out c.frm ((blocksAt l c.info).drop c.block.toNat) (((offI 0 l).getD c.info.toNat []).drop c.block.toNat) c.any c.last
def meanC(t:Str)(out:Bool)(l:List PartI)(c:CurN):List (Str×Str)×Int:=
 if c.state=2 then ([],0) else if c.state=3 then ([],91) else if c.state=0 then restC t out l c else (c.ent.drop c.pos.toNat++(restC t out l c).1,(restC t out l c).2)
def nextM(m:List (Str×Str)×Int):(Str×Str×Bool×Int)×(List (Str×Str)×Int):=
 match m.1 with
 | []=>(([],[],false,m.2),m)
 | x::r=>((x.1,x.2,true,0),(r,m.2))
theorem mean_load{t:Str}{out:Bool}{l:List PartI}{c:CurN}(hv:Cv l c)(hs:c.state=0):meanC t out l (loadN t out l c)=meanC t out l c:=by
 obtain⟨i,k,x,hci,hx,hcb,hk⟩:=hv.at_ (.inl hs);obtain⟨bo,hof⟩:=offI_get (a:=0) hx;have ea:blocksAt l c.info=x.blocks:=by rw [hci];exact blocksAt_some hx
 have em:meanC t out l c=restC t out l c:=by unfold meanC;rw [hs,if_neg (by decide),if_neg (by decide),if_pos rfl]
 have eo:(offI 0 l).getD c.info.toNat []=offs bo x.blocks:=by rw [hci,Itn];exact getD_get hof
 have hkt:c.block.toNat=k:=by rw [hcb,Itn]
 rw [em];unfold loadN restC;rw [ea,eo,hkt];by_cases h1:c.block=(x.blocks.length:Int)
 ·rw [if_pos h1];have:k=x.blocks.length:=by omega
  rw [Ldn (by omega)];show meanC t out l {c with state:=2} = _;unfold meanC;rw [if_pos rfl];unfold runB;rfl
 rw [if_neg h1];have hkl:k<x.blocks.length:=by omega
 obtain⟨y,hy⟩:=Gq hkl;obtain⟨v,hvv⟩:=Gq (l:=offs bo x.blocks) (i:=k) (by rw [offs_length];exact hkl);have eoa:offAt l c.info c.block=v:=by unfold offAt;rw [eo,hkt,getD_get hvv]
 rw [eoa,getD_get hy,Dg hy,Dg hvv,runB]
 cases hg:goodB t out v y c.any c.last with
 | none=>
  show meanC t out l {c with state:=3} = _;unfold meanC;rw [if_neg (by show ¬(3:Int)=2;decide),if_pos rfl]
 | some e=>
  show meanC t out l {c with last:=(e.getD (e.length-1) ([],[])).1,any:=true,ent:=e,pos:=seekN e c.frm,block:=c.block+1,state:=1} = _;unfold meanC;rw [if_neg (by show ¬(1:Int)=2;decide),if_neg (by show ¬(1:Int)=3;decide),if_neg (by show ¬(1:Int)=0;decide)];unfold restC;have hk1:(c.block+1).toNat=k+1:=by omega
  dsimp only;rw [ea,eo,hk1,Itn]
def doesN(t:Str)(out:Bool)(l:List PartI)(c:CurN):Bool×CurN:=
 if c.state=0 then (false,loadN t out l c) else if c.state=1 then (if c.pos<c.ent.length then (true,c) else (false,{c with state:=0})) else (true,c)
def muC(l:List PartI)(c:CurN):Nat:=if c.state=0 then 2*((blocksAt l c.info).length-c.block.toNat)+1 else if c.state=1 then 2*((blocksAt l c.info).length-c.block.toNat)+2 else 0
theorem mean_does{t:Str}{out:Bool}{l:List PartI}{c:CurN}(hv:Cv l c):meanC t out l (doesN t out l c).2=meanC t out l c:=by
 unfold doesN;split
 ·rename_i h;exact mean_load hv h
 split
 ·rename_i h0 h;obtain⟨n,hn,hn2,_⟩:=hv.pos h;split
  ·rfl
  ·rename_i hlt;show meanC t out l {c with state:=0} = _;unfold meanC;rw [if_neg (by show ¬(0:Int)=2;decide),if_neg (by show ¬(0:Int)=3;decide),if_pos rfl,h,if_neg (by decide),if_neg (by decide),if_neg (by decide)];have:c.ent.drop c.pos.toNat=[]:=Ldn (by omega);rw [this];rfl
 ·rfl
theorem mu_does{t:Str}{out:Bool}{l:List PartI}{c:CurN}(hv:Cv l c)(hf:(doesN t out l c).1=false):muC l (doesN t out l c).2<muC l c:=by
 unfold doesN at hf ⊢;split
 ·rename_i h;obtain⟨i,k,x,hci,hx,hcb,hk⟩:=hv.at_ (.inl h);have ea:blocksAt l c.info=x.blocks:=by rw [hci];exact blocksAt_some hx
  have e1:muC l c=2*(x.blocks.length-k)+1:=by unfold muC;rw [if_pos h,ea,hcb,Itn]
  rw [e1];unfold loadN;split
  ·show muC l {c with state:=2} < _;unfold muC;rw [if_neg (by show ¬(2:Int)=0;decide),if_neg (by show ¬(2:Int)=1;decide)];omega
  rename_i hne;rw [ea] at hne;split
  ·show muC l {c with state:=3} < _;unfold muC;rw [if_neg (by show ¬(3:Int)=0;decide),if_neg (by show ¬(3:Int)=1;decide)];omega
  ·rename_i e he;show muC l {c with last:=(e.getD (e.length-1) ([],[])).1,any:=true,ent:=e,pos:=seekN e c.frm,block:=c.block+1,state:=1} < _;unfold muC;rw [if_neg (by show ¬(1:Int)=0;decide),if_pos rfl];dsimp only;rw [ea];have hk1:(c.block+1).toNat=k+1:=by omega
   rw [hk1];omega
 split
 ·rename_i h0 h;rw [if_neg h0,if_pos h] at hf;split at hf
  ·cases hf
  rename_i hlt;rw [if_neg hlt];show muC l {c with state:=0} < _;unfold muC;rw [if_pos rfl,if_neg h0,if_pos h];show 2*((blocksAt l c.info).length-c.block.toNat)+1<_;omega
 ·rename_i h0 h1;rw [if_neg h0,if_neg h1] at hf;cases hf
section
variable {w0 w:World}{bs q:Nat}{t:Str}{out:Bool}{M Y R:BL}{br bc:Nat}{P:Int}{l:List PartI}{c:CurN}{pb:PA}
theorem cstep_ok(h:SS w0 bs q t out (M++(bc,curC br c pb)::Y) w)(hl:CurL Y c pb)(hv:Cv l c)(hs:c.state=1){K:Bool→Wp}
  (hT:c.pos<c.ent.length→∀w',SS w0 bs q t out (M++(bc,curC br c pb)::Y) w'→K true w') (hF:¬c.pos<c.ent.length→∀w',SS w0 bs q t out (M++(bc,curC br {c with state:=0} pb)::Y) w'→K false w') :
  callK Pg c_105 [Ap (some (bc,0))] w Ob K:=by
 refine go_105 _ _ _ ?_;obtain⟨bb,s,r,rfl,hb1,hb2⟩:=hl hs;have hd:=h.quiet (Mq w);have hB:Blk w.drew bc (curC br c (some (bb,0))):=hd.own (by simp);refine⟨F0,Dq (hB.ldDK (k:=Ki) c.pos id rfl (Dq (hB.ldDK (k:=.ptr) (some (bb,0)) id rfl ?_)))⟩;have bk:BlkR w.drew bb s r c.ent:=⟨hd.own (by simp [hb1]),hb2.rd fun p hp=>hd.own (by simp [hp])⟩;refine blockLen_ok bk ⟨Mod.refl _ _,Iq (fun h1=>hT (odt h1) _ hd) fun h1=>Dq ?_⟩;exact SS.setC hd (by decide:8+1≤9) (x':=curC br {c with state:=0} (some (bb,0))) rfl fun u hu=>hF (odf h1) u hu
set_option maxHeartbeats 1000000 in
theorem does_ok(h:SS w0 bs q t out (M++(bc,curC br c pb)::Y) w)(ht:t.length≤268435456)(hr:RdL bs R br P l)(hRM:∀p∈R,p∈M)(hl:CurL Y c pb)(hv:Cv l c){K:Bool→Wp}
  (hK:∀w' pb' Y',SS w0 bs q t out (M++(bc,curC br (doesN t out l c).2 pb')::(Y++Y')) w'→CurL (Y++Y') (doesN t out l c).2 pb'→Cv l (doesN t out l c).2→K (doesN t out l c).1 w') :
  callK Pg c_106 [Ap (some (bc,0))] w Ob K:=by
 refine go_106 _ _ _ ?_;have cells:∀x∈[(.func (.func c_104) #[] #[]:Value),(.func (.func c_105) #[] #[]:Value),(.func (.func c_107) #[] #[]:Value),(.func (.func c_107) #[] #[]:Value)],isCell x=true:=fun x hx=>by
  simp only [List.mem_cons,List.not_mem_nil,or_false] at hx;rcases hx with rfl | rfl | rfl | rfl<;>rfl
 refine⟨cells,h.alK fun b2 w1 h1 _=>⟨cells,?_⟩⟩;have h1:SS w0 bs q t out ((M++(bc,curC br c pb)::Y)++[(b2,[.nilFunc,.nilFunc,.nilFunc,.nilFunc])]) w1:=h1;refine SS.setC h1 (Nlr 4) (x':=[(.func (.func c_104) #[] #[]:Value),(.func (.func c_105) #[] #[]:Value),(.func (.func c_107) #[] #[]:Value),(.func (.func c_107) #[] #[]:Value)]) rfl fun w2 h2=>?_;generalize hA:[(b2,[(.func (.func c_104) #[] #[]:Value),(.func (.func c_105) #[] #[]:Value),(.func (.func c_107) #[] #[]:Value),(.func (.func c_107) #[] #[]:Value)])]=A at h2;have hB2:Blk w2 b2 [(.func (.func c_104) #[] #[]:Value),(.func (.func c_105) #[] #[]:Value),(.func (.func c_107) #[] #[]:Value),(.func (.func c_107) #[] #[]:Value)]:=h2.own (by rw [←hA];simp);have hBc:Blk w2 bc (curC br c pb):=h2.own (by simp);have h2:SS w0 bs q t out (M++(bc,curC br c pb)::(Y++A)) w2:=by rw [Laa,List.cons_append] at h2;exact h2
 have hl2:CurL (Y++A) c pb:=hl.mono fun p hp=>Lml _ hp;refine Dq (hBc.ldK (k:=Ki) c.state rfl ?_);unfold doesN at hK;have st:∀n,c.state=n→0≤n→n<4→0≤c.state∧c.state<4:=fun n e h0 h4=>by omega
 rcases hv.st with e | e | e | e
 ·rw [if_pos e] at hK;refine⟨(st 0 e (by decide) (by decide)).1,(st 0 e (by decide) (by decide)).2,?_⟩;rw [e];refine hB2.ldK (k:=.val) (.func (.func c_104) #[] #[]) rfl (callV_func (by kernel_rfl) [Ap (some (bc,0))] rfl ?_);refine load_ok h2 ht hr hRM hv e fun w' pb' Y' hS hL hC=>hK w' pb' (A++Y') ?_ ?_ hC
  ·rw [←Laa];exact hS
  ·rw [←Laa];exact hL
 ·rw [if_neg (by omega),if_pos e] at hK;refine⟨(st 1 e (by decide) (by decide)).1,(st 1 e (by decide) (by decide)).2,?_⟩;rw [e];refine hB2.ldK (k:=.val) (.func (.func c_105) #[] #[]) rfl (callV_func (by kernel_rfl) [Ap (some (bc,0))] rfl ?_);refine cstep_ok h2 hl2 hv e (fun hlt w' hS=>?_) fun hlt w' hS=>?_
  ·rw [if_pos hlt] at hK;exact hK w' pb A hS hl2 hv
  ·rw [if_neg hlt] at hK;refine hK w' pb A hS (fun h=>by cases h) ⟨.inl rfl,fun _=>hv.at_ (.inr e),fun h=>(by cases h),hv.lst,hv.frm⟩
 ·rw [if_neg (by omega),if_neg (by omega)] at hK;refine⟨(st 2 e (by decide) (by decide)).1,(st 2 e (by decide) (by decide)).2,?_⟩;rw [e];refine hB2.ldK (k:=.val) (.func (.func c_107) #[] #[]) rfl (callV_func (by kernel_rfl) [Ap (some (bc,0))] rfl (go_107 _ _ _ ?_));exact hK w2 pb A h2 hl2 hv
 ·rw [if_neg (by omega),if_neg (by omega)] at hK;refine⟨(st 3 e (by decide) (by decide)).1,(st 3 e (by decide) (by decide)).2,?_⟩;rw [e];refine hB2.ldK (k:=.val) (.func (.func c_107) #[] #[]) rfl (callV_func (by kernel_rfl) [Ap (some (bc,0))] rfl (go_107 _ _ _ ?_));exact hK w2 pb A h2 hl2 hv
theorem next_nil{K:Str→Str→Bool→Int→Wp}(hK:∀w',Mod F0 w w'→K [] [] false 1 w'):callK Pg c_108 [Ap none] w (.tup [.agg [.str,.str],Lb,Li]) K:=by
 refine go_108 _ _ _ ?_;refine (Fresh.start w F0).alK fun b w1 f1 _ _=>ifK_t rfl (f1.stK 0 rfl (Nlr 2) fun w2 f2 _=>?_);have hB:Blk w2 b (strs [] []):=f2.blk (i:=0) rfl;exact hB.ldK (k:=.str) [] rfl (hB.ldK (k:=.str) [] rfl (hK w2 f2.mod))
set_option maxHeartbeats 1000000 in
theorem cnext_ok(h:SS w0 bs q t out (M++(bc,curC br c pb)::Y) w)(ht:t.length≤268435456)(hr:RdL bs R br P l)(hRM:∀p∈R,p∈M)(hl:CurL Y c pb)(hv:Cv l c){K:Str→Str→Bool→Int→Wp}
  (hK:∀w' c' pb' Y',SS w0 bs q t out (M++(bc,curC br c' pb')::(Y++Y')) w'→CurL (Y++Y') c' pb'→Cv l c'→meanC t out l c'=(nextM (meanC t out l c)).2 →
   K (nextM (meanC t out l c)).1.1 (nextM (meanC t out l c)).1.2.1 (nextM (meanC t out l c)).1.2.2.1 (nextM (meanC t out l c)).1.2.2.2 w') :
  callK Pg c_108 [Ap (some (bc,0))] w (.tup [.agg [.str,.str],Lb,Li]) K:=by
 refine go_108 _ _ _ ?_;refine h.alK fun b2 w1 h1 _=>ifK_f rfl ?_;have h1:SS w0 bs q t out ((M++[(b2,strs [] [])])++(bc,curC br c pb)::Y) w1:=SS.perm h1 (perm_mid M [(b2,strs [] [])] ((bc,curC br c pb)::Y)).symm;have hRM1:∀p∈R,p∈M++[(b2,strs [] [])]:=fun p hp=>Lml _ (hRM p hp);refine join0 (fun u=>∃c' pb' Y',SS w0 bs q t out ((M++[(b2,strs [] [])])++(bc,curC br c' pb')::(Y++Y')) u∧CurL (Y++Y') c' pb'∧Cv l c'∧meanC t out l c'=meanC t out l c∧(doesN t out l c').1=true) ?_ ?_
 ·intro k7 hk7;refine loop0G (γ:=CurN) (fun c' u=>∃pb' Y',SS w0 bs q t out ((M++[(b2,strs [] [])])++(bc,curC br c' pb')::(Y++Y')) u∧CurL (Y++Y') c' pb'∧Cv l c'∧meanC t out l c'=meanC t out l c) (muC l) c ⟨pb,[],by rw [Lan];exact h1,by rw [Lan];exact hl,hv,rfl⟩ ?_;rintro c' u K ⟨pb',Y',hS,hL,hC,hm⟩ hK';refine does_ok hS ht hr hRM1 hL hC fun w' pb2 Y2 hS2 hL2 hC2=>?_;rw [Laa] at hL2;rw [Laa Y Y' Y2] at hS2;have hm2:=(mean_does (t:=t) (out:=out) hC).trans hm;refine Iq (fun e=>?_) fun e=>?_
  ·have e:(doesN t out l c').1=false:=by simpa using e
   exact hK' _ w' ⟨pb2,_,hS2,hL2,hC2,hm2⟩ (mu_does hC e)
  ·have e:(doesN t out l c').1=true:=by simpa using e
   have e2:(doesN t out l c').2=c':=by
    unfold doesN at e ⊢;split
    ·rename_i h;rw [if_pos h] at e;cases e
    split
    ·rename_i h0 h1;rw [if_neg h0,if_pos h1] at e;split
     ·rfl
     ·rename_i hlt;rw [if_neg hlt] at e;cases e
    ·rfl
   rw [e2] at hS2 hL2 hC2 hm2;exact hk7 w' ⟨c',pb2,_,hS2,hL2,hC2,hm2,e⟩
 rintro u ⟨c',pb',Y',hS,hL,hC,hm,hd⟩;rw [←hm] at hK;have hBc:Blk u bc (curC br c' pb'):=hS.own (by simp);refine Dq (hBc.ldK (k:=Ki) c'.state rfl ?_)
 have tell:∀{v:World} {c2:CurN} {pb2:PA} {x y:Str} {k:Str→Str→Wp},SS w0 bs q t out ((M++[(b2,strs [] [])])++(bc,curC br c2 pb2)::(Y++Y')) v→(∀v',SS w0 bs q t out (M++(bc,curC br c2 pb2)::(Y++Y')) v'→k x y v') →
   Go.Vw.st v b2 0 [.str x,.str y] fun W16=>ld W16 .str b2 0 fun s17=>ld W16 .str b2 1 fun s18=>k s17 s18 W16:=fun {v c2 pb2 x y k} hv hk=>by
  have hv:SS w0 bs q t out (M++(b2,strs [] [])::((bc,curC br c2 pb2)::(Y++Y'))) v:=by rw [Laa] at hv;exact hv
  refine SS.setC hv (Nlr 2) (x':=strs x y) rfl fun v' hv'=>?_;have hB:Blk v' b2 (strs x y):=hv'.own (by simp);refine hB.ldK (k:=.str) x rfl (hB.ldK (k:=.str) y rfl (hk v' (hv'.sub ((List.Sublist.refl M).append ((List.Sublist.refl _).cons _)))))
 rcases hC.st with e | e | e | e
 ·unfold doesN at hd;rw [if_pos e] at hd;cases hd
 rotate_left
 ·
  refine ifK_t (by rw [e];rfl) (tell hS fun v' hv'=>?_);have em:meanC t out l c'=([],0):=by unfold meanC;rw [if_pos e]
  rw [em] at hK;exact hK v' c' pb' _ hv' (fun h=>by rw [e] at h;cases h) hC em
 ·
  refine ifK_f (by rw [e];rfl) (ifK_t (by rw [e];rfl) (tell hS fun v' hv'=>?_));have em:meanC t out l c'=([],91):=by unfold meanC;rw [e,if_neg (by decide),if_pos rfl]
  rw [em] at hK;exact hK v' c' pb' _ hv' (fun h=>by rw [e] at h;cases h) hC em
 refine ifK_f (by rw [e];rfl) (ifK_f (by rw [e];rfl) ?_);obtain⟨n,hn,hn2,hn3⟩:=hC.pos e;have hlt:n<c'.ent.length:=by
  unfold doesN at hd;rw [if_neg (by omega),if_pos e] at hd;split at hd
  ·omega
  ·cases hd
 obtain⟨x,hx⟩:=Gq hlt;have em:meanC t out l c'=(x::(c'.ent.drop (n+1)++(restC t out l c').1),(restC t out l c').2):=by
  unfold meanC;rw [if_neg (by omega),if_neg (by omega),if_neg (by omega),hn,Itn,Dg hx];rfl
 rw [em] at hK;obtain⟨bb,s,r,rfl,hb1,hb2⟩:=hL e;have hdr:=hS.quiet (Mq u);have hBd:Blk u.drew bc (curC br c' (some (bb,0))):=hdr.own (by simp);have bk:BlkR u.drew bb s r c'.ent:=⟨hdr.own (Lmr _ (Lmc _ hb1)),hb2.rd fun p hp=>hdr.own (Lmr _ (Lmc _ hp))⟩;refine⟨F0,Dq (hBd.ldDK (k:=.ptr) (some (bb,0)) id rfl (Dq (hBd.ldDK (k:=Ki) c'.pos id rfl ?_)))⟩;have eat:atN c'.ent c'.pos=(x.1,x.2,0):=by
  unfold atN;rw [hn,if_neg (by omega),Itn,getD_get hx]
 refine blockAt_ok bk fun w4 M4=>⟨M4,?_⟩;rw [eat];have h4:=hdr.quiet M4;have hB4:Blk w4 bc (curC br c' (some (bb,0))):=h4.own (by simp);refine Dq (hB4.ldK (k:=Ki) c'.pos rfl (Dq ?_));have e1:w64 (c'.pos+1)=((n+1:Nat):Int):=by rw [hn,Wq (by omega) (by omega)];rfl
 rw [e1];refine SS.setC h4 (by decide:5+1≤9) (x':=curC br {c' with pos:=((n+1:Nat):Int)} (some (bb,0))) rfl fun w5 h5=>?_;refine tell (k:=fun a b v=>K a b true 0 v) h5 fun v' hv'=>hK v' {c' with pos:=((n+1:Nat):Int)} (some (bb,0)) _ hv' (fun _=>⟨bb,s,r,rfl,hb1,hb2⟩) ⟨.inr (.inl e),hC.at_,fun _=>⟨n+1,rfl,hlt,hn3⟩,hC.lst,hC.frm⟩ ?_;show meanC t out l {c' with pos:=((n+1:Nat):Int)} = _;unfold meanC;rw [if_neg (by show ¬c'.state=2;omega),if_neg (by show ¬c'.state=3;omega),if_neg (by show ¬c'.state=0;omega)];rfl
end
def fltAt(l:List PartI)(i:Int):Flt:=match l[i.toNat]? with | some x=>x.flt | none=>⟨false,0,[]⟩
def hasQ(t:Str)(out:Bool)(P:Int)(l:List PartI)(part:Int)(key:Str):Bool×Int:=
 if refN P part≠0 then (false,refN P part) else
 if (findN l part key).1<0∨hasN (fltAt l (findN l part key).1).all (fltAt l (findN l part key).1).hashes (fltAt l (findN l part key).1).data key=false then (false,0) else
 let a:=(nextM (meanC t out l (newC (findN l part key).1 (findN l part key).2 key))).1
 (decide (a.2.2.2=0∧a.2.2.1=true∧a.1=key),a.2.2.2)
theorem fltAt_some{l:List PartI}{i:Nat}{x:PartI}(h:l[i]? = some x):fltAt l (i:Int)=x.flt:=by
 unfold fltAt;rw [Itn,h]
theorem newC_v(l:List PartI)(part:Int)(key frm:Str)(hk:frm.length≤1099511627776){k:Int}(h:k=0∨k=(findN l part key).2):Cv l (newC (findN l part key).1 k frm):=by
 rcases findN_cases l part key with⟨e,_⟩ | ⟨i,x,hx,hp,e⟩
 ·rw [e];refine⟨.inr (.inr (.inl rfl)),fun h=>?_,fun h=>(by cases h),Nzl _,hk⟩;rcases h with h | h<;>cases h
 ·rw [e] at h ⊢;have hs:(newC (i:Int) k frm).state=0:=by unfold newC;dsimp only;rw [if_neg (by omega)]
  refine⟨.inl hs,fun _=>?_,(fun h=>by rw [hs] at h;cases h),Nzl _,hk⟩;have hl:=lowC_le x.blocks (key.take 64);rcases h with h | h
  ·exact⟨i,0,x,rfl,hx,h,Nzl _⟩
  ·exact⟨i,lowC x.blocks (key.take 64)-1,x,rfl,hx,h,by omega⟩
section
variable {w0 w:World}{bs q:Nat}{t:Str}{out:Bool}{M R:BL}{br:Nat}{P:Int}{l:List PartI}
set_option maxHeartbeats 1000000 in
theorem rHas_ok(h:SS w0 bs q t out M w)(ht:t.length≤268435456)(hr:RdL bs R br P l)(hRM:∀p∈R,p∈M){part:Int}{key:Str}(hk:key.length≤1099511627776){K:Bool→Int→Wp}
  (hK:∀w',SS w0 bs q t out M w'→K (hasQ t out P l part key).1 (hasQ t out P l part key).2 w') :
  callK Pg c_109 [Ap (some (br,0)),Ai part,Au key] w (.tup [Lb,Li]) K:=by
 refine go_109 _ _ _ _ _ ?_;have hR:∀{u:World},SS w0 bs q t out M u→∀p∈R,Blk u p.1 p.2:=fun hu p hp=>hu.own (hRM p hp);refine refusal_ok hr (hR h) ?_;unfold hasQ at hK;refine Iq (fun q1=>?_) fun q1=>?_
 ·have q1:refN P part≠0:=by simpa using q1
  rw [if_pos q1] at hK;exact hK w h
 have q1:¬refN P part≠0:=by simpa using q1
 rw [if_neg q1] at hK;have hc:=hr.chk.2.2;have hr':=hr;obtain⟨si,sf,ps,rs,h1,h2,h3,h4⟩:=hr;have hB:∀{u:World},SS w0 bs q t out M u→Blk u br (rdrC bs P si sf):=fun hu=>hR hu _ h1;refine Dq ((hB h).ldK (k:=Ki) P rfl ((hB h).ldK (k:=.sl) si rfl (spFind_ok h2 hc (hR h) hk fun w2 M2=>?_)));have s2:=h.quiet M2;refine join1 (a:=.bool) (fun qq u=>qq=decide ((findN l part key).1<0∨hasN (fltAt l (findN l part key).1).all (fltAt l (findN l part key).1).hashes (fltAt l (findN l part key).1).data key=false)∧SS w0 bs q t out M u) ?_ ?_
 ·intro k13 hk13;rcases findN_cases l part key with⟨e,_⟩ | ⟨i,x,hx,hp,e⟩
  ·rw [e] at hk13 ⊢;exact ifK_t (by decide) (hk13 _ _ ⟨(Dct (.inl (by decide))).symm,s2⟩)
  ·rw [e] at hk13 ⊢;refine ifK_f (by simp) (Dq ((hB s2).ldK (k:=.sl) si rfl ?_));obtain⟨p,hp⟩:=Gq (l:=ps) (i:=i) (by rw [h2.len];exact (Les.1 hx).1);have hi1:=h2.each i p x hp hx;rw [fltAt_some hx] at hk13;refine (h2.row.rd (hR s2)).ix rfl rfl hp fun b o _ hc=>Lq (k:=.bool) p.all (hc 2 (by decide)) (Lq (k:=Ki) p.hashes (hc 3 (by decide)) (Lq (k:=.sl) p.sd (hc 4 (by decide)) ?_));rw [hi1.all,hi1.hs];refine has_ok (hi1.dt.rd (hR s2)) hk fun w3 M3=>hk13 _ _ ⟨?_,s2.quiet M3⟩;cases hq:hasN x.flt.all x.flt.hashes x.flt.data key
   ·exact (Dct (.inr rfl)).symm
   ·refine (Dcf fun h=>?_).symm;rcases h with h | h
    ·exact absurd h (by show ¬((i:Int)<0);omega)
    ·cases h
 rintro qq u ⟨rfl,su⟩;refine Iq (fun q2=>?_) fun q2=>?_
 ·rw [if_pos (odt q2)] at hK;exact hK u su
 rw [if_neg (odf q2)] at hK;refine cursor_ok fun w3 bc f3=>?_;have s3:=su.fresh f3;refine cnext_ok (Y:=[]) s3 ht hr' hRM (fun h=>?_) (newC_v l part key key hk (.inr rfl)) fun w4 c' pb' Y' s4 _ _ _=>?_
 ·unfold newC at h;dsimp only at h;split at h<;>cases h
 have s4:=s4.sub (Lsl _ _);generalize (nextM (meanC t out l (newC (findN l part key).1 (findN l part key).2 key))).1=a at hK ⊢;dsimp only at hK;refine s4.alst (by rfl) fun b33 w5 s5 _=>?_;have hB5:Blk w5 b33 (strs a.1 a.2.1):=s5.own (Lmr _ (Lms.2 rfl));have s5:=s5.sub (Lsl _ _);refine join2 (a:=.bool) (b:=Ki) (fun (x:Bool) (e:Int) u=>x=decide (a.2.2.2=0∧a.2.2.1=true∧a.1=key)∧e=a.2.2.2∧u=w5) ?_ ?_
 ·intro k hk;refine Iq (fun e1=>Iq (fun e2=>hB5.ldK (k:=.str) a.1 rfl (hk _ _ _ ⟨?_,rfl,rfl⟩)) fun e2=>hk _ _ _ ⟨?_,rfl,rfl⟩) fun e1=>hk _ _ _ ⟨?_,rfl,rfl⟩
  ·have e1:a.2.2.2=0:=by simpa using e1
   have e2:a.2.2.1=true:=e2;rw [Bei,beq_iff_eq,Det];exact⟨fun h=>⟨e1,e2,h⟩,fun h=>h.2.2⟩
  ·have e2:a.2.2.1=false:=e2;exact (Dcf fun h=>by rw [e2] at h;exact absurd h.2.1 (by decide)).symm
  ·have e1:¬a.2.2.2=0:=by simpa using e1
   exact (Dcf fun h=>e1 h.1).symm
 rintro x e u' ⟨rfl,rfl,rfl⟩;exact hK u' s5
end
structure InfoS(y:BL×BL)(p:PI)(x:PartI):Prop where
 part:p.part=x.part
 bl:VecL y.1 EBI p.sb x.blocks
 all:p.all=x.flt.all
 hs:p.hashes=x.flt.hashes
 dt:VecL y.2 ET p.sd x.flt.data
 lb:x.blocks.length≤262144
 ld:x.flt.data.length≤4096
def flatY(Y:List (BL×BL)):BL:=Y.flatMap fun y=>y.1++y.2
structure FootS(ro:BL)(Y:List (BL×BL))(s:Sl)(ps:List PI)(l:List PartI):Prop where
 row:VecL ro EPI s ps
 len:ps.length=l.length
 leny:Y.length=l.length
 each:∀(i:Nat) y p x,Y[i]? = some y→ps[i]? = some p→l[i]? = some x→InfoS y p x
 ll:l.length≤65535
theorem flatY_append(Y Z:List (BL×BL)):flatY (Y++Z)=flatY Y++flatY Z:=List.flatMap_append
theorem flatY_one(y:BL×BL):flatY [y]=y.1++y.2:=by simp [flatY]
theorem flatY_mem{Y:List (BL×BL)}{i:Nat}{y:BL×BL}(h:Y[i]? = some y):(∀p∈y.1,p∈flatY Y)∧∀p∈y.2,p∈flatY Y:=
 ⟨fun p hp=>List.mem_flatMap.2 ⟨y,Lmg h,Lml _ hp⟩,fun p hp=>List.mem_flatMap.2 ⟨y,Lmg h,Lmr _ hp⟩⟩
theorem FootS.foot{ro:BL}{Y:List (BL×BL)}{s:Sl}{ps:List PI}{l:List PartI}(h:FootS ro Y s ps l):FootL (ro++flatY Y) s ps l:=by
 refine⟨⟨ro,h.row,fun p hp=>Lml _ hp⟩,h.len,fun i p x hp hx=>?_,h.ll⟩;obtain⟨y,hy⟩:=Gq (l:=Y) (i:=i) (by rw [h.leny];exact (Les.1 hx).1);have h1:=h.each i y p x hy hp hx;have h2:=flatY_mem hy;exact⟨h1.part,⟨y.1,h1.bl,fun p hp=>Lmr _ (h2.1 p hp)⟩,h1.all,h1.hs,⟨y.2,h1.dt,fun p hp=>Lmr _ (h2.2 p hp)⟩,h1.lb,h1.ld⟩
theorem FootS.nil:FootS [] [] ⟨none,0,0⟩ [] []:=⟨VecL.nil EPI,rfl,rfl,fun i y p x h=>by simp at h,Nzl _⟩
theorem FootS.push{ro ro':BL}{Y:List (BL×BL)}{s s':Sl}{ps:List PI}{l:List PartI}(h:FootS ro Y s ps l){y:BL×BL}{p:PI}{x:PartI}(hx:InfoS y p x)(hv:VecL ro' EPI s' (ps++[p]))(hl:l.length+1≤65535):FootS ro' (Y++[y]) s' (ps++[p]) (l++[x]):=by
 refine⟨hv,by simp [h.len],by simp [h.leny],fun i y' p' x' h1 h2 h3=>?_,by rw [Lla];exact hl⟩;have e1:=h.len;have e2:=h.leny;rcases Nat.lt_trichotomy i l.length with hi | hi | hi
 ·rw [Lgl (by omega)] at h1 h2 h3;exact h.each i y' p' x' h1 h2 h3
 ·subst hi;rw [Lgr (by omega),e2,Nat.sub_self] at h1;rw [Lgr (by omega),e1,Nat.sub_self] at h2;rw [Lgr (by omega),Nat.sub_self] at h3;cases h1;cases h2;cases h3;exact hx
 ·rw [List.getElem?_eq_none (by simp;omega)] at h3;cases h3
theorem rFoot_nil{w:World}{K:Int→Sl→Wp}(hK:∀w',Mod F0 w w'→K 0 ⟨none,0,0⟩ w'):callK Pg c_110 [Ap none] w (.one (.agg [Ki,.sl])) K:=by
 refine go_110 _ _ _ ?_;refine (Fresh.start w F0).alK fun b w1 f1 _ _=>ifK_t rfl (f1.stK 0 rfl (Nlr 2) fun w2 f2 _=>?_);have hB:Blk w2 b (pairC 0 ⟨none,0,0⟩):=f2.blk (i:=0) rfl;exact hB.ldK (k:=Ki) 0 rfl (hB.ldK (k:=.sl) ⟨none,0,0⟩ rfl (hK w2 f2.mod))
section
variable {w0 w:World}{bs q:Nat}{t:Str}{out:Bool}{M R:BL}{br:Nat}{P:Int}{l:List PartI}
set_option maxHeartbeats 1000000 in
theorem rFoot_ok(h:SS w0 bs q t out M w)(hr:RdL bs R br P l)(hRM:∀p∈R,p∈M){K:Int→Sl→Wp}
  (hK:∀w' ro Y s ps,SS w0 bs q t out (M++(flatY Y++ro)) w'→FootS ro Y s ps l→K P s w') :
  callK Pg c_110 [Ap (some (br,0))] w (.one (.agg [Ki,.sl])) K:=by
 refine go_110 _ _ _ ?_;obtain⟨si,sf,ps,rs,h1,h2,h3,h4⟩:=hr;have hll:=h2.ll;refine h.alK fun b2 w1 s1 _=>ifK_f rfl ?_;have s1:SS w0 bs q t out (M++[(b2,pairC 0 ⟨none,0,0⟩)]) w1:=s1;have hB1:Blk w1 br (rdrC bs P si sf):=s1.own (by simp [hRM _ h1]);refine Dq (hB1.ldK (k:=Ki) P rfl ?_);refine s1.alst (by rfl) fun b10 w2 s2 _=>?_;have s2:SS w0 bs q t out ((M++[(b2,pairC 0 ⟨none,0,0⟩)])++[(b10,pairC P ⟨none,0,0⟩)]) w2:=s2;generalize hM0:M++[(b2,pairC 0 ⟨none,0,0⟩)]=M0 at s2;have hRM0:∀p∈R,p∈M0:=fun p hp=>by rw [←hM0];simp [hRM p hp]
 have hB2:Blk w2 br (rdrC bs P si sf):=s2.own (Lml _ (hRM0 _ h1));refine Dq (hB2.ldK (k:=.sl) si rfl ?_);refine join0 (fun u=>∃ro Y s ps',SS w0 bs q t out (M0++(b10,pairC P s)::(flatY Y++ro)) u∧FootS ro Y s ps' l) ?_ ?_;rotate_left
 ·rintro u ⟨ro,Y,s,ps',su,hF⟩;have hB10:Blk u b10 (pairC P s):=su.own (by simp);refine hB10.ldK (k:=Ki) P rfl (hB10.ldK (k:=.sl) s rfl ?_);rw [←hM0] at su;refine SS.setC (M:=M) (Y:=(b10,pairC P s)::(flatY Y++ro)) (b:=b2) (x:=pairC 0 ⟨none,0,0⟩) (by simpa using su) (Nlr 2) (x':=pairC P s) rfl fun u' su'=>?_;have hB':Blk u' b2 (pairC P s):=su'.own (by simp);exact hB'.ldK (k:=Ki) P rfl (hB'.ldK (k:=.sl) s rfl (hK u' ro Y s ps' (su'.sub ((List.Sublist.refl M).append (((List.Sublist.refl _).cons _).cons _))) hF))
 intro k16 hk16;rw [(h2.row.rd (w:=w2) fun p hp=>s2.own (Lml _ (hRM0 p hp))).len,h2.len];refine loop1 (k:=Ki) (fun (t':Int) u=>∃(i:Nat) (ro:BL) (Y:List (BL×BL)) (s:Sl) (ps':List PI),t'=(i:Int)∧i≤l.length∧SS w0 bs q t out (M0++(b10,pairC P s)::(flatY Y++ro)) u∧FootS ro Y s ps' (l.take i)) (fun t' _=>(l.length-t').toNat) (x:=0) rfl ⟨0,[],[],_,[],rfl,Nzl _,by simpa [flatY] using s2,FootS.nil⟩ ?_;rintro t' u ⟨i,ro,Y,s,ps',rfl,hi,su,hF⟩;refine Iq (fun q1=>?_) fun q1=>?_;rotate_left
 ·have q1:l.length≤i:=dge q1;rw [Ltl q1] at hF;exact hk16 u ⟨ro,Y,s,ps',su,hF⟩
 have q1:i<l.length:=dlt q1;obtain⟨x,hx⟩:=Gq q1;obtain⟨p,hp⟩:=Gq (l:=ps) (i:=i) (by rw [h2.len];exact q1);have hi1:=h2.each i p x hp hx;refine (h2.row.rd (w:=u) fun p hp=>su.own (Lml _ (hRM0 p hp))).ix rfl rfl hp fun b o _ hc=>Lq (k:=Ki) p.part (hc 0 (by decide)) (Lq (k:=.sl) p.sb (hc 1 (by decide)) (Lq (k:=.bool) p.all (hc 2 (by decide)) (Lq (k:=Ki) p.hashes (hc 3 (by decide)) (Lq (k:=.sl) p.sd (hc 4 (by decide)) ?_))));refine su.alst (by rfl) fun b27 u1 s3 _=>?_;have s3:SS w0 bs q t out ((M0++(b10,pairC P s)::(flatY Y++ro))++[(b27,EPI.f p)]) u1:=s3;generalize hZ:M0++(b10,pairC P s)::(flatY Y++ro)=Z at s3;have hRZ:∀p∈R,p∈Z:=fun p hp=>by rw [←hZ];simp [hRM0 p hp]
 have hlb:=hi1.lb;have hld:=hi1.ld;refine SS.alK s3 fun b30 u2 s4 _=>?_;have s4:SS w0 bs q t out ((Z++[(b27,EPI.f p)])++[(b30,[])]) u2:=s4;have hB27:Blk u2 b27 (EPI.f p):=s4.own (by simp);refine hB27.ldK (k:=.sl) p.sb rfl ?_;refine appL2 s4.base (E:=EBI) (l:=[]) ⟨rfl,Nlr _,.inr ⟨b30,[],rfl,rfl,by simp⟩⟩ (hi1.bl.rd fun p hp=>s4.own (by simp [hRZ p hp])) rfl rfl (by simp only [List.length_nil];omega) fun sb' old ro1 u3 hA3 v1 _ _ _=>?_;have s5:SS w0 bs q t out (Z++(b27,EPI.f p)::ro1) u3:=by
  have:=(s4.put hA3).sub (((Lsl _ old)).append (List.Sublist.refl ro1));simpa using this
 refine SS.setC s5 (by decide:1+1≤5) (x':=EPI.f {p with sb:=sb'}) rfl fun u4 s6=>?_;refine SS.alK s6 fun b36 u5 s7 _=>?_;have s7:SS w0 bs q t out ((Z++(b27,EPI.f {p with sb:=sb'})::ro1)++[(b36,[])]) u5:=s7;have hB27:Blk u5 b27 (EPI.f {p with sb:=sb'}):=s7.own (by simp);refine hB27.ldK (k:=.sl) p.sd rfl ?_;refine appL2 s7.base (E:=ET) (l:=[]) ⟨rfl,Nlr _,.inr ⟨b36,[],rfl,rfl,by simp⟩⟩ (hi1.dt.rd fun p hp=>s7.own (by simp [hRZ p hp])) rfl rfl (by simp only [List.length_nil];omega) fun sd' old2 ro2 u6 hA6 v2 _ _ _=>?_;have s8:SS w0 bs q t out (Z++(b27,EPI.f {p with sb:=sb'})::(ro1++ro2)) u6:=by
  have:=(s7.put hA6).sub (((Lsl _ old2)).append (List.Sublist.refl ro2));simpa using this
 refine SS.setC s8 (by decide:4+1≤5) (x':=EPI.f {p with sb:=sb',sd:=sd'}) rfl fun u7 s9=>?_;have hB10:Blk u7 b10 (pairC P s):=s9.own (by rw [←hZ];simp);have hB27:Blk u7 b27 (EPI.f {p with sb:=sb',sd:=sd'}):=s9.own (by simp);refine hB10.ldK (k:=.sl) s rfl (hB27.ldK (k:=Ki) p.part rfl (hB27.ldK (k:=.sl) sb' rfl (hB27.ldK (k:=.bool) p.all rfl (hB27.ldK (k:=Ki) p.hashes rfl (hB27.ldK (k:=.sl) sd' rfl ?_)))));have s10:SS w0 bs q t out ((M0++(b10,pairC P s)::(flatY Y++(ro1++ro2)))++ro) u7:=by
  refine (s9.sub (m':=Z++(ro1++ro2)) ((List.Sublist.refl Z).append ((List.Sublist.refl _).cons _))).perm ?_;rw [←hZ];simp only [Laa,List.cons_append];refine (List.Perm.cons _ ((?_:List.Perm _ _).append_left _)).append_left _;rw [←Laa ro1 ro2 ro,←Laa ro ro1 ro2,Laa ro ro1 ro2];exact Lpc
 refine SS.pushK s10 hF.row {p with sb:=sb',sd:=sd'} rfl rfl rfl (by rw [hF.len,Llt];omega) fun s' ro' u8 s11 v3 _=>?_;refine SS.setC (M:=M0) (Y:=(flatY Y++(ro1++ro2))++ro') (by simpa using s11) (by decide:1+1≤2) (x':=pairC P s') rfl fun u9 s12=>?_;have e3:w64 ((i:Int)+1)=((i+1:Nat):Int):=by rw [Wq (by omega) (by omega)];omega
 rw [e3];have hF':=hF.push (y:=(ro1,ro2)) (p:={p with sb:=sb',sd:=sd'}) (x:=x) ⟨hi1.part,by simpa using v1,hi1.all,hi1.hs,by simpa using v2,hlb,hld⟩ v3 (by rw [Llt];omega);have etk:l.take i++[x]=l.take (i+1):=by rw [List.take_add_one,hx];rfl
 rw [etk] at hF';exact⟨⟨i+1,ro',Y++[(ro1,ro2)],s',ps'++[{p with sb:=sb',sd:=sd'}],rfl,q1,by rw [flatY_append,flatY_one];exact s12,hF'⟩,by omega⟩
end
set_option maxRecDepth 100000
theorem go_111(x1:Int)(K:Int→Wp)(w:World)(h:ifK ((x1.tmod 2)==1) (K (bitI .xor .u32 (shrI .u32 x1 1) 2197175160) w) (K (shrI .u32 x1 1) w)):callK Pg 178 [.leaf (.int .u32 x1)] w (.one (.leaf (.int .u32))) K:=Fq (n:=.nil) CS_ok mixed Tryz.func178 (Eq.mpr (by kernel_rfl) h)
theorem go_112(sum1:Int)(b2:Sl)(K:Int→Wp)(w:World)(h:joinK [.int .u32] (fun k3=>loopL [.int .u32,Ki] (fun x5 i6 W7 g4=>ifK (decide (i6<(b2.len:Int))) (ix b2 1 i6 fun b8 o9=>ld W7 (.int .u8) b8 o9 fun n10=>joinK [.int .u32] (fun k11=>loopL [.int .u32,Ki] (fun x13 k14 W15 g12=>ifK (decide (k14<8)) (callK Pg 178 [.leaf (.int .u32 x13)] W15 (.one (.leaf (.int .u32))) fun n16 W17=>g12 n16 (w64 (k14+1)) W17) (k11 x13 W15)) [.int .u32 (bitI .xor .u32 x5 (IntKind.wrap .u32 (n10))),.int .i64 0] W7) fun x18 W19=>g4 x18 (w64 (i6+1)) W19) (k3 x5 W7)) [.int .u32 (bitI .xor .u32 (if IntKind.signed .u32 then -1 else IntKind.max .u32) sum1),.int .i64 0] w) fun x20 W21=>K (bitI .xor .u32 (if IntKind.signed .u32 then -1 else IntKind.max .u32) x20) W21):callK Pg 167 [.leaf (.int .u32 sum1),Az b2] w (.one (.leaf (.int .u32))) K:=Fq (n:=(n0 .nil (n0 .nil (n0 (n0 .nil (.mk (some [.tmp 5 (.leaf (.int .u32))]) [] [] .done (.mk none [.tmp 5 (.leaf (.int .u32)),.tmp 6 Li] [1] .done (n0 .nil (n0 (n0 (n0 .nil (n0 .nil (.mk (some [.tmp 5 (.leaf (.int .u32))]) [] [1,6] .done (.mk none [.tmp 5 (.leaf (.int .u32)),.tmp 7 Li] [1,6] .done .nil .nil) .nil))) .nil) .nil)) .nil) .nil)) .nil)))) CS_ok mixed Tryz.func167 (Eq.mpr (by kernel_rfl) h)
theorem go_113(b1:Sl)(K:Int→Wp)(w:World)(h:callK Pg 167 [.leaf (.int .u32 0),Az b1] w (.one (.leaf (.int .u32))) fun n2 W3=>K n2 W3):callK Pg 139 [Az b1] w (.one (.leaf (.int .u32))) K:=Fq (n:=.nil) CS_ok mixed Tryz.func139 (Eq.mpr (by kernel_rfl) h)
theorem go_114(b1:Sl)(K:Sl→Wp)(w:World)(h:al w 5 [] fun b2 W3=>ap W3 5 1 1 [.int .u8 0] (⟨some (b2,0),0,0⟩) b1 fun a4 W5=>callK Pg 139 [Az b1] W5 (.one (.leaf (.int .u32))) fun n6 W7=>al W7 5 [.int .u8 (IntKind.wrap .u8 (n6)),.int .u8 (IntKind.wrap .u8 (shrI .u32 n6 8)),.int .u8 (IntKind.wrap .u8 (shrI .u32 n6 16)),.int .u8 (IntKind.wrap .u8 (shrI .u32 n6 24))] fun b8 W9=>ap W9 5 1 1 [.int .u8 0] a4 (⟨some (b8,0),4,4⟩) fun a10 W11=>K a10 W11):callK Pg 97 [Az b1] w Oz K:=Fq (n:=.nil) CS_ok mixed Tryz.func97 (Eq.mpr (by kernel_rfl) h)
theorem go_115(a1:Sl)(b2:Sl)(K:Bool→Wp)(w:World)(h:ifK ((a1.len:Int) != (b2.len:Int)) (K false w) (joinK [] (fun k3=>loopL [Ki] (fun i5 W6 g4=>ifK (decide (i5<(a1.len:Int))) (drawK W6 fun D W7=>ix a1 1 i5 fun b8 o9=>ldD D W7 (.int .u8) b8 o9 fun n10=>ix b2 1 i5 fun b11 o12=>ldD D W7 (.int .u8) b11 o12 fun n13=>ifK (n10 != n13) (K false W7) (g4 (w64 (i5+1)) W7)) (k3 W6)) [.int .i64 0] w) fun W14=>K true W14)):callK Pg 98 [Az a1,Az b2] w Ob K:=Fq (n:=(n0 .nil (n0 .nil (n0 (n0 .nil (.mk (some []) [] [] .done (.mk none [.tmp 5 Li] [0,1] .done (n0 .nil (n0 (n0 (n0 (.mk none [] [] (tk [0,1,2,3,4,5,6,7,8] .done) .nil .nil) .nil) .nil) .nil)) .nil) .nil)) .nil)))) CS_ok mixed Tryz.func98 (Eq.mpr (by kernel_rfl) h)
theorem go_116(tile1:Sl)(K:Sl→Int→Wp)(w:World)(h:ifK (decide ((tile1.len:Int)<4)) (K (⟨none,0,0⟩) 11 w) (al w 5 [] fun b2 W3=>slx tile1 1 none (some (w64 ((tile1.len:Int)-4))) none fun s4=>ap W3 5 1 1 [.int .u8 0] (⟨some (b2,0),0,0⟩) s4 fun a5 W6=>callK Pg 97 [Az a5] W6 Oz fun a7 W8=>callK Pg 98 [Az a7,Az tile1] W8 Ob fun c9 W10=>ifK (!c9) (K (⟨none,0,0⟩) 10 W10) (K a5 0 W10))):callK Pg 64 [Az tile1] w (.tup [Ls,Li]) K:=Fq (n:=.nil) CS_ok mixed Tryz.func64 (Eq.mpr (by kernel_rfl) h)
theorem low_bit2(x:W32):(((x.toNat:Int).tmod 2)==1)=x.getLsbD 0:=by
 have h:((x.toNat:Int).tmod 2)=((x.toNat%2:Nat):Int):=by
  rw [show (2:Int)=((2:Nat):Int) from rfl];exact (Int.ofNat_tmod _ _).symm
 rw [h];have h2:x.getLsbD 0=decide (x.toNat%2=1):=by
  show x.toNat.testBit 0=_;rw [Nat.testBit_zero]
 rw [h2];rcases Nat.mod_two_eq_zero_or_one x.toNat with h | h<;>rw [h]<;>rfl
theorem rM_ok(x:W32){w:World}{K:Int→Wp}(hK:K ((stepB x).toNat:Int) w):callK Pg c_111 [.leaf (.int .u32 (x.toNat:Int))] w (.one (.leaf (.int .u32))) K:=by
 refine go_111 _ _ _ ?_;have hs:=shr_bv x 1 (by decide);have e1:((1:Nat):Int)=1:=rfl;rw [e1] at hs;rw [low_bit2,hs];unfold stepB at hK;refine Iq (fun h=>?_) fun h=>?_
 ·rw [if_pos h] at hK;have:=xor_bv (x >>> 1) polyB;have e2:((polyB:W32).toNat:Int)=2197175160:=rfl;rw [e2] at this;rw [this];exact hK
 ·rw [if_neg (by rw [h];decide)] at hK;exact hK
theorem byteB_it(x:W32)(c:UInt8):byteB x c=itB 8 (x ^^^ BitVec.ofNat 32 c.toNat):=rfl
theorem rExtend_ok(x0:W32){w:World}{s:Sl}{t:Str}(hr:RdS w ET s t)(hl:t.length≤1099511627776){K:Int→Wp}(hK:K ((extendB x0 t).toNat:Int) w) :
  callK Pg c_112 [.leaf (.int .u32 (x0.toNat:Int)),Az s] w (.one (.leaf (.int .u32))) K:=by
 refine go_112 _ _ _ _ ?_;refine join1 (a:=.int .u32) (fun (x:Int) u=>x=((extB (~~~x0) t).toNat:Int)∧u=w) ?_ ?_
 ·intro k hk;refine loop2 (k1:=.int .u32) (k2:=Ki) (fun (x:Int) (i:Int) u=>u=w∧∃j:Nat,i=j∧j≤t.length∧x=((extB (~~~x0) (t.take j)).toNat:Int)) (fun _ i _=>(t.length-i).toNat) (x1:=_) (x2:=0) rfl rfl ⟨rfl,0,rfl,by omega,not_bv x0⟩ ?_;rintro x i u ⟨rfl,j,rfl,hj,rfl⟩;rw [hr.len];refine Iq (fun h=>?_) fun h=>?_
  ·have hlt:j<t.length:=dlt h;refine hr.byte rfl hlt fun b1 o1 _ hc=>Lq (k:=.int .u8) ((t[j]).toNat:Int) hc ?_;rw [u8_bv,xor_bv];generalize hX:extB (~~~x0) (t.take j)=X;refine join1 (a:=.int .u32) (fun (x:Int) v=>x=((byteB X t[j]).toNat:Int)∧v=u) ?_ ?_
   ·intro k11 hk11;refine loop2 (k1:=.int .u32) (k2:=Ki) (fun (x:Int) (i:Int) v=>v=u∧∃n:Nat,i=n∧n≤8∧x=((itB n (X ^^^ BitVec.ofNat 32 (t[j]).toNat)).toNat:Int)) (fun _ i _=>(8-i).toNat) (x1:=_) (x2:=0) rfl rfl ⟨rfl,0,rfl,by decide,rfl⟩ ?_;rintro x i v ⟨rfl,n,rfl,hn,rfl⟩;refine Iq (fun h8=>?_) fun h8=>?_
    ·have h8:(n:Int)<8:=odt h8;refine rM_ok _ ?_;refine⟨⟨rfl,n+1,step64 (by omega),by omega,rfl⟩,?_⟩;rw [step64 (by omega)];omega
    ·have h8:¬(n:Int)<8:=odf h8;have:n=8:=by omega
     subst this;exact hk11 _ _ ⟨by rw [byteB_it],rfl⟩
   rintro x v ⟨rfl,rfl⟩;refine⟨⟨rfl,j+1,step64 (by omega),by omega,?_⟩,?_⟩
   ·rw [List.take_add_one,Lge hlt];unfold extB at hX ⊢;rw [Option.toList_some,List.foldl_append,hX];rfl
   ·rw [step64 (by omega)];omega
  ·have hge:t.length≤j:=dge h;refine hk _ _ ⟨?_,rfl⟩;rw [Ltl hge]
 rintro x u ⟨rfl,rfl⟩;rw [not_bv];exact hK
theorem rSum_ok{w:World}{s:Sl}{t:Str}(hr:RdS w ET s t)(hl:t.length≤1099511627776){K:Int→Wp}(hK:K ((sumB t).toNat:Int) w) :
  callK Pg c_113 [Az s] w (.one (.leaf (.int .u32))) K:=by
 refine go_113 _ _ _ ?_;exact rExtend_ok 0#32 hr hl hK
theorem vec0{α:Type}(E:Enc α)(b:Nat):VecL [(b,[])] E ⟨some (b,0),0,0⟩ []:=⟨rfl,Nlr _,.inr ⟨b,[],rfl,rfl,by simp⟩⟩
theorem rSeal_ok{w:World}{s:Sl}{t:Str}(hr:RdS w ET s t)(hl:t.length≤1099511627776){K:Sl→Wp}(hK:∀w' ro s',At w F0 ro w'→VecL ro ET s' (sealB t)→K s' w') :
  callK Pg c_114 [Az s] w Oz K:=by
 refine go_114 _ _ _ ?_;refine (At.init w F0).alK fun b2 w1 _ h1 _=>?_;refine appL (m:=[]) h1 (vec0 ET b2) (hr.quiet h1.mod) rfl rfl (by simp;omega) fun a4 ro2 w2 h2 v2 _ _=>?_;have h2:At w F0 ro2 w2:=h2;refine rSum_ok (hr.quiet h2.mod) hl ?_;refine h2.alK fun b8 w4 _ h4 _=>?_;have h4:At w F0 (ro2++[(b8,ET.cells (fourB (sumB t))++[])]) w4:=by rw [←four_cells];exact h4
 have h5:At w F0 ([(b8,ET.cells (fourB (sumB t))++[])]++ro2) w4:=h4.perm Lpc;have v4:VecL [(b8,ET.cells (fourB (sumB t))++[])] ET ⟨some (b8,0),4,4⟩ (fourB (sumB t)):=⟨rfl,Nlr _,.inr ⟨b8,[],rfl,rfl,by rw [Lan,Enc.cells_length];exact Nlr 4⟩⟩;refine appL h5 v2 (v4.rd fun p hp=>h5.own p (Lml _ hp)) rfl rfl (by simp [fourB];omega) fun s5 ro5 w5 h6 v5 _ _=>?_;exact hK _ _ _ (h6.sub (Lsr _ _)) (by simpa [sealB] using v5)
theorem rSame_ok{w:World}{s1 s2:Sl}{a b:Str}(h1:RdS w ET s1 a)(h2:RdS w ET s2 b)(hl:a.length≤1099511627776){K:Bool→Wp}(hK:∀w',Mod F0 w w'→K (decide (a=b)) w') :
  callK Pg c_115 [Az s1,Az s2] w Ob K:=by
 refine go_115 _ _ _ _ ?_;rw [h1.len,h2.len];refine Iq (fun q=>?_) fun q=>?_
 ·have q:¬a.length=b.length:=fun h=>by rw [h] at q;simp at q
  rw [Dcf (fun h=>q (by rw [h]))] at hK;exact hK w (Mod.refl _ _)
 have q:a.length=b.length:=by
  have:((a.length:Int)=b.length):=by simpa using q
  omega
 refine join0 (fun u=>a=b∧Mod F0 w u) ?_ (fun u ⟨e,hM⟩=>by rw [Dct e] at hK;exact hK u hM);intro k hk;refine loop1 (k:=Ki) (fun (i:Int) u=>Mod F0 w u∧∃j:Nat,i=j∧j≤a.length∧a.take j=b.take j) (fun i _=>(a.length-i).toNat) (x:=0) rfl ⟨Mod.refl _ _,0,rfl,Nzl _,rfl⟩ ?_;rintro i u ⟨hM,j,rfl,hj,he⟩;refine Iq (fun h=>?_) fun h=>?_
 ·have hlt:j<a.length:=dlt h;have hd:=mod0 hM (Mq u);refine⟨F0,(h1.quiet hd).byte rfl hlt fun b1 o1 _ hc1=>Lw (k:=.int .u8) ((a[j]).toNat:Int) id hc1 ((h2.quiet hd).byte rfl (by omega) fun b2 o2 _ hc2=>Lw (k:=.int .u8) ((b[j]'(by omega)).toNat:Int) id hc2 ?_)⟩;have:=u8_ne (x:=a[j]) (y:=b[j]'(by omega));have h3:((((a[j]).toNat:Nat):Int) != (((b[j]'(by omega)).toNat:Nat):Int)) = !decide (a[j]=b[j]'(by omega)):=this;rw [h3];refine Iq (fun e=>?_) fun e=>?_
  ·have e:a[j]≠b[j]'(by omega):=by simpa using e
   rw [Dcf (fun h=>by subst h;exact e rfl)] at hK;exact hK _ hd
  ·have e:a[j]=b[j]'(by omega):=by simpa using e
   refine⟨⟨hd,j+1,step64 (by omega),by omega,?_⟩,by rw [step64 (by omega)];omega⟩;rw [List.take_add_one,List.take_add_one,he,Lge hlt,Lge (by omega),e]
 ·have hge:a.length≤j:=dge h;rw [Ltl hge,Ltl (by omega)] at he;exact hk u ⟨he,hM⟩
theorem rOpen_ok{w:World}{s:Sl}{t:Str}(hr:RdS w ET s t)(hl:t.length≤1099511627776){K:Sl→Int→Wp}(hK:∀w' ro s',At w F0 ro w'→VecL ro ET s' (openB t).2→K s' (openB t).1 w') :
  callK Pg c_116 [Az s] w (.tup [Ls,Li]) K:=by
 refine go_116 _ _ _ ?_;rw [hr.len];refine Iq (fun h=>?_) fun h=>?_
 ·have h:((t.length:Nat):Int)<4:=odt h;have e:openB t=(11,[]):=by unfold openB;rw [if_pos (by omega)]
  rw [e] at hK;exact hK w [] _ (At.none (Mod.refl _ _)) (VecL.nil ET)
 have h:¬((t.length:Nat):Int)<4:=odf h;have hn:w64 (((t.length:Nat):Int)-4)=((t.length-4:Nat):Int):=by rw [Wq (by omega) (by omega)];omega
 rw [hn];have eo:openB t=if fourB (sumB (t.take (t.length-4)))=t.drop (t.length-4) then (0,t.take (t.length-4)) else (10,[]):=by unfold openB;rw [if_neg (by omega)]
 rw [eo] at hK;generalize hk:t.length-4=n at hK;have hnl:n≤t.length:=by omega
 refine (At.init w F0).alK fun b2 w1 _ h1 _=>(hr.quiet h1.mod).toK hnl rfl rfl fun s4 h4 _=>?_;have htl:(t.take n).length≤1099511627776:=by rw [Llt];omega
 refine appL (m:=[]) h1 (vec0 ET b2) h4 rfl rfl (by simp;omega) fun a5 ro2 w2 h2 v2 _ _=>?_;have h2:At w F0 ro2 w2:=h2;refine rSeal_ok (v2.rdAt0 h2) htl fun w3 ro3 a7 h3 v3=>?_;have h5:=h2.join h3;have htl2:(sealB (t.take n)).length≤1099511627776:=by
  unfold sealB;rw [Lla,Llt];have:(fourB (sumB (t.take n))).length=4:=rfl;omega
 refine rSame_ok (v3.rd fun p hp=>h5.own p (Lmr _ hp)) (hr.quiet h5.mod) htl2 fun w4 M4=>?_;have h6:=h5.keep0 M4 fun _=>id;have eq:sealB (t.take n)=t↔fourB (sumB (t.take n))=t.drop n:=by
  unfold sealB;constructor
  ·intro e;have:=congrArg (List.drop n) e;rw [List.drop_append,Ldn (by rw [Llt];omega),Llt,Nat.min_eq_left hnl,Nat.sub_self] at this;simpa using this
  ·intro e;rw [e,List.take_append_drop]
 refine Iq (fun q=>?_) fun q=>?_
 ·have q:¬sealB (t.take n)=t:=by simpa using q
  rw [if_neg (fun h=>q (eq.2 h))] at hK;exact hK w4 [] _ (At.none h6.mod) (VecL.nil ET)
 ·have q:sealB (t.take n)=t:=by simpa using q
  rw [if_pos (eq.1 q)] at hK;exact hK w4 ro2 a5 (h6.sub (Lsl _ _)) (by simpa using v2)
set_option maxRecDepth 100000
theorem go_117(v1:Int)(K:Sl→Wp)(w:World)(h:ifK (decide (v1<0)) (K (⟨none,0,0⟩) w) (joinK [Ki,.sl] (fun k2=>loopL [Ki,.sl] (fun v4 b5 W6 g3=>ifK (decide (128≤v4)) (al W6 5 [.int .u8 (IntKind.wrap .u8 (w64 ((v4.tmod 128)+128)))] fun b7 W8=>ap W8 5 1 1 [.int .u8 0] b5 (⟨some (b7,0),1,1⟩) fun a9 W10=>g3 (w64 (v4.tdiv 128)) a9 W10) (k2 v4 b5 W6)) [.int .i64 v1,.sl (⟨none,0,0⟩)] w) fun v11 b12 W13=>al W13 5 [.int .u8 (IntKind.wrap .u8 (v11))] fun b14 W15=>ap W15 5 1 1 [.int .u8 0] b12 (⟨some (b14,0),1,1⟩) fun a16 W17=>K a16 W17)):callK Pg 144 [Ai v1] w Oz K:=Fq (n:=(n0 .nil (n0 .nil (n0 .nil (n0 (.mk (some [.tmp 0 Li,.tmp 3 Ls]) [] [] .done (.mk none [.tmp 0 Li,.tmp 3 Ls] [] .done .nil .nil) .nil) .nil))))) CS_ok mixed Tryz.func144 (Eq.mpr (by kernel_rfl) h)
theorem go_118(b1:Sl)(K:Int→Int→Int→Wp)(w:World)(h:joinK [] (fun k2=>loopL [Ki,Ki,Ki] (fun v4 unit5 i6 W7 g3=>ifK (decide (i6<(b1.len:Int))) (ix b1 1 i6 fun b8 o9=>ld W7 (.int .u8) b8 o9 fun n10=>ix b1 1 i6 fun b11 o12=>ld W7 (.int .u8) b11 o12 fun n13=>ifK (decide (n13<128)) (joinK [.bool] (fun k14=>ifK (decide (0<i6)) (ix b1 1 i6 fun b15 o16=>ld W7 (.int .u8) b15 o16 fun n17=>k14 (n17==0) W7) (k14 false W7)) fun t3918 W19=>ifK t3918 (K 0 0 21 W19) (K (w64 (v4+(w64 (((w64 (n10)).tmod 128)*unit5)))) (w64 (i6+1)) 0 W19)) (ifK (i6==8) (K 0 0 21 W7) (g3 (w64 (v4+(w64 (((w64 (n10)).tmod 128)*unit5)))) (w64 (unit5*128)) (w64 (i6+1)) W7))) (k2 W7)) [.int .i64 0,.int .i64 1,.int .i64 0] w) fun W20=>K 0 0 20 W20):callK Pg 141 [Az b1] w (.tup [Li,Li,Li]) K:=Fq (n:=(n0 .nil (n0 .nil (n0 .nil (n0 (n0 .nil (.mk (some []) [] [] .done (.mk none [.tmp 5 Li,.tmp 6 Li,.tmp 7 Li] [0] .done (n0 .nil (n0 (n0 (n0 .nil (n0 .nil (n0 (n0 .nil (n0 (n0 (n0 (.mk (some [.tmp 39 Lb]) [] [5,7] .done .nil .nil) .nil) .nil) .nil)) .nil))) .nil) .nil)) .nil) .nil)) .nil))))) CS_ok mixed Tryz.func141 (Eq.mpr (by kernel_rfl) h)
theorem go_120(v1:Int)(n2:Int)(K:Sl→Wp)(w:World)(h:joinK [.bool] (fun k3=>ifK (decide (n2<1)) (k3 true w) (k3 (decide (8<n2)) w)) fun t124 W5=>ifK t124 (K (⟨none,0,0⟩) W5) (joinK [.sl] (fun k6=>loopL [.int .u64,.sl,Ki] (fun v8 b9 i10 W11 g7=>ifK (decide (i10<n2)) (al W11 5 [.int .u8 (IntKind.wrap .u8 (v8.tmod 256))] fun b12 W13=>ap W13 5 1 1 [.int .u8 0] b9 (⟨some (b12,0),1,1⟩) fun a14 W15=>g7 (IntKind.wrap .u64 (v8.tdiv 256)) a14 (w64 (i10+1)) W15) (k6 b9 W11)) [.int .u64 v1,.sl (⟨none,0,0⟩),.int .i64 0] W5) fun b16 W17=>K b16 W17)):callK Pg 193 [.leaf (.int .u64 v1),Ai n2] w Oz K:=Fq (n:=(n0 .nil (n0 .nil (n0 (n0 (.mk (some [.tmp 12 Lb]) [] [0,1,5] .done .nil .nil) .nil) (n0 (n0 .nil (.mk (some [.tmp 5 Ls]) [] [] .done (.mk none [.tmp 0 (.leaf (.int .u64)),.tmp 5 Ls,.tmp 6 Li] [1] .done .nil .nil) .nil)) .nil))))) CS_ok mixed Tryz.func193 (Eq.mpr (by kernel_rfl) h)
theorem go_119(b1:Sl)(K:Int→Wp)(w:World)(h:joinK [.int .u64] (fun k2=>loopL [.int .u64,.int .u64,Ki] (fun v4 unit5 i6 W7 g3=>joinK [.bool] (fun k8=>ifK (decide (i6<(b1.len:Int))) (k8 (decide (i6<8)) W7) (k8 false W7)) fun t139 W10=>ifK t139 (ix b1 1 i6 fun b11 o12=>ld W10 (.int .u8) b11 o12 fun n13=>g3 (IntKind.wrap .u64 (v4+(IntKind.wrap .u64 ((IntKind.wrap .u64 (n13))*unit5)))) (IntKind.wrap .u64 (unit5*256)) (w64 (i6+1)) W10) (k2 v4 W10)) [.int .u64 0,.int .u64 1,.int .i64 0] w) fun v14 W15=>K v14 W15):callK Pg 65 [Az b1] w (.one (.leaf (.int .u64))) K:=Fq (n:=(n0 .nil (n0 .nil (n0 .nil (n0 (n0 .nil (.mk (some [.tmp 3 (.leaf (.int .u64))]) [] [] .done (.mk none [.tmp 3 (.leaf (.int .u64)),.tmp 4 (.leaf (.int .u64)),.tmp 5 Li] [0] .done (n0 (n0 (.mk (some [.tmp 13 Lb]) [] [0,3,4,5] .done .nil .nil) .nil) .nil) .nil) .nil)) .nil))))) CS_ok mixed Tryz.func65 (Eq.mpr (by kernel_rfl) h)
theorem go_121(a1:List UInt8)(b2:List UInt8)(K:Int→Wp)(w:World)(h:joinK [Ki] (fun k3=>loopL [Ki] (fun n5 W6 g4=>joinK [.bool] (fun k7=>drawK W6 fun D W8=>ifK (decide (n5<(a1.length:Int))) (ifK (decide (n5<(b2.length:Int))) (sx a1 n5 fun c9=>sx b2 n5 fun c10=>k7 (c9==c10) W8) (k7 false W8)) (k7 false W8)) fun t2411 W12=>ifK t2411 (g4 (w64 (n5+1)) W12) (k3 n5 W12)) [.int .i64 0] w) fun n13 W14=>K n13 W14):callK Pg 110 [Au a1,Au b2] w Oi K:=Fq (n:=(n0 .nil (n0 .nil (n0 (.mk (some [.tmp 5 Li]) [] [] .done (.mk none [.tmp 5 Li] [0,1] .done (n0 (n0 (.mk (some [.tmp 24 Lb]) [] [0,1,5] (tk [0,1,2,3,4] (.split 4 (.take 5 (.take 6 (.take 7 (.take 8 (.take 9 (.take 10 (.split 10 (.take 11 (.take 12 (.take 13 (.take 14 (.take 15 (.take 16 (.take 17 (.take 18 .done)))))))) (.take 11 (.take 12 (.take 13 (.take 14 (.take 15 (.take 16 (.take 17 (.take 18 .done))))))))))))))) (.take 5 (.take 6 (.take 7 (.take 8 (.take 9 (.take 10 (.take 11 (.take 12 (.take 13 (.take 14 (.take 15 (.take 16 (.take 17 (.take 18 .done)))))))))))))))) .nil .nil) .nil) .nil) .nil) .nil) .nil)))) CS_ok mixed Tryz.func110 (Eq.mpr (by kernel_rfl) h)
theorem go_122(a1:List UInt8)(b2:List UInt8)(K:Int→Wp)(w:World)(h:callK Pg 110 [Au a1,Au b2] w Oi fun n3 W4=>joinK [.bool] (fun k5=>ifK (n3==(a1.length:Int)) (k5 (n3==(b2.length:Int)) W4) (k5 false W4)) fun t96 W7=>ifK t96 (K 0 W7) (ifK (n3==(a1.length:Int)) (K (-1) W7) (ifK (n3==(b2.length:Int)) (K 1 W7) (drawK W7 fun D W8=>sx a1 n3 fun c9=>sx b2 n3 fun c10=>ifK (decide (c9<c10)) (K (-1) W8) (K 1 W8))))):callK Pg 78 [Au a1,Au b2] w Oi K:=Fq (n:=(n0 .nil (n0 .nil (n0 (n0 (n0 (.mk (some [.tmp 9 Lb]) [] [0,1,5] .done .nil .nil) (n0 .nil (n0 .nil (n0 .nil (n0 .nil (n0 .nil (n0 (.mk none [] [] (tk [0,1,2,3,4,5,6,7] .done) .nil .nil) .nil))))))) .nil) .nil)))) CS_ok mixed Tryz.func78 (Eq.mpr (by kernel_rfl) h)
theorem go_128(b1:Sl)(K:PA→Wp)(w:World)(h:al w 217 [.sl (⟨none,0,0⟩),.int .i64 0,.lit false,.int .i64 0,.int .i64 0] fun b2 W3=>dr (some (b2,0)) fun b4 o5=>ld W3 .sl b4 o5 fun a6=>ap W3 5 1 1 [.int .u8 0] a6 b1 fun a7 W8=>dr (some (b2,0)) fun b9 o10=>st W8 b9 o10 [.sl a7] fun W11=>K (some (b2,0)) W11):callK Pg 100 [Az b1] w Oq K:=Fq (n:=.nil) CS_ok mixed Tryz.func100 (Eq.mpr (by kernel_rfl) h)
theorem go_123(c1:PA)(e2:Int)(K:Wp)(w:World)(h:joinK [.bool] (fun k3=>ifK c1.isNone (k3 true w) (dr c1 fun b4 o5=>ld w .bool b4 (o5+2) fun c6=>ifK c6 (k3 true w) (k3 (e2==0) w))) fun t157 W8=>ifK t157 (K W8) (dr c1 fun b9 o10=>st W8 b9 (o10+2) [.lit true] fun W11=>dr c1 fun b12 o13=>ld W11 Ki b12 (o13+1) fun n14=>dr c1 fun b15 o16=>st W11 b15 (o16+3) [.int .i64 e2,.int .i64 n14] fun W17=>K W17)):callK Pg 142 [Ap c1,Ai e2] w (.tup []) K:=Fq (n:=(n0 (n0 (.mk (some [.tmp 15 Lb]) [] [0,1] .done .nil .nil) .nil) .nil)) CS_ok mixed Tryz.func142 (Eq.mpr (by kernel_rfl) h)
theorem go_124(c1:PA)(K:Int→Wp)(w:World)(h:joinK [.bool] (fun k2=>ifK c1.isNone (k2 true w) (dr c1 fun b3 o4=>ld w .bool b3 (o4+2) fun c5=>k2 c5 w)) fun t106 W7=>ifK t106 (K 0 W7) (drawK W7 fun D W8=>dr c1 fun b9 o10=>ldD D W8 .sl b9 o10 fun a11=>dr c1 fun b12 o13=>ldD D W8 Ki b12 (o13+1) fun n14=>K (w64 ((a11.len:Int)-n14)) W8)):callK Pg 102 [Ap c1] w Oi K:=Fq (n:=(n0 .nil (n0 (n0 (.mk (some [.tmp 10 Lb]) [] [0] .done .nil .nil) .nil) (n0 (.mk none [] [] (tk [0,1,2,3,4,5,6,7,8,9,10] .done) .nil .nil) .nil)))) CS_ok mixed Tryz.func102 (Eq.mpr (by kernel_rfl) h)
theorem go_125(c1:PA)(most2:Int)(K:Int→Wp)(w:World)(h:joinK [.bool] (fun k3=>ifK c1.isNone (k3 true w) (dr c1 fun b4 o5=>ld w .bool b4 (o5+2) fun c6=>k3 c6 w)) fun t157 W8=>ifK t157 (K 0 W8) (drawK W8 fun D W9=>dr c1 fun b10 o11=>ldD D W9 .sl b10 o11 fun a12=>dr c1 fun b13 o14=>ldD D W9 Ki b13 (o14+1) fun n15=>slx a12 1 (some n15) none none fun s16=>callK Pg 141 [Az s16] W9 (.tup [Li,Li,Li]) fun n17 n18 n19 W20=>Mod D W9 W20∧joinK [.bool] (fun k21=>ifK (n19==0) (k21 (decide (most2<n17)) W20) (k21 false W20)) fun t3622 W23=>joinK [Ki] (fun k24=>ifK t3622 (k24 23 W23) (k24 n19 W23)) fun e25 W26=>ifK (e25 != 0) (callK Pg 142 [Ap c1,Ai e25] W26 (.tup []) fun W27=>K 0 W27) (dr c1 fun b28 o29=>ld W26 Ki b28 (o29+1) fun n30=>dr c1 fun b31 o32=>st W26 b31 (o32+1) [.int .i64 (w64 (n30+n18))] fun W33=>K n17 W33))):callK Pg 101 [Ap c1,Ai most2] w Oi K:=Fq (n:=(n0 .nil (n0 (n0 (.mk (some [.tmp 15 Lb]) [] [0,1] .done .nil .nil) .nil) (n0 (.mk none [] [] (tk [0,1,2,3,4,5,6,7,8] (.eff 9 (.take 10 (.take 11 (.take 12 (.take 13 (.take 14 (.take 15 (.take 16 .done))))))))) .nil .nil) (n0 (n0 (.mk (some [.tmp 36 Lb]) [] [0,5,6,7] .done .nil .nil) (.mk (some [.tmp 7 Li]) [] [0,5,6] .done .nil .nil)) .nil))))) CS_ok mixed Tryz.func101 (Eq.mpr (by kernel_rfl) h)
theorem go_126(c1:PA)(n2:Int)(K:Sl→Wp)(w:World)(h:joinK [.bool] (fun k3=>ifK c1.isNone (k3 true w) (dr c1 fun b4 o5=>ld w .bool b4 (o5+2) fun c6=>k3 c6 w)) fun t137 W8=>ifK t137 (K (⟨none,0,0⟩) W8) (ifK (decide (n2<0)) (callK Pg 142 [Ap c1,Ai 23] W8 (.tup []) fun W9=>K (⟨none,0,0⟩) W9) (callK Pg 102 [Ap c1] W8 Oi fun n10 W11=>ifK (decide (n10<n2)) (callK Pg 142 [Ap c1,Ai 20] W11 (.tup []) fun W12=>K (⟨none,0,0⟩) W12) (drawK W11 fun D W13=>dr c1 fun b14 o15=>ldD D W13 .sl b14 o15 fun a16=>dr c1 fun b17 o18=>ldD D W13 Ki b17 (o18+1) fun n19=>dr c1 fun b20 o21=>ldD D W13 Ki b20 (o21+1) fun n22=>slx a16 1 (some n19) (some (w64 (n22+n2))) none fun s23=>ap W13 5 1 1 [.int .u8 0] (⟨none,0,0⟩) s23 fun a24 W25=>Mod D W13 W25∧dr c1 fun b26 o27=>ld W25 Ki b26 (o27+1) fun n28=>dr c1 fun b29 o30=>st W25 b29 (o30+1) [.int .i64 (w64 (n28+n2))] fun W31=>K a24 W31)))):callK Pg 143 [Ap c1,Ai n2] w Oz K:=Fq (n:=(n0 .nil (n0 .nil (n0 (n0 (.mk (some [.tmp 13 Lb]) [] [0,1,5] .done .nil .nil) .nil) (n0 .nil (n0 .nil (n0 (.mk none [] [] (tk [0,1,2,3,4,5,6,7,8,9,10,11,12,13,14,15] (.eff 16 (.take 17 .done))) .nil .nil) .nil))))))) CS_ok mixed Tryz.func143 (Eq.mpr (by kernel_rfl) h)
theorem go_127(c1:PA)(most2:Int)(K:List UInt8→Wp)(w:World)(h:joinK [.bool] (fun k3=>ifK c1.isNone (k3 true w) (dr c1 fun b4 o5=>ld w .bool b4 (o5+2) fun c6=>k3 c6 w)) fun t157 W8=>ifK t157 (K [] W8) (dr c1 fun b9 o10=>ld W8 Ki b9 (o10+1) fun n11=>callK Pg 101 [Ap c1,Ai most2] W8 Oi fun n12 W13=>dr c1 fun b14 o15=>ld W13 .bool b14 (o15+2) fun c16=>ifK c16 (K [] W13) (callK Pg 102 [Ap c1] W13 Oi fun n17 W18=>ifK (decide (n17<n12)) (dr c1 fun b19 o20=>st W18 b19 (o20+1) [.int .i64 n11] fun W21=>callK Pg 142 [Ap c1,Ai 20] W21 (.tup []) fun W22=>K [] W22) (callK Pg 143 [Ap c1,Ai n12] W18 Oz fun a23 W24=>opF Pg (vS (convert 22 9 (LV.toV (.sl a23)))) W24 Ot fun s26 W25=>K s26 W25)))):callK Pg 103 [Ap c1,Ai most2] w Ot K:=Fq (n:=(n0 .nil (n0 (n0 (.mk (some [.tmp 15 Lb]) [] [0,1] .done .nil .nil) .nil) .nil))) CS_ok mixed Tryz.func103 (Eq.mpr (by kernel_rfl) h)
theorem rPut_ok{v:Nat}(hv:v<9223372036854775808){w:World}{K:Sl→Wp}(hK:∀w' ro s',At w F0 ro w'→VecL ro ET s' (putN v)→K s' w'):callK Pg c_117 [Ai (v:Int)] w Oz K:=by
 refine go_117 _ _ _ ?_;have hlen:(putN v).length≤9:=putN_len v 8 (by omega);refine ifK_f (Dcf (Int.not_lt.2 (Int.natCast_nonneg v))) ?_;refine join2 (fun (x:Int) (b:Sl) u=>∃(m:Nat) (t:Str) (ro:BL),x=(m:Int)∧m<128∧At w F0 ro u∧VecL ro ET b t∧t++putN m=putN v) ?_ ?_
 ·intro k hk;refine loop2 (k1:=Ki) (k2:=.sl) (fun (x:Int) (b:Sl) u=>∃(m:Nat) (t:Str) (ro:BL),x=(m:Int)∧m≤v∧At w F0 ro u∧VecL ro ET b t∧t++putN m=putN v) (fun x _ _=>x.toNat) (x1:=(v:Int)) (x2:=⟨none,0,0⟩) rfl rfl ⟨v,[],[],rfl,Nlr _,At.init w F0,VecL.nil ET,rfl⟩ ?_;rintro x b u ⟨m,t,ro,rfl,hm,hA,hV,he⟩;refine Iq (fun h=>?_) fun h=>?_
  ·have h:(128:Int)≤(m:Int):=odt h;have h:128≤m:=by omega
   have hlt:t.length≤9:=by
    have:=congrArg List.length he;rw [Lla] at this;omega
   have e1:((m:Int).tdiv 128)=((m/128:Nat):Int):=tdivN m 128;have e2:((m:Int).tmod 128)=((m%128:Nat):Int):=tmodN m 128;rw [e1,e2,w64N (by omega)];refine push_ok (m:=[]) hA hV (by omega) (c:=UInt8.ofNat (m%128+128)) ?_ fun s' ro' w' h' v' _=>⟨⟨m/128,_,ro',rfl,by omega,h',v',?_⟩,by omega⟩
   ·rw [u8_of _ (by omega),Wq (by omega) (by omega),wrap_u8];omega
   ·rw [Laa,List.singleton_append,←putN_big h];exact he
  ·have h:¬(128:Int)≤(m:Int):=odf h;exact hk _ _ _ ⟨m,t,ro,rfl,by omega,hA,hV,he⟩
 rintro x b u ⟨m,t,ro,rfl,hm,hA,hV,he⟩;rw [putN_small hm] at he;have hlt:t.length≤9:=by
  have:=congrArg List.length he;rw [Lla] at this;omega
 refine push_ok (m:=[]) hA hV (by omega) (c:=UInt8.ofNat m) ?_ fun s' ro' w' h' v' _=>?_
 ·rw [u8_of _ (by omega),wrap_u8];omega
 ·rw [he] at v';exact hK _ _ _ h' v'
theorem rGet_ok{w:World}{s:Sl}{t:Str}(hr:RdS w ET s t)(hl:t.length≤1099511627776){K:Int→Int→Int→Wp}(hK:K ((getN t).1:Int) ((getN t).2.1:Int) (getN t).2.2 w) :
  callK Pg c_118 [Az s] w (.tup [Li,Li,Li]) K:=by
 refine go_118 _ _ _ ?_;refine join0 (fun u=>u=w∧getN t=(0,0,20)) ?_ ?_;rotate_left
 ·rintro u ⟨rfl,e⟩;rw [e] at hK;exact hK
 intro k hk;refine loop3 (k1:=Ki) (k2:=Ki) (k3:=Ki) (fun (v:Int) (n:Int) (i:Int) u=>u=w∧∃m j:Nat,v=(m:Int)∧n=((128^j:Nat):Int)∧i=(j:Int)∧j≤t.length∧j≤8∧m<128^j∧getF j m (t.drop j)=getN t) (fun _ _ i _=>(t.length-i).toNat) (x1:=0) (x2:=1) (x3:=0) rfl rfl rfl ⟨rfl,0,0,rfl,rfl,rfl,by omega,by omega,by decide,rfl⟩ ?_;rintro v n i u ⟨rfl,m,j,rfl,rfl,rfl,hj,hj8,hm,hg⟩;rw [hr.len];refine Iq (fun h=>?_) fun h=>?_;rotate_left
 ·have h:t.length≤j:=dge h;rw [Ldn h] at hg;exact hk _ ⟨rfl,hg.symm⟩
 have hlt:j<t.length:=dlt h;have rd:∀{K:Int→Prop},K ((t[j]).toNat:Int)→Go.Vw.ix s 1 (j:Int) fun b o=>Go.Vw.ld u (.int .u8) b o K:=fun hK=>hr.byte rfl hlt fun b o _ hc=>Lq (k:=.int .u8) ((t[j]).toNat:Int) hc hK;have hx:t[j].toNat<256:=t[j].toNat_lt;rw [List.drop_eq_getElem_cons hlt] at hg;refine rd (rd ?_);have hp8:(128:Nat)^j≤128^8:=Nat.pow_le_pow_right (by decide) hj8;have hp8':(128:Nat)^8=72057594037927936:=by decide
 have hpos:0<(128:Nat)^j:=Nat.pow_pos (by decide);have hbd:m+(t[j].toNat%128)*128^j<9223372036854775808:=by
  have:(t[j].toNat%128)*128^j≤127*128^j:=Nat.mul_le_mul_right _ (by omega);omega
 have ev:w64 ((m:Int)+w64 (((w64 (t[j].toNat:Int)).tmod 128)*((128^j:Nat):Int)))=((m+(t[j].toNat%128)*128^j:Nat):Int):=by
  have e1:(((t[j].toNat:Nat):Int).tmod 128)=((t[j].toNat%128:Nat):Int):=tmodN _ 128;rw [w64N (by omega),e1,←Int.natCast_mul,w64N (by omega),←Int.natCast_add,w64N (by omega)]
 rw [ev];clear ev;generalize hcx:t[j]=x at hg hx rd hbd;unfold getF at hg;have hps:(128:Nat)^(j+1)=128^j*128:=Nat.pow_succ ..;generalize hpp:(128:Nat)^j=pw at hg hbd hp8 hpos hps ⊢;refine Iq (fun hs=>?_) fun hs=>?_
 ·have hs:((x.toNat:Nat):Int)<128:=odt hs;rw [if_neg (by omega),if_pos (by omega)] at hg;refine join1 (a:=.bool) (fun c v'=>c=decide (x.toNat=0∧0<j)∧v'=u) ?_ ?_
  ·intro k14 hk14;refine Iq (fun h0=>rd (hk14 _ _ ⟨?_,rfl⟩)) fun h0=>hk14 _ _ ⟨?_,rfl⟩
   ·have h0:(0:Int)<(j:Int):=odt h0;show (((x.toNat:Nat):Int)==0)=_;rw [Bei,beq_iff_eq,Det];omega
   ·have h0:¬(0:Int)<(j:Int):=odf h0;exact (Dcf (fun q=>by omega)).symm
  rintro c v' ⟨rfl,rfl⟩;refine Iq (fun h=>?_) fun h=>?_
  ·rw [if_pos (odt h)] at hg;rw [←hg] at hK;exact hK
  ·rw [if_neg (odf h)] at hg;rw [←hg] at hK;have em:x.toNat%128=x.toNat:=Nat.mod_eq_of_lt (by omega);rw [em,step64 (by omega)];exact hK
 have hs:¬((x.toNat:Nat):Int)<128:=odf hs;have e8:(((j:Nat):Int)==8)=decide (j=8):=by
  rw [Bei,beq_iff_eq,Det];omega
 rw [e8];refine Iq (fun h=>?_) fun h=>?_
 ·have h:j=8:=odt h;rw [if_pos ⟨h,by omega⟩] at hg;rw [←hg] at hK;exact hK
 have h:¬j=8:=odf h;rw [if_neg (fun q=>h q.1),if_neg (by omega)] at hg;have em:x.toNat%128=x.toNat-128:=by omega
 rw [em] at hbd ⊢;have eu:w64 ((pw:Int)*128)=((128^(j+1):Nat):Int):=by
  have hj7:(128:Nat)^j≤128^7:=Nat.pow_le_pow_right (by decide) (by omega);have hj7':(128:Nat)^7=562949953421312:=by decide
  rw [hpp] at hj7;rw [hps,Wq (by omega) (by omega)];omega
 rw [eu,step64 (by omega)];refine⟨⟨rfl,_,j+1,rfl,rfl,rfl,by omega,by omega,?_,hg⟩,by omega⟩;have:(x.toNat-128)*pw≤127*pw:=Nat.mul_le_mul_right _ (by omega);rw [hps];rw [hpp] at hm;omega
theorem rWord_ok{w:World}{s:Sl}{t:Str}(hr:RdS w ET s t)(hl:t.length≤1099511627776){K:Int→Wp}(hK:K (wordN t:Int) w):callK Pg c_119 [Az s] w (.one (.leaf (.int .u64))) K:=by
 refine go_119 _ _ _ ?_;refine join1 (a:=.int .u64) (fun (v:Int) u=>v=(wordN t:Int)∧u=w) ?_ (by rintro v u ⟨rfl,rfl⟩;exact hK);intro k hk;refine loop3 (k1:=.int .u64) (k2:=.int .u64) (k3:=Ki) (fun (v:Int) (n:Int) (i:Int) u=>u=w∧∃j:Nat,i=(j:Int)∧j≤min t.length 8∧v=(wordF (t.take j):Int)∧(j<8→n=((256^j:Nat):Int))) (fun _ _ i _=>(8-i).toNat) (x1:=0) (x2:=1) (x3:=0) rfl rfl rfl ⟨rfl,0,rfl,Nzl _,rfl,fun _=>rfl⟩ ?_;rintro v n i u ⟨rfl,j,rfl,hj,rfl,hn⟩;rw [hr.len];refine join1 (a:=.bool) (fun q v=>q=decide (j<t.length∧j<8)∧v=u) ?_ ?_
 ·intro k8 hk8;refine Iq (fun h=>hk8 _ _ ⟨?_,rfl⟩) fun h=>hk8 _ _ ⟨?_,rfl⟩
  ·have h:=dlt h;show decide ((j:Int)<8)=_;rw [Bei,Det,Det];omega
  ·have h:=dge h;exact (Dcf (by omega)).symm
 rintro q v ⟨rfl,rfl⟩;refine Iq (fun h=>?_) fun h=>?_
 ·have h:=odt h;have hjt:=h.1;have hj8:=h.2;rw [hn hj8];refine hr.byte rfl hjt fun b o _ hc=>Lq (k:=.int .u8) ((t[j]).toNat:Int) hc ?_;have hb:t[j].toNat<256:=t[j].toNat_lt;have hlen:(t.take j).length=j:=by rw [Llt];omega
  have hw:=wordF_lt (t.take j);rw [hlen] at hw;have hp7:(256:Nat)^j≤256^7:=Nat.pow_le_pow_right (by decide) (by omega);have hp7':(256:Nat)^7=72057594037927936:=by decide
  have hmul:t[j].toNat*256^j≤255*256^j:=Nat.mul_le_mul_right _ (by omega);have e1:IntKind.wrap .u64 (t[j].toNat:Int)=(t[j].toNat:Int):=by rw [wrap_u64];omega
  have e2:IntKind.wrap .u64 ((t[j].toNat:Int)*((256^j:Nat):Int))=((t[j].toNat*256^j:Nat):Int):=by rw [←Int.natCast_mul,wrap_u64];omega
  have e3:IntKind.wrap .u64 ((wordF (t.take j):Int)+((t[j].toNat*256^j:Nat):Int))=(wordF (t.take (j+1)):Int):=by
   rw [←Int.natCast_add,wrap_u64,List.take_add_one,Lge hjt,Option.toList_some,wordF_snoc,hlen];omega
  rw [e1,e2,e3];refine⟨⟨rfl,j+1,step64 (by omega),by omega,rfl,fun h8=>?_⟩,by rw [step64 (by omega)];omega⟩;have hp6:(256:Nat)^j≤256^6:=Nat.pow_le_pow_right (by decide) (by omega);have hp6':(256:Nat)^6=281474976710656:=by decide
  rw [Nat.pow_succ,wrap_u64,Int.natCast_mul];omega
 ·have h:=odf h;refine hk _ _ ⟨?_,rfl⟩;unfold wordN;by_cases h8:t.length≤8
  ·rw [Ltl (by omega),Ltl h8]
  ·have:j=8:=by omega
   rw [this]
theorem rFixed_ok{v n:Nat}(hv:v<18446744073709551616)(h1:1≤n)(h8:n≤8){w:World}{K:Sl→Wp}(hK:∀w' ro s',At w F0 ro w'→VecL ro ET s' (fixN v n)→K s' w'):callK Pg c_120 [.leaf (.int .u64 (v:Int)),Ai (n:Int)] w Oz K:=by
 refine go_120 _ _ _ _ ?_;refine join1 (a:=.bool) (fun b u=>b=false∧u=w) (fun k hk=>ifK_f (Dcf (by omega)) (hk _ _ ⟨Dcf (by omega),rfl⟩)) ?_;rintro b u ⟨rfl,rfl⟩;refine ifK_f rfl ?_;have hl:=fixN_length v n;refine join1 (a:=.sl) (fun (s:Sl) x=>∃ro,At u F0 ro x∧VecL ro ET s (fixN v n)) ?_ fun s x ⟨ro',hA,hv⟩=>hK _ _ _ hA hv;intro k hk;refine loop3 (k1:=.int .u64) (k2:=.sl) (k3:=Ki) (fun (z:Int) (s:Sl) (i:Int) x=>∃(j:Nat) (ro:BL),i=(j:Int)∧j≤n∧z=((v/256^j:Nat):Int)∧At u F0 ro x∧VecL ro ET s ((fixN v n).take j)) (fun _ _ i _=>(n-i).toNat) (x1:=(v:Int)) (x2:=⟨none,0,0⟩) (x3:=0) rfl rfl rfl ⟨0,[],rfl,by omega,by simp,At.init u F0,VecL.nil ET⟩ ?_;rintro z s i x ⟨j,ro,rfl,hj,rfl,hA,hvv⟩;refine Iq (fun h=>?_) fun h=>?_
 ·have hlt:j<n:=dlt h;have hdle:v/256^j≤v:=Nat.div_le_self _ _;have hjl:j<(fixN v n).length:=by omega
  have hg:=fixN_get (v:=v) hlt;refine push_ok (m:=[]) hA hvv (by rw [Llt];omega) (c:=UInt8.ofNat (v/256^j)) ?_ fun s' ro' w' h' v' _=>⟨⟨j+1,ro',step64 (by omega),hlt,?_,h',?_⟩,by rw [step64 (by omega)];omega⟩
  ·have e:(((v/256^j:Nat):Int).tmod 256)=((v/256^j%256:Nat):Int):=tmodN _ 256;rw [e,wrap_u8,UInt8.toNat_ofNat'];omega
  ·have e:(((v/256^j:Nat):Int).tdiv 256)=((v/256^j/256:Nat):Int):=tdivN _ 256;rw [e,wrap_u64,Nat.pow_succ,←Nat.div_div_eq_div_mul];have:v/256^j/256≤v:=Nat.le_trans (Nat.div_le_self _ _) hdle;generalize v/256^j/256=y at this;omega
  ·rw [List.take_add_one,hg];exact v'
 ·have hge:n≤j:=dge h;rw [Ltl (by omega)] at hvv;exact hk _ _ ⟨ro,hA,hvv⟩
theorem rCommon_ok{a b:Str}(ha:a.length≤1099511627776){w:World}{K:Int→Wp}(hK:∀w',Mod F0 w w'→K (comN a b:Int) w'):callK Pg c_121 [Au a,Au b] w Oi K:=by
 refine go_121 _ _ _ _ ?_;refine join1 (a:=Ki) (fun (n:Int) u=>n=(comN a b:Int)∧Mod F0 w u) ?_ (by rintro n u ⟨rfl,hM⟩;exact hK _ hM);intro k hk;refine loop1 (k:=Ki) (fun (i:Int) u=>Mod F0 w u∧∃j:Nat,i=(j:Int)∧j≤a.length∧comN a b=j+comN (a.drop j) (b.drop j)) (fun i _=>(a.length-i).toNat) (x:=0) rfl ⟨Mod.refl _ _,0,rfl,Nzl _,by simp⟩ ?_;rintro i u ⟨hM,j,rfl,hj,he⟩;have hM2:=mod0 hM (Mq u);refine join1 (a:=.bool) (fun q v=>q=decide (j<a.length∧j<b.length∧a[j]? = b[j]?)∧v=u.drew) ?_ ?_
 ·intro k7 hk7;refine⟨F0,Iq (fun h1=>Iq (fun h2=>?_) fun h2=>hk7 _ _ ⟨(Dcf fun q=>?_).symm,rfl⟩) fun h1=>hk7 _ _ ⟨(Dcf fun q=>?_).symm,rfl⟩⟩
  ·have h1:=dlt h1;have h2:=dlt h2;refine sx_at rfl h1 (sx_at rfl h2 (hk7 _ _ ⟨?_,rfl⟩));rw [Lge h1,Lge h2];rw [Bei,beq_iff_eq,Det,Option.some.injEq];constructor
   ·intro e;exact⟨h1,h2,UInt8.toNat_inj.1 (by omega)⟩
   ·rintro ⟨_,_,e⟩;rw [e]
  ·have:=dge h2;omega
  ·have:=dge h1;omega
 rintro q v ⟨rfl,rfl⟩;refine Iq (fun h=>?_) fun h=>?_
 ·obtain⟨h1,h2,h3⟩:=odt h;rw [Lge h1,Lge h2,Option.some.injEq] at h3;rw [List.drop_eq_getElem_cons h1,List.drop_eq_getElem_cons h2,comN_cons,if_pos h3] at he;refine⟨⟨hM2,j+1,step64 (by omega),by omega,by omega⟩,by rw [step64 (by omega)];omega⟩
 ·have h:=odf h;refine hk _ _ ⟨?_,hM2⟩;have hz:comN (a.drop j) (b.drop j)=0:=by
   by_cases h1:j<a.length
   ·by_cases h2:j<b.length
    ·rw [List.drop_eq_getElem_cons h1,List.drop_eq_getElem_cons h2,comN_cons,if_neg];intro e;exact h ⟨h1,h2,by rw [Lge h1,Lge h2,e]⟩
    ·have:=comN_le (a.drop j) (b.drop j);rw [Lld,Lld] at this;omega
   ·have:=comN_le (a.drop j) (b.drop j);rw [Lld,Lld] at this;omega
  rw [he,hz,Nat.add_zero]
theorem cmpN_com:∀a b:Str,cmpN a b=if comN a b=a.length∧comN a b=b.length then 0 else if comN a b=a.length then -1 else if comN a b=b.length then 1 else if (a.getD (comN a b) 0).toNat<(b.getD (comN a b) 0).toNat then -1 else 1
 | [],[]=>rfl
 | [],_::_=>rfl
 | _::_,[]=>rfl
 | x::a,y::b=>by
  rw [cmpN_cons,comN_cons];by_cases h:x=y
  ·subst h;rw [if_neg (Nat.lt_irrefl _),if_neg (Nat.lt_irrefl _),if_pos rfl,cmpN_com a b];simp only [Llc,Nat.add_right_cancel_iff,List.getD_cons_succ]
  ·have n1:¬(0=(x::a).length):=by simp
   have n2:¬(0=(y::b).length):=by simp
   rw [if_neg h,if_neg (fun q:0=(x::a).length∧0=(y::b).length=>n1 q.1),if_neg n1,if_neg n2];have hne:x.toNat≠y.toNat:=fun e=>h (UInt8.toNat_inj.1 e);show _=if x.toNat<y.toNat then (-1:Int) else 1;by_cases h1:x.toNat<y.toNat
   ·rw [if_pos h1,if_pos h1]
   ·rw [if_neg h1,if_neg h1,if_pos (by omega)]
theorem rCompare_ok{a b:Str}(ha:a.length≤1099511627776){w:World}{K:Int→Wp}(hK:∀w',Mod F0 w w'→K (cmpN a b) w'):callK Pg c_122 [Au a,Au b] w Oi K:=by
 refine go_122 _ _ _ _ ?_;refine rCommon_ok ha fun w2 M2=>?_;rw [cmpN_com] at hK;have hle:=comN_le a b;generalize comN a b=n at hK hle ⊢;have ea:(((n:Nat):Int)==((a.length:Nat):Int))=decide (n=a.length):=by rw [Bei,beq_iff_eq,Det];omega
 have eb:(((n:Nat):Int)==((b.length:Nat):Int))=decide (n=b.length):=by rw [Bei,beq_iff_eq,Det];omega
 rw [ea,eb];refine join1 (a:=.bool) (fun q v=>q=decide (n=a.length∧n=b.length)∧v=w2) ?_ ?_
 ·intro k hk;refine Iq (fun h=>hk _ _ ⟨?_,rfl⟩) fun h=>hk _ _ ⟨?_,rfl⟩
  ·have h:=odt h;rw [Bei,Det,Det];exact⟨fun q=>⟨h,q⟩,fun q=>q.2⟩
  ·have h:=odf h;exact (Dcf fun q=>h q.1).symm
 rintro q v ⟨rfl,rfl⟩;refine Iq (fun h=>?_) fun h=>?_
 ·rw [if_pos (odt h)] at hK;exact hK v M2
 rw [if_neg (odf h)] at hK;refine Iq (fun h1=>?_) fun h1=>?_
 ·rw [if_pos (odt h1)] at hK;exact hK v M2
 rw [if_neg (odf h1)] at hK;refine Iq (fun h2=>?_) fun h2=>?_
 ·rw [if_pos (odt h2)] at hK;exact hK v M2
 rw [if_neg (odf h2)] at hK;have h1:=odf h1;have h2:=odf h2;have l1:n<a.length:=by omega
 have l2:n<b.length:=by omega
 rw [Lgd,Lgd,Lge l1,Lge l2,Option.getD_some,Option.getD_some] at hK;refine⟨F0,sx_at rfl l1 (sx_at rfl l2 (Iq (fun h3=>?_) fun h3=>?_))⟩
 ·have h3:((a[n].toNat:Nat):Int)<((b[n].toNat:Nat):Int):=odt h3;rw [if_pos (by omega)] at hK;exact hK _ (mod0 M2 (Mq v))
 ·have h3:¬((a[n].toNat:Nat):Int)<((b[n].toNat:Nat):Int):=odf h3;rw [if_neg (by omega)] at hK;exact hK _ (mod0 M2 (Mq v))
theorem Fresh.stH{w u:World}{D:Nat→Prop}{M:BL}{b o:Nat}{X X':List Value}{vs:List LV}(h:Fresh w u D ((b,X)::M))(hl:o+vs.length≤X.length)(e:spl X o (vs.map LV.toV)=X'){K:Wp}(hK:∀u',Fresh w u' D ((b,X')::M)→K u'):Go.Vw.st u b o vs K:=
 h.stK 0 rfl hl fun u' h' _=>hK u' (by rw [List.set_cons_zero,e] at h';exact h')
theorem Fresh.stHM{w u:World}{D:Nat→Prop}{M:BL}{b o:Nat}{X X':List Value}{vs:List LV}(h:Fresh w u D ((b,X)::M))(hl:o+vs.length≤X.length)(e:spl X o (vs.map LV.toV)=X'){K:Wp}(hK:∀u',Fresh w u' D ((b,X')::M)→Mod (fun z=>z=b) u u'→K u'):Go.Vw.st u b o vs K:=
 h.stK 0 rfl hl fun u' h' hM=>hK u' (by rw [List.set_cons_zero,e] at h';exact h') hM
theorem mod1{b:Nat}{u v x:World}(h:Mod F0 u v)(k:Mod (fun z=>z=b) v x):Mod (fun z=>z=b) u x:=h.trans k (fun _ _ h=>h.elim) fun _ _ h=>h
theorem mod2{b:Nat}{u v x:World}(h:Mod (fun z=>z=b) u v)(k:Mod (fun z=>z=b) v x):Mod (fun z=>z=b) u x:=h.trans k (fun _ _ h=>h) fun _ _ h=>h
theorem mod3{b:Nat}{u v:World}(h:Mod F0 u v):Mod (fun z=>z=b) u v:=h.mono fun _ _ h=>h.elim
def RcC(s:Sl)(c:Cu)(x y:Int):List Value:=[(LV.sl s).toV,.int .i64 (c.at_:Int),(LV.bool (decide (c.e≠0))).toV,.int .i64 x,.int .i64 y]
structure RcF(w u:World)(bc:Nat)(sC:Sl)(M:BL)(c:Cu):Prop where
 f:∃x y,Fresh w u F0 ((bc,RcC sC c x y)::M)
 own:OwnL M ET sC c.b
 ok:c.Ok
section
variable {w u u':World}{bc:Nat}{sC:Sl}{M:BL}{c:Cu}
theorem RcF.blk(h:RcF w u bc sC M c):∃x y,Blk u bc (RcC sC c x y):=let ⟨x,y,h⟩:=h.f;⟨x,y,h.own _ (Lcs ..)⟩
theorem RcF.rd(h:RcF w u bc sC M c):RdS u ET sC c.b:=let ⟨_,_,hf⟩:=h.f;h.own.rd fun p hp=>hf.own p (Lmc _ hp)
theorem RcF.quiet(h:RcF w u bc sC M c)(hM:Mod F0 u u'):RcF w u' bc sC M c:=⟨let ⟨x,y,h⟩:=h.f;⟨x,y,h.quiet hM⟩,h.own,h.ok⟩
theorem RcF.more(h:RcF w u bc sC M c){ro:BL}(k:Fresh u u' F0 ro):RcF w u' bc sC (M++ro) c:=by
 obtain⟨x,y,hf⟩:=h.f;refine⟨⟨x,y,hf.join k (fun _ _ h=>h.elim) fun _ _ _ h=>h⟩,h.own.mono fun p hp=>Lml _ hp,h.ok⟩
theorem RcF.sub(h:RcF w u bc sC M c){M':BL}(hs:M'.Sublist M)(ho:OwnL M' ET sC c.b):RcF w u bc sC M' c:=⟨let ⟨x,y,h⟩:=h.f;⟨x,y,h.sub (hs.cons_cons _)⟩,ho,h.ok⟩
theorem RcF.m(h:RcF w u bc sC M c){p:Nat×List Value}(hp:p∈M):Blk u p.1 p.2:=let ⟨_,_,h⟩:=h.f;h.own p (Lmc _ hp)
theorem rFail_ok(h:RcF w u bc sC M c)(h0:c.e=0){e:Int}(he:e≠0){K:Wp}(hK:∀u',RcF w u' bc sC M ⟨c.b,c.at_,e⟩→Mod (fun z=>z=bc) u u'→K u') :
  callK Pg c_123 [Ap (some (bc,0)),Ai e] u (.tup []) K:=by
 refine go_123 _ _ _ _ ?_;obtain⟨x,y,hf⟩:=h.f;have hB:Blk u bc (RcC sC c x y):=hf.own _ (Lcs ..);refine join1 (a:=.bool) (fun q v=>q=false∧v=u) (fun k hk=>ifK_f rfl (Dq (hB.ldK (k:=.bool) (decide (c.e≠0)) rfl (ifK_f (by simpa using h0) (hk _ _ ⟨by simpa using he,rfl⟩))))) ?_;rintro q v ⟨rfl,rfl⟩;refine ifK_f rfl (Dq (hf.stHM (by decide:2+1≤5) rfl fun u1 f1 M1=>Dq ?_));have hB1:Blk u1 bc _:=f1.own _ (Lcs ..);refine hB1.ldK (k:=Ki) (c.at_:Int) rfl (Dq (f1.stHM (by decide:3+2≤5) (X':=RcC sC ⟨c.b,c.at_,e⟩ e (c.at_:Int)) ?_ fun u2 f2 M2=>hK u2 ⟨⟨_,_,f2⟩,h.own,h.ok.le,h.ok.len⟩ (mod2 M1 M2)));unfold RcC;rw [Dct he];rfl
theorem rRest_ok(h:RcF w u bc sC M c){K:Int→Wp}(hK:∀u',RcF w u' bc sC M c→Mod F0 u u'→K (c.rest:Int) u') :
  callK Pg c_124 [Ap (some (bc,0))] u Oi K:=by
 refine go_124 _ _ _ ?_;obtain⟨x,y,hB⟩:=h.blk;unfold Cu.rest at hK;refine join1 (a:=.bool) (fun q v=>q=decide (c.e≠0)∧v=u) (fun k hk=>ifK_f rfl (Dq (hB.ldK (k:=.bool) (decide (c.e≠0)) rfl (hk _ _ ⟨rfl,rfl⟩)))) ?_;rintro q v ⟨rfl,rfl⟩;refine Iq (fun q=>?_) fun q=>?_
 ·rw [if_pos (odt q)] at hK;exact hK v h (Mod.refl _ _)
 rw [if_neg (odf q)] at hK;have hB2:=(Mq v).blk hB id;refine⟨F0,Dq (hB2.ldDK (k:=.sl) sC id rfl (Dq (hB2.ldDK (k:=Ki) (c.at_:Int) id rfl ?_)))⟩;have hle:=h.ok.le;have hln:=h.ok.len;have e:w64 ((sC.len:Int)-(c.at_:Int))=(c.left.length:Int):=by
  unfold Cu.left;rw [h.rd.len,Lld,Wq (by omega) (by omega)];omega
 rw [e];exact hK _ (h.quiet (Mq v)) (Mq v)
theorem rNum_ok(h:RcF w u bc sC M c){most:Int}{K:Int→Wp}(hK:∀u',RcF w u' bc sC M (c.num most).2→Mod (fun z=>z=bc) u u'→K (c.num most).1 u') :
  callK Pg c_125 [Ap (some (bc,0)),Ai most] u Oi K:=by
 refine go_125 _ _ _ _ ?_;obtain⟨x,y,hB⟩:=h.blk;refine join1 (a:=.bool) (fun q v=>q=decide (c.e≠0)∧v=u) (fun k hk=>ifK_f rfl (Dq (hB.ldK (k:=.bool) (decide (c.e≠0)) rfl (hk _ _ ⟨rfl,rfl⟩)))) ?_;rintro q v ⟨rfl,rfl⟩;unfold Cu.num at hK;refine Iq (fun q=>?_) fun q=>?_
 ·rw [if_pos (odt q)] at hK;exact hK v h (Mod.refl _ _)
 rw [if_neg (odf q)] at hK;have he0:c.e=0:=by simpa using odf q
 have hd:=h.quiet (Mq v);obtain⟨x,y,hB2⟩:=hd.blk;have hle:=h.ok.le;have hln:=h.ok.len;refine⟨F0,Dq (hB2.ldDK (k:=.sl) sC id rfl (Dq (hB2.ldDK (k:=Ki) (c.at_:Int) id rfl (hd.rd.fromK hle rfl rfl fun s' hs' _=>?_))))⟩;have hll:c.left.length≤1099511627776:=by unfold Cu.left;rw [Lld];omega
 refine rGet_ok hs' hll ?_;have hgl:=getN_len c.left;have hgv:=getN_val c.left;dsimp only at hK;show Mod F0 v.drew v.drew∧_;have ecl:getN (c.b.drop c.at_)=getN c.left:=rfl;rw [ecl];generalize getN c.left=g at hK hgl hgv ⊢;refine⟨Mod.refl _ _,?_⟩;refine join1 (a:=.bool) (fun q z=>q=decide (g.2.2=0∧most<(g.1:Int))∧z=v.drew) ?_ ?_
 ·intro k hk;refine Iq (fun q1=>hk _ _ ⟨?_,rfl⟩) fun q1=>hk _ _ ⟨?_,rfl⟩
  ·have q1:g.2.2=0:=by simpa using q1
   show decide (most<(g.1:Int))=_;rw [Bei,Det,Det];exact⟨fun h=>⟨q1,h⟩,fun h=>h.2⟩
  ·have q1:¬g.2.2=0:=by simpa using q1
   exact (Dcf fun h=>q1 h.1).symm
 rintro q z ⟨rfl,rfl⟩;refine join1 (a:=Ki) (fun (e:Int) z=>e=(if g.2.2=0∧most<(g.1:Int) then 23 else g.2.2)∧z=v.drew) ?_ ?_
 ·intro k hk;refine Iq (fun q1=>hk _ _ ⟨?_,rfl⟩) fun q1=>hk _ _ ⟨?_,rfl⟩
  ·rw [if_pos (odt q1)]
  ·rw [if_neg (odf q1)]
 rintro e z ⟨rfl,rfl⟩;generalize (if g.2.2=0∧most<(g.1:Int) then (23:Int) else g.2.2)=e at hK ⊢;refine Iq (fun q2=>?_) fun q2=>?_
 ·have q2:e≠0:=by simpa using q2
  rw [if_neg q2,show c.go g.2.1 e=⟨c.b,c.at_,e⟩ by unfold Cu.go;rw [if_neg q2]] at hK;exact rFail_ok hd he0 q2 fun u' h' M'=>hK u' h' (mod1 (Mq v) M')
 ·have q2:e=0:=by simpa using q2
  rw [if_pos q2,show c.go g.2.1 e=⟨c.b,c.at_+g.2.1,0⟩ by unfold Cu.go;rw [if_pos q2]] at hK;refine Dq (hB2.ldK (k:=Ki) (c.at_:Int) rfl (Dq ?_));obtain⟨x,y,hf⟩:=hd.f;have hll2:c.left.length=c.b.length-c.at_:=by unfold Cu.left;rw [Lld]
  have ew:w64 ((c.at_:Int)+(g.2.1:Int))=((c.at_+g.2.1:Nat):Int):=by rw [Wq (by omega) (by omega)];omega
  rw [ew];refine hf.stHM (by decide:1+1≤5) (X':=RcC sC ⟨c.b,c.at_+g.2.1,0⟩ x y) ?_ fun u' hu' M'=>hK u' ⟨⟨_,_,hu'⟩,h.own,by show c.at_+g.2.1≤c.b.length;omega,h.ok.len⟩ (mod1 (Mq v) M');unfold RcC;rw [Dcf (by simpa using he0)];rfl
theorem rTake_ok(h:RcF w u bc sC M c){n:Int}{K:Sl→Wp}(hK:∀u' s ro,RcF w u' bc sC (M++ro) (c.take n).2→VecL ro ET s (c.take n).1→Mod (fun z=>z=bc) u u'→K s u') :
  callK Pg c_126 [Ap (some (bc,0)),Ai n] u Oz K:=by
 refine go_126 _ _ _ _ ?_;obtain⟨x,y,hB⟩:=h.blk;refine join1 (a:=.bool) (fun q v=>q=decide (c.e≠0)∧v=u) (fun k hk=>ifK_f rfl (Dq (hB.ldK (k:=.bool) (decide (c.e≠0)) rfl (hk _ _ ⟨rfl,rfl⟩)))) ?_;rintro q v ⟨rfl,rfl⟩;refine Iq (fun q=>?_) fun q=>?_
 ·have e:c.take n=([],c):=by unfold Cu.take;rw [if_pos (odt q)]
  rw [e] at hK;exact hK v _ [] (by rw [Lan];exact h) (VecL.nil ET) (Mod.refl _ _)
 have he0:c.e=0:=by simpa using odf q
 rw [Cu.take_eq he0] at hK;unfold takeE at hK;refine Iq (fun q1=>?_) fun q1=>?_
 ·have q1:n<0:=odt q1;rw [if_pos q1,if_neg (by decide),show c.go n.toNat 23=⟨c.b,c.at_,23⟩ from rfl] at hK;exact rFail_ok h he0 (by decide) fun u' hu' M'=>hK u' _ [] (by rw [Lan];exact hu') (VecL.nil ET) M'
 have q1:¬n<0:=odf q1;rw [if_neg q1] at hK;refine rRest_ok h fun u1 h1 M1=>?_;have er:c.rest=c.left.length:=by unfold Cu.rest;rw [if_neg (by simpa using he0)]
 rw [er];refine Iq (fun q2=>?_) fun q2=>?_
 ·have q2:(c.left.length:Int)<n:=odt q2;rw [if_pos q2,if_neg (by decide),show c.go n.toNat 20=⟨c.b,c.at_,20⟩ from rfl] at hK;exact rFail_ok h1 he0 (by decide) fun u' hu' M'=>hK u' _ [] (by rw [Lan];exact hu') (VecL.nil ET) (mod1 M1 M')
 have q2:¬(c.left.length:Int)<n:=odf q2;rw [if_neg q2,if_pos rfl,show c.go n.toNat 0=⟨c.b,c.at_+n.toNat,0⟩ from rfl] at hK;have hd:=h1.quiet (Mq u1);obtain⟨x,y,hf⟩:=hd.f;have hB2:Blk u1.drew bc (RcC sC c x y):=hf.own _ (Lcs ..);have hle:=h.ok.le;have hln:=h.ok.len;have hll2:c.left.length=c.b.length-c.at_:=by unfold Cu.left;rw [Lld]
 have en:n=(n.toNat:Int):=by omega
 generalize n.toNat=k at en hK;subst en;have ew:w64 ((c.at_:Int)+(k:Int))=((c.at_+k:Nat):Int):=by rw [Wq (by omega) (by omega)];omega
 refine⟨F0,Dq (hB2.ldDK (k:=.sl) sC id rfl (Dq (hB2.ldDK (k:=Ki) (c.at_:Int) id rfl (Dq (hB2.ldDK (k:=Ki) (c.at_:Int) id rfl ?_)))))⟩;rw [ew];refine hd.rd.partK (by omega) (by omega) rfl rfl rfl fun s' hs' _=>?_;have hp:(c.b.take (c.at_+k)).drop c.at_=c.left.take k:=by
  unfold Cu.left;rw [List.drop_take,Nat.add_sub_cancel_left]
 rw [hp] at hs';refine Fresh.app (m:=(bc,RcC sC c x y)::M) (ro:=[]) (by rw [Lan];exact hf) (VecL.nil ET) hs' rfl rfl (by simp;omega) fun s2 ro u2 hf2 v2 M2=>?_;have hM2:Mod F0 u1.drew u2:=M2.mono fun x _ h=>by obtain⟨p,hp,_⟩:=h;cases hp
 refine⟨hM2,Dq ?_⟩;have hf2:Fresh w u2 F0 ((bc,RcC sC c x y)::(M++ro)):=hf2;have hB3:Blk u2 bc (RcC sC c x y):=hf2.own _ (Lcs ..);refine hB3.ldK (k:=Ki) (c.at_:Int) rfl (Dq ?_);rw [ew];refine hf2.stHM (by decide:1+1≤5) (X':=RcC sC ⟨c.b,c.at_+k,0⟩ x y) ?_ fun u' hu' M'=>hK u' s2 ro ⟨⟨_,_,hu'⟩,h.own.mono fun p hp=>Lml _ hp,by show c.at_+k≤c.b.length;omega,h.ok.len⟩ (by simpa using v2) (mod1 (mod0 (mod0 M1 (Mq u1)) hM2) M');unfold RcC;rw [Dcf (by simpa using he0)];rfl
theorem text_num(c:Cu)(most:Int):c.text most=if c.e≠0 then ([],c) else if (c.num most).2.e≠0 then ([],(c.num most).2) else if ((c.num most).2.rest:Int)<(c.num most).1 then ([],⟨c.b,c.at_,20⟩) else (c.num most).2.take (c.num most).1:=by
 unfold Cu.text;by_cases he:c.e≠0
 ·rw [if_pos he,if_pos he]
 rw [if_neg he,if_neg he];have hgl:=getN_len c.left;have hll2:c.left.length=c.b.length-c.at_:=by unfold Cu.left;rw [Lld]
 have hT:textE most c.left=if (getN c.left).2.2≠0 then (getN c.left).2.2 else if most<((getN c.left).1:Int) then 23 else if (c.left.length:Int)-((getN c.left).2.1:Int)<((getN c.left).1:Int) then 20 else 0:=rfl;have hN:c.num most=(if (if (getN c.left).2.2=0∧most<((getN c.left).1:Int) then (23:Int) else (getN c.left).2.2)=0 then ((getN c.left).1:Int) else 0,c.go (getN c.left).2.1 (if (getN c.left).2.2=0∧most<((getN c.left).1:Int) then 23 else (getN c.left).2.2)):=by unfold Cu.num;rw [if_neg he]
 unfold textV textL;generalize hG:getN c.left=g at hgl hT hN;have go0:∀n,c.go n 0=⟨c.b,c.at_+n,0⟩:=fun n=>rfl;have goE:∀n e,e≠0→c.go n e=⟨c.b,c.at_,e⟩:=fun n e h=>by unfold Cu.go;rw [if_neg h]
 by_cases h1:g.2.2≠0
 ·rw [if_pos h1] at hT;have hE:(if g.2.2=0∧most<(g.1:Int) then (23:Int) else g.2.2)=g.2.2:=if_neg fun h=>h1 h.1;rw [hE,if_neg h1,goE _ _ h1] at hN;rw [hT,hN,if_neg h1,goE _ _ h1,if_pos h1]
 rw [if_neg h1] at hT;have h1:g.2.2=0:=by simpa using h1
 by_cases h2:most<(g.1:Int)
 ·rw [if_pos h2] at hT;have hE:(if g.2.2=0∧most<(g.1:Int) then (23:Int) else g.2.2)=23:=if_pos ⟨h1,h2⟩;rw [hE,if_neg (by decide),goE _ _ (by decide)] at hN;rw [hT,hN,if_neg (by decide),goE _ _ (by decide),if_pos (by show (23:Int)≠0;decide)]
 rw [if_neg h2] at hT;have hE:(if g.2.2=0∧most<(g.1:Int) then (23:Int) else g.2.2)=0:=by rw [if_neg fun h=>h2 h.2,h1]
 rw [hE,if_pos rfl,go0] at hN;rw [hN];have hcond:¬((g.1:Int),Cu.mk c.b (c.at_+g.2.1) 0).2.e≠0:=fun h=>h rfl;rw [if_neg hcond];have e2:(Cu.mk c.b (c.at_+g.2.1) 0).rest=c.left.length-g.2.1:=by
  unfold Cu.rest Cu.left;rw [if_neg (fun h=>h rfl),Lld,Lld];show c.b.length-(c.at_+g.2.1)=_;omega
 dsimp only;rw [e2];by_cases h3:(c.left.length:Int)-(g.2.1:Int)<(g.1:Int)
 ·rw [if_pos h3] at hT;rw [hT,if_neg (by decide:¬(20:Int)=0),goE _ _ (by decide),if_pos (by omega)]
 rw [if_neg h3] at hT;rw [hT,if_pos rfl,if_neg (by omega),go0];have e3:(Cu.mk c.b (c.at_+g.2.1) 0).left=c.left.drop g.2.1:=by unfold Cu.left;rw [List.drop_drop]
 rw [Cu.take_eq (c:=⟨c.b,c.at_+g.2.1,0⟩) rfl,e3];have e4:takeE (g.1:Int) (c.left.drop g.2.1).length=0:=by
  unfold takeE;rw [if_neg (by omega),Lld,if_neg (by omega)]
 rw [e4,if_pos rfl,Itn];unfold Cu.go;rw [if_pos rfl];show (_,Cu.mk _ _ _)=(_,Cu.mk _ _ _);rw [Nat.add_assoc]
theorem rText_ok(h:RcF w u bc sC M c){most:Int}{K:Str→Wp}(hK:∀u',RcF w u' bc sC M (c.text most).2→Mod (fun z=>z=bc) u u'→K (c.text most).1 u') :
  callK Pg c_127 [Ap (some (bc,0)),Ai most] u Ot K:=by
 refine go_127 _ _ _ _ ?_;obtain⟨x,y,hB⟩:=h.blk;refine join1 (a:=.bool) (fun q v=>q=decide (c.e≠0)∧v=u) (fun k hk=>ifK_f rfl (Dq (hB.ldK (k:=.bool) (decide (c.e≠0)) rfl (hk _ _ ⟨rfl,rfl⟩)))) ?_;rintro q v ⟨rfl,rfl⟩;rw [text_num] at hK;refine Iq (fun q=>?_) fun q=>?_
 ·rw [if_pos (odt q)] at hK;exact hK v h (Mod.refl _ _)
 rw [if_neg (odf q)] at hK;have he0:c.e=0:=by simpa using odf q
 refine Dq (hB.ldK (k:=Ki) (c.at_:Int) rfl (rNum_ok h fun u1 h1 M1=>Dq ?_));have hnb:=num_b c most;generalize c.num most=N at hK h1 hnb ⊢;obtain⟨n,c1⟩:=N;dsimp only at hK h1 hnb ⊢;obtain⟨x1,y1,hB1⟩:=h1.blk;refine hB1.ldK (k:=.bool) (decide (c1.e≠0)) rfl (Iq (fun q1=>?_) fun q1=>?_)
 ·rw [if_pos (odt q1)] at hK;exact hK u1 h1 M1
 rw [if_neg (odf q1)] at hK;have he1:c1.e=0:=by simpa using odf q1
 refine rRest_ok h1 fun u2 h2 M2=>Iq (fun q2=>?_) fun q2=>?_
 ·rw [if_pos (odt q2)] at hK;obtain⟨x2,y2,hf2⟩:=h2.f;refine Dq (hf2.stHM (by decide:1+1≤5) (X':=RcC sC ⟨c1.b,c.at_,0⟩ x2 y2) ?_ fun u3 hu3 M3=>?_)
  ·unfold RcC;rw [Dcf (by simpa using he1)];rfl
  have h3:RcF w u3 bc sC M ⟨c1.b,c.at_,0⟩:=⟨⟨_,_,hu3⟩,h2.own,by show c.at_≤c1.b.length;rw [hnb];exact h.ok.le,h2.ok.len⟩;refine rFail_ok h3 rfl (by decide) fun u4 h4 M4=>hK u4 ?_ (mod2 (mod2 (mod2 M1 (mod3 M2)) M3) M4);rw [←hnb];exact h4
 ·rw [if_neg (odf q2)] at hK;refine rTake_ok h2 fun u3 s ro h3 v3 M3=>?_;refine convT (v3.rd fun p hp=>h3.m (Lmr _ hp)) ?_;refine hK u3 (h3.sub (Lsl _ _) ?_) (mod2 (mod2 M1 (mod3 M2)) M3);rw [take_b];exact h2.own
theorem rNewCursor_ok{w:World}{s:Sl}{t:Str}(hr:RdS w ET s t)(hl:t.length≤1099511627776){K:PA→Wp}(hK:∀w' bc sC ro,RcF w w' bc sC ro ⟨t,0,0⟩→K (some (bc,0)) w') :
  callK Pg c_128 [Az s] w Oq K:=by
 refine go_128 _ _ _ ?_;refine (Fresh.start w F0).alK fun b w1 f1 _ M1=>Dq ?_;have f1:Fresh w w1 F0 [(b,RcC ⟨none,0,0⟩ ⟨t,0,0⟩ 0 0)]:=f1;have hB1:Blk w1 b (RcC ⟨none,0,0⟩ ⟨t,0,0⟩ 0 0):=f1.own _ (Lcs ..);refine hB1.ldK (k:=.sl) ⟨none,0,0⟩ rfl ?_;refine Fresh.app (m:=[(b,RcC ⟨none,0,0⟩ ⟨t,0,0⟩ 0 0)]) (ro:=[]) (by rw [Lan];exact f1) (VecL.nil ET) (hr.quiet M1) rfl rfl (by simp;omega) fun s2 ro w2 f2 v2 M2=>Dq ?_;have f2:Fresh w w2 F0 ((b,RcC ⟨none,0,0⟩ ⟨t,0,0⟩ 0 0)::ro):=f2;refine f2.stH (by decide:0+1≤5) (X':=RcC s2 ⟨t,0,0⟩ 0 0) rfl fun w3 f3=>hK w3 b s2 ro ⟨⟨0,0,f3⟩,⟨ro,by simpa using v2,fun _ h=>h⟩,Nzl _,hl⟩
end
end Go.Proofs.YtkofkhjcfjoceaaGreat
