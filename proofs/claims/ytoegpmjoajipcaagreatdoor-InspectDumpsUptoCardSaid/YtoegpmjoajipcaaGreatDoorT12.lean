/- Part T12. -/
import Derived.Test.YtoegpmjoajipcaaGreatDoorT11
import Derived.Test.YtoegpmjoajipcaaGreatDoorT03
namespace Go.Proofs.YtoegpmjoajipcaaGreatDoor
open Go.Vw
open Go
structure Mkr{σ:Type}(J:Inv)(w0:World)(v:Value)(step:σ→Ev→σ)(size:σ→Nat)(Own:σ→BL→Prop):Prop where
 cell:isCell v=true
 av_in:∀s m,Own s m→∀b,J.av b→Ks m b
 grows:∀s e,size (step s e)≤size s+1
 trailer:∀{X m:BL} {u:World} {s:σ} {a b tb tp:Int} {ok:Bool} {K:Wp},Mod F0 w0 u→J.p u→At u (Ks (X++m)) (X++m) u→Own s m→size s≤4280000000→rngE (.trailer a b tb tp ok)→(∀u' m',At u (Ks (X++m)) (X++m') u'→J.p u'→Own (step s (.trailer a b tb tp ok)) m'→K u') →
  callI Tryz.prog v "winnow/inspect.trailer" [.agg [.int .i64 a,.int .i64 b],.agg [.int .i64 tb,.int .i64 tp],Ab ok] u (.tup []) K
 page:∀{X m:BL} {u:World} {s:σ} {p:PgP} {K:Wp},Mod F0 w0 u→J.p u→At u (Ks (X++m)) (X++m) u→Own s m→size s≤4280000000→rngE (.page p)→(∀u' m',At u (Ks (X++m)) (X++m') u'→J.p u'→Own (step s (.page p)) m'→K u') →
  callI Tryz.prog v "winnow/inspect.page" [.agg [.int .i64 p.frm,.int .i64 p.to],Ab (p.ok)] u (.tup []) K
 footer:∀{X m:BL} {u:World} {s:σ} {a b P:Int} {sl:Sl} {l:List PartI} {ok:Bool} {K:Wp},Mod F0 w0 u→J.p u→At u (Ks (X++m)) (X++m) u→Own s m→size s≤4280000000→rngE (.footer a b P l ok)→(∀u' m',At u (Ks (X++m)) (X++m') u'→J.p u'→Own (step s (.footer a b P l ok)) m'→K u') →
  callI Tryz.prog v "winnow/inspect.footer" [.agg [.int .i64 a,.int .i64 b],.agg [.int .i64 P,.sl sl],Ab ok] u (.tup []) K
 part:∀{X m:BL} {u:World} {s:σ} {p:PI} {x:PartI} {K:Wp},Mod F0 w0 u→J.p u→At u (Ks (X++m)) (X++m) u→Own s m→size s≤4280000000→rngE (.part x)→p.part=x.part→p.sb.len=x.blocks.length→p.all=x.flt.all→p.hashes=x.flt.hashes→p.sd.len=x.flt.data.length→(∀u' m',At u (Ks (X++m)) (X++m') u'→J.p u'→Own (step s (.part x)) m'→K u') →
  callI Tryz.prog v "winnow/inspect.part" [.agg [.int .i64 p.part,.sl p.sb,.bool p.all,.int .i64 p.hashes,.sl p.sd]] u (.tup []) K
 block:∀{X m:BL} {u:World} {s:σ} {x:BlkP} {K:Wp},Mod F0 w0 u→J.p u→At u (Ks (X++m)) (X++m) u→Own s m→size s≤4280000000→rngE (.block x)→(∀u' m',At u (Ks (X++m)) (X++m') u'→J.p u'→Own (step s (.block x)) m'→K u') →
  callI Tryz.prog v "winnow/inspect.block" [.agg [.int .i64 x.frm,.int .i64 x.to],.agg [.int .i64 x.info.stored,.int .i64 x.info.raw,.int .i64 x.info.count,.str x.info.cut],.leaf (.int .u8 (x.flag:Int)),Ai (x.how)] u (.tup []) K
 record:∀{X m:BL} {u:World} {s:σ} {part:Int} {k z:Str} {K:Wp},Mod F0 w0 u→J.p u→At u (Ks (X++m)) (X++m) u→Own s m→size s≤4280000000→rngE (.record part k z)→(∀u' m',At u (Ks (X++m)) (X++m') u'→J.p u'→Own (step s (.record part k z)) m'→K u') →
  callI Tryz.prog v "winnow/inspect.record" [Ai part,Au k,Au z] u (.tup []) K
def marksX(rs:List Nat):List (Nat×Obj):=rs.map fun r=>(r,Mk)
theorem closes{J:Inv}{w0:World}{D:Nat→Prop}{m:BL}:∀(rs:List Nat) {w:World} {K:Wp},FA J w0 D (marksX rs) m w→(∀w',At w0 D m w'→J.p w'→K w')→closeK rs w K
 | [],w,K,h,hK=>hK w h.at_ h.inv
 | r::rs,w,K,h,hK=>by
  refine⟨h.far (r,Mk) (by simp [marksX]),?_⟩;have h':FA J w0 D ((r,Mk)::marksX rs) m w:=h;exact closes rs ((h'.put (o':=.deferred none) rfl).less (List.sublist_cons_self _ _)) hK
theorem join4{a b c d:Kd}{A:(Den a→Den b→Den c→Den d→Wp)→Prop}{K:Den a→Den b→Den c→Den d→Wp}(R:Den a→Den b→Den c→Den d→Wp)
  (hA:∀k:Den a→Den b→Den c→Den d→Wp,(∀x y z v w,R x y z v w→k x y z v w)→A k) (hK:∀x y z v w,R x y z v w→K x y z v w):joinK [a,b,c,d] A K:=hA K hK
theorem chkB_mem:∀{l:List BI} {key:Str},chkB l key=true→∀b∈l,rightD b=true
 | x::l,key,h,b,hb=>by
  rw [chkB_cons,Bat] at h;rcases List.mem_cons.1 hb with rfl | hb
  ·rw [rightB_D,Bat] at h;exact h.1.1
  ·exact chkB_mem h.2 b hb
theorem flag_eq{tile:Str}(h:5≤tile.length):((tile[tile.length-5]'(by omega)).toNat:Int)=(flagP tile:Int):=by
 unfold flagP;rw [Lgd,Lge (by omega),Option.getD_some]
theorem getD_memD{α:Type}{l:List α}{d:α}{i:Nat}(h:i<l.length):l.getD i d∈l:=by
 rw [Lgd,Lge h,Option.getD_some];exact List.getElem_mem h
theorem blk_rng{at_:Int}{b:BI}{part:Int}{tile:Str}{how:Int}{e:List (Str×Str)}(h0:0≤at_)(hb:1≤b.stored∧b.stored≤65536∧1≤b.raw∧b.raw≤65536∧b.raw≤64*b.stored∧1≤b.count∧b.count≤b.raw∧b.cut.length≤64)(h1:at_+b.stored+5≤1048576):rngE (.block ⟨at_,at_+b.stored+5,b,part,flagP tile,how,e⟩):=by
 have hf:flagP tile<256:=UInt8.toNat_lt _;refine⟨⟨h0,?_⟩,⟨?_,?_⟩,⟨?_,?_⟩,⟨?_,?_⟩,⟨?_,?_⟩,hf,?_⟩<;>dsimp only<;>omega
section
variable {σ:Type}{J:Inv}{v:Value}{step:σ→Ev→σ}{size:σ→Nat}{Own:σ→BL→Prop}{w0 w:World}{sf:Sl}{file:Str}
set_option maxHeartbeats 4000000 in
theorem blocks_in(hM:Mkr J w0 v step size Own)(hf:RdS w0 ET sf file)(hfl:file.length≤1048576){X m R:BL}{s:σ}(hA:At w0 F0 (X++m) w)(hj:J.p w)(ho:Own s m){p:PI}{x:PartI}(hpp:p.part=x.part)(hbl:OwnL R EBI p.sb x.blocks)(hRX:∀q∈R,q∈X)(hlb:x.blocks.length≤262144)
  {at0:Int} (ha0:0≤at0) (hchk:chkB x.blocks []=true) (hsp:at0+spB x.blocks≤file.length) (hsz:size s+21846*x.blocks.length≤4280000000) {K:Int→Wp}
  (hK:∀w' m',At w0 F0 (X++m') w'→J.p w'→Own (((blksP file x.part x.blocks at0 [] false).flatMap blkEv).foldl step s) m'→size (((blksP file x.part x.blocks at0 [] false).flatMap blkEv).foldl step s)≤size s+21846*x.blocks.length→K (at0+spB x.blocks) w') :
  callK Tryz.prog c_28 [Az sf,Ai at0,.agg [.int .i64 p.part,.sl p.sb,.bool p.all,.int .i64 p.hashes,.sl p.sd],.leaf (.val v)] w Oi K:=by
 refine go_28 _ _ _ _ _ _ _ _ _ _ ?_;have hF0:FA J w0 F0 [] (X++m) w:=⟨hA,by simp,by simp,by simp,hj⟩;refine hF0.alK fun b9 w1 hF1=>⟨fun y hy=>by rw [Lms.1 hy];exact hM.cell,hF1.alK fun b11 w2 hF2=>?_⟩;have hF2:FA J w0 F0 [] (((X++m)++[(b9,EPI.f p)])++[(b11,[v])]) w2:=hF2;have hF2:FA J w0 F0 [] (((X++[(b9,EPI.f p)])++[(b11,[v])])++m) w2:=hF2.perm (by
  have h1:=perm_mid X ([(b9,EPI.f p)]++[(b11,[v])]) m;simp only [Laa] at h1 ⊢;exact h1.symm)
 have hKX:∀{at_:Int} {u:World} {m':BL},at_=at0+spB x.blocks→At w0 F0 (((X++[(b9,EPI.f p)])++[(b11,[v])])++m') u→J.p u→Own (((blksP file x.part x.blocks at0 [] false).flatMap blkEv).foldl step s) m'→size (((blksP file x.part x.blocks at0 [] false).flatMap blkEv).foldl step s)≤size s+21846*x.blocks.length→K at_ u:=fun {at_ u m'} e hu hj' ho' hz=>by
  rw [e];refine hK u m' (hu.sub ?_) hj' ho' hz;exact List.Sublist.append ((Lsl _ _).trans (Lsl _ _)) (List.Sublist.refl _)
 have m9:(b9,EPI.f p)∈(X++[(b9,EPI.f p)])++[(b11,[v])]:=by simp
 have m11:(b11,[v])∈(X++[(b9,EPI.f p)])++[(b11,[v])]:=by simp
 have hRX2:∀q∈R,q∈(X++[(b9,EPI.f p)])++[(b11,[v])]:=fun q hq=>Lml _ (Lml _ (hRX q hq));generalize (X++[(b9,EPI.f p)])++[(b11,[v])]=X2 at hF2 hKX m9 m11 hRX2;have hB9:Blk w2 b9 (EPI.f p):=hF2.own (Lml _ m9);refine hB9.ldK (k:=.sl) p.sb rfl ?_;refine join2 (a:=Ki) (b:=.marks) (fun (at_:Int) (rs:List Nat) u=>at_=at0+spB x.blocks∧∃m',FA J w0 F0 (marksX rs) (X2++m') u∧Own (((blksP file x.part x.blocks at0 [] false).flatMap blkEv).foldl step s) m'∧size (((blksP file x.part x.blocks at0 [] false).flatMap blkEv).foldl step s)≤size s+21846*x.blocks.length) ?_ ?_;rotate_left
 ·rintro at_ rs u ⟨e,m',hF,ho',hz⟩;exact closes rs hF fun u' hA' hj'=>hKX e hA' hj' ho' hz
 intro k14 hk14;refine loop5 (k1:=Ki) (k2:=.str) (k3:=.bool) (k4:=Ki) (k5:=.marks) (fun (at_:Int) (last:Str) (some_:Bool) (i:Int) (rs:List Nat) u=>∃(j:Nat) (done:List BlkP) (m':BL),i=(j:Int)∧j≤x.blocks.length∧0≤at_∧at_+spB (x.blocks.drop j)=at0+spB x.blocks ∧
   blksP file x.part x.blocks at0 [] false=done++blksP file x.part (x.blocks.drop j) at_ last some_∧FA J w0 F0 (marksX rs) (X2++m') u∧Own ((done.flatMap blkEv).foldl step s) m'∧size ((done.flatMap blkEv).foldl step s)≤size s+21846*j∧last.length≤1024)
  (fun _ _ _ i _ _=>(x.blocks.length-i).toNat) (x1:=at0) (x2:=[]) (x3:=false) (x4:=0) (x5:=[]) rfl rfl rfl rfl rfl
  ⟨0,[],m,rfl,Nzl _,ha0,rfl,rfl,hF2,ho,by simp,Nzl _⟩ ?_
 rintro (at_:Int) (last:Str) (some_:Bool) (i:Int) (rs:List Nat) u ⟨j,done,m',rfl,hj,hat,hsp',hpl,hF,ho',hsz',hlast⟩;have hbr:RdS u EBI p.sb x.blocks:=hbl.rd fun q hq=>hF.own (Lml _ (hRX2 q hq));rw [hbr.len];refine Iq (fun q=>?_) fun q=>?_;rotate_left
 ·have q:x.blocks.length≤j:=dge q;rw [Ldn q] at hpl hsp';refine hk14 at_ rs u ⟨by simpa [spB] using hsp',m',hF,?_⟩;have:blksP file x.part [] at_ last some_=[]:=rfl;rw [this,Lan] at hpl;rw [hpl];exact⟨ho',by omega⟩
 have q:j<x.blocks.length:=dlt q;obtain⟨b,hb⟩:=Gq q;have hrb:=odt (chkB_mem hchk b (Lmg hb));rw [Dg hb] at hpl hsp';have hspd:0≤spB (x.blocks.drop (j+1)):=by
  have:∀(l:List BI),(∀y∈l,1≤y.stored)→0≤spB l:=fun l=>by
   induction l with
   | nil=>intro _;exact Int.le_refl _
   | cons y l ih=>intro h;have h1:=h y (Lcs ..);have h2:=ih fun z hz=>h z (Lmc _ hz);rw [spB];omega
  exact this _ fun y hy=>(odt (chkB_mem hchk y (List.mem_of_mem_drop hy))).1
 rw [spB] at hsp';have hto:at_+b.stored+5≤file.length:=by omega
 rw [blksP] at hpl;generalize htile:cutB file at_ (at_+b.stored+5)=tile at hpl;have htl:tile.length=(b.stored+5).toNat:=by
  rw [←htile,cutB_len hat (by omega) hto];congr 1;omega
 have ew:w64 ((w64 (at_+b.stored))+5)=at_+b.stored+5:=by
  have e1:w64 (at_+b.stored)=at_+b.stored:=Wq (by omega) (by omega);rw [e1,Wq (by omega) (by omega)]
 have es:=step64 (i:=j) (by omega);refine join4 (a:=Ki) (b:=.str) (c:=.bool) (d:=.marks) (fun (a':Int) (last':Str) (some':Bool) (rs':List Nat) u'=>a'=at_+b.stored+5∧∃(done':List BlkP) (m'':BL),blksP file x.part x.blocks at0 [] false=done'++blksP file x.part (x.blocks.drop (j+1)) (at_+b.stored+5) last' some' ∧
   FA J w0 F0 (marksX rs') (X2++m'') u'∧Own ((done'.flatMap blkEv).foldl step s) m''∧size ((done'.flatMap blkEv).foldl step s)≤size s+21846*(j+1)∧last'.length≤1024) ?_ ?_
 rotate_left
 ·rintro (a':Int) (last':Str) (some':Bool) (rs':List Nat) u' ⟨rfl,done',m'',h1,h2,h3,h4,h5⟩;exact⟨⟨j+1,done',m'',es,by omega,by omega,by omega,h1,h2,h3,h4,h5⟩,by rw [es];omega⟩
 intro k22 hk22;refine hbr.ix rfl rfl hb fun bb oo _ hc=>Lq (k:=Ki) b.stored (hc 0 (by decide)) (Lq (k:=Ki) b.raw (hc 1 (by decide)) (Lq (k:=Ki) b.count (hc 2 (by decide)) (Lq (k:=.str) b.cut (hc 3 (by decide)) ?_)));refine hF.alst (by rfl) fun b29 u1 g1=>?_;have g1:FA J w0 F0 (marksX rs) ((X2++m')++[(b29,EBI.f b)]) u1:=g1;have hB29:Blk u1 b29 (EBI.f b):=g1.own (by simp);refine hB29.ldK (k:=Ki) b.stored rfl ?_;rw [ew];refine g1.alst (by rfl) fun b33 u2 g2=>?_;have g2:FA J w0 F0 (marksX rs) (((X2++m')++[(b29,EBI.f b)])++[(b33,[.int .i64 at_,.int .i64 (at_+b.stored+5)])]) u2:=g2;have g2:FA J w0 F0 (marksX rs) (((X2++[(b29,EBI.f b)])++[(b33,[.int .i64 at_,.int .i64 (at_+b.stored+5)])])++m') u2:=g2.perm (by
  have h1:=perm_mid X2 ([(b29,EBI.f b)]++[(b33,[Value.int .i64 at_,Value.int .i64 (at_+b.stored+5)])]) m';simp only [Laa] at h1 ⊢;exact h1.symm)
 have m29:(b29,EBI.f b)∈(X2++[(b29,EBI.f b)])++[(b33,[.int .i64 at_,.int .i64 (at_+b.stored+5)])]:=by simp
 have m33:(b33,[.int .i64 at_,.int .i64 (at_+b.stored+5)])∈(X2++[(b29,EBI.f b)])++[(b33,[.int .i64 at_,.int .i64 (at_+b.stored+5)])]:=by simp
 have hX3s:X2.Sublist ((X2++[(b29,EBI.f b)])++[(b33,[.int .i64 at_,.int .i64 (at_+b.stored+5)])]):=(Lsl _ _).trans (Lsl _ _);generalize (X2++[(b29,EBI.f b)])++[(b33,[Value.int .i64 at_,.int .i64 (at_+b.stored+5)])]=X3 at g2 m29 m33 hX3s;have own3:∀{Z:List (Nat×Obj)} {L:BL} {u':World},FA J w0 F0 Z L u'→(∀q∈X3,q∈L)→Blk u' b29 (EBI.f b)∧Blk u' b33 [.int .i64 at_,.int .i64 (at_+b.stored+5)]∧Blk u' b11 [v]∧Blk u' b9 (EPI.f p):=fun {Z L u'} h hm=>
  ⟨h.own (hm _ m29),h.own (hm _ m33),h.own (hm _ (hX3s.subset m11)),h.own (hm _ (hX3s.subset m9))⟩
 obtain⟨o1,o2,o3,o4⟩:=own3 g2 fun q hq=>Lml _ hq;refine o2.ldK (k:=Ki) (at_+b.stored+5) rfl (o2.ldK (k:=Ki) at_ rfl (o2.ldK (k:=Ki) (at_+b.stored+5) rfl ?_));refine (hf.quiet g2.at_.mod).partK (n:=at_.toNat) (m:=(at_+b.stored+5).toNat) (by omega) (by omega) rfl (by omega) (by omega) fun s39 h39 _=>?_;have h39:RdS u2 ET s39 tile:=by rw [←htile];exact h39
 have hi5:w64 ((s39.len:Int)-5)=((tile.length-5:Nat):Int):=by
  rw [h39.len,Wq (by omega) (by omega)];omega
 rw [hi5];refine h39.byte rfl (by omega) fun b40 o41 _ hc40=>Lq (k:=.int .u8) ((tile[tile.length-5]'(by omega)).toNat:Int) hc40 ?_;rw [flag_eq (by omega)];refine o1.ldK (k:=Ki) b.stored rfl (o1.ldK (k:=Ki) b.raw rfl (o1.ldK (k:=Ki) b.count rfl (o1.ldK (k:=.str) b.cut rfl ?_)));refine opened_ok h39 (by omega) (fun hn p47 u3 M3=>?_) fun e he u3 b47 sE r47 ro hFr hv47 he1 he2 he3=>?_
 ·rw [hn] at hpl;dsimp only at hpl;have g3:=g2.calm M3;obtain⟨o1,o2,o3,o4⟩:=own3 g3 fun q hq=>Lml _ hq;refine ifK_t rfl (o3.ldK (k:=.val) v rfl (o2.ldK (k:=Ki) at_ rfl (o2.ldK (k:=Ki) (at_+b.stored+5) rfl (o1.ldK (k:=Ki) b.stored rfl (o1.ldK (k:=Ki) b.raw rfl (o1.ldK (k:=Ki) b.count rfl (o1.ldK (k:=.str) b.cut rfl ?_)))))));refine hM.block (x:=⟨at_,at_+b.stored+5,b,x.part,flagP tile,1,[]⟩) g3.at_.mod g3.inv (g3.rest) ho' (by omega) (blk_rng hat hrb (by omega)) fun u4 m4 hA4 hj4 ho4=>?_;have g4:=g3.law hA4 hj4;refine hk22 _ _ _ _ _ ⟨rfl,done++[⟨at_,at_+b.stored+5,b,x.part,flagP tile,1,[]⟩],m4,by rw [hpl,Laa];rfl,g4.sub (List.Sublist.append hX3s (List.Sublist.refl _)),?_,?_,hlast⟩
  ·rw [List.flatMap_append,List.foldl_append];exact ho4
  ·rw [List.flatMap_append,List.foldl_append];have h1:=hM.grows ((done.flatMap blkEv).foldl step s) (.block ⟨at_,at_+b.stored+5,b,x.part,flagP tile,1,[]⟩);have e1:List.foldl step (List.foldl step s (done.flatMap blkEv)) ([(⟨at_,at_+b.stored+5,b,x.part,flagP tile,1,[]⟩:BlkP)].flatMap blkEv)=step ((done.flatMap blkEv).foldl step s) (.block ⟨at_,at_+b.stored+5,b,x.part,flagP tile,1,[]⟩):=rfl;rw [e1];omega
 rw [he] at hpl;dsimp only at hpl;have g3:FA J w0 F0 (marksX rs) ((X3++([(b47,rdC r47 sE)]++ro))++m') u3:=(g2.fresh hFr).perm (perm_mid X3 ([(b47,rdC r47 sE)]++ro) m').symm;have m47:(b47,rdC r47 sE)∈X3++([(b47,rdC r47 sE)]++ro):=by simp
 have hro:∀q∈ro,q∈X3++([(b47,rdC r47 sE)]++ro):=fun q hq=>Lmr _ (Lmr _ hq);have hX4s:X3.Sublist (X3++([(b47,rdC r47 sE)]++ro)):=Lsl _ _;generalize X3++([(b47,rdC r47 sE)]++ro)=X4 at g3 m47 hro hX4s;have own4:∀{Z:List (Nat×Obj)} {L:BL} {u':World},FA J w0 F0 Z L u'→(∀q∈X4,q∈L)→BlkR u' b47 sE r47 e:=fun {Z L u'} h hm=>
  ⟨h.own (hm _ m47),hv47.rd fun q hq=>h.at_.own q (hm q (hro q hq))⟩
 refine ifK_f rfl (blockAt_ok (own4 g3 fun q hq=>Lml _ hq) fun u4 M4=>?_);have ha:atN e 0=((e.getD 0 ([],[])).1,(e.getD 0 ([],[])).2,0):=by
  unfold atN;rw [if_neg (by omega)];rfl
 rw [ha];dsimp only;have g4:=g3.calm M4;have hk0:(e.getD 0 ([],[])).1.length≤1024:=(he3 _ (getD_memD he1)).1;refine join1 (a:=.bool) (fun q u=>q=decide (some_=true∧cmpN (e.getD 0 ([],[])).1 last<0)∧Mod F0 u4 u) ?_ ?_
 ·intro k hk;refine Iq (fun q=>?_) fun q=>?_
  ·refine compare_ok (by omega) (by omega) fun u5 M5=>hk _ _ ⟨?_,M5⟩;have q:some_=true:=q;simp [q]
  ·have q:some_=false:=q;exact hk _ _ ⟨by simp [q],Mod.refl _ _⟩
 rintro q5 u5 ⟨rfl,M5⟩;have g5:=g4.calm M5;refine join1 (a:=Ki) (fun (q:Int) u=>q=(if some_=true∧cmpN (e.getD 0 ([],[])).1 last<0 then 2 else 0)∧u=u5) ?_ ?_
 ·intro k hk;refine Iq (fun q=>hk _ _ ⟨?_,rfl⟩) fun q=>hk _ _ ⟨?_,rfl⟩
  ·rw [if_pos (odt q)]
  ·rw [if_neg (odf q)]
 rintro (how:Int) u6 ⟨hhow,rfl⟩;rw [←hhow] at hpl;refine blockLen_ok (own4 g5 fun q hq=>Lml _ hq) (blockAt_ok (own4 g5 fun q hq=>Lml _ hq) fun u7 M7=>?_);have ha2:atN e (w64 ((e.length:Int)-1))=((e.getD (e.length-1) ([],[])).1,(e.getD (e.length-1) ([],[])).2,0):=by
  have:w64 ((e.length:Int)-1)=((e.length-1:Nat):Int):=by rw [Wq (by omega) (by omega)];omega
  rw [this];unfold atN;rw [if_neg (by omega)];rfl
 rw [ha2];dsimp only;have g7:=g5.calm M7;obtain⟨o1,o2,o3,o4⟩:=own3 g7 fun q hq=>Lml _ (hX4s.subset hq);refine o3.ldK (k:=.val) v rfl (o2.ldK (k:=Ki) at_ rfl (o2.ldK (k:=Ki) (at_+b.stored+5) rfl (o1.ldK (k:=Ki) b.stored rfl (o1.ldK (k:=Ki) b.raw rfl (o1.ldK (k:=Ki) b.count rfl (o1.ldK (k:=.str) b.cut rfl ?_))))));refine hM.block (x:=⟨at_,at_+b.stored+5,b,x.part,flagP tile,how,e⟩) g7.at_.mod g7.inv g7.rest ho' (by omega) (blk_rng hat hrb (by omega)) fun u8 m8 hA8 hj8 ho8=>?_;have g8:=g7.law hA8 hj8;have hsz8:=hM.grows ((done.flatMap blkEv).foldl step s) (.block ⟨at_,at_+b.stored+5,b,x.part,flagP tile,how,e⟩);generalize hs8:step ((done.flatMap blkEv).foldl step s) (.block ⟨at_,at_+b.stored+5,b,x.part,flagP tile,how,e⟩)=s8 at ho8 hsz8;refine go_29 _ _ _ ?_;refine g8.alK fun b2 u9 g9=>?_;have g9:FA J w0 F0 (marksX rs) ((X4++[(b2,[(LV.ptr (some (b47,0))).toV])])++m8) u9:=g9.perm (perm_mid X4 [(b2,[(LV.ptr (some (b47,0))).toV])] m8).symm;have mb2:(b2,[(LV.ptr (some (b47,0))).toV])∈X4++[(b2,[(LV.ptr (some (b47,0))).toV])]:=by simp
 have hX5s:X4.Sublist (X4++[(b2,[(LV.ptr (some (b47,0))).toV])]):=Lsl _ _;generalize X4++[(b2,[(LV.ptr (some (b47,0))).toV])]=X5 at g9 mb2 hX5s;refine range_ents (R:=X5) (r:=r47) (es:=e) ⟨ro,hv47,fun q hq=>hX5s.subset (hro q hq)⟩ (hX5s.subset m47) mb2 (by omega)
  (G:=fun c L=>∃m'',L=X5++m''∧Own (((e.take c).map fun y=>Ev.record x.part y.1 y.2).foldl step s8) m''∧size (((e.take c).map fun y=>Ev.record x.part y.1 y.2).foldl step s8)≤size s8+c)
  (fun c L ⟨m'',hL,_⟩ q hq=>by rw [hL];exact Lml _ hq) g9 ⟨m8,rfl,ho8,Nlr _⟩ ?_ ?_
 ·rintro l Xr Xb L y c w' beg next leave hFA ⟨m'',rfl,ho2,hsz2⟩ hy hbeg hnext;have hcl:=(Les.1 hy).1;refine hbeg _ fun u gu=>?_;obtain⟨o1,o2,o3,o4⟩:=own3 gu fun q hq=>Lml _ (hX5s.subset (hX4s.subset hq));refine o3.ldK (k:=.val) v rfl (o4.ldK (k:=Ki) p.part rfl ?_);rw [hpp];have et:e.take (c+1)=e.take c++[y]:=by rw [List.take_add_one,hy];rfl
  refine hM.record gu.at_.mod gu.inv gu.rest ho2 (by omega) (he3 y (Lmg hy)) fun u' m3 hA3 hj3 ho3=>hnext _ _ (gu.law hA3 hj3) ⟨m3,rfl,?_,?_⟩
  ·rw [et,List.map_append,List.foldl_append];exact ho3
  ·rw [et,List.map_append,List.foldl_append];have h1:=hM.grows (((e.take c).map fun y=>Ev.record x.part y.1 y.2).foldl step s8) (.record x.part y.1 y.2);have e1:List.foldl step (((e.take c).map fun y=>Ev.record x.part y.1 y.2).foldl step s8) ([y].map fun y=>Ev.record x.part y.1 y.2)=step (((e.take c).map fun y=>Ev.record x.part y.1 y.2).foldl step s8) (.record x.part y.1 y.2):=rfl;rw [e1];omega
 ·rintro L u gu ⟨m'',rfl,ho2,hsz2⟩;rw [List.take_length] at ho2 hsz2;have ev:((done++[(⟨at_,at_+b.stored+5,b,x.part,flagP tile,how,e⟩:BlkP)]).flatMap blkEv).foldl step s=(e.map fun y=>Ev.record x.part y.1 y.2).foldl step s8:=by
   rw [List.flatMap_append,List.foldl_append,←hs8];have:[(⟨at_,at_+b.stored+5,b,x.part,flagP tile,how,e⟩:BlkP)].flatMap blkEv=Ev.block ⟨at_,at_+b.stored+5,b,x.part,flagP tile,how,e⟩::e.map fun y=>Ev.record x.part y.1 y.2:=Lan _;rw [this];rfl
  refine hk22 _ _ _ _ _ ⟨rfl,done++[⟨at_,at_+b.stored+5,b,x.part,flagP tile,how,e⟩],m'',by rw [hpl,Laa];rfl,?_,?_,?_,(he3 _ (getD_memD (by omega))).1⟩
  ·exact FA.sub (X:=marksX (u9.heap.size::rs)) gu (List.Sublist.append (hX3s.trans (hX4s.trans hX5s)) (List.Sublist.refl _))
  ·rw [ev];exact ho2
  ·rw [ev];omega
end
theorem trailN_0{b:Str}{size:Int}(h:(trailN b size).2.2=0):trailOk (trailN b size).1 (trailN b size).2.1=true∧(trailN b size).1+(trailN b size).2.1+24=size:=by
 unfold trailN at h ⊢;split at h
 ·cases h
 rename_i h1;rw [if_neg h1];split at h
 ·cases h
 rename_i h2;rw [if_neg h2];split at h
 ·cases h
 rename_i h3;rw [if_neg h3];split at h
 ·cases h
 rename_i h4;rw [if_neg h4];split at h
 ·cases h
 rename_i h5;rw [if_neg h5];exact⟨by simpa using h4,Decidable.not_not.1 h5⟩
theorem chkI_mem{P:Int}:∀{l:List PartI} {last:Int} {n:Nat},chkI P l last n=true→∀x∈l,chkB x.blocks []=true
 | x::l,last,n,h,y,hy=>by
  rw [chkI,Bat,Bat] at h;rcases List.mem_cons.1 hy with rfl | hy
  ·exact h.1.2
  ·exact chkI_mem h.2 y hy
theorem spB_6:∀{l:List BI},(∀y∈l,rightD y=true)→(6*(l.length:Int))≤spB l
 | [],_=>by simp [spB]
 | y::l,h=>by
  have h1:=(odt (h y (Lcs ..))).1;have h2:=spB_6 fun z hz=>h z (Lmc _ hz);rw [spB,Llc];omega
theorem spI_nn:∀{l:List PartI},(∀x∈l,chkB x.blocks []=true)→0≤spI l
 | [],_=>Int.le_refl _
 | y::l,h=>by
  have h1:=spB_6 (chkB_mem (h y (Lcs ..)));have h2:=spI_nn fun z hz=>h z (Lmc _ hz);rw [spI];omega
theorem pagesP_s(file:Str)(end_:Int)(k:Nat)(at_:Int):pagesP file end_ (k+1) at_=if at_<end_ then⟨at_,mnI (at_+4100) end_,decide ((openB (cutB file at_ (mnI (at_+4100) end_))).1=0)⟩::pagesP file end_ k (mnI (at_+4100) end_) else []:=rfl
theorem FA.of_at{J:Inv}{w0 w:World}{D:Nat→Prop}{m:BL}(h:At w0 D m w)(hj:J.p w):FA J w0 D [] m w:=⟨h,by simp,by simp,by simp,hj⟩
theorem FA.st0{J:Inv}{w0 w:World}{D:Nat→Prop}{X:List (Nat×Obj)}{m:BL}{b o:Nat}{c:List Value}{vs:List LV}{K:Wp}(h:FA J w0 D X ((b,c)::m) w)(hl:o+vs.length≤c.length)(hb:¬J.av b)
  (hK:∀w',FA J w0 D X ((b,spl c o (vs.map LV.toV))::m) w'→Mod (fun k=>k=b) w w'→K w'):Go.Vw.st w b o vs K:=by
 have hi:((b,c)::m)[0]? = some (b,c):=rfl;have hB:=h.at_.blk hi;have hM:=Mod.setCells w b o (vs.map LV.toV);refine⟨fun j hj=>⟨⟨c[o+j]'(by omega),?_⟩,hB.frz _⟩,hK _ ⟨h.at_.setCells hi o _,fun q hq=>?_,h.isf,h.nd,J.st h.inv hb⟩ hM⟩
 ·rw [hB.cell,Lge]
 ·refine (hM.block _ (heap_lt (h.far q hq)) ?_).trans (h.far q hq);intro e;have:=hB;rw [←e] at this;exact far_cell (h.far q hq) (h.isf q hq).1 this
theorem beq_dec(n:Int):(n==0)=decide (n=0):=rfl
theorem decRun_tb:∀(n:Nat) (p:Str) (d:Dec),(decRun n p d).2.tb=d.tb
 | 0,_,_=>rfl
 | n+1,p,d=>by
  have hp:∀q,(pageN d q).1.tb=d.tb:=fun q=>by
   unfold pageN;split
   ·rfl
   split<;>rfl
  rw [decRun_s];split
  ·rfl
  split
  ·exact hp _
  ·rw [decRun_tb n,hp]
theorem decN_ok{p:Str}{tb tp:Int}(h:(decN p tb tp).1=0):footOk (decN p tb tp).2=true∧spI (readF (decN p tb tp).2.body).2.1=tb:=by
 have h0:footOk (decN p tb tp).2=true∧(decN p tb tp).2.tb=tb:=by
  unfold decN at h ⊢;split at h
  ·cases h
  rename_i h1;rw [if_neg h1];split at h
  ·cases h
  rename_i h2;rw [if_neg h2];split at h
  ·rename_i h3;exact absurd h h3
  rename_i h3;rw [if_neg h3];split at h
  ·cases h
  rename_i h4;rw [if_neg h4];exact⟨by simpa using h4,by rw [decRun_tb];rfl⟩
 refine⟨h0.1,?_⟩;have h1:=h0.1;unfold footOk at h1;rw [Bat,Bat,Bat] at h1;rw [odt h1.2.2.2,h0.2]
theorem trail_rng{file:Str}{a b:Int}:rngE (.trailer a b (trailP file).1 (trailP file).2.1 (decide ((trailP file).2.2=0))):=fun h=>by
 have q0:(trailP file).2.2=0:=odt h;have ht1:=odt (trailN_0 q0).1;have e:trailN (file.drop (lastP file).toNat) (file.length:Int)=trailP file:=rfl;rw [e] at ht1;exact⟨⟨by omega,by omega⟩,⟨by omega,by omega⟩⟩
theorem chkI_part{P:Int}(hP:P≤65535):∀{l:List PartI} {last:Int} {n:Nat},-1≤last→chkI P l last n=true→∀x∈l,rngE (.part x)∧fltK x.flt
 | x::l,last,n,h0,h,y,hy=>by
  rw [chkI,Bat,Bat] at h;have h1:=odt h.1.1;rcases List.mem_cons.1 hy with rfl | hy
  ·obtain⟨h2,h3,h4,h5,h6⟩:=h1;have hk:in40 y.flt.hashes∧y.flt.data.length≤4096∧fltK y.flt:=by
    unfold kindN at h6;split at h6
    ·rename_i q;exact⟨⟨by omega,by omega⟩,by omega,.inl q.1⟩
    split at h6
    ·rename_i q;exact⟨⟨by omega,by omega⟩,by omega,.inr ⟨fun _=>q.2.2,fun _=>q.2.1⟩⟩
    split at h6
    ·rename_i q;exact⟨⟨by omega,by omega⟩,by omega,.inr ⟨fun e=>by omega,fun e=>by omega⟩⟩
    ·exact absurd rfl h6
   exact⟨⟨⟨by omega,by omega⟩,hk.1,by omega,hk.2.1⟩,hk.2.2⟩
  ·exact chkI_part hP (by omega) h.2 y hy
theorem list_rng{file:Str}(h:rightF file=true):in40 (partsP file)∧∀x∈listP file,rngE (.part x)∧fltK x.flt:=by
 have hf0:(footP file).1=0:=by unfold rightF at h;rw [Bat] at h;exact odt h.2
 have hc:=footOk_chk (decN_ok hf0).1;unfold chkF at hc;rw [Bat] at hc;have h1:=odt hc.1;have e:(readF (footP file).2.body).1=partsP file:=rfl;have hc2:=hc.2;have h1:1≤partsP file∧partsP file≤65535:=h1;exact⟨⟨by omega,by omega⟩,chkI_part h1.2 (Int.le_refl _) hc2⟩
theorem foot_rng{file:Str}{a b:Int}{l:List PartI}:rngE (.footer a b (if rightF file=true then partsP file else 0) l (rightF file)):=fun h=>by
 rw [if_pos h];exact (list_rng h).1
section
variable {σ:Type}{J:Inv}{v:Value}{step:σ→Ev→σ}{size:σ→Nat}{Own:σ→BL→Prop}{w0 w:World}{sf:Sl}{file:Str}
set_option maxHeartbeats 4000000 in
theorem infos_in(hM:Mkr J w0 v step size Own)(hf:RdS w0 ET sf file)(hfl:file.length≤1048576){X m R:BL}{s:σ}(hF:FA J w0 F0 [] (X++m) w)(ho:Own s m){sl:Sl}{ps:List PI}{l:List PartI}(hFL:FootL R sl ps l)(hRX:∀q∈R,q∈X)
  (hchk:∀x∈l,chkB x.blocks []=true) (hsp:spI l≤file.length) (hrp:∀x∈l,rngE (.part x)) (hspl:spI l≤1048576) (hsz:size s≤3000000) {e79:TypeId} {K:Wp}
  (hK:∀w' m',At w0 F0 (X++m') w'→J.p w'→Own (((infosP file l 0).flatMap infoEv).foldl step s) m'→K w') :
  joinK [] (fun k66=>
    loopL [Ki,Ki] (fun at_68 t10769 W70 g67=>
     ifK (decide (t10769<(sl.len:Int)))
     (ix sl 5 t10769 fun b71 o72=>
      ld W70 Ki b71 o72 fun n73=>
      ld W70 .sl b71 (o72+1) fun a74=>
      ld W70 .bool b71 (o72+2) fun c75=>
      ld W70 Ki b71 (o72+3) fun n76=>
      ld W70 .sl b71 (o72+4) fun a77=>
      al W70 e79 [.int .i64 0,.sl (⟨none,0,0⟩),.lit false,.int .i64 0,.sl (⟨none,0,0⟩)] fun b78 W79=>
      st W79 b78 0 [.int .i64 n73,.sl a74,.bool c75,.int .i64 n76,.sl a77] fun W80=>
      ld W80 Ki b78 0 fun n81=>
      ld W80 .sl b78 1 fun a82=>
      ld W80 .bool b78 2 fun c83=>
      ld W80 Ki b78 3 fun n84=>
      ld W80 .sl b78 4 fun a85=>
      callI Tryz.prog v "winnow/inspect.part" [.agg [.int .i64 n81,.sl a82,.bool c83,.int .i64 n84,.sl a85]] W80 (.tup []) fun W86=>
      ld W86 Ki b78 0 fun n87=>
      ld W86 .sl b78 1 fun a88=>
      ld W86 .bool b78 2 fun c89=>
      ld W86 Ki b78 3 fun n90=>
      ld W86 .sl b78 4 fun a91=>
      callK Tryz.prog c_28 [Az sf,Ai at_68,.agg [.int .i64 n87,.sl a88,.bool c89,.int .i64 n90,.sl a91],.leaf (.val v)] W86 Oi fun n92 W93=>
      g67 n92 (w64 (t10769+1)) W93)
     (k66 W70)) [.int .i64 0,.int .i64 0] w) fun W94=>
   K W94:=by
 refine join0 (fun u=>∃m',FA J w0 F0 [] (X++m') u∧Own (((infosP file l 0).flatMap infoEv).foldl step s) m') ?_ (by rintro u ⟨m',h1,h2⟩;exact hK u m' h1.at_ h1.inv h2);intro k hk;refine loop2 (k1:=Ki) (k2:=Ki) (fun (at_:Int) (t:Int) u=>∃(i:Nat) (done:List (PartI×List BlkP)) (m':BL),t=(i:Int)∧i≤l.length∧0≤at_∧at_+spI (l.drop i)=spI l∧infosP file l 0=done++infosP file (l.drop i) at_∧FA J w0 F0 [] (X++m') u∧Own ((done.flatMap infoEv).foldl step s) m' ∧
   6*size ((done.flatMap infoEv).foldl step s)≤6*size s+6*i+21846*at_.toNat) (fun _ t _=>(l.length-t).toNat) (x1:=0) (x2:=0) rfl rfl
  ⟨0,[],m,rfl,Nzl _,Int.le_refl _,by simp,rfl,hF,ho,by simp⟩ ?_
 rintro (at_:Int) (t:Int) u ⟨i,done,m',rfl,hi,hat,hsp',hpl,g,ho',hs'⟩;have hrow:RdS u EPI sl ps:=hFL.row.rd fun q hq=>g.own (Lml _ (hRX q hq));have hll:=hFL.ll;rw [hrow.len,hFL.len];refine Iq (fun q=>?_) fun q=>?_;rotate_left
 ·have q:l.length≤i:=dge q;rw [Ldn q] at hpl;have:infosP file [] at_=[]:=rfl;rw [this,Lan] at hpl;exact hk u ⟨m',g,by rw [hpl];exact ho'⟩
 have q:i<l.length:=dlt q;obtain⟨x,hx⟩:=Gq q;obtain⟨p,hp⟩:=Gq (l:=ps) (i:=i) (by rw [hFL.len];exact q);have hI:=hFL.each i p x hp hx;have hcx:=hchk x (Lmg hx);have h6:=spB_6 (chkB_mem hcx);rw [Dg hx] at hpl hsp';rw [spI] at hsp';have hnn:=spI_nn (l:=l.drop (i+1)) fun y hy=>hchk y (List.mem_of_mem_drop hy);have hpl:infosP file l 0=done++(x,blksP file x.part x.blocks at_ [] false)::infosP file (l.drop (i+1)) (at_+spB x.blocks):=hpl;refine hrow.ix rfl rfl hp fun b71 o72 _ hc=>Lq (k:=Ki) p.part (hc 0 (by decide)) (Lq (k:=.sl) p.sb (hc 1 (by decide)) (Lq (k:=.bool) p.all (hc 2 (by decide)) (Lq (k:=Ki) p.hashes (hc 3 (by decide)) (Lq (k:=.sl) p.sd (hc 4 (by decide)) ?_))));refine g.alst (by rfl) fun b78 u1 g1=>?_;have g1:FA J w0 F0 [] ((X++m')++[(b78,EPI.f p)]) u1:=g1;have g1:FA J w0 F0 [] ((X++[(b78,EPI.f p)])++m') u1:=g1.perm (perm_mid X [(b78,EPI.f p)] m').symm;have hXs:X.Sublist (X++[(b78,EPI.f p)]):=Lsl _ _;have m78:(b78,EPI.f p)∈X++[(b78,EPI.f p)]:=by simp
 generalize X++[(b78,EPI.f p)]=X2 at g1 hXs m78;have hB:=g1.own (Lml _ m78);refine hB.ldK (k:=Ki) p.part rfl (hB.ldK (k:=.sl) p.sb rfl (hB.ldK (k:=.bool) p.all rfl (hB.ldK (k:=Ki) p.hashes rfl (hB.ldK (k:=.sl) p.sd rfl ?_))));have own2:∀q∈R,Blk u1 q.1 q.2:=fun q hq=>g1.own (Lml _ (hXs.subset (hRX q hq)));refine hM.part (p:=p) (x:=x) g1.at_.mod g1.inv g1.rest ho' (by omega) (hrp x (Lmg hx)) hI.part (hI.bl.rd own2).len hI.all hI.hs (hI.dt.rd own2).len fun u2 m2 hA2 hj2 ho2=>?_;have g2:=g1.law hA2 hj2;have hB:=g2.own (Lml _ m78);refine hB.ldK (k:=Ki) p.part rfl (hB.ldK (k:=.sl) p.sb rfl (hB.ldK (k:=.bool) p.all rfl (hB.ldK (k:=Ki) p.hashes rfl (hB.ldK (k:=.sl) p.sd rfl ?_))));have hg:=hM.grows ((done.flatMap infoEv).foldl step s) (.part x);have es:=step64 (i:=i) (by omega);refine blocks_in hM hf hfl g2.at_ g2.inv ho2 hI.part hI.bl (fun q hq=>hXs.subset (hRX q hq)) hI.lb hat hcx (by omega) (by omega) fun u3 m3 hA3 hj3 ho3 hz3=>?_;have ev:((done++[(x,blksP file x.part x.blocks at_ [] false)]).flatMap infoEv).foldl step s=((blksP file x.part x.blocks at_ [] false).flatMap blkEv).foldl step (step ((done.flatMap infoEv).foldl step s) (.part x)):=by
  rw [List.flatMap_append,List.foldl_append];have:[(x,blksP file x.part x.blocks at_ [] false)].flatMap infoEv=Ev.part x::(blksP file x.part x.blocks at_ [] false).flatMap blkEv:=Lan _;rw [this];rfl
 refine⟨⟨i+1,done++[(x,blksP file x.part x.blocks at_ [] false)],m3,es,by omega,by omega,by omega,by rw [hpl,Laa];rfl,FA.of_at (hA3.sub (hXs.append (List.Sublist.refl _))) hj3,by rw [ev];exact ho3,?_⟩,by rw [es];omega⟩;rw [ev];omega
set_option maxHeartbeats 4000000 in
theorem walkIn_ok(hM:Mkr J w0 v step size Own)(hf:RdS w0 ET sf file)(hfl:file.length≤1048576){X m:BL}{s:σ}(hA:At w0 F0 (X++m) w)(hj:J.p w)(ho:Own s m)(hsz:size s≤1048576){K:Wp}
  (hK:∀w' m',At w0 F0 (X++m') w'→J.p w'→Own ((walkP file).foldl step s) m'→K w') :
  callK Tryz.prog c_30 [Az sf,.leaf (.val v)] w (.tup []) K:=by
 refine go_30 _ _ _ _ ?_;have g0:FA J w0 F0 [] (X++m) w:=.of_at hA hj;rw [hf.len];have e24:mxI (w64 ((file.length:Int)-24)) 0=lastP file:=by rw [Wq (by omega) (by omega)];rfl
 rw [e24];have hl0:0≤lastP file∧lastP file≤file.length:=by unfold lastP mxI;split<;>omega
 refine g0.alst (by rfl) fun b3 w1 g1=>?_;have g1:FA J w0 F0 [] ((X++m)++[(b3,[.int .i64 (lastP file),.int .i64 file.length])]) w1:=g1;have hB3:Blk w1 b3 [.int .i64 (lastP file),.int .i64 file.length]:=g1.own (by simp);refine hB3.ldK (k:=Ki) (lastP file) rfl ((hf.quiet g1.at_.mod).fromK (n:=(lastP file).toNat) (by omega) rfl (by omega) fun s7 h7 _=>?_);refine trailer_ok h7 (by rw [Lld];omega) fun w2 M2=>?_;have eT:trailN (file.drop (lastP file).toNat) (file.length:Int)=trailP file:=rfl;rw [eT];have g2:=g1.calm M2;refine g2.alst (by rfl) fun b12 w3 g3=>?_;have g3:FA J w0 F0 [] (((X++m)++[(b3,[.int .i64 (lastP file),.int .i64 file.length])])++[(b12,[.int .i64 (trailP file).1,.int .i64 (trailP file).2.1])]) w3:=g3;have g3:FA J w0 F0 [] (((X++[(b3,[.int .i64 (lastP file),.int .i64 file.length])])++[(b12,[.int .i64 (trailP file).1,.int .i64 (trailP file).2.1])])++m) w3:=g3.perm (by
  have h1:=perm_mid X ([(b3,[Value.int .i64 (lastP file),Value.int .i64 file.length])]++[(b12,[Value.int .i64 (trailP file).1,Value.int .i64 (trailP file).2.1])]) m;simp only [Laa] at h1 ⊢;exact h1.symm)
 have m3:(b3,[.int .i64 (lastP file),.int .i64 file.length])∈(X++[(b3,[.int .i64 (lastP file),.int .i64 file.length])])++[(b12,[.int .i64 (trailP file).1,.int .i64 (trailP file).2.1])]:=by simp
 have m12:(b12,[.int .i64 (trailP file).1,.int .i64 (trailP file).2.1])∈(X++[(b3,[.int .i64 (lastP file),.int .i64 file.length])])++[(b12,[.int .i64 (trailP file).1,.int .i64 (trailP file).2.1])]:=by simp
 have hX3:X.Sublist ((X++[(b3,[.int .i64 (lastP file),.int .i64 file.length])])++[(b12,[.int .i64 (trailP file).1,.int .i64 (trailP file).2.1])]):=(Lsl _ _).trans (Lsl _ _);generalize (X++[(b3,[Value.int .i64 (lastP file),Value.int .i64 file.length])])++[(b12,[Value.int .i64 (trailP file).1,Value.int .i64 (trailP file).2.1])]=X3 at g3 m3 m12 hX3;have hB3:=g3.own (Lml _ m3);have hB12:=g3.own (Lml _ m12);refine hB3.ldK (k:=Ki) (lastP file) rfl (hB3.ldK (k:=Ki) (file.length:Int) rfl (hB12.ldK (k:=Ki) (trailP file).1 rfl (hB12.ldK (k:=Ki) (trailP file).2.1 rfl ?_)));rw [beq_dec];refine hM.trailer g3.at_.mod g3.inv g3.rest ho (by omega) trail_rng fun w4 m4 hA4 hj4 ho4=>?_;have g4:=g3.law hA4 hj4;have hz4:=hM.grows s (.trailer (lastP file) file.length (trailP file).1 (trailP file).2.1 (decide ((trailP file).2.2=0)));refine Iq (fun q=>?_) fun q=>?_
 ·have q:(trailP file).2.2≠0:=by simpa using q
  refine hK _ m4 (g4.at_.sub (hX3.append (List.Sublist.refl _))) g4.inv ?_;have:walkP file=[Ev.trailer (lastP file) file.length (trailP file).1 (trailP file).2.1 (decide ((trailP file).2.2=0))]:=by unfold walkP;rw [if_pos q]
  rw [this];exact ho4
 have q:¬(trailP file).2.2≠0:=by simpa using q
 have q0:(trailP file).2.2=0:=Decidable.not_not.1 q;have hwalk:walkP file=Ev.trailer (lastP file) file.length (trailP file).1 (trailP file).2.1 (decide ((trailP file).2.2=0))::((pgsP file).map Ev.page++Ev.footer (trailP file).1 (endP file) (if rightF file=true then partsP file else 0) (if rightF file=true then listP file else []) (rightF file) ::
  if rightF file=false then [] else (infosP file (listP file) 0).flatMap infoEv):=by unfold walkP;rw [if_neg q]
 have ht:trailOk (trailP file).1 (trailP file).2.1=true∧(trailP file).1+(trailP file).2.1+24=file.length:=trailN_0 q0;have ht1:=odt ht.1;have hE:endP file=(trailP file).1+(trailP file).2.1:=rfl;have ew:w64 ((trailP file).1+(trailP file).2.1)=endP file:=Wq (by omega) (by omega);have hB12:=g4.own (Lml _ m12);refine hB12.ldK (k:=Ki) (trailP file).1 rfl (hB12.ldK (k:=Ki) (trailP file).2.1 rfl (hB12.ldK (k:=Ki) (trailP file).1 rfl ?_));rw [ew];generalize hs1:step s (.trailer (lastP file) file.length (trailP file).1 (trailP file).2.1 (decide ((trailP file).2.2=0)))=s1 at ho4 hz4;refine join1 (a:=.bool) (fun (q:Bool) u=>q=rightP0 file∧∃m',FA J w0 F0 [] (X3++m') u∧Own (((pgsP file).map Ev.page).foldl step s1) m'∧size (((pgsP file).map Ev.page).foldl step s1)≤size s1+5000) ?_ ?_
 ·intro k hk;refine loop2 (k1:=.bool) (k2:=Ki) (fun (right:Bool) (at_:Int) u=>∃(n:Nat) (done:List PgP) (m':BL),pgsP file=done++pagesP file (endP file) n at_∧(trailP file).1≤at_∧at_≤endP file∧endP file-at_≤4100*n∧done.length+n≤5000∧right=(done.all fun p=>p.ok)∧FA J w0 F0 [] (X3++m') u∧Own ((done.map Ev.page).foldl step s1) m'∧size ((done.map Ev.page).foldl step s1)≤size s1+done.length)
   (fun _ at_ _=>(endP file-at_).toNat) (x1:=true) (x2:=(trailP file).1) rfl rfl
   ⟨5000,[],m4,(List.nil_append _).symm,Int.le_refl _,by omega,by omega,by simp,rfl,g4,ho4,by simp⟩ ?_
  rintro (right:Bool) (at_:Int) u ⟨n,done,m',hpg,ha0,ha1,hn,hdn,rfl,g,ho',hs'⟩;refine Iq (fun q=>?_) fun q=>?_;rotate_left
  ·have q:¬at_<endP file:=odf q;have e:pagesP file (endP file) n at_=[]:=by
    cases n with
    | zero=>rfl
    | succ n=>rw [pagesP_s,if_neg q]
   rw [e,Lan] at hpg;exact hk _ _ ⟨by unfold rightP0;rw [hpg],m',g,by rw [hpg];exact ho',by rw [hpg];omega⟩
  have q:at_<endP file:=odt q;obtain⟨n',rfl⟩:∃n',n=n'+1:=⟨n-1,by omega⟩;have em:mnI (w64 (w64 (at_+4096)+4)) (endP file)=mnI (at_+4100) (endP file):=by
   have e1:w64 (at_+4096)=at_+4096:=Wq (by omega) (by omega);rw [e1,Wq (by omega) (by omega)];congr 1;omega
  rw [em];have hmn:at_<mnI (at_+4100) (endP file)∧mnI (at_+4100) (endP file)≤endP file∧(mnI (at_+4100) (endP file)=at_+4100∨mnI (at_+4100) (endP file)=endP file):=by unfold mnI;split<;>omega
  rw [pagesP_s,if_pos q] at hpg;generalize mnI (at_+4100) (endP file)=to at hpg hmn ⊢;refine g.alst (by rfl) fun b28 u1 g1=>?_;have g1:FA J w0 F0 [] ((X3++m')++[(b28,[.int .i64 at_,.int .i64 to])]) u1:=g1;have g1:FA J w0 F0 [] ((X3++[(b28,[.int .i64 at_,.int .i64 to])])++m') u1:=g1.perm (perm_mid X3 [(b28,[Value.int .i64 at_,Value.int .i64 to])] m').symm;have hXs:X3.Sublist (X3++[(b28,[.int .i64 at_,.int .i64 to])]):=Lsl _ _;have m28:(b28,[.int .i64 at_,.int .i64 to])∈X3++[(b28,[.int .i64 at_,.int .i64 to])]:=by simp
  generalize X3++[(b28,[Value.int .i64 at_,Value.int .i64 to])]=X4 at g1 hXs m28;have hB:=g1.own (Lml _ m28);refine hB.ldK (k:=Ki) at_ rfl (hB.ldK (k:=Ki) to rfl ((hf.quiet g1.at_.mod).partK (n:=at_.toNat) (m:=to.toNat) (by omega) (by omega) rfl (by omega) (by omega) fun s33 h33 _=>?_));have h33:RdS u1 ET s33 (cutB file at_ to):=h33;refine open_ok h33 (by rw [cutB_len (by omega) (by omega) (by omega)];omega) fun u2 ro s' hA2 _=>?_;have g2:=g1.calm hA2.mod;have hB:=g2.own (Lml _ m28);refine hB.ldK (k:=Ki) at_ rfl (hB.ldK (k:=Ki) to rfl ?_);rw [beq_dec];have hg:=hM.grows ((done.map Ev.page).foldl step s1) (.page ⟨at_,to,decide ((openB (cutB file at_ to)).1=0)⟩);refine hM.page (p:=⟨at_,to,decide ((openB (cutB file at_ to)).1=0)⟩) g2.at_.mod g2.inv g2.rest ho' (by omega) ⟨⟨by dsimp only;omega,by dsimp only;omega⟩,⟨by dsimp only;omega,by dsimp only;omega⟩⟩ fun u3 m5 hA3 hj3 ho3=>?_;have g3:=g2.law hA3 hj3;have ev:((done++[(⟨at_,to,decide ((openB (cutB file at_ to)).1=0)⟩:PgP)]).map Ev.page).foldl step s1=step ((done.map Ev.page).foldl step s1) (.page ⟨at_,to,decide ((openB (cutB file at_ to)).1=0)⟩):=by
   rw [List.map_append,List.foldl_append];rfl
  refine join1 (a:=.bool) (fun (q:Bool) u=>q=((done++[(⟨at_,to,decide ((openB (cutB file at_ to)).1=0)⟩:PgP)]).all fun p=>p.ok)∧u=u3) ?_ ?_
  ·intro k hk;have ea:((done++[(⟨at_,to,decide ((openB (cutB file at_ to)).1=0)⟩:PgP)]).all fun p=>p.ok)=((done.all fun p=>p.ok)&&decide ((openB (cutB file at_ to)).1=0)):=by
    rw [List.all_append,List.all_cons,List.all_nil,Bool.and_true]
   refine Iq (fun q=>hk _ _ ⟨?_,rfl⟩) fun q=>hk _ _ ⟨?_,rfl⟩
   ·have q:(done.all fun p=>p.ok)=true:=q;rw [ea,q,Bool.true_and]
   ·have q:(done.all fun p=>p.ok)=false:=q;rw [ea,q,Bool.false_and]
  rintro q5 u5 ⟨rfl,rfl⟩;have hB:=g3.own (Lml _ m28);refine hB.ldK (k:=Ki) to rfl ⟨⟨n',done++[⟨at_,to,decide ((openB (cutB file at_ to)).1=0)⟩],m5,by rw [hpg,Laa];rfl,by omega,by omega,by omega,by rw [Lla,List.length_singleton];omega,rfl,g3.sub (hXs.append (List.Sublist.refl _)),by rw [ev];exact ho3,?_⟩,by omega⟩;rw [ev,Lla,List.length_singleton];omega
 rintro right u5 ⟨rfl,m5,g5,ho5,hz5⟩;generalize hs2:((pgsP file).map Ev.page).foldl step s1=s2 at ho5 hz5;refine g5.alK fun b46 u6 g6=>?_;have g6:FA J w0 F0 [] ((X3++m5)++[(b46,pairC 0 ⟨none,0,0⟩)]) u6:=g6;have g6:FA J w0 F0 [] (((b46,pairC 0 ⟨none,0,0⟩)::X3)++m5) u6:=g6.perm (Lpc (l₁:=[(b46,pairC 0 ⟨none,0,0⟩)]) (l₂:=X3++m5));refine join1 (a:=.bool) (fun (q:Bool) u=>q=rightF file∧∃(sl:Sl) (ps:List PI) (R:BL),FA J w0 F0 [] (((b46,pairC (if rightF file=true then partsP file else 0) sl)::X3++R)++m5) u∧(rightF file=true→FootL R sl ps (listP file))) ?_ ?_
 ·intro k hk
  cases hr0:rightP0 file with
  | false=>
   have hrf:rightF file=false:=by unfold rightF;rw [hr0];rfl
   refine ifK_f rfl (hk _ _ ⟨hrf.symm,⟨none,0,0⟩,[],[],?_,fun h=>by rw [hrf] at h;cases h⟩);rw [hrf,if_neg (by decide),Lan];exact g6
  | true=>
   have hrf:rightF file=decide ((footP file).1=0):=by unfold rightF;rw [hr0];rfl
   refine ifK_t rfl ⟨fun b=>b=b46,?_⟩;have g7:FA J w0 F0 [] (((b46,pairC 0 ⟨none,0,0⟩)::X3)++m5) u6.drew:=g6.calm (Mod.drew _ u6);have hB12:=g7.own (Lml _ (Lmc _ m12));have hav:¬J.av b46:=fun h=>by
    obtain⟨q,hq,e⟩:=hM.av_in _ _ ho5 _ h;have:=g7.at_.nodup;rw [List.cons_append,List.map_cons,List.nodup_cons] at this;exact this.1 (List.mem_map.2 ⟨q,Lmr _ hq,e⟩)
   have hne:¬b12=b46:=fun e=>by
    have:=g7.at_.nodup;rw [List.cons_append,List.map_cons,List.nodup_cons] at this;have h:=List.mem_map_of_mem (f:=Prod.fst) (Lml m5 m12);exact this.1 (by rw [e] at h;exact h)
   refine hB12.ldDK (k:=Ki) (trailP file).1 hne rfl ((hf.quiet g7.at_.mod).partK (n:=(trailP file).1.toNat) (m:=(endP file).toNat) (by omega) (by omega) rfl (by omega) (by omega) fun s51 h51 _=>hB12.ldDK (k:=Ki) (trailP file).1 hne rfl (hB12.ldDK (k:=Ki) (trailP file).2.1 hne rfl ?_));have h51:RdS u6.drew ET s51 (cutB file (trailP file).1 (endP file)):=h51;have hD:decN (cutB file (trailP file).1 (endP file)) (trailP file).1 (trailP file).2.1=footP file:=rfl;refine footDecode_ok h51 (by rw [cutB_len (by omega) (by omega) (by omega)];omega) (fun hn u8 M8=>?_) fun h0 u8 R sl ps hR hFL=>?_
   ·rw [hD] at hn ⊢;have hrf:rightF file=false:=by rw [hrf];exact Dcf hn
    have M8':Mod (fun b=>b=b46) u6.drew u8:=M8.mono fun _ _ h=>h.elim;refine⟨M8',(g7.calm M8).st0 (Nlr 2) hav fun u9 g9 M9=>⟨M8'.trans M9 (fun _ _ h=>h) fun _ _ h=>h,hk _ _ ⟨?_,⟨none,0,0⟩,[],[],?_,fun h=>by rw [hrf] at h;cases h⟩⟩⟩
    ·rw [hrf,beq_dec];exact Dcf hn
    ·rw [hrf,if_neg (by decide),Lan];exact g9
   ·rw [hD] at h0 hFL ⊢;have hrf:rightF file=true:=by rw [hrf];exact Dct h0
    have M8':Mod (fun b=>b=b46) u6.drew u8:=hR.mod.mono fun _ _ h=>h.elim;have g8:FA J w0 F0 [] ((((b46,pairC 0 ⟨none,0,0⟩)::X3)++R)++m5) u8:=(g7.fresh hR).perm (perm_mid ((b46,pairC 0 ⟨none,0,0⟩)::X3) R m5).symm;refine⟨M8',FA.st0 (m:=(X3++R)++m5) g8 (Nlr 2) hav fun u9 g9 M9=>⟨M8'.trans M9 (fun _ _ h=>h) fun _ _ h=>h,hk _ _ ⟨?_,sl,ps,R,?_,fun _=>hFL⟩⟩⟩
    ·rw [hrf];rfl
    ·rw [hrf,if_pos rfl];exact g9
 rintro right u7 ⟨rfl,sl,ps,R,g7,hFL⟩;have hX4:X3.Sublist ((b46,pairC (if rightF file=true then partsP file else 0) sl)::X3++R):=(List.sublist_cons_self _ _).trans (Lsl _ _);have hRX:∀q∈R,q∈(b46,pairC (if rightF file=true then partsP file else 0) sl)::X3++R:=fun q hq=>Lmr _ hq;have m46:(b46,pairC (if rightF file=true then partsP file else 0) sl)∈(b46,pairC (if rightF file=true then partsP file else 0) sl)::X3++R:=by simp
 generalize (b46,pairC (if rightF file=true then partsP file else 0) sl)::X3++R=X4 at g7 hX4 hRX m46;have hB12:=g7.own (Lml _ (hX4.subset m12));have hB46:=g7.own (Lml _ m46);refine hB12.ldK (k:=Ki) (trailP file).1 rfl (hB46.ldK (k:=Ki) (if rightF file=true then partsP file else 0) rfl (hB46.ldK (k:=.sl) sl rfl ?_));have hg:=hM.grows s2 (.footer (trailP file).1 (endP file) (if rightF file=true then partsP file else 0) (if rightF file=true then listP file else []) (rightF file));refine hM.footer (l:=if rightF file=true then listP file else []) g7.at_.mod g7.inv g7.rest ho5 (by omega) foot_rng fun u8 m8 hA8 hj8 ho8=>?_;have g8:=g7.law hA8 hj8;have hfold:(walkP file).foldl step s=(if rightF file=false then [] else (infosP file (listP file) 0).flatMap infoEv).foldl step (step s2 (.footer (trailP file).1 (endP file) (if rightF file=true then partsP file else 0) (if rightF file=true then listP file else []) (rightF file))):=by
  rw [hwalk,List.foldl_cons,List.foldl_append,hs1,hs2,List.foldl_cons]
 generalize step s2 (.footer (trailP file).1 (endP file) (if rightF file=true then partsP file else 0) (if rightF file=true then listP file else []) (rightF file))=s3 at ho8 hg hfold
 cases hrf:rightF file with
 | false=>
  rw [hrf,if_pos rfl] at hfold;refine ifK_t rfl (hK _ m8 (g8.at_.sub ((hX3.trans hX4).append (List.Sublist.refl _))) g8.inv ?_);rw [hfold];exact ho8
 | true=>
  rw [hrf,if_neg (by decide)] at hfold;have hB46:=g8.own (Lml _ m46);refine ifK_f rfl (hB46.ldK (k:=.sl) sl rfl ?_);have hf0:(footP file).1=0:=by unfold rightF at hrf;rw [Bat] at hrf;exact odt hrf.2
  have hok:=decN_ok hf0;refine infos_in hM hf hfl g8 ho8 (hFL hrf) hRX (fun y hy=>chkI_mem (Bat _ _▸(footOk_chk hok.1):_∧_).2 y hy) ?_ (fun y hy=>((list_rng hrf).2 y hy).1) ?_ (by omega) fun w' m' hA' hj' ho'=>hK w' m' (hA'.sub ((hX3.trans hX4).append (List.Sublist.refl _))) hj' (by rw [hfold];exact ho')
  ·have:spI (listP file)=(trailP file).1:=hok.2;omega
  ·have:spI (listP file)=(trailP file).1:=hok.2;omega
end
abbrev ifc(t:TypeId)(b:Nat):Value:=.iface t (LV.ptr (some (b,0))).toV
theorem iface_ok{t:TypeId}{b:Nat}{w:World}{K:Value→Wp}(hr:(Instr.makeInterface t (LV.ptr (some (b,0))).toV).run Tryz.prog w = .ok (ifc t b) w)(hK:K (ifc t b) w) :
  opF Tryz.prog (vS (Instr.makeInterface t (LV.toV (.ptr (some (b,0)))))) w (.one (.leaf (.val))) K:=by
 refine⟨[.val (ifc t b)],w,?_,hK⟩;unfold vS;simp only [Sem.run_bind];show ((Instr.makeInterface t (LV.ptr (some (b,0))).toV).run Tryz.prog w).andThen _=_;rw [hr];rfl
section
variable {w0 w:World}{D:Nat→Prop}{X R:BL}{bt:Nat}{sl:Sl}{l:List Fnd}
end
section
variable {X m:BL}{u:World}{l:List Fnd}{bt:Nat}{K:Wp}
end
def ERec:Enc (Int×Str×Str):=⟨3,fun x=>[.int .i64 x.1,(LV.str x.2.1).toV,(LV.str x.2.2).toV],fun _=>rfl,by decide,fun x v h=>by
 simp only [List.mem_cons,List.not_mem_nil,or_false] at h;rcases h with rfl | rfl | rfl<;>rfl⟩
section
variable {X m:BL}{u:World}{l:List (Int×Str×Str)}{bt:Nat}{K:Wp}
end
section
variable {w:World}{sf:Sl}{file:Str}
end
theorem pageN_tp(d:Dec)(q:Str):(pageN d q).1.tp=d.tp:=by
 unfold pageN;split
 ·rfl
 split<;>rfl
set_option maxHeartbeats 1000000 in
theorem rFootDecode_ok{w:World}{sp:Sl}{p:Str}{tb tp:Int}(hr:RdS w ET sp p)(hl:p.length≤20000000)(htp0:tp≤1099511627776){K:Int→Sl→Int→Wp}
  (hN:(decN p tb tp).1≠0→∀w',Mod F0 w w'→K 0 ⟨none,0,0⟩ (decN p tb tp).1 w')
  (hS:(decN p tb tp).1=0→∀w' R s ps,Fresh w w' F0 R→FootL R s ps (readF (decN p tb tp).2.body).2.1→K (readF (decN p tb tp).2.body).1 s 0 w') :
  callK Tryz.prog c_31 [Az sp,.agg [.int .i64 tb,.int .i64 tp]] w (.tup [.agg [Ki,.sl],Li]) K:=by
 refine go_31 _ _ _ _ _ ?_;refine (Fresh.start w F0).alK fun b4 w1 f1 _ _=>f1.alK fun b6 w2 f2 _ _=>?_;have hB4:Blk w2 b4 [.int .i64 tb,.int .i64 tp]:=f2.blk (i:=0) rfl;have f2:Fresh w w2 F0 [(b4,[.int .i64 tb,.int .i64 tp]),(b6,pairC 0 ⟨none,0,0⟩)]:=f2;have bad:∀{u:World} {X:BL} {e:Int},Fresh w u F0 ([(b4,[.int .i64 tb,.int .i64 tp]),(b6,pairC 0 ⟨none,0,0⟩)]++X)→e=(decN p tb tp).1→e≠0→Go.Vw.st u b6 0 [.int .i64 0,.sl ⟨none,0,0⟩] fun W27=>Go.Vw.ld W27 Ki b6 0 fun n28=>Go.Vw.ld W27 .sl b6 1 fun a29=>K n28 a29 e W27:=fun {u X e} f he hne=>by
  refine f.stK 1 rfl (Nlr 2) fun u2 f2 _=>?_;have hB6:Blk u2 b6 (pairC 0 ⟨none,0,0⟩):=f2.blk (i:=1) rfl;refine hB6.ldK (k:=Ki) 0 rfl (hB6.ldK (k:=.sl) ⟨none,0,0⟩ rfl ?_);rw [he];exact hN (by rw [←he];exact hne) u2 f2.mod
 refine hB4.ldK (k:=Ki) tb rfl (hB4.ldK (k:=Ki) tp rfl (rNewDecoder_ok htp0 (fun ht w3 M3=>?_) fun ht w3 d hF=>?_))
 ·have e:(decN p tb tp).1=81:=by unfold decN;rw [if_pos ht]
  exact ifK_t rfl (bad (X:=[]) (f2.quiet M3) e.symm (by decide))
 have f3:Fresh w w3 F0 ([(b4,[.int .i64 tb,.int .i64 tp]),(b6,pairC 0 ⟨none,0,0⟩)]++[(d,rdecC (dec0 tb tp) ⟨none,0,0⟩)]):=f2.join hF (fun _ _ h=>h) fun _ _ _ h=>h;refine ifK_f rfl ?_;have hB4':Blk w3 b4 [.int .i64 tb,.int .i64 tp]:=f3.blk (i:=0) rfl;refine hB4'.ldK (k:=Ki) tp rfl ?_;rw [hr.len];refine Iq (fun q=>?_) fun q=>?_
 ·have q:(p.length:Int)≠tp:=by simpa using q
  have e:(decN p tb tp).1=80:=by unfold decN;rw [if_neg (by rw [ht];decide),if_pos q]
  exact bad f3 e.symm (by decide)
 have q:¬(p.length:Int)≠tp:=by simpa using q
 have htp:(p.length:Int)=tp:=Decidable.not_not.1 q;have edec:decN p tb tp=if (decRun 5000 p (dec0 tb tp)).1≠0 then decRun 5000 p (dec0 tb tp) else if footOk (decRun 5000 p (dec0 tb tp)).2=false then (80,(decRun 5000 p (dec0 tb tp)).2) else decRun 5000 p (dec0 tb tp):=by
  unfold decN;rw [if_neg (by rw [ht];decide),if_neg q]
 have f3:At w F0 ((d,rdecC (dec0 tb tp) ⟨none,0,0⟩)::([(b4,[.int .i64 tb,.int .i64 tp]),(b6,pairC 0 ⟨none,0,0⟩)]++[])) w3:=(f3.perm (by
  show List.Perm [_,_,_] [_,_,_];exact (Lpc (l₁:=[(d,rdecC (dec0 tb tp) ⟨none,0,0⟩)]) (l₂:=[(b4,[Value.int .i64 tb,Value.int .i64 tp]),(b6,pairC 0 ⟨none,0,0⟩)])))).at_
 refine join0 (fun u=>∃x s ro,At w F0 ((d,rdecC x s)::([(b4,[.int .i64 tb,.int .i64 tp]),(b6,pairC 0 ⟨none,0,0⟩)]++ro)) u∧VecL ro ET s x.body∧decRun 5000 p (dec0 tb tp)=(0,x)∧x.body.length≤p.length) ?_ ?_
 ·intro k hk;refine loop1 (k:=Ki) (fun (at_:Int) u=>∃(n a:Nat) (x:Dec) (s:Sl) (ro:BL),at_=(a:Int)∧a≤p.length∧p.length-a≤4100*n∧At w F0 ((d,rdecC x s)::([(b4,[.int .i64 tb,.int .i64 tp]),(b6,pairC 0 ⟨none,0,0⟩)]++ro)) u∧VecL ro ET s x.body∧decRun 5000 p (dec0 tb tp)=decRun n (p.drop a) x ∧
   x.body.length≤a∧x.left=(p.length-a:Nat)∧x.tp=tp) (fun at_ _=>(p.length-at_).toNat) (x:=0) rfl
   ⟨5000,0,dec0 tb tp,⟨none,0,0⟩,[],rfl,Nzl _,by omega,f3,VecL.nil ET,by rw [List.drop_zero],Nzl _,by show tp=_;omega,rfl⟩ ?_
  rintro (at_:Int) u ⟨n,a,x,s,ro,rfl,ha,hn,hf,hv,he,hbl,hx0,hx1⟩;have hB4u:Blk u b4 [.int .i64 tb,.int .i64 tp]:=hf.blk (i:=1) rfl;refine hB4u.ldK (k:=Ki) tp rfl (Iq (fun q=>?_) fun q=>?_);rotate_left
  ·have q:¬(a:Int)<tp:=odf q;have h0:(p.drop a).length=0:=by rw [Lld];omega
   refine hk u ⟨x,s,ro,hf,hv,?_,by omega⟩;rw [he]
   cases n with
   | zero=>rfl
   | succ n=>rw [decRun_s,if_pos h0]
  have q:(a:Int)<tp:=odt q;obtain⟨n',rfl⟩:∃n',n=n'+1:=⟨n-1,by omega⟩;have hdl:(p.drop a).length=p.length-a:=Lld;have hmn:mnI x.left 4100=((min (p.drop a).length 4100:Nat):Int):=by rw [hx0,←hdl];exact mnI_nat (b:=4100)
  rw [decRun_s n' (p.drop a) x,if_neg (c:=(p.drop a).length=0) (by omega)] at he;have hBd:Blk u d (rdecC x s):=hf.blk (i:=0) rfl;refine rNext_ok hBd (by omega) (by omega) fun u1 M1=>?_;have hf1:=hf.keep0 M1 (fun _=>id);rw [hmn];have ew:w64 ((a:Int)+((min (p.drop a).length 4100:Nat):Int))=((a+min (p.drop a).length 4100:Nat):Int):=by rw [Wq (by omega) (by omega)];omega
  rw [ew];refine (hr.quiet hf1.mod).partK (n:=a) (m:=a+min (p.drop a).length 4100) (by omega) (by omega) rfl rfl rfl fun s27 h27 _=>?_;have etk:(p.take (a+min (p.drop a).length 4100)).drop a=(p.drop a).take (min (p.drop a).length 4100):=by rw [List.drop_take];congr 1;omega
  rw [etk] at h27;refine rPage_ok hf1 hv (by omega) (by omega) (by omega) h27 (by rw [Llt];omega) fun u2 s2 ro2 f2' v2 _=>?_;refine Iq (fun q2=>?_) fun q2=>?_
  ·have q2:(pageN x ((p.drop a).take (min (p.drop a).length 4100))).2≠0:=by simpa using q2
   rw [if_pos q2] at he;have e:(decN p tb tp).1=(pageN x ((p.drop a).take (min (p.drop a).length 4100))).2:=by rw [edec,he,if_pos q2]
   refine bad (X:=(d,rdecC (pageN x ((p.drop a).take (min (p.drop a).length 4100))).1 s2)::ro2) ((Fresh.of_at f2').perm ?_) e.symm q2;exact List.perm_middle
  ·have q2:¬(pageN x ((p.drop a).take (min (p.drop a).length 4100))).2≠0:=by simpa using q2
   rw [if_neg q2] at he;obtain⟨e1,e2,e3,_⟩:=pageN_left (Decidable.not_not.1 q2);have htl:((p.drop a).take (min (p.drop a).length 4100)).length=min (p.drop a).length 4100:=by rw [Llt];omega
   have edd:(p.drop a).drop (min (p.drop a).length 4100)=p.drop (a+min (p.drop a).length 4100):=List.drop_drop;rw [edd] at he;refine⟨⟨n',a+min (p.drop a).length 4100,_,s2,ro2,rfl,by omega,by omega,f2',v2,he,?_,?_,by rw [pageN_tp];exact hx1⟩,by omega⟩
   ·rw [e1];show (x.body++(openB ((p.drop a).take (min (p.drop a).length 4100))).2).length≤_;rw [Lla];omega
   ·rw [e1];show x.left-mnI x.left 4100=_;omega
 rintro u ⟨x,s,ro,hf,hv,he,hxl⟩;have hBd:Blk u d (rdecC x s):=hf.blk (i:=0) rfl;have hrd:RdS u ET s x.body:=hv.rd fun q hq=>hf.own q (Lmc _ (Lmr _ hq));rw [he] at edec;rw [if_neg (fun h=>h rfl)] at edec;have hf:Fresh w u F0 ([(b4,[.int .i64 tb,.int .i64 tp]),(b6,pairC 0 ⟨none,0,0⟩)]++(d,rdecC x s)::ro):=(Fresh.of_at hf).perm List.perm_middle;refine rFootDec_ok hBd hrd (by omega) (fun hb u2 M2=>?_) fun hb u2 R s2 ps2 hR hFL=>?_
 ·rw [(footer_law x).1] at hb;have e:(decN p tb tp).1=80:=by rw [edec,if_pos hb]
  refine (hf.quiet M2).stK 1 rfl (Nlr 2) fun u3 f3 _=>?_;have hB6:Blk u3 b6 (pairC 0 ⟨none,0,0⟩):=f3.blk (i:=1) rfl;refine hB6.ldK (k:=Ki) 0 rfl (hB6.ldK (k:=.sl) ⟨none,0,0⟩ rfl ?_);have:=hN (by rw [e];decide) u3 f3.mod;rw [e] at this;exact this
 ·rw [(footer_law x).1] at hb;have hq:=(footer_law x).2 hb;rw [hq] at hFL ⊢;rw [if_neg (by rw [hb];decide)] at edec;have f5:=hf.join hR (fun _ _ h=>h) fun _ _ _ h=>h;refine f5.stK 1 rfl (Nlr 2) fun u3 f6 _=>?_;have hB6:Blk u3 b6 (pairC (readF x.body).1 s2):=f6.blk (i:=1) rfl;refine hB6.ldK (k:=Ki) (readF x.body).1 rfl (hB6.ldK (k:=.sl) s2 rfl ?_);have:=hS (by rw [edec]) u3 R s2 ps2 (f6.sub (List.Sublist.cons _ (List.Sublist.cons _ (Lsr _ _)))) (by rw [edec];exact hFL);rw [edec] at this;exact this
end Go.Proofs.YtoegpmjoajipcaaGreatDoor
namespace Go.Proofs.YtoegpmjoajipcaaGreatDoor
open Go.Vw
set_option maxRecDepth 100000
theorem go_35(b1:Sl)(n2:Int)(K:Sl→Wp)(w:World)(h:ifK (decide ((b1.len:Int)<n2)) (K b1 w) (slx b1 1 (some (w64 ((b1.len:Int)-n2))) none none fun s3=>K s3 w)):callK Pg 27 [Az b1,Ai n2] w Oz K:=Fq (n:=.nil) CS_ok mixed Tryz.func27 (Eq.mpr (by kernel_rfl) h)
theorem go_37(b1:Sl)(K:Int→Bool→Int→Int→Sl→Bool→Int→Sl→Sl→Wp)(w:World)(h:al w 45 [.int .i64 0,.lit false,.int .i64 0,.int .i64 0,.sl (⟨none,0,0⟩),.lit false,.int .i64 0,.sl (⟨none,0,0⟩),.sl (⟨none,0,0⟩)] fun b2 W3=>al W3 45 [.int .i64 0,.lit false,.int .i64 0,.int .i64 0,.sl (⟨none,0,0⟩),.lit false,.int .i64 0,.sl (⟨none,0,0⟩),.sl (⟨none,0,0⟩)] fun b4 W5=>st W5 b4 0 [.int .i64 (b1.len:Int),.lit false,.int .i64 0,.int .i64 0,.sl (⟨none,0,0⟩),.lit false,.int .i64 0,.sl (⟨none,0,0⟩),.sl (⟨none,0,0⟩)] fun W6=>joinK [.adr,Ki] (fun k7=>drawK W6 fun D W8=>ldD D W8 Ki b4 0 fun n9=>(callK Pg 27 [Az b1,Ai 24] W8 Oz fun a10 W11=>Mod D W8 W11∧(callK Pg 26 [Az a10,Ai n9] W11 (.tup [.agg [Ki,Ki],Li]) fun n12 n13 n14 W15=>Mod D W8 W15∧al W15 38 [.int .i64 0,.int .i64 0] fun b16 W17=>Mod D W8 W17∧st W17 b16 0 [.int .i64 n12,.int .i64 n13] fun W18=>Mod D W8 W18∧k7 (b16,0) n14 W18)∧(al W11 38 [.int .i64 0,.int .i64 0] fun b19 W20=>Mod D W8 W20∧callK Pg 26 [Az a10,Ai n9] W20 (.tup [.agg [Ki,Ki],Li]) fun n21 n22 n23 W24=>Mod D W8 W24∧st W24 b19 0 [.int .i64 n21,.int .i64 n22] fun W25=>Mod D W8 W25∧k7 (b19,0) n23 W25))∧(al W8 38 [.int .i64 0,.int .i64 0] fun b26 W27=>Mod D W8 W27∧callK Pg 27 [Az b1,Ai 24] W27 Oz fun a28 W29=>Mod D W8 W29∧callK Pg 26 [Az a28,Ai n9] W29 (.tup [.agg [Ki,Ki],Li]) fun n30 n31 n32 W33=>Mod D W8 W33∧st W33 b26 0 [.int .i64 n30,.int .i64 n31] fun W34=>Mod D W8 W34∧k7 (b26,0) n32 W34)) fun t35 e36 W37=>ifK (e36 != 0) (ld W37 Ki b4 0 fun n38=>ld W37 .bool b4 1 fun c39=>ld W37 Ki b4 2 fun n40=>ld W37 Ki b4 3 fun n41=>ld W37 .sl b4 4 fun a42=>ld W37 .bool b4 5 fun c43=>ld W37 Ki b4 6 fun n44=>ld W37 .sl b4 7 fun a45=>ld W37 .sl b4 8 fun a46=>st W37 b2 0 [.int .i64 n38,.bool c39,.int .i64 n40,.int .i64 n41,.sl a42,.bool c43,.int .i64 n44,.sl a45,.sl a46] fun W47=>ld W47 Ki b2 0 fun n48=>ld W47 .bool b2 1 fun c49=>ld W47 Ki b2 2 fun n50=>ld W47 Ki b2 3 fun n51=>ld W47 .sl b2 4 fun a52=>ld W47 .bool b2 5 fun c53=>ld W47 Ki b2 6 fun n54=>ld W47 .sl b2 7 fun a55=>ld W47 .sl b2 8 fun a56=>K n48 c49 n50 n51 a52 c53 n54 a55 a56 W47) (st W37 b4 1 [.lit true] fun W57=>ld W57 Ki t35.1 t35.2 fun n58=>ld W57 Ki t35.1 (t35.2+1) fun n59=>st W57 b4 2 [.int .i64 n58,.int .i64 n59] fun W60=>ld W60 Ki t35.1 t35.2 fun n61=>ld W60 Ki t35.1 (t35.2+1) fun n62=>ld W60 Ki t35.1 t35.2 fun n63=>joinK [.bool] (fun k64=>loopL [.bool,Ki] (fun good66 at_67 W68 g65=>ifK (decide (at_67<w64 (n61+n62))) (al W68 48 [.int .i64 0,.int .i64 0,.lit false] fun b69 W70=>st W70 b69 0 [.int .i64 at_67,.int .i64 (mnI (w64 (at_67+4100)) (w64 (n61+n62))),.lit false] fun W71=>ld W71 Ki b69 0 fun n72=>ld W71 Ki b69 1 fun n73=>slx b1 1 (some n72) (some n73) none fun s74=>callK Pg 28 [Az s74] W71 (.tup [Ls,Li]) fun a75 n76 W77=>st W77 b69 2 [.bool (n76==0)] fun W78=>joinK [.bool] (fun k79=>ifK good66 (ld W78 .bool b69 2 fun c80=>k79 c80 W78) (k79 false W78)) fun good81 W82=>ld W82 .sl b4 4 fun a83=>ld W82 Ki b69 0 fun n84=>ld W82 Ki b69 1 fun n85=>ld W82 .bool b69 2 fun c86=>al W82 48 [.int .i64 n84,.int .i64 n85,.bool c86] fun b87 W88=>ap W88 48 3 24 [.int .i64 0,.int .i64 0,.lit false] a83 (⟨some (b87,0),1,1⟩) fun a89 W90=>st W90 b4 4 [.sl a89] fun W91=>g65 good81 (w64 (at_67+4100)) W91) (k64 good66 W68)) [.lit true,.int .i64 n63] W60) fun good92 W93=>joinK [.adr,Ki] (fun k94=>drawK W93 fun D W95=>ldD D W95 Ki t35.1 t35.2 fun n96=>slx b1 1 (some n96) (some (w64 (n61+n62))) none fun s97=>ldD D W95 Ki t35.1 t35.2 fun n98=>ldD D W95 Ki t35.1 (t35.2+1) fun n99=>(callK Pg 29 [Az s97,.agg [.int .i64 n98,.int .i64 n99]] W95 (.tup [.agg [Ki,.sl],Li]) fun n100 a101 n102 W103=>Mod D W95 W103∧al W103 42 [.int .i64 0,.sl (⟨none,0,0⟩)] fun b104 W105=>Mod D W95 W105∧st W105 b104 0 [.int .i64 n100,.sl a101] fun W106=>Mod D W95 W106∧k94 (b104,0) n102 W106)∧(al W95 42 [.int .i64 0,.sl (⟨none,0,0⟩)] fun b107 W108=>Mod D W95 W108∧callK Pg 29 [Az s97,.agg [.int .i64 n98,.int .i64 n99]] W108 (.tup [.agg [Ki,.sl],Li]) fun n109 a110 n111 W112=>Mod D W95 W112∧st W112 b107 0 [.int .i64 n109,.sl a110] fun W113=>Mod D W95 W113∧k94 (b107,0) n111 W113)) fun foot114 g115 W116=>joinK [.bool] (fun k117=>ifK (!good92) (k117 true W116) (k117 (g115 != 0) W116)) fun t92118 W119=>ifK t92118 (ld W119 Ki b4 0 fun n120=>ld W119 .bool b4 1 fun c121=>ld W119 Ki b4 2 fun n122=>ld W119 Ki b4 3 fun n123=>ld W119 .sl b4 4 fun a124=>ld W119 .bool b4 5 fun c125=>ld W119 Ki b4 6 fun n126=>ld W119 .sl b4 7 fun a127=>ld W119 .sl b4 8 fun a128=>st W119 b2 0 [.int .i64 n120,.bool c121,.int .i64 n122,.int .i64 n123,.sl a124,.bool c125,.int .i64 n126,.sl a127,.sl a128] fun W129=>ld W129 Ki b2 0 fun n130=>ld W129 .bool b2 1 fun c131=>ld W129 Ki b2 2 fun n132=>ld W129 Ki b2 3 fun n133=>ld W129 .sl b2 4 fun a134=>ld W129 .bool b2 5 fun c135=>ld W129 Ki b2 6 fun n136=>ld W129 .sl b2 7 fun a137=>ld W129 .sl b2 8 fun a138=>K n130 c131 n132 n133 a134 c135 n136 a137 a138 W129) (st W119 b4 5 [.lit true] fun W139=>ld W139 Ki foot114.1 foot114.2 fun n140=>ld W139 .sl foot114.1 (foot114.2+1) fun a141=>st W139 b4 6 [.int .i64 n140,.sl a141] fun W142=>joinK [] (fun k143=>loopL [Ki,Ki] (fun at_145 i146 W147 g144=>ld W147 .sl foot114.1 (foot114.2+1) fun a148=>ifK (decide (i146<(a148.len:Int))) (joinK [Ki] (fun k149=>loopL [Ki,.str,.bool,Ki] (fun at_151 end_152 any153 k154 W155 g150=>ld W155 .sl foot114.1 (foot114.2+1) fun a156=>ix a156 5 i146 fun b157 o158=>ld W155 .sl b157 (o158+1) fun a159=>ifK (decide (k154<(a159.len:Int))) (drawK W155 fun D W160=>ldD D W160 .sl foot114.1 (foot114.2+1) fun a161=>ix a161 5 i146 fun b162 o163=>ldD D W160 .sl b162 (o163+1) fun a164=>ix a164 4 k154 fun b165 o166=>ldD D W160 Ki b165 o166 fun n167=>ldD D W160 Ki b165 (o166+1) fun n168=>ldD D W160 Ki b165 (o166+2) fun n169=>ldD D W160 .str b165 (o166+3) fun s170=>ldD D W160 .sl foot114.1 (foot114.2+1) fun a171=>ix a171 5 i146 fun b172 o173=>ldD D W160 Ki b172 o173 fun n174=>al W160 60 [.int .i64 0,.int .i64 0,.int .i64 0,.int .i64 0,.int .i64 0,.str [],.int .i64 0,.int .i64 0,.int .i64 0,.sl (⟨none,0,0⟩)] fun b175 W176=>Mod D W160 W176∧st W176 b175 0 [.int .i64 at_151,.int .i64 0,.int .i64 n167,.int .i64 n168,.int .i64 n169,.str s170,.int .i64 n174,.int .i64 0,.int .i64 0,.sl (⟨none,0,0⟩)] fun W177=>ld W177 Ki b175 2 fun n178=>st W177 b175 1 [.int .i64 (w64 ((w64 (at_151+n178))+5))] fun W179=>ld W179 Ki b175 1 fun n180=>ld W179 Ki b175 0 fun n181=>ld W179 Ki b175 1 fun n182=>slx b1 1 (some n181) (some n182) none fun s183=>callK Pg 30 [Ap (some (b175,0)),Az s183] W179 (.tup []) fun W184=>ld W184 Ki b175 7 fun n185=>joinK [.str,.bool] (fun k186=>ifK (n185==0) (joinK [.bool] (fun k187=>ifK any153 (ld W184 .sl b175 9 fun a188=>ix a188 3 0 fun b189 o190=>ld W184 .str b189 (o190+1) fun s191=>k187 (Op.bytesLess s191 end_152) W184) (k187 false W184)) fun t160192 W193=>joinK [] (fun k194=>ifK t160192 (st W193 b175 7 [.int .i64 2] fun W195=>k194 W195) (k194 W193)) fun W196=>ld W196 .sl b175 9 fun a197=>ld W196 .sl b175 9 fun a198=>ix a197 3 (w64 ((a198.len:Int)-1)) fun b199 o200=>ld W196 .str b199 (o200+1) fun s201=>k186 s201 true W196) (k186 end_152 any153 W184)) fun end_202 any203 W204=>ld W204 .sl b4 8 fun a205=>ld W204 Ki b175 0 fun n206=>ld W204 Ki b175 1 fun n207=>ld W204 Ki b175 2 fun n208=>ld W204 Ki b175 3 fun n209=>ld W204 Ki b175 4 fun n210=>ld W204 .str b175 5 fun s211=>ld W204 Ki b175 6 fun n212=>ld W204 Ki b175 7 fun n213=>ld W204 Ki b175 8 fun n214=>ld W204 .sl b175 9 fun a215=>al W204 60 [.int .i64 n206,.int .i64 n207,.int .i64 n208,.int .i64 n209,.int .i64 n210,.str s211,.int .i64 n212,.int .i64 n213,.int .i64 n214,.sl a215] fun b216 W217=>ap W217 60 10 104 [.int .i64 0,.int .i64 0,.int .i64 0,.int .i64 0,.int .i64 0,.str [],.int .i64 0,.int .i64 0,.int .i64 0,.sl (⟨none,0,0⟩)] a205 (⟨some (b216,0),1,1⟩) fun a218 W219=>st W219 b4 8 [.sl a218] fun W220=>g150 n180 end_202 any203 (w64 (k154+1)) W220) (k149 at_151 W155)) [.int .i64 at_145,.str [],.lit false,.int .i64 0] W147) fun at_221 W222=>g144 at_221 (w64 (i146+1)) W222) (k143 W147)) [.int .i64 0,.int .i64 0] W142) fun W223=>ld W223 Ki b4 0 fun n224=>ld W223 .bool b4 1 fun c225=>ld W223 Ki b4 2 fun n226=>ld W223 Ki b4 3 fun n227=>ld W223 .sl b4 4 fun a228=>ld W223 .bool b4 5 fun c229=>ld W223 Ki b4 6 fun n230=>ld W223 .sl b4 7 fun a231=>ld W223 .sl b4 8 fun a232=>st W223 b2 0 [.int .i64 n224,.bool c225,.int .i64 n226,.int .i64 n227,.sl a228,.bool c229,.int .i64 n230,.sl a231,.sl a232] fun W233=>ld W233 Ki b2 0 fun n234=>ld W233 .bool b2 1 fun c235=>ld W233 Ki b2 2 fun n236=>ld W233 Ki b2 3 fun n237=>ld W233 .sl b2 4 fun a238=>ld W233 .bool b2 5 fun c239=>ld W233 Ki b2 6 fun n240=>ld W233 .sl b2 7 fun a241=>ld W233 .sl b2 8 fun a242=>K n234 c235 n236 n237 a238 c239 n240 a241 a242 W233))):callK Pg 13 [Az b1] w (.one (.agg [Ki,.bool,Ki,Ki,.sl,.bool,Ki,.sl,.sl])) K:=Fq (n:=(n0 .nil (n0 .nil (n0 (.mk (some [.tmp 4 (.leaf (.adr)),.tmp 5 Li]) [] [0,2,3] (tk [0,2,3] (.two 1 (.two 4 (.take 5 (.take 6 (.take 7 (.eff 8 (.eff 9 (.take 10 .done)))))) 8 (.eff 4 (.take 5 (.take 6 (.take 7 (.eff 9 (.take 10 .done))))))) 8 (.eff 1 (.eff 4 (.take 5 (.take 6 (.take 7 (.eff 9 (.take 10 .done))))))))) .nil .nil) (n0 .nil (n0 .nil (n0 .nil (n0 .nil (n0 .nil (n0 (n0 .nil (.mk (some [.tmp 6 Lb]) [] [0,2,3,4,7] .done (.mk none [.tmp 6 Lb,.tmp 8 Li] [0,2,3,4,7] .done (n0 .nil (n0 (n0 (n0 .nil (n0 .nil (n0 .nil (n0 (.mk (some [.tmp 6 Lb]) [] [0,2,3,4,7,8,9] .done .nil .nil) .nil)))) .nil) .nil)) .nil) .nil)) (n0 (.mk (some [.tmp 10 (.leaf (.adr)),.tmp 11 Li]) [] [0,2,3,6] (tk [0,1,2,3,4,5] (.two 6 (.take 7 (.take 8 (.take 9 (.eff 10 (.eff 11 (.take 12 .done)))))) 10 (.eff 6 (.take 7 (.take 8 (.take 9 (.eff 11 (.take 12 .done)))))))) .nil .nil) (n0 (n0 (.mk (some [.tmp 92 Lb]) [] [0,2,3,10] .done .nil .nil) .nil) (n0 .nil (n0 .nil (n0 .nil (n0 (n0 .nil (.mk (some []) [] [2,3] .done (.mk none [.tmp 12 Li,.tmp 13 Li] [0,2,3,10] .done (n0 .nil (n0 (n0 (n0 .nil (n0 .nil (n0 .nil (.mk (some [.tmp 12 Li]) [] [0,2,3,10,13] .done (.mk none [.tmp 12 Li,.tmp 14 Lt,.tmp 15 Lb,.tmp 16 Li] [0,2,3,10,13] .done (n0 .nil (n0 (n0 (n0 (.mk none [] [] (tk [0,1,2,3,4,5,6,7,8,9,10,11,12,13,14,15,16] (.eff 17 (.last 18))) .nil .nil) (n0 .nil (n0 .nil (n0 .nil (n0 (n0 .nil (.mk (some [.tmp 14 Lt,.tmp 15 Lb]) [] [0,2,3,10,12,13,16,17] .done (n0 (n0 (.mk (some [.tmp 160 Lb]) [] [0,2,3,10,12,13,16,17] .done .nil .nil) (.mk (some []) [] [0,2,3,10,12,13,16,17] .done .nil .nil)) .nil) .nil)) .nil))))) .nil) .nil)) .nil) .nil)))) .nil) .nil)) .nil) .nil)) .nil)))))))))))))))) CS_ok mixed Tryz.func13 (Eq.mpr (by kernel_rfl) h)
theorem go_34(x1:PA)(tile2:Sl)(K:Wp)(w:World)(h:ix tile2 1 (w64 ((tile2.len:Int)-5)) fun b3 o4=>ld w (.int .u8) b3 o4 fun n5=>dr x1 fun b6 o7=>st w b6 (o7+8) [.int .i64 (w64 (n5))] fun W8=>dr x1 fun b9 o10=>st W8 b9 (o10+7) [.int .i64 1] fun W11=>dr x1 fun b12 o13=>ld W11 Ki b12 (o13+2+1) fun n14=>callK Pg 55 [Az tile2,Ai n14] W11 (.tup [Lp,Li]) fun p15 n16 W17=>joinK [.bool] (fun k18=>drawK W17 fun D W19=>ifK (n16 != 0) (k18 true W19) (dr x1 fun b20 o21=>ldD D W19 Ki b20 (o21+2+2) fun n22=>callK Pg 56 [Ap p15] W19 Oi fun n23 W24=>Mod D W19 W24∧k18 (n23 != n22) W24)) fun t4725 W26=>ifK t4725 (K W26) (callK Pg 57 [Ap p15,Ai 0] W26 (.tup [Lt,Lt,Li]) fun s27 s28 n29 W30=>drawK W30 fun D W31=>ssx s27 none (some (mnI (s27.length:Int) 64)) fun s32=>dr x1 fun b33 o34=>ldD D W31 .str b33 (o34+2+3) fun s35=>ifK (!(s32==s35)) (K W31) (dr x1 fun b36 o37=>st W31 b36 (o37+7) [.int .i64 0] fun W38=>joinK [] (fun k39=>loopL [Ki] (fun i41 W42 g40=>callK Pg 56 [Ap p15] W42 Oi fun n43 W44=>ifK (decide (i41<n43)) (callK Pg 57 [Ap p15,Ai i41] W44 (.tup [Lt,Lt,Li]) fun s45 s46 n47 W48=>drawK W48 fun D W49=>dr x1 fun b50 o51=>ldD D W49 .sl b50 (o51+9) fun a52=>dr x1 fun b53 o54=>ldD D W49 Ki b53 (o54+6) fun n55=>al W49 89 [.int .i64 n55,.str s45,.str s46] fun b56 W57=>Mod D W49 W57∧ap W57 89 3 40 [.int .i64 0,.str [],.str []] a52 (⟨some (b56,0),1,1⟩) fun a58 W59=>Mod D W49 W59∧dr x1 fun b60 o61=>st W59 b60 (o61+9) [.sl a58] fun W62=>g40 (w64 (i41+1)) W62) (k39 W44)) [.int .i64 0] W38) fun W63=>K W63))):callK Pg 30 [Ap x1,Az tile2] w (.tup []) K:=Fq (n:=(n0 .nil (n0 .nil (n0 .nil (n0 (n0 (.mk (some [.tmp 47 Lb]) [] [0,4] (tk [0,1,2] (.split 2 (.take 3 (.take 4 (.take 5 (.take 6 (.take 7 (.take 8 (.take 9 (.take 10 (.take 11 .done))))))))) (.take 3 (.take 5 (.take 6 (.take 7 (.take 8 (.take 9 (.eff 4 (.take 10 (.take 11 .done))))))))))) .nil .nil) .nil) (n0 .nil (n0 (n0 (.mk none [] [] (tk [0,1,2,3,4,5,6,7,8,9,10] .done) .nil .nil) .nil) (n0 .nil (n0 .nil (.mk (some []) [] [] .done (.mk none [.tmp 9 Li] [0,4] .done (n0 .nil (n0 (n0 (n0 .nil (.mk none [] [] (tk [0,1,2,3,4,5,6,7,8,9,10,11] (.eff 12 (.eff 13 (.take 14 (.take 15 (.last 16)))))) .nil .nil)) .nil) .nil)) .nil) .nil)))))))))) CS_ok mixed Tryz.func30 (Eq.mpr (by kernel_rfl) h)
theorem go_32(r1:PA)(K:Int→Wp)(w:World)(h:ifK r1.isNone (K 0 w) (dr r1 fun b2 o3=>ld w .sl b2 o3 fun a4=>K (a4.len:Int) w)):callK Pg 56 [Ap r1] w Oi K:=Fq (n:=.nil) CS_ok mixed Tryz.func56 (Eq.mpr (by kernel_rfl) h)
theorem go_33(r1:PA)(i2:Int)(K:List UInt8→List UInt8→Int→Wp)(w:World)(h:ifK r1.isNone (K [] [] 1 w) (joinK [.bool] (fun k3=>ifK (decide (i2<0)) (k3 true w) (dr r1 fun b4 o5=>ld w .sl b4 o5 fun a6=>k3 (decide ((a6.len:Int)≤i2)) w)) fun t197 W8=>ifK t197 (K [] [] 3 W8) (drawK W8 fun D W9=>dr r1 fun b10 o11=>ldD D W9 .sl b10 o11 fun a12=>ix a12 2 i2 fun b13 o14=>ldD D W9 .str b13 o14 fun s15=>dr r1 fun b16 o17=>ldD D W9 .sl b16 o17 fun a18=>ix a18 2 i2 fun b19 o20=>ldD D W9 .str b19 (o20+1) fun s21=>K s15 s21 0 W9))):callK Pg 57 [Ap r1,Ai i2] w (.tup [Lt,Lt,Li]) K:=Fq (n:=(n0 .nil (n0 .nil (n0 (n0 (.mk (some [.tmp 19 Lb]) [] [0,1] .done .nil .nil) .nil) (n0 (.mk none [] [] (tk [0,1,2,3,4,5,6,7,8,9,10,11,12,13,14,15,16,17,18] .done) .nil .nil) .nil))))) CS_ok mixed Tryz.func57 (Eq.mpr (by kernel_rfl) h)
end Go.Proofs.YtoegpmjoajipcaaGreatDoor
namespace Go.Proofs.YtoegpmjoajipcaaGreatDoor
open Go.Vw
open Go
section
variable {w:World}{rb:Nat}{s:Sl}{l:List (Str×Str)}
theorem rLen_ok(hB:Blk w rb [(LV.sl s).toV])(hr:RdS w EPr s l){K:Int→Wp}(hK:K (l.length:Int) w):callK Tryz.prog c_32 [Ap (some (rb,0))] w Oi K:=by
 refine go_32 _ _ _ (ifK_f rfl (Dq (hB.ldK (k:=.sl) s rfl ?_)));rw [hr.len];exact hK
theorem rAt_ok(hB:Blk w rb [(LV.sl s).toV])(hr:RdS w EPr s l){i:Int}{K:Str→Str→Int→Wp}(hK:∀w',Mod F0 w w'→K (atN l i).1 (atN l i).2.1 (atN l i).2.2 w') :
  callK Tryz.prog c_33 [Ap (some (rb,0)),Ai i] w (.tup [Lt,Lt,Li]) K:=by
 refine go_33 _ _ _ _ (ifK_f rfl ?_);refine join1 (a:=.bool) (fun q v=>q=decide (i<0∨(l.length:Int)≤i)∧v=w) ?_ ?_
 ·intro k hk;refine Iq (fun q=>hk _ _ ⟨?_,rfl⟩) fun q=>Dq (hB.ldK (k:=.sl) s rfl (hk _ _ ⟨?_,rfl⟩))
  ·exact (Dct (.inl (odt q))).symm
  ·rw [hr.len];have q:¬i<0:=odf q;simp [q]
 rintro q v ⟨rfl,rfl⟩;unfold atN at hK;refine Iq (fun q=>?_) fun q=>?_
 ·rw [if_pos (odt q)] at hK;exact hK _ (Mod.refl _ _)
 have q:=odf q;rw [if_neg q] at hK;obtain⟨x,hx⟩:=Gq (l:=l) (i:=i.toNat) (by omega);have e:l.getD i.toNat ([],[])=x:=by rw [Lgd,hx,Option.getD_some]
 rw [e] at hK;have hM:=Mq v;have dB:=hM.blk hB id;have hr':=hr.quiet hM;refine⟨F0,Dq (dB.ldDK (k:=.sl) s id rfl (hr'.ix rfl (by omega) hx fun b o _ hc=>?_))⟩;refine⟨x.1,id,hc 0 (by decide),Dq (dB.ldDK (k:=.sl) s id rfl (hr'.ix rfl (by omega) hx fun b2 o2 _ hc2=>⟨x.2,id,hc2 1 (by decide),hK _ hM⟩))⟩
end
def bkC(x:BlkP)(s:Sl):List Value:=[.int .i64 x.frm,.int .i64 x.to,.int .i64 x.info.stored,.int .i64 x.info.raw,.int .i64 x.info.count,(LV.str x.info.cut).toV,.int .i64 x.part,.int .i64 x.how,.int .i64 (x.flag:Int),(LV.sl s).toV]
def bkR(tile:Str)(x:BlkP):BlkP:={x with flag:=flagP tile,how:=if opnP tile x.info=none then 1 else 0,ents:=(opnP tile x.info).getD []}
theorem opnP_R(tile:Str)(b:BI):opnP tile b=match (blockR tile b.raw).2 with
  | none=>none
  | some l=>if (l.length:Int)≠b.count then none else if (l.getD 0 ([],[])).1.take 64=b.cut then some l else none:=by
 unfold opnP;rw [block_law];cases (blockN tile b.raw).2<;>rfl
theorem flagP_lt(tile:Str):flagP tile<256:=UInt8.toNat_lt _
set_option maxHeartbeats 1000000 in
theorem bread_ok{w0 w:World}{X:BL}{bb:Nat}{x:BlkP}{sT:Sl}{tile:Str}(hA:At w0 F0 ((bb,bkC x ⟨none,0,0⟩)::X) w)(ht:RdS w0 ET sT tile)(hl:tile.length≤1048576)(h5:5≤tile.length){K:Wp}
  (hK:∀w' s R,At w0 F0 ((bb,bkC (bkR tile x) s)::(X++R)) w'→VecL R ERec s (recsB (bkR tile x))→K w') :
  callK Tryz.prog c_34 [Ap (some (bb,0)),Az sT] w (.tup []) K:=by
 refine go_34 _ _ _ _ ?_;have hi5:w64 ((sT.len:Int)-5)=((tile.length-5:Nat):Int):=by
  rw [ht.len,Wq (by omega) (by omega)];omega
 rw [hi5];refine (ht.quiet hA.mod).byte rfl (by omega) fun b40 o41 _ hc40=>Lq (k:=.int .u8) ((tile[tile.length-5]'(by omega)).toNat:Int) hc40 ?_;rw [flag_eq h5];have hfl:=flagP_lt tile;have ef:w64 (flagP tile:Int)=(flagP tile:Int):=Wq (by omega) (by omega);rw [ef];refine Dq (hA.st 0 rfl (by show 8+1≤10;decide) fun w1 h1 _=>?_);have h1:At w0 F0 ((bb,bkC {x with flag:=flagP tile} ⟨none,0,0⟩)::X) w1:=h1;refine Dq (h1.st 0 rfl (by show 7+1≤10;decide) fun w2 h2 _=>?_);have h2:At w0 F0 ((bb,bkC {x with flag:=flagP tile,how:=1} ⟨none,0,0⟩)::X) w2:=h2;have hB:=h2.own (bb,_) (Lcs ..);have none_:opnP tile x.info=none→∀{w':World},Mod F0 w2 w'→K w':=fun ho w' M=>by
  have eb:bkR tile x = {x with flag:=flagP tile,how:=1,ents:=[]}:=by unfold bkR;rw [ho];rfl
  refine hK w' ⟨none,0,0⟩ [] ?_ (by rw [eb];exact VecL.nil ERec);rw [eb,Lan];exact h2.keep0 M fun _=>id
 refine Dq (hB.ldK (k:=Ki) x.info.raw rfl (rBlockOpen_ok (ht.quiet h2.mod) hl (fun hn w3 M3=>?_) fun l hlR w3 rb s' ro hF hv=>?_))
 ·have hn':(blockN tile x.info.raw).2=none:=by
   rw [block_law] at hn
   cases h:(blockN tile x.info.raw).2 with
   | none=>rfl
   | some y=>rw [h] at hn;cases hn
  have he:(blockR tile x.info.raw).1≠0:=by rw [block_law];exact (blockN_e0 tile x.info.raw).1 hn'
  have ho:opnP tile x.info=none:=by rw [opnP_R,hn]
  refine join1 (a:=.bool) (fun q u=>q=true∧u=w3.drew) (fun k hk=>⟨F0,ifK_t (by simpa using he) (hk _ _ ⟨rfl,rfl⟩)⟩) ?_;rintro q u ⟨rfl,rfl⟩;exact ifK_t rfl (none_ ho (mod0 M3 (Mq _)))
 have he:(blockR tile x.info.raw).1=0:=by
  have h:=hlR;rw [block_law] at h ⊢
  cases hb:(blockN tile x.info.raw).2 with
  | none=>rw [hb] at h;cases h
  | some y=>exact (blockN_e0 tile x.info.raw).2 y hb
 have hlen:=blockR_len hlR;rw [he];have h3:At w0 F0 (((bb,bkC {x with flag:=flagP tile,how:=1} ⟨none,0,0⟩)::X)++((rb,[(LV.sl s').toV])::ro)) w3:=h2.joinF hF (fun _ _ h=>h.elim) fun _ _=>id;have hM3:Mod F0 w2 w3:=hF.mod;have hB3:=h3.own (bb,bkC {x with flag:=flagP tile,how:=1} ⟨none,0,0⟩) (Lcs ..);have rd:∀{u:World},At w0 F0 (((bb,bkC {x with flag:=flagP tile,how:=1} ⟨none,0,0⟩)::X)++((rb,[(LV.sl s').toV])::ro)) u→Blk u rb [(LV.sl s').toV]∧RdS u EPr s' l:=fun {u} h=>
  ⟨h.own (rb,_) (Lmr _ (Lcs ..)),hv.rd fun q hq=>h.own q (Lmr _ (Lmc _ hq))⟩
 refine join1 (a:=.bool) (fun q u=>q=decide ((l.length:Int)≠x.info.count)∧Mod F0 w3 u) ?_ ?_
 ·intro k hk;have hd:=h3.keep0 (Mq w3) fun _=>id;refine⟨F0,ifK_f rfl (Dq (((Mq w3).blk hB3 id).ldDK (k:=Ki) x.info.count id rfl (rLen_ok (rd hd).1 (rd hd).2 ⟨Mod.refl _ _,hk _ _ ⟨?_,Mq w3⟩⟩)))⟩;by_cases h:(l.length:Int)=x.info.count
  ·rw [h,Dcf (by simp)];exact Bsf _
  ·rw [Dct h];simpa using h
 rintro q u ⟨rfl,M4⟩;refine Iq (fun q=>?_) fun q=>?_
 ·have q:=odt q;exact none_ (by rw [opnP_R,hlR];exact if_pos q) (mod0 hM3 M4)
 have q:¬(l.length:Int)≠x.info.count:=odf q;have h4:=h3.keep0 M4 fun _=>id;refine rAt_ok (rd h4).1 (rd h4).2 fun u2 M5=>?_;have ha:atN l 0=((l.getD 0 ([],[])).1,(l.getD 0 ([],[])).2,0):=by
  unfold atN;rw [if_neg (by omega)];rfl
 rw [ha];dsimp only;have hM5:=mod0 (mod0 M4 M5) (Mq u2);have h5':=h3.keep0 hM5 fun _=>id;have hB5:=h5'.own (bb,bkC {x with flag:=flagP tile,how:=1} ⟨none,0,0⟩) (Lcs ..);have hmn:mnI ((l.getD 0 ([],[])).1.length:Int) 64=((min (l.getD 0 ([],[])).1.length 64:Nat):Int):=mnI_nat (b:=64);refine⟨F0,ssx_take (n:=min (l.getD 0 ([],[])).1.length 64) (Nat.min_le_left _ _) hmn ?_⟩;have htk:(l.getD 0 ([],[])).1.take (min (l.getD 0 ([],[])).1.length 64)=(l.getD 0 ([],[])).1.take 64:=by
  by_cases h:(l.getD 0 ([],[])).1.length≤64
  ·rw [Nat.min_eq_left h,List.take_length,Ltl h]
  ·rw [Nat.min_eq_right (by omega)]
 rw [htk];refine Dq (hB5.ldDK (k:=.str) x.info.cut id rfl ?_);by_cases hc:(l.getD 0 ([],[])).1.take 64=x.info.cut
 case neg=>
  have hb:((l.getD 0 ([],[])).1.take 64==x.info.cut)=false:=by
   rw [←Bool.not_eq_true,beq_iff_eq];exact hc
  rw [hb];exact ifK_t rfl (none_ (by rw [opnP_R,hlR];dsimp only;rw [if_neg q,if_neg hc]) (mod0 hM3 hM5))
 have ho:opnP tile x.info=some l:=by rw [opnP_R,hlR];dsimp only;rw [if_neg q,if_pos hc]
 have hb:((l.getD 0 ([],[])).1.take 64==x.info.cut)=true:=by rw [beq_iff_eq];exact hc
 rw [hb];have eb:bkR tile x = {x with flag:=flagP tile,how:=0,ents:=l}:=by unfold bkR;rw [ho];rfl
 refine ifK_f rfl (Dq (h5'.st 0 rfl (by show 7+1≤10;decide) fun w6 h6 _=>?_));have h6:At w0 F0 (((bb,bkC {x with flag:=flagP tile,how:=0} ⟨none,0,0⟩)::(X++((rb,[(LV.sl s').toV])::ro)))++[]) w6:=by rw [Lan];exact h6
 refine join0 (fun u=>∃s R,At w0 F0 (((bb,bkC {x with flag:=flagP tile,how:=0} s)::(X++((rb,[(LV.sl s').toV])::ro)))++R) u∧VecL R ERec s (l.map fun e=>(x.part,e.1,e.2))) ?_ ?_
 ·intro k hk;refine loop1 (k:=Ki) (fun (i:Int) u=>∃(c:Nat) (s:Sl) (R:BL),i=(c:Int)∧c≤l.length∧At w0 F0 (((bb,bkC {x with flag:=flagP tile,how:=0} s)::(X++((rb,[(LV.sl s').toV])::ro)))++R) u∧VecL R ERec s ((l.take c).map fun e=>(x.part,e.1,e.2))) (fun i _=>(l.length-i).toNat) (x:=0) rfl
   ⟨0,_,[],rfl,Nzl _,h6,VecL.nil ERec⟩ ?_
  rintro (i:Int) u ⟨c,s,R,rfl,hcl,h,v⟩;have rd6:∀{u:World},At w0 F0 (((bb,bkC {x with flag:=flagP tile,how:=0} s)::(X++((rb,[(LV.sl s').toV])::ro)))++R) u→Blk u rb [(LV.sl s').toV]∧RdS u EPr s' l:=fun {u} h=>
   ⟨h.own (rb,_) (Lml _ (Lmc _ (Lmr _ (Lcs ..)))),hv.rd fun q hq=>h.own q (Lml _ (Lmc _ (Lmr _ (Lmc _ hq))))⟩
  refine rLen_ok (rd6 h).1 (rd6 h).2 (Iq (fun q=>?_) fun q=>?_);rotate_left
  ·have q:l.length≤c:=dge q;rw [Ltl q] at v;exact hk u ⟨s,R,h,v⟩
  have q:c<l.length:=dlt q;obtain⟨y,hy⟩:=Gq q;refine rAt_ok (rd6 h).1 (rd6 h).2 fun u1 M1=>?_;have ha:atN l (c:Int)=(y.1,y.2,0):=by
   unfold atN;rw [if_neg (by omega),Itn,Lgd,hy,Option.getD_some]
  rw [ha];dsimp only;have h7:=h.keep0 (mod0 M1 (Mq u1)) fun _=>id;have nd:=h7.nodup;rw [List.cons_append,List.map_cons,List.nodup_cons] at nd;have n1:¬Ks R bb:=by
   rintro ⟨q,hq,e⟩;exact nd.1 (List.mem_map.2 ⟨q,Lmr _ hq,e⟩)
  have hB7:=h7.own (bb,bkC {x with flag:=flagP tile,how:=0} s) (Lcs ..);refine⟨Ks R,Dq (hB7.ldDK (k:=.sl) s n1 rfl (Dq (hB7.ldDK (k:=Ki) x.part n1 rfl ?_)))⟩;refine h7.alK fun b13 w8 _ h8 M8=>⟨M8.mono (fun _ _ h=>h.elim),?_⟩;have hb8:Blk w8 b13 (ERec.f (x.part,y.1,y.2)):=h8.own (b13,_) (Lmr _ (Lms.2 rfl));have et:(l.take (c+1)).map (fun e=>(x.part,e.1,e.2))=(l.take c).map (fun e=>(x.part,e.1,e.2))++[(x.part,y.1,y.2)]:=by rw [List.take_add_one,hy,List.map_append];rfl
  have es:=step64 (i:=c) (by omega);refine appL (h8.sub (Lsl _ _)) v (rd_one hb8) rfl rfl (by rw [List.length_map,Llt];simp;omega) fun s9 ro9 w9 h9 v9 M9 _=>⟨(M8.mono (fun _ _ h=>h.elim)).trans M9 (fun _ _ h=>h) fun _ _ h=>h,Dq (h9.st 0 rfl (by show 9+1≤10;decide) fun w10 h10 _=>⟨⟨c+1,s9,ro9,es,by omega,h10,by rw [et];exact v9⟩,by rw [es];omega⟩)⟩
 rintro u ⟨s,R,h,v⟩;refine hK u s R ?_ (by rw [eb];exact v);rw [eb];refine h.sub ?_;exact List.Sublist.append (List.Sublist.cons_cons _ (Lsl _ _)) (List.Sublist.refl R)
def EPg:Enc PgP:=⟨3,fun x=>[.int .i64 x.frm,.int .i64 x.to,(LV.bool x.ok).toV],fun _=>rfl,by decide,fun x v h=>by
 simp only [List.mem_cons,List.not_mem_nil,or_false] at h;rcases h with rfl | rfl | rfl<;>rfl⟩
def EBk:Enc (BlkP×Sl):=⟨10,fun y=>bkC y.1 y.2,fun _=>rfl,by decide,fun x v h=>by
 simp only [bkC,List.mem_cons,List.not_mem_nil,or_false] at h
 rcases h with rfl | rfl | rfl | rfl | rfl | rfl | rfl | rfl | rfl | rfl<;>first | rfl | exact cell_sl _⟩
abbrev nilS:Sl:=⟨none,0,0⟩
def tkC(n:Int)(c1:Bool)(tb tp:Int)(sp:Sl)(c2:Bool)(P:Int)(sI sB:Sl):List Value:=[.int .i64 n,(LV.bool c1).toV,.int .i64 tb,.int .i64 tp,(LV.sl sp).toV,(LV.bool c2).toV,.int .i64 P,(LV.sl sI).toV,(LV.sl sB).toV]
abbrev tk0:List Value:=tkC 0 false 0 0 nilS false 0 nilS nilS
theorem At.front{w0 w:World}{D:Nat→Prop}{m:BL}{x:Nat×List Value}(h:At w0 D (m++[x]) w):At w0 D (x::m) w:=h.perm (Lpc (l₁:=[x]) (l₂:=m))
theorem At.alst{w0 w:World}{D:Nat→Prop}{L:BL}(h:At w0 D L w){e:TypeId}{cs vs:List LV}(hl:vs.length=cs.length){K:Nat→Wp}(hK:∀b u',At w0 D ((b,vs.map LV.toV)::L) u'→K b u') :
  Go.Vw.al w e cs fun b u1=>Go.Vw.st u1 b 0 vs fun u2=>K b u2:=(FA.of_at (J:=Inv.tt) h trivial).alst hl fun b u' g=>hK b u' (At.front g.at_)
section
variable {w:World}{sf:Sl}{file:Str}
theorem last_ok(hf:RdS w ET sf file)(hfl:file.length≤1048576){K:Sl→Wp}(hK:∀s,RdS w ET s (file.drop (lastP file).toNat)→K s w) :
  callK Tryz.prog c_35 [Az sf,Ai 24] w Oz K:=by
 refine go_35 _ _ _ _ ?_;rw [hf.len];refine Iq (fun q=>?_) fun q=>?_
 ·have q:(file.length:Int)<24:=odt q;have e:lastP file=0:=by unfold lastP mxI;split<;>omega
  rw [e] at hK;exact hK _ hf
 ·have q:¬(file.length:Int)<24:=odf q;have e:lastP file=file.length-24:=by unfold lastP mxI;split<;>omega
  have ew:w64 ((file.length:Int)-24)=lastP file:=by rw [e];exact Wq (by omega) (by omega)
  rw [ew];exact hf.fromK (n:=(lastP file).toNat) (by omega) rfl (by omega) fun s h _=>hK s h
theorem take_ret{u:World}{b2 b4:Nat}{X:BL}{n:Int}{c1:Bool}{tb tp:Int}{sp:Sl}{c2:Bool}{P:Int}{sI sB:Sl}{K:Int→Bool→Int→Int→Sl→Bool→Int→Sl→Sl→Wp}(h:At w F0 ((b2,tk0)::(b4,tkC n c1 tb tp sp c2 P sI sB)::X) u)
  (hK:∀u',At w F0 ((b2,tkC n c1 tb tp sp c2 P sI sB)::(b4,tkC n c1 tb tp sp c2 P sI sB)::X) u'→K n c1 tb tp sp c2 P sI sB u') :
  ld u Ki b4 0 fun n38=>
  ld u .bool b4 1 fun c39=>
  ld u Ki b4 2 fun n40=>
  ld u Ki b4 3 fun n41=>
  ld u .sl b4 4 fun a42=>
  ld u .bool b4 5 fun c43=>
  ld u Ki b4 6 fun n44=>
  ld u .sl b4 7 fun a45=>
  ld u .sl b4 8 fun a46=>
  st u b2 0 [.int .i64 n38,.bool c39,.int .i64 n40,.int .i64 n41,.sl a42,.bool c43,.int .i64 n44,.sl a45,.sl a46] fun W47=>
  ld W47 Ki b2 0 fun n48=>
  ld W47 .bool b2 1 fun c49=>
  ld W47 Ki b2 2 fun n50=>
  ld W47 Ki b2 3 fun n51=>
  ld W47 .sl b2 4 fun a52=>
  ld W47 .bool b2 5 fun c53=>
  ld W47 Ki b2 6 fun n54=>
  ld W47 .sl b2 7 fun a55=>
  ld W47 .sl b2 8 fun a56=>
  K n48 c49 n50 n51 a52 c53 n54 a55 a56 W47:=by
 have hB4:=h.own (b4,tkC n c1 tb tp sp c2 P sI sB) (by simp);refine hB4.ldK (k:=Ki) n rfl (hB4.ldK (k:=.bool) c1 rfl (hB4.ldK (k:=Ki) tb rfl (hB4.ldK (k:=Ki) tp rfl (hB4.ldK (k:=.sl) sp rfl (hB4.ldK (k:=.bool) c2 rfl (hB4.ldK (k:=Ki) P rfl (hB4.ldK (k:=.sl) sI rfl (hB4.ldK (k:=.sl) sB rfl ?_))))))));refine h.st 0 rfl (Nlr 9) fun u' h' _=>?_;have h':At w F0 ((b2,tkC n c1 tb tp sp c2 P sI sB)::(b4,tkC n c1 tb tp sp c2 P sI sB)::X) u':=h';have hB2:=h'.own (b2,tkC n c1 tb tp sp c2 P sI sB) (by simp);exact hB2.ldK (k:=Ki) n rfl (hB2.ldK (k:=.bool) c1 rfl (hB2.ldK (k:=Ki) tb rfl (hB2.ldK (k:=Ki) tp rfl (hB2.ldK (k:=.sl) sp rfl (hB2.ldK (k:=.bool) c2 rfl (hB2.ldK (k:=Ki) P rfl (hB2.ldK (k:=.sl) sI rfl (hB2.ldK (k:=.sl) sB rfl (hK u' h')))))))))
theorem pagesP_end{end_:Int}:∀{n:Nat} {a:Int},¬a<end_→pagesP file end_ n a=[]
 | 0,_,_=>rfl
 | n+1,a,h=>by rw [pagesP_s,if_neg h]
set_option maxHeartbeats 1000000 in
theorem take_pages{e62:TypeId}(hf:RdS w ET sf file)(hfl:file.length≤1048576)(hq:(trailP file).2.2=0){u:World}{b2 b4 bt:Nat}
  (h:At w F0 ((b2,tk0)::(b4,tkC file.length true (trailP file).1 (trailP file).2.1 nilS false 0 nilS nilS)::(bt,[.int .i64 (trailP file).1,.int .i64 (trailP file).2.1])::[]) u) {K:Bool→Wp}
  (hK:∀u' sp Rp,At w F0 ((b2,tk0)::(b4,tkC file.length true (trailP file).1 (trailP file).2.1 sp false 0 nilS nilS)::(bt,[.int .i64 (trailP file).1,.int .i64 (trailP file).2.1])::Rp) u'→VecL Rp EPg sp (pgsP file)→K (rightP0 file) u') :
  joinK [.bool] (fun k64=>
   loopL [.bool,Ki] (fun good66 at_67 W68 g65=>
    ifK (decide (at_67<endP file))
    (al W68 e62 [.int .i64 0,.int .i64 0,.lit false] fun b69 W70=>
     st W70 b69 0 [.int .i64 at_67,.int .i64 (mnI (w64 (at_67+4100)) (endP file)),.lit false] fun W71=>
     ld W71 Ki b69 0 fun n72=>
     ld W71 Ki b69 1 fun n73=>
     slx sf 1 (some n72) (some n73) none fun s74=>
     callK Tryz.prog c_36 [Az s74] W71 (.tup [Ls,Li]) fun a75 n76 W77=>
     st W77 b69 2 [.bool (n76==0)] fun W78=>
     joinK [.bool] (fun k79=>
      ifK good66
      (ld W78 .bool b69 2 fun c80=>
       k79 c80 W78)
      (k79 false W78)) fun good81 W82=>
     ld W82 .sl b4 4 fun a83=>
     ld W82 Ki b69 0 fun n84=>
     ld W82 Ki b69 1 fun n85=>
     ld W82 .bool b69 2 fun c86=>
     al W82 e62 [.int .i64 n84,.int .i64 n85,.bool c86] fun b87 W88=>
     ap W88 e62 3 24 [.int .i64 0,.int .i64 0,.lit false] a83 (⟨some (b87,0),1,1⟩) fun a89 W90=>
     st W90 b4 4 [.sl a89] fun W91=>
     g65 good81 (w64 (at_67+4100)) W91)
    (k64 good66 W68)) [.lit true,.int .i64 (trailP file).1] u) K:=by
 have ht:trailOk (trailP file).1 (trailP file).2.1=true∧(trailP file).1+(trailP file).2.1+24=file.length:=trailN_0 hq;have ht1:=odt ht.1;have hE:endP file=(trailP file).1+(trailP file).2.1:=rfl;refine join1 (a:=.bool) (fun (q:Bool) u=>q=rightP0 file∧∃sp Rp,At w F0 ((b2,tk0)::(b4,tkC file.length true (trailP file).1 (trailP file).2.1 sp false 0 nilS nilS)::(bt,[.int .i64 (trailP file).1,.int .i64 (trailP file).2.1])::Rp) u∧VecL Rp EPg sp (pgsP file)) ?_ (by rintro q u' ⟨rfl,sp,Rp,h1,h2⟩;exact hK u' sp Rp h1 h2);intro k hk;refine loop2 (k1:=.bool) (k2:=Ki) (fun (right:Bool) (at_:Int) u=>∃(n:Nat) (done:List PgP) (sp:Sl) (Rp:BL),pgsP file=done++pagesP file (endP file) n at_∧(trailP file).1≤at_∧at_≤endP file+4100∧endP file-at_≤4100*n∧done.length+n≤5000∧right=(done.all fun p=>p.ok) ∧
   At w F0 ((b2,tk0)::(b4,tkC file.length true (trailP file).1 (trailP file).2.1 sp false 0 nilS nilS)::(bt,[.int .i64 (trailP file).1,.int .i64 (trailP file).2.1])::Rp) u∧VecL Rp EPg sp done)
  (fun _ at_ _=>(endP file-at_).toNat) (x1:=true) (x2:=(trailP file).1) rfl rfl
  ⟨5000,[],nilS,[],(List.nil_append _).symm,Int.le_refl _,by omega,by omega,by simp,rfl,h,VecL.nil EPg⟩ ?_
 rintro (right:Bool) (at_:Int) u ⟨n,done,sp,Rp,hpg,ha0,ha1,hn,hdn,rfl,g,hv⟩;refine Iq (fun q=>?_) fun q=>?_;rotate_left
 ·have q:¬at_<endP file:=odf q;rw [pagesP_end q,Lan] at hpg;exact hk _ _ ⟨by unfold rightP0;rw [hpg],sp,Rp,g,by rw [hpg];exact hv⟩
 have q:at_<endP file:=odt q;obtain⟨n',rfl⟩:∃n',n=n'+1:=⟨n-1,by omega⟩;have e1:w64 (at_+4100)=at_+4100:=Wq (by omega) (by omega);rw [e1];have hmn:at_<mnI (at_+4100) (endP file)∧mnI (at_+4100) (endP file)≤endP file:=by unfold mnI;split<;>omega
 have hnx:pagesP file (endP file) n' (mnI (at_+4100) (endP file))=pagesP file (endP file) n' (at_+4100):=by
  unfold mnI;split
  ·rw [pagesP_end (by omega),pagesP_end (by omega)]
  ·rfl
 rw [pagesP_s,if_pos q,hnx] at hpg;generalize mnI (at_+4100) (endP file)=to at hpg hmn ⊢;refine At.alst g (by rfl) fun b69 u1 g1=>?_;have g1:At w F0 ((b69,[.int .i64 at_,.int .i64 to,(LV.bool false).toV])::(b2,tk0)::(b4,tkC file.length true (trailP file).1 (trailP file).2.1 sp false 0 nilS nilS)::(bt,[.int .i64 (trailP file).1,.int .i64 (trailP file).2.1])::Rp) u1:=g1;have hB:=g1.own (b69,_) (Lcs ..);refine hB.ldK (k:=Ki) at_ rfl (hB.ldK (k:=Ki) to rfl ((hf.quiet g1.mod).partK (n:=at_.toNat) (m:=to.toNat) (by omega) (by omega) rfl (by omega) (by omega) fun s33 h33 _=>?_));have h33:RdS u1 ET s33 (cutB file at_ to):=h33;refine rOpen_ok h33 (by rw [cutB_len (by omega) (by omega) (by omega)];omega) fun u2 ro s' hA2 _=>?_;have g2:=g1.keep0 hA2.mod fun _=>id;rw [beq_dec];refine g2.st 0 rfl (by show 2+1≤3;decide) fun u3 g3 _=>?_;have g3:At w F0 (((b69,EPg.f ⟨at_,to,decide ((openB (cutB file at_ to)).1=0)⟩)::(b2,tk0)::(b4,tkC file.length true (trailP file).1 (trailP file).2.1 sp false 0 nilS nilS)::[(bt,[.int .i64 (trailP file).1,.int .i64 (trailP file).2.1])])++Rp) u3:=g3;have hB:=g3.own (b69,EPg.f ⟨at_,to,decide ((openB (cutB file at_ to)).1=0)⟩) (Lcs ..);have hB4:=g3.own (b4,tkC file.length true (trailP file).1 (trailP file).2.1 sp false 0 nilS nilS) (by simp);have ea:((done++[(⟨at_,to,decide ((openB (cutB file at_ to)).1=0)⟩:PgP)]).all fun p=>p.ok)=((done.all fun p=>p.ok)&&decide ((openB (cutB file at_ to)).1=0)):=by
  rw [List.all_append,List.all_cons,List.all_nil,Bool.and_true]
 refine join1 (a:=.bool) (fun (q:Bool) u=>q=((done++[(⟨at_,to,decide ((openB (cutB file at_ to)).1=0)⟩:PgP)]).all fun p=>p.ok)∧u=u3) ?_ ?_
 ·intro k hk;refine Iq (fun q=>hB.ldK (k:=.bool) (decide ((openB (cutB file at_ to)).1=0)) rfl (hk _ _ ⟨?_,rfl⟩)) fun q=>hk _ _ ⟨?_,rfl⟩
  ·have q:(done.all fun p=>p.ok)=true:=q;rw [ea,q,Bool.true_and]
  ·have q:(done.all fun p=>p.ok)=false:=q;rw [ea,q,Bool.false_and]
 rintro q5 u5 ⟨rfl,rfl⟩;refine hB4.ldK (k:=.sl) sp rfl (hB.ldK (k:=Ki) at_ rfl (hB.ldK (k:=Ki) to rfl (hB.ldK (k:=.bool) (decide ((openB (cutB file at_ to)).1=0)) rfl ?_)));refine g3.alK fun b87 u6 _ g6 _=>?_;have hb:Blk u6 b87 (EPg.f ⟨at_,to,decide ((openB (cutB file at_ to)).1=0)⟩):=g6.own (b87,_) (Lmr _ (Lms.2 rfl));refine appL (g6.sub (Lsl _ _)) hv (rd_one hb) rfl rfl (by simp;omega) fun s7 ro7 u7 g7 v7 _ _=>g7.st 2 rfl (by show 4+1≤9;decide) fun u8 g8 _=>⟨⟨n',done++[⟨at_,to,decide ((openB (cutB file at_ to)).1=0)⟩],s7,ro7,by rw [hpg,Laa];rfl,by omega,by omega,by omega,by rw [Lla,List.length_singleton];omega,rfl,?_,v7⟩,by omega⟩;exact g8.sub (List.sublist_cons_self _ _)
end
end Go.Proofs.YtoegpmjoajipcaaGreatDoor
