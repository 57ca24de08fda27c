/- Part T16. -/
import Derived.Test.YtkofkhjcfjoceaaGreatT15
namespace Go.Proofs.YtkofkhjcfjoceaaGreat
open Go.Vw
open Go
section
variable {w0 w w':World}{bs q:Nat}{a b:Full}{m m':BL}
theorem JJ.at_(h:JJ w0 bs q a b m w):At w0 F0 m w:=let ⟨_,_,h⟩:=h;h.st.side.sub (Lsl _ _)
theorem JJ.put(h:JJ w0 bs q a b m w)(h2:At w (Ks m) m' w'):JJ w0 bs q a b m' w':=by
 obtain⟨g,r,h⟩:=h;have h1:StA w0 (r.parts.flatten++m) 0 g w:=h.st.permM Lpc;exact⟨g,r,(h1.rput h2).1.permM Lpc,h.ok,h.bs,h.q,h.a,h.b⟩
theorem JJ.base(h:JJ w0 bs q a b m w):At w (Ks m) m w:=h.at_.from ksIn
theorem JJ.alst(h:JJ w0 bs q a b m w){e:TypeId}{cs vs:List LV}(hl:vs.length=cs.length){K:Nat→Wp}(hK:∀b' u',JJ w0 bs q a b (m++[(b',vs.map LV.toV)]) u'→K b' u') :
  Go.Vw.al w e cs fun b' u1=>Go.Vw.st u1 b' 0 vs fun u2=>K b' u2:=
 (Fresh.start w F0).alst hl fun b' u' hF _ _=>hK b' u' (h.put (by have:=h.base.joinF hF (fun _ _ h=>h.elim) (fun _ _=>id);simpa using this))
theorem jcreate_ok(h:JJ w0 bs q a b m w)(n:Str){K:Int→Wp}(hK:∀w',JJ w0 bs q ((createA n a.1).2,a.2) b m w'→K (createA n a.1).1 w') :
  callK Pg c_88 [Ap (some (bs,0)),Au n] w Oi K:=by
 obtain⟨g,r,h⟩:=h;rw [←h.bs];refine create_ok h.st n fun g' w' hx=>?_;have e:=h.ea;have:=h.nx hx;rw [e] at this ⊢;exact hK w' this
theorem jappend_ok(h:JJ w0 bs q a b m w)(n:Str){s:Sl}{d:List Int}(hd:∀w',Mod F0 w0 w'→RdS w' EU s d)(hl:d.length≤1099511627776)(hby:∀x∈d,0≤x∧x<256){K:Int→Wp}(hK:∀w',JJ w0 bs q ((appendA n d a.1).2,a.2) b m w'→K (appendA n d a.1).1 w') :
  callK Pg c_90 [Ap (some (bs,0)),Au n,Az s] w Oi K:=by
 obtain⟨g,r,h⟩:=h;rw [←h.bs];refine append_ok h.st n (fun w' hA=>hd w' hA.mod) hl hby fun g' w' hx=>?_;have e:=h.ea;have:=h.nx hx;rw [e] at this ⊢;exact hK w' this
theorem jpublish_ok(h:JJ w0 bs q a b m w)(n:Str){K:Int→Wp}(hK:∀w',JJ w0 bs q ((publishA n a.1).2,a.2) b m w'→K (publishA n a.1).1 w') :
  callK Pg c_91 [Ap (some (bs,0)),Au n] w Oi K:=by
 obtain⟨g,r,h⟩:=h;rw [←h.bs];refine publish_ok h.st n fun g' w' hx=>?_;have e:=h.ea;have:=h.nx hx;rw [e] at this ⊢;exact hK w' this
theorem jrcreate_ok(h:JJ w0 bs q a b m w)(n:Str)(hn:n.length≤1099511627776)(hb:b.1.length<1073741824){K:Int→Wp}(hK:∀w',JJ w0 bs q a ((createR n b.1).2,b.2) m w'→K (createR n b.1).1 w') :
  callK Pg c_78 [Ap (some (q,0)),Au n] w Oi K:=by
 obtain⟨g,r,h⟩:=h;rw [←h.q];have e:=h.eb;have hl':r.es.length<1073741824:=by have e:=e;unfold RG.abs at e;have h2:=congrArg List.length e;simp only [List.length_map] at h2;omega
 refine rcreate_ok h.st.rbase h.ok hl' n hn fun r' w' hx=>?_;have:=(h.rn hx).1;rw [e] at this ⊢;exact hK w' this
theorem jrappend_ok(h:JJ w0 bs q a b m w)(n:Str)(hn:n.length≤1099511627776){s:Sl}{d:List Int}(hd:∀w',Mod F0 w0 w'→RdS w' EU s d)(hl:d.length≤1099511627776)(hby:∀x∈d,0≤x∧x<256){K:Int→Wp}(hK:∀w',JJ w0 bs q a ((appendA n d b.1).2,b.2) m w'→K (appendA n d b.1).1 w') :
  callK Pg c_96 [Ap (some (q,0)),Au n,Az s] w Oi K:=by
 have hM:=h.at_.mod;obtain⟨g,r,h⟩:=h;rw [←h.q];have e:=h.eb;refine rappend_ok h.st.rbase h.ok n hn (hd w hM) hl hby fun r' w' hx=>?_;have:=(h.rn hx).1;rw [e] at this ⊢;exact hK w' this
theorem jrpublish_ok(h:JJ w0 bs q a b m w)(n:Str)(hn:n.length≤1099511627776){K:Int→Wp}(hK:∀w',JJ w0 bs q a ((publishR n b.1).2,b.2) m w'→K (publishR n b.1).1 w') :
  callK Pg c_95 [Ap (some (q,0)),Au n] w Oi K:=by
 obtain⟨g,r,h⟩:=h;rw [←h.q];have e:=h.eb;refine rpublish_ok h.st.rbase h.ok n hn fun r' w' hx=>?_;have:=(h.rn hx).1;rw [e] at this ⊢;exact hK w' this
theorem made_ok{K:PA→PA→Wp}(hK:∀bs q x w',JJ w bs q ([],(0,0,0)) ([],(0,0,0)) [x] w'→K (some (bs,0)) (some (q,0)) w'):callK Pg c_162 [] w (.one (.agg [.ptr,.ptr])) K:=by
 refine go_162 _ _ ?_;refine (At.init w F0).alK fun b1 w2 _ hA _=>?_;refine new_ok hA fun g w3 hg _ hga hgm _ _ _=>go_186 _ _ (hg.alS fun bq w4 _ h4 _=>?_);have hrok:RG.ok ⟨bq,⟨none,0,0⟩,[],[],[],0,0,0⟩:=⟨VecL.nil ERb,rfl,Nzl _,fun k x ro h=>(by have h:([]:List (Str×Sl×Bl))[k]? = some x:=h;simp at h)⟩;have hJ:JJ w g.bs bq ([],(0,0,0)) ([],(0,0,0)) [(b1,[LV.ptr none,LV.ptr none].map LV.toV)] w4:=
  ⟨g,⟨bq,⟨none,0,0⟩,[],[],[],0,0,0⟩,h4,hrok,rfl,rfl,by rw [hga,hgm],rfl⟩
 refine hJ.base.st 0 rfl (Nlr 2) fun w5 hA5 _=>?_;have hJ5:=hJ.put hA5;have hB:Blk w5 b1 [(LV.ptr (some (g.bs,0))).toV,(LV.ptr (some (bq,0))).toV]:=hJ5.at_.blk (i:=0) rfl;exact hB.ldK (k:=.ptr) (some (g.bs,0)) rfl (hB.ldK (k:=.ptr) (some (bq,0)) rfl (hK g.bs bq _ w5 hJ5))
end
theorem blob_append{t:Str}(ht:t.length≤268435456):appendA nameX (intsN t) [(nameX,Bl.new)]=(0,[(nameX,theBl t false)]):=by
 have e:writeA nameX [(nameX,Bl.new)]=(0,some Bl.new):=rfl;unfold appendA;rw [e];have hn:Bl.new.data=[]:=rfl;have hs:Bl.new.stops=false:=rfl;dsimp only;rw [if_neg (by rw [hn,intsN_length];show ¬268435456<0+t.length;omega),if_neg (by rw [hs];simp)];rfl
def Rds(bs q:Nat)(M:BL)(pa pb:PA)(P:Int)(l:List PartI):Prop:=(pa=none∧pb=none∧P=0∧l=[])∨∃br br' R R',pa=some (br,0)∧pb=some (br',0)∧RdL bs R br P l∧RdD q R' br' P l∧(∀p∈R,p∈M)∧∀p∈R',p∈M
theorem Rds.mono{bs q:Nat}{M M':BL}{pa pb:PA}{P:Int}{l:List PartI}(h:Rds bs q M pa pb P l)(hs:∀p∈M,p∈M'):Rds bs q M' pa pb P l:=by
 rcases h with h | ⟨br,br',R,R',h1,h2,h3,h4,h5,h6⟩
 ·exact .inl h
 ·exact .inr ⟨br,br',R,R',h1,h2,h3,h4,fun p hp=>hs p (h5 p hp),fun p hp=>hs p (h6 p hp)⟩
section
variable {w0 w:World}{bs q:Nat}{t:Str}{out:Bool}{M:BL}{pa pb:PA}{P:Int}{l:List PartI}
theorem foot2_ok(h:SS w0 bs q t out M w)(hr:Rds bs q M pa pb P l){K:Int→Sl→Wp}(hK:∀w' ro Y s ps,SS w0 bs q t out (M++(flatY Y++ro)) w'→FootS ro Y s ps l→K P s w') :
  callK Pg c_110 [Ap pa] w (.one (.agg [Ki,.sl])) K:=by
 rcases hr with⟨rfl,rfl,rfl,rfl⟩ | ⟨br,br',R,R',rfl,rfl,h3,h4,h5,h6⟩
 ·exact rFoot_nil fun w' hM=>hK w' [] [] _ _ (by have:=h.quiet hM;simpa [flatY] using this) FootS.nil
 ·exact rFoot_ok h h3 h5 hK
theorem rfoot2_ok(h:SS w0 bs q t out M w)(hr:Rds bs q M pa pb P l){K:Int→Sl→Wp}(hK:∀si ps S w',Mod F0 w w'→FootR w' S si ps l→K P si w') :
  callK Pg c_165 [Ap pb] w (.one (.agg [Ki,.sl])) K:=by
 rcases hr with⟨rfl,rfl,rfl,rfl⟩ | ⟨br,br',R,R',rfl,rfl,h3,h4,h5,h6⟩
 ·exact rFoot9_nil fun w' hM=>hK _ _ _ w' hM (FootS.nil.foot.foot fun p hp=>by cases hp)
 ·have hR:∀p∈R',Blk w p.1 p.2:=fun p hp=>h.own (h6 p hp);exact rFoot9_ok h4 hR fun si ps w' hM hF=>hK si ps _ w' hM (hF.foot fun p hp=>hM.blk (hR p hp) id)
theorem parts2_ok(h:SS w0 bs q t out M w)(hr:Rds bs q M pa pb P l){K:Int→Wp}(hK:K P w):callK Pg c_97 [Ap pa] w Oi K:=by
 rcases hr with⟨rfl,rfl,rfl,rfl⟩ | ⟨br,br',R,R',rfl,rfl,h3,h4,h5,h6⟩
 ·exact parts_nil hK
 ·exact parts_ok h3 (fun p hp=>h.own (h5 p hp)) hK
theorem rparts2_ok(h:SS w0 bs q t out M w)(hr:Rds bs q M pa pb P l){K:Int→Wp}(hK:K P w):callK Pg c_167 [Ap pb] w Oi K:=by
 rcases hr with⟨rfl,rfl,rfl,rfl⟩ | ⟨br,br',R,R',rfl,rfl,h3,h4,h5,h6⟩
 ·exact rParts_nil hK
 ·exact rParts_ok h4 (fun p hp=>h.own (h6 p hp)) hK
theorem asks2_ok(h:SS w0 bs q t out M w)(ht:t.length≤268435456)(hr:Rds bs q M pa pb P l){kind part take:Int}{key:Str}(hk:key.length≤1099511627776)
  (hrng:-9223372036854775808≤take∧take≤9223372036854775807) {K:Bool→Wp} (hK:∀w',SS w0 bs q t out M w'→K true w') :
  callK Pg c_168 [Ap pa,Ap pb,.agg [.int .i64 kind,.int .i64 part,.str key,.int .i64 take]] w Ob K:=by
 rcases hr with⟨rfl,rfl,rfl,rfl⟩ | ⟨br,br',R,R',rfl,rfl,h3,h4,h5,h6⟩
 ·exact asks_nil hrng fun w' hM=>hK w' (h.quiet hM)
 ·exact asks_ok h ht h3 h5 h4 h6 hk hrng hK
theorem open2_ok(h:SS w0 bs q t out M w)(ht:t.length≤268435456){length:Int}{K:PA→Int→Wp}
  (hK:∀pa w',(∀{K2:PA→Int→Wp},(∀pb w2 M2 P l,SS w0 bs q t out (M++M2) w2→Rds bs q (M++M2) pa pb P l→pa.isNone=pb.isNone→K2 pb (openX t out length).1 w2)→callK Pg c_163 [Ap (some (q,0)),Au nameX,Ai length] w' (.tup [Lp,Li]) K2) →
   (∃M1,SS w0 bs q t out (M++M1) w')→K pa (openX t out length).1 w') :
  callK Pg c_9 [Ap (some (bs,0)),Au nameX,Ai length] w (.tup [Lp,Li]) K:=by
 have hol:=open_law t out length;refine spOpen_ok h ht (fun he w' h'=>?_) fun he br R si ps sf rs w' h' hF hO=>?_
 ·refine hK none w' (fun {K2} hK2=>?_) ⟨[],by rw [Lan];exact h'⟩;refine rOpen9_ok h' ht (fun _ w2 h2=>?_) fun e2=>absurd e2 (by rw [hol];exact he);rw [hol];exact hK2 none w2 [] 0 [] (by rw [Lan];exact h2) (.inl ⟨rfl,rfl,rfl,rfl⟩) rfl
 ·have hop:=open_read he;have hK:=hK (some (br,0)) w' (fun {K2} hK2=>?_) ⟨_,h'⟩
  ·rw [he] at hK;exact hK
  refine rOpen9_ok h' ht (fun e2=>absurd (by rw [hol];exact he) e2) fun _ br' R' si' ps' w2 h2 hF'=>?_;rw [hol,hop.1] at h2 hF';have:=hK2 (some (br',0)) w2 (((br,rdrC bs (readF (openX t out length).2.body).1 si sf)::R)++((br',rdrD q (readF (openX t out length).2.body).1 si')::R')) (readF (openX t out length).2.body).1 (readF (openX t out length).2.body).2.1 (by rw [←Laa];exact h2) (.inr ⟨br,br',(br,rdrC bs (readF (openX t out length).2.body).1 si sf)::R,(br',rdrD q (readF (openX t out length).2.body).1 si')::R',rfl,rfl,
   ⟨si,sf,ps,rs,Lcs ..,hF.mono fun q hq=>Lmc _ hq,hO.mono fun q hq=>Lmc _ hq,hop.2⟩,⟨si',ps',Lcs ..,hF'.mono fun q hq=>Lmc _ hq,hop.2⟩,fun p hp=>Lmr _ (Lml _ hp),fun p hp=>Lmr _ (Lmr _ hp)⟩) rfl
  rw [he] at this;exact this
end
structure Qn where
 kind:Int
 part:Int
 key:Str
 take:Int
def EQn:Enc Qn:=⟨4,fun x=>qC x.kind x.part x.key x.take,fun _=>rfl,by decide,fun x v h=>by
 simp only [qC,List.mem_cons,List.not_mem_nil,or_false] at h;rcases h with rfl | rfl | rfl | rfl<;>rfl⟩
set_option maxHeartbeats 2000000 in
theorem opens_walk{w:World}{sb sq:Sl}{t:Str}{qs:List Qn}(hb:RdS w ET sb t)(hl:t.length≤1048576)(hq:RdS w EQn sq qs)(hlq:qs.length≤1048576)
  (hqs:∀x∈qs,x.key.length≤1099511627776∧-9223372036854775808≤x.take∧x.take≤9223372036854775807) {claim:Int} {out:Bool} {K:Bool→Wp} (hK:∀w',Mod F0 w w'→K true w') :
  callK Pg c_161 [Az sb,Ai claim,Ab out,Az sq] w Ob K:=by
 refine go_161 _ _ _ _ _ _ ?_;refine made_ok fun bs q x w7 hJ=>hJ.alst (by rfl) fun b8 w10 hJ=>?_;have hJ:JJ w bs q ([],(0,0,0)) ([],(0,0,0)) ([x]++[(b8,[(LV.ptr (some (bs,0))).toV,(LV.ptr (some (q,0))).toV])]) w10:=hJ;generalize hM:[x]++[(b8,[(LV.ptr (some (bs,0))).toV,(LV.ptr (some (q,0))).toV])]=M at hJ;have m8:(b8,[(LV.ptr (some (bs,0))).toV,(LV.ptr (some (q,0))).toV])∈M:=by rw [←hM];simp
 have p1:∀{a b:Full} {u:World},JJ w bs q a b M u→∀{K:PA→Prop},K (some (bs,0))→Go.Vw.ld u .ptr b8 0 K:=fun {_ _ _} h {K} hK=>(show Blk _ b8 [(LV.ptr (some (bs,0))).toV,(LV.ptr (some (q,0))).toV] from h.at_.own _ m8).ldK (k:=.ptr) (some (bs,0)) rfl hK;have p2:∀{a b:Full} {u:World},JJ w bs q a b M u→∀{K:PA→Prop},K (some (q,0))→Go.Vw.ld u .ptr b8 1 K:=fun {_ _ _} h {K} hK=>(show Blk _ b8 [(LV.ptr (some (bs,0))).toV,(LV.ptr (some (q,0))).toV] from h.at_.own _ m8).ldK (k:=.ptr) (some (q,0)) rfl hK;have hx:nameX=[120]:=rfl;rw [←hx];have hd:∀w',Mod F0 w w'→RdS w' EU sb (intsN t):=fun w' hM=>RdS.ints (hb.quiet hM);have hby:∀y∈intsN t,0≤y∧y<256:=fun y hy=>by
  obtain⟨c,_,rfl⟩:=List.mem_map.1 hy;have:=UInt8.toNat_lt_size c;constructor
  ·exact Int.natCast_nonneg _
  ·have:c.toNat<256:=this;omega
 have hil:(intsN t).length≤1099511627776:=by rw [intsN_length];omega
 refine p1 hJ (jcreate_ok hJ nameX fun w13 hJ=>?_);have hJ:JJ w bs q ([(nameX,Bl.new)],(0,0,0)) ([],(0,0,0)) M w13:=hJ;refine p2 hJ (jrcreate_ok hJ nameX (by decide) (by decide) fun w16 hJ=>?_);have hJ:JJ w bs q ([(nameX,Bl.new)],(0,0,0)) ([(nameX,Bl.new)],(0,0,0)) M w16:=hJ;refine p1 hJ (jappend_ok hJ nameX hd hil hby fun w19 hJ=>?_);rw [blob_append (by omega)] at hJ;refine p2 hJ (jrappend_ok hJ nameX (by decide) hd hil hby fun w22 hJ=>?_);rw [blob_append (by omega)] at hJ;have hJ:JJ w bs q ([(nameX,theBl t false)],(0,0,0)) ([(nameX,theBl t false)],(0,0,0)) M w22:=hJ;refine join0 (fun u=>SS w bs q t out M u) ?_ ?_
 ·intro k hk
  cases out with
  | false=>exact ifK_f rfl (hk _ ⟨_,_,hJ⟩)
  | true=>
   refine ifK_t rfl (p1 hJ (jpublish_ok hJ nameX fun w26 hJ=>?_));have hJ:JJ w bs q ([(nameX,theBl t true)],(0,0,0)) ([(nameX,theBl t false)],(0,0,0)) M w26:=hJ;refine p2 hJ (jrpublish_ok hJ nameX (by decide) fun w29 hJ=>?_);have hJ:JJ w bs q ([(nameX,theBl t true)],(0,0,0)) ([(nameX,theBl t true)],(0,0,0)) M w29:=hJ;exact hk _ ⟨_,_,hJ⟩
 intro w30 s30;have ht:t.length≤268435456:=by omega
 obtain⟨t1,t2,hJ30⟩:=id s30;refine p1 hJ30 (open2_ok s30 ht fun pa w34 hO ⟨M1,s34⟩=>?_);have hB34:Blk w34 b8 [(LV.ptr (some (bs,0))).toV,(LV.ptr (some (q,0))).toV]:=s34.own (Lml _ m8);refine hB34.ldK (k:=.ptr) (some (q,0)) rfl (hO fun pb w38 M2 P l s38 hR hpe=>spOpen_nil fun w41 M41=>?_);have s41:=s38.quiet M41;generalize M++M2=L at s41 hR;refine join1 (a:=.bool) (fun b u=>b=false∧u=w41) ?_ ?_
 ·intro k hk;rw [hpe];exact ifK_f (Bsf _) (bneS Tryz.underlying4 (ifK_f rfl (ifK_f rfl (hk _ _ ⟨rfl,rfl⟩))))
 rintro b u ⟨rfl,rfl⟩;refine ifK_f rfl ?_
 refine foot2_ok s41 hR fun w49 ro Y s ps s49 hF=>?_;refine s49.alst (by rfl) fun b50 w52 s52 _=>?_;have s52:SS w bs q t out ((L++(flatY Y++ro))++[(b50,pairC P s)]) w52:=s52;have s52:SS w bs q t out ((L++[(b50,pairC P s)])++(flatY Y++ro)) w52:=s52.perm (perm_mid L [(b50,pairC P s)] (flatY Y++ro)).symm;have hR1:Rds bs q (L++[(b50,pairC P s)]) pa pb P l:=hR.mono fun p hp=>Lml _ hp;refine foot2_ok s52 (hR1.mono fun p hp=>Lml _ hp) fun w55 ro2 Y2 s2 ps2 s55 hF2=>?_;refine s55.alst (by rfl) fun b56 w58 s58 _=>?_;have s58:SS w bs q t out ((((L++[(b50,pairC P s)])++(flatY Y++ro))++(flatY Y2++ro2))++[(b56,pairC P s2)]) w58:=s58;rw [Laa ((L++[(b50,pairC P s)])++(flatY Y++ro))] at s58;have s58:SS w bs q t out (((L++[(b50,pairC P s)])++((flatY Y2++ro2)++[(b56,pairC P s2)]))++(flatY Y++ro)) w58:=s58.perm (perm_mid (L++[(b50,pairC P s)]) ((flatY Y2++ro2)++[(b56,pairC P s2)]) (flatY Y++ro)).symm;generalize hL2:(L++[(b50,pairC P s)])++((flatY Y2++ro2)++[(b56,pairC P s2)])=L2 at s58;have hR2:Rds bs q L2 pa pb P l:=hR1.mono fun p hp=>by rw [←hL2];exact Lml _ hp
 have m50:(b50,pairC P s)∈L2:=by rw [←hL2];simp
 have m56:(b56,pairC P s2)∈L2:=by rw [←hL2];simp
 have mF2:∀p∈ro2++flatY Y2,p∈L2:=fun p hp=>by
  rw [←hL2];rcases Lma.1 hp with hp | hp<;>simp [hp]
 have F2:∀{X:BL} {u:World},SS w bs q t out (L2++X) u→FootR u (Ks (ro2++flatY Y2)) s2 ps2 l:=fun {_ _} h=>hF2.foot.foot fun p hp=>h.own (Lml _ (mF2 p hp));have F1:∀{u:World},SS w bs q t out (L2++(flatY Y++ro)) u→FootR u (Ks (ro++flatY Y)) s ps l:=fun {_} h=>hF.foot.foot fun p hp=>h.own (by
  rcases Lma.1 hp with hp | hp<;>simp [hp])
 have d58:=s58.quiet (Mq w58);refine join1 (a:=.bool) (fun b u=>b=false∧Mod F0 w58 u) ?_ ?_
 ·intro k hk;have hB50:Blk w58.drew b50 (pairC P s):=d58.own (Lml _ m50);have hB56:Blk w58.drew b56 (pairC P s2):=d58.own (Lml _ m56);refine⟨F0,hB50.ldDK (k:=Ki) P id rfl (hB50.ldDK (k:=.sl) s id rfl ?_)⟩;refine rfoot2_ok d58 (hR2.mono fun p hp=>Lml _ hp) fun si ps3 S3 w65 M65 hF3=>⟨M65,?_⟩;have s65:=d58.quiet M65;refine sameFoot_ok (F1 s65) hF3 fun w67 M67=>⟨mod0 M65 M67,ifK_f rfl ?_⟩;have s67:=s65.quiet M67;have hM67:=mod0 M65 M67;refine hB56.ldDK (k:=Ki) P id rfl (hB56.ldDK (k:=.sl) s2 id rfl ?_);refine rfoot2_ok s67 (hR2.mono fun p hp=>Lml _ hp) fun si4 ps4 S4 w72 M72 hF4=>⟨mod0 hM67 M72,?_⟩;have s72:=s67.quiet M72;exact sameFoot_ok (F2 s72) hF4 fun w74 M74=>⟨mod0 (mod0 hM67 M72) M74,hk _ _ ⟨rfl,mod0 (Mq w58) (mod0 (mod0 hM67 M72) M74)⟩⟩
 rintro b w76 ⟨rfl,M76⟩;have s76:=s58.quiet M76;have hB50:Blk w76 b50 (pairC P s):=s76.own (Lml _ m50);refine ifK_f rfl (hB50.ldK (k:=Ki) P rfl (hB50.ldK (k:=.sl) s rfl ?_));refine spoilt_ok s76 hF fun n w80 hn s80=>?_;have s80':SS w bs q t out (L2++[]) w80:=by rw [Lan];exact s80
 have d80:=s80'.quiet (Mq w80);refine join1 (a:=.bool) (fun b u=>b=false∧Mod F0 w80 u) ?_ ?_
 ·intro k hk;have hB56:Blk w80.drew b56 (pairC P s2):=d80.own (Lml _ m56);refine⟨F0,ifK_f (Dcf (Int.not_lt.2 hn)) (hB56.ldDK (k:=Ki) P id rfl (hB56.ldDK (k:=.sl) s2 id rfl ?_))⟩;refine rfoot2_ok d80 (hR2.mono fun p hp=>Lml _ hp) fun si4 ps4 S4 w87 M87 hF4=>⟨M87,?_⟩;have s87:=d80.quiet M87;exact sameFoot_ok (F2 s87) hF4 fun w89 M89=>⟨mod0 M87 M89,hk _ _ ⟨rfl,mod0 (Mq w80) (mod0 M87 M89)⟩⟩
 rintro b w91 ⟨rfl,M91⟩;have s91:=s80.quiet M91;refine ifK_f rfl ?_;refine join1 (a:=.bool) (fun b u=>b=false∧SS w bs q t out L2 u) ?_ ?_
 ·intro k hk;refine parts2_ok s91 hR2 (rparts2_ok s91 hR2 (ifK_f (Bsf _) ?_));refine foot2_ok s91 hR2 fun w99 ro3 Y3 s3 ps3 s99 hF3=>?_;refine rfoot2_ok s99 (hR2.mono fun p hp=>Lml _ hp) fun si4 ps4 S4 w102 M102 hF4=>?_;have s102:=s99.quiet M102;have F3:FootR w102 (Ks (ro3++flatY Y3)) s3 ps3 l:=hF3.foot.foot fun p hp=>s102.own (by
   rcases Lma.1 hp with hp | hp<;>simp [hp])
  exact sameFoot_ok F3 hF4 fun w104 M104=>hk _ _ ⟨rfl,(s102.quiet M104).sub (Lsl _ _)⟩
 rintro b w106 ⟨rfl,s106⟩;refine ifK_f rfl ?_;refine join0 (fun u=>SS w bs q t out L2 u) ?_ (fun u hu=>hK u hu.at_.mod);intro k hk;refine loop1 (k:=Ki) (fun (i:Int) u=>∃(j:Nat),i=(j:Int)∧j≤qs.length∧SS w bs q t out L2 u) (fun i _=>(qs.length-i).toNat) (x:=0) rfl ⟨0,rfl,Nzl _,s106⟩ ?_;rintro i u ⟨j,rfl,hj,hu⟩;rw [hq.len];refine Iq (fun hlt=>?_) fun _=>hk u hu;have hlt:j<qs.length:=dlt hlt;obtain⟨y,hy⟩:=Gq hlt;have hyq:=hqs y (Lmg hy);refine (hq.quiet hu.at_.mod).ix rfl rfl hy fun b o _ hc=>Lq (k:=Ki) y.kind (hc 0 (by decide)) (Lq (k:=Ki) y.part (hc 1 (by decide)) (Lq (k:=.str) y.key (hc 2 (by decide)) (Lq (k:=Ki) y.take (hc 3 (by decide)) ?_)));refine asks2_ok hu ht hR2 hyq.1 hyq.2 fun v hv=>ifK_f rfl ?_;have es:=step64 (i:=j) (by omega);exact⟨⟨j+1,es,by omega,hv⟩,by rw [es];omega⟩
end Go.Proofs.YtkofkhjcfjoceaaGreat
