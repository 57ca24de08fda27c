/- Part T09. -/
import Derived.Test.YtkofkhjcfjoceaaGreatT08
import Derived.Test.YtkofkhjcfjoceaaGreatT03
import Derived.Test.YtkofkhjcfjoceaaGreatT02
import Derived.Laws.Build
import Derived.Test.YtkofkhjcfjoceaaGreatT07
import Derived.Test.YtkofkhjcfjoceaaGreatT06
namespace Go.Proofs.YtkofkhjcfjoceaaGreat
open Go.Vw
def nk(m:BL):Nat→Prop:=fun x=>¬Ks m x
theorem nk_not{m:BL}{p:Nat×List Value}(h:p∈m):¬nk m p.1:=fun hn=>hn ⟨p,h,rfl⟩
theorem _root_.Go.Vw.At.frame{u w':World}{m' x m'':BL}(h:At u (Ks (m'++x)) (m'++x) u)(h2:At u (Ks m') m'' w'):At u (Ks (m'++x)) (m''++x) w':=by
 have hx:∀y∈x,¬Ks m' y.1:=by
  rintro y hy ⟨q,hq,e⟩;have hnd:=h.nodup;rw [List.map_append,List.nodup_append] at hnd;exact hnd.2.2 _ (List.mem_map_of_mem hq) _ (List.mem_map_of_mem hy) e
 have hnd:=h.nodup;rw [List.map_append,List.nodup_append] at hnd;refine⟨h2.mod.mono fun k _ hk=>by obtain⟨q,hq,e⟩:=hk;exact⟨q,Lml _ hq,e⟩,?_,?_,?_⟩
 ·intro y hy;rcases Lma.1 hy with hy | hy
  ·exact h2.own y hy
  ·exact h2.mod.blk (h.own y (Lmr _ hy)) (hx y hy)
 ·rw [List.map_append,List.nodup_append];refine⟨h2.nodup,hnd.2.1,?_⟩;rintro k hk k' hk' rfl;obtain⟨q,hq,e⟩:=List.mem_map.1 hk;obtain⟨y,hy,e'⟩:=List.mem_map.1 hk';have hlt:=(h.own y (Lmr _ hy)).lt;have:=h2.wr q hq (by rw [e,←e'];exact hlt);rw [e,←e'] at this;exact hx y hy this
 ·intro y hy hlt;rcases Lma.1 hy with hy | hy
  ·obtain⟨q,hq,e⟩:=h2.wr y hy hlt;exact⟨q,Lml _ hq,e⟩
  ·exact⟨y,Lmr _ hy,rfl⟩
theorem ksIn{m:BL}:∀p∈m,Ks m p.1:=fun p hp=>⟨p,hp,rfl⟩
section
variable {w0 w:World}{m:List (Nat×List Value)}{s:Int}{g:SG}
theorem StA.sided{ro:BL}{w':World}(hA:At w0 F0 (((m++[g.hd s])++owns g.ents)++ro) w')(hn:Names w' g.r g.names)(ho:w0.heap.size≤g.r)(hv:∀e∈g.ents,VecL e.ro EU e.sl e.bl.data∧e.bl.ok):StA w0 (m++ro) s g w':=by
 refine⟨hA.perm ?_,hn,ho,hv⟩;simp only [Laa];refine List.Perm.append_left _ ?_;rw [←Laa [g.hd s]];exact Lpc
end
abbrev Full:=Abs×(Int×Int×Int)
structure JR(w0:World)(bs q:Nat)(a b:Full)(m:BL)(w:World)(g:SG)(r:RG):Prop where
 st:StA w0 (m++r.parts.flatten) 0 g w
 ok:r.ok
 bs:g.bs=bs
 q:r.q=q
 a:(g.abs,g.mt)=a
 b:(r.abs,r.mt)=b
def JJ(w0:World)(bs q:Nat)(a b:Full)(m:BL)(w:World):Prop:=∃g r,JR w0 bs q a b m w g r
section
variable {w0 w:World}{m c:BL}{g:SG}
theorem _root_.Go.Vw.At.put0{w':World}{m':BL}(h:At w0 F0 m w)(h2:At w (Ks m) m' w'):At w0 F0 m' w':=by
 refine⟨h.mod.trans h2.mod (fun _ _ h=>h) fun x hx hk=>?_,h2.own,h2.nodup,fun p hp hlt=>?_⟩
 ·obtain⟨q,hq,rfl⟩:=hk;exact h.wr q hq hx
 ·obtain⟨q,hq,e⟩:=h2.wr p hp (Nat.lt_of_lt_of_le hlt h.mod.size);exact h.wr q hq (by rw [e];exact hlt)
theorem StA.rput{c':BL}{w':World}(h:StA w0 (m++c) 0 g w)(h2:At w (Ks c) c' w'):StA w0 (m++c') 0 g w'∧Mod (nk m) w w':=by
 have hA:At w0 F0 (c++((m++[g.hd 0])++owns g.ents)) w:=h.at_.perm (by
  simp only [Laa];have h1:(m++(c++([g.hd 0]++owns g.ents))).Perm ((m++c)++([g.hd 0]++owns g.ents)):=by rw [Laa]
  refine List.Perm.trans ?_ h1.symm;refine List.Perm.trans ?_ (List.Perm.append_right _ (Lpc:(c++m).Perm (m++c)));rw [Laa])
 have h3:=At.frame (hA.from ksIn) h2;have h4:=hA.put0 h3;have hnr:¬Ks c g.r:=by
  rintro ⟨p,hp,e⟩;exact h.nm.far (e▸hA.own p (Lml _ hp))
 have h5:At w0 F0 (((m++[g.hd 0])++owns g.ents)++c') w':=h4.perm Lpc;refine⟨StA.sided h5 (h.nm.keep h2.mod hnr) h.old h.vec,h2.mod.mono fun x _ hx hk=>?_⟩;obtain⟨p,hp,rfl⟩:=hk;have hAm:At w0 F0 (m++c) w:=h.side;have hnd:=hAm.nodup;rw [List.map_append,List.nodup_append] at hnd;obtain⟨q,hq,e⟩:=hx;exact hnd.2.2 _ (List.mem_map_of_mem hp) _ (List.mem_map_of_mem hq) e.symm
theorem StA.rbase(h:StA w0 (m++c) 0 g w):At w (Ks c) c w:=(h.side.sub (Lsr m c)).from ksIn
theorem Nx.nk{m':BL}{a:Abs}{t:Int×Int×Int}{g':SG}{w':World}(h:StA w0 (m++c) 0 g w)(hx:Nx w0 m' 0 g w a t g' w'):Mod (nk m) w w':=
 hx.mod.mono fun x _ hd hk=>by
  obtain⟨p,hp,rfl⟩:=hk;exact h.notD (p:=p) (Lml _ hp) hd
theorem perm3(m c ro:BL):((m++ro)++c).Perm ((m++c)++ro):=by
 rw [Laa,Laa];exact List.Perm.append_left _ Lpc
end
section
variable {w0 w w':World}{bs q:Nat}{a b:Full}{m:BL}{g:SG}{r:RG}
theorem JR.nx{a':Abs}{g':SG}(h:JR w0 bs q a b m w g r)(hx:Nx w0 (m++r.parts.flatten) 0 g w a' g.mt g' w'):JJ w0 bs q (a',a.2) b m w':=
 ⟨g',r,hx.st,h.ok,hx.bs.trans h.bs,h.q,by rw [hx.abs,hx.mt,←h.a],h.b⟩
theorem JR.rn{b':Abs}{r':RG}(h:JR w0 bs q a b m w g r)(hx:RN w (Ks r.parts.flatten) r b' r.mt r' w'):JJ w0 bs q a (b',b.2) m w'∧Mod (nk m) w w':=by
 obtain⟨h1,h2⟩:=h.st.rput hx.at_;exact⟨⟨g,r',h1,hx.ok,h.bs,hx.q.trans h.q,h.a,by rw [hx.abs,hx.mt,←h.b]⟩,h2⟩
theorem JR.ea(h:JR w0 bs q a b m w g r):g.abs=a.1:=by rw [←h.a]
theorem JR.em(h:JR w0 bs q a b m w g r):g.mt=a.2:=by rw [←h.a]
theorem JR.eb(h:JR w0 bs q a b m w g r):r.abs=b.1:=by rw [←h.b]
theorem JR.en(h:JR w0 bs q a b m w g r):r.mt=b.2:=by rw [←h.b]
end
def nameX:Str:=[120]
def intsN(t:Str):List Int:=t.map fun c=>(c.toNat:Int)
theorem intsN_length(t:Str):(intsN t).length=t.length:=by simp [intsN]
theorem EU_cells:∀t:Str,EU.cells (intsN t)=ET.cells t
 | []=>rfl
 | x::t=>by
  have:=EU_cells t;simp only [intsN,List.map_cons,Enc.cells] at *;rw [this];rfl
theorem VecL.bytes{ro:BL}{s:Sl}{t:Str}(h:VecL ro EU s (intsN t)):VecL ro ET s t:=by
 unfold VecL at h ⊢;rw [EU_cells,intsN_length] at h;exact h
theorem RdS.ints{w:World}{s:Sl}{t:Str}(h:RdS w ET s t):RdS w EU s (intsN t):=⟨by rw [intsN_length];exact h.len,by rw [EU_cells];exact h.rd,h.has⟩
def theBl(t:Str)(out:Bool):Bl:=⟨intsN t,out,false,0,false⟩
def SS(w0:World)(bs q:Nat)(t:Str)(out:Bool)(m:BL)(w:World):Prop:=∃t1 t2,JJ w0 bs q ([(nameX,theBl t out)],t1) ([(nameX,theBl t out)],t2) m w
def rdX(t:Str)(out:Bool)(at_ k:Int):Int×Str:=if k<0 then (3,[]) else if out=false then (53,[]) else if at_<0∨(t.length:Int)<at_ then (56,[]) else (0,(t.drop at_.toNat).take k.toNat)
def sizeX(t:Str)(out:Bool):Int×Int:=if out=false then (0,53) else (t.length,0)
theorem readA_X(t:Str)(out:Bool):readA nameX [(nameX,theBl t out)]=if out=false then (53,none) else (0,some (theBl t out)):=by
 cases out<;>rfl
theorem readS_X(t:Str)(out:Bool)(at_ k:Int)(tt:Int×Int×Int):(readS nameX at_ k [(nameX,theBl t out)] tt).1=(rdX t out at_ k).1∧(readS nameX at_ k [(nameX,theBl t out)] tt).2.1=intsN (rdX t out at_ k).2:=by
 unfold readS rdX;rw [if_neg (by decide:¬goodN nameX=false),readA_X];by_cases hk:k<0
 ·rw [if_pos hk,if_pos hk];exact⟨rfl,rfl⟩
 rw [if_neg hk,if_neg hk];by_cases ho:out=false
 ·rw [if_pos ho,if_pos ho];exact⟨rfl,rfl⟩
 rw [if_neg ho,if_neg ho];have hl:(theBl t out).data.length=t.length:=intsN_length t;simp only [hl];by_cases ha:at_<0∨(t.length:Int)<at_
 ·rw [if_pos ha,if_pos ha];exact⟨rfl,rfl⟩
 ·rw [if_neg ha,if_neg ha];refine⟨rfl,?_⟩;show ((intsN t).drop at_.toNat).take k.toNat=_;simp [intsN,List.map_drop,List.map_take]
theorem sizeA_X(t:Str)(out:Bool):sizeA nameX [(nameX,theBl t out)]=sizeX t out:=by
 unfold sizeA sizeX;rw [readA_X];by_cases ho:out=false
 ·rw [if_pos ho,if_pos ho]
 ·rw [if_neg ho,if_neg ho];show ((((theBl t out).data.length:Nat):Int),(0:Int))=_;rw [show (theBl t out).data.length=t.length from intsN_length t]
section
variable {w0 w w':World}{bs q:Nat}{t:Str}{out:Bool}{m m':BL}
theorem SS.at_(h:SS w0 bs q t out m w):At w0 F0 m w:=let ⟨_,_,_,_,h⟩:=h;h.st.side.sub (Lsl _ _)
theorem SS.put(h:SS w0 bs q t out m w)(h2:At w (Ks m) m' w'):SS w0 bs q t out m' w':=by
 obtain⟨t1,t2,g,r,h⟩:=h;have h1:StA w0 (r.parts.flatten++m) 0 g w:=h.st.permM Lpc;exact⟨t1,t2,g,r,(h1.rput h2).1.permM Lpc,h.ok,h.bs,h.q,h.a,h.b⟩
theorem SS.base(h:SS w0 bs q t out m w):At w (Ks m) m w:=h.at_.from ksIn
theorem SS.quiet(h:SS w0 bs q t out m w)(hM:Mod F0 w w'):SS w0 bs q t out m w':=h.put (h.base.keep0 hM fun _=>id)
theorem SS.sub(h:SS w0 bs q t out m w)(hs:m'.Sublist m):SS w0 bs q t out m' w:=h.put (h.base.sub hs)
theorem SS.perm(h:SS w0 bs q t out m w)(hp:m'.Perm m):SS w0 bs q t out m' w:=h.put (h.base.perm hp)
theorem SS.fresh(h:SS w0 bs q t out m w){ro:BL}(hF:Fresh w w' F0 ro):SS w0 bs q t out (m++ro) w':=h.put (h.base.joinF hF (fun _ _ h=>h.elim) fun _ _=>id)
theorem SS.own(h:SS w0 bs q t out m w){b:Nat}{c:List Value}(hm:(b,c)∈m):Blk w b c:=h.at_.own (b,c) hm
theorem SS.blk(h:SS w0 bs q t out m w){i b:Nat}{c:List Value}(hi:m[i]? = some (b,c)):Blk w b c:=h.own (Lmg hi)
theorem SS.alK(h:SS w0 bs q t out m w){e:TypeId}{cs:List LV}{K:Nat→Wp}(hK:∀b w',SS w0 bs q t out (m++[(b,cs.map LV.toV)]) w'→Mod F0 w w'→K b w'):Go.Vw.al w e cs K:=
 h.base.alK fun b w' _ hA hM=>hK b w' (h.put hA) hM
theorem SS.stK(h:SS w0 bs q t out m w)(i:Nat){b o:Nat}{c:List Value}{vs:List LV}{K:Wp}(hi:m[i]? = some (b,c))(hl:o+vs.length≤c.length)
  (hK:∀w',SS w0 bs q t out (m.set i (b,spl c o (vs.map LV.toV))) w'→Mod (fun k=>k=b) w w'→K w'):Go.Vw.st w b o vs K:=
 h.base.st i hi hl fun w' hA hM=>hK w' (h.put hA) hM
theorem SS.alst(h:SS w0 bs q t out m w){e:TypeId}{cs vs:List LV}(hl:vs.length=cs.length){K:Nat→Wp}(hK:∀b u',SS w0 bs q t out (m++[(b,vs.map LV.toV)]) u'→Mod F0 w u'→K b u') :
  Go.Vw.al w e cs fun b u1=>Go.Vw.st u1 b 0 vs fun u2=>K b u2:=
 (Fresh.start w F0).alst hl fun b u' hF _ hM=>hK b u' (by have:=h.fresh hF;simpa using this) hM
theorem sread_ok(h:SS w0 bs q t out m w){at_ k:Int}(hat:at_≤9223372036854775807){K:Sl→Int→Wp}
  (hK:∀sl ro w',SS w0 bs q t out (m++ro) w'→VecL ro ET sl (rdX t out at_ k).2→Mod (nk m) w w'→K sl (rdX t out at_ k).1 w') :
  callK Pg c_79 [Ap (some (bs,0)),Au nameX,Ai at_,Ai k] w (.tup [Ls,Li]) K:=by
 obtain⟨t1,t2,g,r,h⟩:=h;rw [←h.bs];refine read_ok h.st nameX at_ k hat fun sl ro g' w' hx hv=>?_;have hm:=hx.nk h.st;have hst:=hx.st.permM (perm3 m r.parts.flatten ro);obtain⟨e1,e2⟩:=readS_X t out at_ k t1;have ea:g.abs=[(nameX,theBl t out)]:=h.ea;have em:g.mt=t1:=h.em;have ha:g'.abs=[(nameX,theBl t out)]:=hx.abs.trans ea;rw [ea,em] at hv ⊢;rw [e1];rw [e2] at hv;exact hK sl ro w' ⟨_,t2,g',r,hst,h.ok,hx.bs.trans h.bs,h.q,by rw [ha],h.b⟩ hv.bytes hm
theorem ssize_ok(h:SS w0 bs q t out m w){K:Int→Int→Wp}(hK:∀w',SS w0 bs q t out m w'→Mod (nk m) w w'→K (sizeX t out).1 (sizeX t out).2 w') :
  callK Pg c_80 [Ap (some (bs,0)),Au nameX] w (.tup [Li,Li]) K:=by
 obtain⟨t1,t2,g,r,h⟩:=h;rw [←h.bs];refine size_ok h.st nameX fun g' w' hx=>?_;have ea:g.abs=[(nameX,theBl t out)]:=h.ea;have h2:=h.nx hx;rw [ea] at h2 ⊢;rw [sizeA_X];exact hK w' ⟨_,t2,h2⟩ (hx.nk h.st)
theorem rread1_ok(h:SS w0 bs q t out m w){at_ k:Int}(hat:at_≤9223372036854775807){K:Sl→Int→Wp}
  (hK:∀sl ro w',SS w0 bs q t out (m++ro) w'→VecL ro ET sl (rdX t out at_ k).2→Mod (nk m) w w'→K sl (rdX t out at_ k).1 w') :
  callK Pg c_81 [Ap (some (q,0)),Au nameX,Ai at_,Ai k] w (.tup [Ls,Li]) K:=by
 obtain⟨t1,t2,g,r,h⟩:=h;rw [←h.q];refine rread_ok h.st.rbase h.ok nameX (by decide) at_ k hat fun sl ro r' w' hA hok hq hab hmt hv hl=>?_;obtain⟨h1,h2⟩:=h.st.rput hA;have h1':StA w0 ((m++ro)++r'.parts.flatten) 0 g w':=h1.permM (by rw [Laa];exact List.Perm.append_left _ Lpc);obtain⟨e1,e2⟩:=readS_X t out at_ k t2;have ea:r.abs=[(nameX,theBl t out)]:=h.eb;have em:r.mt=t2:=h.en;have ha:r'.abs=[(nameX,theBl t out)]:=hab.trans ea;rw [ea,em] at hv ⊢;rw [e1];rw [e2] at hv;exact hK sl ro w' ⟨t1,_,g,r',h1',hok,h.bs,hq.trans h.q,h.a,by rw [ha]⟩ hv.bytes h2
theorem rsize1_ok(h:SS w0 bs q t out m w){K:Int→Int→Wp}(hK:K (sizeX t out).1 (sizeX t out).2 w) :
  callK Pg c_82 [Ap (some (q,0)),Au nameX] w (.tup [Li,Li]) K:=by
 obtain⟨t1,t2,g,r,h⟩:=h;rw [←h.q];refine rsize_ok h.st.rbase h.ok nameX (by decide) ?_;have ea:r.abs=[(nameX,theBl t out)]:=h.eb;rw [ea,sizeA_X];exact hK
end
set_option maxRecDepth 100000
theorem go_97(r1:PA)(K:Int→Wp)(w:World)(h:ifK r1.isNone (K 0 w) (dr r1 fun b2 o3=>ld w Ki b2 (o3+2) fun n4=>K n4 w)):callK Pg 17 [Ap r1] w Oi K:=Fq (n:=.nil) CS_ok mixed Tryz.func17 (Eq.mpr (by kernel_rfl) h)
theorem go_98(r1:PA)(part2:Int)(K:Int→Wp)(w:World)(h:ifK r1.isNone (K 1 w) (joinK [.bool] (fun k3=>ifK (decide (part2<0)) (k3 true w) (dr r1 fun b4 o5=>ld w Ki b4 (o5+2) fun n6=>k3 (decide (n6≤part2)) w)) fun t87 W8=>ifK t87 (K 3 W8) (K 0 W8))):callK Pg 72 [Ap r1,Ai part2] w Oi K:=Fq (n:=(n0 .nil (n0 (n0 (n0 .nil (n0 .nil (n0 (.mk (some [.tmp 8 Lb]) [] [] .done .nil .nil) .nil))) .nil) .nil))) CS_ok mixed Tryz.func72 (Eq.mpr (by kernel_rfl) h)
theorem go_99(r1:PA)(part2:Int)(K:Int→Int→Wp)(w:World)(h:callK Pg 72 [Ap r1,Ai part2] w Oi fun n3 W4=>ifK (n3 != 0) (K 0 n3 W4) (dr r1 fun b5 o6=>ld W4 Ki b5 (o6+2) fun n7=>ld W4 .sl b5 (o6+2+1) fun a8=>callK Pg 73 [.agg [.int .i64 n7,.sl a8],Ai part2,Au ([])] W4 (.tup [Li,Li]) fun n9 n10 W11=>joinK [Ki] (fun k12=>ifK (decide (0≤n9)) (dr r1 fun b13 o14=>ld W11 .sl b13 (o14+2+1) fun a15=>ix a15 5 n9 fun b16 o17=>ld W11 .sl b16 (o17+1) fun a18=>joinK [Ki] (fun k19=>loopL [Ki,Ki] (fun n21 t3922 W23 g20=>ifK (decide (t3922<(a18.len:Int))) (ix a18 4 t3922 fun b24 o25=>ld W23 Ki b24 o25 fun n26=>ld W23 Ki b24 (o25+1) fun n27=>ld W23 Ki b24 (o25+2) fun n28=>ld W23 .str b24 (o25+3) fun s29=>al W23 97 [.int .i64 0,.int .i64 0,.int .i64 0,.str []] fun b30 W31=>st W31 b30 0 [.int .i64 n26,.int .i64 n27,.int .i64 n28,.str s29] fun W32=>ld W32 Ki b30 2 fun n33=>g20 (w64 (n21+n33)) (w64 (t3922+1)) W32) (k19 n21 W23)) [.int .i64 0,.int .i64 0] W11) fun n34 W35=>k12 n34 W35) (k12 0 W11)) fun n36 W37=>K n36 0 W37)):callK Pg 41 [Ap r1,Ai part2] w (.tup [Li,Li]) K:=Fq (n:=(n0 .nil (n0 .nil (n0 .nil (n0 (n0 .nil (n0 .nil (.mk (some [.tmp 7 Li]) [] [] .done (n0 .nil (.mk (some [.tmp 7 Li]) [] [] .done (.mk none [.tmp 7 Li,.tmp 39 Li] [37,38] .done .nil .nil) .nil)) .nil))) .nil))))) CS_ok mixed Tryz.func41 (Eq.mpr (by kernel_rfl) h)
theorem go_110(r1:PA)(K:Int→Sl→Wp)(w:World)(h:al w 40 [.int .i64 0,.sl (⟨none,0,0⟩)] fun b2 W3=>ifK r1.isNone (st W3 b2 0 [.int .i64 0,.sl (⟨none,0,0⟩)] fun W4=>ld W4 Ki b2 0 fun n5=>ld W4 .sl b2 1 fun a6=>K n5 a6 W4) (dr r1 fun b7 o8=>ld W3 Ki b7 (o8+2) fun n9=>al W3 40 [.int .i64 0,.sl (⟨none,0,0⟩)] fun b10 W11=>st W11 b10 0 [.int .i64 n9,.sl (⟨none,0,0⟩)] fun W12=>dr r1 fun b13 o14=>ld W12 .sl b13 (o14+2+1) fun a15=>joinK [] (fun k16=>loopL [Ki] (fun t2118 W19 g17=>ifK (decide (t2118<(a15.len:Int))) (ix a15 5 t2118 fun b20 o21=>ld W19 Ki b20 o21 fun n22=>ld W19 .sl b20 (o21+1) fun a23=>ld W19 .bool b20 (o21+2) fun c24=>ld W19 Ki b20 (o21+3) fun n25=>ld W19 .sl b20 (o21+4) fun a26=>al W19 94 [.int .i64 0,.sl (⟨none,0,0⟩),.lit false,.int .i64 0,.sl (⟨none,0,0⟩)] fun b27 W28=>st W28 b27 0 [.int .i64 n22,.sl a23,.bool c24,.int .i64 n25,.sl a26] fun W29=>al W29 97 [] fun b30 W31=>ld W31 .sl b27 1 fun a32=>ap W31 97 4 40 [.int .i64 0,.int .i64 0,.int .i64 0,.str []] (⟨some (b30,0),0,0⟩) a32 fun a33 W34=>st W34 b27 1 [.sl a33] fun W35=>al W35 5 [] fun b36 W37=>ld W37 .sl b27 4 fun a38=>ap W37 5 1 1 [.int .u8 0] (⟨some (b36,0),0,0⟩) a38 fun a39 W40=>st W40 b27 4 [.sl a39] fun W41=>ld W41 .sl b10 1 fun a42=>ld W41 Ki b27 0 fun n43=>ld W41 .sl b27 1 fun a44=>ld W41 .bool b27 2 fun c45=>ld W41 Ki b27 3 fun n46=>ld W41 .sl b27 4 fun a47=>al W41 94 [.int .i64 n43,.sl a44,.bool c45,.int .i64 n46,.sl a47] fun b48 W49=>ap W49 94 5 72 [.int .i64 0,.sl (⟨none,0,0⟩),.lit false,.int .i64 0,.sl (⟨none,0,0⟩)] a42 (⟨some (b48,0),1,1⟩) fun a50 W51=>st W51 b10 1 [.sl a50] fun W52=>g17 (w64 (t2118+1)) W52) (k16 W19)) [.int .i64 0] W12) fun W53=>ld W53 Ki b10 0 fun n54=>ld W53 .sl b10 1 fun a55=>st W53 b2 0 [.int .i64 n54,.sl a55] fun W56=>ld W56 Ki b2 0 fun n57=>ld W56 .sl b2 1 fun a58=>K n57 a58 W56)):callK Pg 13 [Ap r1] w (.one (.agg [Ki,.sl])) K:=Fq (n:=(n0 .nil (n0 .nil (n0 .nil (n0 (n0 .nil (.mk (some []) [] [2,3] .done (.mk none [.tmp 21 Li] [2,3,19,20] .done .nil .nil) .nil)) .nil))))) CS_ok mixed Tryz.func13 (Eq.mpr (by kernel_rfl) h)
theorem go_101(r1:PA)(part2:Int)(K:PA→Int→Wp)(w:World)(h:callK Pg 72 [Ap r1,Ai part2] w Oi fun n3 W4=>ifK (n3 != 0) (K none n3 W4) (dr r1 fun b5 o6=>ld W4 Ki b5 (o6+2) fun n7=>ld W4 .sl b5 (o6+2+1) fun a8=>callK Pg 73 [.agg [.int .i64 n7,.sl a8],Ai part2,Au ([])] W4 (.tup [Li,Li]) fun n9 n10 W11=>callK Pg 76 [Ap r1,Ai n9,Ai 0,Au ([])] W11 Oq fun p12 W13=>K p12 0 W13)):callK Pg 45 [Ap r1,Ai part2] w (.tup [Lp,Li]) K:=Fq (n:=.nil) CS_ok mixed Tryz.func45 (Eq.mpr (by kernel_rfl) h)
theorem go_102(r1:PA)(part2:Int)(key3:List UInt8)(K:PA→Int→Wp)(w:World)(h:callK Pg 72 [Ap r1,Ai part2] w Oi fun n4 W5=>ifK (n4 != 0) (K none n4 W5) (dr r1 fun b6 o7=>ld W5 Ki b6 (o7+2) fun n8=>ld W5 .sl b6 (o7+2+1) fun a9=>callK Pg 73 [.agg [.int .i64 n8,.sl a9],Ai part2,Au key3] W5 (.tup [Li,Li]) fun n10 n11 W12=>callK Pg 76 [Ap r1,Ai n10,Ai n11,Au key3] W12 Oq fun p13 W14=>K p13 0 W14)):callK Pg 47 [Ap r1,Ai part2,Au key3] w (.tup [Lp,Li]) K:=Fq (n:=.nil) CS_ok mixed Tryz.func47 (Eq.mpr (by kernel_rfl) h)
theorem go_109(r1:PA)(part2:Int)(key3:List UInt8)(K:Bool→Int→Wp)(w:World)(h:callK Pg 72 [Ap r1,Ai part2] w Oi fun n4 W5=>ifK (n4 != 0) (K false n4 W5) (dr r1 fun b6 o7=>ld W5 Ki b6 (o7+2) fun n8=>ld W5 .sl b6 (o7+2+1) fun a9=>callK Pg 73 [.agg [.int .i64 n8,.sl a9],Ai part2,Au key3] W5 (.tup [Li,Li]) fun n10 n11 W12=>joinK [.bool] (fun k13=>ifK (decide (n10<0)) (k13 true W12) (dr r1 fun b14 o15=>ld W12 .sl b14 (o15+2+1) fun a16=>ix a16 5 n10 fun b17 o18=>ld W12 .bool b17 (o18+2) fun c19=>ld W12 Ki b17 (o18+2+1) fun n20=>ld W12 .sl b17 (o18+2+2) fun a21=>callK Pg 75 [.agg [.bool c19,.int .i64 n20,.sl a21],Au key3] W12 Ob fun c22 W23=>k13 (!c22) W23)) fun t4524 W25=>ifK t4524 (K false 0 W25) (callK Pg 76 [Ap r1,Ai n10,Ai n11,Au key3] W25 Oq fun p26 W27=>callK Pg 49 [Ap p26] W27 (.tup [.agg [.str,.str],Lb,Li]) fun s28 s29 c30 n31 W32=>al W32 122 [.str [],.str []] fun b33 W34=>st W34 b33 0 [.str s28,.str s29] fun W35=>joinK [.bool,Ki] (fun k36=>ifK (n31==0) (ifK c30 (ld W35 .str b33 0 fun s37=>k36 (s37==key3) n31 W35) (k36 false n31 W35)) (k36 false n31 W35)) fun t638 t739 W40=>K t638 t739 W40))):callK Pg 43 [Ap r1,Ai part2,Au key3] w (.tup [Lb,Li]) K:=Fq (n:=(n0 .nil (n0 .nil (n0 .nil (n0 (n0 (.mk (some [.tmp 45 Lb]) [] [0,2,9,10] .done .nil .nil) .nil) (n0 .nil (n0 (.mk (some [.tmp 6 Lb,.tmp 7 Li]) [] [] .done .nil .nil) .nil))))))) CS_ok mixed Tryz.func43 (Eq.mpr (by kernel_rfl) h)
theorem go_100(r1:PA)(info2:Int)(block3:Int)(from_4:List UInt8)(K:PA→Wp)(w:World)(h:al w 159 [.ptr r1,.int .i64 info2,.int .i64 block3,.str from_4,.ptr none,.int .i64 0,.str [],.lit false,.int .i64 0] fun b5 W6=>joinK [] (fun k7=>ifK (decide (info2<0)) (dr (some (b5,0)) fun b8 o9=>st W6 b8 (o9+8) [.int .i64 2] fun W10=>k7 W10) (k7 W6)) fun W11=>K (some (b5,0)) W11):callK Pg 76 [Ap r1,Ai info2,Ai block3,Au from_4] w Oq K:=Fq (n:=(n0 .nil (n0 .nil (n0 (n0 .nil (.mk (some []) [] [9] .done .nil .nil)) .nil)))) CS_ok mixed Tryz.func76 (Eq.mpr (by kernel_rfl) h)
theorem go_103(key1:List UInt8)(K:List UInt8→Wp)(w:World)(h:ssx key1 none (some (mnI (key1.length:Int) 64)) fun s2=>K s2 w):callK Pg 149 [Au key1] w Ot K:=Fq (n:=.nil) CS_ok mixed Tryz.func149 (Eq.mpr (by kernel_rfl) h)
theorem go_106(c1:PA)(K:Bool→Wp)(w:World)(h:(∀x∈[(.func (.func 116) #[] #[]:Value),(.func (.func 117) #[] #[]:Value),(.func (.func 118) #[] #[]:Value),(.func (.func 118) #[] #[]:Value)],isCell x=true)∧al w 192 [.val .nilFunc,.val .nilFunc,.val .nilFunc,.val .nilFunc] fun b2 W3=>(∀x∈[(.func (.func 116) #[] #[]:Value),(.func (.func 117) #[] #[]:Value),(.func (.func 118) #[] #[]:Value),(.func (.func 118) #[] #[]:Value)],isCell x=true)∧st W3 b2 0 [.val (.func (.func 116) #[] #[]),.val (.func (.func 117) #[] #[]),.val (.func (.func 118) #[] #[]),.val (.func (.func 118) #[] #[])] fun W4=>dr c1 fun b5 o6=>ld W4 Ki b5 (o6+8) fun n7=>0≤n7∧n7<(4:Int)∧ld W4 .val b2 (0+n7.toNat*1) fun v8=>callV Pg v8 [Ap c1] W4 Ob fun c9 W10=>K c9 W10):callK Pg 80 [Ap c1] w Ob K:=Fq (n:=.nil) CS_ok mixed Tryz.func80 (Eq.mpr (by kernel_rfl) h)
theorem go_107(c1:PA)(K:Bool→Wp)(w:World)(h:K true w):callK Pg 118 [Ap c1] w Ob K:=Fq (n:=.nil) CS_ok mixed Tryz.func118 (Eq.mpr (by kernel_rfl) h)
theorem go_105(c1:PA)(K:Bool→Wp)(w:World)(h:drawK w fun D W2=>dr c1 fun b3 o4=>ldD D W2 Ki b3 (o4+5) fun n5=>dr c1 fun b6 o7=>ldD D W2 .ptr b6 (o7+4) fun p8=>callK Pg 148 [Ap p8] W2 Oi fun n9 W10=>Mod D W2 W10∧ifK (decide (n5<n9)) (K true W10) (dr c1 fun b11 o12=>st W10 b11 (o12+8) [.int .i64 0] fun W13=>K false W13)):callK Pg 117 [Ap c1] w Ob K:=Fq (n:=(n0 .nil (n0 (n0 (.mk none [] [] (tk [0,1,2,3,4,5,6,7] (.eff 8 (.take 9 .done))) .nil .nil) .nil) .nil))) CS_ok mixed Tryz.func117 (Eq.mpr (by kernel_rfl) h)
theorem go_104(c1:PA)(K:Bool→Wp)(w:World)(h:drawK w fun D W2=>dr c1 fun b3 o4=>ldD D W2 .ptr b3 o4 fun p5=>dr p5 fun b6 o7=>ldD D W2 .sl b6 (o7+2+1) fun a8=>dr c1 fun b9 o10=>ldD D W2 Ki b9 (o10+1) fun n11=>ix a8 5 n11 fun b12 o13=>ldD D W2 .sl b12 (o13+1) fun a14=>dr c1 fun b15 o16=>ld W2 Ki b15 (o16+2) fun n17=>ifK (n17==(a14.len:Int)) (dr c1 fun b18 o19=>st W2 b18 (o19+8) [.int .i64 2] fun W20=>K false W20) (dr c1 fun b21 o22=>ld W2 Ki b21 (o22+2) fun n23=>ix a14 4 n23 fun b24 o25=>ld W2 Ki b24 o25 fun n26=>ld W2 Ki b24 (o25+1) fun n27=>ld W2 Ki b24 (o25+2) fun n28=>ld W2 .str b24 (o25+3) fun s29=>al W2 97 [.int .i64 0,.int .i64 0,.int .i64 0,.str []] fun b30 W31=>st W31 b30 0 [.int .i64 n26,.int .i64 n27,.int .i64 n28,.str s29] fun W32=>drawK W32 fun D W33=>dr c1 fun b34 o35=>ldD D W33 .ptr b34 o35 fun p36=>dr p36 fun b37 o38=>ldD D W33 .ptr b37 o38 fun p39=>dr c1 fun b40 o41=>ldD D W33 .ptr b40 o41 fun p42=>dr p42 fun b43 o44=>ldD D W33 .str b43 (o44+1) fun s45=>dr c1 fun b46 o47=>ldD D W33 .ptr b46 o47 fun p48=>dr p48 fun b49 o50=>ldD D W33 .sl b49 (o50+4) fun a51=>dr c1 fun b52 o53=>ldD D W33 Ki b52 (o53+1) fun n54=>ix a51 1 n54 fun b55 o56=>ldD D W33 .sl b55 o56 fun a57=>dr c1 fun b58 o59=>ldD D W33 Ki b58 (o59+2) fun n60=>ix a57 1 n60 fun b61 o62=>ldD D W33 Ki b61 o62 fun n63=>ldD D W33 Ki b30 0 fun n64=>callK Pg 60 [Ap p39,Au s45,Ai n63,Ai (w64 (n64+5))] W33 (.tup [Ls,Li]) fun a65 n66 W67=>Mod D W33 W67∧joinK [.bool] (fun k68=>ifK (n66 != 0) (k68 true W67) (ld W67 Ki b30 0 fun n69=>k68 ((a65.len:Int) != (w64 (n69+5))) W67)) fun t9270 W71=>ifK t9270 (dr c1 fun b72 o73=>st W71 b72 (o73+8) [.int .i64 3] fun W74=>K false W74) (ld W71 Ki b30 1 fun n75=>callK Pg 147 [Az a65,Ai n75] W71 (.tup [Lp,Li]) fun p76 n77 W78=>joinK [.bool] (fun k79=>drawK W78 fun D W80=>ifK (n77 != 0) (k79 true W80) (ldD D W80 Ki b30 2 fun n81=>callK Pg 148 [Ap p76] W80 Oi fun n82 W83=>Mod D W80 W83∧k79 (n82 != n81) W83)) fun t11184 W85=>ifK t11184 (dr c1 fun b86 o87=>st W85 b86 (o87+8) [.int .i64 3] fun W88=>K false W88) (callK Pg 81 [Ap p76,Ai 0] W85 (.tup [Lt,Lt,Li]) fun s89 s90 n91 W92=>joinK [.bool] (fun k93=>drawK W92 fun D W94=>ldD D W94 .str b30 3 fun s95=>callK Pg 149 [Au s89] W94 Ot fun s96 W97=>Mod D W94 W97∧ifK (!(s96==s95)) (k93 true W97) (dr c1 fun b98 o99=>ldD D W94 .bool b98 (o99+7) fun c100=>ifK c100 (dr c1 fun b101 o102=>ldD D W94 .str b101 (o102+6) fun s103=>callK Pg 111 [Au s89,Au s103] W97 Oi fun n104 W105=>Mod D W94 W105∧k93 (decide (n104<0)) W105) (k93 false W97))) fun t140106 W107=>ifK t140106 (dr c1 fun b108 o109=>st W107 b108 (o109+8) [.int .i64 3] fun W110=>K false W110) (callK Pg 148 [Ap p76] W107 Oi fun n111 W112=>callK Pg 81 [Ap p76,Ai (w64 (n111-1))] W112 (.tup [Lt,Lt,Li]) fun s113 s114 n115 W116=>dr c1 fun b117 o118=>st W116 b117 (o118+6) [.str s113] fun W119=>dr c1 fun b120 o121=>st W119 b120 (o121+7) [.lit true] fun W122=>dr c1 fun b123 o124=>ld W122 .str b123 (o124+3) fun s125=>callK Pg 150 [Ap p76,Au s125] W122 Oi fun n126 W127=>dr c1 fun b128 o129=>st W127 b128 (o129+4) [.ptr p76] fun W130=>dr c1 fun b131 o132=>st W130 b131 (o132+5) [.int .i64 n126] fun W133=>dr c1 fun b134 o135=>ld W133 Ki b134 (o135+2) fun n136=>dr c1 fun b137 o138=>st W133 b137 (o138+2) [.int .i64 (w64 (n136+1))] fun W139=>dr c1 fun b140 o141=>st W139 b140 (o141+8) [.int .i64 1] fun W142=>K false W142))))):callK Pg 116 [Ap c1] w Ob K:=Fq (n:=(n0 .nil (n0 (.mk none [] [] (tk [0,1,2,3,4,5,6,7,8,9,10,11,12,13,14,15] .done) .nil .nil) (n0 .nil (n0 .nil (n0 (.mk none [] [] (tk [0,1,2,3,4,5,6,7,8,9,10,11,12,13,14,15,16,17,18,19,20,21,22,23,24,25,26,27,28,29,30,31,32,33,34,35] (.eff 36 (.take 37 (.take 38 (.take 39 (.take 40 (.take 41 .done))))))) .nil .nil) (n0 (n0 (.mk (some [.tmp 92 Lb]) [] [0,4,5] .done .nil .nil) .nil) (n0 .nil (n0 (n0 (.mk (some [.tmp 111 Lb]) [] [0,4,7] (tk [0,1,2] (.split 2 (.take 3 (.take 4 (.take 5 (.take 6 (.take 7 (.take 8 .done)))))) (.take 3 (.take 5 (.take 6 (.eff 4 (.take 7 (.take 8 .done)))))))) .nil .nil) .nil) (n0 .nil (n0 (n0 (.mk (some [.tmp 140 Lb]) [] [0,7] (tk [0,2,3] (.eff 1 (.take 4 (.take 5 (.split 5 (.take 6 (.take 7 (.take 8 (.take 9 (.take 10 (.take 11 (.take 12 (.take 13 (.take 14 (.take 15 (.take 16 (.take 17 (.take 18 (.take 19 .done)))))))))))))) (.take 6 (.take 7 (.take 8 (.take 9 (.take 10 (.split 10 (.take 11 (.take 12 (.take 13 (.take 14 (.take 15 (.eff 16 (.take 17 (.take 18 (.take 19 .done))))))))) (.take 11 (.take 12 (.take 13 (.take 14 (.take 15 (.take 16 (.take 17 (.take 18 (.take 19 .done)))))))))))))))))))) .nil .nil) .nil) .nil))))))))))) CS_ok mixed Tryz.func116 (Eq.mpr (by kernel_rfl) h)
theorem go_108(c1:PA)(K:List UInt8→List UInt8→Bool→Int→Wp)(w:World)(h:al w 122 [.str [],.str []] fun b2 W3=>ifK c1.isNone (st W3 b2 0 [.str [],.str []] fun W4=>ld W4 .str b2 0 fun s5=>ld W4 .str b2 1 fun s6=>K s5 s6 false 1 W4) (joinK [] (fun k7=>loopL [] (fun W9 g8=>callK Pg 80 [Ap c1] W9 Ob fun c10 W11=>ifK (!c10) (g8 W11) (k7 W11)) [] W3) fun W12=>dr c1 fun b13 o14=>ld W12 Ki b13 (o14+8) fun n15=>ifK (n15==2) (st W12 b2 0 [.str [],.str []] fun W16=>ld W16 .str b2 0 fun s17=>ld W16 .str b2 1 fun s18=>K s17 s18 false 0 W16) (ifK (n15==3) (st W12 b2 0 [.str [],.str []] fun W19=>ld W19 .str b2 0 fun s20=>ld W19 .str b2 1 fun s21=>K s20 s21 false 91 W19) (drawK W12 fun D W22=>dr c1 fun b23 o24=>ldD D W22 .ptr b23 (o24+4) fun p25=>dr c1 fun b26 o27=>ldD D W22 Ki b26 (o27+5) fun n28=>callK Pg 81 [Ap p25,Ai n28] W22 (.tup [Lt,Lt,Li]) fun s29 s30 n31 W32=>Mod D W22 W32∧dr c1 fun b33 o34=>ld W32 Ki b33 (o34+5) fun n35=>dr c1 fun b36 o37=>st W32 b36 (o37+5) [.int .i64 (w64 (n35+1))] fun W38=>st W38 b2 0 [.str s29,.str s30] fun W39=>ld W39 .str b2 0 fun s40=>ld W39 .str b2 1 fun s41=>K s40 s41 true 0 W39)))):callK Pg 49 [Ap c1] w (.tup [.agg [.str,.str],Lb,Li]) K:=Fq (n:=(n0 .nil (n0 .nil (n0 (.mk (some []) [] [0,2] .done (.mk none [] [0,2] .done .nil .nil) .nil) (n0 .nil (n0 (.mk none [] [] (tk [0,1,2,3,4,5,6,7] (.eff 8 (.take 9 (.take 10 (.take 11 (.take 12 (.take 13 (.take 14 (.take 15 .done))))))))) .nil .nil) .nil)))))) CS_ok mixed Tryz.func49 (Eq.mpr (by kernel_rfl) h)
set_option maxRecDepth 100000
theorem go_4(e1:Int)(kp:List PanicEntry→Wp)(K:Wp)(w:World)(h:ifK (e1 != 0) (opF Pg (vS (Instr.makeInterface 77 (.agg #[(LV.toV (.int .i64 e1))]))) w (.one (.leaf (.val))) fun v3 W2=>panK v3 W2 kp) (K w)):callX Pg 29 [Ai e1] w (.tup []) kp K:=WFX_sound (cs:=CSx kp) (n:=.nil) CSl_ok mixed Tryz.func29 (Eq.mpr (by kernel_rfl) h)
theorem go_7(r1:PA)(at_2:Int)(n3:Int)(kp:List PanicEntry→Wp)(K:Sl→Wp)(w:World)(h:drawK w fun D W4=>dr r1 fun b5 o6=>ldD D W4 .ptr b5 o6 fun p7=>dr r1 fun b8 o9=>ldD D W4 .str b8 (o9+1) fun s10=>callK Pg 60 [Ap p7,Au s10,Ai at_2,Ai n3] W4 (.tup [Ls,Li]) fun a11 n12 W13=>Mod D W4 W13∧callX Pg 29 [Ai n12] W13 (.tup []) kp fun W14=>K a11 W14):callX Pg 31 [Ap r1,Ai at_2,Ai n3] w Oz kp K:=WFX_sound (cs:=CSx kp) (n:=(n0 .nil (n0 (.mk none [] [] (tk [0,1,2,3,4,5,6,7,8,9] (.eff 10 (.take 11 (.take 12 (.take 13 (.take 14 (.take 15 .done))))))) .nil .nil) .nil))) CSl_ok mixed Tryz.func31 (Eq.mpr (by kernel_rfl) h)
theorem go_8(r1:PA)(t_0_2:Int)(t_1_3:Int)(kp:List PanicEntry→Wp)(K:Int→Sl→Wp)(w:World)(h:al w 85 [.int .i64 t_0_2,.int .i64 t_1_3] fun b4 W5=>al W5 40 [.int .i64 0,.sl (⟨none,0,0⟩)] fun b6 W7=>ld W7 Ki b4 0 fun n8=>ld W7 Ki b4 1 fun n9=>callK Pg 61 [.agg [.int .i64 n8,.int .i64 n9]] W7 (.tup [Lp,Li]) fun p10 n11 W12=>callX Pg 29 [Ai n11] W12 (.tup []) kp fun W13=>joinK [] (fun k14=>loopL [Ki] (fun at_16 W17 g15=>ld W17 Ki b4 1 fun n18=>ifK (decide (at_16<n18)) (ld W17 Ki b4 0 fun n19=>ld W17 Ki b4 1 fun n20=>callX Pg 31 [Ap r1,Ai (w64 (n19+at_16)),Ai (mnI 4100 (w64 (n20-at_16)))] W17 Oz kp fun a21 W22=>callK Pg 62 [Ap p10,Az a21] W22 Oi fun n23 W24=>callX Pg 29 [Ai n23] W24 (.tup []) kp fun W25=>g15 (w64 (at_16+4100)) W25) (k14 W17)) [.int .i64 0] W13) fun W26=>callK Pg 63 [Ap p10] W26 (.tup [.agg [Ki,.sl],Li]) fun n27 a28 n29 W30=>al W30 40 [.int .i64 0,.sl (⟨none,0,0⟩)] fun b31 W32=>st W32 b31 0 [.int .i64 n27,.sl a28] fun W33=>callX Pg 29 [Ai n29] W33 (.tup []) kp fun W34=>ld W34 Ki b31 0 fun n35=>ld W34 .sl b31 1 fun a36=>st W34 b6 0 [.int .i64 n35,.sl a36] fun W37=>ld W37 Ki b6 0 fun n38=>ld W37 .sl b6 1 fun a39=>K n38 a39 W37):callX Pg 32 [Ap r1,.agg [.int .i64 t_0_2,.int .i64 t_1_3]] w (.one (.agg [Ki,.sl])) kp K:=WFX_sound (cs:=CSx kp) (n:=(n0 .nil (n0 .nil (n0 .nil (n0 (n0 .nil (.mk (some []) [] [4,5] .done (.mk none [.tmp 7 Li] [0,3,4,5] .done .nil .nil) .nil)) .nil))))) CSl_ok mixed Tryz.func32 (Eq.mpr (by kernel_rfl) h)
set_option maxRecDepth 100000
theorem go_9(s1:PA)(name2:List UInt8)(length3:Int)(K:PA→Int→Wp)(w:World)(h:al w 32 [.ptr none] fun b4 W5=>al W5 29 [.int .i64 0] fun b6 W7=>ifK s1.isNone (st W7 b4 0 [.ptr none] fun W8=>st W8 b6 0 [.int .i64 1] fun W9=>ld W9 .ptr b4 0 fun p10=>ld W9 Ki b6 0 fun n11=>K p10 n11 W9) (doorB (fun kp kr=>al W7 80 [.ptr s1,.str name2,.int .i64 0,.sl (⟨none,0,0⟩),.sl (⟨none,0,0⟩)] fun b16 W17=>st W17 b4 0 [.ptr (some (b16,0))] fun W18=>callK Pg 28 [Ap s1,Au name2] W18 (.tup [Li,Li]) fun n19 n20 W21=>st W21 b6 0 [.int .i64 n20] fun W22=>ld W22 Ki b6 0 fun n23=>callX Pg 29 [Ai n23] W22 (.tup []) kp fun W24=>joinK [] (fun k25=>ifK (n19 != length3) (callX Pg 29 [Ai 82] W24 (.tup []) kp fun W26=>k25 W26) (k25 W24)) fun W27=>joinK [] (fun k28=>ifK (decide (n19<24)) (callX Pg 29 [Ai 81] W27 (.tup []) kp fun W29=>k28 W29) (k28 W27)) fun W30=>ld W30 .ptr b4 0 fun p31=>callX Pg 31 [Ap p31,Ai (w64 (n19-24)),Ai 24] W30 Oz kp fun a32 W33=>callK Pg 30 [Az a32,Ai n19] W33 (.tup [.agg [Ki,Ki],Li]) fun n34 n35 n36 W37=>al W37 85 [.int .i64 0,.int .i64 0] fun b38 W39=>st W39 b38 0 [.int .i64 n34,.int .i64 n35] fun W40=>st W40 b6 0 [.int .i64 n36] fun W41=>ld W41 Ki b6 0 fun n42=>callX Pg 29 [Ai n42] W41 (.tup []) kp fun W43=>drawK W43 fun D W44=>ldD D W44 .ptr b4 0 fun p45=>ldD D W44 .ptr b4 0 fun p46=>ldD D W44 Ki b38 0 fun n47=>ldD D W44 Ki b38 1 fun n48=>callX Pg 32 [Ap p46,.agg [.int .i64 n47,.int .i64 n48]] W44 (.one (.agg [Ki,.sl])) kp fun n49 a50 W51=>Mod D W44 W51∧dr p45 fun b52 o53=>st W51 b52 (o53+2) [.int .i64 n49,.sl a50] fun W54=>ld W54 .ptr b4 0 fun p55=>dr p55 fun b56 o57=>ld W54 .sl b56 (o57+2+1) fun a58=>joinK [] (fun k59=>loopL [Ki,Ki] (fun at_61 t6162 W63 g60=>ifK (decide (t6162<(a58.len:Int))) (ix a58 5 t6162 fun b64 o65=>ld W63 Ki b64 o65 fun n66=>ld W63 .sl b64 (o65+1) fun a67=>ld W63 .bool b64 (o65+2) fun c68=>ld W63 Ki b64 (o65+3) fun n69=>ld W63 .sl b64 (o65+4) fun a70=>al W63 94 [.int .i64 0,.sl (⟨none,0,0⟩),.lit false,.int .i64 0,.sl (⟨none,0,0⟩)] fun b71 W72=>st W72 b71 0 [.int .i64 n66,.sl a67,.bool c68,.int .i64 n69,.sl a70] fun W73=>ld W73 .sl b71 1 fun a74=>joinK [Ki,.sl] (fun k75=>loopL [Ki,.sl,Ki] (fun at_77 l78 t6879 W80 g76=>ifK (decide (t6879<(a74.len:Int))) (ix a74 4 t6879 fun b81 o82=>ld W80 Ki b81 o82 fun n83=>ld W80 Ki b81 (o82+1) fun n84=>ld W80 Ki b81 (o82+2) fun n85=>ld W80 .str b81 (o82+3) fun s86=>al W80 97 [.int .i64 0,.int .i64 0,.int .i64 0,.str []] fun b87 W88=>st W88 b87 0 [.int .i64 n83,.int .i64 n84,.int .i64 n85,.str s86] fun W89=>al W89 2 [.int .i64 at_77] fun b90 W91=>ap W91 2 1 8 [.int .i64 0] l78 (⟨some (b90,0),1,1⟩) fun a92 W93=>ld W93 Ki b87 0 fun n94=>g76 (w64 (at_77+(w64 (n94+5)))) a92 (w64 (t6879+1)) W93) (k75 at_77 l78 W80)) [.int .i64 at_61,.sl (⟨none,0,0⟩),.int .i64 0] W73) fun at_95 l96 W97=>drawK W97 fun D W98=>ldD D W98 .ptr b4 0 fun p99=>ldD D W98 .ptr b4 0 fun p100=>dr p100 fun b101 o102=>ldD D W98 .sl b101 (o102+4) fun a103=>al W98 95 [.sl l96] fun b104 W105=>Mod D W98 W105∧ap W105 95 1 24 [.sl (⟨none,0,0⟩)] a103 (⟨some (b104,0),1,1⟩) fun a106 W107=>Mod D W98 W107∧dr p99 fun b108 o109=>st W107 b108 (o109+4) [.sl a106] fun W110=>g60 at_95 (w64 (t6162+1)) W110) (k59 W63)) [.int .i64 0,.int .i64 0] W54) fun W111=>ld W111 .ptr b4 0 fun p112=>st W111 b4 0 [.ptr p112] fun W113=>st W113 b6 0 [.int .i64 0] fun W114=>kr W114) (fun ch W12=>doorK Pg 27 #[(LV.toV (.ptr (some (b4,0)))),(LV.toV (.ptr (some (b6,0))))] (.panicking ch) W12 fun W13=>ld W13 .ptr b4 0 fun p115=>ld W13 Ki b6 0 fun n116=>K p115 n116 W13) (fun W14=>doorK Pg 27 #[(LV.toV (.ptr (some (b4,0)))),(LV.toV (.ptr (some (b6,0))))] .returning W14 fun W15=>ld W15 .ptr b4 0 fun p117=>ld W15 Ki b6 0 fun n118=>K p117 n118 W15))):callK Pg 11 [Ap s1,Au name2,Ai length3] w (.tup [Lp,Li]) K:=WFR_sound (l:=CSl) (x:=[29,31,32]) (n:=(n0 .nil (n0 .nil (n0 .nil (n0 .nil (n0 .nil (n0 .nil (n0 (n0 .nil (.mk (some []) [] [6,7,8] .done .nil .nil)) (n0 (n0 .nil (.mk (some []) [] [6,7,8] .done .nil .nil)) (n0 .nil (n0 .nil (n0 (.mk none [] [] (tk [0,1,2] (.eff 3 (.take 4 (.take 5 (.last 6))))) .nil .nil) (n0 .nil (n0 (n0 .nil (.mk (some []) [] [6,7] .done (.mk none [.tmp 10 Li,.tmp 61 Li] [6,7,59,60] .done (n0 .nil (n0 .nil (n0 (n0 (n0 .nil (n0 .nil (n0 (n0 .nil (.mk (some [.tmp 10 Li,.tmp 13 Ls]) [] [6,7,59,60,61] .done (.mk none [.tmp 10 Li,.tmp 13 Ls,.tmp 68 Li] [6,7,59,60,61,66,67] .done .nil .nil) .nil)) (.mk none [] [] (tk [0,1,2,3,4,5] (.eff 6 (.eff 7 (.take 8 (.take 9 (.last 10)))))) .nil .nil)))) .nil) .nil))) .nil) .nil)) .nil)))))))))))))) CSl_ok mixed Tryz.func11 (Eq.mpr (by kernel_rfl) h)
abbrev t_given:TypeId:=77
theorem conc_given:Pg.concrete t_given=true:=by kernel_rfl
abbrev t_any:TypeId:=20
theorem u_given:∃fs,Pg.underlying t_given=some (.struct fs):=⟨_,Tryz.underlying77⟩
theorem f_open1:Pg.funcs[c_5]? = some Tryz.f27:=Tryz.func27
theorem r_open1:Tryz.f27.results = #[]:=Tryz.results27
theorem n_open1:Tryz.f27.ntmps=13:=Tryz.ntmps27
def takeOf:Code→Code
 | .seq _ (.block _ (.seq _ (.cond _ _ (.seq _ (.cond _ c _)))))=>c
 | _=>.skip
def takeAnn:Ann:=.mk none [] [] .done .nil (.mk none [] [] (.take 0 (.take 1 (.eff 2 (.last 3)))) .nil .nil)
def takeEnv(pr pe:Nat)(e:Int):Env:=⟨[(0,.one (Ap (some (pr,0)))),(1,.one (Ap (some (pe,0)))),(10,.one (.agg [.int .i64 e]))],13,[],[]⟩
theorem is_take(pr pe:Nat)(e:Int)(K:Wp)(w:World):W Pg CS none (takeOf (Tryz.f27.body.getD .skip)) takeAnn (takeEnv pr pe e) w (fun _ w=>K w) (fun _ _ _=>False) (fun _ _=>False) =
  (al w t_given [.int .i64 0] fun b3 w1=>st w1 b3 0 [.int .i64 e] fun w2=>drawK w2 fun D w3=>ldD D w3 Ki b3 0 fun n=>st w3 pr 0 [.ptr none] fun w4=>Mod D w3 w4∧st w4 pe 0 [.int .i64 n] fun w5=>K w5):=by kernel_rfl
theorem takeback_ok{pr pe:Nat}{e:Int}{Q:Exit→Act→Wp}{a:Act}{w:World}{K:Wp}(hs:Sim (takeEnv pr pe e) a)
  (h:al w t_given [.int .i64 0] fun b3 w1=>st w1 b3 0 [.int .i64 e] fun w2=>drawK w2 fun D w3=>ldD D w3 Ki b3 0 fun n=>st w3 pr 0 [.ptr none] fun w4=>Mod D w3 w4∧st w4 pe 0 [.int .i64 n] fun w5=>K w5)
  (hQ:∀a' w',K w'→a'.defers=[]→Q .normal a' w'):(takeOf (Tryz.f27.body.getD .skip)).wpIn (FW none) 0 Pg Q a w:=by
 refine W_sound (cs:=CS) CS_ok mixed _ none takeAnn (takeEnv pr pe e) w (fun _ w=>K w) (fun _ _ _=>False) (fun _ _=>False) _ _ hs ?_ ?_ (fun _ _ _ _ _ h=>h.elim) (fun _ _ _ _ h=>h.elim) (fun _ _ _ _ h=>h.elim)
 ·rw [is_take];exact h
 ·intro e' a' w' hk hs' st;have h1:e'.calls=[]:=st.calls (by kernel_rfl);have h2:e'.marks=[]:=st.marks (by kernel_rfl);exact hQ a' w' hk (by rw [hs'.dfs];unfold dfOf;rw [h1,h2];rfl)
end Go.Proofs.YtkofkhjcfjoceaaGreat
namespace Go.Proofs.YtkofkhjcfjoceaaGreat
open Go.Vw
open Go
def givenV(e:Int):Value:=.iface t_given (.agg #[.int .i64 e])
def given(e:Int):List PanicEntry:=[{v:=givenV e,recovered:=false}]
theorem must_ok{e:Int}{w:World}{kp:List PanicEntry→Wp}{K:Wp}(h0:e=0→K w)(h1:e≠0→kp (given e) w) :
  callX Pg c_4 [Ai e] w (.tup []) kp K:=by
 refine go_4 _ _ _ _ ?_;refine Iq (fun h=>?_) fun h=>h0 (by simpa using h);refine⟨[.val (givenV e)],w,?_,⟨⟨_,_,rfl⟩,h1 (by simpa using h)⟩⟩;unfold vS;simp only [Sem.run_bind];have:=run_makeInterface (P:=Pg) (w:=w) t_given (.agg #[.int .i64 e]) conc_given;show ((Instr.makeInterface t_given (.agg #[.int .i64 e])).run Pg w).andThen _=_;rw [this];rfl
section
variable {P:Program}{ops:Array Oper}{Q:Exit→Act→Wp}{o:Oper}{rest:List Oper}{a:Act}{w w':World}{v:Value}
theorem list_value(hg:o.guard=none)(hd:∀c,o.op≠.defer c)(h:(execOp a.eval o).run P w = .ok (.value v) w')(hn:wpListIn (FW none) 0 P ops Q rest (a.put o.dst v) w'):wpListIn (FW none) 0 P ops Q (o::rest) a w:=by
 unfold wpListIn;rw [if_pos (wanted_none hg _)];exact wpIn_value hd h hn
end
theorem frame_mode{c₀:Frame}{u:FrameMode}(h:c₀.mode=u):c₀ = {c₀ with mode:=u}:=by subst h;rfl
theorem catch_idle(pr pe:Nat)(w:World){K:Wp}(hK:K w) :
  doorK Pg c_5 #[(LV.toV (.ptr (some (pr,0)))),(LV.toV (.ptr (some (pe,0))))] .returning w K:=by
 unfold doorK;refine callsDIn_of_wpSIn f_open1 rfl trivial fun c₀ cs hu=>?_;apply wpSIn_seq;apply wpSIn_region;simp [wpOpsSIn,go_sem,recoverD,hu,n_open1,Exit.thenS,execOp,resolve];refine wpSIn_of_wpIn rfl (wpIn_block (wpIn_seq (wpIn_region_list ?_)));refine list_value rfl (fun _ h=>by cases h) (v:=.bool true) (w':=w) (by simp [execOp,Act.eval,go_sem]) ?_;show Exit.then _ _ .normal _ w;refine wpIn_cond_true (by simp [Act.eval,Act.put]) (wpIn_region_list ?_);refine list_value rfl (fun _ h=>by cases h) (v:=.nilIface) (w':=w) (by simp [execOp,Act.eval,Act.put,go_sem]) ?_;refine⟨rfl,.returning,by rw [←frame_mode hu],.tuple #[],?_,⟨_,rfl⟩,rfl,hK⟩;simp [results,r_open1]
set_option maxHeartbeats 2000000 in
theorem catch_given{pr pe:Nat}{e x:Int}{p:PA}{w:World}(hr:Blk w pr [(LV.ptr p).toV])(he:Blk w pe [.int .i64 x])(hne:pr≠pe){K:Wp}(hK:∀w',Blk w' pr [(LV.ptr none).toV]→Blk w' pe [.int .i64 e]→Mod (fun b=>b=pr∨b=pe) w w'→K w') :
  doorK Pg c_5 #[(LV.toV (.ptr (some (pr,0)))),(LV.toV (.ptr (some (pe,0))))] (.panicking (given e)) w K:=by
 unfold doorK;refine callsDIn_of_wpSIn f_open1 rfl trivial fun c₀ cs hu=>?_;apply wpSIn_seq;apply wpSIn_region;simp [wpOpsSIn,go_sem,recoverD,hu,given,n_open1,Exit.thenS,execOp,resolve];refine wpSIn_of_wpIn rfl (wpIn_block (wpIn_seq (wpIn_region_list ?_)));refine list_value rfl (fun _ h=>by cases h) (v:=.bool false) (w':=w) (by simp [execOp,Act.eval,go_sem,givenV]) ?_;show Exit.then _ _ .normal _ w;refine wpIn_cond_false (by simp [Act.eval,Act.put]) (wpIn_seq (wpIn_region_list ?_));refine list_value rfl (fun _ h=>by cases h) (v:=.tuple #[.agg #[.int .i64 e],.bool true]) (w':=w) ?_ ?_
 ·have ht:(Instr.typeAssert (givenV e) t_any t_given true).run Pg w = .ok (.tuple #[.agg #[.int .i64 e],.bool true]) w:=by
   obtain⟨fs,hu⟩:=u_given;simp [givenV,Instr.typeAssert,run_underlying hu]
  simp [execOp,Act.eval,Act.put,go_sem,ht]
 refine list_value rfl (fun _ h=>by cases h) (v:=.bool true) (w':=w) (by simp [execOp,Act.eval,Act.put,go_sem]) ?_;refine list_value rfl (fun _ h=>by cases h) (v:=.agg #[.int .i64 e]) (w':=w) (by simp [execOp,Act.eval,Act.put,go_sem]) ?_;show Exit.then _ _ .normal _ w;refine wpIn_cond_true (by simp [Act.eval,Act.put]) ?_;refine takeback_ok (pr:=pr) (pe:=pe) (e:=e) (K:=K) ?_ ?_ fun a' w' hk hd=>?_
 ·refine⟨by simp [Act.put,takeEnv],fun t v h=>?_,by simp [Act.put,takeEnv,dfOf]⟩;unfold takeEnv eget at h;simp only [lget_cons] at h;split at h
  ·rename_i ht;subst ht;cases h;simp [Act.put,TV.toV,AV.toV,LV.toV]
  split at h
  ·rename_i ht;subst ht;cases h;simp [Act.put,TV.toV,AV.toV,LV.toV]
  split at h
  ·rename_i ht;subst ht;cases h;simp [Act.put,TV.toV,AV.toV,LV.toV]
  ·simp [lget] at h
 ·have h3:∀{u:World},Mod (fun b=>b=pr∨b=pe) w u→pr<u.heap.size:=fun hM=>Nat.lt_of_lt_of_le hr.lt hM.size;refine (Fresh.start w F0).alst (by rfl) fun b3 w2 f2 hb M2=>?_;have hB:Blk w2 b3 [.int .i64 e]:=f2.blk (i:=0) rfl;have hr2:=M2.blk hr id;have he2:=M2.blk he id;have hn3:b3≠pr:=by have:=hr.lt;omega
  have hn4:b3≠pe:=by have:=he.lt;omega
  refine⟨fun b=>b=pr,((Mq w2).blk hB id).ldDK (k:=Ki) e hn3 rfl ?_⟩;refine ((Mq w2).blk hr2 id).stK (Nlr 1) fun w4 hr4 M4=>⟨M4,?_⟩;have he4:Blk w4 pe [.int .i64 x]:=M4.blk ((Mq w2).blk he2 id) (Ne.symm hne);refine he4.stK (Nlr 1) fun w5 he5 M5=>hK w5 (M5.blk hr4 hne) he5 ?_;exact ((mod0 M2 (Mq w2)).trans M4 (fun _ _ h=>h.elim) fun _ _ h=>.inl h).trans M5 (fun _ _ h=>h) fun _ _ h=>.inr h
 ·refine⟨hd,.panicking [{v:=givenV e,recovered:=true}],rfl,.tuple #[],?_,⟨_,rfl⟩,rfl,hk⟩;simp [results,r_open1]
end Go.Proofs.YtkofkhjcfjoceaaGreat
namespace Go.Proofs.YtkofkhjcfjoceaaGreat
open Go.Vw
theorem at_mid{w0 w:World}{D:Nat→Prop}{x:Nat×List Value}{M ro R:BL}(h:At w0 D ((x::(M++ro))++R) w):At w0 D (x::((M++R)++ro)) w:=by
 refine h.perm ?_;simp only [List.cons_append,Laa];exact (Lpc.append_left M).cons _
theorem at_front{w0 w:World}{D:Nat→Prop}{x:Nat×List Value}{M R ro:BL}(h:At w0 D (x::((M++R)++ro)) w):At w0 D (x::(M++ro)) w:=
 h.sub (((Lsl M R).append (List.Sublist.refl _)).cons_cons _)
theorem pageA_ok{w0 w:World}{D:Nat→Prop}{m ro:BL}{d:Nat}{x:Dec}{s:Sl}(f:At w0 D ((d,decC x s)::(m++ro)) w)(v:VecL ro ET s x.body)(hb:x.body.length≤549755813888)(hx:0≤x.left∧x.left≤1099511627776){sp:Sl}{t:Str}(hr:RdS w ET sp t)(hl:t.length≤1099511627776){K:Int→Wp}
  (hK:∀w' s' ro',At w0 D ((d,decC (pageN x t).1 s')::(m++ro')) w'→VecL ro' ET s' (pageN x t).1.body→Mod (fun z=>z=d∨Ks ro z) w w'→K (pageN x t).2 w') :
  callK Pg c_6 [Ap (some (d,0)),Az sp] w Oi K:=by
 refine go_6 _ _ _ _ ?_;have hB:=f.blk (i:=0) rfl;have hm:=mnI_le x.left 4100;refine ifK_f rfl (Dq (hB.ldK (k:=Ki) x.left rfl ?_));rw [hr.len];unfold pageN at hK;generalize mnI x.left 4100=n at hK hm ⊢;have bad:∀{u:World},At w0 D ((d,decC x s)::(m++ro)) u→Mod F0 w u→(∀w' s' ro',At w0 D ((d,decC {x with broken:=true} s')::(m++ro')) w'→VecL ro' ET s' x.body→Mod (fun z=>z=d∨Ks ro z) w w'→K 80 w') →
   dr (some (d,0)) fun b12 o13=>Go.Vw.st u b12 (o13+4) [.lit true] fun W14=>K 80 W14:=fun {u} h hM hK=>
  Dq (h.st 0 rfl (by decide:0+4+1≤5) fun u' h' M'=>hK u' s ro h' v (hM.trans M' (fun _ _ h=>h.elim) fun _ _ h=>.inl h))
 refine join1 (a:=.bool) (fun q u=>q=decide (x.broken=true∨n=0∨(t.length:Int)≠n)∧u=w) ?_ ?_
 ·intro k hk;refine Dq (hB.ldK (k:=.bool) x.broken rfl (Iq (fun q=>hk _ _ ⟨(Dct (.inl q)).symm,rfl⟩) fun q=>Iq (fun q2=>hk _ _ ⟨?_,rfl⟩) fun q2=>hk _ _ ⟨?_,rfl⟩))
  ·have q2:n=0:=by simpa using q2
   exact (Dct (.inr (.inl q2))).symm
  ·have q2:¬n=0:=by simpa using q2
   rw [Bei,bne_iff_ne,Det];exact⟨fun h=>.inr (.inr h),fun h=>by
    rcases h with h | h | h
    ·rw [h] at q;cases q
    ·exact absurd h q2
    ·exact h⟩
 rintro q u ⟨rfl,rfl⟩;refine Iq (fun q=>?_) fun q=>?_
 ·have q:=odt q;rw [if_pos q] at hK;exact bad f (Mod.refl _ _) hK
 have q:=odf q;rw [if_neg q] at hK;refine open_ok hr hl fun w2 ro2 s2 h2 v2=>?_;have f2:=f.joinF (Fresh.of_at h2) (fun _ _ h=>h.elim) fun _ _=>id;have hol:=openB_le t;refine Iq (fun q2=>?_) fun q2=>?_
 ·have q2:(openB t).1≠0:=by simpa using q2
  rw [if_pos q2] at hK;exact bad (f2.sub (Lsl _ _)) h2.mod hK
 have q2:¬(openB t).1≠0:=by simpa using q2
 rw [if_neg q2] at hK;have f2:=at_mid f2;have hB2:=f2.blk (i:=0) rfl;have hn:n≤4100:=hm.2.1;have htl:t.length≤4100:=by
  have:(t.length:Int)=n:=Decidable.not_not.1 fun h=>q (.inr (.inr h));omega
 refine Dq (hB2.ldK (k:=.sl) s rfl ?_);refine appL2 (m:=_::_) f2 v (v2.rd fun p hp=>f2.own p (Lmc _ (Lml _ (Lmr _ hp)))) rfl rfl (by omega) fun s3 old ro3 u3 f3 v3 M3 _ _=>?_;have f3:At w0 D ((d,decC x s)::((m++ro2)++ro3)) u3:=f3.sub (((Lsl (m++ro2) old).append (List.Sublist.refl ro3)).cons_cons _);refine Dq (f3.st 0 rfl (by decide:0+3+1≤5) fun u4 f4 M4=>?_);have f4:At w0 D ((d,decC {x with body:=x.body++(openB t).2} s3)::((m++ro2)++ro3)) u4:=f4;have f4:=at_front f4;refine Dq ((f4.blk (i:=0) rfl).ldK (k:=Ki) x.left rfl (Dq (f4.st 0 rfl (by decide:0+2+1≤5) fun u5 f5 M5=>?_)));have ew:w64 (x.left-n)=x.left-n:=Wq (by omega) (by omega);rw [ew] at f5;exact hK u5 s3 ro3 f5 v3 (((h2.mod.trans M3 (D:=fun z=>z=d∨Ks ro z) (fun _ _ h=>h.elim) fun _ _ h=>.inr h).trans M4 (fun _ _ h=>h) fun _ _ h=>.inl h).trans M5 (fun _ _ h=>h) fun _ _ h=>.inl h)
def pgRun(t:Str)(out:Bool)(tb tp:Int):Nat→Int→Dec→Int×Dec
 | 0,_,d=>(0,d)
 | k+1,at_,d=>if at_<tp then
   let x:=rdX t out (tb+at_) (mnI 4100 (tp-at_))
   if x.1≠0 then (x.1,d) else
   let y:=pageN d x.2
   if y.2≠0 then (y.2,y.1) else pgRun t out tb tp k (at_+4100) y.1
  else (0,d)
def pagesX(t:Str)(out:Bool)(tb tp:Int):Int×Dec:=if trailOk tb tp=false then (81,dec0 tb tp) else
 let r:=pgRun t out tb tp 5000 0 (dec0 tb tp)
 if r.1≠0 then r else if footOk r.2=false then (80,r.2) else r
def rdrC(bs:Nat)(parts:Int)(si sf:Sl):List Value:=[(LV.ptr (some (bs,0))).toV,(LV.str nameX).toV,.int .i64 parts,(LV.sl si).toV,(LV.sl sf).toV]
section
variable {w0 w:World}{bs q:Nat}{t:Str}{out:Bool}{m:BL}
theorem spRead_ok(h:SS w0 bs q t out m w){br:Nat}{parts:Int}{si sf:Sl}(hm:(br,rdrC bs parts si sf)∈m){at_ k:Int}(hat:at_≤9223372036854775807){kp:List PanicEntry→Wp}{K:Sl→Wp}
  (hP:(rdX t out at_ k).1≠0→∀w',SS w0 bs q t out m w'→kp (given (rdX t out at_ k).1) w')
  (hK:(rdX t out at_ k).1=0→∀sl ro w',SS w0 bs q t out (m++ro) w'→VecL ro ET sl (rdX t out at_ k).2→Mod (nk m) w w'→K sl w') :
  callX Pg c_7 [Ap (some (br,0)),Ai at_,Ai k] w Oz kp K:=by
 refine go_7 _ _ _ _ _ _ ?_;have hd:=h.quiet (Mq w);have hB:=hd.own hm;have hn:¬nk m br:=nk_not hm;refine⟨nk m,Dq (hB.ldDK (k:=.ptr) (some (bs,0)) hn rfl (Dq (hB.ldDK (k:=.str) nameX hn rfl ?_)))⟩;refine sread_ok hd hat fun sl ro w2 h2 v2 M2=>⟨M2,must_ok (fun e=>hK e sl ro w2 h2 v2 ((Mq w).trans M2 (fun _ _ h=>h.elim) fun _ _ h=>h)) fun e=>hP e w2 (h2.sub (Lsl _ _))⟩
end
theorem rdX_len(t:Str)(out:Bool)(at_ k:Int)(hk:0≤k):((rdX t out at_ k).2.length:Int)≤k:=by
 unfold rdX;split
 ·omega
 split
 ·exact hk
 split
 ·exact hk
 ·show (((t.drop at_.toNat).take k.toNat).length:Int)≤k;rw [Llt];omega
theorem pageN_left(d:Dec)(p:Str)(h:0≤d.left):0≤(pageN d p).1.left∧(pageN d p).1.left≤d.left∧(pageN d p).1.body.length≤d.body.length+p.length:=by
 have hm:=mnI_le d.left 4100;unfold pageN;split
 ·exact⟨h,Int.le_refl _,Nat.le_add_right _ _⟩
 split
 ·exact⟨h,Int.le_refl _,Nat.le_add_right _ _⟩
 ·have:=openB_le p;refine⟨?_,?_,?_⟩
  ·show 0≤d.left-mnI d.left 4100;omega
  ·show d.left-mnI d.left 4100≤d.left;have:0≤mnI d.left 4100:=by unfold mnI;split<;>omega
   omega
  ·show (d.body++(openB p).2).length≤_;rw [Lla];omega
section
variable {w0 w:World}{bs q:Nat}{t:Str}{out:Bool}{m:BL}
set_option maxHeartbeats 2000000 in
theorem pages_ok(h:SS w0 bs q t out m w)(ht:t.length≤268435456){br:Nat}{parts:Int}{si sf:Sl}(hm:(br,rdrC bs parts si sf)∈m){tb tp:Int}{kp:List PanicEntry→Wp}{K:Int→Sl→Wp}
  (hP:(pagesX t out tb tp).1≠0→∀w',SS w0 bs q t out m w'→kp (given (pagesX t out tb tp).1) w')
  (hK:(pagesX t out tb tp).1=0→∀w' R s ps,SS w0 bs q t out (m++R) w'→FootL R s ps (readF (pagesX t out tb tp).2.body).2.1→Mod (nk m) w w'→K (readF (pagesX t out tb tp).2.body).1 s w') :
  callX Pg c_8 [Ap (some (br,0)),.agg [.int .i64 tb,.int .i64 tp]] w (.one (.agg [Ki,.sl])) kp K:=by
 refine go_8 _ _ _ _ _ _ ?_;refine h.alK fun b4 w1 h1 M1=>h1.alK fun b6 w2 h2 M2=>?_;have h2:SS w0 bs q t out ((m++[(b4,[.int .i64 tb,.int .i64 tp])])++[(b6,pairC 0 ⟨none,0,0⟩)]) w2:=h2;have hB:Blk w2 b4 [.int .i64 tb,.int .i64 tp]:=h2.own (by simp);refine hB.ldK (k:=Ki) tb rfl (hB.ldK (k:=Ki) tp rfl ?_);refine newDecoder_ok (fun e w3 M3=>?_) fun e w3 d f3=>?_
 ·have ep:pagesX t out tb tp=(81,dec0 tb tp):=by unfold pagesX;rw [if_pos e]
  rw [ep] at hP;refine must_ok (fun e=>absurd e (by decide)) fun _=>hP (show (81:Int)≠0 by decide) w3 ?_;exact (h2.quiet M3).sub ((Lsl _ _).trans (Lsl _ _))
 have hto:=odt e;have ht1:0≤tb:=hto.1;have ht2:tb≤268435456:=hto.2.1;have ht3:tp≤16793600:=hto.2.2.2.1;have ht4:1≤tp:=hto.2.2.1;have ep:pagesX t out tb tp=(let r:=pgRun t out tb tp 5000 0 (dec0 tb tp);if r.1≠0 then r else if footOk r.2=false then (80,r.2) else r):=by
  unfold pagesX;rw [if_neg (by rw [e];decide)]
 rw [ep] at hP hK;generalize hr0:pgRun t out tb tp 5000 0 (dec0 tb tp)=r at hP hK;dsimp only at hP hK;clear ep;refine must_ok (fun _=>?_) fun e=>absurd rfl e;have h3:=h2.fresh f3;generalize hM0:(m++[(b4,[.int .i64 tb,.int .i64 tp])])++[(b6,pairC 0 ⟨none,0,0⟩)]=M at h3;have hmM:∀p∈m,p∈M:=fun p hp=>by rw [←hM0];simp [hp]
 have hsub:List.Sublist m M:=by rw [←hM0];exact (Lsl _ _).trans (Lsl _ _)
 have h4m:(b4,[Value.int .i64 tb,.int .i64 tp])∈M:=by rw [←hM0];simp
 have h6m:(b6,pairC 0 ⟨none,0,0⟩)∈M:=by rw [←hM0];simp
 have h3:SS w0 bs q t out ((d,decC (dec0 tb tp) ⟨none,0,0⟩)::(M++[])) w3:=h3.perm (by rw [Lan];exact (List.perm_append_singleton _ _).symm);have sm:∀{x:Dec} {s:Sl} {ro:BL},List.Sublist m ((d,decC x s)::(M++ro)):=fun {x s ro}=>(hsub.trans (Lsl _ _)).cons _
 have nkp:∀{u:World} {x:Dec} {s:Sl} {ro:BL} {z:Nat},SS w0 bs q t out ((d,decC x s)::(M++ro)) u→(z=d∨Ks ro z)→nk m z:=fun {u x s ro z} hS hz ⟨p,hp,e⟩=>by
  have hnd:=hS.at_.nodup;rw [List.map_cons,List.nodup_cons,List.map_append,List.nodup_append] at hnd;rcases hz with hz | ⟨p2,hp2,e2⟩
  ·have h1:p.1=d:=e.trans hz;have h2:p.1∈M.map Prod.fst:=List.mem_map_of_mem (hmM p hp);exact hnd.1 (by show d∈_;rw [←h1];exact Lml _ h2)
  ·exact hnd.2.2.2 p.1 (List.mem_map_of_mem (hmM p hp)) p2.1 (List.mem_map_of_mem hp2) (e.trans e2.symm)
 refine join0 (fun u=>∃s ro,r.1=0∧Mod (nk m) w u∧SS w0 bs q t out ((d,decC r.2 s)::(M++ro)) u∧VecL ro ET s r.2.body∧r.2.body.length≤30000000) ?_ ?_
 ·intro k14 hk14;refine loop1 (k:=Ki) (fun (at_:Int) u=>∃(i:Nat) (x:Dec) (s:Sl) (ro:BL),at_=4100*(i:Int)∧i≤4097∧0≤x.left∧x.left≤tp∧x.body.length≤4100*i∧Mod (nk m) w u∧SS w0 bs q t out ((d,decC x s)::(M++ro)) u∧VecL ro ET s x.body∧pgRun t out tb tp (5000-i) (4100*(i:Int)) x=r) (fun at_ _=>(tp-at_).toNat) (x:=0) rfl
   ⟨0,dec0 tb tp,_,[],rfl,by decide,by show 0≤tp;omega,Int.le_refl _,by show ([]:Str).length≤_;simp,(mod0 (mod0 M1 M2) f3.mod).mono fun _ _ h=>h.elim,h3,VecL.nil ET,hr0⟩ ?_
  rintro at_ u ⟨i,x,s,ro,rfl,hi,hl0,hl1,hbl,hMu,hS,hv,hrun⟩;obtain⟨k,hk⟩:∃k,5000-i=k+1:=⟨5000-i-1,by omega⟩;rw [hk,pgRun] at hrun;have hB4:Blk u b4 [.int .i64 tb,.int .i64 tp]:=hS.own (Lmc _ (Lml _ h4m));refine hB4.ldK (k:=Ki) tp rfl (Iq (fun q1=>?_) fun q1=>?_);rotate_left
  ·have q1:¬4100*(i:Int)<tp:=odf q1;rw [if_neg q1] at hrun;subst hrun;exact hk14 u ⟨s,ro,rfl,hMu,hS,hv,by show x.body.length≤_;omega⟩
  have q1:4100*(i:Int)<tp:=odt q1;rw [if_pos q1] at hrun;refine hB4.ldK (k:=Ki) tb rfl (hB4.ldK (k:=Ki) tp rfl ?_);have e1:w64 (tb+4100*(i:Int))=tb+4100*(i:Int):=Wq (by omega) (by omega);have e2:w64 (tp-4100*(i:Int))=tp-4100*(i:Int):=Wq (by omega) (by omega);rw [e1,e2];dsimp only at hrun;have hmn:=mnI_le 4100 (tp-4100*(i:Int));have hpl:=rdX_len t out (tb+4100*(i:Int)) (mnI 4100 (tp-4100*(i:Int))) (by omega);refine spRead_ok hS (Lmc _ (Lml _ (hmM _ hm))) (by omega) (fun e0 w' hS'=>?_) fun e0 sl ro1 w4 h4 v4 M4=>?_
  ·rw [if_pos e0] at hrun;subst hrun;rw [if_pos e0] at hP;exact hP e0 w' (hS'.sub sm)
  rw [if_neg (by simpa using e0)] at hrun;generalize (rdX t out (tb+4100*(i:Int)) (mnI 4100 (tp-4100*(i:Int)))).2=pg at hrun hpl v4;have hA:=at_mid h4.base;have hpn:=pageN_left x pg hl0;refine pageA_ok hA hv (by omega) ⟨hl0,by omega⟩ (v4.rd fun p hp=>hA.own p (Lmc _ (Lml _ (Lmr _ hp)))) (by omega) fun w5 s5 ro5 hA5 hv5 M5=>?_;have hMu5:Mod (nk m) w w5:=(hMu.trans M4 (fun _ _ h=>h) fun x _ hx=>fun ⟨p,hp,e⟩=>hx ⟨p,Lmc _ (Lml _ (hmM p hp)),e⟩).trans M5 (fun _ _ h=>h) fun z _ hz=>nkp hS hz;have h5:SS w0 bs q t out ((d,decC (pageN x pg).1 s5)::(M++ro5)) w5:=(h4.put hA5).sub (((Lsl M ro1).append (List.Sublist.refl _)).cons_cons _);generalize pageN x pg=y at hrun h5 hv5 hpn;refine must_ok (fun e3=>?_) fun e3=>?_;rotate_left
  ·rw [if_pos e3] at hrun;subst hrun;rw [if_pos e3] at hP;exact hP e3 w5 (h5.sub sm)
  rw [if_neg (by simpa using e3)] at hrun;have e4:w64 (4100*(i:Int)+4100)=4100*((i+1:Nat):Int):=by rw [Wq (by omega) (by omega)];omega
  have e5:4100*(i:Int)+4100=4100*((i+1:Nat):Int):=by omega
  rw [e4];refine⟨⟨i+1,y.1,s5,ro5,rfl,by omega,hpn.1,by omega,by omega,hMu5,h5,hv5,?_⟩,by omega⟩;have e6:5000-(i+1)=k:=by omega
  rw [e6,←e5];exact hrun
 rintro u ⟨s,ro,hr1,hMu,hS,hv,hbl⟩;rw [if_neg (by rw [hr1];decide)] at hP hK;have hBd:=hS.blk (i:=0) rfl;refine footDec_ok hBd (hv.rd fun p hp=>hS.own (Lmc _ (Lmr _ hp))) (by omega) (fun e5 w6 M6=>?_) fun e5 w6 R si' ps f6 hF=>?_
 ·rw [if_pos e5] at hP;refine (hS.quiet M6).alst (by rfl) fun b31 w7 h7 _=>must_ok (fun e=>absurd e (by decide)) fun _=>hP (show (80:Int)≠0 by decide) w7 (h7.sub (sm.trans (Lsl _ _)))
 rw [if_neg (by rw [e5];decide)] at hP hK;have h6:=hS.fresh f6;refine h6.alst (by rfl) fun b31 w7 h7 M7=>must_ok (fun _=>?_) fun e=>absurd rfl e;have h31:Blk w7 b31 (pairC (readF r.2.body).1 si'):=h7.own (Lmr _ (Lms.2 rfl));refine h31.ldK (k:=Ki) (readF r.2.body).1 rfl (h31.ldK (k:=.sl) si' rfl ?_)
 have hb6:(b6,pairC 0 ⟨none,0,0⟩)∈(((d,decC r.2 s)::(M++ro))++R)++[(b31,pairC (readF r.2.body).1 si')]:=Lml _ (Lml _ (Lmc _ (Lml _ h6m)));have hB6:=h7.own hb6;have hn:∀p∈m++R,p.1≠b6:=fun p hp e=>by
  have hnd:=h7.at_.nodup;rw [List.map_append,List.nodup_append] at hnd;have hAR:=hnd.1;rw [List.map_append,List.nodup_append] at hAR;have hA:=hAR.1;rcases Lma.1 hp with hp | hp
  ·rw [List.map_cons,List.nodup_cons,List.map_append,List.nodup_append] at hA;have hMn:=hA.2.1;rw [←hM0,List.map_append,List.nodup_append] at hMn;exact hMn.2.2 p.1 (List.mem_map_of_mem (Lml _ hp)) b6 (by simp) e
  ·exact hAR.2.2 b6 (List.mem_map.2 ⟨_,Lmc _ (Lml _ h6m),rfl⟩) p.1 (List.mem_map_of_mem hp) e.symm
 refine hB6.stK (Nlr 2) fun w8 h8 M8=>?_;have hB8:Blk w8 b6 (pairC (readF r.2.body).1 si'):=h8;have hmr:SS w0 bs q t out (m++R) w8:=by
  have hsl:List.Sublist (m++R) ((((d,decC r.2 s)::(M++ro))++R)++[(b31,pairC (readF r.2.body).1 si')]):=(sm.append (List.Sublist.refl R)).trans (Lsl _ _);exact h7.put ((h7.base.sub hsl).keep M8 (fun b _ e=>⟨_,hb6,e.symm⟩) hn)
 exact hB8.ldK (k:=Ki) (readF r.2.body).1 rfl (hB8.ldK (k:=.sl) si' rfl (hK hr1 w8 R si' ps hmr hF (((hMu.trans f6.mod (fun _ _ h=>h) fun _ _ h=>h.elim).trans M7 (fun _ _ h=>h) fun _ _ h=>h.elim).trans M8 (fun _ _ h=>h) fun z _ e=>fun ⟨p,hp,e2⟩=>hn p (Lml _ hp) (e2.trans e))))
end
def ERow:Enc Sl:=⟨1,fun s=>[(LV.sl s).toV],fun _=>rfl,by decide,fun s v h=>by simp only [Lms] at h;subst h;exact cell_sl s⟩
def offs:Int→List BI→List Int
 | _,[]=>[]
 | a,b::r=>a::offs (a+(b.stored+5)) r
def offI:Int→List PartI→List (List Int)
 | _,[]=>[]
 | a,x::r=>offs a x.blocks::offI (a+spB x.blocks) r
def openX(t:Str)(out:Bool)(length:Int):Int×Dec:=
 if (sizeX t out).2≠0 then ((sizeX t out).2,dec0 0 0)
 else if (sizeX t out).1≠length then (82,dec0 0 0)
 else if (sizeX t out).1<24 then (81,dec0 0 0)
 else if (rdX t out ((sizeX t out).1-24) 24).1≠0 then ((rdX t out ((sizeX t out).1-24) 24).1,dec0 0 0)
 else if (trailN (rdX t out ((sizeX t out).1-24) 24).2 (sizeX t out).1).2.2≠0 then ((trailN (rdX t out ((sizeX t out).1-24) 24).2 (sizeX t out).1).2.2,dec0 0 0)
 else pagesX t out (trailN (rdX t out ((sizeX t out).1-24) 24).2 (sizeX t out).1).1 (trailN (rdX t out ((sizeX t out).1-24) 24).2 (sizeX t out).1).2.1
theorem pagesX_foot{t:Str}{out:Bool}{tb tp:Int}(h:(pagesX t out tb tp).1=0):footOk (pagesX t out tb tp).2=true:=by
 unfold pagesX at h ⊢;split at h
 ·cases h
 ·rename_i h1;rw [if_neg h1];dsimp only at h ⊢;split at h
  ·rename_i h2;exact absurd h h2
  ·rename_i h2;rw [if_neg h2];split at h
   ·cases h
   ·rename_i h3;rw [if_neg h3];simpa using h3
theorem footOk_chk{d:Dec}(h:footOk d=true):chkF (readF d.body).1 (readF d.body).2.1=true:=by
 unfold footOk at h;rw [Bat,Bat,Bat] at h;exact parseF_chk h.2.2.1
structure FromL(R:BL)(sf:Sl)(rs:List Sl)(os:List (List Int)):Prop where
 row:OwnL R ERow sf rs
 len:rs.length=os.length
 each:∀(i:Nat) s o,rs[i]? = some s→os[i]? = some o→OwnL R EI s o
theorem FromL.mono{R R':BL}{sf:Sl}{rs:List Sl}{os:List (List Int)}(h:FromL R sf rs os)(hs:∀q∈R,q∈R'):FromL R' sf rs os:=⟨h.row.mono hs,h.len,fun i s o h1 h2=>(h.each i s o h1 h2).mono hs⟩
section
variable {w0 w:World}{bs q:Nat}{t:Str}{out:Bool}{m X:BL}
theorem SS.setA{b:Nat}{c:List Value}(h:SS w0 bs q t out (m++(b,c)::X) w){o:Nat}{vs:List LV}(hl:o+vs.length≤c.length){K:Wp}(hK:∀w',SS w0 bs q t out (m++(b,spl c o (vs.map LV.toV))::X) w'→Mod (fun k=>k=b) w w'→K w'):Go.Vw.st w b o vs K:=
 h.stK m.length (by simp) hl fun w' h' M=>hK w' (by simpa using h') M
theorem SS.setB{a:Nat×List Value}{b:Nat}{c:List Value}(h:SS w0 bs q t out (m++a::(b,c)::X) w){o:Nat}{vs:List LV}(hl:o+vs.length≤c.length){K:Wp}(hK:∀w',SS w0 bs q t out (m++a::(b,spl c o (vs.map LV.toV))::X) w'→Mod (fun k=>k=b) w w'→K w'):Go.Vw.st w b o vs K:=
 h.stK (m.length+1) (by simp) hl fun w' h' M=>hK w' (by simpa using h') M
theorem SS.pushK{ro:BL}{α:Type}{E:Enc α}{s:Sl}{l:List α}(h:SS w0 bs q t out (m++ro) w)(hv:VecL ro E s l)(y:α){e e2:TypeId}{n bytes:Nat}{zs cs:List LV}(hc:cs.map LV.toV=E.f y)(hn:n=E.n)(hz:zs.length=E.n)(hlim:(l.length+1025)*(bytes+1)≤2^46)
  {K:Sl→Wp} (hK:∀s' ro' w',SS w0 bs q t out (m++ro') w'→VecL ro' E s' (l++[y])→Mod (Ks ro) w w'→K s' w'):Go.Vw.al w e cs fun b u'=>ap u' e2 n bytes zs s ⟨some (b,0),1,1⟩ K:=by
 refine h.alK fun b w1 h1 M1=>?_;rw [hc] at h1;have h2:SS w0 bs q t out ((m++[(b,E.f y)])++ro) w1:=h1.perm (perm_mid m [(b,E.f y)] ro).symm;have hB:=h2.own (b:=b) (c:=E.f y) (Lml _ (Lmr _ (Lms.2 rfl)));refine appL2 h2.base hv (rd_one hB) hn hz (by simpa [Nat.add_assoc] using hlim) fun s' old ro' w2 h3 v3 M3 _ _=>?_;exact hK s' ro' w2 ((h2.put h3).sub (((Lsl m _).trans (Lsl _ old)).append (List.Sublist.refl _))) v3 (M1.trans M3 (fun _ _ h=>h.elim) fun _ _ h=>h)
end
theorem spOpen_nil{w:World}{name:Str}{length:Int}{K:PA→Int→Wp}(hK:∀w',Mod F0 w w'→K none 1 w') :
  callK Pg c_9 [Ap none,Au name,Ai length] w (.tup [Lp,Li]) K:=by
 refine go_9 _ _ _ _ _ ?_;refine (Fresh.start w F0).alK fun b4 w1 f1 _ M1=>f1.alK fun b6 w2 f2 _ M2=>ifK_t rfl ?_;refine f2.stK 0 rfl (Nlr 1) fun w3 f3 _=>f3.stK 1 rfl (Nlr 1) fun w4 f4 _=>?_;have hB4:Blk w4 b4 [(LV.ptr none).toV]:=f4.blk (i:=0) rfl;have hB6:Blk w4 b6 [.int .i64 1]:=f4.blk (i:=1) rfl;exact hB4.ldK (k:=.ptr) none rfl (hB6.ldK (k:=Ki) 1 rfl (hK w4 f4.mod))
section
variable {w0 w:World}{bs q:Nat}{t:Str}{out:Bool}{m:BL}
abbrev OS(w0:World)(bs q:Nat)(t:Str)(out:Bool)(m:BL)(b4 b6:Nat)(p:PA)(n:Int)(X:BL)(w:World):Prop:=SS w0 bs q t out (m++(b4,[(LV.ptr p).toV])::(b6,[.int .i64 n])::X) w
theorem OS.a{b4 b6:Nat}{p:PA}{n:Int}{X:BL}(h:OS w0 bs q t out m b4 b6 p n X w):Blk w b4 [(LV.ptr p).toV]:=SS.own h (by simp)
theorem OS.b{b4 b6:Nat}{p:PA}{n:Int}{X:BL}(h:OS w0 bs q t out m b4 b6 p n X w):Blk w b6 [.int .i64 n]:=SS.own h (by simp)
theorem OS.ne{b4 b6:Nat}{p:PA}{n:Int}{X:BL}(h:OS w0 bs q t out m b4 b6 p n X w):b4≠b6:=by
 have:=(SS.at_ h).nodup;rw [List.map_append,List.nodup_append] at this;have:=this.2.1;simp only [List.map_cons,List.nodup_cons,List.mem_cons,not_or] at this;exact this.1.1
theorem OS.back{b4 b6:Nat}{p:PA}{n:Int}{X:BL}(h:OS w0 bs q t out m b4 b6 p n X w){w':World}(hM:Mod (fun b=>b=b4∨b=b6) w w'):SS w0 bs q t out m w':=by
 have hn:=(SS.at_ h).nodup;rw [List.map_append,List.nodup_append] at hn;refine SS.put h (((SS.base h).sub (Lsl _ _)).keep hM (fun b _ e=>?_) fun p hp e=>?_)
 ·rcases e with e | e
  ·exact⟨(b4,[(LV.ptr _).toV]),Lmr _ (Lcs ..),e.symm⟩
  ·exact⟨(b6,[.int .i64 n]),Lmr _ (Lmc _ (Lcs ..)),e.symm⟩
 ·rcases e with e | e
  ·exact hn.2.2 p.1 (List.mem_map_of_mem hp) b4 (by simp) e
  ·exact hn.2.2 p.1 (List.mem_map_of_mem hp) b6 (by simp) e
theorem OS.seta{b4 b6:Nat}{p p':PA}{n:Int}{X:BL}(h:OS w0 bs q t out m b4 b6 p n X w){K:Wp}(hK:∀w',OS w0 bs q t out m b4 b6 p' n X w'→Mod (fun k=>k=b4) w w'→K w'):Go.Vw.st w b4 0 [.ptr p'] K:=
 SS.setA h (Nlr 1) hK
theorem OS.setb{b4 b6:Nat}{p:PA}{n n':Int}{X:BL}(h:OS w0 bs q t out m b4 b6 p n X w){K:Wp}(hK:∀w',OS w0 bs q t out m b4 b6 p n' X w'→Mod (fun k=>k=b6) w w'→K w'):Go.Vw.st w b6 0 [.int .i64 n'] K:=
 SS.setB h (Nlr 1) hK
theorem SS.tail{M Y ro Z:BL}(h:SS w0 bs q t out (((M++Y)++ro)++Z) w):SS w0 bs q t out ((M++(Y++Z))++ro) w:=by
 refine h.perm ?_;simp only [Laa];exact (Lpc.append_left Y).append_left M
theorem offs_loop{eB eI eJ:TypeId}{M R:BL}{sb:Sl}{bl:List BI}{a:Int}(h:SS w0 bs q t out M w)(hb:OwnL R EBI sb bl)(hR:∀p∈R,p∈M)(hl:bl.length≤262144)(ha:0≤a)(hc:chkB bl []=true)(hs:a+spB bl≤17181179904){k75:Int→Sl→Wp}
  (hK:∀s ro u,SS w0 bs q t out (M++ro) u→VecL ro EI s (offs a bl)→k75 (a+spB bl) s u) :
  loopL [Ki,.sl,Ki] (fun at_77 l78 t6879 W80 g76=>
   ifK (decide (t6879<(sb.len:Int)))
   (ix sb 4 t6879 fun b81 o82=>
    ld W80 Ki b81 o82 fun n83=>
    ld W80 Ki b81 (o82+1) fun n84=>
    ld W80 Ki b81 (o82+2) fun n85=>
    ld W80 .str b81 (o82+3) fun s86=>
    al W80 eB [.int .i64 0,.int .i64 0,.int .i64 0,.str []] fun b87 W88=>
    Go.Vw.st W88 b87 0 [.int .i64 n83,.int .i64 n84,.int .i64 n85,.str s86] fun W89=>
    al W89 eI [.int .i64 at_77] fun b90 W91=>
    ap W91 eJ 1 8 [.int .i64 0] l78 (⟨some (b90,0),1,1⟩) fun a92 W93=>
    ld W93 Ki b87 0 fun n94=>
    g76 (w64 (at_77+(w64 (n94+5)))) a92 (w64 (t6879+1)) W93)
   (k75 at_77 l78 W80)) [.int .i64 a,.sl (⟨none,0,0⟩),.int .i64 0] w:=by
 refine loop3 (k1:=Ki) (k2:=.sl) (k3:=Ki) (fun (a':Int) (s:Sl) (t':Int) u=>∃(j:Nat) (key:Str) (ro:BL) (os:List Int),t'=(j:Int)∧j≤bl.length∧a≤a'∧chkB (bl.drop j) key=true∧a+spB bl=a'+spB (bl.drop j)∧offs a bl=os++offs a' (bl.drop j)∧os.length=j∧VecL ro EI s os∧SS w0 bs q t out (M++ro) u) (fun _ _ t' _=>(bl.length-t').toNat) (x1:=a) (x2:=⟨none,0,0⟩) (x3:=0) rfl rfl rfl
  ⟨0,[],[],[],rfl,Nzl _,Int.le_refl _,hc,rfl,rfl,rfl,VecL.nil EI,by simpa using h⟩ ?_
 rintro a' s t' u ⟨j,key,ro,os,rfl,hj,haa,hcb,hsum,hof,hosl,hv,hS⟩;change Int at a';change Sl at s;have hrd:=hb.rd (w:=u) fun p hp=>hS.own (Lml _ (hR p hp));rw [hrd.len];refine Iq (fun q2=>?_) fun q2=>?_;rotate_left
 ·have q2:bl.length≤j:=dge q2;rw [Ldn q2] at hsum hof;have e1:a'=a+spB bl:=by rw [hsum];simp [spB]
  have e2:os=offs a bl:=by rw [hof];simp [offs]
  rw [e1];exact hK s ro u hS (e2▸hv)
 have q2:j<bl.length:=dlt q2;obtain⟨y,hy⟩:=Gq q2;rw [Dg hy,chkB_cons,Bat] at hcb;rw [Dg hy] at hsum hof;have hy1:=odt hcb.1;have hs1:=hy1.1;have hs2:=hy1.2.1;have hsp:=(spB_le _ _ hcb.2).1;have hsum:a+spB bl=a'+(y.stored+5+spB (bl.drop (j+1))):=hsum;have hof:offs a bl=os++a'::offs (a'+(y.stored+5)) (bl.drop (j+1)):=hof;refine hrd.ix rfl rfl hy fun b o _ hc=>Lq (k:=Ki) y.stored (hc 0 (by decide)) (Lq (k:=Ki) y.raw (hc 1 (by decide)) (Lq (k:=Ki) y.count (hc 2 (by decide)) (Lq (k:=.str) y.cut (hc 3 (by decide)) ?_)));refine hS.alst (by rfl) fun b87 u1 h1 _=>?_;have h1:SS w0 bs q t out ((M++[(b87,EBI.f y)])++ro) u1:=SS.perm h1 (perm_mid M [(b87,EBI.f y)] ro).symm;refine SS.pushK h1 hv a' rfl rfl rfl (by omega) fun s' ro' u2 h2 v2 _=>?_;have hB:Blk u2 b87 (EBI.f y):=h2.own (by simp);refine hB.ldK (k:=Ki) y.stored rfl ?_;have e1:w64 (y.stored+5)=y.stored+5:=Wq (by omega) (by omega);rw [e1];have e2:w64 (a'+(y.stored+5))=a'+(y.stored+5):=Wq (by omega) (by omega);rw [e2];have e3:w64 ((j:Int)+1)=((j+1:Nat):Int):=by rw [Wq (by omega) (by omega)];omega
 rw [e3];refine⟨⟨j+1,y.cut,ro',os++[a'],rfl,by omega,by omega,hcb.2,by omega,by rw [hof];simp,by simp [hosl],v2,h2.sub ((Lsl M _).append (List.Sublist.refl _))⟩,?_⟩;omega
theorem SS.nks{M ro:BL}(h:SS w0 bs q t out (M++ro) w){b:Nat}{c:List Value}(hm:(b,c)∈M):¬Ks ro b:=fun ⟨p,hp,e⟩=>by
 have hn:=h.at_.nodup;rw [List.map_append,List.nodup_append] at hn;exact hn.2.2 b (List.mem_map.2 ⟨_,hm,rfl⟩) p.1 (List.mem_map_of_mem hp) e.symm
set_option maxHeartbeats 1000000 in
theorem from_loop{eB eI eJ eP eR eS:TypeId}{M0 R:BL}{b4 b16:Nat}{P:Int}{si:Sl}{ps:List PI}{l:List PartI}
  (h:SS w0 bs q t out (M0++(b16,rdrC bs P si ⟨none,0,0⟩)::R) w) (h4:(b4,[(LV.ptr (some (b16,0))).toV])∈M0) (hF:FootL R si ps l) (hc:chkI P l (-1) 0=true)
  {k59:Wp} (hK:∀E sf rs u,SS w0 bs q t out (M0++(b16,rdrC bs P si sf)::(R++E)) u→FromL (R++E) sf rs (offI 0 l)→k59 u) :
  loopL [Ki,Ki] (fun at_61 t6162 W63 g60=>
   ifK (decide (t6162<(si.len:Int)))
   (ix si 5 t6162 fun b64 o65=>
    ld W63 Ki b64 o65 fun n66=>
    ld W63 .sl b64 (o65+1) fun a67=>
    ld W63 .bool b64 (o65+2) fun c68=>
    ld W63 Ki b64 (o65+3) fun n69=>
    ld W63 .sl b64 (o65+4) fun a70=>
    al W63 eP [.int .i64 0,.sl (⟨none,0,0⟩),.lit false,.int .i64 0,.sl (⟨none,0,0⟩)] fun b71 W72=>
    Go.Vw.st W72 b71 0 [.int .i64 n66,.sl a67,.bool c68,.int .i64 n69,.sl a70] fun W73=>
    ld W73 .sl b71 1 fun a74=>
    joinK [Ki,.sl] (fun k75=>
     loopL [Ki,.sl,Ki] (fun at_77 l78 t6879 W80 g76=>
      ifK (decide (t6879<(a74.len:Int)))
      (ix a74 4 t6879 fun b81 o82=>
       ld W80 Ki b81 o82 fun n83=>
       ld W80 Ki b81 (o82+1) fun n84=>
       ld W80 Ki b81 (o82+2) fun n85=>
       ld W80 .str b81 (o82+3) fun s86=>
       al W80 eB [.int .i64 0,.int .i64 0,.int .i64 0,.str []] fun b87 W88=>
       Go.Vw.st W88 b87 0 [.int .i64 n83,.int .i64 n84,.int .i64 n85,.str s86] fun W89=>
       al W89 eI [.int .i64 at_77] fun b90 W91=>
       ap W91 eJ 1 8 [.int .i64 0] l78 (⟨some (b90,0),1,1⟩) fun a92 W93=>
       ld W93 Ki b87 0 fun n94=>
       g76 (w64 (at_77+(w64 (n94+5)))) a92 (w64 (t6879+1)) W93)
      (k75 at_77 l78 W80)) [.int .i64 at_61,.sl (⟨none,0,0⟩),.int .i64 0] W73) fun at_95 l96 W97=>
    drawK W97 fun D W98=>
    ldD D W98 .ptr b4 0 fun p99=>
    ldD D W98 .ptr b4 0 fun p100=>
    dr p100 fun b101 o102=>
    ldD D W98 .sl b101 (o102+4) fun a103=>
    al W98 eR [.sl l96] fun b104 W105=>
    Mod D W98 W105 ∧
    ap W105 eS 1 24 [.sl (⟨none,0,0⟩)] a103 (⟨some (b104,0),1,1⟩) fun a106 W107=>
    Mod D W98 W107 ∧
    dr p99 fun b108 o109=>
    Go.Vw.st W107 b108 (o109+4) [.sl a106] fun W110=>
    g60 at_95 (w64 (t6162+1)) W110)
   (k59 W63)) [.int .i64 0,.int .i64 0] w:=by
 have hle:=spI_le P l (-1) 0 hc (by decide);have hll:=hF.ll;refine loop2 (k1:=Ki) (k2:=Ki) (fun (a t':Int) u=>∃(i n:Nat) (la:Int) (E ro:BL) (sf:Sl) (rs:List Sl) (os:List (List Int)),t'=(i:Int)∧i≤l.length∧n≤262144∧chkI P (l.drop i) la n=true∧0≤a∧spI l=a+spI (l.drop i)∧offI 0 l=os++offI a (l.drop i)∧os.length=i∧rs.length=i∧(∀(j:Nat) s o,rs[j]? = some s→os[j]? = some o→OwnL (R++E) EI s o)∧VecL ro ERow sf rs∧SS w0 bs q t out (((M0++[(b16,rdrC bs P si sf)])++(R++E))++ro) u) (fun _ t' _=>(l.length-t').toNat) (x1:=0) (x2:=0) rfl rfl
  ⟨0,0,-1,[],[],_,[],[],rfl,Nzl _,Nzl _,hc,Int.le_refl _,by simp,rfl,rfl,rfl,fun j s o h1 h2=>by simp at h1,VecL.nil ERow,by simpa using h⟩ ?_
 rintro a t' u ⟨i,n,la,E,ro,sf,rs,os,rfl,hi,hn,hch,ha,hsum,hof,hosl,hrsl,heach,hv,hS⟩;change Int at a;have hrd:=hF.row.rd (w:=u) fun p hp=>hS.own (by simp [hp]);rw [hrd.len,hF.len];refine Iq (fun q1=>?_) fun q1=>?_;rotate_left
 ·have q1:l.length≤i:=dge q1;rw [Ldn q1] at hof;have e2:offI 0 l=os:=by rw [hof];simp [offI]
  refine hK (E++ro) sf rs u (by simpa using hS) ⟨⟨ro,hv,fun p hp=>by simp [hp]⟩,by rw [hrsl,e2,hosl],fun j s o h1 h2=>?_⟩;rw [e2] at h2;exact (heach j s o h1 h2).mono fun p hp=>by
   rcases Lma.1 hp with hp | hp<;>simp [hp]
 have q1:i<l.length:=dlt q1;obtain⟨x,hx⟩:=Gq q1;obtain⟨p,hp⟩:=Gq (l:=ps) (i:=i) (by rw [hF.len];exact q1);have hi1:=hF.each i p x hp hx;rw [Dg hx,chkI,Bat,Bat] at hch;rw [Dg hx] at hsum hof;have hr1:=odt hch.1.1;have hm1:=hr1.2.2.2.1;have hsp:=(spI_le P _ _ _ hch.2 hm1).1;have hsp0:=(spB_le _ _ hch.1.2).1;have hsum:spI l=a+(spB x.blocks+spI (l.drop (i+1))):=hsum;have hof:offI 0 l=os++offs a x.blocks::offI (a+spB x.blocks) (l.drop (i+1)):=hof;refine hrd.ix rfl rfl hp fun b o _ hc=>Lq (k:=Ki) p.part (hc 0 (by decide)) (Lq (k:=.sl) p.sb (hc 1 (by decide)) (Lq (k:=.bool) p.all (hc 2 (by decide)) (Lq (k:=Ki) p.hashes (hc 3 (by decide)) (Lq (k:=.sl) p.sd (hc 4 (by decide)) ?_))));refine hS.alst (by rfl) fun b71 u1 h1 _=>?_;have h1:SS w0 bs q t out ((((M0++[(b16,rdrC bs P si sf)])++(R++E))++ro)++[(b71,EPI.f p)]) u1:=h1;have hB71:Blk u1 b71 (EPI.f p):=h1.own (by simp);refine hB71.ldK (k:=.sl) p.sb rfl ?_;refine join2 (a:=Ki) (b:=.sl) (fun (a':Int) (s:Sl) u=>a'=a+spB x.blocks∧∃ro2,VecL ro2 EI s (offs a x.blocks)∧SS w0 bs q t out (((((M0++[(b16,rdrC bs P si sf)])++(R++E))++ro)++[(b71,EPI.f p)])++ro2) u) (fun k hk=>offs_loop h1 hi1.bl (fun p hp=>by simp [hp]) hi1.lb ha hch.1.2 (by omega) fun s ro2 u hS hv=>hk _ _ _ ⟨rfl,ro2,hv,hS⟩) ?_;rintro a' s u2 ⟨rfl,ro2,v2,h2⟩;rw [Laa _ [(b71,EPI.f p)] ro2] at h2;have h3:=h2.tail;generalize hA:[(b71,EPI.f p)]++ro2=A at h3;have hro2:∀p∈ro2,p∈A:=fun p hp=>by rw [←hA];simp [hp]
 have h3:SS w0 bs q t out (((M0++[(b16,rdrC bs P si sf)])++(R++(E++A)))++ro) u2:=by rw [←Laa R E A];exact h3
 have hd:=h3.quiet (Mq u2);have n4:¬Ks ro b4:=h3.nks (c:=[(LV.ptr (some (b16,0))).toV]) (by simp [h4]);have n16:¬Ks ro b16:=h3.nks (c:=rdrC bs P si sf) (by simp);have hB4:Blk u2.drew b4 [(LV.ptr (some (b16,0))).toV]:=hd.own (by simp [h4]);have hB16:Blk u2.drew b16 (rdrC bs P si sf):=hd.own (by simp);refine⟨Ks ro,hB4.ldDK (k:=.ptr) (some (b16,0)) n4 rfl (hB4.ldDK (k:=.ptr) (some (b16,0)) n4 rfl (Dq (hB16.ldDK (k:=.sl) sf n16 rfl ?_)))⟩;refine hd.alK fun b104 u5 h5 M5=>⟨M5.mono fun _ _ h=>h.elim,?_⟩;have h5:SS w0 bs q t out (((((M0++[(b16,rdrC bs P si sf)])++(R++(E++A)))++[(b104,ERow.f s)])++ro)) u5:=h5.perm (perm_mid _ [(b104,ERow.f s)] ro).symm;have hB104:Blk u5 b104 (ERow.f s):=h5.own (by simp);refine appL2 h5.base hv (rd_one hB104) rfl rfl (by simp only [List.length_singleton];omega) fun sf' old ro' u6 hA6 v6 M6 _ _=>⟨M5.trans M6 (fun _ _ h=>h.elim) fun _ _ h=>h,Dq ?_⟩;have h6:SS w0 bs q t out (((M0++[(b16,rdrC bs P si sf)])++(R++(E++A)))++ro') u6:=(h5.put hA6).sub ((((Lsl _ _).trans (Lsl _ _))).append (List.Sublist.refl _));refine SS.setA (m:=M0) (X:=(R++(E++A))++ro') (by simpa using h6) (by decide:4+1≤5) fun u7 h7 _=>?_;have h7:SS w0 bs q t out (M0++(b16,rdrC bs P si sf')::((R++(E++A))++ro')) u7:=h7;have e3:w64 ((i:Int)+1)=((i+1:Nat):Int):=by rw [Wq (by omega) (by omega)];omega
 rw [e3];refine⟨⟨i+1,n+x.blocks.length,x.part,E++A,ro',sf',rs++[s],os++[offs a x.blocks],rfl,by omega,hm1,hch.2,by omega,by omega,by rw [hof];simp,by simp [hosl],by simp [hrsl],fun j s' o h1 h2=>?_,v6,by simpa using h7⟩,?_⟩
 ·rcases Nat.lt_trichotomy j i with hj | hj | hj
  ·rw [Lgl (by omega)] at h1 h2;exact (heach j s' o h1 h2).mono fun p hp=>by
    rcases Lma.1 hp with hp | hp<;>simp [hp]
  ·subst hj;rw [Lgr (by omega),hrsl,Nat.sub_self] at h1;rw [Lgr (by omega),hosl,Nat.sub_self] at h2;cases h1;cases h2;exact⟨ro2,v2,fun p hp=>by simp [hro2 p hp]⟩
  ·rw [List.getElem?_eq_none (by simp [hrsl];omega)] at h1;cases h1
 ·omega
end
end Go.Proofs.YtkofkhjcfjoceaaGreat
namespace Go.Proofs.YtkofkhjcfjoceaaGreat
open Go.Vw
open Go
section
variable {w0 w:World}{bs q:Nat}{t:Str}{out:Bool}{m:BL}
theorem sizeX_le(t:Str)(out:Bool):0≤(sizeX t out).1∧(sizeX t out).1≤t.length:=by
 unfold sizeX;split
 ·exact⟨Int.le_refl _,Int.natCast_nonneg _⟩
 ·exact⟨Int.natCast_nonneg _,Int.le_refl _⟩
theorem OS.of{L:BL}(h:SS w0 bs q t out L w){b4 b6:Nat}{p:PA}{n:Int}{X:BL}(e:L=m++(b4,[(LV.ptr p).toV])::(b6,[.int .i64 n])::X):OS w0 bs q t out m b4 b6 p n X w:=by subst e;exact h
theorem OS.n4{b4 b6:Nat}{p:PA}{n:Int}{X:BL}(_:OS w0 bs q t out m b4 b6 p n X w):¬nk (m++(b4,[(LV.ptr p).toV])::(b6,[.int .i64 n])::X) b4:=nk_not (p:=(b4,[(LV.ptr p).toV])) (by simp)
theorem OS.st2{b4 b6 b16:Nat}{p:PA}{n P:Int}{si sf:Sl}{X:BL}(h:OS w0 bs q t out m b4 b6 p n ((b16,rdrC bs 0 ⟨none,0,0⟩ sf)::X) w){K:Wp}(hK:∀w',OS w0 bs q t out m b4 b6 p n ((b16,rdrC bs P si sf)::X) w'→K w'):Go.Vw.st w b16 2 [.int .i64 P,.sl si] K:=
 SS.setA (m:=m++[(b4,[(LV.ptr p).toV]),(b6,[.int .i64 n])]) (X:=X) (by simpa using h) (by decide:2+2≤5) fun w' h' _=>hK w' (by
  have h':SS w0 bs q t out (m++[(b4,[(LV.ptr p).toV]),(b6,[.int .i64 n])]++(b16,rdrC bs P si sf)::X) w':=h';simpa using h')
set_option maxHeartbeats 1000000 in
theorem spOpen_ok(h:SS w0 bs q t out m w)(ht:t.length≤268435456){length:Int}{K:PA→Int→Wp}
  (hE:(openX t out length).1≠0→∀w',SS w0 bs q t out m w'→K none (openX t out length).1 w')
  (hK:(openX t out length).1=0→∀br R si ps sf rs w',SS w0 bs q t out (m++(br,rdrC bs (readF (openX t out length).2.body).1 si sf)::R) w'→FootL R si ps (readF (openX t out length).2.body).2.1→FromL R sf rs (offI 0 (readF (openX t out length).2.body).2.1)→K (some (br,0)) 0 w') :
  callK Pg c_9 [Ap (some (bs,0)),Au nameX,Ai length] w (.tup [Lp,Li]) K:=by
 refine go_9 _ _ _ _ _ ?_;refine h.alK fun b4 w1 h1 _=>h1.alK fun b6 w2 h2 _=>ifK_f rfl ?_;refine doorB_intro fun kp kr hkp hkr=>?_;have give:∀{X:BL} {p:PA} {n e:Int} {u:World},OS w0 bs q t out m b4 b6 p n X u→e=(openX t out length).1→e≠0→kp (given e) u:=fun {X p n e u} hS he hne=>
  hkp _ _ (catch_given hS.a hS.b hS.ne fun w' hB4 hB6 M'=>hB4.ldK (k:=.ptr) none rfl (hB6.ldK (k:=Ki) e rfl (by rw [he] at hne ⊢;exact hE hne w' (hS.back M'))))
 have ret:∀{X:BL} {p:PA} {n:Int} {u:World},OS w0 bs q t out m b4 b6 p n X u→K p n u→kr u:=fun {X p n u} hS hk=>
  hkr _ (catch_idle _ _ _ (hS.a.ldK (k:=.ptr) p rfl (hS.b.ldK (k:=Ki) n rfl hk)))
 clear hkp hkr;have h2:OS w0 bs q t out m b4 b6 none 0 [] w2:=OS.of h2 (by simp only [Laa,List.cons_append,List.nil_append];rfl);refine SS.alK h2 fun b16 w3 h3 _=>?_;have h3:OS w0 bs q t out m b4 b6 none 0 [(b16,rdrC bs 0 ⟨none,0,0⟩ ⟨none,0,0⟩)] w3:=OS.of h3 (by simp only [Laa,List.cons_append,List.nil_append];rfl);refine h3.seta fun w4 h4 _=>?_;have hz:=sizeX_le t out;unfold openX at give hE hK;refine ssize_ok h4 fun w5 (h5:OS w0 bs q t out m b4 b6 (some (b16,0)) 0 [(b16,rdrC bs 0 ⟨none,0,0⟩ ⟨none,0,0⟩)] w5) _=>h5.setb fun w6 h6 _=>h6.b.ldK (k:=Ki) _ rfl ?_;refine must_ok (fun e1=>?_) fun e1=>give h6 (by rw [if_pos e1]) e1;rw [if_neg (by simpa using e1)] at give hE hK;refine join0 (fun u=>(sizeX t out).1=length∧OS w0 bs q t out m b4 b6 (some (b16,0)) (sizeX t out).2 [(b16,rdrC bs 0 ⟨none,0,0⟩ ⟨none,0,0⟩)] u) (fun k25 hk25=>Iq (fun q2=>?_) fun q2=>hk25 _ ⟨by simpa using q2,h6⟩) ?_
 ·have q2:(sizeX t out).1≠length:=by simpa using q2
  exact must_ok (fun e=>absurd e (by decide)) fun e=>give h6 (by rw [if_pos q2]) e
 rintro w7 ⟨q2,h7⟩;rw [if_neg (by simpa using q2)] at give hE hK;refine join0 (fun u=>24≤(sizeX t out).1∧OS w0 bs q t out m b4 b6 (some (b16,0)) (sizeX t out).2 [(b16,rdrC bs 0 ⟨none,0,0⟩ ⟨none,0,0⟩)] u) (fun k25 hk25=>Iq (fun q3=>?_) fun q3=>hk25 _ ⟨?_,h7⟩) ?_
 ·have q3:(sizeX t out).1<24:=odt q3;exact must_ok (fun e=>absurd e (by decide)) fun e=>give h7 (by rw [if_pos q3]) e
 ·have q3:¬(sizeX t out).1<24:=odf q3;omega
 rintro w8 ⟨q3,h8⟩;rw [if_neg (by omega)] at give hE hK;have ew:w64 ((sizeX t out).1-24)=(sizeX t out).1-24:=Wq (by omega) (by omega);rw [ew];have hmr:∀{p:PA} {n:Int} {si sf:Sl} {P:Int} {X:BL},(b16,rdrC bs P si sf)∈m++(b4,[(LV.ptr p).toV])::(b6,[.int .i64 n])::(b16,rdrC bs P si sf)::X:=fun {p n si sf P X}=>by simp
 have hrl:=rdX_len t out ((sizeX t out).1-24) 24 (by decide);refine h8.a.ldK (k:=.ptr) (some (b16,0)) rfl (spRead_ok h8 hmr (by omega) (fun e4 w' h'=>give h' (by rw [if_pos e4]) e4) fun e4 sl ro w9 h9 v9 _=>?_);rw [if_neg (by simpa using e4)] at give hE hK;generalize hpg:(rdX t out ((sizeX t out).1-24) 24).2=pg at give hE hK hrl v9;have h9:OS w0 bs q t out m b4 b6 (some (b16,0)) (sizeX t out).2 ((b16,rdrC bs 0 ⟨none,0,0⟩ ⟨none,0,0⟩)::ro) w9:=OS.of h9 (by simp only [Laa,List.cons_append,List.nil_append]);refine trailer_ok (v9.rd fun p hp=>SS.own h9 (by simp [hp])) (by omega) fun w10 M10=>?_;have h10:=SS.quiet h9 M10;refine SS.alst h10 (by rfl) fun b38 w11 h11 _=>?_;generalize hT:trailN pg (sizeX t out).1=T at give hE hK;have h11:OS w0 bs q t out m b4 b6 (some (b16,0)) (sizeX t out).2 ((b16,rdrC bs 0 ⟨none,0,0⟩ ⟨none,0,0⟩)::(ro++[(b38,[.int .i64 T.1,.int .i64 T.2.1])])) w11:=OS.of h11 (by rw [←hT];simp only [Laa,List.cons_append,List.nil_append];rfl);refine h11.setb fun w12 h12 _=>?_;refine h12.b.ldK (k:=Ki) T.2.2 rfl (must_ok (fun e5=>?_) fun e5=>give h12 (by rw [if_pos e5]) e5);rw [if_neg (by simpa using e5)] at give hE hK;have hd:=SS.quiet h12 (Mq w12);refine⟨nk _,(OS.a hd).ldDK (k:=.ptr) (some (b16,0)) (OS.n4 hd) rfl ((OS.a hd).ldDK (k:=.ptr) (some (b16,0)) (OS.n4 hd) rfl ?_)⟩;have hB38:Blk w12.drew b38 [.int .i64 T.1,.int .i64 T.2.1]:=SS.own hd (by simp);refine hB38.ldDK (k:=Ki) T.1 (nk_not (p:=(b38,[.int .i64 T.1,.int .i64 T.2.1])) (by simp)) rfl (hB38.ldDK (k:=Ki) T.2.1 (nk_not (p:=(b38,[.int .i64 T.1,.int .i64 T.2.1])) (by simp)) rfl ?_);refine pages_ok hd ht hmr (fun e6 w' h'=>give h' rfl e6) fun e6 w13 R si ps h13 hF M13=>⟨M13,Dq ?_⟩;have hfo:=footOk_chk (pagesX_foot e6);have hK:=hK e6;clear hE give hT e5;generalize (readF (pagesX t out T.1 T.2.1).2.body).1=P at hK hfo h13 hF ⊢;generalize (readF (pagesX t out T.1 T.2.1).2.body).2.1=l at hK hfo hF;unfold chkF at hfo;rw [Bat] at hfo;have h13:OS w0 bs q t out m b4 b6 (some (b16,0)) T.2.2 ((b16,rdrC bs 0 ⟨none,0,0⟩ ⟨none,0,0⟩)::((ro++[(b38,[.int .i64 T.1,.int .i64 T.2.1])])++R)) w13:=OS.of h13 (by simp only [Laa,List.cons_append,List.nil_append]);refine h13.st2 fun w14 h14=>?_;refine h14.a.ldK (k:=.ptr) (some (b16,0)) rfl (Dq ?_);have hB16:Blk w14 b16 (rdrC bs P si ⟨none,0,0⟩):=SS.own h14 (by simp);refine hB16.ldK (k:=.sl) si rfl ?_;refine join0 (fun u=>∃E sf rs,SS w0 bs q t out ((m++[(b4,[(LV.ptr (some (b16,0))).toV]),(b6,[.int .i64 T.2.2])])++(b16,rdrC bs P si sf)::(((ro++[(b38,[.int .i64 T.1,.int .i64 T.2.1])])++R)++E)) u∧FromL (((ro++[(b38,[.int .i64 T.1,.int .i64 T.2.1])])++R)++E) sf rs (offI 0 l)) (fun k59 hk59=>from_loop (ps:=ps) (l:=l) (P:=P) (M0:=m++[(b4,[(LV.ptr (some (b16,0))).toV]),(b6,[.int .i64 T.2.2])]) (by simpa using h14) (by simp) (hF.mono fun p hp=>Lmr _ hp) hfo.2 fun E sf rs u hS hf=>hk59 u ⟨E,sf,rs,hS,hf⟩) ?_
 rintro w15 ⟨E,sf,rs,h15,hf⟩;have h15:OS w0 bs q t out m b4 b6 (some (b16,0)) T.2.2 ((b16,rdrC bs P si sf)::(((ro++[(b38,[.int .i64 T.1,.int .i64 T.2.1])])++R)++E)) w15:=OS.of h15 (by simp only [Laa,List.cons_append,List.nil_append]);refine h15.a.ldK (k:=.ptr) (some (b16,0)) rfl (h15.seta fun w16 h16 _=>h16.setb fun w17 h17 _=>ret h17 ?_);refine hK b16 (((ro++[(b38,[.int .i64 T.1,.int .i64 T.2.1])])++R)++E) si ps sf rs w17 ?_ (hF.mono fun p hp=>by simp [hp]) hf;exact SS.sub h17 ((List.Sublist.refl m).append (((List.Sublist.refl _).cons _).cons _))
end
end Go.Proofs.YtkofkhjcfjoceaaGreat
namespace Go.Proofs.YtkofkhjcfjoceaaGreat
open Go.Vw
theorem cmpN_range:∀a b:Str,cmpN a b = -1∨cmpN a b=0∨cmpN a b=1
 | [],[]=>.inr (.inl rfl)
 | [],_::_=>.inl rfl
 | _::_,[]=>.inr (.inr rfl)
 | x::a,y::b=>by
  rw [cmpN_cons];split
  ·exact .inl rfl
  split
  ·exact .inr (.inr rfl)
  ·exact cmpN_range a b
theorem cmpN_self:∀a:Str,cmpN a a=0
 | []=>rfl
 | x::a=>by rw [cmpN_cons,if_neg (Nat.lt_irrefl _),if_neg (Nat.lt_irrefl _)];exact cmpN_self a
theorem cmpN_neg:∀a b:Str,cmpN b a = - cmpN a b
 | [],[]=>rfl
 | [],_::_=>rfl
 | _::_,[]=>rfl
 | x::a,y::b=>by
  rw [cmpN_cons,cmpN_cons];by_cases h1:x.toNat<y.toNat
  ·rw [if_pos h1,if_neg (by omega),if_pos h1];rfl
  by_cases h2:y.toNat<x.toNat
  ·rw [if_pos h2,if_neg h1,if_pos h2]
  ·rw [if_neg h1,if_neg h2,if_neg h2,if_neg h1];exact cmpN_neg a b
theorem cmpN_zero:∀{a b:Str},cmpN a b=0→a=b
 | [],[],_=>rfl
 | [],_::_,h=>by cases h
 | _::_,[],h=>by cases h
 | x::a,y::b,h=>by
  rw [cmpN_cons] at h;by_cases h1:x.toNat<y.toNat
  ·rw [if_pos h1] at h;cases h
  rw [if_neg h1] at h;by_cases h2:y.toNat<x.toNat
  ·rw [if_pos h2] at h;cases h
  rw [if_neg h2] at h;rw [UInt8.toNat_inj.1 (by omega:x.toNat=y.toNat),cmpN_zero h]
theorem cmpN_le:∀{a b c:Str},cmpN a b≤0→cmpN b c≤0→cmpN a c≤0
 | [],_,[],_,_=>Int.le_refl _
 | [],_,_::_,_,_=>by show (-1:Int)≤0;decide
 | _::_,[],_,h,_=>absurd h (by show ¬(1:Int)≤0;decide)
 | _::_,_::_,[],_,h=>absurd h (by show ¬(1:Int)≤0;decide)
 | x::a,y::b,z::c,h1,h2=>by
  rw [cmpN_cons] at h1 h2 ⊢;by_cases k1:x.toNat<z.toNat
  ·rw [if_pos k1];decide
  by_cases p1:y.toNat<x.toNat
  ·rw [if_neg (by omega),if_pos p1] at h1;exact absurd h1 (by decide)
  by_cases p2:z.toNat<y.toNat
  ·rw [if_neg (by omega),if_pos p2] at h2;exact absurd h2 (by decide)
  rw [if_neg k1,if_neg (by omega)];rw [if_neg (by omega),if_neg p1] at h1;rw [if_neg (by omega),if_neg p2] at h2;exact cmpN_le h1 h2
theorem cmpN_le_lt{a b c:Str}(h1:cmpN a b≤0)(h2:cmpN b c<0):cmpN a c<0:=by
 rcases cmpN_range a c with h | h | h
 ·omega
 ·have e:=cmpN_zero h;subst e;have:=cmpN_neg a b;omega
 ·have h3:cmpN c a≤0:=by have:=cmpN_neg a c;omega
  have h4:=cmpN_le h3 h1;have:=cmpN_neg b c;omega
theorem bytesLess_cmp:∀a b:Str,Op.bytesLess a b=decide (cmpN a b<0)
 | [],[]=>rfl
 | [],_::_=>rfl
 | _::_,[]=>rfl
 | x::a,y::b=>by
  rw [cmpN_cons];show (decide (x<y)||(x==y&&Op.bytesLess a b))=_;rw [bytesLess_cmp a b];by_cases h1:x.toNat<y.toNat
  ·rw [if_pos h1];have:x<y:=UInt8.lt_iff_toNat_lt.2 h1;simp [this]
  rw [if_neg h1];have n1:¬x<y:=fun h=>h1 (UInt8.lt_iff_toNat_lt.1 h);by_cases h2:y.toNat<x.toNat
  ·rw [if_pos h2];have:¬x=y:=fun e=>by subst e;omega
   simp [n1,this]
  ·rw [if_neg h2];have:x=y:=UInt8.toNat_inj.1 (by omega);simp [this]
abbrev srtE(l:List (Str×Str)):Prop:=l.Pairwise fun x y=>cmpN x.1 y.1≤0
theorem nextN_key{c:Cu}{key:Str}{restart:Bool}{x:(Str×Str)×Cu}(h:nextN c key restart false=some x):cmpN key x.1.1≤0:=by
 unfold nextN at h;dsimp only at h;split at h
 ·cases h
 split at h
 ·cases h
 split at h
 ·cases h
 rename_i h3;cases h;have:¬cmpN (key.take (c.num 1024).1.toNat++(((((c.num 1024).2.num 1024).2.num 1024).2.take ((c.num 1024).2.num 1024).1).1)) key<0:=fun e=>h3 (.inl ⟨rfl,e⟩);have:=cmpN_neg key (key.take (c.num 1024).1.toNat++(((((c.num 1024).2.num 1024).2.num 1024).2.take ((c.num 1024).2.num 1024).1).1));show cmpN key (key.take (c.num 1024).1.toNat++(((((c.num 1024).2.num 1024).2.num 1024).2.take ((c.num 1024).2.num 1024).1).1))≤0;omega
theorem entRun_srt{raw:Str}{fr restart:Nat}:∀(k i:Nat) (key:Str) (c:Cu) (l:List (Str×Str)) {x:List (Str×Str)×Cu},entRun raw fr restart k i key c l=some x→(i=0→l=[])→srtE l→(∀y∈l,cmpN y.1 key≤0)→(∀y∈l,y.1.length≤1024∧y.2.length≤1024) →
  srtE x.1∧(∀y∈x.1,y.1.length≤1024∧y.2.length≤1024)∧x.1.length=l.length+k
 | 0,i,key,c,l,x,h,_,h1,_,h3=>by cases h;exact⟨h1,h3,rfl⟩
 | k+1,i,key,c,l,x,h,h0,h1,h2,h3=>by
  rw [entRun] at h;split at h
  ·cases h
  split at h
  ·cases h
  rename_i y hy;have hb:=nextN_b hy;have hk:∀z∈l,cmpN z.1 y.1.1≤0:=fun z hz=>by
   by_cases hi:i=0
   ·rw [h0 hi] at hz;cases hz
   ·have e:(i==0)=false:=by simp [hi]
    rw [e] at hy;exact cmpN_le (h2 z hz) (nextN_key hy)
  have hm:∀(P:Str×Str→Prop),(∀z∈l,P z)→P y.1→∀z∈l++[y.1],P z:=fun P ha hb z hz=>by
   rcases Lma.1 hz with hz | hz
   ·exact ha z hz
   ·rw [Lms.1 hz];exact hb
  have:=entRun_srt k (i+1) y.1.1 y.2 (l++[y.1]) h (fun e=>by omega) (List.pairwise_append.2 ⟨h1,List.pairwise_singleton _ _,fun a ha b hb=>by rw [Lms.1 hb];exact hk a ha⟩) (hm _ hk (by rw [cmpN_self];exact Int.le_refl _)) (hm _ h3 hb.2);refine⟨this.1,this.2.1,?_⟩;rw [this.2.2,Lla,List.length_singleton];omega
theorem parsedN_srt{raw:Str}{x:Nat×List (Str×Str)}(h:parsedN raw=some x):1≤x.1∧x.1≤64∧1≤x.2.length∧3*x.2.length≤raw.length∧srtE x.2∧∀y∈x.2,y.1.length≤1024∧y.2.length≤1024:=by
 unfold parsedN at h;dsimp only at h;split at h
 ·cases h
 split at h
 ·cases h
 rename_i h1 h2;split at h
 ·cases h
 split at h
 ·cases h
 rename_i y hy;split at h
 ·cases h
 cases h;have:=entRun_srt _ _ _ _ _ hy (fun _=>rfl) List.Pairwise.nil (by simp) (by simp);rw [List.length_nil,Nat.zero_add] at this;refine⟨by show 1≤wordN _;omega,by show wordN _≤64;omega,by show 1≤y.1.length;omega,by show 3*y.1.length≤_;omega,this.1,this.2.1⟩
theorem pair_mono{α:Type}{f:α→Str}{l:List α}(h:l.Pairwise fun x y=>cmpN (f x) (f y)≤0){k:Str}{i j:Nat}(d:α)(hij:i≤j)(hj:j<l.length)(hb:cmpN (f (l.getD j d)) k<0):cmpN (f (l.getD i d)) k<0:=by
 rcases Nat.eq_or_lt_of_le hij with rfl | hlt
 ·exact hb
 ·have hi:i<l.length:=by omega
  have:=List.pairwise_iff_getElem.1 h i j hi hj hlt;rw [Lgd,Lge hj,Option.getD_some] at hb;rw [Lgd,Lge hi,Option.getD_some];exact cmpN_le_lt this hb
theorem srt_mono{l:List (Str×Str)}(h:srtE l)(k:Str)(i j:Nat)(hij:i≤j)(hj:j<l.length)(hb:below l k j=true):below l k i=true:=
 Dct (pair_mono h ([],[]) hij hj (odt hb))
theorem seekN_filter{l:List (Str×Str)}(h:srtE l)(k:Str):l.drop (seekN l k)=l.filter fun x=>decide (0≤cmpN x.1 k):=by
 unfold seekN
 induction l with
 | nil=>rfl
 | cons x l ih=>
  rw [List.takeWhile_cons,List.filter_cons];by_cases hx:cmpN x.1 k<0
  ·rw [Dct hx,if_pos rfl,Dcf (by omega),if_neg (by decide),Llc,List.drop_succ_cons];exact ih (List.pairwise_cons.1 h).2
  ·rw [Dcf hx,if_neg (by decide),Dct (by omega),if_pos rfl,List.length_nil,List.drop_zero];congr 1
   symm
   rw [List.filter_eq_self];intro y hy;have h1:=(List.pairwise_cons.1 h).1 y hy;apply Dct;have:=cmpN_neg k y.1;have:=cmpN_neg k x.1;have h2:cmpN k x.1≤0:=by omega
   have:=cmpN_le h2 h1;omega
theorem chkB_srt:∀(l:List BI) (key:Str),chkB l key=true→(∀x∈l,cmpN key x.cut≤0∧x.cut.length≤64)∧l.Pairwise fun x y=>cmpN x.cut y.cut≤0
 | [],_,_=>⟨by simp,List.Pairwise.nil⟩
 | b::r,key,h=>by
  rw [chkB_cons,Bat] at h;have h1:=(odt h.1).2.2.2.2.2.2.2;have h2:=chkB_srt r b.cut h.2;have hk:cmpN key b.cut≤0:=by have:=cmpN_neg key b.cut;omega
  refine⟨fun x hx=>?_,List.pairwise_cons.2 ⟨fun x hx=>(h2.1 x hx).1,h2.2⟩⟩;rcases List.mem_cons.1 hx with rfl | hx
  ·exact⟨hk,h1.1⟩
  ·exact⟨cmpN_le hk (h2.1 x hx).1,(h2.1 x hx).2⟩
theorem chkI_each(parts:Int):∀(l:List PartI) (last:Int) (n:Nat),chkI parts l last n=true→∀x∈l,last<x.part∧x.part<parts∧x.blocks.length≠0∧x.blocks.length≤262144∧chkB x.blocks []=true∧kindN x.flt.all x.flt.hashes x.flt.data.length≠0
 | [],_,_,_,x,hx=>by cases hx
 | y::r,last,n,h,x,hx=>by
  rw [chkI,Bat,Bat] at h;have h1:=odt h.1.1;rcases List.mem_cons.1 hx with rfl | hx
  ·exact⟨h1.1,h1.2.1,h1.2.2.1,by have:=h1.2.2.2.1;omega,h.1.2,h1.2.2.2.2⟩
  ·have:=chkI_each parts r y.part _ h.2 x hx;exact⟨by have:=h1.1;omega,this.2⟩
theorem belowB_mono{bl:List BI}(h:chkB bl []=true)(k:Str)(i j:Nat)(hij:i≤j)(hj:j<bl.length)(hb:belowB bl k j=true):belowB bl k i=true:=
 Dct (pair_mono (f:=BI.cut) (chkB_srt bl [] h).2 ⟨0,0,0,[]⟩ hij hj (odt hb))
def refN(P part:Int):Int:=if part<0∨P≤part then 3 else 0
def cntB:List BI→Int
 | []=>0
 | b::r=>b.count+cntB r
def blocksAt(l:List PartI)(i:Int):List BI:=if i<0 then [] else match l[i.toNat]? with | some x=>x.blocks | none=>[]
def countN(P:Int)(l:List PartI)(part:Int):Int×Int:=if refN P part≠0 then (0,refN P part) else (cntB (blocksAt l (findN l part []).1),0)
theorem blocksAt_some{l:List PartI}{i:Nat}{x:PartI}(h:l[i]? = some x):blocksAt l (i:Int)=x.blocks:=by
 unfold blocksAt;rw [if_neg (by omega),Itn,h]
theorem findN_cases(l:List PartI)(part:Int)(key:Str):(findN l part key=(-1,0)∧∀x∈l,x.part≠part)∨∃(i:Nat) (x:PartI),l[i]? = some x∧x.part=part∧findN l part key=((i:Int),((lowC x.blocks (key.take 64)-1:Nat):Int)):=by
 unfold findN
 cases h:l.findIdx? (fun x=>x.part==part) with
 | none=>
  refine .inl ⟨rfl,fun x hx=>?_⟩;rw [List.findIdx?_eq_none_iff] at h;simpa using h x hx
 | some i=>
  have hi:=List.findIdx?_eq_some_iff_getElem.1 h;obtain⟨h1,h2,_⟩:=hi;refine .inr ⟨i,l[i],Lge h1,by simpa using h2,?_⟩;simp only [Lge h1]
theorem lowC_le(bl:List BI)(k:Str):lowC bl k≤bl.length:=(List.takeWhile_sublist _).length_le
def RdL(bs:Nat)(R:BL)(br:Nat)(P:Int)(l:List PartI):Prop:=∃si sf ps rs,(br,rdrC bs P si sf)∈R∧FootL R si ps l∧FromL R sf rs (offI 0 l)∧chkF P l=true
theorem RdL.chk{bs br:Nat}{R:BL}{P:Int}{l:List PartI}(h:RdL bs R br P l):1≤P∧P≤65535∧chkI P l (-1) 0=true:=by
 obtain⟨_,_,_,_,_,_,_,h⟩:=h;unfold chkF at h;rw [Bat] at h;have:=odt h.1;exact⟨this.1,this.2,h.2⟩
section
variable {bs br:Nat}{R:BL}{P:Int}{l:List PartI}{w:World}
theorem parts_ok(h:RdL bs R br P l)(hR:∀p∈R,Blk w p.1 p.2){K:Int→Wp}(hK:K P w):callK Pg c_97 [Ap (some (br,0))] w Oi K:=by
 obtain⟨si,sf,ps,rs,h1,h2,h3,h4⟩:=h;refine go_97 _ _ _ (ifK_f rfl (Dq ?_));have hB:Blk w br (rdrC bs P si sf):=hR _ h1;exact hB.ldK (k:=Ki) P rfl hK
theorem refusal_ok(h:RdL bs R br P l)(hR:∀p∈R,Blk w p.1 p.2){part:Int}{K:Int→Wp}(hK:K (refN P part) w):callK Pg c_98 [Ap (some (br,0)),Ai part] w Oi K:=by
 obtain⟨si,sf,ps,rs,h1,h2,h3,h4⟩:=h;have hB:Blk w br (rdrC bs P si sf):=hR _ h1;refine go_98 _ _ _ _ (ifK_f rfl ?_);unfold refN at hK;refine join1 (a:=.bool) (fun q u=>q=decide (part<0∨P≤part)∧u=w) ?_ ?_
 ·intro k hk;refine Iq (fun q=>hk _ _ ⟨?_,rfl⟩) fun q=>Dq (hB.ldK (k:=Ki) P rfl (hk _ _ ⟨?_,rfl⟩))
  ·exact (Dct (.inl (odt q:part<0))).symm
  ·have q:¬part<0:=odf q;show decide (P≤part)=_;rw [Bei,Det,Det];omega
 rintro q u ⟨rfl,rfl⟩;refine Iq (fun q=>?_) fun q=>?_
 ·rw [if_pos (odt q)] at hK;exact hK
 ·rw [if_neg (odf q)] at hK;exact hK
theorem hcut_of(hc:chkI P l (-1) 0=true):∀x∈l,∀b∈x.blocks,b.cut.length≤1099511627776:=fun x hx b hb=>by
 have:=((chkB_srt _ _ (chkI_each P l _ _ hc x hx).2.2.2.2.1).1 b hb).2;omega
theorem hmono_of(hc:chkI P l (-1) 0=true)(k:Str):∀x∈l,∀i j,i≤j→j<x.blocks.length→belowB x.blocks k j=true→belowB x.blocks k i=true:=fun x hx=>
 belowB_mono (chkI_each P l _ _ hc x hx).2.2.2.2.1 k
theorem spFind_ok{si:Sl}{ps:List PI}(hF:FootL R si ps l)(hc:chkI P l (-1) 0=true)(hR:∀p∈R,Blk w p.1 p.2){part:Int}{key:Str}(hk:key.length≤1099511627776){K:Int→Int→Wp}(hK:∀w',Mod F0 w w'→K (findN l part key).1 (findN l part key).2 w') :
  callK Pg c_3 [.agg [.int .i64 P,.sl si],Ai part,Au key] w (.tup [Li,Li]) K:=
 find_ok (hF.foot hR) hk (hcut_of hc) (hmono_of hc _) hK
theorem count_ok(h:RdL bs R br P l)(hR:∀p∈R,Blk w p.1 p.2){part:Int}{K:Int→Int→Wp}(hK:∀w',Mod F0 w w'→K (countN P l part).1 (countN P l part).2 w') :
  callK Pg c_99 [Ap (some (br,0)),Ai part] w (.tup [Li,Li]) K:=by
 refine go_99 _ _ _ _ ?_;refine refusal_ok h hR ?_;unfold countN at hK;refine Iq (fun q=>?_) fun q=>?_
 ·have q:refN P part≠0:=by simpa using q
  rw [if_pos q] at hK;exact hK w (Mod.refl _ _)
 have q:¬refN P part≠0:=by simpa using q
 rw [if_neg q] at hK;have hc:=h.chk.2.2;obtain⟨si,sf,ps,rs,h1,h2,h3,h4⟩:=h;have hB:Blk w br (rdrC bs P si sf):=hR _ h1;refine Dq (hB.ldK (k:=Ki) P rfl (hB.ldK (k:=.sl) si rfl ?_));refine spFind_ok h2 hc hR (Nzl _) fun w2 M2=>?_;have hR2:∀p∈R,Blk w2 p.1 p.2:=fun p hp=>M2.blk (hR p hp) id;have hB2:Blk w2 br (rdrC bs P si sf):=hR2 _ h1;refine join1 (a:=Ki) (fun (n:Int) u=>n=cntB (blocksAt l (findN l part []).1)∧Mod F0 w u) ?_ (by rintro n u ⟨rfl,hM⟩;exact hK u hM);intro k hk;rcases findN_cases l part [] with⟨e,_⟩ | ⟨i,x,hx,hp,e⟩
 ·rw [e] at hk ⊢;exact ifK_f (by decide) (hk _ _ ⟨rfl,M2⟩)
 rw [e] at hk ⊢;rw [blocksAt_some hx] at hk;refine ifK_t (by simp) (Dq (hB2.ldK (k:=.sl) si rfl ?_));obtain⟨p,hp⟩:=Gq (l:=ps) (i:=i) (by rw [h2.len];exact (Les.1 hx).1);have hi1:=h2.each i p x hp hx;have hcb:=(chkI_each P l _ _ hc x (Lmg hx)).2.2.2.2.1;refine (h2.row.rd hR2).ix rfl rfl hp fun b o _ hc=>Lq (k:=.sl) p.sb (hc 1 (by decide)) ?_;have hlb:=hi1.lb;rw [(hi1.bl.rd hR2).len];refine join1 (a:=Ki) (fun (n:Int) u=>n=cntB x.blocks∧Mod F0 w u) ?_ (by rintro n u ⟨rfl,hM⟩;exact hk _ _ ⟨rfl,hM⟩);intro k19 hk19;have hbig:65536*x.blocks.length≤17179869184:=by omega
 refine loop2 (k1:=Ki) (k2:=Ki) (fun (n t:Int) u=>∃(i:Nat) (key:Str),t=(i:Int)∧i≤x.blocks.length∧0≤n∧n≤65536*i∧chkB (x.blocks.drop i) key=true∧cntB x.blocks=n+cntB (x.blocks.drop i)∧Mod F0 w u) (fun _ t _=>(x.blocks.length-t).toNat) (x1:=0) (x2:=0) rfl rfl
  ⟨0,[],rfl,Nzl _,Int.le_refl _,by simp,hcb,by simp,M2⟩ ?_
 rintro n t u ⟨i,key,rfl,hi,h0,h1',hcb,he,hM⟩;change Int at n;refine Iq (fun q=>?_) fun q=>?_;rotate_left
 ·have q:x.blocks.length≤i:=dge q;rw [Ldn q] at he;exact hk19 _ _ ⟨by rw [he];simp [cntB],hM⟩
 have q:i<x.blocks.length:=dlt q;obtain⟨y,hy⟩:=Gq q;rw [Dg hy,chkB_cons,Bat] at hcb;rw [Dg hy] at he;have hy1:=odt hcb.1;have:=hy1.2.2.2.1;have:=hy1.2.2.2.2.2.1;have:=hy1.2.2.2.2.2.2.1;have he:cntB x.blocks=n+(y.count+cntB (x.blocks.drop (i+1))):=he;refine (hi1.bl.rd (w:=u) fun p hp=>hM.blk (hR p hp) id).ix rfl rfl hy fun b o _ hc=>Lq (k:=Ki) y.stored (hc 0 (by decide)) (Lq (k:=Ki) y.raw (hc 1 (by decide)) (Lq (k:=Ki) y.count (hc 2 (by decide)) (Lq (k:=.str) y.cut (hc 3 (by decide)) ?_)));refine (Fresh.start u F0).alst (by rfl) fun b30 u2 f2 _ M2'=>?_;have hB2:Blk u2 b30 (EBI.f y):=f2.blk (i:=0) rfl;refine hB2.ldK (k:=Ki) y.count rfl ?_;have e1:w64 (n+y.count)=n+y.count:=Wq (by omega) (by omega);have e3:w64 ((i:Int)+1)=((i+1:Nat):Int):=by rw [Wq (by omega) (by omega)];omega
 rw [e1,e3];exact⟨⟨i+1,y.cut,rfl,by omega,by omega,by omega,hcb.2,by omega,mod0 hM M2'⟩,by omega⟩
end
structure CurN where
 info:Int
 block:Int
 frm:Str
 ent:List (Str×Str)
 pos:Int
 last:Str
 any:Bool
 state:Int
def newC(info block:Int)(frm:Str):CurN:=⟨info,block,frm,[],0,[],false,if info<0 then 2 else 0⟩
def curC(br:Nat)(c:CurN)(pb:PA):List Value:=[(LV.ptr (some (br,0))).toV,.int .i64 c.info,.int .i64 c.block,(LV.str c.frm).toV,(LV.ptr pb).toV,.int .i64 c.pos,(LV.str c.last).toV,(LV.bool c.any).toV,.int .i64 c.state]
section
variable {bs br:Nat}{R:BL}{P:Int}{l:List PartI}{w:World}
theorem cursor_ok{info block:Int}{frm:Str}{K:PA→Wp}(hK:∀w' b,Fresh w w' F0 [(b,curC br (newC info block frm) none)]→K (some (b,0)) w') :
  callK Pg c_100 [Ap (some (br,0)),Ai info,Ai block,Au frm] w Oq K:=by
 refine go_100 _ _ _ _ _ _ ?_;refine (Fresh.start w F0).alK fun b w1 f1 _ _=>?_;refine join0 (fun u=>Fresh w u F0 [(b,curC br (newC info block frm) none)]) (fun k hk=>Iq (fun q=>Dq ?_) fun q=>hk _ ?_) fun u hu=>hK u b hu
 ·have q:info<0:=odt q;refine f1.stK 0 rfl (by decide:0+8+1≤9) fun u h _=>hk u ?_;have e:newC info block frm=⟨info,block,frm,[],0,[],false,2⟩:=by unfold newC;rw [if_pos q]
  rw [e];exact h
 ·have q:¬info<0:=odf q;have e:newC info block frm=⟨info,block,frm,[],0,[],false,0⟩:=by unfold newC;rw [if_neg q]
  rw [e];exact f1
theorem scan_ok(h:RdL bs R br P l)(hR:∀p∈R,Blk w p.1 p.2){part:Int}{K:PA→Int→Wp}(hE:refN P part≠0→K none (refN P part) w)
  (hK:refN P part=0→∀w' b,Fresh w w' F0 [(b,curC br (newC (findN l part []).1 0 []) none)]→K (some (b,0)) 0 w') :
  callK Pg c_101 [Ap (some (br,0)),Ai part] w (.tup [Lp,Li]) K:=by
 refine go_101 _ _ _ _ ?_;refine refusal_ok h hR (Iq (fun q=>hE (by simpa using q)) fun q=>?_);have hc:=h.chk.2.2;obtain⟨si,sf,ps,rs,h1,h2,h3,h4⟩:=h;have hB:Blk w br (rdrC bs P si sf):=hR _ h1;refine Dq (hB.ldK (k:=Ki) P rfl (hB.ldK (k:=.sl) si rfl (spFind_ok h2 hc hR (Nzl _) fun w2 M2=>cursor_ok fun w3 b f=>hK (by simpa using q) w3 b ?_)));exact (Fresh.start w F0).quiet M2 |>.join f (fun _ _ h=>h.elim) (fun _ _ _ h=>h)
theorem seek_ok(h:RdL bs R br P l)(hR:∀p∈R,Blk w p.1 p.2){part:Int}{key:Str}(hk:key.length≤1099511627776){K:PA→Int→Wp}(hE:refN P part≠0→K none (refN P part) w)
  (hK:refN P part=0→∀w' b,Fresh w w' F0 [(b,curC br (newC (findN l part key).1 (findN l part key).2 key) none)]→K (some (b,0)) 0 w') :
  callK Pg c_102 [Ap (some (br,0)),Ai part,Au key] w (.tup [Lp,Li]) K:=by
 refine go_102 _ _ _ _ _ ?_;refine refusal_ok h hR (Iq (fun q=>hE (by simpa using q)) fun q=>?_);have hc:=h.chk.2.2;obtain⟨si,sf,ps,rs,h1,h2,h3,h4⟩:=h;have hB:Blk w br (rdrC bs P si sf):=hR _ h1;refine Dq (hB.ldK (k:=Ki) P rfl (hB.ldK (k:=.sl) si rfl (spFind_ok h2 hc hR hk fun w2 M2=>cursor_ok fun w3 b f=>hK (by simpa using q) w3 b ?_)));exact (Fresh.start w F0).quiet M2 |>.join f (fun _ _ h=>h.elim) (fun _ _ _ h=>h)
theorem cut_ok{key:Str}{K:Str→Wp}(hK:K (key.take 64) w):callK Pg c_103 [Au key] w Ot K:=by
 refine go_103 _ _ _ ?_;have etk:key.take (min key.length 64)=key.take 64:=by
  rcases Nat.le_total key.length 64 with h | h
  ·rw [Nat.min_eq_left h,List.take_length,Ltl h]
  ·rw [Nat.min_eq_right h]
 refine ssx_take (n:=min key.length 64) (Nat.min_le_left _ _) (mn_nat _ _) ?_;rw [etk];exact hK
end
end Go.Proofs.YtkofkhjcfjoceaaGreat
