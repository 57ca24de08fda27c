/- Part T15. -/
import Derived.Test.YtkofkhjcfjoceaaGreatT14
import Derived.Test.YtkofkhjcfjoceaaGreatT03
import Derived.Test.YtkofkhjcfjoceaaGreatT10
import Derived.Test.YtkofkhjcfjoceaaGreatT09
namespace Go.Proofs.YtkofkhjcfjoceaaGreat
open Go.Vw
theorem num_ps{c:Cu}(he:c.e=0){n:Nat}(hn:n<9223372036854775808){m:Int}(hm:(n:Int)≤m){r:Str}(h:c.left=putN n++r):∃c',c.num m=((n:Int),c')∧c'.b=c.b∧c'.e=0∧c'.left=r:=
 ⟨_,num_put he hn hm h,rfl,rfl,by rw [left_at,h,List.drop_left]⟩
theorem text_ps{c:Cu}(he:c.e=0){s r:Str}{m:Int}(hs:s.length<9223372036854775808)(hm:(s.length:Int)≤m)(h:c.left=putN s.length++(s++r)):∃c',c.text m=(s,c')∧c'.b=c.b∧c'.e=0∧c'.left=r:=by
 have hg:getN c.left=(s.length,(putN s.length).length,0):=by rw [h];exact getN_put hs _
 have hE:textE m c.left=0:=by
  unfold textE;rw [hg];dsimp only;rw [if_neg (fun h=>h rfl),if_neg (by omega),if_neg];rw [h];simp only [Lla];omega
 have hV:textV c.left=s:=by
  unfold textV;rw [hg];dsimp only;rw [h,List.drop_left,List.take_left]
 have hL:textL c.left=(putN s.length).length+s.length:=by unfold textL;rw [hg]
 unfold Cu.text Cu.go;rw [if_neg (fun h=>h he),hE,if_pos rfl,if_pos rfl,hV,hL];refine⟨_,rfl,rfl,rfl,?_⟩;rw [left_at,h,←List.drop_drop,List.drop_left,List.drop_left]
theorem rest_ps{c:Cu}(he:c.e=0){x:UInt8}{r:Str}(h:c.left=x::r):c.rest≠0:=by
 unfold Cu.rest;rw [if_neg (fun h=>h he),h,Llc];omega
theorem putN_cons(v:Nat):∃x t,putN v=x::t:=by
 have:=putN_pos v
 cases h:putN v with
 | nil=>rw [h] at this;exact absurd this (by decide)
 | cons x t=>exact⟨x,t,rfl⟩
theorem done_left{c:Cu}(he:c.e=0)(h:c.left=[]):c.done.1=0:=by
 unfold Cu.done;rw [if_neg (fun h=>h he),if_neg];unfold Cu.left at h;have:=List.drop_eq_nil_iff.1 h;omega
theorem kind_cases{f:Flt}(h:kindN f.all f.hashes f.data.length≠0):(kindN f.all f.hashes f.data.length=1∧f=⟨true,0,[]⟩)∨(kindN f.all f.hashes f.data.length=2∧f=⟨false,0,[]⟩)∨(kindN f.all f.hashes f.data.length=3∧f.all=false∧1≤f.hashes∧f.hashes≤8∧1≤f.data.length∧f.data.length≤4096):=by
 obtain⟨a,n,d⟩:=f;unfold kindN at h ⊢;dsimp only at h ⊢;by_cases h1:a=true∧n=0∧d.length=0
 ·rw [if_pos h1];obtain⟨rfl,rfl,h0⟩:=h1;rw [List.length_eq_zero_iff.1 h0];exact .inl ⟨rfl,rfl⟩
 rw [if_neg h1] at h ⊢;by_cases h2:a=false∧n=0∧d.length=0
 ·rw [if_pos h2];obtain⟨rfl,rfl,h0⟩:=h2;rw [List.length_eq_zero_iff.1 h0];exact .inr (.inl ⟨rfl,rfl⟩)
 rw [if_neg h2] at h ⊢;split at h
 ·rename_i h3;rw [if_pos h3];exact .inr (.inr ⟨rfl,h3⟩)
 ·exact absurd rfl h
theorem putN_two{v:Nat}(h:v≤4096):(putN v).length≤2:=putN_len v 1 (by omega)
theorem encF_le{f:Flt}(h:kindN f.all f.hashes f.data.length≠0):(encF f).1.length≤4099:=by
 unfold encF;rcases kind_cases h with⟨k,_⟩ | ⟨k,_⟩ | ⟨k,h3⟩
 ·rw [k,if_pos rfl];show 1≤4099;decide
 ·rw [k,if_neg (by decide),if_pos rfl];show 1≤4099;decide
 ·rw [k,if_neg (by decide),if_neg (by decide),if_pos rfl];have:=putN_two h3.2.2.2.2;show (UInt8.ofNat f.hashes.toNat::(putN f.data.length++f.data)).length≤4099;rw [Llc,Lla];omega
theorem filtD_enc{f:Flt}(h:kindN f.all f.hashes f.data.length≠0):filtD (encF f).1=(f,0):=by
 rcases kind_cases h with⟨k,rfl⟩ | ⟨k,rfl⟩ | ⟨k,h3⟩
 ·rfl
 ·rfl
 ·have hE:(encF f).1=UInt8.ofNat f.hashes.toNat::(putN f.data.length++f.data):=by
   unfold encF;rw [k,if_neg (by decide),if_neg (by decide),if_pos rfl];rfl
  rw [hE];have hu:(UInt8.ofNat f.hashes.toNat).toNat=f.hashes.toNat:=u8_ofNat (by omega);have hfx:=fixed_byte (b:=UInt8.ofNat f.hashes.toNat::(putN f.data.length++f.data)) (at_:=0) (by simp);have hg:(UInt8.ofNat f.hashes.toNat::(putN f.data.length++f.data)).getD 0 0=UInt8.ofNat f.hashes.toNat:=rfl;rw [hg,hu] at hfx;unfold filtD;dsimp only;rw [hfx];dsimp only;rw [if_neg (by omega),if_neg (by omega)];obtain⟨c1,e1,e2,e3,e4⟩:=num_ps (c:=Cu.mk (UInt8.ofNat f.hashes.toNat::(putN f.data.length++f.data)) (0+1) 0) rfl (n:=f.data.length) (by omega) (m:=4096) (by omega) (r:=f.data) rfl;rw [e1];dsimp only;have e5:=take_put e3 (s:=f.data) (r:=[]) (by rw [e4,Lan]);rw [e5];dsimp only;have hh:((f.hashes.toNat:Nat):Int)=f.hashes:=by omega
  have hk:kindN false f.hashes f.data.length=3:=by rw [←h3.1];exact k
  rw [hh,hk,if_neg (fun h=>h rfl),done_left rfl (by rw [left_at,e4,List.drop_length]),if_neg (fun h=>h rfl)];obtain⟨a,n,d⟩:=f;have:a=false:=h3.1;rw [this]
theorem filtR_enc{f:Flt}(h:kindN f.all f.hashes f.data.length≠0):filtR (encF f).1=(f,0):=by
 rcases kind_cases h with⟨k,rfl⟩ | ⟨k,rfl⟩ | ⟨k,h3⟩
 ·rfl
 ·rfl
 ·have hE:(encF f).1=UInt8.ofNat f.hashes.toNat::(putN f.data.length++f.data):=by
   unfold encF;rw [k,if_neg (by decide),if_neg (by decide),if_pos rfl];rfl
  rw [hE];have hu:(UInt8.ofNat f.hashes.toNat).toNat=f.hashes.toNat:=u8_ofNat (by omega);have hg:(UInt8.ofNat f.hashes.toNat::(putN f.data.length++f.data)).getD 0 0=UInt8.ofNat f.hashes.toNat:=rfl;have hdr:(UInt8.ofNat f.hashes.toNat::(putN f.data.length++f.data)).drop 1=putN f.data.length++f.data:=rfl;have hgn:=getN_put (v:=f.data.length) (by omega) f.data;have hp:=putN_pos f.data.length;unfold filtR;rw [hdr,hgn,hg,hu];dsimp only;rw [if_neg (fun h=>by have h9:=congrArg List.length h;rw [Llc,Lla,List.length_singleton] at h9;omega),if_neg (fun h=>by have h9:=congrArg List.length h;rw [Llc,Lla,List.length_singleton] at h9;omega),if_neg (by simp only [Llc];omega),if_neg]
  ·have hh:((f.hashes.toNat:Nat):Int)=f.hashes:=by omega
   have hd:(UInt8.ofNat f.hashes.toNat::(putN f.data.length++f.data)).drop (1+(putN f.data.length).length)=f.data:=by
    rw [Nat.add_comm,List.drop_succ_cons,List.drop_left]
   rw [hd,hh];obtain⟨a,n,d⟩:=f;have:a=false:=h3.1;rw [this]
  ·simp only [Llc,Lla];omega
theorem blk1_ps{c:Cu}{key:Str}{b:BI}{r:Str}(he:c.e=0)(hb:rightB b key=true)(h:c.left=blkN key b++r):∃c',blk1 key c=(b,c')∧c'.b=c.b∧c'.e=0∧c'.left=r:=by
 have hb:=odt hb;obtain⟨h1,h2,h3,h4,h5,h6,h7,h8,_⟩:=hb;have hcom:=comN_le key b.cut;have htk:=comN_take key b.cut;unfold blkN at h;simp only [Laa] at h;obtain⟨c1,a1,a2,a3,a4⟩:=num_ps he (n:=b.stored.toNat) (by omega) (m:=65536) (by omega) h;obtain⟨c2,b1,b2,b3,b4⟩:=num_ps a3 (n:=b.raw.toNat) (by omega) (m:=65536) (by omega) a4;obtain⟨c3,d1,d2,d3,d4⟩:=num_ps b3 (n:=b.count.toNat) (by omega) (m:=65536) (by omega) b4;obtain⟨c4,e1,e2,e3,e4⟩:=num_ps d3 (n:=comN key b.cut) (by omega) (m:=key.length) (by omega) d4;have hdl:(b.cut.drop (comN key b.cut)).length=b.cut.length-comN key b.cut:=Lld;rw [←hdl] at e4;obtain⟨c5,f1,f2,f3,f4⟩:=text_ps e3 (m:=64) (by omega) (by omega) e4;refine⟨c5,?_,by rw [f2,e2,d2,b2,a2],f3,f4⟩;unfold blk1;dsimp only;rw [a1];dsimp only;rw [b1];dsimp only;rw [d1];dsimp only;rw [e1];dsimp only;rw [f1];dsimp only;have x1:((b.stored.toNat:Nat):Int)=b.stored:=by omega
 have x2:((b.raw.toNat:Nat):Int)=b.raw:=by omega
 have x3:((b.count.toNat:Nat):Int)=b.count:=by omega
 rw [x1,x2,x3,Itn,htk,List.take_append_drop]
theorem blksRun_ps:∀(bl:List BI) (l:List BI) (key:Str) (c:Cu) (r:Str),c.e=0→chkB bl key=true→c.left=bodB bl key++r→∃c',blksRun bl.length l key c=(l++bl,c')∧c'.b=c.b∧c'.e=0∧c'.left=r
 | [],l,key,c,r,he,_,h=>⟨c,by rw [Lan];rfl,rfl,he,h⟩
 | b::bl,l,key,c,r,he,hc,h=>by
  rw [chkB_cons,Bat] at hc;rw [bodB,Laa] at h;obtain⟨c1,a1,a2,a3,a4⟩:=blk1_ps he hc.1 h;obtain⟨x,t,hp⟩:=putN_cons b.stored.toNat;have hr:c.rest≠0:=rest_ps he (x:=x) (by rw [h];unfold blkN;rw [hp];simp only [List.cons_append];rfl);obtain⟨c2,b1,b2,b3,b4⟩:=blksRun_ps bl (l++[b]) b.cut c1 r a3 hc.2 a4;refine⟨c2,?_,by rw [b2,a2],b3,b4⟩;rw [Llc,blksRun,if_neg hr,a1];dsimp only;rw [b1];simp
theorem blksN_ps{c:Cu}{bl:List BI}{r:Str}(he:c.e=0)(hl:bl.length≤262144)(hc:chkB bl []=true)(h:c.left=putN bl.length++(bodB bl []++r)):∃c',blksN c=(bl,c')∧c'.b=c.b∧c'.e=0∧c'.left=r:=by
 obtain⟨c1,a1,a2,a3,a4⟩:=num_ps he (n:=bl.length) (by omega) (m:=262144) (by omega) h;obtain⟨c2,b1,b2,b3,b4⟩:=blksRun_ps bl [] [] c1 r a3 hc a4;refine⟨c2,?_,by rw [b2,a2],b3,b4⟩;unfold blksN;rw [a1];dsimp only;rw [Itn,b1,List.nil_append]
theorem fail_zero{c:Cu}(he:c.e=0):c.fail 0=c:=by
 unfold Cu.fail;rw [if_neg (fun h=>h he)];obtain⟨b,a,e⟩:=c;have:e=0:=he;rw [this]
section
variable {P last:Int}{n:Nat}{x:PartI}{c:Cu}{r:Str}
theorem part_ps(hP:P≤65535)(hlast:-1≤last)(he:c.e=0)(hr:rightP P last n x=true)(hc:chkB x.blocks []=true)(h:c.left=headN x last++(bodB x.blocks []++r)) :
  ∃c1 c2 c3,c.num 65535=((x.part-last-1),c1)∧c1.b=c.b∧(∀m:Int,((encF x.flt).1.length:Int)≤m→c1.text m=((encF x.flt).1,c2))∧(encF x.flt).1.length≤c.b.length∧c2.e=0∧blksN c2=(x.blocks,c3)∧c3.b=c.b∧c3.e=0∧c3.left=r:=by
 have hr:=odt hr;unfold headN at h;simp only [Laa] at h;obtain⟨c1,a1,a2,a3,a4⟩:=num_ps he (n:=(x.part-last-1).toNat) (by omega) (m:=65535) (by omega) h;have hel:=encF_le hr.2.2.2.2;have ht:∀m:Int,((encF x.flt).1.length:Int)≤m→∃c',c1.text m=((encF x.flt).1,c')∧c'.b=c1.b∧c'.e=0∧c'.left=putN x.blocks.length++(bodB x.blocks []++r):=fun m hm=>text_ps a3 (by omega) hm a4;have hsame:∀m:Int,((encF x.flt).1.length:Int)≤m→c1.text m=c1.text 4112:=by
  intro m hm;have hg:getN c1.left=((encF x.flt).1.length,(putN (encF x.flt).1.length).length,0):=by rw [a4];exact getN_put (by omega) _
  have hE:textE m c1.left=textE 4112 c1.left:=by
   unfold textE;rw [hg];dsimp only;rw [if_neg (fun h=>h rfl),if_neg (c:=m<((encF x.flt).1.length:Int)) (by omega),if_neg (c:=(4112:Int)<((encF x.flt).1.length:Int)) (by omega),if_neg (c:=(0:Int)≠0) (fun h=>h rfl)]
  unfold Cu.text;rw [hE]
 obtain⟨c2,b1,b2,b3,b4⟩:=ht 4112 (by omega);obtain⟨c3,d1,d2,d3,d4⟩:=blksN_ps b3 (by omega) hc b4;have xp:(((x.part-last-1).toNat:Nat):Int)=x.part-last-1:=by omega
 rw [xp] at a1;refine⟨c1,c2,c3,a1,a2,fun m hm=>by rw [hsame m hm,b1],?_,b3,d1,by rw [d2,b2,a2],d3,d4⟩;have:=congrArg List.length a4;simp only [Lla] at this;have hl:c1.left.length=c1.b.length-c1.at_:=Lld;rw [a2] at hl;omega
theorem part1_ps(hP:P≤65535)(hlast:-1≤last)(he:c.e=0)(hr:rightP P last n x=true)(hc:chkB x.blocks []=true)(h:c.left=headN x last++(bodB x.blocks []++r)) :
  ∃c',part1 last c=(x,c')∧c'.b=c.b∧c'.e=0∧c'.left=r∧∀k:Nat,c.b.length≤k→part1R k last c=(x,c'):=by
 obtain⟨c1,c2,c3,a1,a2,a3,a4,a5,a6,a7,a8,a9⟩:=part_ps hP hlast he hr hc h;have hr:=odt hr;have hel:=encF_le hr.2.2.2.2;have hx:∀f:Flt,f=x.flt→(PartI.mk (last+1+(x.part-last-1)) x.blocks f)=x:=by
  rintro f rfl;have:last+1+(x.part-last-1)=x.part:=by omega
  rw [this]
 refine⟨c3,?_,a7,a8,a9,fun k hk=>?_⟩
 ·unfold part1;dsimp only;rw [a1];dsimp only;rw [a3 4112 (by omega)];dsimp only;rw [filtD_enc hr.2.2.2.2];dsimp only;rw [fail_zero a5,a6];dsimp only;rw [hx _ rfl]
 ·unfold part1R;rw [a1];dsimp only;rw [a3 k (by omega),filtR_enc hr.2.2.2.2];dsimp only;rw [a6];dsimp only;rw [hx _ rfl]
end
theorem partsRun_ps{P:Int}(hP:P≤65535):∀(l l0:List PartI) (last:Int) (n:Nat) (c:Cu),-1≤last→c.e=0→chkI P l last n=true→c.left=bodI l last →
  ∃c',partsRun l.length l0 last c=(l0++l,c')∧c'.e=0∧c'.left=[]∧∀k:Nat,c.b.length≤k→partsRunR k l.length l0 last c=(l0++l,c')
 | [],l0,last,n,c,_,he,_,h=>⟨c,by rw [Lan];rfl,he,h,fun k _=>by rw [Lan];rfl⟩
 | x::l,l0,last,n,c,hlast,he,hc,h=>by
  rw [chkI,Bat,Bat] at hc;rw [bodI,Laa] at h;obtain⟨c1,a1,a2,a3,a4,a5⟩:=part1_ps hP hlast he hc.1.1 hc.1.2 h;obtain⟨y,t,hp⟩:=putN_cons (x.part-last-1).toNat;have hr:c.rest≠0:=rest_ps he (x:=y) (by rw [h];unfold headN;rw [hp];simp only [List.cons_append];rfl);have hx:=odt hc.1.1;obtain⟨c2,b1,b2,b3,b4⟩:=partsRun_ps hP l (l0++[x]) x.part _ c1 (by omega) a3 hc.2 a4;refine⟨c2,?_,b2,b3,fun k hk=>?_⟩
  ·rw [Llc,partsRun,if_neg hr,a1];dsimp only;rw [b1];simp
  ·rw [Llc,partsRunR,if_neg hr,a5 k hk];dsimp only;rw [b4 k (by rw [a2];exact hk)];simp
theorem chkI_len{P:Int}:∀(l:List PartI) (last:Int) (n:Nat),chkI P l last n=true→l=[]∨last+l.length<P
 | [],_,_,_=>.inl rfl
 | x::l,last,n,h=>by
  right;rw [chkI,Bat,Bat] at h;have hx:=odt h.1.1;rw [Llc];rcases chkI_len l x.part _ h.2 with h2 | h2
  ·rw [h2];have:(([]:List PartI).length:Int)=0:=rfl;push_cast;omega
  ·push_cast;omega
theorem foot_put{P:Int}{l:List PartI}(h:chkF P l=true):(readF (bodyN P l)).1=P∧(readF (bodyN P l)).2.1=l∧(readF (bodyN P l)).2.2.done.1=0∧readR (bodyN P l)=(P,l):=by
 unfold chkF at h;rw [Bat,Det] at h;obtain⟨⟨hP1,hP2⟩,hI⟩:=h;have hlen:(l.length:Int)≤65535:=by
  rcases chkI_len l _ _ hI with h | h
  ·rw [h];decide
  ·omega
 have hb:bodyN P l=putN P.toNat++(putN l.length++bodI l (-1)):=by unfold bodyN;rw [Laa]
 obtain⟨c1,a1,a2,a3,a4⟩:=num_ps (c:=Cu.mk (bodyN P l) 0 0) rfl (n:=P.toNat) (by omega) (m:=65535) (by omega) (show bodyN P l=_ from hb);obtain⟨c2,b1,b2,b3,b4⟩:=num_ps a3 (n:=l.length) (by omega) (m:=65535) (by omega) a4;obtain⟨c3,d1,d2,d3,d4⟩:=partsRun_ps hP2 l [] (-1) 0 c2 (Int.le_refl _) b3 hI b4;have hPP:((P.toNat:Nat):Int)=P:=by omega
 have hF:readF (bodyN P l)=(P,l,c3):=by
  unfold readF;dsimp only;rw [a1];dsimp only;rw [b1];dsimp only;rw [Itn,d1,List.nil_append,hPP]
 have hR:readR (bodyN P l)=(P,l):=by
  unfold readR;rw [a1];dsimp only;rw [b1];dsimp only;rw [Itn,d4 _ (by rw [b2,a2];exact Nlr _),List.nil_append,hPP]
 rw [hF];exact⟨rfl,rfl,done_left d2 d3,hR⟩
theorem parse_read{t:Str}(h:parseF t=true):readR t=((readF t).1,(readF t).2.1):=by
 unfold parseF okF at h;rw [Bat,Bat] at h;have hb:=odt h.2.2;have:=foot_put h.2.1;rw [hb] at this;exact this.2.2.2
theorem parse_iff(t:Str):parseF t=(chkF (readR t).1 (readR t).2&&decide (bodyN (readR t).1 (readR t).2=t)):=by
 rw [Bei];constructor
 ·intro h;rw [parse_read h];unfold parseF okF at h;rw [Bat] at h;exact h.2
 ·intro h;rw [Bat] at h;have hb:=odt h.2;have:=foot_put h.1;rw [hb] at this;unfold parseF okF;rw [this.1,this.2.1,this.2.2.1];rw [Bat];exact⟨rfl,by rw [Bat];exact h⟩
theorem footer_law(d:Dec):footOkR d=footOk d∧(footOk d=true→readR d.body=((readF d.body).1,(readF d.body).2.1)):=by
 have hp:=parse_iff d.body;constructor
 ·unfold footOkR footOk
  cases hb:d.broken with
  | true=>rfl
  | false=>
   by_cases hl:d.left≤0
   ·rw [Dct hl];simp only [Bool.not_false,Bool.true_and];rw [←Bool.and_assoc,←hp]
    cases h:parseF d.body with
    | false=>rfl
    | true=>rw [parse_read h]
   ·rw [Dcf hl];rfl
 ·intro h;unfold footOk at h;simp only [Bat] at h;exact parse_read h.2.2.1
theorem trailN_spec{b:Str}{size:Int}(h:(trailN b size).2.2=0):0≤(trailN b size).1∧1≤(trailN b size).2.1∧(trailN b size).1+(trailN b size).2.1+24=size∧(trailN b size).2.1≤16793600:=by
 have hp:=trailN_p b size;unfold trailN at h hp ⊢;split at h
 ·cases h
 rename_i h1;rw [if_neg h1] at hp ⊢;split at h
 ·cases h
 rename_i h2;rw [if_neg h2] at hp ⊢;split at h
 ·cases h
 rename_i h3;rw [if_neg h3] at hp ⊢;split at h
 ·cases h
 rename_i h4;rw [if_neg h4] at hp ⊢;split at h
 ·cases h
 rename_i h5;rw [if_neg h5] at hp ⊢;have h4:¬trailOk _ _=false:=h4;have h4:=odt (Bool.not_eq_false _ |>.mp h4);dsimp only at hp ⊢;omega
theorem pgRun_over{t:Str}{out:Bool}{tb tp at_:Int}{d:Dec}(h:tp≤at_)(k:Nat):pgRun t out tb tp k at_ d=(0,d)∧pgRunR t out tb tp k at_ d=(0,d):=by
 cases k with
 | zero=>exact⟨rfl,rfl⟩
 | succ k=>rw [pgRun,pgRunR,if_neg (by omega),if_neg (by omega)];exact⟨rfl,rfl⟩
theorem pg_law{t:Str}{tb tp:Int}(h0:0≤tb)(h1:tb+tp≤t.length):∀(k:Nat) (at_:Int) (d:Dec),0≤at_→pgRun t true tb tp k at_ d=pgRunR t true tb tp k at_ d
 | 0,_,_,_=>rfl
 | k+1,at_,d,ha=>by
  rw [pgRun,pgRunR];by_cases hlt:at_<tp
  ·rw [if_pos hlt,if_pos hlt];dsimp only;have hm:1≤mnI 4100 (tp-at_)∧(mnI 4100 (tp-at_)=4100∨at_+mnI 4100 (tp-at_)=tp∧tp≤at_+4100):=by unfold mnI;split<;>omega
   have hr:(rdX t true (tb+at_) (mnI 4100 (tp-at_))).1=0:=by
    unfold rdX;rw [if_neg (by omega),if_neg (by decide),if_neg (by omega)]
   rw [if_neg (fun h=>h hr)];split
   ·rfl
   ·rcases hm.2 with h | ⟨h,h'⟩
    ·rw [h];exact pg_law h0 h1 k _ _ (by omega)
    ·rw [(pgRun_over h' k).1,(pgRun_over (by omega) k).2]
  ·rw [if_neg hlt,if_neg hlt]
theorem open_law(t:Str)(out:Bool)(length:Int):openR t out length=openX t out length:=by
 unfold openR openX
 cases out with
 | false=>rfl
 | true=>
  have hs:sizeX t true=((t.length:Int),0):=rfl;rw [hs];dsimp only;rw [if_neg (c:=(0:Int)≠0) (fun h=>h rfl),if_neg (c:=(0:Int)≠0) (fun h=>h rfl)];split
  ·rfl
  split
  ·rfl
  rename_i h24;have hr:(rdX t true ((t.length:Int)-24) 24).1=0:=by
   unfold rdX;rw [if_neg (by decide),if_neg (by decide),if_neg (by omega)]
  rw [if_neg (c:=(rdX t true ((t.length:Int)-24) 24).1≠0) (fun h=>h hr)];split
  ·rfl
  rename_i ht;obtain⟨t1,t2,t3,t4⟩:=trailN_spec (Decidable.not_not.1 ht);generalize trailN (rdX t true ((t.length:Int)-24) 24).2 (t.length:Int)=y at t1 t2 t3 t4 ⊢;unfold pagesR pagesX;dsimp only;rw [pg_law t1 (by omega) 5000 0 _ (Int.le_refl _),(footer_law _).1]
theorem openX_foot{t:Str}{out:Bool}{length:Int}(h:(openX t out length).1=0):footOk (openX t out length).2=true:=by
 unfold openX at h ⊢;split at h
 ·rename_i h1;exact absurd h h1
 rename_i h1;rw [if_neg h1];split at h
 ·cases h
 rename_i h2;rw [if_neg h2];split at h
 ·cases h
 rename_i h3;rw [if_neg h3];split at h
 ·rename_i h4;exact absurd h h4
 rename_i h4;rw [if_neg h4];split at h
 ·rename_i h5;exact absurd h h5
 rename_i h5;rw [if_neg h5];exact pagesX_foot h
theorem open_read{t:Str}{out:Bool}{length:Int}(h:(openX t out length).1=0):readR (openX t out length).2.body=((readF (openX t out length).2.body).1,(readF (openX t out length).2.body).2.1)∧chkF (readF (openX t out length).2.body).1 (readF (openX t out length).2.body).2.1=true:=
 ⟨(footer_law _).2 (openX_foot h),footOk_chk (openX_foot h)⟩
set_option maxRecDepth 100000
theorem go_170(a1:Sl)(b2:Sl)(K:Bool→Wp)(w:World)(h:ifK ((a1.len:Int) != (b2.len:Int)) (K false w) (joinK [] (fun k3=>loopL [Ki] (fun i5 W6 g4=>ifK (decide (i5<(a1.len:Int))) (drawK W6 fun D W7=>ix a1 1 i5 fun b8 o9=>ldD D W7 (.int .u8) b8 o9 fun n10=>ix b2 1 i5 fun b11 o12=>ldD D W7 (.int .u8) b11 o12 fun n13=>ifK (n10 != n13) (K false W7) (g4 (w64 (i5+1)) W7)) (k3 W6)) [.int .i64 0] w) fun W14=>K true W14)):callK Pg 40 [Az a1,Az b2] w Ob K:=Fq (n:=(n0 .nil (n0 .nil (n0 (n0 .nil (.mk (some []) [] [] .done (.mk none [.tmp 5 Li] [0,1] .done (n0 .nil (n0 (n0 (n0 (.mk none [] [] (tk [0,1,2,3,4,5,6,7,8] .done) .nil .nil) .nil) .nil) .nil)) .nil) .nil)) .nil)))) CS_ok mixed Tryz.func40 (Eq.mpr (by kernel_rfl) h)
theorem go_169(a1:Sl)(b2:Sl)(K:Bool→Wp)(w:World)(h:ifK ((a1.len:Int) != (b2.len:Int)) (K false w) (joinK [] (fun k3=>loopL [Ki] (fun i5 W6 g4=>ifK (decide (i5<(a1.len:Int))) (drawK W6 fun D W7=>ix a1 4 i5 fun b8 o9=>ldD D W7 Ki b8 o9 fun n10=>ldD D W7 Ki b8 (o9+1) fun n11=>ldD D W7 Ki b8 (o9+2) fun n12=>ldD D W7 .str b8 (o9+3) fun s13=>ix b2 4 i5 fun b14 o15=>ldD D W7 Ki b14 o15 fun n16=>ldD D W7 Ki b14 (o15+1) fun n17=>ldD D W7 Ki b14 (o15+2) fun n18=>ldD D W7 .str b14 (o15+3) fun s19=>opF Pg (vS (do eqGuard .neq 97 (.tmp 20) (.tmp 24) (.agg #[(LV.toV (.int .i64 n10)),(LV.toV (.int .i64 n11)),(LV.toV (.int .i64 n12)),(LV.toV (.str s13))]) (.agg #[(LV.toV (.int .i64 n16)),(LV.toV (.int .i64 n17)),(LV.toV (.int .i64 n18)),(LV.toV (.str s19))]);binOp .neq 97 (.agg #[(LV.toV (.int .i64 n10)),(LV.toV (.int .i64 n11)),(LV.toV (.int .i64 n12)),(LV.toV (.str s13))]) (.agg #[(LV.toV (.int .i64 n16)),(LV.toV (.int .i64 n17)),(LV.toV (.int .i64 n18)),(LV.toV (.str s19))]))) W7 Ob fun c21 W20=>Mod D W7 W20∧ifK c21 (K false W20) (g4 (w64 (i5+1)) W20)) (k3 W6)) [.int .i64 0] w) fun W22=>K true W22)):callK Pg 39 [Az a1,Az b2] w Ob K:=Fq (n:=(n0 .nil (n0 .nil (n0 (n0 .nil (.mk (some []) [] [] .done (.mk none [.tmp 5 Li] [0,1] .done (n0 .nil (n0 (n0 (n0 (.mk none [] [] (tk [0,1,2,3,4,5,6,7] (.eff 8 .done)) .nil .nil) .nil) .nil) .nil)) .nil) .nil)) .nil)))) CS_ok mixed Tryz.func39 (Eq.mpr (by kernel_rfl) h)
theorem go_164(a_0_1:Int)(a_1_2:Sl)(b_0_3:Int)(b_1_4:Sl)(K:Bool→Wp)(w:World)(h:al w 40 [.int .i64 a_0_1,.sl a_1_2] fun b5 W6=>al W6 40 [.int .i64 b_0_3,.sl b_1_4] fun b7 W8=>joinK [.bool] (fun k9=>ld W8 Ki b5 0 fun n10=>ld W8 Ki b7 0 fun n11=>ifK (n10 != n11) (k9 true W8) (ld W8 .sl b5 1 fun a12=>ld W8 .sl b7 1 fun a13=>k9 ((a12.len:Int) != (a13.len:Int)) W8)) fun t2114 W15=>ifK t2114 (K false W15) (joinK [] (fun k16=>loopL [Ki] (fun i18 W19 g17=>ld W19 .sl b5 1 fun a20=>ifK (decide (i18<(a20.len:Int))) (ld W19 .sl b5 1 fun a21=>ix a21 5 i18 fun b22 o23=>ld W19 Ki b22 o23 fun n24=>ld W19 .sl b22 (o23+1) fun a25=>ld W19 .bool b22 (o23+2) fun c26=>ld W19 Ki b22 (o23+3) fun n27=>ld W19 .sl b22 (o23+4) fun a28=>al W19 94 [.int .i64 0,.sl (⟨none,0,0⟩),.lit false,.int .i64 0,.sl (⟨none,0,0⟩)] fun b29 W30=>st W30 b29 0 [.int .i64 n24,.sl a25,.bool c26,.int .i64 n27,.sl a28] fun W31=>ld W31 .sl b7 1 fun a32=>ix a32 5 i18 fun b33 o34=>ld W31 Ki b33 o34 fun n35=>ld W31 .sl b33 (o34+1) fun a36=>ld W31 .bool b33 (o34+2) fun c37=>ld W31 Ki b33 (o34+3) fun n38=>ld W31 .sl b33 (o34+4) fun a39=>al W31 94 [.int .i64 0,.sl (⟨none,0,0⟩),.lit false,.int .i64 0,.sl (⟨none,0,0⟩)] fun b40 W41=>st W41 b40 0 [.int .i64 n35,.sl a36,.bool c37,.int .i64 n38,.sl a39] fun W42=>joinK [.bool] (fun k43=>ld W42 Ki b29 0 fun n44=>ld W42 Ki b40 0 fun n45=>ifK (n44 != n45) (k43 true W42) (ld W42 .sl b29 1 fun a46=>ld W42 .sl b40 1 fun a47=>callK Pg 39 [Az a46,Az a47] W42 Ob fun c48 W49=>ifK (!c48) (k43 true W49) (ld W49 .bool b29 2 fun c50=>ld W49 .bool b40 2 fun c51=>opF Pg (vS (do eqGuard .neq 4 (.tmp 55) (.tmp 58) (LV.toV (.bool c50)) (LV.toV (.bool c51));binOp .neq 4 (LV.toV (.bool c50)) (LV.toV (.bool c51)))) W49 Ob fun c53 W52=>ifK c53 (k43 true W52) (ld W52 Ki b29 3 fun n54=>ld W52 Ki b40 3 fun n55=>ifK (n54 != n55) (k43 true W52) (ld W52 .sl b29 4 fun a56=>ld W52 .sl b40 4 fun a57=>callK Pg 40 [Az a56,Az a57] W52 Ob fun c58 W59=>k43 (!c58) W59))))) fun t7960 W61=>ifK t7960 (K false W61) (g17 (w64 (i18+1)) W61)) (k16 W19)) [.int .i64 0] W15) fun W62=>K true W62)):callK Pg 14 [.agg [.int .i64 a_0_1,.sl a_1_2],.agg [.int .i64 b_0_3,.sl b_1_4]] w Ob K:=Fq (n:=(n0 .nil (n0 (n0 (.mk (some [.tmp 21 Lb]) [] [2,3] .done .nil .nil) .nil) (n0 (n0 .nil (.mk (some []) [] [] .done (.mk none [.tmp 5 Li] [2,3] .done (n0 .nil (n0 (n0 (n0 .nil (n0 .nil (n0 (.mk (some [.tmp 79 Lb]) [] [2,3,5] .done .nil .nil) .nil))) .nil) .nil)) .nil) .nil)) .nil)))) CS_ok mixed Tryz.func14 (Eq.mpr (by kernel_rfl) h)
theorem go_166(f_0_1:Int)(f_1_2:Sl)(K:Int→Wp)(w:World)(h:al w 40 [.int .i64 f_0_1,.sl f_1_2] fun b3 W4=>joinK [] (fun k5=>loopL [Ki] (fun i7 W8 g6=>ld W8 .sl b3 1 fun a9=>ifK (decide (i7<(a9.len:Int))) (ld W8 .sl b3 1 fun a10=>ix a10 5 i7 fun b11 o12=>ld W8 .sl b11 (o12+1) fun a13=>joinK [] (fun k14=>loopL [Ki] (fun k16 W17 g15=>ifK (decide (k16<(a13.len:Int))) (ix a13 4 k16 fun b18 o19=>st W17 b18 o19 [.int .i64 0,.int .i64 0,.int .i64 (w64 ((-1)-i7)),.str []] fun W20=>g15 (w64 (k16+1)) W20) (k14 W17)) [.int .i64 0] W8) fun W21=>ld W21 .sl b3 1 fun a22=>ix a22 5 i7 fun b23 o24=>ld W21 .sl b23 (o24+2+2) fun a25=>joinK [] (fun k26=>loopL [Ki] (fun k28 W29 g27=>ifK (decide (k28<(a25.len:Int))) (ix a25 1 k28 fun b30 o31=>st W29 b30 o31 [.int .u8 (IntKind.wrap .u8 (i7.tmod 251))] fun W32=>g27 (w64 (k28+1)) W32) (k26 W29)) [.int .i64 0] W21) fun W33=>g6 (w64 (i7+1)) W33) (k5 W8)) [.int .i64 0] W4) fun W34=>joinK [Ki] (fun k35=>loopL [Ki,Ki] (fun n37 i38 W39 g36=>joinK [.bool] (fun k40=>ld W39 .sl b3 1 fun a41=>ifK (decide (i38<(a41.len:Int))) (k40 (decide (i38<500)) W39) (k40 false W39)) fun t7142 W43=>ifK t7142 (ld W43 .sl b3 1 fun a44=>ix a44 5 i38 fun b45 o46=>ld W43 .sl b45 (o46+1) fun a47=>ld W43 .sl b3 1 fun a48=>ix a48 5 i38 fun b49 o50=>ld W43 .sl b49 (o50+2+2) fun a51=>joinK [.sl,.sl] (fun k52=>loopL [.sl,.sl,Ki] (fun b54 d55 k56 W57 g53=>ifK (decide (k56<64)) (al W57 97 [.int .i64 0,.int .i64 0,.int .i64 7,.str []] fun b58 W59=>ap W59 97 4 40 [.int .i64 0,.int .i64 0,.int .i64 0,.str []] b54 (⟨some (b58,0),1,1⟩) fun a60 W61=>al W61 5 [.int .u8 255] fun b62 W63=>ap W63 5 1 1 [.int .u8 0] d55 (⟨some (b62,0),1,1⟩) fun a64 W65=>g53 a60 a64 (w64 (k56+1)) W65) (k52 b54 d55 W57)) [.sl a47,.sl a51,.int .i64 0] W43) fun b66 d67 W68=>g36 (w64 ((w64 (n37+(b66.len:Int)))+(d67.len:Int))) (w64 (i38+1)) W68) (k35 n37 W43)) [.int .i64 0,.int .i64 0] W34) fun n69 W70=>joinK [] (fun k71=>loopL [Ki] (fun i73 W74 g72=>ld W74 .sl b3 1 fun a75=>ifK (decide (i73<(a75.len:Int))) (joinK [] (fun k76=>loopL [Ki] (fun k78 W79 g77=>ld W79 .sl b3 1 fun a80=>ix a80 5 i73 fun b81 o82=>ld W79 .sl b81 (o82+1) fun a83=>ifK (decide (k78<(a83.len:Int))) (ld W79 .sl b3 1 fun a84=>ix a84 5 i73 fun b85 o86=>ld W79 .sl b85 (o86+1) fun a87=>ix a87 4 k78 fun b88 o89=>ld W79 Ki b88 o89 fun n90=>ld W79 Ki b88 (o89+1) fun n91=>ld W79 Ki b88 (o89+2) fun n92=>ld W79 .str b88 (o89+3) fun s93=>opF Pg (vS (do eqGuard .neq 97 (.tmp 131) (.tmp 134) (.agg #[(LV.toV (.int .i64 n90)),(LV.toV (.int .i64 n91)),(LV.toV (.int .i64 n92)),(LV.toV (.str s93))]) (.agg #[(LV.toV (.int .i64 0)),(LV.toV (.int .i64 0)),(LV.toV (.int .i64 (w64 ((-1)-i73)))),(LV.toV (.str []))]);binOp .neq 97 (.agg #[(LV.toV (.int .i64 n90)),(LV.toV (.int .i64 n91)),(LV.toV (.int .i64 n92)),(LV.toV (.str s93))]) (.agg #[(LV.toV (.int .i64 0)),(LV.toV (.int .i64 0)),(LV.toV (.int .i64 (w64 ((-1)-i73)))),(LV.toV (.str []))]))) W79 Ob fun c95 W94=>ifK c95 (K (-1) W94) (g77 (w64 (k78+1)) W94)) (k76 W79)) [.int .i64 0] W74) fun W96=>joinK [] (fun k97=>loopL [Ki] (fun k99 W100 g98=>ld W100 .sl b3 1 fun a101=>ix a101 5 i73 fun b102 o103=>ld W100 .sl b102 (o103+2+2) fun a104=>ifK (decide (k99<(a104.len:Int))) (ld W100 .sl b3 1 fun a105=>ix a105 5 i73 fun b106 o107=>ld W100 .sl b106 (o107+2+2) fun a108=>ix a108 1 k99 fun b109 o110=>ld W100 (.int .u8) b109 o110 fun n111=>ifK (n111 != (IntKind.wrap .u8 (i73.tmod 251))) (K (-1) W100) (g98 (w64 (k99+1)) W100)) (k97 W100)) [.int .i64 0] W96) fun W112=>g72 (w64 (i73+1)) W112) (k71 W74)) [.int .i64 0] W70) fun W113=>joinK [] (fun k114=>loopL [Ki] (fun i116 W117 g115=>ld W117 .sl b3 1 fun a118=>ifK (decide (i116<(a118.len:Int))) (ld W117 .sl b3 1 fun a119=>ix a119 5 i116 fun b120 o121=>st W117 b120 o121 [.int .i64 (-1),.sl (⟨none,0,0⟩),.lit false,.int .i64 0,.sl (⟨none,0,0⟩)] fun W122=>g115 (w64 (i116+1)) W122) (k114 W117)) [.int .i64 0] W113) fun W123=>ld W123 .sl b3 1 fun a124=>joinK [.sl] (fun k125=>loopL [.sl,Ki] (fun l127 k128 W129 g126=>ifK (decide (k128<64)) (al W129 94 [.int .i64 (-2),.sl (⟨none,0,0⟩),.lit false,.int .i64 0,.sl (⟨none,0,0⟩)] fun b130 W131=>ap W131 94 5 72 [.int .i64 0,.sl (⟨none,0,0⟩),.lit false,.int .i64 0,.sl (⟨none,0,0⟩)] l127 (⟨some (b130,0),1,1⟩) fun a132 W133=>g126 a132 (w64 (k128+1)) W133) (k125 l127 W129)) [.sl a124,.int .i64 0] W123) fun l134 W135=>K (w64 (n69+(l134.len:Int))) W135):callK Pg 16 [.agg [.int .i64 f_0_1,.sl f_1_2]] w Oi K:=Fq (n:=(n0 .nil (n0 .nil (n0 (n0 .nil (.mk (some []) [] [1,3] .done (.mk none [.tmp 4 Li] [1,3] .done (n0 .nil (n0 (n0 (n0 .nil (n0 (n0 .nil (.mk (some []) [] [1,3,4] .done (.mk none [.tmp 6 Li] [1,3,4,5] .done .nil .nil) .nil)) (n0 .nil (n0 .nil (.mk (some []) [] [1,3,4] .done (.mk none [.tmp 8 Li] [1,3,4,7] .done .nil .nil) .nil))))) .nil) .nil)) .nil) .nil)) (n0 (n0 .nil (.mk (some [.tmp 3 Li]) [] [1] .done (.mk none [.tmp 3 Li,.tmp 9 Li] [1] .done (n0 (n0 (.mk (some [.tmp 71 Lb]) [] [1,3,9] .done .nil .nil) .nil) (n0 (n0 (n0 .nil (n0 .nil (n0 (n0 .nil (.mk (some [.tmp 10 Ls,.tmp 11 Ls]) [] [1,3,9] .done (.mk none [.tmp 10 Ls,.tmp 11 Ls,.tmp 12 Li] [1,3,9] .done .nil .nil) .nil)) .nil))) .nil) .nil)) .nil) .nil)) (n0 (n0 .nil (.mk (some []) [] [1,3] .done (.mk none [.tmp 13 Li] [1,3] .done (n0 .nil (n0 (n0 (n0 (n0 .nil (.mk (some []) [] [1,3,13] .done (.mk none [.tmp 14 Li] [1,3,13] .done .nil .nil) .nil)) (n0 .nil (.mk (some []) [] [1,3,13] .done (.mk none [.tmp 15 Li] [1,3,13] .done .nil .nil) .nil))) .nil) .nil)) .nil) .nil)) (n0 (n0 .nil (.mk (some []) [] [1,3] .done (.mk none [.tmp 16 Li] [1,3] .done .nil .nil) .nil)) (n0 .nil (n0 (n0 .nil (.mk (some [.tmp 17 Ls]) [] [3] .done (.mk none [.tmp 17 Ls,.tmp 18 Li] [3] .done .nil .nil) .nil)) .nil))))))))) CS_ok mixed Tryz.func16 (Eq.mpr (by kernel_rfl) h)
theorem go_162(K:PA→PA→Wp)(w:World)(h:al w 27 [.ptr none,.ptr none] fun b1 W2=>callK Pg 20 [] W2 Oq fun p3 W4=>callK Pg 21 [] W4 Oq fun p5 W6=>st W6 b1 0 [.ptr p3,.ptr p5] fun W7=>ld W7 .ptr b1 0 fun p8=>ld W7 .ptr b1 1 fun p9=>K p8 p9 W7):callK Pg 4 [] w (.one (.agg [.ptr,.ptr])) K:=Fq (n:=.nil) CS_ok mixed Tryz.func4 (Eq.mpr (by kernel_rfl) h)
theorem go_168(a1:PA)(b2:PA)(q_0_3:Int)(q_1_4:Int)(q_2_5:List UInt8)(q_3_6:Int)(K:Bool→Wp)(w:World)(h:al w 47 [.int .i64 q_0_3,.int .i64 q_1_4,.str q_2_5,.int .i64 q_3_6] fun b7 W8=>ld W8 Ki b7 1 fun n9=>callK Pg 41 [Ap a1,Ai n9] W8 (.tup [Li,Li]) fun n10 n11 W12=>ld W12 Ki b7 1 fun n13=>callK Pg 42 [Ap b2,Ai n13] W12 (.tup [Li,Li]) fun n14 n15 W16=>ld W16 Ki b7 1 fun n17=>ld W16 .str b7 2 fun s18=>callK Pg 43 [Ap a1,Ai n17,Au s18] W16 (.tup [Lb,Li]) fun c19 n20 W21=>ld W21 Ki b7 1 fun n22=>ld W21 .str b7 2 fun s23=>callK Pg 44 [Ap b2,Ai n22,Au s23] W21 (.tup [Lb,Li]) fun c24 n25 W26=>joinK [.bool] (fun k27=>ifK (n10 != n14) (k27 true W26) (ifK (n11 != n15) (k27 true W26) (opF Pg (vS (do eqGuard .neq 4 (.tmp 75) (.tmp 76) (LV.toV (.bool c19)) (LV.toV (.bool c24));binOp .neq 4 (LV.toV (.bool c19)) (LV.toV (.bool c24)))) W26 Ob fun c29 W28=>ifK c29 (k27 true W28) (k27 (n20 != n25) W28)))) fun t8330 W31=>ifK t8330 (K false W31) (ld W31 Ki b7 1 fun n32=>callK Pg 45 [Ap a1,Ai n32] W31 (.tup [Lp,Li]) fun p33 n34 W35=>ld W35 Ki b7 1 fun n36=>callK Pg 46 [Ap b2,Ai n36] W35 (.tup [Lp,Li]) fun p37 n38 W39=>ld W39 Ki b7 0 fun n40=>joinK [Ki,Ki,.ptr,.ptr] (fun k41=>ifK (n40 != 0) (ld W39 Ki b7 1 fun n42=>ld W39 .str b7 2 fun s43=>callK Pg 47 [Ap a1,Ai n42,Au s43] W39 (.tup [Lp,Li]) fun p44 n45 W46=>ld W46 Ki b7 1 fun n47=>ld W46 .str b7 2 fun s48=>callK Pg 48 [Ap b2,Ai n47,Au s48] W46 (.tup [Lp,Li]) fun p49 n50 W51=>k41 n45 n50 p44 p49 W51) (k41 n34 n38 p33 p37 W39)) fun e52 f53 c54 d55 W56=>joinK [.bool] (fun k57=>ifK (e52 != f53) (k57 true W56) (opF Pg (vS (do eqGuard .neq 4 (.tmp 124) (.tmp 126) (LV.toV (.bool c54.isNone)) (LV.toV (.bool d55.isNone));binOp .neq 4 (LV.toV (.bool c54.isNone)) (LV.toV (.bool d55.isNone)))) W56 Ob fun c59 W58=>k57 c59 W58)) fun t12860 W61=>ifK t12860 (K false W61) (ld W61 Ki b7 1 fun n62=>callK Pg 45 [Ap a1,Ai n62] W61 (.tup [Lp,Li]) fun p63 n64 W65=>ld W65 Ki b7 1 fun n66=>callK Pg 46 [Ap b2,Ai n66] W65 (.tup [Lp,Li]) fun p67 n68 W69=>joinK [] (fun k70=>loopL [Ki] (fun t72 W73 g71=>ld W73 Ki b7 3 fun n74=>ifK (decide (t72<w64 (n74+2))) (callK Pg 49 [Ap c54] W73 (.tup [.agg [.str,.str],Lb,Li]) fun s75 s76 c77 n78 W79=>al W79 122 [.str [],.str []] fun b80 W81=>st W81 b80 0 [.str s75,.str s76] fun W82=>callK Pg 50 [Ap d55] W82 (.tup [.agg [.str,.str],Lb,Li]) fun s83 s84 c85 n86 W87=>al W87 122 [.str [],.str []] fun b88 W89=>st W89 b88 0 [.str s83,.str s84] fun W90=>callK Pg 49 [Ap p63] W90 (.tup [.agg [.str,.str],Lb,Li]) fun s91 s92 c93 n94 W95=>al W95 122 [.str [],.str []] fun b96 W97=>st W97 b96 0 [.str s91,.str s92] fun W98=>callK Pg 50 [Ap p67] W98 (.tup [.agg [.str,.str],Lb,Li]) fun s99 s100 c101 n102 W103=>al W103 122 [.str [],.str []] fun b104 W105=>st W105 b104 0 [.str s99,.str s100] fun W106=>joinK [.bool] (fun k107=>ld W106 .str b80 0 fun s108=>ld W106 .str b80 1 fun s109=>ld W106 .str b88 0 fun s110=>ld W106 .str b88 1 fun s111=>opF Pg (vS (do eqGuard .neq 122 (.tmp 174) (.tmp 175) (.agg #[(LV.toV (.str s108)),(LV.toV (.str s109))]) (.agg #[(LV.toV (.str s110)),(LV.toV (.str s111))]);binOp .neq 122 (.agg #[(LV.toV (.str s108)),(LV.toV (.str s109))]) (.agg #[(LV.toV (.str s110)),(LV.toV (.str s111))]))) W106 Ob fun c113 W112=>ifK c113 (k107 true W112) (opF Pg (vS (do eqGuard .neq 4 (.tmp 178) (.tmp 179) (LV.toV (.bool c77)) (LV.toV (.bool c85));binOp .neq 4 (LV.toV (.bool c77)) (LV.toV (.bool c85)))) W112 Ob fun c115 W114=>ifK c115 (k107 true W114) (ifK (n78 != n86) (k107 true W114) (ld W114 .str b96 0 fun s116=>ld W114 .str b96 1 fun s117=>ld W114 .str b104 0 fun s118=>ld W114 .str b104 1 fun s119=>opF Pg (vS (do eqGuard .neq 122 (.tmp 188) (.tmp 189) (.agg #[(LV.toV (.str s116)),(LV.toV (.str s117))]) (.agg #[(LV.toV (.str s118)),(LV.toV (.str s119))]);binOp .neq 122 (.agg #[(LV.toV (.str s116)),(LV.toV (.str s117))]) (.agg #[(LV.toV (.str s118)),(LV.toV (.str s119))]))) W114 Ob fun c121 W120=>ifK c121 (k107 true W120) (opF Pg (vS (do eqGuard .neq 4 (.tmp 193) (.tmp 194) (LV.toV (.bool c93)) (LV.toV (.bool c101));binOp .neq 4 (LV.toV (.bool c93)) (LV.toV (.bool c101)))) W120 Ob fun c123 W122=>ifK c123 (k107 true W122) (k107 (n94 != n102) W122)))))) fun t201124 W125=>ifK t201124 (K false W125) (joinK [Ki] (fun k126=>ifK (!c77) (ld W125 Ki b7 3 fun n127=>k126 (mxI t72 n127) W125) (k126 t72 W125)) fun t128 W129=>g71 (w64 (t128+1)) W129)) (k70 W73)) [.int .i64 0] W69) fun W130=>K true W130))):callK Pg 19 [Ap a1,Ap b2,.agg [.int .i64 q_0_3,.int .i64 q_1_4,.str q_2_5,.int .i64 q_3_6]] w Ob K:=Fq (n:=(n0 .nil (n0 .nil (n0 .nil (n0 .nil (n0 .nil (n0 (n0 (.mk (some [.tmp 83 Lb]) [] [0,1,5] .done .nil .nil) .nil) (n0 .nil (n0 .nil (n0 (n0 .nil (.mk (some [.tmp 8 Li,.tmp 10 Li,.tmp 15 Lp,.tmp 16 Lp]) [] [0,1,5] .done .nil .nil)) (n0 (n0 (.mk (some [.tmp 128 Lb]) [] [0,1,5,15,16] .done .nil .nil) .nil) (n0 .nil (n0 .nil (n0 (n0 .nil (.mk (some []) [] [] .done (.mk none [.tmp 21 Li] [5,15,16,17,19] .done (n0 .nil (n0 (n0 (n0 .nil (n0 .nil (n0 .nil (n0 .nil (n0 (n0 (.mk (some [.tmp 201 Lb]) [] [5,15,16,17,19,21,23] .done .nil .nil) .nil) (n0 .nil (.mk (some [.tmp 21 Li]) [] [5,15,16,17,19] .done .nil .nil))))))) .nil) .nil)) .nil) .nil)) .nil)))))))))))))) CS_ok mixed Tryz.func19 (Eq.mpr (by kernel_rfl) h)
theorem go_161(b1:Sl)(claim2:Int)(out3:Bool)(qs4:Sl)(K:Bool→Wp)(w:World)(h:callK Pg 4 [] w (.one (.agg [.ptr,.ptr])) fun p5 p6 W7=>al W7 27 [.ptr none,.ptr none] fun b8 W9=>st W9 b8 0 [.ptr p5,.ptr p6] fun W10=>ld W10 .ptr b8 0 fun p11=>callK Pg 5 [Ap p11,Au ([120])] W10 Oi fun n12 W13=>ld W13 .ptr b8 1 fun p14=>callK Pg 6 [Ap p14,Au ([120])] W13 Oi fun n15 W16=>ld W16 .ptr b8 0 fun p17=>callK Pg 7 [Ap p17,Au ([120]),Az b1] W16 Oi fun n18 W19=>ld W19 .ptr b8 1 fun p20=>callK Pg 8 [Ap p20,Au ([120]),Az b1] W19 Oi fun n21 W22=>joinK [] (fun k23=>ifK out3 (ld W22 .ptr b8 0 fun p24=>callK Pg 9 [Ap p24,Au ([120])] W22 Oi fun n25 W26=>ld W26 .ptr b8 1 fun p27=>callK Pg 10 [Ap p27,Au ([120])] W26 Oi fun n28 W29=>k23 W29) (k23 W22)) fun W30=>ld W30 .ptr b8 0 fun p31=>callK Pg 11 [Ap p31,Au ([120]),Ai claim2] W30 (.tup [Lp,Li]) fun p32 n33 W34=>ld W34 .ptr b8 1 fun p35=>callK Pg 12 [Ap p35,Au ([120]),Ai claim2] W34 (.tup [Lp,Li]) fun p36 n37 W38=>callK Pg 11 [Ap none,Au ([120]),Ai claim2] W38 (.tup [Lp,Li]) fun p39 n40 W41=>joinK [.bool] (fun k42=>ifK (n33 != n37) (k42 true W41) (opF Pg (vS (do eqGuard .neq 4 (.tmp 66) (.tmp 68) (LV.toV (.bool p32.isNone)) (LV.toV (.bool p36.isNone));binOp .neq 4 (LV.toV (.bool p32.isNone)) (LV.toV (.bool p36.isNone)))) W41 Ob fun c44 W43=>ifK c44 (k42 true W43) (ifK (!p39.isNone) (k42 true W43) (k42 (n40 != 1) W43)))) fun t7845 W46=>ifK t7845 (K false W46) (callK Pg 13 [Ap p32] W46 (.one (.agg [Ki,.sl])) fun n47 a48 W49=>al W49 40 [.int .i64 0,.sl (⟨none,0,0⟩)] fun b50 W51=>st W51 b50 0 [.int .i64 n47,.sl a48] fun W52=>callK Pg 13 [Ap p32] W52 (.one (.agg [Ki,.sl])) fun n53 a54 W55=>al W55 40 [.int .i64 0,.sl (⟨none,0,0⟩)] fun b56 W57=>st W57 b56 0 [.int .i64 n53,.sl a54] fun W58=>joinK [.bool] (fun k59=>drawK W58 fun D W60=>ldD D W60 Ki b50 0 fun n61=>ldD D W60 .sl b50 1 fun a62=>callK Pg 15 [Ap p36] W60 (.one (.agg [Ki,.sl])) fun n63 a64 W65=>Mod D W60 W65∧callK Pg 14 [.agg [.int .i64 n61,.sl a62],.agg [.int .i64 n63,.sl a64]] W65 Ob fun c66 W67=>Mod D W60 W67∧ifK (!c66) (k59 true W67) (ldD D W60 Ki b56 0 fun n68=>ldD D W60 .sl b56 1 fun a69=>callK Pg 15 [Ap p36] W67 (.one (.agg [Ki,.sl])) fun n70 a71 W72=>Mod D W60 W72∧callK Pg 14 [.agg [.int .i64 n68,.sl a69],.agg [.int .i64 n70,.sl a71]] W72 Ob fun c73 W74=>Mod D W60 W74∧k59 (!c73) W74)) fun t9475 W76=>ifK t9475 (K false W76) (ld W76 Ki b50 0 fun n77=>ld W76 .sl b50 1 fun a78=>callK Pg 16 [.agg [.int .i64 n77,.sl a78]] W76 Oi fun n79 W80=>joinK [.bool] (fun k81=>drawK W80 fun D W82=>ifK (decide (n79<0)) (k81 true W82) (ldD D W82 Ki b56 0 fun n83=>ldD D W82 .sl b56 1 fun a84=>callK Pg 15 [Ap p36] W82 (.one (.agg [Ki,.sl])) fun n85 a86 W87=>Mod D W82 W87∧callK Pg 14 [.agg [.int .i64 n83,.sl a84],.agg [.int .i64 n85,.sl a86]] W87 Ob fun c88 W89=>Mod D W82 W89∧k81 (!c88) W89)) fun t10590 W91=>ifK t10590 (K false W91) (joinK [.bool] (fun k92=>callK Pg 17 [Ap p32] W91 Oi fun n93 W94=>callK Pg 18 [Ap p36] W94 Oi fun n95 W96=>ifK (n93 != n95) (k92 true W96) (callK Pg 13 [Ap p32] W96 (.one (.agg [Ki,.sl])) fun n97 a98 W99=>callK Pg 15 [Ap p36] W99 (.one (.agg [Ki,.sl])) fun n100 a101 W102=>callK Pg 14 [.agg [.int .i64 n97,.sl a98],.agg [.int .i64 n100,.sl a101]] W102 Ob fun c103 W104=>k92 (!c103) W104)) fun t118105 W106=>ifK t118105 (K false W106) (joinK [] (fun k107=>loopL [Ki] (fun i109 W110 g108=>ifK (decide (i109<(qs4.len:Int))) (ix qs4 4 i109 fun b111 o112=>ld W110 Ki b111 o112 fun n113=>ld W110 Ki b111 (o112+1) fun n114=>ld W110 .str b111 (o112+2) fun s115=>ld W110 Ki b111 (o112+3) fun n116=>callK Pg 19 [Ap p32,Ap p36,.agg [.int .i64 n113,.int .i64 n114,.str s115,.int .i64 n116]] W110 Ob fun c117 W118=>ifK (!c117) (K false W118) (g108 (w64 (i109+1)) W118)) (k107 W110)) [.int .i64 0] W106) fun W119=>K true W119))))):callK Pg 3 [Az b1,Ai claim2,Ab out3,Az qs4] w Ob K:=Fq (n:=(n0 .nil (n0 .nil (n0 .nil (n0 .nil (n0 .nil (n0 .nil (n0 (n0 .nil (.mk (some []) [] [1,3,9] .done .nil .nil)) (n0 .nil (n0 .nil (n0 .nil (n0 (n0 (.mk (some [.tmp 78 Lb]) [] [3,10,12] .done .nil .nil) .nil) (n0 .nil (n0 .nil (n0 (n0 (.mk (some [.tmp 94 Lb]) [] [3,10,12,16,17] (.take 0 (.take 1 (.eff 2 (.eff 3 (.take 4 (.take 5 (.split 5 (tk [6,7,8,9,10,11] .done) (.take 6 (.take 7 (.eff 8 (.eff 9 (.take 10 (.take 11 .done))))))))))))) .nil .nil) .nil) (n0 .nil (n0 (n0 (.mk (some [.tmp 105 Lb]) [] [3,10,12] (tk [0,1,2] (.split 2 (.take 3 (.take 4 (.take 5 (.take 6 (.take 7 (.take 8 .done)))))) (.take 3 (.take 4 (.eff 5 (.eff 6 (.take 7 (.take 8 .done)))))))) .nil .nil) .nil) (n0 (n0 (.mk (some [.tmp 118 Lb]) [] [3,10,12] .done .nil .nil) .nil) (n0 (n0 .nil (.mk (some []) [] [] .done (.mk none [.tmp 19 Li] [3,10,12] .done .nil .nil) .nil)) .nil))))))))))))))))))) CS_ok mixed Tryz.func3 (Eq.mpr (by kernel_rfl) h)
end Go.Proofs.YtkofkhjcfjoceaaGreat
namespace Go.Proofs.YtkofkhjcfjoceaaGreat
open Go.Vw
open Go
theorem run_eqGuard_bool{P:Program}(op:BinOp)(t:TypeId)(x y:Operand)(a b:Bool)(w:World):(eqGuard op t x y (.bool a) (.bool b)).run P w = .ok () w:=by
 unfold eqGuard;cases op<;>rfl
theorem bneK{P:Program}{t:TypeId}{o1 o2:Operand}{a b:Bool}{w:World}{K:Bool→Wp}(hu:P.underlying t=some .bool)(hK:K (!(a==b)) w) :
  opF P (vS (do eqGuard .neq t o1 o2 (LV.toV (.bool a)) (LV.toV (.bool b));binOp .neq t (LV.toV (.bool a)) (LV.toV (.bool b)))) w Ob K:=by
 refine⟨[.bool (!(a==b))],w,?_,hK⟩;simp only [vS,Sem.run_bind,LV.toV,run_eqGuard_bool,Result.andThen,run_neq_bool w t a b hu];rfl
theorem bneS{P:Program}{t:TypeId}{o1 o2:Operand}{a:Bool}{w:World}{K:Bool→Wp}(hu:P.underlying t=some .bool)(hK:K false w) :
  opF P (vS (do eqGuard .neq t o1 o2 (LV.toV (.bool a)) (LV.toV (.bool a));binOp .neq t (LV.toV (.bool a)) (LV.toV (.bool a)))) w Ob K:=
 bneK hu (by rw [beq_self_eq_true];exact hK)
theorem eqLVs_self_bi(x:BI):eqLVs [.int .i64 x.stored,.int .i64 x.raw,.int .i64 x.count,.str x.cut] [.int .i64 x.stored,.int .i64 x.raw,.int .i64 x.count,.str x.cut]=true:=by
 simp [eqLVs,eqLV]
theorem eqLVs_self_kv(x y:Str):eqLVs [.str x,.str y] [.str x,.str y]=true:=by simp [eqLVs,eqLV]
theorem sameBytes_ok{w:World}{s1 s2:Sl}{t:Str}(h1:RdS w ET s1 t)(h2:RdS w ET s2 t)(hl:t.length≤1099511627776){K:Bool→Wp}(hK:∀w',Mod F0 w w'→K true w') :
  callK Pg c_170 [Az s1,Az s2] w Ob K:=by
 refine go_170 _ _ _ _ ?_;rw [h1.len,h2.len];refine ifK_f (Bsf _) ?_;refine join0 (fun u=>Mod F0 w u) ?_ (fun u hM=>hK u hM);intro k hk;refine loop1 (k:=Ki) (fun (i:Int) u=>Mod F0 w u∧∃j:Nat,i=j∧j≤t.length) (fun i _=>(t.length-i).toNat) (x:=0) rfl ⟨Mod.refl _ _,0,rfl,Nzl _⟩ ?_;rintro i u ⟨hM,j,rfl,hj⟩;refine Iq (fun h=>?_) fun h=>hk u hM;have hlt:j<t.length:=dlt h;have hd:=mod0 hM (Mq u);refine⟨F0,(h1.quiet hd).byte rfl hlt fun b1 o1 _ hc1=>Lw (k:=.int .u8) ((t[j]).toNat:Int) id hc1 ((h2.quiet hd).byte rfl hlt fun b2 o2 _ hc2=>Lw (k:=.int .u8) ((t[j]).toNat:Int) id hc2 (ifK_f (Bsf _) ?_))⟩;exact⟨⟨hd,j+1,step64 (by omega),by omega⟩,by rw [step64 (by omega)];omega⟩
theorem sameBlocks_ok{w:World}{s1 s2:Sl}{l:List BI}(h1:RdS w EBI s1 l)(h2:RdS w EBI s2 l)(hl:l.length≤1099511627776){K:Bool→Wp}(hK:∀w',Mod F0 w w'→K true w') :
  callK Pg c_169 [Az s1,Az s2] w Ob K:=by
 refine go_169 _ _ _ _ ?_;rw [h1.len,h2.len];refine ifK_f (Bsf _) ?_;refine join0 (fun u=>Mod F0 w u) ?_ (fun u hM=>hK u hM);intro k hk;refine loop1 (k:=Ki) (fun (i:Int) u=>Mod F0 w u∧∃j:Nat,i=j∧j≤l.length) (fun i _=>(l.length-i).toNat) (x:=0) rfl ⟨Mod.refl _ _,0,rfl,Nzl _⟩ ?_;rintro i u ⟨hM,j,rfl,hj⟩;refine Iq (fun h=>?_) fun h=>hk u hM;have hlt:j<l.length:=dlt h;have hd:=mod0 hM (Mq u);obtain⟨x,hx⟩:=Gq hlt;refine⟨F0,(h1.quiet hd).ix rfl rfl hx fun b o _ hc=>Lw (k:=Ki) x.stored id (hc 0 (by decide)) (Lw (k:=Ki) x.raw id (hc 1 (by decide)) (Lw (k:=Ki) x.count id (hc 2 (by decide)) (Lw (k:=.str) x.cut id (hc 3 (by decide)) ?_)))⟩;refine (h2.quiet hd).ix rfl rfl hx fun b2 o2 _ hc2=>Lw (k:=Ki) x.stored id (hc2 0 (by decide)) (Lw (k:=Ki) x.raw id (hc2 1 (by decide)) (Lw (k:=Ki) x.count id (hc2 2 (by decide)) (Lw (k:=.str) x.cut id (hc2 3 (by decide)) ?_)));refine neqK (d:=3) (ks:=[Ki,Ki,Ki,.str]) (xs:=[.int .i64 x.stored,.int .i64 x.raw,.int .i64 x.count,.str x.cut]) (ys:=[.int .i64 x.stored,.int .i64 x.raw,.int .i64 x.count,.str x.cut]) (by kernel_rfl) (by decide) (by kernel_rfl) (by kernel_rfl) rfl rfl rfl rfl ?_;rw [eqLVs_self_bi];refine⟨Mod.refl _ _,ifK_f rfl ?_⟩;exact⟨⟨hd,j+1,step64 (by omega),by omega⟩,by rw [step64 (by omega)];omega⟩
theorem InfoR.keepF{w w':World}{p:PI}{x:PartI}(h:InfoR w p x)(hM:Mod F0 w w'):InfoR w' p x:=h.keep hM fun _ _=>id
set_option maxHeartbeats 1000000 in
theorem sameFoot_ok{w:World}{S1 S2:Nat→Prop}{P:Int}{s1 s2:Sl}{ps1 ps2:List PI}{l:List PartI}(h1:FootR w S1 s1 ps1 l)(h2:FootR w S2 s2 ps2 l){K:Bool→Wp}(hK:∀w',Mod F0 w w'→K true w') :
  callK Pg c_164 [.agg [.int .i64 P,.sl s1],.agg [.int .i64 P,.sl s2]] w Ob K:=by
 refine go_164 _ _ _ _ _ _ ?_;have e1:=h1.len;have e2:=h2.len;have hll:=h1.ll;refine (Fresh.start w F0).alK fun b5 w1 f1 _ M1=>f1.alK fun b7 w2 f2 _ M2=>?_;have hB5:Blk w2 b5 (pairC P s1):=f2.blk (i:=0) rfl;have hB7:Blk w2 b7 (pairC P s2):=f2.blk (i:=1) rfl;have hM:=f2.mod;refine join1 (a:=.bool) (fun q u=>q=false∧u=w2) ?_ ?_
 ·intro k hk;refine hB5.ldK (k:=Ki) P rfl (hB7.ldK (k:=Ki) P rfl (ifK_f (Bsf _) ?_));refine hB5.ldK (k:=.sl) s1 rfl (hB7.ldK (k:=.sl) s2 rfl (hk _ _ ⟨?_,rfl⟩));rw [h1.rd.len,h2.rd.len,e1,e2];exact Bsf _
 rintro q u ⟨rfl,rfl⟩;refine ifK_f rfl ?_;refine join0 (fun u'=>Mod F0 w u') ?_ (fun u' hM=>hK u' hM);intro k hk;refine loop1 (k:=Ki) (fun (i:Int) v=>Mod F0 u v∧∃j:Nat,i=j∧j≤l.length) (fun i _=>(l.length-i).toNat) (x:=0) rfl ⟨Mod.refl _ _,0,rfl,Nzl _⟩ ?_;rintro i v ⟨hMv,j,rfl,hj⟩;have hMw:=mod0 hM hMv;have hv5:=hMv.blk hB5 id;have hv7:=hMv.blk hB7 id;refine hv5.ldK (k:=.sl) s1 rfl ?_;rw [h1.rd.len,e1];refine Iq (fun h=>?_) fun h=>hk v hMw;have hlt:j<l.length:=dlt h;obtain⟨x,hx⟩:=Gq hlt;obtain⟨p,hp⟩:=Gq (l:=ps1) (i:=j) (by omega);obtain⟨p2,hp2⟩:=Gq (l:=ps2) (i:=j) (by omega);have i1:=(h1.each j p x hp hx).keepF hMw;have i2:=(h2.each j p2 x hp2 hx).keepF hMw;refine hv5.ldK (k:=.sl) s1 rfl ((h1.rd.quiet hMw).ix rfl rfl hp fun b o _ hc=>Lq (k:=Ki) p.part (hc 0 (by decide)) (Lq (k:=.sl) p.sb (hc 1 (by decide)) (Lq (k:=.bool) p.all (hc 2 (by decide)) (Lq (k:=Ki) p.hashes (hc 3 (by decide)) (Lq (k:=.sl) p.sd (hc 4 (by decide)) ?_)))));refine (Fresh.start v F0).alK fun b29 v1 g1 _ _=>g1.stK 0 rfl (Nlr 5) fun v2 g2 _=>?_;have hMw2:=mod0 hMw g2.mod;have hw7:=g2.mod.blk hv7 id;refine hw7.ldK (k:=.sl) s2 rfl ((h2.rd.quiet hMw2).ix rfl rfl hp2 fun b o _ hc=>Lq (k:=Ki) p2.part (hc 0 (by decide)) (Lq (k:=.sl) p2.sb (hc 1 (by decide)) (Lq (k:=.bool) p2.all (hc 2 (by decide)) (Lq (k:=Ki) p2.hashes (hc 3 (by decide)) (Lq (k:=.sl) p2.sd (hc 4 (by decide)) ?_)))));refine g2.alK fun b40 v3 g3 _ _=>g3.stK 1 rfl (Nlr 5) fun v4 g4 _=>?_;have hMw4:Mod F0 v v4:=g4.mod;have hA:Blk v4 b29 (EPI.f p):=g4.blk (i:=0) rfl;have hB:Blk v4 b40 (EPI.f p2):=g4.blk (i:=1) rfl;have ep:p.part=p2.part:=i1.part.trans i2.part.symm;have ea:p.all=p2.all:=i1.all.trans i2.all.symm;have eh:p.hashes=p2.hashes:=i1.hs.trans i2.hs.symm;refine join1 (a:=.bool) (fun q z=>q=false∧Mod F0 v z) ?_ ?_
 ·intro k2 hk2;refine hA.ldK (k:=Ki) p.part rfl (hB.ldK (k:=Ki) p2.part rfl ?_);rw [ep];refine ifK_f (Bsf _) ?_;refine hA.ldK (k:=.sl) p.sb rfl (hB.ldK (k:=.sl) p2.sb rfl ?_);refine sameBlocks_ok (i1.bl.quiet hMw4) (i2.bl.quiet hMw4) i1.lb fun v5 M5=>ifK_f rfl ?_;have hA5:=M5.blk hA id;have hB5':=M5.blk hB id;refine hA5.ldK (k:=.bool) p.all rfl (hB5'.ldK (k:=.bool) p2.all rfl ?_);rw [ea];refine bneS Tryz.underlying4 (ifK_f rfl ?_);refine hA5.ldK (k:=Ki) p.hashes rfl (hB5'.ldK (k:=Ki) p2.hashes rfl ?_);rw [eh];refine ifK_f (Bsf _) ?_;refine hA5.ldK (k:=.sl) p.sd rfl (hB5'.ldK (k:=.sl) p2.sd rfl ?_);exact sameBytes_ok (i1.dt.quiet (mod0 hMw4 M5)) (i2.dt.quiet (mod0 hMw4 M5)) i1.ld fun v6 M6=>hk2 _ _ ⟨rfl,mod0 (mod0 hMw4 M5) M6⟩
 rintro q z ⟨rfl,hz⟩;refine ifK_f rfl ?_;exact⟨⟨mod0 hMv hz,j+1,step64 (by omega),by omega⟩,by rw [step64 (by omega)];omega⟩
section
variable {w:World}{part:Int}{key:Str}
theorem refusal_nil{K:Int→Wp}(hK:K 1 w):callK Pg c_98 [Ap none,Ai part] w Oi K:=go_98 _ _ _ _ (ifK_t rfl hK)
theorem count_nil{K:Int→Int→Wp}(hK:K 0 1 w):callK Pg c_99 [Ap none,Ai part] w (.tup [Li,Li]) K:=by
 refine go_99 _ _ _ _ ?_;exact refusal_nil (ifK_t rfl hK)
theorem has_nil{K:Bool→Int→Wp}(hK:K false 1 w):callK Pg c_109 [Ap none,Ai part,Au key] w (.tup [Lb,Li]) K:=by
 refine go_109 _ _ _ _ _ ?_;exact refusal_nil (ifK_t rfl hK)
theorem scan_nil{K:PA→Int→Wp}(hK:K none 1 w):callK Pg c_101 [Ap none,Ai part] w (.tup [Lp,Li]) K:=by
 refine go_101 _ _ _ _ ?_;exact refusal_nil (ifK_t rfl hK)
theorem seek_nil{K:PA→Int→Wp}(hK:K none 1 w):callK Pg c_102 [Ap none,Ai part,Au key] w (.tup [Lp,Li]) K:=by
 refine go_102 _ _ _ _ _ ?_;exact refusal_nil (ifK_t rfl hK)
theorem parts_nil{K:Int→Wp}(hK:K 0 w):callK Pg c_97 [Ap none] w Oi K:=go_97 _ _ _ (ifK_t rfl hK)
theorem info_nil{K:Int→Int→Wp}(hK:K (-1) 1 w):callK Pg c_176 [Ap none,Ai part] w (.tup [Li,Li]) K:=go_176 _ _ _ _ (ifK_t rfl hK)
theorem rCount_nil{K:Int→Int→Wp}(hK:K 0 1 w):callK Pg c_171 [Ap none,Ai part] w (.tup [Li,Li]) K:=by
 refine go_171 _ _ _ _ ?_;refine info_nil (join1 (a:=.bool) (fun q u=>q=true∧u=w) (fun k hk=>ifK_t rfl (hk _ _ ⟨rfl,rfl⟩)) ?_);rintro q u ⟨rfl,rfl⟩;exact ifK_t rfl hK
theorem rHas9_nil{K:Bool→Int→Wp}(hK:K false 1 w):callK Pg c_172 [Ap none,Ai part,Au key] w (.tup [Lb,Li]) K:=by
 refine go_172 _ _ _ _ _ ?_;refine info_nil (join1 (a:=.bool) (fun q u=>q=true∧u=w) (fun k hk=>ifK_t rfl (hk _ _ ⟨rfl,rfl⟩)) ?_);rintro q u ⟨rfl,rfl⟩;exact ifK_t rfl hK
theorem rScan_nil{K:PA→Int→Wp}(hK:K none 1 w):callK Pg c_173 [Ap none,Ai part] w (.tup [Lp,Li]) K:=by
 refine go_173 _ _ _ _ ?_;exact info_nil (ifK_t rfl hK)
theorem rSeek_nil{K:PA→Int→Wp}(hK:K none 1 w):callK Pg c_174 [Ap none,Ai part,Au key] w (.tup [Lp,Li]) K:=by
 refine go_174 _ _ _ _ _ ?_;exact info_nil (ifK_t rfl hK)
end
def askTail(b7 b80 b88 b96 b104:Nat)(c77 c85 c93 c101:Bool)(n78 n86 n94 n102 t72:Int)(K:Bool→Wp)(g71:Int→Wp)(W106:World):Prop:=
      joinK [.bool] (fun k107=>
       Go.Vw.ld W106 .str b80 0 fun s108=>
       Go.Vw.ld W106 .str b80 1 fun s109=>
       Go.Vw.ld W106 .str b88 0 fun s110=>
       Go.Vw.ld W106 .str b88 1 fun s111=>
       opF Pg (vS (do eqGuard .neq 122 (.tmp 174) (.tmp 175) (.agg #[(LV.toV (.str s108)),(LV.toV (.str s109))]) (.agg #[(LV.toV (.str s110)),(LV.toV (.str s111))]);binOp .neq 122 (.agg #[(LV.toV (.str s108)),(LV.toV (.str s109))]) (.agg #[(LV.toV (.str s110)),(LV.toV (.str s111))]))) W106 Ob fun c113 W112=>
       ifK c113
       (k107 true W112)
       (opF Pg (vS (do eqGuard .neq 4 (.tmp 178) (.tmp 179) (LV.toV (.bool c77)) (LV.toV (.bool c85));binOp .neq 4 (LV.toV (.bool c77)) (LV.toV (.bool c85)))) W112 Ob fun c115 W114=>
        ifK c115
        (k107 true W114)
        (ifK (n78 != n86)
         (k107 true W114)
         (Go.Vw.ld W114 .str b96 0 fun s116=>
          Go.Vw.ld W114 .str b96 1 fun s117=>
          Go.Vw.ld W114 .str b104 0 fun s118=>
          Go.Vw.ld W114 .str b104 1 fun s119=>
          opF Pg (vS (do eqGuard .neq 122 (.tmp 188) (.tmp 189) (.agg #[(LV.toV (.str s116)),(LV.toV (.str s117))]) (.agg #[(LV.toV (.str s118)),(LV.toV (.str s119))]);binOp .neq 122 (.agg #[(LV.toV (.str s116)),(LV.toV (.str s117))]) (.agg #[(LV.toV (.str s118)),(LV.toV (.str s119))]))) W114 Ob fun c121 W120=>
          ifK c121
          (k107 true W120)
          (opF Pg (vS (do eqGuard .neq 4 (.tmp 193) (.tmp 194) (LV.toV (.bool c93)) (LV.toV (.bool c101));binOp .neq 4 (LV.toV (.bool c93)) (LV.toV (.bool c101)))) W120 Ob fun c123 W122=>
           ifK c123
           (k107 true W122)
           (k107 (n94 != n102) W122)))))) fun t201124 W125=>
      ifK t201124
      (K false W125)
      (joinK [Ki] (fun k126=>
        ifK (!c77)
        (Go.Vw.ld W125 Ki b7 3 fun n127=>
         k126 (mxI t72 n127) W125)
        (k126 t72 W125)) fun t128 W129=>
       g71 (w64 (t128+1)) W129)
def qC(kind part:Int)(key:Str)(take:Int):List Value:=[.int .i64 kind,.int .i64 part,(LV.str key).toV,.int .i64 take]
def nextT(some:Bool)(t take:Int):Int:=if some=true then t else mxI t take
theorem kv_same{w:World}{o1 o2:Operand}{x y:Str}{K:Bool→Wp}(hK:K false w) :
  opF Pg (vS (do eqGuard .neq 122 o1 o2 (.agg #[(LV.toV (.str x)),(LV.toV (.str y))]) (.agg #[(LV.toV (.str x)),(LV.toV (.str y))]);binOp .neq 122 (.agg #[(LV.toV (.str x)),(LV.toV (.str y))]) (.agg #[(LV.toV (.str x)),(LV.toV (.str y))]))) w Ob K:=by
 refine neqK (d:=3) (ks:=[.str,.str]) (xs:=[.str x,.str y]) (ys:=[.str x,.str y]) (by kernel_rfl) (by decide) (by kernel_rfl) (by kernel_rfl) rfl rfl rfl rfl ?_;rw [eqLVs_self_kv];exact hK
theorem askTail_ok{w:World}{b7 b80 b88 b96 b104:Nat}{kind part take t:Int}{key x y u v:Str}{c e:Bool}{n m:Int}{K:Bool→Wp}{again:Int→Wp}
  (h7:Blk w b7 (qC kind part key take)) (h80:Blk w b80 (strs x y)) (h88:Blk w b88 (strs x y)) (h96:Blk w b96 (strs u v)) (h104:Blk w b104 (strs u v)) (hK:again (w64 (nextT c t take+1)) w) :
  askTail b7 b80 b88 b96 b104 c c e e n n m m t K again w:=by
 unfold askTail;refine join1 (a:=.bool) (fun q z=>q=false∧z=w) ?_ ?_
 ·intro k hk;refine h80.ldK (k:=.str) x rfl (h80.ldK (k:=.str) y rfl (h88.ldK (k:=.str) x rfl (h88.ldK (k:=.str) y rfl (kv_same (ifK_f rfl (bneS Tryz.underlying4 (ifK_f rfl (ifK_f (Bsf _) ?_))))))));refine h96.ldK (k:=.str) u rfl (h96.ldK (k:=.str) v rfl (h104.ldK (k:=.str) u rfl (h104.ldK (k:=.str) v rfl (kv_same (ifK_f rfl (bneS Tryz.underlying4 (ifK_f rfl ?_)))))));exact hk _ _ ⟨Bsf _,rfl⟩
 rintro q z ⟨rfl,rfl⟩;refine ifK_f rfl ?_;refine join1 (a:=Ki) (fun q u=>q=nextT c t take∧u=z) ?_ ?_
 ·intro k hk;unfold nextT at hk
  cases c with
  | false=>exact ifK_t rfl (h7.ldK (k:=Ki) take rfl (hk _ _ ⟨rfl,rfl⟩))
  | true=>exact ifK_f rfl (hk _ _ ⟨rfl,rfl⟩)
 rintro q u ⟨rfl,rfl⟩;exact hK
theorem nextT_step{c:Bool}{t take:Int}(h0:0≤t)(hr:-9223372036854775808≤take∧take≤9223372036854775807)(hlt:t<w64 (take+2)):w64 (nextT c t take+1)=nextT c t take+1∧t≤nextT c t take∧nextT c t take+1≤w64 (take+2):=by
 have hw:w64 (take+2)=take+2∨w64 (take+2)<0:=by
  by_cases h:take+2≤9223372036854775807
  ·exact .inl (Wq (by omega) (by omega))
  ·right;unfold w64;have:take=9223372036854775806∨take=9223372036854775807:=by omega
   rcases this with rfl | rfl<;>decide
 rcases hw with hw | hw
 ·rw [hw] at hlt ⊢;have hle:take+2≤9223372036854775807:=by
   have:=hw;by_cases h:take+2≤9223372036854775807
   ·exact h
   ·exfalso;have:take=9223372036854775806∨take=9223372036854775807:=by omega
    rcases this with rfl | rfl<;>revert hw<;>decide
  have hn:t≤nextT c t take∧nextT c t take≤take+1:=by
   unfold nextT mxI;split
   ·omega
   ·split<;>omega
  rw [Wq (by omega) (by omega)];omega
 ·omega
set_option maxHeartbeats 1000000 in
theorem asks_nil{w:World}{kind part take:Int}{key:Str}(hr:-9223372036854775808≤take∧take≤9223372036854775807){K:Bool→Wp}(hK:∀w',Mod F0 w w'→K true w') :
  callK Pg c_168 [Ap none,Ap none,.agg [.int .i64 kind,.int .i64 part,.str key,.int .i64 take]] w Ob K:=by
 refine go_168 _ _ _ _ _ _ _ _ ?_;refine (Fresh.start w F0).alK fun b7 w1 f1 _ M1=>?_;have hB:Blk w1 b7 (qC kind part key take):=f1.blk (i:=0) rfl;have l1:∀{K:Int→Prop},K part→Go.Vw.ld w1 Ki b7 1 K:=fun h=>hB.ldK (k:=Ki) part rfl h;have l2:∀{K:Str→Prop},K key→Go.Vw.ld w1 .str b7 2 K:=fun h=>hB.ldK (k:=.str) key rfl h;refine l1 (count_nil (l1 (rCount_nil (l1 (l2 (has_nil (l1 (l2 (rHas9_nil ?_)))))))));refine join1 (a:=.bool) (fun q u=>q=false∧u=w1) (fun k hk=>ifK_f rfl (ifK_f rfl (bneS Tryz.underlying4 (ifK_f rfl (hk _ _ ⟨rfl,rfl⟩))))) ?_;rintro q u ⟨rfl,rfl⟩;refine ifK_f rfl (l1 (scan_nil (l1 (rScan_nil (hB.ldK (k:=Ki) kind rfl ?_)))));show ifK (kind != 0) _ _;refine Iq (fun _=>l1 (l2 (seek_nil (l1 (l2 (rSeek_nil ?_)))))) fun _=>?_
 all_goals
  refine join1 (a:=.bool) (fun q v=>q=false∧v=u) (fun k hk=>ifK_f rfl (bneS Tryz.underlying4 (hk _ _ ⟨rfl,rfl⟩))) ?_;rintro q v ⟨rfl,rfl⟩;refine ifK_f rfl (l1 (scan_nil (l1 (rScan_nil ?_))));refine join0 (fun z=>Mod F0 w z) ?_ (fun z hz=>hK z hz);intro k hk;refine loop1 (k:=Ki) (fun (i:Int) z=>0≤i∧Mod F0 v z) (fun i _=>(w64 (take+2)-i).toNat) (x:=0) rfl ⟨Int.le_refl _,Mod.refl _ _⟩ ?_;rintro i z ⟨hi,hz⟩;have hBz:=hz.blk hB id;refine hBz.ldK (k:=Ki) take rfl (Iq (fun h=>?_) fun h=>hk z (mod0 M1 hz));have h:i<w64 (take+2):=odt h;refine next_nil fun z1 N1=>(Fresh.start z1 F0).alK fun b80 z2 g2 _ _=>g2.stK 0 rfl (Nlr 2) fun z3 g3 _=>?_;refine rNext9_nil fun z4 N4=>(g3.quiet N4).alK fun b88 z5 g5 _ _=>g5.stK 1 rfl (Nlr 2) fun z6 g6 _=>?_;refine next_nil fun z7 N7=>(g6.quiet N7).alK fun b96 z8 g8 _ _=>g8.stK 2 rfl (Nlr 2) fun z9 g9 _=>?_;refine rNext9_nil fun z10 N10=>(g9.quiet N10).alK fun b104 z11 g11 _ _=>g11.stK 3 rfl (Nlr 2) fun z12 g12 _=>?_;have hM:=mod0 hz (mod0 N1 g12.mod);have hst:=nextT_step (c:=false) hi hr h;refine askTail_ok (K:=K) (again:=fun x' w'=>(0≤x'∧Go.Vw.Mod F0 v w')∧(w64 (take+2)-x').toNat<(w64 (take+2)-i).toNat) (t:=i) (n:=1) (m:=1) (c:=false) (e:=false) (hM.blk hB id) (g12.blk (i:=0) rfl) (g12.blk (i:=1) rfl) (g12.blk (i:=2) rfl) (g12.blk (i:=3) rfl) ?_;exact⟨⟨by rw [hst.1];omega,hM⟩,by rw [hst.1];omega⟩
theorem join4{a b c d:Kd}{A:(Den a→Den b→Den c→Den d→Wp)→Prop}{K:Den a→Den b→Den c→Den d→Wp}(R:Den a→Den b→Den c→Den d→Wp)
  (hA:∀k:Den a→Den b→Den c→Den d→Wp,(∀x y z v w,R x y z v w→k x y z v w)→A k) (hK:∀x y z v w,R x y z v w→K x y z v w):joinK [a,b,c,d] A K:=hA K hK
theorem rot4{α:Type}(M Y:List α)(c d e f:α):List.Perm ((M++[e,f,c])++d::Y) ((M++[d,e,f])++c::Y):=by
 simp only [Laa,List.cons_append,List.nil_append];exact List.Perm.append_left M (List.perm_middle (l₁:=[e,f,c]) (l₂:=Y) (a:=d))
theorem CurL.new{info block:Int}{frm:Str}{Y:BL}{p:PA}:CurL Y (newC info block frm) p:=fun h=>by
 unfold newC at h;dsimp only at h;split at h<;>cases h
theorem ReadL.none{Y:BL}:ReadL Y ⟨none,0,0⟩ []:=ReadL.nil.mono fun q hq=>by cases hq
def Four(w0:World)(bs q:Nat)(t:Str)(out:Bool)(M:BL)(l:List PartI)(br br' bc bd be bf:Nat)(Y:BL)(u:World):Prop:=∃cc cd ce cf pc pe sd sf,SS w0 bs q t out ((M++[(bd,curE br' cd sd),(be,curC br ce pe),(bf,curE br' cf sf)])++(bc,curC br cc pc)::Y) u ∧
 (CurL Y cc pc∧Cv l cc)∧(ReadL Y sd cd.lst∧Ce l cd)∧(CurL Y ce pe∧Cv l ce)∧(ReadL Y sf cf.lst∧Ce l cf)∧meanE t out l cd=meanC t out l cc∧meanE t out l cf=meanC t out l ce
section
variable {w0 w:World}{bs q:Nat}{t:Str}{out:Bool}{M:BL}{R R':BL}{br br':Nat}{P:Int}{l:List PartI}
set_option maxHeartbeats 2000000 in
theorem asks_ok(h:SS w0 bs q t out M w)(ht:t.length≤268435456)(hr:RdL bs R br P l)(hRM:∀p∈R,p∈M)(hr':RdD q R' br' P l)(hRM':∀p∈R',p∈M){kind part take:Int}{key:Str}(hk:key.length≤1099511627776)
  (hrng:-9223372036854775808≤take∧take≤9223372036854775807) {K:Bool→Wp} (hK:∀w',SS w0 bs q t out M w'→K true w') :
  callK Pg c_168 [Ap (some (br,0)),Ap (some (br',0)),.agg [.int .i64 kind,.int .i64 part,.str key,.int .i64 take]] w Ob K:=by
 refine go_168 _ _ _ _ _ _ _ _ ?_;refine h.alK fun b7 w1 s1 _=>?_;have s1:SS w0 bs q t out (M++[(b7,qC kind part key take)]) w1:=s1;have hK7:∀w' m',SS w0 bs q t out m' w'→(M++[(b7,qC kind part key take)]).Sublist m'→K true w':=fun w' m' s hs=>hK w' (s.sub ((Lsl _ _).trans hs));generalize hM7:M++[(b7,qC kind part key take)]=M7 at s1 hK7;have hb7:(b7,qC kind part key take)∈M7:=by rw [←hM7];simp
 have hR7:∀p∈R,p∈M7:=fun p hp=>by rw [←hM7];exact Lml _ (hRM p hp)
 have hR7':∀p∈R',p∈M7:=fun p hp=>by rw [←hM7];exact Lml _ (hRM' p hp)
 have B7:∀{m:BL} {u:World},SS w0 bs q t out m u→(∀p∈M7,p∈m)→Blk u b7 (qC kind part key take):=fun {_ _} s hm=>s.own (hm _ hb7);have l1:∀{m:BL} {u:World},SS w0 bs q t out m u→(∀p∈M7,p∈m)→∀{K:Int→Prop},K part→Go.Vw.ld u Ki b7 1 K:=fun {_ _} s hm {K} hK=>(B7 s hm).ldK (k:=Ki) part rfl hK;have l2:∀{m:BL} {u:World},SS w0 bs q t out m u→(∀p∈M7,p∈m)→∀{K:Str→Prop},K key→Go.Vw.ld u .str b7 2 K:=fun {_ _} s hm {K} hK=>(B7 s hm).ldK (k:=.str) key rfl hK;have RR:∀{m:BL} {u:World},SS w0 bs q t out m u→(∀p∈M7,p∈m)→∀p∈R,Blk u p.1 p.2:=fun {_ _} s hm p hp=>s.own (hm _ (hR7 p hp));have RR':∀{m:BL} {u:World},SS w0 bs q t out m u→(∀p∈M7,p∈m)→∀p∈R',Blk u p.1 p.2:=fun {_ _} s hm p hp=>s.own (hm _ (hR7' p hp));have id7:∀p∈M7,p∈M7:=fun _ h=>h;refine l1 s1 id7 (count_ok hr (RR s1 id7) fun w2 M2=>?_);have s2:=s1.quiet M2;refine l1 s2 id7 (rCount_ok hr' (RR' s2 id7) fun w3 M3=>?_);have s3:=s2.quiet M3;refine l1 s3 id7 (l2 s3 id7 (rHas_ok s3 ht hr hR7 hk fun w4 s4=>l1 s4 id7 (l2 s4 id7 (rHas9_ok s4 ht hr' hR7' hk fun w5 s5=>?_))));rw [has_law];refine join1 (a:=.bool) (fun q u=>q=false∧u=w5) (fun k hk=>ifK_f (Bsf _) (ifK_f (Bsf _) (bneS Tryz.underlying4 (ifK_f rfl (hk _ _ ⟨Bsf _,rfl⟩))))) ?_;rintro q0 u ⟨rfl,rfl⟩;refine ifK_f rfl ?_;by_cases he:refN P part=0;rotate_left
 ·refine l1 s5 id7 (scan_ok hr (RR s5 id7) (fun _=>l1 s5 id7 (rScan_ok hr' (RR' s5 id7) (fun _=>?_) fun e=>absurd e he)) fun e=>absurd e he);refine (B7 s5 id7).ldK (k:=Ki) kind rfl ?_;refine join4 (a:=Ki) (b:=Ki) (c:=.ptr) (d:=.ptr) (fun e f c d v=>e=refN P part∧f=refN P part∧c=none∧d=none∧v=u) ?_ ?_
  ·intro k hk2;refine Iq (fun _=>l1 s5 id7 (l2 s5 id7 (seek_ok hr (RR s5 id7) hk (fun _=>l1 s5 id7 (l2 s5 id7 (rSeek_ok hr' (RR' s5 id7) (fun _=>hk2 _ _ _ _ _ ⟨rfl,rfl,rfl,rfl,rfl⟩) fun e=>absurd e he))) fun e=>absurd e he))) fun _=>hk2 _ _ _ _ _ ⟨rfl,rfl,rfl,rfl,rfl⟩
  rintro e f c d v ⟨rfl,rfl,rfl,rfl,rfl⟩;refine join1 (a:=.bool) (fun q z=>q=false∧z=v) (fun k hk=>ifK_f (Bsf _) (bneS Tryz.underlying4 (hk _ _ ⟨rfl,rfl⟩))) ?_;rintro q0 v ⟨rfl,rfl⟩;refine ifK_f rfl (l1 s5 id7 (scan_ok hr (RR s5 id7) (fun _=>l1 s5 id7 (rScan_ok hr' (RR' s5 id7) (fun _=>?_) fun e=>absurd e he)) fun e=>absurd e he));refine join0 (fun z=>SS w0 bs q t out M7 z) ?_ (fun z hz=>hK7 z _ hz (List.Sublist.refl _));intro k hk;refine loop1 (k:=Ki) (fun (i:Int) z=>0≤i∧SS w0 bs q t out M7 z) (fun i _=>(w64 (take+2)-i).toNat) (x:=0) rfl ⟨Int.le_refl _,s5⟩ ?_;rintro i z ⟨hi,hz⟩;refine (B7 hz id7).ldK (k:=Ki) take rfl (Iq (fun h=>?_) fun h=>hk z hz);have h:i<w64 (take+2):=odt h;refine next_nil fun z1 N1=>(Fresh.start z1 F0).alK fun b80 z2 g2 _ _=>g2.stK 0 rfl (Nlr 2) fun z3 g3 _=>?_;refine rNext9_nil fun z4 N4=>(g3.quiet N4).alK fun b88 z5 g5 _ _=>g5.stK 1 rfl (Nlr 2) fun z6 g6 _=>?_;refine next_nil fun z7 N7=>(g6.quiet N7).alK fun b96 z8 g8 _ _=>g8.stK 2 rfl (Nlr 2) fun z9 g9 _=>?_;refine rNext9_nil fun z10 N10=>(g9.quiet N10).alK fun b104 z11 g11 _ _=>g11.stK 3 rfl (Nlr 2) fun z12 g12 _=>?_;have hS:=hz.quiet (mod0 N1 g12.mod);have hst:=nextT_step (c:=false) hi hrng h;refine askTail_ok (K:=K) (again:=fun x' w'=>(0≤x'∧SS w0 bs q t out M7 w')∧(w64 (take+2)-x').toNat<(w64 (take+2)-i).toNat) (t:=i) (n:=1) (m:=1) (c:=false) (e:=false) (B7 hS id7) (g12.blk (i:=0) rfl) (g12.blk (i:=1) rfl) (g12.blk (i:=2) rfl) (g12.blk (i:=3) rfl) ?_;exact⟨⟨by rw [hst.1];omega,hS⟩,by rw [hst.1];omega⟩
 refine l1 s5 id7 (scan_ok hr (RR s5 id7) (fun e=>absurd he e) fun _ w6 bc F6=>?_);have s6:=s5.fresh F6;have i6:∀p∈M7,p∈M7++[(bc,curC br (newC (findN l part []).1 0 []) none)]:=fun p hp=>Lml _ hp;refine l1 s6 i6 (rScan_ok hr' (RR' s6 i6) (fun e=>absurd he e) fun _ w7 bd F7=>?_);have s7:=s6.fresh F7;have i7:∀p∈M7,p∈(M7++[(bc,curC br (newC (findN l part []).1 0 []) none)])++[(bd,curE br' (newE (findN l part []).1 0 []) ⟨none,0,0⟩)]:=fun p hp=>Lml _ (i6 p hp);refine (B7 s7 i7).ldK (k:=Ki) kind rfl ?_;refine join4 (a:=Ki) (b:=Ki) (c:=.ptr) (d:=.ptr) (fun e f c d v=>e=0∧f=0∧∃bc bd cc cd,c=some (bc,0)∧d=some (bd,0)∧SS w0 bs q t out ((M7++[(bc,curC br cc none)])++[(bd,curE br' cd ⟨none,0,0⟩)]) v∧(∀Y p,CurL Y cc p)∧Cv l cc∧cd.lst=[]∧Ce l cd∧meanE t out l cd=meanC t out l cc) ?_ ?_
 ·intro k hk2;refine Iq (fun _=>?_) fun _=>?_
  ·refine l1 s7 i7 (l2 s7 i7 (seek_ok hr (RR s7 i7) hk (fun e=>absurd he e) fun _ w8 bc' F8=>?_));have s8:=s7.fresh F8;have i8:∀p∈M7,p∈((M7++[(bc,curC br (newC (findN l part []).1 0 []) none)])++[(bd,curE br' (newE (findN l part []).1 0 []) ⟨none,0,0⟩)])++[(bc',curC br (newC (findN l part key).1 (findN l part key).2 key) none)]:=fun p hp=>Lml _ (i7 p hp);refine l1 s8 i8 (l2 s8 i8 (rSeek_ok hr' (RR' s8 i8) (fun e=>absurd he e) fun _ w9 bd' F9=>?_));have s9:=s8.fresh F9;refine hk2 _ _ _ _ _ ⟨rfl,rfl,bc',bd',_,_,rfl,rfl,s9.sub ?_,fun Y p=>CurL.new,newC_v l part key key hk (.inr rfl),rfl,newE_v l part key key hk (.inr rfl),mean_law ..⟩;simp only [Laa];refine List.Sublist.append_left ?_ _;exact (List.Sublist.refl _).cons _ |>.cons _
  ·exact hk2 _ _ _ _ _ ⟨rfl,rfl,bc,bd,_,_,rfl,rfl,s7,fun Y p=>CurL.new,newC_v l part [] [] (Nzl _) (.inl rfl),rfl,newE_v l part [] [] (Nzl _) (.inl rfl),mean_law ..⟩
 rintro e f c d v ⟨rfl,rfl,bc,bd,cc,cd,rfl,rfl,sv,hcc,vcc,hcd,vcd,hm1⟩;refine join1 (a:=.bool) (fun q z=>q=false∧z=v) (fun k hk=>ifK_f rfl (bneS Tryz.underlying4 (hk _ _ ⟨rfl,rfl⟩))) ?_;rintro q0 v ⟨rfl,rfl⟩;have i9:∀p∈M7,p∈(M7++[(bc,curC br cc none)])++[(bd,curE br' cd ⟨none,0,0⟩)]:=fun p hp=>Lml _ (Lml _ hp);refine ifK_f rfl (l1 sv i9 (scan_ok hr (RR sv i9) (fun e=>absurd he e) fun _ w10 be F10=>?_));have s10:=sv.fresh F10;have i10:∀p∈M7,p∈((M7++[(bc,curC br cc none)])++[(bd,curE br' cd ⟨none,0,0⟩)])++[(be,curC br (newC (findN l part []).1 0 []) none)]:=fun p hp=>Lml _ (i9 p hp);refine l1 s10 i10 (rScan_ok hr' (RR' s10 i10) (fun e=>absurd he e) fun _ w11 bf F11=>?_);have s11:=s10.fresh F11;have hF:Four w0 bs q t out M7 l br br' bc bd be bf [] w11:=by
  refine⟨cc,cd,newC (findN l part []).1 0 [],newE (findN l part []).1 0 [],none,none,⟨none,0,0⟩,⟨none,0,0⟩,s11.perm ?_,⟨hcc _ _,vcc⟩,⟨by rw [hcd];exact ReadL.none,vcd⟩,⟨CurL.new,newC_v l part [] [] (Nzl _) (.inl rfl)⟩,⟨ReadL.none,newE_v l part [] [] (Nzl _) (.inl rfl)⟩,hm1,mean_law ..⟩;simp only [Laa,List.cons_append,List.nil_append];exact List.Perm.append_left M7 (List.perm_middle (l₁:=[_,_,_]) (l₂:=[]) (a:=_))
 refine join0 (fun z=>SS w0 bs q t out M7 z) ?_ (fun z hz=>hK7 z _ hz (List.Sublist.refl _));intro k hk;refine loop1 (k:=Ki) (fun (i:Int) z=>0≤i∧∃Y,Four w0 bs q t out M7 l br br' bc bd be bf Y z) (fun i _=>(w64 (take+2)-i).toNat) (x:=0) rfl ⟨Int.le_refl _,[],hF⟩ ?_;rintro i z ⟨hi,Y,cc,cd,ce,cf,pc,pe,sd,sf,hz,⟨c1,c2⟩,⟨d1,d2⟩,⟨e1,e2⟩,⟨f1,f2⟩,hm1,hm2⟩;have iz:∀p∈M7,p∈(M7++[(bd,curE br' cd sd),(be,curC br ce pe),(bf,curE br' cf sf)])++(bc,curC br cc pc)::Y:=fun p hp=>Lml _ (Lml _ hp);refine (B7 hz iz).ldK (k:=Ki) take rfl (Iq (fun h=>?_) fun h=>hk z (hz.sub ((Lsl _ _).trans (Lsl _ _))));have h:i<w64 (take+2):=odt h;have mM:∀{A:BL},∀p∈R,p∈M7++A:=fun p hp=>Lml _ (hR7 p hp);have mM':∀{A:BL},∀p∈R',p∈M7++A:=fun p hp=>Lml _ (hR7' p hp);refine cnext_ok hz ht hr mM c1 c2 fun z1 cc' pc' Y1 h1 c1' c2' c3'=>h1.alst (by rfl) fun b80 z2 h2 _=>?_;generalize hmc:meanC t out l cc=mc at *;generalize hme:meanC t out l ce=me at *;have h2:SS w0 bs q t out ((M7++[(bd,curE br' cd sd),(be,curC br ce pe),(bf,curE br' cf sf)])++(bc,curC br cc' pc')::((Y++Y1)++[(b80,strs (nextM mc).1.1 (nextM mc).1.2.1)])) z2:=by simpa [strs] using h2
 generalize hY2:(Y++Y1)++[(b80,strs (nextM mc).1.1 (nextM mc).1.2.1)]=Y2 at h2;have m2:∀q∈Y,q∈Y2:=fun q hq=>by rw [←hY2];simp [hq]
 have m80:(b80,strs (nextM mc).1.1 (nextM mc).1.2.1)∈Y2:=by rw [←hY2];simp
 have c1':CurL Y2 cc' pc':=c1'.mono fun q hq=>by rw [←hY2];exact Lml _ hq
 have h2:=h2.perm (rot4 M7 Y2 (bc,curC br cc' pc') (bd,curE br' cd sd) (be,curC br ce pe) (bf,curE br' cf sf));refine rNext9_ok h2 ht hr' mM' d2 (d1.mono m2) fun z3 cd' sd' Y3 h3 d1' d2' d3'=>?_;rw [hm1] at d3' ⊢;refine h3.alst (by rfl) fun b88 z4 h4 _=>?_;have h4:SS w0 bs q t out ((M7++[(be,curC br ce pe),(bf,curE br' cf sf),(bc,curC br cc' pc')])++(bd,curE br' cd' sd')::((Y2++Y3)++[(b88,strs (nextM mc).1.1 (nextM mc).1.2.1)])) z4:=by simpa [strs] using h4
 generalize hY4:(Y2++Y3)++[(b88,strs (nextM mc).1.1 (nextM mc).1.2.1)]=Y4 at h4;have m4:∀q∈Y2,q∈Y4:=fun q hq=>by rw [←hY4];simp [hq]
 have m88:(b88,strs (nextM mc).1.1 (nextM mc).1.2.1)∈Y4:=by rw [←hY4];simp
 have d1':ReadL Y4 sd' cd'.lst:=d1'.mono fun q hq=>by rw [←hY4];exact Lml _ hq
 have h4:=h4.perm (rot4 M7 Y4 (bd,curE br' cd' sd') (be,curC br ce pe) (bf,curE br' cf sf) (bc,curC br cc' pc'));refine cnext_ok h4 ht hr mM (e1.mono fun q hq=>m4 _ (m2 _ hq)) e2 fun z5 ce' pe' Y5 h5 e1' e2' e3'=>?_;rw [hme] at e3' ⊢;refine h5.alst (by rfl) fun b96 z6 h6 _=>?_;have h6:SS w0 bs q t out ((M7++[(bf,curE br' cf sf),(bc,curC br cc' pc'),(bd,curE br' cd' sd')])++(be,curC br ce' pe')::((Y4++Y5)++[(b96,strs (nextM me).1.1 (nextM me).1.2.1)])) z6:=by simpa [strs] using h6
 generalize hY6:(Y4++Y5)++[(b96,strs (nextM me).1.1 (nextM me).1.2.1)]=Y6 at h6;have m6:∀q∈Y4,q∈Y6:=fun q hq=>by rw [←hY6];simp [hq]
 have m96:(b96,strs (nextM me).1.1 (nextM me).1.2.1)∈Y6:=by rw [←hY6];simp
 have e1':CurL Y6 ce' pe':=e1'.mono fun q hq=>by rw [←hY6];exact Lml _ hq
 have h6:=h6.perm (rot4 M7 Y6 (be,curC br ce' pe') (bf,curE br' cf sf) (bc,curC br cc' pc') (bd,curE br' cd' sd'));refine rNext9_ok h6 ht hr' mM' f2 (f1.mono fun q hq=>m6 _ (m4 _ (m2 _ hq))) fun z7 cf' sf' Y7 h7 f1' f2' f3'=>?_;rw [hm2] at f3' ⊢;refine h7.alst (by rfl) fun b104 z8 h8 _=>?_;have h8:SS w0 bs q t out ((M7++[(bc,curC br cc' pc'),(bd,curE br' cd' sd'),(be,curC br ce' pe')])++(bf,curE br' cf' sf')::((Y6++Y7)++[(b104,strs (nextM me).1.1 (nextM me).1.2.1)])) z8:=by simpa [strs] using h8
 generalize hY8:(Y6++Y7)++[(b104,strs (nextM me).1.1 (nextM me).1.2.1)]=Y8 at h8;have m8:∀q∈Y6,q∈Y8:=fun q hq=>by rw [←hY8];simp [hq]
 have m104:(b104,strs (nextM me).1.1 (nextM me).1.2.1)∈Y8:=by rw [←hY8];simp
 have f1':ReadL Y8 sf' cf'.lst:=f1'.mono fun q hq=>by rw [←hY8];exact Lml _ hq
 have h8:=h8.perm (rot4 M7 Y8 (bf,curE br' cf' sf') (bc,curC br cc' pc') (bd,curE br' cd' sd') (be,curC br ce' pe'));have own8:∀{p:Nat×List Value},p∈Y8→Blk z8 p.1 p.2:=fun {p} hp=>h8.own (b:=p.1) (c:=p.2) (Lmr _ (Lmc _ hp));have hst:=nextT_step (c:=(nextM mc).1.2.2.1) hi hrng h;have i8:∀p∈M7,p∈(M7++[(bd,curE br' cd' sd'),(be,curC br ce' pe'),(bf,curE br' cf' sf')])++(bc,curC br cc' pc')::Y8:=fun p hp=>Lml _ (Lml _ hp);refine askTail_ok (K:=K) (again:=fun x' w'=>(0≤x'∧∃Y,Four w0 bs q t out M7 l br br' bc bd be bf Y w')∧(w64 (take+2)-x').toNat<(w64 (take+2)-i).toNat) (t:=i) (B7 h8 i8) (own8 (m8 _ (m6 _ (m4 _ m80)))) (own8 (m8 _ (m6 _ m88))) (own8 (m8 _ m96)) (own8 m104) ?_;refine⟨⟨by rw [hst.1];omega,Y8,?_⟩,by rw [hst.1];omega⟩;exact⟨cc',cd',ce',cf',pc',pe',sd',sf',h8,⟨c1'.mono fun q hq=>m8 _ (m6 _ (m4 _ hq)),c2'⟩,⟨d1'.mono fun q hq=>m8 _ (m6 _ hq),d2'⟩,⟨e1'.mono m8,e2'⟩,⟨f1',f2'⟩,by rw [d3',c3'],by rw [f3',e3']⟩
end
theorem FootS.get{ro:BL}{Y:List (BL×BL)}{s:Sl}{ps:List PI}{l:List PartI}(hF:FootS ro Y s ps l){i:Nat}{x:PartI}(hx:l[i]? = some x):∃y p,Y[i]? = some y∧ps[i]? = some p∧InfoS y p x:=by
 have hi:=(Les.1 hx).1;obtain⟨y,hy⟩:=Gq (l:=Y) (i:=i) (by rw [hF.leny];exact hi);obtain⟨p,hp⟩:=Gq (l:=ps) (i:=i) (by rw [hF.len];exact hi);exact⟨y,p,hy,hp,hF.each i y p x hy hp hx⟩
theorem set_get{α:Type}{l:List α}{i j:Nat}{x y:α}(h:(l.set i y)[j]? = some x):(j=i∧x=y)∨(j≠i∧l[j]? = some x):=by
 rw [List.getElem?_set] at h;by_cases e:i=j
 ·rw [if_pos e] at h;split at h
  ·cases h;exact .inl ⟨e.symm,rfl⟩
  ·cases h
 ·rw [if_neg e] at h;exact .inr ⟨fun e2=>e e2.symm,h⟩
theorem FootS.set{ro:BL}{Y:List (BL×BL)}{s:Sl}{ps:List PI}{l:List PartI}(hF:FootS ro Y s ps l){i:Nat}{y:BL×BL}{p:PI}{x:PartI}(hp:ps[i]? = some p)(hy:InfoS y p x):FootS ro (Y.set i y) s ps (l.set i x):=by
 refine⟨hF.row,by rw [List.length_set];exact hF.len,by rw [List.length_set,List.length_set];exact hF.leny,fun j y' p' x' h1 h2 h3=>?_,by rw [List.length_set];exact hF.ll⟩;rcases set_get h3 with⟨rfl,rfl⟩ | ⟨hj,h3⟩
 ·rcases set_get h1 with⟨_,rfl⟩ | ⟨h,_⟩
  ·rw [hp] at h2;cases h2;exact hy
  ·exact absurd rfl h
 ·rcases set_get h1 with⟨rfl,_⟩ | ⟨_,h1⟩
  ·exact absurd rfl hj
  ·exact hF.each j y' p' x' h1 h2 h3
theorem flatY_cons(y:BL×BL)(Y:List (BL×BL)):flatY (y::Y)=(y.1++y.2)++flatY Y:=rfl
theorem flatY_split{Y:List (BL×BL)}{i:Nat}{y:BL×BL}(h:Y[i]? = some y):flatY Y=flatY (Y.take i)++((y.1++y.2)++flatY (Y.drop (i+1))):=by
 conv=>lhs;rw [←List.take_append_drop i Y,Dg h]
 rw [flatY_append,flatY_cons]
theorem flatY_set{Y:List (BL×BL)}{i:Nat}{y:BL×BL}(h:i<Y.length):flatY (Y.set i y)=flatY (Y.take i)++((y.1++y.2)++flatY (Y.drop (i+1))):=by
 rw [List.set_eq_take_append_cons_drop,if_pos h,flatY_append,flatY_cons]
theorem perm_y1{α:Type}(M A B ro y1 y2:List α):((M++(A++(y2++(B++ro))))++y1).Perm (M++((A++((y1++y2)++B))++ro)):=by
 simp only [Laa];refine List.Perm.append_left M (List.Perm.append_left A ?_);have:=Lpc (l₁:=y2++(B++ro)) (l₂:=y1);simpa only [Laa] using this
theorem perm_y2{α:Type}(M A B ro y1 y2:List α):((M++(A++(y1++(B++ro))))++y2).Perm (M++((A++((y1++y2)++B))++ro)):=by
 simp only [Laa];refine List.Perm.append_left M (List.Perm.append_left A (List.Perm.append_left y1 ?_));have:=Lpc (l₁:=B++ro) (l₂:=y2);simpa only [Laa] using this
def biS(i:Nat):BI:=⟨0,0,w64 (-1-(i:Int)),[]⟩
def dtS(i:Nat):UInt8:=UInt8.ofNat (i%251)
def Sp(i:Nat)(x:PartI):Prop:=(∀b∈x.blocks,b=biS i)∧∀c∈x.flt.data,c=dtS i
theorem dtS_cell(i:Nat):IntKind.wrap .u8 ((i:Int).tmod 251)=((dtS i).toNat:Int):=by
 unfold dtS;rw [u8_ofNat (by omega),Int.tmod_eq_emod_of_nonneg (Int.natCast_nonneg i)];have:(i:Int)%251=((i%251:Nat):Int):=by omega
 rw [this,wrap_u8];omega
section
variable {w0 w:World}{bs q:Nat}{t:Str}{out:Bool}{M:BL}{b3:Nat}{P:Int}{s:Sl}{ro:BL}{Y:List (BL×BL)}{ps:List PI}{l:List PartI}
set_option maxHeartbeats 1000000 in
theorem spoil_loop(h:SS w0 bs q t out (M++(flatY Y++ro)) w)(hb3:(b3,pairC P s)∈M)(hF:FootS ro Y s ps l){k5:Wp}
  (hk5:∀Y' l' w',SS w0 bs q t out (M++(flatY Y'++ro)) w'→FootS ro Y' s ps l'→l'.length=l.length→(∀(i:Nat) x,l'[i]? = some x→Sp i x)→k5 w') :
  loopL [Ki] (fun i7 W8 g6=>
   Go.Vw.ld W8 .sl b3 1 fun a9=>
   ifK (decide (i7<(a9.len:Int)))
   (Go.Vw.ld W8 .sl b3 1 fun a10=>
    ix a10 5 i7 fun b11 o12=>
    Go.Vw.ld W8 .sl b11 (o12+1) fun a13=>
    joinK [] (fun k14=>
     loopL [Ki] (fun k16 W17 g15=>
      ifK (decide (k16<(a13.len:Int)))
      (ix a13 4 k16 fun b18 o19=>
       Go.Vw.st W17 b18 o19 [.int .i64 0,.int .i64 0,.int .i64 (w64 ((-1)-i7)),.str []] fun W20=>
       g15 (w64 (k16+1)) W20)
      (k14 W17)) [.int .i64 0] W8) fun W21=>
    Go.Vw.ld W21 .sl b3 1 fun a22=>
    ix a22 5 i7 fun b23 o24=>
    Go.Vw.ld W21 .sl b23 (o24+2+2) fun a25=>
    joinK [] (fun k26=>
     loopL [Ki] (fun k28 W29 g27=>
      ifK (decide (k28<(a25.len:Int)))
      (ix a25 1 k28 fun b30 o31=>
       Go.Vw.st W29 b30 o31 [.int .u8 (IntKind.wrap .u8 (i7.tmod 251))] fun W32=>
       g27 (w64 (k28+1)) W32)
      (k26 W29)) [.int .i64 0] W21) fun W33=>
    g6 (w64 (i7+1)) W33)
   (k5 W8)) [.int .i64 0] w:=by
 have hll:=hF.ll;refine loop1 (k:=Ki) (fun (i:Int) u=>∃(j:Nat) (Y':List (BL×BL)) (l':List PartI),i=(j:Int)∧j≤l.length∧l'.length=l.length∧SS w0 bs q t out (M++(flatY Y'++ro)) u∧FootS ro Y' s ps l'∧∀(k:Nat) x,k<j→l'[k]? = some x→Sp k x) (fun i _=>(l.length-i).toNat) (x:=0) rfl
  ⟨0,Y,l,rfl,Nzl _,rfl,h,hF,fun k x hk=>absurd hk (Nat.not_lt_zero _)⟩ ?_
 rintro i u ⟨j,Y',l',rfl,hj,hl',hu,hF',hsp⟩;have hB:Blk u b3 (pairC P s):=hu.own (Lml _ hb3);refine hB.ldK (k:=.sl) s rfl ?_;rw [hF'.row.1,hF'.len,hl'];refine Iq (fun hlt=>?_) fun hge=>?_;rotate_left
 ·have hge:l.length≤j:=dge hge;exact hk5 Y' l' u hu hF' hl' fun i x hx=>hsp i x (by have:=(Les.1 hx).1;omega) hx
 have hlt:j<l.length:=dlt hlt;obtain⟨x,hx⟩:=Gq (l:=l') (i:=j) (by omega);obtain⟨y,p,hy,hp,hI⟩:=hF'.get hx;have hjY:j<Y'.length:=(Les.1 hy).1;have hro:∀{u':World} {m:BL},SS w0 bs q t out (m++ro) u'→RdS u' EPI s ps:=fun {u' m} hs=>hF'.row.rd fun p hp=>hs.own (Lmr _ hp);have hu1:SS w0 bs q t out ((M++flatY Y')++ro) u:=by rw [Laa];exact hu
 refine hB.ldK (k:=.sl) s rfl ((hro hu1).ix rfl rfl hp fun b o _ hc=>Lq (k:=.sl) p.sb (hc 1 (by decide)) ?_);refine join0 (fun v=>∃y1,SS w0 bs q t out (M++(flatY (Y'.set j (y1,y.2))++ro)) v∧VecL y1 EBI p.sb (List.replicate x.blocks.length (biS j))) ?_ ?_
 ·intro k hk;have hu2:=hu;rw [flatY_split hy] at hu2;have hu3:=hu2.perm (perm_y1 M (flatY (Y'.take j)) (flatY (Y'.drop (j+1))) ro y.1 y.2);refine fill_loop (E:=EBI) hu3.base hI.bl (y:=biS j) rfl rfl (by have:=hI.lb;omega) fun y1 v hA hv=>hk v ⟨y1,?_,hv⟩;rw [flatY_set hjY];exact (hu3.put hA).perm (perm_y1 M (flatY (Y'.take j)) (flatY (Y'.drop (j+1))) ro y1 y.2).symm
 rintro v ⟨y1,hv,hv1⟩;have hjY2:j<(Y'.set j (y1,y.2)).length:=by rw [List.length_set];exact hjY
 have hBv:Blk v b3 (pairC P s):=hv.own (Lml _ hb3);have hu4:SS w0 bs q t out ((M++flatY (Y'.set j (y1,y.2)))++ro) v:=by rw [Laa];exact hv
 refine hBv.ldK (k:=.sl) s rfl ((hro hu4).ix rfl rfl hp fun b o _ hc=>Lq (k:=.sl) p.sd (hc 4 (by decide)) ?_);refine join0 (fun z=>∃y2,SS w0 bs q t out (M++(flatY (Y'.set j (y1,y2))++ro)) z∧VecL y2 ET p.sd (List.replicate x.flt.data.length (dtS j))) ?_ ?_
 ·intro k hk;have hu2:=hv;rw [flatY_set hjY] at hu2;have hu3:=hu2.perm (perm_y2 M (flatY (Y'.take j)) (flatY (Y'.drop (j+1))) ro y1 y.2);refine fill_loop (E:=ET) hu3.base hI.dt (y:=dtS j) (by rw [dtS_cell];rfl) rfl (by have:=hI.ld;omega) fun y2 z hA hz=>hk z ⟨y2,?_,hz⟩;rw [flatY_set hjY];exact (hu3.put hA).perm (perm_y2 M (flatY (Y'.take j)) (flatY (Y'.drop (j+1))) ro y1 y2).symm
 rintro z ⟨y2,hz,hz1⟩;have es:=step64 (i:=j) (by omega);have hI':InfoS (y1,y2) p ⟨x.part,List.replicate x.blocks.length (biS j),⟨x.flt.all,x.flt.hashes,List.replicate x.flt.data.length (dtS j)⟩⟩:=
  ⟨hI.part,hv1,hI.all,hI.hs,hz1,by rw [List.length_replicate];exact hI.lb,by rw [List.length_replicate];exact hI.ld⟩
 refine⟨⟨j+1,Y'.set j (y1,y2),l'.set j ⟨x.part,List.replicate x.blocks.length (biS j),⟨x.flt.all,x.flt.hashes,List.replicate x.flt.data.length (dtS j)⟩⟩,es,by omega,by rw [List.length_set];exact hl',hz,hF'.set hp hI',fun k x' hk hx'=>?_⟩,by rw [es];omega⟩;rcases set_get hx' with⟨rfl,rfl⟩ | ⟨hk2,hx'⟩
 ·exact⟨fun b hb=>List.eq_of_mem_replicate hb,fun c hc=>List.eq_of_mem_replicate hc⟩
 ·exact hsp k x' (by omega) hx'
end
structure FootM(j:Nat)(ro:BL)(Y:List (BL×BL))(s:Sl)(ps:List PI)(l:List PartI):Prop where
 row:VecL ro EPI s ps
 len:ps.length=l.length
 leny:Y.length=l.length
 each:∀(i:Nat) y p x,Y[i]? = some y→ps[i]? = some p→l[i]? = some x→(View y.1 EBI p.sb x.blocks∧View y.2 ET p.sd x.flt.data)∧(j≤i→InfoS y p x)
 lb:∀(i:Nat) x,l[i]? = some x→x.blocks.length≤262144∧x.flt.data.length≤4096
 ll:l.length≤65535
theorem FootS.toM{ro:BL}{Y:List (BL×BL)}{s:Sl}{ps:List PI}{l:List PartI}(h:FootS ro Y s ps l):FootM 0 ro Y s ps l:=
 ⟨h.row,h.len,h.leny,fun i y p x h1 h2 h3=>⟨⟨(h.each i y p x h1 h2 h3).bl.view,(h.each i y p x h1 h2 h3).dt.view⟩,fun _=>h.each i y p x h1 h2 h3⟩,fun i x hx=>by
  obtain⟨y,p,_,_,hI⟩:=h.get hx;exact⟨hI.lb,hI.ld⟩,h.ll⟩
theorem FootM.get{j:Nat}{ro:BL}{Y:List (BL×BL)}{s:Sl}{ps:List PI}{l:List PartI}(hF:FootM j ro Y s ps l){i:Nat}{x:PartI}(hx:l[i]? = some x):∃y p,Y[i]? = some y∧ps[i]? = some p∧(View y.1 EBI p.sb x.blocks∧View y.2 ET p.sd x.flt.data)∧(j≤i→InfoS y p x):=by
 have hi:=(Les.1 hx).1;obtain⟨y,hy⟩:=Gq (l:=Y) (i:=i) (by rw [hF.leny];exact hi);obtain⟨p,hp⟩:=Gq (l:=ps) (i:=i) (by rw [hF.len];exact hi);exact⟨y,p,hy,hp,hF.each i y p x hy hp hx⟩
theorem FootM.step{j:Nat}{ro:BL}{Y:List (BL×BL)}{s:Sl}{ps:List PI}{l:List PartI}(hF:FootM j ro Y s ps l){y:BL×BL}{p:PI}{x:PartI}(hx:l[j]? = some x)(hp:ps[j]? = some p)(hy:View y.1 EBI p.sb x.blocks∧View y.2 ET p.sd x.flt.data):FootM (j+1) ro (Y.set j y) s ps l:=by
 refine⟨hF.row,hF.len,by rw [List.length_set];exact hF.leny,fun i y' p' x' h1 h2 h3=>?_,hF.lb,hF.ll⟩;rcases set_get h1 with⟨rfl,rfl⟩ | ⟨hi,h1⟩
 ·rw [hp] at h2;rw [hx] at h3;cases h2;cases h3;exact⟨hy,fun h=>absurd h (by omega)⟩
 ·have:=hF.each i y' p' x' h1 h2 h3;exact⟨this.1,fun h=>this.2 (by omega)⟩
theorem perm_g1{α:Type}(A B ro ob cb od cd M:List α):((M++(A++((od++cd)++(B++ro))))++(ob++cb)).Perm (M++((A++(((ob++cb)++(od++cd))++B))++ro)):=perm_y1 M A B ro (ob++cb) (od++cd)
theorem perm_g2{α:Type}(A B ro ob cb od cd M:List α):((M++(A++((ob++cb)++(B++ro))))++(od++cd)).Perm (M++((A++(((ob++cb)++(od++cd))++B))++ro)):=perm_y2 M A B ro (ob++cb) (od++cd)
section
variable {w0 w:World}{bs q:Nat}{t:Str}{out:Bool}{M:BL}{b3:Nat}{P:Int}{s:Sl}{ro:BL}{Y:List (BL×BL)}{ps:List PI}{l:List PartI}
theorem SS.grow1{α:Type}{m ob cb:BL}{E:Enc α}{sl t0:Sl}{lst:List α}{k:Nat}{y:α}(h:SS w0 bs q t out (m++(ob++cb)) w)(hv:VecL cb E t0 (lst++List.replicate k y))(hV:View ob E sl lst∨sl.p=t0.p)(hs:sl.len=lst.length)(hs2:sl.len≤sl.cap)
  {vs:List LV} (hy:vs.map LV.toV=E.f y) {n:Nat} (hn:n=E.n) {e e2:TypeId} {bytes:Nat} {zs:List LV} (hz:zs.length=E.n) (hlim:(lst.length+k+1025)*(bytes+1)≤2^46) {K:Sl→Wp}
  (hK:∀t' ob' cb' w',SS w0 bs q t out (m++(ob'++cb')) w'→VecL cb' E t' (lst++List.replicate (k+1) y)→(View ob' E sl lst∨sl.p=t'.p)→K t' w') :
  Go.Vw.al w e vs fun b w'=>ap w' e2 n bytes zs t0 ⟨some (b,0),1,1⟩ K:=by
 subst hn;have hA1:=h.base;generalize hD:Ks (m++(ob++cb))=D at hA1;rw [←Laa] at hA1;refine hA1.alK fun b w2 hb hA2 hM2=>?_;have hbl:Blk w2 b (E.f y):=by have:=hA2.own (b,vs.map LV.toV) (by simp);rw [hy] at this;exact this
 have hA3:At w D ((m++ob)++cb) w2:=hA2.sub (Lsl _ _);refine appL2 hA3 hv (rd_one hbl) rfl hz (by
  have:(lst++List.replicate k y).length+[y].length+1024=lst.length+k+1025:=by simp
  rw [this];exact hlim) fun t' old' ro2 w3 hA4 hv4 _ hcase _=>?_
 refine hK t' (ob++old') ro2 w3 (h.put (by rw [hD];simpa only [Laa] using hA4)) ?_ ?_
 ·rw [Laa,←List.replicate_succ'] at hv4;exact hv4
 ·rcases hcase with⟨rfl,hp,_⟩ | rfl
  ·rcases hV with hV | hV
   ·exact .inl (by rw [Lan];exact hV)
   ·exact .inr (hV.trans hp.symm)
  ·left;rcases hV with hV | hV
   ·exact hV.mono fun p hp=>Lml _ hp
   ·exact (hv.viewOf hs hs2 hV).mono fun p hp=>Lmr _ hp
theorem grown_view{α:Type}{ob cb:BL}{E:Enc α}{sl t0:Sl}{lst l2:List α}(hv:VecL cb E t0 (lst++l2))(hV:View ob E sl lst∨sl.p=t0.p)(hs:sl.len=lst.length)(hs2:sl.len≤sl.cap):View (ob++cb) E sl lst:=by
 rcases hV with hV | hV
 ·exact hV.mono fun p hp=>Lml _ hp
 ·exact (hv.viewOf hs hs2 hV).mono fun p hp=>Lmr _ hp
set_option maxHeartbeats 1000000 in
theorem grown_loop(h:SS w0 bs q t out (M++(flatY Y++ro)) w)(hb3:(b3,pairC P s)∈M)(hF:FootM 0 ro Y s ps l){k35:Int→Wp}
  (hk35:∀j Y' n w',0≤n→n≤40000000000→SS w0 bs q t out (M++(flatY Y'++ro)) w'→FootM j ro Y' s ps l→k35 n w') :
  loopL [Ki,Ki] (fun n37 i38 W39 g36=>
   joinK [.bool] (fun k40=>
    Go.Vw.ld W39 .sl b3 1 fun a41=>
    ifK (decide (i38<(a41.len:Int)))
    (k40 (decide (i38<500)) W39)
    (k40 false W39)) fun t7142 W43=>
   ifK t7142
   (Go.Vw.ld W43 .sl b3 1 fun a44=>
    ix a44 5 i38 fun b45 o46=>
    Go.Vw.ld W43 .sl b45 (o46+1) fun a47=>
    Go.Vw.ld W43 .sl b3 1 fun a48=>
    ix a48 5 i38 fun b49 o50=>
    Go.Vw.ld W43 .sl b49 (o50+2+2) fun a51=>
    joinK [.sl,.sl] (fun k52=>
     loopL [.sl,.sl,Ki] (fun b54 d55 k56 W57 g53=>
      ifK (decide (k56<64))
      (Go.Vw.al W57 97 [.int .i64 0,.int .i64 0,.int .i64 7,.str []] fun b58 W59=>
       ap W59 97 4 40 [.int .i64 0,.int .i64 0,.int .i64 0,.str []] b54 (⟨some (b58,0),1,1⟩) fun a60 W61=>
       Go.Vw.al W61 5 [.int .u8 255] fun b62 W63=>
       ap W63 5 1 1 [.int .u8 0] d55 (⟨some (b62,0),1,1⟩) fun a64 W65=>
       g53 a60 a64 (w64 (k56+1)) W65)
      (k52 b54 d55 W57)) [.sl a47,.sl a51,.int .i64 0] W43) fun b66 d67 W68=>
    g36 (w64 ((w64 (n37+(b66.len:Int)))+(d67.len:Int))) (w64 (i38+1)) W68)
   (k35 n37 W43)) [.int .i64 0,.int .i64 0] w:=by
 refine loop2 (k1:=Ki) (k2:=Ki) (fun (n i:Int) u=>∃(j:Nat) (Y':List (BL×BL)),i=(j:Int)∧j≤l.length∧0≤n∧n≤(j:Int)*600000∧SS w0 bs q t out (M++(flatY Y'++ro)) u∧FootM j ro Y' s ps l) (fun _ i _=>(l.length-i).toNat) (x1:=0) (x2:=0) rfl rfl
  ⟨0,Y,rfl,Nzl _,Int.le_refl _,by decide,h,hF⟩ ?_
 rintro n i u ⟨j,Y',rfl,hj,hn0,hn1,hu,hF'⟩;have hll:=hF'.ll;have hB:Blk u b3 (pairC P s):=hu.own (Lml _ hb3);refine join1 (a:=.bool) (fun b v=>v=u∧(b=true→j<l.length)) ?_ ?_
 ·intro k hk;refine hB.ldK (k:=.sl) s rfl ?_;rw [hF'.row.1,hF'.len];exact Iq (fun hlt=>hk _ _ ⟨rfl,fun _=>dlt hlt⟩) fun _=>hk _ _ ⟨rfl,fun h=>(by cases h)⟩
 rintro b v ⟨rfl,hlt⟩;refine Iq (fun hb=>?_) fun _=>hk35 j Y' n v hn0 (by omega) hu hF';have hlt:=hlt hb;obtain⟨x,hx⟩:=Gq hlt;obtain⟨y,p,hy,hp,_,hI⟩:=hF'.get hx;have hI:=hI (Nlr _);have hjY:j<Y'.length:=(Les.1 hy).1;have hro:RdS v EPI s ps:=hF'.row.rd fun p hp=>hu.own (Lmr _ (Lmr _ hp));refine hB.ldK (k:=.sl) s rfl (hro.ix rfl rfl hp fun b o _ hc=>Lq (k:=.sl) p.sb (hc 1 (by decide)) ?_);refine hB.ldK (k:=.sl) s rfl (hro.ix rfl rfl hp fun b o _ hc=>Lq (k:=.sl) p.sd (hc 4 (by decide)) ?_);have hlb:=hI.lb;have hld:=hI.ld;refine join2 (a:=.sl) (b:=.sl) (fun (b d:Sl) z=>∃y',SS w0 bs q t out (M++(flatY (Y'.set j y')++ro)) z∧(View y'.1 EBI p.sb x.blocks∧View y'.2 ET p.sd x.flt.data)∧b.len=x.blocks.length+64∧d.len=x.flt.data.length+64) ?_ ?_
 ·intro k hk;have hu2:=hu;rw [flatY_split hy] at hu2;refine loop3 (k1:=.sl) (k2:=.sl) (k3:=Ki) (fun (b d:Sl) (i:Int) z=>∃(c:Nat) (ob cb od cd:BL),i=(c:Int)∧c≤64∧SS w0 bs q t out (M++((flatY (Y'.take j)++(((ob++cb)++(od++cd))++flatY (Y'.drop (j+1))))++ro)) z ∧
   VecL cb EBI b (x.blocks++List.replicate c ⟨0,0,7,[]⟩)∧(View ob EBI p.sb x.blocks∨p.sb.p=b.p)∧VecL cd ET d (x.flt.data++List.replicate c 255)∧(View od ET p.sd x.flt.data∨p.sd.p=d.p)) (fun _ _ i _=>(64-i).toNat) (x1:=p.sb) (x2:=p.sd) (x3:=0) rfl rfl rfl
   ⟨0,[],y.1,[],y.2,rfl,Nzl _,hu2,by simpa using hI.bl,.inr rfl,by simpa using hI.dt,.inr rfl⟩ ?_
  rintro b d i z ⟨c,ob,cb,od,cd,rfl,hc,hz,v1,v2,v3,v4⟩;refine Iq (fun hlt=>?_) fun hge=>?_
  ·have hlt:(c:Int)<64:=odt hlt;have hz1:=hz.perm (perm_g1 (flatY (Y'.take j)) (flatY (Y'.drop (j+1))) ro ob cb od cd M);refine hz1.grow1 v1 v2 hI.bl.1 hI.bl.2.1 (y:=⟨0,0,7,[]⟩) rfl rfl rfl (by
    have:(x.blocks.length+c+1025)*(40+1)≤(262144+64+1025)*(40+1):=Nat.mul_le_mul_right _ (by omega);exact Nat.le_trans this (by decide)) fun b' ob' cb' z2 h2 v1' v2'=>?_
   have h2:=h2.perm (perm_g1 (flatY (Y'.take j)) (flatY (Y'.drop (j+1))) ro ob' cb' od cd M).symm;have hz2:=h2.perm (perm_g2 (flatY (Y'.take j)) (flatY (Y'.drop (j+1))) ro ob' cb' od cd M);refine hz2.grow1 v3 v4 hI.dt.1 hI.dt.2.1 (y:=(255:UInt8)) rfl rfl rfl (by
    have:(x.flt.data.length+c+1025)*(1+1)≤(4096+64+1025)*(1+1):=Nat.mul_le_mul_right _ (by omega);exact Nat.le_trans this (by decide)) fun d' od' cd' z3 h3 v3' v4'=>?_
   have h3:=h3.perm (perm_g2 (flatY (Y'.take j)) (flatY (Y'.drop (j+1))) ro ob' cb' od' cd' M).symm;have es:=step64 (i:=c) (by omega);exact⟨⟨c+1,ob',cb',od',cd',es,by omega,h3,v1',v2',v3',v4'⟩,by rw [es];omega⟩
  ·have hge:¬(c:Int)<64:=odf hge;have hc:c=64:=by omega
   subst hc;refine hk b d z ⟨(ob++cb,od++cd),?_,⟨grown_view v1 v2 hI.bl.1 hI.bl.2.1,grown_view v3 v4 hI.dt.1 hI.dt.2.1⟩,by rw [v1.1];simp,by rw [v3.1];simp⟩;rw [flatY_set hjY];exact hz
 rintro b d z ⟨y',hz,hy',hbl,hdl⟩;have es:=step64 (i:=j) (by omega);have en:w64 ((w64 (n+(b.len:Int)))+(d.len:Int))=n+b.len+d.len:=by
  have e1:w64 (n+(b.len:Int))=n+b.len:=Wq (by omega) (by omega);rw [e1,Wq (by omega) (by omega)]
 exact⟨⟨j+1,Y'.set j y',es,by omega,by rw [en];omega,by rw [en];omega,hz,hF'.step hx hp hy'⟩,by rw [es];omega⟩
theorem bi_same{w:World}{o1 o2:Operand}{x y:BI}(hxy:x=y){K:Bool→Wp}(hK:K false w) :
  opF Pg (vS (do eqGuard .neq 97 o1 o2 (.agg #[(LV.toV (.int .i64 x.stored)),(LV.toV (.int .i64 x.raw)),(LV.toV (.int .i64 x.count)),(LV.toV (.str x.cut))]) (.agg #[(LV.toV (.int .i64 y.stored)),(LV.toV (.int .i64 y.raw)),(LV.toV (.int .i64 y.count)),(LV.toV (.str y.cut))]);binOp .neq 97 (.agg #[(LV.toV (.int .i64 x.stored)),(LV.toV (.int .i64 x.raw)),(LV.toV (.int .i64 x.count)),(LV.toV (.str x.cut))]) (.agg #[(LV.toV (.int .i64 y.stored)),(LV.toV (.int .i64 y.raw)),(LV.toV (.int .i64 y.count)),(LV.toV (.str y.cut))]))) w Ob K:=by
 subst hxy;refine neqK (d:=3) (ks:=[Ki,Ki,Ki,.str]) (xs:=[.int .i64 x.stored,.int .i64 x.raw,.int .i64 x.count,.str x.cut]) (ys:=[.int .i64 x.stored,.int .i64 x.raw,.int .i64 x.count,.str x.cut]) (by kernel_rfl) (by decide) (by kernel_rfl) (by kernel_rfl) rfl rfl rfl rfl ?_;rw [eqLVs_self_bi];exact hK
set_option maxHeartbeats 1000000 in
theorem look_loop{j0:Nat}(h:SS w0 bs q t out (M++(flatY Y++ro)) w)(hb3:(b3,pairC P s)∈M)(hF:FootM j0 ro Y s ps l)(hsp:∀(i:Nat) x,l[i]? = some x→Sp i x){K:Int→Wp}{k71:Wp}
  (hk71:∀w',Mod F0 w w'→k71 w') :
  loopL [Ki] (fun i73 W74 g72=>
   Go.Vw.ld W74 .sl b3 1 fun a75=>
   ifK (decide (i73<(a75.len:Int)))
   (joinK [] (fun k76=>
     loopL [Ki] (fun k78 W79 g77=>
      Go.Vw.ld W79 .sl b3 1 fun a80=>
      ix a80 5 i73 fun b81 o82=>
      Go.Vw.ld W79 .sl b81 (o82+1) fun a83=>
      ifK (decide (k78<(a83.len:Int)))
      (Go.Vw.ld W79 .sl b3 1 fun a84=>
       ix a84 5 i73 fun b85 o86=>
       Go.Vw.ld W79 .sl b85 (o86+1) fun a87=>
       ix a87 4 k78 fun b88 o89=>
       Go.Vw.ld W79 Ki b88 o89 fun n90=>
       Go.Vw.ld W79 Ki b88 (o89+1) fun n91=>
       Go.Vw.ld W79 Ki b88 (o89+2) fun n92=>
       Go.Vw.ld W79 .str b88 (o89+3) fun s93=>
       opF Pg (vS (do eqGuard .neq 97 (.tmp 131) (.tmp 134) (.agg #[(LV.toV (.int .i64 n90)),(LV.toV (.int .i64 n91)),(LV.toV (.int .i64 n92)),(LV.toV (.str s93))]) (.agg #[(LV.toV (.int .i64 0)),(LV.toV (.int .i64 0)),(LV.toV (.int .i64 (w64 ((-1)-i73)))),(LV.toV (.str []))]);binOp .neq 97 (.agg #[(LV.toV (.int .i64 n90)),(LV.toV (.int .i64 n91)),(LV.toV (.int .i64 n92)),(LV.toV (.str s93))]) (.agg #[(LV.toV (.int .i64 0)),(LV.toV (.int .i64 0)),(LV.toV (.int .i64 (w64 ((-1)-i73)))),(LV.toV (.str []))]))) W79 Ob fun c95 W94=>
       ifK c95
       (K (-1) W94)
       (g77 (w64 (k78+1)) W94))
      (k76 W79)) [.int .i64 0] W74) fun W96=>
    joinK [] (fun k97=>
     loopL [Ki] (fun k99 W100 g98=>
      Go.Vw.ld W100 .sl b3 1 fun a101=>
      ix a101 5 i73 fun b102 o103=>
      Go.Vw.ld W100 .sl b102 (o103+2+2) fun a104=>
      ifK (decide (k99<(a104.len:Int)))
      (Go.Vw.ld W100 .sl b3 1 fun a105=>
       ix a105 5 i73 fun b106 o107=>
       Go.Vw.ld W100 .sl b106 (o107+2+2) fun a108=>
       ix a108 1 k99 fun b109 o110=>
       Go.Vw.ld W100 (.int .u8) b109 o110 fun n111=>
       ifK (n111 != (IntKind.wrap .u8 (i73.tmod 251)))
       (K (-1) W100)
       (g98 (w64 (k99+1)) W100))
      (k97 W100)) [.int .i64 0] W96) fun W112=>
    g72 (w64 (i73+1)) W112)
   (k71 W74)) [.int .i64 0] w:=by
 have hll:=hF.ll;have hB0:Blk w b3 (pairC P s):=h.own (Lml _ hb3);have hro0:RdS w EPI s ps:=hF.row.rd fun p hp=>h.own (Lmr _ (Lmr _ hp));refine loop1 (k:=Ki) (fun (i:Int) u=>∃(j:Nat),i=(j:Int)∧j≤l.length∧Mod F0 w u) (fun i _=>(l.length-i).toNat) (x:=0) rfl ⟨0,rfl,Nzl _,Mod.refl _ _⟩ ?_;rintro i u ⟨j,rfl,hj,hM⟩;refine (hM.blk hB0 id).ldK (k:=.sl) s rfl ?_;rw [hF.row.1,hF.len];refine Iq (fun hlt=>?_) fun _=>hk71 u hM;have hlt:j<l.length:=dlt hlt;obtain⟨x,hx⟩:=Gq hlt;obtain⟨y,p,hy,hp,⟨V1,V2⟩,_⟩:=hF.get hx;have hlb:=hF.lb j x hx;have hfm:=flatY_mem hy;have r1:RdS w EBI p.sb x.blocks:=V1.rd fun p hp=>h.own (Lmr _ (Lml _ (hfm.1 p hp)));have r2:RdS w ET p.sd x.flt.data:=V2.rd fun p hp=>h.own (Lmr _ (Lml _ (hfm.2 p hp)));have sp:=hsp j x hx;refine join0 (fun v=>Mod F0 w v) ?_ ?_
 ·intro k hk;refine loop1 (k:=Ki) (fun (i:Int) v=>∃(c:Nat),i=(c:Int)∧c≤x.blocks.length∧Mod F0 w v) (fun i _=>(x.blocks.length-i).toNat) (x:=0) rfl ⟨0,rfl,Nzl _,hM⟩ ?_;rintro i v ⟨c,rfl,hc,hMv⟩;have hBv:=hMv.blk hB0 id;have hrv:=hro0.quiet hMv;have r1v:=r1.quiet hMv;refine hBv.ldK (k:=.sl) s rfl (hrv.ix rfl rfl hp fun b o _ hc1=>Lq (k:=.sl) p.sb (hc1 1 (by decide)) ?_);rw [r1.len];refine Iq (fun hlt=>?_) fun _=>hk v hMv;have hlt:c<x.blocks.length:=dlt hlt;obtain⟨g,hg⟩:=Gq hlt;refine hBv.ldK (k:=.sl) s rfl (hrv.ix rfl rfl hp fun b o _ hc1=>Lq (k:=.sl) p.sb (hc1 1 (by decide)) ?_);refine r1v.ix rfl rfl hg fun b o _ hc1=>Lq (k:=Ki) g.stored (hc1 0 (by decide)) (Lq (k:=Ki) g.raw (hc1 1 (by decide)) (Lq (k:=Ki) g.count (hc1 2 (by decide)) (Lq (k:=.str) g.cut (hc1 3 (by decide)) ?_)));have hgs:g=biS j:=sp.1 g (Lmg hg);have es:=step64 (i:=c) (by omega);exact bi_same (y:=biS j) hgs (ifK_f rfl ⟨⟨c+1,es,by omega,hMv⟩,by rw [es];omega⟩)
 intro v hMv;refine join0 (fun z=>Mod F0 w z) ?_ ?_
 ·intro k hk;refine loop1 (k:=Ki) (fun (i:Int) v=>∃(c:Nat),i=(c:Int)∧c≤x.flt.data.length∧Mod F0 w v) (fun i _=>(x.flt.data.length-i).toNat) (x:=0) rfl ⟨0,rfl,Nzl _,hMv⟩ ?_;rintro i v ⟨c,rfl,hc,hMv⟩;have hBv:=hMv.blk hB0 id;have hrv:=hro0.quiet hMv;have r2v:=r2.quiet hMv;refine hBv.ldK (k:=.sl) s rfl (hrv.ix rfl rfl hp fun b o _ hc1=>Lq (k:=.sl) p.sd (hc1 4 (by decide)) ?_);rw [r2.len];refine Iq (fun hlt=>?_) fun _=>hk v hMv;have hlt:c<x.flt.data.length:=dlt hlt;refine hBv.ldK (k:=.sl) s rfl (hrv.ix rfl rfl hp fun b o _ hc1=>Lq (k:=.sl) p.sd (hc1 4 (by decide)) ?_);refine r2v.byte rfl hlt fun b o _ hc1=>Lq (k:=.int .u8) ((x.flt.data[c]).toNat:Int) hc1 ?_;have hgs:x.flt.data[c]=dtS j:=sp.2 _ (List.getElem_mem hlt);rw [dtS_cell,hgs];have es:=step64 (i:=c) (by omega);exact ifK_f (Bsf _) ⟨⟨c+1,es,by omega,hMv⟩,by rw [es];omega⟩
 intro z hMz;have es:=step64 (i:=j) (by omega);exact⟨⟨j+1,es,by omega,hMz⟩,by rw [es];omega⟩
end
section
variable {w0 w:World}{bs q:Nat}{t:Str}{out:Bool}{M:BL}{b3:Nat}{P:Int}{s:Sl}{ro:BL}{Y:List (BL×BL)}{ps:List PI}{l:List PartI}
theorem wipe_loop{N:Nat}(hN:N≤65535)(h:SS w0 bs q t out (M++ro) w)(hb3:(b3,pairC P s)∈M)(hv:VecL ro EPI s ps)(hl:ps.length=N){k114:Wp}
  (hk:∀ro' ps' w',SS w0 bs q t out (M++ro') w'→VecL ro' EPI s ps'→ps'.length=N→k114 w') :
  loopL [Ki] (fun i116 W117 g115=>
   Go.Vw.ld W117 .sl b3 1 fun a118=>
   ifK (decide (i116<(a118.len:Int)))
   (Go.Vw.ld W117 .sl b3 1 fun a119=>
    ix a119 5 i116 fun b120 o121=>
    Go.Vw.st W117 b120 o121 [.int .i64 (-1),.sl (⟨none,0,0⟩),.lit false,.int .i64 0,.sl (⟨none,0,0⟩)] fun W122=>
    g115 (w64 (i116+1)) W122)
   (k114 W117)) [.int .i64 0] w:=by
 refine loop1 (k:=Ki) (fun (i:Int) u=>∃(j:Nat) (ro':BL) (ps':List PI),i=(j:Int)∧j≤N∧SS w0 bs q t out (M++ro') u∧VecL ro' EPI s ps'∧ps'.length=N) (fun i _=>(N-i).toNat) (x:=0) rfl ⟨0,ro,ps,rfl,Nzl _,h,hv,hl⟩ ?_;rintro i u ⟨j,ro',ps',rfl,hj,hu,hv1,hl1⟩;have hB:Blk u b3 (pairC P s):=hu.own (Lml _ hb3);refine hB.ldK (k:=.sl) s rfl ?_;rw [hv1.1,hl1];refine Iq (fun hlt=>?_) fun _=>hk ro' ps' u hu hv1 hl1;have hlt:j<N:=dlt hlt;refine hB.ldK (k:=.sl) s rfl ?_;obtain⟨x,hx⟩:=Gq (l:=ps') (i:=j) (by omega);have hrd:=hv1.rd fun p hp=>hu.own (Lmr _ hp);obtain⟨b,o,hp,hlt2,_⟩:=hrd.at hx;refine ix_some hp (by omega) (by rw [hv1.1];omega) ?_ hv1.2.1;have es:=step64 (i:=j) (by omega);refine hu.base.setL hv1 (k:=j) (by omega) (y:=⟨-1,⟨none,0,0⟩,false,0,⟨none,0,0⟩⟩) rfl hp fun ro2 w2 hA2 hv2 _=>⟨⟨j+1,ro2,_,es,by omega,hu.put hA2,hv2,by rw [List.length_set];exact hl1⟩,by rw [es];omega⟩
set_option maxHeartbeats 1000000 in
theorem spoilt_ok(h:SS w0 bs q t out (M++(flatY Y++ro)) w)(hF:FootS ro Y s ps l){K:Int→Wp}(hK:∀n w',0≤n→SS w0 bs q t out M w'→K n w') :
  callK Pg c_166 [.agg [.int .i64 P,.sl s]] w Oi K:=by
 refine go_166 _ _ _ _ ?_;refine h.alK fun b3 w1 h1 _=>?_;have h1:SS w0 bs q t out ((M++[(b3,pairC P s)])++(flatY Y++ro)) w1:=SS.perm h1 (perm_mid M [(b3,pairC P s)] (flatY Y++ro)).symm;have hK':∀n w' X,0≤n→SS w0 bs q t out ((M++[(b3,pairC P s)])++X) w'→K n w':=fun n w' X hn hs=>hK n w' hn (hs.sub ((Lsl _ _).trans (Lsl _ _)));have hb3:(b3,pairC P s)∈M++[(b3,pairC P s)]:=by simp
 generalize M++[(b3,pairC P s)]=M3 at h1 hK' hb3;have hll:=hF.ll;refine join0 (fun v=>∃Y' l',SS w0 bs q t out (M3++(flatY Y'++ro)) v∧FootS ro Y' s ps l'∧l'.length=l.length∧∀(i:Nat) x,l'[i]? = some x→Sp i x) (fun k hk=>spoil_loop h1 hb3 hF fun Y' l' w' a b c d=>hk w' ⟨Y',l',a,b,c,d⟩) ?_;rintro v ⟨Y1,l1,v1,v2,v3,v4⟩;refine join1 (a:=Ki) (fun (n:Int) z=>0≤n∧n≤40000000000∧∃j Y',SS w0 bs q t out (M3++(flatY Y'++ro)) z∧FootM j ro Y' s ps l1) (fun k hk=>grown_loop v1 hb3 v2.toM fun j Y' n z a b c d=>hk n z ⟨a,b,j,Y',c,d⟩) ?_;rintro n z ⟨hn0,hn1,j,Y2,z1,z2⟩;refine join0 (fun u=>Mod F0 z u) (fun k hk=>look_loop z1 hb3 z2 v4 fun u hu=>hk u hu) ?_;intro u hM;have u1:SS w0 bs q t out (M3++ro) u:=(z1.quiet hM).sub (List.Sublist.append_left (Lsr _ _) _);have hlen:ps.length=l.length:=by rw [v2.len,v3]
 refine join0 (fun a=>∃ro' ps',SS w0 bs q t out (M3++ro') a∧VecL ro' EPI s ps'∧ps'.length=l.length) (fun k hk=>wipe_loop hll u1 hb3 v2.row hlen fun ro' ps' a x y z=>hk a ⟨ro',ps',x,y,z⟩) ?_;rintro a ⟨ro',ps',a1,a2,a3⟩;have hB:Blk a b3 (pairC P s):=a1.own (Lml _ hb3);refine hB.ldK (k:=.sl) s rfl ?_;refine join1 (a:=.sl) (fun (x:Sl) c=>x.len=ps'.length+64∧SS w0 bs q t out (M3++[]) c) ?_ ?_
 ·intro k hk;refine grow_loop (E:=EPI) a1.base a2 (y:=⟨-2,⟨none,0,0⟩,false,0,⟨none,0,0⟩⟩) rfl rfl rfl (by
   have:(ps'.length+2048)*(72+1)≤(65535+2048)*(72+1):=Nat.mul_le_mul_right _ (by omega);exact Nat.le_trans this (by decide)) fun x old ro2 c hA hv _=>hk x c ⟨by rw [hv.1];simp,?_⟩
  rw [Lan];exact (a1.put hA).sub ((Lsl _ _).trans (Lsl _ _))
 rintro x c ⟨hx,hc⟩;refine hK' _ c [] ?_ hc;rw [Wq (by omega) (by omega)];omega
end
end Go.Proofs.YtkofkhjcfjoceaaGreat
