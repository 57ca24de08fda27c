/- Part T11. -/
import Derived.Test.YtkgligdkihlfaaaGreatT10
import Derived.Test.YtkgligdkihlfaaaGreatT09
import Derived.Test.YtkgligdkihlfaaaGreatT03
namespace Go.Proofs.YtkgligdkihlfaaaGreat
open Go.Vw
theorem numM_put{b:Str}{at_ most n:Nat}(hn:n<9223372036854775808)(hm:n≤most){r:Str}(h:b.drop at_=putN n++r):numM b at_ most=some (n,at_+(putN n).length):=by
 unfold numM;rw [h,getN_put hn];dsimp only;rw [if_neg (fun h=>by rcases h with h | h;exact h rfl;omega)]
theorem entR_put{b:Str}(R:Nat):∀(l:List (Str×Str)) (i:Nat) (key:Str) (at_:Nat) (l0:List (Str×Str)) (rest:Str),chainN i key l→key.length≤1024→b.drop at_=bytesL R i key l++rest→at_≤b.length→entR b l.length key at_ l0=some (l0++l)
 | [],i,key,at_,l0,rest,_,_,_,_=>by simp [entR]
 | x::l,i,key,at_,l0,rest,hch,hk,hd,ha=>by
  obtain⟨c1,c2,c3,c4⟩:=hch;have hsk:sharedN R i key x≤key.length∧sharedN R i key x≤x.1.length∧key.take (sharedN R i key x)=x.1.take (sharedN R i key x):=by
   unfold sharedN;split
   ·exact⟨Nzl _,Nzl _,rfl⟩
   ·have:=comN_le key x.1;exact⟨by omega,by omega,comN_take key x.1⟩
  rw [bytesL] at hd;have hdl:b.length-at_=(entN (sharedN R i key x) x++bytesL R (i+1) x.1 l++rest).length:=by rw [←hd,Lld]
  have hent:entN (sharedN R i key x) x=putN (sharedN R i key x)++putN (x.1.length-sharedN R i key x)++putN x.2.length++x.1.drop (sharedN R i key x)++x.2:=rfl;generalize sharedN R i key x=s at hd hdl hsk hent;have hel:(entN s x).length=(putN s).length+(putN (x.1.length-s)).length+(putN x.2.length).length+(x.1.length-s)+x.2.length:=by
   rw [hent];simp only [Lla,Lld]
  have hle:at_+(entN s x).length≤b.length:=by
   rw [Lla,Lla] at hdl;omega
  rw [Llc,entR];have n1:=numM_put (b:=b) (at_:=at_) (n:=s) (most:=key.length) (by omega) hsk.1 (r:=putN (x.1.length-s)++(putN x.2.length++(x.1.drop s++(x.2++(bytesL R (i+1) x.1 l++rest))))) (by rw [hd,hent];simp);have d2:b.drop (at_+(putN s).length)=putN (x.1.length-s)++(putN x.2.length++(x.1.drop s++(x.2++(bytesL R (i+1) x.1 l++rest)))):=by
   rw [←List.drop_drop,hd,hent];simp
  have n2:=numM_put (b:=b) (at_:=at_+(putN s).length) (n:=x.1.length-s) (most:=1024-s) (by omega) (by omega) d2;have d3:b.drop (at_+(putN s).length+(putN (x.1.length-s)).length)=putN x.2.length++(x.1.drop s++(x.2++(bytesL R (i+1) x.1 l++rest))):=by
   rw [←List.drop_drop,d2,List.drop_left]
  have n3:=numM_put (b:=b) (n:=x.2.length) (most:=1024) (by omega) (by omega) d3;have d4:b.drop (at_+(putN s).length+(putN (x.1.length-s)).length+(putN x.2.length).length)=x.1.drop s++(x.2++(bytesL R (i+1) x.1 l++rest)):=by
   rw [←List.drop_drop,d3,List.drop_left]
  have hdsl:(x.1.drop s).length=x.1.length-s:=by rw [Lld]
  have d5:b.drop (at_+(putN s).length+(putN (x.1.length-s)).length+(putN x.2.length).length+(x.1.length-s))=x.2++(bytesL R (i+1) x.1 l++rest):=by
   rw [←List.drop_drop,d4,←hdsl,List.drop_left]
  have d6:b.drop (at_+(putN s).length+(putN (x.1.length-s)).length+(putN x.2.length).length+(x.1.length-s)+x.2.length)=bytesL R (i+1) x.1 l++rest:=by
   rw [←List.drop_drop,d5,List.drop_left]
  rw [n1];dsimp only;rw [n2];dsimp only;rw [n3];dsimp only;rw [if_neg (by omega),d4,d5];have t1:(x.1.drop s++(x.2++(bytesL R (i+1) x.1 l++rest))).take (x.1.length-s)=x.1.drop s:=by rw [←hdsl,List.take_left]
  have t2:(x.2++(bytesL R (i+1) x.1 l++rest)).take x.2.length=x.2:=List.take_left;have t3:key.take s++x.1.drop s=x.1:=by rw [hsk.2.2,List.take_append_drop]
  rw [t1,t2,t3,entR_put R l (i+1) x.1 _ (l0++[(x.1,x.2)]) rest c4 c1 d6 (by omega)];simp
theorem adj_srt:∀{l:List (Str×Str)},srtE l→adjN l=true
 | [],_=>rfl
 | [_],_=>rfl
 | x::y::r,h=>by
  rw [adjN,Bat,Bool.not_eq_true',decide_eq_false_iff_not];have h1:=List.pairwise_cons.1 h;refine⟨fun hn=>?_,adj_srt h1.2⟩;have:=h1.1 y (Lcs ..);have:=cmpN_neg x.1 y.1;omega
theorem srt_adj:∀{l:List (Str×Str)},adjN l=true→srtE l
 | [],_=>List.Pairwise.nil
 | [x],_=>List.pairwise_singleton _ _
 | x::y::r,h=>by
  rw [adjN,Bat,Bool.not_eq_true',decide_eq_false_iff_not] at h;have ih:=srt_adj h.2;have hxy:cmpN x.1 y.1≤0:=by have:=cmpN_neg x.1 y.1;omega
  refine List.pairwise_cons.2 ⟨fun z hz=>?_,ih⟩;rcases List.mem_cons.1 hz with rfl | hz
  ·exact hxy
  ·exact cmpN_le hxy ((List.pairwise_cons.1 ih).1 z hz)
theorem chain_srt:∀(l:List (Str×Str)) (i:Nat) (prev:Str),srtE l→(∀x∈l,x.1.length≤1024∧x.2.length≤1024)→(i≠0→∀x∈l,cmpN prev x.1≤0)→chainN i prev l
 | [],_,_,_,_,_=>trivial
 | x::r,i,prev,h,hl,hp=>by
  have h1:=List.pairwise_cons.1 h;refine⟨(hl x (Lcs ..)).1,(hl x (Lcs ..)).2,fun hi=>?_,chain_srt r (i+1) x.1 h1.2 (fun y hy=>hl y (Lmc _ hy)) fun _ y hy=>h1.1 y hy⟩;have:=hp hi x (Lcs ..);have:=cmpN_neg prev x.1;omega
theorem parsed_raw{raw:Str}{R:Nat}{l:List (Str×Str)}(h:parsedN raw=some (R,l)):rawN l R=raw∧wordN ((raw.take (raw.length-4)).drop (raw.length-8))=R∧wordN (raw.drop (raw.length-4))=l.length∧8≤raw.length:=by
 unfold parsedN at h;dsimp only at h;split at h
 ·cases h
 rename_i h8;split at h
 ·cases h
 rename_i hq;split at h
 ·cases h
 rename_i hfr;split at h
 ·cases h
 rename_i y hy;split at h
 ·cases h
 rename_i hd;cases h;have i1:raw.length-8+4=raw.length-4:=by omega
 rw [i1] at hy hq hfr ⊢;generalize hR:wordN ((raw.take (raw.length-4)).drop (raw.length-8))=R at hq hfr hy ⊢;generalize hn:wordN (raw.drop (raw.length-4))=n at hq hfr hy ⊢;obtain⟨r,c'⟩:=y;have hR1:1≤R:=by omega
 have hcp:(n+R-1)/R=cntP R n:=rfl;rw [hcp] at hfr hy;obtain⟨l,e1,e2,e3,e4,e5⟩:=entRun_inv hR1 n 0 [] _ [] hy rfl rfl (by omega) (Nzl _) (by rw [Nat.zero_add];omega);rw [List.nil_append] at e1;subst e1;have hd:c'.done.1=0:=by simpa using hd
 have hce:c'.e=0:=by rw [e4]
 have hleft:c'.left=[]:=by
  unfold Cu.done at hd;rw [if_neg (by simpa using hce)] at hd;split at hd
  ·cases hd
  ·unfold Cu.left;exact Ldn (by omega)
 rw [hleft,Lan] at e3;have e3:raw.take (raw.length-8-4*cntP R n)=bytesL R 0 [] r:=e3;rw [cntP_zero hR1,Nat.mul_zero,Nat.add_zero] at e5;have e5:(raw.drop (raw.length-8-4*cntP R n)).take (placesL R 0 [] 0 r).length=placesL R 0 [] 0 r:=e5;have hpl:=placesL_len hR1 r 0 [] 0;rw [cntP_zero hR1,Nat.zero_add,e2] at hpl;have hpl:(placesL R 0 [] 0 r).length=4*cntP R n:=by omega
 refine⟨?_,rfl,e2.symm,by omega⟩;rw [rawN_eq,e2];have f1:fixN R 4=(raw.take (raw.length-4)).drop (raw.length-8):=by
  rw [←hR];exact fix_wordN (by rw [Lld,Llt];omega)
 have f2:fixN n 4=raw.drop (raw.length-4):=by
  rw [←hn];exact fix_wordN (by rw [Lld];omega)
 rw [f1,f2,←e3,←e5,hpl];have s1:raw.take (raw.length-8-4*cntP R n)++(raw.drop (raw.length-8-4*cntP R n)).take (4*cntP R n)=raw.take (raw.length-8):=by
  rw [←take_split];congr 1;omega
 have s2:raw.take (raw.length-8)++(raw.take (raw.length-4)).drop (raw.length-8)=raw.take (raw.length-4):=by
  have:raw.take (raw.length-8)=(raw.take (raw.length-4)).take (raw.length-8):=by rw [List.take_take];congr 1;omega
  rw [this,List.take_append_drop]
 rw [s1,s2,List.take_append_drop]
theorem raw_parsed{l:List (Str×Str)}{R:Nat}(hR:1≤R)(hR2:R≤64)(hl:1≤l.length)(hch:chainN 0 [] l)(hlen:(rawN l R).length<4294967296):parsedN (rawN l R)=some (R,l):=by
 have hpl:=placesL_len hR l 0 [] 0;rw [cntP_zero hR,Nat.zero_add] at hpl;have hpl:(placesL R 0 [] 0 l).length=4*cntP R l.length:=by omega
 have hbl:=bytesL_len R l 0 [];have e:=rawN_eq l R;generalize rawN l R=raw at hlen e ⊢;have f4:=fixN_length R 4;have n4:=fixN_length l.length 4;have hrl:raw.length=(bytesL R 0 [] l).length+4*cntP R l.length+8:=by rw [e];simp only [Lla,hpl,f4,n4]
 have w1:(raw.take (raw.length-8+4)).drop (raw.length-8)=fixN R 4:=by
  rw [List.drop_take,Nat.add_sub_cancel_left];have:raw.drop (raw.length-8)=fixN R 4++fixN l.length 4:=by
   rw [e,Laa];exact List.drop_left' (by simp only [Lla,hpl,f4,n4];omega)
  rw [this,List.take_left' f4]
 have w2:raw.drop (raw.length-8+4)=fixN l.length 4:=by
  rw [e];exact List.drop_left' (by simp only [Lla,hpl,f4,n4];omega)
 have v1:=wordN_fix (v:=R) (by omega) [];rw [Lan,Ltl (by omega)] at v1;have v2:=wordN_fix (v:=l.length) (by omega) [];rw [Lan,Ltl (by omega)] at v2;unfold parsedN;dsimp only;rw [w1,w2,v1,v2,if_neg (by omega),if_neg (by omega)];have hcp:(l.length+R-1)/R=cntP R l.length:=rfl;rw [hcp,if_neg (by omega)];have hfr:raw.length-8-4*cntP R l.length=(bytesL R 0 [] l).length:=by omega
 rw [hfr];have htk:raw.take (bytesL R 0 [] l).length=bytesL R 0 [] l:=by
  rw [e,Laa,Laa];exact List.take_left' rfl
 have hput:=entRun_put (raw:=raw) (fr:=(bytesL R 0 [] l).length) hR hlen l 0 [] ⟨raw.take (bytesL R 0 [] l).length,0,0⟩ [] [] hch rfl (by unfold Cu.left;rw [htk];simp) rfl (by omega) (Nzl _) (by rw [Nat.zero_add];omega) (by
  rw [cntP_zero hR,Nat.mul_zero,Nat.add_zero,e,Laa,Laa,List.drop_left' rfl];exact List.take_left' rfl)
 rw [hput];dsimp only;have hdn:(Cu.mk (raw.take (bytesL R 0 [] l).length) (0+(bytesL R 0 [] l).length) 0).done.1=0:=by
  unfold Cu.done;dsimp only;rw [if_neg (fun h=>h rfl),if_neg (by rw [htk];omega)]
 rw [if_neg (by rw [hdn];exact fun h=>h rfl),List.nil_append]
theorem parse_law{raw:Str}(hraw:raw.length<4294967296):parseR raw=(parsedN raw).map Prod.snd:=by
 cases h:parsedN raw with
 | some x=>
  obtain⟨R,l⟩:=x;obtain⟨h1,h2,h3,h8⟩:=parsed_raw h;have hs:=parsedN_srt h;have hs1:1≤R:=hs.1;have hs2:R≤64:=hs.2.1;have hs3:1≤l.length:=hs.2.2.1;have hs4:3*l.length≤raw.length:=hs.2.2.2.1;show parseR raw=some l;unfold parseR;rw [if_neg (by omega),h2,h3,if_neg (by omega)];have hch:=chain_srt l 0 [] hs.2.2.2.2.1 hs.2.2.2.2.2 (fun h=>absurd rfl h);have hen:=entR_put (b:=raw.take (raw.length-8)) R l 0 [] 0 [] (placesL R 0 [] 0 l) hch (Nzl _) (by
   rw [List.drop_zero];have hrl:raw.length-8=(bytesL R 0 [] l++placesL R 0 [] 0 l).length:=by
    have:=congrArg List.length h1;rw [rawN_eq] at this;have f1:=fixN_length R 4;have f2:=fixN_length l.length 4;rw [Lla,Lla,f1,f2] at this;omega
   have e:=rawN_eq l R;rw [h1] at e;rw [hrl]
   conv=>lhs;rw [e]
   rw [Laa];exact List.take_left' rfl) (Nzl _)
  rw [hen];dsimp only;rw [List.nil_append,if_neg (by rw [adj_srt hs.2.2.2.2.1];decide),if_pos h1]
 | none=>
  show parseR raw=none
  cases h2:parseR raw with
  | none=>rfl
  | some l=>
   exfalso;have hlen:=parseR_len h2;unfold parseR at h2;split at h2
   ·cases h2
   split at h2
   ·cases h2
   rename_i hq;split at h2
   ·cases h2
   split at h2
   ·cases h2
   split at h2
   ·rename_i hrw;cases h2;have hch:=chain_srt l 0 [] (srt_adj hlen.2.2.2) hlen.2.2.1 (fun h=>absurd rfl h);have:=raw_parsed (l:=l) (R:=wordN ((raw.take (raw.length-4)).drop (raw.length-8))) (by omega) (by omega) hlen.1 hch (by rw [hrw];exact hraw);rw [hrw,h] at this;cases this
   ·cases h2
theorem tokRun_full{b:Str}{n k at_ size:Nat}{ts:List Tk}(h1:¬size<n)(h2:at_≠b.length):tokRun b n k at_ size ts=none:=by
 cases k with
 | zero=>rfl
 | succ k=>rw [tokRun,if_pos h1,if_neg h2]
theorem num_numR{b:Str}{at_:Nat}{m:Int}(hm:m≤65536):(numR b at_=none→((Cu.mk b at_ 0).num m).2.e≠0)∧∀y,numR b at_=some y→((y.1:Int)≤m→(Cu.mk b at_ 0).num m=((y.1:Int),⟨b,y.2,0⟩))∧(m<(y.1:Int)→((Cu.mk b at_ 0).num m).2.e≠0):=by
 have hl:(Cu.mk b at_ 0).left=b.drop at_:=rfl;unfold Cu.num numR;rw [if_neg (fun h:(Cu.mk b at_ 0).e≠0=>h rfl),hl];generalize getN (b.drop at_)=g;dsimp only;by_cases hg:g.2.2=0
 ·by_cases hb:m<(g.1:Int)
  ·rw [if_pos (c:=g.2.2=0∧m<(g.1:Int)) ⟨hg,hb⟩];unfold Cu.go;rw [if_neg (by decide:¬(23:Int)=0),if_neg (by decide:¬(23:Int)=0)];refine⟨fun _=>by show (23:Int)≠0;decide,fun y h=>⟨fun hy=>?_,fun _=>by show (23:Int)≠0;decide⟩⟩;split at h
   ·cases h
   ·cases h;exfalso;have:((g.1:Nat):Int)≤m:=hy;omega
  ·rw [if_neg (fun h:g.2.2=0∧m<(g.1:Int)=>hb h.2),if_pos hg];unfold Cu.go;rw [if_pos hg,if_neg (c:=g.2.2≠0∨65536<g.1) (by rintro (h | h)<;>omega)];refine⟨fun h=>(by cases h),fun y h=>?_⟩;cases h;exact And.intro (fun _=>rfl) (fun h=>absurd h hb)
 ·rw [if_neg (fun h:g.2.2=0∧m<(g.1:Int)=>hg h.1),if_neg hg];unfold Cu.go;rw [if_neg hg,if_pos (.inl hg)];exact⟨fun _=>hg,fun y h=>(by cases h)⟩
theorem mk_rest(b:Str)(at_:Nat):(Cu.mk b at_ 0).rest=b.length-at_:=by
 unfold Cu.rest;rw [if_neg (fun h:(Cu.mk b at_ 0).e≠0=>h rfl)];exact Lld
theorem numR_end{b:Str}{at_:Nat}(h:b.length≤at_):numR b at_=none:=by
 unfold numR;rw [Ldn h];exact if_pos (.inl (by show (20:Int)≠0;decide))
theorem lzTok_e{n made:Nat}{c:Cu}(hc:c.fine)(h:lzOk n made (lzTok n made c)=true):(lzTok n made c).2.2.2.e=0:=by
 have hd:(lzTok n made c).2.2.2.done.1=0∨(lzTok n made c).2.2.2.done.1=22:=by
  unfold lzOk at h;simp only [Bat,Bool.or_eq_true,beq_iff_eq] at h;exact h.1.1.1
 refine done_fine ?_ hd;unfold lzTok;dsimp only;split
 ·exact num_fine (num_fine (take_fine (num_fine hc _) _) _) _
 ·exact take_fine (num_fine hc _) _
theorem lz_run{b:Str}{n:Nat}(hn:n≤65536):∀(k at_:Nat) (text:Str) (ts:List Tk),at_≤b.length→text.length≤n →
  (lzRun n k text ⟨b,at_,0⟩=none∧tokRun b n k at_ text.length ts=none)∨∃r x,lzRun n k text ⟨b,at_,0⟩=some x∧tokRun b n k at_ text.length ts=some (ts++r)∧expRun r text=some x∧(r=[]↔text.length=n)
 | 0,_,_,_,_,_=>.inl ⟨rfl,rfl⟩
 | k+1,at_,text,ts,ha,ht=>by
  rw [lzRun,mk_rest];by_cases h0:b.length-at_=0
  ·rw [if_pos h0];by_cases hf:text.length=n
   ·have hd:(Cu.mk b at_ 0).done.1=0:=by
     unfold Cu.done;rw [if_neg (fun h:(Cu.mk b at_ 0).e≠0=>h rfl),if_neg (by show ¬at_<b.length;omega)]
    rw [if_pos ⟨hf,hd⟩,tokRun,if_pos (by omega),if_pos (by omega)];exact .inr ⟨[],text,rfl,by rw [Lan],rfl,iff_of_true rfl hf⟩
   ·rw [if_neg (fun h=>hf h.1),tokRun,if_neg (by omega),numR_end (by omega)];exact .inl ⟨rfl,rfl⟩
  rw [if_neg h0];dsimp only;by_cases hf:text.length=n
  ·left;refine⟨if_neg fun h=>?_,tokRun_full (by omega) (by omega)⟩;have:=lzOk_spec h;omega
  have hfine:(Cu.mk b at_ 0).fine:=.inl rfl;have hlz:∀{P:Prop},(lzOk n text.length (lzTok n text.length ⟨b,at_,0⟩)=true→False)→(if lzOk n text.length (lzTok n text.length ⟨b,at_,0⟩)=true then lzRun n k (againN (lzTok n text.length ⟨b,at_,0⟩).2.1.toNat (lzTok n text.length ⟨b,at_,0⟩).2.2.1.toNat (text++(lzTok n text.length ⟨b,at_,0⟩).1)) (lzTok n text.length ⟨b,at_,0⟩).2.2.2 else none)=none:=fun h=>if_neg h;have he:=@lzTok_e n text.length ⟨b,at_,0⟩ hfine;rw [tokRun,if_neg (c:=¬text.length<n) (by omega)];obtain⟨q1,q2⟩:=@num_numR b at_ ((n:Int)-text.length) (by omega);have hterr:((Cu.mk b at_ 0).num ((n:Int)-text.length)).2.e≠0∨(((Cu.mk b at_ 0).num ((n:Int)-text.length)).2.take ((Cu.mk b at_ 0).num ((n:Int)-text.length)).1).2.e≠0→lzOk n text.length (lzTok n text.length ⟨b,at_,0⟩)=true→False:=by
   intro h1 h2;have h3:=he h2;have h4:(((Cu.mk b at_ 0).num ((n:Int)-text.length)).2.take ((Cu.mk b at_ 0).num ((n:Int)-text.length)).1).2.e=0:=by
    unfold lzTok at h3;dsimp only at h3;split at h3
    ·exact num_e0 (num_e0 h3)
    ·exact h3
   rcases h1 with h1 | h1
   ·exact h1 (take_e0 h4)
   ·exact h1 h4
  cases hnum:numR b at_ with
  | none=>exact .inl ⟨if_neg (hterr (.inl (q1 hnum))),rfl⟩
  | some l=>
   obtain⟨q3,q4⟩:=q2 l hnum;have hl:=numR_le ha hnum;dsimp only;by_cases hbad:b.length-l.2<l.1∨n<text.length+l.1
   ·rw [if_pos hbad];refine .inl ⟨if_neg (hterr ?_),rfl⟩;by_cases hb2:n<text.length+l.1
    ·exact .inl (q4 (by omega))
    ·right;rw [q3 (by omega)];dsimp only;intro h;have:=(take_inv h).1;have:=congrArg List.length this;have h9:=(take_inv h).2.1;rw [Lla,h9] at this;have e:(Cu.mk b l.2 0).left.length=b.length-l.2:=Lld;omega
   rw [if_neg hbad];have hx:=q3 (by omega);have hly:((b.drop l.2).take l.1).length=l.1:=by rw [Llt,Lld];omega
   have hy:(Cu.mk b l.2 0).take (l.1:Int)=((b.drop l.2).take l.1,⟨b,l.2+l.1,0⟩):=by
    have:=take_put (c:=Cu.mk b l.2 0) rfl (s:=(b.drop l.2).take l.1) (r:=(b.drop l.2).drop l.1) (List.take_append_drop _ _).symm;rw [hly] at this;exact this
   have htok:lzTok n text.length ⟨b,at_,0⟩=if 0<b.length-(l.2+l.1) then
     ((b.drop l.2).take l.1,((((Cu.mk b (l.2+l.1) 0).num 255).2).num ((min 32768 (text.length+l.1):Nat):Int)).1,((Cu.mk b (l.2+l.1) 0).num 255).1+4,((((Cu.mk b (l.2+l.1) 0).num 255).2).num ((min 32768 (text.length+l.1):Nat):Int)).2)
     else ((b.drop l.2).take l.1,0,0,⟨b,l.2+l.1,0⟩):=by
    unfold lzTok;dsimp only;rw [hx];dsimp only;rw [hy];dsimp only;rw [mk_rest,hly]
   by_cases hr:0<b.length-(l.2+l.1)
   ·rw [if_pos hr] at htok;by_cases hsz:text.length+l.1<n
    ·rw [if_pos hsz];obtain⟨m1,m2⟩:=@num_numR b (l.2+l.1) 255 (by decide);have hze:((Cu.mk b (l.2+l.1) 0).num 255).2.e≠0∨((((Cu.mk b (l.2+l.1) 0).num 255).2).num ((min 32768 (text.length+l.1):Nat):Int)).2.e≠0→lzOk n text.length (lzTok n text.length ⟨b,at_,0⟩)=true→False:=by
      intro h1 h2;have h3:=he h2;rw [htok] at h3;rcases h1 with h1 | h1
      ·exact h1 (num_e0 h3)
      ·exact h1 h3
     cases hm:numR b (l.2+l.1) with
     | none=>exact .inl ⟨if_neg (hze (.inl (m1 hm))),rfl⟩
     | some m=>
      obtain⟨m3,m4⟩:=m2 m hm;have hml:=numR_le (by omega) hm;dsimp only;obtain⟨d1,d2⟩:=@num_numR b m.2 ((min 32768 (text.length+l.1):Nat):Int) (by omega);by_cases hm255:(m.1:Int)≤255
      ·have hz:=m3 hm255
       cases hd:numR b m.2 with
       | none=>
        refine .inl ⟨if_neg (hze (.inr ?_)),rfl⟩;rw [hz];exact d1 hd
       | some d=>
        obtain⟨d3,d4⟩:=d2 d hd;have hdl:=numR_le hml.2 hd;dsimp only;by_cases hdd:(d.1:Int)≤((min 32768 (text.length+l.1):Nat):Int)
        ·have hu:=d3 hdd;rw [hz] at htok;dsimp only at htok;rw [hu] at htok;dsimp only at htok;by_cases hC:text.length+l.1+m.1+4≤n∧1≤d.1
         ·have hok:lzOk n text.length (lzTok n text.length ⟨b,at_,0⟩)=true:=by
           rw [htok];unfold lzOk rightT;dsimp only;rw [hly];have hdone:((Cu.mk b d.2 0).done.1==0||(Cu.mk b d.2 0).done.1==22)=true:=by
            unfold Cu.done;rw [if_neg (fun h:(Cu.mk b d.2 0).e≠0=>h rfl)];split<;>rfl
           rw [hdone,if_neg (by omega)];simp only [Bool.true_and,Bat,Det,Bool.not_eq_true',Bool.and_eq_false_iff,decide_eq_false_iff_not];exact⟨⟨by omega,by omega⟩,.inl (by omega)⟩
          have hfit:∀q,fitsN l.1 d.1 (m.1+4) text.length q=true:=fun q=>by
           unfold fitsN;rw [if_neg (by omega),Det];omega
          rw [if_pos hok,if_neg (by omega),if_pos (hfit _),htok];dsimp only;have e1:((d.1:Nat):Int).toNat=d.1:=Itn _;have e2:(((m.1:Nat):Int)+4).toNat=m.1+4:=by omega
          rw [e1,e2];have hal:(againN d.1 (m.1+4) (text++(b.drop l.2).take l.1)).length=text.length+l.1+(m.1+4):=by rw [againN_length,Lla,hly]
          have ih:=lz_run hn k d.2 (againN d.1 (m.1+4) (text++(b.drop l.2).take l.1)) (ts++[⟨(b.drop l.2).take l.1,d.1,m.1+4⟩]) hdl.2 (by omega);rw [hal] at ih;rcases ih with⟨i1,i2⟩ | ⟨r,x,i1,i2,i3,i4⟩
          ·exact .inl ⟨i1,i2⟩
          ·refine .inr ⟨⟨(b.drop l.2).take l.1,d.1,m.1+4⟩::r,x,i1,by rw [i2];simp,?_,iff_of_false (by simp) hf⟩;rw [expRun,if_neg (by dsimp only;rw [hly,hfit];decide),if_neg (by dsimp only;omega)];exact i3
         ·left;refine⟨if_neg fun h=>?_,?_⟩
          ·rw [htok] at h;unfold lzOk rightT at h;dsimp only at h;rw [hly] at h;simp only [Bat,Det] at h;have h1:=h.1.2;have h2:=h.1.1.2;rw [if_neg (by omega),Det] at h2;omega
          ·by_cases hn2:n<text.length+l.1+m.1+4
           ·exact if_pos hn2
           ·rw [if_neg hn2,if_neg];unfold fitsN;rw [if_neg (by omega),Det];omega
        ·left;refine⟨if_neg (hze (.inr ?_)),?_⟩
         ·rw [hz];exact d4 (by omega)
         ·by_cases hn2:n<text.length+l.1+m.1+4
          ·exact if_pos hn2
          ·rw [if_neg hn2,if_neg];unfold fitsN;rw [if_neg (by omega),Det];omega
      ·left;refine⟨if_neg (hze (.inl (m4 (by omega)))),?_⟩
       cases hd:numR b m.2 with
       | none=>rfl
       | some d=>
        dsimp only;by_cases hn2:n<text.length+l.1+m.1+4
        ·exact if_pos hn2
        ·rw [if_neg hn2,if_neg];unfold fitsN;rw [if_neg (by omega),Det];omega
    ·rw [if_neg hsz];left;refine⟨if_neg fun h=>?_,?_⟩
     ·have hs:=lzOk_spec h;rw [htok] at hs;dsimp only at hs;rw [hly] at hs;have hge:0≤((Cu.mk b (l.2+l.1) 0).num 255).1:=by
       unfold Cu.num;rw [if_neg (fun h:(Cu.mk b (l.2+l.1) 0).e≠0=>h rfl)];dsimp only
       repeat' split
       all_goals first | exact Int.natCast_nonneg _ | exact Int.le_refl _
      omega
     ·split
      ·exact tokRun_full (by omega) (by omega)
      ·rfl
   ·rw [if_neg hr] at htok;by_cases hsz:text.length+l.1<n
    ·rw [if_pos hsz,numR_end (by omega)];left;refine⟨if_neg fun h=>?_,rfl⟩;rw [htok] at h;unfold lzOk at h;dsimp only at h;rw [hly] at h;simp only [Bat,Bool.not_eq_true',Bool.and_eq_false_iff,decide_eq_false_iff_not] at h;rcases h.2 with h | h
     ·exact h (by simp)
     ·omega
    ·rw [if_neg hsz];have hfit:fitsN l.1 0 0 text.length (text.length+l.1==n)=true:=by
      unfold fitsN;rw [if_pos ⟨rfl,rfl⟩,Bat,beq_iff_eq,Det];omega
     have hok:lzOk n text.length (lzTok n text.length ⟨b,at_,0⟩)=true:=by
      rw [htok];unfold lzOk rightT;dsimp only;rw [hly,mk_rest,if_pos ⟨rfl,rfl⟩];have hdone:(Cu.mk b (l.2+l.1) 0).done.1=0:=by
       unfold Cu.done;rw [if_neg (fun h:(Cu.mk b (l.2+l.1) 0).e≠0=>h rfl),if_neg (by show ¬l.2+l.1<b.length;omega)]
      rw [hdone];simp only [Bat,Bool.or_eq_true,beq_iff_eq,Det,Bool.not_eq_true',Bool.and_eq_false_iff,decide_eq_false_iff_not];exact⟨⟨⟨.inl trivial,by omega,by omega⟩,by omega⟩,.inr (by omega)⟩
     rw [if_pos hfit,if_pos hok,htok];dsimp only;have e0:againN (0:Int).toNat (0:Int).toNat (text++(b.drop l.2).take l.1)=text++(b.drop l.2).take l.1:=rfl;rw [e0];have hal:(text++(b.drop l.2).take l.1).length=text.length+l.1:=by rw [Lla,hly]
     have ih:=lz_run (b:=b) hn k (l.2+l.1) (text++(b.drop l.2).take l.1) (ts++[⟨(b.drop l.2).take l.1,0,0⟩]) (by omega) (by omega);rw [hal] at ih;rcases ih with⟨i1,i2⟩ | ⟨r,x,i1,i2,i3,i4⟩
     ·exact .inl ⟨i1,i2⟩
     ·refine .inr ⟨⟨(b.drop l.2).take l.1,0,0⟩::r,x,i1,by rw [i2];simp,?_,iff_of_false (by simp) hf⟩;have hr0:r=[]:=i4.2 (by omega);subst hr0;have hq:(text.length+l.1==n)=true:=by rw [beq_iff_eq];omega
      rw [hq] at hfit;rw [expRun,if_neg (by dsimp only;rw [hly,Dct rfl,hfit];decide),if_neg (c:=65536<text.length+((b.drop l.2).take l.1).length+0) (by rw [hly];omega)];exact i3
theorem lz_law(b:Str)(n:Int):lzR b n=if n<0∨65536<n then none else lzDec b n.toNat:=by
 unfold lzR lzDec;split
 ·rfl
 rename_i h;rcases lz_run (b:=b) (n:=n.toNat) (by omega) (n.toNat+1) 0 [] [] (Nzl _) (Nzl _) with⟨h1,h2⟩ | ⟨r,x,h1,h2,h3,_⟩
 ·have h2:tokRun b n.toNat (n.toNat+1) 0 0 []=none:=h2;rw [h1,h2]
 ·have h2:tokRun b n.toNat (n.toNat+1) 0 0 []=some ([]++r):=h2;rw [h1,h2];exact h3
theorem fixed_end{b:Str}{at_:Nat}(h:b.length≤at_):((Cu.mk b at_ 0).fixed 1).2.e≠0:=by
 have hl:(Cu.mk b at_ 0).left.length=0:=by
  have:(Cu.mk b at_ 0).left.length=b.length-at_:=Lld;omega
 unfold Cu.fixed;rw [if_neg (fun h:(Cu.mk b at_ 0).e≠0=>h rfl),hl];have he:(if (1:Int)<1∨8<(1:Int) then (23:Int) else if ((0:Nat):Int)<1 then 20 else 0)=20:=by decide
 dsimp only;rw [he];unfold Cu.go;rw [if_neg (by decide)];show (20:Int)≠0;decide
theorem fixed_fine{c:Cu}(h:c.fine)(n:Int):(c.fixed n).2.fine:=by
 unfold Cu.fixed;split
 ·exact h
 ·dsimp only;unfold Cu.go Cu.fine;by_cases h1:n<1∨8<n
  ·rw [if_pos h1,if_neg (by decide)];exact .inr (.inr (.inr rfl))
  rw [if_neg h1];by_cases h2:(c.left.length:Int)<n
  ·rw [if_pos h2,if_neg (by decide)];exact .inr (.inl rfl)
  ·rw [if_neg h2,if_pos rfl];exact .inl rfl
theorem fixed_byte{b:Str}{at_:Nat}(h:at_<b.length):(Cu.mk b at_ 0).fixed 1=((b.getD at_ 0).toNat,⟨b,at_+1,0⟩):=by
 have hl:(Cu.mk b at_ 0).left=b[at_]::b.drop (at_+1):=List.drop_eq_getElem_cons h;have hd:b.getD at_ 0=b[at_]:=by rw [Lgd,Lge h,Option.getD_some]
 unfold Cu.fixed;rw [if_neg (fun h:(Cu.mk b at_ 0).e≠0=>h rfl),hl,hd];have he:(if (1:Int)<1∨8<(1:Int) then (23:Int) else if ((b[at_]::b.drop (at_+1)).length:Int)<1 then 20 else 0)=0:=by
  rw [if_neg (by decide),if_neg];rw [Llc];omega
 rw [he];show ((if (0:Int)=0 then wordN (List.take 1 (b[at_]::b.drop (at_+1))) else 0),Cu.go _ 1 0)=_;rw [if_pos rfl];unfold Cu.go;rw [if_pos rfl];rfl
theorem getN_zero(r:Str):getN (0::r)=(0,1,0):=rfl
theorem getN_pos{c:UInt8}{r:Str}(h:c.toNat≠0)(he:(getN (c::r)).2.2=0):1≤(getN (c::r)).1:=by
 apply Classical.byContradiction;intro hn;have h0:(getN (c::r)).1=0:=by omega
 have:=(getN_inv he).1;rw [h0,putN_small (by decide)] at this;have:=(List.cons.inj this).1;rw [this] at h;exact h rfl
theorem lensRun_err{k:Nat}{lens:List Nat}{last:Int}{c:Cu}(hf:c.fine)(he:c.e≠0):lensRun k lens last c=none:=by
 cases k with
 | zero=>rfl
 | succ k=>
  have hn:c.num 256=(0,c):=by unfold Cu.num;rw [if_pos he]
  rw [lensRun,hn];dsimp only;rw [if_pos rfl,if_neg];rintro ⟨_,h⟩;exact he (done_fine hf h)
def lastI(lens:List Nat):Int:=if lens=[] then -1 else (lens.getD (lens.length-1) 0:Int)
theorem lastI_rep(lens:List Nat){n:Nat}(h:1≤n)(x:Nat):lastI (lens++List.replicate n x)=(x:Int):=by
 unfold lastI;have hne:lens++List.replicate n x≠[]:=by
  intro h0;have:=congrArg List.length h0;simp at this;omega
 rw [if_neg hne];have:(lens++List.replicate n x).getD ((lens++List.replicate n x).length-1) 0=x:=by
  rw [Lgd,Lgr (by simp;omega),List.getElem?_replicate,if_pos (by simp;omega)];rfl
 rw [this]
theorem lens_run{b:Str}:∀(k2 k1 at_:Nat) (lens:List Nat),at_≤b.length→lens.length≤256→257≤k1+lens.length→b.length+1≤k2+at_ →
  lensRun k1 lens (lastI lens) ⟨b,at_,0⟩=(lensRunR b k2 at_ lens).map fun x=>(x.1,Cu.mk b x.2 0)
 | 0,k1,at_,lens,h1,h2,h3,h4=>by omega
 | k2+1,0,at_,lens,h1,h2,h3,h4=>by omega
 | k2+1,k1+1,at_,lens,h1,h2,h3,h4=>by
  have hfine:(Cu.mk b at_ 0).fine:=.inl rfl;have herr:((Cu.mk b at_ 0).num 256).2.e≠0→lensRun (k1+1) lens (lastI lens) ⟨b,at_,0⟩=none:=by
   intro he;have hz:((Cu.mk b at_ 0).num 256).1=0:=by
    unfold Cu.num at he ⊢;rw [if_neg (fun h:(Cu.mk b at_ 0).e≠0=>h rfl)] at he ⊢;dsimp only at he ⊢;apply if_neg;intro h0;unfold Cu.go at he;rw [if_pos h0] at he;exact he rfl
   rw [lensRun,if_pos hz,if_neg];rintro ⟨_,h⟩;exact he (done_fine (num_fine hfine 256) h)
  have hnum:∀(g:Nat×Nat×Int),getN (b.drop at_)=g→(g.2.2=0→g.1≤256→(Cu.mk b at_ 0).num 256=((g.1:Int),⟨b,at_+g.2.1,0⟩))∧((g.2.2≠0∨256<g.1)→((Cu.mk b at_ 0).num 256).2.e≠0):=by
   intro g hg;unfold Cu.num;rw [if_neg (fun h:(Cu.mk b at_ 0).e≠0=>h rfl)];have hl:(Cu.mk b at_ 0).left=b.drop at_:=rfl;rw [hl,hg];dsimp only;unfold Cu.go;constructor
   ·intro h0 h1;rw [if_neg (fun h:g.2.2=0∧(256:Int)<(g.1:Int)=>by omega),if_pos h0,if_pos h0]
   ·intro h0;by_cases hg0:g.2.2=0
    ·rw [if_pos (c:=g.2.2=0∧(256:Int)<(g.1:Int)) ⟨hg0,by omega⟩,if_neg (by decide:¬(23:Int)=0)];show (23:Int)≠0;decide
    ·rw [if_neg (fun h:g.2.2=0∧(256:Int)<(g.1:Int)=>hg0 h.1),if_neg hg0];exact hg0
  rw [lensRunR];by_cases hat:at_<b.length
  ·have hd:=List.drop_eq_getElem_cons hat;have hg:b.getD at_ 0=b[at_]:=by rw [Lgd,Lge hat,Option.getD_some]
   by_cases hz:(b.getD at_ 0).toNat=0
   ·rw [if_neg (fun h=>h.2 hz)];have hz':b[at_]=0:=by
     apply UInt8.toNat_inj.1;rw [←hg,hz];rfl
    have h5:=(hnum (0,1,0) (by rw [hd,hz'];exact getN_zero _)).1 rfl (by decide);rw [lensRun,h5];dsimp only;rw [if_pos (c:=((0:Nat):Int)=0) rfl];have hdn:(Cu.mk b (at_+1) 0).done.1=0∨(Cu.mk b (at_+1) 0).done.1=22:=by
     unfold Cu.done;rw [if_neg (fun h:(Cu.mk b (at_+1) 0).e≠0=>h rfl)];split
     ·exact .inr rfl
     ·exact .inl rfl
    by_cases hlast:lastI lens=0
    ·rw [if_neg (fun h=>h.1 hlast),if_pos]
     ·rfl
     ·right;unfold lastI at hlast;split at hlast
      ·cases hlast
      ·rename_i hne;exact⟨List.length_pos_iff.2 hne,by omega⟩
    ·rw [if_pos ⟨hlast,hdn⟩,if_neg]
     ·rfl
     ·rintro (h | ⟨h,h0⟩)
      ·omega
      ·apply hlast;unfold lastI;rw [if_neg (fun e=>by rw [e] at h;exact absurd h (by decide)),h0];rfl
   ·rw [if_pos ⟨hat,hz⟩];have hz':b[at_].toNat≠0:=by rw [←hg];exact hz
    obtain⟨n1,n2⟩:=hnum _ rfl;have hpos:(getN (b.drop at_)).2.2=0→1≤(getN (b.drop at_)).1:=by
     intro h0;rw [hd] at h0 ⊢;exact getN_pos hz' h0
    have hge1:(getN (b.drop at_)).2.2=0→1≤(getN (b.drop at_)).2.1:=by
     intro h0;have:=(getN_inv h0).2;have:=putN_pos (getN (b.drop at_)).1;omega
    generalize getN (b.drop at_)=g at *;by_cases hE:g.2.2≠0
    ·rw [if_pos (.inl hE),herr (n2 (.inl hE))];rfl
    have hE:g.2.2=0:=Decidable.not_not.1 hE;by_cases hB:256<g.1
    ·rw [if_pos (by omega),herr (n2 (.inr hB))];rfl
    have hn:=n1 hE (by omega);have hp:=hpos hE;rw [lensRun,hn];dsimp only;rw [if_neg (by omega)];by_cases hend:b.length≤at_+g.2.1
    ·rw [if_pos (c:=g.2.2≠0∨g.1<1∨256-lens.length<g.1∨b.length≤at_+g.2.1) (.inr (.inr (.inr hend)))];have hfe:=fixed_end hend;have hff:=fixed_fine (c:=Cu.mk b (at_+g.2.1) 0) (.inl rfl) 1;split
     ·rfl
     ·rw [lensRun_err hff hfe];rfl
    have hfb:=fixed_byte (b:=b) (at_:=at_+g.2.1) (by omega);rw [hfb];dsimp only;generalize (b.getD (at_+g.2.1) 0).toNat=x at *;by_cases hL:256-lens.length<g.1
    ·rw [if_pos (c:=g.2.2≠0∨g.1<1∨256-lens.length<g.1∨b.length≤at_+g.2.1) (.inr (.inr (.inl hL))),if_pos (by right;right;omega)];rfl
    rw [if_neg (c:=g.2.2≠0∨g.1<1∨256-lens.length<g.1∨b.length≤at_+g.2.1) (by omega)];have hiff:(x:Int)=lastI lens↔(0<lens.length∧lens.getD (lens.length-1) 0=x):=by
     unfold lastI;by_cases hl:lens=[]
     ·rw [if_pos hl,hl];constructor
      ·intro h;omega
      ·rintro ⟨h,_⟩;exact absurd h (by decide)
     ·rw [if_neg hl];have:=List.length_pos_iff.2 hl;constructor
      ·intro h;exact⟨this,by omega⟩
      ·rintro ⟨_,h⟩;omega
    by_cases hx:15<x∨(0<lens.length∧lens.getD (lens.length-1) 0=x)
    ·rw [if_pos (c:=15<x∨(0<lens.length∧lens.getD (lens.length-1) 0=x)) hx,if_pos]
     ·rfl
     ·rcases hx with h | h
      ·exact .inl h
      ·exact .inr (.inl (hiff.2 h))
    ·rw [if_neg (c:=15<x∨(0<lens.length∧lens.getD (lens.length-1) 0=x)) hx,if_neg]
     ·have ht:((g.1:Nat):Int).toNat=g.1:=Itn _;rw [ht];have:=lens_run (b:=b) k2 k1 (at_+g.2.1+1) (lens++List.replicate g.1 x) (by omega) (by rw [Lla,List.length_replicate];omega) (by rw [Lla,List.length_replicate];omega) (by have:=hge1 hE;omega);rw [lastI_rep lens hp x] at this;exact this
     ·rintro (h | h | h)
      ·exact hx (.inl h)
      ·exact hx (.inr (hiff.1 h))
      ·omega
  ·rw [if_neg (fun h=>hat h.1),if_pos (.inl (by omega))];have:getN (b.drop at_)=(0,0,20):=by rw [Ldn (by omega)];rfl
   rw [herr ((hnum _ this).2 (.inl (by show (20:Int)≠0;decide)))];rfl
theorem lens_law(b:Str):lensOf ⟨b,0,0⟩=(lensR b).map fun x=>(x.1,Cu.mk b x.2 0):=by
 unfold lensOf lensR;exact lens_run (b.length+1) 257 0 [] (Nzl _) (by decide) (by decide) (by omega)
theorem posL_count(lens:List Nat)(n:Nat):∀s,s≤lens.length→(posL lens n s).length=(lens.take s).countP (·==n)
 | 0,_=>by simp [posL]
 | s+1,h=>by
  have hs:s<lens.length:=h;have hg:lens.getD s 0=lens[s]:=by rw [Lgd,Lge hs,Option.getD_some]
  rw [posL_succ,List.take_succ_eq_append_getElem hs,List.countP_append,←posL_count lens n s (by omega),hg];by_cases e:lens[s]=n
  ·rw [if_pos e,Lla];simp [e]
  ·rw [if_neg e];simp [e]
theorem cntL_count(lens:List Nat)(n:Nat):cntL lens n=lens.countP (·==n):=by
 unfold cntL;rw [posL_count lens n _ (Nlr _),List.take_length]
def krF(n x:Nat):Nat:=if 1≤x∧x≤n then 2^(15-x) else 0
theorem kr_step(n:Nat):∀lens:List Nat,(lens.map (krF (n+1))).sum=(lens.map (krF n)).sum+lens.countP (·==n+1)*2^(15-(n+1))
 | []=>by simp
 | x::r=>by
  rw [List.map_cons,List.sum_cons,List.map_cons,List.sum_cons,kr_step n r,List.countP_cons,Nat.add_mul];have:krF (n+1) x=krF n x+(if (x==n+1)=true then 1 else 0)*2^(15-(n+1)):=by
   unfold krF;by_cases e:x=n+1
   ·subst e;rw [if_pos (by omega),if_neg (by omega),if_pos (by simp)];simp
   ·rw [if_neg (c:=(x==n+1)=true) (by simpa using e),Nat.zero_mul];by_cases h:1≤x∧x≤n
    ·rw [if_pos h,if_pos (by omega),Nat.add_zero]
    ·rw [if_neg h,if_neg (by omega)]
  rw [this];omega
theorem roomT_kr(lens:List Nat):∀n,n≤15→roomT lens n=32768-((lens.map (krF n)).sum:Int)
 | 0,_=>by
  have:lens.map (krF 0)=lens.map fun _=>0:=List.map_congr_left fun x _=>by unfold krF;rw [if_neg (by omega)]
  rw [this];have:∀l:List Nat,(l.map fun _=>0).sum=0:=fun l=>by induction l with | nil=>rfl | cons a l ih=>simp [ih]
  rw [this];rfl
 | n+1,h=>by
  rw [roomT,roomT_kr lens n (by omega),kr_step,cntL_count];have:15-(n+1)=14-n:=by omega
  rw [this];push_cast;omega
theorem room_law{lens:List Nat}(h:∀n∈lens,n≤15):roomT lens 15<0↔32768<kraftN lens:=by
 rw [roomT_kr lens 15 (Nlr _)];have:kraftN lens=(lens.map (krF 15)).sum:=by
  unfold kraftN;congr 1;apply List.map_congr_left;intro x hx;have:=h x hx;unfold krF;by_cases h0:0<x
  ·rw [if_pos h0,if_pos ⟨h0,this⟩]
  ·rw [if_neg h0,if_neg (by omega)]
 rw [this];omega
theorem posL_nth(lens:List Nat)(s:Nat):∀L r,r<(posL lens s L).length→(posL lens s L).getD r 0<L∧lens.getD ((posL lens s L).getD r 0) 0=s∧(posL lens s ((posL lens s L).getD r 0)).length=r
 | 0,r,h=>by simp [posL] at h
 | L+1,r,h=>by
  rw [posL_succ] at h ⊢;by_cases e:lens.getD L 0=s
  ·rw [if_pos e] at h ⊢;rw [Lla,List.length_singleton] at h;by_cases hr:r<(posL lens s L).length
   ·have:=posL_nth lens s L r hr;have hg:(posL lens s L++[L]).getD r 0=(posL lens s L).getD r 0:=by rw [Lgd,Lgl hr,←Lgd]
    rw [hg];exact⟨by omega,this.2⟩
   ·have hr:r=(posL lens s L).length:=by omega
    have hg:(posL lens s L++[L]).getD r 0=L:=by rw [Lgd,hr,Lgr (Nlr _),Nat.sub_self];rfl
    rw [hg];exact⟨by omega,e,hr.symm⟩
  ·rw [if_neg e] at h ⊢;have:=posL_nth lens s L r h;exact⟨by omega,this.2⟩
theorem posL_mono(lens:List Nat)(s a:Nat):∀b,a≤b→(posL lens s a).length≤(posL lens s b).length
 | 0,h=>by
  have:a=0:=by omega
  subst this;exact Nlr _
 | b+1,h=>by
  by_cases e:a=b+1
  ·subst e;exact Nlr _
  ·have:=posL_mono lens s a b (by omega);rw [posL_succ];split
   ·rw [Lla];omega
   ·exact this
theorem posL_step{lens:List Nat}{s j:Nat}(h:lens.getD j 0=s){b:Nat}(hb:j<b):(posL lens s j).length+1≤(posL lens s b).length:=by
 have:=posL_mono lens s (j+1) b hb;rw [posL_succ,if_pos h,Lla,List.length_singleton] at this;exact this
theorem codeUp_word{lens:List Nat}{s j word:Nat}(h1:1≤s)(h2:s≤15):((codeUp lens 16 0 j).1=s∧(codeUp lens 16 0 j).2=word∧0<s)↔(lens.getD j 0=s∧wordW lens s+(posL lens s j).length=word):=by
 unfold codeUp;constructor
 ·rintro ⟨a,b,_⟩;split at a
  ·rename_i hc;rw [if_pos hc] at b;dsimp only at a b;rw [a] at b;exact⟨a,b⟩
  ·dsimp only at a;omega
 ·rintro ⟨a,b⟩;rw [if_pos (by omega),a];exact⟨rfl,b,h1⟩
theorem find_law{lens:List Nat}{s word:Nat}(h1:1≤s)(h2:s≤15)(hw:wordW lens s≤word) :
  findC (codesUp lens 16 0) s word=if word-wordW lens s<cntL lens s then some ((posL lens s lens.length).getD (word-wordW lens s) 0) else none:=by
 unfold findC;split
 ·rename_i hr;obtain⟨n1,n2,n3⟩:=posL_nth lens s lens.length _ hr;refine findIdx_some (codesUp_get n1) ?_ fun j y hj hy=>?_
  ·rw [Det,codeUp_word h1 h2];exact⟨n2,by omega⟩
  ·have hjl:j<lens.length:=by omega
   rw [codesUp_get hjl] at hy;cases hy;rw [decide_eq_false_iff_not,codeUp_word h1 h2];rintro ⟨a,b⟩;have:=posL_step a hj;omega
 ·rename_i hr;refine findIdx_none fun j y hy=>?_;have hjl:j<lens.length:=by
   have:=(Les.1 hy).1;rw [codesUp_len] at this;exact this
  rw [codesUp_get hjl] at hy;cases hy;rw [decide_eq_false_iff_not,codeUp_word h1 h2];rintro ⟨a,b⟩;have:=posL_step a hjl;unfold cntL at hr;omega
theorem sym_law{lens:List Nat}{w:Str}:∀(k at_ word first before s:Nat),k+s=16→1≤s→at_≤8*w.length→2*first=wordW lens s→first≤word→before=(ordT lens (s-1)).length →
  symRun lens w k at_ word first before s=symR (codesUp lens 16 0) w k at_ word s
 | 0,_,_,_,_,_,_,_,_,_,_,_=>rfl
 | k+1,at_,word,first,before,s,h1,h2,h3,h4,h5,h6=>by
  rw [symRun,symR];by_cases he:at_=8*w.length
  ·rw [if_pos he,if_pos (by omega)]
  rw [if_neg he,if_neg (c:=8*w.length≤at_) (by omega)];have hm:manyT lens s=cntL lens s:=by unfold manyT;rw [if_pos (by omega)]
  rw [hm,h4,find_law h2 (by omega) (by omega)];obtain⟨s',rfl⟩:∃s',s=s'+1:=⟨s-1,by omega⟩;have hord:ordT lens (s'+1)=ordT lens s'++posL lens (s'+1) lens.length:=rfl;have h6:before=(ordT lens s').length:=h6;by_cases hr:2*word+bitN w at_-wordW lens (s'+1)<cntL lens (s'+1)
  ·rw [if_pos hr,if_pos hr];dsimp only;obtain⟨t,ht⟩:=ordT_split lens (n:=s'+1) (m:=15) (by omega);rw [ht,hord,Laa,h6];have:(ordT lens s'++(posL lens (s'+1) lens.length++t)).getD ((ordT lens s').length+(2*word+bitN w at_-wordW lens (s'+1))) 0=(posL lens (s'+1) lens.length).getD (2*word+bitN w at_-wordW lens (s'+1)) 0:=by
    rw [Lgd,Lgr (by omega),Nat.add_sub_cancel_left,Lgl hr,←Lgd]
   rw [this]
  ·rw [if_neg hr,if_neg hr];dsimp only;refine sym_law k (at_+1) _ _ _ _ (by omega) (by omega) (by omega) ?_ (by omega) ?_
   ·show 2*(wordW lens (s'+1)+cntL lens (s'+1))=2*(wordW lens (s'+1)+if s'+1=0 then 0 else cntL lens (s'+1));rw [if_neg (by omega)]
   ·show before+cntL lens (s'+1)=(ordT lens (s'+1)).length;rw [hord,Lla,h6];rfl
theorem symR_ge{codes:List (Nat×Nat)}{w:Str}:∀(k at_ word long:Nat) {x:Nat×Nat},symR codes w k at_ word long=some x→at_+1≤x.2
 | 0,_,_,_,x,h=>by cases h
 | k+1,at_,word,long,x,h=>by
  rw [symR] at h;split at h
  ·cases h
  split at h
  ·cases h;exact Nlr _
  ·have:=symR_ge k _ _ _ h;omega
theorem words_law{lens:List Nat}{w:Str}:∀(n at_:Nat) (text:Str),at_≤8*w.length→wordsRun lens w n at_ text=wordsR (codesUp lens 16 0) w n at_ text
 | 0,_,_,_=>rfl
 | n+1,at_,text,h=>by
  rw [wordsRun,wordsR,sym_law 15 at_ 0 0 0 1 (by decide) (by decide) h rfl (Nlr _) rfl]
  cases hs:symR (codesUp lens 16 0) w 15 at_ 0 1 with
  | none=>rfl
  | some x=>exact words_law n x.2 _ (symR_le _ _ _ _ hs)
theorem wordsR_ge{codes:List (Nat×Nat)}{w:Str}:∀(n at_:Nat) (text:Str) {x:Str×Nat},at_≤8*w.length→wordsR codes w n at_ text=some x→at_+n≤x.2∧x.2≤8*w.length
 | 0,at_,text,x,h1,h=>by cases h;exact⟨Nlr _,h1⟩
 | n+1,at_,text,x,h1,h=>by
  rw [wordsR] at h;split at h
  ·cases h
  ·rename_i y hy;have h2:=symR_ge _ _ _ _ hy;have h3:=wordsR_ge n y.2 _ (symR_le _ _ _ _ hy) h;exact⟨by omega,h3.2⟩
theorem bits_zero{x m:Nat}(hx:x<256):(∀e,m≤e→e<8→x/2^e%2=0)↔x/2^m=0:=by
 constructor
 ·intro h;apply Nat.eq_of_testBit_eq;intro i;rw [Nat.zero_testBit,Nat.testBit_div_two_pow];by_cases hi:m+i<8
  ·rw [Nat.testBit_eq_decide_div_mod_eq,decide_eq_false_iff_not];have:=h (m+i) (by omega) hi;rw [Nat.add_comm i m];omega
  ·apply Nat.testBit_lt_two_pow;have:(2:Nat)^8≤2^(i+m):=Nat.pow_le_pow_right (by decide) (by omega);omega
 ·intro h e he _;have hlt:x<2^m:=by
   rcases Nat.div_eq_zero_iff.1 h with h | h
   ·have:=Nat.two_pow_pos m;omega
   ·exact h
  have:(2:Nat)^m≤2^e:=Nat.pow_le_pow_right (by decide) he;rw [Nat.div_eq_of_lt (by omega)]
theorem ends_law{w:Str}{at_:Nat}(h:at_≤8*w.length):endsAt w at_=true↔(w.length=(at_+7)/8∧zerosN w at_=true):=by
 unfold endsAt zerosN;simp only [Bat,Det,Bool.not_eq_true',Bool.and_eq_false_iff,decide_eq_false_iff_not,List.all_eq_true,List.mem_range];constructor
 ·rintro ⟨h1,h2⟩;refine⟨h1.symm,fun i hi hle=>?_⟩;rcases h2 with h2 | h2
  ·omega
  ·have h2:(w.getD (at_/8) 0).toNat/2^(at_%8)=0:=by omega
   have hc:=UInt8.toNat_lt_size (w.getD (at_/8) 0);have:=(bits_zero (m:=at_%8) hc).2 h2 (i%8) (by omega) (by omega);have e:i/8=at_/8:=by omega
   unfold bitN;rw [e];exact this
 ·rintro ⟨h1,h2⟩;refine⟨h1.symm,?_⟩;by_cases h3:at_%8=0
  ·exact .inl (by omega)
  ·right;have hc:=UInt8.toNat_lt_size (w.getD (at_/8) 0);have:=(bits_zero (m:=at_%8) hc).1 fun e he h8=>by
    have:=h2 (8*(at_/8)+e) (by omega) (by omega);unfold bitN at this;rw [show (8*(at_/8)+e)/8=at_/8 by omega,show (8*(at_/8)+e)%8=e by omega] at this;exact this
   omega
theorem huff_law(b:Str)(n:Int):huffR b n=if n<0∨65536<n then none else huffDec b n.toNat:=by
 unfold huffR huffDec;split
 ·rfl
 rename_i hn;rw [lens_law]
 cases hl:lensR b with
 | none=>rfl
 | some x=>
  have hok:=lensRunR_ok _ _ _ hl (by decide) (fun n h=>by cases h);rw [Option.map_some];dsimp only;have htk:((Cu.mk b x.2 0).take ((Cu.mk b x.2 0).rest:Int)).1=b.drop x.2:=by
   have:=take_put (c:=Cu.mk b x.2 0) rfl (s:=b.drop x.2) (r:=[]) (by rw [Lan];rfl);rw [mk_rest,←Lld,this]
  rw [htk];unfold wordsOf;have hrm:=room_law hok.2.1;by_cases hk:32768<kraftN x.1
  ·rw [if_pos hk,if_pos (.inl (hrm.2 hk))]
  rw [if_neg hk];have hk':¬roomT x.1 15<0:=fun h=>hk (hrm.1 h);unfold huffW;rw [words_law n.toNat 0 [] (Nzl _)]
  cases hw:wordsR (codesUp x.1 16 0) (b.drop x.2) n.toNat 0 [] with
  | none=>dsimp only;split<;>rfl
  | some y=>
   have hy:=wordsR_ge _ _ _ (Nzl _) hw;rw [if_neg (by rintro (h | h);exact hk' h;omega)];dsimp only;have he:=ends_law hy.2;by_cases hz:endsAt (b.drop x.2) y.2=true
   ·rw [if_pos hz,if_pos (he.1 hz)]
   ·rw [if_neg hz,if_neg fun h=>hz (he.2 h)]
theorem text_law{flag:Nat}(hf:flag<3){p:Str}{raw:Int}(h1:1≤raw)(h2:raw≤65536):textR flag p raw=textN flag p raw.toNat:=by
 unfold textR textN;by_cases h0:flag=0
 ·rw [if_pos h0,if_pos h0];by_cases h:p.length=raw.toNat
  ·rw [if_pos h,if_pos (by omega)]
  ·rw [if_neg h,if_neg (by omega)]
 rw [if_neg h0,if_neg h0];by_cases h1:flag=1
 ·rw [if_pos h1,if_pos h1,lz_law,if_neg (by omega)]
 rw [if_neg h1,if_neg h1,if_pos (by omega),huff_law,if_neg (by omega)]
theorem textN_len{flag:Nat}{p:Str}{n:Nat}{x:Str}(h:textN flag p n=some x):x.length=n:=by
 unfold textN at h;split at h
 ·split at h
  ·cases h;assumption
  ·cases h
 split at h
 ·exact lzDec_len h
 ·exact huffDec_len h
theorem block_law(tile:Str)(raw:Int):blockR tile raw=((blockN tile raw).1,(blockN tile raw).2.map Prod.snd):=by
 unfold blockR blockN;by_cases h1:raw<1∨65536<raw
 ·rw [if_pos h1,if_pos h1];rfl
 rw [if_neg h1,if_neg h1];by_cases h2:(openB tile).1≠0
 ·rw [if_pos h2,if_pos h2];rfl
 rw [if_neg h2,if_neg h2];by_cases h3:(openB tile).2.length=0
 ·rw [if_pos h3,if_pos h3];rfl
 rw [if_neg h3,if_neg h3];by_cases h4:64*(((openB tile).2.length-1:Nat):Int)<raw
 ·rw [if_pos h4,if_pos (.inr h4)];rfl
 rw [if_neg h4];generalize ((openB tile).2.getD ((openB tile).2.length-1) 0).toNat=flag;generalize (openB tile).2.take ((openB tile).2.length-1)=p;by_cases h5:3≤flag
 ·rw [if_pos (.inl h5)];have:textR flag p raw=none:=by unfold textR;rw [if_neg (by omega),if_neg (by omega),if_neg (by omega)]
  rw [this];rfl
 rw [if_neg (by rintro (h | h);exact h5 h;exact h4 h),text_law (by omega) (by omega) (by omega)]
 cases ht:textN flag p raw.toNat with
 | none=>rfl
 | some t=>
  have hl:=textN_len ht;dsimp only;rw [parse_law (by omega)]
  cases parsedN t with
  | none=>rfl
  | some x=>rfl
theorem num_ps{c:Cu}(he:c.e=0){n:Nat}(hn:n<9223372036854775808){m:Int}(hm:(n:Int)≤m){r:Str}(h:c.left=putN n++r):∃c',c.num m=((n:Int),c')∧c'.b=c.b∧c'.e=0∧c'.left=r:=
 ⟨_,num_put he hn hm h,rfl,rfl,by rw [left_at,h,List.drop_left]⟩
theorem text_ps{c:Cu}(he:c.e=0){s r:Str}{m:Int}(hs:s.length<9223372036854775808)(hm:(s.length:Int)≤m)(h:c.left=putN s.length++(s++r)):∃c',c.text m=(s,c')∧c'.b=c.b∧c'.e=0∧c'.left=r:=by
 have hg:getN c.left=(s.length,(putN s.length).length,0):=by rw [h];exact getN_put hs _
 have hE:textE m c.left=0:=by
  unfold textE;rw [hg];dsimp only;rw [if_neg (fun h=>h rfl),if_neg (by omega),if_neg];rw [h];simp only [Lla];omega
 have hV:textV c.left=s:=by
  unfold textV;rw [hg];dsimp only;rw [h,List.drop_left,List.take_left]
 have hL:textL c.left=(putN s.length).length+s.length:=by unfold textL;rw [hg]
 unfold Cu.text Cu.go;rw [if_neg (fun h=>h he),hE,if_pos rfl,if_pos rfl,hV,hL];refine⟨_,rfl,rfl,rfl,?_⟩;rw [left_at,h,←List.drop_drop,List.drop_left,List.drop_left]
theorem rest_ps{c:Cu}(he:c.e=0){x:UInt8}{r:Str}(h:c.left=x::r):c.rest≠0:=by
 unfold Cu.rest;rw [if_neg (fun h=>h he),h,Llc];omega
theorem putN_cons(v:Nat):∃x t,putN v=x::t:=by
 have:=putN_pos v
 cases h:putN v with
 | nil=>rw [h] at this;exact absurd this (by decide)
 | cons x t=>exact⟨x,t,rfl⟩
theorem done_left{c:Cu}(he:c.e=0)(h:c.left=[]):c.done.1=0:=by
 unfold Cu.done;rw [if_neg (fun h=>h he),if_neg];unfold Cu.left at h;have:=List.drop_eq_nil_iff.1 h;omega
theorem kind_cases{f:Flt}(h:kindN f.all f.hashes f.data.length≠0):(kindN f.all f.hashes f.data.length=1∧f=⟨true,0,[]⟩)∨(kindN f.all f.hashes f.data.length=2∧f=⟨false,0,[]⟩)∨(kindN f.all f.hashes f.data.length=3∧f.all=false∧1≤f.hashes∧f.hashes≤8∧1≤f.data.length∧f.data.length≤4096):=by
 obtain⟨a,n,d⟩:=f;unfold kindN at h ⊢;dsimp only at h ⊢;by_cases h1:a=true∧n=0∧d.length=0
 ·rw [if_pos h1];obtain⟨rfl,rfl,h0⟩:=h1;rw [List.length_eq_zero_iff.1 h0];exact .inl ⟨rfl,rfl⟩
 rw [if_neg h1] at h ⊢;by_cases h2:a=false∧n=0∧d.length=0
 ·rw [if_pos h2];obtain⟨rfl,rfl,h0⟩:=h2;rw [List.length_eq_zero_iff.1 h0];exact .inr (.inl ⟨rfl,rfl⟩)
 rw [if_neg h2] at h ⊢;split at h
 ·rename_i h3;rw [if_pos h3];exact .inr (.inr ⟨rfl,h3⟩)
 ·exact absurd rfl h
theorem putN_two{v:Nat}(h:v≤4096):(putN v).length≤2:=putN_len v 1 (by omega)
theorem encF_le{f:Flt}(h:kindN f.all f.hashes f.data.length≠0):(encF f).1.length≤4099:=by
 unfold encF;rcases kind_cases h with⟨k,_⟩ | ⟨k,_⟩ | ⟨k,h3⟩
 ·rw [k,if_pos rfl];show 1≤4099;decide
 ·rw [k,if_neg (by decide),if_pos rfl];show 1≤4099;decide
 ·rw [k,if_neg (by decide),if_neg (by decide),if_pos rfl];have:=putN_two h3.2.2.2.2;show (UInt8.ofNat f.hashes.toNat::(putN f.data.length++f.data)).length≤4099;rw [Llc,Lla];omega
theorem filtD_enc{f:Flt}(h:kindN f.all f.hashes f.data.length≠0):filtD (encF f).1=(f,0):=by
 rcases kind_cases h with⟨k,rfl⟩ | ⟨k,rfl⟩ | ⟨k,h3⟩
 ·rfl
 ·rfl
 ·have hE:(encF f).1=UInt8.ofNat f.hashes.toNat::(putN f.data.length++f.data):=by
   unfold encF;rw [k,if_neg (by decide),if_neg (by decide),if_pos rfl];rfl
  rw [hE];have hu:(UInt8.ofNat f.hashes.toNat).toNat=f.hashes.toNat:=u8_ofNat (by omega);have hfx:=fixed_byte (b:=UInt8.ofNat f.hashes.toNat::(putN f.data.length++f.data)) (at_:=0) (by simp);have hg:(UInt8.ofNat f.hashes.toNat::(putN f.data.length++f.data)).getD 0 0=UInt8.ofNat f.hashes.toNat:=rfl;rw [hg,hu] at hfx;unfold filtD;dsimp only;rw [hfx];dsimp only;rw [if_neg (by omega),if_neg (by omega)];obtain⟨c1,e1,e2,e3,e4⟩:=num_ps (c:=Cu.mk (UInt8.ofNat f.hashes.toNat::(putN f.data.length++f.data)) (0+1) 0) rfl (n:=f.data.length) (by omega) (m:=4096) (by omega) (r:=f.data) rfl;rw [e1];dsimp only;have e5:=take_put e3 (s:=f.data) (r:=[]) (by rw [e4,Lan]);rw [e5];dsimp only;have hh:((f.hashes.toNat:Nat):Int)=f.hashes:=by omega
  have hk:kindN false f.hashes f.data.length=3:=by rw [←h3.1];exact k
  rw [hh,hk,if_neg (fun h=>h rfl),done_left rfl (by rw [left_at,e4,List.drop_length]),if_neg (fun h=>h rfl)];obtain⟨a,n,d⟩:=f;have:a=false:=h3.1;rw [this]
theorem filtR_enc{f:Flt}(h:kindN f.all f.hashes f.data.length≠0):filtR (encF f).1=(f,0):=by
 rcases kind_cases h with⟨k,rfl⟩ | ⟨k,rfl⟩ | ⟨k,h3⟩
 ·rfl
 ·rfl
 ·have hE:(encF f).1=UInt8.ofNat f.hashes.toNat::(putN f.data.length++f.data):=by
   unfold encF;rw [k,if_neg (by decide),if_neg (by decide),if_pos rfl];rfl
  rw [hE];have hu:(UInt8.ofNat f.hashes.toNat).toNat=f.hashes.toNat:=u8_ofNat (by omega);have hg:(UInt8.ofNat f.hashes.toNat::(putN f.data.length++f.data)).getD 0 0=UInt8.ofNat f.hashes.toNat:=rfl;have hdr:(UInt8.ofNat f.hashes.toNat::(putN f.data.length++f.data)).drop 1=putN f.data.length++f.data:=rfl;have hgn:=getN_put (v:=f.data.length) (by omega) f.data;have hp:=putN_pos f.data.length;unfold filtR;rw [hdr,hgn,hg,hu];dsimp only;rw [if_neg (fun h=>by have h9:=congrArg List.length h;rw [Llc,Lla,List.length_singleton] at h9;omega),if_neg (fun h=>by have h9:=congrArg List.length h;rw [Llc,Lla,List.length_singleton] at h9;omega),if_neg (by simp only [Llc];omega),if_neg]
  ·have hh:((f.hashes.toNat:Nat):Int)=f.hashes:=by omega
   have hd:(UInt8.ofNat f.hashes.toNat::(putN f.data.length++f.data)).drop (1+(putN f.data.length).length)=f.data:=by
    rw [Nat.add_comm,List.drop_succ_cons,List.drop_left]
   rw [hd,hh];obtain⟨a,n,d⟩:=f;have:a=false:=h3.1;rw [this]
  ·simp only [Llc,Lla];omega
theorem blk1_ps{c:Cu}{key:Str}{b:BI}{r:Str}(he:c.e=0)(hb:rightB b key=true)(h:c.left=blkN key b++r):∃c',blk1 key c=(b,c')∧c'.b=c.b∧c'.e=0∧c'.left=r:=by
 have hb:=odt hb;obtain⟨h1,h2,h3,h4,h5,h6,h7,h8,_⟩:=hb;have hcom:=comN_le key b.cut;have htk:=comN_take key b.cut;unfold blkN at h;simp only [Laa] at h;obtain⟨c1,a1,a2,a3,a4⟩:=num_ps he (n:=b.stored.toNat) (by omega) (m:=65536) (by omega) h;obtain⟨c2,b1,b2,b3,b4⟩:=num_ps a3 (n:=b.raw.toNat) (by omega) (m:=65536) (by omega) a4;obtain⟨c3,d1,d2,d3,d4⟩:=num_ps b3 (n:=b.count.toNat) (by omega) (m:=65536) (by omega) b4;obtain⟨c4,e1,e2,e3,e4⟩:=num_ps d3 (n:=comN key b.cut) (by omega) (m:=key.length) (by omega) d4;have hdl:(b.cut.drop (comN key b.cut)).length=b.cut.length-comN key b.cut:=Lld;rw [←hdl] at e4;obtain⟨c5,f1,f2,f3,f4⟩:=text_ps e3 (m:=64) (by omega) (by omega) e4;refine⟨c5,?_,by rw [f2,e2,d2,b2,a2],f3,f4⟩;unfold blk1;dsimp only;rw [a1];dsimp only;rw [b1];dsimp only;rw [d1];dsimp only;rw [e1];dsimp only;rw [f1];dsimp only;have x1:((b.stored.toNat:Nat):Int)=b.stored:=by omega
 have x2:((b.raw.toNat:Nat):Int)=b.raw:=by omega
 have x3:((b.count.toNat:Nat):Int)=b.count:=by omega
 rw [x1,x2,x3,Itn,htk,List.take_append_drop]
theorem blksRun_ps:∀(bl:List BI) (l:List BI) (key:Str) (c:Cu) (r:Str),c.e=0→chkB bl key=true→c.left=bodB bl key++r→∃c',blksRun bl.length l key c=(l++bl,c')∧c'.b=c.b∧c'.e=0∧c'.left=r
 | [],l,key,c,r,he,_,h=>⟨c,by rw [Lan];rfl,rfl,he,h⟩
 | b::bl,l,key,c,r,he,hc,h=>by
  rw [chkB_cons,Bat] at hc;rw [bodB,Laa] at h;obtain⟨c1,a1,a2,a3,a4⟩:=blk1_ps he hc.1 h;obtain⟨x,t,hp⟩:=putN_cons b.stored.toNat;have hr:c.rest≠0:=rest_ps he (x:=x) (by rw [h];unfold blkN;rw [hp];simp only [List.cons_append];rfl);obtain⟨c2,b1,b2,b3,b4⟩:=blksRun_ps bl (l++[b]) b.cut c1 r a3 hc.2 a4;refine⟨c2,?_,by rw [b2,a2],b3,b4⟩;rw [Llc,blksRun,if_neg hr,a1];dsimp only;rw [b1];simp
theorem blksN_ps{c:Cu}{bl:List BI}{r:Str}(he:c.e=0)(hl:bl.length≤262144)(hc:chkB bl []=true)(h:c.left=putN bl.length++(bodB bl []++r)):∃c',blksN c=(bl,c')∧c'.b=c.b∧c'.e=0∧c'.left=r:=by
 obtain⟨c1,a1,a2,a3,a4⟩:=num_ps he (n:=bl.length) (by omega) (m:=262144) (by omega) h;obtain⟨c2,b1,b2,b3,b4⟩:=blksRun_ps bl [] [] c1 r a3 hc a4;refine⟨c2,?_,by rw [b2,a2],b3,b4⟩;unfold blksN;rw [a1];dsimp only;rw [Itn,b1,List.nil_append]
theorem fail_zero{c:Cu}(he:c.e=0):c.fail 0=c:=by
 unfold Cu.fail;rw [if_neg (fun h=>h he)];obtain⟨b,a,e⟩:=c;have:e=0:=he;rw [this]
section
variable {P last:Int}{n:Nat}{x:PartI}{c:Cu}{r:Str}
theorem part_ps(hP:P≤65535)(hlast:-1≤last)(he:c.e=0)(hr:rightP P last n x=true)(hc:chkB x.blocks []=true)(h:c.left=headN x last++(bodB x.blocks []++r)) :
  ∃c1 c2 c3,c.num 65535=((x.part-last-1),c1)∧c1.b=c.b∧(∀m:Int,((encF x.flt).1.length:Int)≤m→c1.text m=((encF x.flt).1,c2))∧(encF x.flt).1.length≤c.b.length∧c2.e=0∧blksN c2=(x.blocks,c3)∧c3.b=c.b∧c3.e=0∧c3.left=r:=by
 have hr:=odt hr;unfold headN at h;simp only [Laa] at h;obtain⟨c1,a1,a2,a3,a4⟩:=num_ps he (n:=(x.part-last-1).toNat) (by omega) (m:=65535) (by omega) h;have hel:=encF_le hr.2.2.2.2;have ht:∀m:Int,((encF x.flt).1.length:Int)≤m→∃c',c1.text m=((encF x.flt).1,c')∧c'.b=c1.b∧c'.e=0∧c'.left=putN x.blocks.length++(bodB x.blocks []++r):=fun m hm=>text_ps a3 (by omega) hm a4;have hsame:∀m:Int,((encF x.flt).1.length:Int)≤m→c1.text m=c1.text 4112:=by
  intro m hm;have hg:getN c1.left=((encF x.flt).1.length,(putN (encF x.flt).1.length).length,0):=by rw [a4];exact getN_put (by omega) _
  have hE:textE m c1.left=textE 4112 c1.left:=by
   unfold textE;rw [hg];dsimp only;rw [if_neg (fun h=>h rfl),if_neg (c:=m<((encF x.flt).1.length:Int)) (by omega),if_neg (c:=(4112:Int)<((encF x.flt).1.length:Int)) (by omega),if_neg (c:=(0:Int)≠0) (fun h=>h rfl)]
  unfold Cu.text;rw [hE]
 obtain⟨c2,b1,b2,b3,b4⟩:=ht 4112 (by omega);obtain⟨c3,d1,d2,d3,d4⟩:=blksN_ps b3 (by omega) hc b4;have xp:(((x.part-last-1).toNat:Nat):Int)=x.part-last-1:=by omega
 rw [xp] at a1;refine⟨c1,c2,c3,a1,a2,fun m hm=>by rw [hsame m hm,b1],?_,b3,d1,by rw [d2,b2,a2],d3,d4⟩;have:=congrArg List.length a4;simp only [Lla] at this;have hl:c1.left.length=c1.b.length-c1.at_:=Lld;rw [a2] at hl;omega
theorem part1_ps(hP:P≤65535)(hlast:-1≤last)(he:c.e=0)(hr:rightP P last n x=true)(hc:chkB x.blocks []=true)(h:c.left=headN x last++(bodB x.blocks []++r)) :
  ∃c',part1 last c=(x,c')∧c'.b=c.b∧c'.e=0∧c'.left=r∧∀k:Nat,c.b.length≤k→part1R k last c=(x,c'):=by
 obtain⟨c1,c2,c3,a1,a2,a3,a4,a5,a6,a7,a8,a9⟩:=part_ps hP hlast he hr hc h;have hr:=odt hr;have hel:=encF_le hr.2.2.2.2;have hx:∀f:Flt,f=x.flt→(PartI.mk (last+1+(x.part-last-1)) x.blocks f)=x:=by
  rintro f rfl;have:last+1+(x.part-last-1)=x.part:=by omega
  rw [this]
 refine⟨c3,?_,a7,a8,a9,fun k hk=>?_⟩
 ·unfold part1;dsimp only;rw [a1];dsimp only;rw [a3 4112 (by omega)];dsimp only;rw [filtD_enc hr.2.2.2.2];dsimp only;rw [fail_zero a5,a6];dsimp only;rw [hx _ rfl]
 ·unfold part1R;rw [a1];dsimp only;rw [a3 k (by omega),filtR_enc hr.2.2.2.2];dsimp only;rw [a6];dsimp only;rw [hx _ rfl]
end
theorem partsRun_ps{P:Int}(hP:P≤65535):∀(l l0:List PartI) (last:Int) (n:Nat) (c:Cu),-1≤last→c.e=0→chkI P l last n=true→c.left=bodI l last →
  ∃c',partsRun l.length l0 last c=(l0++l,c')∧c'.e=0∧c'.left=[]∧∀k:Nat,c.b.length≤k→partsRunR k l.length l0 last c=(l0++l,c')
 | [],l0,last,n,c,_,he,_,h=>⟨c,by rw [Lan];rfl,he,h,fun k _=>by rw [Lan];rfl⟩
 | x::l,l0,last,n,c,hlast,he,hc,h=>by
  rw [chkI,Bat,Bat] at hc;rw [bodI,Laa] at h;obtain⟨c1,a1,a2,a3,a4,a5⟩:=part1_ps hP hlast he hc.1.1 hc.1.2 h;obtain⟨y,t,hp⟩:=putN_cons (x.part-last-1).toNat;have hr:c.rest≠0:=rest_ps he (x:=y) (by rw [h];unfold headN;rw [hp];simp only [List.cons_append];rfl);have hx:=odt hc.1.1;obtain⟨c2,b1,b2,b3,b4⟩:=partsRun_ps hP l (l0++[x]) x.part _ c1 (by omega) a3 hc.2 a4;refine⟨c2,?_,b2,b3,fun k hk=>?_⟩
  ·rw [Llc,partsRun,if_neg hr,a1];dsimp only;rw [b1];simp
  ·rw [Llc,partsRunR,if_neg hr,a5 k hk];dsimp only;rw [b4 k (by rw [a2];exact hk)];simp
theorem chkI_len{P:Int}:∀(l:List PartI) (last:Int) (n:Nat),chkI P l last n=true→l=[]∨last+l.length<P
 | [],_,_,_=>.inl rfl
 | x::l,last,n,h=>by
  right;rw [chkI,Bat,Bat] at h;have hx:=odt h.1.1;rw [Llc];rcases chkI_len l x.part _ h.2 with h2 | h2
  ·rw [h2];have:(([]:List PartI).length:Int)=0:=rfl;push_cast;omega
  ·push_cast;omega
theorem foot_put{P:Int}{l:List PartI}(h:chkF P l=true):(readF (bodyN P l)).1=P∧(readF (bodyN P l)).2.1=l∧(readF (bodyN P l)).2.2.done.1=0∧readR (bodyN P l)=(P,l):=by
 unfold chkF at h;rw [Bat,Det] at h;obtain⟨⟨hP1,hP2⟩,hI⟩:=h;have hlen:(l.length:Int)≤65535:=by
  rcases chkI_len l _ _ hI with h | h
  ·rw [h];decide
  ·omega
 have hb:bodyN P l=putN P.toNat++(putN l.length++bodI l (-1)):=by unfold bodyN;rw [Laa]
 obtain⟨c1,a1,a2,a3,a4⟩:=num_ps (c:=Cu.mk (bodyN P l) 0 0) rfl (n:=P.toNat) (by omega) (m:=65535) (by omega) (show bodyN P l=_ from hb);obtain⟨c2,b1,b2,b3,b4⟩:=num_ps a3 (n:=l.length) (by omega) (m:=65535) (by omega) a4;obtain⟨c3,d1,d2,d3,d4⟩:=partsRun_ps hP2 l [] (-1) 0 c2 (Int.le_refl _) b3 hI b4;have hPP:((P.toNat:Nat):Int)=P:=by omega
 have hF:readF (bodyN P l)=(P,l,c3):=by
  unfold readF;dsimp only;rw [a1];dsimp only;rw [b1];dsimp only;rw [Itn,d1,List.nil_append,hPP]
 have hR:readR (bodyN P l)=(P,l):=by
  unfold readR;rw [a1];dsimp only;rw [b1];dsimp only;rw [Itn,d4 _ (by rw [b2,a2];exact Nlr _),List.nil_append,hPP]
 rw [hF];exact⟨rfl,rfl,done_left d2 d3,hR⟩
theorem parse_read{t:Str}(h:parseF t=true):readR t=((readF t).1,(readF t).2.1):=by
 unfold parseF okF at h;rw [Bat,Bat] at h;have hb:=odt h.2.2;have:=foot_put h.2.1;rw [hb] at this;exact this.2.2.2
theorem parse_iff(t:Str):parseF t=(chkF (readR t).1 (readR t).2&&decide (bodyN (readR t).1 (readR t).2=t)):=by
 rw [Bei];constructor
 ·intro h;rw [parse_read h];unfold parseF okF at h;rw [Bat] at h;exact h.2
 ·intro h;rw [Bat] at h;have hb:=odt h.2;have:=foot_put h.1;rw [hb] at this;unfold parseF okF;rw [this.1,this.2.1,this.2.2.1];rw [Bat];exact⟨rfl,by rw [Bat];exact h⟩
theorem footer_law(d:Dec):footOkR d=footOk d∧(footOk d=true→readR d.body=((readF d.body).1,(readF d.body).2.1)):=by
 have hp:=parse_iff d.body;constructor
 ·unfold footOkR footOk
  cases hb:d.broken with
  | true=>rfl
  | false=>
   by_cases hl:d.left≤0
   ·rw [Dct hl];simp only [Bool.not_false,Bool.true_and];rw [←Bool.and_assoc,←hp]
    cases h:parseF d.body with
    | false=>rfl
    | true=>rw [parse_read h]
   ·rw [Dcf hl];rfl
 ·intro h;unfold footOk at h;simp only [Bat] at h;exact parse_read h.2.2.1
def cutB(file:Str)(a b:Int):Str:=(file.take b.toNat).drop a.toNat
theorem cutB_len{file:Str}{a b:Int}(h0:0≤a)(h1:a≤b)(h2:b≤file.length):(cutB file a b).length=(b-a).toNat:=by
 unfold cutB;rw [Lld,Llt];omega
structure PgP where
 frm:Int
 to:Int
 ok:Bool
def pagesP(file:Str)(end_:Int):Nat→Int→List PgP
 | 0,_=>[]
 | k+1,at_=>if at_<end_ then⟨at_,mnI (at_+4100) end_,decide ((openB (cutB file at_ (mnI (at_+4100) end_))).1=0)⟩::pagesP file end_ k (mnI (at_+4100) end_) else []
def decRun:Nat→Str→Dec→Int×Dec
 | 0,_,d=>(0,d)
 | k+1,p,d=>if p.length=0 then (0,d) else
  if (pageN d (p.take (min p.length 4100))).2≠0 then ((pageN d (p.take (min p.length 4100))).2,(pageN d (p.take (min p.length 4100))).1)
  else decRun k (p.drop (min p.length 4100)) (pageN d (p.take (min p.length 4100))).1
def decN(p:Str)(tb tp:Int):Int×Dec:=if trailOk tb tp=false then (81,dec0 tb tp) else if (p.length:Int)≠tp then (80,dec0 tb tp) else
 if (decRun 5000 p (dec0 tb tp)).1≠0 then decRun 5000 p (dec0 tb tp) else if footOk (decRun 5000 p (dec0 tb tp)).2=false then (80,(decRun 5000 p (dec0 tb tp)).2) else decRun 5000 p (dec0 tb tp)
structure BlkP where
 frm:Int
 to:Int
 info:BI
 part:Int
 flag:Nat
 how:Int
 ents:List (Str×Str)
def opnP(tile:Str)(b:BI):Option (List (Str×Str)):=match (blockN tile b.raw).2 with
 | none=>none
 | some x=>if (x.2.length:Int)≠b.count then none else if (x.2.getD 0 ([],[])).1.take 64=b.cut then some x.2 else none
def flagP(tile:Str):Nat:=(tile.getD (tile.length-5) 0).toNat
def blksP(file:Str)(part:Int):List BI→Int→Str→Bool→List BlkP
 | [],_,_,_=>[]
 | b::r,at_,last,some_=>match opnP (cutB file at_ (at_+b.stored+5)) b with
  | none=>⟨at_,at_+b.stored+5,b,part,flagP (cutB file at_ (at_+b.stored+5)),1,[]⟩::blksP file part r (at_+b.stored+5) last some_
  | some e=>⟨at_,at_+b.stored+5,b,part,flagP (cutB file at_ (at_+b.stored+5)),if some_=true∧cmpN (e.getD 0 ([],[])).1 last<0 then 2 else 0,e⟩::blksP file part r (at_+b.stored+5) (e.getD (e.length-1) ([],[])).1 true
def infosP(file:Str):List PartI→Int→List (PartI×List BlkP)
 | [],_=>[]
 | x::r,at_=>(x,blksP file x.part x.blocks at_ [] false)::infosP file r (at_+spB x.blocks)
def lastP(file:Str):Int:=mxI ((file.length:Int)-24) 0
def trailP(file:Str):Int×Int×Int:=trailN (file.drop (lastP file).toNat) file.length
def endP(file:Str):Int:=(trailP file).1+(trailP file).2.1
def pgsP(file:Str):List PgP:=pagesP file (endP file) 5000 (trailP file).1
def rightP0(file:Str):Bool:=(pgsP file).all fun p=>p.ok
def footP(file:Str):Int×Dec:=decN (cutB file (trailP file).1 (endP file)) (trailP file).1 (trailP file).2.1
def rightF(file:Str):Bool:=rightP0 file&&decide ((footP file).1=0)
def partsP(file:Str):Int:=(readF (footP file).2.body).1
def listP(file:Str):List PartI:=(readF (footP file).2.body).2.1
inductive Ev where
 | trailer (a b tb tp:Int) (ok:Bool)
 | page (p:PgP)
 | footer (a b P:Int) (l:List PartI) (ok:Bool)
 | part (x:PartI)
 | block (x:BlkP)
 | record (part:Int) (k v:Str)
def blkEv(x:BlkP):List Ev:=Ev.block x::x.ents.map fun e=>Ev.record x.part e.1 e.2
def infoEv(x:PartI×List BlkP):List Ev:=Ev.part x.1::x.2.flatMap blkEv
def walkP(file:Str):List Ev:=
 Ev.trailer (lastP file) file.length (trailP file).1 (trailP file).2.1 (decide ((trailP file).2.2=0)) ::
 if (trailP file).2.2≠0 then [] else
  (pgsP file).map Ev.page++Ev.footer (trailP file).1 (endP file) (if rightF file=true then partsP file else 0) (if rightF file=true then listP file else []) (rightF file) ::
  if rightF file=false then [] else (infosP file (listP file) 0).flatMap infoEv
structure Fnd where
 kind:Int
 frm:Int
 to:Int
def toldP(l:List Fnd):Ev→List Fnd
 | .trailer a b _ _ ok=>if ok=true then l else l++[⟨1,a,b⟩]
 | .page p=>if p.ok=true then l else l++[⟨2,p.frm,p.to⟩]
 | .footer a b _ _ ok=>if (ok||l.any fun f=>f.kind==2)=true then l else l++[⟨3,a,b⟩]
 | .part _=>l
 | .block x=>if x.how=1 then l++[⟨4,x.frm,x.to⟩] else if x.how=2 then l++[⟨5,x.frm,x.to⟩] else l
 | .record _ _ _=>l
def rescP(l:List (Int×Str×Str)):Ev→List (Int×Str×Str)
 | .record p k v=>l++[(p,k,v)]
 | _=>l
def blocksOfP(file:Str):List BlkP:=(infosP file (listP file) 0).flatMap fun x=>x.2
def fndB(x:BlkP):List Fnd:=if x.how=1 then [⟨4,x.frm,x.to⟩] else if x.how=2 then [⟨5,x.frm,x.to⟩] else []
def fndG(x:PgP):List Fnd:=if x.ok=true then [] else [⟨2,x.frm,x.to⟩]
def recsB(x:BlkP):List (Int×Str×Str):=x.ents.map fun e=>(x.part,e.1,e.2)
def fnd0(file:Str)(length:Int):List Fnd:=if (file.length:Int)≠length then [⟨0,0,file.length⟩] else []
def lookR(file:Str)(length:Int):List Fnd:=
 if (trailP file).2.2≠0 then fnd0 file length++[⟨1,lastP file,file.length⟩] else
 if rightP0 file=false then fnd0 file length++(pgsP file).flatMap fndG else
 if rightF file=false then fnd0 file length++[⟨3,(trailP file).1,endP file⟩] else fnd0 file length++(blocksOfP file).flatMap fndB
def rescR(file:Str):List (Int×Str×Str):=if (trailP file).2.2≠0 then [] else if rightF file=false then [] else (blocksOfP file).flatMap recsB
theorem told_page(l:List Fnd)(p:PgP):toldP l (.page p)=l++fndG p:=by
 unfold toldP fndG;dsimp only;split<;>simp
theorem told_pages:∀(ps:List PgP) (l:List Fnd),(ps.map Ev.page).foldl toldP l=l++ps.flatMap fndG
 | [],l=>by simp
 | p::ps,l=>by
  rw [List.map_cons,List.foldl_cons,told_page,told_pages ps,List.flatMap_cons,Laa]
theorem told_recs(part:Int):∀(es:List (Str×Str)) (l:List Fnd),(es.map fun e=>Ev.record part e.1 e.2).foldl toldP l=l
 | [],_=>rfl
 | e::es,l=>by rw [List.map_cons,List.foldl_cons];exact told_recs part es l
theorem told_blk(x:BlkP)(l:List Fnd):(blkEv x).foldl toldP l=l++fndB x:=by
 unfold blkEv;rw [List.foldl_cons,told_recs];unfold toldP fndB;dsimp only;split
 ·rfl
 split
 ·rfl
 ·simp
theorem told_blks:∀(xs:List BlkP) (l:List Fnd),(xs.flatMap blkEv).foldl toldP l=l++xs.flatMap fndB
 | [],l=>by simp
 | x::xs,l=>by rw [List.flatMap_cons,List.foldl_append,told_blk,told_blks xs,List.flatMap_cons,Laa]
theorem told_infos:∀(xs:List (PartI×List BlkP)) (l:List Fnd),(xs.flatMap infoEv).foldl toldP l=l++(xs.flatMap fun x=>x.2).flatMap fndB
 | [],l=>by simp
 | x::xs,l=>by
  rw [List.flatMap_cons,List.foldl_append];unfold infoEv;rw [List.foldl_cons];show List.foldl toldP (List.foldl toldP l (x.2.flatMap blkEv)) (xs.flatMap infoEv)=_;rw [told_blks,told_infos xs,List.flatMap_cons,List.flatMap_append,Laa]
theorem fndG_all:∀{ps:List PgP},(ps.all fun p=>p.ok)=true→ps.flatMap fndG=[]
 | [],_=>rfl
 | p::ps,h=>by
  rw [List.all_cons,Bat] at h;rw [List.flatMap_cons,fndG_all h.2,Lan];unfold fndG;exact if_pos h.1
theorem fndG_any:∀{ps:List PgP},(ps.all fun p=>p.ok)=false→((ps.flatMap fndG).any fun f=>f.kind==2)=true
 | [],h=>by cases h
 | p::ps,h=>by
  rw [List.flatMap_cons,List.any_append]
  cases hp:p.ok with
  | true=>
   rw [List.all_cons,hp,Bool.true_and] at h;rw [fndG_any h,Bool.or_true]
  | false=>
   have:fndG p=[⟨2,p.frm,p.to⟩]:=if_neg (by rw [hp];decide);rw [this];rfl
theorem fnd0_any(file:Str)(length:Int):((fnd0 file length).any fun f=>f.kind==2)=false:=by
 unfold fnd0;split<;>rfl
theorem look_law(file:Str)(length:Int):(walkP file).foldl toldP (fnd0 file length)=lookR file length:=by
 unfold walkP lookR;rw [List.foldl_cons];by_cases hT:(trailP file).2.2≠0
 ·rw [if_pos hT,if_pos hT,List.foldl_nil];unfold toldP;dsimp only;rw [if_neg (by rw [Det];exact hT)]
 rw [if_neg hT,if_neg hT];have hT0:(trailP file).2.2=0:=Decidable.not_not.1 hT;have e1:toldP (fnd0 file length) (.trailer (lastP file) file.length (trailP file).1 (trailP file).2.1 (decide ((trailP file).2.2=0)))=fnd0 file length:=by
  unfold toldP;exact if_pos (by rw [Det];exact hT0)
 rw [e1,List.foldl_append,told_pages,List.foldl_cons]
 cases hr0:rightP0 file with
 | false=>
  have hr:rightF file=false:=by unfold rightF;rw [hr0];rfl
  rw [hr,if_pos rfl,if_pos rfl,List.foldl_nil];unfold toldP;dsimp only;rw [if_pos];rw [Bool.false_or,List.any_append,fndG_any (ps:=pgsP file) hr0,Bool.or_true]
 | true=>
  have hg:(pgsP file).flatMap fndG=[]:=fndG_all hr0;rw [hg,Lan,if_neg (c:=(true=false)) (by decide)]
  cases hr:rightF file with
  | false=>
   rw [if_pos rfl,if_pos rfl,List.foldl_nil];unfold toldP;dsimp only;refine if_neg ?_;rw [Bool.false_or,fnd0_any];decide
  | true=>
   rw [if_neg (c:=(true=false)) (by decide),if_neg (c:=(true=false)) (by decide)];have e2:∀a b P l,toldP (fnd0 file length) (.footer a b P l true)=fnd0 file length:=fun a b P l=>by
    unfold toldP;exact if_pos (by rw [Bool.true_or])
   rw [e2,told_infos];rfl
theorem resc_pages:∀(ps:List PgP) (l:List (Int×Str×Str)),(ps.map Ev.page).foldl rescP l=l
 | [],_=>rfl
 | p::ps,l=>by rw [List.map_cons,List.foldl_cons];exact resc_pages ps l
theorem resc_recs(part:Int):∀(es:List (Str×Str)) (l:List (Int×Str×Str)),(es.map fun e=>Ev.record part e.1 e.2).foldl rescP l=l++es.map fun e=>(part,e.1,e.2)
 | [],l=>by simp
 | e::es,l=>by
  rw [List.map_cons,List.foldl_cons,resc_recs part es];unfold rescP;simp
theorem resc_blks:∀(xs:List BlkP) (l:List (Int×Str×Str)),(xs.flatMap blkEv).foldl rescP l=l++xs.flatMap recsB
 | [],l=>by simp
 | x::xs,l=>by
  rw [List.flatMap_cons,List.foldl_append];have:(blkEv x).foldl rescP l=l++recsB x:=by
   unfold blkEv;rw [List.foldl_cons];exact resc_recs x.part x.ents l
  rw [this,resc_blks xs,List.flatMap_cons,Laa]
theorem resc_infos:∀(xs:List (PartI×List BlkP)) (l:List (Int×Str×Str)),(xs.flatMap infoEv).foldl rescP l=l++(xs.flatMap fun x=>x.2).flatMap recsB
 | [],l=>by simp
 | x::xs,l=>by
  rw [List.flatMap_cons,List.foldl_append];unfold infoEv;rw [List.foldl_cons];show List.foldl rescP (List.foldl rescP l (x.2.flatMap blkEv)) (xs.flatMap infoEv)=_;rw [resc_blks,resc_infos xs,List.flatMap_cons,List.flatMap_append,Laa]
theorem resc_law(file:Str):(walkP file).foldl rescP []=rescR file:=by
 unfold walkP rescR;rw [List.foldl_cons];show List.foldl rescP [] _=_;by_cases hT:(trailP file).2.2≠0
 ·rw [if_pos hT,if_pos hT];rfl
 rw [if_neg hT,if_neg hT,List.foldl_append,resc_pages,List.foldl_cons];show List.foldl rescP [] _=_
 cases hr:rightF file with
 | false=>rw [if_pos rfl,if_pos rfl];rfl
 | true=>
  rw [if_neg (by decide),if_neg (by decide),resc_infos,List.nil_append];rfl
set_option maxRecDepth 100000
theorem go_1(pages1:Sl)(t_0_2:Int)(t_1_3:Int)(K:Int→Sl→Int→Wp)(w:World)(h:al w 42 [.int .i64 t_0_2,.int .i64 t_1_3] fun b4 W5=>al W5 46 [.int .i64 0,.sl (⟨none,0,0⟩)] fun b6 W7=>ld W7 Ki b4 0 fun n8=>ld W7 Ki b4 1 fun n9=>callK Pg 30 [.agg [.int .i64 n8,.int .i64 n9]] W7 (.tup [Lp,Li]) fun p10 n11 W12=>ifK (n11 != 0) (st W12 b6 0 [.int .i64 0,.sl (⟨none,0,0⟩)] fun W13=>ld W13 Ki b6 0 fun n14=>ld W13 .sl b6 1 fun a15=>K n14 a15 n11 W13) (ld W12 Ki b4 1 fun n16=>ifK ((pages1.len:Int) != n16) (st W12 b6 0 [.int .i64 0,.sl (⟨none,0,0⟩)] fun W17=>ld W17 Ki b6 0 fun n18=>ld W17 .sl b6 1 fun a19=>K n18 a19 80 W17) (joinK [] (fun k20=>loopL [.sl] (fun pages22 W23 g21=>ifK (decide (0<(pages22.len:Int))) (slx pages22 1 none (some (mnI (pages22.len:Int) 4100)) none fun s24=>callK Pg 31 [Ap p10,Az s24] W23 Oi fun n25 W26=>ifK (n25 != 0) (st W26 b6 0 [.int .i64 0,.sl (⟨none,0,0⟩)] fun W27=>ld W27 Ki b6 0 fun n28=>ld W27 .sl b6 1 fun a29=>K n28 a29 n25 W27) (slx pages22 1 (some (mnI (pages22.len:Int) 4100)) none none fun s30=>g21 s30 W26)) (k20 W23)) [.sl pages1] W12) fun W31=>callK Pg 32 [Ap p10] W31 (.tup [.agg [Ki,.sl],Li]) fun n32 a33 n34 W35=>st W35 b6 0 [.int .i64 n32,.sl a33] fun W36=>ld W36 Ki b6 0 fun n37=>ld W36 .sl b6 1 fun a38=>K n37 a38 n34 W36))):callK Pg 19 [Az pages1,.agg [.int .i64 t_0_2,.int .i64 t_1_3]] w (.tup [.agg [Ki,.sl],Li]) K:=Fq (n:=(n0 .nil (n0 .nil (n0 .nil (n0 .nil (n0 (.mk (some []) [] [4,6] .done (.mk none [.tmp 0 Ls] [4,6] .done .nil .nil) .nil) .nil)))))) CS_ok mixed Tryz.func19 (Eq.mpr (by kernel_rfl) h)
theorem go_22(pages1:Sl)(t_0_2:Int)(t_1_3:Int)(K:Int→Sl→Int→Wp)(w:World)(h:al w 42 [.int .i64 t_0_2,.int .i64 t_1_3] fun b4 W5=>al W5 46 [.int .i64 0,.sl (⟨none,0,0⟩)] fun b6 W7=>ld W7 Ki b4 0 fun n8=>ld W7 Ki b4 1 fun n9=>callK Pg 42 [.agg [.int .i64 n8,.int .i64 n9]] W7 (.tup [Lp,Li]) fun p10 n11 W12=>ifK (n11 != 0) (st W12 b6 0 [.int .i64 0,.sl (⟨none,0,0⟩)] fun W13=>ld W13 Ki b6 0 fun n14=>ld W13 .sl b6 1 fun a15=>K n14 a15 n11 W13) (ld W12 Ki b4 1 fun n16=>ifK ((pages1.len:Int) != n16) (st W12 b6 0 [.int .i64 0,.sl (⟨none,0,0⟩)] fun W17=>ld W17 Ki b6 0 fun n18=>ld W17 .sl b6 1 fun a19=>K n18 a19 80 W17) (joinK [] (fun k20=>loopL [Ki] (fun at_22 W23 g21=>ld W23 Ki b4 1 fun n24=>ifK (decide (at_22<n24)) (callK Pg 43 [Ap p10] W23 Oi fun n25 W26=>slx pages1 1 (some at_22) (some (w64 (at_22+n25))) none fun s27=>callK Pg 44 [Ap p10,Az s27] W26 Oi fun n28 W29=>ifK (n28 != 0) (st W29 b6 0 [.int .i64 0,.sl (⟨none,0,0⟩)] fun W30=>ld W30 Ki b6 0 fun n31=>ld W30 .sl b6 1 fun a32=>K n31 a32 n28 W30) (g21 (w64 (at_22+n25)) W29)) (k20 W23)) [.int .i64 0] W12) fun W33=>callK Pg 45 [Ap p10] W33 (.tup [.agg [Ki,.sl],Li]) fun n34 a35 n36 W37=>st W37 b6 0 [.int .i64 n34,.sl a35] fun W38=>ld W38 Ki b6 0 fun n39=>ld W38 .sl b6 1 fun a40=>K n39 a40 n36 W38))):callK Pg 24 [Az pages1,.agg [.int .i64 t_0_2,.int .i64 t_1_3]] w (.tup [.agg [Ki,.sl],Li]) K:=Fq (n:=(n0 .nil (n0 .nil (n0 .nil (n0 .nil (n0 .nil (n0 (.mk (some []) [] [4,6] .done (.mk none [.tmp 8 Li] [0,3,4,6] .done .nil .nil) .nil) .nil))))))) CS_ok mixed Tryz.func24 (Eq.mpr (by kernel_rfl) h)
theorem pageN_left{d:Dec}{page:Str}(h:(pageN d page).2=0):(pageN d page).1 = {d with body:=d.body++(openB page).2,left:=d.left-mnI d.left 4100}∧(openB page).2.length≤page.length∧(page.length:Int)=mnI d.left 4100∧mnI d.left 4100≠0:=by
 unfold pageN at h ⊢;split at h
 ·cases h
 rename_i h1;rw [if_neg h1];split at h
 ·cases h
 rename_i h2;rw [if_neg h2];have:=openB_len (Decidable.not_not.1 h2);have h3:¬(page.length:Int)≠mnI d.left 4100:=fun e=>h1 (.inr (.inr e));exact⟨rfl,by omega,Decidable.not_not.1 h3,fun e=>h1 (.inr (.inl e))⟩
theorem mnI_nat{a b:Nat}:mnI (a:Int) (b:Int)=((min a b:Nat):Int):=by
 unfold mnI;split<;>omega
theorem decRun_s(n:Nat)(p:Str)(d:Dec):decRun (n+1) p d=if p.length=0 then (0,d) else
  if (pageN d (p.take (min p.length 4100))).2≠0 then ((pageN d (p.take (min p.length 4100))).2,(pageN d (p.take (min p.length 4100))).1)
  else decRun n (p.drop (min p.length 4100)) (pageN d (p.take (min p.length 4100))).1:=rfl
set_option maxHeartbeats 1000000 in
theorem footDecode_ok{w:World}{sp:Sl}{p:Str}{tb tp:Int}(hr:RdS w ET sp p)(hl:p.length≤20000000){K:Int→Sl→Int→Wp}
  (hN:(decN p tb tp).1≠0→∀w',Mod F0 w w'→K 0 ⟨none,0,0⟩ (decN p tb tp).1 w')
  (hS:(decN p tb tp).1=0→∀w' R s ps,Fresh w w' F0 R→FootL R s ps (readF (decN p tb tp).2.body).2.1→K (readF (decN p tb tp).2.body).1 s 0 w') :
  callK Tryz.prog c_1 [Az sp,.agg [.int .i64 tb,.int .i64 tp]] w (.tup [.agg [Ki,.sl],Li]) K:=by
 refine go_1 _ _ _ _ _ ?_;refine (Fresh.start w F0).alK fun b4 w1 f1 _ _=>f1.alK fun b6 w2 f2 _ _=>?_;have hB4:Blk w2 b4 [.int .i64 tb,.int .i64 tp]:=f2.blk (i:=0) rfl;have f2:Fresh w w2 F0 [(b4,[.int .i64 tb,.int .i64 tp]),(b6,pairC 0 ⟨none,0,0⟩)]:=f2;have bad:∀{u:World} {X:BL} {e:Int},Fresh w u F0 ([(b4,[.int .i64 tb,.int .i64 tp]),(b6,pairC 0 ⟨none,0,0⟩)]++X)→e=(decN p tb tp).1→e≠0→Go.Vw.st u b6 0 [.int .i64 0,.sl ⟨none,0,0⟩] fun W27=>Go.Vw.ld W27 Ki b6 0 fun n28=>Go.Vw.ld W27 .sl b6 1 fun a29=>K n28 a29 e W27:=fun {u X e} f he hne=>by
  refine f.stK 1 rfl (Nlr 2) fun u2 f2 _=>?_;have hB6:Blk u2 b6 (pairC 0 ⟨none,0,0⟩):=f2.blk (i:=1) rfl;refine hB6.ldK (k:=Ki) 0 rfl (hB6.ldK (k:=.sl) ⟨none,0,0⟩ rfl ?_);rw [he];exact hN (by rw [←he];exact hne) u2 f2.mod
 refine hB4.ldK (k:=Ki) tb rfl (hB4.ldK (k:=Ki) tp rfl (newDecoder_ok (fun ht w3 M3=>?_) fun ht w3 d hF=>?_))
 ·have e:(decN p tb tp).1=81:=by unfold decN;rw [if_pos ht]
  exact ifK_t rfl (bad (X:=[]) (f2.quiet M3) e.symm (by decide))
 have f3:Fresh w w3 F0 ([(b4,[.int .i64 tb,.int .i64 tp]),(b6,pairC 0 ⟨none,0,0⟩)]++[(d,decC (dec0 tb tp) ⟨none,0,0⟩)]):=f2.join hF (fun _ _ h=>h) fun _ _ _ h=>h;refine ifK_f rfl ?_;have hB4':Blk w3 b4 [.int .i64 tb,.int .i64 tp]:=f3.blk (i:=0) rfl;refine hB4'.ldK (k:=Ki) tp rfl ?_;rw [hr.len];refine Iq (fun q=>?_) fun q=>?_
 ·have q:(p.length:Int)≠tp:=by simpa using q
  have e:(decN p tb tp).1=80:=by unfold decN;rw [if_neg (by rw [ht];decide),if_pos q]
  exact bad f3 e.symm (by decide)
 have q:¬(p.length:Int)≠tp:=by simpa using q
 have htp:(p.length:Int)=tp:=Decidable.not_not.1 q;have edec:decN p tb tp=if (decRun 5000 p (dec0 tb tp)).1≠0 then decRun 5000 p (dec0 tb tp) else if footOk (decRun 5000 p (dec0 tb tp)).2=false then (80,(decRun 5000 p (dec0 tb tp)).2) else decRun 5000 p (dec0 tb tp):=by
  unfold decN;rw [if_neg (by rw [ht];decide),if_neg q]
 have f3:Fresh w w3 F0 ((d,decC (dec0 tb tp) ⟨none,0,0⟩)::([(b4,[.int .i64 tb,.int .i64 tp]),(b6,pairC 0 ⟨none,0,0⟩)]++[])):=f3.perm (by
  show List.Perm [_,_,_] [_,_,_];exact (Lpc (l₁:=[(d,decC (dec0 tb tp) ⟨none,0,0⟩)]) (l₂:=[(b4,[Value.int .i64 tb,Value.int .i64 tp]),(b6,pairC 0 ⟨none,0,0⟩)])))
 refine join0 (fun u=>∃x s ro,Fresh w u F0 ((d,decC x s)::([(b4,[.int .i64 tb,.int .i64 tp]),(b6,pairC 0 ⟨none,0,0⟩)]++ro))∧VecL ro ET s x.body∧decRun 5000 p (dec0 tb tp)=(0,x)∧x.body.length≤p.length) ?_ ?_
 ·intro k hk;refine loop1 (k:=.sl) (fun (pg:Sl) u=>∃(n:Nat) (p':Str) (x:Dec) (s:Sl) (ro:BL),RdS w ET pg p'∧p'.length≤4100*n∧Fresh w u F0 ((d,decC x s)::([(b4,[.int .i64 tb,.int .i64 tp]),(b6,pairC 0 ⟨none,0,0⟩)]++ro))∧VecL ro ET s x.body∧decRun 5000 p (dec0 tb tp)=decRun n p' x ∧
   x.body.length+p'.length≤p.length∧0≤x.left∧x.left≤tp) (fun pg _=>pg.len) (x:=sp) rfl
   ⟨5000,p,dec0 tb tp,⟨none,0,0⟩,[],hr,by omega,f3,VecL.nil ET,rfl,by show 0+p.length≤p.length;omega,by show 0≤tp;omega,Int.le_refl tp⟩ ?_
  rintro pg u ⟨n,p',x,s,ro,hp,hn,hf,hv,he,hbl,hx0,hx1⟩;rw [hp.len];refine Iq (fun q=>?_) fun q=>?_;rotate_left
  ·have q:¬0<(p'.length:Int):=odf q;have h0:p'.length=0:=by omega
   refine hk u ⟨x,s,ro,hf,hv,?_,by omega⟩;rw [he]
   cases n with
   | zero=>rfl
   | succ n=>rw [decRun_s,if_pos h0]
  have q:0<(p'.length:Int):=odt q;obtain⟨n',rfl⟩:∃n',n=n'+1:=⟨n-1,by omega⟩;have hmn:mnI (p'.length:Int) 4100=((min p'.length 4100:Nat):Int):=mnI_nat (b:=4100);rw [hmn];rw [decRun_s n' p' x,if_neg (c:=p'.length=0) (by omega)] at he;refine hp.toK (n:=min p'.length 4100) (by omega) rfl rfl fun s24 h24 _=>?_;refine page_ok hf hv (by omega) ⟨hx0,by omega⟩ (h24.quiet hf.mod) (by rw [Llt];omega) fun u2 s2 ro2 f2' v2=>?_;refine Iq (fun q2=>?_) fun q2=>?_
  ·have q2:(pageN x (p'.take (min p'.length 4100))).2≠0:=by simpa using q2
   rw [if_pos q2] at he;have e:(decN p tb tp).1=(pageN x (p'.take (min p'.length 4100))).2:=by rw [edec,he,if_pos q2]
   refine bad (X:=(d,decC (pageN x (p'.take (min p'.length 4100))).1 s2)::ro2) (f2'.perm ?_) e.symm q2;exact List.perm_middle
  ·have q2:¬(pageN x (p'.take (min p'.length 4100))).2≠0:=by simpa using q2
   rw [if_neg q2] at he;obtain⟨e1,e2,e3,_⟩:=pageN_left (Decidable.not_not.1 q2);have hmx:mnI x.left 4100≤x.left:=by unfold mnI;split<;>omega
   have hm0:0≤mnI x.left 4100:=by unfold mnI;split<;>omega
   have htl:(p'.take (min p'.length 4100)).length=min p'.length 4100:=by rw [Llt];omega
   refine hp.fromK (n:=min p'.length 4100) (by omega) rfl rfl fun s30 h30 _=>⟨⟨n',_,_,s2,ro2,h30,by rw [Lld];omega,f2',v2,he,?_,?_,?_⟩,?_⟩
   ·rw [e1,Lld];show (x.body++(openB (p'.take (min p'.length 4100))).2).length+_≤_;rw [Lla];omega
   ·rw [e1];show 0≤x.left-mnI x.left 4100;omega
   ·rw [e1];show x.left-mnI x.left 4100≤tp;omega
   ·rw [h30.len,Lld];omega
 rintro u ⟨x,s,ro,hf,hv,he,hxl⟩;have hBd:Blk u d (decC x s):=hf.blk (i:=0) rfl;have hrd:RdS u ET s x.body:=hv.rd fun q hq=>hf.own q (Lmc _ (Lmr _ hq));rw [he] at edec;rw [if_neg (fun h=>h rfl)] at edec;have hf:Fresh w u F0 ([(b4,[.int .i64 tb,.int .i64 tp]),(b6,pairC 0 ⟨none,0,0⟩)]++(d,decC x s)::ro):=hf.perm List.perm_middle;refine footDec_ok hBd hrd (by omega) (fun hb u2 M2=>?_) fun hb u2 R s2 ps2 hR hFL=>?_
 ·have e:(decN p tb tp).1=80:=by rw [edec,if_pos hb]
  exact bad (hf.quiet M2) e.symm (by decide)
 ·rw [if_neg (by rw [hb];decide)] at edec;have f5:=hf.join hR (fun _ _ h=>h) fun _ _ _ h=>h;refine f5.stK 1 rfl (Nlr 2) fun u3 f6 _=>?_;have hB6:Blk u3 b6 (pairC (readF x.body).1 s2):=f6.blk (i:=1) rfl;refine hB6.ldK (k:=Ki) (readF x.body).1 rfl (hB6.ldK (k:=.sl) s2 rfl ?_);have:=hS (by rw [edec]) u3 R s2 ps2 (f6.sub (List.Sublist.cons _ (List.Sublist.cons _ (Lsr _ _)))) (by rw [edec];exact hFL);rw [edec] at this;exact this
set_option maxRecDepth 100000
theorem go_6(file1:Sl)(m2:Value)(K:Wp)(w:World)(h:al w 60 [.int .i64 0,.int .i64 0] fun b3 W4=>st W4 b3 0 [.int .i64 (mxI (w64 ((file1.len:Int)-24)) 0),.int .i64 (file1.len:Int)] fun W5=>ld W5 Ki b3 0 fun n6=>slx file1 1 (some n6) none none fun s7=>callK Pg 17 [Az s7,Ai (file1.len:Int)] W5 (.tup [.agg [Ki,Ki],Li]) fun n8 n9 n10 W11=>al W11 42 [.int .i64 0,.int .i64 0] fun b12 W13=>st W13 b12 0 [.int .i64 n8,.int .i64 n9] fun W14=>ld W14 Ki b3 0 fun n15=>ld W14 Ki b3 1 fun n16=>ld W14 Ki b12 0 fun n17=>ld W14 Ki b12 1 fun n18=>callI Pg m2 "winnow/inspect.trailer" [.agg [.int .i64 n15,.int .i64 n16],.agg [.int .i64 n17,.int .i64 n18],Ab (n10==0)] W14 (.tup []) fun W19=>ifK (n10 != 0) (K W19) (ld W19 Ki b12 0 fun n20=>ld W19 Ki b12 1 fun n21=>ld W19 Ki b12 0 fun n22=>joinK [.bool] (fun k23=>loopL [.bool,Ki] (fun right25 at_26 W27 g24=>ifK (decide (at_26<w64 (n20+n21))) (al W27 60 [.int .i64 0,.int .i64 0] fun b28 W29=>st W29 b28 0 [.int .i64 at_26,.int .i64 (mnI (w64 ((w64 (at_26+4096))+4)) (w64 (n20+n21)))] fun W30=>ld W30 Ki b28 0 fun n31=>ld W30 Ki b28 1 fun n32=>slx file1 1 (some n31) (some n32) none fun s33=>callK Pg 18 [Az s33] W30 (.tup [Ls,Li]) fun a34 n35 W36=>ld W36 Ki b28 0 fun n37=>ld W36 Ki b28 1 fun n38=>callI Pg m2 "winnow/inspect.page" [.agg [.int .i64 n37,.int .i64 n38],Ab (n35==0)] W36 (.tup []) fun W39=>joinK [.bool] (fun k40=>ifK right25 (k40 (n35==0) W39) (k40 false W39)) fun right41 W42=>ld W42 Ki b28 1 fun n43=>g24 right41 n43 W42) (k23 right25 W27)) [.lit true,.int .i64 n22] W19) fun right44 W45=>al W45 46 [.int .i64 0,.sl (⟨none,0,0⟩)] fun b46 W47=>joinK [.bool] (fun k48=>ifK right44 (drawK W47 fun D W49=>ldD D W49 Ki b12 0 fun n50=>slx file1 1 (some n50) (some (w64 (n20+n21))) none fun s51=>ldD D W49 Ki b12 0 fun n52=>ldD D W49 Ki b12 1 fun n53=>callK Pg 19 [Az s51,.agg [.int .i64 n52,.int .i64 n53]] W49 (.tup [.agg [Ki,.sl],Li]) fun n54 a55 n56 W57=>Mod D W49 W57∧st W57 b46 0 [.int .i64 n54,.sl a55] fun W58=>Mod D W49 W58∧k48 (n56==0) W58) (k48 right44 W47)) fun right59 W60=>ld W60 Ki b12 0 fun n61=>ld W60 Ki b46 0 fun n62=>ld W60 .sl b46 1 fun a63=>callI Pg m2 "winnow/inspect.footer" [.agg [.int .i64 n61,.int .i64 (w64 (n20+n21))],.agg [.int .i64 n62,.sl a63],Ab right59] W60 (.tup []) fun W64=>ifK (!right59) (K W64) (ld W64 .sl b46 1 fun a65=>joinK [] (fun k66=>loopL [Ki,Ki] (fun at_68 t10769 W70 g67=>ifK (decide (t10769<(a65.len:Int))) (ix a65 5 t10769 fun b71 o72=>ld W70 Ki b71 o72 fun n73=>ld W70 .sl b71 (o72+1) fun a74=>ld W70 .bool b71 (o72+2) fun c75=>ld W70 Ki b71 (o72+3) fun n76=>ld W70 .sl b71 (o72+4) fun a77=>al W70 79 [.int .i64 0,.sl (⟨none,0,0⟩),.lit false,.int .i64 0,.sl (⟨none,0,0⟩)] fun b78 W79=>st W79 b78 0 [.int .i64 n73,.sl a74,.bool c75,.int .i64 n76,.sl a77] fun W80=>ld W80 Ki b78 0 fun n81=>ld W80 .sl b78 1 fun a82=>ld W80 .bool b78 2 fun c83=>ld W80 Ki b78 3 fun n84=>ld W80 .sl b78 4 fun a85=>callI Pg m2 "winnow/inspect.part" [.agg [.int .i64 n81,.sl a82,.bool c83,.int .i64 n84,.sl a85]] W80 (.tup []) fun W86=>ld W86 Ki b78 0 fun n87=>ld W86 .sl b78 1 fun a88=>ld W86 .bool b78 2 fun c89=>ld W86 Ki b78 3 fun n90=>ld W86 .sl b78 4 fun a91=>callK Pg 20 [Az file1,Ai at_68,.agg [.int .i64 n87,.sl a88,.bool c89,.int .i64 n90,.sl a91],.leaf (.val m2)] W86 Oi fun n92 W93=>g67 n92 (w64 (t10769+1)) W93) (k66 W70)) [.int .i64 0,.int .i64 0] W64) fun W94=>K W94))):callK Pg 14 [Az file1,.leaf (.val m2)] w (.tup []) K:=Fq (n:=(n0 .nil (n0 .nil (n0 .nil (n0 .nil (n0 .nil (n0 .nil (n0 .nil (n0 (n0 .nil (.mk (some [.tmp 9 Lb]) [] [0,1,6,8] .done (.mk none [.tmp 9 Lb,.tmp 10 Li] [0,1,6,8] .done (n0 .nil (n0 (n0 .nil (n0 .nil (n0 .nil (n0 (.mk (some [.tmp 9 Lb]) [] [0,1,6,8,11] .done .nil .nil) .nil)))) .nil)) .nil) .nil)) (n0 .nil (n0 (n0 .nil (.mk (some [.tmp 9 Lb]) [] [0,1,6,8,14] .done (n0 (.mk none [] [] (tk [0,1,2,3,4,5] (.eff 6 (.take 7 (.take 8 (.take 9 (.eff 10 (.take 11 .done))))))) .nil .nil) .nil) .nil)) (n0 .nil (n0 .nil (n0 .nil (n0 .nil (.mk (some []) [] [] .done (.mk none [.tmp 15 Li,.tmp 107 Li] [0,1,105,106] .done .nil .nil) .nil)))))))))))))))) CS_ok mixed Tryz.func14 (Eq.mpr (by kernel_rfl) h)
theorem go_4(file1:Sl)(at_2:Int)(x_0_3:Int)(x_1_4:Sl)(x_2_5:Bool)(x_3_6:Int)(x_4_7:Sl)(m8:Value)(K:Int→Wp)(w:World)(h:al w 79 [.int .i64 x_0_3,.sl x_1_4,.bool x_2_5,.int .i64 x_3_6,.sl x_4_7] fun b9 W10=>(∀x∈[(m8:Value)],isCell x=true)∧al W10 64 [.val m8] fun b11 W12=>ld W12 .sl b9 1 fun a13=>joinK [Ki,.marks] (fun k14=>loopL [Ki,.str,.bool,Ki,.marks] (fun at_16 last17 some_18 t2719 marks20 W21 g15=>ifK (decide (t2719<(a13.len:Int))) (joinK [Ki,.str,.bool,.marks] (fun k22=>ix a13 4 t2719 fun b23 o24=>ld W21 Ki b23 o24 fun n25=>ld W21 Ki b23 (o24+1) fun n26=>ld W21 Ki b23 (o24+2) fun n27=>ld W21 .str b23 (o24+3) fun s28=>al W21 52 [.int .i64 0,.int .i64 0,.int .i64 0,.str []] fun b29 W30=>st W30 b29 0 [.int .i64 n25,.int .i64 n26,.int .i64 n27,.str s28] fun W31=>ld W31 Ki b29 0 fun n32=>al W31 60 [.int .i64 0,.int .i64 0] fun b33 W34=>st W34 b33 0 [.int .i64 at_16,.int .i64 (w64 ((w64 (at_16+n32))+5))] fun W35=>ld W35 Ki b33 1 fun n36=>ld W35 Ki b33 0 fun n37=>ld W35 Ki b33 1 fun n38=>slx file1 1 (some n37) (some n38) none fun s39=>ix s39 1 (w64 ((s39.len:Int)-5)) fun b40 o41=>ld W35 (.int .u8) b40 o41 fun n42=>ld W35 Ki b29 0 fun n43=>ld W35 Ki b29 1 fun n44=>ld W35 Ki b29 2 fun n45=>ld W35 .str b29 3 fun s46=>callK Pg 33 [Az s39,.agg [.int .i64 n43,.int .i64 n44,.int .i64 n45,.str s46]] W35 (.tup [Lp,Lb]) fun p47 c48 W49=>ifK (!c48) (ld W49 .val b11 0 fun v50=>ld W49 Ki b33 0 fun n51=>ld W49 Ki b33 1 fun n52=>ld W49 Ki b29 0 fun n53=>ld W49 Ki b29 1 fun n54=>ld W49 Ki b29 2 fun n55=>ld W49 .str b29 3 fun s56=>callI Pg v50 "winnow/inspect.block" [.agg [.int .i64 n51,.int .i64 n52],.agg [.int .i64 n53,.int .i64 n54,.int .i64 n55,.str s56],.leaf (.int .u8 n42),Ai 1] W49 (.tup []) fun W57=>k22 n36 last17 some_18 marks20 W57) (callK Pg 34 [Ap p47,Ai 0] W49 (.tup [Lt,Lt,Li]) fun s58 s59 n60 W61=>joinK [.bool] (fun k62=>ifK some_18 (callK Pg 35 [Au s58,Au last17] W61 Oi fun n63 W64=>k62 (decide (n63<0)) W64) (k62 false W61)) fun t7765 W66=>joinK [Ki] (fun k67=>ifK t7765 (k67 2 W66) (k67 0 W66)) fun how68 W69=>callK Pg 36 [Ap p47] W69 Oi fun n70 W71=>callK Pg 34 [Ap p47,Ai (w64 (n70-1))] W71 (.tup [Lt,Lt,Li]) fun s72 s73 n74 W75=>ld W75 .val b11 0 fun v76=>ld W75 Ki b33 0 fun n77=>ld W75 Ki b33 1 fun n78=>ld W75 Ki b29 0 fun n79=>ld W75 Ki b29 1 fun n80=>ld W75 Ki b29 2 fun n81=>ld W75 .str b29 3 fun s82=>callI Pg v76 "winnow/inspect.block" [.agg [.int .i64 n77,.int .i64 n78],.agg [.int .i64 n79,.int .i64 n80,.int .i64 n81,.str s82],.leaf (.int .u8 n42),Ai how68] W75 (.tup []) fun W83=>callK Pg 37 [Ap p47] W83 (.one (.leaf (.val))) fun v84 W85=>rangeK Pg [Lt,Lt] v84 none W85 (fun rc95 x93 x94 W87 beg90 next91 leave92=>beg90 W87 fun W96=>ld W96 .val b11 0 fun v97=>ld W96 Ki b9 0 fun n98=>callI Pg v97 "winnow/inspect.record" [Ai n98,Au x93,Au x94] W96 (.tup []) fun W99=>next91 W99) (fun r100 W101=>k22 n36 s72 true (r100::marks20) W101) [])) fun at_102 last103 some_104 marks105 W106=>g15 at_102 last103 some_104 (w64 (t2719+1)) marks105 W106) (k14 at_16 marks20 W21)) [.int .i64 at_2,.str [],.lit false,.int .i64 0,.marks []] W12) fun at_107 marks108 W109=>closeK marks108 W109 fun W110=>K at_107 W110):callK Pg 20 [Az file1,Ai at_2,.agg [.int .i64 x_0_3,.sl x_1_4,.bool x_2_5,.int .i64 x_3_6,.sl x_4_7],.leaf (.val m8)] w Oi K:=Fq (n:=(n0 .nil (n0 .nil (n0 (n0 .nil (.mk (some [.tmp 1 Li,.marks]) [] [] .done (.mk none [.tmp 1 Li,.tmp 9 Lt,.tmp 10 Lb,.tmp 27 Li,.marks] [0,6,7,8,25,26] .done (n0 .nil (n0 .nil (n0 (.mk (some [.tmp 1 Li,.tmp 9 Lt,.tmp 10 Lb,.marks]) [] [0,6,7,8,25,26,27] .done (n0 .nil (n0 .nil (n0 .nil (n0 .nil (n0 .nil (n0 .nil (n0 .nil (n0 .nil (n0 .nil (n0 (n0 (.mk (some [.tmp 77 Lb]) [] [0,1,6,7,8,12,13,15,16,18,25,26,27] .done .nil .nil) (.mk (some [.tmp 18 Li]) [] [0,1,6,7,8,12,13,15,16,25,26,27] .done .nil .nil)) (n0 .nil (n0 .nil (n0 .nil (n0 .nil (n0 (.range [Lt,Lt] .nil .nil) .nil))))))))))))))) .nil) .nil))) .nil) .nil)) .nil)))) CS_ok mixed Tryz.func20 (Eq.mpr (by kernel_rfl) h)
theorem go_2(tile1:Sl)(b_0_2:Int)(b_1_3:Int)(b_2_4:Int)(b_3_5:List UInt8)(K:PA→Bool→Wp)(w:World)(h:al w 52 [.int .i64 b_0_2,.int .i64 b_1_3,.int .i64 b_2_4,.str b_3_5] fun b6 W7=>ld W7 Ki b6 1 fun n8=>callK Pg 53 [Az tile1,Ai n8] W7 (.tup [Lp,Li]) fun p9 n10 W11=>joinK [.bool] (fun k12=>drawK W11 fun D W13=>ifK (n10 != 0) (k12 true W13) (ldD D W13 Ki b6 2 fun n14=>callK Pg 36 [Ap p9] W13 Oi fun n15 W16=>Mod D W13 W16∧k12 (n15 != n14) W16)) fun t2617 W18=>ifK t2617 (K none false W18) (callK Pg 34 [Ap p9,Ai 0] W18 (.tup [Lt,Lt,Li]) fun s19 s20 n21 W22=>drawK W22 fun D W23=>ssx s19 none (some (mnI (s19.length:Int) 64)) fun s24=>ldD D W23 .str b6 3 fun s25=>K p9 (s24==s25) W23)):callK Pg 33 [Az tile1,.agg [.int .i64 b_0_2,.int .i64 b_1_3,.int .i64 b_2_4,.str b_3_5]] w (.tup [Lp,Lb]) K:=Fq (n:=(n0 .nil (n0 .nil (n0 (n0 (.mk (some [.tmp 26 Lb]) [] [3,6] (tk [0,1,2] (.split 2 (.take 3 (.take 4 (.take 5 (.take 6 (.take 7 (.take 8 .done)))))) (.take 3 (.take 5 (.take 6 (.eff 4 (.take 7 (.take 8 .done)))))))) .nil .nil) .nil) (n0 .nil (n0 (.mk none [] [] (tk [0,1,2,3,4,5,6,7,8,9,10] .done) .nil .nil) .nil)))))) CS_ok mixed Tryz.func33 (Eq.mpr (by kernel_rfl) h)
theorem go_7(x1:PA)(kind2:Int)(at_0_3:Int)(at_1_4:Int)(K:Wp)(w:World)(h:al w 60 [.int .i64 at_0_3,.int .i64 at_1_4] fun b5 W6=>drawK W6 fun D W7=>dr x1 fun b8 o9=>ldD D W7 .sl b8 o9 fun a10=>ldD D W7 Ki b5 0 fun n11=>ldD D W7 Ki b5 1 fun n12=>al W7 34 [.int .i64 kind2,.int .i64 n11,.int .i64 n12] fun b13 W14=>Mod D W7 W14∧ap W14 34 3 24 [.int .i64 0,.int .i64 0,.int .i64 0] a10 (⟨some (b13,0),1,1⟩) fun a15 W16=>Mod D W7 W16∧dr x1 fun b17 o18=>st W16 b17 o18 [.sl a15] fun W19=>K W19):callK Pg 16 [Ap x1,Ai kind2,.agg [.int .i64 at_0_3,.int .i64 at_1_4]] w (.tup []) K:=Fq (n:=(n0 .nil (.mk none [] [] (tk [0,1,2,3,4,5,6,7,8,9,10] (.eff 11 (.eff 12 (.take 13 (.take 14 (.last 15)))))) .nil .nil))) CS_ok mixed Tryz.func16 (Eq.mpr (by kernel_rfl) h)
theorem go_8(x1:PA)(at_0_2:Int)(at_1_3:Int)(__0_4:Int)(__1_5:Int)(ok6:Bool)(K:Wp)(w:World)(h:al w 60 [.int .i64 at_0_2,.int .i64 at_1_3] fun b7 W8=>al W8 42 [.int .i64 __0_4,.int .i64 __1_5] fun b9 W10=>joinK [] (fun k11=>ifK (!ok6) (ld W10 Ki b7 0 fun n12=>ld W10 Ki b7 1 fun n13=>callK Pg 16 [Ap x1,Ai 1,.agg [.int .i64 n12,.int .i64 n13]] W10 (.tup []) fun W14=>k11 W14) (k11 W10)) fun W15=>K W15):callK Pg 190 [Ap x1,.agg [.int .i64 at_0_2,.int .i64 at_1_3],.agg [.int .i64 __0_4,.int .i64 __1_5],Ab ok6] w (.tup []) K:=Fq (n:=(n0 .nil (n0 .nil (.mk (some []) [] [] .done .nil .nil)))) CS_ok mixed Tryz.func190 (Eq.mpr (by kernel_rfl) h)
theorem go_9(x1:PA)(at_0_2:Int)(at_1_3:Int)(ok4:Bool)(K:Wp)(w:World)(h:al w 60 [.int .i64 at_0_2,.int .i64 at_1_3] fun b5 W6=>joinK [] (fun k7=>ifK (!ok4) (ld W6 Ki b5 0 fun n8=>ld W6 Ki b5 1 fun n9=>callK Pg 16 [Ap x1,Ai 2,.agg [.int .i64 n8,.int .i64 n9]] W6 (.tup []) fun W10=>k7 W10) (k7 W6)) fun W11=>K W11):callK Pg 187 [Ap x1,.agg [.int .i64 at_0_2,.int .i64 at_1_3],Ab ok4] w (.tup []) K:=Fq (n:=(n0 .nil (n0 .nil (.mk (some []) [] [] .done .nil .nil)))) CS_ok mixed Tryz.func187 (Eq.mpr (by kernel_rfl) h)
theorem go_11(x1:PA)(at_0_2:Int)(at_1_3:Int)(__0_4:Int)(__1_5:Sl)(ok6:Bool)(K:Wp)(w:World)(h:al w 60 [.int .i64 at_0_2,.int .i64 at_1_3] fun b7 W8=>al W8 46 [.int .i64 __0_4,.sl __1_5] fun b9 W10=>dr x1 fun b11 o12=>ld W10 .sl b11 o12 fun a13=>joinK [.bool] (fun k14=>loopL [.bool,Ki] (fun ok16 t1517 W18 g15=>ifK (decide (t1517<(a13.len:Int))) (ix a13 3 t1517 fun b19 o20=>ld W18 Ki b19 o20 fun n21=>ld W18 Ki b19 (o20+1) fun n22=>ld W18 Ki b19 (o20+2) fun n23=>al W18 34 [.int .i64 0,.int .i64 0,.int .i64 0] fun b24 W25=>st W25 b24 0 [.int .i64 n21,.int .i64 n22,.int .i64 n23] fun W26=>joinK [.bool] (fun k27=>ifK ok16 (k27 true W26) (ld W26 Ki b24 0 fun n28=>k27 (n28==2) W26)) fun ok29 W30=>g15 ok29 (w64 (t1517+1)) W30) (k14 ok16 W18)) [.bool ok6,.int .i64 0] W10) fun ok31 W32=>joinK [] (fun k33=>ifK (!ok31) (ld W32 Ki b7 0 fun n34=>ld W32 Ki b7 1 fun n35=>callK Pg 16 [Ap x1,Ai 3,.agg [.int .i64 n34,.int .i64 n35]] W32 (.tup []) fun W36=>k33 W36) (k33 W32)) fun W37=>K W37):callK Pg 186 [Ap x1,.agg [.int .i64 at_0_2,.int .i64 at_1_3],.agg [.int .i64 __0_4,.sl __1_5],Ab ok6] w (.tup []) K:=Fq (n:=(n0 .nil (n0 (n0 .nil (.mk (some [.tmp 3 Lb]) [] [0,5] .done (.mk none [.tmp 3 Lb,.tmp 15 Li] [0,5,13,14] .done (n0 .nil (n0 .nil (n0 (n0 (n0 .nil (.mk (some [.tmp 3 Lb]) [] [0,5,13,14,15] .done .nil .nil)) .nil) .nil))) .nil) .nil)) (n0 .nil (.mk (some []) [] [] .done .nil .nil))))) CS_ok mixed Tryz.func186 (Eq.mpr (by kernel_rfl) h)
theorem go_12(x1:PA)(t1_0_2:Int)(t1_1_3:Sl)(t1_2_4:Bool)(t1_3_5:Int)(t1_4_6:Sl)(K:Wp)(w:World)(h:al w 79 [.int .i64 t1_0_2,.sl t1_1_3,.bool t1_2_4,.int .i64 t1_3_5,.sl t1_4_6] fun b7 W8=>K W8):callK Pg 188 [Ap x1,.agg [.int .i64 t1_0_2,.sl t1_1_3,.bool t1_2_4,.int .i64 t1_3_5,.sl t1_4_6]] w (.tup []) K:=Fq (n:=.nil) CS_ok mixed Tryz.func188 (Eq.mpr (by kernel_rfl) h)
theorem go_10(x1:PA)(at_0_2:Int)(at_1_3:Int)(__0_4:Int)(__1_5:Int)(__2_6:Int)(__3_7:List UInt8)(_8:Int)(how9:Int)(K:Wp)(w:World)(h:al w 60 [.int .i64 at_0_2,.int .i64 at_1_3] fun b10 W11=>al W11 52 [.int .i64 __0_4,.int .i64 __1_5,.int .i64 __2_6,.str __3_7] fun b12 W13=>joinK [] (fun k14=>ifK (how9==1) (ld W13 Ki b10 0 fun n15=>ld W13 Ki b10 1 fun n16=>callK Pg 16 [Ap x1,Ai 4,.agg [.int .i64 n15,.int .i64 n16]] W13 (.tup []) fun W17=>k14 W17) (joinK [] (fun k18=>ifK (how9==2) (ld W13 Ki b10 0 fun n19=>ld W13 Ki b10 1 fun n20=>callK Pg 16 [Ap x1,Ai 5,.agg [.int .i64 n19,.int .i64 n20]] W13 (.tup []) fun W21=>k18 W21) (k18 W13)) fun W22=>k14 W22)) fun W23=>K W23):callK Pg 185 [Ap x1,.agg [.int .i64 at_0_2,.int .i64 at_1_3],.agg [.int .i64 __0_4,.int .i64 __1_5,.int .i64 __2_6,.str __3_7],.leaf (.int .u8 _8),Ai how9] w (.tup []) K:=Fq (n:=(n0 .nil (n0 .nil (n0 (n0 .nil (.mk (some []) [] [] .done .nil (n0 .nil (.mk (some []) [] [] .done .nil .nil)))) .nil)))) CS_ok mixed Tryz.func185 (Eq.mpr (by kernel_rfl) h)
theorem go_13(x1:PA)(t12:Int)(t23:List UInt8)(t34:List UInt8)(K:Wp)(w:World)(h:K w):callK Pg 189 [Ap x1,Ai t12,Au t23,Au t34] w (.tup []) K:=Fq (n:=.nil) CS_ok mixed Tryz.func189 (Eq.mpr (by kernel_rfl) h)
theorem go_15(x1:PA)(t1_0_2:Int)(t1_1_3:Int)(t2_0_4:Int)(t2_1_5:Int)(t36:Bool)(K:Wp)(w:World)(h:al w 60 [.int .i64 t1_0_2,.int .i64 t1_1_3] fun b7 W8=>al W8 42 [.int .i64 t2_0_4,.int .i64 t2_1_5] fun b9 W10=>K W10):callK Pg 183 [Ap x1,.agg [.int .i64 t1_0_2,.int .i64 t1_1_3],.agg [.int .i64 t2_0_4,.int .i64 t2_1_5],Ab t36] w (.tup []) K:=Fq (n:=.nil) CS_ok mixed Tryz.func183 (Eq.mpr (by kernel_rfl) h)
theorem go_16(x1:PA)(t1_0_2:Int)(t1_1_3:Int)(t24:Bool)(K:Wp)(w:World)(h:al w 60 [.int .i64 t1_0_2,.int .i64 t1_1_3] fun b5 W6=>K W6):callK Pg 180 [Ap x1,.agg [.int .i64 t1_0_2,.int .i64 t1_1_3],Ab t24] w (.tup []) K:=Fq (n:=.nil) CS_ok mixed Tryz.func180 (Eq.mpr (by kernel_rfl) h)
theorem go_17(x1:PA)(t1_0_2:Int)(t1_1_3:Int)(t2_0_4:Int)(t2_1_5:Sl)(t36:Bool)(K:Wp)(w:World)(h:al w 60 [.int .i64 t1_0_2,.int .i64 t1_1_3] fun b7 W8=>al W8 46 [.int .i64 t2_0_4,.sl t2_1_5] fun b9 W10=>K W10):callK Pg 179 [Ap x1,.agg [.int .i64 t1_0_2,.int .i64 t1_1_3],.agg [.int .i64 t2_0_4,.sl t2_1_5],Ab t36] w (.tup []) K:=Fq (n:=.nil) CS_ok mixed Tryz.func179 (Eq.mpr (by kernel_rfl) h)
theorem go_18(x1:PA)(t1_0_2:Int)(t1_1_3:Sl)(t1_2_4:Bool)(t1_3_5:Int)(t1_4_6:Sl)(K:Wp)(w:World)(h:al w 79 [.int .i64 t1_0_2,.sl t1_1_3,.bool t1_2_4,.int .i64 t1_3_5,.sl t1_4_6] fun b7 W8=>K W8):callK Pg 181 [Ap x1,.agg [.int .i64 t1_0_2,.sl t1_1_3,.bool t1_2_4,.int .i64 t1_3_5,.sl t1_4_6]] w (.tup []) K:=Fq (n:=.nil) CS_ok mixed Tryz.func181 (Eq.mpr (by kernel_rfl) h)
theorem go_19(x1:PA)(t1_0_2:Int)(t1_1_3:Int)(t2_0_4:Int)(t2_1_5:Int)(t2_2_6:Int)(t2_3_7:List UInt8)(t38:Int)(t49:Int)(K:Wp)(w:World)(h:al w 60 [.int .i64 t1_0_2,.int .i64 t1_1_3] fun b10 W11=>al W11 52 [.int .i64 t2_0_4,.int .i64 t2_1_5,.int .i64 t2_2_6,.str t2_3_7] fun b12 W13=>K W13):callK Pg 178 [Ap x1,.agg [.int .i64 t1_0_2,.int .i64 t1_1_3],.agg [.int .i64 t2_0_4,.int .i64 t2_1_5,.int .i64 t2_2_6,.str t2_3_7],.leaf (.int .u8 t38),Ai t49] w (.tup []) K:=Fq (n:=.nil) CS_ok mixed Tryz.func178 (Eq.mpr (by kernel_rfl) h)
theorem go_14(x1:PA)(part2:Int)(key3:List UInt8)(value4:List UInt8)(K:Wp)(w:World)(h:dr x1 fun b5 o6=>ld w .sl b5 o6 fun a7=>al w 27 [.int .i64 part2,.str key3,.str value4] fun b8 W9=>ap W9 27 3 40 [.int .i64 0,.str [],.str []] a7 (⟨some (b8,0),1,1⟩) fun a10 W11=>dr x1 fun b12 o13=>st W11 b12 o13 [.sl a10] fun W14=>K W14):callK Pg 182 [Ap x1,Ai part2,Au key3,Au value4] w (.tup []) K:=Fq (n:=.nil) CS_ok mixed Tryz.func182 (Eq.mpr (by kernel_rfl) h)
theorem go_21(file1:Sl)(length2:Int)(K:Sl→Wp)(w:World)(h:al w 57 [.sl (⟨none,0,0⟩)] fun b3 W4=>joinK [] (fun k5=>ifK ((file1.len:Int) != length2) (callK Pg 16 [Ap (some (b3,0)),Ai 0,.agg [.int .i64 0,.int .i64 (file1.len:Int)]] W4 (.tup []) fun W6=>k5 W6) (k5 W4)) fun W7=>opF Pg (vS (Instr.makeInterface 55 (LV.toV (.ptr (some (b3,0)))))) W7 (.one (.leaf (.val))) fun v9 W8=>callK Pg 14 [Az file1,.leaf (.val v9)] W8 (.tup []) fun W10=>dr (some (b3,0)) fun b11 o12=>ld W10 .sl b11 o12 fun a13=>K a13 W10):callK Pg 11 [Az file1,Ai length2] w Oz K:=Fq (n:=(n0 .nil (n0 .nil (n0 (n0 .nil (n0 .nil (.mk (some []) [] [0,5] .done .nil .nil))) .nil)))) CS_ok mixed Tryz.func11 (Eq.mpr (by kernel_rfl) h)
theorem go_20(file1:Sl)(K:Sl→Wp)(w:World)(h:al w 39 [.sl (⟨none,0,0⟩)] fun b2 W3=>opF Pg (vS (Instr.makeInterface 37 (LV.toV (.ptr (some (b2,0)))))) W3 (.one (.leaf (.val))) fun v5 W4=>callK Pg 14 [Az file1,.leaf (.val v5)] W4 (.tup []) fun W6=>dr (some (b2,0)) fun b7 o8=>ld W6 .sl b7 o8 fun a9=>K a9 W6):callK Pg 6 [Az file1] w Oz K:=Fq (n:=.nil) CS_ok mixed Tryz.func6 (Eq.mpr (by kernel_rfl) h)
set_option maxRecDepth 100000
theorem go_5(r1:PA)(K:Value→Wp)(w:World)(h:al w 96 [.ptr r1] fun b2 W3=>K (.func (.func 54) #[] #[(LV.toV (.ptr (some (b2,0))))]) W3):callK Pg 37 [Ap r1] w (.one (.leaf (.val))) K:=Fq (n:=.nil) CS_ok mixed Tryz.func37 (Eq.mpr (by kernel_rfl) h)
theorem go_3(on1:Value)(t1B2:Nat)(t1O3:Nat)(K:Wp)(w:World)(h:ld w .ptr t1B2 t1O3 fun p4=>ifK p4.isNone (K w) (ld w .ptr t1B2 t1O3 fun p5=>dr p5 fun b6 o7=>ld w .sl b6 (o7+1) fun a8=>joinK [] (fun k9=>loopL [Ki] (fun t1211 W12 g10=>ifK (decide (t1211<(a8.len:Int))) (ix a8 2 t1211 fun b13 o14=>ld W12 .str b13 o14 fun s15=>ld W12 .str b13 (o14+1) fun s16=>al W12 131 [.str [],.str []] fun b17 W18=>st W18 b17 0 [.str s15,.str s16] fun W19=>ld W19 .str b17 0 fun s20=>ld W19 .str b17 1 fun s21=>callV Pg on1 [Au s20,Au s21] W19 Ob fun c22 W23=>ifK (!c22) (K W23) (g10 (w64 (t1211+1)) W23)) (k9 W12)) [.int .i64 0] w) fun W24=>K W24)):callK Pg 54 [.leaf (.val on1),Ap (some (t1B2,t1O3))] w (.tup []) K:=Fq (n:=(n0 .nil (n0 .nil (.mk (some []) [] [] .done (.mk none [.tmp 12 Li] [0,10,11] .done .nil .nil) .nil)))) CS_ok mixed Tryz.func54 (Eq.mpr (by kernel_rfl) h)
end Go.Proofs.YtkgligdkihlfaaaGreat
