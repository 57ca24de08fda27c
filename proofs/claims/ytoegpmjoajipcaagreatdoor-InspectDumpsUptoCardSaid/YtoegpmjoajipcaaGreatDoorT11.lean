/- Part T11. -/
import Derived.Test.YtoegpmjoajipcaaGreatDoorT10
import Derived.Test.YtoegpmjoajipcaaGreatDoorT09
import Derived.Lib.Join
import Derived.Lib.ItoaLen
import Derived.Test.YtoegpmjoajipcaaGreatDoorT03
namespace Go.Proofs.YtoegpmjoajipcaaGreatDoor
open Go.Vw
theorem fixed_end{b:Str}{at_:Nat}(h:b.length≤at_):((Cu.mk b at_ 0).fixed 1).2.e≠0:=by
 have hl:(Cu.mk b at_ 0).left.length=0:=by
  have:(Cu.mk b at_ 0).left.length=b.length-at_:=Lld;omega
 unfold Cu.fixed;rw [if_neg (fun h:(Cu.mk b at_ 0).e≠0=>h rfl),hl];have he:(if (1:Int)<1∨8<(1:Int) then (23:Int) else if ((0:Nat):Int)<1 then 20 else 0)=20:=by decide
 dsimp only;rw [he];unfold Cu.go;rw [if_neg (by decide)];show (20:Int)≠0;decide
theorem fixed_fine{c:Cu}(h:c.fine)(n:Int):(c.fixed n).2.fine:=by
 unfold Cu.fixed;split
 ·exact h
 ·dsimp only;unfold Cu.go Cu.fine;by_cases h1:n<1∨8<n
  ·rw [if_pos h1,if_neg (by decide)];exact .inr (.inr (.inr rfl))
  rw [if_neg h1];by_cases h2:(c.left.length:Int)<n
  ·rw [if_pos h2,if_neg (by decide)];exact .inr (.inl rfl)
  ·rw [if_neg h2,if_pos rfl];exact .inl rfl
theorem fixed_byte{b:Str}{at_:Nat}(h:at_<b.length):(Cu.mk b at_ 0).fixed 1=((b.getD at_ 0).toNat,⟨b,at_+1,0⟩):=by
 have hl:(Cu.mk b at_ 0).left=b[at_]::b.drop (at_+1):=List.drop_eq_getElem_cons h;have hd:b.getD at_ 0=b[at_]:=by rw [Lgd,Lge h,Option.getD_some]
 unfold Cu.fixed;rw [if_neg (fun h:(Cu.mk b at_ 0).e≠0=>h rfl),hl,hd];have he:(if (1:Int)<1∨8<(1:Int) then (23:Int) else if ((b[at_]::b.drop (at_+1)).length:Int)<1 then 20 else 0)=0:=by
  rw [if_neg (by decide),if_neg];rw [Llc];omega
 rw [he];show ((if (0:Int)=0 then wordN (List.take 1 (b[at_]::b.drop (at_+1))) else 0),Cu.go _ 1 0)=_;rw [if_pos rfl];unfold Cu.go;rw [if_pos rfl];rfl
theorem getN_zero(r:Str):getN (0::r)=(0,1,0):=rfl
theorem getN_pos{c:UInt8}{r:Str}(h:c.toNat≠0)(he:(getN (c::r)).2.2=0):1≤(getN (c::r)).1:=by
 apply Classical.byContradiction;intro hn;have h0:(getN (c::r)).1=0:=by omega
 have:=(getN_inv he).1;rw [h0,putN_small (by decide)] at this;have:=(List.cons.inj this).1;rw [this] at h;exact h rfl
theorem lensRun_err{k:Nat}{lens:List Nat}{last:Int}{c:Cu}(hf:c.fine)(he:c.e≠0):lensRun k lens last c=none:=by
 cases k with
 | zero=>rfl
 | succ k=>
  have hn:c.num 256=(0,c):=by unfold Cu.num;rw [if_pos he]
  rw [lensRun,hn];dsimp only;rw [if_pos rfl,if_neg];rintro ⟨_,h⟩;exact he (done_fine hf h)
def lastI(lens:List Nat):Int:=if lens=[] then -1 else (lens.getD (lens.length-1) 0:Int)
theorem lastI_rep(lens:List Nat){n:Nat}(h:1≤n)(x:Nat):lastI (lens++List.replicate n x)=(x:Int):=by
 unfold lastI;have hne:lens++List.replicate n x≠[]:=by
  intro h0;have:=congrArg List.length h0;simp at this;omega
 rw [if_neg hne];have:(lens++List.replicate n x).getD ((lens++List.replicate n x).length-1) 0=x:=by
  rw [Lgd,Lgr (by simp;omega),List.getElem?_replicate,if_pos (by simp;omega)];rfl
 rw [this]
theorem lens_run{b:Str}:∀(k2 k1 at_:Nat) (lens:List Nat),at_≤b.length→lens.length≤256→257≤k1+lens.length→b.length+1≤k2+at_ →
  lensRun k1 lens (lastI lens) ⟨b,at_,0⟩=(lensRunR b k2 at_ lens).map fun x=>(x.1,Cu.mk b x.2 0)
 | 0,k1,at_,lens,h1,h2,h3,h4=>by omega
 | k2+1,0,at_,lens,h1,h2,h3,h4=>by omega
 | k2+1,k1+1,at_,lens,h1,h2,h3,h4=>by
  have hfine:(Cu.mk b at_ 0).fine:=.inl rfl;have herr:((Cu.mk b at_ 0).num 256).2.e≠0→lensRun (k1+1) lens (lastI lens) ⟨b,at_,0⟩=none:=by
   intro he;have hz:((Cu.mk b at_ 0).num 256).1=0:=by
    unfold Cu.num at he ⊢;rw [if_neg (fun h:(Cu.mk b at_ 0).e≠0=>h rfl)] at he ⊢;dsimp only at he ⊢;apply if_neg;intro h0;unfold Cu.go at he;rw [if_pos h0] at he;exact he rfl
   rw [lensRun,if_pos hz,if_neg];rintro ⟨_,h⟩;exact he (done_fine (num_fine hfine 256) h)
  have hnum:∀(g:Nat×Nat×Int),getN (b.drop at_)=g→(g.2.2=0→g.1≤256→(Cu.mk b at_ 0).num 256=((g.1:Int),⟨b,at_+g.2.1,0⟩))∧((g.2.2≠0∨256<g.1)→((Cu.mk b at_ 0).num 256).2.e≠0):=by
   intro g hg;unfold Cu.num;rw [if_neg (fun h:(Cu.mk b at_ 0).e≠0=>h rfl)];have hl:(Cu.mk b at_ 0).left=b.drop at_:=rfl;rw [hl,hg];dsimp only;unfold Cu.go;constructor
   ·intro h0 h1;rw [if_neg (fun h:g.2.2=0∧(256:Int)<(g.1:Int)=>by omega),if_pos h0,if_pos h0]
   ·intro h0;by_cases hg0:g.2.2=0
    ·rw [if_pos (c:=g.2.2=0∧(256:Int)<(g.1:Int)) ⟨hg0,by omega⟩,if_neg (by decide:¬(23:Int)=0)];show (23:Int)≠0;decide
    ·rw [if_neg (fun h:g.2.2=0∧(256:Int)<(g.1:Int)=>hg0 h.1),if_neg hg0];exact hg0
  rw [lensRunR];by_cases hat:at_<b.length
  ·have hd:=List.drop_eq_getElem_cons hat;have hg:b.getD at_ 0=b[at_]:=by rw [Lgd,Lge hat,Option.getD_some]
   by_cases hz:(b.getD at_ 0).toNat=0
   ·rw [if_neg (fun h=>h.2 hz)];have hz':b[at_]=0:=by
     apply UInt8.toNat_inj.1;rw [←hg,hz];rfl
    have h5:=(hnum (0,1,0) (by rw [hd,hz'];exact getN_zero _)).1 rfl (by decide);rw [lensRun,h5];dsimp only;rw [if_pos (c:=((0:Nat):Int)=0) rfl];have hdn:(Cu.mk b (at_+1) 0).done.1=0∨(Cu.mk b (at_+1) 0).done.1=22:=by
     unfold Cu.done;rw [if_neg (fun h:(Cu.mk b (at_+1) 0).e≠0=>h rfl)];split
     ·exact .inr rfl
     ·exact .inl rfl
    by_cases hlast:lastI lens=0
    ·rw [if_neg (fun h=>h.1 hlast),if_pos]
     ·rfl
     ·right;unfold lastI at hlast;split at hlast
      ·cases hlast
      ·rename_i hne;exact⟨List.length_pos_iff.2 hne,by omega⟩
    ·rw [if_pos ⟨hlast,hdn⟩,if_neg]
     ·rfl
     ·rintro (h | ⟨h,h0⟩)
      ·omega
      ·apply hlast;unfold lastI;rw [if_neg (fun e=>by rw [e] at h;exact absurd h (by decide)),h0];rfl
   ·rw [if_pos ⟨hat,hz⟩];have hz':b[at_].toNat≠0:=by rw [←hg];exact hz
    obtain⟨n1,n2⟩:=hnum _ rfl;have hpos:(getN (b.drop at_)).2.2=0→1≤(getN (b.drop at_)).1:=by
     intro h0;rw [hd] at h0 ⊢;exact getN_pos hz' h0
    have hge1:(getN (b.drop at_)).2.2=0→1≤(getN (b.drop at_)).2.1:=by
     intro h0;have:=(getN_inv h0).2;have:=putN_pos (getN (b.drop at_)).1;omega
    generalize getN (b.drop at_)=g at *;by_cases hE:g.2.2≠0
    ·rw [if_pos (.inl hE),herr (n2 (.inl hE))];rfl
    have hE:g.2.2=0:=Decidable.not_not.1 hE;by_cases hB:256<g.1
    ·rw [if_pos (by omega),herr (n2 (.inr hB))];rfl
    have hn:=n1 hE (by omega);have hp:=hpos hE;rw [lensRun,hn];dsimp only;rw [if_neg (by omega)];by_cases hend:b.length≤at_+g.2.1
    ·rw [if_pos (c:=g.2.2≠0∨g.1<1∨256-lens.length<g.1∨b.length≤at_+g.2.1) (.inr (.inr (.inr hend)))];have hfe:=fixed_end hend;have hff:=fixed_fine (c:=Cu.mk b (at_+g.2.1) 0) (.inl rfl) 1;split
     ·rfl
     ·rw [lensRun_err hff hfe];rfl
    have hfb:=fixed_byte (b:=b) (at_:=at_+g.2.1) (by omega);rw [hfb];dsimp only;generalize (b.getD (at_+g.2.1) 0).toNat=x at *;by_cases hL:256-lens.length<g.1
    ·rw [if_pos (c:=g.2.2≠0∨g.1<1∨256-lens.length<g.1∨b.length≤at_+g.2.1) (.inr (.inr (.inl hL))),if_pos (by right;right;omega)];rfl
    rw [if_neg (c:=g.2.2≠0∨g.1<1∨256-lens.length<g.1∨b.length≤at_+g.2.1) (by omega)];have hiff:(x:Int)=lastI lens↔(0<lens.length∧lens.getD (lens.length-1) 0=x):=by
     unfold lastI;by_cases hl:lens=[]
     ·rw [if_pos hl,hl];constructor
      ·intro h;omega
      ·rintro ⟨h,_⟩;exact absurd h (by decide)
     ·rw [if_neg hl];have:=List.length_pos_iff.2 hl;constructor
      ·intro h;exact⟨this,by omega⟩
      ·rintro ⟨_,h⟩;omega
    by_cases hx:15<x∨(0<lens.length∧lens.getD (lens.length-1) 0=x)
    ·rw [if_pos (c:=15<x∨(0<lens.length∧lens.getD (lens.length-1) 0=x)) hx,if_pos]
     ·rfl
     ·rcases hx with h | h
      ·exact .inl h
      ·exact .inr (.inl (hiff.2 h))
    ·rw [if_neg (c:=15<x∨(0<lens.length∧lens.getD (lens.length-1) 0=x)) hx,if_neg]
     ·have ht:((g.1:Nat):Int).toNat=g.1:=Itn _;rw [ht];have:=lens_run (b:=b) k2 k1 (at_+g.2.1+1) (lens++List.replicate g.1 x) (by omega) (by rw [Lla,List.length_replicate];omega) (by rw [Lla,List.length_replicate];omega) (by have:=hge1 hE;omega);rw [lastI_rep lens hp x] at this;exact this
     ·rintro (h | h | h)
      ·exact hx (.inl h)
      ·exact hx (.inr (hiff.1 h))
      ·omega
  ·rw [if_neg (fun h=>hat h.1),if_pos (.inl (by omega))];have:getN (b.drop at_)=(0,0,20):=by rw [Ldn (by omega)];rfl
   rw [herr ((hnum _ this).2 (.inl (by show (20:Int)≠0;decide)))];rfl
theorem lens_law(b:Str):lensOf ⟨b,0,0⟩=(lensR b).map fun x=>(x.1,Cu.mk b x.2 0):=by
 unfold lensOf lensR;exact lens_run (b.length+1) 257 0 [] (Nzl _) (by decide) (by decide) (by omega)
theorem posL_count(lens:List Nat)(n:Nat):∀s,s≤lens.length→(posL lens n s).length=(lens.take s).countP (·==n)
 | 0,_=>by simp [posL]
 | s+1,h=>by
  have hs:s<lens.length:=h;have hg:lens.getD s 0=lens[s]:=by rw [Lgd,Lge hs,Option.getD_some]
  rw [posL_succ,List.take_succ_eq_append_getElem hs,List.countP_append,←posL_count lens n s (by omega),hg];by_cases e:lens[s]=n
  ·rw [if_pos e,Lla];simp [e]
  ·rw [if_neg e];simp [e]
theorem cntL_count(lens:List Nat)(n:Nat):cntL lens n=lens.countP (·==n):=by
 unfold cntL;rw [posL_count lens n _ (Nlr _),List.take_length]
def krF(n x:Nat):Nat:=if 1≤x∧x≤n then 2^(15-x) else 0
theorem kr_step(n:Nat):∀lens:List Nat,(lens.map (krF (n+1))).sum=(lens.map (krF n)).sum+lens.countP (·==n+1)*2^(15-(n+1))
 | []=>by simp
 | x::r=>by
  rw [List.map_cons,List.sum_cons,List.map_cons,List.sum_cons,kr_step n r,List.countP_cons,Nat.add_mul];have:krF (n+1) x=krF n x+(if (x==n+1)=true then 1 else 0)*2^(15-(n+1)):=by
   unfold krF;by_cases e:x=n+1
   ·subst e;rw [if_pos (by omega),if_neg (by omega),if_pos (by simp)];simp
   ·rw [if_neg (c:=(x==n+1)=true) (by simpa using e),Nat.zero_mul];by_cases h:1≤x∧x≤n
    ·rw [if_pos h,if_pos (by omega),Nat.add_zero]
    ·rw [if_neg h,if_neg (by omega)]
  rw [this];omega
theorem roomT_kr(lens:List Nat):∀n,n≤15→roomT lens n=32768-((lens.map (krF n)).sum:Int)
 | 0,_=>by
  have:lens.map (krF 0)=lens.map fun _=>0:=List.map_congr_left fun x _=>by unfold krF;rw [if_neg (by omega)]
  rw [this];have:∀l:List Nat,(l.map fun _=>0).sum=0:=fun l=>by induction l with | nil=>rfl | cons a l ih=>simp [ih]
  rw [this];rfl
 | n+1,h=>by
  rw [roomT,roomT_kr lens n (by omega),kr_step,cntL_count];have:15-(n+1)=14-n:=by omega
  rw [this];push_cast;omega
theorem room_law{lens:List Nat}(h:∀n∈lens,n≤15):roomT lens 15<0↔32768<kraftN lens:=by
 rw [roomT_kr lens 15 (Nlr _)];have:kraftN lens=(lens.map (krF 15)).sum:=by
  unfold kraftN;congr 1;apply List.map_congr_left;intro x hx;have:=h x hx;unfold krF;by_cases h0:0<x
  ·rw [if_pos h0,if_pos ⟨h0,this⟩]
  ·rw [if_neg h0,if_neg (by omega)]
 rw [this];omega
theorem posL_nth(lens:List Nat)(s:Nat):∀L r,r<(posL lens s L).length→(posL lens s L).getD r 0<L∧lens.getD ((posL lens s L).getD r 0) 0=s∧(posL lens s ((posL lens s L).getD r 0)).length=r
 | 0,r,h=>by simp [posL] at h
 | L+1,r,h=>by
  rw [posL_succ] at h ⊢;by_cases e:lens.getD L 0=s
  ·rw [if_pos e] at h ⊢;rw [Lla,List.length_singleton] at h;by_cases hr:r<(posL lens s L).length
   ·have:=posL_nth lens s L r hr;have hg:(posL lens s L++[L]).getD r 0=(posL lens s L).getD r 0:=by rw [Lgd,Lgl hr,←Lgd]
    rw [hg];exact⟨by omega,this.2⟩
   ·have hr:r=(posL lens s L).length:=by omega
    have hg:(posL lens s L++[L]).getD r 0=L:=by rw [Lgd,hr,Lgr (Nlr _),Nat.sub_self];rfl
    rw [hg];exact⟨by omega,e,hr.symm⟩
  ·rw [if_neg e] at h ⊢;have:=posL_nth lens s L r h;exact⟨by omega,this.2⟩
theorem posL_mono(lens:List Nat)(s a:Nat):∀b,a≤b→(posL lens s a).length≤(posL lens s b).length
 | 0,h=>by
  have:a=0:=by omega
  subst this;exact Nlr _
 | b+1,h=>by
  by_cases e:a=b+1
  ·subst e;exact Nlr _
  ·have:=posL_mono lens s a b (by omega);rw [posL_succ];split
   ·rw [Lla];omega
   ·exact this
theorem posL_step{lens:List Nat}{s j:Nat}(h:lens.getD j 0=s){b:Nat}(hb:j<b):(posL lens s j).length+1≤(posL lens s b).length:=by
 have:=posL_mono lens s (j+1) b hb;rw [posL_succ,if_pos h,Lla,List.length_singleton] at this;exact this
theorem codeUp_word{lens:List Nat}{s j word:Nat}(h1:1≤s)(h2:s≤15):((codeUp lens 16 0 j).1=s∧(codeUp lens 16 0 j).2=word∧0<s)↔(lens.getD j 0=s∧wordW lens s+(posL lens s j).length=word):=by
 unfold codeUp;constructor
 ·rintro ⟨a,b,_⟩;split at a
  ·rename_i hc;rw [if_pos hc] at b;dsimp only at a b;rw [a] at b;exact⟨a,b⟩
  ·dsimp only at a;omega
 ·rintro ⟨a,b⟩;rw [if_pos (by omega),a];exact⟨rfl,b,h1⟩
theorem find_law{lens:List Nat}{s word:Nat}(h1:1≤s)(h2:s≤15)(hw:wordW lens s≤word) :
  findC (codesUp lens 16 0) s word=if word-wordW lens s<cntL lens s then some ((posL lens s lens.length).getD (word-wordW lens s) 0) else none:=by
 unfold findC;split
 ·rename_i hr;obtain⟨n1,n2,n3⟩:=posL_nth lens s lens.length _ hr;refine findIdx_some (codesUp_get n1) ?_ fun j y hj hy=>?_
  ·rw [Det,codeUp_word h1 h2];exact⟨n2,by omega⟩
  ·have hjl:j<lens.length:=by omega
   rw [codesUp_get hjl] at hy;cases hy;rw [decide_eq_false_iff_not,codeUp_word h1 h2];rintro ⟨a,b⟩;have:=posL_step a hj;omega
 ·rename_i hr;refine findIdx_none fun j y hy=>?_;have hjl:j<lens.length:=by
   have:=(Les.1 hy).1;rw [codesUp_len] at this;exact this
  rw [codesUp_get hjl] at hy;cases hy;rw [decide_eq_false_iff_not,codeUp_word h1 h2];rintro ⟨a,b⟩;have:=posL_step a hjl;unfold cntL at hr;omega
theorem sym_law{lens:List Nat}{w:Str}:∀(k at_ word first before s:Nat),k+s=16→1≤s→at_≤8*w.length→2*first=wordW lens s→first≤word→before=(ordT lens (s-1)).length →
  symRun lens w k at_ word first before s=symR (codesUp lens 16 0) w k at_ word s
 | 0,_,_,_,_,_,_,_,_,_,_,_=>rfl
 | k+1,at_,word,first,before,s,h1,h2,h3,h4,h5,h6=>by
  rw [symRun,symR];by_cases he:at_=8*w.length
  ·rw [if_pos he,if_pos (by omega)]
  rw [if_neg he,if_neg (c:=8*w.length≤at_) (by omega)];have hm:manyT lens s=cntL lens s:=by unfold manyT;rw [if_pos (by omega)]
  rw [hm,h4,find_law h2 (by omega) (by omega)];obtain⟨s',rfl⟩:∃s',s=s'+1:=⟨s-1,by omega⟩;have hord:ordT lens (s'+1)=ordT lens s'++posL lens (s'+1) lens.length:=rfl;have h6:before=(ordT lens s').length:=h6;by_cases hr:2*word+bitN w at_-wordW lens (s'+1)<cntL lens (s'+1)
  ·rw [if_pos hr,if_pos hr];dsimp only;obtain⟨t,ht⟩:=ordT_split lens (n:=s'+1) (m:=15) (by omega);rw [ht,hord,Laa,h6];have:(ordT lens s'++(posL lens (s'+1) lens.length++t)).getD ((ordT lens s').length+(2*word+bitN w at_-wordW lens (s'+1))) 0=(posL lens (s'+1) lens.length).getD (2*word+bitN w at_-wordW lens (s'+1)) 0:=by
    rw [Lgd,Lgr (by omega),Nat.add_sub_cancel_left,Lgl hr,←Lgd]
   rw [this]
  ·rw [if_neg hr,if_neg hr];dsimp only;refine sym_law k (at_+1) _ _ _ _ (by omega) (by omega) (by omega) ?_ (by omega) ?_
   ·show 2*(wordW lens (s'+1)+cntL lens (s'+1))=2*(wordW lens (s'+1)+if s'+1=0 then 0 else cntL lens (s'+1));rw [if_neg (by omega)]
   ·show before+cntL lens (s'+1)=(ordT lens (s'+1)).length;rw [hord,Lla,h6];rfl
theorem symR_ge{codes:List (Nat×Nat)}{w:Str}:∀(k at_ word long:Nat) {x:Nat×Nat},symR codes w k at_ word long=some x→at_+1≤x.2
 | 0,_,_,_,x,h=>by cases h
 | k+1,at_,word,long,x,h=>by
  rw [symR] at h;split at h
  ·cases h
  split at h
  ·cases h;exact Nlr _
  ·have:=symR_ge k _ _ _ h;omega
theorem words_law{lens:List Nat}{w:Str}:∀(n at_:Nat) (text:Str),at_≤8*w.length→wordsRun lens w n at_ text=wordsR (codesUp lens 16 0) w n at_ text
 | 0,_,_,_=>rfl
 | n+1,at_,text,h=>by
  rw [wordsRun,wordsR,sym_law 15 at_ 0 0 0 1 (by decide) (by decide) h rfl (Nlr _) rfl]
  cases hs:symR (codesUp lens 16 0) w 15 at_ 0 1 with
  | none=>rfl
  | some x=>exact words_law n x.2 _ (symR_le _ _ _ _ hs)
theorem wordsR_ge{codes:List (Nat×Nat)}{w:Str}:∀(n at_:Nat) (text:Str) {x:Str×Nat},at_≤8*w.length→wordsR codes w n at_ text=some x→at_+n≤x.2∧x.2≤8*w.length
 | 0,at_,text,x,h1,h=>by cases h;exact⟨Nlr _,h1⟩
 | n+1,at_,text,x,h1,h=>by
  rw [wordsR] at h;split at h
  ·cases h
  ·rename_i y hy;have h2:=symR_ge _ _ _ _ hy;have h3:=wordsR_ge n y.2 _ (symR_le _ _ _ _ hy) h;exact⟨by omega,h3.2⟩
theorem bits_zero{x m:Nat}(hx:x<256):(∀e,m≤e→e<8→x/2^e%2=0)↔x/2^m=0:=by
 constructor
 ·intro h;apply Nat.eq_of_testBit_eq;intro i;rw [Nat.zero_testBit,Nat.testBit_div_two_pow];by_cases hi:m+i<8
  ·rw [Nat.testBit_eq_decide_div_mod_eq,decide_eq_false_iff_not];have:=h (m+i) (by omega) hi;rw [Nat.add_comm i m];omega
  ·apply Nat.testBit_lt_two_pow;have:(2:Nat)^8≤2^(i+m):=Nat.pow_le_pow_right (by decide) (by omega);omega
 ·intro h e he _;have hlt:x<2^m:=by
   rcases Nat.div_eq_zero_iff.1 h with h | h
   ·have:=Nat.two_pow_pos m;omega
   ·exact h
  have:(2:Nat)^m≤2^e:=Nat.pow_le_pow_right (by decide) he;rw [Nat.div_eq_of_lt (by omega)]
theorem ends_law{w:Str}{at_:Nat}(h:at_≤8*w.length):endsAt w at_=true↔(w.length=(at_+7)/8∧zerosN w at_=true):=by
 unfold endsAt zerosN;simp only [Bat,Det,Bool.not_eq_true',Bool.and_eq_false_iff,decide_eq_false_iff_not,List.all_eq_true,List.mem_range];constructor
 ·rintro ⟨h1,h2⟩;refine⟨h1.symm,fun i hi hle=>?_⟩;rcases h2 with h2 | h2
  ·omega
  ·have h2:(w.getD (at_/8) 0).toNat/2^(at_%8)=0:=by omega
   have hc:=UInt8.toNat_lt_size (w.getD (at_/8) 0);have:=(bits_zero (m:=at_%8) hc).2 h2 (i%8) (by omega) (by omega);have e:i/8=at_/8:=by omega
   unfold bitN;rw [e];exact this
 ·rintro ⟨h1,h2⟩;refine⟨h1.symm,?_⟩;by_cases h3:at_%8=0
  ·exact .inl (by omega)
  ·right;have hc:=UInt8.toNat_lt_size (w.getD (at_/8) 0);have:=(bits_zero (m:=at_%8) hc).1 fun e he h8=>by
    have:=h2 (8*(at_/8)+e) (by omega) (by omega);unfold bitN at this;rw [show (8*(at_/8)+e)/8=at_/8 by omega,show (8*(at_/8)+e)%8=e by omega] at this;exact this
   omega
theorem huff_law(b:Str)(n:Int):huffR b n=if n<0∨65536<n then none else huffDec b n.toNat:=by
 unfold huffR huffDec;split
 ·rfl
 rename_i hn;rw [lens_law]
 cases hl:lensR b with
 | none=>rfl
 | some x=>
  have hok:=lensRunR_ok _ _ _ hl (by decide) (fun n h=>by cases h);rw [Option.map_some];dsimp only;have htk:((Cu.mk b x.2 0).take ((Cu.mk b x.2 0).rest:Int)).1=b.drop x.2:=by
   have:=take_put (c:=Cu.mk b x.2 0) rfl (s:=b.drop x.2) (r:=[]) (by rw [Lan];rfl);rw [mk_rest,←Lld,this]
  rw [htk];unfold wordsOf;have hrm:=room_law hok.2.1;by_cases hk:32768<kraftN x.1
  ·rw [if_pos hk,if_pos (.inl (hrm.2 hk))]
  rw [if_neg hk];have hk':¬roomT x.1 15<0:=fun h=>hk (hrm.1 h);unfold huffW;rw [words_law n.toNat 0 [] (Nzl _)]
  cases hw:wordsR (codesUp x.1 16 0) (b.drop x.2) n.toNat 0 [] with
  | none=>dsimp only;split<;>rfl
  | some y=>
   have hy:=wordsR_ge _ _ _ (Nzl _) hw;rw [if_neg (by rintro (h | h);exact hk' h;omega)];dsimp only;have he:=ends_law hy.2;by_cases hz:endsAt (b.drop x.2) y.2=true
   ·rw [if_pos hz,if_pos (he.1 hz)]
   ·rw [if_neg hz,if_neg fun h=>hz (he.2 h)]
theorem text_law{flag:Nat}(hf:flag<3){p:Str}{raw:Int}(h1:1≤raw)(h2:raw≤65536):textR flag p raw=textN flag p raw.toNat:=by
 unfold textR textN;by_cases h0:flag=0
 ·rw [if_pos h0,if_pos h0];by_cases h:p.length=raw.toNat
  ·rw [if_pos h,if_pos (by omega)]
  ·rw [if_neg h,if_neg (by omega)]
 rw [if_neg h0,if_neg h0];by_cases h1:flag=1
 ·rw [if_pos h1,if_pos h1,lz_law,if_neg (by omega)]
 rw [if_neg h1,if_neg h1,if_pos (by omega),huff_law,if_neg (by omega)]
theorem textN_len{flag:Nat}{p:Str}{n:Nat}{x:Str}(h:textN flag p n=some x):x.length=n:=by
 unfold textN at h;split at h
 ·split at h
  ·cases h;assumption
  ·cases h
 split at h
 ·exact lzDec_len h
 ·exact huffDec_len h
theorem block_law(tile:Str)(raw:Int):blockR tile raw=((blockN tile raw).1,(blockN tile raw).2.map Prod.snd):=by
 unfold blockR blockN;by_cases h1:raw<1∨65536<raw
 ·rw [if_pos h1,if_pos h1];rfl
 rw [if_neg h1,if_neg h1];by_cases h2:(openB tile).1≠0
 ·rw [if_pos h2,if_pos h2];rfl
 rw [if_neg h2,if_neg h2];by_cases h3:(openB tile).2.length=0
 ·rw [if_pos h3,if_pos h3];rfl
 rw [if_neg h3,if_neg h3];by_cases h4:64*(((openB tile).2.length-1:Nat):Int)<raw
 ·rw [if_pos h4,if_pos (.inr h4)];rfl
 rw [if_neg h4];generalize ((openB tile).2.getD ((openB tile).2.length-1) 0).toNat=flag;generalize (openB tile).2.take ((openB tile).2.length-1)=p;by_cases h5:3≤flag
 ·rw [if_pos (.inl h5)];have:textR flag p raw=none:=by unfold textR;rw [if_neg (by omega),if_neg (by omega),if_neg (by omega)]
  rw [this];rfl
 rw [if_neg (by rintro (h | h);exact h5 h;exact h4 h),text_law (by omega) (by omega) (by omega)]
 cases ht:textN flag p raw.toNat with
 | none=>rfl
 | some t=>
  have hl:=textN_len ht;dsimp only;rw [parse_law (by omega)]
  cases parsedN t with
  | none=>rfl
  | some x=>rfl
theorem num_ps{c:Cu}(he:c.e=0){n:Nat}(hn:n<9223372036854775808){m:Int}(hm:(n:Int)≤m){r:Str}(h:c.left=putN n++r):∃c',c.num m=((n:Int),c')∧c'.b=c.b∧c'.e=0∧c'.left=r:=
 ⟨_,num_put he hn hm h,rfl,rfl,by rw [left_at,h,List.drop_left]⟩
theorem text_ps{c:Cu}(he:c.e=0){s r:Str}{m:Int}(hs:s.length<9223372036854775808)(hm:(s.length:Int)≤m)(h:c.left=putN s.length++(s++r)):∃c',c.text m=(s,c')∧c'.b=c.b∧c'.e=0∧c'.left=r:=by
 have hg:getN c.left=(s.length,(putN s.length).length,0):=by rw [h];exact getN_put hs _
 have hE:textE m c.left=0:=by
  unfold textE;rw [hg];dsimp only;rw [if_neg (fun h=>h rfl),if_neg (by omega),if_neg];rw [h];simp only [Lla];omega
 have hV:textV c.left=s:=by
  unfold textV;rw [hg];dsimp only;rw [h,List.drop_left,List.take_left]
 have hL:textL c.left=(putN s.length).length+s.length:=by unfold textL;rw [hg]
 unfold Cu.text Cu.go;rw [if_neg (fun h=>h he),hE,if_pos rfl,if_pos rfl,hV,hL];refine⟨_,rfl,rfl,rfl,?_⟩;rw [left_at,h,←List.drop_drop,List.drop_left,List.drop_left]
theorem rest_ps{c:Cu}(he:c.e=0){x:UInt8}{r:Str}(h:c.left=x::r):c.rest≠0:=by
 unfold Cu.rest;rw [if_neg (fun h=>h he),h,Llc];omega
theorem putN_cons(v:Nat):∃x t,putN v=x::t:=by
 have:=putN_pos v
 cases h:putN v with
 | nil=>rw [h] at this;exact absurd this (by decide)
 | cons x t=>exact⟨x,t,rfl⟩
theorem done_left{c:Cu}(he:c.e=0)(h:c.left=[]):c.done.1=0:=by
 unfold Cu.done;rw [if_neg (fun h=>h he),if_neg];unfold Cu.left at h;have:=List.drop_eq_nil_iff.1 h;omega
theorem kind_cases{f:Flt}(h:kindN f.all f.hashes f.data.length≠0):(kindN f.all f.hashes f.data.length=1∧f=⟨true,0,[]⟩)∨(kindN f.all f.hashes f.data.length=2∧f=⟨false,0,[]⟩)∨(kindN f.all f.hashes f.data.length=3∧f.all=false∧1≤f.hashes∧f.hashes≤8∧1≤f.data.length∧f.data.length≤4096):=by
 obtain⟨a,n,d⟩:=f;unfold kindN at h ⊢;dsimp only at h ⊢;by_cases h1:a=true∧n=0∧d.length=0
 ·rw [if_pos h1];obtain⟨rfl,rfl,h0⟩:=h1;rw [List.length_eq_zero_iff.1 h0];exact .inl ⟨rfl,rfl⟩
 rw [if_neg h1] at h ⊢;by_cases h2:a=false∧n=0∧d.length=0
 ·rw [if_pos h2];obtain⟨rfl,rfl,h0⟩:=h2;rw [List.length_eq_zero_iff.1 h0];exact .inr (.inl ⟨rfl,rfl⟩)
 rw [if_neg h2] at h ⊢;split at h
 ·rename_i h3;rw [if_pos h3];exact .inr (.inr ⟨rfl,h3⟩)
 ·exact absurd rfl h
theorem putN_two{v:Nat}(h:v≤4096):(putN v).length≤2:=putN_len v 1 (by omega)
theorem encF_le{f:Flt}(h:kindN f.all f.hashes f.data.length≠0):(encF f).1.length≤4099:=by
 unfold encF;rcases kind_cases h with⟨k,_⟩ | ⟨k,_⟩ | ⟨k,h3⟩
 ·rw [k,if_pos rfl];show 1≤4099;decide
 ·rw [k,if_neg (by decide),if_pos rfl];show 1≤4099;decide
 ·rw [k,if_neg (by decide),if_neg (by decide),if_pos rfl];have:=putN_two h3.2.2.2.2;show (UInt8.ofNat f.hashes.toNat::(putN f.data.length++f.data)).length≤4099;rw [Llc,Lla];omega
theorem filtD_enc{f:Flt}(h:kindN f.all f.hashes f.data.length≠0):filtD (encF f).1=(f,0):=by
 rcases kind_cases h with⟨k,rfl⟩ | ⟨k,rfl⟩ | ⟨k,h3⟩
 ·rfl
 ·rfl
 ·have hE:(encF f).1=UInt8.ofNat f.hashes.toNat::(putN f.data.length++f.data):=by
   unfold encF;rw [k,if_neg (by decide),if_neg (by decide),if_pos rfl];rfl
  rw [hE];have hu:(UInt8.ofNat f.hashes.toNat).toNat=f.hashes.toNat:=u8_ofNat (by omega);have hfx:=fixed_byte (b:=UInt8.ofNat f.hashes.toNat::(putN f.data.length++f.data)) (at_:=0) (by simp);have hg:(UInt8.ofNat f.hashes.toNat::(putN f.data.length++f.data)).getD 0 0=UInt8.ofNat f.hashes.toNat:=rfl;rw [hg,hu] at hfx;unfold filtD;dsimp only;rw [hfx];dsimp only;rw [if_neg (by omega),if_neg (by omega)];obtain⟨c1,e1,e2,e3,e4⟩:=num_ps (c:=Cu.mk (UInt8.ofNat f.hashes.toNat::(putN f.data.length++f.data)) (0+1) 0) rfl (n:=f.data.length) (by omega) (m:=4096) (by omega) (r:=f.data) rfl;rw [e1];dsimp only;have e5:=take_put e3 (s:=f.data) (r:=[]) (by rw [e4,Lan]);rw [e5];dsimp only;have hh:((f.hashes.toNat:Nat):Int)=f.hashes:=by omega
  have hk:kindN false f.hashes f.data.length=3:=by rw [←h3.1];exact k
  rw [hh,hk,if_neg (fun h=>h rfl),done_left rfl (by rw [left_at,e4,List.drop_length]),if_neg (fun h=>h rfl)];obtain⟨a,n,d⟩:=f;have:a=false:=h3.1;rw [this]
theorem filtR_enc{f:Flt}(h:kindN f.all f.hashes f.data.length≠0):filtR (encF f).1=(f,0):=by
 rcases kind_cases h with⟨k,rfl⟩ | ⟨k,rfl⟩ | ⟨k,h3⟩
 ·rfl
 ·rfl
 ·have hE:(encF f).1=UInt8.ofNat f.hashes.toNat::(putN f.data.length++f.data):=by
   unfold encF;rw [k,if_neg (by decide),if_neg (by decide),if_pos rfl];rfl
  rw [hE];have hu:(UInt8.ofNat f.hashes.toNat).toNat=f.hashes.toNat:=u8_ofNat (by omega);have hg:(UInt8.ofNat f.hashes.toNat::(putN f.data.length++f.data)).getD 0 0=UInt8.ofNat f.hashes.toNat:=rfl;have hdr:(UInt8.ofNat f.hashes.toNat::(putN f.data.length++f.data)).drop 1=putN f.data.length++f.data:=rfl;have hgn:=getN_put (v:=f.data.length) (by omega) f.data;have hp:=putN_pos f.data.length;unfold filtR;rw [hdr,hgn,hg,hu];dsimp only;rw [if_neg (fun h=>by have h9:=congrArg List.length h;rw [Llc,Lla,List.length_singleton] at h9;omega),if_neg (fun h=>by have h9:=congrArg List.length h;rw [Llc,Lla,List.length_singleton] at h9;omega),if_neg (by simp only [Llc];omega),if_neg]
  ·have hh:((f.hashes.toNat:Nat):Int)=f.hashes:=by omega
   have hd:(UInt8.ofNat f.hashes.toNat::(putN f.data.length++f.data)).drop (1+(putN f.data.length).length)=f.data:=by
    rw [Nat.add_comm,List.drop_succ_cons,List.drop_left]
   rw [hd,hh];obtain⟨a,n,d⟩:=f;have:a=false:=h3.1;rw [this]
  ·simp only [Llc,Lla];omega
theorem blk1_ps{c:Cu}{key:Str}{b:BI}{r:Str}(he:c.e=0)(hb:rightB b key=true)(h:c.left=blkN key b++r):∃c',blk1 key c=(b,c')∧c'.b=c.b∧c'.e=0∧c'.left=r:=by
 have hb:=odt hb;obtain⟨h1,h2,h3,h4,h5,h6,h7,h8,_⟩:=hb;have hcom:=comN_le key b.cut;have htk:=comN_take key b.cut;unfold blkN at h;simp only [Laa] at h;obtain⟨c1,a1,a2,a3,a4⟩:=num_ps he (n:=b.stored.toNat) (by omega) (m:=65536) (by omega) h;obtain⟨c2,b1,b2,b3,b4⟩:=num_ps a3 (n:=b.raw.toNat) (by omega) (m:=65536) (by omega) a4;obtain⟨c3,d1,d2,d3,d4⟩:=num_ps b3 (n:=b.count.toNat) (by omega) (m:=65536) (by omega) b4;obtain⟨c4,e1,e2,e3,e4⟩:=num_ps d3 (n:=comN key b.cut) (by omega) (m:=key.length) (by omega) d4;have hdl:(b.cut.drop (comN key b.cut)).length=b.cut.length-comN key b.cut:=Lld;rw [←hdl] at e4;obtain⟨c5,f1,f2,f3,f4⟩:=text_ps e3 (m:=64) (by omega) (by omega) e4;refine⟨c5,?_,by rw [f2,e2,d2,b2,a2],f3,f4⟩;unfold blk1;dsimp only;rw [a1];dsimp only;rw [b1];dsimp only;rw [d1];dsimp only;rw [e1];dsimp only;rw [f1];dsimp only;have x1:((b.stored.toNat:Nat):Int)=b.stored:=by omega
 have x2:((b.raw.toNat:Nat):Int)=b.raw:=by omega
 have x3:((b.count.toNat:Nat):Int)=b.count:=by omega
 rw [x1,x2,x3,Itn,htk,List.take_append_drop]
theorem blksRun_ps:∀(bl:List BI) (l:List BI) (key:Str) (c:Cu) (r:Str),c.e=0→chkB bl key=true→c.left=bodB bl key++r→∃c',blksRun bl.length l key c=(l++bl,c')∧c'.b=c.b∧c'.e=0∧c'.left=r
 | [],l,key,c,r,he,_,h=>⟨c,by rw [Lan];rfl,rfl,he,h⟩
 | b::bl,l,key,c,r,he,hc,h=>by
  rw [chkB_cons,Bat] at hc;rw [bodB,Laa] at h;obtain⟨c1,a1,a2,a3,a4⟩:=blk1_ps he hc.1 h;obtain⟨x,t,hp⟩:=putN_cons b.stored.toNat;have hr:c.rest≠0:=rest_ps he (x:=x) (by rw [h];unfold blkN;rw [hp];simp only [List.cons_append];rfl);obtain⟨c2,b1,b2,b3,b4⟩:=blksRun_ps bl (l++[b]) b.cut c1 r a3 hc.2 a4;refine⟨c2,?_,by rw [b2,a2],b3,b4⟩;rw [Llc,blksRun,if_neg hr,a1];dsimp only;rw [b1];simp
theorem blksN_ps{c:Cu}{bl:List BI}{r:Str}(he:c.e=0)(hl:bl.length≤262144)(hc:chkB bl []=true)(h:c.left=putN bl.length++(bodB bl []++r)):∃c',blksN c=(bl,c')∧c'.b=c.b∧c'.e=0∧c'.left=r:=by
 obtain⟨c1,a1,a2,a3,a4⟩:=num_ps he (n:=bl.length) (by omega) (m:=262144) (by omega) h;obtain⟨c2,b1,b2,b3,b4⟩:=blksRun_ps bl [] [] c1 r a3 hc a4;refine⟨c2,?_,by rw [b2,a2],b3,b4⟩;unfold blksN;rw [a1];dsimp only;rw [Itn,b1,List.nil_append]
theorem fail_zero{c:Cu}(he:c.e=0):c.fail 0=c:=by
 unfold Cu.fail;rw [if_neg (fun h=>h he)];obtain⟨b,a,e⟩:=c;have:e=0:=he;rw [this]
section
variable {P last:Int}{n:Nat}{x:PartI}{c:Cu}{r:Str}
theorem part_ps(hP:P≤65535)(hlast:-1≤last)(he:c.e=0)(hr:rightP P last n x=true)(hc:chkB x.blocks []=true)(h:c.left=headN x last++(bodB x.blocks []++r)) :
  ∃c1 c2 c3,c.num 65535=((x.part-last-1),c1)∧c1.b=c.b∧(∀m:Int,((encF x.flt).1.length:Int)≤m→c1.text m=((encF x.flt).1,c2))∧(encF x.flt).1.length≤c.b.length∧c2.e=0∧blksN c2=(x.blocks,c3)∧c3.b=c.b∧c3.e=0∧c3.left=r:=by
 have hr:=odt hr;unfold headN at h;simp only [Laa] at h;obtain⟨c1,a1,a2,a3,a4⟩:=num_ps he (n:=(x.part-last-1).toNat) (by omega) (m:=65535) (by omega) h;have hel:=encF_le hr.2.2.2.2;have ht:∀m:Int,((encF x.flt).1.length:Int)≤m→∃c',c1.text m=((encF x.flt).1,c')∧c'.b=c1.b∧c'.e=0∧c'.left=putN x.blocks.length++(bodB x.blocks []++r):=fun m hm=>text_ps a3 (by omega) hm a4;have hsame:∀m:Int,((encF x.flt).1.length:Int)≤m→c1.text m=c1.text 4112:=by
  intro m hm;have hg:getN c1.left=((encF x.flt).1.length,(putN (encF x.flt).1.length).length,0):=by rw [a4];exact getN_put (by omega) _
  have hE:textE m c1.left=textE 4112 c1.left:=by
   unfold textE;rw [hg];dsimp only;rw [if_neg (fun h=>h rfl),if_neg (c:=m<((encF x.flt).1.length:Int)) (by omega),if_neg (c:=(4112:Int)<((encF x.flt).1.length:Int)) (by omega),if_neg (c:=(0:Int)≠0) (fun h=>h rfl)]
  unfold Cu.text;rw [hE]
 obtain⟨c2,b1,b2,b3,b4⟩:=ht 4112 (by omega);obtain⟨c3,d1,d2,d3,d4⟩:=blksN_ps b3 (by omega) hc b4;have xp:(((x.part-last-1).toNat:Nat):Int)=x.part-last-1:=by omega
 rw [xp] at a1;refine⟨c1,c2,c3,a1,a2,fun m hm=>by rw [hsame m hm,b1],?_,b3,d1,by rw [d2,b2,a2],d3,d4⟩;have:=congrArg List.length a4;simp only [Lla] at this;have hl:c1.left.length=c1.b.length-c1.at_:=Lld;rw [a2] at hl;omega
theorem part1_ps(hP:P≤65535)(hlast:-1≤last)(he:c.e=0)(hr:rightP P last n x=true)(hc:chkB x.blocks []=true)(h:c.left=headN x last++(bodB x.blocks []++r)) :
  ∃c',part1 last c=(x,c')∧c'.b=c.b∧c'.e=0∧c'.left=r∧∀k:Nat,c.b.length≤k→part1R k last c=(x,c'):=by
 obtain⟨c1,c2,c3,a1,a2,a3,a4,a5,a6,a7,a8,a9⟩:=part_ps hP hlast he hr hc h;have hr:=odt hr;have hel:=encF_le hr.2.2.2.2;have hx:∀f:Flt,f=x.flt→(PartI.mk (last+1+(x.part-last-1)) x.blocks f)=x:=by
  rintro f rfl;have:last+1+(x.part-last-1)=x.part:=by omega
  rw [this]
 refine⟨c3,?_,a7,a8,a9,fun k hk=>?_⟩
 ·unfold part1;dsimp only;rw [a1];dsimp only;rw [a3 4112 (by omega)];dsimp only;rw [filtD_enc hr.2.2.2.2];dsimp only;rw [fail_zero a5,a6];dsimp only;rw [hx _ rfl]
 ·unfold part1R;rw [a1];dsimp only;rw [a3 k (by omega),filtR_enc hr.2.2.2.2];dsimp only;rw [a6];dsimp only;rw [hx _ rfl]
end
theorem partsRun_ps{P:Int}(hP:P≤65535):∀(l l0:List PartI) (last:Int) (n:Nat) (c:Cu),-1≤last→c.e=0→chkI P l last n=true→c.left=bodI l last →
  ∃c',partsRun l.length l0 last c=(l0++l,c')∧c'.e=0∧c'.left=[]∧∀k:Nat,c.b.length≤k→partsRunR k l.length l0 last c=(l0++l,c')
 | [],l0,last,n,c,_,he,_,h=>⟨c,by rw [Lan];rfl,he,h,fun k _=>by rw [Lan];rfl⟩
 | x::l,l0,last,n,c,hlast,he,hc,h=>by
  rw [chkI,Bat,Bat] at hc;rw [bodI,Laa] at h;obtain⟨c1,a1,a2,a3,a4,a5⟩:=part1_ps hP hlast he hc.1.1 hc.1.2 h;obtain⟨y,t,hp⟩:=putN_cons (x.part-last-1).toNat;have hr:c.rest≠0:=rest_ps he (x:=y) (by rw [h];unfold headN;rw [hp];simp only [List.cons_append];rfl);have hx:=odt hc.1.1;obtain⟨c2,b1,b2,b3,b4⟩:=partsRun_ps hP l (l0++[x]) x.part _ c1 (by omega) a3 hc.2 a4;refine⟨c2,?_,b2,b3,fun k hk=>?_⟩
  ·rw [Llc,partsRun,if_neg hr,a1];dsimp only;rw [b1];simp
  ·rw [Llc,partsRunR,if_neg hr,a5 k hk];dsimp only;rw [b4 k (by rw [a2];exact hk)];simp
theorem chkI_len{P:Int}:∀(l:List PartI) (last:Int) (n:Nat),chkI P l last n=true→l=[]∨last+l.length<P
 | [],_,_,_=>.inl rfl
 | x::l,last,n,h=>by
  right;rw [chkI,Bat,Bat] at h;have hx:=odt h.1.1;rw [Llc];rcases chkI_len l x.part _ h.2 with h2 | h2
  ·rw [h2];have:(([]:List PartI).length:Int)=0:=rfl;push_cast;omega
  ·push_cast;omega
theorem foot_put{P:Int}{l:List PartI}(h:chkF P l=true):(readF (bodyN P l)).1=P∧(readF (bodyN P l)).2.1=l∧(readF (bodyN P l)).2.2.done.1=0∧readR (bodyN P l)=(P,l):=by
 unfold chkF at h;rw [Bat,Det] at h;obtain⟨⟨hP1,hP2⟩,hI⟩:=h;have hlen:(l.length:Int)≤65535:=by
  rcases chkI_len l _ _ hI with h | h
  ·rw [h];decide
  ·omega
 have hb:bodyN P l=putN P.toNat++(putN l.length++bodI l (-1)):=by unfold bodyN;rw [Laa]
 obtain⟨c1,a1,a2,a3,a4⟩:=num_ps (c:=Cu.mk (bodyN P l) 0 0) rfl (n:=P.toNat) (by omega) (m:=65535) (by omega) (show bodyN P l=_ from hb);obtain⟨c2,b1,b2,b3,b4⟩:=num_ps a3 (n:=l.length) (by omega) (m:=65535) (by omega) a4;obtain⟨c3,d1,d2,d3,d4⟩:=partsRun_ps hP2 l [] (-1) 0 c2 (Int.le_refl _) b3 hI b4;have hPP:((P.toNat:Nat):Int)=P:=by omega
 have hF:readF (bodyN P l)=(P,l,c3):=by
  unfold readF;dsimp only;rw [a1];dsimp only;rw [b1];dsimp only;rw [Itn,d1,List.nil_append,hPP]
 have hR:readR (bodyN P l)=(P,l):=by
  unfold readR;rw [a1];dsimp only;rw [b1];dsimp only;rw [Itn,d4 _ (by rw [b2,a2];exact Nlr _),List.nil_append,hPP]
 rw [hF];exact⟨rfl,rfl,done_left d2 d3,hR⟩
theorem parse_read{t:Str}(h:parseF t=true):readR t=((readF t).1,(readF t).2.1):=by
 unfold parseF okF at h;rw [Bat,Bat] at h;have hb:=odt h.2.2;have:=foot_put h.2.1;rw [hb] at this;exact this.2.2.2
theorem parse_iff(t:Str):parseF t=(chkF (readR t).1 (readR t).2&&decide (bodyN (readR t).1 (readR t).2=t)):=by
 rw [Bei];constructor
 ·intro h;rw [parse_read h];unfold parseF okF at h;rw [Bat] at h;exact h.2
 ·intro h;rw [Bat] at h;have hb:=odt h.2;have:=foot_put h.1;rw [hb] at this;unfold parseF okF;rw [this.1,this.2.1,this.2.2.1];rw [Bat];exact⟨rfl,by rw [Bat];exact h⟩
theorem footer_law(d:Dec):footOkR d=footOk d∧(footOk d=true→readR d.body=((readF d.body).1,(readF d.body).2.1)):=by
 have hp:=parse_iff d.body;constructor
 ·unfold footOkR footOk
  cases hb:d.broken with
  | true=>rfl
  | false=>
   by_cases hl:d.left≤0
   ·rw [Dct hl];simp only [Bool.not_false,Bool.true_and];rw [←Bool.and_assoc,←hp]
    cases h:parseF d.body with
    | false=>rfl
    | true=>rw [parse_read h]
   ·rw [Dcf hl];rfl
 ·intro h;unfold footOk at h;simp only [Bat] at h;exact parse_read h.2.2.1
def cutB(file:Str)(a b:Int):Str:=(file.take b.toNat).drop a.toNat
theorem cutB_len{file:Str}{a b:Int}(h0:0≤a)(h1:a≤b)(h2:b≤file.length):(cutB file a b).length=(b-a).toNat:=by
 unfold cutB;rw [Lld,Llt];omega
structure PgP where
 frm:Int
 to:Int
 ok:Bool
def pagesP(file:Str)(end_:Int):Nat→Int→List PgP
 | 0,_=>[]
 | k+1,at_=>if at_<end_ then⟨at_,mnI (at_+4100) end_,decide ((openB (cutB file at_ (mnI (at_+4100) end_))).1=0)⟩::pagesP file end_ k (mnI (at_+4100) end_) else []
def decRun:Nat→Str→Dec→Int×Dec
 | 0,_,d=>(0,d)
 | k+1,p,d=>if p.length=0 then (0,d) else
  if (pageN d (p.take (min p.length 4100))).2≠0 then ((pageN d (p.take (min p.length 4100))).2,(pageN d (p.take (min p.length 4100))).1)
  else decRun k (p.drop (min p.length 4100)) (pageN d (p.take (min p.length 4100))).1
def decN(p:Str)(tb tp:Int):Int×Dec:=if trailOk tb tp=false then (81,dec0 tb tp) else if (p.length:Int)≠tp then (80,dec0 tb tp) else
 if (decRun 5000 p (dec0 tb tp)).1≠0 then decRun 5000 p (dec0 tb tp) else if footOk (decRun 5000 p (dec0 tb tp)).2=false then (80,(decRun 5000 p (dec0 tb tp)).2) else decRun 5000 p (dec0 tb tp)
structure BlkP where
 frm:Int
 to:Int
 info:BI
 part:Int
 flag:Nat
 how:Int
 ents:List (Str×Str)
def opnP(tile:Str)(b:BI):Option (List (Str×Str)):=match (blockN tile b.raw).2 with
 | none=>none
 | some x=>if (x.2.length:Int)≠b.count then none else if (x.2.getD 0 ([],[])).1.take 64=b.cut then some x.2 else none
def flagP(tile:Str):Nat:=(tile.getD (tile.length-5) 0).toNat
def blksP(file:Str)(part:Int):List BI→Int→Str→Bool→List BlkP
 | [],_,_,_=>[]
 | b::r,at_,last,some_=>match opnP (cutB file at_ (at_+b.stored+5)) b with
  | none=>⟨at_,at_+b.stored+5,b,part,flagP (cutB file at_ (at_+b.stored+5)),1,[]⟩::blksP file part r (at_+b.stored+5) last some_
  | some e=>⟨at_,at_+b.stored+5,b,part,flagP (cutB file at_ (at_+b.stored+5)),if some_=true∧cmpN (e.getD 0 ([],[])).1 last<0 then 2 else 0,e⟩::blksP file part r (at_+b.stored+5) (e.getD (e.length-1) ([],[])).1 true
def infosP(file:Str):List PartI→Int→List (PartI×List BlkP)
 | [],_=>[]
 | x::r,at_=>(x,blksP file x.part x.blocks at_ [] false)::infosP file r (at_+spB x.blocks)
def lastP(file:Str):Int:=mxI ((file.length:Int)-24) 0
def trailP(file:Str):Int×Int×Int:=trailN (file.drop (lastP file).toNat) file.length
def endP(file:Str):Int:=(trailP file).1+(trailP file).2.1
def pgsP(file:Str):List PgP:=pagesP file (endP file) 5000 (trailP file).1
def rightP0(file:Str):Bool:=(pgsP file).all fun p=>p.ok
def footP(file:Str):Int×Dec:=decN (cutB file (trailP file).1 (endP file)) (trailP file).1 (trailP file).2.1
def rightF(file:Str):Bool:=rightP0 file&&decide ((footP file).1=0)
def partsP(file:Str):Int:=(readF (footP file).2.body).1
def listP(file:Str):List PartI:=(readF (footP file).2.body).2.1
inductive Ev where
 | trailer (a b tb tp:Int) (ok:Bool)
 | page (p:PgP)
 | footer (a b P:Int) (l:List PartI) (ok:Bool)
 | part (x:PartI)
 | block (x:BlkP)
 | record (part:Int) (k v:Str)
def blkEv(x:BlkP):List Ev:=Ev.block x::x.ents.map fun e=>Ev.record x.part e.1 e.2
def infoEv(x:PartI×List BlkP):List Ev:=Ev.part x.1::x.2.flatMap blkEv
def walkP(file:Str):List Ev:=
 Ev.trailer (lastP file) file.length (trailP file).1 (trailP file).2.1 (decide ((trailP file).2.2=0)) ::
 if (trailP file).2.2≠0 then [] else
  (pgsP file).map Ev.page++Ev.footer (trailP file).1 (endP file) (if rightF file=true then partsP file else 0) (if rightF file=true then listP file else []) (rightF file) ::
  if rightF file=false then [] else (infosP file (listP file) 0).flatMap infoEv
structure Fnd where
 kind:Int
 frm:Int
 to:Int
def blocksOfP(file:Str):List BlkP:=(infosP file (listP file) 0).flatMap fun x=>x.2
def recsB(x:BlkP):List (Int×Str×Str):=x.ents.map fun e=>(x.part,e.1,e.2)
abbrev numS(n:Int):Str:=Go.Lib.itoa n
def lineS(ws:List Str):Str:=Go.Lib.join ws [32]++[10]
theorem lineS_len(ws:List Str):(lineS ws).length≤(ws.map List.length).sum+ws.length+1:=by
 unfold lineS
 cases ws with
 | nil=>simp [Go.Lib.join_nil]
 | cons x r=>
  rw [Go.Lib.join_cons,Lla,Lla,Go.Lib.joinTail_length];rw [show Go.Lib.lens r=(r.map List.length).sum from rfl];simp only [List.map_cons,List.sum_cons,Llc,List.length_nil];omega
def digS(n:Nat):UInt8:=([48,49,50,51,52,53,54,55,56,57,97,98,99,100,101,102]:Str).getD n 0
def quoC(c:UInt8):Str:=if c=34∨c=92 then [92,c] else if 32≤c.toNat∧c.toNat≤126 then [c] else [92,120,digS (c.toNat/16),digS (c.toNat%16)]
def quoS(s:Str):Str:=34::(s.flatMap quoC++[34])
theorem quoC_len(c:UInt8):(quoC c).length≤4:=by
 unfold quoC;split
 ·simp
 split<;>simp
theorem quoF_len:∀s:Str,(s.flatMap quoC).length≤4*s.length
 | []=>by simp
 | c::s=>by
  have:=quoC_len c;have:=quoF_len s;rw [List.flatMap_cons,Lla,Llc];omega
theorem quoS_len(s:Str):(quoS s).length≤4*s.length+2:=by
 have:=quoF_len s;unfold quoS;rw [Llc,Lla,List.length_singleton];omega
def howS(ok:Bool):Str:=if ok=true then [119,104,111,108,101] else [115,112,111,105,108,116]
def stS(how:Int):Str:=if how=2 then [102,97,108,108,115] else howS (decide (how≠1))
def fltS(f:Flt):Str:=if f.all=true then [97,108,108] else if f.hashes=0 then [110,111,110,101] else (numS f.hashes++[32])++numS f.data.length
def txtE:Ev→Str
 | .trailer _ _ tb tp ok=>if ok=true then lineS [[116,114,97,105,108,101,114],numS tb,numS tp] else lineS [[110,111,32,116,114,97,105,108,101,114]]
 | .page p=>lineS [[112,97,103,101],numS p.frm,numS p.to,howS p.ok]
 | .footer _ _ P _ ok=>if ok=true then lineS [[112,97,114,116,115],numS P] else lineS [[110,111,32,102,111,111,116,101,114]]
 | .part x=>lineS [[112,97,114,116],numS x.part,[98,108,111,99,107,115],numS x.blocks.length,[102,105,108,116,101,114],fltS x.flt]
 | .block x=>lineS [[98,108,111,99,107],numS x.frm,numS x.to,[115,116,111,114,101,100],numS x.info.stored,[114,97,119],numS x.info.raw,[99,111,117,110,116],numS x.info.count,[102,108,97,103],numS (x.flag:Int),[99,117,116],quoS x.info.cut,stS x.how]
 | .record _ k z=>lineS [[114,101,99,111,114,100],quoS k,quoS z]
def in40(n:Int):Prop:=0≤n∧n≤1099511627776
def rngE:Ev→Prop
 | .trailer _ _ tb tp ok=>ok=true→in40 tb∧in40 tp
 | .page p=>in40 p.frm∧in40 p.to
 | .footer _ _ P _ ok=>ok=true→in40 P
 | .part x=>in40 x.part∧in40 x.flt.hashes∧x.blocks.length≤262144∧x.flt.data.length≤4096
 | .block x=>in40 x.frm∧in40 x.to∧in40 x.info.stored∧in40 x.info.raw∧in40 x.info.count∧x.flag<256∧x.info.cut.length≤1024
 | .record _ k z=>k.length≤1024∧z.length≤1024
theorem numS_len{n:Int}(h:in40 n):(numS n).length≤21:=Go.Lib.itoa_length_le n (by have:=h.1;omega) (by have:=h.2;omega)
theorem in40_nat{n:Nat}(h:n≤1099511627776):in40 (n:Int):=⟨by omega,by omega⟩
theorem howS_len(b:Bool):(howS b).length≤6:=by cases b<;>decide
theorem stS_len(n:Int):(stS n).length≤6:=by
 unfold stS;split
 ·decide
 ·exact howS_len _
theorem fltS_len{f:Flt}(h0:in40 f.hashes)(h1:f.data.length≤4096):(fltS f).length≤43:=by
 unfold fltS;split
 ·decide
 split
 ·decide
 ·have:=numS_len h0;have:=numS_len (in40_nat (n:=f.data.length) (by omega));rw [Lla,Lla,List.length_singleton];omega
theorem txtE_len{e:Ev}(h:rngE e):(txtE e).length≤8210:=by
 cases e with
 | trailer a b tb tp ok=>
  cases ok with
  | true=>
   obtain⟨h1,h2⟩:=h rfl;refine Nat.le_trans (lineS_len _) ?_;have:=numS_len h1;have:=numS_len h2;simp;omega
  | false=>refine Nat.le_trans (lineS_len _) (by decide)
 | page p=>
  have:=numS_len h.1;have:=numS_len h.2;have:=howS_len p.ok;refine Nat.le_trans (lineS_len _) ?_;simp;omega
 | footer a b P l ok=>
  cases ok with
  | true=>
   have:=numS_len (h rfl);refine Nat.le_trans (lineS_len _) ?_;simp;omega
  | false=>refine Nat.le_trans (lineS_len _) (by decide)
 | part x=>
  obtain⟨h1,h2,h3,h4⟩:=h;have:=numS_len h1;have:=numS_len (in40_nat (n:=x.blocks.length) (by omega));have:=fltS_len h2 h4;refine Nat.le_trans (lineS_len _) ?_;simp;omega
 | block x=>
  obtain⟨h1,h2,h3,h4,h5,h6,h7⟩:=h;have:=numS_len h1;have:=numS_len h2;have:=numS_len h3;have:=numS_len h4;have:=numS_len h5;have:=numS_len (in40_nat (n:=x.flag) (by omega));have:=quoS_len x.info.cut;have:=stS_len x.how;refine Nat.le_trans (lineS_len _) ?_;simp;omega
 | record p k z=>
  have:=quoS_len k;have:=quoS_len z;have:=h.1;have:=h.2;refine Nat.le_trans (lineS_len _) ?_;simp;omega
def dumpP(file:Str):Str:=lineS [[98,121,116,101,115],numS file.length]++(walkP file).flatMap txtE
def nmR(n:Int):Str:=32::numS n
def stR(how:Int):Str:=if how=0 then [32,119,104,111,108,101] else if how=2 then [32,102,97,108,108,115] else [32,115,112,111,105,108,116]
def fltR(f:Flt):Str:=if f.all=true then [32,97,108,108] else if f.data.length=0 then [32,110,111,110,101] else nmR f.hashes++nmR f.data.length
def pgR(p:PgP):Str:=[112,97,103,101]++nmR p.frm++nmR p.to++(if p.ok=true then stR 0 else stR 1)++[10]
def recR(e:Str×Str):Str:=[114,101,99,111,114,100,32]++quoS e.1++[32]++quoS e.2++[10]
def blkR0(x:BlkP):Str:=([98,108,111,99,107]++nmR x.frm++nmR x.to++[32,115,116,111,114,101,100]++nmR x.info.stored++[32,114,97,119]++nmR x.info.raw++[32,99,111,117,110,116]++nmR x.info.count)++[32,102,108,97,103]++nmR (x.flag:Int)++[32,99,117,116,32]++quoS x.info.cut++stR x.how++[10]
def blkR(x:BlkP):Str:=blkR0 x++x.ents.flatMap recR
def partR(x:PartI):Str:=[112,97,114,116]++nmR x.part++[32,98,108,111,99,107,115]++nmR x.blocks.length++[32,102,105,108,116,101,114]++fltR x.flt++[10]
def infoR(x:PartI×List BlkP):Str:=partR x.1++x.2.flatMap blkR
def dumpR(file:Str):Str:=[98,121,116,101,115]++nmR file.length++[10] ++
 if (trailP file).2.2≠0 then [110,111,32,116,114,97,105,108,101,114,10] else
 [116,114,97,105,108,101,114]++nmR (trailP file).1++nmR (trailP file).2.1++[10]++((pgsP file).flatMap pgR ++
 if rightF file=false then [110,111,32,102,111,111,116,101,114,10] else
 [112,97,114,116,115]++nmR (partsP file)++[10]++(infosP file (listP file) 0).flatMap infoR)
theorem line2(a b:Str):lineS [a,b]=a++(32::b)++[10]:=by simp [lineS,Go.Lib.join_cons,Go.Lib.joinTail]
theorem line3(a b c:Str):lineS [a,b,c]=a++(32::b)++(32::c)++[10]:=by simp [lineS,Go.Lib.join_cons,Go.Lib.joinTail]
theorem text_page(p:PgP):txtE (.page p)=pgR p:=by
 have:(if p.ok=true then stR 0 else stR 1)=32::howS p.ok:=by cases p.ok<;>rfl
 unfold txtE pgR;rw [this];simp [lineS,Go.Lib.join_cons,Go.Lib.joinTail,nmR]
theorem text_rec(part:Int)(e:Str×Str):txtE (.record part e.1 e.2)=recR e:=by
 unfold txtE recR;simp [line3]
theorem text_blk0(x:BlkP)(h:x.how=0∨x.how=1∨x.how=2):txtE (.block x)=blkR0 x:=by
 have:stR x.how=32::stS x.how:=by rcases h with h | h | h<;>rw [h]<;>rfl
 unfold txtE blkR0;rw [this];simp [lineS,Go.Lib.join_cons,Go.Lib.joinTail,nmR]
theorem text_recs(part:Int):∀es:List (Str×Str),(es.map fun e=>Ev.record part e.1 e.2).flatMap txtE=es.flatMap recR
 | []=>rfl
 | e::es=>by rw [List.map_cons,List.flatMap_cons,text_rec,text_recs part es,List.flatMap_cons]
theorem text_blk(x:BlkP)(h:x.how=0∨x.how=1∨x.how=2):(blkEv x).flatMap txtE=blkR x:=by
 unfold blkEv blkR;rw [List.flatMap_cons,text_blk0 x h,text_recs]
theorem text_blks:∀{xs:List BlkP},(∀x∈xs,x.how=0∨x.how=1∨x.how=2)→(xs.flatMap blkEv).flatMap txtE=xs.flatMap blkR
 | [],_=>rfl
 | x::xs,h=>by rw [List.flatMap_cons,List.flatMap_append,text_blk x (h x (Lcs ..)),text_blks fun y hy=>h y (Lmc _ hy),List.flatMap_cons]
theorem blksP_how(file:Str)(part:Int):∀(l:List BI) (at_:Int) (last:Str) (some_:Bool),∀x∈blksP file part l at_ last some_,x.how=0∨x.how=1∨x.how=2
 | [],_,_,_,x,h=>by cases h
 | b::r,at_,last,some_,x,h=>by
  rw [blksP] at h;split at h
  ·rcases List.mem_cons.1 h with rfl | h
   ·exact .inr (.inl rfl)
   ·exact blksP_how file part r _ _ _ x h
  ·rcases List.mem_cons.1 h with rfl | h
   ·dsimp only;split
    ·exact .inr (.inr rfl)
    ·exact .inl rfl
   ·exact blksP_how file part r _ _ _ x h
def fltK(f:Flt):Prop:=f.all=true∨(f.hashes=0↔f.data.length=0)
theorem text_part(x:PartI)(h:fltK x.flt):txtE (.part x)=partR x:=by
 have:fltR x.flt=32::fltS x.flt:=by
  unfold fltR fltS
  cases ha:x.flt.all with
  | true=>rw [if_pos rfl,if_pos rfl]
  | false=>
   have h:=h.resolve_left (by rw [ha];decide);rw [if_neg (c:=(false=true)) (by decide),if_neg (c:=(false=true)) (by decide)];by_cases hz:x.flt.hashes=0
   ·rw [if_pos hz,if_pos (h.1 hz)]
   ·rw [if_neg hz,if_neg (fun e=>hz (h.2 e))];simp [nmR]
 unfold txtE partR;rw [this];simp [lineS,Go.Lib.join_cons,Go.Lib.joinTail,nmR]
theorem text_infos(file:Str):∀{l:List PartI} (at_:Int),(∀x∈l,fltK x.flt)→((infosP file l at_).flatMap infoEv).flatMap txtE=(infosP file l at_).flatMap infoR
 | [],_,_=>rfl
 | x::l,at_,h=>by
  have e:infosP file (x::l) at_=(x,blksP file x.part x.blocks at_ [] false)::infosP file l (at_+spB x.blocks):=rfl;rw [e,List.flatMap_cons,List.flatMap_append,text_infos file _ fun y hy=>h y (Lmc _ hy),List.flatMap_cons];unfold infoEv infoR;rw [List.flatMap_cons,text_part x (h x (Lcs ..)),text_blks (blksP_how file _ _ _ _ _)]
theorem text_pages:∀ps:List PgP,(ps.map Ev.page).flatMap txtE=ps.flatMap pgR
 | []=>rfl
 | p::ps=>by rw [List.map_cons,List.flatMap_cons,text_page,text_pages ps,List.flatMap_cons]
theorem dump_law(file:Str)(h:rightF file=true→∀x∈listP file,fltK x.flt):dumpP file=dumpR file:=by
 unfold dumpP dumpR walkP;rw [line2];have e0:[98,121,116,101,115]++(32::numS file.length)++[10]=[98,121,116,101,115]++nmR file.length++([10]:Str):=rfl;rw [e0];congr 1;rw [List.flatMap_cons];by_cases hT:(trailP file).2.2≠0
 ·rw [if_pos hT,if_pos hT,Dcf hT];rfl
 rw [if_neg hT,if_neg hT,Dct (Decidable.not_not.1 hT)];have e1:txtE (.trailer (lastP file) file.length (trailP file).1 (trailP file).2.1 true)=[116,114,97,105,108,101,114]++nmR (trailP file).1++nmR (trailP file).2.1++[10]:=by
  show lineS _=_;rw [line3];rfl
 rw [e1,List.flatMap_append,text_pages,List.flatMap_cons];congr 2
 cases hr:rightF file with
 | false=>rw [if_pos rfl,if_pos rfl];rfl
 | true=>
  rw [if_neg (c:=(true=false)) (by decide),if_neg (c:=(true=false)) (by decide),text_infos file 0 (h hr),if_pos rfl];have e2:∀a b l,txtE (.footer a b (partsP file) l true)=[112,97,114,116,115]++nmR (partsP file)++[10]:=fun a b l=>by
   show lineS _=_;rw [line2];rfl
  rw [e2]
set_option maxRecDepth 100000
theorem go_25(pages1:Sl)(t_0_2:Int)(t_1_3:Int)(K:Int→Sl→Int→Wp)(w:World)(h:al w 38 [.int .i64 t_0_2,.int .i64 t_1_3] fun b4 W5=>al W5 42 [.int .i64 0,.sl (⟨none,0,0⟩)] fun b6 W7=>ld W7 Ki b4 0 fun n8=>ld W7 Ki b4 1 fun n9=>callK Pg 39 [.agg [.int .i64 n8,.int .i64 n9]] W7 (.tup [Lp,Li]) fun p10 n11 W12=>ifK (n11 != 0) (st W12 b6 0 [.int .i64 0,.sl (⟨none,0,0⟩)] fun W13=>ld W13 Ki b6 0 fun n14=>ld W13 .sl b6 1 fun a15=>K n14 a15 n11 W13) (ld W12 Ki b4 1 fun n16=>ifK ((pages1.len:Int) != n16) (st W12 b6 0 [.int .i64 0,.sl (⟨none,0,0⟩)] fun W17=>ld W17 Ki b6 0 fun n18=>ld W17 .sl b6 1 fun a19=>K n18 a19 80 W17) (joinK [] (fun k20=>loopL [.sl] (fun pages22 W23 g21=>ifK (decide (0<(pages22.len:Int))) (slx pages22 1 none (some (mnI (pages22.len:Int) 4100)) none fun s24=>callK Pg 40 [Ap p10,Az s24] W23 Oi fun n25 W26=>ifK (n25 != 0) (st W26 b6 0 [.int .i64 0,.sl (⟨none,0,0⟩)] fun W27=>ld W27 Ki b6 0 fun n28=>ld W27 .sl b6 1 fun a29=>K n28 a29 n25 W27) (slx pages22 1 (some (mnI (pages22.len:Int) 4100)) none none fun s30=>g21 s30 W26)) (k20 W23)) [.sl pages1] W12) fun W31=>callK Pg 41 [Ap p10] W31 (.tup [.agg [Ki,.sl],Li]) fun n32 a33 n34 W35=>st W35 b6 0 [.int .i64 n32,.sl a33] fun W36=>ld W36 Ki b6 0 fun n37=>ld W36 .sl b6 1 fun a38=>K n37 a38 n34 W36))):callK Pg 24 [Az pages1,.agg [.int .i64 t_0_2,.int .i64 t_1_3]] w (.tup [.agg [Ki,.sl],Li]) K:=Fq (n:=(n0 .nil (n0 .nil (n0 .nil (n0 .nil (n0 (.mk (some []) [] [4,6] .done (.mk none [.tmp 0 Ls] [4,6] .done .nil .nil) .nil) .nil)))))) CS_ok mixed Tryz.func24 (Eq.mpr (by kernel_rfl) h)
theorem go_31(pages1:Sl)(t_0_2:Int)(t_1_3:Int)(K:Int→Sl→Int→Wp)(w:World)(h:al w 38 [.int .i64 t_0_2,.int .i64 t_1_3] fun b4 W5=>al W5 42 [.int .i64 0,.sl (⟨none,0,0⟩)] fun b6 W7=>ld W7 Ki b4 0 fun n8=>ld W7 Ki b4 1 fun n9=>callK Pg 51 [.agg [.int .i64 n8,.int .i64 n9]] W7 (.tup [Lp,Li]) fun p10 n11 W12=>ifK (n11 != 0) (st W12 b6 0 [.int .i64 0,.sl (⟨none,0,0⟩)] fun W13=>ld W13 Ki b6 0 fun n14=>ld W13 .sl b6 1 fun a15=>K n14 a15 n11 W13) (ld W12 Ki b4 1 fun n16=>ifK ((pages1.len:Int) != n16) (st W12 b6 0 [.int .i64 0,.sl (⟨none,0,0⟩)] fun W17=>ld W17 Ki b6 0 fun n18=>ld W17 .sl b6 1 fun a19=>K n18 a19 80 W17) (joinK [] (fun k20=>loopL [Ki] (fun at_22 W23 g21=>ld W23 Ki b4 1 fun n24=>ifK (decide (at_22<n24)) (callK Pg 52 [Ap p10] W23 Oi fun n25 W26=>slx pages1 1 (some at_22) (some (w64 (at_22+n25))) none fun s27=>callK Pg 53 [Ap p10,Az s27] W26 Oi fun n28 W29=>ifK (n28 != 0) (st W29 b6 0 [.int .i64 0,.sl (⟨none,0,0⟩)] fun W30=>ld W30 Ki b6 0 fun n31=>ld W30 .sl b6 1 fun a32=>K n31 a32 n28 W30) (g21 (w64 (at_22+n25)) W29)) (k20 W23)) [.int .i64 0] W12) fun W33=>callK Pg 54 [Ap p10] W33 (.tup [.agg [Ki,.sl],Li]) fun n34 a35 n36 W37=>st W37 b6 0 [.int .i64 n34,.sl a35] fun W38=>ld W38 Ki b6 0 fun n39=>ld W38 .sl b6 1 fun a40=>K n39 a40 n36 W38))):callK Pg 29 [Az pages1,.agg [.int .i64 t_0_2,.int .i64 t_1_3]] w (.tup [.agg [Ki,.sl],Li]) K:=Fq (n:=(n0 .nil (n0 .nil (n0 .nil (n0 .nil (n0 .nil (n0 (.mk (some []) [] [4,6] .done (.mk none [.tmp 8 Li] [0,3,4,6] .done .nil .nil) .nil) .nil))))))) CS_ok mixed Tryz.func29 (Eq.mpr (by kernel_rfl) h)
theorem pageN_left{d:Dec}{page:Str}(h:(pageN d page).2=0):(pageN d page).1 = {d with body:=d.body++(openB page).2,left:=d.left-mnI d.left 4100}∧(openB page).2.length≤page.length∧(page.length:Int)=mnI d.left 4100∧mnI d.left 4100≠0:=by
 unfold pageN at h ⊢;split at h
 ·cases h
 rename_i h1;rw [if_neg h1];split at h
 ·cases h
 rename_i h2;rw [if_neg h2];have:=openB_len (Decidable.not_not.1 h2);have h3:¬(page.length:Int)≠mnI d.left 4100:=fun e=>h1 (.inr (.inr e));exact⟨rfl,by omega,Decidable.not_not.1 h3,fun e=>h1 (.inr (.inl e))⟩
theorem mnI_nat{a b:Nat}:mnI (a:Int) (b:Int)=((min a b:Nat):Int):=by
 unfold mnI;split<;>omega
theorem decRun_s(n:Nat)(p:Str)(d:Dec):decRun (n+1) p d=if p.length=0 then (0,d) else
  if (pageN d (p.take (min p.length 4100))).2≠0 then ((pageN d (p.take (min p.length 4100))).2,(pageN d (p.take (min p.length 4100))).1)
  else decRun n (p.drop (min p.length 4100)) (pageN d (p.take (min p.length 4100))).1:=rfl
set_option maxHeartbeats 1000000 in
theorem footDecode_ok{w:World}{sp:Sl}{p:Str}{tb tp:Int}(hr:RdS w ET sp p)(hl:p.length≤20000000){K:Int→Sl→Int→Wp}
  (hN:(decN p tb tp).1≠0→∀w',Mod F0 w w'→K 0 ⟨none,0,0⟩ (decN p tb tp).1 w')
  (hS:(decN p tb tp).1=0→∀w' R s ps,Fresh w w' F0 R→FootL R s ps (readF (decN p tb tp).2.body).2.1→K (readF (decN p tb tp).2.body).1 s 0 w') :
  callK Tryz.prog c_25 [Az sp,.agg [.int .i64 tb,.int .i64 tp]] w (.tup [.agg [Ki,.sl],Li]) K:=by
 refine go_25 _ _ _ _ _ ?_;refine (Fresh.start w F0).alK fun b4 w1 f1 _ _=>f1.alK fun b6 w2 f2 _ _=>?_;have hB4:Blk w2 b4 [.int .i64 tb,.int .i64 tp]:=f2.blk (i:=0) rfl;have f2:Fresh w w2 F0 [(b4,[.int .i64 tb,.int .i64 tp]),(b6,pairC 0 ⟨none,0,0⟩)]:=f2;have bad:∀{u:World} {X:BL} {e:Int},Fresh w u F0 ([(b4,[.int .i64 tb,.int .i64 tp]),(b6,pairC 0 ⟨none,0,0⟩)]++X)→e=(decN p tb tp).1→e≠0→Go.Vw.st u b6 0 [.int .i64 0,.sl ⟨none,0,0⟩] fun W27=>Go.Vw.ld W27 Ki b6 0 fun n28=>Go.Vw.ld W27 .sl b6 1 fun a29=>K n28 a29 e W27:=fun {u X e} f he hne=>by
  refine f.stK 1 rfl (Nlr 2) fun u2 f2 _=>?_;have hB6:Blk u2 b6 (pairC 0 ⟨none,0,0⟩):=f2.blk (i:=1) rfl;refine hB6.ldK (k:=Ki) 0 rfl (hB6.ldK (k:=.sl) ⟨none,0,0⟩ rfl ?_);rw [he];exact hN (by rw [←he];exact hne) u2 f2.mod
 refine hB4.ldK (k:=Ki) tb rfl (hB4.ldK (k:=Ki) tp rfl (newDecoder_ok (fun ht w3 M3=>?_) fun ht w3 d hF=>?_))
 ·have e:(decN p tb tp).1=81:=by unfold decN;rw [if_pos ht]
  exact ifK_t rfl (bad (X:=[]) (f2.quiet M3) e.symm (by decide))
 have f3:Fresh w w3 F0 ([(b4,[.int .i64 tb,.int .i64 tp]),(b6,pairC 0 ⟨none,0,0⟩)]++[(d,decC (dec0 tb tp) ⟨none,0,0⟩)]):=f2.join hF (fun _ _ h=>h) fun _ _ _ h=>h;refine ifK_f rfl ?_;have hB4':Blk w3 b4 [.int .i64 tb,.int .i64 tp]:=f3.blk (i:=0) rfl;refine hB4'.ldK (k:=Ki) tp rfl ?_;rw [hr.len];refine Iq (fun q=>?_) fun q=>?_
 ·have q:(p.length:Int)≠tp:=by simpa using q
  have e:(decN p tb tp).1=80:=by unfold decN;rw [if_neg (by rw [ht];decide),if_pos q]
  exact bad f3 e.symm (by decide)
 have q:¬(p.length:Int)≠tp:=by simpa using q
 have htp:(p.length:Int)=tp:=Decidable.not_not.1 q;have edec:decN p tb tp=if (decRun 5000 p (dec0 tb tp)).1≠0 then decRun 5000 p (dec0 tb tp) else if footOk (decRun 5000 p (dec0 tb tp)).2=false then (80,(decRun 5000 p (dec0 tb tp)).2) else decRun 5000 p (dec0 tb tp):=by
  unfold decN;rw [if_neg (by rw [ht];decide),if_neg q]
 have f3:Fresh w w3 F0 ((d,decC (dec0 tb tp) ⟨none,0,0⟩)::([(b4,[.int .i64 tb,.int .i64 tp]),(b6,pairC 0 ⟨none,0,0⟩)]++[])):=f3.perm (by
  show List.Perm [_,_,_] [_,_,_];exact (Lpc (l₁:=[(d,decC (dec0 tb tp) ⟨none,0,0⟩)]) (l₂:=[(b4,[Value.int .i64 tb,Value.int .i64 tp]),(b6,pairC 0 ⟨none,0,0⟩)])))
 refine join0 (fun u=>∃x s ro,Fresh w u F0 ((d,decC x s)::([(b4,[.int .i64 tb,.int .i64 tp]),(b6,pairC 0 ⟨none,0,0⟩)]++ro))∧VecL ro ET s x.body∧decRun 5000 p (dec0 tb tp)=(0,x)∧x.body.length≤p.length) ?_ ?_
 ·intro k hk;refine loop1 (k:=.sl) (fun (pg:Sl) u=>∃(n:Nat) (p':Str) (x:Dec) (s:Sl) (ro:BL),RdS w ET pg p'∧p'.length≤4100*n∧Fresh w u F0 ((d,decC x s)::([(b4,[.int .i64 tb,.int .i64 tp]),(b6,pairC 0 ⟨none,0,0⟩)]++ro))∧VecL ro ET s x.body∧decRun 5000 p (dec0 tb tp)=decRun n p' x ∧
   x.body.length+p'.length≤p.length∧0≤x.left∧x.left≤tp) (fun pg _=>pg.len) (x:=sp) rfl
   ⟨5000,p,dec0 tb tp,⟨none,0,0⟩,[],hr,by omega,f3,VecL.nil ET,rfl,by show 0+p.length≤p.length;omega,by show 0≤tp;omega,Int.le_refl tp⟩ ?_
  rintro pg u ⟨n,p',x,s,ro,hp,hn,hf,hv,he,hbl,hx0,hx1⟩;rw [hp.len];refine Iq (fun q=>?_) fun q=>?_;rotate_left
  ·have q:¬0<(p'.length:Int):=odf q;have h0:p'.length=0:=by omega
   refine hk u ⟨x,s,ro,hf,hv,?_,by omega⟩;rw [he]
   cases n with
   | zero=>rfl
   | succ n=>rw [decRun_s,if_pos h0]
  have q:0<(p'.length:Int):=odt q;obtain⟨n',rfl⟩:∃n',n=n'+1:=⟨n-1,by omega⟩;have hmn:mnI (p'.length:Int) 4100=((min p'.length 4100:Nat):Int):=mnI_nat (b:=4100);rw [hmn];rw [decRun_s n' p' x,if_neg (c:=p'.length=0) (by omega)] at he;refine hp.toK (n:=min p'.length 4100) (by omega) rfl rfl fun s24 h24 _=>?_;refine page_ok hf hv (by omega) ⟨hx0,by omega⟩ (h24.quiet hf.mod) (by rw [Llt];omega) fun u2 s2 ro2 f2' v2=>?_;refine Iq (fun q2=>?_) fun q2=>?_
  ·have q2:(pageN x (p'.take (min p'.length 4100))).2≠0:=by simpa using q2
   rw [if_pos q2] at he;have e:(decN p tb tp).1=(pageN x (p'.take (min p'.length 4100))).2:=by rw [edec,he,if_pos q2]
   refine bad (X:=(d,decC (pageN x (p'.take (min p'.length 4100))).1 s2)::ro2) (f2'.perm ?_) e.symm q2;exact List.perm_middle
  ·have q2:¬(pageN x (p'.take (min p'.length 4100))).2≠0:=by simpa using q2
   rw [if_neg q2] at he;obtain⟨e1,e2,e3,_⟩:=pageN_left (Decidable.not_not.1 q2);have hmx:mnI x.left 4100≤x.left:=by unfold mnI;split<;>omega
   have hm0:0≤mnI x.left 4100:=by unfold mnI;split<;>omega
   have htl:(p'.take (min p'.length 4100)).length=min p'.length 4100:=by rw [Llt];omega
   refine hp.fromK (n:=min p'.length 4100) (by omega) rfl rfl fun s30 h30 _=>⟨⟨n',_,_,s2,ro2,h30,by rw [Lld];omega,f2',v2,he,?_,?_,?_⟩,?_⟩
   ·rw [e1,Lld];show (x.body++(openB (p'.take (min p'.length 4100))).2).length+_≤_;rw [Lla];omega
   ·rw [e1];show 0≤x.left-mnI x.left 4100;omega
   ·rw [e1];show x.left-mnI x.left 4100≤tp;omega
   ·rw [h30.len,Lld];omega
 rintro u ⟨x,s,ro,hf,hv,he,hxl⟩;have hBd:Blk u d (decC x s):=hf.blk (i:=0) rfl;have hrd:RdS u ET s x.body:=hv.rd fun q hq=>hf.own q (Lmc _ (Lmr _ hq));rw [he] at edec;rw [if_neg (fun h=>h rfl)] at edec;have hf:Fresh w u F0 ([(b4,[.int .i64 tb,.int .i64 tp]),(b6,pairC 0 ⟨none,0,0⟩)]++(d,decC x s)::ro):=hf.perm List.perm_middle;refine footDec_ok hBd hrd (by omega) (fun hb u2 M2=>?_) fun hb u2 R s2 ps2 hR hFL=>?_
 ·have e:(decN p tb tp).1=80:=by rw [edec,if_pos hb]
  exact bad (hf.quiet M2) e.symm (by decide)
 ·rw [if_neg (by rw [hb];decide)] at edec;have f5:=hf.join hR (fun _ _ h=>h) fun _ _ _ h=>h;refine f5.stK 1 rfl (Nlr 2) fun u3 f6 _=>?_;have hB6:Blk u3 b6 (pairC (readF x.body).1 s2):=f6.blk (i:=1) rfl;refine hB6.ldK (k:=Ki) (readF x.body).1 rfl (hB6.ldK (k:=.sl) s2 rfl ?_);have:=hS (by rw [edec]) u3 R s2 ps2 (f6.sub (List.Sublist.cons _ (List.Sublist.cons _ (Lsr _ _)))) (by rw [edec];exact hFL);rw [edec] at this;exact this
set_option maxRecDepth 100000
theorem go_30(file1:Sl)(m2:Value)(K:Wp)(w:World)(h:al w 72 [.int .i64 0,.int .i64 0] fun b3 W4=>st W4 b3 0 [.int .i64 (mxI (w64 ((file1.len:Int)-24)) 0),.int .i64 (file1.len:Int)] fun W5=>ld W5 Ki b3 0 fun n6=>slx file1 1 (some n6) none none fun s7=>callK Pg 22 [Az s7,Ai (file1.len:Int)] W5 (.tup [.agg [Ki,Ki],Li]) fun n8 n9 n10 W11=>al W11 38 [.int .i64 0,.int .i64 0] fun b12 W13=>st W13 b12 0 [.int .i64 n8,.int .i64 n9] fun W14=>ld W14 Ki b3 0 fun n15=>ld W14 Ki b3 1 fun n16=>ld W14 Ki b12 0 fun n17=>ld W14 Ki b12 1 fun n18=>callI Pg m2 "winnow/inspect.trailer" [.agg [.int .i64 n15,.int .i64 n16],.agg [.int .i64 n17,.int .i64 n18],Ab (n10==0)] W14 (.tup []) fun W19=>ifK (n10 != 0) (K W19) (ld W19 Ki b12 0 fun n20=>ld W19 Ki b12 1 fun n21=>ld W19 Ki b12 0 fun n22=>joinK [.bool] (fun k23=>loopL [.bool,Ki] (fun right25 at_26 W27 g24=>ifK (decide (at_26<w64 (n20+n21))) (al W27 72 [.int .i64 0,.int .i64 0] fun b28 W29=>st W29 b28 0 [.int .i64 at_26,.int .i64 (mnI (w64 ((w64 (at_26+4096))+4)) (w64 (n20+n21)))] fun W30=>ld W30 Ki b28 0 fun n31=>ld W30 Ki b28 1 fun n32=>slx file1 1 (some n31) (some n32) none fun s33=>callK Pg 23 [Az s33] W30 (.tup [Ls,Li]) fun a34 n35 W36=>ld W36 Ki b28 0 fun n37=>ld W36 Ki b28 1 fun n38=>callI Pg m2 "winnow/inspect.page" [.agg [.int .i64 n37,.int .i64 n38],Ab (n35==0)] W36 (.tup []) fun W39=>joinK [.bool] (fun k40=>ifK right25 (k40 (n35==0) W39) (k40 false W39)) fun right41 W42=>ld W42 Ki b28 1 fun n43=>g24 right41 n43 W42) (k23 right25 W27)) [.lit true,.int .i64 n22] W19) fun right44 W45=>al W45 42 [.int .i64 0,.sl (⟨none,0,0⟩)] fun b46 W47=>joinK [.bool] (fun k48=>ifK right44 (drawK W47 fun D W49=>ldD D W49 Ki b12 0 fun n50=>slx file1 1 (some n50) (some (w64 (n20+n21))) none fun s51=>ldD D W49 Ki b12 0 fun n52=>ldD D W49 Ki b12 1 fun n53=>callK Pg 24 [Az s51,.agg [.int .i64 n52,.int .i64 n53]] W49 (.tup [.agg [Ki,.sl],Li]) fun n54 a55 n56 W57=>Mod D W49 W57∧st W57 b46 0 [.int .i64 n54,.sl a55] fun W58=>Mod D W49 W58∧k48 (n56==0) W58) (k48 right44 W47)) fun right59 W60=>ld W60 Ki b12 0 fun n61=>ld W60 Ki b46 0 fun n62=>ld W60 .sl b46 1 fun a63=>callI Pg m2 "winnow/inspect.footer" [.agg [.int .i64 n61,.int .i64 (w64 (n20+n21))],.agg [.int .i64 n62,.sl a63],Ab right59] W60 (.tup []) fun W64=>ifK (!right59) (K W64) (ld W64 .sl b46 1 fun a65=>joinK [] (fun k66=>loopL [Ki,Ki] (fun at_68 t10769 W70 g67=>ifK (decide (t10769<(a65.len:Int))) (ix a65 5 t10769 fun b71 o72=>ld W70 Ki b71 o72 fun n73=>ld W70 .sl b71 (o72+1) fun a74=>ld W70 .bool b71 (o72+2) fun c75=>ld W70 Ki b71 (o72+3) fun n76=>ld W70 .sl b71 (o72+4) fun a77=>al W70 54 [.int .i64 0,.sl (⟨none,0,0⟩),.lit false,.int .i64 0,.sl (⟨none,0,0⟩)] fun b78 W79=>st W79 b78 0 [.int .i64 n73,.sl a74,.bool c75,.int .i64 n76,.sl a77] fun W80=>ld W80 Ki b78 0 fun n81=>ld W80 .sl b78 1 fun a82=>ld W80 .bool b78 2 fun c83=>ld W80 Ki b78 3 fun n84=>ld W80 .sl b78 4 fun a85=>callI Pg m2 "winnow/inspect.part" [.agg [.int .i64 n81,.sl a82,.bool c83,.int .i64 n84,.sl a85]] W80 (.tup []) fun W86=>ld W86 Ki b78 0 fun n87=>ld W86 .sl b78 1 fun a88=>ld W86 .bool b78 2 fun c89=>ld W86 Ki b78 3 fun n90=>ld W86 .sl b78 4 fun a91=>callK Pg 25 [Az file1,Ai at_68,.agg [.int .i64 n87,.sl a88,.bool c89,.int .i64 n90,.sl a91],.leaf (.val m2)] W86 Oi fun n92 W93=>g67 n92 (w64 (t10769+1)) W93) (k66 W70)) [.int .i64 0,.int .i64 0] W64) fun W94=>K W94))):callK Pg 11 [Az file1,.leaf (.val m2)] w (.tup []) K:=Fq (n:=(n0 .nil (n0 .nil (n0 .nil (n0 .nil (n0 .nil (n0 .nil (n0 .nil (n0 (n0 .nil (.mk (some [.tmp 9 Lb]) [] [0,1,6,8] .done (.mk none [.tmp 9 Lb,.tmp 10 Li] [0,1,6,8] .done (n0 .nil (n0 (n0 .nil (n0 .nil (n0 .nil (n0 (.mk (some [.tmp 9 Lb]) [] [0,1,6,8,11] .done .nil .nil) .nil)))) .nil)) .nil) .nil)) (n0 .nil (n0 (n0 .nil (.mk (some [.tmp 9 Lb]) [] [0,1,6,8,14] .done (n0 (.mk none [] [] (tk [0,1,2,3,4,5] (.eff 6 (.take 7 (.take 8 (.take 9 (.eff 10 (.take 11 .done))))))) .nil .nil) .nil) .nil)) (n0 .nil (n0 .nil (n0 .nil (n0 .nil (.mk (some []) [] [] .done (.mk none [.tmp 15 Li,.tmp 107 Li] [0,1,105,106] .done .nil .nil) .nil)))))))))))))))) CS_ok mixed Tryz.func11 (Eq.mpr (by kernel_rfl) h)
theorem go_28(file1:Sl)(at_2:Int)(x_0_3:Int)(x_1_4:Sl)(x_2_5:Bool)(x_3_6:Int)(x_4_7:Sl)(m8:Value)(K:Int→Wp)(w:World)(h:al w 54 [.int .i64 x_0_3,.sl x_1_4,.bool x_2_5,.int .i64 x_3_6,.sl x_4_7] fun b9 W10=>(∀x∈[(m8:Value)],isCell x=true)∧al W10 70 [.val m8] fun b11 W12=>ld W12 .sl b9 1 fun a13=>joinK [Ki,.marks] (fun k14=>loopL [Ki,.str,.bool,Ki,.marks] (fun at_16 last17 some_18 t2719 marks20 W21 g15=>ifK (decide (t2719<(a13.len:Int))) (joinK [Ki,.str,.bool,.marks] (fun k22=>ix a13 4 t2719 fun b23 o24=>ld W21 Ki b23 o24 fun n25=>ld W21 Ki b23 (o24+1) fun n26=>ld W21 Ki b23 (o24+2) fun n27=>ld W21 .str b23 (o24+3) fun s28=>al W21 57 [.int .i64 0,.int .i64 0,.int .i64 0,.str []] fun b29 W30=>st W30 b29 0 [.int .i64 n25,.int .i64 n26,.int .i64 n27,.str s28] fun W31=>ld W31 Ki b29 0 fun n32=>al W31 72 [.int .i64 0,.int .i64 0] fun b33 W34=>st W34 b33 0 [.int .i64 at_16,.int .i64 (w64 ((w64 (at_16+n32))+5))] fun W35=>ld W35 Ki b33 1 fun n36=>ld W35 Ki b33 0 fun n37=>ld W35 Ki b33 1 fun n38=>slx file1 1 (some n37) (some n38) none fun s39=>ix s39 1 (w64 ((s39.len:Int)-5)) fun b40 o41=>ld W35 (.int .u8) b40 o41 fun n42=>ld W35 Ki b29 0 fun n43=>ld W35 Ki b29 1 fun n44=>ld W35 Ki b29 2 fun n45=>ld W35 .str b29 3 fun s46=>callK Pg 42 [Az s39,.agg [.int .i64 n43,.int .i64 n44,.int .i64 n45,.str s46]] W35 (.tup [Lp,Lb]) fun p47 c48 W49=>ifK (!c48) (ld W49 .val b11 0 fun v50=>ld W49 Ki b33 0 fun n51=>ld W49 Ki b33 1 fun n52=>ld W49 Ki b29 0 fun n53=>ld W49 Ki b29 1 fun n54=>ld W49 Ki b29 2 fun n55=>ld W49 .str b29 3 fun s56=>callI Pg v50 "winnow/inspect.block" [.agg [.int .i64 n51,.int .i64 n52],.agg [.int .i64 n53,.int .i64 n54,.int .i64 n55,.str s56],.leaf (.int .u8 n42),Ai 1] W49 (.tup []) fun W57=>k22 n36 last17 some_18 marks20 W57) (callK Pg 43 [Ap p47,Ai 0] W49 (.tup [Lt,Lt,Li]) fun s58 s59 n60 W61=>joinK [.bool] (fun k62=>ifK some_18 (callK Pg 44 [Au s58,Au last17] W61 Oi fun n63 W64=>k62 (decide (n63<0)) W64) (k62 false W61)) fun t7765 W66=>joinK [Ki] (fun k67=>ifK t7765 (k67 2 W66) (k67 0 W66)) fun how68 W69=>callK Pg 45 [Ap p47] W69 Oi fun n70 W71=>callK Pg 43 [Ap p47,Ai (w64 (n70-1))] W71 (.tup [Lt,Lt,Li]) fun s72 s73 n74 W75=>ld W75 .val b11 0 fun v76=>ld W75 Ki b33 0 fun n77=>ld W75 Ki b33 1 fun n78=>ld W75 Ki b29 0 fun n79=>ld W75 Ki b29 1 fun n80=>ld W75 Ki b29 2 fun n81=>ld W75 .str b29 3 fun s82=>callI Pg v76 "winnow/inspect.block" [.agg [.int .i64 n77,.int .i64 n78],.agg [.int .i64 n79,.int .i64 n80,.int .i64 n81,.str s82],.leaf (.int .u8 n42),Ai how68] W75 (.tup []) fun W83=>callK Pg 46 [Ap p47] W83 (.one (.leaf (.val))) fun v84 W85=>rangeK Pg [Lt,Lt] v84 none W85 (fun rc95 x93 x94 W87 beg90 next91 leave92=>beg90 W87 fun W96=>ld W96 .val b11 0 fun v97=>ld W96 Ki b9 0 fun n98=>callI Pg v97 "winnow/inspect.record" [Ai n98,Au x93,Au x94] W96 (.tup []) fun W99=>next91 W99) (fun r100 W101=>k22 n36 s72 true (r100::marks20) W101) [])) fun at_102 last103 some_104 marks105 W106=>g15 at_102 last103 some_104 (w64 (t2719+1)) marks105 W106) (k14 at_16 marks20 W21)) [.int .i64 at_2,.str [],.lit false,.int .i64 0,.marks []] W12) fun at_107 marks108 W109=>closeK marks108 W109 fun W110=>K at_107 W110):callK Pg 25 [Az file1,Ai at_2,.agg [.int .i64 x_0_3,.sl x_1_4,.bool x_2_5,.int .i64 x_3_6,.sl x_4_7],.leaf (.val m8)] w Oi K:=Fq (n:=(n0 .nil (n0 .nil (n0 (n0 .nil (.mk (some [.tmp 1 Li,.marks]) [] [] .done (.mk none [.tmp 1 Li,.tmp 9 Lt,.tmp 10 Lb,.tmp 27 Li,.marks] [0,6,7,8,25,26] .done (n0 .nil (n0 .nil (n0 (.mk (some [.tmp 1 Li,.tmp 9 Lt,.tmp 10 Lb,.marks]) [] [0,6,7,8,25,26,27] .done (n0 .nil (n0 .nil (n0 .nil (n0 .nil (n0 .nil (n0 .nil (n0 .nil (n0 .nil (n0 .nil (n0 (n0 (.mk (some [.tmp 77 Lb]) [] [0,1,6,7,8,12,13,15,16,18,25,26,27] .done .nil .nil) (.mk (some [.tmp 18 Li]) [] [0,1,6,7,8,12,13,15,16,25,26,27] .done .nil .nil)) (n0 .nil (n0 .nil (n0 .nil (n0 .nil (n0 (.range [Lt,Lt] .nil .nil) .nil))))))))))))))) .nil) .nil))) .nil) .nil)) .nil)))) CS_ok mixed Tryz.func25 (Eq.mpr (by kernel_rfl) h)
theorem go_26(tile1:Sl)(b_0_2:Int)(b_1_3:Int)(b_2_4:Int)(b_3_5:List UInt8)(K:PA→Bool→Wp)(w:World)(h:al w 57 [.int .i64 b_0_2,.int .i64 b_1_3,.int .i64 b_2_4,.str b_3_5] fun b6 W7=>ld W7 Ki b6 1 fun n8=>callK Pg 68 [Az tile1,Ai n8] W7 (.tup [Lp,Li]) fun p9 n10 W11=>joinK [.bool] (fun k12=>drawK W11 fun D W13=>ifK (n10 != 0) (k12 true W13) (ldD D W13 Ki b6 2 fun n14=>callK Pg 45 [Ap p9] W13 Oi fun n15 W16=>Mod D W13 W16∧k12 (n15 != n14) W16)) fun t2617 W18=>ifK t2617 (K none false W18) (callK Pg 43 [Ap p9,Ai 0] W18 (.tup [Lt,Lt,Li]) fun s19 s20 n21 W22=>drawK W22 fun D W23=>ssx s19 none (some (mnI (s19.length:Int) 64)) fun s24=>ldD D W23 .str b6 3 fun s25=>K p9 (s24==s25) W23)):callK Pg 42 [Az tile1,.agg [.int .i64 b_0_2,.int .i64 b_1_3,.int .i64 b_2_4,.str b_3_5]] w (.tup [Lp,Lb]) K:=Fq (n:=(n0 .nil (n0 .nil (n0 (n0 (.mk (some [.tmp 26 Lb]) [] [3,6] (tk [0,1,2] (.split 2 (.take 3 (.take 4 (.take 5 (.take 6 (.take 7 (.take 8 .done)))))) (.take 3 (.take 5 (.take 6 (.eff 4 (.take 7 (.take 8 .done)))))))) .nil .nil) .nil) (n0 .nil (n0 (.mk none [] [] (tk [0,1,2,3,4,5,6,7,8,9,10] .done) .nil .nil) .nil)))))) CS_ok mixed Tryz.func42 (Eq.mpr (by kernel_rfl) h)
set_option maxRecDepth 100000
theorem go_29(r1:PA)(K:Value→Wp)(w:World)(h:al w 104 [.ptr r1] fun b2 W3=>K (.func (.func 69) #[] #[(LV.toV (.ptr (some (b2,0))))]) W3):callK Pg 46 [Ap r1] w (.one (.leaf (.val))) K:=Fq (n:=.nil) CS_ok mixed Tryz.func46 (Eq.mpr (by kernel_rfl) h)
theorem go_27(on1:Value)(t1B2:Nat)(t1O3:Nat)(K:Wp)(w:World)(h:ld w .ptr t1B2 t1O3 fun p4=>ifK p4.isNone (K w) (ld w .ptr t1B2 t1O3 fun p5=>dr p5 fun b6 o7=>ld w .sl b6 (o7+1) fun a8=>joinK [] (fun k9=>loopL [Ki] (fun t1211 W12 g10=>ifK (decide (t1211<(a8.len:Int))) (ix a8 2 t1211 fun b13 o14=>ld W12 .str b13 o14 fun s15=>ld W12 .str b13 (o14+1) fun s16=>al W12 146 [.str [],.str []] fun b17 W18=>st W18 b17 0 [.str s15,.str s16] fun W19=>ld W19 .str b17 0 fun s20=>ld W19 .str b17 1 fun s21=>callV Pg on1 [Au s20,Au s21] W19 Ob fun c22 W23=>ifK (!c22) (K W23) (g10 (w64 (t1211+1)) W23)) (k9 W12)) [.int .i64 0] w) fun W24=>K W24)):callK Pg 69 [.leaf (.val on1),Ap (some (t1B2,t1O3))] w (.tup []) K:=Fq (n:=(n0 .nil (n0 .nil (.mk (some []) [] [] .done (.mk none [.tmp 12 Li] [0,10,11] .done .nil .nil) .nil)))) CS_ok mixed Tryz.func69 (Eq.mpr (by kernel_rfl) h)
structure Inv where
 p:Wp
 av:Nat→Prop
 calm:∀{u u':World},p u→Mod (fun _=>False) u u'→p u'
 st:∀{u:World} {b o:Nat} {vs:List Value},p u→¬av b→p (World.setCells u b o vs)
 put:∀{u:World} {b:Nat} {o o':Obj},p u→u.heap[b]? = some o→isFar o=true→isFar o'=true→p (u.putObj b o')
def Inv.tt:Inv:=⟨fun _=>True,fun _=>False,fun _ _=>trivial,fun _ _=>trivial,fun _ _ _ _=>trivial⟩
structure FA(J:Inv)(w0:World)(D:Nat→Prop)(X:List (Nat×Obj))(m:List (Nat×List Value))(w:World):Prop where
 at_:At w0 D m w
 far:∀q∈X,w.heap[q.1]? = some q.2
 isf:∀q∈X,isFar q.2=true∧w0.heap.size≤q.1
 nd:(X.map Prod.fst).Nodup
 inv:J.p w
section
variable {J:Inv}{w0 w:World}{D:Nat→Prop}{X:List (Nat×Obj)}{m:List (Nat×List Value)}
theorem FA.rest(h:FA J w0 D X m w):At w (Ks m) m w:=h.at_.from fun q hq=>⟨q,hq,rfl⟩
theorem FA.law(h:FA J w0 D X m w){m':List (Nat×List Value)}{w':World}(hA:At w (Ks m) m' w')(hj:J.p w'):FA J w0 D X m' w':=by
 refine⟨⟨h.at_.mod.trans hA.mod (fun _ _ h=>h) ?_,hA.own,hA.nodup,fun q hq hlt=>?_⟩,fun q hq=>?_,h.isf,h.nd,hj⟩
 ·rintro x hx ⟨q,hq,rfl⟩;exact h.at_.wr q hq hx
 ·obtain⟨q',hq',e⟩:=hA.wr q hq (Nat.lt_of_lt_of_le hlt h.at_.mod.size);rw [←e] at hlt ⊢;exact h.at_.wr q' hq' hlt
 ·refine (hA.mod.block _ (heap_lt (h.far q hq)) ?_).trans (h.far q hq);rintro ⟨q',hq',e⟩;have:=h.at_.own q' hq';rw [e] at this;exact far_cell (h.far q hq) (h.isf q hq).1 this
theorem FA.sub(h:FA J w0 D X m w){m':List (Nat×List Value)}(hs:m'.Sublist m):FA J w0 D X m' w:=⟨h.at_.sub hs,h.far,h.isf,h.nd,h.inv⟩
theorem FA.perm(h:FA J w0 D X m w){m':List (Nat×List Value)}(hs:m'.Perm m):FA J w0 D X m' w:=⟨h.at_.perm hs,h.far,h.isf,h.nd,h.inv⟩
theorem FA.calm(h:FA J w0 D X m w){w':World}(hM:Mod (fun _=>False) w w'):FA J w0 D X m w':=
 ⟨h.at_.keep0 hM fun _=>id,fun q hq=>(hM.block _ (heap_lt (h.far q hq)) id).trans (h.far q hq),h.isf,h.nd,J.calm h.inv hM⟩
theorem FA.less(h:FA J w0 D X m w){X':List (Nat×Obj)}(hs:X'.Sublist X):FA J w0 D X' m w:=⟨h.at_,fun q hq=>h.far q (hs.subset hq),fun q hq=>h.isf q (hs.subset hq),(hs.map Prod.fst).nodup h.nd,h.inv⟩
theorem FA.new(h:FA J w0 D X m w){o:Obj}(hf:isFar o=true):FA J w0 D ((w.heap.size,o)::X) m (w.alloc o):=by
 have hc:=h.calm (Mod.alloc (fun _=>False) w o);refine⟨hc.at_,fun q hq=>?_,fun q hq=>?_,?_,hc.inv⟩
 ·rcases List.mem_cons.1 hq with rfl | hq
  ·exact World.alloc_heap_new _ _
  ·exact hc.far q hq
 ·rcases List.mem_cons.1 hq with rfl | hq
  ·exact⟨hf,h.at_.mod.size⟩
  ·exact h.isf q hq
 ·rw [List.map_cons,List.nodup_cons];refine⟨fun hm=>?_,h.nd⟩;obtain⟨q,hq,e⟩:=List.mem_map.1 hm;have:=heap_lt (h.far q hq);simp only at e;omega
theorem FA.put{b:Nat}{o o':Obj}(h:FA J w0 D ((b,o)::X) m w)(hf:isFar o'=true):FA J w0 D ((b,o')::X) m (w.putObj b o'):=by
 have hb:=h.far (b,o) (by simp);have hi:=h.isf (b,o) (by simp);have hnd:=h.nd;rw [List.map_cons,List.nodup_cons] at hnd;refine⟨h.at_.keep (Mod.putObj w b o') (fun x hx e=>by have:=hi.2;simp only at this;omega) (fun q hq e=>?_),fun q hq=>?_,fun q hq=>?_,h.nd,J.put h.inv hb hi.1 hf⟩
 ·have:=h.at_.own q hq;rw [e] at this;exact far_cell hb hi.1 this
 ·rcases List.mem_cons.1 hq with rfl | hq
  ·exact World.putObj_heap_same (heap_lt hb)
  ·have hne:q.1≠b:=fun e=>hnd.1 (by
    have:b=q.1:=e.symm;simp only [this];exact List.mem_map_of_mem hq)
   rw [World.putObj_heap_other hne];exact h.far q (Lmc _ hq)
 ·rcases List.mem_cons.1 hq with rfl | hq
  ·exact⟨hf,hi.2⟩
  ·exact h.isf q (Lmc _ hq)
end
abbrev Mk:Obj:=.deferred (some [])
theorem range_tt{P:Program}{v:Value}{w:World}{B:Nat→Str→Str→World→(World→(Wp)→Prop)→(Wp)→(Nat→Wp)→Prop}{An:Nat→Wp}{As:List (Nat→Wp)}
  (h:∀(R:LSt→Obj) (l:Nat),(∀s,isFar (R s)=true)→l=(w.alloc Mk).heap.size →
   (∀(x y:Str) (w':World) (K:Bool→Wp),w'.heap[l]? = some (R .ready)→B l x y w' (fun u K'=>u.heap[l]? = some (R .ready)∧K' (u.putObj l (R .busy))) (fun u=>u.heap[l]? = some (R .busy)∧K true (u.putObj l (R .ready))) (fun j u=>u.heap[l]? = some (R .busy)∧K false (u.putObj l (R (.done j)))) →
    callV P (.func (.yield l) #[] #[]) [Au x,Au y] w' Ob K) →
   callF P v [.leaf (.val (.func (.yield l) #[] #[]))] ((w.alloc Mk).alloc (R .ready)) (.tup []) fun w3=>
    (w3.heap[l]? = some (R .ready)∧An w.heap.size (w3.putObj l (R (.over none))))∨(∃j A,As[j]? = some A∧w3.heap[l]? = some (R (.done j))∧A w.heap.size (w3.putObj l (R (.over (some j)))))) :
  rangeK P [Lt,Lt] v none w B An As:=by
 refine⟨fun l0 h=>(by cases h),fun R w1 l hR hw1 hl HY=>?_⟩;have hw1:w1=w.alloc Mk:=hw1;subst hw1;exact h R l (fun s=>isFar_loop (hR s)) hl fun x y w' K h1 h2=>HY [.str x,.str y] w' K h1 h2
theorem callF_func{P:Program}{f:FuncId}{a c:Array Value}{args:List AV}{w:World}{rt:RT}{K:Go.Vw.Fn rt.kds (Wp)}(hf:callable P f=true)(args':List AV)(ha:a++(args.map AV.toV).toArray++c=(args'.map AV.toV).toArray)
  (h:callK P f args' w rt K):callF P (.func (.func f) a c) args w rt K:=⟨f,a,c,rfl,hf,by rw [ha];exact h⟩
theorem callI_of{P:Program}{v:Value}{m:String}{f:FuncId}{args args':List AV}{w:World}{rt:RT}{K:Go.Vw.Fn rt.kds (Wp)}(hm:(callMethod v m (args.map AV.toV).toArray).run P w = .ok (.enter f (args'.map AV.toV).toArray) w)
  (h:callK P f args' w rt K):callI P v m args w rt K:=⟨f,_,hm,h⟩
end Go.Proofs.YtoegpmjoajipcaaGreatDoor
namespace Go.Proofs.YtoegpmjoajipcaaGreatDoor
open Go.Vw
open Go
theorem FA.own{J:Inv}{w0 w:World}{D:Nat→Prop}{Z:List (Nat×Obj)}{L:BL}(h:FA J w0 D Z L w){b:Nat}{c:List Value}(hm:(b,c)∈L):Blk w b c:=h.at_.own (b,c) hm
theorem FA.fresh{J:Inv}{w0 w w':World}{D:Nat→Prop}{Z:List (Nat×Obj)}{L ro:BL}(h:FA J w0 D Z L w)(hF:Fresh w w' F0 ro):FA J w0 D Z (L++ro) w':=h.law (h.rest.joinF hF (fun _ _ h=>h.elim) fun _ _=>id) (J.calm h.inv hF.mod)
theorem FA.alst{J:Inv}{w0 w:World}{D:Nat→Prop}{Z:List (Nat×Obj)}{L:BL}(h:FA J w0 D Z L w){e:TypeId}{cs vs:List LV}(hl:vs.length=cs.length){K:Nat→Wp}(hK:∀b u',FA J w0 D Z (L++[(b,vs.map LV.toV)]) u'→K b u') :
  Go.Vw.al w e cs fun b u1=>Go.Vw.st u1 b 0 vs fun u2=>K b u2:=
 (Fresh.start w F0).alst hl fun b u' hF _ _=>hK b u' (by have:=h.fresh hF;simpa using this)
theorem FA.alK{J:Inv}{w0 w:World}{D:Nat→Prop}{Z:List (Nat×Obj)}{L:BL}(h:FA J w0 D Z L w){e:TypeId}{cs:List LV}{K:Nat→Wp}(hK:∀b u',FA J w0 D Z (L++[(b,cs.map LV.toV)]) u'→K b u'):Go.Vw.al w e cs K:=
 h.rest.alK fun b u' _ hA M=>hK b u' (h.law hA (J.calm h.inv M))
theorem blockN_e0(tile:Str)(raw:Int):((blockN tile raw).2=none→(blockN tile raw).1≠0)∧∀x,(blockN tile raw).2=some x→(blockN tile raw).1=0:=by
 unfold blockN;split
 ·exact⟨fun _=>by decide,fun x h=>by cases h⟩
 split
 ·rename_i h;exact⟨fun _=>h,fun x h=>by cases h⟩
 split
 ·exact⟨fun _=>by decide,fun x h=>by cases h⟩
 split
 ·exact⟨fun _=>by decide,fun x h=>by cases h⟩
 split
 ·exact⟨fun _=>by decide,fun x h=>by cases h⟩
 split
 ·exact⟨fun _=>by decide,fun x h=>by cases h⟩
 ·exact⟨fun h=>(by cases h),fun _ _=>rfl⟩
set_option maxHeartbeats 1000000 in
theorem opened_ok{w:World}{s:Sl}{tile:Str}(hr:RdS w ET s tile)(hl:tile.length≤1048576){b:BI}{K:PA→Bool→Wp}
  (hN:opnP tile b=none→∀p w',Mod F0 w w'→K p false w')
  (hS:∀e,opnP tile b=some e→∀w' bb sE r ro,Fresh w w' F0 ([(bb,rdC r sE)]++ro)→VecL ro EPr sE e→1≤e.length→e.length≤21845→(∀y∈e,y.1.length≤1024∧y.2.length≤1024)→K (some (bb,0)) true w') :
  callK Tryz.prog c_26 [Az s,.agg [.int .i64 b.stored,.int .i64 b.raw,.int .i64 b.count,.str b.cut]] w (.tup [Lp,Lb]) K:=by
 refine go_26 _ _ _ _ _ _ _ ?_;refine (Fresh.start w F0).alK fun b6 w1 f1 _ M1=>?_;have hB:Blk w1 b6 (EBI.f b):=f1.blk (i:=0) rfl;refine hB.ldK (k:=Ki) b.raw rfl (blockOpen_ok (hr.quiet M1) hl (fun hn w2 M2=>?_) fun x hx w2 bb sE ro hF hv=>?_)
 ·have he:=(blockN_e0 tile b.raw).1 hn;have ho:opnP tile b=none:=by unfold opnP;rw [hn]
  refine join1 (a:=.bool) (fun q u=>q=true∧u=w2.drew) (fun k hk=>⟨F0,ifK_t (by simpa using he) (hk _ _ ⟨rfl,rfl⟩)⟩) ?_;rintro q u ⟨rfl,rfl⟩;exact ifK_t rfl (hN ho none _ (mod0 (mod0 M1 M2) (Mq _)))
 have he:=(blockN_e0 tile b.raw).2 x hx;have hs:=blockN_srt hx;have f2:Fresh w w2 F0 ((([]++[(b6,EBI.f b)]))++([(bb,rdC x.1 sE)]++ro)):=f1.join hF (fun _ _ h=>h) fun _ _ _ h=>h;have hR:BlkR w2 bb sE x.1 x.2:=⟨hF.blk (i:=0) rfl,hv.rd fun p hp=>hF.own p (Lmr _ hp)⟩;have hB2:Blk w2 b6 (EBI.f b):=f2.blk (i:=0) rfl;rw [he];refine join1 (a:=.bool) (fun q u=>q=decide ((x.2.length:Int)≠b.count)∧Mod F0 w2 u) ?_ ?_
 ·intro k hk;refine⟨F0,ifK_f rfl (((Mq w2).blk hB2 id).ldDK (k:=Ki) b.count id rfl (blockLen_ok (hR.quiet (Mq w2)) ⟨Mod.refl _ _,hk _ _ ⟨?_,Mq w2⟩⟩))⟩;by_cases h:(x.2.length:Int)=b.count
  ·rw [h,Dcf (by simp)];exact Bsf _
  ·rw [Dct h];simpa using h
 rintro q u ⟨rfl,M3⟩;refine Iq (fun q=>?_) fun q=>?_
 ·have q:=odt q;have ho:opnP tile b=none:=by unfold opnP;rw [hx];exact if_pos q
  exact hN ho none u (mod0 (mod0 M1 hF.mod) M3)
 have q:¬(x.2.length:Int)≠b.count:=odf q;refine blockAt_ok (hR.quiet M3) fun u2 M4=>?_;have ha:atN x.2 0=((x.2.getD 0 ([],[])).1,(x.2.getD 0 ([],[])).2,0):=by
  unfold atN;rw [if_neg (by omega)];rfl
 rw [ha];dsimp only;have hM5:=mod0 (mod0 M3 M4) (Mq u2);refine⟨F0,?_⟩;have hmn:mnI ((x.2.getD 0 ([],[])).1.length:Int) 64=((min (x.2.getD 0 ([],[])).1.length 64:Nat):Int):=mnI_nat (b:=64);refine ssx_take (n:=min (x.2.getD 0 ([],[])).1.length 64) (Nat.min_le_left _ _) hmn ?_;have ht:(x.2.getD 0 ([],[])).1.take (min (x.2.getD 0 ([],[])).1.length 64)=(x.2.getD 0 ([],[])).1.take 64:=by
  by_cases h:(x.2.getD 0 ([],[])).1.length≤64
  ·rw [Nat.min_eq_left h,List.take_length,Ltl h]
  ·rw [Nat.min_eq_right (by omega)]
 rw [ht];refine (hM5.blk hB2 id).ldDK (k:=.str) b.cut id rfl ?_;by_cases hc:(x.2.getD 0 ([],[])).1.take 64=b.cut
 ·have ho:opnP tile b=some x.2:=by unfold opnP;rw [hx];dsimp only;rw [if_neg q,if_pos hc]
  have hb:((x.2.getD 0 ([],[])).1.take 64==b.cut)=true:=by rw [beq_iff_eq];exact hc
  rw [hb];refine hS x.2 ho _ bb sE x.1 ro ?_ hv hs.2.2.1 (by have:=hs.2.2.2.1;omega) hs.2.2.2.2.2;exact (f2.sub (Lsr _ _)).quiet hM5
 ·have ho:opnP tile b=none:=by unfold opnP;rw [hx];dsimp only;rw [if_neg q,if_neg hc]
  have hb:((x.2.getD 0 ([],[])).1.take 64==b.cut)=false:=by
   rw [←Bool.not_eq_true,beq_iff_eq];exact hc
  rw [hb];exact hN ho _ _ (mod0 (mod0 M1 hF.mod) hM5)
theorem range_ents{J:Inv}{w0 w:World}{X0:List (Nat×Obj)}{b2 bb:Nat}{sE:Sl}{r:Nat}{es:List (Str×Str)}{R:BL}(hR:OwnL R EPr sE es)(hbb:(bb,rdC r sE)∈R)(hb2:(b2,[(LV.ptr (some (bb,0))).toV])∈R)(hl:es.length≤1048576)
  {G:Nat→BL→Prop} (hG:∀c L,G c L→∀p∈R,p∈L) {L0:BL} (h:FA J w0 F0 X0 L0 w) (h0:G 0 L0)
  {B:Nat→Str→Str→World→(World→(Wp)→Prop)→(Wp)→(Nat→Wp)→Prop} {An:Nat→Wp}
  (hB:∀(l:Nat) (Xr Xb:List (Nat×Obj)) (L:BL) (x:Str×Str) (c:Nat) (w':World) (beg:World→(Wp)→Prop) (next:Wp) (leave:Nat→Wp),FA J w0 F0 Xr L w'→G c L→es[c]? = some x →
   (∀K':Wp,(∀u,FA J w0 F0 Xb L u→K' u)→beg w' K')→(∀L' u,FA J w0 F0 Xb L' u→G (c+1) L'→next u)→B l x.1 x.2 w' beg next leave)
  (hAn:∀L u,FA J w0 F0 ((w.heap.size,Mk)::X0) L u→G es.length L→An w.heap.size u) :
  rangeK Tryz.prog [Lt,Lt] (.func (.func c_27) #[] #[(LV.toV (.ptr (some (b2,0))))]) none w B An []:=by
 refine range_tt fun Rr l hfR hl2 HY=>?_;have h2:=(h.new (o:=Mk) rfl).new (hfR .ready);rw [←hl2] at h2;generalize w.heap.size=rr at *;refine callF_func (CS_ok c_27 rfl) [.leaf (.val (.func (.yield l) #[] #[])),Ap (some (b2,0))] (by rfl) ?_;refine go_27 _ _ _ _ _ ?_;have hin:=hG 0 L0 h0;have hB2:Blk ((w.alloc Mk).alloc (Rr .ready)) b2 [(LV.ptr (some (bb,0))).toV]:=h2.at_.own _ (hin _ hb2);have hBb:Blk ((w.alloc Mk).alloc (Rr .ready)) bb (rdC r sE):=h2.at_.own _ (hin _ hbb);refine hB2.ldK (k:=.ptr) (some (bb,0)) rfl (ifK_f rfl (hB2.ldK (k:=.ptr) (some (bb,0)) rfl (Dq (hBb.ldK (k:=.sl) sE rfl ?_))));refine join0 (fun u=>∃L,FA J w0 F0 ((l,Rr .ready)::(rr,Mk)::X0) L u∧G es.length L) ?_ ?_;rotate_left
 ·rintro u ⟨L,hF,hg⟩;exact .inl ⟨hF.far (l,Rr .ready) (by simp),hAn L _ ((hF.put (o':=Rr (.over none)) (hfR _)).less (List.sublist_cons_self _ _)) hg⟩
 intro k hk;refine loop1 (k:=Ki) (fun (i:Int) u=>∃(c:Nat) (L:BL),i=(c:Int)∧c≤es.length∧FA J w0 F0 ((l,Rr .ready)::(rr,Mk)::X0) L u∧G c L) (fun i _=>(es.length-i).toNat) (x:=0) rfl ⟨0,L0,rfl,Nzl _,h2,h0⟩ ?_;rintro i u ⟨c,L,rfl,hc,hF,hg⟩;have hrd:RdS u EPr sE es:=hR.rd fun p hp=>hF.at_.own p (hG c L hg p hp);rw [hrd.len];refine Iq (fun q=>?_) fun q=>?_;rotate_left
 ·have q:es.length≤c:=dge q;have:c=es.length:=by omega
  subst this;exact hk u ⟨L,hF,hg⟩
 have q:c<es.length:=dlt q;obtain⟨x,hx⟩:=Gq q;refine hrd.ix rfl rfl hx fun b o _ hcc=>Lq (k:=.str) x.1 (hcc 0 (by decide)) (Lq (k:=.str) x.2 (hcc 1 (by decide)) ?_);refine hF.alst (by rfl) fun b17 u2 hF2=>?_;have hF2:FA J w0 F0 ((l,Rr .ready)::(rr,Mk)::X0) (L++[(b17,strs x.1 x.2)]) u2:=hF2;have hB17:Blk u2 b17 (strs x.1 x.2):=hF2.own (Lmr _ (Lms.2 rfl));refine hB17.ldK (k:=.str) x.1 rfl (hB17.ldK (k:=.str) x.2 rfl ?_);have hF3:=hF2.sub (Lsl L [(b17,strs x.1 x.2)]);have es:=step64 (i:=c) (by omega);refine HY x.1 x.2 u2 _ (hF3.far (l,Rr .ready) (by simp)) (hB l ((l,Rr .ready)::(rr,Mk)::X0) ((l,Rr .busy)::(rr,Mk)::X0) L x c u2 _ _ _ hF3 hg hx ?_ ?_)
 ·intro K' hK';exact⟨hF3.far (l,Rr .ready) (by simp),hK' _ (FA.put (o':=Rr .busy) hF3 (hfR _))⟩
 ·intro L' v hv hg';refine⟨hv.far (l,Rr .busy) (by simp),ifK_f rfl ⟨⟨c+1,L',es,by omega,FA.put (o':=Rr .ready) hv (hfR _),hg'⟩,by rw [es];omega⟩⟩
end Go.Proofs.YtoegpmjoajipcaaGreatDoor
