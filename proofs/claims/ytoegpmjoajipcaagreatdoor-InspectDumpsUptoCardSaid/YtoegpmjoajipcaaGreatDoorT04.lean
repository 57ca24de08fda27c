/- Part T04. -/
import Derived.Test.YtoegpmjoajipcaaGreatDoorT03
namespace Go.Proofs.YtoegpmjoajipcaaGreatDoor
open Go.Vw
theorem makeL{w0 w:World}{D:Nat→Prop}{m:BL}(hA:At w0 D m w){α:Type}(E:Enc α)(z:α){e:TypeId}{bytes:Nat}{zs:List LV}{n:Int}(k:Nat)(hk:n=(k:Int))(hz:zs.map LV.toV=E.f z)(h1:k<2^48)(h2:bytes*k≤2^47)
  {K:Sl→Wp} (hK:∀s ro w',At w0 D (m++ro) w'→VecL ro E s (List.replicate k z)→Mod F0 w w'→K s w'):Go.Vw.mk w e bytes zs n n K:=
 Vec.mkK E z k hk hz h1 h2 fun w' _ hb hM=>hK _ [(w.heap.size,E.cells (List.replicate k z)++[])] w' (by rw [Lan];exact hA.mkAdd hM hb (Nlr _)) ⟨by simp,Nlr _,.inr ⟨_,[],rfl,rfl,by rw [Lan,E.cells_length,List.length_replicate];exact Nlr _⟩⟩ hM
theorem fill_set{α:Type}{l:List α}{z:α}{j:Nat}(hj:j<l.length):(l.take j++List.replicate (l.length-j) z).set j l[j]=l.take (j+1)++List.replicate (l.length-(j+1)) z:=by
 have hl:(l.take j).length=j:=by rw [Llt];omega
 rw [List.set_append_right _ _ (by omega),hl,Nat.sub_self];obtain⟨k,hk⟩:∃k,l.length-j=k+1:=⟨l.length-j-1,by omega⟩;rw [hk,List.replicate_succ,List.set_cons_zero,List.take_add_one,Lge hj];have:l.length-(j+1)=k:=by omega
 rw [this,Laa];rfl
theorem _root_.Go.Vw.At.putK{w0 w:World}{D:Nat→Prop}{m ro:BL}(hA:At w0 D (m++ro) w){α:Type}{E:Enc α}{s:Sl}{l:List α}(hv:VecL ro E s l){sz:Nat}(hsz:sz=E.n){i:Int}{k:Nat}(hi:i=(k:Int))(hk:k<l.length){y:α}{vs:List LV}(hy:vs.map LV.toV=E.f y)
  {K:Wp} (hK:∀ro' w',At w0 D (m++ro') w'→VecL ro' E s (l.set k y)→Mod (Ks ro) w w'→K w'):Go.Vw.ix s sz i fun b o=>st w b o vs K:=by
 subst hsz;subst hi;obtain⟨b,o,hp,hlt,_⟩:=(hv.rdAt hA).at (Lge hk);exact ix_some hp (Int.natCast_nonneg k) (by rw [hv.1];omega) (by rw [Itn];exact hA.setL hv hk hy hp hK) hv.2.1
theorem fixN_length(v n:Nat):(fixN v n).length=n:=by simp [fixN]
theorem fixN_get{v n i:Nat}(h:i<n):(fixN v n)[i]? = some (UInt8.ofNat (v/256^i)):=by
 unfold fixN;rw [List.getElem?_map,List.getElem?_range h];rfl
theorem wordF_lt:∀t:Str,wordF t<256^t.length
 | []=>by simp [wordF]
 | c::r=>by
  have:=wordF_lt r;have hc:c.toNat<256:=c.toNat_lt;simp only [wordF,Llc,Nat.pow_succ];omega
theorem wordF_snoc:∀(t:Str) (c:UInt8),wordF (t++[c])=wordF t+c.toNat*256^t.length
 | [],c=>by simp [wordF]
 | x::r,c=>by
  simp only [List.cons_append,wordF,wordF_snoc r c,Llc,Nat.pow_succ];rw [Nat.mul_add,←Nat.add_assoc,Nat.mul_left_comm,Nat.mul_comm 256 (256^r.length)]
theorem word_ok{w:World}{s:Sl}{t:Str}(hr:RdS w ET s t)(hl:t.length≤1099511627776){K:Int→Wp}(hK:K (wordN t:Int) w):callK Pg c_52 [Az s] w (.one (.leaf (.int .u64))) K:=by
 refine go_52 _ _ _ ?_;refine join1 (a:=.int .u64) (fun (v:Int) u=>v=(wordN t:Int)∧u=w) ?_ (by rintro v u ⟨rfl,rfl⟩;exact hK);intro k hk;have hmin:mnI (s.len:Int) 8=((min t.length 8:Nat):Int):=by
  rw [hr.len];unfold mnI;split<;>omega
 refine loop2 (k1:=.int .u64) (k2:=Ki) (fun (v:Int) (i:Int) u=>u=w∧∃j:Nat,i=(j:Int)∧j≤min t.length 8∧v=(wordF (t.take j):Int)) (fun _ i _=>(8-i).toNat) (x1:=0) (x2:=0) rfl rfl ⟨rfl,0,rfl,Nzl _,rfl⟩ ?_;rintro v i u ⟨rfl,j,rfl,hj,rfl⟩;rw [hmin];refine Iq (fun h=>?_) fun h=>?_
 ·have hlt:j<min t.length 8:=dlt h;have hjt:j<t.length:=by omega
  refine hr.byte rfl hjt fun b o _ hc=>Lq (k:=.int .u8) ((t[j]).toNat:Int) hc ?_;have e8:w64 (8*(j:Int))=((8*j:Nat):Int):=by rw [Wq (by omega) (by omega)];omega
  have hb:t[j].toNat<256:=t[j].toNat_lt;refine⟨by rw [e8];exact Int.natCast_nonneg _,⟨rfl,j+1,step64 (by omega),by omega,?_⟩,by rw [step64 (by omega)];omega⟩;have ew:IntKind.wrap .u64 (t[j].toNat:Int)=(t[j].toNat:Int):=by rw [wrap_u64];omega
  have hlen:(t.take j).length=j:=by rw [Llt];omega
  have hw:=wordF_lt (t.take j);rw [hlen] at hw;have e2:(2:Nat)^(8*j)=256^j:=by rw [Nat.pow_mul]
  have hp:t[j].toNat*2^(8*j)<2^64:=by
   have h2:2^(8*j)≤2^56:=Nat.pow_le_pow_right (by decide) (by omega)
   calc t[j].toNat*2^(8*j)≤t[j].toNat*2^56:=Nat.mul_le_mul_left _ h2
    _<2^8*2^56:=Nat.mul_lt_mul_of_pos_right hb (by decide)
    _=2^64:=by decide
  have hw64:wordF (t.take j)<2^64:=by
   have h2:2^(8*j)≤2^56:=Nat.pow_le_pow_right (by decide) (by omega);rw [←e2] at hw;have:(2:Nat)^56<2^64:=by decide
   omega
  rw [ew,e8,shl_u64 _ _ (by omega) hp,or_u64 hw64 hp];congr 1;rw [←e2] at hw;have:=Nat.shiftLeft_add_eq_or_of_lt hw t[j].toNat;rw [Nat.shiftLeft_eq] at this;rw [Nat.or_comm,←this,List.take_add_one,Lge hjt,Option.toList_some,wordF_snoc,hlen,e2,Nat.add_comm]
 ·have hge:min t.length 8≤j:=dge h;refine hk _ _ ⟨?_,rfl⟩;unfold wordN;by_cases h8:t.length≤8
  ·rw [Ltl (by omega),Ltl h8]
  ·have:j=8:=by omega
   rw [this]
theorem comN_le:∀a b:Str,comN a b≤min a.length b.length
 | [],_=>by simp [comN]
 | _::_,[]=>by simp [comN]
 | x::a,y::b=>by
  unfold comN;have:=comN_le a b;split
  ·simp only [Llc];omega
  ·omega
theorem comN_cons(x y:UInt8)(a b:Str):comN (x::a) (y::b)=if x=y then comN a b+1 else 0:=rfl
theorem cmpN_cons(x y:UInt8)(a b:Str):cmpN (x::a) (y::b)=if x.toNat<y.toNat then -1 else if y.toNat<x.toNat then 1 else cmpN a b:=rfl
theorem u8_ne{x y:UInt8}:(((x.toNat:Nat):Int) != ((y.toNat:Nat):Int)) = !decide (x=y):=by
 by_cases h:x=y
 ·subst h;simp
 ·have:x.toNat≠y.toNat:=fun e=>h (UInt8.toNat_inj.1 e);rw [Dcf h];simp;omega
theorem sx_at{t:Str}{i:Int}{j:Nat}(hi:i=(j:Int))(hj:j<t.length){K:Int→Prop}(hK:K (t[j].toNat:Int)):sx t i K:=by
 subst hi;exact⟨t[j],by rw [Itn];exact Lge hj,Int.natCast_nonneg _,hK⟩
theorem mn_nat(a b:Nat):mnI (a:Int) (b:Int)=((min a b:Nat):Int):=by unfold mnI;split<;>omega
theorem common_ok{a b:Str}(ha:a.length≤1099511627776)(hb:b.length≤1099511627776){w:World}{K:Int→Wp}(hK:∀w',Mod F0 w w'→K (comN a b:Int) w'):callK Pg c_53 [Au a,Au b] w Oi K:=by
 refine go_53 _ _ _ _ ?_;refine join0 (fun u=>Mod F0 w u∧comN a b=min a.length b.length) ?_ (by rintro u ⟨hM,he⟩;rw [mn_nat,←he];exact hK _ hM);intro k hk;refine loop1 (k:=Ki) (fun (i:Int) u=>Mod F0 w u∧∃j:Nat,i=(j:Int)∧j≤min a.length b.length∧comN a b=j+comN (a.drop j) (b.drop j)) (fun i _=>(a.length-i).toNat) (x:=0) rfl ⟨Mod.refl _ _,0,rfl,Nzl _,by simp⟩ ?_;rintro i u ⟨hM,j,rfl,hj,he⟩;rw [mn_nat];refine Iq (fun h=>?_) fun h=>?_
 ·have hlt:j<min a.length b.length:=dlt h;have hja:j<a.length:=by omega
  have hjb:j<b.length:=by omega
  have hM2:=mod0 hM (Mq u);rw [List.drop_eq_getElem_cons hja,List.drop_eq_getElem_cons hjb,comN_cons] at he;refine⟨F0,sx_at rfl hja (sx_at rfl hjb ?_)⟩;rw [u8_ne];refine Iq (fun hne=>?_) fun heq=>?_
  ·have hne:a[j]≠b[j]:=by simpa using hne
   rw [if_neg hne,Nat.add_zero] at he;have:=hK _ hM2;rw [show comN a b=j from he] at this;exact this
  ·have heq:a[j]=b[j]:=by simpa using heq
   rw [if_pos heq] at he;refine⟨⟨hM2,j+1,step64 (by omega),by omega,?_⟩,by rw [step64 (by omega)];omega⟩;omega
 ·have hge:min a.length b.length≤j:=dge h;refine hk _ ⟨hM,?_⟩;have:=comN_le (a.drop j) (b.drop j);rw [Lld,Lld] at this;omega
theorem cmpN_drop_nil{a b:Str}{j:Nat}(h:cmpN a b=cmpN (a.drop j) (b.drop j))(hj:j=min a.length b.length):cmpN a b=if a.length<b.length then -1 else if b.length<a.length then 1 else 0:=by
 rw [h];by_cases h1:a.length<b.length
 ·rw [if_pos h1,Ldn (by omega)]
  cases hb:b.drop j with
  | nil=>have:=congrArg List.length hb;rw [Lld,List.length_nil] at this;omega
  | cons=>rfl
 ·rw [if_neg h1];by_cases h2:b.length<a.length
  ·have hb:b.drop j=[]:=Ldn (by omega);rw [if_pos h2,hb]
   cases ha:a.drop j with
   | nil=>have:=congrArg List.length ha;rw [Lld,List.length_nil] at this;omega
   | cons=>rfl
  ·rw [if_neg h2,Ldn (by omega),Ldn (by omega)];rfl
theorem compare_ok{a b:Str}(ha:a.length≤1099511627776)(hb:b.length≤1099511627776){w:World}{K:Int→Wp}(hK:∀w',Mod F0 w w'→K (cmpN a b) w'):callK Pg c_54 [Au a,Au b] w Oi K:=by
 refine go_54 _ _ _ _ ?_;refine join0 (fun u=>Mod F0 w u∧cmpN a b=if a.length<b.length then -1 else if b.length<a.length then 1 else 0) ?_ ?_
 ·intro k hk;refine loop1 (k:=Ki) (fun (i:Int) u=>Mod F0 w u∧∃j:Nat,i=(j:Int)∧j≤min a.length b.length∧cmpN a b=cmpN (a.drop j) (b.drop j)) (fun i _=>(a.length-i).toNat) (x:=0) rfl ⟨Mod.refl _ _,0,rfl,Nzl _,by simp⟩ ?_;rintro i u ⟨hM,j,rfl,hj,he⟩;rw [mn_nat];refine Iq (fun h=>?_) fun h=>?_
  ·have hlt:j<min a.length b.length:=dlt h;have hja:j<a.length:=by omega
   have hjb:j<b.length:=by omega
   have hM2:=mod0 hM (Mq u);have hM3:=mod0 hM2 (Mq u.drew);have he0:=he;rw [List.drop_eq_getElem_cons hja,List.drop_eq_getElem_cons hjb,cmpN_cons] at he;refine⟨F0,sx_at rfl hja (sx_at rfl hjb (Iq (fun h1=>?_) fun h1=>?_))⟩
   ·have h1:(a[j].toNat:Int)<(b[j].toNat:Int):=odt h1;rw [if_pos (by omega)] at he;have:=hK _ hM2;rw [show cmpN a b = -1 from he] at this;exact this
   have h1:¬(a[j].toNat:Int)<(b[j].toNat:Int):=odf h1;rw [if_neg (by omega)] at he;refine⟨F0,sx_at rfl hja (sx_at rfl hjb (Iq (fun h2=>?_) fun h2=>?_))⟩
   ·have h2:(b[j].toNat:Int)<(a[j].toNat:Int):=odt h2;rw [if_pos (by omega)] at he;have:=hK _ hM3;rw [show cmpN a b=1 from he] at this;exact this
   ·have h2:¬(b[j].toNat:Int)<(a[j].toNat:Int):=odf h2;rw [if_neg (by omega)] at he;exact⟨⟨hM3,j+1,step64 (by omega),by omega,he⟩,by rw [step64 (by omega)];omega⟩
  ·have hge:min a.length b.length≤j:=dge h;exact hk _ ⟨hM,cmpN_drop_nil he (by omega)⟩
 rintro u ⟨hM,he⟩;have:=hK _ hM;rw [he] at this;refine Iq (fun h=>?_) fun h=>?_
 ·have h:a.length<b.length:=dlt h;rw [if_pos h] at this;exact this
 have h:b.length≤a.length:=dge h;rw [if_neg (by omega)] at this;refine Iq (fun h2=>?_) fun h2=>?_
 ·have h2:b.length<a.length:=dlt h2;rw [if_pos h2] at this;exact this
 ·have h2:a.length≤b.length:=dge h2;rw [if_neg (by omega)] at this;exact this
set_option maxRecDepth 100000
theorem go_65(b1:Sl)(K:PA→Wp)(w:World)(h:ap w 5 1 1 [.int .u8 0] (⟨none,0,0⟩) b1 fun a2 W3=>al W3 197 [.sl a2,.int .i64 0,.int .i64 0] fun b4 W5=>K (some (b4,0)) W5):callK Pg 85 [Az b1] w Oq K:=Fq (n:=.nil) CS_ok mixed Tryz.func85 (Eq.mpr (by kernel_rfl) h)
theorem go_56(c1:PA)(something2:Value)(K:Wp)(w:World)(h:joinK [.bool] (fun k3=>ifK c1.isNone (k3 true w) (dr c1 fun b4 o5=>ld w Ki b4 (o5+2) fun n6=>k3 (n6 != 0) w)) fun t147 W8=>ifK t147 (K W8) (drawK W8 fun D W9=>dr c1 fun b10 o11=>ldD D W9 .sl b10 o11 fun a12=>dr c1 fun b13 o14=>ldD D W9 Ki b13 (o14+1) fun n15=>slx a12 1 (some n15) none none fun s16=>callV Pg something2 [Az s16] W9 (.tup [Li,Li]) fun n17 n18 W19=>Mod D W9 W19∧ifK (n18 != 0) (dr c1 fun b20 o21=>st W19 b20 (o21+2) [.int .i64 n18] fun W22=>K W22) (dr c1 fun b23 o24=>ld W19 Ki b23 (o24+1) fun n25=>dr c1 fun b26 o27=>st W19 b26 (o27+1) [.int .i64 (w64 (n25+n17))] fun W28=>K W28))):callK Pg 118 [Ap c1,.leaf (.val something2)] w (.tup []) K:=Fq (n:=(n0 (n0 (.mk (some [.tmp 14 Lb]) [] [0,1] .done .nil .nil) .nil) (n0 (.mk none [] [] (tk [0,1,2,3,4,5,6,7,8,9] (.eff 10 (.take 11 (.take 12 (.take 13 (.take 14 (.take 15 .done))))))) .nil .nil) .nil))) CS_ok mixed Tryz.func118 (Eq.mpr (by kernel_rfl) h)
theorem go_58(c1:PA)(most2:Int)(K:Int→Wp)(w:World)(h:al w 2 [.int .i64 most2] fun b3 W4=>al W4 2 [.int .i64 0] fun b5 W6=>callK Pg 118 [Ap c1,.leaf (.val (.func (.func 119) #[] #[(LV.toV (.ptr (some (b3,0)))),(LV.toV (.ptr (some (b5,0))))]))] W6 (.tup []) fun W7=>ld W7 Ki b5 0 fun n8=>K n8 W7):callK Pg 86 [Ap c1,Ai most2] w Oi K:=Fq (n:=.nil) CS_ok mixed Tryz.func86 (Eq.mpr (by kernel_rfl) h)
theorem go_57(left1:Sl)(t1B2:Nat)(t1O3:Nat)(t2B4:Nat)(t2O5:Nat)(K:Int→Int→Wp)(w:World)(h:callK Pg 120 [Az left1] w (.tup [Li,Li,Li]) fun n6 n7 n8 W9=>joinK [.bool] (fun k10=>ifK (n8==0) (ld W9 Ki t1B2 t1O3 fun n11=>k10 (decide (n11<n6)) W9) (k10 false W9)) fun t2112 W13=>joinK [Ki] (fun k14=>ifK t2112 (k14 23 W13) (k14 n8 W13)) fun e15 W16=>joinK [] (fun k17=>ifK (e15==0) (st W16 t2B4 t2O5 [.int .i64 n6] fun W18=>k17 W18) (k17 W16)) fun W19=>K n7 e15 W19):callK Pg 119 [Az left1,Ap (some (t1B2,t1O3)),Ap (some (t2B4,t2O5))] w (.tup [Li,Li]) K:=Fq (n:=(n0 .nil (n0 .nil (n0 (n0 (.mk (some [.tmp 21 Lb]) [] [2,6,7,8] .done .nil .nil) (.mk (some [.tmp 8 Li]) [] [2,6,7] .done .nil .nil)) (n0 (n0 .nil (.mk (some []) [] [7,8] .done .nil .nil)) .nil))))) CS_ok mixed Tryz.func119 (Eq.mpr (by kernel_rfl) h)
theorem go_60(c1:PA)(n2:Int)(K:Int→Wp)(w:World)(h:al w 3 [.int .i64 n2] fun b3 W4=>al W4 92 [.int .u64 0] fun b5 W6=>callK Pg 118 [Ap c1,.leaf (.val (.func (.func 152) #[] #[(LV.toV (.ptr (some (b3,0)))),(LV.toV (.ptr (some (b5,0))))]))] W6 (.tup []) fun W7=>ld W7 (.int .u64) b5 0 fun n8=>K n8 W7):callK Pg 121 [Ap c1,Ai n2] w (.one (.leaf (.int .u64))) K:=Fq (n:=.nil) CS_ok mixed Tryz.func121 (Eq.mpr (by kernel_rfl) h)
theorem go_59(left1:Sl)(t1B2:Nat)(t1O3:Nat)(t2B4:Nat)(t2O5:Nat)(K:Int→Int→Wp)(w:World)(h:joinK [.bool] (fun k6=>ld w Ki t1B2 t1O3 fun n7=>ifK (decide (n7<1)) (k6 true w) (ld w Ki t1B2 t1O3 fun n8=>k6 (decide (8<n8)) w)) fun t69 W10=>ifK t69 (K 0 23 W10) (ld W10 Ki t1B2 t1O3 fun n11=>ifK (decide ((left1.len:Int)<n11)) (K 0 20 W10) (ld W10 Ki t1B2 t1O3 fun n12=>slx left1 1 none (some n12) none fun s13=>callK Pg 35 [Az s13] W10 (.one (.leaf (.int .u64))) fun n14 W15=>st W15 t2B4 t2O5 [.int .u64 n14] fun W16=>ld W16 Ki t1B2 t1O3 fun n17=>K n17 0 W16))):callK Pg 152 [Az left1,Ap (some (t1B2,t1O3)),Ap (some (t2B4,t2O5))] w (.tup [Li,Li]) K:=Fq (n:=(n0 .nil (n0 (n0 (n0 (.mk (some [.tmp 6 Lb]) [] [0,1,2] .done .nil .nil) .nil) .nil) .nil))) CS_ok mixed Tryz.func152 (Eq.mpr (by kernel_rfl) h)
theorem go_62(c1:PA)(n2:Int)(K:Sl→Wp)(w:World)(h:al w 3 [.int .i64 n2] fun b3 W4=>al W4 22 [.sl (⟨none,0,0⟩)] fun b5 W6=>callK Pg 118 [Ap c1,.leaf (.val (.func (.func 153) #[] #[(LV.toV (.ptr (some (b3,0)))),(LV.toV (.ptr (some (b5,0))))]))] W6 (.tup []) fun W7=>ld W7 .sl b5 0 fun a8=>K a8 W7):callK Pg 122 [Ap c1,Ai n2] w Oz K:=Fq (n:=.nil) CS_ok mixed Tryz.func122 (Eq.mpr (by kernel_rfl) h)
theorem go_61(left1:Sl)(t1B2:Nat)(t1O3:Nat)(t2B4:Nat)(t2O5:Nat)(K:Int→Int→Wp)(w:World)(h:ld w Ki t1B2 t1O3 fun n6=>ifK (decide (n6<0)) (K 0 23 w) (ld w Ki t1B2 t1O3 fun n7=>ifK (decide ((left1.len:Int)<n7)) (K 0 20 w) (drawK w fun D W8=>ldD D W8 .sl t2B4 t2O5 fun a9=>ldD D W8 Ki t1B2 t1O3 fun n10=>slx left1 1 none (some n10) none fun s11=>ap W8 5 1 1 [.int .u8 0] a9 s11 fun a12 W13=>Mod D W8 W13∧st W13 t2B4 t2O5 [.sl a12] fun W14=>ld W14 Ki t1B2 t1O3 fun n15=>K n15 0 W14))):callK Pg 153 [Az left1,Ap (some (t1B2,t1O3)),Ap (some (t2B4,t2O5))] w (.tup [Li,Li]) K:=Fq (n:=(n0 .nil (n0 .nil (n0 (.mk none [] [] (tk [0,1,2,3] (.eff 4 (.last 5))) .nil .nil) .nil)))) CS_ok mixed Tryz.func153 (Eq.mpr (by kernel_rfl) h)
theorem go_63(c1:PA)(K:Int→Wp)(w:World)(h:joinK [.bool] (fun k2=>ifK c1.isNone (k2 true w) (dr c1 fun b3 o4=>ld w Ki b3 (o4+2) fun n5=>k2 (n5 != 0) w)) fun t116 W7=>ifK t116 (K 0 W7) (drawK W7 fun D W8=>dr c1 fun b9 o10=>ldD D W8 .sl b9 o10 fun a11=>dr c1 fun b12 o13=>ldD D W8 Ki b12 (o13+1) fun n14=>K (w64 ((a11.len:Int)-n14)) W8)):callK Pg 87 [Ap c1] w Oi K:=Fq (n:=(n0 .nil (n0 (n0 (.mk (some [.tmp 11 Lb]) [] [0] .done .nil .nil) .nil) (n0 (.mk none [] [] (tk [0,1,2,3,4,5,6,7,8,9,10] .done) .nil .nil) .nil)))) CS_ok mixed Tryz.func87 (Eq.mpr (by kernel_rfl) h)
theorem go_64(c1:PA)(K:Int→Int→Wp)(w:World)(h:al w 178 [.int .i64 0,.int .i64 0] fun b2 W3=>ifK c1.isNone (st W3 b2 0 [.int .i64 1,.int .i64 0] fun W4=>ld W4 Ki b2 0 fun n5=>ld W4 Ki b2 1 fun n6=>K n5 n6 W4) (dr c1 fun b7 o8=>ld W3 Ki b7 (o8+2) fun n9=>ifK (n9 != 0) (drawK W3 fun D W10=>dr c1 fun b11 o12=>ldD D W10 Ki b11 (o12+2) fun n13=>dr c1 fun b14 o15=>ldD D W10 Ki b14 (o15+1) fun n16=>st W10 b2 0 [.int .i64 n13,.int .i64 n16] fun W17=>ld W17 Ki b2 0 fun n18=>ld W17 Ki b2 1 fun n19=>K n18 n19 W17) (drawK W3 fun D W20=>dr c1 fun b21 o22=>ldD D W20 Ki b21 (o22+1) fun n23=>dr c1 fun b24 o25=>ldD D W20 .sl b24 o25 fun a26=>ifK (decide (n23<(a26.len:Int))) (dr c1 fun b27 o28=>ld W20 Ki b27 (o28+1) fun n29=>st W20 b2 0 [.int .i64 22,.int .i64 n29] fun W30=>ld W30 Ki b2 0 fun n31=>ld W30 Ki b2 1 fun n32=>K n31 n32 W30) (st W20 b2 0 [.int .i64 0,.int .i64 0] fun W33=>ld W33 Ki b2 0 fun n34=>ld W33 Ki b2 1 fun n35=>K n34 n35 W33)))):callK Pg 92 [Ap c1] w (.one (.agg [Ki,Ki])) K:=Fq (n:=(n0 .nil (n0 (n0 (n0 .nil (n0 .nil (n0 .nil (n0 (n0 (.mk none [] [] (tk [0,1,2,3,4,5,6,7,8] (.last 9)) .nil .nil) .nil) (n0 (.mk none [] [] (tk [0,1,2,3,4,5,6,7,8,9,10] .done) .nil .nil) .nil))))) .nil) .nil))) CS_ok mixed Tryz.func92 (Eq.mpr (by kernel_rfl) h)
structure Cu where
 b:Str
 at_:Nat
 e:Int
def Cu.left(c:Cu):Str:=c.b.drop c.at_
def Cu.go(c:Cu)(n:Nat)(e:Int):Cu:=if e=0 then⟨c.b,c.at_+n,0⟩ else⟨c.b,c.at_,e⟩
def Cu.num(c:Cu)(most:Int):Int×Cu:=
 if c.e≠0 then (0,c) else
  let g:=getN c.left
  let e:=if g.2.2=0∧most<(g.1:Int) then 23 else g.2.2
  (if e=0 then (g.1:Int) else 0,c.go g.2.1 e)
def Cu.fixed(c:Cu)(n:Int):Nat×Cu:=
 if c.e≠0 then (0,c) else
  let e:Int:=if n<1∨8<n then 23 else if (c.left.length:Int)<n then 20 else 0
  (if e=0 then wordN (c.left.take n.toNat) else 0,c.go n.toNat e)
def Cu.take(c:Cu)(n:Int):Str×Cu:=
 if c.e≠0 then ([],c) else
  let e:Int:=if n<0 then 23 else if (c.left.length:Int)<n then 20 else 0
  (if e=0 then c.left.take n.toNat else [],c.go n.toNat e)
def Cu.rest(c:Cu):Nat:=if c.e≠0 then 0 else c.left.length
def Cu.fail(c:Cu)(e:Int):Cu:=if c.e≠0 then c else⟨c.b,c.at_,e⟩
def Cu.done(c:Cu):Int×Int:=if c.e≠0 then (c.e,c.at_) else if c.at_<c.b.length then (22,c.at_) else (0,0)
structure Cu.Ok(c:Cu):Prop where
 le:c.at_≤c.b.length
 len:c.b.length≤1099511627776
theorem Cu.Ok.go{c:Cu}(h:c.Ok){n:Nat}{e:Int}(hn:e=0→n≤c.left.length):(c.go n e).Ok:=by
 unfold Cu.go;split
 ·rename_i he;have:=hn he;unfold Cu.left at this;rw [Lld] at this;exact⟨by show c.at_+n≤c.b.length;have:=h.le;omega,h.len⟩
 ·exact⟨h.le,h.len⟩
theorem Cu.go_55(c:Cu)(n:Nat)(e:Int):(c.go n e).b=c.b:=by unfold Cu.go;split<;>rfl
def CurC(s:Sl)(c:Cu):List Value:=[(LV.sl s).toV,.int .i64 (c.at_:Int),.int .i64 c.e]
structure CurAt(w:World)(bc:Nat)(s:Sl)(c:Cu):Prop where
 blk:Blk w bc (CurC s c)
 rd:RdS w ET s c.b
 ne:∀b,rk s b→b≠bc
 ok:c.Ok
theorem CurAt.keep{w w':World}{bc:Nat}{s:Sl}{c:Cu}(h:CurAt w bc s c){D:Nat→Prop}(hM:Mod D w w')(h1:¬D bc)(h2:∀b,rk s b→¬D b):CurAt w' bc s c:=⟨hM.blk h.blk h1,h.rd.keep hM h2,h.ne,h.ok⟩
theorem CurAt.quiet{w w':World}{bc:Nat}{s:Sl}{c:Cu}(h:CurAt w bc s c)(hM:Mod F0 w w'):CurAt w' bc s c:=h.keep hM id fun _ _=>id
theorem callV_func{f:FuncId}{a c:Array Value}{args:List AV}{w:World}{rt:RT}{K:Go.Vw.Fn rt.kds (Wp)}(hf:CS.contains f=true)(args':List AV)(ha:a++(args.map AV.toV).toArray++c=(args'.map AV.toV).toArray)
  (h:callK Pg f args' w rt K):callV Pg (.func (.func f) a c) args w rt K:=.inl ⟨f,a,c,rfl,CS_ok f hf,by rw [ha];exact h⟩
theorem _root_.Go.Vw.Blk.stK{w:World}{b o:Nat}{c:List Value}{vs:List LV}(h:Blk w b c)(hl:o+vs.length≤c.length){K:Wp}(hK:∀w',Blk w' b (spl c o (vs.map LV.toV))→Mod (fun k=>k=b) w w'→K w'):Go.Vw.st w b o vs K:=
 ⟨fun j hj=>⟨⟨c[o+j]'(by omega),by rw [h.cell,Lge]⟩,h.frz _⟩,hK _ (h.setCells _) (Mod.setCells ..)⟩
theorem _root_.Go.Vw.Blk.ldK{w:World}{b o:Nat}{c:List Value}(h:Blk w b c){k:Kd}(x:Den k){K:Den k→Prop}(hx:c[o]? = some (LV.mk k x).toV)(hK:K x):Go.Vw.ld w k b o K:=⟨x,by rw [h.cell];exact hx,hK⟩
theorem _root_.Go.Vw.Blk.ldDK{w:World}{b o:Nat}{c:List Value}(h:Blk w b c){D:Nat→Prop}{k:Kd}(x:Den k){K:Den k→Prop}(hD:¬D b)(hx:c[o]? = some (LV.mk k x).toV)(hK:K x):Go.Vw.ldD D w k b o K:=⟨x,hD,by rw [h.cell];exact hx,hK⟩
theorem reads_ok{w:World}{bc bt:Nat}{s:Sl}{c:Cu}(hc:CurAt w bc s c)(he:c.e=0)(hbt:bt≠bc){v:Value}{R:Nat→Int→Wp}
  (hcall:∀(s':Sl) (w1:World),Mod F0 w w1→RdS w1 ET s' c.left→(∀b,rk s' b→rk s b)→∀k:Int→Int→Wp,(∀n e w2,R n e w2→Mod (fun b=>b=bt) w1 w2→k (n:Int) e w2)→callV Pg v [Az s'] w1 (.tup [Li,Li]) k)
  (hR:∀n w2,R n 0 w2→n≤c.left.length) {K:Wp}
  (hK:∀n e w2 w3,R n e w2→Mod (fun b=>b=bt) w w2→Blk w3 bc (CurC s (c.go n e))→Mod (fun b=>b=bc) w2 w3→K w3) :
  callK Pg c_56 [Ap (some (bc,0)),.leaf (.val v)] w (.tup []) K:=by
 refine go_56 _ _ _ _ ?_;have hle:=hc.ok.le;have hlen:=hc.ok.len;refine join1 (a:=.bool) (fun b u=>b=false∧u=w) (fun k hk=>ifK_f rfl (Dq (hc.blk.ldK (k:=Ki) c.e rfl (hk _ _ ⟨by rw [he];rfl,rfl⟩)))) ?_;rintro b u ⟨rfl,rfl⟩;refine ifK_f rfl ⟨fun b=>b=bt,?_⟩;have hd:=hc.quiet (Mq u);refine Dq (hd.blk.ldDK (k:=.sl) s (fun h=>hbt h.symm) rfl (Dq (hd.blk.ldDK (k:=Ki) (c.at_:Int) (fun h=>hbt h.symm) rfl ?_)));refine hd.rd.fromK hle rfl rfl fun s' h' hk'=>hcall s' _ (Mq u) h' hk' _ fun n e w2 hr hM=>⟨hM,?_⟩;have hM2:Mod (fun b=>b=bt) u w2:=(Mq u).trans hM (fun _ _ h=>h.elim) fun _ _ h=>h;have hb2:Blk w2 bc (CurC s c):=hM2.blk hc.blk fun h=>hbt h.symm;refine Iq (fun h0=>?_) fun h0=>?_
 ·have h0:e≠0:=by simpa using h0
  refine Dq (hb2.stK (Nlr 3) fun w3 h3 M3=>hK n e w2 w3 hr hM2 ?_ M3);unfold Cu.go;rw [if_neg h0];exact h3
 ·have h0:e=0:=by simpa using h0
  subst h0;have hn:=hR n w2 hr;unfold Cu.left at hn;rw [Lld] at hn;refine Dq (hb2.ldK (k:=Ki) (c.at_:Int) rfl (Dq (hb2.stK (by decide:0+1+1≤3) fun w3 h3 M3=>hK n 0 w2 w3 hr hM2 ?_ M3)));unfold Cu.go;rw [if_pos rfl];rw [Wq (by omega) (by omega)] at h3;have e:CurC s ⟨c.b,c.at_+n,0⟩=spl (CurC s c) (0+1) (([.int .i64 ((c.at_:Int)+(n:Int))]:List LV).map LV.toV):=by
   unfold CurC;rw [he];show [_,Value.int .i64 ((c.at_+n:Nat):Int),_]=[_,Value.int .i64 ((c.at_:Int)+(n:Int)),_];rw [Int.natCast_add]
  rw [e];exact h3
theorem reads_failed{w:World}{bc:Nat}{s:Sl}{c:Cu}(hc:CurAt w bc s c)(he:c.e≠0){v:Value}{K:Wp}(hK:K w):callK Pg c_56 [Ap (some (bc,0)),.leaf (.val v)] w (.tup []) K:=by
 refine go_56 _ _ _ _ ?_;refine join1 (a:=.bool) (fun b u=>b=true∧u=w) (fun k hk=>ifK_f rfl (Dq (hc.blk.ldK (k:=Ki) c.e rfl (hk _ _ ⟨by simpa using he,rfl⟩)))) ?_;rintro b u ⟨rfl,rfl⟩;exact ifK_t rfl hK
theorem num1_ok{w:World}{s:Sl}{t:Str}(hr:RdS w ET s t)(hl:t.length≤1099511627776){b1 b2:Nat}{most:Int}{x:Int}(h1:Blk w b1 [.int .i64 most])(h2:Blk w b2 [.int .i64 x]){K:Int→Int→Wp}
  (hK:∀w' e,e=(if (getN t).2.2=0∧most<((getN t).1:Int) then 23 else (getN t).2.2)→Blk w' b2 [.int .i64 (if e=0 then ((getN t).1:Int) else x)]→Mod (fun b=>b=b2) w w'→K ((getN t).2.1:Int) e w') :
  callK Pg c_57 [Az s,Ap (some (b1,0)),Ap (some (b2,0))] w (.tup [Li,Li]) K:=by
 refine go_57 _ _ _ _ _ _ _ ?_;refine get_ok hr hl ?_;generalize hg:getN t=g at hK;obtain⟨v,n,e0⟩:=g;simp only at hK ⊢;refine join1 (a:=.bool) (fun b u=>b=decide (e0=0∧most<(v:Int))∧u=w) ?_ ?_
 ·intro k hk;refine Iq (fun h=>?_) fun h=>?_
  ·have h:e0=0:=by simpa using h
   refine h1.ldK (k:=Ki) most rfl (hk _ _ ⟨?_,rfl⟩);show decide (most<(v:Int))=_;rw [Bei,Det,Det];simp [h]
  ·have h:e0≠0:=by simpa using h
   exact hk _ _ ⟨(Dcf fun q=>h q.1).symm,rfl⟩
 rintro b u ⟨rfl,rfl⟩;refine join1 (a:=Ki) (fun e v'=>e=(if e0=0∧most<(v:Int) then 23 else e0)∧v'=u) ?_ ?_
 ·intro k hk;refine Iq (fun h=>hk _ _ ⟨?_,rfl⟩) fun h=>hk _ _ ⟨?_,rfl⟩
  ·rw [if_pos (odt h)]
  ·rw [if_neg (odf h)]
 rintro e v' ⟨he,rfl⟩;refine join0 (fun y=>Blk y b2 [.int .i64 (if e=0 then (v:Int) else x)]∧Mod (fun b=>b=b2) v' y) ?_ fun y ⟨hb,hM⟩=>hK y e he hb hM;intro k hk;refine Iq (fun h=>?_) fun h=>?_
 ·have h:e=0:=by simpa using h
  refine h2.stK (Nlr 1) fun w3 h3 M3=>hk _ ⟨?_,M3⟩;rw [if_pos h];exact h3
 ·have h:e≠0:=by simpa using h
  refine hk _ ⟨?_,Mod.refl _ _⟩;rw [if_neg h];exact h2
theorem num_ok{w:World}{bc:Nat}{s:Sl}{c:Cu}(hc:CurAt w bc s c){most:Int}{K:Int→Wp}(hK:∀w',CurAt w' bc s (c.num most).2→Mod (fun b=>b=bc) w w'→K (c.num most).1 w') :
  callK Pg c_58 [Ap (some (bc,0)),Ai most] w Oi K:=by
 refine go_58 _ _ _ _ ?_;refine (At.init w F0).alK fun b3 w1 hb3 h1 _=>h1.alK fun b5 w2 hb5 h2 M2=>?_;have hc2:=hc.quiet h2.mod;have hB3:Blk w2 b3 [.int .i64 most]:=h2.blk (i:=0) rfl;have hB5:Blk w2 b5 [.int .i64 0]:=h2.blk (i:=1) rfl;have hlt:=hc.blk.lt;have hle1:w.heap.size≤w1.heap.size:=h1.mod.size;have hne5:b5≠bc:=by omega
 have hne3:b3≠b5:=h2.ne (i:=0) (j:=1) rfl rfl (by decide);by_cases he:c.e=0
 ·have hnum:c.num most=(if (if (getN c.left).2.2=0∧most<((getN c.left).1:Int) then 23 else (getN c.left).2.2)=0 then ((getN c.left).1:Int) else 0,c.go (getN c.left).2.1 (if (getN c.left).2.2=0∧most<((getN c.left).1:Int) then 23 else (getN c.left).2.2)):=by
   unfold Cu.num;rw [if_neg (by simpa using he)]
  have hll:c.left.length≤1099511627776:=by unfold Cu.left;rw [Lld];have:=hc.ok.len;omega
  refine reads_ok hc2 he hne5 (R:=fun n e x=>n=(getN c.left).2.1∧e=(if (getN c.left).2.2=0∧most<((getN c.left).1:Int) then 23 else (getN c.left).2.2)∧Blk x b5 [.int .i64 (if e=0 then ((getN c.left).1:Int) else 0)]) ?_ ?_ ?_
  ·intro s' y hM hr hk k hcont;refine callV_func (by kernel_rfl) [Az s',Ap (some (b3,0)),Ap (some (b5,0))] rfl ?_;exact num1_ok hr hll (hM.blk hB3 id) (hM.blk hB5 id) fun y' e h hb hM'=>hcont _ e y' ⟨rfl,h,hb⟩ hM'
  ·rintro n x ⟨rfl,_,_⟩;exact getN_len _
  ·rintro n e x y ⟨rfl,h,hb⟩ hM hbc hM2;have hb2:Blk y b5 [.int .i64 (if e=0 then ((getN c.left).1:Int) else 0)]:=hM2.blk hb hne5;refine hb2.ldK (k:=Ki) (if e=0 then ((getN c.left).1:Int) else 0) rfl ?_;have hMM:Mod (fun b=>b=bc) w y:=(h2.mod.trans hM (D:=fun b=>b=b5) (fun _ _ h=>h.elim) fun _ _ h=>h).trans hM2 (fun b hb h=>absurd hb (by omega)) fun _ _ h=>h;subst h;have hK:=hK y;rw [hnum] at hK;refine hK ⟨hbc,by rw [show (_:Int×Cu).2.b=c.b from Cu.go_55 c _ _];exact hc.rd.keep hMM fun b hb=>hc.ne b hb,hc.ne,?_⟩ hMM;exact hc.ok.go fun _=>getN_len _
 ·have hnum:c.num most=(0,c):=by unfold Cu.num;rw [if_pos he]
  rw [hnum] at hK;refine reads_failed hc2 he (hB5.ldK (k:=Ki) 0 rfl (hK _ hc2 (h2.mod.mono fun _ _ h=>h.elim)))
structure Fresh(w w':World)(D:Nat→Prop)(ro:BL):Prop where
 mod:Mod D w w'
 own:∀p∈ro,Blk w' p.1 p.2
 new:∀p∈ro,w.heap.size≤p.1
 nodup:(ro.map Prod.fst).Nodup
theorem Fresh.none{w w':World}{D:Nat→Prop}(h:Mod D w w'):Fresh w w' D []:=⟨h,by simp,by simp,by simp⟩
theorem Fresh.of_at{w w':World}{ro:BL}(h:At w F0 ro w'):Fresh w w' F0 ro:=⟨h.mod,h.own,fun p hp=>Nat.not_lt.1 fun hlt=>h.wr p hp hlt,h.nodup⟩
theorem Fresh.at_{w w':World}{ro:BL}(h:Fresh w w' F0 ro):At w F0 ro w':=⟨h.mod,h.own,h.nodup,fun p hp hlt=>absurd hlt (Nat.not_lt.2 (h.new p hp))⟩
theorem _root_.Go.Vw.At.joinF{w0 w w':World}{D D':Nat→Prop}{m ro:BL}(h:At w0 D m w)(k:Fresh w w' D' ro)(h1:∀b,b<w0.heap.size→D' b→D b)(h2:∀p∈m,¬D' p.1):At w0 D (m++ro) w':=by
 have h3:=h.keep k.mod h1 h2;refine⟨h3.mod,?_,?_,?_⟩
 ·intro p hp;rcases Lma.1 hp with hp | hp
  ·exact h3.own p hp
  ·exact k.own p hp
 ·rw [List.map_append,List.nodup_append];refine⟨h.nodup,k.nodup,?_⟩;rintro a ha b hb rfl;obtain⟨p,hp,rfl⟩:=List.mem_map.1 ha;obtain⟨q,hq,e⟩:=List.mem_map.1 hb;have h1:=(h.own p hp).lt;have h2:=k.new q hq;omega
 ·intro p hp hlt;rcases Lma.1 hp with hp | hp
  ·exact h3.wr p hp hlt
  ·have:=k.new p hp;have:=h.mod.size;omega
theorem _root_.Go.Vw.At.updF{w0 w w':World}{D:Nat→Prop}{m ro:BL}{b:Nat}{x y:List Value}(h:At w0 D (m++[(b,x)]) w)(k:Fresh w w' (fun z=>z=b) ro)(hb:Blk w' b y):At w0 D ((m++[(b,y)])++ro) w':=by
 have hnd:=h.nodup;rw [List.map_append,List.nodup_append] at hnd;have hm:∀p∈m,p.1≠b:=fun p hp=>hnd.2.2 _ (List.mem_map_of_mem hp) b (by simp);have h1:At w0 D m w:=h.sub (Lsl _ _);have h2:=h1.joinF k (fun z hz e=>by subst e;exact h.wr (z,x) (by simp) hz) fun p hp=>hm p hp;have h3:=h2.add hb (fun p hp e=>?_) (fun hlt=>h.wr (b,x) (by simp) hlt)
 ·refine h3.perm ?_;rw [Laa,Laa];exact List.Perm.append_left m Lpc
 ·rcases Lma.1 hp with hp | hp
  ·exact hm p hp e
  ·have:=k.new p hp;have:=(h.own (b,x) (by simp)).lt;simp only at this;omega
theorem VecL.rdF{α:Type}{w w':World}{D:Nat→Prop}{ro:BL}{E:Enc α}{s:Sl}{l:List α}(h:VecL ro E s l)(k:Fresh w w' D ro):RdS w' E s l:=h.rd k.own
def fixE(n:Int)(k:Nat):Int:=if n<1∨8<n then 23 else if (k:Int)<n then 20 else 0
theorem fixed1_ok{w:World}{s:Sl}{t:Str}(hr:RdS w ET s t)(hl:t.length≤1099511627776){b1 b2:Nat}{n:Int}{x:Int}(h1:Blk w b1 [.int .i64 n])(h2:Blk w b2 [.int .u64 x])(hne:b1≠b2){K:Int→Int→Wp}
  (hK:∀w',Blk w' b2 [.int .u64 (if fixE n t.length=0 then (wordN (t.take n.toNat):Int) else x)]→Mod (fun b=>b=b2) w w'→K (if fixE n t.length=0 then (n.toNat:Int) else 0) (fixE n t.length) w') :
  callK Pg c_59 [Az s,Ap (some (b1,0)),Ap (some (b2,0))] w (.tup [Li,Li]) K:=by
 refine go_59 _ _ _ _ _ _ _ ?_;refine join1 (a:=.bool) (fun b u=>b=decide (n<1∨8<n)∧u=w) ?_ ?_
 ·intro k hk;refine h1.ldK (k:=Ki) n rfl (Iq (fun h=>hk _ _ ⟨?_,rfl⟩) fun h=>h1.ldK (k:=Ki) n rfl (hk _ _ ⟨?_,rfl⟩))
  ·have h:n<1:=odt h;exact (Dct (.inl h)).symm
  ·have h:¬n<1:=odf h;show decide (8<n)=_;rw [Bei,Det,Det];omega
 rintro b u ⟨rfl,rfl⟩;refine Iq (fun h=>?_) fun h=>?_
 ·have e:fixE n t.length=23:=by unfold fixE;rw [if_pos (odt h)]
  rw [e] at hK;exact hK u h2 (Mod.refl _ _)
 have h:=odf h;refine h1.ldK (k:=Ki) n rfl (Iq (fun hs=>?_) fun hs=>?_)
 ·rw [hr.len] at hs;have hs:((t.length:Nat):Int)<n:=odt hs;have e:fixE n t.length=20:=by unfold fixE;rw [if_neg h,if_pos hs]
  rw [e] at hK;exact hK u h2 (Mod.refl _ _)
 ·rw [hr.len] at hs;have hs:¬((t.length:Nat):Int)<n:=odf hs;have e:fixE n t.length=0:=by unfold fixE;rw [if_neg h,if_neg hs]
  rw [e] at hK;obtain⟨k,rfl⟩:∃k:Nat,n=(k:Int):=⟨n.toNat,by omega⟩;simp only [Itn,if_pos] at hK;refine h1.ldK (k:=Ki) (k:Int) rfl (hr.toK (by omega) rfl rfl fun s' h' _=>word_ok h' (by rw [Llt];omega) ?_);refine h2.stK (Nlr 1) fun w3 h3 M3=>?_;exact (M3.blk h1 hne).ldK (k:=Ki) (k:Int) rfl (hK w3 h3 M3)
theorem Cu.fixed_eq{c:Cu}(he:c.e=0)(n:Int):c.fixed n=(if fixE n c.left.length=0 then wordN (c.left.take n.toNat) else 0,c.go n.toNat (fixE n c.left.length)):=by
 unfold Cu.fixed fixE;rw [if_neg (by simpa using he)]
theorem fixed_ok{w:World}{bc:Nat}{s:Sl}{c:Cu}(hc:CurAt w bc s c){n:Int}{K:Int→Wp}(hK:∀w',CurAt w' bc s (c.fixed n).2→Mod (fun b=>b=bc) w w'→K ((c.fixed n).1:Int) w') :
  callK Pg c_60 [Ap (some (bc,0)),Ai n] w (.one (.leaf (.int .u64))) K:=by
 refine go_60 _ _ _ _ ?_;refine (At.init w F0).alK fun b3 w1 hb3 h1 _=>h1.alK fun b5 w2 hb5 h2 M2=>?_;have hc2:=hc.quiet h2.mod;have hB3:Blk w2 b3 [.int .i64 n]:=h2.blk (i:=0) rfl;have hB5:Blk w2 b5 [.int .u64 0]:=h2.blk (i:=1) rfl;have hlt:=hc.blk.lt;have hle1:w.heap.size≤w1.heap.size:=h1.mod.size;have hne5:b5≠bc:=by omega
 have hne3:b3≠b5:=h2.ne (i:=0) (j:=1) rfl rfl (by decide);by_cases he:c.e=0
 ·rw [Cu.fixed_eq he] at hK;have hll:c.left.length≤1099511627776:=by unfold Cu.left;rw [Lld];have:=hc.ok.len;omega
  generalize hE:fixE n c.left.length=E at hK;have hEn:E=0→n.toNat≤c.left.length:=by
   intro h;rw [←hE] at h;unfold fixE at h;split at h
   ·cases h
   ·split at h
    ·cases h
    ·omega
  refine reads_ok hc2 he hne5 (R:=fun k e x=>(e=0→k=n.toNat)∧e=E∧Blk x b5 [.int .u64 (if E=0 then (wordN (c.left.take n.toNat):Int) else 0)]) ?_ ?_ ?_
  ·intro s' y hM hr hk k hcont;refine callV_func (by kernel_rfl) [Az s',Ap (some (b3,0)),Ap (some (b5,0))] rfl ?_;refine fixed1_ok hr hll (hM.blk hB3 id) (hM.blk hB5 id) hne3 fun y' hb hM'=>?_;rw [hE] at hb ⊢;have:=hcont (if E=0 then n.toNat else 0) E y' ⟨fun h=>by rw [if_pos h],rfl,hb⟩ hM';by_cases h0:E=0
   ·rw [if_pos h0] at this ⊢;exact this
   ·rw [if_neg h0] at this ⊢;exact this
  ·rintro k x ⟨h1,h2,_⟩;rw [h1 rfl];exact hEn h2.symm
  ·rintro k e x y ⟨hk,rfl,hb⟩ hM hbc hM2;have hb2:=hM2.blk hb hne5;have hMM:Mod (fun b=>b=bc) w y:=(h2.mod.trans hM (D:=fun b=>b=b5) (fun _ _ h=>h.elim) fun _ _ h=>h).trans hM2 (fun b hb h=>absurd hb (by omega)) fun _ _ h=>h;have hgo:c.go k e=c.go n.toNat e:=by
    unfold Cu.go;by_cases h0:e=0
    ·rw [if_pos h0,if_pos h0,hk h0]
    ·rw [if_neg h0,if_neg h0]
   rw [hgo] at hbc;refine hb2.ldK (k:=.int .u64) (if e=0 then (wordN (c.left.take n.toNat):Int) else 0) rfl ?_;have:=hK y ⟨hbc,by rw [show (_:Nat×Cu).2.b=c.b from Cu.go_55 c _ _];exact hc.rd.keep hMM fun b hb=>hc.ne b hb,hc.ne,hc.ok.go hEn⟩ hMM;by_cases h0:e=0
   ·rw [if_pos h0] at this ⊢;exact this
   ·rw [if_neg h0] at this ⊢;exact this
 ·have hnum:c.fixed n=(0,c):=by unfold Cu.fixed;rw [if_pos he]
  rw [hnum] at hK;refine reads_failed hc2 he (hB5.ldK (k:=.int .u64) 0 rfl (hK _ hc2 (h2.mod.mono fun _ _ h=>h.elim)))
def takeE(n:Int)(k:Nat):Int:=if n<0 then 23 else if (k:Int)<n then 20 else 0
theorem Cu.take_eq{c:Cu}(he:c.e=0)(n:Int):c.take n=(if takeE n c.left.length=0 then c.left.take n.toNat else [],c.go n.toNat (takeE n c.left.length)):=by
 unfold Cu.take takeE;rw [if_neg (by simpa using he)]
theorem take1_ok{w:World}{s:Sl}{t:Str}(hr:RdS w ET s t)(hl:t.length≤1099511627776){b1 b2:Nat}{n:Int}(h1:Blk w b1 [.int .i64 n])(h2:Blk w b2 [LV.toV (.sl ⟨none,0,0⟩)])(hne:b1≠b2){K:Int→Int→Wp}
  (hK:∀w' ro s',Blk w' b2 [LV.toV (.sl s')]→VecL ro ET s' (if takeE n t.length=0 then t.take n.toNat else [])→Fresh w w' (fun b=>b=b2) ro→K (if takeE n t.length=0 then (n.toNat:Int) else 0) (takeE n t.length) w') :
  callK Pg c_61 [Az s,Ap (some (b1,0)),Ap (some (b2,0))] w (.tup [Li,Li]) K:=by
 refine go_61 _ _ _ _ _ _ _ ?_;refine h1.ldK (k:=Ki) n rfl (Iq (fun h=>?_) fun h=>?_)
 ·have h:n<0:=odt h;have e:takeE n t.length=23:=by unfold takeE;rw [if_pos h]
  rw [e] at hK;exact hK w [] _ h2 (VecL.nil ET) (Fresh.none (Mod.refl _ _))
 have h:¬n<0:=odf h;refine h1.ldK (k:=Ki) n rfl (Iq (fun hs=>?_) fun hs=>?_)
 ·rw [hr.len] at hs;have hs:((t.length:Nat):Int)<n:=odt hs;have e:takeE n t.length=20:=by unfold takeE;rw [if_neg h,if_pos hs]
  rw [e] at hK;exact hK w [] _ h2 (VecL.nil ET) (Fresh.none (Mod.refl _ _))
 ·rw [hr.len] at hs;have hs:¬((t.length:Nat):Int)<n:=odf hs;have e:takeE n t.length=0:=by unfold takeE;rw [if_neg h,if_neg hs]
  rw [e] at hK;obtain⟨k,rfl⟩:∃k:Nat,n=(k:Int):=⟨n.toNat,by omega⟩;simp only [Itn,if_pos] at hK;have hkl:k≤t.length:=by omega
  refine⟨F0,?_⟩;have d1:=(Mq w).blk h1 id;have d2:=(Mq w).blk h2 id;refine d2.ldDK (k:=.sl) ⟨none,0,0⟩ id rfl (d1.ldDK (k:=Ki) (k:Int) id rfl ?_);refine (hr.quiet (Mq w)).toK hkl rfl rfl fun s' h' _=>?_;refine appL (m:=[]) (ro:=[]) (At.init w F0).drew (VecL.nil ET) h' rfl rfl (by simp;omega) fun s7 ro7 w7 h7 v7 M7 _=>?_;have h7:At w F0 ro7 w7:=h7;have v7:VecL ro7 ET s7 (t.take k):=v7;have f7:=Fresh.of_at h7;refine⟨M7.mono fun b _ hb=>(by obtain⟨q,hq,_⟩:=hb;exact absurd hq (by simp)),?_⟩;have b2':Blk w7 b2 [LV.toV (.sl ⟨none,0,0⟩)]:=h7.mod.blk h2 id;refine b2'.stK (Nlr 1) fun w8 h8 M8=>?_;have b1':Blk w8 b1 [.int .i64 (k:Int)]:=M8.blk (h7.mod.blk h1 id) hne;refine b1'.ldK (k:=Ki) (k:Int) rfl (hK w8 ro7 s7 h8 v7 ⟨h7.mod.trans M8 (fun _ _ h=>h.elim) fun _ _ h=>h,fun p hp=>M8.blk (f7.own p hp) ?_,f7.new,f7.nodup⟩);have:=f7.new p hp;have:=h2.lt;show ¬p.1=b2;omega
theorem take_ok{w:World}{bc:Nat}{s:Sl}{c:Cu}(hc:CurAt w bc s c){n:Int}{K:Sl→Wp}(hK:∀w' ro s',CurAt w' bc s (c.take n).2→VecL ro ET s' (c.take n).1→Fresh w w' (fun b=>b=bc) ro→K s' w') :
  callK Pg c_62 [Ap (some (bc,0)),Ai n] w Oz K:=by
 refine go_62 _ _ _ _ ?_;refine (At.init w F0).alK fun b3 w1 hb3 h1 _=>h1.alK fun b5 w2 hb5 h2 M2=>?_;have hc2:=hc.quiet h2.mod;have hB3:Blk w2 b3 [.int .i64 n]:=h2.blk (i:=0) rfl;have hB5:Blk w2 b5 [LV.toV (.sl ⟨none,0,0⟩)]:=h2.blk (i:=1) rfl;have hlt:=hc.blk.lt;have hle1:w.heap.size≤w1.heap.size:=h1.mod.size;have hle2:w1.heap.size≤w2.heap.size:=M2.size;have hne5:b5≠bc:=by omega
 have hne3:b3≠b5:=h2.ne (i:=0) (j:=1) rfl rfl (by decide);by_cases he:c.e=0
 ·rw [Cu.take_eq he] at hK;have hll:c.left.length≤1099511627776:=by unfold Cu.left;rw [Lld];have:=hc.ok.len;omega
  generalize hE:takeE n c.left.length=E at hK;have hEn:E=0→n.toNat≤c.left.length:=by
   intro h;rw [←hE] at h;unfold takeE at h;split at h
   ·cases h
   ·split at h
    ·cases h
    ·omega
  refine reads_ok hc2 he hne5 (R:=fun k e x=>(e=0→k=n.toNat)∧e=E∧∃ro s',Blk x b5 [LV.toV (.sl s')]∧VecL ro ET s' (if E=0 then c.left.take n.toNat else [])∧(∀p∈ro,Blk x p.1 p.2)∧(∀p∈ro,w2.heap.size≤p.1)∧(ro.map Prod.fst).Nodup) ?_ ?_ ?_
  ·intro s' y hM hr hk k hcont;refine callV_func (by kernel_rfl) [Az s',Ap (some (b3,0)),Ap (some (b5,0))] rfl ?_;refine take1_ok hr hll (hM.blk hB3 id) (hM.blk hB5 id) hne3 fun y' ro s2 hb hv hF=>?_;rw [hE] at hv ⊢;have:=hcont (if E=0 then n.toNat else 0) E y' ⟨fun h=>by rw [if_pos h],rfl,ro,s2,hb,hv,hF.own,fun p hp=>Nat.le_trans hM.size (hF.new p hp),hF.nodup⟩ hF.mod;by_cases h0:E=0
   ·rw [if_pos h0] at this ⊢;exact this
   ·rw [if_neg h0] at this ⊢;exact this
  ·rintro k x ⟨h1,h2,_⟩;rw [h1 rfl];exact hEn h2.symm
  ·rintro k e x y ⟨hk,rfl,ro,s2,hb,hv,ho,hnew,hnd⟩ hM hbc hM2;have hb2:=hM2.blk hb hne5;have hMM:Mod (fun b=>b=bc) w y:=(h2.mod.trans hM (D:=fun b=>b=b5) (fun _ _ h=>h.elim) fun _ _ h=>h).trans hM2 (fun b hb h=>absurd hb (by omega)) fun _ _ h=>h;have hgo:c.go k e=c.go n.toNat e:=by
    unfold Cu.go;by_cases h0:e=0
    ·rw [if_pos h0,if_pos h0,hk h0]
    ·rw [if_neg h0,if_neg h0]
   rw [hgo] at hbc;refine hb2.ldK (k:=.sl) s2 rfl ?_;refine hK y ro s2 ⟨hbc,by rw [show (_:Str×Cu).2.b=c.b from Cu.go_55 c _ _];exact hc.rd.keep hMM fun b hb=>hc.ne b hb,hc.ne,hc.ok.go hEn⟩ hv ⟨hMM,fun p hp=>hM2.blk (ho p hp) ?_,fun p hp=>?_,hnd⟩
   ·have:=hnew p hp;show ¬p.1=bc;omega
   ·have:=hnew p hp;omega
 ·have hnum:c.take n=([],c):=by unfold Cu.take;rw [if_pos he]
  rw [hnum] at hK;refine reads_failed hc2 he (hB5.ldK (k:=.sl) ⟨none,0,0⟩ rfl (hK _ [] _ hc2 (VecL.nil ET) (Fresh.none (h2.mod.mono fun _ _ h=>h.elim))))
theorem rest_ok{w:World}{bc:Nat}{s:Sl}{c:Cu}(hc:CurAt w bc s c){K:Int→Wp}(hK:∀w',CurAt w' bc s c→Mod F0 w w'→K (c.rest:Int) w') :
  callK Pg c_63 [Ap (some (bc,0))] w Oi K:=by
 refine go_63 _ _ _ ?_;have hle:=hc.ok.le;have hlen:=hc.ok.len;refine join1 (a:=.bool) (fun b u=>b=decide (c.e≠0)∧u=w) (fun k hk=>ifK_f rfl (Dq (hc.blk.ldK (k:=Ki) c.e rfl (hk _ _ ⟨by rw [Bei,bne_iff_ne,Det],rfl⟩)))) ?_;rintro b u ⟨rfl,rfl⟩;unfold Cu.rest at hK;refine Iq (fun h=>?_) fun h=>?_
 ·have h:=odt h;have:=hK u hc (Mod.refl _ _);rw [if_pos h] at this;exact this
 ·have h:=odf h;have hd:=hc.quiet (Mq u);refine⟨F0,Dq (hd.blk.ldDK (k:=.sl) s id rfl (Dq (hd.blk.ldDK (k:=Ki) (c.at_:Int) id rfl ?_)))⟩;have:=hK _ hd (Mq u);rw [if_neg h] at this;rw [hc.rd.len,Wq (by omega) (by omega)];have e:((c.left.length:Nat):Int)=(c.b.length:Int)-(c.at_:Int):=by unfold Cu.left;rw [Lld];omega
  rw [e] at this;exact this
theorem end_ok{w:World}{bc:Nat}{s:Sl}{c:Cu}(hc:CurAt w bc s c){K:Int→Int→Wp}(hK:∀w',CurAt w' bc s c→Mod F0 w w'→K c.done.1 c.done.2 w') :
  callK Pg c_64 [Ap (some (bc,0))] w (.one (.agg [Ki,Ki])) K:=by
 refine go_64 _ _ _ ?_;have hle:=hc.ok.le;have hlen:=hc.ok.len;refine (At.init w F0).alK fun b w1 hb h1 M1=>?_;have hc1:=hc.quiet M1;have hB:Blk w1 b [.int .i64 0,.int .i64 0]:=h1.blk (i:=0) rfl;have hne:b≠bc:=by have:=hc.blk.lt;omega
 have fin:∀(x y:Int) (u:World),Mod F0 w u→Blk u b [.int .i64 0,.int .i64 0]→x=c.done.1→y=c.done.2→Go.Vw.st u b 0 [.int .i64 x,.int .i64 y] fun w17=>Go.Vw.ld w17 Ki b 0 fun n18=>Go.Vw.ld w17 Ki b 1 fun n19=>K n18 n19 w17:=by
  rintro x y u hM hb' rfl rfl;refine hb'.stK (Nlr 2) fun w3 h3 M3=>?_;have M:Mod F0 w w3:=hM.trans M3 (fun _ _ h=>h) fun z hz e=>by omega
  exact h3.ldK (k:=Ki) c.done.1 rfl (h3.ldK (k:=Ki) c.done.2 rfl (hK w3 (hc.quiet M) M))
 refine ifK_f rfl (Dq (hc1.blk.ldK (k:=Ki) c.e rfl (Iq (fun h=>?_) fun h=>?_)))
 ·have h:c.e≠0:=by simpa using h
  have M2:=mod0 M1 (Mq w1);have hd:=hc.quiet M2;refine⟨F0,Dq (hd.blk.ldDK (k:=Ki) c.e id rfl (Dq (hd.blk.ldDK (k:=Ki) (c.at_:Int) id rfl ?_)))⟩;refine fin _ _ _ M2 ((Mq w1).blk hB id) ?_ ?_<;>(unfold Cu.done;rw [if_pos h])
 ·have h:¬c.e≠0:=by simpa using h
  have M2:=mod0 M1 (Mq w1);have hd:=hc.quiet M2;refine⟨F0,Dq (hd.blk.ldDK (k:=Ki) (c.at_:Int) id rfl (Dq (hd.blk.ldDK (k:=.sl) s id rfl ?_)))⟩;rw [hc.rd.len];refine Iq (fun hl=>?_) fun hl=>?_
  ·have hl:c.at_<c.b.length:=dlt hl;refine Dq (hd.blk.ldK (k:=Ki) (c.at_:Int) rfl ?_);refine fin _ _ _ M2 ((Mq w1).blk hB id) ?_ ?_<;>(unfold Cu.done;rw [if_neg h,if_pos hl])
  ·have hl:c.b.length≤c.at_:=dge hl;refine fin _ _ _ M2 ((Mq w1).blk hB id) ?_ ?_<;>(unfold Cu.done;rw [if_neg h,if_neg (by omega)])
theorem newCursor_ok{w:World}{s:Sl}{t:Str}(hr:RdS w ET s t)(hl:t.length≤1099511627776){K:PA→Wp}(hK:∀w' bc s' ro,CurAt w' bc s' ⟨t,0,0⟩→At w F0 (ro++[(bc,CurC s' ⟨t,0,0⟩)]) w'→VecL ro ET s' t→K (some (bc,0)) w') :
  callK Pg c_65 [Az s] w Oq K:=by
 refine go_65 _ _ _ ?_;refine appL (m:=[]) (ro:=[]) (At.init w F0) (VecL.nil ET) hr rfl rfl (by simp;omega) fun s2 ro2 w2 h2 v2 _ _=>?_;have h2:At w F0 ro2 w2:=h2;have v2:VecL ro2 ET s2 t:=v2;refine h2.alK fun bc w3 hb h3 M3=>?_;have h3:At w F0 (ro2++[(bc,CurC s2 ⟨t,0,0⟩)]) w3:=h3;refine hK w3 bc s2 ro2 ⟨h3.own (bc,_) (Lmr _ (Lms.2 rfl)),v2.rdAt0 (h3.sub (Lsl _ _)),?_,⟨Nzl _,hl⟩⟩ h3 v2;rintro b ⟨_,hk⟩;obtain⟨q,hq,e⟩:=v2.key hk;have:=(h2.own q hq).lt;omega
set_option maxRecDepth 100000
theorem go_67(t_0_1:Sl)(t_1_2:Int)(t_2_3:Int)(K:Bool→Wp)(w:World)(h:al w 238 [.sl t_0_1,.int .i64 t_1_2,.int .i64 t_2_3] fun b4 W5=>joinK [.bool] (fun k6=>ld W5 Ki b4 1 fun n7=>ifK (n7==0) (ld W5 Ki b4 2 fun n8=>k6 (n8==0) W5) (k6 false W5)) fun t29 W10=>K t29 W10):callK Pg 171 [.agg [.sl t_0_1,.int .i64 t_1_2,.int .i64 t_2_3]] w Ob K:=Fq (n:=(n0 .nil (n0 (.mk (some [.tmp 2 Lb]) [] [] .done .nil .nil) .nil))) CS_ok mixed Tryz.func171 (Eq.mpr (by kernel_rfl) h)
theorem go_68(t_0_1:Sl)(t_1_2:Int)(t_2_3:Int)(m4:Int)(last5:Bool)(K:Bool→Wp)(w:World)(h:al w 238 [.sl t_0_1,.int .i64 t_1_2,.int .i64 t_2_3] fun b6 W7=>ld W7 .sl b6 0 fun a8=>ld W7 Ki b6 1 fun n9=>ld W7 Ki b6 2 fun n10=>callK Pg 171 [.agg [.sl a8,.int .i64 n9,.int .i64 n10]] W7 Ob fun c11 W12=>ifK c11 (joinK [.bool] (fun k13=>ifK last5 (ld W12 .sl b6 0 fun a14=>k13 (decide (0<(a14.len:Int))) W12) (k13 false W12)) fun t615 W16=>K t615 W16) (joinK [.bool] (fun k17=>ld W12 Ki b6 2 fun n18=>ifK (decide (4≤n18)) (ld W12 Ki b6 2 fun n19=>ifK (decide (n19≤259)) (ld W12 Ki b6 1 fun n20=>ifK (decide (1≤n20)) (ld W12 Ki b6 1 fun n21=>k17 (decide (n21≤mnI 32768 m4)) W12) (k17 false W12)) (k17 false W12)) (k17 false W12)) fun t622 W23=>K t622 W23)):callK Pg 172 [.agg [.sl t_0_1,.int .i64 t_1_2,.int .i64 t_2_3],Ai m4,Ab last5] w Ob K:=Fq (n:=(n0 .nil (n0 (n0 .nil (n0 (n0 (.mk (some [.tmp 6 Lb]) [] [] .done .nil .nil) .nil) .nil)) (n0 (.mk (some [.tmp 6 Lb]) [] [] .done .nil .nil) .nil)))) CS_ok mixed Tryz.func172 (Eq.mpr (by kernel_rfl) h)
theorem go_66(text1:Sl)(dist2:Int)(n3:Int)(K:Sl→Wp)(w:World)(h:joinK [.sl] (fun k4=>loopL [.sl,Ki] (fun text6 t87 W8 g5=>ifK (decide (t87<n3)) (ix text6 1 (w64 ((text6.len:Int)-dist2)) fun b9 o10=>ld W8 (.int .u8) b9 o10 fun n11=>al W8 5 [.int .u8 n11] fun b12 W13=>ap W13 5 1 1 [.int .u8 0] text6 (⟨some (b12,0),1,1⟩) fun a14 W15=>g5 a14 (w64 (t87+1)) W15) (k4 text6 W8)) [.sl text1,.int .i64 0] w) fun text16 W17=>K text16 W17):callK Pg 160 [Az text1,Ai dist2,Ai n3] w Oz K:=Fq (n:=(n0 .nil (n0 (n0 .nil (.mk (some [.tmp 0 Ls]) [] [] .done (.mk none [.tmp 0 Ls,.tmp 8 Li] [1,7] .done .nil .nil) .nil)) .nil))) CS_ok mixed Tryz.func160 (Eq.mpr (by kernel_rfl) h)
theorem go_70(b1:Sl)(n2:Int)(on3:Value)(K:Bool→Wp)(w:World)(h:callK Pg 85 [Az b1] w Oq fun p4 W5=>joinK [Ki] (fun k6=>loopL [Ki] (fun made8 W9 g7=>callK Pg 87 [Ap p4] W9 Oi fun n10 W11=>ifK (decide (0<n10)) (callK Pg 86 [Ap p4,Ai (w64 (n2-made8))] W11 Oi fun n12 W13=>callK Pg 122 [Ap p4,Ai n12] W13 Oz fun a14 W15=>al W15 238 [.sl (⟨none,0,0⟩),.int .i64 0,.int .i64 0] fun b16 W17=>st W17 b16 0 [.sl a14,.int .i64 0,.int .i64 0] fun W18=>ld W18 .sl b16 0 fun a19=>callK Pg 87 [Ap p4] W18 Oi fun n20 W21=>joinK [] (fun k22=>ifK (decide (0<n20)) (callK Pg 86 [Ap p4,Ai 255] W21 Oi fun n23 W24=>st W24 b16 2 [.int .i64 (w64 (n23+4))] fun W25=>callK Pg 86 [Ap p4,Ai (mnI 32768 (w64 (made8+(a19.len:Int))))] W25 Oi fun n26 W27=>st W27 b16 1 [.int .i64 n26] fun W28=>k22 W28) (k22 W21)) fun W29=>callK Pg 92 [Ap p4] W29 (.one (.agg [Ki,Ki])) fun n30 n31 W32=>al W32 178 [.int .i64 0,.int .i64 0] fun b33 W34=>st W34 b33 0 [.int .i64 n30,.int .i64 n31] fun W35=>joinK [.bool] (fun k36=>ld W35 Ki b33 0 fun n37=>ifK (n37 != 0) (ld W35 Ki b33 0 fun n38=>k36 (n38 != 22) W35) (k36 false W35)) fun t5439 W40=>ifK t5439 (K false W40) (joinK [.bool] (fun k41=>drawK W40 fun D W42=>ldD D W42 .sl b16 0 fun a43=>ldD D W42 Ki b16 1 fun n44=>ldD D W42 Ki b16 2 fun n45=>callK Pg 87 [Ap p4] W42 Oi fun n46 W47=>Mod D W42 W47∧callK Pg 172 [.agg [.sl a43,.int .i64 n44,.int .i64 n45],Ai (w64 (made8+(a19.len:Int))),Ab (n46==0)] W47 Ob fun c48 W49=>Mod D W42 W49∧ifK (!c48) (k41 true W49) (ldD D W42 Ki b16 2 fun n50=>ifK (decide (n2<w64 ((w64 (made8+(a19.len:Int)))+n50))) (k41 true W49) (ldD D W42 .sl b16 0 fun a51=>ldD D W42 Ki b16 1 fun n52=>ldD D W42 Ki b16 2 fun n53=>callK Pg 171 [.agg [.sl a51,.int .i64 n52,.int .i64 n53]] W49 Ob fun c54 W55=>Mod D W42 W55∧ifK c54 (k41 ((w64 (made8+(a19.len:Int))) != n2) W55) (k41 false W55)))) fun t7856 W57=>ifK t7856 (K false W57) (ld W57 Ki b16 2 fun n58=>ld W57 .sl b16 0 fun a59=>ld W57 Ki b16 1 fun n60=>ld W57 Ki b16 2 fun n61=>callV Pg on3 [.agg [.sl a59,.int .i64 n60,.int .i64 n61]] W57 (.tup []) fun W62=>g7 (w64 ((w64 (made8+(a19.len:Int)))+n58)) W62))) (k6 made8 W11)) [.int .i64 0] W5) fun made63 W64=>joinK [.bool] (fun k65=>ifK (made63==n2) (callK Pg 92 [Ap p4] W64 (.one (.agg [Ki,Ki])) fun n66 n67 W68=>k65 (n66==0) W68) (k65 false W64)) fun t669 W70=>K t669 W70):callK Pg 158 [Az b1,Ai n2,.leaf (.val on3)] w Ob K:=Fq (n:=(n0 .nil (n0 .nil (n0 .nil (n0 (.mk (some [.tmp 8 Li]) [] [1,7] .done (.mk none [.tmp 8 Li] [1,2,7] .done (n0 .nil (n0 (n0 .nil (n0 .nil (n0 .nil (n0 .nil (n0 (n0 .nil (.mk (some []) [] [1,2,7,8,11] .done .nil .nil)) (n0 (n0 .nil (n0 (.mk (some [.tmp 54 Lb]) [] [1,2,7,8,11] .done .nil .nil) .nil)) (n0 (n0 (.mk (some [.tmp 78 Lb]) [] [1,2,7,8,11] (tk [0,1,2] (.eff 3 (.take 4 (.eff 5 (.take 6 (.take 7 (.split 7 (.take 8 (.take 9 (.take 10 (.take 11 (.take 12 (.take 13 (.take 14 (.take 15 (.take 16 (.take 17 (.take 18 (.take 19 (.take 20 (.take 21 (.take 22 (.take 23 .done)))))))))))))))) (.take 8 (.take 9 (.take 10 (.take 11 (.take 12 (.take 13 (.take 14 (.take 15 (.split 15 (.take 16 (.take 17 (.take 18 (.take 19 (.take 20 (.take 21 (.take 22 (.take 23 .done)))))))) (.take 16 (.eff 17 (.take 18 (.split 18 (.take 19 (.take 20 (.take 21 (.take 22 (.take 23 .done))))) (.take 19 (.take 20 (.take 21 (.take 22 (.take 23 .done))))))))))))))))))))))))) .nil .nil) .nil) .nil))))))) .nil)) .nil) .nil) (n0 (.mk (some [.tmp 6 Lb]) [] [] .done .nil .nil) .nil)))))) CS_ok mixed Tryz.func158 (Eq.mpr (by kernel_rfl) h)
theorem go_71(b1:Sl)(n2:Int)(K:Sl→Int→Wp)(w:World)(h:joinK [.bool] (fun k3=>ifK (decide (n2<0)) (k3 true w) (k3 (decide (65536<n2)) w)) fun t124 W5=>ifK t124 (K (⟨none,0,0⟩) 3 W5) (al W5 22 [.sl (⟨none,0,0⟩)] fun b6 W7=>callK Pg 158 [Az b1,Ai n2,.leaf (.val (.func (.func 159) #[] #[(LV.toV (.ptr (some (b6,0))))]))] W7 Ob fun c8 W9=>ifK (!c8) (K (⟨none,0,0⟩) 30 W9) (ld W9 .sl b6 0 fun a10=>K a10 0 W9))):callK Pg 135 [Az b1,Ai n2] w (.tup [Ls,Li]) K:=Fq (n:=(n0 .nil (n0 (n0 (.mk (some [.tmp 12 Lb]) [] [0,1] .done .nil .nil) .nil) .nil))) CS_ok mixed Tryz.func135 (Eq.mpr (by kernel_rfl) h)
theorem go_69(t_0_1:Sl)(t_1_2:Int)(t_2_3:Int)(t1B4:Nat)(t1O5:Nat)(K:Wp)(w:World)(h:al w 238 [.sl t_0_1,.int .i64 t_1_2,.int .i64 t_2_3] fun b6 W7=>drawK W7 fun D W8=>ldD D W8 .sl t1B4 t1O5 fun a9=>ldD D W8 .sl b6 0 fun a10=>ldD D W8 Ki b6 1 fun n11=>ldD D W8 Ki b6 2 fun n12=>ap W8 5 1 1 [.int .u8 0] a9 a10 fun a13 W14=>Mod D W8 W14∧callK Pg 160 [Az a13,Ai n11,Ai n12] W14 Oz fun a15 W16=>Mod D W8 W16∧st W16 t1B4 t1O5 [.sl a15] fun W17=>K W17):callK Pg 159 [.agg [.sl t_0_1,.int .i64 t_1_2,.int .i64 t_2_3],Ap (some (t1B4,t1O5))] w (.tup []) K:=Fq (n:=(n0 .nil (.mk none [] [] (tk [0,1,2,4,5,6,7] (.eff 3 (.eff 8 (.last 9)))) .nil .nil))) CS_ok mixed Tryz.func159 (Eq.mpr (by kernel_rfl) h)
def againN(dist:Nat):Nat→Str→Str
 | 0,t=>t
 | k+1,t=>againN dist k (t++[t.getD (t.length-dist) 0])
theorem againN_length(dist:Nat):∀(k:Nat) (t:Str),(againN dist k t).length=t.length+k
 | 0,t=>rfl
 | k+1,t=>by rw [againN,againN_length dist k];simp;omega
def rightT(lit:Str)(dist len:Int)(m:Nat)(last:Bool):Bool:=
 if dist=0∧len=0 then last&&decide (0<lit.length) else decide (4≤len∧len≤259∧1≤dist∧dist≤((min 32768 m:Nat):Int))
def lzTok(n made:Nat)(c:Cu):Str×Int×Int×Cu:=
 let x:=c.num ((n:Int)-made)
 let y:=x.2.take x.1
 let made1:=made+y.1.length
 if 0<y.2.rest then
  let z:=y.2.num 255
  let u:=z.2.num ((min 32768 made1:Nat):Int)
  (y.1,u.1,z.1+4,u.2)
 else (y.1,0,0,y.2)
def lzOk(n made:Nat)(x:Str×Int×Int×Cu):Bool:=
 let m:=made+x.1.length
 (x.2.2.2.done.1==0||x.2.2.2.done.1==22)&&rightT x.1 x.2.1 x.2.2.1 m (x.2.2.2.rest==0)&&decide ((m:Int)+x.2.2.1≤n)&&!(decide (x.2.1=0∧x.2.2.1=0)&&decide (m≠n))
def lzRun(n:Nat):Nat→Str→Cu→Option Str
 | 0,_,_=>none
 | k+1,text,c=>if c.rest=0 then (if text.length=n∧c.done.1=0 then some text else none) else
   let x:=lzTok n text.length c
   if lzOk n text.length x then lzRun n k (againN x.2.1.toNat x.2.2.1.toNat (text++x.1)) x.2.2.2 else none
def lzDec(b:Str)(n:Nat):Option Str:=lzRun n (n+1) [] ⟨b,0,0⟩
theorem again_ok{w0 w:World}{D:Nat→Prop}{m ro:BL}(hA:At w0 D (m++ro) w){s:Sl}{t:Str}(hv:VecL ro ET s t){dist n:Nat}(hd:n≠0→1≤dist∧dist≤t.length)(hn:n≤1048576)(ht:t.length≤1048576){K:Sl→Wp}
  (hK:∀s' ro' w',At w0 D (m++ro') w'→VecL ro' ET s' (againN dist n t)→Mod (Ks ro) w w'→K s' w') :
  callK Pg c_66 [Az s,Ai (dist:Int),Ai (n:Int)] w Oz K:=by
 refine go_66 _ _ _ _ _ ?_;refine join1 (a:=.sl) (fun s' w'=>∃ro',At w0 D (m++ro') w'∧VecL ro' ET s' (againN dist n t)∧Mod (Ks ro) w w') ?_ fun s' w' ⟨ro',h1,h2,h3⟩=>hK _ _ _ h1 h2 h3;intro k hk;refine loop2 (k1:=.sl) (k2:=Ki) (fun (s':Sl) (i:Int) u=>∃(j:Nat) (x:Str) (ro':BL),i=(j:Int)∧j≤n∧At w0 D (m++ro') u∧VecL ro' ET s' x∧x.length=t.length+j∧againN dist (n-j) x=againN dist n t∧Mod (Ks ro) w u∧(∀y,Ks ro' y→Ks ro y∨w.heap.size≤y)) (fun _ i _=>(n-i).toNat) (x1:=s) (x2:=0) rfl rfl
  ⟨0,t,ro,rfl,Nzl _,hA,hv,rfl,rfl,Mod.refl _ _,fun y h=>.inl h⟩ ?_
 rintro s' i u ⟨j,x,ro',rfl,hj,hA1,hv1,hx,hg,hM,hro⟩;refine Iq (fun h=>?_) fun h=>?_
 ·have hlt:j<n:=dlt h;obtain⟨d1,d2⟩:=hd (by omega);have hrd:=hv1.rdAt hA1;rw [hv1.1,Wq (by omega) (by omega)];have hidx:x.length-dist<x.length:=by omega
  refine hrd.byte (k:=x.length-dist) (by omega) hidx fun b o _ hc=>Lq (k:=.int .u8) ((x[x.length-dist]).toNat:Int) hc ?_;refine hA1.alK fun b12 w1 _ h1 M1=>?_;have hb:Blk w1 b12 (ET.f x[x.length-dist]):=h1.own (b12,_) (Lmr _ (Lms.2 rfl));have h2:At w0 D (m++ro') w1:=h1.sub (Lsl _ _);refine appL2 h2 hv1 (rd_one hb) rfl rfl (by simp;omega) fun s2 old ro2 w2 h3 v3 M3 hcase hro2=>?_;have e1:x.getD (x.length-dist) 0=x[x.length-dist]:=by rw [Lgd,Lge hidx];rfl
  refine⟨⟨j+1,_,ro2,step64 (by omega),by omega,h3.sub ?_,v3,by simp;omega,?_,?_,?_⟩,by rw [step64 (by omega)];omega⟩
  ·exact (Lsl m old).append (List.Sublist.refl ro2)
  ·obtain⟨q,hq⟩:∃q,n-j=q+1:=⟨n-j-1,by omega⟩;have hq2:n-(j+1)=q:=by omega
   rw [hq,againN,e1] at hg;rw [hq2];exact hg
  ·refine hM.trans (M1.trans M3 (D:=Ks ro') (fun _ _ h=>h.elim) fun _ _ h=>h) (fun _ _ h=>h) fun z hz hkz=>?_;rcases hro z hkz with h | h
   ·exact h
   ·omega
  ·intro y hy;rcases hro2 y hy with h | h
   ·exact hro y h
   ·right;have:=hM.size;have:=M1.size;omega
 ·have hge:n≤j:=dge h;have:j=n:=by omega
  subst this;rw [Nat.sub_self] at hg;simp only [againN] at hg;rw [hg] at hv1;exact hk _ _ ⟨ro',hA1,hv1,hM⟩
theorem none_ok{w:World}{s:Sl}{d n:Int}{K:Bool→Wp}(hK:∀w',Mod F0 w w'→K (decide (d=0∧n=0)) w'):callK Pg c_67 [.agg [.sl s,.int .i64 d,.int .i64 n]] w Ob K:=by
 refine go_67 _ _ _ _ _ ?_;refine (At.init w F0).alK fun b w1 _ h1 _=>?_;refine join1 (a:=.bool) (fun c u=>c=decide (d=0∧n=0)∧u=w1) ?_ (by rintro c u ⟨rfl,rfl⟩;exact hK _ h1.mod);intro k hk;refine h1.ld 0 (k:=Ki) d rfl rfl (Iq (fun h=>h1.ld 0 (k:=Ki) n rfl rfl (hk _ _ ⟨?_,rfl⟩)) fun h=>hk _ _ ⟨?_,rfl⟩)
 ·have h:d=0:=by simpa using h
  rw [Bei,beq_iff_eq,Det];simp [h]
 ·have h:d≠0:=by simpa using h
  exact (Dcf fun q=>h q.1).symm
theorem right_ok{w:World}{s:Sl}{lit:Str}(hl:s.len=lit.length){d n:Int}{m:Nat}{last:Bool}{K:Bool→Wp}(hK:∀w',Mod F0 w w'→K (rightT lit d n m last) w') :
  callK Pg c_68 [.agg [.sl s,.int .i64 d,.int .i64 n],Ai (m:Int),Ab last] w Ob K:=by
 refine go_68 _ _ _ _ _ _ _ ?_;refine (At.init w F0).alK fun b w1 _ h1 _=>?_;refine h1.ld 0 (k:=.sl) s rfl rfl (h1.ld 0 (k:=Ki) d rfl rfl (h1.ld 0 (k:=Ki) n rfl rfl (none_ok fun w2 M2=>?_)));have h2:=h1.keep0 M2 fun _=>id;unfold rightT at hK;refine Iq (fun h=>?_) fun h=>?_
 ·have h:=odt h;rw [if_pos h] at hK;refine join1 (a:=.bool) (fun c u=>c=(last&&decide (0<lit.length))∧u=w2) ?_ (by rintro c u ⟨rfl,rfl⟩;exact hK _ h2.mod);intro k hk;refine Iq (fun hl2=>h2.ld 0 (k:=.sl) s rfl rfl (hk _ _ ⟨?_,rfl⟩)) fun hl2=>hk _ _ ⟨by rw [hl2];rfl,rfl⟩;rw [hl2,Bool.true_and,hl,Bei,Det,Det];omega
 ·have h:=odf h;rw [if_neg h] at hK;refine join1 (a:=.bool) (fun c u=>c=decide (4≤n∧n≤259∧1≤d∧d≤((min 32768 m:Nat):Int))∧u=w2) ?_ (by rintro c u ⟨rfl,rfl⟩;exact hK _ h2.mod);intro k hk;refine h2.ld 0 (k:=Ki) n rfl rfl (Iq (fun q1=>?_) fun q1=>hk _ _ ⟨?_,rfl⟩)
  ·have q1:(4:Int)≤n:=odt q1;refine h2.ld 0 (k:=Ki) n rfl rfl (Iq (fun q2=>?_) fun q2=>hk _ _ ⟨?_,rfl⟩)
   ·have q2:n≤(259:Int):=odt q2;refine h2.ld 0 (k:=Ki) d rfl rfl (Iq (fun q3=>?_) fun q3=>hk _ _ ⟨?_,rfl⟩)
    ·have q3:(1:Int)≤d:=odt q3;refine h2.ld 0 (k:=Ki) d rfl rfl (hk _ _ ⟨?_,rfl⟩);have e:(32768:Int)=((32768:Nat):Int):=rfl;rw [e,mn_nat];show decide (d≤((min 32768 m:Nat):Int))=_;rw [Bei,Det,Det];exact⟨fun h=>⟨q1,q2,q3,h⟩,fun h=>h.2.2.2⟩
    ·have q3:¬(1:Int)≤d:=odf q3;exact (Dcf fun q=>q3 q.2.2.1).symm
   ·have q2:¬n≤(259:Int):=odf q2;exact (Dcf fun q=>q2 q.2.1).symm
  ·have q1:¬(4:Int)≤n:=odf q1;exact (Dcf fun q=>q1 q.1).symm
theorem perm_last{α:Type}(A B C:List α):((A++B)++C).Perm ((A++C)++B):=perm_tail3 A B C
theorem decode1_ok{w0 w:World}{D:Nat→Prop}{m roT:BL}{bt:Nat}{sT:Sl}{text:Str}(hA:At w0 D ((m++roT)++[(bt,[LV.toV (.sl sT)])]) w)(hv:VecL roT ET sT text){sl:Sl}{lit:Str}(hr:RdS w ET sl lit){d n:Nat}
  (hd:n≠0→1≤d∧d≤text.length+lit.length) (hn:n≤1048576) (ht:text.length+lit.length≤1048576) {K:Wp}
  (hK:∀w' roT' sT',At w0 D ((m++roT')++[(bt,[LV.toV (.sl sT')])]) w'→VecL roT' ET sT' (againN d n (text++lit))→K w') :
  callK Pg c_69 [.agg [.sl sl,.int .i64 (d:Int),.int .i64 (n:Int)],Ap (some (bt,0))] w (.tup []) K:=by
 refine go_69 _ _ _ _ _ _ _ ?_;refine hA.alK fun b6 w1 _ h1 M1=>?_;have hB6:Blk w1 b6 [LV.toV (.sl sl),.int .i64 (d:Int),.int .i64 (n:Int)]:=h1.own (b6,_) (Lmr _ (Lms.2 rfl));have hBt:Blk w1 bt [LV.toV (.sl sT)]:=h1.own (bt,_) (by simp);have h2:At w0 D (((m++[(bt,[LV.toV (.sl sT)])])++[(b6,[LV.toV (.sl sl),.int .i64 (d:Int),.int .i64 (n:Int)])])++roT) w1:=by
  refine h1.perm ?_;show List.Perm _ (((m++roT)++[(bt,[LV.toV (.sl sT)])])++[(b6,[LV.toV (.sl sl),.int .i64 (d:Int),.int .i64 (n:Int)])]);refine (perm_last _ _ _).trans (List.Perm.append_right _ ?_);exact perm_last _ _ _
 have nt:¬Ks roT bt:=h2.notKs (p:=(bt,[LV.toV (.sl sT)])) (by simp);have n6:¬Ks roT b6:=h2.notKs (p:=(b6,_)) (Lmr _ (Lms.2 rfl));refine⟨Ks roT,?_⟩;have h3:=h2.drew;have M3:=Mq w1;refine (M3.blk hBt id).ldDK (k:=.sl) sT nt rfl ((M3.blk hB6 id).ldDK (k:=.sl) sl n6 rfl ((M3.blk hB6 id).ldDK (k:=Ki) (d:Int) n6 rfl ((M3.blk hB6 id).ldDK (k:=Ki) (n:Int) n6 rfl ?_)));have hr3:=(hr.quiet M1).quiet M3;refine appL2 h3 hv hr3 rfl rfl (by omega) fun s2 old ro2 w2 h4 v2 M4 _ hro2=>⟨M4,?_⟩;have h5:At w0 D (((m++[(bt,[LV.toV (.sl sT)])])++[(b6,[LV.toV (.sl sl),.int .i64 (d:Int),.int .i64 (n:Int)])])++ro2) w2:=h4.sub ((Lsl _ old).append (List.Sublist.refl _));refine again_ok h5 v2 (fun h=>by rw [Lla];exact hd h) hn (by rw [Lla];omega) fun s3 ro3 w3 h6 v3 M6=>⟨?_,?_⟩
 ·refine M4.trans M6 (fun _ _ h=>h) fun z hz hk=>?_;rcases hro2 z hk with h | h
  ·exact h
  ·omega
 ·have h7:At w0 D ((m++ro3)++[(bt,[LV.toV (.sl sT)])]) w3:=by
   have h8:At w0 D ((m++[(bt,[LV.toV (.sl sT)])])++ro3) w3:=h6.sub ((Lsl _ _).append (List.Sublist.refl _));exact h8.perm (perm_last _ _ _)
  exact At.last h7 (Nlr 1) fun w' h'=>hK w' ro3 s3 h' v3
structure LzAt(w0:World)(bt bc:Nat)(sC:Sl)(roC X:BL)(w:World)(text:Str)(c:Cu):Prop where
 ex:∃roT sT,At w0 (fun b=>b=bt) ((((X++roC)++roT)++[(bt,[LV.toV (.sl sT)])])++[(bc,CurC sC c)]) w∧VecL roT ET sT text
 vc:VecL roC ET sC c.b
 ok:c.Ok
section
variable {w0 w w':World}{bt bc:Nat}{sC:Sl}{roC X:BL}{text:Str}{c:Cu}
theorem LzAt.cur(h:LzAt w0 bt bc sC roC X w text c):CurAt w bc sC c:=by
 obtain⟨roT,sT,hA,hv⟩:=h.ex;refine⟨hA.own (bc,_) (Lmr _ (Lms.2 rfl)),h.vc.rd fun p hp=>hA.own p (by simp [hp]),?_,h.ok⟩;rintro b ⟨_,hk⟩ rfl;obtain⟨q,hq,e⟩:=h.vc.key hk;have hnd:=hA.nodup;rw [List.map_append,List.nodup_append] at hnd;exact hnd.2.2 q.1 (List.mem_map_of_mem (by simp [hq])) b (by simp) e
theorem LzAt.quiet(h:LzAt w0 bt bc sC roC X w text c)(hM:Mod F0 w w'):LzAt w0 bt bc sC roC X w' text c:=by
 obtain⟨roT,sT,hA,hv⟩:=h.ex;exact⟨⟨roT,sT,hA.keep0 hM fun _=>id,hv⟩,h.vc,h.ok⟩
theorem LzAt.upd(h:LzAt w0 bt bc sC roC X w text c){c':Cu}{ro:BL}(hc:CurAt w' bc sC c')(hb:c'.b=c.b)(hF:Fresh w w' (fun b=>b=bc) ro):LzAt w0 bt bc sC roC (X++ro) w' text c':=by
 obtain⟨roT,sT,hA,hv⟩:=h.ex;have h2:=hA.updF hF hc.blk;refine⟨⟨roT,sT,h2.perm ?_,hv⟩,by rw [hb];exact h.vc,hc.ok⟩;simp only [Laa];refine List.Perm.append_left X ?_;have:(roC++(roT++([(bt,[LV.toV (.sl sT)])]++([(bc,CurC sC c')]++ro))))=(roC++(roT++([(bt,[LV.toV (.sl sT)])]++[(bc,CurC sC c')])))++ro:=by simp
 rw [this];exact Lpc
theorem LzAt.blkX(h:LzAt w0 bt bc sC roC X w text c){p:Nat×List Value}(hp:p∈X):Blk w p.1 p.2:=by
 obtain⟨roT,sT,hA,hv⟩:=h.ex;exact hA.own p (by simp [hp])
theorem LzAt.alK(h:LzAt w0 bt bc sC roC X w text c){e:TypeId}{cs:List LV}{K:Nat→Wp}(hK:∀b w',LzAt w0 bt bc sC roC (X++[(b,cs.map LV.toV)]) w' text c→Mod F0 w w'→K b w'):Go.Vw.al w e cs K:=by
 obtain⟨roT,sT,hA,hv⟩:=h.ex;refine hA.alK fun b w2 _ h2 M2=>hK b w2 ⟨⟨roT,sT,h2.perm ?_,hv⟩,h.vc,h.ok⟩ M2;simp only [Laa];refine List.Perm.append_left X ?_;have:(roC++(roT++([(bt,[LV.toV (.sl sT)])]++([(bc,CurC sC c)]++[(b,cs.map LV.toV)]))))=(roC++(roT++([(bt,[LV.toV (.sl sT)])]++[(bc,CurC sC c)])))++[(b,cs.map LV.toV)]:=by simp
 rw [this];exact Lpc
theorem LzAt.stK{b:Nat}{x:List Value}(h:LzAt w0 bt bc sC roC (X++[(b,x)]) w text c){o:Nat}{vs:List LV}(hl:o+vs.length≤x.length){K:Wp}(hK:∀w',LzAt w0 bt bc sC roC (X++[(b,spl x o (vs.map LV.toV))]) w' text c→Mod (fun z=>z=b) w w'→K w'):Go.Vw.st w b o vs K:=by
 obtain⟨roT,sT,hA,hv⟩:=h.ex;have hb:=h.blkX (p:=(b,x)) (by simp);have h1:At w0 (fun b=>b=bt) ((((X++roC)++roT)++[(bt,[LV.toV (.sl sT)])]++[(bc,CurC sC c)])++[(b,x)]) w:=by
  refine hA.perm ?_;simp only [Laa];refine List.Perm.append_left X ?_;have:(roC++(roT++([(bt,[LV.toV (.sl sT)])]++([(bc,CurC sC c)]++[(b,x)]))))=(roC++(roT++([(bt,[LV.toV (.sl sT)])]++[(bc,CurC sC c)])))++[(b,x)]:=by simp
  rw [this];exact Lpc
 refine hb.stK hl fun w2 h2 M2=>hK w2 ⟨⟨roT,sT,?_,hv⟩,h.vc,h.ok⟩ M2;have hnd:=h1.nodup;have h3:=h1.updF (Fresh.none M2) h2;rw [Lan] at h3;refine h3.perm ?_;simp only [Laa];refine List.Perm.append_left X ?_;have:(roC++(roT++([(bt,[LV.toV (.sl sT)])]++([(bc,CurC sC c)]++[(b,spl x o (vs.map LV.toV))]))))=(roC++(roT++([(bt,[LV.toV (.sl sT)])]++[(bc,CurC sC c)])))++[(b,spl x o (vs.map LV.toV))]:=by simp
 rw [this];exact Lpc
end
theorem num_range(c:Cu)(m:Int):0≤(c.num m).1∧(0≤m→(c.num m).1≤m):=by
 unfold Cu.num;by_cases he:c.e≠0
 ·rw [if_pos he];exact⟨Int.le_refl _,fun h=>h⟩
 rw [if_neg he];simp only;by_cases h0:(getN c.left).2.2=0∧m<((getN c.left).1:Int)
 ·rw [if_pos h0];simp
 ·rw [if_neg h0];by_cases h2:(getN c.left).2.2=0
  ·rw [if_pos h2];refine⟨Int.natCast_nonneg _,fun _=>?_⟩;have:¬m<((getN c.left).1:Int):=fun q=>h0 ⟨h2,q⟩;show ((getN c.left).1:Int)≤m;omega
  ·rw [if_neg h2];exact⟨Int.le_refl _,fun h=>h⟩
theorem num_b(c:Cu)(m:Int):(c.num m).2.b=c.b:=by
 unfold Cu.num;split
 ·rfl
 ·exact Cu.go_55 c _ _
theorem take_b(c:Cu)(m:Int):(c.take m).2.b=c.b:=by
 unfold Cu.take;split
 ·rfl
 ·exact Cu.go_55 c _ _
theorem take_len(c:Cu)(hc:c.Ok)(m:Int):(c.take m).1.length≤1099511627776:=by
 have hl:c.left.length≤1099511627776:=by
  unfold Cu.left;rw [Lld];have:=hc.len;omega
 by_cases he:c.e=0
 ·rw [Cu.take_eq he];by_cases h0:takeE m c.left.length=0
  ·rw [if_pos h0];show (c.left.take m.toNat).length≤_;rw [Llt];omega
  ·rw [if_neg h0];exact Nzl _
 ·unfold Cu.take;rw [if_pos he];exact Nzl _
def tokC(s:Sl)(d n:Int):List Value:=[(LV.sl s).toV,.int .i64 d,.int .i64 n]
theorem lzOk_spec{n made:Nat}{x:Str×Int×Int×Cu}(h:lzOk n made x=true):(x.2.2.1.toNat≠0→1≤x.2.1.toNat∧x.2.1.toNat≤made+x.1.length)∧x.2.1=(x.2.1.toNat:Int)∧x.2.2.1=(x.2.2.1.toNat:Int)∧made+x.1.length+x.2.2.1.toNat≤n∧made<made+x.1.length+x.2.2.1.toNat∧x.2.2.1.toNat≤259:=by
 obtain⟨lit,d,l,c⟩:=x;unfold lzOk rightT at h;simp only [Bat,Det] at h;obtain⟨⟨⟨_,h2⟩,h3⟩,_⟩:=h;simp only;split at h2
 ·rename_i hz;simp only [Bat,Det] at h2;obtain⟨rfl,rfl⟩:=hz;simp;omega
 ·rw [Det] at h2;omega
theorem lzRun_step{n k:Nat}{text:Str}{c:Cu}(hr:c.rest≠0):lzRun n (k+1) text c=if lzOk n text.length (lzTok n text.length c) then lzRun n k (againN (lzTok n text.length c).2.1.toNat (lzTok n text.length c).2.2.1.toNat (text++(lzTok n text.length c).1)) (lzTok n text.length c).2.2.2 else none:=by
 rw [lzRun,if_neg hr]
theorem lzTok_b(n made:Nat)(c:Cu):(lzTok n made c).2.2.2.b=c.b:=by
 unfold lzTok;simp only;split
 ·rw [num_b,num_b,take_b,num_b]
 ·rw [take_b,num_b]
set_option maxHeartbeats 1000000 in
theorem lzread_ok{w:World}{sB:Sl}{b:Str}(hr:RdS w ET sB b)(hl:b.length≤1099511627776){n:Nat}(hn:n≤65536){bt:Nat}(hbt:Blk w bt [LV.toV (.sl ⟨none,0,0⟩)]){K:Bool→Wp}
  (hK:∀w' ro s',(lzDec b n=none∨∃x,lzDec b n=some x∧Blk w' bt [LV.toV (.sl s')]∧VecL ro ET s' x)→Fresh w w' (fun z=>z=bt) ro→K (lzDec b n).isSome w') :
  callK Pg c_70 [Az sB,Ai (n:Int),.leaf (.val (.func (.func c_69) #[] #[(LV.toV (.ptr (some (bt,0))))]))] w Ob K:=by
 refine go_70 _ _ _ _ _ ?_;refine newCursor_ok hr hl fun w1 bc sC roC hc1 hA1 hvC=>?_;have hltt:=hbt.lt;have h0:LzAt w bt bc sC roC [] w1 [] ⟨b,0,0⟩:=by
  refine⟨⟨[],⟨none,0,0⟩,?_,VecL.nil ET⟩,hvC,hc1.ok⟩;have h1:At w (fun z=>z=bt) (roC++[(bc,CurC sC ⟨b,0,0⟩)]) w1:=hA1.weaken fun _ _ h=>h.elim;have h2:=h1.add (b:=bt) (hA1.mod.blk hbt id) (fun p hp e=>by
   have:=hA1.wr p hp;rw [e] at this;exact this hltt) (fun _=>rfl)
  refine h2.perm ?_;simp only [List.nil_append,Lan,Laa];exact List.Perm.append_left roC (List.Perm.swap _ _ _)
 have none_fin:lzDec b n=none→∀w',Mod (fun z=>z=bt) w w'→K false w':=fun h w' hM=>by
  have:=hK w' [] ⟨none,0,0⟩ (.inl h) (Fresh.none hM);rw [h] at this;exact this
 refine join1 (a:=Ki) (fun (made:Int) u=>∃(text:Str) (c:Cu),made=(text.length:Int)∧text.length≤n∧LzAt w bt bc sC roC [] u text c∧c.rest=0∧lzDec b n=(if text.length=n∧c.done.1=0 then some text else none)) ?_ ?_
 ·intro k6 hk6;refine loop1 (k:=Ki) (fun (made:Int) u=>∃(text:Str) (c:Cu) (k:Nat),made=(text.length:Int)∧text.length≤n∧LzAt w bt bc sC roC [] u text c∧n-text.length<k∧lzRun n k text c=lzDec b n) (fun made _=>(n-made).toNat) (x:=0) rfl ⟨[],⟨b,0,0⟩,n+1,rfl,Nzl _,h0,by simp,rfl⟩ ?_;rintro made u ⟨text,c,k,rfl,htn,hS,hk,hrun⟩;obtain⟨k,rfl⟩:∃q,k=q+1:=⟨k-1,by omega⟩;refine rest_ok hS.cur fun w2 _ M2=>?_;have h2:=hS.quiet M2;refine Iq (fun hrest=>?_) fun hrest=>?_;rotate_left
  ·have hrest:c.rest=0:=dzero hrest;refine hk6 _ _ ⟨text,c,rfl,htn,h2,hrest,?_⟩;rw [←hrun,lzRun,if_pos hrest]
  have hrest:0<c.rest:=dpos hrest;rw [lzRun_step (by omega)] at hrun;generalize hx:lzTok n text.length c=x at hrun;have hxb:=lzTok_b n text.length c;rw [hx] at hxb;have e1:w64 ((n:Int)-(text.length:Int))=(n:Int)-(text.length:Int):=Wq (by omega) (by omega);rw [e1];unfold lzTok at hx;dsimp only at hx;refine num_ok h2.cur fun w3 c3 M3=>?_;have h3:=h2.upd c3 (num_b _ _) (Fresh.none M3);generalize c.num ((n:Int)-(text.length:Int))=y1 at hx c3 h3;refine take_ok h3.cur fun w4 ro sL c4 v4 F4=>?_;have h4:=h3.upd c4 (take_b _ _) F4;have hll:=take_len y1.2 h3.ok y1.1;generalize y1.2.take y1.1=y2 at hx c4 h4 v4 hll;refine h4.alK fun b16 w5 h5 _=>?_;refine h5.stK (Nlr 3) fun w6 h6 _=>?_;have h6:LzAt w bt bc sC roC (ro++[(b16,tokC sL 0 0)]) w6 text y2.2:=h6;refine (h6.blkX (p:=(b16,tokC sL 0 0)) (by simp)).ldK (k:=.sl) sL rfl ?_;refine rest_ok h6.cur fun w7 _ M7=>?_;have h7:=h6.quiet M7;have em:w64 ((text.length:Int)+(sL.len:Int))=((text.length+y2.1.length:Nat):Int):=by rw [v4.1,Wq (by omega) (by omega)];omega
  rw [em];refine join0 (fun v=>LzAt w bt bc sC roC (ro++[(b16,tokC sL x.2.1 x.2.2.1)]) v text x.2.2.2∧x.1=y2.1) ?_ ?_
  ·intro k22 hk22;refine Iq (fun hq=>?_) fun hq=>?_
   ·have hq:0<y2.2.rest:=dpos hq;simp only [if_pos hq] at hx;refine num_ok h7.cur fun w8 c8 M8=>?_;have h8:=h7.upd c8 (num_b _ _) (Fresh.none M8);rw [Lan] at h8;have r8:=num_range y2.2 255;generalize y2.2.num 255=z at hx c8 h8 r8;have ez:w64 (z.1+4)=z.1+4:=Wq (by omega) (by have:=r8.2 (by decide);omega);rw [ez];refine h8.stK (by decide:2+1≤3) fun w9 h9 _=>?_;have e32:(32768:Int)=((32768:Nat):Int):=rfl;rw [e32,mn_nat];refine num_ok h9.cur fun w10 c10 M10=>?_;have h10:=h9.upd c10 (num_b _ _) (Fresh.none M10);rw [Lan] at h10;refine h10.stK (by decide:1+1≤3) fun w11 h11 _=>hk22 _ ?_;rw [←hx];exact⟨h11,rfl⟩
   ·have hq:y2.2.rest=0:=dzero hq;have hq':¬0<y2.2.rest:=by omega
    simp only [if_neg hq'] at hx;refine hk22 _ ?_;rw [←hx];exact⟨h7,rfl⟩
  rintro w12 ⟨h12,hx1⟩;clear h4 h5 h6 h7 c4 c3;refine end_ok h12.cur fun w13 _ M13=>?_;have h13:=h12.quiet M13;refine h13.alK fun b33 w14 h14 _=>?_;refine h14.stK (Nlr 2) fun w15 h15 _=>?_;have h15:LzAt w bt bc sC roC ((ro++[(b16,tokC sL x.2.1 x.2.2.1)])++[(b33,[.int .i64 x.2.2.2.done.1,.int .i64 x.2.2.2.done.2])]) w15 text x.2.2.2:=h15;have hB33:=h15.blkX (p:=(b33,[.int .i64 x.2.2.2.done.1,.int .i64 x.2.2.2.done.2])) (by simp);have hM15:Mod (fun z=>z=bt) w w15→True:=fun _=>trivial;have modW:∀{X:BL} {v:World} {t:Str} {cc:Cu},LzAt w bt bc sC roC X v t cc→Mod (fun z=>z=bt) w v:=fun h=>by
   obtain⟨_,_,hA,_⟩:=h.ex;exact hA.mod
  refine join1 (a:=.bool) (fun q v=>q = !(x.2.2.2.done.1==0||x.2.2.2.done.1==22)∧v=w15) ?_ ?_
  ·intro k36 hk36;refine hB33.ldK (k:=Ki) x.2.2.2.done.1 rfl (Iq (fun hq=>?_) fun hq=>?_)
   ·refine hB33.ldK (k:=Ki) x.2.2.2.done.1 rfl (hk36 _ _ ⟨?_,rfl⟩);have hq:(x.2.2.2.done.1==0)=false:=by simpa using hq
    rw [hq,Bool.false_or];rfl
   ·refine hk36 _ _ ⟨?_,rfl⟩;have hq:(x.2.2.2.done.1==0)=true:=by simpa using hq
    rw [hq];rfl
  rintro q v ⟨rfl,rfl⟩;refine Iq (fun hq=>?_) fun hq=>?_
  ·have hno:lzOk n text.length x=false:=by
    unfold lzOk;have:(x.2.2.2.done.1==0||x.2.2.2.done.1==22)=false:=by simpa using hq
    rw [this];rfl
   rw [hno] at hrun;exact none_fin hrun.symm _ (modW h15)
  have hq1:(x.2.2.2.done.1==0||x.2.2.2.done.1==22)=true:=by
   cases hE:(x.2.2.2.done.1==0||x.2.2.2.done.1==22) with
   | true=>rfl
   | false=>rw [hE] at hq;cases hq
  have hB16:=h15.blkX (p:=(b16,tokC sL x.2.1 x.2.2.1)) (by simp);refine join1 (a:=.bool) (fun q u=>q = !lzOk n text.length x∧LzAt w bt bc sC roC ((ro++[(b16,tokC sL x.2.1 x.2.2.1)])++[(b33,[.int .i64 x.2.2.2.done.1,.int .i64 x.2.2.2.done.2])]) u text x.2.2.2) ?_ ?_
  ·intro k41 hk41;have hd:=h15.quiet (Mq v);have hB:=(Mq v).blk hB16 id;refine⟨F0,hB.ldDK (k:=.sl) sL id rfl (hB.ldDK (k:=Ki) x.2.1 id rfl (hB.ldDK (k:=Ki) x.2.2.1 id rfl (rest_ok hd.cur fun w17 _ M17=>⟨M17,?_⟩)))⟩;have e17:(((x.2.2.2.rest:Nat):Int)==0)=(x.2.2.2.rest==0):=by rw [Bei,beq_iff_eq,beq_iff_eq];omega
   rw [e17];refine right_ok (lit:=x.1) (by rw [hx1];exact v4.1) fun w18 M18=>⟨mod0 M17 M18,?_⟩;have h18:=(hd.quiet M17).quiet M18;rw [←hx1];refine Iq (fun hr1=>?_) fun hr1=>?_
   ·refine hk41 _ _ ⟨?_,h18⟩;have hr1:rightT x.1 x.2.1 x.2.2.1 (text.length+x.1.length) (x.2.2.2.rest==0)=false:=by simpa using hr1
    unfold lzOk;simp only [hq1,hr1];rfl
   have hr1:rightT x.1 x.2.1 x.2.2.1 (text.length+x.1.length) (x.2.2.2.rest==0)=true:=by simpa using hr1
   have hrr:-100≤x.2.2.1∧x.2.2.1≤259:=by
    unfold rightT at hr1;split at hr1
    ·rename_i hz;omega
    ·rw [Det] at hr1;omega
   refine hB.ldDK (k:=Ki) x.2.2.1 id rfl ?_;have hx1l:x.1.length≤1099511627776:=by rw [hx1];exact hll
   rw [Wq (by omega) (by omega)];refine Iq (fun hr2=>?_) fun hr2=>?_
   ·have hr2:(n:Int)<((text.length+x.1.length:Nat):Int)+x.2.2.1:=odt hr2;refine hk41 _ _ ⟨?_,h18⟩;unfold lzOk;have:decide (((text.length+x.1.length:Nat):Int)+x.2.2.1≤(n:Int))=false:=Dcf (by omega);simp only [hq1,hr1,this];rfl
   have hr2:¬(n:Int)<((text.length+x.1.length:Nat):Int)+x.2.2.1:=odf hr2;refine hB.ldDK (k:=.sl) sL id rfl (hB.ldDK (k:=Ki) x.2.1 id rfl (hB.ldDK (k:=Ki) x.2.2.1 id rfl (none_ok fun w19 M19=>⟨mod0 (mod0 M17 M18) M19,?_⟩)));have h19:=h18.quiet M19;have hok:lzOk n text.length x = !(decide (x.2.1=0∧x.2.2.1=0)&&decide (text.length+x.1.length≠n)):=by
    unfold lzOk;have:decide (((text.length+x.1.length:Nat):Int)+x.2.2.1≤(n:Int))=true:=Dct (by omega);simp only [hq1,hr1,this,Bool.true_and]
   refine Iq (fun hr3=>hk41 _ _ ⟨?_,h19⟩) fun hr3=>hk41 _ _ ⟨?_,h19⟩
   ·rw [hok,hr3,Bool.true_and,Bool.not_not,Bei,bne_iff_ne,Det];omega
   ·rw [hok,hr3];rfl
  rintro q u2 ⟨rfl,h20⟩;refine Iq (fun hno=>?_) fun hyes=>?_
  ·have hno:lzOk n text.length x=false:=by simpa using hno
   rw [hno] at hrun;exact none_fin hrun.symm _ (modW h20)
  have hyes:lzOk n text.length x=true:=by simpa using hyes
  rw [if_pos hyes] at hrun;obtain⟨s1,s2,s3,s4,s5,s6⟩:=lzOk_spec hyes;have hB:=h20.blkX (p:=(b16,tokC sL x.2.1 x.2.2.1)) (by simp);refine hB.ldK (k:=Ki) x.2.2.1 rfl (hB.ldK (k:=.sl) sL rfl (hB.ldK (k:=Ki) x.2.1 rfl (hB.ldK (k:=Ki) x.2.2.1 rfl ?_)));have hX:=h20;obtain⟨roT,sT,hA,hv⟩:=h20.ex;have hrd:RdS u2 ET sL x.1:=by rw [hx1];exact v4.rd fun p hp=>h20.blkX (by simp [hp])
  generalize hY:(ro++[(b16,tokC sL x.2.1 x.2.2.1)])++[(b33,[.int .i64 x.2.2.2.done.1,.int .i64 x.2.2.2.done.2])]=Y at hA;have hA2:At w (fun z=>z=bt) ((((Y++roC)++[(bc,CurC sC x.2.2.2)])++roT)++[(bt,[LV.toV (.sl sT)])]) u2:=by
   refine hA.perm ?_;refine (List.Perm.append_right _ (perm_last (Y++roC) [(bc,CurC sC x.2.2.2)] roT)).trans ?_;exact perm_last _ _ _
  rw [s2,s3];refine callV_func (by kernel_rfl) [.agg [.sl sL,.int .i64 (x.2.1.toNat:Int),.int .i64 (x.2.2.1.toNat:Int)],Ap (some (bt,0))] rfl ?_;refine decode1_ok hA2 hv hrd s1 (by omega) (by omega) fun w21 roT' sT' hA3 hv3=>?_;rw [←hx1];have hnew:(againN x.2.1.toNat x.2.2.1.toNat (text++x.1)).length=text.length+x.1.length+x.2.2.1.toNat:=by rw [againN_length,Lla]
  have e22:w64 (((text.length+x.1.length:Nat):Int)+(x.2.2.1.toNat:Int))=((againN x.2.1.toNat x.2.2.1.toNat (text++x.1)).length:Int):=by rw [Wq (by omega) (by omega),hnew];omega
  rw [e22];refine⟨⟨_,x.2.2.2,k,rfl,by omega,⟨⟨roT',sT',?_,hv3⟩,hX.vc,hX.ok⟩,by omega,hrun⟩,by omega⟩;have h23:At w (fun z=>z=bt) (((roC++[(bc,CurC sC x.2.2.2)])++roT')++[(bt,[LV.toV (.sl sT')])]) w21:=hA3.sub ((((Lsr Y roC).append (List.Sublist.refl _)).append (List.Sublist.refl _)).append (List.Sublist.refl _));refine h23.perm ?_;rw [List.nil_append];exact (perm_last _ _ _).trans (List.Perm.append_right _ (perm_last _ _ _))
 rintro made u ⟨text,c,rfl,htn,hS,hrest,hdec⟩;have hfin:∀v,LzAt w bt bc sC roC [] v text c→K (lzDec b n).isSome v:=fun v hv=>by
  obtain⟨roT,sT,hA,hvv⟩:=hv.ex;have hA':At w (fun z=>z=bt) ((((([]:BL)++roC)++[(bt,[LV.toV (.sl sT)])])++[(bc,CurC sC c)])++roT) v:=by
   refine hA.perm ?_;exact (perm_last _ _ _).trans (List.Perm.append_right _ (perm_last _ _ _))
  have hnd:=hA'.nodup;rw [List.map_append,List.nodup_append] at hnd;refine hK v roT sT ?_ ⟨hA'.mod,fun p hp=>hA'.own p (Lmr _ hp),fun p hp=>?_,hnd.2.1⟩
  ·by_cases hc:text.length=n∧c.done.1=0
   ·right;rw [if_pos hc] at hdec;exact⟨text,hdec,hA'.own (bt,_) (by simp),hvv⟩
   ·left;rw [hdec,if_neg hc]
  ·refine Nat.not_lt.1 fun hlt=>?_;have e:=hA'.wr p (Lmr _ hp) hlt;exact hnd.2.2 bt (by simp) p.1 (List.mem_map_of_mem hp) e.symm
 refine join1 (a:=.bool) (fun q v=>q=(lzDec b n).isSome∧LzAt w bt bc sC roC [] v text c) (fun k65 hk65=>?_) (by rintro q v ⟨rfl,hv⟩;exact hfin v hv);refine Iq (fun hq=>?_) fun hq=>?_
 ·have hq:(text.length:Int)=(n:Int):=by simpa using hq
  have hq:text.length=n:=by omega
  refine end_ok hS.cur fun v _ M=>hk65 _ _ ⟨?_,hS.quiet M⟩;rw [hdec];by_cases h0:c.done.1=0
  ·rw [if_pos ⟨hq,h0⟩,h0];rfl
  ·rw [if_neg fun h=>h0 h.2];simpa using h0
 ·have hq:¬(text.length:Int)=(n:Int):=by simpa using hq
  refine hk65 _ _ ⟨?_,hS⟩;rw [hdec,if_neg fun h=>hq (by rw [h.1])];rfl
def lzD(b:Str)(n:Int):Str×Int:=if n<0∨65536<n then ([],3) else match lzDec b n.toNat with
 | none=>([],30)
 | some x=>(x,0)
theorem lzDecode_ok{w:World}{sB:Sl}{b:Str}(hr:RdS w ET sB b)(hl:b.length≤1099511627776){n:Int}{K:Sl→Int→Wp}
  (hK:∀w' ro s',VecL ro ET s' (lzD b n).1→Fresh w w' F0 ro→K s' (lzD b n).2 w') :
  callK Pg c_71 [Az sB,Ai n] w (.tup [Ls,Li]) K:=by
 refine go_71 _ _ _ _ ?_;refine join1 (a:=.bool) (fun q v=>q=decide (n<0∨65536<n)∧v=w) ?_ ?_
 ·intro k hk;refine Iq (fun h=>hk _ _ ⟨?_,rfl⟩) fun h=>hk _ _ ⟨?_,rfl⟩
  ·have h:n<0:=odt h;exact (Dct (.inl h)).symm
  ·have h:¬n<0:=odf h;show decide (65536<n)=_;rw [Bei,Det,Det];omega
 rintro q v ⟨rfl,rfl⟩;refine Iq (fun h=>?_) fun h=>?_
 ·have h:=odt h;have e:lzD b n=([],3):=if_pos h;rw [e] at hK;exact hK v [] _ (VecL.nil ET) (Fresh.none (Mod.refl _ _))
 have h:=odf h;obtain⟨k,rfl⟩:∃k:Nat,n=(k:Int):=⟨n.toNat,by omega⟩;refine (At.init v F0).alK fun b6 w1 hb6 h1 M1=>?_;have hB:Blk w1 b6 [LV.toV (.sl ⟨none,0,0⟩)]:=h1.blk (i:=0) rfl;refine lzread_ok (hr.quiet M1) hl (by omega) hB fun w2 ro s' hcase hF=>?_;have hD:lzD b (k:Int)=match lzDec b k with
   | none=>([],30)
   | some x=>(x,0):=by unfold lzD;rw [if_neg h];rfl
 have hM:Mod F0 v w2:=M1.trans hF.mod (fun _ _ h=>h) fun z hz e=>by omega
 refine Iq (fun hq=>?_) fun hq=>?_
 ·have hn:lzDec b k=none:=by
   cases hx:lzDec b k with
   | none=>rfl
   | some x=>rw [hx] at hq;cases hq
  rw [hn] at hD;rw [hD] at hK;exact hK w2 [] _ (VecL.nil ET) (Fresh.none hM)
 ·rcases hcase with hn | ⟨x,hx,hb,hv⟩
  ·rw [hn] at hq;cases hq
  rw [hx] at hD;rw [hD] at hK;exact hb.ldK (k:=.sl) s' rfl (hK w2 ro s' hv ⟨hM,hF.own,fun p hp=>Nat.le_trans M1.size (hF.new p hp),hF.nodup⟩)
end Go.Proofs.YtoegpmjoajipcaaGreatDoor
namespace Go.Vw
def mu4(k1 k2 k3 k4:Kd)(μ:Den k1→Den k2→Den k3→Den k4→World→Nat):List LV→World→Nat
 | [y1,y2,y3,y4],w=>match y1.as k1,y2.as k2,y3.as k3,y4.as k4 with
  | some x1,some x2,some x3,some x4=>μ x1 x2 x3 x4 w
  | _,_,_,_=>0
 | _,_=>0
theorem loop4{k1 k2 k3 k4:Kd}{B:Den k1→Den k2→Den k3→Den k4→World→(Den k1→Den k2→Den k3→Den k4→Wp)→Prop}{y1 y2 y3 y4:LV}{w:World}(I:Den k1→Den k2→Den k3→Den k4→Wp)(μ:Den k1→Den k2→Den k3→Den k4→World→Nat){x1:Den k1}{x2:Den k2}{x3:Den k3}{x4:Den k4}(hy1:y1.as k1=some x1)(hy2:y2.as k2=some x2)(hy3:y3.as k3=some x3)(hy4:y4.as k4=some x4)(h0:I x1 x2 x3 x4 w)
  (hs:∀x1 x2 x3 x4 w,I x1 x2 x3 x4 w→B x1 x2 x3 x4 w fun z1 z2 z3 z4 w'=>I z1 z2 z3 z4 w'∧μ z1 z2 z3 z4 w'<μ x1 x2 x3 x4 w):loopL [k1,k2,k3,k4] B [y1,y2,y3,y4] w:=
 ⟨fun l w=>∃y1 x1 y2 x2 y3 x3 y4 x4,l=[y1,y2,y3,y4]∧y1.as k1=some x1∧y2.as k2=some x2∧y3.as k3=some x3∧y4.as k4=some x4∧I x1 x2 x3 x4 w,mu4 k1 k2 k3 k4 μ,⟨y1,x1,y2,x2,y3,x3,y4,x4,rfl,hy1,hy2,hy3,hy4,h0⟩,fun l w hI=>by
  obtain⟨y1,x1,y2,x2,y3,x3,y4,x4,rfl,hx1,hx2,hx3,hx4,hI⟩:=hI;have:=hs x1 x2 x3 x4 w hI;simp only [app,lam,hx1,hx2,hx3,hx4];have he:(fun (z1:Den k1) (z2:Den k2) (z3:Den k3) (z4:Den k4) (w':World)=>(∃y1 x1 y2 x2 y3 x3 y4 x4,[LV.mk k1 z1,LV.mk k2 z2,LV.mk k3 z3,LV.mk k4 z4]=[y1,y2,y3,y4]∧y1.as k1=some x1∧y2.as k2=some x2∧y3.as k3=some x3∧y4.as k4=some x4∧I x1 x2 x3 x4 w')∧mu4 k1 k2 k3 k4 μ [LV.mk k1 z1,LV.mk k2 z2,LV.mk k3 z3,LV.mk k4 z4] w'<mu4 k1 k2 k3 k4 μ [y1,y2,y3,y4] w)=fun z1 z2 z3 z4 w'=>I z1 z2 z3 z4 w'∧μ z1 z2 z3 z4 w'<μ x1 x2 x3 x4 w:=by
   funext z1 z2 z3 z4 w';simp only [mu4,LV.as_mk,hx1,hx2,hx3,hx4,eq_iff_iff];constructor
   ·rintro ⟨⟨y1,x1,y2,x2,y3,x3,y4,x4,h1,e1,e2,e3,e4,h5⟩,h6⟩;cases h1;rw [LV.as_mk] at e1 e2 e3 e4;cases e1;cases e2;cases e3;cases e4;exact⟨h5,h6⟩
   ·rintro ⟨h1,h2⟩;exact⟨⟨_,z1,_,z2,_,z3,_,z4,rfl,LV.as_mk k1 z1,LV.as_mk k2 z2,LV.as_mk k3 z3,LV.as_mk k4 z4,h1⟩,h2⟩
  rw [he];exact this⟩
def mu5(k1 k2 k3 k4 k5:Kd)(μ:Den k1→Den k2→Den k3→Den k4→Den k5→World→Nat):List LV→World→Nat
 | [y1,y2,y3,y4,y5],w=>match y1.as k1,y2.as k2,y3.as k3,y4.as k4,y5.as k5 with
  | some x1,some x2,some x3,some x4,some x5=>μ x1 x2 x3 x4 x5 w
  | _,_,_,_,_=>0
 | _,_=>0
theorem loop5{k1 k2 k3 k4 k5:Kd}{B:Den k1→Den k2→Den k3→Den k4→Den k5→World→(Den k1→Den k2→Den k3→Den k4→Den k5→Wp)→Prop}{y1 y2 y3 y4 y5:LV}{w:World}(I:Den k1→Den k2→Den k3→Den k4→Den k5→Wp)(μ:Den k1→Den k2→Den k3→Den k4→Den k5→World→Nat){x1:Den k1}{x2:Den k2}{x3:Den k3}{x4:Den k4}{x5:Den k5}(hy1:y1.as k1=some x1)(hy2:y2.as k2=some x2)(hy3:y3.as k3=some x3)(hy4:y4.as k4=some x4)(hy5:y5.as k5=some x5)(h0:I x1 x2 x3 x4 x5 w)
  (hs:∀x1 x2 x3 x4 x5 w,I x1 x2 x3 x4 x5 w→B x1 x2 x3 x4 x5 w fun z1 z2 z3 z4 z5 w'=>I z1 z2 z3 z4 z5 w'∧μ z1 z2 z3 z4 z5 w'<μ x1 x2 x3 x4 x5 w):loopL [k1,k2,k3,k4,k5] B [y1,y2,y3,y4,y5] w:=
 ⟨fun l w=>∃y1 x1 y2 x2 y3 x3 y4 x4 y5 x5,l=[y1,y2,y3,y4,y5]∧y1.as k1=some x1∧y2.as k2=some x2∧y3.as k3=some x3∧y4.as k4=some x4∧y5.as k5=some x5∧I x1 x2 x3 x4 x5 w,mu5 k1 k2 k3 k4 k5 μ,⟨y1,x1,y2,x2,y3,x3,y4,x4,y5,x5,rfl,hy1,hy2,hy3,hy4,hy5,h0⟩,fun l w hI=>by
  obtain⟨y1,x1,y2,x2,y3,x3,y4,x4,y5,x5,rfl,hx1,hx2,hx3,hx4,hx5,hI⟩:=hI;have:=hs x1 x2 x3 x4 x5 w hI;simp only [app,lam,hx1,hx2,hx3,hx4,hx5];have he:(fun (z1:Den k1) (z2:Den k2) (z3:Den k3) (z4:Den k4) (z5:Den k5) (w':World)=>(∃y1 x1 y2 x2 y3 x3 y4 x4 y5 x5,[LV.mk k1 z1,LV.mk k2 z2,LV.mk k3 z3,LV.mk k4 z4,LV.mk k5 z5]=[y1,y2,y3,y4,y5]∧y1.as k1=some x1∧y2.as k2=some x2∧y3.as k3=some x3∧y4.as k4=some x4∧y5.as k5=some x5∧I x1 x2 x3 x4 x5 w')∧mu5 k1 k2 k3 k4 k5 μ [LV.mk k1 z1,LV.mk k2 z2,LV.mk k3 z3,LV.mk k4 z4,LV.mk k5 z5] w'<mu5 k1 k2 k3 k4 k5 μ [y1,y2,y3,y4,y5] w)=fun z1 z2 z3 z4 z5 w'=>I z1 z2 z3 z4 z5 w'∧μ z1 z2 z3 z4 z5 w'<μ x1 x2 x3 x4 x5 w:=by
   funext z1 z2 z3 z4 z5 w';simp only [mu5,LV.as_mk,hx1,hx2,hx3,hx4,hx5,eq_iff_iff];constructor
   ·rintro ⟨⟨y1,x1,y2,x2,y3,x3,y4,x4,y5,x5,h1,e1,e2,e3,e4,e5,h5⟩,h6⟩;cases h1;rw [LV.as_mk] at e1 e2 e3 e4 e5;cases e1;cases e2;cases e3;cases e4;cases e5;exact⟨h5,h6⟩
   ·rintro ⟨h1,h2⟩;exact⟨⟨_,z1,_,z2,_,z3,_,z4,_,z5,rfl,LV.as_mk k1 z1,LV.as_mk k2 z2,LV.as_mk k3 z3,LV.as_mk k4 z4,LV.as_mk k5 z5,h1⟩,h2⟩
  rw [he];exact this⟩
def mu6(k1 k2 k3 k4 k5 k6:Kd)(μ:Den k1→Den k2→Den k3→Den k4→Den k5→Den k6→World→Nat):List LV→World→Nat
 | [y1,y2,y3,y4,y5,y6],w=>match y1.as k1,y2.as k2,y3.as k3,y4.as k4,y5.as k5,y6.as k6 with
  | some x1,some x2,some x3,some x4,some x5,some x6=>μ x1 x2 x3 x4 x5 x6 w
  | _,_,_,_,_,_=>0
 | _,_=>0
theorem loop6{k1 k2 k3 k4 k5 k6:Kd}{B:Den k1→Den k2→Den k3→Den k4→Den k5→Den k6→World→(Den k1→Den k2→Den k3→Den k4→Den k5→Den k6→Wp)→Prop}{y1 y2 y3 y4 y5 y6:LV}{w:World}(I:Den k1→Den k2→Den k3→Den k4→Den k5→Den k6→Wp)(μ:Den k1→Den k2→Den k3→Den k4→Den k5→Den k6→World→Nat){x1:Den k1}{x2:Den k2}{x3:Den k3}{x4:Den k4}{x5:Den k5}{x6:Den k6}(hy1:y1.as k1=some x1)(hy2:y2.as k2=some x2)(hy3:y3.as k3=some x3)(hy4:y4.as k4=some x4)(hy5:y5.as k5=some x5)(hy6:y6.as k6=some x6)(h0:I x1 x2 x3 x4 x5 x6 w)
  (hs:∀x1 x2 x3 x4 x5 x6 w,I x1 x2 x3 x4 x5 x6 w→B x1 x2 x3 x4 x5 x6 w fun z1 z2 z3 z4 z5 z6 w'=>I z1 z2 z3 z4 z5 z6 w'∧μ z1 z2 z3 z4 z5 z6 w'<μ x1 x2 x3 x4 x5 x6 w):loopL [k1,k2,k3,k4,k5,k6] B [y1,y2,y3,y4,y5,y6] w:=
 ⟨fun l w=>∃y1 x1 y2 x2 y3 x3 y4 x4 y5 x5 y6 x6,l=[y1,y2,y3,y4,y5,y6]∧y1.as k1=some x1∧y2.as k2=some x2∧y3.as k3=some x3∧y4.as k4=some x4∧y5.as k5=some x5∧y6.as k6=some x6∧I x1 x2 x3 x4 x5 x6 w,mu6 k1 k2 k3 k4 k5 k6 μ,⟨y1,x1,y2,x2,y3,x3,y4,x4,y5,x5,y6,x6,rfl,hy1,hy2,hy3,hy4,hy5,hy6,h0⟩,fun l w hI=>by
  obtain⟨y1,x1,y2,x2,y3,x3,y4,x4,y5,x5,y6,x6,rfl,hx1,hx2,hx3,hx4,hx5,hx6,hI⟩:=hI;have:=hs x1 x2 x3 x4 x5 x6 w hI;simp only [app,lam,hx1,hx2,hx3,hx4,hx5,hx6];have he:(fun (z1:Den k1) (z2:Den k2) (z3:Den k3) (z4:Den k4) (z5:Den k5) (z6:Den k6) (w':World)=>(∃y1 x1 y2 x2 y3 x3 y4 x4 y5 x5 y6 x6,[LV.mk k1 z1,LV.mk k2 z2,LV.mk k3 z3,LV.mk k4 z4,LV.mk k5 z5,LV.mk k6 z6]=[y1,y2,y3,y4,y5,y6]∧y1.as k1=some x1∧y2.as k2=some x2∧y3.as k3=some x3∧y4.as k4=some x4∧y5.as k5=some x5∧y6.as k6=some x6∧I x1 x2 x3 x4 x5 x6 w')∧mu6 k1 k2 k3 k4 k5 k6 μ [LV.mk k1 z1,LV.mk k2 z2,LV.mk k3 z3,LV.mk k4 z4,LV.mk k5 z5,LV.mk k6 z6] w'<mu6 k1 k2 k3 k4 k5 k6 μ [y1,y2,y3,y4,y5,y6] w)=fun z1 z2 z3 z4 z5 z6 w'=>I z1 z2 z3 z4 z5 z6 w'∧μ z1 z2 z3 z4 z5 z6 w'<μ x1 x2 x3 x4 x5 x6 w:=by
   funext z1 z2 z3 z4 z5 z6 w';simp only [mu6,LV.as_mk,hx1,hx2,hx3,hx4,hx5,hx6,eq_iff_iff];constructor
   ·rintro ⟨⟨y1,x1,y2,x2,y3,x3,y4,x4,y5,x5,y6,x6,h1,e1,e2,e3,e4,e5,e6,h5⟩,h6⟩;cases h1;rw [LV.as_mk] at e1 e2 e3 e4 e5 e6;cases e1;cases e2;cases e3;cases e4;cases e5;cases e6;exact⟨h5,h6⟩
   ·rintro ⟨h1,h2⟩;exact⟨⟨_,z1,_,z2,_,z3,_,z4,_,z5,_,z6,rfl,LV.as_mk k1 z1,LV.as_mk k2 z2,LV.as_mk k3 z3,LV.as_mk k4 z4,LV.as_mk k5 z5,LV.as_mk k6 z6,h1⟩,h2⟩
  rw [he];exact this⟩
end Go.Vw
namespace Go.Proofs.YtoegpmjoajipcaaGreatDoor
open Go.Vw
set_option maxRecDepth 100000
theorem go_72(lens1:Sl)(K:Sl→Int→Int→Int→Int→Int→Int→Int→Int→Int→Int→Int→Int→Int→Int→Int→Int→Bool→Wp)(w:World)(h:al w 265 [.int .i64 0,.int .i64 0,.int .i64 0,.int .i64 0,.int .i64 0,.int .i64 0,.int .i64 0,.int .i64 0,.int .i64 0,.int .i64 0,.int .i64 0,.int .i64 0,.int .i64 0,.int .i64 0,.int .i64 0,.int .i64 0] fun b2 W3=>al W3 265 [.int .i64 0,.int .i64 0,.int .i64 0,.int .i64 0,.int .i64 0,.int .i64 0,.int .i64 0,.int .i64 0,.int .i64 0,.int .i64 0,.int .i64 0,.int .i64 0,.int .i64 0,.int .i64 0,.int .i64 0,.int .i64 0] fun b4 W5=>joinK [.sl,Ki] (fun k6=>loopL [.sl,Ki,Ki] (fun l8 room9 n10 W11 g7=>ifK (decide (n10≤15)) (joinK [.sl,Ki] (fun k12=>loopL [.sl,Ki,Ki] (fun l14 room15 t1716 W17 g13=>ifK (decide (t1716<(lens1.len:Int))) (ix lens1 1 t1716 fun b18 o19=>ld W17 Ki b18 o19 fun n20=>joinK [.sl,Ki] (fun k21=>ifK (n20==n10) (al W17 3 [.int .i64 t1716] fun b22 W23=>ap W23 3 1 8 [.int .i64 0] l14 (⟨some (b22,0),1,1⟩) fun a24 W25=>0≤n10∧n10<(16:Int)∧ld W25 Ki b4 (0+n10.toNat*1) fun n26=>0≤n10∧n10<(16:Int)∧st W25 b4 (0+n10.toNat*1) [.int .i64 (w64 (n26+1))] fun W27=>0≤(w64 (15-n10))∧k21 a24 (w64 (room15-(shlI .i64 1 (w64 (15-n10))))) W27) (k21 l14 room15 W17)) fun l28 room29 W30=>g13 l28 room29 (w64 (t1716+1)) W30) (k12 l14 room15 W17)) [.sl l8,.int .i64 room9,.int .i64 0] W11) fun l31 room32 W33=>g7 l31 room32 (w64 (n10+1)) W33) (k6 l8 room9 W11)) [.sl (⟨none,0,0⟩),.int .i64 32768,.int .i64 1] W5) fun l34 room35 W36=>drawK W36 fun D W37=>ldD D W37 Ki b4 0 fun n38=>ldD D W37 Ki b4 1 fun n39=>ldD D W37 Ki b4 2 fun n40=>ldD D W37 Ki b4 3 fun n41=>ldD D W37 Ki b4 4 fun n42=>ldD D W37 Ki b4 5 fun n43=>ldD D W37 Ki b4 6 fun n44=>ldD D W37 Ki b4 7 fun n45=>ldD D W37 Ki b4 8 fun n46=>ldD D W37 Ki b4 9 fun n47=>ldD D W37 Ki b4 10 fun n48=>ldD D W37 Ki b4 11 fun n49=>ldD D W37 Ki b4 12 fun n50=>ldD D W37 Ki b4 13 fun n51=>ldD D W37 Ki b4 14 fun n52=>ldD D W37 Ki b4 15 fun n53=>st W37 b2 0 [.int .i64 n38,.int .i64 n39,.int .i64 n40,.int .i64 n41,.int .i64 n42,.int .i64 n43,.int .i64 n44,.int .i64 n45,.int .i64 n46,.int .i64 n47,.int .i64 n48,.int .i64 n49,.int .i64 n50,.int .i64 n51,.int .i64 n52,.int .i64 n53] fun W54=>Mod D W37 W54∧ld W54 Ki b2 0 fun n55=>ld W54 Ki b2 1 fun n56=>ld W54 Ki b2 2 fun n57=>ld W54 Ki b2 3 fun n58=>ld W54 Ki b2 4 fun n59=>ld W54 Ki b2 5 fun n60=>ld W54 Ki b2 6 fun n61=>ld W54 Ki b2 7 fun n62=>ld W54 Ki b2 8 fun n63=>ld W54 Ki b2 9 fun n64=>ld W54 Ki b2 10 fun n65=>ld W54 Ki b2 11 fun n66=>ld W54 Ki b2 12 fun n67=>ld W54 Ki b2 13 fun n68=>ld W54 Ki b2 14 fun n69=>ld W54 Ki b2 15 fun n70=>K l34 n55 n56 n57 n58 n59 n60 n61 n62 n63 n64 n65 n66 n67 n68 n69 n70 (decide (0≤room35)) W54):callK Pg 177 [Az lens1] w (.tup [Ls,.agg [Ki,Ki,Ki,Ki,Ki,Ki,Ki,Ki,Ki,Ki,Ki,Ki,Ki,Ki,Ki,Ki],Lb]) K:=Fq (n:=(n0 .nil (n0 .nil (n0 .nil (n0 .nil (n0 (n0 .nil (.mk (some [.tmp 5 Ls,.tmp 7 Li]) [] [3,6] .done (.mk none [.tmp 5 Ls,.tmp 7 Li,.tmp 8 Li] [0,3,6] .done (n0 .nil (n0 (n0 (n0 .nil (.mk (some [.tmp 5 Ls,.tmp 7 Li]) [] [0,3,6,8] .done (.mk none [.tmp 5 Ls,.tmp 7 Li,.tmp 17 Li] [0,3,6,8,15,16] .done (n0 .nil (n0 .nil (n0 (n0 (n0 .nil (n0 .nil (.mk (some [.tmp 5 Ls,.tmp 7 Li]) [] [0,3,6,8,15,16,17] .done .nil .nil))) .nil) .nil))) .nil) .nil)) .nil) .nil)) .nil) .nil)) (n0 (.mk none [] [] (tk [0,1,2,3,4] (.eff 5 (.take 6 .done))) .nil .nil) .nil))))))) CS_ok mixed Tryz.func177 (Eq.mpr (by kernel_rfl) h)
theorem go_73(c1:PA)(K:Sl→Bool→Wp)(w:World)(h:joinK [.sl,Ki] (fun k2=>loopL [.sl,Ki] (fun lens4 last5 W6 g3=>callK Pg 86 [Ap c1,Ai 256] W6 Oi fun n7 W8=>ifK (n7==0) (k2 lens4 last5 W8) (callK Pg 121 [Ap c1,Ai 1] W8 (.one (.leaf (.int .u64))) fun n9 W10=>joinK [.bool] (fun k11=>ifK (decide (15<w64 (n9))) (k11 true W10) (ifK ((w64 (n9))==last5) (k11 true W10) (k11 (decide (256<w64 ((lens4.len:Int)+n7))) W10))) fun t2912 W13=>ifK t2912 (K (⟨none,0,0⟩) false W13) (joinK [.sl] (fun k14=>loopL [.sl,Ki] (fun lens16 t3117 W18 g15=>ifK (decide (t3117<n7)) (al W18 3 [.int .i64 (w64 (n9))] fun b19 W20=>ap W20 3 1 8 [.int .i64 0] lens16 (⟨some (b19,0),1,1⟩) fun a21 W22=>g15 a21 (w64 (t3117+1)) W22) (k14 lens16 W18)) [.sl lens4,.int .i64 0] W13) fun lens23 W24=>g3 lens23 (w64 (n9)) W24))) [.sl (⟨none,0,0⟩),.int .i64 (-1)] w) fun lens25 last26 W27=>callK Pg 92 [Ap c1] W27 (.one (.agg [Ki,Ki])) fun n28 n29 W30=>joinK [.sl,.bool] (fun k31=>ifK (last26 != 0) (ifK (n28==0) (k31 lens25 true W30) (k31 lens25 (n28==22) W30)) (k31 lens25 false W30)) fun t232 t333 W34=>K t232 t333 W34):callK Pg 165 [Ap c1] w (.tup [Ls,Lb]) K:=Fq (n:=(n0 .nil (n0 .nil (n0 .nil (n0 (.mk (some [.tmp 4 Ls,.tmp 5 Li]) [] [0] .done (.mk none [.tmp 4 Ls,.tmp 5 Li] [0] .done (n0 (n0 .nil (n0 .nil (n0 .nil (n0 (n0 (.mk (some [.tmp 29 Lb]) [] [0,4,6,7] .done .nil .nil) .nil) (n0 (n0 .nil (.mk (some [.tmp 4 Ls]) [] [0,7] .done (.mk none [.tmp 4 Ls,.tmp 31 Li] [0,7,30] .done .nil .nil) .nil)) .nil))))) .nil) .nil) .nil) (n0 .nil (n0 (.mk (some [.tmp 2 Ls,.tmp 3 Lb]) [] [] .done .nil .nil) .nil))))))) CS_ok mixed Tryz.func165 (Eq.mpr (by kernel_rfl) h)
theorem go_74(lens1:Sl)(bits2:Sl)(n3:Int)(K:Sl→Bool→Wp)(w:World)(h:callK Pg 177 [Az lens1] w (.tup [Ls,.agg [Ki,Ki,Ki,Ki,Ki,Ki,Ki,Ki,Ki,Ki,Ki,Ki,Ki,Ki,Ki,Ki],Lb]) fun a4 n5 n6 n7 n8 n9 n10 n11 n12 n13 n14 n15 n16 n17 n18 n19 n20 c21 W22=>al W22 265 [.int .i64 0,.int .i64 0,.int .i64 0,.int .i64 0,.int .i64 0,.int .i64 0,.int .i64 0,.int .i64 0,.int .i64 0,.int .i64 0,.int .i64 0,.int .i64 0,.int .i64 0,.int .i64 0,.int .i64 0,.int .i64 0] fun b23 W24=>st W24 b23 0 [.int .i64 n5,.int .i64 n6,.int .i64 n7,.int .i64 n8,.int .i64 n9,.int .i64 n10,.int .i64 n11,.int .i64 n12,.int .i64 n13,.int .i64 n14,.int .i64 n15,.int .i64 n16,.int .i64 n17,.int .i64 n18,.int .i64 n19,.int .i64 n20] fun W25=>joinK [.bool] (fun k26=>ifK (!c21) (k26 true W25) (k26 (decide (w64 (8*(bits2.len:Int))<n3)) W25)) fun t3127 W28=>ifK t3127 (K (⟨none,0,0⟩) false W28) (mk W28 5 1 [.int .u8 0] 0 n3 fun a29 W30=>joinK [.sl,Ki] (fun k31=>loopL [.sl,Ki,Ki] (fun text33 at_34 t3535 W36 g32=>ifK (decide (t3535<n3)) (joinK [.sl,Ki] (fun k37=>loopL [.sl,Ki,Ki,Ki,Ki,Ki] (fun text39 at_40 word41 first42 before43 size44 W45 g38=>joinK [.bool] (fun k46=>ifK (decide (15<size44)) (k46 true W45) (k46 (at_40==(w64 (8*(bits2.len:Int)))) W45)) fun t4747 W48=>ifK t4747 (K (⟨none,0,0⟩) false W48) (ix bits2 1 (w64 (at_40.tdiv 8)) fun b49 o50=>ld W48 (.int .u8) b49 o50 fun n51=>0≤(at_40.tmod 8)∧0≤size44∧size44<(16:Int)∧ld W48 Ki b23 (0+size44.toNat*1) fun n52=>ifK (decide (w64 ((bitI .or .i64 (shlI .i64 word41 1) (w64 (bitI .and .u8 (shrI .u8 n51 (at_40.tmod 8)) 1)))-(shlI .i64 first42 1))<n52)) (ix a4 1 (w64 ((w64 (before43+(bitI .or .i64 (shlI .i64 word41 1) (w64 (bitI .and .u8 (shrI .u8 n51 (at_40.tmod 8)) 1)))))-(shlI .i64 first42 1))) fun b53 o54=>ld W48 Ki b53 o54 fun n55=>al W48 5 [.int .u8 (IntKind.wrap .u8 (n55))] fun b56 W57=>ap W57 5 1 1 [.int .u8 0] text39 (⟨some (b56,0),1,1⟩) fun a58 W59=>k37 a58 (w64 (at_40+1)) W59) (0≤size44∧size44<(16:Int)∧ld W48 Ki b23 (0+size44.toNat*1) fun n60=>0≤size44∧size44<(16:Int)∧ld W48 Ki b23 (0+size44.toNat*1) fun n61=>g38 text39 (w64 (at_40+1)) (bitI .or .i64 (shlI .i64 word41 1) (w64 (bitI .and .u8 (shrI .u8 n51 (at_40.tmod 8)) 1))) (w64 ((shlI .i64 first42 1)+n60)) (w64 (before43+n61)) (w64 (size44+1)) W48))) [.sl text33,.int .i64 at_34,.int .i64 0,.int .i64 0,.int .i64 0,.int .i64 1] W36) fun text62 at_63 W64=>g32 text62 at_63 (w64 (t3535+1)) W64) (k31 text33 at_34 W36)) [.sl a29,.int .i64 0,.int .i64 0] W30) fun text65 at_66 W67=>joinK [.bool] (fun k68=>ifK ((w64 ((w64 (at_66+7)).tdiv 8)) != (bits2.len:Int)) (k68 true W67) (ifK ((at_66.tmod 8) != 0) (ix bits2 1 (w64 (at_66.tdiv 8)) fun b69 o70=>ld W67 (.int .u8) b69 o70 fun n71=>0≤(at_66.tmod 8)∧k68 ((shrI .u8 n71 (at_66.tmod 8)) != 0) W67) (k68 false W67))) fun t11672 W73=>ifK t11672 (K (⟨none,0,0⟩) false W73) (K text65 true W73))):callK Pg 166 [Az lens1,Az bits2,Ai n3] w (.tup [Ls,Lb]) K:=Fq (n:=(n0 .nil (n0 .nil (n0 (n0 (.mk (some [.tmp 31 Lb]) [] [1,2,8,9] .done .nil .nil) .nil) (n0 .nil (n0 .nil (n0 (n0 .nil (.mk (some [.tmp 11 Ls,.tmp 12 Li]) [] [1] .done (.mk none [.tmp 11 Ls,.tmp 12 Li,.tmp 35 Li] [1,8,9,34] .done (n0 .nil (n0 .nil (n0 (n0 (n0 .nil (n0 .nil (.mk (some [.tmp 11 Ls,.tmp 12 Li]) [] [1,8,9,34,35] .done (.mk none [.tmp 11 Ls,.tmp 12 Li,.tmp 13 Li,.tmp 14 Li,.tmp 15 Li,.tmp 16 Li] [1,8,9,34,35] .done (n0 (n0 (n0 (n0 (.mk (some [.tmp 47 Lb]) [] [1,8,9,11,12,13,14,15,16,34,35] .done .nil .nil) .nil) .nil) .nil) .nil) .nil) .nil))) .nil) .nil))) .nil) .nil)) (n0 (n0 (.mk (some [.tmp 116 Lb]) [] [11] .done .nil .nil) .nil) .nil)))))))) CS_ok mixed Tryz.func166 (Eq.mpr (by kernel_rfl) h)
theorem go_75(b1:Sl)(n2:Int)(K:Sl→Int→Wp)(w:World)(h:joinK [.bool] (fun k3=>ifK (decide (n2<0)) (k3 true w) (k3 (decide (65536<n2)) w)) fun t154 W5=>ifK t154 (K (⟨none,0,0⟩) 3 W5) (callK Pg 85 [Az b1] W5 Oq fun p6 W7=>callK Pg 165 [Ap p6] W7 (.tup [Ls,Lb]) fun a8 c9 W10=>ifK (!c9) (K (⟨none,0,0⟩) 40 W10) (callK Pg 87 [Ap p6] W10 Oi fun n11 W12=>callK Pg 122 [Ap p6,Ai n11] W12 Oz fun a13 W14=>callK Pg 166 [Az a8,Az a13,Ai n2] W14 (.tup [Ls,Lb]) fun a15 c16 W17=>ifK (!c16) (K (⟨none,0,0⟩) 40 W17) (K a15 0 W17)))):callK Pg 137 [Az b1,Ai n2] w (.tup [Ls,Li]) K:=Fq (n:=(n0 .nil (n0 (n0 (.mk (some [.tmp 15 Lb]) [] [0,1] .done .nil .nil) .nil) .nil))) CS_ok mixed Tryz.func137 (Eq.mpr (by kernel_rfl) h)
def EN:Enc Nat:=⟨1,fun x=>[.int .i64 (x:Int)],fun _=>rfl,by decide,fun x v h=>by simp at h;subst h;rfl⟩
section
variable {w u u':World}{D:Nat→Prop}{ro:BL}
theorem Fresh.at'(h:Fresh w u D ro):At w D ro u:=⟨h.mod,h.own,h.nodup,fun p hp hlt=>absurd hlt (Nat.not_lt.2 (h.new p hp))⟩
theorem Fresh.of_new{u:World}(h:At w D ro u)(hn:∀p∈ro,w.heap.size≤p.1):Fresh w u D ro:=⟨h.mod,h.own,hn,h.nodup⟩
theorem Fresh.step(h:Fresh w u D ro){D':Nat→Prop}(hM:Mod D' u u')(h1:∀b,b<w.heap.size→D' b→D b)(h2:∀b,w.heap.size≤b→¬D' b):Fresh w u' D ro:=
 ⟨h.mod.trans hM (fun _ _ h=>h) h1,fun p hp=>hM.blk (h.own p hp) (h2 p.1 (h.new p hp)),h.new,h.nodup⟩
theorem Fresh.quiet(h:Fresh w u D ro)(hM:Mod F0 u u'):Fresh w u' D ro:=h.step hM (fun _ _ h=>h.elim) fun _ _ h=>h
theorem Fresh.sub{ro':BL}(h:Fresh w u D ro)(hs:ro'.Sublist ro):Fresh w u D ro':=⟨h.mod,fun p hp=>h.own p (hs.subset hp),fun p hp=>h.new p (hs.subset hp),h.nodup.sublist (hs.map _)⟩
theorem Fresh.perm{ro':BL}(h:Fresh w u D ro)(hp:ro'.Perm ro):Fresh w u D ro':=⟨h.mod,fun p hq=>h.own p (hp.subset hq),fun p hq=>h.new p (hp.subset hq),(hp.map Prod.fst).nodup_iff.2 h.nodup⟩
theorem Fresh.start(w:World)(D:Nat→Prop):Fresh w w D []:=⟨Mod.refl _ _,by simp,by simp,by simp⟩
theorem Fresh.weaken{D':Nat→Prop}(h:Fresh w u D ro)(hD:∀b,b<w.heap.size→D b→D' b):Fresh w u D' ro:=⟨h.mod.mono hD,h.own,h.new,h.nodup⟩
theorem Fresh.join{ro2:BL}{D':Nat→Prop}(h:Fresh w u D ro)(k:Fresh u u' D' ro2)(h1:∀b,b<w.heap.size→D' b→D b)(h2:∀b,w.heap.size≤b→b<u.heap.size→¬D' b):Fresh w u' D (ro++ro2):=by
 refine⟨h.mod.trans k.mod (fun _ _ h=>h) h1,?_,?_,?_⟩
 ·intro p hp;rcases Lma.1 hp with hp | hp
  ·exact k.mod.blk (h.own p hp) (h2 p.1 (h.new p hp) (h.own p hp).lt)
  ·exact k.own p hp
 ·intro p hp;rcases Lma.1 hp with hp | hp
  ·exact h.new p hp
  ·exact Nat.le_trans h.mod.size (k.new p hp)
 ·rw [List.map_append,List.nodup_append];refine⟨h.nodup,k.nodup,?_⟩;rintro a ha b hb rfl;obtain⟨p,hp,rfl⟩:=List.mem_map.1 ha;obtain⟨q,hq,e⟩:=List.mem_map.1 hb;have h1:=(h.own p hp).lt;have h2:=k.new q hq;omega
theorem Fresh.alK(h:Fresh w u D ro){e:TypeId}{cs:List LV}{K:Nat→Wp}(hK:∀b u',Fresh w u' D (ro++[(b,cs.map LV.toV)])→u.heap.size≤b→Mod F0 u u'→K b u'):Go.Vw.al u e cs K:=
 h.at'.alK fun b u' hb h2 M2=>hK b u' (Fresh.of_new h2 fun p hp=>by
  rcases Lma.1 hp with hp | hp
  ·exact h.new p hp
  ·simp at hp;subst hp;rw [hb];exact h.mod.size) (by omega) M2
theorem Fresh.app{m:BL}{α:Type}{E:Enc α}{s x:Sl}{l l2:List α}(h:Fresh w u D (m++ro))(hv:VecL ro E s l)(hr:RdS u E x l2){e:TypeId}{n bytes:Nat}{zs:List LV}(hn:n=E.n)(hz:zs.length=E.n)(hlim:(l.length+l2.length+1024)*(bytes+1)≤2^46)
  {K:Sl→Wp} (hK:∀s' ro' u',Fresh w u' D (m++ro')→VecL ro' E s' (l++l2)→Mod (Ks ro) u u'→K s' u'):ap u e n bytes zs s x K:=
 appL2 h.at' hv hr hn hz hlim fun s' old ro' u' h' v' M' _ hro=>hK s' ro' u' (Fresh.of_new (h'.sub ((Lsl m old).append (List.Sublist.refl _))) fun p hp=>by
  rcases Lma.1 hp with hp | hp
  ·exact h.new p (Lml _ hp)
  ·rcases hro p.1 ⟨p,hp,rfl⟩ with⟨q,hq,e⟩ | h2
   ·rw [←e];exact h.new q (Lmr _ hq)
   ·exact Nat.le_trans h.mod.size h2) v' M'
theorem Fresh.push{m:BL}{α:Type}{E:Enc α}{s:Sl}{l:List α}(h:Fresh w u D (m++ro))(hv:VecL ro E s l)(y:α){e e2:TypeId}{n bytes:Nat}{zs cs:List LV}(hc:cs.map LV.toV=E.f y)(hn:n=E.n)(hz:zs.length=E.n)(hlim:(l.length+1025)*(bytes+1)≤2^46)
  {K:Sl→Wp} (hK:∀s' ro' u',Fresh w u' D (m++ro')→VecL ro' E s' (l++[y])→Mod (fun b=>w.heap.size≤b) u u'→K s' u'):Go.Vw.al u e cs fun b u'=>ap u' e2 n bytes zs s ⟨some (b,0),1,1⟩ K:=by
 refine h.alK fun b u1 h1 hb M1=>?_;rw [hc] at h1;have hB:=h1.own (b,E.f y) (Lmr _ (Lms.2 rfl));have h2:Fresh w u1 D (m++ro):=h1.sub (Lsl _ _);refine h2.app hv (rd_one hB) hn hz (by simpa [Nat.add_assoc] using hlim) fun s' ro' u' h' v' M'=>hK s' ro' u' h' v' (M1.trans M' (fun _ _ h=>h.elim) fun z hz hk=>?_);obtain⟨q,hq,e⟩:=hk;rw [←e];exact h.new q (Lmr _ hq)
end
theorem _root_.Go.Vw.RdS.keepN{α:Type}{w u:World}{E:Enc α}{s:Sl}{l:List α}(h:RdS w E s l){D:Nat→Prop}(hM:Mod D w u)(hd:∀b,rk s b→b<w.heap.size→¬D b):RdS u E s l:=by
 refine⟨h.len,?_,h.has⟩;rcases h.rd with h0 | ⟨b,o,hp,hr⟩
 ·exact .inl h0
 by_cases hl:(E.cells l).length=0
 ·exact .inl (List.eq_nil_of_length_eq_zero hl)
 refine .inr ⟨b,o,hp,fun i hi=>?_⟩;have h0:=hr i hi;rw [Lge hi] at h0 ⊢;have hlt:b<w.heap.size:=cell_lt h0;refine hM.cell h0 (hd b ⟨?_,o,hp⟩ hlt);have:=h.has;have h2:=h.len;intro hc;have:l.length=0:=by omega
 rw [E.cells_length,this] at hl;simp at hl
end Go.Proofs.YtoegpmjoajipcaaGreatDoor
