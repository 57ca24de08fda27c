/- Opening: bytes, questions. -/
import Derived.Test.YtkofkhjcfjoceaaGreatLR
import Derived.Test.YtkofkhjcfjoceaaGreatLS
import Derived.Test.YtkofkhjcfjoceaaGreatT16
namespace Go.Proofs.YtkofkhjcfjoceaaGreat
open Go.ChangeShapes Go.WideShapes Go.ChangeAt Go.RowKit Go.Vw
theorem cellsOf3:Tryz.prog.cellsOf 3=1:=by kernel_rfl
theorem cellsOf5:Tryz.prog.cellsOf 5=1:=by kernel_rfl
theorem cellsOf9:Tryz.prog.cellsOf 9=1:=by kernel_rfl
theorem cellsOf47:Tryz.prog.cellsOf 47=4:=by kernel_rfl
theorem wf64{k:Int}(h:(Lit.int .i64 k).wf=true):-9223372036854775808≤k∧k≤9223372036854775807:=by
 simp [Lit.wf,IntKind.min,IntKind.max,IntKind.bits,IntKind.signed] at h;omega
theorem wf8{k:Int}(h:(Lit.int .u8 k).wf=true):0≤k∧k<256:=by
 simp [Lit.wf,IntKind.min,IntKind.max,IntKind.bits,IntKind.signed] at h;omega
theorem sumC{β:Type}(n:Nat):∀bs:List β,sumF (fun _=>n) bs=n*bs.length
 | []=>rfl
 | x::r=>by simp only [sumF,sumC n r,List.length_cons,Nat.mul_add];omega
theorem sum_mem{β:Type}(g:β→Nat):∀{bs:List β} {b:β},b∈bs→g b≤sumF g bs
 | x::r,b,h=>by
  rw [sumF];rcases List.mem_cons.1 h with rfl | h
  ·omega
  ·have:=sum_mem g h;omega
section
variable {H:Type}{enc:TypeId×Value→H}{w:World}{base:Nat}{held:Bool}
theorem open_bytes{fuel:Nat}{cs:List Value}{x:DataW H×List MemPlace}(h:DataW.trod enc Tryz.prog w base (fun _=>true) held fuel 22 cs=some x) :
  ∃(s:Sl) (l:Str),cs=[(LV.sl s).toV]∧RdS w ET s l∧l.length+1≤Rows.uptoBulk x.1:=by
 obtain⟨s,l,bs,hcs,hr,hk,hlen,hR,hs⟩:=open_slice ET (fun _ (_:UInt8)=>True) (fun _=>1) Tryz.underlying22 cellsOf5 (fun n cs y hy=>by
  obtain⟨k,e0,rfl,wk⟩:=DataW.trod_int Tryz.underlying5 hy;have:=wf8 wk;refine⟨UInt8.ofNat k.toNat,0,?_,trivial,by simp [Rows.uptoBulk]⟩;rw [e0];show _=[Value.int .u8 ((UInt8.ofNat k.toNat).toNat:Int)];rw [u8_ofNat (by omega)];have:((k.toNat:Nat):Int)=k:=by omega
  rw [this]) h
 refine⟨s,l,hcs,hr,?_⟩;rw [sumC,hlen] at hs;omega
set_option maxRecDepth 100000 in
theorem open_qn{fuel:Nat}{cs:List Value}{x:DataW H×List MemPlace}(h:DataW.trod enc Tryz.prog w base (fun _=>true) held fuel 47 cs=some x) :
  ∃q:Qn,cs=EQn.f q∧(-9223372036854775808≤q.take∧q.take≤9223372036854775807)∧q.key.length+1≤Rows.uptoBulk x.1:=by
 obtain⟨xs,n,_,rfl,hl,hlen,hf⟩:=DataW.trod_struct Tryz.underlying47 h
 match xs,hlen with
 | [x0,x1,x2,x3],_=>
 have h0:DataW.trod enc Tryz.prog w base (fun _=>true) held n 3 ((cs.drop 0).take (Tryz.prog.cellsOf 3))=some x0:=hf 0 _ rfl;have h1:DataW.trod enc Tryz.prog w base (fun _=>true) held n 3 ((cs.drop 1).take (Tryz.prog.cellsOf 3))=some x1:=hf 1 _ rfl;have h2:DataW.trod enc Tryz.prog w base (fun _=>true) held n 9 ((cs.drop 2).take (Tryz.prog.cellsOf 9))=some x2:=hf 2 _ rfl;have h3:DataW.trod enc Tryz.prog w base (fun _=>true) held n 3 ((cs.drop 3).take (Tryz.prog.cellsOf 3))=some x3:=hf 3 _ rfl;clear hf;rw [cellsOf3] at h0 h1 h3;rw [cellsOf9] at h2;rw [cellsOf47] at hl
 match cs,hl with
 | [c0,c1,c2,c3],_=>
 obtain⟨k0,e0,g0,w0⟩:=DataW.trod_int Tryz.underlying3 h0;obtain⟨k1,e1,g1,w1⟩:=DataW.trod_int Tryz.underlying3 h1;obtain⟨k2,e2,g2,_⟩:=DataW.trod_string Tryz.underlying9 h2;obtain⟨k3,e3,g3,w3⟩:=DataW.trod_int Tryz.underlying3 h3;rw [str_toV] at e2;simp at e0 e1 e2 e3;subst e0 e1 e2 e3;refine⟨⟨k0,k1,k2.data.toList,k3⟩,rfl,wf64 w3,?_⟩;subst g2;simp only [List.map_cons,Rows.uptoBulk,Rows.uptoBulkAll];omega
theorem open_qns{fuel:Nat}{cs:List Value}{x:DataW H×List MemPlace}(h:DataW.trod enc Tryz.prog w base (fun _=>true) held fuel 23 cs=some x) :
  ∃(s:Sl) (l:List Qn),cs=[(LV.sl s).toV]∧RdS w EQn s l∧l.length+1≤Rows.uptoBulk x.1∧∀q∈l,q.key.length+1≤Rows.uptoBulk x.1∧-9223372036854775808≤q.take∧q.take≤9223372036854775807:=by
 obtain⟨s,l,bs,hcs,hr,hk,hlen,hR,hs⟩:=open_slice EQn (fun a b=>a=b∧(-9223372036854775808≤a.take∧a.take≤9223372036854775807)) (fun b=>b.key.length+1) Tryz.underlying23 cellsOf47 (fun n cs y hy=>by
  obtain⟨q,e,hq,hb⟩:=open_qn hy;exact⟨q,q,e,⟨rfl,hq⟩,hb⟩) h
 have hle:bs.length≤sumF (fun b:Qn=>b.key.length+1) bs:=by
  clear hR hlen hs
  induction bs with
  | nil=>exact Nat.zero_le _
  | cons b r ih=>rw [sumF,List.length_cons];omega
 refine⟨s,l,hcs,hr,by omega,fun q hq=>?_⟩;obtain⟨i,hi⟩:=List.mem_iff_getElem?.1 hq;have hil:i<l.length:=(List.getElem?_eq_some_iff.1 hi).1;have hbi:=List.getElem?_eq_getElem (l:=bs) (i:=i) (by omega);have:=hR i q _ hi hbi;have hm:=sum_mem (fun b:Qn=>b.key.length+1) (List.mem_of_getElem? hbi);rw [←this.1] at hm;exact⟨by omega,this.2⟩
end
end Go.Proofs.YtkofkhjcfjoceaaGreat
