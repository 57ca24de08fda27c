/- SpillOpens answers true for every input whose reading is of bulk at most 1048576, and leaves its arguments as they read: the statement SpillOpensUptoSaid. -/
import Derived.Test.YtkofkhjcfjoceaaGreatRO
namespace Go.Proofs.YtkofkhjcfjoceaaGreat.spillOpens
open Go.ChangeShapes Go.WideShapes Go.ChangeAt Go.RowKit
open Go.Vw (RdS callK LV AV Sl)
set_option linter.unusedVariables false
set_option maxRecDepth 100000 in
theorem contract(H:Type)(enc:TypeId×Value→H)(W:World)(base:Nat)(args:Array Value)(ds gs:List (DataW H))(before:List MemPlace)
  (hval:∀(j:Nat) t v,Tryz.f3.params[j]? = some t→args[j]? = some v→Value.okWide Tryz.prog W .any base t v)
  (hW:DataW.Whole enc Tryz.prog Tryz.f3.params.toList Rows.spillOpensSpec.vars false W args.toList ds gs before) (hk:Rows.uptoSmall H (ds++gs)=true) :
  Calls Tryz.prog 3 args W fun e W'=>∃v,e = .returned v∧Rows.spillOpensSpec.post enc Tryz.prog Tryz.f3 false true false false W args v W':=by
 have hW':=hW;obtain⟨p,q,hA0,hV,rfl,hfz,hnd⟩:=hW;have hA:DataW.TrodAll enc Tryz.prog W 0 (fun _=>true) true Tryz.f3.params.toList args.toList ds p:=hA0;rw [Tryz.params3] at hA hval;obtain⟨v0,vs0,d0,ds0,p0,q0,hargs,rfl,rfl,h0,r0⟩:=trodAll_cons hA;obtain⟨v1,vs1,d1,ds1,p1,q1,rfl,rfl,rfl,h1,r1⟩:=trodAll_cons r0;obtain⟨v2,vs2,d2,ds2,p2,q2,rfl,rfl,rfl,h2,r2⟩:=trodAll_cons r1;obtain⟨v3,vs3,d3,ds3,p3,q3,rfl,rfl,rfl,h3,r3⟩:=trodAll_cons r2;obtain⟨rfl,rfl,rfl⟩:=trodAll_nil r3;obtain rfl:args = #[v0,v1,v2,v3]:=by cases args;simp_all
 obtain⟨rfl,rfl⟩:=trodVars_none hV;have hb:=bound hk;simp only [List.append_nil,Rows.uptoBulkAll] at hb;obtain⟨a0,len0,cap0,rfl⟩:=okWide_slice Tryz.underlying22 (hval 0 22 v0 rfl rfl);obtain⟨fuel0,h0⟩:=h0;obtain⟨s0,l0,hcs0,hr0,hsum0⟩:=open_bytes h0;have hsum0:l0.length+1≤Rows.uptoBulk d0:=hsum0;have hcs0:Value.slice a0 len0 cap0=(LV.sl s0).toV:=by simpa [Value.cells] using hcs0
 rw [hcs0] at hW' ⊢;obtain⟨k1,rfl⟩:=okWide_int Tryz.underlying2 (hval 1 2 v1 rfl rfl);obtain⟨k2,rfl⟩:=okWide_bool Tryz.underlying4 (hval 2 4 v2 rfl rfl);obtain⟨a3,len3,cap3,rfl⟩:=okWide_slice Tryz.underlying23 (hval 3 23 v3 rfl rfl);obtain⟨fuel3,h3⟩:=h3;obtain⟨s3,l3,hcs3,hr3,hsum3,hok3⟩:=open_qns h3;have hsum3:l3.length+1≤Rows.uptoBulk d3:=hsum3;have hcs3:Value.slice a3 len3 cap3=(LV.sl s3).toV:=by simpa [Value.cells] using hcs3
 rw [hcs3] at hW' ⊢;refine Calls.mono (calls_true (args:=[.leaf (.sl s0),.leaf (.int .i64 k1),.leaf (.bool k2),.leaf (.sl s3)]) (opens_walk hr0 (by omega) hr3 (by omega) (fun x hx=>⟨by have h9:x.key.length+1≤Rows.uptoBulk d3:=(hok3 x hx).1;omega,(hok3 x hx).2⟩) fun w' hM=>⟨rfl,hM⟩)) fun e W' ⟨he,hg⟩=>?_;subst he;exact⟨_,rfl,post_law hW' rfl (by kernel_rfl) rfl rfl rfl (by kernel_rfl) hg⟩
set_option maxRecDepth 100000 in
theorem lifted(os:Os)(started:os.Started)(H:Type)(enc:TypeId×Value→H)(F:Stop.Interp) :
  ReturnsInHanded {} Tryz.checked os 3 .any ((Rows.OpenSpec.upto Rows.spillOpensSpec).pre6 enc Tryz.prog Tryz.f3 Rows.spillOpensUptoRow.domain false) (((Rows.OpenSpec.upto Rows.spillOpensSpec).at F).post enc Tryz.prog Tryz.f3 false true false false):=by
 refine returnsInHanded_of_cond (C:=Tryz.checked) (s:=Rows.OpenSpec.upto Rows.spillOpensSpec) (k:=Rows.uptoSmall) rfl own started (by kernel_rfl) Tryz.func3
  (OpenSpec.witness (enc:=enc) (C:=Tryz.checked) (s:=Rows.OpenSpec.upto Rows.spillOpensSpec) (k:=Rows.uptoSmall) rfl false ⟨#[],#[.slice none 0 0,.int .i64 0,.bool false,.slice none 0 0],[]⟩ 8 (by kernel_rfl) (by kernel_rfl) (by kernel_rfl)
   (x:=([.nil,.lit (.int .i64 0),.lit (.bool false),.nil],[],[])) (by kernel_rfl) rfl (by kernel_rfl)) ?_
 intro W base args ds gs before hval hW _ hk _;exact contract H enc W base args ds gs before hval hW hk
theorem over:Rows.spillOpensUptoRow.holds Tryz.pinned (Rows.OpenSpec.upto Rows.spillOpensSpec):=
 OpenClaim.holds_of_cond 3 Tryz.f3 rfl rfl rfl rfl rfl rfl rfl ⟨rfl,rfl,rfl,rfl,rfl⟩ rfl rfl rfl rfl rfl (by kernel_rfl) Tryz.func3 (by kernel_rfl)
  (of_decide_eq_true (by kernel_rfl)) (by unfold Func.isWrapper;first | (rw [if_pos (by decide +kernel)];kernel_rfl) | (rw [if_neg (by decide +kernel)];exact⟨rfl,rfl⟩))
  (fun os started H enc _ F=>lifted os started H enc F)
theorem proved:Rows.SpillOpensUptoSaid:=
 over
end Go.Proofs.YtkofkhjcfjoceaaGreat.spillOpens
