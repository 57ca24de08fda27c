/- Part T03. -/
import Derived.Test.YtoegpmjoajipcaaGreatDoorT02
import Derived.Laws.StructEq
import Derived.Test.YtoegpmjoajipcaaGreatDoorProg
import Derived.KernelRfl
import Derived.Laws.IdiomStrings
namespace Go.Vw
abbrev Li:Sh:=.leaf (.int .i64)
abbrev Oi:RT:=.one Li
abbrev Lb:Sh:=.leaf (.bool)
abbrev Ob:RT:=.one Lb
abbrev Lp:Sh:=.leaf (.ptr)
abbrev Oq:RT:=.one Lp
abbrev Ls:Sh:=.leaf (.sl)
abbrev Oz:RT:=.one Ls
abbrev Lt:Sh:=.leaf (.str)
abbrev Ot:RT:=.one Lt
abbrev Ai(x:Int):AV:=.leaf (.int .i64 x)
abbrev Ab(x:Bool):AV:=.leaf (.bool x)
abbrev Ap(x:PA):AV:=.leaf (.ptr x)
abbrev Az(x:Sl):AV:=.leaf (.sl x)
abbrev Au(x:List UInt8):AV:=.leaf (.str x)
abbrev Ki:Kd:=.int .i64
def Blk(w:World)(b:Nat)(c:List Value):Prop:=∃e,w.heap[b]? = some (.cells c.toArray e)
theorem Blk.lt{w:World}{b:Nat}{c:List Value}(h:Blk w b c):b<w.heap.size:=by
 obtain⟨e,h⟩:=h;exact (Array.getElem?_eq_some_iff.1 h).1
theorem Blk.cell{w:World}{b:Nat}{c:List Value}(h:Blk w b c)(o:Nat):w.cell? ⟨b,o,none⟩=c[o]?:=by
 obtain⟨e,h⟩:=h;simp [World.cell?,h]
theorem Blk.frz{w:World}{b:Nat}{c:List Value}(h:Blk w b c)(o:Nat):w.frozen? ⟨b,o,none⟩=false:=by
 obtain⟨e,h⟩:=h;simp [World.frozen?,h]
theorem Blk.of_heap{w w':World}{b:Nat}{c:List Value}(h:Blk w b c)(hh:w'.heap[b]? = w.heap[b]?):Blk w' b c:=by
 obtain⟨e,h⟩:=h;exact⟨e,hh.trans h⟩
theorem cell_of_heap{w w':World}{a:Addr}(hh:w'.heap[a.block]? = w.heap[a.block]?):w'.cell? a=w.cell? a:=by simp [World.cell?,hh]
theorem heap_alloc_old{w:World}{o:Obj}{b:Nat}(h:b<w.heap.size):(w.alloc o).heap[b]? = w.heap[b]?:=by
 simp only [World.alloc];rw [Array.getElem?_push_lt h,Array.getElem?_eq_getElem h]
theorem Blk.new(w:World)(c:List Value)(e:TypeId):Blk (w.alloc (.cells c.toArray e)) w.heap.size c:=⟨e,World.alloc_heap_new w _⟩
def spl(c:List Value)(o:Nat):List Value→List Value
 | []=>c
 | v::r=>spl (c.set o v) (o+1) r
@[simp] theorem spl_length (c:List Value) (o:Nat) (vs:List Value):(spl c o vs).length=c.length:=by
 induction vs generalizing c o with
 | nil=>rfl
 | cons v r ih=>simp [spl,ih]
theorem heap_setCell{w:World}{a:Addr}{v:Value}{k:Nat}(h:k≠a.block):(w.setCell a v).heap[k]? = w.heap[k]?:=Go.RowKit.Below.heap_setCell w a v k h
theorem heap_setCells{b:Nat}:∀(vs:List Value) (w:World) (o k:Nat),k≠b→(World.setCells w b o vs).heap[k]? = w.heap[k]?
 | [],_,_,_,_=>rfl
 | v::r,w,o,k,h=>(heap_setCells r _ (o+1) k h).trans (heap_setCell h)
theorem size_setCells{b:Nat}:∀(vs:List Value) (w:World) (o:Nat),(World.setCells w b o vs).heap.size=w.heap.size
 | [],_,_=>rfl
 | v::r,w,o=>(size_setCells r _ (o+1)).trans (World.size_setCell ..)
theorem Blk.setCell{w:World}{b o:Nat}{c:List Value}(h:Blk w b c)(v:Value):Blk (w.setCell ⟨b,o,none⟩ v) b (c.set o v):=by
 have hlt:=h.lt;obtain⟨e,h⟩:=h;refine⟨e,?_⟩;have hg:w.heap[b] = .cells c.toArray e:=by rw [Array.getElem?_eq_getElem hlt] at h;simpa using h
 show (w.heap.modify b _)[b]? = _;rw [Array.getElem?_eq_getElem (by rw [Array.size_modify];exact hlt),Array.getElem_modify_self,hg];simp
theorem Blk.setCells{b:Nat}:∀(vs:List Value) {w:World} {o:Nat} {c:List Value},Blk w b c→Blk (World.setCells w b o vs) b (spl c o vs)
 | [],_,_,_,h=>h
 | v::r,w,o,c,h=>Blk.setCells r (h.setCell v)
theorem Mod.trans{D D1 D2:Nat→Prop}{a b c:World}(h:Mod D1 a b)(k:Mod D2 b c)(h1:∀x,x<a.heap.size→D1 x→D x)(h2:∀x,x<a.heap.size→D2 x→D x):Mod D a c:=
 ⟨k.os.trans h.os,k.tape.trans h.tape,k.output.trans h.output,Nat.le_trans h.size k.size,fun x hx hd=>
  (k.block x (Nat.lt_of_lt_of_le hx h.size) fun hd2=>hd (h2 x hx hd2)).trans (h.block x hx fun hd1=>hd (h1 x hx hd1))⟩
theorem Mod.mono{D D1:Nat→Prop}{a b:World}(h:Mod D1 a b)(h1:∀x,x<a.heap.size→D1 x→D x):Mod D a b:=
 ⟨h.os,h.tape,h.output,h.size,fun x hx hd=>h.block x hx fun hd1=>hd (h1 x hx hd1)⟩
theorem Mod.drew(D:Nat→Prop)(w:World):Mod D w w.drew:=⟨rfl,rfl,rfl,Nlr _,fun _ _ _=>rfl⟩
theorem Mod.alloc(D:Nat→Prop)(w:World)(o:Obj):Mod D w (w.alloc o):=⟨rfl,rfl,rfl,by simp,fun _ hx _=>heap_alloc_old hx⟩
theorem setCells_rest{b:Nat}:∀(vs:List Value) (w:World) (o:Nat),(World.setCells w b o vs).os=w.os∧(World.setCells w b o vs).tape=w.tape∧(World.setCells w b o vs).output=w.output
 | [],_,_=>⟨rfl,rfl,rfl⟩
 | v::r,w,o=>setCells_rest r (w.setCell _ v) (o+1)
theorem Mod.setCells(w:World)(b o:Nat)(vs:List Value):Mod (fun k=>k=b) w (World.setCells w b o vs):=
 ⟨(setCells_rest vs w o).1,(setCells_rest vs w o).2.1,(setCells_rest vs w o).2.2,by rw [size_setCells];exact Nlr _,fun k _ hk=>heap_setCells vs w o k hk⟩
theorem Mod.putObj(w:World)(b:Nat)(o:Obj):Mod (fun k=>k=b) w (w.putObj b o):=
 ⟨rfl,rfl,rfl,by simp,fun k _ hk=>World.putObj_heap_other hk⟩
theorem Mod.blk{D:Nat→Prop}{w w':World}(h:Mod D w w'){b:Nat}{c:List Value}(hb:Blk w b c)(hd:¬D b):Blk w' b c:=hb.of_heap (h.block b hb.lt hd)
theorem cell_lt{w:World}{a:Addr}{v:Value}(h:w.cell? a=some v):a.block<w.heap.size:=by
 unfold World.cell? at h
 cases ho:w.heap[a.block]? with
 | none=>simp [ho] at h
 | some o=>exact (Array.getElem?_eq_some_iff.1 ho).1
theorem Mod.cell{D:Nat→Prop}{w w':World}(h:Mod D w w'){a:Addr}{v:Value}(hb:w.cell? a=some v)(hd:¬D a.block):w'.cell? a=some v:=
 (cell_of_heap (h.block _ (cell_lt hb) hd)).trans hb
structure At(w0:World)(D:Nat→Prop)(m:List (Nat×List Value))(w:World):Prop where
 mod:Mod D w0 w
 own:∀p∈m,Blk w p.1 p.2
 nodup:(m.map Prod.fst).Nodup
 wr:∀p∈m,p.1<w0.heap.size→D p.1
theorem At.init(w0:World)(D:Nat→Prop):At w0 D [] w0:=⟨Mod.refl _ _,by simp,by simp,by simp⟩
theorem At.blk{w0 w:World}{D:Nat→Prop}{m:List (Nat×List Value)}(h:At w0 D m w){i b:Nat}{c:List Value}(hi:m[i]? = some (b,c)):Blk w b c:=h.own (b,c) (Lmg hi)
theorem At.al{w0 w:World}{D:Nat→Prop}{m:List (Nat×List Value)}(h:At w0 D m w)(c:List Value)(e:TypeId):At w0 D (m++[(w.heap.size,c)]) (w.alloc (.cells c.toArray e)):=by
 refine⟨h.mod.trans (Mod.alloc D w _) (fun _ _ h=>h) (fun _ _ h=>h),?_,?_,?_⟩
 ·intro p hp;rcases Lma.1 hp with hp | hp
  ·exact (h.own p hp).of_heap (heap_alloc_old (h.own p hp).lt)
  ·simp at hp;subst hp;exact Blk.new ..
 ·rw [List.map_append,List.nodup_append];refine⟨h.nodup,by simp,?_⟩;intro a ha b hb;simp at hb;subst hb;obtain⟨p,hp,rfl⟩:=List.mem_map.1 ha;exact Nat.ne_of_lt (h.own p hp).lt
 ·intro p hp hlt;rcases Lma.1 hp with hp | hp
  ·exact h.wr p hp hlt
  ·simp at hp;subst hp;have:w0.heap.size≤w.heap.size:=h.mod.size;exact absurd hlt (by simp;omega)
theorem At.drew{w0 w:World}{D:Nat→Prop}{m:List (Nat×List Value)}(h:At w0 D m w):At w0 D m w.drew:=
 ⟨h.mod.trans (Mod.drew D w) (fun _ _ h=>h) (fun _ _ h=>h),fun p hp=>(h.own p hp).of_heap rfl,h.nodup,h.wr⟩
theorem At.ne{w0 w:World}{D:Nat→Prop}{m:List (Nat×List Value)}(h:At w0 D m w){i j b b':Nat}{c c':List Value}(hi:m[i]? = some (b,c))(hj:m[j]? = some (b',c'))(hij:i≠j):b≠b':=by
 intro e;subst e;have h1:(m.map Prod.fst)[i]? = some b:=by simp [hi]
 have h2:(m.map Prod.fst)[j]? = some b:=by simp [hj]
 exact hij ((List.getElem?_inj (Les.1 h1).1 h.nodup).1 (h1.trans h2.symm))
theorem At.setCells{w0 w:World}{D:Nat→Prop}{m:List (Nat×List Value)}(h:At w0 D m w){i b:Nat}{c:List Value}(hi:m[i]? = some (b,c))(o:Nat)(vs:List Value) :
  At w0 D (m.set i (b,spl c o vs)) (World.setCells w b o vs):=by
 have hmap:(m.set i (b,spl c o vs)).map Prod.fst=m.map Prod.fst:=by
  rw [List.map_set];apply List.ext_getElem?;intro k;rw [List.getElem?_set];split
  ·rename_i hk;subst hk;split
   ·simp [hi]
   ·rename_i hn;simp at hn;simp [hn]
  ·rfl
 refine⟨h.mod.trans (Mod.setCells w b o vs) (fun _ _ h=>h) (fun x hx e=>?_),?_,by rw [hmap];exact h.nodup,?_⟩
 ·subst e;exact h.wr _ (Lmg hi) hx
 ·intro p hp;obtain⟨k,hk⟩:=List.mem_iff_getElem?.1 hp;rw [List.getElem?_set] at hk;split at hk
  ·split at hk
   ·cases hk;exact Blk.setCells vs (h.blk hi)
   ·cases hk
  ·rename_i hik;have hne:b≠p.1:=h.ne (c':=p.2) hi (by rw [hk]) hik;exact (h.own p (Lmg hk)).of_heap (heap_setCells vs w o _ (Ne.symm hne))
 ·intro p hp hlt;obtain⟨q,hq,hqp⟩:∃q∈m,q.1=p.1:=by
   have:p.1∈(m.set i (b,spl c o vs)).map Prod.fst:=List.mem_map_of_mem hp;rw [hmap] at this;exact List.mem_map.1 this
  rw [←hqp];rw [←hqp] at hlt;exact h.wr q hq hlt
theorem At.keep{w0 w w':World}{D D':Nat→Prop}{m:List (Nat×List Value)}(h:At w0 D m w)(hM:Mod D' w w')(h1:∀b,b<w0.heap.size→D' b→D b)(h2:∀p∈m,¬D' p.1):At w0 D m w':=
 ⟨h.mod.trans hM (fun _ _ h=>h) h1,fun p hp=>hM.blk (h.own p hp) (h2 p hp),h.nodup,h.wr⟩
theorem At.keep0{w0 w w':World}{D D':Nat→Prop}{m:List (Nat×List Value)}(h:At w0 D m w)(hM:Mod D' w w')(h2:∀b,¬D' b):At w0 D m w':=h.keep hM (fun b _ hb=>(h2 b hb).elim) fun p _=>h2 p.1
theorem At.sub{w0 w:World}{D:Nat→Prop}{m m':List (Nat×List Value)}(h:At w0 D m w)(hs:m'.Sublist m):At w0 D m' w:=
 ⟨h.mod,fun p hp=>h.own p (hs.subset hp),h.nodup.sublist (hs.map _),fun p hp=>h.wr p (hs.subset hp)⟩
theorem At.weaken{w0 w:World}{D D':Nat→Prop}{m:List (Nat×List Value)}(h:At w0 D m w)(hD:∀b,b<w0.heap.size→D b→D' b):At w0 D' m w:=
 ⟨h.mod.mono hD,h.own,h.nodup,fun p hp hl=>hD _ hl (h.wr p hp hl)⟩
theorem At.add{w0 w:World}{D:Nat→Prop}{m:List (Nat×List Value)}(h:At w0 D m w){b:Nat}{c:List Value}(hb:Blk w b c)(hn:∀p∈m,p.1≠b)(hD:b<w0.heap.size→D b):At w0 D (m++[(b,c)]) w:=by
 refine⟨h.mod,?_,?_,?_⟩
 ·intro p hp;rcases Lma.1 hp with hp | hp
  ·exact h.own p hp
  ·simp at hp;subst hp;exact hb
 ·rw [List.map_append,List.nodup_append];refine⟨h.nodup,by simp,?_⟩;intro a ha x hx;simp at hx;subst hx;obtain⟨p,hp,rfl⟩:=List.mem_map.1 ha;exact hn p hp
 ·intro p hp hlt;rcases Lma.1 hp with hp | hp
  ·exact h.wr p hp hlt
  ·simp at hp;subst hp;exact hD hlt
theorem At.from{w0 w:World}{D:Nat→Prop}{m:List (Nat×List Value)}(h:At w0 D m w){D':Nat→Prop}(hD:∀p∈m,D' p.1):At w D' m w:=
 ⟨Mod.refl _ _,h.own,h.nodup,fun p hp _=>hD p hp⟩
theorem Iq{b:Bool}{A B:Prop}(h1:b=true→A)(h2:b=false→B):ifK b A B:=⟨h1,h2⟩
theorem ifK_t{b:Bool}{A B:Prop}(h:b=true)(h1:A):ifK b A B:=⟨fun _=>h1,fun h'=>by rw [h] at h';cases h'⟩
theorem ifK_f{b:Bool}{A B:Prop}(h:b=false)(h1:B):ifK b A B:=⟨fun h'=>by (rw [h] at h';cases h'),fun _=>h1⟩
theorem Lq{w:World}{k:Kd}{b o:Nat}{K:Den k→Prop}(x:Den k)(h:w.cell? ⟨b,o,none⟩=some (LV.mk k x).toV)(hK:K x):ld w k b o K:=⟨x,h,hK⟩
theorem Lw{D:Nat→Prop}{w:World}{k:Kd}{b o:Nat}{K:Den k→Prop}(x:Den k)(hd:¬D b)(h:w.cell? ⟨b,o,none⟩=some (LV.mk k x).toV)(hK:K x):ldD D w k b o K:=⟨x,hd,h,hK⟩
theorem At.ld{w0 w:World}{D:Nat→Prop}{m:List (Nat×List Value)}(h:At w0 D m w)(i:Nat){k:Kd}{b o:Nat}{c:List Value}(x:Den k){K:Den k→Prop}(hi:m[i]? = some (b,c))(hx:c[o]? = some (LV.mk k x).toV)(hK:K x):Go.Vw.ld w k b o K:=
 ⟨x,((h.blk hi).cell o).trans hx,hK⟩
theorem At.st{w0 w:World}{D:Nat→Prop}{m:List (Nat×List Value)}(h:At w0 D m w)(i:Nat){b o:Nat}{c:List Value}{vs:List LV}{K:Wp}(hi:m[i]? = some (b,c))(hl:o+vs.length≤c.length)
  (hK:∀w',At w0 D (m.set i (b,spl c o (vs.map LV.toV))) w'→Mod (fun k=>k=b) w w'→K w'):Go.Vw.st w b o vs K:=by
 refine⟨fun j hj=>⟨⟨c[o+j]'(by omega),?_⟩,(h.blk hi).frz _⟩,hK _ (h.setCells hi o _) (Mod.setCells ..)⟩;rw [(h.blk hi).cell,Lge]
theorem At.alK{w0 w:World}{D:Nat→Prop}{m:List (Nat×List Value)}(h:At w0 D m w){e:TypeId}{cs:List LV}{K:Nat→Wp}
  (hK:∀b w',b=w.heap.size→At w0 D (m++[(b,cs.map LV.toV)]) w'→Mod (fun _=>False) w w'→K b w'):Go.Vw.al w e cs K:=hK _ _ rfl (h.al _ e) (Mod.alloc _ _ _)
theorem Dq{b o:Nat}{K:Nat→Nat→Prop}(h:K b o):dr (some (b,o)) K:=⟨b,o,rfl,h⟩
theorem ix_some{s:Sl}{sz b o:Nat}{i:Int}{K:Nat→Nat→Prop}(hp:s.p=some (b,o))(h0:0≤i)(h1:i<s.len)(h:K b (o+i.toNat*sz))(hc:s.len≤s.cap:=by first | exact Nlr _ | assumption | omega):ix s sz i K:=⟨b,o,hp,by omega,h0,h1,h⟩
theorem Wq{n:Int}(h1:-9223372036854775808≤n)(h2:n≤9223372036854775807):w64 n=n:=IntWalk.i64_in n ⟨h1,h2⟩
def mu1(k:Kd)(μ:Den k→World→Nat):List LV→World→Nat
 | [y],w=>match y.as k with
  | some x=>μ x w
  | none=>0
 | _,_=>0
theorem loop1{k:Kd}{B:Den k→World→(Den k→Wp)→Prop}{y:LV}{w:World}(I:Den k→Wp)(μ:Den k→World→Nat){x:Den k}(hy:y.as k=some x)(h0:I x w)
  (hs:∀x w,I x w→B x w fun x' w'=>I x' w'∧μ x' w'<μ x w):loopL [k] B [y] w:=
 ⟨fun l w=>∃y x,l=[y]∧y.as k=some x∧I x w,mu1 k μ,⟨y,x,rfl,hy,h0⟩,fun l w hI=>by
  obtain⟨y,x,rfl,hx,hI⟩:=hI;have:=hs x w hI;simp only [app,lam,hx];have he:(fun (x':Den k) (w':World)=>(∃y x,[LV.mk k x']=[y]∧y.as k=some x∧I x w')∧mu1 k μ [LV.mk k x'] w'<mu1 k μ [y] w)=fun x' w'=>I x' w'∧μ x' w'<μ x w:=by
   funext x' w';simp only [mu1,LV.as_mk,hx,eq_iff_iff];constructor
   ·rintro ⟨⟨y,x,h1,h2,h3⟩,h4⟩;cases h1;rw [LV.as_mk] at h2;cases h2;exact⟨h3,h4⟩
   ·rintro ⟨h1,h2⟩;exact⟨⟨_,x',rfl,LV.as_mk k x',h1⟩,h2⟩
  rw [he];exact this⟩
def mu2(k1 k2:Kd)(μ:Den k1→Den k2→World→Nat):List LV→World→Nat
 | [y1,y2],w=>match y1.as k1,y2.as k2 with
  | some x1,some x2=>μ x1 x2 w
  | _,_=>0
 | _,_=>0
theorem loop2{k1 k2:Kd}{B:Den k1→Den k2→World→(Den k1→Den k2→Wp)→Prop}{y1 y2:LV}{w:World}(I:Den k1→Den k2→Wp)(μ:Den k1→Den k2→World→Nat){x1:Den k1}{x2:Den k2}(hy1:y1.as k1=some x1)(hy2:y2.as k2=some x2)(h0:I x1 x2 w)
  (hs:∀x1 x2 w,I x1 x2 w→B x1 x2 w fun x1' x2' w'=>I x1' x2' w'∧μ x1' x2' w'<μ x1 x2 w):loopL [k1,k2] B [y1,y2] w:=
 ⟨fun l w=>∃y1 x1 y2 x2,l=[y1,y2]∧y1.as k1=some x1∧y2.as k2=some x2∧I x1 x2 w,mu2 k1 k2 μ,⟨y1,x1,y2,x2,rfl,hy1,hy2,h0⟩,fun l w hI=>by
  obtain⟨y1,x1,y2,x2,rfl,hx1,hx2,hI⟩:=hI;have:=hs x1 x2 w hI;simp only [app,lam,hx1,hx2];have he:(fun (a:Den k1) (b:Den k2) (w':World)=>(∃y1 x1 y2 x2,[LV.mk k1 a,LV.mk k2 b]=[y1,y2]∧y1.as k1=some x1∧y2.as k2=some x2∧I x1 x2 w')∧mu2 k1 k2 μ [LV.mk k1 a,LV.mk k2 b] w'<mu2 k1 k2 μ [y1,y2] w)=fun a b w'=>I a b w'∧μ a b w'<μ x1 x2 w:=by
   funext a b w';simp only [mu2,LV.as_mk,hx1,hx2,eq_iff_iff];constructor
   ·rintro ⟨⟨y1,x1,y2,x2,h1,h2,h3,h4⟩,h5⟩;cases h1;rw [LV.as_mk] at h2 h3;cases h2;cases h3;exact⟨h4,h5⟩
   ·rintro ⟨h1,h2⟩;exact⟨⟨_,a,_,b,rfl,LV.as_mk k1 a,LV.as_mk k2 b,h1⟩,h2⟩
  rw [he];exact this⟩
def mu3(k1 k2 k3:Kd)(μ:Den k1→Den k2→Den k3→World→Nat):List LV→World→Nat
 | [y1,y2,y3],w=>match y1.as k1,y2.as k2,y3.as k3 with
  | some x1,some x2,some x3=>μ x1 x2 x3 w
  | _,_,_=>0
 | _,_=>0
theorem loop3{k1 k2 k3:Kd}{B:Den k1→Den k2→Den k3→World→(Den k1→Den k2→Den k3→Wp)→Prop}{y1 y2 y3:LV}{w:World}(I:Den k1→Den k2→Den k3→Wp)(μ:Den k1→Den k2→Den k3→World→Nat){x1:Den k1}{x2:Den k2}{x3:Den k3}(hy1:y1.as k1=some x1)(hy2:y2.as k2=some x2)(hy3:y3.as k3=some x3)(h0:I x1 x2 x3 w)
  (hs:∀x1 x2 x3 w,I x1 x2 x3 w→B x1 x2 x3 w fun x1' x2' x3' w'=>I x1' x2' x3' w'∧μ x1' x2' x3' w'<μ x1 x2 x3 w):loopL [k1,k2,k3] B [y1,y2,y3] w:=
 ⟨fun l w=>∃y1 x1 y2 x2 y3 x3,l=[y1,y2,y3]∧y1.as k1=some x1∧y2.as k2=some x2∧y3.as k3=some x3∧I x1 x2 x3 w,mu3 k1 k2 k3 μ,⟨y1,x1,y2,x2,y3,x3,rfl,hy1,hy2,hy3,h0⟩,fun l w hI=>by
  obtain⟨y1,x1,y2,x2,y3,x3,rfl,hx1,hx2,hx3,hI⟩:=hI;have:=hs x1 x2 x3 w hI;simp only [app,lam,hx1,hx2,hx3];have he:(fun (a:Den k1) (b:Den k2) (c:Den k3) (w':World)=>(∃y1 x1 y2 x2 y3 x3,[LV.mk k1 a,LV.mk k2 b,LV.mk k3 c]=[y1,y2,y3]∧y1.as k1=some x1∧y2.as k2=some x2∧y3.as k3=some x3∧I x1 x2 x3 w')∧mu3 k1 k2 k3 μ [LV.mk k1 a,LV.mk k2 b,LV.mk k3 c] w'<mu3 k1 k2 k3 μ [y1,y2,y3] w)=fun a b c w'=>I a b c w'∧μ a b c w'<μ x1 x2 x3 w:=by
   funext a b c w';simp only [mu3,LV.as_mk,hx1,hx2,hx3,eq_iff_iff];constructor
   ·rintro ⟨⟨y1,x1,y2,x2,y3,x3,h1,h2,h3,h4,h5⟩,h6⟩;cases h1;rw [LV.as_mk] at h2 h3 h4;cases h2;cases h3;cases h4;exact⟨h5,h6⟩
   ·rintro ⟨h1,h2⟩;exact⟨⟨_,a,_,b,_,c,rfl,LV.as_mk k1 a,LV.as_mk k2 b,LV.as_mk k3 c,h1⟩,h2⟩
  rw [he];exact this⟩
theorem join0{A:(Wp)→Prop}{K:Wp}(R:Wp)(hA:∀k:Wp,(∀w,R w→k w)→A k)(hK:∀w,R w→K w):joinK [] A K:=hA K hK
theorem join1{a:Kd}{A:(Den a→Wp)→Prop}{K:Den a→Wp}(R:Den a→Wp)(hA:∀k:Den a→Wp,(∀x w,R x w→k x w)→A k)(hK:∀x w,R x w→K x w):joinK [a] A K:=hA K hK
theorem join2{a b:Kd}{A:(Den a→Den b→Wp)→Prop}{K:Den a→Den b→Wp}(R:Den a→Den b→Wp)(hA:∀k:Den a→Den b→Wp,(∀x y w,R x y w→k x y w)→A k)(hK:∀x y w,R x y w→K x y w):joinK [a,b] A K:=hA K hK
end Go.Vw
namespace Go.Vw
structure Enc(α:Type) where
 n:Nat
 f:α→List Value
 len:∀x,(f x).length=n
 pos:0<n
 cell:∀x,∀v∈f x,isCell v=true
def Enc.cells{α:Type}(E:Enc α):List α→List Value
 | []=>[]
 | x::l=>E.f x++E.cells l
theorem Enc.cells_length{α:Type}(E:Enc α):∀l:List α,(E.cells l).length=l.length*E.n
 | []=>by simp [Enc.cells]
 | x::l=>by simp [Enc.cells,E.len,E.cells_length l,Nat.add_mul,Nat.add_comm]
theorem Enc.cells_append{α:Type}(E:Enc α):∀l l':List α,E.cells (l++l')=E.cells l++E.cells l'
 | [],l'=>rfl
 | x::l,l'=>by simp [Enc.cells,E.cells_append l l']
theorem Enc.cells_get{α:Type}(E:Enc α):∀(l:List α) (i j:Nat),j<E.n→(E.cells l)[i*E.n+j]? = l[i]?.bind fun x=>(E.f x)[j]?
 | [],i,j,_=>by simp [Enc.cells]
 | x::l,0,j,h=>by
  simp only [Enc.cells,Nat.zero_mul,Nat.zero_add];rw [Lgl (by rw [E.len];exact h)];rfl
 | x::l,i+1,j,h=>by
  simp only [Enc.cells];rw [Lgr (by rw [E.len,Nat.add_mul];omega),E.len,List.getElem?_cons_succ,←E.cells_get l i j h];congr 1;rw [Nat.add_mul];omega
theorem Enc.cells_isCell{α:Type}(E:Enc α):∀l:List α,∀v∈E.cells l,isCell v=true
 | [],v,h=>by simp [Enc.cells] at h
 | x::l,v,h=>by
  simp only [Enc.cells,Lma] at h;rcases h with h | h
  ·exact E.cell x v h
  ·exact E.cells_isCell l v h
theorem spl_eq:∀(vs c:List Value) (o:Nat),o+vs.length≤c.length→spl c o vs=c.take o++vs++c.drop (o+vs.length)
 | [],c,o,_=>by simp [spl]
 | v::r,c,o,h=>by
  simp only [spl];rw [spl_eq r (c.set o v) (o+1) (by simp at h ⊢;omega)];have ho:o<c.length:=by simp at h;omega
  have h1:(c.set o v).take (o+1)=c.take o++[v]:=by
   rw [List.set_eq_take_append_cons_drop,if_pos ho];rw [List.take_append,Ltl (by simp;omega)];have:o+1-(c.take o).length=1:=by simp;omega
   rw [this];simp
  have h2:(c.set o v).drop (o+1+r.length)=c.drop (o+(v::r).length):=by
   have:o+(v::r).length=o+1+r.length:=by simp;omega
   rw [this,List.drop_set_of_lt (by omega)]
  rw [h1,h2];simp
theorem Enc.cells_set{α:Type}(E:Enc α):∀(l:List α) (i j:Nat) (vs:List Value) (x y:α) (rest:List Value),l[i]? = some x→j+vs.length≤E.n→spl (E.f x) j vs=E.f y →
  spl (E.cells l++rest) (i*E.n+j) vs=E.cells (l.set i y)++rest
 | [],i,j,vs,x,y,rest,h,_,_=>by simp at h
 | z::l,0,j,vs,x,y,rest,h,hj,hs=>by
  simp at h;subst h;simp only [Enc.cells,List.set_cons_zero,Nat.zero_mul,Nat.zero_add,Laa];rw [spl_eq _ _ _ (by simp [E.len];omega)];rw [←hs,spl_eq _ _ _ (by rw [E.len];exact hj)];rw [List.take_append_of_le_length (by rw [E.len];omega),List.drop_append_of_le_length (by rw [E.len];omega)];simp
 | z::l,i+1,j,vs,x,y,rest,h,hj,hs=>by
  have ih:=E.cells_set l i j vs x y rest (by simpa using h) hj hs;simp only [Enc.cells,List.set_cons_succ,Laa];rw [←ih];have hi:i<l.length:=by simp at h;exact (Les.1 h).1
  have hle:i*E.n+j+vs.length≤(E.cells l++rest).length:=by
   simp only [Lla,E.cells_length];have:(i+1)*E.n≤l.length*E.n:=Nat.mul_le_mul_right _ hi;rw [Nat.add_mul] at this;omega
  have hm:(i+1)*E.n+j=E.n+(i*E.n+j):=by rw [Nat.add_mul];omega
  rw [hm,spl_eq _ _ _ (by simp only [Lla,E.len] at hle ⊢;omega),spl_eq _ _ _ hle];have h1:∀(k:Nat),(E.f z++(E.cells l++rest)).take (E.n+k)=E.f z++(E.cells l++rest).take k:=fun k=>by
   rw [←E.len z,List.take_length_add_append]
  have h2:∀(k:Nat),(E.f z++(E.cells l++rest)).drop (E.n+k)=(E.cells l++rest).drop k:=fun k=>by
   rw [←E.len z,List.drop_length_add_append]
  rw [h1,Nat.add_assoc E.n,h2];simp
def Rd(w:World)(p:PA)(c:List Value):Prop:=c=[]∨∃b o,p=some (b,o)∧∀i,i<c.length→w.cell? ⟨b,o+i,none⟩=c[i]?
def bk(s:Sl)(b:Nat):Prop:=∃o,s.p=some (b,o)
def rk(s:Sl)(b:Nat):Prop:=s.cap≠0∧bk s b
structure RdS{α:Type}(w:World)(E:Enc α)(s:Sl)(l:List α):Prop where
 len:s.len=l.length
 rd:Rd w s.p (E.cells l)
 has:s.len≤s.cap
theorem Rd.keep{w w':World}{p:PA}{c:List Value}(h:Rd w p c){D:Nat→Prop}(hM:Mod D w w')(hd:∀b o,p=some (b,o)→¬D b):Rd w' p c:=by
 rcases h with h | ⟨b,o,hp,h⟩
 ·exact .inl h
 ·refine .inr ⟨b,o,hp,fun i hi=>?_⟩;have:=h i hi;rw [Lge hi] at this ⊢;exact hM.cell this (hd b o hp)
theorem RdS.keep{α:Type}{w w':World}{E:Enc α}{s:Sl}{l:List α}(h:RdS w E s l){D:Nat→Prop}(hM:Mod D w w')(hd:∀b,rk s b→¬D b):RdS w' E s l:=by
 refine⟨h.len,?_,h.has⟩;by_cases hc:s.cap=0
 ·have h1:=h.len;have h2:=h.has;have:l=[]:=List.eq_nil_of_length_eq_zero (by omega);left;rw [this];rfl
 ·exact h.rd.keep hM fun b o hp=>hd b ⟨hc,o,hp⟩
theorem RdS.at{α:Type}{w:World}{E:Enc α}{s:Sl}{l:List α}(h:RdS w E s l){i:Nat}{x:α}(hi:l[i]? = some x):∃b o,s.p=some (b,o)∧i<s.len∧∀j,j<E.n→w.cell? ⟨b,o+i*E.n+j,none⟩=(E.f x)[j]?:=by
 have hlt:i<l.length:=(Les.1 hi).1;have hle:(i+1)*E.n≤l.length*E.n:=Nat.mul_le_mul_right _ hlt;rw [Nat.add_mul] at hle;have hp:=E.pos;rcases h.rd with hc | ⟨b,o,hb,hr⟩
 ·have:=congrArg List.length hc;rw [E.cells_length] at this;simp only [List.length_nil] at this;omega
 ·refine⟨b,o,hb,by rw [h.len];exact hlt,fun j hj=>?_⟩;rw [Nat.add_assoc,hr _ (by rw [E.cells_length];omega),E.cells_get l i j hj,hi];rfl
theorem RdS.ix{α:Type}{w:World}{E:Enc α}{s:Sl}{l:List α}(h:RdS w E s l){n:Nat}(hn:n=E.n){i:Int}{k:Nat}(hk:i=(k:Int)){x:α}(hx:l[k]? = some x){K:Nat→Nat→Prop}
  (hK:∀b o,rk s b→(∀j,j<E.n→w.cell? ⟨b,o+j,none⟩=(E.f x)[j]?)→K b o):Go.Vw.ix s n i K:=by
 obtain⟨b,o,hp,hlt,hr⟩:=h.at hx;subst hn;subst hk;exact⟨b,o,hp,by have:=h.has;omega,by omega,by omega,hK _ _ ⟨by have:=h.has;omega,o,hp⟩ (by simpa using hr)⟩
theorem RdS.cells{α:Type}{w:World}{E:Enc α}{s:Sl}{l:List α}(h:RdS w E s l){n:Nat}(hn:(E.cells l).length=n):rdCells w s n (E.cells l):=by
 refine⟨hn,?_⟩;have hh:=h.has;rw [h.len] at hh;rcases h.rd with h | ⟨b,o,hp,h⟩
 ·left;rw [←hn,h];rfl
 ·by_cases hl:l=[]
  ·left;rw [←hn,hl];rfl
  ·have:=List.length_pos_iff.2 hl;exact .inr ⟨b,o,hp,by omega,fun i hi=>h i (by omega)⟩
structure Vec{α:Type}(w:World)(E:Enc α)(s:Sl)(l:List α):Prop where
 len:s.len=l.length
 own:(s.p=none∧s.cap=0∧l=[])∨∃b rest,s.p=some (b,0)∧Blk w b (E.cells l++rest)∧(E.cells l++rest).length=s.cap*E.n
theorem Vec.mkK{α:Type}{w:World}(E:Enc α)(z:α){e:TypeId}{bytes:Nat}{zs:List LV}{n:Int}(k:Nat)(hk:n=(k:Int))(hz:zs.map LV.toV=E.f z)(h1:k<2^48)(h2:bytes*k≤2^47)
  {K:Sl→Wp} (hK:∀w',Vec w' E ⟨some (w.heap.size,0),k,k⟩ (List.replicate k z)→Blk w' w.heap.size (E.cells (List.replicate k z))→Mod (fun _=>False) w w'→K ⟨some (w.heap.size,0),k,k⟩ w'):Go.Vw.mk w e bytes zs n n K:=by
 subst hk;have hc:∀m:Nat,(List.replicate m (zs.map LV.toV)).flatten=E.cells (List.replicate m z):=by
  intro m
  induction m with
  | zero=>rfl
  | succ m ih=>rw [hz] at ih;simp only [List.replicate_succ,List.flatten_cons,Enc.cells,hz,ih]
 refine⟨by omega,Int.le_refl _,by exact_mod_cast h1,by exact_mod_cast h2,?_⟩;have hb:=Blk.new w (List.replicate k (zs.map LV.toV)).flatten e;rw [hc] at hb;refine hK _ ⟨by simp,.inr ⟨_,[],rfl,?_,?_⟩⟩ ?_ (Mod.alloc _ _ _)
 ·rw [Lan];simp only [Itn];rw [hc];exact hb
 ·simp [E.cells_length]
 ·simp only [Itn];rw [hc];exact hb
end Go.Vw
namespace Go.Proofs.YtoegpmjoajipcaaGreatDoor
open Go.Vw
abbrev Str:=List UInt8
def EI:Enc Int:=⟨1,fun x=>[.int .i64 x],fun _=>rfl,by decide,fun x v h=>by simp at h;subst h;rfl⟩
theorem _root_.Go.Vw.At.perm{w0 w:World}{D:Nat→Prop}{m m':List (Nat×List Value)}(h:At w0 D m w)(hp:m'.Perm m):At w0 D m' w:=
 ⟨h.mod,fun p hpp=>h.own p (hp.subset hpp),(hp.map Prod.fst).nodup_iff.2 h.nodup,fun p hpp=>h.wr p (hp.subset hpp)⟩
theorem _root_.Go.Vw.At.mkAdd{w0 w w':World}{D:Nat→Prop}{m:List (Nat×List Value)}(h:At w0 D m w){b:Nat}{c:List Value}(hM:Mod (fun _=>False) w w')(hb:Blk w' b c)(hf:w.heap.size≤b):At w0 D (m++[(b,c)]) w':=
 (h.keep0 hM fun _=>id).add hb (fun p hp e=>by have:=(h.own p hp).lt;omega) fun hlt=>absurd hlt (by have:=h.mod.size;omega)
theorem cells_repl{α:Type}(E:Enc α)(n:Nat)(x:α)(l:List Value)(h:l=E.f x):(List.replicate n l).flatten=E.cells (List.replicate n x):=by
 subst h
 induction n with
 | zero=>rfl
 | succ n ih=>simp only [List.replicate_succ,List.flatten_cons,Enc.cells,ih]
theorem rd_one{α:Type}{w:World}{E:Enc α}{b:Nat}{x:α}(h:Blk w b (E.f x)):RdS w E ⟨some (b,0),1,1⟩ [x]:=
 ⟨rfl,.inr ⟨b,0,rfl,fun i hi=>by rw [h.cell,Nat.zero_add];simp [Enc.cells]⟩,Nlr _⟩
def Ks(r:List (Nat×List Value)):Nat→Prop:=fun b=>∃q∈r,q.1=b
theorem perm_tail3{α:Type}(m a b:List α):((m++a)++b).Perm ((m++b)++a):=by
 rw [Laa,Laa];exact List.Perm.append_left m Lpc
theorem At.last{w0 w:World}{D:Nat→Prop}{m:List (Nat×List Value)}{b:Nat}{c:List Value}(hA:At w0 D (m++[(b,c)]) w){o:Nat}{vs:List LV}{K:Wp}(hl:o+vs.length≤c.length)
  (hK:∀w',At w0 D (m++[(b,spl c o (vs.map LV.toV))]) w'→K w'):Go.Vw.st w b o vs K:=by
 refine hA.st m.length (by simp) hl fun w' hA' _=>hK w' ?_;have:(m++[(b,c)]).set m.length (b,spl c o (vs.map LV.toV))=m++[(b,spl c o (vs.map LV.toV))]:=by
  rw [List.set_append_right _ _ (Nlr _)];simp
 rw [this] at hA';exact hA'
theorem _root_.Go.Vw.At.notKs{w0 w:World}{D:Nat→Prop}{m ro:List (Nat×List Value)}(hA:At w0 D (m++ro) w){p:Nat×List Value}(hp:p∈m):¬Ks ro p.1:=by
 have hnd:=hA.nodup;rw [List.map_append,List.nodup_append] at hnd;rintro ⟨q,hq,e⟩;exact hnd.2.2 _ (List.mem_map_of_mem hp) _ (List.mem_map_of_mem hq) e.symm
def isFar:Obj→Bool
 | .cells _ _ _=>false
 | _=>true
theorem isFar_loop{o:Obj}(h:isLoop (some o)=true):isFar o=true:=by cases o<;>first | rfl | cases h
theorem heap_lt{w:World}{l:Nat}{o:Obj}(h:w.heap[l]? = some o):l<w.heap.size:=(Array.getElem?_eq_some_iff.1 h).1
theorem far_cell{w:World}{b:Nat}{o:Obj}{c:List Value}(h:w.heap[b]? = some o)(hf:isFar o=true):¬Blk w b c:=by
 rintro ⟨e,he⟩;rw [h] at he;cases he;cases hf
theorem mod0{a b c:World}(h:Mod (fun _=>False) a b)(k:Mod (fun _=>False) b c):Mod (fun _=>False) a c:=h.trans k (fun _ _ h=>h) fun _ _ h=>h
def EStr:Enc Str:=⟨1,fun s=>[(LV.str s).toV],fun _=>rfl,by decide,fun x v h=>by simp at h;subst h;rfl⟩
def EPr:Enc (Str×Str):=⟨2,fun x=>[(LV.str x.1).toV,(LV.str x.2).toV],fun _=>rfl,by decide,fun x v h=>by simp at h;rcases h with rfl | rfl<;>rfl⟩
theorem dlt{a b:Nat}(h:decide ((a:Int)<(b:Int))=true):a<b:=Int.ofNat_lt.1 (odt h)
theorem dge{a b:Nat}(h:decide ((a:Int)<(b:Int))=false):b≤a:=Nat.not_lt.1 fun k=>odf h (Int.ofNat_lt.2 k)
theorem dpos{a:Nat}(h:decide ((0:Int)<(a:Int))=true):0<a:=Int.ofNat_lt.1 (odt h)
theorem dzero{a:Nat}(h:decide ((0:Int)<(a:Int))=false):a=0:=Nat.eq_zero_of_not_pos fun k=>odf h (Int.ofNat_lt.2 k)
end Go.Proofs.YtoegpmjoajipcaaGreatDoor
namespace Go.Vw
variable {P:Program}
end Go.Vw
namespace Go.Proofs.YtoegpmjoajipcaaGreatDoor
open Go.Vw
noncomputable abbrev Pg:Program:=Tryz.prog
def CSl:List Nat:=[3,4,5,6,7,8,9,10,11,12,13,14,15,16,17,18,19,20,21,22,23,24,25,26,27,28,29,30,31,32,33,34,35,36,37,38,39,40,41,42,43,44,45,46,47,48,49,50,51,52,53,54,55,56,57,59,60,61,62,63,64,65,66,67,68,69,70,71,72,73,74,75,76,77,79,80,81,82,83,84,85,86,87,88,89,90,91,92,93,94,95,96,97,98,99,100,101,102,103,104,105,106,107,108,109,110,111,112,113,114,115,116,117,118,119,120,121,122,123,124,125,126,127,128,129,130,131,132,133,134,135,136,137,138,139,140,141,142,143,144,145,146,147,148,149,150,151,152,153,154,155,156,157,158,159,160,161,162,163,164,165,166,167,168,169,170,171,172,173,174,175,176,177,178,179,180,181,182,183,184,185,201,202,203,204,205,206,207,208,216]
def CS:Cs:=⟨CSl,[],fun _ _=>False⟩
theorem CS_all:CSl.all (callable Pg)=true:=by kernel_rfl
theorem CSl_ok(f:Nat)(h:CSl.contains f=true):callable Pg f=true:=List.all_eq_true.1 CS_all f (by simpa using h)
theorem CS_ok(f:Nat)(h:CS.contains f=true):callable Pg f=true:=CSl_ok f h
theorem mixed:Pg.follows .mixedOrders=true:=by kernel_rfl
abbrev c_24:FuncId:=3
abbrev c_38:FuncId:=4
abbrev c_17:FuncId:=5
abbrev c_23:FuncId:=6
abbrev c_39:FuncId:=7
abbrev c_40:FuncId:=8
abbrev c_10:FuncId:=9
abbrev c_7:FuncId:=10
abbrev c_30:FuncId:=11
abbrev c_6:FuncId:=12
abbrev c_37:FuncId:=13
abbrev c_18:FuncId:=14
abbrev c_19:FuncId:=15
abbrev c_20:FuncId:=16
abbrev c_22:FuncId:=17
abbrev c_4:FuncId:=18
abbrev c_2:FuncId:=19
abbrev c_5:FuncId:=20
abbrev c_1:FuncId:=21
abbrev c_103:FuncId:=22
abbrev c_49:FuncId:=23
abbrev c_25:FuncId:=24
abbrev c_28:FuncId:=25
abbrev c_132:FuncId:=26
abbrev c_35:FuncId:=27
abbrev c_36:FuncId:=28
abbrev c_31:FuncId:=29
abbrev c_34:FuncId:=30
abbrev c_21:FuncId:=31
abbrev c_3:FuncId:=32
abbrev c_52:FuncId:=35
abbrev c_101:FuncId:=36
abbrev c_48:FuncId:=37
abbrev c_47:FuncId:=38
abbrev c_41:FuncId:=39
abbrev c_42:FuncId:=40
abbrev c_43:FuncId:=41
abbrev c_26:FuncId:=42
abbrev c_85:FuncId:=43
abbrev c_54:FuncId:=44
abbrev c_84:FuncId:=45
abbrev c_111:FuncId:=47
abbrev c_131:FuncId:=48
abbrev c_107:FuncId:=49
abbrev c_108:FuncId:=50
abbrev c_133:FuncId:=51
abbrev c_134:FuncId:=52
abbrev c_135:FuncId:=53
abbrev c_138:FuncId:=54
abbrev c_150:FuncId:=55
abbrev c_32:FuncId:=56
abbrev c_33:FuncId:=57
abbrev c_46:FuncId:=65
abbrev c_100:FuncId:=66
abbrev c_96:FuncId:=67
abbrev c_83:FuncId:=68
abbrev c_27:FuncId:=69
abbrev c_130:FuncId:=70
abbrev c_106:FuncId:=71
abbrev c_137:FuncId:=72
abbrev c_125:FuncId:=73
abbrev c_128:FuncId:=74
abbrev c_126:FuncId:=75
abbrev c_151:FuncId:=76
abbrev c_152:FuncId:=77
abbrev c_45:FuncId:=84
abbrev c_65:FuncId:=85
abbrev c_58:FuncId:=86
abbrev c_63:FuncId:=87
abbrev c_92:FuncId:=88
abbrev c_89:FuncId:=89
abbrev c_90:FuncId:=90
abbrev c_99:FuncId:=91
abbrev c_64:FuncId:=92
abbrev c_95:FuncId:=93
abbrev c_98:FuncId:=94
abbrev c_82:FuncId:=95
abbrev c_77:FuncId:=96
abbrev c_129:FuncId:=97
abbrev c_105:FuncId:=98
abbrev c_120:FuncId:=99
abbrev c_117:FuncId:=100
abbrev c_116:FuncId:=101
abbrev c_119:FuncId:=102
abbrev c_123:FuncId:=103
abbrev c_136:FuncId:=104
abbrev c_121:FuncId:=105
abbrev c_124:FuncId:=106
abbrev c_127:FuncId:=107
abbrev c_122:FuncId:=108
abbrev c_113:FuncId:=109
abbrev c_143:FuncId:=110
abbrev c_149:FuncId:=111
abbrev c_153:FuncId:=112
abbrev c_114:FuncId:=113
abbrev c_154:FuncId:=114
abbrev c_44:FuncId:=117
abbrev c_56:FuncId:=118
abbrev c_57:FuncId:=119
abbrev c_51:FuncId:=120
abbrev c_60:FuncId:=121
abbrev c_62:FuncId:=122
abbrev c_86:FuncId:=123
abbrev c_88:FuncId:=124
abbrev c_87:FuncId:=126
abbrev c_94:FuncId:=127
abbrev c_97:FuncId:=128
abbrev c_50:FuncId:=129
abbrev c_93:FuncId:=130
abbrev c_53:FuncId:=131
abbrev c_78:FuncId:=132
abbrev c_79:FuncId:=133
abbrev c_80:FuncId:=134
abbrev c_71:FuncId:=135
abbrev c_81:FuncId:=136
abbrev c_75:FuncId:=137
abbrev c_76:FuncId:=138
abbrev c_104:FuncId:=139
abbrev c_110:FuncId:=140
abbrev c_115:FuncId:=141
abbrev c_118:FuncId:=142
abbrev c_109:FuncId:=143
abbrev c_141:FuncId:=144
abbrev c_142:FuncId:=145
abbrev c_144:FuncId:=146
abbrev c_146:FuncId:=147
abbrev c_147:FuncId:=148
abbrev c_148:FuncId:=149
abbrev c_155:FuncId:=150
abbrev c_112:FuncId:=151
abbrev c_59:FuncId:=152
abbrev c_61:FuncId:=153
abbrev c_70:FuncId:=158
abbrev c_69:FuncId:=159
abbrev c_66:FuncId:=160
abbrev c_73:FuncId:=165
abbrev c_74:FuncId:=166
abbrev c_139:FuncId:=167
abbrev c_140:FuncId:=168
abbrev c_145:FuncId:=169
abbrev c_67:FuncId:=171
abbrev c_68:FuncId:=172
abbrev c_72:FuncId:=177
abbrev c_16:FuncId:=201
abbrev c_14:FuncId:=202
abbrev c_13:FuncId:=203
abbrev c_15:FuncId:=204
abbrev c_11:FuncId:=205
abbrev c_12:FuncId:=206
abbrev c_8:FuncId:=207
abbrev c_9:FuncId:=208
abbrev t_bytes:TypeId:=22
theorem u_bytes:Pg.underlying t_bytes=some (.slice 5):=Tryz.underlying22
abbrev t_prin:TypeId:=27
abbrev t_printed:TypeId:=32
abbrev t_builder:TypeId:=30
abbrev t_codes:TypeId:=183
abbrev n0(a b:Ann):Ann:=.mk none [] [] .done a b
abbrev nn:Ann:=.mk none [] [] .done .nil .nil
abbrev tk(l:List Nat)(p:Pl):Pl:=l.foldr Pl.take p
abbrev F0:Nat→Prop:=fun _=>False
def VecL{α:Type}(ro:List (Nat×List Value))(E:Enc α)(s:Sl)(l:List α):Prop:=
 s.len=l.length∧s.len≤s.cap∧((ro=[]∧s.p=none∧s.cap=0)∨∃b rest,ro=[(b,E.cells l++rest)]∧s.p=some (b,0)∧s.cap*E.n≤(E.cells l++rest).length)
theorem VecL.nil{α:Type}(E:Enc α):VecL [] E ⟨none,0,0⟩ []:=⟨rfl,Nlr _,.inl ⟨rfl,rfl,rfl⟩⟩
theorem VecL.l_nil{α:Type}{E:Enc α}{s:Sl}{l:List α}(h:VecL [] E s l):l=[]:=by
 rcases h.2.2 with⟨_,_,hc⟩ | ⟨b,rest,h1,_⟩
 ·have h1:=h.1;have h2:=h.2.1;exact List.eq_nil_of_length_eq_zero (by omega)
 ·cases h1
theorem VecL.rd{α:Type}{ro:List (Nat×List Value)}{E:Enc α}{s:Sl}{l:List α}(h:VecL ro E s l){w:World}(hb:∀p∈ro,Blk w p.1 p.2):RdS w E s l:=by
 refine⟨h.1,?_,h.2.1⟩;rcases h.2.2 with⟨rfl,_,_⟩ | ⟨b,rest,rfl,hp,_⟩
 ·left;rw [h.l_nil];rfl
 ·refine .inr ⟨b,0,hp,fun i hi=>?_⟩;rw [(hb (b,_) (Lms.2 rfl)).cell,Nat.zero_add,Lgl hi]
theorem VecL.key{α:Type}{ro:List (Nat×List Value)}{E:Enc α}{s:Sl}{l:List α}(h:VecL ro E s l){b:Nat}(hb:bk s b):Ks ro b:=by
 obtain⟨o,hb⟩:=hb;rcases h.2.2 with⟨_,hp,_⟩ | ⟨b',rest,h1,h2,_⟩
 ·rw [hp] at hb;cases hb
 ·rw [h2] at hb;cases hb;exact⟨_,by rw [h1];exact Lms.2 rfl,rfl⟩
theorem set_last{α:Type}(m:List α)(x y:α):(m++[x]).set m.length y=m++[y]:=by rw [List.set_append_right _ _ (Nlr _)];simp
theorem appL{α:Type}{w0 w:World}{D:Nat→Prop}{m ro:List (Nat×List Value)}(hA:At w0 D (m++ro) w){E:Enc α}{s x:Sl}{l l2:List α}(hv:VecL ro E s l)(hr:RdS w E x l2){e:TypeId}{n bytes:Nat}{zs:List LV}(hn:n=E.n)(hz:zs.length=E.n)(hlim:(l.length+l2.length+1024)*(bytes+1)≤2^46)
  {K:Sl→Wp} (hK:∀s' ro' w',At w0 D (m++ro') w'→VecL ro' E s' (l++l2)→Mod (Ks ro) w w'→(l2=[]→s'=s∧ro'=ro∨s.cap<s.len+x.len)→K s' w'):ap w e n bytes zs s x K:=by
 subst hn;have hpos:=E.pos;refine⟨E.cells l2,hr.cells (by rw [E.cells_length,hr.len]),E.cells_isCell l2,?_,?_,?_⟩
 ·intro hle hne;rcases hv.2.2 with⟨rfl,hn,hc0⟩ | ⟨b,rest,rfl,hp,hc⟩
  ·rw [hc0] at hle;omega
  ·have hlen:(E.cells l).length=s.len*E.n:=by rw [E.cells_length,hv.1]
   have hfit:s.len*E.n+(E.cells l2).length≤(E.cells l++rest).length:=by
    have:s.len*E.n+(E.cells l2).length≤s.cap*E.n:=by
     rw [E.cells_length,←hr.len,←Nat.add_mul];exact Nat.mul_le_mul_right _ hle
    omega
   have hspl:spl (E.cells l++rest) (s.len*E.n) (E.cells l2)=E.cells (l++l2)++rest.drop (E.cells l2).length:=by
    rw [spl_eq _ _ _ hfit,←hlen,List.take_left,List.drop_length_add_append,E.cells_append]
   have hi:(m++[(b,E.cells l++rest)])[m.length]? = some (b,E.cells l++rest):=by simp
   have hA':=hA.setCells hi (s.len*E.n) (E.cells l2);rw [hspl,set_last] at hA';have hb:Blk w b (E.cells l++rest):=hA.blk hi;refine⟨b,0,hp,fun i hi=>⟨⟨(E.cells l++rest)[s.len*E.n+i]'(by rw [E.cells_length,←hr.len] at hfit;omega),by rw [hb.cell,Nat.zero_add,Lge]⟩,hb.frz _⟩,
    hK _ [(b,E.cells (l++l2)++rest.drop (E.cells l2).length)] _ (by rw [Nat.zero_add];exact hA') ⟨by simp [hv.1,hr.len],by simpa using hle,.inr ⟨b,_,rfl,hp,?_⟩⟩ ?_ ?_⟩
   ·rw [←hspl,spl_length];exact hc
   ·rw [Nat.zero_add];exact (Mod.setCells ..).mono fun y _ e=>⟨_,Lms.2 rfl,e.symm⟩
   ·rintro rfl;left;have:x.len=0:=by rw [hr.len];rfl
    refine⟨by obtain⟨p,a,c⟩:=s;simp only at this ⊢;rw [this];rfl,by simp [Enc.cells]⟩
 ·intro h0;have h1:l=[]:=List.eq_nil_of_length_eq_zero (by have:=hv.1;omega);have h2:l2=[]:=List.eq_nil_of_length_eq_zero (by have:=hr.len;omega);subst h1;subst h2;have hs:(⟨s.p,0,s.cap⟩:Sl)=s:=by have:=hv.1;obtain⟨p,len,cap⟩:=s;simp at this;subst this;rfl
  rw [hs];exact hK _ ro _ hA (by simpa using hv) (Mod.refl _ _) fun _=>.inl ⟨rfl,rfl⟩
 ·intro hlt;refine⟨by rw [hv.1,hr.len];exact hlim,E.cells l,(hv.rd fun p hp=>hA.own p (Lmr _ hp)).cells (by rw [E.cells_length,hv.1]),fun c hc=>?_⟩;have hA':=(hA.drew.al (E.cells l++E.cells l2++(List.replicate (c-(s.len+x.len)) (zs.map LV.toV)).flatten) e);have hA2:At w0 D (m++[(w.drew.heap.size,E.cells l++E.cells l2++(List.replicate (c-(s.len+x.len)) (zs.map LV.toV)).flatten)]) _:=hA'.sub ((Lsl m ro).append (List.Sublist.refl _));refine hK _ [(w.drew.heap.size,E.cells (l++l2)++(List.replicate (c-(s.len+x.len)) (zs.map LV.toV)).flatten)] _ (by rw [E.cells_append];exact hA2) ⟨by simp [hv.1,hr.len],hc,.inr ⟨_,_,rfl,rfl,?_⟩⟩ ((Mod.drew _ w).trans (Mod.alloc _ w.drew _) (fun _ _ h=>h) (fun _ _ h=>h)) fun _=>.inr hlt;simp only [Lla,E.cells_length,List.length_flatten,List.map_replicate,List.sum_replicate_nat,List.length_map,hz];rw [←Nat.add_mul,←hr.len,←hv.1];exact Nat.mul_le_mul_right _ (by omega)
theorem RdS.cutR{α:Type}{w:World}{E:Enc α}{s:Sl}{l:List α}(h:RdS w E s l){lo hi mx:Nat}(h1:lo≤hi)(h2:hi≤l.length)(h3:hi≤mx):RdS w E (s.cut E.n lo hi mx) ((l.take hi).drop lo):=by
 refine⟨by simp [Sl.cut];omega,?_,by simp [Sl.cut];omega⟩;by_cases hz:lo=hi
 ·subst hz;left;rw [Ldn (by simp;omega)];rfl
 ·rcases h.rd with hc | ⟨b,o,hp,hr⟩
  ·have:=congrArg List.length hc;rw [E.cells_length] at this;have hp:=E.pos;have:l.length=0:=by
    rcases Nat.eq_zero_or_pos l.length with h | h
    ·exact h
    ·have:=Nat.mul_pos h hp;simp at *;omega
   omega
  ·have hm:¬mx=lo:=by omega
   refine .inr ⟨b,o+lo*E.n,by simp [Sl.cut,hm,hp],fun i hi'=>?_⟩;have e1:E.cells l=E.cells (l.take lo)++(E.cells ((l.take hi).drop lo)++E.cells (l.drop hi)):=by
    rw [←E.cells_append,←E.cells_append];congr 1;have:l.take lo=(l.take hi).take lo:=by rw [List.take_take,Nat.min_eq_left h1]
    rw [this,←Laa,List.take_append_drop,List.take_append_drop]
   have e2:(E.cells (l.take lo)).length=lo*E.n:=by rw [E.cells_length];simp;rw [Nat.min_eq_left (by omega)]
   rw [Nat.add_assoc,hr (lo*E.n+i) (by rw [e1];simp only [Lla,e2];omega),e1,Lgr (by omega),e2,Nat.add_sub_cancel_left,Lgl hi']
abbrev BL:=List (Nat×List Value)
section
variable {w0 w:World}{D:Nat→Prop}{L:List BL}
end
theorem step64'{i:Nat}(h:i≤1099511627776):w64 ((i:Int)+1)=((i+1:Nat):Int):=by rw [Wq (by omega) (by omega)];omega
theorem _root_.Go.Vw.At.setL{α:Type}{w0 w:World}{D:Nat→Prop}{m ro:BL}(hA:At w0 D (m++ro) w){E:Enc α}{s:Sl}{l:List α}(hv:VecL ro E s l){k:Nat}(hk:k<l.length){y:α}{vs:List LV}(hy:vs.map LV.toV=E.f y){b o:Nat}(hp:s.p=some (b,o))
  {K:Wp} (hK:∀ro' w',At w0 D (m++ro') w'→VecL ro' E s (l.set k y)→Mod (Ks ro) w w'→K w'):st w b (o+k*E.n) vs K:=by
 rcases hv.2.2 with⟨_,h2,_⟩ | ⟨b',rest,rfl,hp',hc⟩
 ·rw [h2] at hp;cases hp
 rw [hp'] at hp;simp only [Option.some.injEq,Prod.mk.injEq] at hp;obtain⟨rfl,rfl⟩:=hp;have hvl:(vs.map LV.toV).length=E.n:=by rw [hy,E.len]
 have hset:spl (E.cells l++rest) (k*E.n+0) (vs.map LV.toV)=E.cells (l.set k y)++rest:=by
  refine E.cells_set l k 0 (vs.map LV.toV) l[k] y rest (Lge hk) (by omega) ?_;have:∀a b:List Value,a.length=b.length→spl a 0 b=b:=fun a b h=>by
   rw [spl_eq _ _ _ (by omega)];simp [h]
  rw [this _ _ (by rw [E.len,hvl]),hy]
 have hb:Blk w b' (E.cells l++rest):=hA.own (b',_) (by simp);have h2:=hA.setCells (i:=m.length) (b:=b') (c:=E.cells l++rest) (by simp) (k*E.n+0) (vs.map LV.toV);rw [hset,set_last] at h2;have hle:(k+1)*E.n≤l.length*E.n:=Nat.mul_le_mul_right _ hk;rw [Nat.add_mul] at hle;rw [Nat.zero_add];refine⟨fun j hj=>⟨⟨(E.cells l++rest)[k*E.n+j]'(by rw [Lla,E.cells_length];rw [List.length_map] at hvl;omega),by rw [hb.cell,Lge]⟩,hb.frz _⟩,?_⟩;refine hK [(b',E.cells (l.set k y)++rest)] _ h2 ⟨by simp [hv.1],hv.2.1,.inr ⟨b',rest,rfl,hp',?_⟩⟩ ((Mod.setCells ..).mono fun x _ e=>⟨_,Lms.2 rfl,e.symm⟩);rw [Lla,E.cells_length] at hc ⊢;simpa using hc
theorem appL2{α:Type}{w0 w:World}{D:Nat→Prop}{m ro:BL}(hA:At w0 D (m++ro) w){E:Enc α}{s x:Sl}{l l2:List α}(hv:VecL ro E s l)(hr:RdS w E x l2){e:TypeId}{n bytes:Nat}{zs:List LV}(hn:n=E.n)(hz:zs.length=E.n)(hlim:(l.length+l2.length+1024)*(bytes+1)≤2^46)
  {K:Sl→Wp} (hK:∀s' old ro' w',At w0 D ((m++old)++ro') w'→VecL ro' E s' (l++l2)→Mod (Ks ro) w w'→(old=[]∧s'.p=s.p∧(s.p=none→ro'=ro)∨old=ro)→(∀y,Ks ro' y→Ks ro y∨w.heap.size≤y)→K s' w'):ap w e n bytes zs s x K:=by
 subst hn;have hpos:=E.pos;refine⟨E.cells l2,hr.cells (by rw [E.cells_length,hr.len]),E.cells_isCell l2,?_,?_,?_⟩
 ·intro hle hne;rcases hv.2.2 with⟨rfl,hn,hc0⟩ | ⟨b,rest,rfl,hp,hc⟩
  ·rw [hc0] at hle;omega
  ·have hlen:(E.cells l).length=s.len*E.n:=by rw [E.cells_length,hv.1]
   have hfit:s.len*E.n+(E.cells l2).length≤(E.cells l++rest).length:=by
    have:s.len*E.n+(E.cells l2).length≤s.cap*E.n:=by
     rw [E.cells_length,←hr.len,←Nat.add_mul];exact Nat.mul_le_mul_right _ hle
    omega
   have hspl:spl (E.cells l++rest) (s.len*E.n) (E.cells l2)=E.cells (l++l2)++rest.drop (E.cells l2).length:=by
    rw [spl_eq _ _ _ hfit,←hlen,List.take_left,List.drop_length_add_append,E.cells_append]
   have hi:(m++[(b,E.cells l++rest)])[m.length]? = some (b,E.cells l++rest):=by simp
   have hA':=hA.setCells hi (s.len*E.n) (E.cells l2);rw [hspl,set_last] at hA';have hb:Blk w b (E.cells l++rest):=hA.blk hi;refine⟨b,0,hp,fun i hi=>⟨⟨(E.cells l++rest)[s.len*E.n+i]'(by rw [E.cells_length,←hr.len] at hfit;omega),by rw [hb.cell,Nat.zero_add,Lge]⟩,hb.frz _⟩,
    hK _ [] [(b,E.cells (l++l2)++rest.drop (E.cells l2).length)] _ (by rw [Nat.zero_add,Lan];exact hA') ⟨by simp [hv.1,hr.len],by simpa using hle,.inr ⟨b,_,rfl,hp,?_⟩⟩ ?_ (.inl ⟨rfl,rfl,fun h=>by rw [hp] at h;cases h⟩) ?_⟩
   ·rw [←hspl,spl_length];exact hc
   ·rw [Nat.zero_add];exact (Mod.setCells ..).mono fun y _ e=>⟨_,Lms.2 rfl,e.symm⟩
   ·rintro y ⟨q,hq,rfl⟩;simp at hq;subst hq;exact .inl ⟨_,Lms.2 rfl,rfl⟩
 ·intro h0;have h1:l=[]:=List.eq_nil_of_length_eq_zero (by have:=hv.1;omega);have h2:l2=[]:=List.eq_nil_of_length_eq_zero (by have:=hr.len;omega);subst h1;subst h2;have hs:(⟨s.p,0,s.cap⟩:Sl)=s:=by have:=hv.1;obtain⟨p,len,cap⟩:=s;simp at this;subst this;rfl
  rw [hs];exact hK _ [] ro _ (by rw [Lan];exact hA) (by simpa using hv) (Mod.refl _ _) (.inl ⟨rfl,rfl,fun _=>rfl⟩) fun y h=>.inl h
 ·intro hlt;refine⟨by rw [hv.1,hr.len];exact hlim,E.cells l,(hv.rd fun p hp=>hA.own p (Lmr _ hp)).cells (by rw [E.cells_length,hv.1]),fun c hc=>?_⟩;have hA':=(hA.drew.al (E.cells l++E.cells l2++(List.replicate (c-(s.len+x.len)) (zs.map LV.toV)).flatten) e);refine hK _ ro [(w.drew.heap.size,E.cells (l++l2)++(List.replicate (c-(s.len+x.len)) (zs.map LV.toV)).flatten)] _ (by rw [E.cells_append];exact hA') ⟨by simp [hv.1,hr.len],hc,.inr ⟨_,_,rfl,rfl,?_⟩⟩ ((Mod.drew _ w).trans (Mod.alloc _ w.drew _) (fun _ _ h=>h) (fun _ _ h=>h)) (.inr rfl) ?_
  ·simp only [Lla,E.cells_length,List.length_flatten,List.map_replicate,List.sum_replicate_nat,List.length_map,hz];rw [←Nat.add_mul,←hr.len,←hv.1];exact Nat.mul_le_mul_right _ (by omega)
  ·rintro y ⟨q,hq,rfl⟩;simp at hq;subst hq;exact .inr (Nlr _)
def View{α:Type}(K:BL)(E:Enc α)(s:Sl)(l:List α):Prop:=s.len=l.length∧s.len≤s.cap∧(l=[]∨∃b c rest,(b,c)∈K∧s.p=some (b,0)∧c=E.cells l++rest)
theorem View.rd{α:Type}{K:BL}{E:Enc α}{s:Sl}{l:List α}(h:View K E s l){w:World}(hb:∀p∈K,Blk w p.1 p.2):RdS w E s l:=by
 refine⟨h.1,?_,h.2.1⟩;rcases h.2.2 with h | ⟨b,c,rest,hm,hp,hc⟩
 ·left;rw [h];rfl
 ·refine .inr ⟨b,0,hp,fun i hi=>?_⟩;rw [(hb (b,c) hm).cell,Nat.zero_add,hc,Lgl hi]
theorem VecL.viewOf{α:Type}{ro:BL}{E:Enc α}{s t:Sl}{l l2:List α}(h:VecL ro E s (l++l2))(ht:t.len=l.length)(hc:t.len≤t.cap)(hp:t.p=s.p):View ro E t l:=by
 refine⟨ht,hc,?_⟩;rcases h.2.2 with⟨rfl,_,_⟩ | ⟨b,rest,rfl,hp',_⟩
 ·left;have:=h.l_nil;exact (List.append_eq_nil_iff.1 this).1
 ·exact .inr ⟨b,_,E.cells l2++rest,Lms.2 rfl,hp.trans hp',by rw [E.cells_append,Laa]⟩
theorem step64{i:Nat}(h:i≤1099511627776):w64 ((i:Int)+1)=((i+1:Nat):Int):=by rw [Wq (by omega) (by omega)];omega
theorem Mq(w:World):Mod F0 w w.drew:=Mod.drew F0 w
def ET:Enc UInt8:=⟨1,fun x=>[.int .u8 (x.toNat:Int)],fun _=>rfl,by decide,fun x v h=>by simp at h;subst h;rfl⟩
theorem _root_.Go.Vw.At.join{w0 w w':World}{D:Nat→Prop}{m ro:BL}(h:At w0 D m w)(k:At w F0 ro w'):At w0 D (m++ro) w':=by
 have hnew:∀p∈ro,w.heap.size≤p.1:=fun p hp=>Nat.not_lt.1 fun hlt=>k.wr p hp hlt;refine⟨h.mod.trans k.mod (fun _ _ h=>h) (fun _ _ h=>h.elim),?_,?_,?_⟩
 ·intro p hp;rcases Lma.1 hp with hp | hp
  ·exact k.mod.blk (h.own p hp) id
  ·exact k.own p hp
 ·rw [List.map_append,List.nodup_append];refine⟨h.nodup,k.nodup,?_⟩;rintro a ha b hb rfl;obtain⟨p,hp,rfl⟩:=List.mem_map.1 ha;obtain⟨q,hq,e⟩:=List.mem_map.1 hb;have h1:=(h.own p hp).lt;have h2:=hnew q hq;omega
 ·intro p hp hlt;rcases Lma.1 hp with hp | hp
  ·exact h.wr p hp hlt
  ·have:=hnew p hp;have:=h.mod.size;omega
theorem _root_.Go.Vw.At.none{w w':World}(h:Mod F0 w w'):At w F0 [] w':=⟨h,by simp,by simp,by simp⟩
theorem _root_.Go.Vw.RdS.quiet{α:Type}{w w':World}{E:Enc α}{s:Sl}{l:List α}(h:RdS w E s l)(hM:Mod F0 w w'):RdS w' E s l:=h.keep hM fun _ _=>id
theorem VecL.rdAt{α:Type}{w0 w:World}{D:Nat→Prop}{m ro:BL}{E:Enc α}{s:Sl}{l:List α}(h:VecL ro E s l)(hA:At w0 D (m++ro) w):RdS w E s l:=h.rd fun p hp=>hA.own p (Lmr _ hp)
theorem VecL.rdAt0{α:Type}{w0 w:World}{D:Nat→Prop}{ro:BL}{E:Enc α}{s:Sl}{l:List α}(h:VecL ro E s l)(hA:At w0 D ro w):RdS w E s l:=h.rd fun p hp=>hA.own p hp
theorem _root_.Go.Vw.RdS.byte{w:World}{s:Sl}{t:Str}(h:RdS w ET s t){i:Int}{k:Nat}(hk:i=(k:Int))(hlt:k<t.length){K:Nat→Nat→Prop}(hK:∀b o,rk s b→w.cell? ⟨b,o,none⟩=some (.int .u8 ((t[k]).toNat:Int))→K b o):Go.Vw.ix s 1 i K:=
 h.ix rfl hk (Lge hlt) fun b o hb hc=>hK b o hb (hc 0 (by decide))
theorem ofInt_nat(n a:Nat):BitVec.ofInt n (a:Int)=BitVec.ofNat n a:=by simp
theorem wrap_u8(n:Int):IntKind.wrap .u8 n=n%256:=by simp [IntKind.wrap,IntKind.signed,IntKind.bits]
theorem wrap_u32(n:Int):IntKind.wrap .u32 n=n%4294967296:=by simp [IntKind.wrap,IntKind.signed,IntKind.bits]
theorem wrap_u64(n:Int):IntKind.wrap .u64 n=n%18446744073709551616:=by simp [IntKind.wrap,IntKind.signed,IntKind.bits]
theorem or_i64{a b:Nat}(ha:a<2^63)(hb:b<2^63):bitI .or .i64 (a:Int) (b:Int)=((a ||| b:Nat):Int):=by
 show w64 ((BitVec.ofInt 64 (a:Int) ||| BitVec.ofInt 64 (b:Int)).toNat:Int)=_;have h:=Nat.or_lt_two_pow ha hb;rw [ofInt_nat,ofInt_nat,BitVec.toNat_or,BitVec.toNat_ofNat,BitVec.toNat_ofNat,Nat.mod_eq_of_lt (by omega),Nat.mod_eq_of_lt (by omega)];exact Wq (by omega) (by omega)
theorem or_u8{a b:Nat}(ha:a<2^8)(hb:b<2^8):bitI .or .u8 (a:Int) (b:Int)=((a ||| b:Nat):Int):=by
 show IntKind.wrap .u8 ((BitVec.ofInt 8 (a:Int) ||| BitVec.ofInt 8 (b:Int)).toNat:Int)=_;have h:=Nat.or_lt_two_pow ha hb;rw [ofInt_nat,ofInt_nat,BitVec.toNat_or,BitVec.toNat_ofNat,BitVec.toNat_ofNat,Nat.mod_eq_of_lt (by omega),Nat.mod_eq_of_lt (by omega),wrap_u8];omega
theorem and_u8{a b:Nat}(ha:a<2^8)(hb:b<2^8):bitI .and .u8 (a:Int) (b:Int)=((a &&& b:Nat):Int):=by
 show IntKind.wrap .u8 ((BitVec.ofInt 8 (a:Int) &&& BitVec.ofInt 8 (b:Int)).toNat:Int)=_;have h:a &&& b≤a:=Nat.and_le_left;rw [ofInt_nat,ofInt_nat,BitVec.toNat_and,BitVec.toNat_ofNat,BitVec.toNat_ofNat,Nat.mod_eq_of_lt (by omega),Nat.mod_eq_of_lt (by omega),wrap_u8];omega
theorem or_u64{a b:Nat}(ha:a<2^64)(hb:b<2^64):bitI .or .u64 (a:Int) (b:Int)=((a ||| b:Nat):Int):=by
 show IntKind.wrap .u64 ((BitVec.ofInt 64 (a:Int) ||| BitVec.ofInt 64 (b:Int)).toNat:Int)=_;have h:=Nat.or_lt_two_pow ha hb;rw [ofInt_nat,ofInt_nat,BitVec.toNat_or,BitVec.toNat_ofNat,BitVec.toNat_ofNat,Nat.mod_eq_of_lt (by omega),Nat.mod_eq_of_lt (by omega),wrap_u64];omega
theorem wrap_bv(x:BitVec 32):IntKind.wrap .u32 (x.toNat:Int)=(x.toNat:Int):=by
 have:=x.isLt;rw [wrap_u32];omega
theorem ofInt_bv(x:BitVec 32):BitVec.ofInt 32 (x.toNat:Int)=x:=by rw [ofInt_nat];exact BitVec.ofNat_toNat 32 x▸(by simp)
theorem xor_bv(a b:BitVec 32):bitI .xor .u32 (a.toNat:Int) (b.toNat:Int)=((a ^^^ b).toNat:Int):=by
 show IntKind.wrap .u32 ((BitVec.ofInt 32 (a.toNat:Int) ^^^ BitVec.ofInt 32 (b.toNat:Int)).toNat:Int)=_;rw [ofInt_bv,ofInt_bv,wrap_bv]
theorem and_bv(a b:BitVec 32):bitI .and .u32 (a.toNat:Int) (b.toNat:Int)=((a &&& b).toNat:Int):=by
 show IntKind.wrap .u32 ((BitVec.ofInt 32 (a.toNat:Int) &&& BitVec.ofInt 32 (b.toNat:Int)).toNat:Int)=_;rw [ofInt_bv,ofInt_bv,wrap_bv]
theorem fdiv_pow(a n:Nat):Int.fdiv (a:Int) (2^n)=((a/2^n:Nat):Int):=by
 have h:((2:Int)^n)=((2^n:Nat):Int):=by simp
 rw [h,Int.fdiv_eq_ediv_of_nonneg _ (Int.natCast_nonneg _)];rfl
theorem shr_bv(a:BitVec 32)(n:Nat)(hn:n≤32):shrI .u32 (a.toNat:Int) (n:Int)=((a >>> n).toNat:Int):=by
 show Int.fdiv (a.toNat:Int) (2^(min (n:Int).toNat 32))=_;rw [Itn,Nat.min_eq_left hn,BitVec.toNat_ushiftRight,Nat.shiftRight_eq_div_pow,fdiv_pow]
theorem shr_u8(a n:Nat)(hn:n≤8):shrI .u8 (a:Int) (n:Int)=((a/2^n:Nat):Int):=by
 show Int.fdiv (a:Int) (2^(min (n:Int).toNat 8))=_;rw [Itn,Nat.min_eq_left hn,fdiv_pow]
theorem shr_i64(a n:Nat)(hn:n≤64):shrI .i64 (a:Int) (n:Int)=((a/2^n:Nat):Int):=by
 show Int.fdiv (a:Int) (2^(min (n:Int).toNat 64))=_;rw [Itn,Nat.min_eq_left hn,fdiv_pow]
theorem shl_i64(a n:Nat)(hn:n≤64)(h:a*2^n<2^63):shlI .i64 (a:Int) (n:Int)=((a*2^n:Nat):Int):=by
 show w64 ((a:Int)*2^(min (n:Int).toNat 64))=_;rw [Itn,Nat.min_eq_left hn];have e:(a:Int)*2^n=((a*2^n:Nat):Int):=by simp
 rw [e];exact Wq (by omega) (by omega)
theorem shl_u64(a n:Nat)(hn:n≤64)(h:a*2^n<2^64):shlI .u64 (a:Int) (n:Int)=((a*2^n:Nat):Int):=by
 show IntKind.wrap .u64 ((a:Int)*2^(min (n:Int).toNat 64))=_;rw [Itn,Nat.min_eq_left hn];have e:(a:Int)*2^n=((a*2^n:Nat):Int):=by simp
 rw [e,wrap_u64];omega
abbrev W32:=BitVec 32
def polyB:W32:=0x82F63B78#32
def stepB(x:W32):W32:=if x.getLsbD 0 then (x >>> 1) ^^^ polyB else x >>> 1
def step4(x:W32):W32:=stepB (stepB (stepB (stepB x)))
def byteB(x:W32)(c:UInt8):W32:=step4 (step4 (x ^^^ BitVec.ofNat 32 c.toNat))
def extB(x:W32)(t:Str):W32:=t.foldl byteB x
def extendB(x:W32)(t:Str):W32:= ~~~ extB (~~~ x) t
def sumB(t:Str):W32:=extendB 0#32 t
theorem stepB_xor(a b:W32):stepB (a ^^^ b)=stepB a ^^^ stepB b:=by
 unfold stepB;rw [BitVec.getLsbD_xor,BitVec.ushiftRight_xor_distrib];cases a.getLsbD 0<;>cases b.getLsbD 0<;>simp only [Bool.xor_false,Bool.xor_true,Bool.not_true,Bool.not_false,Bool.false_eq_true,if_false,if_true]
 ·ac_rfl
 ·ac_rfl
 ·rw [show (a >>> 1 ^^^ polyB) ^^^ (b >>> 1 ^^^ polyB)=(a >>> 1 ^^^ b >>> 1) ^^^ (polyB ^^^ polyB) by ac_rfl,BitVec.xor_self,BitVec.xor_zero]
theorem step4_xor(a b:W32):step4 (a ^^^ b)=step4 a ^^^ step4 b:=by unfold step4;rw [stepB_xor,stepB_xor,stepB_xor,stepB_xor]
theorem stepB_even(x:W32)(h:x.getLsbD 0=false):stepB x=x >>> 1:=by unfold stepB;rw [h];rfl
theorem step4_high(x:W32)(h:∀i,i<4→x.getLsbD i=false):step4 x=x >>> 4:=by
 have h0:=h 0 (by decide);have h1:=h 1 (by decide);have h2:=h 2 (by decide);have h3:=h 3 (by decide);unfold step4;rw [stepB_even x h0,stepB_even (x >>> 1) (by rw [BitVec.getLsbD_ushiftRight];exact h1),←BitVec.shiftRight_add,
  stepB_even (x >>> (1+1)) (by rw [BitVec.getLsbD_ushiftRight];exact h2),←BitVec.shiftRight_add,stepB_even (x >>> (1+1+1)) (by rw [BitVec.getLsbD_ushiftRight];exact h3),←BitVec.shiftRight_add]
theorem step4_table(x:W32):step4 x=(x >>> 4) ^^^ step4 (x &&& 15#32):=by
 have e:x=(x &&& ~~~ 15#32) ^^^ (x &&& 15#32):=by
  apply BitVec.eq_of_getLsbD_eq;intro i hi;simp only [BitVec.getLsbD_xor,BitVec.getLsbD_and,BitVec.getLsbD_not];cases x.getLsbD i<;>cases (15#32:W32).getLsbD i<;>simp [hi]
 have hlow:∀i,i<4→(x &&& ~~~ 15#32).getLsbD i=false:=by
  intro i hi;rw [BitVec.getLsbD_and,BitVec.getLsbD_not];have:(15#32:W32).getLsbD i=true:=by
   have:i=0∨i=1∨i=2∨i=3:=by omega
   rcases this with rfl | rfl | rfl | rfl<;>decide
  rw [this];simp
 have hs:(x &&& ~~~ 15#32) >>> 4=x >>> 4:=by
  apply BitVec.eq_of_getLsbD_eq;intro i hi;rw [BitVec.getLsbD_ushiftRight,BitVec.getLsbD_ushiftRight,BitVec.getLsbD_and,BitVec.getLsbD_not];by_cases h:4+i<32
  ·have:(15#32:W32).getLsbD (4+i)=false:=by
    rw [BitVec.getLsbD_ofNat];have:(15:Nat).testBit (4+i)=false:=by
     apply Nat.testBit_lt_two_pow;exact Nat.lt_of_lt_of_le (by decide:15<2^4) (Nat.pow_le_pow_right (by decide) (by omega))
    rw [this];simp
   rw [this];simp [h]
  ·have:x.getLsbD (4+i)=false:=BitVec.getLsbD_of_ge _ _ (by omega);rw [this];rfl
 conv=>lhs;rw [e]
 rw [step4_xor,step4_high _ hlow,hs]
def fourB(x:W32):Str:=[UInt8.ofNat x.toNat,UInt8.ofNat (x.toNat/256),UInt8.ofNat (x.toNat/65536),UInt8.ofNat (x.toNat/16777216)]
def sealB(t:Str):Str:=t++fourB (sumB t)
def openB(t:Str):Int×Str:=
 if t.length<4 then (11,[]) else if fourB (sumB (t.take (t.length-4)))=t.drop (t.length-4) then (0,t.take (t.length-4)) else (10,[])
set_option maxRecDepth 100000
theorem go_44(x1:Int)(K:Int→Wp)(w:World)(h:ifK ((bitI .and .u32 x1 1)==1) (K (bitI .xor .u32 (shrI .u32 x1 1) 2197175160) w) (K (shrI .u32 x1 1) w)):callK Pg 117 [.leaf (.int .u32 x1)] w (.one (.leaf (.int .u32))) K:=Fq (n:=.nil) CS_ok mixed Tryz.func117 (Eq.mpr (by kernel_rfl) h)
theorem go_45(K:Int→Int→Int→Int→Int→Int→Int→Int→Int→Int→Int→Int→Int→Int→Int→Int→Wp)(w:World)(h:al w 169 [.int .u32 0,.int .u32 0,.int .u32 0,.int .u32 0,.int .u32 0,.int .u32 0,.int .u32 0,.int .u32 0,.int .u32 0,.int .u32 0,.int .u32 0,.int .u32 0,.int .u32 0,.int .u32 0,.int .u32 0,.int .u32 0] fun b1 W2=>al W2 169 [.int .u32 0,.int .u32 0,.int .u32 0,.int .u32 0,.int .u32 0,.int .u32 0,.int .u32 0,.int .u32 0,.int .u32 0,.int .u32 0,.int .u32 0,.int .u32 0,.int .u32 0,.int .u32 0,.int .u32 0,.int .u32 0] fun b3 W4=>joinK [] (fun k5=>loopL [Ki] (fun t47 W8 g6=>ifK (decide (t47<16)) (joinK [.int .u32] (fun k9=>loopL [.int .u32,Ki] (fun x11 t912 W13 g10=>ifK (decide (t912<4)) (callK Pg 117 [.leaf (.int .u32 x11)] W13 (.one (.leaf (.int .u32))) fun n14 W15=>g10 n14 (w64 (t912+1)) W15) (k9 x11 W13)) [.int .u32 (IntKind.wrap .u32 (t47)),.int .i64 0] W8) fun x16 W17=>0≤t47∧t47<(16:Int)∧st W17 b3 (0+t47.toNat*1) [.int .u32 x16] fun W18=>g6 (w64 (t47+1)) W18) (k5 W8)) [.int .i64 0] W4) fun W19=>ld W19 (.int .u32) b3 0 fun n20=>ld W19 (.int .u32) b3 1 fun n21=>ld W19 (.int .u32) b3 2 fun n22=>ld W19 (.int .u32) b3 3 fun n23=>ld W19 (.int .u32) b3 4 fun n24=>ld W19 (.int .u32) b3 5 fun n25=>ld W19 (.int .u32) b3 6 fun n26=>ld W19 (.int .u32) b3 7 fun n27=>ld W19 (.int .u32) b3 8 fun n28=>ld W19 (.int .u32) b3 9 fun n29=>ld W19 (.int .u32) b3 10 fun n30=>ld W19 (.int .u32) b3 11 fun n31=>ld W19 (.int .u32) b3 12 fun n32=>ld W19 (.int .u32) b3 13 fun n33=>ld W19 (.int .u32) b3 14 fun n34=>ld W19 (.int .u32) b3 15 fun n35=>st W19 b1 0 [.int .u32 n20,.int .u32 n21,.int .u32 n22,.int .u32 n23,.int .u32 n24,.int .u32 n25,.int .u32 n26,.int .u32 n27,.int .u32 n28,.int .u32 n29,.int .u32 n30,.int .u32 n31,.int .u32 n32,.int .u32 n33,.int .u32 n34,.int .u32 n35] fun W36=>ld W36 (.int .u32) b1 0 fun n37=>ld W36 (.int .u32) b1 1 fun n38=>ld W36 (.int .u32) b1 2 fun n39=>ld W36 (.int .u32) b1 3 fun n40=>ld W36 (.int .u32) b1 4 fun n41=>ld W36 (.int .u32) b1 5 fun n42=>ld W36 (.int .u32) b1 6 fun n43=>ld W36 (.int .u32) b1 7 fun n44=>ld W36 (.int .u32) b1 8 fun n45=>ld W36 (.int .u32) b1 9 fun n46=>ld W36 (.int .u32) b1 10 fun n47=>ld W36 (.int .u32) b1 11 fun n48=>ld W36 (.int .u32) b1 12 fun n49=>ld W36 (.int .u32) b1 13 fun n50=>ld W36 (.int .u32) b1 14 fun n51=>ld W36 (.int .u32) b1 15 fun n52=>K n37 n38 n39 n40 n41 n42 n43 n44 n45 n46 n47 n48 n49 n50 n51 n52 W36):callK Pg 84 [] w (.one (.agg [.int .u32,.int .u32,.int .u32,.int .u32,.int .u32,.int .u32,.int .u32,.int .u32,.int .u32,.int .u32,.int .u32,.int .u32,.int .u32,.int .u32,.int .u32,.int .u32])) K:=Fq (n:=(n0 .nil (n0 .nil (n0 (n0 .nil (.mk (some []) [] [0,1] .done (.mk none [.tmp 4 Li] [0,1] .done (n0 .nil (n0 .nil (n0 (n0 (n0 .nil (n0 .nil (n0 (n0 .nil (.mk (some [.tmp 3 (.leaf (.int .u32))]) [] [0,1,2,4] .done (.mk none [.tmp 3 (.leaf (.int .u32)),.tmp 9 Li] [0,1,2,4] .done .nil .nil) .nil)) .nil))) .nil) .nil))) .nil) .nil)) .nil)))) CS_ok mixed Tryz.func84 (Eq.mpr (by kernel_rfl) h)
theorem go_46(sum1:Int)(b2:Sl)(K:Int→Wp)(w:World)(h:callK Pg 84 [] w (.one (.agg [.int .u32,.int .u32,.int .u32,.int .u32,.int .u32,.int .u32,.int .u32,.int .u32,.int .u32,.int .u32,.int .u32,.int .u32,.int .u32,.int .u32,.int .u32,.int .u32])) fun n3 n4 n5 n6 n7 n8 n9 n10 n11 n12 n13 n14 n15 n16 n17 n18 W19=>al W19 169 [.int .u32 0,.int .u32 0,.int .u32 0,.int .u32 0,.int .u32 0,.int .u32 0,.int .u32 0,.int .u32 0,.int .u32 0,.int .u32 0,.int .u32 0,.int .u32 0,.int .u32 0,.int .u32 0,.int .u32 0,.int .u32 0] fun b20 W21=>st W21 b20 0 [.int .u32 n3,.int .u32 n4,.int .u32 n5,.int .u32 n6,.int .u32 n7,.int .u32 n8,.int .u32 n9,.int .u32 n10,.int .u32 n11,.int .u32 n12,.int .u32 n13,.int .u32 n14,.int .u32 n15,.int .u32 n16,.int .u32 n17,.int .u32 n18] fun W22=>joinK [.int .u32] (fun k23=>loopL [.int .u32,Ki] (fun x25 t1426 W27 g24=>ifK (decide (t1426<(b2.len:Int))) (ix b2 1 t1426 fun b28 o29=>ld W27 (.int .u8) b28 o29 fun n30=>0≤(bitI .and .u32 (bitI .xor .u32 x25 (IntKind.wrap .u32 (n30))) 15)∧(bitI .and .u32 (bitI .xor .u32 x25 (IntKind.wrap .u32 (n30))) 15)<(16:Int)∧ld W27 (.int .u32) b20 (0+(bitI .and .u32 (bitI .xor .u32 x25 (IntKind.wrap .u32 (n30))) 15).toNat*1) fun n31=>0≤(bitI .and .u32 (bitI .xor .u32 (shrI .u32 (bitI .xor .u32 x25 (IntKind.wrap .u32 (n30))) 4) n31) 15)∧(bitI .and .u32 (bitI .xor .u32 (shrI .u32 (bitI .xor .u32 x25 (IntKind.wrap .u32 (n30))) 4) n31) 15)<(16:Int)∧ld W27 (.int .u32) b20 (0+(bitI .and .u32 (bitI .xor .u32 (shrI .u32 (bitI .xor .u32 x25 (IntKind.wrap .u32 (n30))) 4) n31) 15).toNat*1) fun n32=>g24 (bitI .xor .u32 (shrI .u32 (bitI .xor .u32 (shrI .u32 (bitI .xor .u32 x25 (IntKind.wrap .u32 (n30))) 4) n31) 4) n32) (w64 (t1426+1)) W27) (k23 x25 W27)) [.int .u32 (bitI .xor .u32 (if IntKind.signed .u32 then -1 else IntKind.max .u32) sum1),.int .i64 0] W22) fun x33 W34=>K (bitI .xor .u32 (if IntKind.signed .u32 then -1 else IntKind.max .u32) x33) W34):callK Pg 65 [.leaf (.int .u32 sum1),Az b2] w (.one (.leaf (.int .u32))) K:=Fq (n:=(n0 .nil (n0 .nil (n0 .nil (n0 (n0 .nil (.mk (some [.tmp 5 (.leaf (.int .u32))]) [] [] .done (.mk none [.tmp 5 (.leaf (.int .u32)),.tmp 14 Li] [6,12,13] .done .nil .nil) .nil)) .nil))))) CS_ok mixed Tryz.func65 (Eq.mpr (by kernel_rfl) h)
theorem go_47(b1:Sl)(K:Int→Wp)(w:World)(h:callK Pg 65 [.leaf (.int .u32 0),Az b1] w (.one (.leaf (.int .u32))) fun n2 W3=>K n2 W3):callK Pg 38 [Az b1] w (.one (.leaf (.int .u32))) K:=Fq (n:=.nil) CS_ok mixed Tryz.func38 (Eq.mpr (by kernel_rfl) h)
theorem go_48(sum1:Int)(K:Sl→Wp)(w:World)(h:al w 5 [.int .u8 (IntKind.wrap .u8 (sum1)),.int .u8 (IntKind.wrap .u8 (shrI .u32 sum1 8)),.int .u8 (IntKind.wrap .u8 (shrI .u32 sum1 16)),.int .u8 (IntKind.wrap .u8 (shrI .u32 sum1 24))] fun b2 W3=>K (⟨some (b2,0),4,4⟩) W3):callK Pg 37 [.leaf (.int .u32 sum1)] w Oz K:=Fq (n:=.nil) CS_ok mixed Tryz.func37 (Eq.mpr (by kernel_rfl) h)
theorem go_49(tile1:Sl)(K:Sl→Int→Wp)(w:World)(h:ifK (decide (w64 ((tile1.len:Int)-4)<0)) (K (⟨none,0,0⟩) 11 w) (joinK [.bool] (fun k2=>drawK w fun D W3=>slx tile1 1 none (some (w64 ((tile1.len:Int)-4))) none fun s4=>slx tile1 1 (some (w64 ((tile1.len:Int)-4))) none none fun s5=>(callK Pg 38 [Az s4] W3 (.one (.leaf (.int .u32))) fun n6 W7=>Mod D W3 W7∧(callK Pg 37 [.leaf (.int .u32 n6)] W7 Oz fun a8 W9=>Mod D W3 W9∧(opF Pg (vS (convert 22 9 (LV.toV (.sl a8)))) W9 Ot fun s11 W10=>Mod D W3 W10∧opF Pg (vS (convert 22 9 (LV.toV (.sl s5)))) W10 Ot fun s13 W12=>Mod D W3 W12∧k2 (!(s11==s13)) W12)∧(opF Pg (vS (convert 22 9 (LV.toV (.sl s5)))) W9 Ot fun s15 W14=>Mod D W3 W14∧opF Pg (vS (convert 22 9 (LV.toV (.sl a8)))) W14 Ot fun s17 W16=>Mod D W3 W16∧k2 (!(s17==s15)) W16))∧(opF Pg (vS (convert 22 9 (LV.toV (.sl s5)))) W7 Ot fun s19 W18=>Mod D W3 W18∧callK Pg 37 [.leaf (.int .u32 n6)] W18 Oz fun a20 W21=>Mod D W3 W21∧opF Pg (vS (convert 22 9 (LV.toV (.sl a20)))) W21 Ot fun s23 W22=>Mod D W3 W22∧k2 (!(s23==s19)) W22))∧(opF Pg (vS (convert 22 9 (LV.toV (.sl s5)))) W3 Ot fun s25 W24=>Mod D W3 W24∧callK Pg 38 [Az s4] W24 (.one (.leaf (.int .u32))) fun n26 W27=>Mod D W3 W27∧callK Pg 37 [.leaf (.int .u32 n26)] W27 Oz fun a28 W29=>Mod D W3 W29∧opF Pg (vS (convert 22 9 (LV.toV (.sl a28)))) W29 Ot fun s31 W30=>Mod D W3 W30∧k2 (!(s31==s25)) W30)) fun t2032 W33=>ifK t2032 (K (⟨none,0,0⟩) 10 W33) (al W33 5 [] fun b34 W35=>slx tile1 1 none (some (w64 ((tile1.len:Int)-4))) none fun s36=>ap W35 5 1 1 [.int .u8 0] (⟨some (b34,0),0,0⟩) s36 fun a37 W38=>K a37 0 W38))):callK Pg 23 [Az tile1] w (.tup [Ls,Li]) K:=Fq (n:=(n0 .nil (n0 .nil (n0 .nil (n0 (n0 (.mk (some [.tmp 20 Lb]) [] [0,4] (tk [0,1,2,6,7,8] (.two 3 (.two 4 (.two 5 (.eff 9 (.take 10 .done)) 9 (.eff 5 (.take 10 .done))) 9 (.eff 4 (.eff 5 (.take 10 .done)))) 9 (.eff 3 (.eff 4 (.eff 5 (.take 10 .done)))))) .nil .nil) .nil) .nil))))) CS_ok mixed Tryz.func23 (Eq.mpr (by kernel_rfl) h)
theorem low_bit(x:W32):((bitI .and .u32 (x.toNat:Int) 1)==1)=x.getLsbD 0:=by
 have h:=and_bv x 1#32;have e:((1#32:W32).toNat:Int)=1:=rfl;rw [e] at h;rw [h,BitVec.toNat_and];have h1:x.toNat &&& (1#32:W32).toNat=x.toNat%2:=Nat.and_one_is_mod _;rw [h1];have h2:x.getLsbD 0=decide (x.toNat%2=1):=by
  show x.toNat.testBit 0=_;rw [Nat.testBit_zero]
 rw [h2];rcases Nat.mod_two_eq_zero_or_one x.toNat with h | h<;>rw [h]<;>rfl
theorem step_ok(x:W32){w:World}{K:Int→Wp}(hK:K ((stepB x).toNat:Int) w):callK Pg c_44 [.leaf (.int .u32 (x.toNat:Int))] w (.one (.leaf (.int .u32))) K:=by
 refine go_44 _ _ _ ?_;have hs:=shr_bv x 1 (by decide);have e1:((1:Nat):Int)=1:=rfl;rw [e1] at hs;rw [low_bit,hs];unfold stepB at hK;refine Iq (fun h=>?_) fun h=>?_
 ·rw [if_pos h] at hK;have:=xor_bv (x >>> 1) polyB;have e2:((polyB:W32).toNat:Int)=2197175160:=rfl;rw [e2] at this;rw [this];exact hK
 ·rw [if_neg (by rw [h];decide)] at hK;exact hK
def itB:Nat→W32→W32
 | 0,x=>x
 | k+1,x=>stepB (itB k x)
def tabI(i:Nat):Int:=((step4 (BitVec.ofNat 32 i)).toNat:Int)
def tabAt(n i:Nat):Int:=if i<n then tabI i else 0
def tabC(n:Nat):List Value:=(List.range 16).map fun i=>.int .u32 (tabAt n i)
theorem tabC_set{n:Nat}(h:n<16):spl (tabC n) n [.int .u32 (tabI n)]=tabC (n+1):=by
 show (tabC n).set n _=_;apply List.ext_getElem?;intro k;rw [List.getElem?_set];unfold tabC;rw [List.getElem?_map,List.getElem?_map];by_cases e:n=k
 ·subst e;rw [if_pos rfl,if_pos (by simpa using h),List.getElem?_range h];simp [tabAt]
 ·rw [if_neg e];by_cases hk:k<16
  ·rw [List.getElem?_range hk];simp only [Option.map_some,Option.some.injEq,Value.int.injEq,true_and];unfold tabAt;by_cases h1:k<n
   ·rw [if_pos h1,if_pos (by omega)]
   ·rw [if_neg h1,if_neg (by omega)]
  ·rw [List.getElem?_eq_none (by simpa using hk)];rfl
theorem ofNat_small{i:Nat}(h:i<16):(((BitVec.ofNat 32 i:W32).toNat:Nat):Int)=(i:Int):=by
 rw [BitVec.toNat_ofNat,Nat.mod_eq_of_lt (by omega)]
set_option maxRecDepth 10000 in
theorem sums_ok{w:World}{K:Int→Int→Int→Int→Int→Int→Int→Int→Int→Int→Int→Int→Int→Int→Int→Int→Wp}(hK:∀w',Mod F0 w w'→K (tabI 0) (tabI 1) (tabI 2) (tabI 3) (tabI 4) (tabI 5) (tabI 6) (tabI 7) (tabI 8) (tabI 9) (tabI 10) (tabI 11) (tabI 12) (tabI 13) (tabI 14) (tabI 15) w') :
  callK Pg c_45 [] w (.one (.agg [.int .u32,.int .u32,.int .u32,.int .u32,.int .u32,.int .u32,.int .u32,.int .u32,.int .u32,.int .u32,.int .u32,.int .u32,.int .u32,.int .u32,.int .u32,.int .u32])) K:=by
 refine go_45 _ _ ?_;refine (At.init w F0).alK fun b1 w1 _ h1 _=>h1.alK fun b3 w2 _ h2 _=>?_;refine join0 (fun u=>At w F0 [(b1,tabC 0),(b3,tabC 16)] u) ?_ ?_
 ·intro k5 hk5;refine loop1 (k:=Ki) (fun (i:Int) u=>∃j:Nat,i=j∧j≤16∧At w F0 [(b1,tabC 0),(b3,tabC j)] u) (fun i _=>(16-i).toNat) (x:=0) rfl ⟨0,rfl,by omega,h2⟩ ?_;rintro i u ⟨j,rfl,hj,h⟩;refine Iq (fun hlt=>?_) fun hge=>?_
  ·have hlt:j<16:=by have hx:(j:Int)<16:=odt hlt;omega
   refine join1 (a:=.int .u32) (fun (x:Int) v=>x=tabI j∧v=u) ?_ ?_
   ·intro k9 hk9;refine loop2 (k1:=.int .u32) (k2:=Ki) (fun (x:Int) (t:Int) v=>v=u∧∃k:Nat,t=k∧k≤4∧x=((itB k (BitVec.ofNat 32 j)).toNat:Int)) (fun _ t _=>(4-t).toNat) (x1:=IntKind.wrap .u32 (j:Int)) (x2:=0) rfl rfl ⟨rfl,0,rfl,by omega,?_⟩ ?_
    ·show IntKind.wrap .u32 (j:Int)=((BitVec.ofNat 32 j:W32).toNat:Int);rw [ofNat_small hlt,wrap_u32];omega
    rintro x t v ⟨rfl,k,rfl,hk,rfl⟩;refine Iq (fun h4=>?_) fun h4=>?_
    ·have h4:k<4:=by have hx:(k:Int)<4:=odt h4;omega
     refine step_ok _ ⟨⟨rfl,k+1,step64 (by omega),by omega,rfl⟩,?_⟩;rw [step64 (by omega)];omega
    ·have h4:k=4:=by have hx:¬(k:Int)<4:=odf h4;omega
     subst h4;exact hk9 _ _ ⟨rfl,rfl⟩
   rintro x v ⟨rfl,rfl⟩;refine⟨Int.natCast_nonneg j,by show (j:Int)<16;omega,?_⟩;have e:0+(j:Int).toNat*1=j:=by omega
   rw [e];refine h.st 1 rfl (by show j+1≤(tabC j).length;unfold tabC;simp;omega) fun w' h' _=>?_;have hset:=tabC_set hlt;refine⟨⟨j+1,step64 (by omega),by omega,?_⟩,?_⟩
   ·rw [←hset];exact h'
   ·rw [step64 (by omega)];omega
  ·have hj:j=16:=by have hx:¬(j:Int)<16:=odf hge;omega
   subst hj;exact hk5 _ h
 intro u h;refine h.ld 1 (k:=.int .u32) (tabI 0) rfl rfl ?_;refine h.ld 1 (k:=.int .u32) (tabI 1) rfl rfl ?_;refine h.ld 1 (k:=.int .u32) (tabI 2) rfl rfl ?_;refine h.ld 1 (k:=.int .u32) (tabI 3) rfl rfl ?_;refine h.ld 1 (k:=.int .u32) (tabI 4) rfl rfl ?_;refine h.ld 1 (k:=.int .u32) (tabI 5) rfl rfl ?_;refine h.ld 1 (k:=.int .u32) (tabI 6) rfl rfl ?_;refine h.ld 1 (k:=.int .u32) (tabI 7) rfl rfl ?_;refine h.ld 1 (k:=.int .u32) (tabI 8) rfl rfl ?_;refine h.ld 1 (k:=.int .u32) (tabI 9) rfl rfl ?_;refine h.ld 1 (k:=.int .u32) (tabI 10) rfl rfl ?_;refine h.ld 1 (k:=.int .u32) (tabI 11) rfl rfl ?_;refine h.ld 1 (k:=.int .u32) (tabI 12) rfl rfl ?_;refine h.ld 1 (k:=.int .u32) (tabI 13) rfl rfl ?_;refine h.ld 1 (k:=.int .u32) (tabI 14) rfl rfl ?_;refine h.ld 1 (k:=.int .u32) (tabI 15) rfl rfl ?_;refine h.st 0 rfl (Nlr 16) fun u2 h2 _=>?_;have h2:At w F0 [(b1,tabC 16),(b3,tabC 16)] u2:=h2;refine h2.ld 0 (k:=.int .u32) (tabI 0) rfl rfl ?_;refine h2.ld 0 (k:=.int .u32) (tabI 1) rfl rfl ?_;refine h2.ld 0 (k:=.int .u32) (tabI 2) rfl rfl ?_;refine h2.ld 0 (k:=.int .u32) (tabI 3) rfl rfl ?_;refine h2.ld 0 (k:=.int .u32) (tabI 4) rfl rfl ?_;refine h2.ld 0 (k:=.int .u32) (tabI 5) rfl rfl ?_;refine h2.ld 0 (k:=.int .u32) (tabI 6) rfl rfl ?_;refine h2.ld 0 (k:=.int .u32) (tabI 7) rfl rfl ?_;refine h2.ld 0 (k:=.int .u32) (tabI 8) rfl rfl ?_;refine h2.ld 0 (k:=.int .u32) (tabI 9) rfl rfl ?_;refine h2.ld 0 (k:=.int .u32) (tabI 10) rfl rfl ?_;refine h2.ld 0 (k:=.int .u32) (tabI 11) rfl rfl ?_;refine h2.ld 0 (k:=.int .u32) (tabI 12) rfl rfl ?_;refine h2.ld 0 (k:=.int .u32) (tabI 13) rfl rfl ?_;refine h2.ld 0 (k:=.int .u32) (tabI 14) rfl rfl ?_;exact h2.ld 0 (k:=.int .u32) (tabI 15) rfl rfl (hK _ h2.mod)
theorem and15_lt(y:W32):(y &&& 15#32).toNat<16:=by
 rw [BitVec.toNat_and];exact Nat.lt_of_le_of_lt Nat.and_le_right (by decide)
theorem tab_look(y:W32):(tabC 16)[(y &&& 15#32).toNat]? = some (LV.mk (.int .u32) ((step4 (y &&& 15#32)).toNat:Int)).toV:=by
 have h:=and15_lt y;unfold tabC;rw [List.getElem?_map,List.getElem?_range h];show some (Value.int .u32 (tabAt 16 (y &&& 15#32).toNat))=_;unfold tabAt tabI;rw [if_pos h,BitVec.ofNat_toNat,BitVec.setWidth_eq];rfl
theorem not_bv(x:W32):bitI .xor .u32 (if IntKind.signed .u32 then -1 else IntKind.max .u32) (x.toNat:Int)=((~~~x).toNat:Int):=by
 have h:=xor_bv (BitVec.allOnes 32) x;have e:((BitVec.allOnes 32).toNat:Int)=(if IntKind.signed .u32 then -1 else IntKind.max .u32):=by decide
 rw [←e,h,BitVec.allOnes_xor]
theorem u8_bv(c:UInt8):IntKind.wrap .u32 (c.toNat:Int)=((BitVec.ofNat 32 c.toNat:W32).toNat:Int):=by
 have h:c.toNat<256:=c.toNat_lt;rw [BitVec.toNat_ofNat,Nat.mod_eq_of_lt (by omega),wrap_u32];omega
theorem half_ok{w0 w:World}{b:Nat}(hA:At w0 F0 [(b,tabC 16)] w)(y:W32){K:Int→Prop}(hK:K ((step4 (y &&& 15#32)).toNat:Int)) :
  0≤bitI .and .u32 (y.toNat:Int) 15∧bitI .and .u32 (y.toNat:Int) 15<(16:Int)∧Go.Vw.ld w (.int .u32) b (0+(bitI .and .u32 (y.toNat:Int) 15).toNat*1) K:=by
 have h:=and_bv y 15#32;have e:((15#32:W32).toNat:Int)=15:=rfl;rw [e] at h;rw [h];have hl:=and15_lt y;refine⟨Int.natCast_nonneg _,by omega,?_⟩;have e2:0+(((y &&& 15#32).toNat:Int)).toNat*1=(y &&& 15#32).toNat:=by omega
 rw [e2];exact hA.ld 0 (k:=.int .u32) _ rfl (tab_look y) hK
theorem extend_ok(x0:W32){w:World}{s:Sl}{t:Str}(hr:RdS w ET s t)(hl:t.length≤1099511627776){K:Int→Wp}(hK:∀w',Mod F0 w w'→K ((extendB x0 t).toNat:Int) w') :
  callK Pg c_46 [.leaf (.int .u32 (x0.toNat:Int)),Az s] w (.one (.leaf (.int .u32))) K:=by
 refine go_46 _ _ _ _ ?_;refine sums_ok fun w1 M1=>?_;refine ((At.init w F0).keep0 M1 fun _=>id).alK fun b w2 _ h2 _=>?_;refine h2.st 0 rfl (Nlr 16) fun w3 h3 _=>?_;have h3:At w F0 [(b,tabC 16)] w3:=h3;have hr3:=hr.quiet h3.mod;refine join1 (a:=.int .u32) (fun (x:Int) u=>x=((extB (~~~x0) t).toNat:Int)∧u=w3) ?_ ?_
 ·intro k hk;refine loop2 (k1:=.int .u32) (k2:=Ki) (fun (x:Int) (i:Int) u=>u=w3∧∃j:Nat,i=j∧j≤t.length∧x=((extB (~~~x0) (t.take j)).toNat:Int)) (fun _ i _=>(t.length-i).toNat) (x1:=_) (x2:=0) rfl rfl ⟨rfl,0,rfl,by omega,not_bv x0⟩ ?_;rintro x i u ⟨rfl,j,rfl,hj,rfl⟩;rw [hr.len];refine Iq (fun h=>?_) fun h=>?_
  ·have hlt:j<t.length:=dlt h;refine hr3.byte rfl hlt fun b1 o1 _ hc=>Lq (k:=.int .u8) ((t[j]).toNat:Int) hc ?_;rw [u8_bv,xor_bv];generalize hX:extB (~~~x0) (t.take j)=X;refine half_ok h3 _ ?_ |>.imp_right fun q=>⟨q.1,q.2⟩;have e4:((4:Nat):Int)=4:=rfl;rw [←e4,shr_bv _ 4 (by decide),xor_bv,←step4_table];refine half_ok h3 _ ?_;rw [shr_bv _ 4 (by decide),xor_bv,←step4_table];refine⟨⟨rfl,j+1,step64 (by omega),by omega,?_⟩,?_⟩
   ·rw [List.take_add_one,Lge hlt];unfold extB at hX ⊢;rw [Option.toList_some,List.foldl_append,hX];rfl
   ·rw [step64 (by omega)];omega
  ·have hge:t.length≤j:=dge h;refine hk _ _ ⟨?_,rfl⟩;rw [Ltl hge]
 rintro x u ⟨rfl,rfl⟩;rw [not_bv];exact hK _ h3.mod
theorem sum_ok{w:World}{s:Sl}{t:Str}(hr:RdS w ET s t)(hl:t.length≤1099511627776){K:Int→Wp}(hK:∀w',Mod F0 w w'→K ((sumB t).toNat:Int) w') :
  callK Pg c_47 [Az s] w (.one (.leaf (.int .u32))) K:=by
 refine go_47 _ _ _ ?_;exact extend_ok 0#32 hr hl hK
theorem convB{w:World}{s:Sl}{t:Str}{src e dst:TypeId}(hs:Pg.underlying src=some (.slice e))(he:Pg.underlying e=some (.int .u8))(hd:Pg.underlying dst=some .string)(hr:RdS w ET s t){K:Str→Wp}(hK:K t w) :
  opF Pg (vS (convert src dst (LV.toV (.sl s)))) w Ot K:=by
 have hrun:(convert src dst (LV.toV (.sl s))).run Pg w = .ok (.string ⟨t.toArray⟩) w:=by
  by_cases ht:t=[]
  ·subst ht;have h0:s.len=0:=hr.len;show (convert src dst (.slice (slA s.cap s.p) s.len s.cap)).run Pg w=_;rw [h0]
   cases hp:slA s.cap s.p with
   | none=>
    rw [run_convert_bytes_string w src dst e none 0 s.cap hs he hd];simp [Conv.bytesToString];rfl
   | some a=>
    exact run_convert_bytes_back (P:=Pg) w src dst e a s.cap [] hs he hd (fun j hj=>absurd hj (Nat.not_lt_zero _))
  ·have hpos:0<t.length:=List.length_pos_iff.2 ht;obtain⟨b,o,hp,hlt,_⟩:=hr.at (i:=0) (Lge hpos);have hcap:=hr.has;have hsa:slA s.cap s.p=some ⟨b,o,none⟩:=by
    rw [hp];show some (if s.cap=0 then decA b o else⟨b,o,none⟩)=_;rw [if_neg (by omega)]
   show (convert src dst (.slice (slA s.cap s.p) s.len s.cap)).run Pg w=_;rw [hsa,hr.len];refine run_convert_bytes_back (P:=Pg) w src dst e ⟨b,o,none⟩ s.cap t hs he hd fun j hj=>?_;obtain⟨b',o',hp',_,hc⟩:=hr.at (i:=j) (Lge hj);rw [hp] at hp';cases hp';have h1:=hc 0 (by decide);have e:o+j*ET.n+0=o+j:=by show o+j*1+0=o+j;omega
   rw [e] at h1;rw [Addr.add_none];exact h1
 refine⟨[.str t],w,?_,hK⟩;unfold vS;simp only [Sem.run_bind,hrun,Result.andThen];rfl
theorem convT{w:World}{s:Sl}{t:Str}(hr:RdS w ET s t){K:Str→Wp}(hK:K t w):opF Pg (vS (convert t_bytes 9 (LV.toV (.sl s)))) w Ot K:=convB u_bytes Tryz.underlying5 Tryz.underlying9 hr hK
theorem four_cells(x:W32):([LV.toV (.int .u8 (IntKind.wrap .u8 (x.toNat:Int))),LV.toV (.int .u8 (IntKind.wrap .u8 (shrI .u32 (x.toNat:Int) 8))),LV.toV (.int .u8 (IntKind.wrap .u8 (shrI .u32 (x.toNat:Int) 16))),LV.toV (.int .u8 (IntKind.wrap .u8 (shrI .u32 (x.toNat:Int) 24)))]:List Value)=ET.cells (fourB x)++[]:=by
 have h8:=shr_bv x 8 (by decide);have h16:=shr_bv x 16 (by decide);have h24:=shr_bv x 24 (by decide);have e8:((8:Nat):Int)=8:=rfl;have e16:((16:Nat):Int)=16:=rfl;have e24:((24:Nat):Int)=24:=rfl;rw [e8] at h8;rw [e16] at h16;rw [e24] at h24;rw [h8,h16,h24,wrap_u8,wrap_u8,wrap_u8,wrap_u8,BitVec.toNat_ushiftRight,BitVec.toNat_ushiftRight,BitVec.toNat_ushiftRight,Nat.shiftRight_eq_div_pow,Nat.shiftRight_eq_div_pow,Nat.shiftRight_eq_div_pow];simp only [fourB,Enc.cells,ET,LV.toV,Lan,List.cons_append,List.nil_append,UInt8.toNat_ofNat'];congr 1
theorem four_ok(x:W32){w:World}{K:Sl→Wp}(hK:∀w' ro s',At w F0 ro w'→VecL ro ET s' (fourB x)→K s' w'):callK Pg c_48 [.leaf (.int .u32 (x.toNat:Int))] w Oz K:=by
 refine go_48 _ _ _ ?_;refine (At.init w F0).alK fun b w1 _ h1 _=>?_;refine hK w1 _ _ h1 ⟨rfl,Nlr _,.inr ⟨b,[],?_,rfl,?_⟩⟩
 ·show [(b,_)]=[(b,_)];rw [←four_cells];rfl
 ·rw [Lan,Enc.cells_length];exact Nlr 4
theorem _root_.Go.Vw.RdS.toK{α:Type}{w:World}{E:Enc α}{s:Sl}{l:List α}(h:RdS w E s l){n:Nat}(hn:n≤l.length){sz:Nat}(hs:sz=E.n){i:Int}(hi:i=(n:Int)){K:Sl→Prop}(hK:∀s',RdS w E s' (l.take n)→(∀b,rk s' b→rk s b)→K s'):Go.Vw.slx s sz none (some i) none K:=by
 subst hs;subst hi;have hlen:=h.len;have hcap:=h.has;refine⟨0,n,s.cap,rfl,rfl,rfl,Nzl _,by omega,Nlr _,hK _ ?_ ?_⟩
 ·have:=RdS.cutR h (lo:=0) (hi:=n) (mx:=s.cap) (Nzl _) hn (by omega);simpa using this
 ·rintro b ⟨h0,o,hb⟩;simp only [Sl.cut,Nat.sub_zero] at h0 hb;refine⟨h0,?_⟩;have hc:¬s.cap=0:=h0;simp only [hc,if_false] at hb
  cases hp:s.p with
  | none=>rw [hp] at hb;cases hb
  | some a=>rw [hp] at hb;simp at hb;exact⟨a.2,by rw [hp,←hb.1]⟩
theorem _root_.Go.Vw.RdS.partK{α:Type}{w:World}{E:Enc α}{s:Sl}{l:List α}(h:RdS w E s l){n m:Nat}(hnm:n≤m)(hm:m≤l.length){sz:Nat}(hs:sz=E.n){i j:Int}(hi:i=(n:Int))(hj:j=(m:Int)){K:Sl→Prop}(hK:∀s',RdS w E s' ((l.take m).drop n)→(∀b,rk s' b→rk s b)→K s'):Go.Vw.slx s sz (some i) (some j) none K:=by
 subst hs;subst hi;subst hj;have hlen:=h.len;have hcap:=h.has;refine⟨n,m,s.cap,rfl,rfl,rfl,hnm,by omega,Nlr _,hK _ (RdS.cutR h hnm hm (by omega)) ?_⟩;rintro b ⟨h0,o,hb⟩;simp only [Sl.cut] at h0 hb;have hc:¬s.cap=n:=by omega
 simp only [hc,if_false] at hb;refine⟨by omega,?_⟩
 cases hp:s.p with
 | none=>rw [hp] at hb;cases hb
 | some a=>rw [hp] at hb;simp at hb;exact⟨a.2,by rw [hp,←hb.1]⟩
theorem _root_.Go.Vw.RdS.fromK{α:Type}{w:World}{E:Enc α}{s:Sl}{l:List α}(h:RdS w E s l){n:Nat}(hn:n≤l.length){sz:Nat}(hs:sz=E.n){i:Int}(hi:i=(n:Int)){K:Sl→Prop}(hK:∀s',RdS w E s' (l.drop n)→(∀b,rk s' b→rk s b)→K s'):Go.Vw.slx s sz (some i) none none K:=by
 subst hs;subst hi;have hlen:=h.len;have hcap:=h.has;refine⟨n,s.len,s.cap,rfl,rfl,rfl,by omega,hcap,Nlr _,hK _ ?_ ?_⟩
 ·have:=RdS.cutR h (lo:=n) (hi:=s.len) (mx:=s.cap) (by omega) (by omega) hcap;rw [hlen,List.take_length] at this;rw [hlen];exact this
 ·rintro b ⟨h0,o,hb⟩;simp only [Sl.cut] at h0 hb;have hc:¬s.cap=n:=by omega
  simp only [hc,if_false] at hb;refine⟨by omega,?_⟩
  cases hp:s.p with
  | none=>rw [hp] at hb;cases hb
  | some a=>rw [hp] at hb;simp at hb;exact⟨a.2,by rw [hp,←hb.1]⟩
theorem open_ok{w:World}{s:Sl}{t:Str}(hr:RdS w ET s t)(hl:t.length≤1099511627776){K:Sl→Int→Wp}(hK:∀w' ro s',At w F0 ro w'→VecL ro ET s' (openB t).2→K s' (openB t).1 w') :
  callK Pg c_49 [Az s] w (.tup [Ls,Li]) K:=by
 refine go_49 _ _ _ ?_;rw [hr.len,Wq (by omega) (by omega)];refine Iq (fun h=>?_) fun h=>?_
 ·have h:((t.length:Nat):Int)-4<0:=odt h;have e:openB t=(11,[]):=by unfold openB;rw [if_pos (by omega)]
  rw [e] at hK;exact hK w [] _ (At.none (Mod.refl _ _)) (VecL.nil ET)
 have h:¬((t.length:Nat):Int)-4<0:=odf h;have hn:((t.length:Nat):Int)-4=((t.length-4:Nat):Int):=by omega
 generalize hk:t.length-4=n at hn;have hnl:n≤t.length:=by omega
 rw [hn];have hd:=hr.quiet (Mq w);refine join1 (a:=.bool) (fun b u=>b = !decide (fourB (sumB (t.take n))=t.drop n)∧Mod F0 w u) ?_ ?_
 ·intro k2 hk2;refine⟨F0,hd.toK hnl rfl rfl fun s4 h4 _=>hd.fromK hnl rfl rfl fun s5 h5 _=>?_⟩;have hl4:(t.take n).length≤1099511627776:=by rw [Llt];omega
  have fin:∀(a b:Str) u,a=fourB (sumB (t.take n))→b=t.drop n→Mod F0 w.drew u→k2 (!(a==b)) u:=by
   rintro a b u rfl rfl hM;refine hk2 _ _ ⟨?_,mod0 (Mq w) hM⟩;congr 1;rw [Bei,beq_iff_eq,Det]
  have fin':∀(a b:Str) u,a=fourB (sumB (t.take n))→b=t.drop n→Mod F0 w.drew u→k2 (!(b==a)) u:=by
   intro a b u h1 h2 hM;have e:(b==a)=(a==b):=by rw [Bei,beq_iff_eq,beq_iff_eq];exact eq_comm
   rw [e];exact fin a b u h1 h2 hM
  refine⟨sum_ok h4 hl4 fun w7 M7=>⟨M7,⟨four_ok _ fun w9 ro s8 h9 v8=>?_,?_⟩⟩,?_⟩
  ·have M9:=mod0 M7 h9.mod;exact⟨M9,convT (v8.rdAt0 h9) ⟨M9,convT (h5.quiet M9) ⟨M9,fin _ _ _ rfl rfl M9⟩⟩,
    convT (h5.quiet M9) ⟨M9,convT (v8.rdAt0 h9) ⟨M9,fin _ _ _ rfl rfl M9⟩⟩⟩
  ·refine convT (h5.quiet M7) ⟨M7,four_ok _ fun w9 ro s8 h9 v8=>?_⟩;have M9:=mod0 M7 h9.mod;exact⟨M9,convT (v8.rdAt0 h9) ⟨M9,fin _ _ _ rfl rfl M9⟩⟩
  ·refine convT h5 ⟨Mod.refl _ _,sum_ok h4 hl4 fun w7 M7=>⟨M7,four_ok _ fun w9 ro s8 h9 v8=>?_⟩⟩;have M9:=mod0 M7 h9.mod;exact⟨M9,convT (v8.rdAt0 h9) ⟨M9,fin _ _ _ rfl rfl M9⟩⟩
 rintro b u ⟨hb,hM⟩;by_cases he:fourB (sumB (t.take n))=t.drop n
 ·rw [Dct he] at hb;have e:openB t=(0,t.take n):=by unfold openB;rw [if_neg (by omega),hk,if_pos he]
  rw [e] at hK;refine ifK_f hb ((At.none hM).alK fun b1 w2 _ h2 _=>?_);refine (hr.quiet h2.mod).toK hnl rfl rfl fun s6 h6 _=>?_;refine appL (m:=[]) h2 (s:=⟨some (b1,0),0,0⟩) (l:=[]) ⟨rfl,Nlr _,.inr ⟨b1,[],rfl,rfl,by simp⟩⟩ h6 rfl rfl (by simp;omega) fun s7 ro7 w7 h7 v7 _ _=>?_;exact hK _ _ _ h7 (by simpa using v7)
 ·rw [Dcf he] at hb;have e:openB t=(10,[]):=by unfold openB;rw [if_neg (by omega),hk,if_neg he]
  rw [e] at hK;exact ifK_t hb (hK _ [] _ (At.none hM) (VecL.nil ET))
set_option maxRecDepth 100000
theorem go_50(v1:Int)(K:Sl→Wp)(w:World)(h:ifK (decide (v1<0)) (K (⟨none,0,0⟩) w) (joinK [Ki,.sl] (fun k2=>loopL [Ki,.sl] (fun v4 b5 W6 g3=>ifK (decide (128≤v4)) (al W6 5 [.int .u8 (bitI .or .u8 (IntKind.wrap .u8 (v4)) 128)] fun b7 W8=>ap W8 5 1 1 [.int .u8 0] b5 (⟨some (b7,0),1,1⟩) fun a9 W10=>g3 (shrI .i64 v4 7) a9 W10) (k2 v4 b5 W6)) [.int .i64 v1,.sl (⟨none,0,0⟩)] w) fun v11 b12 W13=>al W13 5 [.int .u8 (IntKind.wrap .u8 (v11))] fun b14 W15=>ap W15 5 1 1 [.int .u8 0] b12 (⟨some (b14,0),1,1⟩) fun a16 W17=>K a16 W17)):callK Pg 129 [Ai v1] w Oz K:=Fq (n:=(n0 .nil (n0 .nil (n0 .nil (n0 (.mk (some [.tmp 0 Li,.tmp 3 Ls]) [] [] .done (.mk none [.tmp 0 Li,.tmp 3 Ls] [] .done .nil .nil) .nil) .nil))))) CS_ok mixed Tryz.func129 (Eq.mpr (by kernel_rfl) h)
theorem go_51(b1:Sl)(K:Int→Int→Int→Wp)(w:World)(h:joinK [] (fun k2=>loopL [Ki,Ki] (fun v4 t105 W6 g3=>ifK (decide (t105<(b1.len:Int))) (ix b1 1 t105 fun b7 o8=>ld W6 (.int .u8) b7 o8 fun n9=>joinK [.bool] (fun k10=>ifK (t105==8) (k10 (decide (128≤n9)) W6) (k10 false W6)) fun t2011 W12=>ifK t2011 (K 0 0 21 W12) (0≤(w64 (7*t105))∧ifK (decide (n9<128)) (joinK [.bool] (fun k13=>ifK (n9==0) (k13 (decide (0<t105)) W12) (k13 false W12)) fun t3614 W15=>ifK t3614 (K 0 0 21 W15) (K (bitI .or .i64 v4 (shlI .i64 (w64 (bitI .and .u8 n9 127)) (w64 (7*t105)))) (w64 (t105+1)) 0 W15)) (g3 (bitI .or .i64 v4 (shlI .i64 (w64 (bitI .and .u8 n9 127)) (w64 (7*t105)))) (w64 (t105+1)) W12))) (k2 W6)) [.int .i64 0,.int .i64 0] w) fun W16=>K 0 0 20 W16):callK Pg 120 [Az b1] w (.tup [Li,Li,Li]) K:=Fq (n:=(n0 .nil (n0 .nil (n0 (n0 .nil (.mk (some []) [] [] .done (.mk none [.tmp 5 Li,.tmp 10 Li] [8,9] .done (n0 .nil (n0 .nil (n0 (n0 (n0 .nil (n0 (n0 (.mk (some [.tmp 20 Lb]) [] [5,6,7,8,9,10] .done .nil .nil) .nil) (n0 .nil (n0 .nil (n0 (n0 (n0 (.mk (some [.tmp 36 Lb]) [] [5,6] .done .nil .nil) .nil) .nil) .nil))))) .nil) .nil))) .nil) .nil)) .nil)))) CS_ok mixed Tryz.func120 (Eq.mpr (by kernel_rfl) h)
theorem go_52(b1:Sl)(K:Int→Wp)(w:World)(h:joinK [.int .u64] (fun k2=>loopL [.int .u64,Ki] (fun v4 t85 W6 g3=>ifK (decide (t85<mnI (b1.len:Int) 8)) (ix b1 1 t85 fun b7 o8=>ld W6 (.int .u8) b7 o8 fun n9=>0≤(w64 (8*t85))∧g3 (bitI .or .u64 v4 (shlI .u64 (IntKind.wrap .u64 (n9)) (w64 (8*t85)))) (w64 (t85+1)) W6) (k2 v4 W6)) [.int .u64 0,.int .i64 0] w) fun v10 W11=>K v10 W11):callK Pg 35 [Az b1] w (.one (.leaf (.int .u64))) K:=Fq (n:=(n0 .nil (n0 .nil (n0 (n0 .nil (.mk (some [.tmp 3 (.leaf (.int .u64))]) [] [] .done (.mk none [.tmp 3 (.leaf (.int .u64)),.tmp 8 Li] [0,7] .done .nil .nil) .nil)) .nil)))) CS_ok mixed Tryz.func35 (Eq.mpr (by kernel_rfl) h)
theorem go_53(a1:List UInt8)(b2:List UInt8)(K:Int→Wp)(w:World)(h:joinK [] (fun k3=>loopL [Ki] (fun t115 W6 g4=>ifK (decide (t115<mnI (a1.length:Int) (b2.length:Int))) (drawK W6 fun D W7=>sx a1 t115 fun c8=>sx b2 t115 fun c9=>ifK (c8 != c9) (K t115 W7) (g4 (w64 (t115+1)) W7)) (k3 W6)) [.int .i64 0] w) fun W10=>K (mnI (a1.length:Int) (b2.length:Int)) W10):callK Pg 131 [Au a1,Au b2] w Oi K:=Fq (n:=(n0 .nil (n0 (n0 .nil (.mk (some []) [] [0,1] .done (.mk none [.tmp 11 Li] [0,1,10] .done (n0 .nil (n0 .nil (n0 (n0 (n0 .nil (n0 (.mk none [] [] (tk [0,1,2,3,4,5,6] .done) .nil .nil) .nil)) .nil) .nil))) .nil) .nil)) .nil))) CS_ok mixed Tryz.func131 (Eq.mpr (by kernel_rfl) h)
theorem go_54(a1:List UInt8)(b2:List UInt8)(K:Int→Wp)(w:World)(h:joinK [] (fun k3=>loopL [Ki] (fun t115 W6 g4=>ifK (decide (t115<mnI (a1.length:Int) (b2.length:Int))) (drawK W6 fun D W7=>sx a1 t115 fun c8=>sx b2 t115 fun c9=>ifK (decide (c8<c9)) (K (-1) W7) (drawK W7 fun D W10=>sx a1 t115 fun c11=>sx b2 t115 fun c12=>ifK (decide (c12<c11)) (K 1 W10) (g4 (w64 (t115+1)) W10))) (k3 W6)) [.int .i64 0] w) fun W13=>ifK (decide ((a1.length:Int)<(b2.length:Int))) (K (-1) W13) (ifK (decide ((b2.length:Int)<(a1.length:Int))) (K 1 W13) (K 0 W13))):callK Pg 44 [Au a1,Au b2] w Oi K:=Fq (n:=(n0 .nil (n0 (n0 .nil (.mk (some []) [] [0,1] .done (.mk none [.tmp 11 Li] [0,1,10] .done (n0 .nil (n0 .nil (n0 (n0 (n0 .nil (n0 (n0 (.mk none [] [] (tk [0,1,2,3,4,5,6,7] .done) .nil .nil) (n0 .nil (n0 (.mk none [] [] (tk [0,1,2,3,4,5,6,7] .done) .nil .nil) .nil))) .nil)) .nil) .nil))) .nil) .nil)) .nil))) CS_ok mixed Tryz.func44 (Eq.mpr (by kernel_rfl) h)
def putN(v:Nat):Str:=if h:v<128 then [UInt8.ofNat v] else UInt8.ofNat (v%128+128)::putN (v/128)
termination_by v
decreasing_by omega
theorem putN_small{v:Nat}(h:v<128):putN v=[UInt8.ofNat v]:=by rw [putN,dif_pos h]
theorem putN_big{v:Nat}(h:128≤v):putN v=UInt8.ofNat (v%128+128)::putN (v/128):=by rw [putN,dif_neg (by omega)]
def getF:Nat→Nat→Str→Nat×Nat×Int
 | _,_,[]=>(0,0,20)
 | i,v,c::r=>if i=8∧128≤c.toNat then (0,0,21) else if c.toNat<128 then if c.toNat=0∧0<i then (0,0,21) else (v+c.toNat*128^i,i+1,0) else getF (i+1) (v+(c.toNat-128)*128^i) r
def getN(t:Str):Nat×Nat×Int:=getF 0 0 t
def fixN(v n:Nat):Str:=(List.range n).map fun i=>UInt8.ofNat (v/256^i)
def wordF:Str→Nat
 | []=>0
 | c::r=>c.toNat+256*wordF r
def wordN(t:Str):Nat:=wordF (t.take 8)
def comN:Str→Str→Nat
 | x::a,y::b=>if x=y then comN a b+1 else 0
 | _,_=>0
def cmpN:Str→Str→Int
 | [],[]=>0
 | [],_::_=>-1
 | _::_,[]=>1
 | x::a,y::b=>if x.toNat<y.toNat then -1 else if y.toNat<x.toNat then 1 else cmpN a b
theorem or128{v:Nat}:(v%256) ||| 128=v%128+128:=by
 have h1:v%256=v%128∨v%256=v%128+128:=by omega
 have h2:v%128<2^7:=by omega
 have e:v%128 ||| 128=128+v%128:=by
  have:=Nat.shiftLeft_add_eq_or_of_lt h2 1;rw [Nat.or_comm];simpa using this.symm
 rcases h1 with h | h
 ·rw [h,e];omega
 ·rw [h];have e2:v%128+128=v%128 ||| 128:=by rw [e];omega
  rw [e2,Nat.or_assoc,Nat.or_self]
theorem u8_of(n:Nat)(h:n<256):((UInt8.ofNat n).toNat:Int)=(n:Int):=by
 rw [UInt8.toNat_ofNat'];congr 1;exact Nat.mod_eq_of_lt h
theorem push_ok{w0 w:World}{m ro:BL}(hA:At w0 F0 (m++ro) w){s:Sl}{t:Str}(hv:VecL ro ET s t)(hl:t.length≤1099511627776){c:UInt8}{i:Int}(hi:i=(c.toNat:Int)){K:Sl→Wp}
  (hK:∀s' ro' w',At w0 F0 (m++ro') w'→VecL ro' ET s' (t++[c])→Mod (Ks ro) w w'→K s' w') :
  Go.Vw.al w 5 [.int .u8 i] fun b w'=>ap w' 5 1 1 [.int .u8 0] s ⟨some (b,0),1,1⟩ K:=by
 subst hi;refine hA.alK fun b w1 _ h1 M1=>?_;have hb:Blk w1 b (ET.f c):=h1.own (b,_) (Lmr _ (Lms.2 rfl));have h2:At w0 F0 (m++ro) w1:=h1.sub (Lsl _ _);exact appL h2 hv (rd_one hb) rfl rfl (by simp;omega) fun s' ro' w' h3 v3 M3 _=>hK s' ro' w' h3 v3 (M1.trans M3 (fun _ _ h=>h.elim) fun _ _ h=>h)
theorem putN_len:∀(v k:Nat),v<128^(k+1)→(putN v).length≤k+1
 | v,0,h=>by rw [putN_small (by simpa using h)];simp
 | v,k+1,h=>by
  by_cases h1:v<128
  ·rw [putN_small h1];simp
  ·rw [putN_big (by omega),Llc];have:=putN_len (v/128) k (by rw [Nat.div_lt_iff_lt_mul (by decide)];rw [Nat.pow_succ] at h;exact h);omega
theorem put_ok{v:Nat}(hv:v<9223372036854775808){w:World}{K:Sl→Wp}(hK:∀w' ro s',At w F0 ro w'→VecL ro ET s' (putN v)→K s' w'):callK Pg c_50 [Ai (v:Int)] w Oz K:=by
 refine go_50 _ _ _ ?_;have hlen:(putN v).length≤9:=putN_len v 8 (by omega);refine ifK_f (Dcf (Int.not_lt.2 (Int.natCast_nonneg v))) ?_;refine join2 (fun (x:Int) (b:Sl) u=>∃(m:Nat) (t:Str) (ro:BL),x=(m:Int)∧m<128∧At w F0 ro u∧VecL ro ET b t∧t++putN m=putN v) ?_ ?_
 ·intro k hk;refine loop2 (k1:=Ki) (k2:=.sl) (fun (x:Int) (b:Sl) u=>∃(m:Nat) (t:Str) (ro:BL),x=(m:Int)∧m≤v∧At w F0 ro u∧VecL ro ET b t∧t++putN m=putN v) (fun x _ _=>x.toNat) (x1:=(v:Int)) (x2:=⟨none,0,0⟩) rfl rfl ⟨v,[],[],rfl,Nlr _,At.init w F0,VecL.nil ET,rfl⟩ ?_;rintro x b u ⟨m,t,ro,rfl,hm,hA,hV,he⟩;refine Iq (fun h=>?_) fun h=>?_
  ·have h:(128:Int)≤(m:Int):=odt h;have h:128≤m:=by omega
   have hlt:t.length≤9:=by
    have:=congrArg List.length he;rw [Lla] at this;omega
   refine push_ok (m:=[]) hA hV (by omega) (c:=UInt8.ofNat (m%128+128)) ?_ fun s' ro' w' h' v' _=>⟨⟨m/128,_,ro',?_,by omega,h',v',?_⟩,?_⟩
   ·rw [u8_of _ (by omega),wrap_u8];have e1:((m:Int)%256)=((m%256:Nat):Int):=by omega
    have e2:(128:Int)=((128:Nat):Int):=rfl;rw [e1,e2,or_u8 (by omega) (by decide),or128]
   ·have:=shr_i64 m 7 (by decide);exact this
   ·rw [Laa,List.singleton_append,←putN_big h];exact he
   ·have e:=shr_i64 m 7 (by decide);have e:shrI .i64 (m:Int) 7=((m/2^7:Nat):Int):=e;rw [e];have:m/2^7<m:=Nat.div_lt_self (by omega) (by decide);omega
  ·have h:¬(128:Int)≤(m:Int):=odf h;exact hk _ _ _ ⟨m,t,ro,rfl,by omega,hA,hV,he⟩
 rintro x b u ⟨m,t,ro,rfl,hm,hA,hV,he⟩;rw [putN_small hm] at he;have hlt:t.length≤9:=by
  have:=congrArg List.length he;rw [Lla] at this;omega
 refine push_ok (m:=[]) hA hV (by omega) (c:=UInt8.ofNat m) ?_ fun s' ro' w' h' v' _=>?_
 ·rw [u8_of _ (by omega),wrap_u8];omega
 ·rw [he] at v';exact hK _ _ _ h' v'
theorem or_shift{v d i:Nat}(hv:v<128^i):v ||| (d*2^(7*i))=v+d*128^i:=by
 have e:(128:Nat)^i=2^(7*i):=by rw [Nat.pow_mul]
 rw [e] at hv ⊢;have:=Nat.shiftLeft_add_eq_or_of_lt hv d;rw [Nat.shiftLeft_eq] at this;rw [Nat.or_comm,←this,Nat.add_comm]
theorem and127{c:Nat}(h:c<256):c &&& 127=c%128:=by
 have:=Nat.and_two_pow_sub_one_eq_mod c 7;exact this
theorem getF_bound:∀(t:Str) (i v:Nat),i≤8→v<128^i→(getF i v t).1<9223372036854775808∧(getF i v t).2.1≤i+t.length∧(getF i v t).2.1≤9
 | [],i,v,_,_=>by simp [getF]
 | c::r,i,v,hi,hv=>by
  unfold getF;have hc:c.toNat<256:=c.toNat_lt;split
  ·simp
  ·rename_i h1;split
   ·rename_i h2;split
    ·simp
    ·refine⟨?_,by simp,by show i+1≤9;omega⟩;show v+c.toNat*128^i<_;have h3:v+c.toNat*128^i<128^(i+1):=by
      have:c.toNat*128^i≤127*128^i:=Nat.mul_le_mul_right _ (by omega);rw [Nat.pow_succ];omega
     have h4:128^(i+1)≤128^9:=Nat.pow_le_pow_right (by decide) (by omega);have:(128:Nat)^9=9223372036854775808:=by decide
     omega
   ·rename_i h2;have h3:v+(c.toNat-128)*128^i<128^(i+1):=by
     have:(c.toNat-128)*128^i≤127*128^i:=Nat.mul_le_mul_right _ (by omega);rw [Nat.pow_succ];omega
    have:=getF_bound r (i+1) _ (by omega) h3;refine⟨this.1,?_,this.2.2⟩;have h:=this.2.1;simp only [Llc];omega
theorem getN_val(t:Str):(getN t).1<9223372036854775808:=(getF_bound t 0 0 (by decide) (by decide)).1
theorem getN_len(t:Str):(getN t).2.1≤t.length:=by have:=(getF_bound t 0 0 (by decide) (by decide)).2.1;unfold getN;omega
theorem get_ok{w:World}{s:Sl}{t:Str}(hr:RdS w ET s t)(hl:t.length≤1099511627776){K:Int→Int→Int→Wp}(hK:K ((getN t).1:Int) ((getN t).2.1:Int) (getN t).2.2 w) :
  callK Pg c_51 [Az s] w (.tup [Li,Li,Li]) K:=by
 refine go_51 _ _ _ ?_;refine join0 (fun u=>u=w∧getN t=(0,0,20)) ?_ ?_
 ·intro k hk;refine loop2 (k1:=Ki) (k2:=Ki) (fun (v:Int) (i:Int) u=>u=w∧∃m j:Nat,v=(m:Int)∧i=(j:Int)∧j≤t.length∧j≤8∧m<128^j∧getF j m (t.drop j)=getN t) (fun _ i _=>(t.length-i).toNat) (x1:=0) (x2:=0) rfl rfl ⟨rfl,0,0,rfl,rfl,by omega,by omega,by decide,rfl⟩ ?_;rintro v i u ⟨rfl,m,j,rfl,rfl,hj,hj8,hm,hg⟩;rw [hr.len];refine Iq (fun h=>?_) fun h=>?_
  ·have hlt:j<t.length:=dlt h;refine hr.byte rfl hlt fun b o _ hc=>Lq (k:=.int .u8) ((t[j]).toNat:Int) hc ?_;have hx:t[j].toNat<256:=t[j].toNat_lt;rw [List.drop_eq_getElem_cons hlt] at hg;generalize t[j]=x at hg hx;have e8:(((j:Nat):Int)==8)=decide (j=8):=by
    rw [Bei,beq_iff_eq,Det];omega
   refine join1 (a:=.bool) (fun c w'=>c=decide (j=8∧128≤x.toNat)∧w'=u) ?_ ?_
   ·intro k10 hk10;rw [e8];refine Iq (fun h=>hk10 _ _ ⟨?_,rfl⟩) fun h=>hk10 _ _ ⟨?_,rfl⟩
    ·have h:=odt h;show decide ((128:Int)≤(x.toNat:Int))=_;rw [Bei,Det,Det];omega
    ·have h:=odf h;exact (Dcf (fun q=>h q.1)).symm
   rintro c w' ⟨rfl,rfl⟩;refine Iq (fun h=>?_) fun h=>?_
   ·have h:=odt h;unfold getF at hg;rw [if_pos h] at hg;rw [←hg] at hK;exact hK
   have h:=odf h;unfold getF at hg;rw [if_neg h] at hg;have e7:w64 (7*(j:Int))=((7*j:Nat):Int):=by rw [Wq (by omega) (by omega)];omega
   have ev:bitI .or .i64 (m:Int) (shlI .i64 (w64 (bitI .and .u8 (x.toNat:Int) 127)) (w64 (7*(j:Int))))=((m+(x.toNat%128)*128^j:Nat):Int):=by
    have e127:(127:Int)=((127:Nat):Int):=rfl;rw [e7,e127,and_u8 hx (by decide),and127 hx,Wq (by omega) (by omega)];have hb:x.toNat%128*2^(7*j)<2^63:=by
     have h1:x.toNat%128<2^7:=by omega
     have h2:2^(7*j)≤2^56:=Nat.pow_le_pow_right (by decide) (by omega)
     calc x.toNat%128*2^(7*j)≤(x.toNat%128)*2^56:=Nat.mul_le_mul_left _ h2
      _<2^7*2^56:=Nat.mul_lt_mul_of_pos_right h1 (by decide)
      _=2^63:=by decide
    rw [shl_i64 _ _ (by omega) hb,or_i64 ?_ hb,or_shift hm];have:(128:Nat)^j≤128^8:=Nat.pow_le_pow_right (by decide) hj8;have:(128:Nat)^8<2^63:=by decide
    omega
   rw [ev];refine⟨by rw [e7];exact Int.natCast_nonneg _,Iq (fun hs=>?_) fun hs=>?_⟩
   ·have hs:x.toNat<128:=by have hx:((x.toNat:Nat):Int)<128:=odt hs;omega
    rw [if_pos hs] at hg;refine join1 (a:=.bool) (fun c v'=>c=decide (x.toNat=0∧0<j)∧v'=w') ?_ ?_
    ·intro k13 hk13;have e0:(((x.toNat:Nat):Int)==0)=decide (x.toNat=0):=by
      rw [Bei,beq_iff_eq,Det];omega
     rw [e0];refine Iq (fun h=>hk13 _ _ ⟨?_,rfl⟩) fun h=>hk13 _ _ ⟨?_,rfl⟩
     ·have h:=odt h;show decide ((0:Int)<(j:Int))=_;rw [Bei,Det,Det];omega
     ·have h:=odf h;exact (Dcf (fun q=>h q.1)).symm
    rintro c v' ⟨rfl,rfl⟩;refine Iq (fun h=>?_) fun h=>?_
    ·have h:=odt h;rw [if_pos h] at hg;rw [←hg] at hK;exact hK
    ·have h:=odf h;rw [if_neg h] at hg;rw [←hg] at hK;rw [step64 (by omega),Nat.mod_eq_of_lt hs];exact hK
   ·have hs:¬x.toNat<128:=by have hx:¬((x.toNat:Nat):Int)<128:=odf hs;omega
    rw [if_neg hs] at hg;have em:x.toNat%128=x.toNat-128:=by omega
    rw [step64 (by omega),em];refine⟨⟨rfl,_,j+1,rfl,rfl,by omega,by omega,?_,hg⟩,by omega⟩
    ·have:(x.toNat-128)*128^j≤127*128^j:=Nat.mul_le_mul_right _ (by omega);rw [Nat.pow_succ];omega
  ·have hge:t.length≤j:=dge h;refine hk _ ⟨rfl,?_⟩;rw [←hg,Ldn hge];rfl
 rintro u ⟨rfl,hg⟩;rw [hg] at hK;exact hK
end Go.Proofs.YtoegpmjoajipcaaGreatDoor
