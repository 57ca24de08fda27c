/- The store in memory: blobs by their names, the lock, the meter. -/
import Derived.Test.YtjldecomhpngmaaVA
namespace Go.Proofs.Ytjldecomhpngmaa
open Go.Vw

abbrev F0 : Nat → Prop := fun _ => False
structure Bl where
  data : List Int
  out : Bool
  stops : Bool
  stop : Int
  stopped : Bool
def Bl.new : Bl := ⟨[], false, false, 0, false⟩
structure Bl.ok (b : Bl) : Prop where
  lo : 0 ≤ b.stop
  hi : b.stop ≤ 9223372036854775807
  len : b.data.length ≤ 268435456
  byte : ∀ x ∈ b.data, 0 ≤ x ∧ x < 256
theorem Bl.new_ok : Bl.new.ok := ⟨by decide, by decide, by decide, by simp [Bl.new]⟩
def Bl.cells (b : Bl) (s : Sl) : List Value := [(LV.sl s).toV, .bool b.out, .bool b.stops, .int .i64 b.stop, .bool b.stopped]
structure En where
  name : Str
  bb : Nat
  sl : Sl
  ro : List (Nat × List Value)
  bl : Bl
def En.blk (e : En) : Nat × List Value := (e.bb, e.bl.cells e.sl)
def owns : List En → List (Nat × List Value)
  | [] => []
  | e :: r => (e.blk :: e.ro) ++ owns r
theorem owns_append : ∀ a b : List En, owns (a ++ b) = owns a ++ owns b
  | [], b => rfl
  | e :: a, b => by simp [owns, owns_append a b]
structure SG where
  bs : Nat
  r : Nat
  ents : List En
  m1 : Int
  m2 : Int
  m3 : Int
def SG.hd (g : SG) (s : Int) : Nat × List Value := (g.bs, [.int .i32 s, .int .u32 0, .map (some g.r), .int .i64 g.m1, .int .i64 g.m2, .int .i64 g.m3])
def SG.names (g : SG) : List (Str × Nat) := g.ents.map fun e => (e.name, e.bb)
abbrev Abs := List (Str × Bl)
def SG.abs (g : SG) : Abs := g.ents.map fun e => (e.name, e.bl)
def SG.mt (g : SG) : Int × Int × Int := (g.m1, g.m2, g.m3)
/-- its blocks -/
def SG.D (g : SG) : Nat → Prop := fun b => b = g.bs ∨ b = g.r ∨ Ks (owns g.ents) b
structure StA (w0 : World) (m : List (Nat × List Value)) (s : Int) (g : SG) (w : World) : Prop where
  at_ : At w0 F0 ((m ++ [g.hd s]) ++ owns g.ents) w
  nm : Names w g.r g.names
  old : w0.heap.size ≤ g.r
  vec : ∀ e ∈ g.ents, VecL e.ro EU e.sl e.bl.data ∧ e.bl.ok
theorem perm_mid {α : Type} (a b : List α) (x : α) : ((a ++ [x]) ++ b).Perm ((a ++ b) ++ [x]) := by
  rw [List.append_assoc, List.append_assoc]
  exact List.Perm.append_left a List.perm_append_comm
theorem At.setLast {w0 w : World} {D : Nat → Prop} {m : List (Nat × List Value)} {b : Nat} {c : List Value} (hA : At w0 D (m ++ [(b, c)]) w) (o : Nat) (vs : List Value) : At w0 D (m ++ [(b, spl c o vs)]) (World.setCells w b o vs) := by
  have h := hA.setCells (i := m.length) (b := b) (c := c) (by simp) o vs
  rw [set_last] at h; exact h
section
variable {w0 w : World} {m : List (Nat × List Value)} {s : Int} {g : SG}
theorem StA.head (h : StA w0 m s g w) : At w0 F0 ((m ++ owns g.ents) ++ [g.hd s]) w := h.at_.perm (perm_mid _ _ _).symm
theorem StA.hdBlk (h : StA w0 m s g w) : Blk w g.bs (g.hd s).2 := h.at_.own (g.hd s) (by simp)
theorem StA.ne (h : StA w0 m s g w) : g.bs ≠ g.r := fun e => h.nm.far (e ▸ h.hdBlk)
theorem StA.ldHd (h : StA w0 m s g w) {k : Kd} {o : Nat} (x : Den k) {K : Den k → Prop} (hx : (g.hd s).2[o]? = some (LV.mk k x).toV) (hK : K x) : Go.Vw.ld w k g.bs o K := ⟨x, by rw [h.hdBlk.cell]; exact hx, hK⟩
theorem StA.far (h : StA w0 m s g w) {p : Nat × List Value} (hp : p ∈ (m ++ [g.hd s]) ++ owns g.ents) : p.1 ≠ g.r := fun e => h.nm.far (e ▸ h.at_.own p hp)
theorem StA.notKs (h : StA w0 m s g w) {l : List (Nat × List Value)} (hl : ∀ p ∈ l, p ∈ (m ++ [g.hd s]) ++ owns g.ents) : ¬ Ks l g.r := by
  rintro ⟨p, hp, e⟩; exact h.far (hl p hp) e
/-- the store's first cells are written -/
theorem StA.setHd {s' : Int} {g' : SG} (h : StA w0 m s g w) {o : Nat} {vs : List LV} (hs : spl (g.hd s).2 o (vs.map LV.toV) = (g'.hd s').2) (hbs : g'.bs = g.bs) (hr : g'.r = g.r) (he : g'.ents = g.ents) : StA w0 m s' g' (World.setCells w g.bs o (vs.map LV.toV)) := by
  have h1 : At w0 F0 ((m ++ owns g.ents) ++ [(g.bs, (g.hd s).2)]) w := h.head
  have h2 := At.setLast h1 o (vs.map LV.toV)
  rw [hs] at h2
  have h3 : At w0 F0 ((m ++ owns g.ents) ++ [g'.hd s']) (World.setCells w g.bs o (vs.map LV.toV)) := by
    have : g'.hd s' = (g.bs, (g'.hd s').2) := by rw [← hbs]; rfl
    rw [this]; exact h2
  refine ⟨by rw [he]; exact h3.perm (perm_mid _ _ _), ?_, by rw [hr]; exact h.old, by rw [he]; exact h.vec⟩
  have hn : g'.names = g.names := by unfold SG.names; rw [he]
  rw [hn, hr]
  exact h.nm.keep (Mod.setCells w g.bs o _) fun e => h.ne e.symm
theorem StA.okHd (h : StA w0 m s g w) {o n : Nat} (hn : o + n ≤ 6) : okCells w g.bs o n := by
  intro i hi
  refine ⟨⟨(g.hd s).2[o + i]'(by simp [SG.hd]; omega), ?_⟩, h.hdBlk.frz _⟩
  rw [h.hdBlk.cell, List.getElem?_eq_getElem]
theorem StA.stHd {s' : Int} {g' : SG} (h : StA w0 m s g w) {o : Nat} {vs : List LV} {K : World → Prop} (hs : spl (g.hd s).2 o (vs.map LV.toV) = (g'.hd s').2) (hbs : g'.bs = g.bs) (hr : g'.r = g.r) (he : g'.ents = g.ents) (hn : o + vs.length ≤ 6)
    (hK : ∀ w', StA w0 m s' g' w' → Mod (fun b => b = g.bs) w w' → K w') : st w g.bs o vs K :=
  ⟨h.okHd hn, hK _ (h.setHd hs hbs hr he) (Mod.setCells ..)⟩
/-- one blob apart -/
theorem StA.focus (h : StA w0 m s g w) {A B : List En} {e : En} (he : g.ents = A ++ e :: B) : At w0 F0 ((((m ++ [g.hd s]) ++ (owns A ++ owns B)) ++ [e.blk]) ++ e.ro) w := by
  refine h.at_.perm ?_
  rw [he, owns_append]
  simp only [owns, List.append_assoc]
  refine List.Perm.append_left _ (List.Perm.append_left _ (List.Perm.append_left _ ?_))
  exact List.perm_append_comm
theorem StA.unfocus (h : StA w0 m s g w) {A B : List En} {e : En} (he : g.ents = A ++ e :: B) {w' : World} {b' : Bl} {sl' : Sl} {ro' : List (Nat × List Value)} (hA : At w0 F0 ((((m ++ [g.hd s]) ++ (owns A ++ owns B)) ++ [(e.bb, b'.cells sl')]) ++ ro') w')
    (hv : VecL ro' EU sl' b'.data) (hk : b'.ok) {D : Nat → Prop} (hM : Mod D w w') (hD : ¬ D g.r) : StA w0 m s { g with ents := A ++ ⟨e.name, e.bb, sl', ro', b'⟩ :: B } w' := by
  refine ⟨hA.perm ?_, ?_, h.old, ?_⟩
  · show List.Perm ((m ++ [g.hd s]) ++ owns (A ++ ⟨e.name, e.bb, sl', ro', b'⟩ :: B)) _
    rw [owns_append]
    simp only [owns, List.append_assoc, En.blk]
    refine List.Perm.append_left _ (List.Perm.append_left _ (List.Perm.append_left _ ?_))
    exact List.perm_append_comm
  · have : ({ g with ents := A ++ ⟨e.name, e.bb, sl', ro', b'⟩ :: B } : SG).names = g.names := by unfold SG.names; rw [he]; simp
    rw [this]
    exact h.nm.keep hM hD
  · intro x hx
    rcases List.mem_append.1 hx with hx | hx
    · exact h.vec x (by rw [he]; exact List.mem_append_left _ hx)
    · rcases List.mem_cons.1 hx with rfl | hx
      · exact ⟨hv, hk⟩
      · exact h.vec x (by rw [he]; exact List.mem_append_right _ (List.mem_cons_of_mem _ hx))
theorem StA.vecOf (h : StA w0 m s g w) {A B : List En} {e : En} (he : g.ents = A ++ e :: B) : VecL e.ro EU e.sl e.bl.data := (h.vec e (by rw [he]; simp)).1
theorem StA.okOf (h : StA w0 m s g w) {A B : List En} {e : En} (he : g.ents = A ++ e :: B) : e.bl.ok := (h.vec e (by rw [he]; simp)).2
theorem StA.blkOf (h : StA w0 m s g w) {A B : List En} {e : En} (he : g.ents = A ++ e :: B) : Blk w e.bb (e.bl.cells e.sl) := (h.focus he).own e.blk (by simp)
theorem StA.rdOf (h : StA w0 m s g w) {A B : List En} {e : En} (he : g.ents = A ++ e :: B) : RdS w EU e.sl e.bl.data := (h.vecOf he).rd fun p hp => (h.focus he).own p (List.mem_append_right _ hp)
theorem StA.ldE (h : StA w0 m s g w) {A B : List En} {e : En} (he : g.ents = A ++ e :: B) {k : Kd} {o : Nat} (x : Den k) {K : Den k → Prop} (hx : (e.bl.cells e.sl)[o]? = some (LV.mk k x).toV) (hK : K x) : Go.Vw.ld w k e.bb o K := ⟨x, by rw [(h.blkOf he).cell]; exact hx, hK⟩
theorem StA.ldDE (h : StA w0 m s g w) {A B : List En} {e : En} (he : g.ents = A ++ e :: B) {k : Kd} {o : Nat} {D : Nat → Prop} (x : Den k) {K : Den k → Prop} (hD : ¬ D e.bb) (hx : (e.bl.cells e.sl)[o]? = some (LV.mk k x).toV) (hK : K x) : Go.Vw.ldD D w k e.bb o K := ⟨x, hD, by rw [(h.blkOf he).cell]; exact hx, hK⟩
theorem StA.bbNe (h : StA w0 m s g w) {A B : List En} {e : En} (he : g.ents = A ++ e :: B) : ¬ Ks e.ro e.bb := (h.focus he).notKs (p := e.blk) (by simp)
theorem StA.bbR (h : StA w0 m s g w) {A B : List En} {e : En} (he : g.ents = A ++ e :: B) : e.bb ≠ g.r := fun x => h.nm.far (x ▸ h.blkOf he)
theorem StA.roR (h : StA w0 m s g w) {A B : List En} {e : En} (he : g.ents = A ++ e :: B) : ¬ Ks e.ro g.r := by
  rintro ⟨p, hp, x⟩; exact h.nm.far (x ▸ (h.focus he).own p (List.mem_append_right _ hp))
theorem StA.drew (h : StA w0 m s g w) : StA w0 m s g w.drew := ⟨h.at_.drew, h.nm.keep (Mod.drew F0 w) id, h.old, h.vec⟩
/-- what the caller holds beside -/
theorem StA.side (h : StA w0 m s g w) : At w0 F0 m w := h.at_.sub ((List.sublist_append_left m [g.hd s]).trans (List.sublist_append_left _ _))
/-- a blob's cells are written -/
theorem StA.stE (h : StA w0 m s g w) {A B : List En} {e : En} (he : g.ents = A ++ e :: B) {o : Nat} {vs : List LV} {b' : Bl} {sl' : Sl} (hs : spl (e.bl.cells e.sl) o (vs.map LV.toV) = b'.cells sl') (hv : VecL e.ro EU sl' b'.data) (hk : b'.ok) (hn : o + vs.length ≤ 5) {K : World → Prop}
    (hK : ∀ w', StA w0 m s { g with ents := A ++ ⟨e.name, e.bb, sl', e.ro, b'⟩ :: B } w' → Mod (fun b => b = e.bb) w w' → K w') : st w e.bb o vs K := by
  have hb := h.blkOf he
  refine ⟨fun i hi => ⟨⟨(e.bl.cells e.sl)[o + i]'(by simp [Bl.cells]; omega), by rw [hb.cell, List.getElem?_eq_getElem]⟩, hb.frz _⟩, ?_⟩
  refine hK _ (h.unfocus he ?_ hv hk (Mod.setCells ..) fun x => h.bbR he x.symm) (Mod.setCells ..)
  have h1 := (h.focus he).perm (perm_mid _ _ _).symm
  have h2 : At w0 F0 ((((m ++ [g.hd s]) ++ (owns A ++ owns B)) ++ e.ro) ++ [(e.bb, e.bl.cells e.sl)]) w := h1
  have h3 := At.setLast h2 o (vs.map LV.toV)
  rw [hs] at h3
  exact h3.perm (perm_mid _ _ _)
/-- a blob's cells are written, its bytes' block has been turned -/
theorem StA.stA (h : StA w0 m s g w) {A B : List En} {e : En} (he : g.ents = A ++ e :: B) {w2 : World} {ro' : List (Nat × List Value)} (hA : At w0 F0 ((((m ++ [g.hd s]) ++ (owns A ++ owns B)) ++ [e.blk]) ++ ro') w2) (hM : Mod (Ks e.ro) w w2)
    {o : Nat} {vs : List LV} {b' : Bl} {sl' : Sl} (hs : spl (e.bl.cells e.sl) o (vs.map LV.toV) = b'.cells sl') (hv : VecL ro' EU sl' b'.data) (hk : b'.ok) (hn : o + vs.length ≤ 5) {K : World → Prop}
    (hK : ∀ w', StA w0 m s { g with ents := A ++ ⟨e.name, e.bb, sl', ro', b'⟩ :: B } w' → Mod (fun b => b = e.bb ∨ Ks e.ro b) w w' → K w') : st w2 e.bb o vs K := by
  have hb : Blk w2 e.bb (e.bl.cells e.sl) := hA.own e.blk (by simp)
  have hM' : Mod (fun b => b = e.bb ∨ Ks e.ro b) w (World.setCells w2 e.bb o (vs.map LV.toV)) := hM.trans (Mod.setCells ..) (fun _ _ h => .inr h) fun _ _ h => .inl h
  refine ⟨fun i hi => ⟨⟨(e.bl.cells e.sl)[o + i]'(by simp [Bl.cells]; omega), by rw [hb.cell, List.getElem?_eq_getElem]⟩, hb.frz _⟩, ?_⟩
  refine hK _ (h.unfocus he ?_ hv hk hM' fun x => ?_) hM'
  · have h1 := hA.perm (perm_mid _ _ _).symm
    have h2 : At w0 F0 ((((m ++ [g.hd s]) ++ (owns A ++ owns B)) ++ ro') ++ [(e.bb, e.bl.cells e.sl)]) w2 := h1
    have h3 := At.setLast h2 o (vs.map LV.toV)
    rw [hs] at h3
    exact h3.perm (perm_mid _ _ _)
  · rcases x with x | x
    · exact h.bbR he x.symm
    · exact h.roR he x
/-- behind the last blob's words: a blob is added -/
theorem StA.addE (h : StA w0 m s g w) {n : Str} {b : Nat} {w' w'' : World} (hA : At w0 F0 (((m ++ [g.hd s]) ++ owns g.ents) ++ [(b, Bl.new.cells ⟨none, 0, 0⟩)]) w') (hM : Mod F0 w w') (hN : Names w'' g.r (g.names ++ [(n, b)])) (hM2 : Mod (fun k => k = g.r) w' w'') : StA w0 m s { g with ents := g.ents ++ [⟨n, b, ⟨none, 0, 0⟩, [], Bl.new⟩] } w'' := by
  refine ⟨?_, ?_, h.old, ?_⟩
  · show At w0 F0 ((m ++ [g.hd s]) ++ owns (g.ents ++ [⟨n, b, ⟨none, 0, 0⟩, [], Bl.new⟩])) w''
    rw [owns_append, ← List.append_assoc]
    simp only [owns, En.blk, List.append_nil]
    refine hA.keep hM2 (fun x hx e => ?_) fun p hp e => ?_
    · subst e; exact absurd h.old (by omega)
    · obtain ⟨es, c, h1, _⟩ := hN
      obtain ⟨es', c', h1', _⟩ := h.nm.keep hM id
      exact far_cell h1' rfl (e ▸ hA.own p hp)
  · have : ({ g with ents := g.ents ++ [⟨n, b, ⟨none, 0, 0⟩, [], Bl.new⟩] } : SG).names = g.names ++ [(n, b)] := by unfold SG.names; simp
    rw [this]; exact hN
  · intro x hx
    rcases List.mem_append.1 hx with hx | hx
    · exact h.vec x hx
    · simp at hx; subst hx; exact ⟨VecL.nil EU, Bl.new_ok⟩
end
/-! ### what the store is, plainly -/
def getA (n : Str) : Abs → Option Bl
  | [] => none
  | x :: r => if n = x.1 then some x.2 else getA n r
def putA (n : Str) (b : Bl) : Abs → Abs
  | [] => []
  | x :: r => if n = x.1 then (x.1, b) :: r else x :: putA n b r
def delA (n : Str) : Abs → Abs
  | [] => []
  | x :: r => if n = x.1 then r else x :: delA n r
theorem putA_mid {n : Str} {b b0 : Bl} : ∀ {A B : Abs}, (∀ x ∈ A, x.1 ≠ n) → putA n b (A ++ (n, b0) :: B) = A ++ (n, b) :: B
  | [], B, _ => by simp [putA]
  | x :: A, B, h => by
    have h1 := h x (by simp)
    rw [List.cons_append, putA, if_neg (Ne.symm h1), putA_mid fun y hy => h y (List.mem_cons_of_mem _ hy)]; rfl
theorem delA_mid {n : Str} {b0 : Bl} : ∀ {A B : Abs}, (∀ x ∈ A, x.1 ≠ n) → delA n (A ++ (n, b0) :: B) = A ++ B
  | [], B, _ => by simp [delA]
  | x :: A, B, h => by
    have h1 := h x (by simp)
    rw [List.cons_append, delA, if_neg (Ne.symm h1), delA_mid fun y hy => h y (List.mem_cons_of_mem _ hy)]; rfl
theorem getA_mid {n : Str} {b0 : Bl} : ∀ {A B : Abs}, (∀ x ∈ A, x.1 ≠ n) → getA n (A ++ (n, b0) :: B) = some b0
  | [], B, _ => by simp [getA]
  | x :: A, B, h => by
    have h1 := h x (by simp)
    rw [List.cons_append, getA, if_neg (Ne.symm h1), getA_mid fun y hy => h y (List.mem_cons_of_mem _ hy)]
theorem getA_none {n : Str} : ∀ {A : Abs}, (∀ x ∈ A, x.1 ≠ n) → getA n A = none
  | [], _ => rfl
  | x :: A, h => by
    have h1 := h x (by simp)
    rw [getA, if_neg (Ne.symm h1), getA_none fun y hy => h y (List.mem_cons_of_mem _ hy)]
/-- may a byte stand in a name? -/
def goodP (x : Int) : Prop := (97 ≤ x ∧ x ≤ 122) ∨ (48 ≤ x ∧ x ≤ 57) ∨ x = 46 ∨ x = 45
instance (x : Int) : Decidable (goodP x) := by unfold goodP; infer_instance
def goodN (n : Str) : Bool := decide (1 ≤ n.length) && decide (n.length ≤ 40) && n.all fun c => decide (goodP c.toNat)
/-- a blob, or why there is none -/
def askA (n : Str) (a : Abs) : Int × Option Bl := if goodN n = false then (50, none) else match getA n a with
  | none => (52, none)
  | some b => (0, some b)
end Go.Proofs.Ytjldecomhpngmaa
