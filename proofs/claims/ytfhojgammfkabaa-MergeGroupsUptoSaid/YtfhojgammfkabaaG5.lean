/- MergeGroups, walked. -/
import Derived.Test.YtfhojgammfkabaaG4
namespace Go.Proofs.Ytfhojgammfkabaa
open Go.Vw

abbrev markedT : Str := [109, 97, 114, 107, 101, 100]
/-- what a round has kept -/
def GV (ps : List (Str × Str)) (r : Nat) (its : List It) (c : Nat) : Prop := its.length = c ∧ (if r = 1 then ∀ v ∈ its.map It.vals, ∃ n, n ≤ 1048576 ∧ v = List.replicate n markedT else its.map It.vals = ((grp ps).take c).map (·.2))
theorem GV.nil (ps : List (Str × Str)) (r : Nat) : GV ps r [] 0 := by
  refine ⟨rfl, ?_⟩
  split <;> simp
theorem GV.add {ps : List (Str × Str)} {r : Nat} {its : List It} {c : Nat} (hr : r ≠ 1) (h : GV ps r its c) {it : It} {k : Str} {vs : List Str} (hg : (grp ps)[c]? = some (k, vs)) (hv : it.vals = vs) : GV ps r (its ++ [it]) (c + 1) := by
  obtain ⟨h1, h2⟩ := h
  rw [if_neg hr] at h2
  refine ⟨by simp [h1], ?_⟩
  rw [if_neg hr, List.map_append, h2, List.take_add_one, hg]
  simp [hv]
theorem GV.add1 {ps : List (Str × Str)} {its : List It} {c : Nat} (h : GV ps 1 its c) {it : It} {n : Nat} (hn : n ≤ 1048576) (hv : it.vals = List.replicate n markedT) : GV ps 1 (its ++ [it]) (c + 1) := by
  obtain ⟨h1, h2⟩ := h
  rw [if_pos rfl] at h2
  refine ⟨by simp [h1], ?_⟩
  rw [if_pos rfl]
  intro v hm
  rw [List.map_append, List.mem_append] at hm
  rcases hm with hm | hm
  · exact h2 v hm
  · simp at hm; subst hm; exact ⟨n, hn, hv⟩
theorem ldLast' {w0 w : World} {D : Nat → Prop} {m : List (Nat × List Value)} {b : Nat} {c : List Value} (h : At w0 D (m ++ [(b, c)]) w) {k : Kd} {o : Nat} (x : Den k) {K : Den k → Prop} (hx : c[o]? = some (LV.mk k x).toV) (hK : K x) : Go.Vw.ld w k b o K :=
  h.ld m.length x (by simp) hx hK
theorem groups_walk {w : World} {pr : Sl} {ps : List (Str × Str)} (hp : RdS w EPr pr ps) (hlt : ∀ b, rk pr b → b < w.heap.size) (hpl : ps.length ≤ 1048000) (most : Int)
    {K : Bool → World → Prop} (hK : ∀ w', Mod (fun _ => False) w w' → K true w') : callK Try.prog 3 [.leaf (.sl pr), .leaf (.int .i64 most)] w (.one (.leaf .bool)) K := by
  refine go_winnowlaw11_MergeGroups _ _ _ _ ?_
  unfold S_winnowlaw11_MergeGroups
  refine (At.init w fun _ => False).alK fun b3 w4 _ h4 _ => h4.alK fun b5 w6 _ h6 _ => h6.alK fun b7 w8 _ h8 _ => ?_
  have h8 : At w (fun _ => False) [(b3, [.int .i64 most]), (b5, [.bool false]), (b7, prC pr 0 0)] w8 := h8
  have hp8 := hp.keep h8.mod fun _ _ => id
  refine ref_groups hp8 (by omega) fun a9 gi ro9 w10 hA9 hv9 hg9 hok9 => ?_
  generalize hN : (grp ps).length = N
  have hNl : N ≤ 1048000 := by rw [← hN]; have := (grp_len ps).1; omega
  have hgil : gi.length = N := by rw [← hN, ← hg9]; simp
  have hal9 : a9.len = N := by rw [hv9.1]; simp [hgil]
  let D : Nat → Prop := fun b => b = b3 ∨ b = b5 ∨ b = b7
  have k3 : b3 < w8.heap.size := (h8.blk (i := 0) rfl).lt
  have k5 : b5 < w8.heap.size := (h8.blk (i := 1) rfl).lt
  have k7 : b7 < w8.heap.size := (h8.blk (i := 2) rfl).lt
  have w3 : w.heap.size ≤ b3 := Nat.not_lt.1 fun h => h8.wr (b3, _) (by simp; exact .inl rfl) h
  have w5 : w.heap.size ≤ b5 := Nat.not_lt.1 fun h => h8.wr (b5, [.bool false]) (by simp) h
  have w7 : w.heap.size ≤ b7 := Nat.not_lt.1 fun h => h8.wr (b7, prC pr 0 0) (by simp) h
  have hD8 : ∀ b, w8.heap.size ≤ b → ¬ D b := fun b hb hd => by rcases hd with rfl | rfl | rfl <;> omega
  have hDw : ∀ b, b < w.heap.size → ¬ D b := fun b hb hd => by rcases hd with rfl | rfl | rfl <;> omega
  -- what is wanted stays as it is
  have hge9 : ∀ p ∈ gi.map GI.blk ++ ro9, w8.heap.size ≤ p.1 := fun p hp => Nat.not_lt.1 fun h => hA9.wr p hp h
  have hgr : ∀ {w' : World}, Mod D w10 w' → RdS w' EGr a9 (gi.map GI.el) := fun hM => (VecE.of_at hA9 hv9).rd.keep hM fun b hb => by
    obtain ⟨q, hq, e⟩ := hv9.key hb.2
    exact hD8 b (by rw [← e]; exact hge9 q (List.mem_append_right _ hq))
  have hgv : ∀ {w' : World}, Mod D w10 w' → ∀ g ∈ gi, RdS w' EStr g.2.sl g.2.vals := fun {w'} hM g hg => (It.rd (hok9 g hg) (hA9.own g.blk (List.mem_append_left _ (List.mem_map_of_mem hg)))).keep hM fun b hb => by
    obtain ⟨_, o, e⟩ := hb
    have : b = g.2.b := by simp [It.sl] at e; exact e.1.symm
    subst this
    exact hD8 _ (hge9 g.blk (List.mem_append_left _ (List.mem_map_of_mem hg)))
  have hpr : ∀ w', Mod D w10 w' → RdS w' EPr pr ps := fun w' hM => ((hp8.keep hA9.mod fun _ _ => id).keep hM fun b hb => hDw b (hlt b hb))
  have hgc : ∀ {c : Nat} {k : Str} {vs : List Str}, (grp ps)[c]? = some (k, vs) → ∃ g, gi[c]? = some g ∧ g.1 = k ∧ g.2.vals = vs ∧ g ∈ gi := fun {c k vs} h => by
    rw [← hg9, List.getElem?_map] at h
    cases hc : gi[c]? with
    | none => rw [hc] at h; cases h
    | some g =>
      rw [hc] at h
      simp only [Option.map_some, Option.some.injEq] at h
      have h1 : g.1 = k := congrArg Prod.fst h
      have h2 : g.2.vals = vs := congrArg Prod.snd h
      exact ⟨g, rfl, h1, h2, List.mem_of_getElem? hc⟩
  have hvl : ∀ {c : Nat} {k : Str} {vs : List Str}, (grp ps)[c]? = some (k, vs) → vs ≠ [] ∧ vs.length ≤ 1048000 := fun {c k vs} h => by
    obtain ⟨h1, h2⟩ := (grp_len ps).2 _ (List.mem_of_getElem? h)
    exact ⟨h1, by simp only at h2; omega⟩
  have hcN : ∀ {c : Nat} {x : Str × List Str}, (grp ps)[c]? = some x → c < N := fun h => by rw [← hN]; exact (List.getElem?_eq_some_iff.1 h).1
  have b3k : Blk w10 b3 [.int .i64 most] := hA9.mod.blk (h8.blk (i := 0) rfl) id
  have b5k : Blk w10 b5 [.bool false] := hA9.mod.blk (h8.blk (i := 1) rfl) id
  have b7k : Blk w10 b7 (prC pr 0 0) := hA9.mod.blk (h8.blk (i := 2) rfl) id
  have n35 : b3 ≠ b5 := h8.ne (i := 0) (j := 1) rfl rfl (by decide)
  have n37 : b3 ≠ b7 := h8.ne (i := 0) (j := 2) rfl rfl (by decide)
  have n57 : b5 ≠ b7 := h8.ne (i := 1) (j := 2) rfl rfl (by decide)
  have f0 : FA w10 D [] [(b7, prC pr 0 0), (b3, [.int .i64 most]), (b5, [.bool false])] w10 := by
    have e1 := (At.init w10 D).add b7k (by simp) fun _ => .inr (.inr rfl)
    have e2 := e1.add b3k (by simp; exact fun h => n37 h.symm) fun _ => .inl rfl
    have e3 := e2.add b5k (by simp; exact ⟨fun h => n57 h.symm, n35⟩) fun _ => .inr (.inl rfl)
    exact ⟨e3, by simp, by simp, by simp⟩
  refine f0.rest.alK fun b11 w12 _ hA12 _ => ?_
  have hA12 : At w10 (Ks [(b7, prC pr 0 0), (b3, [.int .i64 most]), (b5, [.bool false])]) [(b7, prC pr 0 0), (b3, [.int .i64 most]), (b5, [.bool false]), (b11, [(LV.sl ⟨none, 0, 0⟩).toV])] w12 := hA12
  refine hA12.st 3 rfl (Nat.le_refl 1) fun w13 hA13 _ => ?_
  have f13 : FA w10 D [] [(b7, prC pr 0 0), (b3, [.int .i64 most]), (b5, [.bool false]), (b11, [(LV.sl a9).toV])] w13 := f0.law hA13
  refine go_merge_Groups _ _ _ ?_
  unfold S_merge_Groups
  refine ⟨fun x hx => by simp at hx; subst hx; rfl, ?_⟩
  refine f13.rest.alK fun b2 w14 _ hA14 _ => ?_
  have f14 : FA w10 D [] [(b7, prC pr 0 0), (b3, [.int .i64 most]), (b5, [.bool false]), (b11, [(LV.sl a9).toV]), (b2, [allV b7])] w14 := f13.law hA14
  refine go_merge_Groups _ _ _ ?_
  unfold S_merge_Groups
  refine ⟨fun x hx => by simp at hx; subst hx; rfl, ?_⟩
  refine f14.rest.alK fun bn w15 _ hA15 _ => ?_
  have f15 : FA w10 D [] [(b7, prC pr 0 0), (b3, [.int .i64 most]), (b5, [.bool false]), (b11, [(LV.sl a9).toV]), (b2, [allV b7]), (bn, [.nilFunc])] w15 := f14.law hA15
  refine join1 (a := .bool) (fun b w' => b = false ∧ w' = w15) (fun k hk => ?_) ?_
  · exact .inr ⟨_, _, _, rfl, ifK_f rfl (.inr ⟨_, _, _, rfl, ifK_f rfl (dr_some (f15.rest.ld 0 (k := .int .i64) 0 rfl rfl (hk _ _ ⟨rfl, rfl⟩)))⟩)⟩
  rintro _ w25 ⟨rfl, hw25⟩
  rw [hw25]
  refine ifK_f rfl ?_
  refine f15.rest.alK fun b28 w29 _ hA29 _ => hA29.alK fun b30 w31 _ hA31 _ => hA31.alK fun b32 w33 _ hA33 _ => hA33.alK fun b34 w35 _ hA35 _ => ?_
  let C (s1 s2 s3 : Sl) : List (Nat × List Value) := [(b3, [.int .i64 most]), (b5, [.bool false]), (b11, [(LV.sl a9).toV]), (b2, [allV b7]), (bn, [.nilFunc]), (b28, [(LV.sl s1).toV]), (b30, [(LV.sl s2).toV]), (b32, [(LV.sl s3).toV])]
  have hA35 : At w15 (Ks [(b7, prC pr 0 0), (b3, [.int .i64 most]), (b5, [.bool false]), (b11, [(LV.sl a9).toV]), (b2, [allV b7]), (bn, [.nilFunc])]) ((b7, prC pr 0 0) :: (C ⟨none, 0, 0⟩ ⟨none, 0, 0⟩ ⟨none, 0, 0⟩ ++ [(b34, [.int .i64 0])])) w35 := hA35
  refine hA35.st 9 rfl (Nat.le_refl 1) fun w36 hA36 _ => ?_
  have f36 : FA w10 D [] ((b7, prC pr 0 0) :: (C ⟨none, 0, 0⟩ ⟨none, 0, 0⟩ ⟨none, 0, 0⟩ ++ [(b34, [.int .i64 0])])) w36 := f15.law hA36
  let Xm (ms : List Nat) : List (Nat × Obj) := ms.map fun r => (r, Mk)
  let Top (r : Nat) (rb : Nat) (ms : List Nat) (w' : World) : Prop := ∃ s1 s2 s3 P1 P2 P3 i1 i2 i3 gv, FA w10 D (Xm ms) (((C s1 s2 s3 ++ [(rb, [.int .i64 (r : Nat)])]) ++ (P1 ++ (P2 ++ P3))) ++ [(b7, prC pr (r : Nat) gv)]) w' ∧ Bag s1 P1 i1 ∧ Bag s2 P2 i2 ∧ Bag s3 P3 i3 ∧
    GV ps 0 i1 (if r = 0 then 0 else N) ∧ (∃ c, GV ps 1 i2 c ∧ c ≤ N ∧ (r ≤ 1 → c = 0)) ∧ GV ps 2 i3 (if r ≤ 2 then 0 else N)
  refine join1 (a := .marks) (fun ms w' => ∃ rb, Top 3 rb ms w') (fun k37 hk37 => ?_) ?_
  · refine loop2 (k1 := .adr) (k2 := .marks) (fun ra ms w' => ∃ (r rb : Nat), ra = (rb, 0) ∧ r ≤ 3 ∧ Top r rb ms w') (fun ra _ w' => match w'.cell? ⟨ra.1, 0, none⟩ with | some (.int _ n) => (3 - n).toNat | _ => 0) rfl rfl ⟨0, b34, rfl, by omega, ⟨none, 0, 0⟩, ⟨none, 0, 0⟩, ⟨none, 0, 0⟩, [], [], [], [], [], [], 0, ?_, Bag.nil, Bag.nil, Bag.nil, GV.nil _ _, ⟨0, GV.nil _ _, Nat.zero_le _, fun _ => rfl⟩, GV.nil _ _⟩ ?_
    · refine f36.perm ?_
      simp only [List.append_nil]
      exact List.perm_append_comm (l₂ := [(b7, prC pr 0 0)])
    rintro _ ms w41 ⟨r, rb, rfl, hr3, s1, s2, s3, P1, P2, P3, i1, i2, i3, gv, hF, hb1, hb2, hb3, hg1, ⟨c2, hg2, hc2, hc20⟩, hg3⟩
    have hrc : w41.cell? ⟨rb, 0, none⟩ = some (.int .i64 (r : Nat)) := ((hF.at_.own (rb, [.int .i64 (r : Nat)]) (by simp [C])).cell 0).trans rfl
    refine hF.rest.ld 8 (k := .int .i64) ((r : Nat) : Int) rfl rfl (ifK_intro (fun hlt3 => ?_) (fun hlt3 => ?_))
    rotate_left
    · have : r = 3 := by have : ¬ ((r : Nat) : Int) < 3 := by simpa using hlt3
                         omega
      subst this
      exact hk37 _ _ ⟨rb, s1, s2, s3, P1, P2, P3, i1, i2, i3, gv, hF, hb1, hb2, hb3, hg1, ⟨c2, hg2, hc2, hc20⟩, hg3⟩
    have hr : r < 3 := by have : ((r : Nat) : Int) < 3 := by simpa using hlt3
                          omega
    refine hF.rest.alK fun b43 w44 _ hA44 _ => ?_
    refine At.last hA44 (Nat.le_refl 1) fun w45 hA45 => ?_
    have f45 := hF.law hA45
    -- the round, and what it leaves
    refine join1 (a := .marks) (fun ms' w' => ∃ s1 s2 s3 P1 P2 P3 i1 i2 i3 gv c, FA w10 D (Xm ms') (((C s1 s2 s3 ++ [(rb, [.int .i64 (r : Nat)]), (b43, [.int .i64 (c : Nat)])]) ++ (P1 ++ (P2 ++ P3))) ++ [(b7, prC pr ((r + 1 : Nat) : Int) gv)]) w' ∧ Bag s1 P1 i1 ∧ Bag s2 P2 i2 ∧ Bag s3 P3 i3 ∧
      GV ps 0 i1 N ∧ (∃ c, GV ps 1 i2 c ∧ c ≤ N ∧ (r = 0 → c = 0)) ∧ GV ps 2 i3 (if r < 2 then 0 else N) ∧ (c = N ∨ (r = 1 ∧ (c : Int) = most))) (fun k46 hk46 => ?_) ?_
    · have hrr : r = 0 ∨ r = 1 ∨ r = 2 := by omega
      rcases hrr with rfl | rfl | rfl
      · -- round 0
        let C9 (s : Sl) (c : Nat) : List (Nat × List Value) := C s s2 s3 ++ [(rb, [.int .i64 (0 : Nat)]), (b43, [.int .i64 (c : Nat)])]
        have f45' : FA w10 D (Xm ms) ((C9 s1 0 ++ ((P2 ++ P3) ++ P1)) ++ [(b7, prC pr ((0 : Nat) : Int) gv)]) w45 := by
          refine f45.perm ?_
          have e : C9 s1 0 = (C s1 s2 s3 ++ [(rb, [.int .i64 (0 : Nat)])]) ++ [(b43, [.int .i64 ((0 : Nat) : Int)])] := by simp [C9]
          rw [e]
          exact perm_in _ _ _ (List.perm_append_comm)
        have gN : GV ps 0 i1 0 := by simpa using hg1
        refine range_groups (b2 := b2) (bgn := ((0 + 1 : Nat) : Int)) (Inv := fun ro c => ∃ s P its, ro = C9 s c ++ ((P2 ++ P3) ++ P) ∧ Bag s P its ∧ GV ps 0 its c ∧ c ≤ N) (Stop := fun ro c => 0 = 1 ∧ (c : Int) = most ∧ ∃ s P its, ro = C9 s c ++ ((P2 ++ P3) ++ P) ∧ Bag s P its ∧ GV ps 0 its c ∧ c ≤ N) hpr (by omega) (fun ro c hI => by obtain ⟨s, P, its, rfl, _⟩ := hI; simp [C9, C]) (by rw [w64_in (by decide) (by decide)]; rfl) f45' ⟨s1, P1, i1, rfl, hb1, gN, Nat.zero_le _⟩ ?_ ?_ ?_
        · intro l Xr Xb Z ro rl k sl vs c w' beg next leave hF hv hne hInv hgcc hbeg hnext hleave
          obtain ⟨s, P, its, rfl, hbag, hgv', hcN'⟩ := hInv
          obtain ⟨g, hg1', hgk, hgvs, hgm⟩ := hgc hgcc
          obtain ⟨_, hvsl⟩ := hvl hgcc
          have hclt := hcN hgcc
          refine hbeg _ fun w57 h57 => ?_
          have hrd57 := hgr h57.at_.mod
          have hel : (gi.map GI.el)[c]? = some (k, g.2.sl) := by rw [List.getElem?_map, hg1', ← hgk]; rfl
          refine join1 (a := .bool) (fun b w' => b = false ∧ FA w10 D Xb ((((C9 s c ++ ((P2 ++ P3) ++ P)) ++ Z)) ++ rl) w') (fun k58 hk58 => ?_) ?_
          · refine h57.rest.ld 9 (k := .int .i64) ((c : Nat) : Int) rfl rfl (h57.rest.ld 2 (k := .sl) a9 rfl rfl (ifK_f (by rw [hal9]; simp; omega) ?_))
            refine h57.rest.ld 2 (k := .sl) a9 rfl rfl (h57.rest.ld 9 (k := .int .i64) ((c : Nat) : Int) rfl rfl ?_)
            refine hrd57.ix rfl rfl hel fun b o _ hc => ld_cell (k := .str) k (hc 0 (by decide)) (ifK_f (by simp) ?_)
            refine h57.rest.ld 2 (k := .sl) a9 rfl rfl (h57.rest.ld 9 (k := .int .i64) ((c : Nat) : Int) rfl rfl ?_)
            refine hrd57.ix rfl rfl hel fun b o _ hc => ld_cell (k := .sl) g.2.sl (hc 1 (by decide)) ?_
            have hr1 : RdS w57 EStr sl vs := (hv.vec fun p hp => h57.at_.own p (List.mem_append_right _ hp)).rd
            have hr2 : RdS w57 EStr g.2.sl vs := by rw [← hgvs]; exact hgv h57.at_.mod g hgm
            exact sameTexts_ok hr1 hr2 (by omega) fun w72 M72 => hk58 _ _ ⟨rfl, h57.calm M72⟩
          rintro _ w74 ⟨rfl, h74⟩
          refine ifK_f rfl ?_
          refine h74.rest.ld 8 (k := .int .i64) ((0 : Nat) : Int) rfl rfl ?_
          refine join0 (fun w' => ∃ s' P' its', FA w10 D Xb ((C9 s' c ++ ((P2 ++ P3) ++ P')) ++ Z) w' ∧ Bag s' P' its' ∧ GV ps 0 its' (c + 1)) (fun k77 hk77 => ?_) ?_
          · have hitl : its.length ≤ 1048576 := by rw [hgv'.1]; omega
            have h74' : FA w10 D Xb ((((C9 s c ++ (P2 ++ P3)) ++ Z) ++ P) ++ rl) w74 := h74.perm ((perm_z _ _ _ _).symm.append_right rl)
            refine ifK_t rfl ?_
            refine h74'.rest.ld 5 (k := .sl) s rfl rfl ?_
            refine bag_add h74'.rest hbag hv hne hitl fun s' P' it w82 hA82 hb82 hit => ?_
            refine hA82.st 5 rfl (Nat.le_refl 1) fun w83 hA83 _ => hk77 _ ⟨s', P', its ++ [it], ?_, hb82, GV.add (by decide) hgv' hgcc hit⟩
            exact (h74'.law (m' := (((C9 s' c ++ (P2 ++ P3)) ++ Z) ++ P')) hA83).perm (perm_z _ _ _ _)
          rintro w106 ⟨s', P', its', h106, hbag', hgv''⟩
          refine h106.rest.ld 9 (k := .int .i64) ((c : Nat) : Int) rfl rfl (h106.rest.st 9 rfl (Nat.le_refl 1) fun w108 hA108 _ => ?_)
          rw [set_step (by omega)] at hA108
          have h108 : FA w10 D Xb ((C9 s' (c + 1) ++ ((P2 ++ P3) ++ P')) ++ Z) w108 := h106.law hA108
          refine join1 (a := .bool) (fun b w' => w' = w108 ∧ b = (decide (0 = 1) && decide (((c + 1 : Nat) : Int) = most))) (fun k109 hk109 => ?_) ?_
          · refine h108.rest.ld 8 (k := .int .i64) ((0 : Nat) : Int) rfl rfl (ifK_f rfl (hk109 _ _ ⟨rfl, rfl⟩))
          rintro _ w114 ⟨hw114, rfl⟩
          rw [hw114]
          refine ifK_intro (fun hst => hleave _ _ h108 ?_) (fun _ => hnext _ _ h108 ⟨s', P', its', rfl, hbag', hgv'', hclt⟩)
          exact absurd hst (by simp)
        · rintro ro gv' u hFu ⟨s, P, its, rfl, hbag, hgv', hcN'⟩
          rw [hN] at hFu hgv'
          refine hk46 _ _ ⟨s, s2, s3, P, P2, P3, its, i2, i3, gv', N, ?_, hbag, hb2, hb3, hgv', ⟨c2, hg2, hc2, fun _ => hc20 (by omega)⟩, by simpa using hg3, .inl rfl⟩
          refine hFu.perm ?_
          exact (((List.perm_append_comm (l₁ := P) (l₂ := P2 ++ P3))).append_left _).append_right _
        · rintro ro gv' c u hFu ⟨h1, hm, s, P, its, rfl, hbag, hgv', hcN'⟩
          exact absurd h1 (by decide)
      · -- round 1
        let C9 (s : Sl) (c : Nat) : List (Nat × List Value) := C s1 s s3 ++ [(rb, [.int .i64 (1 : Nat)]), (b43, [.int .i64 (c : Nat)])]
        have f45' : FA w10 D (Xm ms) ((C9 s2 0 ++ ((P1 ++ P3) ++ P2)) ++ [(b7, prC pr ((1 : Nat) : Int) gv)]) w45 := by
          refine f45.perm ?_
          have e : C9 s2 0 = (C s1 s2 s3 ++ [(rb, [.int .i64 (1 : Nat)])]) ++ [(b43, [.int .i64 ((0 : Nat) : Int)])] := by simp [C9]
          rw [e]
          exact perm_in _ _ _ ((List.append_assoc P1 P3 P2) ▸ (List.perm_append_comm.append_left P1))
        have gN : GV ps 1 i2 0 := (hc20 (by omega)) ▸ hg2
        refine range_groups (b2 := b2) (bgn := ((1 + 1 : Nat) : Int)) (Inv := fun ro c => ∃ s P its, ro = C9 s c ++ ((P1 ++ P3) ++ P) ∧ Bag s P its ∧ GV ps 1 its c ∧ c ≤ N) (Stop := fun ro c => 1 = 1 ∧ (c : Int) = most ∧ ∃ s P its, ro = C9 s c ++ ((P1 ++ P3) ++ P) ∧ Bag s P its ∧ GV ps 1 its c ∧ c ≤ N) hpr (by omega) (fun ro c hI => by obtain ⟨s, P, its, rfl, _⟩ := hI; simp [C9, C]) (by rw [w64_in (by decide) (by decide)]; rfl) f45' ⟨s2, P2, i2, rfl, hb2, gN, Nat.zero_le _⟩ ?_ ?_ ?_
        · intro l Xr Xb Z ro rl k sl vs c w' beg next leave hF hv hne hInv hgcc hbeg hnext hleave
          obtain ⟨s, P, its, rfl, hbag, hgv', hcN'⟩ := hInv
          obtain ⟨g, hg1', hgk, hgvs, hgm⟩ := hgc hgcc
          obtain ⟨_, hvsl⟩ := hvl hgcc
          have hclt := hcN hgcc
          refine hbeg _ fun w57 h57 => ?_
          have hrd57 := hgr h57.at_.mod
          have hel : (gi.map GI.el)[c]? = some (k, g.2.sl) := by rw [List.getElem?_map, hg1', ← hgk]; rfl
          refine join1 (a := .bool) (fun b w' => b = false ∧ FA w10 D Xb ((((C9 s c ++ ((P1 ++ P3) ++ P)) ++ Z)) ++ rl) w') (fun k58 hk58 => ?_) ?_
          · refine h57.rest.ld 9 (k := .int .i64) ((c : Nat) : Int) rfl rfl (h57.rest.ld 2 (k := .sl) a9 rfl rfl (ifK_f (by rw [hal9]; simp; omega) ?_))
            refine h57.rest.ld 2 (k := .sl) a9 rfl rfl (h57.rest.ld 9 (k := .int .i64) ((c : Nat) : Int) rfl rfl ?_)
            refine hrd57.ix rfl rfl hel fun b o _ hc => ld_cell (k := .str) k (hc 0 (by decide)) (ifK_f (by simp) ?_)
            refine h57.rest.ld 2 (k := .sl) a9 rfl rfl (h57.rest.ld 9 (k := .int .i64) ((c : Nat) : Int) rfl rfl ?_)
            refine hrd57.ix rfl rfl hel fun b o _ hc => ld_cell (k := .sl) g.2.sl (hc 1 (by decide)) ?_
            have hr1 : RdS w57 EStr sl vs := (hv.vec fun p hp => h57.at_.own p (List.mem_append_right _ hp)).rd
            have hr2 : RdS w57 EStr g.2.sl vs := by rw [← hgvs]; exact hgv h57.at_.mod g hgm
            exact sameTexts_ok hr1 hr2 (by omega) fun w72 M72 => hk58 _ _ ⟨rfl, h57.calm M72⟩
          rintro _ w74 ⟨rfl, h74⟩
          refine ifK_f rfl ?_
          refine h74.rest.ld 8 (k := .int .i64) ((1 : Nat) : Int) rfl rfl ?_
          refine join0 (fun w' => ∃ s' P' its', FA w10 D Xb ((C9 s' c ++ ((P1 ++ P3) ++ P')) ++ Z) w' ∧ Bag s' P' its' ∧ GV ps 1 its' (c + 1)) (fun k77 hk77 => ?_) ?_
          · have hitl : its.length ≤ 1048576 := by rw [hgv'.1]; omega
            have h74' : FA w10 D Xb ((((C9 s c ++ (P1 ++ P3)) ++ Z) ++ P) ++ rl) w74 := h74.perm ((perm_z _ _ _ _).symm.append_right rl)
            refine ifK_f rfl (join0 (fun w' => ∃ s' P' its', FA w10 D Xb ((C9 s' c ++ ((P1 ++ P3) ++ P')) ++ Z) w' ∧ Bag s' P' its' ∧ GV ps 1 its' (c + 1)) (fun k84 hk84 => ?_) fun w' h' => hk77 w' h')
            refine ifK_t rfl ?_
            obtain ⟨it, io, iv, isl, rfl⟩ := item_of hv hne
            generalize hM : (((C9 s c ++ (P1 ++ P3)) ++ Z) ++ P) = M at h74'
            have one : ∀ (b : Nat) (it : It), it.sl = sl → VecE [(b, [(LV.sl sl).toV])] ESl ⟨some (b, 0), 1, 1⟩ ([it].map It.sl) := fun b it e => ⟨rfl, .inr ⟨b, [], by simp [Enc.cells, ESl, e], rfl, by simp [Enc.cells, ESl]⟩⟩
            refine h74'.rest.alK fun b85 w86 _ hA86 _ => ?_
            have f86 := (h74'.law hA86).perm (perm_tail3 M [it.blk] [(b85, [(LV.sl sl).toV])]).symm
            refine fill_ok (m := M ++ [(b85, [(LV.sl sl).toV])]) (its := [it]) f86.rest (one b85 it isl) (fun p hp => List.mem_append_right _ hp) (fun i hi => by simp at hi; subst hi; exact io) (by simp) (fun i hi => by simp at hi; subst hi; rw [iv]; omega) markedT fun w87 hA87 => ?_
            have f87 : FA w10 D Xb ((M ++ [(b85, [(LV.sl sl).toV])]) ++ [(it.fill markedT).blk]) w87 := f86.law hA87
            refine f87.rest.alK fun b88 w89 _ hA89 _ => ?_
            have f89 := (f87.law hA89).perm (perm_tail3 (M ++ [(b85, [(LV.sl sl).toV])]) [(it.fill markedT).blk] [(b88, [(LV.sl sl).toV])]).symm
            have hfl : (it.fill markedT).vals.length = vs.length := by simp [It.fill, iv]
            have hfsl : (it.fill markedT).sl = sl := by rw [← isl]; simp [It.fill, It.sl]
            refine grow_ok (m := (M ++ [(b85, [(LV.sl sl).toV])]) ++ [(b88, [(LV.sl sl).toV])]) (its := [it.fill markedT]) f89.rest (one b88 _ hfsl) (fun p hp => List.mem_append_right _ hp) (fun i hi => by simp at hi; subst hi; exact io.fill _) (by simp) (fun i hi => by simp at hi; subst hi; rw [hfl]; omega) fun w90 its2 hA90 hkey hok2 => ?_
            obtain ⟨it2, rfl⟩ : ∃ it2, its2 = [it2] := by
              have := congrArg List.length hkey
              match its2, this with
              | [x], _ => exact ⟨x, rfl⟩
            have hk2 : it2.key = (it.fill markedT).key := by simpa using hkey
            have hsl2 : it2.sl = sl := by
              rw [← hfsl]
              have := sl_of_key (a := [it2]) (b := [it.fill markedT]) (by simp [hk2])
              simpa using this
            have hv2 : it2.vals = List.replicate vs.length markedT := by
              have : it2.vals = (it.fill markedT).vals := congrArg (fun p => p.2.2) hk2
              rw [this]; simp [It.fill, iv]
            have f90 : FA w10 D Xb (M ++ [it2.blk]) w90 := by
              have h1 := f89.law hA90
              exact h1.sub (List.Sublist.append_right ((List.sublist_append_left _ _).trans (List.sublist_append_left _ _)) _)
            rw [← hM] at f90
            refine f90.rest.ld 6 (k := .sl) s rfl rfl ?_
            have hvv : VecE [it2.blk] EStr sl it2.vals := by rw [← hsl2]; exact VecE.of_item (hok2 it2 (by simp))
            refine bag_add f90.rest hbag hvv (by rw [hv2]; intro e; have := congrArg List.length e; simp at this; exact hne this) hitl fun s' P' it3 w95 hA95 hb95 hit => ?_
            refine hA95.st 6 rfl (Nat.le_refl 1) fun w96 hA96 _ => hk84 _ ⟨s', P', its ++ [it3], ?_, hb95, GV.add1 hgv' (n := vs.length) (by omega) (by rw [hit, hv2])⟩
            exact (f90.law (m' := (((C9 s' c ++ (P1 ++ P3)) ++ Z) ++ P')) hA96).perm (perm_z _ _ _ _)
          rintro w106 ⟨s', P', its', h106, hbag', hgv''⟩
          refine h106.rest.ld 9 (k := .int .i64) ((c : Nat) : Int) rfl rfl (h106.rest.st 9 rfl (Nat.le_refl 1) fun w108 hA108 _ => ?_)
          rw [set_step (by omega)] at hA108
          have h108 : FA w10 D Xb ((C9 s' (c + 1) ++ ((P1 ++ P3) ++ P')) ++ Z) w108 := h106.law hA108
          refine join1 (a := .bool) (fun b w' => w' = w108 ∧ b = (decide (1 = 1) && decide (((c + 1 : Nat) : Int) = most))) (fun k109 hk109 => ?_) ?_
          · refine h108.rest.ld 8 (k := .int .i64) ((1 : Nat) : Int) rfl rfl (ifK_t rfl (h108.rest.ld 9 (k := .int .i64) ((c + 1 : Nat) : Int) rfl rfl (h108.rest.ld 0 (k := .int .i64) most rfl rfl (hk109 _ _ ⟨rfl, ?_⟩))))
            exact Bool.beq_eq_decide_eq _ _
          rintro _ w114 ⟨hw114, rfl⟩
          rw [hw114]
          refine ifK_intro (fun hst => hleave _ _ h108 ?_) (fun _ => hnext _ _ h108 ⟨s', P', its', rfl, hbag', hgv'', hclt⟩)
          exact ⟨rfl, by simpa using hst, s', P', its', rfl, hbag', hgv'', hclt⟩
        · rintro ro gv' u hFu ⟨s, P, its, rfl, hbag, hgv', hcN'⟩
          rw [hN] at hFu hgv'
          refine hk46 _ _ ⟨s1, s, s3, P1, P, P3, i1, its, i3, gv', N, ?_, hb1, hbag, hb3, by simpa using hg1, ⟨N, hgv', Nat.le_refl _, fun h => by omega⟩, by simpa using hg3, .inl rfl⟩
          refine hFu.perm ?_
          exact ((((List.perm_append_comm (l₁ := P) (l₂ := P3)).append_left P1).trans (by rw [List.append_assoc])).append_left _).append_right _
        · rintro ro gv' c u hFu ⟨h1, hm, s, P, its, rfl, hbag, hgv', hcN'⟩
          refine ⟨_, rfl, hk46 _ _ ⟨s1, s, s3, P1, P, P3, i1, its, i3, gv', c, ?_, hb1, hbag, hb3, by simpa using hg1, ⟨c, hgv', hcN', fun h => by omega⟩, by simpa using hg3, .inr ⟨rfl, hm⟩⟩⟩
          refine hFu.perm ?_
          exact ((((List.perm_append_comm (l₁ := P) (l₂ := P3)).append_left P1).trans (by rw [List.append_assoc])).append_left _).append_right _
      · -- round 2
        let C9 (s : Sl) (c : Nat) : List (Nat × List Value) := C s1 s2 s ++ [(rb, [.int .i64 (2 : Nat)]), (b43, [.int .i64 (c : Nat)])]
        have f45' : FA w10 D (Xm ms) ((C9 s3 0 ++ ((P1 ++ P2) ++ P3)) ++ [(b7, prC pr ((2 : Nat) : Int) gv)]) w45 := by
          refine f45.perm ?_
          have e : C9 s3 0 = (C s1 s2 s3 ++ [(rb, [.int .i64 (2 : Nat)])]) ++ [(b43, [.int .i64 ((0 : Nat) : Int)])] := by simp [C9]
          rw [e]
          exact perm_in _ _ _ (by rw [List.append_assoc])
        have gN : GV ps 2 i3 0 := by simpa using hg3
        refine range_groups (b2 := b2) (bgn := ((2 + 1 : Nat) : Int)) (Inv := fun ro c => ∃ s P its, ro = C9 s c ++ ((P1 ++ P2) ++ P) ∧ Bag s P its ∧ GV ps 2 its c ∧ c ≤ N) (Stop := fun ro c => 2 = 1 ∧ (c : Int) = most ∧ ∃ s P its, ro = C9 s c ++ ((P1 ++ P2) ++ P) ∧ Bag s P its ∧ GV ps 2 its c ∧ c ≤ N) hpr (by omega) (fun ro c hI => by obtain ⟨s, P, its, rfl, _⟩ := hI; simp [C9, C]) (by rw [w64_in (by decide) (by decide)]; rfl) f45' ⟨s3, P3, i3, rfl, hb3, gN, Nat.zero_le _⟩ ?_ ?_ ?_
        · intro l Xr Xb Z ro rl k sl vs c w' beg next leave hF hv hne hInv hgcc hbeg hnext hleave
          obtain ⟨s, P, its, rfl, hbag, hgv', hcN'⟩ := hInv
          obtain ⟨g, hg1', hgk, hgvs, hgm⟩ := hgc hgcc
          obtain ⟨_, hvsl⟩ := hvl hgcc
          have hclt := hcN hgcc
          refine hbeg _ fun w57 h57 => ?_
          have hrd57 := hgr h57.at_.mod
          have hel : (gi.map GI.el)[c]? = some (k, g.2.sl) := by rw [List.getElem?_map, hg1', ← hgk]; rfl
          refine join1 (a := .bool) (fun b w' => b = false ∧ FA w10 D Xb ((((C9 s c ++ ((P1 ++ P2) ++ P)) ++ Z)) ++ rl) w') (fun k58 hk58 => ?_) ?_
          · refine h57.rest.ld 9 (k := .int .i64) ((c : Nat) : Int) rfl rfl (h57.rest.ld 2 (k := .sl) a9 rfl rfl (ifK_f (by rw [hal9]; simp; omega) ?_))
            refine h57.rest.ld 2 (k := .sl) a9 rfl rfl (h57.rest.ld 9 (k := .int .i64) ((c : Nat) : Int) rfl rfl ?_)
            refine hrd57.ix rfl rfl hel fun b o _ hc => ld_cell (k := .str) k (hc 0 (by decide)) (ifK_f (by simp) ?_)
            refine h57.rest.ld 2 (k := .sl) a9 rfl rfl (h57.rest.ld 9 (k := .int .i64) ((c : Nat) : Int) rfl rfl ?_)
            refine hrd57.ix rfl rfl hel fun b o _ hc => ld_cell (k := .sl) g.2.sl (hc 1 (by decide)) ?_
            have hr1 : RdS w57 EStr sl vs := (hv.vec fun p hp => h57.at_.own p (List.mem_append_right _ hp)).rd
            have hr2 : RdS w57 EStr g.2.sl vs := by rw [← hgvs]; exact hgv h57.at_.mod g hgm
            exact sameTexts_ok hr1 hr2 (by omega) fun w72 M72 => hk58 _ _ ⟨rfl, h57.calm M72⟩
          rintro _ w74 ⟨rfl, h74⟩
          refine ifK_f rfl ?_
          refine h74.rest.ld 8 (k := .int .i64) ((2 : Nat) : Int) rfl rfl ?_
          refine join0 (fun w' => ∃ s' P' its', FA w10 D Xb ((C9 s' c ++ ((P1 ++ P2) ++ P')) ++ Z) w' ∧ Bag s' P' its' ∧ GV ps 2 its' (c + 1)) (fun k77 hk77 => ?_) ?_
          · have hitl : its.length ≤ 1048576 := by rw [hgv'.1]; omega
            have h74' : FA w10 D Xb ((((C9 s c ++ (P1 ++ P2)) ++ Z) ++ P) ++ rl) w74 := h74.perm ((perm_z _ _ _ _).symm.append_right rl)
            refine ifK_f rfl (join0 (fun w' => ∃ s' P' its', FA w10 D Xb ((C9 s' c ++ ((P1 ++ P2) ++ P')) ++ Z) w' ∧ Bag s' P' its' ∧ GV ps 2 its' (c + 1)) (fun k84 hk84 => ?_) fun w' h' => hk77 w' h')
            refine ifK_f rfl (join0 (fun w' => ∃ s' P' its', FA w10 D Xb ((C9 s' c ++ ((P1 ++ P2) ++ P')) ++ Z) w' ∧ Bag s' P' its' ∧ GV ps 2 its' (c + 1)) (fun k97 hk97 => ?_) fun w' h' => hk84 w' h')
            refine ifK_t rfl ?_
            refine h74'.rest.ld 7 (k := .sl) s rfl rfl ?_
            refine bag_add h74'.rest hbag hv hne hitl fun s' P' it w82 hA82 hb82 hit => ?_
            refine hA82.st 7 rfl (Nat.le_refl 1) fun w83 hA83 _ => hk97 _ ⟨s', P', its ++ [it], ?_, hb82, GV.add (by decide) hgv' hgcc hit⟩
            exact (h74'.law (m' := (((C9 s' c ++ (P1 ++ P2)) ++ Z) ++ P')) hA83).perm (perm_z _ _ _ _)
          rintro w106 ⟨s', P', its', h106, hbag', hgv''⟩
          refine h106.rest.ld 9 (k := .int .i64) ((c : Nat) : Int) rfl rfl (h106.rest.st 9 rfl (Nat.le_refl 1) fun w108 hA108 _ => ?_)
          rw [set_step (by omega)] at hA108
          have h108 : FA w10 D Xb ((C9 s' (c + 1) ++ ((P1 ++ P2) ++ P')) ++ Z) w108 := h106.law hA108
          refine join1 (a := .bool) (fun b w' => w' = w108 ∧ b = (decide (2 = 1) && decide (((c + 1 : Nat) : Int) = most))) (fun k109 hk109 => ?_) ?_
          · refine h108.rest.ld 8 (k := .int .i64) ((2 : Nat) : Int) rfl rfl (ifK_f rfl (hk109 _ _ ⟨rfl, rfl⟩))
          rintro _ w114 ⟨hw114, rfl⟩
          rw [hw114]
          refine ifK_intro (fun hst => hleave _ _ h108 ?_) (fun _ => hnext _ _ h108 ⟨s', P', its', rfl, hbag', hgv'', hclt⟩)
          exact absurd hst (by simp)
        · rintro ro gv' u hFu ⟨s, P, its, rfl, hbag, hgv', hcN'⟩
          rw [hN] at hFu hgv'
          refine hk46 _ _ ⟨s1, s2, s, P1, P2, P, i1, i2, its, gv', N, ?_, hb1, hb2, hbag, by simpa using hg1, ⟨c2, hg2, hc2, fun h => by omega⟩, by simpa using hgv', .inl rfl⟩
          refine hFu.perm ?_
          exact (((by rw [List.append_assoc] : (P1 ++ (P2 ++ P)).Perm ((P1 ++ P2) ++ P))).append_left _).append_right _
        · rintro ro gv' c u hFu ⟨h1, hm, s, P, its, rfl, hbag, hgv', hcN'⟩
          exact absurd h1 (by decide)
    -- behind a round
    rintro ms' w124 ⟨s1, s2, s3, P1, P2, P3, i1, i2, i3, gv, c, h124, hb1, hb2, hb3, hg1, ⟨c2, hg2, hc2, hc20⟩, hg3, hcc⟩
    have ld7 : ∀ {w' : World}, FA w10 D (Xm ms') (((C s1 s2 s3 ++ [(rb, [.int .i64 (r : Nat)]), (b43, [.int .i64 (c : Nat)])]) ++ (P1 ++ (P2 ++ P3))) ++ [(b7, prC pr ((r + 1 : Nat) : Int) gv)]) w' → w'.cell? ⟨b7, 1, none⟩ = some (LV.mk (.int .i64) ((r + 1 : Nat) : Int)).toV := fun h => ((h.at_.own (b7, prC pr ((r + 1 : Nat) : Int) gv) (by simp)).cell 1).trans rfl
    refine join1 (a := .bool) (fun b w' => b = false ∧ FA w10 D (Xm ms') (((C s1 s2 s3 ++ [(rb, [.int .i64 (r : Nat)]), (b43, [.int .i64 (c : Nat)])]) ++ (P1 ++ (P2 ++ P3))) ++ [(b7, prC pr ((r + 1 : Nat) : Int) gv)]) w') (fun k125 hk125 => ?_) ?_
    · refine ⟨fun _ => False, ?_⟩
      have h126 := h124.calm (Mod.drew _ _)
      have hw : w64 (((r : Nat) : Int) + 1) = ((r + 1 : Nat) : Int) := set_step (by omega)
      refine h126.rest.ldD 9 (k := .int .i64) ((c : Nat) : Int) rfl rfl id (h126.rest.ldD 2 (k := .sl) a9 rfl rfl id ?_)
      rw [hal9]
      refine ifK_intro (fun hne => ?_) (fun _ => ?_)
      · have hcne : c ≠ N := by rintro rfl; simp at hne
        obtain ⟨hr1, hm⟩ : r = 1 ∧ (c : Int) = most := hcc.resolve_left hcne
        subst hr1
        refine h126.rest.ldD 8 (k := .int .i64) ((1 : Nat) : Int) rfl rfl id (ifK_f rfl ?_)
        refine h126.rest.ldD 9 (k := .int .i64) ((c : Nat) : Int) rfl rfl id (h126.rest.ldD 0 (k := .int .i64) most rfl rfl id (ifK_f (by rw [hm]; simp) ?_))
        refine dr_some (ldD_cell (k := .int .i64) ((1 + 1 : Nat) : Int) id (ld7 h126) (h126.rest.ldD 8 (k := .int .i64) ((1 : Nat) : Int) rfl rfl id (hk125 _ _ ⟨rfl, h126⟩)))
      · refine dr_some (ldD_cell (k := .int .i64) ((r + 1 : Nat) : Int) id (ld7 h126) (h126.rest.ldD 8 (k := .int .i64) ((r : Nat) : Int) rfl rfl id (hk125 _ _ ⟨?_, h126⟩)))
        rw [hw]; simp
    rintro _ w141 ⟨rfl, h141⟩
    refine ifK_f rfl ?_
    refine h141.rest.ld 8 (k := .int .i64) ((r : Nat) : Int) rfl rfl ?_
    refine h141.rest.alK fun b146 w147 _ hA147 _ => ?_
    refine At.last hA147 (Nat.le_refl 1) fun w148 hA148 => ?_
    refine ldLast' hA148 (k := .int .i64) ((r : Nat) : Int) rfl (At.last hA148 (Nat.le_refl 1) fun w150 hA150 => ?_)
    rw [set_step (by omega)] at hA150
    have f150 := h141.law hA150
    have f150' : FA w10 D (Xm ms') (((C s1 s2 s3 ++ [(b146, [.int .i64 ((r + 1 : Nat) : Int)])]) ++ (P1 ++ (P2 ++ P3))) ++ [(b7, prC pr ((r + 1 : Nat) : Int) gv)]) w150 := by
      have h1 : FA w10 D (Xm ms') (((C s1 s2 s3 ++ (P1 ++ (P2 ++ P3))) ++ [(b7, prC pr ((r + 1 : Nat) : Int) gv)]) ++ [(b146, [.int .i64 ((r + 1 : Nat) : Int)])]) w150 :=
        f150.sub (List.Sublist.append_right (List.Sublist.append_right (List.Sublist.append_right (List.sublist_append_left _ _) _) _) _)
      exact h1.perm (perm_in _ _ _ (List.Perm.refl _))
    refine ⟨⟨r + 1, b146, rfl, by omega, s1, s2, s3, P1, P2, P3, i1, i2, i3, gv, f150', hb1, hb2, hb3, ?_, ⟨c2, hg2, hc2, fun h => hc20 (by omega)⟩, ?_⟩, ?_⟩
    · rw [if_neg (by omega)]; exact hg1
    · by_cases h2 : r < 2
      · rw [if_pos h2] at hg3; rw [if_pos (by omega)]; exact hg3
      · rw [if_neg h2] at hg3; rw [if_neg (by omega)]; exact hg3
    · have hrc' : w150.cell? ⟨b146, 0, none⟩ = some (.int .i64 ((r + 1 : Nat) : Int)) := ((f150'.at_.own (b146, [.int .i64 ((r + 1 : Nat) : Int)]) (by simp)).cell 0).trans rfl
      simp only [hrc, hrc']
      omega
  -- behind the rounds
  rintro ms w152 ⟨rb, s1, s2, s3, P1, P2, P3, i1, i2, i3, gv, h152, hb1, hb2, hb3, hg1, ⟨c2, hg2, hc2, _⟩, hg3⟩
  rw [if_neg (by decide)] at hg1 hg3
  obtain ⟨g1l, g1v⟩ := hg1
  obtain ⟨g2l, g2v⟩ := hg2
  obtain ⟨g3l, g3v⟩ := hg3
  rw [if_neg (by decide), ← hN, List.take_length] at g1v g3v
  rw [if_pos rfl] at g2v
  generalize hmm : C s1 s2 s3 ++ [(rb, [.int .i64 ((3 : Nat) : Int)])] = CC at h152
  let TT (w' : World) (P1 P2 P3 : List (Nat × List Value)) : Prop := FA w10 D (Xm ms) ((CC ++ (P1 ++ (P2 ++ P3))) ++ [(b7, prC pr ((3 : Nat) : Int) gv)]) w'
  have h152 : TT w152 P1 P2 P3 := h152
  have m1 : ∀ {P1 P2 P3 : List (Nat × List Value)} {x}, x ∈ P1 → x ∈ (CC ++ (P1 ++ (P2 ++ P3))) ++ [(b7, prC pr ((3 : Nat) : Int) gv)] := fun h => by simp [h]
  have m2 : ∀ {P1 P2 P3 : List (Nat × List Value)} {x}, x ∈ P2 → x ∈ (CC ++ (P1 ++ (P2 ++ P3))) ++ [(b7, prC pr ((3 : Nat) : Int) gv)] := fun h => by simp [h]
  have m3 : ∀ {P1 P2 P3 : List (Nat × List Value)} {x}, x ∈ P3 → x ∈ (CC ++ (P1 ++ (P2 ++ P3))) ++ [(b7, prC pr ((3 : Nat) : Int) gv)] := fun h => by simp [h]
  have mC : ∀ {P1 P2 P3 : List (Nat × List Value)} {x}, x ∈ CC → x ∈ (CC ++ (P1 ++ (P2 ++ P3))) ++ [(b7, prC pr ((3 : Nat) : Int) gv)] := fun h => by simp [h]
  have ldC : ∀ {w' : World} {P1 P2 P3 : List (Nat × List Value)} {b : Nat} {s : Sl} {X : Sl → Prop}, TT w' P1 P2 P3 → (b, [(LV.sl s).toV]) ∈ CC → X s → Go.Vw.ld w' .sl b 0 X := fun {w' P1 P2 P3 b s X} h hm hX => ld_cell (k := .sl) s (((FA.at_ h).own _ (mC hm)).cell 0 |>.trans rfl) hX
  have c11 : (b11, [(LV.sl a9).toV]) ∈ CC := by rw [← hmm]; simp [C]
  have c28 : (b28, [(LV.sl s1).toV]) ∈ CC := by rw [← hmm]; simp [C]
  have c30 : (b30, [(LV.sl s2).toV]) ∈ CC := by rw [← hmm]; simp [C]
  have c32 : (b32, [(LV.sl s3).toV]) ∈ CC := by rw [← hmm]; simp [C]
  have c5 : (b5, [Value.bool false]) ∈ CC := by rw [← hmm]; simp [C]
  have cn : (bn, [Value.nilFunc]) ∈ CC := by rw [← hmm]; simp [C]
  have hlv : ∀ {its : List It}, its.map It.vals = (grp ps).map (·.2) → ∀ i ∈ its, i.vals.length ≤ 1048576 := fun {its} e i hi => by
    have h1 : i.vals ∈ (grp ps).map (·.2) := by rw [← e]; exact List.mem_map_of_mem hi
    obtain ⟨x, hx, e2⟩ := List.mem_map.1 h1
    have := ((grp_len ps).2 x hx).2
    rw [← e2]; omega
  refine join0 (fun w' => TT w' P1 P2 P3) (fun k153 hk153 => ?_) ?_
  · refine loop1 (k := .int .i64) (fun x w' => ∃ i : Nat, x = i ∧ i ≤ N ∧ TT w' P1 P2 P3) (fun x _ => N - x.toNat) rfl ⟨0, rfl, Nat.zero_le _, h152⟩ ?_
    rintro x w156 ⟨i, rfl, hi, h156⟩
    refine ldC h156 c11 ?_
    rw [hal9]
    refine ifK_intro (fun hlt' => ?_) (fun _ => hk153 _ h156)
    have hiN : i < N := by simpa using hlt'
    obtain ⟨⟨gk, gvs⟩, hgi⟩ : ∃ x, (grp ps)[i]? = some x := ⟨_, List.getElem?_eq_getElem (by omega)⟩
    obtain ⟨g, hg1', hgk, hgvs, hgm⟩ := hgc hgi
    obtain ⟨_, hvsl⟩ := hvl hgi
    have hel : (gi.map GI.el)[i]? = some (gk, g.2.sl) := by rw [List.getElem?_map, hg1', ← hgk]; rfl
    have item : ∀ {its : List It}, its.map It.vals = (grp ps).map (·.2) → ∃ it, its[i]? = some it ∧ it.vals = gvs ∧ it ∈ its := fun {its} e => by
      have h1 : (its.map It.vals)[i]? = some gvs := by rw [e, List.getElem?_map, hgi]; rfl
      rw [List.getElem?_map] at h1
      cases hc : its[i]? with
      | none => rw [hc] at h1; cases h1
      | some it => rw [hc] at h1; exact ⟨it, rfl, Option.some.inj h1, List.mem_of_getElem? hc⟩
    obtain ⟨it1, e1, v1, q1⟩ := item g1v
    obtain ⟨it3, e3, v3, q3⟩ := item g3v
    refine join1 (a := .bool) (fun b w' => b = false ∧ TT w' P1 P2 P3) (fun k158 hk158 => ?_) ?_
    · refine ⟨fun _ => False, ?_⟩
      have h159 : TT w156.drew P1 P2 P3 := FA.calm h156 (Mod.drew _ _)
      obtain ⟨r1, r1'⟩ := hb1.rd h159.at_ (fun p hp => m1 hp)
      obtain ⟨r3, r3'⟩ := hb3.rd h159.at_ (fun p hp => m3 hp)
      have hrd := hgr h159.at_.mod
      have ldDC : ∀ {b : Nat} {s : Sl} {X : Sl → Prop}, (b, [(LV.sl s).toV]) ∈ CC → X s → Go.Vw.ldD (fun _ => False) w156.drew .sl b 0 X := fun hm hX => ldD_cell (k := .sl) _ id (((FA.at_ h159).own _ (mC hm)).cell 0 |>.trans rfl) hX
      refine ldDC c28 (r1.ix rfl rfl (k := i) (x := it1.sl) (by rw [List.getElem?_map, e1]; rfl) fun b o _ hc => ldD_cell (k := .sl) it1.sl id (hc 0 (by decide)) ?_)
      refine ldDC c11 (hrd.ix rfl rfl hel fun b o _ hc => ldD_cell (k := .sl) g.2.sl id (hc 1 (by decide)) ?_)
      have ra : RdS w156.drew EStr it1.sl gvs := v1 ▸ r1' it1 q1
      have rc : RdS w156.drew EStr it3.sl gvs := v3 ▸ r3' it3 q3
      have rg : RdS w156.drew EStr g.2.sl gvs := hgvs ▸ hgv h159.at_.mod g hgm
      refine sameTexts_ok ra rg (by omega) fun w169 M169 => ⟨M169, ifK_f rfl ?_⟩
      refine ldDC c32 (r3.ix rfl rfl (k := i) (x := it3.sl) (by rw [List.getElem?_map, e3]; rfl) fun b o _ hc => ldD_cell (k := .sl) it3.sl id (hc 0 (by decide)) ?_)
      refine ldDC c11 (hrd.ix rfl rfl hel fun b o _ hc => ldD_cell (k := .sl) g.2.sl id (hc 1 (by decide)) ?_)
      refine sameTexts_ok (rc.keep M169 fun _ _ => id) (rg.keep M169 fun _ _ => id) (by omega) fun w179 M179 => ⟨mod0 M169 M179, hk158 _ _ ⟨rfl, FA.calm (FA.calm h159 M169) M179⟩⟩
    · rintro _ w181 ⟨rfl, h181⟩
      refine ifK_f rfl ?_
      rw [set_step (by omega)]
      exact ⟨⟨i + 1, rfl, hiN, h181⟩, by simp; omega⟩
  intro w185 h185
  -- each list is written full and grown
  have p1 : ∀ (P1 P2 P3 : List (Nat × List Value)), (((CC ++ (P2 ++ P3)) ++ [(b7, prC pr ((3 : Nat) : Int) gv)]) ++ P1).Perm ((CC ++ (P1 ++ (P2 ++ P3))) ++ [(b7, prC pr ((3 : Nat) : Int) gv)]) := fun P1 P2 P3 =>
    (perm_z CC (P2 ++ P3) P1 _).symm.trans (((List.perm_append_comm (l₁ := P2 ++ P3) (l₂ := P1)).append_left CC).append_right _)
  have p3 : ∀ (P1 P2 P3 : List (Nat × List Value)), (((CC ++ (P1 ++ P2)) ++ [(b7, prC pr ((3 : Nat) : Int) gv)]) ++ P3).Perm ((CC ++ (P1 ++ (P2 ++ P3))) ++ [(b7, prC pr ((3 : Nat) : Int) gv)]) := fun P1 P2 P3 =>
    (perm_z CC (P1 ++ P2) P3 _).symm.trans (by rw [List.append_assoc P1 P2 P3])
  have hrepl : ∀ {its : List It} (t : Str), its.map It.vals = (grp ps).map (·.2) → ∀ v ∈ (its.map (It.fill t)).map It.vals, ∃ n, n ≤ 1048576 ∧ v = List.replicate n t := fun {its} t e v hv => by
    obtain ⟨j, hj, rfl⟩ := List.mem_map.1 hv
    obtain ⟨i, hi, rfl⟩ := List.mem_map.1 hj
    exact ⟨i.vals.length, hlv e i hi, rfl⟩
  refine ldC h185 c28 (bag_fill (FA.rest (FA.perm h185 (p1 P1 P2 P3))) hb1 (by omega) (hlv g1v) _ fun w187 P1a hA187 hb1a => ?_)
  have h187 : TT w187 P1a P2 P3 := (FA.law (FA.perm h185 (p1 P1 P2 P3)) hA187).perm (p1 P1a P2 P3).symm
  have q1v := hrepl [102, 105, 114, 115, 116] g1v
  refine ldC h187 c32 (bag_fill (FA.rest (FA.perm h187 (p3 P1a P2 P3))) hb3 (by omega) (hlv g3v) _ fun w189 P3a hA189 hb3a => ?_)
  have h189 : TT w189 P1a P2 P3a := (FA.law (FA.perm h187 (p3 P1a P2 P3)) hA189).perm (p3 P1a P2 P3a).symm
  have q3v := hrepl [108, 97, 115, 116] g3v
  have hl1 : ∀ i ∈ i1.map (It.fill [102, 105, 114, 115, 116]), i.vals.length ≤ 1048576 := fun i hi => by
    obtain ⟨n, hn, e⟩ := q1v i.vals (List.mem_map_of_mem hi)
    rw [e]; simpa using hn
  have hl3 : ∀ i ∈ i3.map (It.fill [108, 97, 115, 116]), i.vals.length ≤ 1048576 := fun i hi => by
    obtain ⟨n, hn, e⟩ := q3v i.vals (List.mem_map_of_mem hi)
    rw [e]; simpa using hn
  refine ldC h189 c28 (bag_grow (FA.rest (FA.perm h189 (p1 P1a P2 P3a))) hb1a (by simp; omega) hl1 fun w191 P1b i1b hA191 hb1b hv1b => ?_)
  have h191 : TT w191 P1b P2 P3a := (FA.law (FA.perm h189 (p1 P1a P2 P3a)) hA191).perm (p1 P1b P2 P3a).symm
  refine ldC h191 c32 (bag_grow (FA.rest (FA.perm h191 (p3 P1b P2 P3a))) hb3a (by simp; omega) hl3 fun w193 P3b i3b hA193 hb3b hv3b => ?_)
  have h193 : TT w193 P1b P2 P3b := (FA.law (FA.perm h191 (p3 P1b P2 P3a)) hA193).perm (p3 P1b P2 P3b).symm
  have len1 : i1b.length ≤ 1048576 := by have := congrArg List.length hv1b; simp at this; omega
  have len3 : i3b.length ≤ 1048576 := by have := congrArg List.length hv3b; simp at this; omega
  refine join1 (a := .bool) (fun b w' => b = false ∧ w' = w193) (fun k194 hk194 => ?_) ?_
  · refine ldC h193 c28 (bag_filled h193.at_ (fun p hp => m1 hp) hb1b len1 (by rw [hv1b]; exact q1v) (ifK_f rfl ?_))
    refine ldC h193 c30 (bag_filled h193.at_ (fun p hp => m2 hp) hb2 (by omega) g2v (ifK_f rfl ?_))
    exact ldC h193 c32 (bag_filled h193.at_ (fun p hp => m3 hp) hb3b len3 (by rw [hv3b]; exact q3v) (hk194 _ _ ⟨rfl, rfl⟩))
  rintro _ w205 ⟨rfl, hw205⟩
  rw [hw205]
  refine ifK_f rfl ?_
  refine range_none h193 (mC cn) fun u hu => ?_
  have hbu : Blk u b5 [.bool false] := hu.at_.own _ (mC c5)
  have hA5 : At u (fun b => b = b5) [(b5, [.bool false])] u := (At.init u _).add hbu (by simp) fun _ => rfl
  refine hA5.st 0 rfl (Nat.le_refl 1) fun w223 hA223 _ => ?_
  have hA223 : At u (fun b => b = b5) [(b5, [.bool true])] w223 := hA223
  have hfar : ∀ r ∈ w193.heap.size :: ms, u.heap[r]? = some Mk ∧ w10.heap.size ≤ r := fun r hr => by
    have hm : (r, Mk) ∈ (w193.heap.size, Mk) :: Xm ms := by
      rcases List.mem_cons.1 hr with rfl | hr
      · simp
      · exact List.mem_cons_of_mem _ (List.mem_map_of_mem hr)
    exact ⟨hu.far _ hm, (hu.isf _ hm).2⟩
  have hne5 : ∀ r ∈ w193.heap.size :: ms, r ≠ b5 := fun r hr e => by have := (hfar r hr).2; have := hA9.mod.size; omega
  have hnd : (w193.heap.size :: ms).Nodup := by
    have := hu.nd
    simpa [Xm, List.map_map, Function.comp_def] using this
  refine close_ok _ (fun r hr => ?_) hnd fun w224 M224 => ?_
  · exact (hA223.mod.block _ (heap_lt (hfar r hr).1) (hne5 r hr)).trans (hfar r hr).1
  · have hbT : Blk w224 b5 [.bool true] := M224.blk (hA223.blk (i := 0) rfl) fun hm => hne5 _ hm rfl
    refine ld_cell (k := .bool) true ((hbT.cell 0).trans rfl) (hK _ ?_)
    have e0 : Mod (fun _ => False) w u := Mod.fresh (mod0 h8.mod hA9.mod) hu.at_.mod fun x hx hd => hDw x hx hd
    have e1 : Mod (fun _ => False) w w223 := Mod.fresh e0 hA223.mod fun x hx e => by subst e; omega
    refine Mod.fresh e1 M224 fun x hx hm => ?_
    have := (hfar x hm).2; have := hA9.mod.size; have := h8.mod.size; omega
end Go.Proofs.Ytfhojgammfkabaa
