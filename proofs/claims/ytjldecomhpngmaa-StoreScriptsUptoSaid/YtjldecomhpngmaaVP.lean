/- One step of a script: appended; told. -/
import Derived.Test.YtjldecomhpngmaaVO
namespace Go.Proofs.Ytjldecomhpngmaa
open Go.Vw

theorem boolK {α : Type} {a b : α} [BEq α] [LawfulBEq α] (h : a = b) : (a == b) = true := by simp [h]
section
variable {w0 : World} {α β : Type} {X : SideS α} {Y : SideS β} {lim : β → Prop} {limS : α → Prop} {J : α → β → BL → World → Prop} {p q : PA} {R : Nat → α → β → Prop} {a : α} {b : β} {m : BL} {w : World}
theorem ksIn {m : BL} : ∀ p ∈ m, Ks m p.1 := fun p hp => ⟨p, hp, rfl⟩
theorem Two.base (hT : Two w0 X Y lim limS J p q) (hJ : J a b m w) : At w (Ks m) m w := (hT.at_ hJ).from ksIn
theorem Two.quiet (hT : Two w0 X Y lim limS J p q) (hJ : J a b m w) {w' : World} (hM : Mod F0 w w') : J a b m w' := hT.put hJ ((hT.base hJ).keep0 hM fun _ => id)
theorem Two.drew (hT : Two w0 X Y lim limS J p q) (hJ : J a b m w) : J a b m w.drew := hT.quiet hJ (mod_drew w)
theorem Two.less (hT : Two w0 X Y lim limS J p q) (hJ : J a b m w) {m' : BL} (hs : m'.Sublist m) : J a b m' w := hT.put hJ ((hT.base hJ).sub hs)
theorem Two.ld (hT : Two w0 X Y lim limS J p q) (hJ : J a b m w) {x : Nat} {c : List Value} (hm : (x, c) ∈ m) {k : Kd} {o : Nat} (y : Den k) {K : Den k → Prop} (hx : c[o]? = some (LV.mk k y).toV) (hK : K y) : Go.Vw.ld w k x o K :=
  ⟨y, by rw [((hT.at_ hJ).own (x, c) hm).cell]; exact hx, hK⟩
theorem Two.ldD (hT : Two w0 X Y lim limS J p q) (hJ : J a b m w) {x : Nat} {c : List Value} (hm : (x, c) ∈ m) {k : Kd} {o : Nat} (y : Den k) {K : Den k → Prop} (hx : c[o]? = some (LV.mk k y).toV) (hK : K y) : Go.Vw.ldD (nk m) w k x o K :=
  ⟨y, nk_not hm, by rw [((hT.at_ hJ).own (x, c) hm).cell]; exact hx, hK⟩
theorem Two.alK (hT : Two w0 X Y lim limS J p q) (hJ : J a b m w) {e : TypeId} {cs : List LV} {K : Nat → World → Prop} (hK : ∀ x w', J a b (m ++ [(x, cs.map LV.toV)]) w' → K x w') : Go.Vw.al w e cs K :=
  (hT.base hJ).alK fun x w' _ hA _ => hK x w' (hT.put hJ hA)
theorem modnk {m : BL} {a b c : World} (h : Mod (nk m) a b) (k : Mod (nk m) b c) : Mod (nk m) a c := h.trans k (fun _ _ h => h) fun _ _ h => h
theorem nk_app {m ro : BL} {a b : World} (h : Mod (nk (m ++ ro)) a b) : Mod (nk m) a b := h.mono fun x _ hx hk => hx (by obtain ⟨q, hq, e⟩ := hk; exact ⟨q, List.mem_append_left _ hq, e⟩)
def sC (op : Int) (n : Str) (N k : Int) (s : Sl) (mask : Int) : List Value := [LV.toV (.int .i64 op), LV.toV (.str n), LV.toV (.int .i64 N), LV.toV (.int .i64 k), LV.toV (.sl s), LV.toV (.int .u32 mask)]
/-- appended -/
theorem appended_gen (hT : Two w0 X Y lim limS J p q) (hAl : Alike X Y lim limS R) (hJ : J a b m w) {bw : Nat} {c : List Value} (hw : (bw, c) ∈ m) (hp : c[0]? = some (LV.ptr p).toV) (hq : c[1]? = some (LV.ptr q).toV) {k : Nat} (hR : R k a b)
    {op : Int} {n : Str} {N j : Int} {s : Sl} {mask : Int} {d : List Int} (hn : n.length ≤ 1099511627776) (hd : RdS w0 EU s d) (hdl : d.length ≤ 1048576) (hby : ∀ x ∈ d, 0 ≤ x ∧ x < 256) {K : Bool → World → Prop}
    (hK : ∀ a' b' m' w', J a' b' (m ++ m') w' → R (k + 1) a' b' → K true w') :
    callK Try.prog 41 [.leaf (.ptr (some (bw, 0))), .agg [.int .i64 op, .str n, .int .i64 N, .int .i64 j, .sl s, .int .u32 mask]] w (.one (.leaf .bool)) K := by
  refine go_winnowlaw5_World_appended _ _ _ _ _ _ _ _ _ ?_
  refine hT.alK hJ fun b8 w9 hJ9 => ?_
  have h8 : (b8, sC op n N j s mask) ∈ m ++ [(b8, sC op n N j s mask)] := by simp
  refine hT.ld hJ9 h8 (k := .sl) s rfl ?_
  have hsl : s.len = d.length := hd.len
  have hlen : w64 ((s.len : Int) + 8) = ((d.length + 8 : Nat) : Int) := by rw [w64_in (by omega) (by omega)]; omega
  rw [hlen]
  refine Vec.mkK EU (0 : Int) (d.length + 8) rfl rfl (by show d.length + 8 < 2 ^ 48; have : (2 : Nat) ^ 48 = 281474976710656 := by decide
                                                         omega) (by have : (2 : Nat) ^ 47 = 140737488355328 := by decide
                                                                    omega) fun w12 _ hb12 hM12 => ?_
  have hJ9' : J a b (m ++ [(b8, sC op n N j s mask)]) w9 := hJ9
  generalize hm1 : m ++ [(b8, sC op n N j s mask)] = m1 at hJ9' h8
  have hA12 : At w9 (Ks m1) (m1 ++ [(w9.heap.size, EU.cells (List.replicate (d.length + 8) 0))]) w12 := (hT.base hJ9').mkAdd hM12 hb12 (Nat.le_refl _)
  generalize hg : (⟨some (w9.heap.size, 0), d.length + 8, d.length + 8⟩ : Sl) = g
  have hgl : g.len = d.length + 8 := by rw [← hg]
  have hgc : g.cap = d.length + 8 := by rw [← hg]
  have hgp : g.p = some (w9.heap.size, 0) := by rw [← hg]
  have hv12 : VecL [(w9.heap.size, EU.cells (List.replicate (d.length + 8) 0))] EU g (List.replicate (d.length + 8) 0) := by
    refine ⟨by rw [hgl]; simp, by rw [hgl, hgc]; exact Nat.le_refl _, .inr ⟨_, [], by rw [List.append_nil], hgp, ?_⟩⟩
    rw [hgc, List.append_nil, EU.cells_length]; simp
  let G : List Int := d ++ List.replicate 8 92
  have hGl : G.length = d.length + 8 := by simp [G]
  have hdAt : ∀ {ro : BL} {u : World}, At w9 (Ks m1) (m1 ++ ro) u → RdS u EU s d := fun hA => hd.keep ((hT.at_ (hT.put hJ9' hA)).mod) fun _ _ => id
  refine join0 (fun u => ∃ ro, At w9 (Ks m1) (m1 ++ ro) u ∧ VecL ro EU g G) ?_ ?_
  · intro k13 hk13
    refine loop1 (k := .int .i64) (fun (i : Int) u => ∃ (t : Nat) (ro : BL), i = t ∧ t ≤ G.length ∧ At w9 (Ks m1) (m1 ++ ro) u ∧ VecL ro EU g (G.take t ++ List.replicate (G.length - t) 0)) (fun i _ => (G.length - i).toNat) (x := 0) rfl
      ⟨0, _, rfl, by omega, hA12, by rw [hGl]; simpa using hv12⟩ ?_
    rintro i u ⟨t, ro, rfl, ht, hA1, hv1⟩
    rw [hgl]
    refine ifK_intro (fun h => ?_) fun h => ?_
    · have hlt : t < d.length + 8 := dlt h
      have hcl : (G.take t ++ List.replicate (G.length - t) 0).length = d.length + 8 := by simp; omega
      refine ix_some hgp (by omega) (by omega) ?_ (by omega)
      refine hA1.setL hv1 (k := t) (y := 92) (by omega) rfl hgp fun ro2 w19 hA2 hv2 _ => ?_
      have hset : ∀ y : Int, G[t]? = some y → ∀ ro3 w3, At w9 (Ks m1) (m1 ++ ro3) w3 → VecL ro3 EU g ((G.take t ++ List.replicate (G.length - t) 0).set t y) →
          (∃ (t' : Nat) (ro : BL), (w64 ((t : Int) + 1)) = (t' : Int) ∧ t' ≤ G.length ∧ At w9 (Ks m1) (m1 ++ ro) w3 ∧ VecL ro EU g (G.take t' ++ List.replicate (G.length - t') 0)) ∧ ((G.length : Int) - w64 ((t : Int) + 1)).toNat < ((G.length : Int) - t).toNat := by
        intro y hy ro3 w3 hA3 hv3
        refine ⟨⟨t + 1, ro3, step64 (by omega), by omega, hA3, ?_⟩, by rw [step64 (by omega)]; omega⟩
        have : (G.take t ++ List.replicate (G.length - t) 0).set t y = G.take (t + 1) ++ List.replicate (G.length - (t + 1)) 0 := by
          have h1 : G.length - t = (G.length - (t + 1)) + 1 := by omega
          rw [h1, List.replicate_succ, List.set_append_right _ _ (by simp; omega), List.take_add_one, hy]
          have : t - (G.take t).length = 0 := by simp; omega
          rw [this]; simp
        rw [← this]; exact hv3
      have hJ2 := hT.put hJ9' hA2
      refine hT.ld hJ2 (List.mem_append_left _ h8) (k := .sl) s rfl ?_
      rw [hsl]
      refine join0 (fun w29 => ∃ ro3, At w9 (Ks m1) (m1 ++ ro3) w29 ∧ ∃ y, G[t]? = some y ∧ VecL ro3 EU g ((G.take t ++ List.replicate (G.length - t) 0).set t y)) ?_ ?_
      · intro k21 hk21
        refine ifK_intro (fun h3 => ?_) fun h3 => ?_
        · have h3 : t < d.length := dlt h3
          refine hT.ld hJ2 (List.mem_append_left _ h8) (k := .sl) s rfl ?_
          have hr := hdAt hA2
          refine hr.ix rfl rfl (List.getElem?_eq_getElem h3) fun b1 o1 _ hc1 => ld_cell (k := .int .u8) d[t] (EUcell hc1) ?_
          refine ix_some hgp (by omega) (by omega) ?_ (by omega)
          refine hA2.setL hv2 (k := t) (y := d[t]) (by rw [List.length_set]; omega) rfl hgp fun ro3 w28 hA3 hv3 _ => hk21 _ ⟨ro3, hA3, d[t], ?_, ?_⟩
          · show (d ++ List.replicate 8 92)[t]? = _
            rw [List.getElem?_append_left h3, List.getElem?_eq_getElem h3]
          · rw [List.set_set] at hv3; exact hv3
        · have h3 : d.length ≤ t := dge h3
          refine hk21 _ ⟨ro2, hA2, 92, ?_, hv2⟩
          show (d ++ List.replicate 8 92)[t]? = _
          rw [List.getElem?_append_right h3, List.getElem?_replicate, if_pos (by omega)]
      · rintro w29 ⟨ro3, hA3, y, hy, hv3⟩
        exact hset y hy ro3 w29 hA3 hv3
    · have hge : d.length + 8 ≤ t := dge h
      have : t = G.length := by omega
      subst this
      rw [List.take_length, Nat.sub_self, List.replicate_zero, List.append_nil] at hv1
      exact hk13 _ ⟨ro, hA1, hv1⟩
  rintro w30 ⟨ro, hA30, hv30⟩
  have hJ30 := hT.put hJ9' hA30
  have hw1 : (bw, c) ∈ m1 ++ ro := by rw [← hm1]; simp [hw]
  have h81 : (b8, sC op n N j s mask) ∈ m1 ++ ro := List.mem_append_left _ h8
  have hJ31 := hT.drew hJ30
  refine ⟨nk (m1 ++ ro), dr_some (hT.ldD hJ31 hw1 (k := .ptr) p hp (hT.ldD hJ31 h81 (k := .str) n rfl (hT.ldD hJ31 h81 (k := .sl) s rfl ?_)))⟩
  rw [hsl]
  have hgv : ∀ u, At w0 F0 (m1 ++ ro) u → RdS u EU g G := fun u hA => hv30.rd fun x hx => hA.own x (List.mem_append_right _ hx)
  refine ⟨0, d.length, g.cap, rfl, rfl, rfl, Nat.zero_le _, by omega, Nat.le_refl _, ?_⟩
  have hcut : ∀ u, At w0 F0 (m1 ++ ro) u → RdS u EU (g.cut 1 0 d.length g.cap) d := fun u hA => by
    have := RdS.cutR (hgv u hA) (lo := 0) (hi := d.length) (mx := g.cap) (Nat.zero_le _) (by omega) (by omega)
    have e : ((G.take d.length).drop 0) = d := by simp [G]
    rw [e] at this; exact this
  refine hT.sAppend hJ31 hcut (by omega) hby fun w39 hJ39 hM39 => ⟨hM39, ?_⟩
  have hJ40 := hT.drew hJ39
  refine ⟨nk (m1 ++ ro), dr_some (hT.ldD hJ40 hw1 (k := .ptr) q hq (hT.ldD hJ40 h81 (k := .str) n rfl (hT.ldD hJ40 h81 (k := .sl) s rfl ?_)))⟩
  refine hT.rAppend hJ40 (fun u hA => hd.keep hA.mod fun _ _ => id) (by omega) hby hn fun w47 hJ47 hM47 => ⟨hM47, ?_⟩
  obtain ⟨he, hR'⟩ := hAl.append hR n d
  rw [he]
  generalize (X.append a n d).2 = a' at hJ47 hR'
  generalize (Y.append b n d).2 = b' at hJ47 hR'
  refine join0 (fun u => ∃ ro', J a' b' (m1 ++ ro') u) ?_ ?_
  · intro k48 hk48
    have hA47 : At w47 (Ks (m1 ++ ro)) (m1 ++ ro) w47 := hT.base hJ47
    refine loop1 (k := .int .i64) (fun (i : Int) u => ∃ (t : Nat) (ro' : BL), i = t ∧ t ≤ G.length ∧ At w47 (Ks (m1 ++ ro)) (m1 ++ ro') u ∧ VecL ro' EU g (List.replicate t 93 ++ G.drop t)) (fun i _ => (G.length - i).toNat) (x := 0) rfl
      ⟨0, ro, rfl, by omega, hA47, by simpa using hv30⟩ ?_
    rintro i u ⟨t, ro', rfl, ht, hA1, hv1⟩
    rw [hgl]
    refine ifK_intro (fun h => ?_) fun h => hk48 _ ⟨ro', hT.put hJ47 hA1⟩
    have hlt : t < d.length + 8 := dlt h
    have hcl : (List.replicate t 93 ++ G.drop t).length = d.length + 8 := by simp; omega
    have hgt : (List.replicate t 93 ++ G.drop t)[t]? = G[t]? := by
      rw [List.getElem?_append_right (by simp)]; simp
    refine join1 (fun cc v => cc = false ∧ v = u.drew) ?_ ?_
    · intro k52 hk52
      have hA2 := hA1.drew
      have hJ2 := hT.put hJ47 hA2
      have h82 : (b8, sC op n N j s mask) ∈ m1 ++ ro' := List.mem_append_left _ h8
      have hl8 : ∀ {K : Sl → Prop}, K s → Go.Vw.ldD F0 u.drew .sl b8 4 K := fun hK => ⟨s, id, by rw [((hT.at_ hJ2).own _ h82).cell]; rfl, hK⟩
      have hgr : RdS u.drew EU g (List.replicate t 93 ++ G.drop t) := hv1.rd fun x hx => hA2.own x (List.mem_append_right _ hx)
      have hdr : RdS u.drew EU s d := hd.keep (hT.at_ hJ2).mod fun _ _ => id
      refine ⟨F0, hl8 ?_⟩
      rw [hsl]
      refine ifK_intro (fun h3 => ?_) fun h3 => ?_
      · have h3 : t < d.length := dlt h3
        have hgd : (List.replicate t 93 ++ G.drop t)[t]? = some d[t] := by
          rw [hgt]; show (d ++ List.replicate 8 92)[t]? = _
          rw [List.getElem?_append_left h3, List.getElem?_eq_getElem h3]
        refine hgr.ix rfl rfl hgd fun b1 o1 _ hc1 => ldD_cell (k := .int .u8) d[t] id (EUcell hc1) (hl8 ?_)
        refine hdr.ix rfl rfl (List.getElem?_eq_getElem h3) fun b2 o2 _ hc2 => ldD_cell (k := .int .u8) d[t] id (EUcell hc2) ?_
        refine ifK_f (by simp) (hl8 ?_)
        rw [hsl]
        exact ifK_f (by rw [decide_eq_false_iff_not]; omega) (hk52 _ _ ⟨rfl, rfl⟩)
      · have h3 : d.length ≤ t := dge h3
        refine hl8 ?_
        rw [hsl]
        refine ifK_t (by rw [decide_eq_true_eq]; omega) ?_
        have hgd : (List.replicate t 93 ++ G.drop t)[t]? = some 92 := by
          rw [hgt]; show (d ++ List.replicate 8 92)[t]? = _
          rw [List.getElem?_append_right h3, List.getElem?_replicate, if_pos (by omega)]
        exact hgr.ix rfl rfl hgd fun b1 o1 _ hc1 => ldD_cell (k := .int .u8) 92 id (EUcell hc1) (hk52 _ _ ⟨rfl, rfl⟩)
    rintro cc v ⟨rfl, rfl⟩
    refine ifK_f rfl (ix_some hgp (by omega) (by omega) ?_ (by omega))
    refine hA1.drew.setL hv1 (k := t) (y := 93) (by omega) rfl hgp fun ro2 w74 hA2 hv2 _ => ⟨⟨t + 1, ro2, step64 (by omega), by omega, hA2, ?_⟩, by rw [step64 (by omega)]; omega⟩
    have : (List.replicate t (93 : Int) ++ G.drop t).set t 93 = List.replicate (t + 1) 93 ++ G.drop (t + 1) := by
      rw [List.set_append_right _ _ (by simp)]
      simp only [List.length_replicate, Nat.sub_self]
      have hgd : G.drop t = G[t] :: G.drop (t + 1) := List.drop_eq_getElem_cons (by omega)
      rw [hgd, List.set_cons_zero, List.replicate_succ', List.append_assoc]; rfl
    rw [← this]; exact hv2
  · rintro u ⟨ro', hJ'⟩
    rw [boolK rfl]
    rw [← hm1, List.append_assoc] at hJ'
    exact hK a' b' _ u hJ' hR'
end
end Go.Proofs.Ytjldecomhpngmaa
