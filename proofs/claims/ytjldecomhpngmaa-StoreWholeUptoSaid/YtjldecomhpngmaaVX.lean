/- StoreWhole: the walk. -/
import Derived.Test.YtjldecomhpngmaaVW
namespace Go.Proofs.Ytjldecomhpngmaa
open Go.Vw

theorem out_cases (x : Bl) : (publishB x).1 = 0 ∧ (publishB x).2 = { x with out := true } ∧ x.out = false ∧ x.stopped = false ∧ x.stops = false ∨ (publishB x).1 ≠ 0 ∧ (publishB x).2 = x ∧ (x.out = true ∨ x.out = false ∧ x.stopped = true) ∨ (publishB x).1 ≠ 0 ∧ (publishB x).2 = { x with stopped := true } ∧ x.out = false ∧ x.stopped = false ∧ x.stops = true := by
  unfold publishB
  cases ho : x.out with
  | true => exact .inr (.inl ⟨by simp, by simp, .inl rfl⟩)
  | false =>
    cases hs : x.stopped with
    | true => exact .inr (.inl ⟨by simp, by simp, .inr ⟨rfl, rfl⟩⟩)
    | false =>
      cases ht : x.stops with
      | true => exact .inr (.inr ⟨by simp, by simp, rfl, rfl, rfl⟩)
      | false => exact .inl ⟨by simp, by simp, rfl, rfl, rfl⟩
theorem wants_len (b : Bl) (d : List Int) : (wantsB b d).2.data.length ≤ b.data.length + d.length := by
  unfold wantsB
  split
  · simp
  · split
    · simp
    · split
      · simp; omega
      · simp
set_option maxHeartbeats 2000000 in
theorem wholes_walk {w : World} {pieces : Sl} {l : List (Int × Sl × Bool × Int × Bool)} {ds : List (List Int)} (hl : RdS w EPc pieces l) (hll : l.length ≤ 1048576) (hdn : ds.length = l.length)
    (hds : ∀ (i : Nat) x d, l[i]? = some x → ds[i]? = some d → RdS w EU x.2.1 d ∧ (∀ y ∈ d, 0 ≤ y ∧ y < 256) ∧ x.2.2.2.1 ≤ 9223372036854775807) (hsum : (ds.map List.length).sum ≤ 1048576)
    {K : Bool → World → Prop} (hK : ∀ w', Mod F0 w w' → K true w') : callK Try.prog 6 [.leaf (.sl pieces)] w (.one (.leaf .bool)) K := by
  refine go_winnowlaw5_StoreWhole _ _ _ ?_
  refine new_ok (At.init w F0) fun g0 w3 h3 _ ha0 _ _ _ _ => ?_
  refine h3.alS fun b4 w5 _ h5 _ => ifK_f rfl ?_
  let nil4 : List (Sl × Bl) := List.replicate 4 (⟨none, 0, 0⟩, Bl.new)
  have h5 : StA w [(b4, EBk.cells nil4)] 0 g0 w5 := h5
  refine join0 (fun u => ∃ g, StA w [(b4, EBk.cells nil4)] 0 g u ∧ g.bs = g0.bs ∧ g.abs = absB (List.replicate 4 Bl.new) 0) ?_ ?_
  · intro k6 hk6
    refine loop1 (k := .int .i64) (fun (i : Int) u => ∃ (k : Nat) (g : SG), i = k ∧ k ≤ 4 ∧ StA w [(b4, EBk.cells nil4)] 0 g u ∧ g.bs = g0.bs ∧ g.abs = absB (List.replicate k Bl.new) 0) (fun i _ => (4 - i).toNat) (x := 0) rfl ⟨0, g0, rfl, by omega, h5, rfl, ha0⟩ ?_
    rintro i u ⟨k, g, rfl, hk, hst, hbs, habs⟩
    refine ifK_intro (fun hlt => ?_) fun hge => ?_
    · have hlt : k < 4 := by have hlt : (k : Int) < 4 := of_decide_eq_true hlt; omega
      refine name_ok rfl hlt fun w11 hM11 => ?_
      rw [← hbs]
      refine create_ok (hst.quiet hM11) (nm k) fun g2 w13 h13 => ?_
      rw [habs, create_B k hlt] at h13 ⊢
      refine ifK_f rfl ⟨⟨k + 1, g2, step64 (by omega), by omega, h13.st, by rw [h13.bs, hbs], h13.abs⟩, ?_⟩
      rw [step64 (by omega)]; omega
    · have hk4 : k = 4 := by have hge : ¬ (k : Int) < 4 := of_decide_eq_false hge; omega
      subst hk4
      exact hk6 _ ⟨g, hst, hbs, habs⟩
  rintro w14 ⟨g1, hst1, hbs1, habs1⟩
  have hI0 : IW w [] b4 g0.bs 0 w14 := by
    refine ⟨g1, nil4, [[], [], [], []], ⟨by simpa using hst1, rfl, rfl, fun k x r hx hr => ?_⟩, hbs1, ?_, fun x hx => ?_⟩
    · have hk : k < 4 := by have := (List.getElem?_eq_some_iff.1 hr).1; simpa using this
      have hx' : x = (⟨none, 0, 0⟩, Bl.new) := List.eq_of_mem_replicate (List.mem_of_getElem? hx)
      have hr' : r = [] := by
        have := List.mem_of_getElem? hr
        simpa using this
      rw [hx', hr']; exact VecL.nil EU
    · rw [habs1]; rfl
    · have : x = (⟨none, 0, 0⟩, Bl.new) := List.eq_of_mem_replicate hx
      rw [this]; exact Nat.le_refl _
  refine join0 (fun u => IW w [] b4 g0.bs 1048576 u) ?_ ?_
  · intro k15 hk15
    refine loop2 (k1 := .int .i64) (k2 := .int .i64) (fun (m : Int) (i : Int) u => ∃ j : Nat, i = j ∧ j ≤ l.length ∧ m = (mo ds j : Int) ∧ IW w [] b4 g0.bs (mo ds j) u) (fun _ i _ => (l.length - i).toNat) (x1 := 0) (x2 := 0) rfl rfl ⟨0, rfl, by omega, rfl, hI0⟩ ?_
    rintro m i u ⟨j, rfl, hj, rfl, hI⟩
    rw [hl.len]
    refine ifK_intro (fun hlt => ?_) fun hge => ?_
    · have hlt : j < l.length := dlt hlt
      have hlj : l[j]? = some l[j] := List.getElem?_eq_getElem hlt
      have hdj : ds[j]? = some (ds[j]'(by omega)) := List.getElem?_eq_getElem (by omega)
      generalize l[j] = x at hlj
      generalize ds[j]'(by omega) = d at hdj
      obtain ⟨hd, hby, hat⟩ := hds j x d hlj hdj
      obtain ⟨wh, sd, stp, at_, pub⟩ := x
      simp only at hd hat
      have hmo := mo_step hdj
      have hmole := mo_le ds (j + 1)
      obtain ⟨g, xs, ros, hB, hbs, habs, hlen⟩ := hI
      refine (hl.keep hB.st.at_.mod fun _ _ => id).ix rfl rfl hlj fun b20 o21 _ hc => ?_
      refine ld_cell (k := .int .i64) wh (hc 0 (by decide)) (ld_cell (k := .sl) sd (hc 1 (by decide)) (ld_cell (k := .bool) stp (hc 2 (by decide)) (ld_cell (k := .int .i64) at_ (hc 3 (by decide)) (ld_cell (k := .bool) pub (hc 4 (by decide)) ?_))))
      refine hB.st.alS fun b27 w28 _ h28 _ => h28.stS (by simp) fun w29 h29 _ => ?_
      have h29 : StA w (([] ++ ((b4, EBk.cells xs) :: ros.flatten)) ++ [(b27, [LV.toV (.int .i64 wh), LV.toV (.sl sd), LV.toV (.bool stp), LV.toV (.int .i64 at_), LV.toV (.bool pub)])]) 0 g w29 := h29
      refine h29.ldS (k := .sl) sd rfl ?_
      refine fit_ok (by rw [hd.len]; have := mo_le ds j; omega) ?_
      refine h29.stS (by simp) fun w33 h33 _ => ?_
      have h33 : StA w (([] ++ ((b4, EBk.cells xs) :: ros.flatten)) ++ [(b27, [LV.toV (.int .i64 wh), LV.toV (.sl sd), LV.toV (.bool stp), LV.toV (.int .i64 at_), LV.toV (.bool pub)])]) 0 g w33 := h33
      refine h33.ldS (k := .sl) sd rfl ?_
      rw [hd.len]
      have hms : w64 ((mo ds j : Int) + (d.length : Int)) = (mo ds (j + 1) : Int) := by rw [w64_in (by omega) (by omega)]; omega
      rw [hms]
      refine ifK_f (by rw [decide_eq_false_iff_not]; omega) ?_
      generalize hpc : [LV.toV (.int .i64 wh), LV.toV (.sl sd), LV.toV (.bool stp), LV.toV (.int .i64 at_), LV.toV (.bool pub)] = pc at h33
      have hp1 : pc[1]? = some (LV.toV (.sl sd)) := by rw [← hpc]; rfl
      have hp4 : pc[4]? = some (LV.toV (.bool pub)) := by rw [← hpc]; rfl
      have hp0 : pc[0]? = some (LV.toV (.int .i64 wh)) := by rw [← hpc]; rfl
      have hI33 : IW w [(b27, pc)] b4 g0.bs (mo ds j) w33 := ⟨g, xs, ros, ⟨h33.permM (List.perm_append_comm (l₁ := [(b27, pc)])), hB.n1, hB.n2, hB.vec⟩, hbs, habs, hlen⟩
      clear hB h28 h29 h33 hbs habs hlen
      have lpI : ∀ {v : World} {N : Nat} (hv : IW w [(b27, pc)] b4 g0.bs N v) {k : Kd} {o : Nat} (y : Den k) {K : Den k → Prop}, pc[o]? = some (LV.mk k y).toV → K y → ld v k b27 o K := fun hv _ _ y _ hy hK => by
        obtain ⟨g, xs, ros, hB, _⟩ := hv
        exact hB.st.ldM (b := b27) (c := pc) (by simp) y hy hK
      refine lpI hI33 (k := .int .i64) wh hp0 ?_
      obtain ⟨jj, hjj, hq1, hq2, hq3, hq4⟩ := quad (n := wh)
      refine join1 (fun (kk : Int) v => kk = (jj : Int) ∧ v = w33) ?_ ?_
      · intro k38 hk38
        refine ifK_intro (fun hn => hk38 _ _ ⟨?_, rfl⟩) fun hn => hk38 _ _ ⟨?_, rfl⟩
        · have hn : wh.tmod 4 < 0 := of_decide_eq_true hn
          rw [w64_in (by omega) (by omega)]; exact hq1 hn
        · have hn : ¬ wh.tmod 4 < 0 := of_decide_eq_false hn
          exact hq2 hn
      rintro kk v ⟨rfl, rfl⟩
      refine stop_phase hI33 hjj hat (by rw [← hpc]; rfl) (by rw [← hpc]; rfl) fun w67 hI67 => ?_
      obtain ⟨g, xs, ros, hB, hbs, habs, hlen⟩ := hI67
      have hj0 : (0 : Int) ≤ (jj : Int) := Int.natCast_nonneg jj
      have hj4 : (jj : Int) < 4 := by omega
      have hBd : BW w [(b27, pc)] b4 xs ros 0 g w67.drew := hB.quiet (mod_drew w67)
      have hp27 : ∀ {v : World} {g : SG} {xs : List (Sl × Bl)} {ros : List BL} (hv : BW w [(b27, pc)] b4 xs ros 0 g v), Blk v b27 pc := fun hv => hv.st.at_.own (b27, pc) (by simp)
      refine ⟨fun k => k ≠ b27, ⟨sd, fun h => h rfl, by rw [(hp27 hBd).cell]; exact hp1, hj0, hj4, sd, fun h => h rfl, by rw [(hp27 hBd).cell]; exact hp1, ?_⟩⟩
      refine name_ok rfl hjj fun w72 hM72 => ⟨hM72.mono fun _ _ h => h.elim, ?_⟩
      have hB72 := hBd.quiet hM72
      obtain ⟨x, hx⟩ := get_x hB.n1 hjj
      have hxl := hlen x (List.mem_of_getElem? hx)
      have hxd : x.2.data.length + d.length ≤ 268435456 := by omega
      have hrd : ∀ {v : World} {m' : BL} {g' : SG}, StA w m' 0 g' v → RdS v EU sd d := fun h => hd.keep h.at_.mod fun _ _ => id
      rw [← hbs]
      refine append_ok hB72.st (nm jj) (fun v hA => hd.keep hA.mod fun _ _ => id) (by omega) hby fun g2 w74 h74 => ⟨?_, ?_⟩
      · have hn := hB72.st.notD (p := (b27, pc)) (by simp)
        exact (hM72.mono fun _ _ h => h.elim).trans h74.mod (fun _ _ h => h) fun k _ hk => fun e => hn (e ▸ hk)
      have e74 : appendA (nm jj) d g.abs = ((wantsB x.2 d).1, absB ((xs.map (·.2)).set jj (wantsB x.2 d).2) 0) := by rw [habs]; exact append_B (map_get hx) (by simp [hB.n1]) hxd
      have hok : x.2.ok := hB.st.okAbs (n := nm jj) (by rw [habs]; have := mem_absB (i := 0) (map_get hx); rwa [Nat.zero_add] at this)
      rw [e74] at h74 ⊢
      have hB74 : BW w [(b27, pc)] b4 xs ros 0 g2 w74 := ⟨h74.st, hB.n1, hB.n2, hB.vec⟩
      have hM74 : Mod (fun k => k ≠ b27) w67.drew w74 := by
        have hn := hB72.st.notD (p := (b27, pc)) (by simp)
        exact (hM72.mono fun _ _ h => h.elim).trans h74.mod (fun _ _ h => h) fun k _ hk => fun e => hn (e ▸ hk)
      refine wants_ok hB74 hx hok (fun v hv => hrd hv) hxd fun t ros' w76 hB76 hM76 => ⟨?_, ?_⟩
      · refine hM74.trans hM76 (fun _ _ h => h) fun k _ hk => ?_
        rintro rfl
        have hnd := hB74.st.side.nodup
        have hsd := hB74.st.side
        rcases hk with e | ⟨q, hq, e⟩
        · exact hsd.ne (i := 0) (j := 1) (b := k) (c := pc) (b' := b4) (c' := EBk.cells xs) rfl rfl (by decide) e
        · have h1 : At w F0 ([(k, pc)] ++ ((b4, EBk.cells xs) :: ros.flatten)) w74 := hsd
          exact h1.notKs (p := (k, pc)) (by simp) ⟨q, List.mem_cons_of_mem _ hq, e⟩
      refine ifK_f (by simp) ?_
      have hbs2 : g2.bs = g0.bs := h74.bs.trans hbs
      have hwl := wants_len x.2 d
      have hI76 : IW w [(b27, pc)] b4 g0.bs (mo ds (j + 1)) w76 := ⟨g2, _, ros', hB76, hbs2, by rw [map_set']; exact h74.abs, mem_set' (fun y hy => by have := hlen y hy; omega) (by show (wantsB x.2 d).2.data.length ≤ _; omega)⟩
      rw [h74.bs.symm, hbs2]
      clear hB hbs habs hlen hB72 hB74 hBd hB76 h74
      refine lpI hI76 (k := .bool) pub hp4 ?_
      refine join0 (fun v => IW w [(b27, pc)] b4 g0.bs (mo ds (j + 1)) v) ?_ ?_
      · intro k78 hk78
        refine ifK_intro (fun _ => ?_) fun _ => hk78 _ hI76
        obtain ⟨g, xs, ros, hB, hbs, habs, hlen⟩ := hI76
        refine name_ok rfl hjj fun w80 hM80 => ?_
        have hB80 := hB.quiet hM80
        obtain ⟨x, hx⟩ := get_x hB.n1 hjj
        have hxl := hlen x (List.mem_of_getElem? hx)
        have hjx : jj < xs.length := by rw [hB.n1]; exact hjj
        rw [← hbs]
        refine publish_ok hB80.st (nm jj) fun g3 w82 h82 => ?_
        have e82 : publishA (nm jj) g.abs = ((publishB x.2).1, absB ((xs.map (·.2)).set jj (publishB x.2).2) 0) := by rw [habs]; exact publish_B (map_get hx) (by simp [hB.n1])
        rw [e82] at h82 ⊢
        have hB82 : BW w [(b27, pc)] b4 xs ros 0 g3 w82 := ⟨h82.st, hB.n1, hB.n2, hB.vec⟩
        have hpc := out_cases x.2
        have h82a := h82.abs
        simp only at h82a
        generalize (publishB x.2).1 = cd at hpc ⊢
        generalize hpb : (publishB x.2).2 = y at hpc h82a
        have hyd : y.data = x.2.data := by
          rcases hpc with ⟨_, h, _⟩ | ⟨_, h, _⟩ | ⟨_, h, _⟩ <;> rw [h]
        refine join1 (fun cc v => cc = false ∧ v = w82) ?_ ?_
        · intro k83 hk83
          refine ⟨hj0, hj4, hB82.ldB hx (k := .bool) x.2.out (by decide) rfl ?_⟩
          refine ifK_intro (fun ho => ⟨hj0, hj4, hB82.ldB hx (k := .bool) x.2.stopped (by decide) rfl (ifK_intro (fun hs => ⟨hj0, hj4, hB82.ldB hx (k := .bool) x.2.stops (by decide) rfl (neq_bool (hk83 _ _ ⟨?_, rfl⟩))⟩) fun hs => neq_bool (b := false) (hk83 _ _ ⟨?_, rfl⟩))⟩) fun ho => neq_bool (b := false) (hk83 _ _ ⟨?_, rfl⟩)
          · have ho : x.2.out = false := by simpa using ho
            have hs : x.2.stopped = false := by simpa using hs
            rcases hpc with ⟨h0, _, _, _, h4⟩ | ⟨h0, _, h⟩ | ⟨h0, _, _, _, h4⟩
            · rw [h0, h4]; rfl
            · rcases h with h | ⟨_, h⟩
              · rw [ho] at h; cases h
              · rw [hs] at h; cases h
            · rw [h4]; simp [h0]
          · have hs : x.2.stopped = true := by simpa using hs
            rcases hpc with ⟨h0, _, _, h3, _⟩ | ⟨h0, _, _⟩ | ⟨h0, _, _, h3, _⟩
            · rw [h3] at hs; cases hs
            · simp [h0]
            · rw [h3] at hs; cases hs
          · have ho : x.2.out = true := by simpa using ho
            rcases hpc with ⟨h0, _, h3, _⟩ | ⟨h0, _, _⟩ | ⟨h0, _, h3, _⟩
            · rw [h3] at ho; cases ho
            · simp [h0]
            · rw [h3] at ho; cases ho
        rintro cc v ⟨rfl, rfl⟩
        refine ifK_f rfl ?_
        have fin : ∀ {v : World}, BW w [(b27, pc)] b4 (xs.set jj (x.1, y)) ros 0 g3 v → IW w [(b27, pc)] b4 g.bs (mo ds (j + 1)) v := fun hv => ⟨g3, _, ros, hv, h82.bs, by rw [map_set']; exact h82a, mem_set' hlen (by show y.data.length ≤ _; rw [hyd]; exact hxl)⟩
        -- Over
        refine join0 (fun u' => BW w [(b27, pc)] b4 (xs.set jj (x.1, { x.2 with stopped := y.stopped })) ros 0 g3 u') ?_ ?_
        · intro k95 hk95
          refine ⟨hj0, hj4, hB82.ldB hx (k := .bool) x.2.stopped (by decide) rfl ?_⟩
          refine ifK_intro (fun hs => ⟨hj0, hj4, hB82.stB hx (i := 2) (vs := [.lit true]) (y := (x.1, { x.2 with stopped := y.stopped })) (by decide) ?_ rfl rfl fun u' hu' _ => hk95 _ hu'⟩) fun hs => ⟨hj0, hj4, hB82.ldB hx (k := .bool) x.2.stops (by decide) rfl (ifK_intro (fun ht => ⟨hj0, hj4, hB82.ldB hx (k := .bool) x.2.out (by decide) rfl ⟨hj0, hj4, hB82.stB hx (i := 2) (vs := [.bool (!x.2.out)]) (y := (x.1, { x.2 with stopped := y.stopped })) (by simp) ?_ rfl rfl fun u' hu' _ => hk95 _ hu'⟩⟩) fun ht => ⟨hj0, hj4, hB82.stB hx (i := 2) (vs := [.lit false]) (y := (x.1, { x.2 with stopped := y.stopped })) (by decide) ?_ rfl rfl fun u' hu' _ => hk95 _ hu'⟩)⟩
          · have : y.stopped = true := by
              rcases hpc with ⟨_, _, _, h3, _⟩ | ⟨_, h, _⟩ | ⟨_, _, _, h3, _⟩
              · rw [h3] at hs; cases hs
              · rw [h]; exact hs
              · rw [h3] at hs; cases hs
            rw [this]; rfl
          · have : y.stopped = !x.2.out := by
              rcases hpc with ⟨_, _, _, _, h4⟩ | ⟨_, h, h'⟩ | ⟨_, h, h2, _, _⟩
              · rw [h4] at ht; cases ht
              · rcases h' with h' | ⟨_, h'⟩
                · rw [h, hs, h']; rfl
                · rw [h'] at hs; cases hs
              · rw [h, h2]; rfl
            rw [this]; rfl
          · have : y.stopped = false := by
              rcases hpc with ⟨_, h, _, h3, _⟩ | ⟨_, h, h'⟩ | ⟨_, _, _, _, h4⟩
              · rw [h]; exact h3
              · rw [h]; exact hs
              · rw [h4] at ht; cases ht
            rw [this]; rfl
        intro w102 hB102
        have hx' : (xs.set jj (x.1, { x.2 with stopped := y.stopped }))[jj]? = some (x.1, { x.2 with stopped := y.stopped }) := by rw [List.getElem?_set]; simp [hjx]
        have hset : ∀ {v : World}, BW w [(b27, pc)] b4 ((xs.set jj (x.1, { x.2 with stopped := y.stopped })).set jj (x.1, { x.2 with stopped := y.stopped, out := y.out })) ros 0 g3 v → BW w [(b27, pc)] b4 (xs.set jj (x.1, y)) ros 0 g3 v := fun hv => by
          rw [List.set_set] at hv
          have : ({ x.2 with stopped := y.stopped, out := y.out } : Bl) = y := by
            rcases hpc with ⟨_, h, _⟩ | ⟨_, h, _⟩ | ⟨_, h, _⟩ <;> rw [h]
          rw [this] at hv; exact hv
        refine join0 (fun u' => BW w [(b27, pc)] b4 (xs.set jj (x.1, y)) ros 0 g3 u') ?_ (fun u' hu' => hk78 _ (hbs ▸ fin hu'))
        intro k103 hk103
        refine ⟨hj0, hj4, hB102.ldB hx' (k := .bool) x.2.out (by decide) rfl ?_⟩
        refine ifK_intro (fun ho => ⟨hj0, hj4, hB102.stB hx' (i := 1) (vs := [.lit true]) (y := (x.1, { x.2 with stopped := y.stopped, out := y.out })) (by decide) ?_ rfl rfl fun u' hu' _ => hk103 _ (hset hu')⟩) fun ho => ⟨hj0, hj4, hB102.stB hx' (i := 1) (vs := [.bool (cd == 0)]) (y := (x.1, { x.2 with stopped := y.stopped, out := y.out })) (by simp) ?_ rfl rfl fun u' hu' _ => hk103 _ (hset hu')⟩
        · have : y.out = true := by
            rcases hpc with ⟨_, _, h3, _⟩ | ⟨_, h, _⟩ | ⟨_, _, h3, _⟩
            · rw [h3] at ho; cases ho
            · rw [h]; exact ho
            · rw [h3] at ho; cases ho
          rw [this]; rfl
        · have : y.out = (cd == 0) := by
            rcases hpc with ⟨h0, h, _⟩ | ⟨h0, h, _⟩ | ⟨h0, h, _⟩
            · rw [h, h0]; rfl
            · rw [h, ho]; simp [h0]
            · rw [h]; simp [h0, ho]
          rw [this]; rfl
      intro w108 hI108
      refine join0 (fun v => IW w [(b27, pc)] b4 g0.bs (mo ds (j + 1)) v) ?_ ?_
      · intro k109 hk109
        refine loop1 (k := .int .i64) (fun (i : Int) v => ∃ n : Nat, i = n ∧ n ≤ 4 ∧ IW w [(b27, pc)] b4 g0.bs (mo ds (j + 1)) v) (fun i _ => (4 - i).toNat) (x := 0) rfl ⟨0, rfl, by omega, hI108⟩ ?_
        rintro i v ⟨n, rfl, hn, hI⟩
        refine ifK_intro (fun hlt4 => ?_) fun _ => hk109 _ hI
        have hlt4 : n < 4 := by have hlt4 : (n : Int) < 4 := of_decide_eq_true hlt4; omega
        have hn0 : (0 : Int) ≤ (n : Int) := Int.natCast_nonneg n
        have hn4 : (n : Int) < 4 := by omega
        obtain ⟨g, xs, ros, hB, hbs, habs, hlen⟩ := hI
        obtain ⟨x, hx⟩ := get_x hB.n1 hlt4
        have hxl := hlen x (List.mem_of_getElem? hx)
        have hBd := hB.quiet (mod_drew v)
        have hb4D : ¬ g.D b4 := hBd.st.notD (p := (b4, EBk.cells xs)) (by simp)
        refine ⟨g.D, hn0, hn4, hBd.ldDB hx (i := 0) (k := .sl) x.1 hb4D (by decide) rfl ?_⟩
        refine name_ok rfl hlt4 fun w116 hM116 => ⟨hM116.mono fun _ _ h => h.elim, ?_⟩
        have hB116 := hBd.quiet hM116
        have hxlen : ∀ {v : World}, BW w [(b27, pc)] b4 xs ros 0 g v → x.1.len = x.2.data.length := fun hv => by
          have hr : ros[n]? = some (ros[n]'(by rw [hB.n2]; exact hlt4)) := List.getElem?_eq_getElem (by rw [hB.n2]; exact hlt4)
          exact (hB.vec n x _ hx hr).1
        rw [hxlen hB]
        have h9 : w64 ((x.2.data.length : Int) + 9) = ((x.2.data.length + 9 : Nat) : Int) := by rw [w64_in (by omega) (by omega)]; omega
        rw [h9, ← hbs]
        refine read_ok hB116.st (nm n) 0 _ (by decide) fun sr ro g2 w119 h119 hv119 => ⟨(hM116.mono fun _ _ h => h.elim).trans h119.mod (fun _ _ h => h) fun _ _ h => h, ?_⟩
        obtain ⟨t', ert⟩ := read_B (map_get hx) (by simp [hB.n1]) g.mt
        rw [habs, ert] at hv119 h119 ⊢
        simp only at hv119 h119 ⊢
        have hst119 : StA w ([(b27, pc)] ++ ((b4, EBk.cells xs) :: ros.flatten)) 0 g2 w119 := h119.st.less (List.sublist_append_left _ _)
        have hB119 : BW w [(b27, pc)] b4 xs ros 0 g2 w119 := ⟨hst119, hB.n1, hB.n2, hB.vec⟩
        have hrs : RdS w119 EU sr (if x.2.out then x.2.data else []) := hv119.rd fun q hq => h119.st.at_.own q (by simp [hq])
        have hI119 : IW w [(b27, pc)] b4 g.bs (mo ds (j + 1)) w119 := ⟨g2, xs, ros, hB119, h119.bs, h119.abs, hlen⟩
        refine join1 (fun cc v => cc = false ∧ IW w [(b27, pc)] b4 g.bs (mo ds (j + 1)) v) ?_ ?_
        · intro k120 hk120
          refine ⟨hn0, hn4, hB119.ldB hx (k := .bool) x.2.out (by decide) rfl ?_⟩
          refine ifK_intro (fun ho => ?_) fun ho => ?_
          · have ho : x.2.out = false := by simpa using ho
            rw [ho] at hrs ⊢
            refine ifK_f rfl (ifK_f ?_ ⟨hn0, hn4, hB119.ldB hx (k := .bool) x.2.out (by decide) rfl (ifK_f ho (hk120 _ _ ⟨rfl, hI119⟩))⟩)
            rw [hrs.len]; rfl
          · have ho : x.2.out = true := by simpa using ho
            rw [ho] at hrs ⊢
            refine ⟨hn0, hn4, hB119.ldB hx (k := .bool) x.2.out (by decide) rfl (ifK_t ho (ifK_f rfl ⟨hn0, hn4, hB119.ldB hx (i := 0) (k := .sl) x.1 (by decide) rfl ?_⟩))⟩
            have hr : ros[n]? = some (ros[n]'(by rw [hB.n2]; exact hlt4)) := List.getElem?_eq_getElem (by rw [hB.n2]; exact hlt4)
            have hxr : RdS w119 EU x.1 x.2.data := (hB.vec n x _ hx hr).rd fun q hq => hst119.at_.own q (by
              have : q ∈ ros.flatten := List.mem_flatten.2 ⟨_, List.mem_of_getElem? hr, hq⟩
              simp [this])
            refine same_ok hrs hxr (by simp; omega) (by omega) fun w125 hM125 => hk120 _ _ ⟨by simp, ?_⟩
            exact ⟨g2, xs, ros, hB119.quiet hM125, h119.bs, h119.abs, hlen⟩
        rintro cc v' ⟨rfl, hI'⟩
        refine ifK_f rfl ⟨⟨n + 1, step64 (by omega), by omega, hbs ▸ hI'⟩, ?_⟩
        rw [step64 (by omega)]; omega
      · rintro w132 ⟨g, xs, ros, hB, hbs, habs, hlen⟩
        refine ⟨⟨j + 1, step64 (by omega), by omega, rfl, g, xs, ros, ⟨hB.st.less (List.sublist_append_right _ _), hB.n1, hB.n2, hB.vec⟩, hbs, habs, hlen⟩, ?_⟩
        rw [step64 (by omega)]; omega
    · obtain ⟨g, xs, ros, hB, hbs, habs, hlen⟩ := hI
      exact hk15 _ ⟨g, xs, ros, hB, hbs, habs, fun x hx => by have := hlen x hx; have := mo_le ds j; omega⟩
  rintro w133 ⟨g, xs, ros, hB, hbs, habs, hlen⟩
  rw [← hbs]
  have hxn : (xs.map (·.2)).length = 4 := by simp [hB.n1]
  have hgl : g.ents.length = 4 := by
    have := congrArg List.length habs
    rw [len_B, hxn] at this
    simpa [SG.abs] using this
  refine list_ok hB.st [98, 108, 111, 98, 45] (by decide) (by rw [habs]; exact names_B _ hxn) (by omega) fun sl ro g2 w135 h135 hv135 => ?_
  rw [habs] at hv135
  have hst : StA w (([] ++ ((b4, EBk.cells xs) :: ros.flatten)) ++ ro) 0 g2 w135 := h135.st
  refine join0 (fun u => StA w (([] ++ ((b4, EBk.cells xs) :: ros.flatten)) ++ ro) 0 g2 u) ?_ (fun u hu => head_ok fun w' hM => hK w' (mod0 hu.at_.mod hM))
  intro k136 hk136
  refine loop1 (k := .int .i64) (fun (i : Int) v => ∃ n : Nat, i = n ∧ n ≤ 4 ∧ StA w (([] ++ ((b4, EBk.cells xs) :: ros.flatten)) ++ ro) 0 g2 v) (fun i _ => (4 - i).toNat) (x := 0) rfl ⟨0, rfl, by omega, hst⟩ ?_
  rintro i v ⟨n, rfl, hn, hst⟩
  refine ifK_intro (fun hlt4 => ?_) fun _ => hk136 _ hst
  have hlt4 : n < 4 := by have hlt4 : (n : Int) < 4 := of_decide_eq_true hlt4; omega
  have hn0 : (0 : Int) ≤ (n : Int) := Int.natCast_nonneg n
  have hn4 : (n : Int) < 4 := by omega
  obtain ⟨x, hx⟩ := get_x hB.n1 hlt4
  obtain ⟨hinf, hlen4⟩ := list_B (xs.map (·.2)) hxn (map_get hx)
  have hB' : ∀ {u : World}, StA w (([] ++ ((b4, EBk.cells xs) :: ros.flatten)) ++ ro) 0 g2 u → BW w [] b4 xs ros 0 g2 u := fun h => ⟨h.less (List.sublist_append_left _ _), hB.n1, hB.n2, hB.vec⟩
  have hxlen : x.1.len = x.2.data.length := by
    have hr : ros[n]? = some (ros[n]'(by rw [hB.n2]; exact hlt4)) := List.getElem?_eq_getElem (by rw [hB.n2]; exact hlt4)
    exact (hB.vec n x _ hx hr).1
  refine ⟨hn0, hn4, (hB' hst).ldB hx (k := .bool) x.2.out (by decide) rfl ?_⟩
  refine join1 (fun (c : Int) u => c = (if x.2.out then 2 else 1) ∧ u = v) (fun k hk => ifK_intro (fun ho => hk _ _ ⟨by rw [ho]; rfl, rfl⟩) fun ho => hk _ _ ⟨by rw [ho]; rfl, rfl⟩) ?_
  rintro c u ⟨rfl, rfl⟩
  refine join1 (fun cc u' => cc = false ∧ StA w (([] ++ ((b4, EBk.cells xs) :: ros.flatten)) ++ ro) 0 g2 u') ?_ ?_
  · intro k144 hk144
    have hstd := hst.quiet (mod_drew u)
    have hrd : RdS u.drew EBi sl (listA [98, 108, 111, 98, 45] (absB (xs.map (·.2)) 0)) := hv135.rd fun q hq => hstd.at_.own q (by simp [hq])
    refine ⟨F0, ifK_f ?_ ?_⟩
    · rw [hrd.len, hlen4]; rfl
    refine hrd.ix rfl rfl hinf fun b1 o1 _ hc1 => ?_
    refine ldD_cell (k := .str) (nm n) id (hc1 0 (by decide)) (ldD_cell (k := .int .i64) (if x.2.out then 2 else 1) id (hc1 1 (by decide)) (ldD_cell (k := .int .i64) (x.2.data.length : Int) id (hc1 2 (by decide)) ⟨hn0, hn4, ?_⟩))
    refine (hB' hstd).ldDB hx (i := 0) (k := .sl) x.1 id (by decide) rfl ?_
    refine name_ok rfl hlt4 fun w153 hM153 => ⟨hM153, neq_info ⟨hM153, hk144 _ _ ⟨?_, hstd.quiet hM153⟩⟩⟩
    rw [hxlen]; simp
  rintro cc u' ⟨rfl, hst'⟩
  refine ifK_f rfl ⟨⟨n + 1, step64 (by omega), by omega, hst'⟩, ?_⟩
  rw [step64 (by omega)]; omega
end Go.Proofs.Ytjldecomhpngmaa
