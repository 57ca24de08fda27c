/- StoreWhole: what the law does. -/
import Derived.Test.YtjldecomhpngmaaVV
namespace Go.Proofs.Ytjldecomhpngmaa
open Go.Vw

def EPc : Enc (Int × Sl × Bool × Int × Bool) := ⟨5, fun x => [.int .i64 x.1, (LV.sl x.2.1).toV, .bool x.2.2.1, .int .i64 x.2.2.2.1, .bool x.2.2.2.2], fun _ => rfl, by decide, fun x v h => by simp at h; rcases h with rfl | rfl | rfl | rfl | rfl <;> rfl⟩
def mo (ds : List (List Int)) (i : Nat) : Nat := ((ds.take i).map List.length).sum
theorem mo_step {ds : List (List Int)} {i : Nat} {d : List Int} (h : ds[i]? = some d) : mo ds (i + 1) = mo ds i + d.length := by
  unfold mo; rw [List.take_add_one, h]; simp
theorem mo_le (ds : List (List Int)) (i : Nat) : mo ds i ≤ (ds.map List.length).sum := by
  unfold mo
  have : ds.map List.length = (ds.take i).map List.length ++ (ds.drop i).map List.length := by rw [← List.map_append, List.take_append_drop]
  rw [this, List.sum_append]; omega
theorem create_B (k : Nat) (hk : k < 4) : createA (nm k) (absB (List.replicate k Bl.new) 0) = (0, absB (List.replicate (k + 1) Bl.new) 0) := by
  match k, hk with
  | 0, _ => rfl
  | 1, _ => rfl
  | 2, _ => rfl
  | 3, _ => rfl
def infB (b : Bl) (k : Nat) : Info := (nm k, if b.out then 2 else 1, b.data.length)
theorem list_B (l : List Bl) (hl : l.length = 4) : ∀ {k : Nat} {b : Bl}, l[k]? = some b → (listA [98, 108, 111, 98, 45] (absB l 0))[k]? = some (infB b k) ∧ (listA [98, 108, 111, 98, 45] (absB l 0)).length = 4 := by
  match l, hl with
  | [a, b, c, d], _ =>
  have h1 : (absB [a, b, c, d] 0).filterMap (infoOf [98, 108, 111, 98, 45]) = [infB a 0, infB b 1, infB c 2, infB d 3] := by
    have h0 : hasP (nm 0) [98, 108, 111, 98, 45] = true := rfl
    have h1 : hasP (nm 1) [98, 108, 111, 98, 45] = true := rfl
    have h2 : hasP (nm 2) [98, 108, 111, 98, 45] = true := rfl
    have h3 : hasP (nm 3) [98, 108, 111, 98, 45] = true := rfl
    simp [absB, infoOf, h0, h1, h2, h3, infB]
  have h2 : listA [98, 108, 111, 98, 45] (absB [a, b, c, d] 0) = [infB a 0, infB b 1, infB c 2, infB d 3] := by
    unfold listA
    rw [h1]
    refine sorted_one (sortI_sorted _) ?_ (sortI_perm _) ?_
    · simp only [Sorted, List.pairwise_cons, List.mem_cons, List.not_mem_nil, or_false, infB]
      refine ⟨?_, ?_, ?_, by simp, List.Pairwise.nil⟩
      · rintro x (rfl | rfl | rfl) <;> rfl
      · rintro x (rfl | rfl) <;> rfl
      · rintro x rfl; rfl
    · have : ((sortI [infB a 0, infB b 1, infB c 2, infB d 3]).map (·.1)).Perm [nm 0, nm 1, nm 2, nm 3] := by
        have := (sortI_perm [infB a 0, infB b 1, infB c 2, infB d 3]).map (·.1)
        simpa [infB] using this
      exact this.nodup_iff.2 (by decide)
  intro k x hk
  rw [h2]
  refine ⟨?_, rfl⟩
  match k, hk with
  | 0, hk => simp at hk; subst hk; rfl
  | 1, hk => simp at hk; subst hk; rfl
  | 2, hk => simp at hk; subst hk; rfl
  | 3, hk => simp at hk; subst hk; rfl
theorem names_B (l : List Bl) (hl : l.length = 4) : ((absB l 0).map (·.1)).Nodup := by
  match l, hl with
  | [a, b, c, d], _ => show ([nm 0, nm 1, nm 2, nm 3] : List Str).Nodup; decide
theorem len_B : ∀ (l : List Bl) (i : Nat), (absB l i).length = l.length
  | [], _ => rfl
  | b :: l, i => by simp [absB, len_B l]
theorem StA.okAbs {w0 w : World} {m : BL} {s : Int} {g : SG} (h : StA w0 m s g w) {n : Str} {b : Bl} (hb : (n, b) ∈ g.abs) : b.ok := by
  unfold SG.abs at hb
  obtain ⟨e, he, h1⟩ := List.mem_map.1 hb
  simp only [Prod.mk.injEq] at h1
  rw [← h1.2]; exact (h.vec e he).2
theorem mem_absB : ∀ {l : List Bl} {i k : Nat} {b : Bl}, l[k]? = some b → (nm (i + k), b) ∈ absB l i
  | [], _, _, _, h => by simp at h
  | x :: l, i, 0, b, h => by simp at h; subst h; simp [absB]
  | x :: l, i, k + 1, b, h => by
    have := mem_absB (i := i + 1) (k := k) (b := b) (l := l) (by simpa using h)
    rw [show i + 1 + k = i + (k + 1) by omega] at this
    exact List.mem_cons_of_mem _ this
/-- the store and the books agree -/
def IW (w0 : World) (mx : BL) (b4 bs0 N : Nat) (u : World) : Prop := ∃ g xs ros, BW w0 mx b4 xs ros 0 g u ∧ g.bs = bs0 ∧ g.abs = absB (xs.map (·.2)) 0 ∧ ∀ x ∈ xs, x.2.data.length ≤ N
theorem quad {n : Int} : ∃ j : Nat, j < 4 ∧ (n.tmod 4 < 0 → n.tmod 4 + 4 = (j : Int)) ∧ (¬ n.tmod 4 < 0 → n.tmod 4 = (j : Int)) ∧ -4 < n.tmod 4 ∧ n.tmod 4 < 4 := by
  have h1 : n.tmod 4 < 4 := Int.tmod_lt_of_pos n (by decide)
  have h2 : -4 < n.tmod 4 := by
    have := Int.tmod_lt_of_pos (-n) (show (0 : Int) < 4 by decide)
    rw [Int.neg_tmod] at this; omega
  by_cases h : n.tmod 4 < 0
  · exact ⟨(n.tmod 4 + 4).toNat, by omega, fun _ => by omega, fun h' => absurd h h', h2, h1⟩
  · exact ⟨(n.tmod 4).toNat, by omega, fun h' => absurd h' h, fun _ => by omega, h2, h1⟩
section
variable {w0 : World} {mx : BL} {b4 bs0 N : Nat} {u : World}
theorem BW.quiet {xs : List (Sl × Bl)} {ros : List BL} {s : Int} {g : SG} (h : BW w0 mx b4 xs ros s g u) {u' : World} (hM : Mod F0 u u') : BW w0 mx b4 xs ros s g u' := ⟨h.st.quiet hM, h.n1, h.n2, h.vec⟩
theorem get_x {xs : List (Sl × Bl)} (h : xs.length = 4) {j : Nat} (hj : j < 4) : ∃ x, xs[j]? = some x := ⟨xs[j]'(by omega), List.getElem?_eq_getElem (by omega)⟩
theorem map_get {xs : List (Sl × Bl)} {j : Nat} {x : Sl × Bl} (h : xs[j]? = some x) : (xs.map (·.2))[j]? = some x.2 := by simp [h]
theorem map_set' (xs : List (Sl × Bl)) (j : Nat) (y : Sl × Bl) : (xs.set j y).map (·.2) = (xs.map (·.2)).set j y.2 := List.map_set
theorem mem_set' {xs : List (Sl × Bl)} {j : Nat} {y : Sl × Bl} {N : Nat} (h : ∀ x ∈ xs, x.2.data.length ≤ N) (hy : y.2.data.length ≤ N) : ∀ x ∈ xs.set j y, x.2.data.length ≤ N := fun x hx => by
  rcases List.mem_or_eq_of_mem_set hx with hx | rfl
  · exact h x hx
  · exact hy
end
/-- the phase of a stop -/
theorem stop_phase {w0 : World} {b27 b4 bs0 N : Nat} {pc : List Value} {u : World} (hI : IW w0 [(b27, pc)] b4 bs0 N u) {j : Nat} (hj : j < 4) {c : Bool} {at_ : Int} (hat : at_ ≤ 9223372036854775807) (h2 : pc[2]? = some (LV.toV (.bool c))) (h3 : pc[3]? = some (LV.toV (.int .i64 at_))) {o1 o2 : Operand} {K : Bool → World → Prop} {kK : World → Prop} (hK : ∀ u', IW w0 [(b27, pc)] b4 bs0 N u' → kK u') :
    ld u .bool b27 2 fun c41 => joinK [] (fun k42 =>
              ifK c41
              (drawK u fun D w_43 =>
                ldD D w_43 (.int .i64) b27 3 fun n44 =>
                callK Try.prog 21 [.leaf (.int .i64 (j : Int))] w_43 (.one (.leaf (.str))) fun s45 w_46 =>
                Mod D w_43 w_46 ∧
                callK Try.prog 22 [.leaf (.ptr (some (bs0, 0))), .leaf (.str s45), .leaf (.int .i64 n44)] w_46 (.one (.leaf (.int .i64))) fun n47 w_48 =>
                Mod D w_43 w_48 ∧
                joinK [.bool] (fun k49 =>
                  0 ≤ (j : Int) ∧ (j : Int) < (4 : Int) ∧
                  ld w_48 .bool b4 ((0 + (j : Int).toNat * 5) + 1) fun c50 =>
                  ifK (!c50)
                  (0 ≤ (j : Int) ∧ (j : Int) < (4 : Int) ∧
                    ld w_48 .bool b4 ((0 + (j : Int).toNat * 5) + 2) fun c51 =>
                    opF Try.prog (vS (do eqGuard .neq 4 o1 o2 (LV.toV (.bool (n47 == 0))) (LV.toV (.bool (!c51))); binOp .neq 4 (LV.toV (.bool (n47 == 0))) (LV.toV (.bool (!c51))))) w_48 (.one (.leaf (.bool))) fun c53 w_52 =>
                    k49 c53 w_52)
                  (opF Try.prog (vS (do eqGuard .neq 4 o1 o2 (LV.toV (.bool (n47 == 0))) (LV.toV (.lit false)); binOp .neq 4 (LV.toV (.bool (n47 == 0))) (LV.toV (.lit false)))) w_48 (.one (.leaf (.bool))) fun c55 w_54 =>
                    k49 c55 w_54)) fun t8156 w_57 =>
                ifK t8156
                (K false w_57)
                (joinK [] (fun k58 =>
                    ifK (n47 == 0)
                    (0 ≤ (j : Int) ∧ (j : Int) < (4 : Int) ∧
                      st w_57 b4 ((0 + (j : Int).toNat * 5) + 3) [.lit true] fun w_59 =>
                      ld w_59 (.int .i64) b27 3 fun n60 =>
                      0 ≤ (j : Int) ∧ (j : Int) < (4 : Int) ∧
                      st w_59 b4 ((0 + (j : Int).toNat * 5) + 4) [.int .i64 n60] fun w_61 =>
                      ld w_61 (.int .i64) b27 3 fun n62 =>
                      joinK [] (fun k63 =>
                        ifK (decide (n62 < 0))
                        (0 ≤ (j : Int) ∧ (j : Int) < (4 : Int) ∧
                          st w_61 b4 ((0 + (j : Int).toNat * 5) + 4) [.int .i64 0] fun w_64 =>
                          k63 w_64)
                        (k63 w_61)) fun w_65 =>
                      k58 w_65)
                    (k58 w_57)) fun w_66 =>
                  k42 w_66))
              (k42 u)) kK := by
  obtain ⟨g, xs, ros, hB, hbs, habs, hlen⟩ := hI
  have hj0 : (0 : Int) ≤ (j : Int) := Int.natCast_nonneg j
  have hj4 : (j : Int) < 4 := by omega
  have lp : ∀ {g : SG} {xs : List (Sl × Bl)} {ros : List BL} {v : World} (hv : BW w0 [(b27, pc)] b4 xs ros 0 g v) {k : Kd} {o : Nat} (y : Den k) {K : Den k → Prop}, pc[o]? = some (LV.mk k y).toV → K y → ld v k b27 o K := fun hv _ _ y _ hy hK => hv.st.ldM (b := b27) (c := pc) (by simp) y hy hK
  refine lp hB (k := .bool) c h2 ?_
  refine join0 (fun u' => IW w0 [(b27, pc)] b4 bs0 N u') ?_ (fun u' hu' => hK u' hu')
  intro k42 hk42
  refine ifK_intro (fun _ => ?_) fun _ => hk42 _ ⟨g, xs, ros, hB, hbs, habs, hlen⟩
  have hBd : BW w0 [(b27, pc)] b4 xs ros 0 g u.drew := hB.quiet (mod_drew u)
  refine ⟨fun k => k ≠ b27, ⟨at_, fun h => h rfl, by rw [(hBd.st.at_.own (b27, pc) (by simp)).cell]; exact h3, ?_⟩⟩
  refine name_ok rfl hj fun w46 hM46 => ⟨hM46.mono fun _ _ h => h.elim, ?_⟩
  have hB46 := hBd.quiet hM46
  obtain ⟨x, hx⟩ := get_x hB.n1 hj
  rw [← hbs]
  refine stop_ok hB46.st (nm j) at_ hat fun g2 w48 h48 => ⟨?_, ?_⟩
  · have hn := hB46.st.notD (p := (b27, pc)) (by simp)
    exact (hM46.mono fun _ _ h => h.elim).trans h48.mod (fun _ _ h => h) fun k _ hk => fun e => hn (e ▸ hk)
  have e48 : stopA (nm j) at_ g.abs = ((stopB x.2 at_).1, absB ((xs.map (·.2)).set j (stopB x.2 at_).2) 0) := by rw [habs]; exact stop_B (map_get hx) (by simp [hB.n1]) at_
  rw [e48] at h48 ⊢
  have hB2 : BW w0 [(b27, pc)] b4 xs ros 0 g2 w48 := ⟨h48.st, hB.n1, hB.n2, hB.vec⟩
  have hbs2 : g2.bs = g.bs := h48.bs
  refine join1 (fun cc v => cc = false ∧ v = w48) ?_ ?_
  · intro k49 hk49
    refine ⟨hj0, hj4, hB2.ldB hx (k := .bool) x.2.out (by decide) rfl ?_⟩
    refine ifK_intro (fun ho => ⟨hj0, hj4, hB2.ldB hx (k := .bool) x.2.stopped (by decide) rfl (neq_bool (hk49 _ _ ⟨?_, rfl⟩))⟩) fun ho => neq_bool (b := false) (hk49 _ _ ⟨?_, rfl⟩)
    · have ho : x.2.out = false := by simpa using ho
      unfold stopB
      rw [ho]
      cases x.2.stopped <;> rfl
    · have ho : x.2.out = true := by simpa using ho
      unfold stopB
      rw [ho]; rfl
  rintro cc v ⟨rfl, rfl⟩
  refine ifK_f rfl ?_
  refine join0 (fun u' => IW w0 [(b27, pc)] b4 g.bs N u') ?_ (fun u' hu' => hk42 _ (hbs ▸ hu'))
  intro k58 hk58
  have hxl := hlen x (List.mem_of_getElem? hx)
  have hjx : j < xs.length := by rw [hB.n1]; exact hj
  refine ifK_intro (fun h0 => ?_) fun h0 => ?_
  · have hst : stopB x.2 at_ = (0, { x.2 with stops := true, stop := mxI at_ 0 }) := by
      have h0 : (stopB x.2 at_).1 = 0 := by simpa using h0
      unfold stopB at h0 ⊢
      split at h0
      · cases h0
      · split at h0
        · cases h0
        · rename_i a b; rw [if_neg a, if_neg b]
    rw [hst] at h48
    refine ⟨hj0, hj4, hB2.stB hx (i := 3) (vs := [.lit true]) (y := (x.1, { x.2 with stops := true })) (by decide) rfl rfl rfl fun w59 h59 _ => ?_⟩
    have hx1 : (xs.set j (x.1, { x.2 with stops := true }))[j]? = some (x.1, { x.2 with stops := true }) := by rw [List.getElem?_set]; simp [hjx]
    refine lp h59 (k := .int .i64) at_ h3 ⟨hj0, hj4, h59.stB hx1 (i := 4) (vs := [.int .i64 at_]) (y := (x.1, { x.2 with stops := true, stop := at_ })) (by simp) rfl rfl rfl fun w61 h61 _ => ?_⟩
    rw [List.set_set] at h61
    have hx2 : (xs.set j (x.1, { x.2 with stops := true, stop := at_ }))[j]? = some (x.1, { x.2 with stops := true, stop := at_ }) := by rw [List.getElem?_set]; simp [hjx]
    refine lp h61 (k := .int .i64) at_ h3 ?_
    have fin : ∀ {v : World}, BW w0 [(b27, pc)] b4 (xs.set j (x.1, { x.2 with stops := true, stop := mxI at_ 0 })) ros 0 g2 v → IW w0 [(b27, pc)] b4 g.bs N v := fun hv => ⟨g2, _, ros, hv, hbs2, by rw [map_set']; exact h48.abs, mem_set' hlen hxl⟩
    refine join0 (fun v => BW w0 [(b27, pc)] b4 (xs.set j (x.1, { x.2 with stops := true, stop := mxI at_ 0 })) ros 0 g2 v) ?_ (fun v hv => hk58 _ (fin hv))
    intro k63 hk63
    refine ifK_intro (fun hn => ⟨hj0, hj4, h61.stB hx2 (i := 4) (vs := [.int .i64 0]) (y := (x.1, { x.2 with stops := true, stop := mxI at_ 0 })) (by simp) ?_ rfl rfl fun w64 h64 _ => ?_⟩) fun hn => ?_
    · have hn : at_ < 0 := of_decide_eq_true hn
      have : mxI at_ 0 = 0 := by unfold mxI; rw [if_pos hn]
      rw [this]; rfl
    · rw [List.set_set] at h64; exact hk63 _ h64
    · have hn : ¬ at_ < 0 := of_decide_eq_false hn
      have : mxI at_ 0 = at_ := by unfold mxI; rw [if_neg hn]
      rw [this] at hk63
      exact hk63 _ h61
  · have hst : (stopB x.2 at_).2 = x.2 := by
      have h0 : ¬ (stopB x.2 at_).1 = 0 := by simpa using h0
      unfold stopB at h0 ⊢
      by_cases h1 : x.2.out = true
      · rw [if_pos h1]
      · rw [if_neg h1] at h0 ⊢
        by_cases h2 : x.2.stopped = true
        · rw [if_pos h2]
        · rw [if_neg h2] at h0; exact absurd rfl h0
    refine hk58 _ ⟨g2, xs, ros, hB2, hbs2, ?_, hlen⟩
    rw [h48.abs, hst]
    simp only
    rw [set_self (map_get hx)]
end Go.Proofs.Ytjldecomhpngmaa
