/- StoreReads: what the law does. -/
import Derived.Test.YtjldecomhpngmaaVF
import Derived.Laws.StructEq
namespace Go.Proofs.Ytjldecomhpngmaa
open Go.Vw

theorem run_eq_meter (w : World) (a b c a' b' c' : Int) : (Op.equalIn 10000 31 (.agg #[.int .i64 a, .int .i64 b, .int .i64 c]) (.agg #[.int .i64 a', .int .i64 b', .int .i64 c'])).run Try.prog w = .ok (a == a' && b == b' && c == c') w := by
  have hf : Try.prog.fieldsOf 31 = #[{ name := "Reads", type := 2, offset := 0, embedded := false, tag := "", pkgPath := "", byteOffset := 0 }, { name := "Bytes", type := 2, offset := 1, embedded := false, tag := "", pkgPath := "", byteOffset := 8 }, { name := "Greatest", type := 3, offset := 2, embedded := false, tag := "", pkgPath := "", byteOffset := 16 }] := by
    simp [Program.fieldsOf, Try.underlying31]
  rw [run_equalIn_struct w 9999 31 _ _ (by rw [hf]; exact Try.underlying31) Try.stoodInHeld31, hf]
  have h3 : Try.prog.underlying 3 = some (.int .i64) := Try.underlying3
  have h2 : Try.prog.underlying 2 = some (.int .i64) := Try.underlying2
  simp [Op.eqFields, part, run_equalIn_int _ _ _ _ _ _ _ h3, run_equalIn_int _ _ _ _ _ _ _ h2, Result.andThen]
  by_cases h1 : a = a' <;> by_cases h2 : b = b' <;> by_cases h3 : c = c' <;> simp [h1, h2, h3]
theorem neq_meter {w : World} {a b c a' b' c' : Int} {o1 o2 : Operand} {K : Bool → World → Prop} (hK : K (!(a == a' && b == b' && c == c')) w) :
    opF Try.prog (vS (do eqGuard .neq 31 o1 o2 (.agg #[(LV.toV (.int .i64 a)), (LV.toV (.int .i64 b)), (LV.toV (.int .i64 c))]) (.agg #[(LV.toV (.int .i64 a')), (LV.toV (.int .i64 b')), (LV.toV (.int .i64 c'))]); binOp .neq 31 (.agg #[(LV.toV (.int .i64 a)), (LV.toV (.int .i64 b)), (LV.toV (.int .i64 c))]) (.agg #[(LV.toV (.int .i64 a')), (LV.toV (.int .i64 b')), (LV.toV (.int .i64 c'))]))) w (.one (.leaf .bool)) K := by
  refine ⟨[.bool (!(a == a' && b == b' && c == c'))], w, ?_, hK⟩
  simp only [vS, Sem.run_bind, run_eqGuard_agg w .neq 31 o1 o2 _ _ Try.eqGuardType31, Result.andThen, run_neq_struct, LV.toV, run_eq_meter]
  rfl
theorem eql_meter {w : World} {a b c a' b' c' : Int} {o1 o2 : Operand} {K : Bool → World → Prop} (hK : K (a == a' && b == b' && c == c') w) :
    opF Try.prog (vS (do eqGuard .eql 31 o1 o2 (.agg #[(LV.toV (.int .i64 a)), (LV.toV (.int .i64 b)), (LV.toV (.int .i64 c))]) (.agg #[(LV.toV (.int .i64 a')), (LV.toV (.int .i64 b')), (LV.toV (.int .i64 c'))]); binOp .eql 31 (.agg #[(LV.toV (.int .i64 a)), (LV.toV (.int .i64 b)), (LV.toV (.int .i64 c))]) (.agg #[(LV.toV (.int .i64 a')), (LV.toV (.int .i64 b')), (LV.toV (.int .i64 c'))]))) w (.one (.leaf .bool)) K := by
  refine ⟨[.bool (a == a' && b == b' && c == c')], w, ?_, hK⟩
  simp only [vS, Sem.run_bind, run_eqGuard_agg w .eql 31 o1 o2 _ _ Try.eqGuardType31, Result.andThen, run_eql_struct, LV.toV, run_eq_meter]
  rfl
theorem fit_ok {s : Sl} (h : s.len ≤ 268435456) {w : World} {K : Sl → World → Prop} (hK : K s w) : callK Try.prog 9 [.leaf (.sl s)] w (.one (.leaf .sl)) K := by
  refine go_winnowlaw5_fit _ _ _ ?_
  exact ifK_f (by simp only [decide_eq_false_iff_not]; omega) hK
def blA (d : List Int) (o : Bool) : Abs := [([97], ⟨d, o, false, 0, false⟩)]
theorem append_a {d : List Int} (h : d.length ≤ 268435456) : appendA [97] d [([97], Bl.new)] = (0, blA d false) := by
  have : ¬ 268435456 < d.length := by omega
  simp [appendA, writeA, askA, getA, putA, good_a, Bl.new, this, blA]
theorem publish_a (d : List Int) : publishA [97] (blA d false) = (0, blA d true) := rfl
theorem reads_a (d : List Int) (at_ k : Int) (t : Int × Int × Int) : readS [97] at_ k (blA d true) t = if k < 0 then (3, [], t) else if at_ < 0 ∨ (d.length : Int) < at_ then (56, [], t) else
    (0, (d.drop at_.toNat).take k.toNat, (w64 (t.1 + 1), w64 (t.2.1 + ((d.drop at_.toNat).take k.toNat).length), mxI t.2.2 ((d.drop at_.toNat).take k.toNat).length)) := by
  simp [readS, readA, askA, getA, good_a, blA]
def mC (t : Int × Int × Int) : List Value := [LV.toV (.int .i64 t.1), LV.toV (.int .i64 t.2.1), LV.toV (.int .i64 t.2.2)]
section
variable {w0 w : World} {m : List (Nat × List Value)} {s : Int} {g : SG}
theorem StA.ldM (h : StA w0 m s g w) {b : Nat} {c : List Value} (hm : (b, c) ∈ m) {k : Kd} {o : Nat} (x : Den k) {K : Den k → Prop} (hx : c[o]? = some (LV.mk k x).toV) (hK : K x) : Go.Vw.ld w k b o K :=
  ⟨x, by rw [(h.at_.own (b, c) (by simp [hm])).cell]; exact hx, hK⟩
theorem StA.quiet (h : StA w0 m s g w) {w' : World} (hM : Mod F0 w w') : StA w0 m s g w' := ⟨h.at_.keep0 hM fun _ => id, h.nm.keep hM id, h.old, h.vec⟩
end
theorem reads_walk {w : World} {data looks : Sl} {d : List Int} {l : List (Int × Int)} (hd : RdS w EU data d) (hdl : d.length ≤ 1048576) (hby : ∀ x ∈ d, 0 ≤ x ∧ x < 256) (hl : RdS w ELk looks l) (hll : l.length ≤ 1048576) (hlb : ∀ x ∈ l, x.1 ≤ 9223372036854775807)
    {K : Bool → World → Prop} (hK : ∀ w', Mod F0 w w' → K true w') : callK Try.prog 3 [.leaf (.sl data), .leaf (.sl looks)] w (.one (.leaf .bool)) K := by
  refine go_winnowlaw5_StoreReads _ _ _ _ ?_
  refine fit_ok (by rw [hd.len]; omega) ?_
  refine new_ok (At.init w F0) fun g w1 h1 _ ha1 ht1 _ _ _ => ?_
  have hdr : ∀ w', At w F0 [] w' → RdS w' EU data d := fun w' hA => hd.keep hA.mod fun _ _ => id
  refine join1 (fun c u => c = false ∧ ∃ g', g'.bs = g.bs ∧ StA w [] 0 g' u ∧ g'.abs = blA d true ∧ g'.mt = (0, 0, 0)) ?_ ?_
  · intro k hk
    refine ifK_f rfl (create_ok h1 [97] fun g2 w2 h2 => ?_)
    have e2 : createA [97] g.abs = (0, [([97], Bl.new)]) := by rw [ha1]; rfl
    rw [e2] at h2 ⊢
    refine ifK_f rfl ?_
    rw [← h2.bs]
    refine append_ok h2.st [97] hdr (by omega) hby fun g4 w4 h4 => ?_
    have e4 : appendA [97] d g2.abs = (0, blA d false) := by rw [h2.abs]; exact append_a (by omega)
    rw [e4] at h4 ⊢
    refine ifK_f rfl ?_
    rw [← h4.bs]
    refine publish_ok h4.st [97] fun g6 w6 h6 => ?_
    have e6 : publishA [97] g4.abs = (0, blA d true) := by rw [h4.abs]; rfl
    rw [e6] at h6 ⊢
    exact hk _ _ ⟨rfl, g6, by rw [h6.bs, h4.bs, h2.bs], h6.st, h6.abs, by rw [h6.mt, h4.mt, h2.mt, ht1]⟩
  rintro c u ⟨rfl, g0, hbs0, hs0, ha0, ht0⟩
  refine ifK_f rfl ?_
  refine hs0.alS fun b16 w17 _ h17 _ => ?_
  refine join0 (fun u => Mod F0 w u) ?_ (fun u hu => head_ok fun w' hM => hK w' (mod0 hu hM))
  intro k18 hk18
  refine loop1 (k := .int .i64) (fun (i : Int) u => ∃ (j : Nat) (g1 : SG) (t : Int × Int × Int), i = j ∧ j ≤ l.length ∧ g1.bs = g.bs ∧ StA w ([] ++ [(b16, mC t)]) 0 g1 u ∧ g1.abs = blA d true ∧ g1.mt = t) (fun i _ => (l.length - i).toNat) (x := 0) rfl
    ⟨0, g0, (0, 0, 0), rfl, by omega, hbs0, h17, ha0, ht0⟩ ?_
  rintro i u ⟨j, g1, t, rfl, hj, hbs1, hs1, ha1, ht1⟩
  rw [hl.len]
  refine ifK_intro (fun hlt => ?_) fun hge => hk18 _ hs1.at_.mod
  have hlt : j < l.length := dlt hlt
  have hlj : l[j]? = some l[j] := List.getElem?_eq_getElem hlt
  have hlb' := hlb l[j] (List.getElem_mem hlt)
  generalize l[j] = x at hlj hlb'
  obtain ⟨at_, k⟩ := x
  simp only at hlb'
  refine (hl.keep hs1.at_.mod fun _ _ => id).ix rfl rfl hlj fun b22 o23 _ hc => ?_
  refine ld_cell (k := .int .i64) at_ (hc 0 (by decide)) (ld_cell (k := .int .i64) k (hc 1 (by decide)) ?_)
  refine hs1.alS fun b26 w27 _ h27 _ => h27.stS (by simp) fun w28 h28 _ => ?_
  refine h28.ldS (k := .int .i64) at_ rfl (h28.ldS (k := .int .i64) k rfl ?_)
  rw [← hbs1]
  refine read_ok h28 [97] at_ k hlb' fun sl ro g2 w33 h33 hv33 => ?_
  have er : readS [97] at_ k g1.abs g1.mt = readS [97] at_ k (blA d true) t := by rw [ha1, ht1]
  rw [er] at h33 hv33 ⊢
  have hrs := reads_a d at_ k t
  generalize readS [97] at_ k (blA d true) t = rs at h33 hv33 hrs ⊢
  have h34 : StA w ((((b26, [LV.toV (.int .i64 at_), LV.toV (.int .i64 k)]) :: ro)) ++ [(b16, mC t)]) 0 g2 w33 := h33.st.permM (by
    simp only [List.nil_append, List.singleton_append, List.cons_append]
    exact (List.perm_append_comm (l₁ := (b26, [LV.toV (.int .i64 at_), LV.toV (.int .i64 k)]) :: ro) (l₂ := [(b16, mC t)])))
  have hm26 : ∀ {c : List Value}, (b26, [LV.toV (.int .i64 at_), LV.toV (.int .i64 k)]) ∈ (((b26, [LV.toV (.int .i64 at_), LV.toV (.int .i64 k)]) :: ro)) ++ [(b16, c)] := by simp
  have hslr : ∀ {c : List Value} {u : World} {g : SG}, StA w ((((b26, [LV.toV (.int .i64 at_), LV.toV (.int .i64 k)]) :: ro)) ++ [(b16, c)]) 0 g u → RdS u EU sl rs.2.1 := fun h => hv33.rd fun p hp => h.at_.own p (by simp [hp])
  have hsllen : sl.len = rs.2.1.length := hv33.1
  refine h34.ldM hm26 (k := .int .i64) k rfl ?_
  refine join0 (fun u => StA w ((((b26, [LV.toV (.int .i64 at_), LV.toV (.int .i64 k)]) :: ro)) ++ [(b16, mC rs.2.2)]) 0 g2 u) ?_ ?_
  · intro k35 hk35
    refine ifK_intro (fun hk => ?_) fun hk => ?_
    · have hk : k < 0 := by simpa using hk
      rw [if_pos hk] at hrs
      subst hrs
      exact ifK_f rfl (hk35 _ h34)
    have hk : ¬ k < 0 := by simpa using hk
    rw [if_neg hk] at hrs
    refine join1 (fun c u => u = w33 ∧ (c = true ↔ at_ < 0 ∨ (d.length : Int) < at_)) ?_ ?_
    · intro k36 hk36
      refine h34.ldM hm26 (k := .int .i64) at_ rfl (ifK_intro (fun h2 => hk36 _ _ ⟨rfl, ?_⟩) fun h2 => h34.ldM hm26 (k := .int .i64) at_ rfl (hk36 _ _ ⟨rfl, ?_⟩))
      · have h2 : at_ < 0 := by simpa using h2
        exact ⟨fun _ => .inl h2, fun _ => rfl⟩
      · have h2 : ¬ at_ < 0 := by simpa using h2
        rw [decide_eq_true_eq, hd.len]; omega
    rintro c u' ⟨rfl, hc⟩
    refine join0 (fun u => StA w ((((b26, [LV.toV (.int .i64 at_), LV.toV (.int .i64 k)]) :: ro)) ++ [(b16, mC rs.2.2)]) 0 g2 u) ?_ (fun u hu => hk35 _ hu)
    intro k41 hk41
    refine ifK_intro (fun h2 => ?_) fun h2 => ?_
    · rw [if_pos (hc.1 h2)] at hrs
      subst hrs
      exact ifK_f rfl (hk41 _ h34)
    have h2 : ¬ (at_ < 0 ∨ (d.length : Int) < at_) := fun x => by rw [hc.2 x] at h2; cases h2
    rw [if_neg h2] at hrs
    generalize hq : at_.toNat = q at hrs
    have hqa : (q : Int) = at_ := by omega
    generalize hR : (d.drop q).take k.toNat = R at hrs
    have hRl : R.length = min k.toNat (d.length - q) := by rw [← hR]; simp
    refine h34.ldM hm26 (k := .int .i64) k rfl (h34.ldM hm26 (k := .int .i64) at_ rfl ?_)
    rw [hd.len]
    have hsub : w64 ((d.length : Int) - at_) = (d.length - q : Nat) := by rw [w64_in (by omega) (by omega)]; omega
    refine join1 (fun (n : Int) u => n = (R.length : Int) ∧ u = u') ?_ ?_
    · intro k44 hk44
      rw [hsub]
      refine ifK_intro (fun h3 => h34.ldM hm26 (k := .int .i64) at_ rfl (hk44 _ _ ⟨?_, rfl⟩)) fun h3 => hk44 _ _ ⟨?_, rfl⟩
      · rw [hsub]; simp only [decide_eq_true_eq] at h3; omega
      · simp only [decide_eq_false_iff_not] at h3; omega
    rintro n u'' ⟨rfl, rfl⟩
    subst hrs
    refine join1 (fun c u => c = false ∧ StA w ((((b26, [LV.toV (.int .i64 at_), LV.toV (.int .i64 k)]) :: ro)) ++ [(b16, mC t)]) 0 g2 u) ?_ ?_
    · intro k48 hk48
      refine ifK_f rfl (h34.ldM hm26 (k := .int .i64) at_ rfl (h34.ldM hm26 (k := .int .i64) at_ rfl ?_))
      have hrd : RdS u'' EU data d := hd.keep h34.at_.mod fun _ _ => id
      have hsum : w64 (at_ + (R.length : Int)) = ((q + R.length : Nat) : Int) := by rw [w64_in (by omega) (by omega)]; omega
      rw [hsum, ← hqa]
      refine hrd.slxPart (E := EU) (lo := q) (hi := q + R.length) (by omega) (by omega) ?_
      have hcut : RdS u'' EU (data.cut EU.n q (q + R.length) data.cap) ((d.take (q + R.length)).drop q) := RdS.cutR hrd (by omega) (by omega) (by have := hrd.has; have := hrd.len; omega)
      have hRe : (d.take (q + R.length)).drop q = R := by
        rw [List.drop_take]
        have : q + R.length - q = R.length := by omega
        rw [this]
        rw [← hR, List.length_take]
        exact List.take_eq_take_min.symm
      rw [hRe] at hcut
      refine same_ok (hslr h34) hcut (by show R.length ≤ _; omega) (by omega) fun w53 hM53 => ?_
      rw [decide_eq_true rfl]
      exact hk48 _ _ ⟨rfl, h34.quiet hM53⟩
    rintro c u3 ⟨rfl, h55⟩
    refine ifK_f rfl ?_
    refine h55.ldS (k := .int .i64) t.1 rfl (h55.stS (by simp [mC]) fun w57 h57 _ => ?_)
    refine h57.ldS (k := .int .i64) t.2.1 rfl (h57.stS (by simp [mC]) fun w59 h59 _ => ?_)
    refine h59.ldS (k := .int .i64) t.2.2 rfl ?_
    refine join0 (fun u => StA w ((((b26, [LV.toV (.int .i64 at_), LV.toV (.int .i64 k)]) :: ro)) ++ [(b16, mC (w64 (t.1 + 1), w64 (t.2.1 + R.length), mxI t.2.2 R.length))]) 0 g2 u) ?_ (fun u hu => hk41 _ hu)
    intro k61 hk61
    refine ifK_intro (fun h3 => ?_) fun h3 => ?_
    · have hm : mxI t.2.2 R.length = R.length := by unfold mxI; rw [if_pos (by simpa using h3)]
      rw [hm] at hk61
      exact h59.stS (by simp [mC]) fun w62 h62 _ => hk61 _ h62
    · have hm : mxI t.2.2 R.length = t.2.2 := by unfold mxI; rw [if_neg (by simpa using h3)]
      rw [hm] at hk61
      exact hk61 _ h59
  intro u65 h65
  have hbs2 : g2.bs = g1.bs := h33.bs
  have hmt2 : g2.mt = rs.2.2 := h33.mt
  have hn : ¬ b16 = g2.bs := h65.neS (p := (b16, mC rs.2.2)) (by simp)
  have hcmp : (!(g2.m1 == rs.2.2.1 && g2.m2 == rs.2.2.2.1 && g2.m3 == rs.2.2.2.2)) = false := by rw [← hmt2]; simp [SG.mt]
  refine join1 (fun c u => c = false ∧ StA w ((((b26, [LV.toV (.int .i64 at_), LV.toV (.int .i64 k)]) :: ro)) ++ [(b16, mC rs.2.2)]) 0 g2 u) ?_ ?_
  · intro k66 hk66
    refine ⟨fun b => b = g2.bs, ?_⟩
    have h67 := h65.drew
    have hrest : ldD (fun b => b = g2.bs) u65.drew (.int .i64) b16 0 fun n68 => ldD (fun b => b = g2.bs) u65.drew (.int .i64) b16 1 fun n69 => ldD (fun b => b = g2.bs) u65.drew (.int .i64) b16 2 fun n70 =>
        callK Try.prog 16 [.leaf (.ptr (some (g1.bs, 0)))] u65.drew (.one (.agg [.int .i64, .int .i64, .int .i64])) fun n71 n72 n73 w_74 =>
        Mod (fun b => b = g2.bs) u65.drew w_74 ∧
        opF Try.prog (vS (do eqGuard .neq 31 (.tmp 124) (.tmp 125) (.agg #[(LV.toV (.int .i64 n71)), (LV.toV (.int .i64 n72)), (LV.toV (.int .i64 n73))]) (.agg #[(LV.toV (.int .i64 n68)), (LV.toV (.int .i64 n69)), (LV.toV (.int .i64 n70))]); binOp .neq 31 (.agg #[(LV.toV (.int .i64 n71)), (LV.toV (.int .i64 n72)), (LV.toV (.int .i64 n73))]) (.agg #[(LV.toV (.int .i64 n68)), (LV.toV (.int .i64 n69)), (LV.toV (.int .i64 n70))]))) w_74 (.one (.leaf (.bool))) fun c76 w_75 =>
        Mod (fun b => b = g2.bs) u65.drew w_75 ∧
        k66 c76 w_75 := by
      refine h67.ldDS (k := .int .i64) rs.2.2.1 hn rfl (h67.ldDS (k := .int .i64) rs.2.2.2.1 hn rfl (h67.ldDS (k := .int .i64) rs.2.2.2.2 hn rfl ?_))
      rw [← hbs2]
      refine meter_ok h67 fun w74 h74 hM74 => ⟨hM74, neq_meter ⟨hM74, ?_⟩⟩
      rw [hcmp]
      exact hk66 _ _ ⟨rfl, h74⟩
    refine ifK_intro (fun hne => ?_) fun _ => hrest
    refine ifK_f ?_ hrest
    rw [hsllen]
    have hne : rs.1 ≠ 0 := by simpa using hne
    split at hrs
    · subst hrs; rfl
    · split at hrs
      · subst hrs; rfl
      · subst hrs; exact absurd rfl hne
  rintro c u ⟨rfl, h87⟩
  refine ifK_f rfl ⟨⟨j + 1, g2, rs.2.2, step64 (by omega), by omega, by rw [hbs2, hbs1], h87.less (by simp), by rw [h33.abs, ha1], hmt2⟩, ?_⟩
  rw [step64 (by omega)]; omega
end Go.Proofs.Ytjldecomhpngmaa
