/- StoreFlips: what the law does. -/
import Derived.Test.YtjldecomhpngmaaVG
import Derived.Test.YtjldecomhpngmaaVK
import Derived.Laws.Small
namespace Go.Proofs.Ytjldecomhpngmaa
open Go.Vw

theorem neq_bool {w : World} {a b : Bool} {o1 o2 : Operand} {K : Bool → World → Prop} (hK : K (a != b) w) :
    opF Try.prog (vS (do eqGuard .neq 4 o1 o2 (LV.toV (.bool a)) (LV.toV (.bool b)); binOp .neq 4 (LV.toV (.bool a)) (LV.toV (.bool b)))) w (.one (.leaf .bool)) K := by
  refine ⟨[.bool (a != b)], w, ?_, hK⟩
  have h1 : (eqGuard .neq 4 o1 o2 (LV.toV (.bool a)) (LV.toV (.bool b))).run Try.prog w = .ok () w := by unfold eqGuard; rfl
  have h2 := run_neq_bool w 4 a b Try.underlying4
  have h3 : (vS (do eqGuard .neq 4 o1 o2 (LV.toV (.bool a)) (LV.toV (.bool b)); binOp .neq 4 (LV.toV (.bool a)) (LV.toV (.bool b)))).run Try.prog w = .ok (.value (.bool (!(a == b)))) w := by
    simp only [LV.toV] at h1 ⊢
    simp only [vS, Sem.run_bind, h1, Result.andThen_ok, h2, Sem.run_pure]
  rw [h3]
  have h4 : (!(a == b)) = (a != b) := rfl
  rw [h4]
  exact congrArg (fun v => Result.ok (Next.value v) w) rfl
def abA (d e : List Int) (o1 o2 : Bool) : Abs := [([97], ⟨d, o1, false, 0, false⟩), ([98], ⟨e, o2, false, 0, false⟩)]
theorem ap_a {d : List Int} (h : d.length ≤ 268435456) : appendA [97] d (abA [] [] false false) = (0, abA d [] false false) := by
  have : ¬ 268435456 < d.length := by omega
  simp [appendA, writeA, askA, getA, putA, good_a, this, abA]
theorem ap_b {d e : List Int} (h : d.length ≤ 268435456) : appendA [98] d (abA e [] false false) = (0, abA e d false false) := by
  have : ¬ 268435456 < d.length := by omega
  simp [appendA, writeA, askA, getA, putA, good_b, this, abA]
theorem flip_a (d e : List Int) (bit mask : Int) : flipA [97] bit mask (abA d e true true) = if bit < 0 ∨ 8 * (d.length : Int) ≤ bit then (56, abA d e true true) else (0, abA (flips bit.toNat mask 32 d) e true true) := by
  simp only [flipA, askA, getA, good_a, abA]
  simp only [if_true, Bool.true_eq_false, if_false, putA]
theorem rd_a (d e : List Int) (t : Int × Int × Int) : readS [97] 0 (d.length : Int) (abA d e true true) t = (0, d, (w64 (t.1 + 1), w64 (t.2.1 + d.length), mxI t.2.2 d.length)) := by
  have h1 : ¬ ((d.length : Int) < 0) := by omega
  simp [readS, readA, askA, getA, good_a, abA, h1]
theorem rd_b (d e : List Int) (t : Int × Int × Int) : readS [98] 0 (e.length : Int) (abA d e true true) t = (0, e, (w64 (t.1 + 1), w64 (t.2.1 + e.length), mxI t.2.2 e.length)) := by
  have h1 : ¬ ((e.length : Int) < 0) := by omega
  simp [readS, readA, askA, getA, good_b, abA, h1]
theorem wrap64 {n : Int} (h0 : 0 ≤ n) (h1 : n < 9223372036854775808) : IntKind.wrap .u64 n = n := by
  have := wrap_u (k := .u64) rfl (n := n.toNat) (by show n.toNat < 2 ^ 64; omega)
  have e : n = ((n.toNat : Nat) : Int) := by omega
  rw [← e] at this; exact this
theorem flips_walk {w : World} {data : Sl} {d : List Int} (hd : RdS w EU data d) (hdl : d.length ≤ 1048576) (hby : ∀ x ∈ d, 0 ≤ x ∧ x < 256) {bit mask : Int} (hb1 : -9223372036854775808 ≤ bit) (hb2 : bit ≤ 9223372036854775807) (hm0 : 0 ≤ mask) (hm1 : mask < 4294967296)
    {K : Bool → World → Prop} (hK : ∀ w', Mod F0 w w' → K true w') : callK Try.prog 4 [.leaf (.sl data), .leaf (.int .i64 bit), .leaf (.int .u32 mask)] w (.one (.leaf .bool)) K := by
  refine go_winnowlaw5_StoreFlips _ _ _ _ _ ?_
  have hdl' := hd.len
  refine fit_ok (by omega) ?_
  refine new_ok (At.init w F0) fun g w1 h1 _ ha1 ht1 _ _ _ => ?_
  have hdr : ∀ w', At w F0 [] w' → RdS w' EU data d := fun w' hA => hd.keep hA.mod fun _ _ => id
  rw [hdl']
  have h8 : w64 (8 * (d.length : Int)) = 8 * (d.length : Int) := by rw [w64_in (by omega) (by omega)]
  rw [h8]
  refine join1 (fun c u => c = false ∧ ∃ g', g'.bs = g.bs ∧ StA w [] 0 g' u ∧ g'.abs = abA d d true true) ?_ ?_
  · intro k hk
    refine ifK_f rfl (create_ok h1 [97] fun g2 w2 h2 => ?_)
    have e2 : createA [97] g.abs = (0, [([97], Bl.new)]) := by rw [ha1]; rfl
    rw [e2] at h2 ⊢
    refine ifK_f rfl ?_
    rw [← h2.bs]
    refine create_ok h2.st [98] fun g3 w3 h3 => ?_
    have e3 : createA [98] g2.abs = (0, abA [] [] false false) := by rw [h2.abs]; rfl
    rw [e3] at h3 ⊢
    refine ifK_f rfl ?_
    rw [← h3.bs]
    refine append_ok h3.st [97] hdr (by omega) hby fun g4 w4 h4 => ?_
    have e4 : appendA [97] d g3.abs = (0, abA d [] false false) := by rw [h3.abs]; exact ap_a (by omega)
    rw [e4] at h4 ⊢
    refine ifK_f rfl ?_
    rw [← h4.bs]
    refine append_ok h4.st [98] hdr (by omega) hby fun g5 w5 h5 => ?_
    have e5 : appendA [98] d g4.abs = (0, abA d d false false) := by rw [h4.abs]; exact ap_b (by omega)
    rw [e5] at h5 ⊢
    refine ifK_f rfl ?_
    rw [← h5.bs]
    refine publish_ok h5.st [97] fun g6 w6 h6 => ?_
    have e6 : publishA [97] g5.abs = (0, abA d d true false) := by rw [h5.abs]; rfl
    rw [e6] at h6 ⊢
    refine ifK_f rfl ?_
    rw [← h6.bs]
    refine publish_ok h6.st [98] fun g7 w7 h7 => ?_
    have e7 : publishA [98] g6.abs = (0, abA d d true true) := by rw [h6.abs]; rfl
    rw [e7] at h7 ⊢
    exact hk _ _ ⟨rfl, g7, by rw [h7.bs, h6.bs, h5.bs, h4.bs, h3.bs, h2.bs], h7.st, h7.abs⟩
  rintro c u ⟨rfl, g0, hbs0, hs0, ha0⟩
  refine ifK_f rfl ?_
  rw [← hbs0]
  refine flip_ok hs0 [97] bit mask hm0 hm1 fun g2 w2 h2 => ?_
  have e2 := flip_a d d bit mask
  rw [← ha0] at e2
  refine join1 (fun c u => u = w2 ∧ (c = true ↔ bit < 0 ∨ 8 * (d.length : Int) ≤ bit)) ?_ ?_
  · intro k2 hk2
    refine ifK_intro (fun h2 => hk2 _ _ ⟨rfl, ?_⟩) fun h2 => hk2 _ _ ⟨rfl, ?_⟩
    · have h2 : bit < 0 := by simpa using h2
      exact ⟨fun _ => .inl h2, fun _ => rfl⟩
    · have h2 : ¬ bit < 0 := by simpa using h2
      rw [decide_eq_true_eq]; omega
  rintro c u' ⟨rfl, hc⟩
  refine ifK_intro (fun hcc => ?_) fun hcc => ?_
  · rw [if_pos (hc.1 hcc)] at e2
    rw [e2]
    have hM := h2.st.at_.mod
    refine join1 (fun c u => c = true ∧ Mod F0 w u) ?_ ?_
    · intro k hk
      exact ifK_t rfl (head_ok fun w' hM' => hk _ _ ⟨rfl, mod0 hM hM'⟩)
    · rintro c u ⟨rfl, hM⟩; exact hK u hM
  have hne : ¬ (bit < 0 ∨ 8 * (d.length : Int) ≤ bit) := fun x => by rw [hc.2 x] at hcc; cases hcc
  rw [if_neg hne] at e2
  obtain ⟨q, rfl⟩ : ∃ q : Nat, bit = q := ⟨bit.toNat, by omega⟩
  simp only [Int.toNat_natCast] at e2
  have hBd : Byt d := hby
  have hxl := flips_length q mask 32 d
  have hBx : Byt (flips q mask 32 d) := hBd.turns q mask 32
  have htw := flips_twice hBd q mask 32
  have htb := fun t ht => tbit_flips q mask d t ht 32
  rw [e2] at h2 ⊢
  generalize hx : flips q mask 32 d = x at h2 e2 hxl hBx htw htb
  rw [← h2.bs]
  rw [← hxl]
  refine read_ok h2.st [97] 0 _ (by decide) fun sl1 ro1 g3 w3 h3 hv3 => ?_
  have e3 : readS [97] 0 (x.length : Int) g2.abs g2.mt = (0, x, (w64 (g2.mt.1 + 1), w64 (g2.mt.2.1 + x.length), mxI g2.mt.2.2 x.length)) := by rw [h2.abs]; exact rd_a x d _
  rw [e3] at h3 hv3 ⊢
  rw [hxl]
  rw [← h3.bs]
  refine read_ok h3.st [98] 0 _ (by decide) fun sl2 ro2 g4 w4 h4 hv4 => ?_
  have e4 : readS [98] 0 (d.length : Int) g3.abs g3.mt = (0, d, (w64 (g3.mt.1 + 1), w64 (g3.mt.2.1 + d.length), mxI g3.mt.2.2 d.length)) := by rw [h3.abs, h2.abs]; exact rd_b x d _
  rw [e4] at h4 hv4 ⊢
  have hr1 : RdS w4 EU sl1 x := hv3.rd fun p hp => h4.st.at_.own p (by simp [hp])
  have hr2 : RdS w4 EU sl2 d := hv4.rd fun p hp => h4.st.at_.own p (by simp [hp])
  have hr0 : RdS w4 EU data d := hd.keep h4.st.at_.mod fun _ _ => id
  refine join1 (fun c u => c = false ∧ Mod F0 w4 u) ?_ ?_
  · intro k hk
    refine ifK_f rfl (ifK_f rfl (ifK_f rfl (same_ok hr2 hr0 (by omega) (by omega) fun w5 hM5 => ?_)))
    rw [decide_eq_true rfl]
    refine ifK_f rfl (hk _ _ ⟨?_, hM5⟩)
    rw [hr1.len, hxl]; simp
  rintro c w5 ⟨rfl, hM5⟩
  refine ifK_f rfl ?_
  have hst5 : StA w [] 0 g4 w5 := (h4.st.quiet hM5).less (by simp)
  have hr1 := hr1.keep hM5 fun _ _ => id
  have hr0 := hr0.keep hM5 fun _ _ => id
  refine join0 (fun u => u = w5) ?_ ?_
  · intro k44 hk44
    refine loop1 (k := .int .i64) (fun (i : Int) u => u = w5 ∧ ∃ j : Nat, i = j ∧ j ≤ 8 * d.length) (fun i _ => (8 * d.length - i).toNat) (x := 0) rfl ⟨rfl, 0, rfl, by omega⟩ ?_
    rintro i u ⟨rfl, j, rfl, hj⟩
    refine ifK_intro (fun hlt => ?_) fun hge => hk44 _ rfl
    have hlt : j < 8 * d.length := by have hlt : (j : Int) < 8 * (d.length : Int) := of_decide_eq_true hlt; omega
    have hdv : ((j : Int)).tdiv 8 = ((j / 8 : Nat) : Int) := rfl
    have hmd : ((j : Int)).tmod 8 = ((j % 8 : Nat) : Int) := rfl
    have hdw : w64 ((j / 8 : Nat) : Int) = ((j / 8 : Nat) : Int) := w64_in (by omega) (by omega)
    have hmw : IntKind.wrap .u64 ((j % 8 : Nat) : Int) = ((j % 8 : Nat) : Int) := wrap64 (by omega) (by omega)
    rw [hdv, hmd, hdw, hmw]
    have hjd : j / 8 < d.length := by omega
    have hjx : j / 8 < x.length := by omega
    have hbd := hBd.at hjd
    have hbx := hBx.at hjx
    have hgd : d[j / 8]? = some (d.getD (j / 8) 0) := by simp [List.getD, List.getElem?_eq_getElem hjd]
    have hgx : x[j / 8]? = some (x.getD (j / 8) 0) := by simp [List.getD, List.getElem?_eq_getElem hjx]
    refine hr0.ix rfl rfl hgd fun b1 o1 _ hc1 => ld_cell (k := .int .u8) (d.getD (j / 8) 0) (EUcell hc1) ⟨by omega, ?_⟩
    refine hr1.ix rfl rfl hgx fun b2 o2 _ hc2 => ld_cell (k := .int .u8) (x.getD (j / 8) 0) (EUcell hc2) ⟨by omega, ?_⟩
    have hv : ∀ y : Int, 0 ≤ y → y < 256 → bitI .and .u8 (shrI .u8 y ((j % 8 : Nat) : Int)) 1 = b01 (tb y (j % 8)) := fun y h0 h1 => by
      have hN : y = ((y.toNat : Nat) : Int) := by omega
      have := bit_and (k := .u8) rfl (by decide) (n := y.toNat) (j := j % 8) (by show y.toNat < 2 ^ 8; omega)
      rw [← hN] at this; exact this
    rw [hv _ hbd.1 hbd.2, hv _ hbx.1 hbx.2]
    have htj := htb j hlt
    refine join1 (fun c v => v = u ∧ c = (decide (q ≤ j ∧ j < q + 32) && tb mask (j - q))) ?_ ?_
    · intro k54 hk54
      have hq32 : w64 ((q : Int) + 32) = ((q + 32 : Nat) : Int) := by rw [w64_in (by omega) (by omega)]; omega
      rw [hq32]
      refine ifK_intro (fun h3 => ifK_intro (fun h4 => ?_) fun h4 => hk54 _ _ ⟨rfl, ?_⟩) fun h3 => hk54 _ _ ⟨rfl, ?_⟩
      · have h3 : q ≤ j := by have h3 : (q : Int) ≤ (j : Int) := of_decide_eq_true h3; omega
        have h4 : j < q + 32 := by have h4 : (j : Int) < ((q + 32 : Nat) : Int) := of_decide_eq_true h4; omega
        have hsub : w64 ((j : Int) - (q : Int)) = ((j - q : Nat) : Int) := by rw [w64_in (by omega) (by omega)]; omega
        have hsw : IntKind.wrap .u64 ((j - q : Nat) : Int) = ((j - q : Nat) : Int) := wrap64 (by omega) (by omega)
        rw [hsub, hsw]
        refine ⟨Int.natCast_nonneg _, hk54 _ _ ⟨rfl, ?_⟩⟩
        have hM : mask = ((mask.toNat : Nat) : Int) := by omega
        have hb := bit_and (k := .u32) rfl (by decide) (n := mask.toNat) (j := j - q) (by show mask.toNat < 2 ^ 32; omega)
        rw [← hM] at hb
        rw [hb, decide_eq_true ⟨h3, h4⟩]
        unfold tb
        cases mask.toNat.testBit (j - q) <;> rfl
      · have h4 : ¬ (j < q + 32) := by have h4 : ¬ (j : Int) < ((q + 32 : Nat) : Int) := of_decide_eq_false h4; omega
        rw [decide_eq_false (fun h => h4 h.2)]; rfl
      · have h3 : ¬ (q ≤ j) := by have h3 : ¬ (q : Int) ≤ (j : Int) := of_decide_eq_false h3; omega
        rw [decide_eq_false (fun h => h3 h.1)]; rfl
    rintro c v ⟨rfl, rfl⟩
    refine neq_bool ?_
    have hcc : ((b01 (tb (d.getD (j / 8) 0) (j % 8)) != b01 (tb (x.getD (j / 8) 0) (j % 8))) != (decide (q ≤ j ∧ j < q + 32) && tb mask (j - q))) = false := by
      unfold tbit at htj
      rw [htj]
      cases tb (d.getD (j / 8) 0) (j % 8) <;> cases (decide (q ≤ j ∧ j < q + 32) && tb mask (j - q)) <;> rfl
    rw [hcc]
    refine ifK_f rfl ⟨⟨rfl, j + 1, step64 (by omega), by omega⟩, ?_⟩
    rw [step64 (by omega)]; omega
  rintro u rfl
  rw [← h4.bs]
  refine flip_ok hst5 [97] (q : Int) mask hm0 hm1 fun g6 w6 h6 => ?_
  have e6 : flipA [97] (q : Int) mask g4.abs = (0, abA d d true true) := by
    rw [h4.abs, h3.abs, h2.abs]
    simp only
    rw [flip_a, if_neg (by rw [hxl]; exact hne), Int.toNat_natCast, htw]
  rw [e6] at h6 ⊢
  rw [← h6.bs]
  refine read_ok h6.st [97] 0 _ (by decide) fun sl7 ro7 g7 w7 h7 hv7 => ?_
  have e7 : readS [97] 0 (d.length : Int) g6.abs g6.mt = (0, d, (w64 (g6.mt.1 + 1), w64 (g6.mt.2.1 + d.length), mxI g6.mt.2.2 d.length)) := by rw [h6.abs]; exact rd_a d d _
  rw [e7] at h7 hv7 ⊢
  refine join1 (fun c u => c = true ∧ Mod F0 w u) ?_ ?_
  · intro k hk
    refine ifK_t rfl (ifK_t rfl ?_)
    refine same_ok (hv7.rd fun p hp => h7.st.at_.own p (by simp [hp])) (hd.keep h7.st.at_.mod fun _ _ => id) (by show d.length ≤ _; omega) (by omega) fun w8 hM8 => ?_
    rw [decide_eq_true rfl]
    exact ifK_t rfl (head_ok fun w9 hM9 => hk _ _ ⟨rfl, mod0 (mod0 h7.st.at_.mod hM8) hM9⟩)
  · rintro c u ⟨rfl, hM⟩; exact hK u hM
end Go.Proofs.Ytjldecomhpngmaa
