/- Lists that are compared; a list with marks behind it; names. -/
import Derived.Test.YtjldecomhpngmaaDoorDJ
import Derived.Test.YtjldecomhpngmaaDoorDA
import Derived.Laws.StructEq
import Derived.Laws.Runes
namespace Go.Proofs.YtjldecomhpngmaaDoor
open Go.Vw

abbrev Spl := Int × Str
def ESs : Enc Spl := ⟨2, fun x => [(LV.int .i64 x.1).toV, (LV.str x.2).toV], fun _ => rfl, by decide, fun x v h => by simp at h; rcases h with rfl | rfl <;> rfl⟩
theorem sameTexts_ok {a b : Sl} {la lb : List Str} {w : World} (ha : RdS w EStr a la) (hb : RdS w EStr b lb) (hn : la.length ≤ 1099511627776) {K : Bool → World → Prop} (hK : ∀ w', Mod F0 w w' → K (decide (la = lb)) w') : callK Tryd.prog 13 [.leaf (.sl a), .leaf (.sl b)] w (.one (.leaf .bool)) K := by
  refine go_winnowlaw24_sameTexts _ _ _ _ ?_
  refine ifK_intro (fun h => ?_) fun h => ?_
  · have : la ≠ lb := by
      rintro rfl
      rw [ha.len, hb.len] at h; simp at h
    have := hK w (Mod.refl _ _)
    rw [decide_eq_false ‹la ≠ lb›] at this; exact this
  have hl : la.length = lb.length := by
    rw [ha.len, hb.len] at h
    have : (la.length : Int) = lb.length := by simpa using h
    omega
  refine join0 (fun w' => Mod F0 w w' ∧ la = lb) ?_ fun w' hw => by have := hK w' hw.1; rw [decide_eq_true hw.2] at this; exact this
  intro k hk
  refine loop1 (k := .int .i64) (fun (i : Int) u => Mod F0 w u ∧ ∃ j : Nat, i = j ∧ j ≤ la.length ∧ la.take j = lb.take j) (fun i _ => (la.length - i).toNat) (x := 0) rfl ⟨Mod.refl _ _, 0, rfl, by omega, by simp⟩ ?_
  rintro i u ⟨hM, j, rfl, hj, he⟩
  refine ifK_intro (fun h => ?_) fun h => ?_
  · rw [ha.len] at h
    have hlt : j < la.length := dlt h
    have hltb : j < lb.length := by omega
    have hM2 : Mod F0 w u.drew := mod0 hM (mod_drew u)
    have hla : la[j]? = some la[j] := List.getElem?_eq_getElem hlt
    have hlb : lb[j]? = some lb[j] := List.getElem?_eq_getElem hltb
    have hne' : la[j] ≠ lb[j] → la ≠ lb := by rintro h rfl; exact h rfl
    generalize la[j] = x at hla hne'
    generalize lb[j] = y at hlb hne'
    refine ⟨F0, (ha.keep hM2 fun _ _ => id).ix rfl rfl hla fun b1 o1 _ hc1 => ?_⟩
    refine ldD_cell (k := .str) x id (hc1 0 (by decide)) ?_
    refine (hb.keep hM2 fun _ _ => id).ix rfl rfl hlb fun b2 o2 _ hc2 => ?_
    refine ldD_cell (k := .str) y id (hc2 0 (by decide)) ?_
    refine ifK_intro (fun hne => ?_) fun heq => ?_
    · have hne : x ≠ y := by simpa using hne
      have := hK _ hM2
      rw [decide_eq_false (hne' hne)] at this; exact this
    · have heq : x = y := by simpa using heq
      refine ⟨⟨hM2, j + 1, step64 (by omega), by omega, ?_⟩, ?_⟩
      · rw [List.take_add_one, List.take_add_one, he, hla, hlb, heq]
      · rw [step64 (by omega)]; omega
  · rw [ha.len] at h
    have hlt : la.length ≤ j := dge h
    refine hk _ ⟨hM, ?_⟩
    rw [List.take_of_length_le hlt, List.take_of_length_le (by omega)] at he; exact he
theorem run_eq_split (w : World) (a : Int) (b : Str) (a' : Int) (b' : Str) : (Op.equalIn 10000 30 (.agg #[.int .i64 a, (LV.str b).toV]) (.agg #[.int .i64 a', (LV.str b').toV])).run Tryd.prog w = .ok (a == a' && b == b') w := by
  have hu := Tryd.underlying30
  rw [run_equalIn_struct w 9999 30 _ _ (by simp [Program.fieldsOf, hu]) Tryd.stoodInHeld30]
  have hf : Tryd.prog.fieldsOf 30 = Tryd.prog.fieldsOf 30 := rfl
  simp only [Program.fieldsOf, hu]
  have h2 : Tryd.prog.underlying 2 = some (.int .i64) := Tryd.underlying2
  have h9 : Tryd.prog.underlying 9 = some .string := Tryd.underlying9
  have hs : ∀ d, (Op.equalIn (d + 1) 9 (LV.str b).toV (LV.str b').toV).run Tryd.prog w = .ok (b == b') w := fun d => by
    simp only [LV.toV]
    rw [run_equalIn_string _ _ _ _ _ h9, ByteArray.toList_mk, ByteArray.toList_mk]
  simp [Op.eqFields, part, hs, run_equalIn_int _ _ _ _ _ _ _ h2, Result.andThen]
  by_cases h1 : a = a' <;> by_cases h2 : b = b' <;> simp [h1, h2]
theorem neq_split {w : World} {a : Int} {b : Str} {a' : Int} {b' : Str} {o1 o2 : Operand} {K : Bool → World → Prop} (hK : K (!(a == a' && b == b')) w) :
    opF Tryd.prog (vS (do eqGuard .neq 30 o1 o2 (.agg #[(LV.toV (.int .i64 a)), (LV.toV (.str b))]) (.agg #[(LV.toV (.int .i64 a')), (LV.toV (.str b'))]); binOp .neq 30 (.agg #[(LV.toV (.int .i64 a)), (LV.toV (.str b))]) (.agg #[(LV.toV (.int .i64 a')), (LV.toV (.str b'))]))) w (.one (.leaf .bool)) K := by
  refine ⟨[.bool (!(a == a' && b == b'))], w, ?_, hK⟩
  have h := run_eq_split w a b a' b'
  simp only [LV.toV] at h ⊢
  simp only [vS, Sem.run_bind, run_eqGuard_agg w .neq 30 o1 o2 _ _ Tryd.eqGuardType30, Result.andThen, run_neq_struct, h]
  rfl
theorem sameSplits_ok {a b : Sl} {la lb : List Spl} {w : World} (ha : RdS w ESs a la) (hb : RdS w ESs b lb) (hn : la.length ≤ 1099511627776) {K : Bool → World → Prop} (hK : ∀ w', Mod F0 w w' → K (decide (la = lb)) w') : callK Tryd.prog 7 [.leaf (.sl a), .leaf (.sl b)] w (.one (.leaf .bool)) K := by
  refine go_winnowlaw24_sameSplits _ _ _ _ ?_
  refine ifK_intro (fun h => ?_) fun h => ?_
  · have : la ≠ lb := by
      rintro rfl
      rw [ha.len, hb.len] at h; simp at h
    have := hK w (Mod.refl _ _)
    rw [decide_eq_false ‹la ≠ lb›] at this; exact this
  have hl : la.length = lb.length := by
    rw [ha.len, hb.len] at h
    have : (la.length : Int) = lb.length := by simpa using h
    omega
  refine join0 (fun w' => Mod F0 w w' ∧ la = lb) ?_ fun w' hw => by have := hK w' hw.1; rw [decide_eq_true hw.2] at this; exact this
  intro k hk
  refine loop1 (k := .int .i64) (fun (i : Int) u => Mod F0 w u ∧ ∃ j : Nat, i = j ∧ j ≤ la.length ∧ la.take j = lb.take j) (fun i _ => (la.length - i).toNat) (x := 0) rfl ⟨Mod.refl _ _, 0, rfl, by omega, by simp⟩ ?_
  rintro i u ⟨hM, j, rfl, hj, he⟩
  refine ifK_intro (fun h => ?_) fun h => ?_
  · rw [ha.len] at h
    have hlt : j < la.length := dlt h
    have hltb : j < lb.length := by omega
    have hM2 : Mod F0 w u.drew := mod0 hM (mod_drew u)
    have hla : la[j]? = some la[j] := List.getElem?_eq_getElem hlt
    have hlb : lb[j]? = some lb[j] := List.getElem?_eq_getElem hltb
    have hne' : la[j] ≠ lb[j] → la ≠ lb := by rintro h rfl; exact h rfl
    generalize la[j] = x at hla hne'
    generalize lb[j] = y at hlb hne'
    refine ⟨F0, (ha.keep hM2 fun _ _ => id).ix rfl rfl hla fun b1 o1 _ hc1 => ?_⟩
    refine ldD_cell (k := .int .i64) x.1 id (hc1 0 (by decide)) (ldD_cell (k := .str) x.2 id (hc1 1 (by decide)) ?_)
    refine (hb.keep hM2 fun _ _ => id).ix rfl rfl hlb fun b2 o2 _ hc2 => ?_
    refine ldD_cell (k := .int .i64) y.1 id (hc2 0 (by decide)) (ldD_cell (k := .str) y.2 id (hc2 1 (by decide)) ?_)
    refine neq_split ⟨Mod.refl _ _, ?_⟩
    have hxy : (x.1 == y.1 && x.2 == y.2) = decide (x = y) := by
      obtain ⟨x1, x2⟩ := x
      obtain ⟨y1, y2⟩ := y
      by_cases h1 : x1 = y1 <;> by_cases h2 : x2 = y2 <;> simp [h1, h2]
    rw [hxy]
    refine ifK_intro (fun hne => ?_) fun heq => ?_
    · have hne : x ≠ y := by simpa using hne
      have := hK _ hM2
      rw [decide_eq_false (hne' hne)] at this; exact this
    · have heq : x = y := by simpa using heq
      refine ⟨⟨hM2, j + 1, step64 (by omega), by omega, ?_⟩, ?_⟩
      · rw [List.take_add_one, List.take_add_one, he, hla, hlb, heq]
      · rw [step64 (by omega)]; omega
  · rw [ha.len] at h
    have hlt : la.length ≤ j := dge h
    refine hk _ ⟨hM, ?_⟩
    rw [List.take_of_length_le hlt, List.take_of_length_le (by omega)] at he; exact he
/-! ### a list with marks behind it -/
def mk1 : Str := [115, 112, 97, 114, 101]
def mk2 : Str := [114, 111, 111, 109]
theorem spare_ok {w0 w : World} {D : Nat → Prop} {m : BL} (hA : At w0 D m w) {s : Sl} {l : List Str} (hr : RdS w EStr s l) (hl : l.length ≤ 1073741824) {K : Sl → World → Prop}
    (hK : ∀ g ro w', At w0 D (m ++ ro) w' → VecL ro EStr g (l ++ [mk1, mk2]) → K g w') : callK Tryd.prog 4 [.leaf (.sl s)] w (.one (.leaf .sl)) K := by
  refine go_winnowlaw24_spare _ _ _ ?_
  refine appL (m := m) (ro := []) (l := ([] : List Str)) (by rw [List.append_nil]; exact hA) (E := EStr) (VecL.nil EStr) hr rfl rfl (by simp; omega) fun a ro w2 hA2 hv _ _ => ?_
  rw [List.nil_append] at hv
  refine hA2.alK fun b4 w5 _ hA5 _ => ?_
  have hr4 : RdS w5 EStr ⟨some (b4, 0), 2, 2⟩ [mk1, mk2] := by
    refine ⟨rfl, .inr ⟨b4, 0, rfl, fun i hi => ?_⟩, Nat.le_refl _⟩
    rw [(hA5.own (b4, _) (List.mem_append_right _ (List.mem_singleton.2 rfl))).cell, Nat.zero_add]; rfl
  have hA5' : At w0 D (m ++ ro) w5 := hA5.sub (List.sublist_append_left _ _)
  exact appL hA5' hv hr4 rfl rfl (by simp; omega) fun g ro2 w7 hA7 hv7 _ _ => hK g ro2 w7 hA7 hv7
theorem kept_ok {w : World} {g s : Sl} {l : List Str} (hg : RdS w EStr g (l ++ [mk1, mk2])) (hr : RdS w EStr s l) (hl : l.length ≤ 1073741824) {K : Bool → World → Prop} (hK : ∀ w', Mod F0 w w' → K true w') : callK Tryd.prog 8 [.leaf (.sl g), .leaf (.sl s)] w (.one (.leaf .bool)) K := by
  refine go_winnowlaw24_kept _ _ _ _ ?_
  have hgl : g.len = l.length + 2 := by rw [hg.len]; simp
  have hcap := hg.has
  refine join1 (fun c u => c = true ∧ Mod F0 w u) ?_ (by rintro c u ⟨rfl, h⟩; exact hK u h)
  intro k3 hk3
  rw [hr.len, hgl]
  have e2 : w64 ((l.length : Int) + 2) = ((l.length + 2 : Nat) : Int) := by rw [w64_in (by omega) (by omega)]; omega
  have e1 : w64 ((l.length : Int) + 1) = ((l.length + 1 : Nat) : Int) := by rw [w64_in (by omega) (by omega)]; omega
  rw [e2, e1]
  refine ifK_t (by simp) ⟨0, l.length, g.cap, rfl, rfl, rfl, Nat.zero_le _, by omega, Nat.le_refl _, ?_⟩
  have hcut : RdS w EStr (g.cut 1 0 l.length g.cap) (((l ++ [mk1, mk2]).take l.length).drop 0) := RdS.cutR hg (Nat.zero_le _) (by simp) (by omega)
  rw [List.drop_zero, List.take_left] at hcut
  refine sameTexts_ok hcut hr (by omega) fun u hM => ?_
  rw [decide_eq_true rfl]
  have hgu := hg.keep hM fun _ _ => id
  refine ifK_t rfl (hgu.ix rfl rfl (x := mk1) (by simp) fun b o _ hc => ld_cell (k := .str) mk1 (hc 0 (by decide)) ?_)
  refine ifK_t rfl (hgu.ix rfl rfl (x := mk2) (by simp) fun b o _ hc => ld_cell (k := .str) mk2 (hc 0 (by decide)) (hk3 _ _ ⟨rfl, hM⟩))
/-! ### names -/
def nameA (out : Str) (job : Int) : Str := if job < 0 ∨ 8 ≤ job then [] else (out ++ [45]) ++ Go.Lib.decDigits job.toNat
theorem name_ok {out : Str} (ho : out.length ≤ 1099511627776) (job : Int) {w : World} {K : Str → World → Prop} (hK : K (nameA out job) w) : callK Tryd.prog 9 [.leaf (.str out), .leaf (.int .i64 job)] w (.one (.leaf .str)) K := by
  refine go_chain_Name _ _ _ _ ?_
  refine join1 (fun c u => u = w ∧ (c = true ↔ job < 0 ∨ 8 ≤ job)) ?_ ?_
  · intro k3 hk3
    refine ifK_intro (fun h => hk3 _ _ ⟨rfl, ?_⟩) fun h => hk3 _ _ ⟨rfl, ?_⟩
    · have h : job < 0 := by simpa using h
      exact ⟨fun _ => .inl h, fun _ => rfl⟩
    · have h : ¬ job < 0 := by simpa using h
      rw [decide_eq_true_eq]; omega
  rintro c u ⟨rfl, hc⟩
  refine ifK_intro (fun h => ?_) fun h => ?_
  · have e : nameA out job = [] := by unfold nameA; rw [if_pos (hc.1 h)]
    rw [e] at hK; exact hK
  have h : ¬ (job < 0 ∨ 8 ≤ job) := fun x => by rw [hc.2 x] at h; cases h
  have e : nameA out job = (out ++ [45]) ++ Go.Lib.decDigits job.toNat := by unfold nameA; rw [if_neg h]
  rw [e] at hK
  have hj : job = ((job.toNat : Nat) : Int) := by omega
  have hj8 : job.toNat < 8 := by omega
  generalize job.toNat = i at hj hj8 hK
  subst hj
  have hd : (Go.Lib.decDigits i).length = 1 := by unfold Go.Lib.decDigits; rw [dif_pos (by omega)]; rfl
  refine ⟨by simp; omega, itoa_ok (by omega) ⟨?_, hK⟩⟩
  rw [hd]; simp; omega
theorem enc8 : ∀ i : Fin 8, Utf8.encode (48 + (i.1 : Int)) = ⟨#[UInt8.ofNat (48 + i.1)]⟩ := by decide +kernel
theorem dec8 : ∀ i : Fin 8, IntKind.wrap .i32 (w64 (48 + (i.1 : Int))) = 48 + (i.1 : Int) := by decide +kernel
theorem decimal_ok {i : Nat} (hi : i < 8) {w : World} {K : Str → World → Prop} (hK : K (Go.Lib.decDigits i) w) : callK Tryd.prog 15 [.leaf (.int .i64 (i : Int))] w (.one (.leaf .str)) K := by
  refine go_winnowref15_Decimal _ _ _ ?_
  have hd : Go.Lib.decDigits i = [UInt8.ofNat (48 + i)] := by unfold Go.Lib.decDigits; rw [dif_pos (by omega)]
  rw [hd] at hK
  refine ifK_intro (fun h => ?_) fun h => ?_
  · have h : (i : Int) = 0 := by simpa using h
    have : i = 0 := by omega
    subst this
    exact hK
  have h : (i : Int) ≠ 0 := by simpa using h
  refine join1 (a := .str) (fun (s : Str) u => s = [UInt8.ofNat (48 + i)] ∧ u = w) ?_ ?_
  · intro k2 hk2
    refine loop2 (k1 := .int .i64) (k2 := .str) (fun (v : Int) (s : Str) u => u = w ∧ ((v = i ∧ s = []) ∨ (v = 0 ∧ s = [UInt8.ofNat (48 + i)]))) (fun v _ _ => v.toNat) (x1 := (i : Int)) (x2 := []) rfl rfl ⟨rfl, .inl ⟨rfl, rfl⟩⟩ ?_
    rintro v s u ⟨rfl, hv⟩
    refine ifK_intro (fun h0 => ?_) fun h0 => ?_
    · have h0 : v ≠ 0 := by simpa using h0
      obtain ⟨rfl, rfl⟩ : v = i ∧ s = [] := by
        rcases hv with hv | hv
        · exact hv
        · exact absurd hv.1 h0
      have hm : ((i : Int)).tmod 10 = (i : Int) := by
        have e : ((i : Int)).tmod 10 = ((i % 10 : Nat) : Int) := rfl
        rw [e, Nat.mod_eq_of_lt (by omega)]
      have hq : ((i : Int)).tdiv 10 = 0 := by
        have e : ((i : Int)).tdiv 10 = ((i / 10 : Nat) : Int) := rfl
        rw [e, Nat.div_eq_of_lt (by omega)]; rfl
      rw [hm, hq]
      refine join1 (a := .int .i64) (fun (d : Int) u' => d = i ∧ u' = u) ?_ ?_
      · intro k7 hk7
        exact ifK_f (decide_eq_false (by omega)) (hk7 _ _ ⟨rfl, rfl⟩)
      rintro d u' ⟨rfl, rfl⟩
      have e1 := dec8 ⟨i, hi⟩
      have e2 := enc8 ⟨i, hi⟩
      simp only at e1 e2
      rw [e1]
      refine ⟨[.str [UInt8.ofNat (48 + i)]], u', ?_, ?_⟩
      · unfold vS
        have hrun := run_convert_int_string (P := Tryd.prog) u' 21 9 .i32 (48 + (i : Int)) (by rw [Tryd.underlying21]; rfl) Tryd.underlying9
        rw [e2] at hrun
        simp only [LV.toV, Sem.run_bind, hrun, Result.andThen]
        rfl
      · refine ⟨by simp, ⟨rfl, .inr ⟨rfl, by simp⟩⟩, ?_⟩
        have : w64 0 = 0 := rfl
        rw [this]; omega
    · have h0 : v = 0 := by simpa using h0
      rcases hv with ⟨rfl, _⟩ | ⟨_, hv⟩
      · exact absurd h0 h
      · exact hk2 _ _ ⟨hv, rfl⟩
  rintro s u ⟨rfl, rfl⟩
  refine join1 (a := .str) (fun (s : Str) v => s = [UInt8.ofNat (48 + i)] ∧ v = u) ?_ (by rintro s v ⟨rfl, rfl⟩; exact hK)
  intro k14 hk14
  exact ifK_f (decide_eq_false (by omega)) (hk14 _ _ ⟨rfl, rfl⟩)
theorem refname_ok {out : Str} (ho : out.length ≤ 1099511627776) (job : Int) {w : World} {K : Str → World → Prop} (hK : K (nameA out job) w) : callK Tryd.prog 10 [.leaf (.str out), .leaf (.int .i64 job)] w (.one (.leaf .str)) K := by
  refine go_winnowref24_Name _ _ _ _ ?_
  refine join1 (fun c u => u = w ∧ (c = true ↔ job < 0 ∨ 8 ≤ job)) ?_ ?_
  · intro k3 hk3
    refine ifK_intro (fun h => hk3 _ _ ⟨rfl, ?_⟩) fun h => hk3 _ _ ⟨rfl, ?_⟩
    · have h : job < 0 := by simpa using h
      exact ⟨fun _ => .inl h, fun _ => rfl⟩
    · have h : ¬ job < 0 := by simpa using h
      rw [decide_eq_true_eq]; omega
  rintro c u ⟨rfl, hc⟩
  refine ifK_intro (fun h => ?_) fun h => ?_
  · have e : nameA out job = [] := by unfold nameA; rw [if_pos (hc.1 h)]
    rw [e] at hK; exact hK
  have h : ¬ (job < 0 ∨ 8 ≤ job) := fun x => by rw [hc.2 x] at h; cases h
  have e : nameA out job = (out ++ [45]) ++ Go.Lib.decDigits job.toNat := by unfold nameA; rw [if_neg h]
  rw [e] at hK
  have hj : job = ((job.toNat : Nat) : Int) := by omega
  have hj8 : job.toNat < 8 := by omega
  generalize job.toNat = i at hj hj8 hK
  subst hj
  have hd : (Go.Lib.decDigits i).length = 1 := by unfold Go.Lib.decDigits; rw [dif_pos (by omega)]; rfl
  refine ⟨by simp; omega, decimal_ok hj8 ⟨?_, hK⟩⟩
  rw [hd]; simp; omega
end Go.Proofs.YtjldecomhpngmaaDoor
