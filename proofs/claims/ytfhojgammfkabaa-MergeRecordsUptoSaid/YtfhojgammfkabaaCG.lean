/- Records are compared as wholes; the reference's Records, walked. -/
import Derived.Test.YtfhojgammfkabaaCY
import Derived.Test.YtfhojgammfkabaaG1
import Derived.Laws.StructEq
namespace Go.Proofs.Ytfhojgammfkabaa.Rc
open Go.Vw

theorem run_eq_rec (w : World) (a c : Int) (s1 s2 t1 t2 : ByteArray) : (Op.equalIn 10000 91 (.agg #[.int .i64 a, .string s1, .string s2]) (.agg #[.int .i64 c, .string t1, .string t2])).run Try.prog w = .ok (a == c && s1.toList == t1.toList && s2.toList == t2.toList) w := by
  have hf : Try.prog.fieldsOf 91 = #[{ name := "Part", type := 3, offset := 0, embedded := false, tag := "", pkgPath := "", byteOffset := 0 }, { name := "Key", type := 9, offset := 1, embedded := false, tag := "", pkgPath := "", byteOffset := 8 }, { name := "Value", type := 9, offset := 2, embedded := false, tag := "", pkgPath := "", byteOffset := 24 }] := by
    simp [Program.fieldsOf, Try.underlying91]
  rw [run_equalIn_struct w 9999 91 _ _ (by rw [hf]; exact Try.underlying91) Try.stoodInHeld91, hf]
  have h3 : Try.prog.underlying 3 = some (.int .i64) := Try.underlying3
  have h9 : Try.prog.underlying 9 = some .string := Try.underlying9
  simp [Op.eqFields, part, run_equalIn_int _ _ _ _ _ _ _ h3, run_equalIn_string _ _ _ _ _ h9, Result.andThen]
  by_cases h1 : a = c <;> by_cases h2 : s1.toList = t1.toList <;> by_cases h3 : s2.toList = t2.toList <;> simp [h1, h2, h3]
theorem neq_rec {w : World} {x : Thing} {o1 o2 : Operand} {K : Bool → World → Prop} (hK : K false w) :
    opF Try.prog (vS (do eqGuard .neq 91 o1 o2 (.agg #[(LV.toV (.int .i64 x.1)), (LV.toV (.str x.2.1)), (LV.toV (.str x.2.2))]) (.agg #[(LV.toV (.int .i64 x.1)), (LV.toV (.str x.2.1)), (LV.toV (.str x.2.2))]); binOp .neq 91 (.agg #[(LV.toV (.int .i64 x.1)), (LV.toV (.str x.2.1)), (LV.toV (.str x.2.2))]) (.agg #[(LV.toV (.int .i64 x.1)), (LV.toV (.str x.2.1)), (LV.toV (.str x.2.2))]))) w (.one (.leaf .bool)) K := by
  refine ⟨[.bool false], w, ?_, hK⟩
  simp only [vS, Sem.run_bind, run_eqGuard_agg w .neq 91 o1 o2 _ _ Try.eqGuardType91, Result.andThen, run_neq_struct, LV.toV, run_eq_rec, beq_self_eq_true, Bool.and_self]
  rfl
theorem sameRecords_ok {w : World} {a b : Sl} {xs : List Thing} (ha : RdS w ET a xs) (hb : RdS w ET b xs) (hl : xs.length ≤ 1048576) {K : Bool → World → Prop} (hK : ∀ w', Mod (fun _ => False) w w' → K true w') : callK Try.prog 38 [.leaf (.sl a), .leaf (.sl b)] w (.one (.leaf .bool)) K := by
  refine go_winnowlaw11_sameRecords _ _ _ _ ?_
  unfold S_winnowlaw11_sameRecords
  refine ifK_f (by rw [ha.len, hb.len]; simp) (join0 (fun w' => Mod (fun _ => False) w w') (fun k hk => ?_) fun w' hM => hK w' hM)
  refine loop1 (k := .int .i64) (fun x w' => ∃ i : Nat, x = i ∧ i ≤ xs.length ∧ Mod (fun _ => False) w w') (fun x _ => xs.length - x.toNat) rfl ⟨0, rfl, Nat.zero_le _, Mod.refl _ _⟩ ?_
  rintro x w6 ⟨i, rfl, hi, hM⟩
  refine ifK_intro (fun hlt => ?_) (fun _ => hk _ hM)
  have hlt' : i < xs.length := by rw [ha.len] at hlt; simpa using hlt
  refine ⟨fun _ => False, ?_⟩
  have hM' : Mod (fun _ => False) w w6.drew := mod0 hM (Mod.drew _ _)
  refine (ha.keep hM' fun _ _ => id).ix rfl rfl (List.getElem?_eq_getElem hlt') fun b1 o1 _ hc => ldD_cell (k := .int .i64) xs[i].1 id (hc 0 (by decide)) (ldD_cell (k := .str) xs[i].2.1 id (hc 1 (by decide)) (ldD_cell (k := .str) xs[i].2.2 id (hc 2 (by decide)) ?_))
  refine (hb.keep hM' fun _ _ => id).ix rfl rfl (List.getElem?_eq_getElem hlt') fun b1 o1 _ hc => ldD_cell (k := .int .i64) xs[i].1 id (hc 0 (by decide)) (ldD_cell (k := .str) xs[i].2.1 id (hc 1 (by decide)) (ldD_cell (k := .str) xs[i].2.2 id (hc 2 (by decide)) ?_))
  refine neq_rec ⟨Mod.refl _ _, ifK_f rfl ?_⟩
  rw [set_step (by omega)]
  exact ⟨⟨i + 1, rfl, hlt', hM'⟩, by simp; omega⟩
/-- lists of records -/
structure LsAt (w : World) (s : Sl) (xs : List Sl) (Ls : List (List Thing)) : Prop where
  rd : RdS w ESl s xs
  len : Ls.length = xs.length
  each : ∀ (i : Nat) (x : Sl) (l : List Thing), xs[i]? = some x → Ls[i]? = some l → RdS w ET x l
theorem LsAt.keep {w w' : World} {s : Sl} {xs : List Sl} {Ls : List (List Thing)} (h : LsAt w s xs Ls) (hM : Mod (fun _ => False) w w') : LsAt w' s xs Ls :=
  ⟨h.rd.keep hM fun _ _ => id, h.len, fun i x l h1 h2 => (h.each i x l h1 h2).keep hM fun _ _ => id⟩
theorem adj_iff : ∀ (l : List Thing), adj l = true ↔ ∀ j, j + 1 < l.length → bf (getT l (j + 1)) (getT l j) = false
  | [] => by simp [adj]
  | [x] => by simp [adj]
  | x :: y :: r => by
    simp only [adj, Bool.and_eq_true, Bool.not_eq_true']
    rw [adj_iff (y :: r)]
    constructor
    · rintro ⟨h1, h2⟩ j hj
      cases j with
      | zero => exact h1
      | succ j => exact h2 j (by simpa using hj)
    · intro h
      exact ⟨h 0 (by simp), fun j hj => h (j + 1) (by simpa using hj)⟩
def Srt (l : List Thing) : Prop := l.Pairwise fun a b => bf b a = false
theorem srt_ins {r : Thing} : ∀ {l : List Thing}, Srt l → Srt (ins r l)
  | [], _ => by simp [ins, Srt]
  | y :: t, h => by
    obtain ⟨h1, h2⟩ := List.pairwise_cons.1 h
    rw [ins]
    split
    · rename_i hb
      refine List.pairwise_cons.2 ⟨fun z hz => ?_, h⟩
      rcases List.mem_cons.1 hz with e | hz
      · rw [e]; exact bf_asym hb
      · exact bf_nt (h1 z hz) (bf_asym hb)
    · rename_i hb
      have hb : bf r y = false := by simpa using hb
      refine List.pairwise_cons.2 ⟨fun z hz => ?_, srt_ins h2⟩
      rcases mem_ins hz with e | hz
      · rw [e]; exact hb
      · exact h1 z hz
theorem srt_srtA : ∀ {l acc : List Thing}, Srt acc → Srt (srtA acc l)
  | [], _, h => h
  | _ :: l, _, h => srt_srtA (l := l) (srt_ins h)
theorem dlt {a b : Nat} (h : decide ((a : Int) < (b : Int)) = true) : a < b := Int.ofNat_lt.1 (of_decide_eq_true h)
theorem dge {a b : Nat} (h : decide ((a : Int) < (b : Int)) = false) : b ≤ a := Nat.not_lt.1 fun k => of_decide_eq_false h (Int.ofNat_lt.2 k)
theorem dpos {a : Nat} (h : decide ((0 : Int) < (a : Int)) = true) : 0 < a := Int.ofNat_lt.1 (of_decide_eq_true h)
theorem dzero {a : Nat} (h : decide ((0 : Int) < (a : Int)) = false) : a = 0 := Nat.eq_zero_of_not_pos fun k => of_decide_eq_false h (Int.ofNat_lt.2 k)
theorem ins_at {r : Thing} : ∀ {l : List Thing} {n : Nat}, Srt l → n ≤ l.length → (∀ j, n ≤ j → j < l.length → bf r (getT l j) = true) → (n = 0 ∨ bf r (getT l (n - 1)) = false) → l.take n ++ [r] ++ l.drop n = ins r l
  | [], n, _, hn, _, _ => by
    have : n = 0 := by simpa using hn
    subst this; rfl
  | y :: t, 0, _, _, h1, _ => by
    have := h1 0 (Nat.le_refl _) (by simp)
    rw [ins, if_pos (show bf r y = true from this)]; rfl
  | y :: t, n + 1, hs, hn, h1, h2 => by
    obtain ⟨s1, s2⟩ := List.pairwise_cons.1 hs
    have h2 : bf r (getT (y :: t) n) = false := by
      rcases h2 with h2 | h2
      · omega
      · exact h2
    have hy : bf r y = false := by
      cases n with
      | zero => exact h2
      | succ m =>
        have hm : m < t.length := by simp at hn; omega
        have hg : getT (y :: t) (m + 1) = t[m] := by simp [getT, hm]
        rw [hg] at h2
        exact bf_nt h2 (s1 _ (List.getElem_mem hm))
    rw [ins, if_neg (by rw [hy]; decide)]
    show y :: (t.take n ++ [r] ++ t.drop n) = _
    rw [ins_at s2 (by simpa using hn) (fun j hj hl => h1 (j + 1) (by omega) (by simpa using hl)) (by
      cases n with
      | zero => exact .inl rfl
      | succ m => exact .inr h2)]
theorem take_srt (acc : List Thing) (l : List Thing) {k : Nat} (h : k < l.length) : srtA acc (l.take (k + 1)) = ins (getT l k) (srtA acc (l.take k)) := by
  rw [List.take_add_one, srtA_app, List.getElem?_eq_getElem h]
  simp [srtA, getT, h]
theorem srtA_len : ∀ (l acc : List Thing), (srtA acc l).length = acc.length + l.length
  | [], acc => rfl
  | r :: l, acc => by
    have hi : ∀ (l : List Thing), (ins r l).length = l.length + 1 := by
      intro l
      induction l with
      | nil => rfl
      | cons y t ih => rw [ins]; split <;> simp [ih]
    show (srtA (ins r acc) l).length = _
    rw [srtA_len l, hi]; simp; omega
theorem ref_records {w : World} {s : Sl} {xs : List Sl} {Ls : List (List Thing)} (h : LsAt w s xs Ls) (hn : Ls.length ≤ 1048576) (htot : Ls.flatten.length ≤ 1048576) {K : Sl → Int → World → Prop}
    (hK : ∀ out w', Vec w' ET out (recs Ls).1 → (∀ b, bk out b → w.heap.size ≤ b) → Mod (fun _ => False) w w' → K out (recs Ls).2 w') :
    callK Try.prog 37 [.leaf (.sl s)] w (.tup [.leaf .sl, .leaf (.int .i64)]) K := by
  refine go_winnowref11_Records _ _ _ ?_
  unfold S_winnowref11_Records
  have hsl : (s.len : Int) = Ls.length := by rw [h.rd.len, h.len]
  have hbknil : ∀ b, bk (⟨none, 0, 0⟩ : Sl) b → w.heap.size ≤ b := fun b hb => by obtain ⟨o, h⟩ := hb; cases h
  have hno : ∀ w', Mod (fun _ => False) w w' → (recs Ls).1 = [] → K ⟨none, 0, 0⟩ (recs Ls).2 w' := fun w' hM he => hK _ w' (by rw [he]; exact Vec.nil _ _) hbknil hM
  refine ifK_intro (fun hb => ?_) (fun hb => ?_)
  · have hb' : 64 < Ls.length := by rw [hsl] at hb; have := of_decide_eq_true hb; omega
    have he : recs Ls = ([], 3) := by unfold recs; rw [if_pos hb']
    have := hno w (Mod.refl _ _); rw [he] at this; exact this rfl
  have hb' : ¬ 64 < Ls.length := by rw [hsl] at hb; have := of_decide_eq_false hb; omega
  have hbad : ∀ w', Mod (fun _ => False) w w' → Ls.all adj = false → K ⟨none, 0, 0⟩ 61 w' := fun w' hM ha => by
    have he : recs Ls = ([], 61) := by unfold recs; rw [if_neg hb', if_neg (by rw [ha]; decide)]
    have := hno w' hM; rw [he] at this; exact this rfl
  have hpart : ∀ i, i < Ls.length → (Ls.take i).flatten.length + (Ls[i]?.getD []).length ≤ Ls.flatten.length := fun i hi => by
    have h1 : Ls.flatten = (Ls.take i).flatten ++ (Ls.drop i).flatten := by rw [← List.flatten_append, List.take_append_drop]
    rw [h1, List.drop_eq_getElem_cons hi, List.flatten_cons, List.length_append, List.length_append, List.getElem?_eq_getElem hi]
    simp only [Option.getD_some]
    omega
  let St (out : Sl) (w' : World) (l : List Thing) : Prop := Vec w' ET out l ∧ (∀ b, bk out b → w.heap.size ≤ b) ∧ Mod (fun _ => False) w w'
  refine join1 (a := .sl) (fun out w' => St out w' (srtA [] Ls.flatten) ∧ ∀ l ∈ Ls, adj l = true) (fun k hk => ?_) ?_
  rotate_left
  · rintro out w' ⟨⟨h1, h2, h3⟩, h4⟩
    have he : recs Ls = (srtA [] Ls.flatten, 0) := by unfold recs; rw [if_neg hb', if_pos (List.all_eq_true.2 h4)]
    have := hK out w'; rw [he] at this; exact this h1 h2 h3
  refine loop2 (k1 := .sl) (k2 := .int .i64) (fun out x w' => ∃ i : Nat, x = i ∧ i ≤ Ls.length ∧ St out w' (srtA [] (Ls.take i).flatten) ∧ ∀ l ∈ Ls.take i, adj l = true) (fun _ x _ => Ls.length - x.toNat) rfl rfl
    ⟨0, rfl, Nat.zero_le _, ⟨by simpa [srtA] using Vec.nil w ET, hbknil, Mod.refl _ _⟩, by simp⟩ ?_
  rintro out x w6 ⟨i, rfl, hi, hst, hadj⟩
  rw [hsl]
  refine ifK_intro (fun hlt => ?_) (fun hlt => ?_)
  rotate_left
  · have hge : i = Ls.length := Nat.le_antisymm hi (dge hlt)
    subst hge
    rw [List.take_length] at hst hadj
    exact hk _ _ ⟨hst, hadj⟩
  have hlt' : i < Ls.length := dlt hlt
  obtain ⟨L, hL⟩ : ∃ L, Ls[i]? = some L := ⟨_, List.getElem?_eq_getElem hlt'⟩
  obtain ⟨sx, hsx⟩ : ∃ sx, xs[i]? = some sx := ⟨_, List.getElem?_eq_getElem (by rw [← h.len]; exact hlt')⟩
  have hpi := hpart i hlt'
  rw [hL] at hpi
  simp only [Option.getD_some] at hpi
  have hLm : L ∈ Ls := List.mem_of_getElem? hL
  have hrL : ∀ {w' : World}, Mod (fun _ => False) w w' → RdS w' ET sx L := fun hM => (h.each i sx L hsx hL).keep hM fun _ _ => id
  have hrs : ∀ {w' : World}, Mod (fun _ => False) w w' → RdS w' ESl s xs := fun hM => h.rd.keep hM fun _ _ => id
  have hsxl : (sx.len : Int) = L.length := by rw [(h.each i sx L hsx hL).len]
  generalize hacc : srtA [] (Ls.take i).flatten = acc at hst
  have hsacc : Srt acc := by rw [← hacc]; exact srt_srtA List.Pairwise.nil
  have hlacc : acc.length = (Ls.take i).flatten.length := by rw [← hacc, srtA_len]; simp
  refine join1 (a := .sl) (fun out w' => St out w' (srtA acc L) ∧ adj L = true) (fun k2 hk2 => ?_) ?_
  rotate_left
  · rintro out' w' ⟨h1, h2⟩
    rw [set_step (by omega)]
    refine ⟨⟨i + 1, rfl, hlt', ?_, ?_⟩, by simp; omega⟩
    · have : srtA [] (Ls.take (i + 1)).flatten = srtA acc L := by
        rw [List.take_add_one, hL, List.flatten_append, srtA_app, hacc]; simp
      rw [this]; exact h1
    · intro l hl
      rw [List.take_add_one, hL] at hl
      rcases List.mem_append.1 hl with hl | hl
      · exact hadj l hl
      · simp at hl; rw [hl]; exact h2
  refine loop2 (k1 := .sl) (k2 := .int .i64) (fun out x w' => ∃ k : Nat, x = k ∧ k ≤ L.length ∧ St out w' (srtA acc (L.take k)) ∧ ∀ j, j + 1 < k → bf (getT L (j + 1)) (getT L j) = false) (fun _ x _ => L.length - x.toNat) rfl rfl
    ⟨0, rfl, Nat.zero_le _, hst, by omega⟩ ?_
  rintro out9 x w11 ⟨k, rfl, hkL, ⟨hv, hbk, hM⟩, had⟩
  refine (hrs hM).ix rfl rfl hsx fun b o _ hc => ld_cell (k := .sl) sx (hc 0 (by decide)) ?_
  rw [hsxl]
  refine ifK_intro (fun hlt2 => ?_) (fun hlt2 => ?_)
  rotate_left
  · have hge : k = L.length := Nat.le_antisymm hkL (dge hlt2)
    subst hge
    rw [List.take_length] at hv
    exact hk2 _ _ ⟨⟨hv, hbk, hM⟩, (adj_iff L).2 had⟩
  have hkl : k < L.length := dlt hlt2
  have hget : ∀ {j}, j < L.length → L[j]? = some (getT L j) := fun hj => getT_at hj
  -- is it in order?
  refine join1 (a := .bool) (fun b w' => Mod (fun _ => False) w11 w' ∧ (b = true → adj L = false) ∧ (b = false → ∀ j, j + 1 < k + 1 → bf (getT L (j + 1)) (getT L j) = false)) (fun k3 hk3 => ?_) ?_
  · refine ⟨fun _ => False, ?_⟩
    have hMd : Mod (fun _ => False) w w11.drew := mod0 hM (Mod.drew _ _)
    refine ifK_intro (fun h0 => ?_) (fun h0 => ?_)
    · have h0' : 0 < k := dpos h0
      have hk1 : w64 ((k : Int) - 1) = ((k - 1 : Nat) : Int) := by rw [w64_in (by omega) (by omega)]; omega
      refine (hrs hMd).ix rfl rfl hsx fun b o _ hc => ldD_cell (k := .sl) sx id (hc 0 (by decide)) ?_
      refine (hrL hMd).ix rfl rfl (hget hkl) fun b o _ hc => ldD_cell (k := .int .i64) (getT L k).1 id (hc 0 (by decide)) (ldD_cell (k := .str) (getT L k).2.1 id (hc 1 (by decide)) (ldD_cell (k := .str) (getT L k).2.2 id (hc 2 (by decide)) ?_))
      refine (hrs hMd).ix rfl rfl hsx fun b o _ hc => ldD_cell (k := .sl) sx id (hc 0 (by decide)) ?_
      refine (hrL hMd).ix rfl hk1 (hget (by omega : k - 1 < L.length)) fun b o _ hc => ldD_cell (k := .int .i64) (getT L (k - 1)).1 id (hc 0 (by decide)) (ldD_cell (k := .str) (getT L (k - 1)).2.1 id (hc 1 (by decide)) (ldD_cell (k := .str) (getT L (k - 1)).2.2 id (hc 2 (by decide)) ?_))
      refine before_ok (x := getT L k) (y := getT L (k - 1)) fun w34 M34 => ⟨M34, hk3 _ _ ⟨mod0 (Mod.drew _ _) M34, fun hb => ?_, fun hb j hj => ?_⟩⟩
      · cases ha : adj L with
        | false => rfl
        | true =>
          have := (adj_iff L).1 ha (k - 1) (by omega)
          rw [Nat.sub_add_cancel h0', hb] at this; cases this
      · by_cases hjk : j + 1 < k
        · exact had j hjk
        · have e : j = k - 1 := by omega
          subst e
          rw [Nat.sub_add_cancel h0']; exact hb
    · have h0' : k = 0 := dzero h0
      exact hk3 _ _ ⟨Mod.drew _ _, (fun hb => by cases hb), fun _ j hj => by omega⟩
  rintro b15 w36 ⟨M36, hb1, hb2⟩
  have hM36 := mod0 hM M36
  refine ifK_intro (fun hb => hbad _ hM36 ?_) (fun hb => ?_)
  · cases ha : Ls.all adj with
    | false => rfl
    | true => have := List.all_eq_true.1 ha L hLm; rw [hb1 hb] at this; cases this
  have had' := hb2 hb
  refine (hrs hM36).ix rfl rfl hsx fun b o _ hc => ld_cell (k := .sl) sx (hc 0 (by decide)) ?_
  generalize hr : getT L k = r
  have hrk : L[k]? = some r := by rw [← hr]; exact hget hkl
  refine (hrL hM36).ix rfl rfl hrk fun b o _ hc => ld_cell (k := .int .i64) r.1 (hc 0 (by decide)) (ld_cell (k := .str) r.2.1 (hc 1 (by decide)) (ld_cell (k := .str) r.2.2 (hc 2 (by decide)) ?_))
  obtain ⟨rl, hvE, hrb, hrnd, hrbk⟩ := VecE.of_vec (hv.keep M36 fun _ _ => id)
  have hA36 : At w (fun _ => False) rl w36 := ⟨hM36, hrb, hrnd, fun p hp hlt => absurd hlt (Nat.not_lt.2 (hbk _ (hrbk p hp)))⟩
  refine hA36.alK fun b45 w46 _ hA46 _ => ?_
  have hA46 : At w (fun _ => False) ((b45, zT) :: rl) w46 := hA46.perm (List.perm_append_comm (l₁ := [_]))
  refine hA46.st 0 rfl (Nat.le_refl 3) fun w47 hA47 _ => ?_
  have hA47 : At w (fun _ => False) ([(b45, recC r)] ++ rl) w47 := hA47
  generalize hcur : srtA acc (L.take k) = cur at hvE
  have hscur : Srt cur := by rw [← hcur]; exact srt_srtA hsacc
  have hlcur : cur.length = acc.length + k := by rw [← hcur, srtA_len]; simp; omega
  have hol : (out9.len : Int) = cur.length := by rw [hvE.1]
  refine join1 (a := .int .i64) (fun x w' => ∃ n : Nat, x = n ∧ n ≤ cur.length ∧ (∀ j, n ≤ j → j < cur.length → bf r (getT cur j) = true) ∧ (n = 0 ∨ bf r (getT cur (n - 1)) = false) ∧ At w (fun _ => False) ([(b45, recC r)] ++ rl) w') (fun k4 hk4 => ?_) ?_
  · rw [hol]
    refine loop1 (k := .int .i64) (fun x w' => ∃ n : Nat, x = n ∧ n ≤ cur.length ∧ (∀ j, n ≤ j → j < cur.length → bf r (getT cur j) = true) ∧ At w (fun _ => False) ([(b45, recC r)] ++ rl) w') (fun x _ => x.toNat) rfl ⟨cur.length, rfl, Nat.le_refl _, fun j h1 h2 => by omega, hA47⟩ ?_
    rintro x w51 ⟨n, rfl, hnl, hall, hA51⟩
    refine join1 (a := .bool) (fun b w' => At w (fun _ => False) ([(b45, recC r)] ++ rl) w' ∧ (b = true → 0 < n ∧ bf r (getT cur (n - 1)) = true) ∧ (b = false → n = 0 ∨ bf r (getT cur (n - 1)) = false)) (fun k5 hk5 => ?_) ?_
    · refine ⟨fun _ => False, ?_⟩
      have hA53 := hA51.drew
      refine ifK_intro (fun h0 => ?_) (fun h0 => ?_)
      · have h0' : 0 < n := dpos h0
        have hn1 : w64 ((n : Int) - 1) = ((n - 1 : Nat) : Int) := by rw [w64_in (by omega) (by omega)]; omega
        refine hA53.ldD 0 (k := .int .i64) r.1 rfl rfl id (hA53.ldD 0 (k := .str) r.2.1 rfl rfl id (hA53.ldD 0 (k := .str) r.2.2 rfl rfl id ?_))
        have hlt3 : n - 1 < cur.length := by omega
        refine (VecE.of_at hA53 hvE).rd.ix rfl hn1 (getT_at hlt3) fun b o _ hc => ldD_cell (k := .int .i64) (getT cur (n - 1)).1 id (hc 0 (by decide)) (ldD_cell (k := .str) (getT cur (n - 1)).2.1 id (hc 1 (by decide)) (ldD_cell (k := .str) (getT cur (n - 1)).2.2 id (hc 2 (by decide)) ?_))
        refine before_ok (x := r) (y := getT cur (n - 1)) fun w63 M63 => ⟨M63, hk5 _ _ ⟨hA53.keep0 M63 fun _ => id, fun hb => ⟨h0', hb⟩, fun hb => .inr hb⟩⟩
      · have h0' : n = 0 := dzero h0
        exact hk5 _ _ ⟨hA53, (fun hb => by cases hb), fun _ => .inl h0'⟩
    · rintro b w65 ⟨hA65, c1, c2⟩
      refine ifK_intro (fun hb => ?_) (fun hb => ?_)
      · obtain ⟨h0', hbt⟩ := c1 hb
        have hn1 : w64 ((n : Int) - 1) = ((n - 1 : Nat) : Int) := by rw [w64_in (by omega) (by omega)]; omega
        rw [hn1]
        refine ⟨⟨n - 1, rfl, by omega, fun j h1 h2 => ?_, hA65⟩, by simp; omega⟩
        by_cases e : j = n - 1
        · rw [e]; exact hbt
        · exact hall j (by omega) h2
      · exact hk4 _ _ ⟨n, rfl, hnl, hall, c2 hb, hA65⟩
  · rintro x w67 ⟨n, rfl, hnl, h1, h2, hA67⟩
    have hv67 : Vec w67 ET out9 cur := VecE.of_at hA67 hvE
    have hb67 : Blk w67 b45 (recC r) := hA67.blk (i := 0) rfl
    refine slx_take (E := ET) hv67 hnl fun s68 hs68 => ?_
    refine (Vec.nil w67 ET).app hs68 rfl rfl (by simp; omega) fun a69 w70 hv70 hk70 M70 _ => ?_
    have M70 : Mod (fun _ => False) w67 w70 := M70.mono fun b _ ⟨o, e⟩ => by cases e
    have g70 : ∀ b, bk a69 b → w67.heap.size ≤ b := fun b hb => (hk70 b hb).resolve_left fun ⟨o, e⟩ => by cases e
    have hb70 := M70.blk hb67 id
    refine ld_cell (k := .int .i64) r.1 ((hb70.cell 0).trans rfl) (ld_cell (k := .str) r.2.1 ((hb70.cell 1).trans rfl) (ld_cell (k := .str) r.2.2 ((hb70.cell 2).trans rfl) ?_))
    refine (At.init w70 fun _ => False).alK fun b74 w75 hb74 hA75 M75 => ?_
    have hx : RdS w75 ET ⟨some (b74, 0), 1, 1⟩ [r] := rd_one (hA75.blk (i := 0) rfl)
    have M75' := mod0 M70 M75
    refine (hv70.keep M75 fun _ _ => id).app hx rfl rfl (by simp; omega) fun a76 w77 hv77 hk77 M77 _ => ?_
    have M77' : Mod (fun _ => False) w67 w77 := Mod.fresh M75' M77 fun x hx hb => by have := g70 x hb; omega
    have g77 : ∀ b, bk a76 b → w67.heap.size ≤ b := fun b hb => (hk77 b hb).elim (g70 b) fun h => Nat.le_trans M75'.size h
    refine slx_drop (E := ET) (hv67.keep M77' fun _ _ => id) hnl fun s78 hs78 => ?_
    refine hv77.app hs78 rfl rfl (by simp; omega) fun a79 w80 hv80 hk80 M80 _ => ?_
    have M80' : Mod (fun _ => False) w67 w80 := Mod.fresh M77' M80 fun x hx hb => by have := g77 x hb; omega
    rw [set_step (by omega)]
    refine ⟨⟨k + 1, rfl, hkl, ⟨?_, fun b hb => ?_, mod0 hA67.mod M80'⟩, had'⟩, by simp; omega⟩
    · rw [take_srt acc L hkl, hr, hcur, ← ins_at hscur hnl h1 h2]; exact hv80
    · have h3 : w67.heap.size ≤ b := (hk80 b hb).elim (g77 b) fun h => Nat.le_trans M77'.size h
      exact Nat.le_trans hA67.mod.size h3
end Go.Proofs.Ytfhojgammfkabaa.Rc
