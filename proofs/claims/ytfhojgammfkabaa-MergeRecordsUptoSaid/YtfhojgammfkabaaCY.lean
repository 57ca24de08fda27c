/- CD, CP, CF, CQ in one text. -/
import Derived.Test.YtfhojgammfkabaaCC
import Derived.Test.YtfhojgammfkabaaCB
import Derived.Test.YtfhojgammfkabaaQ3
/- Records' own sources: a closure each. -/
namespace Go.Proofs.Ytfhojgammfkabaa.Rc
open Go.Vw

structure Cs where
  n : Nat
  ba : Nat → Nat
  bl : Nat → Nat
  sl : Nat → Sl
  L : Nat → List Thing
  base : Nat
structure Cs.Ok (f : Cs) : Prop where
  inj : ∀ i j, i < f.n → j < f.n → f.ba i = f.ba j → i = j
  ne : ∀ i j, i < f.n → j < f.n → f.ba i ≠ f.bl j
  low : ∀ i, i < f.n → f.base ≤ f.ba i
  lowl : ∀ i, i < f.n → f.base ≤ f.bl i
  rd : ∀ i, i < f.n → ∀ b, rk (f.sl i) b → b < f.base
  len : ∀ i, i < f.n → (f.L i).length ≤ 1152921504606846976
  good : ∀ i, i < f.n → ∀ x ∈ f.L i, Gd x
structure Cs.I (f : Cs) (s : Nat → Nat) (F : Nat → Prop) (w : World) : Prop where
  F : ∀ b, F b ↔ ∃ i, i < f.n ∧ (b = f.ba i ∨ b = f.bl i)
  ba : ∀ i, i < f.n → Blk w (f.ba i) [.int .i64 (s i : Nat)]
  bl : ∀ i, i < f.n → Blk w (f.bl i) [(LV.sl (f.sl i)).toV]
  rd : ∀ i, i < f.n → RdS w ET (f.sl i) (f.L i)
  at_ : ∀ i, i < f.n → s i ≤ (f.L i).length
def Cs.ask (f : Cs) (s : Nat → Nat) (i : Nat) : (Thing × Bool × Int) × (Nat → Nat) :=
  match (f.L i)[s i]? with
  | some x => ((x, true, 0), upd s i (s i + 1))
  | none => (((0, [], []), false, 0), s)
theorem Cs.I.done {f : Cs} (hf : f.Ok) {s : Nat → Nat} {F : Nat → Prop} {w w' : World} (h : f.I s F w) {i : Nat} (hi : i < f.n) {x : Nat} (hM : Mod (fun b => b = f.ba i ∨ b = f.bl i) w w') (ha : Blk w' (f.ba i) [.int .i64 (x : Nat)]) (hl : Blk w' (f.bl i) [(LV.sl (f.sl i)).toV]) (hx : x ≤ (f.L i).length)
    (hbl : ∀ j, j < f.n → f.bl j = f.bl i → j = i) : f.I (upd s i x) F w' := by
  refine ⟨h.F, fun j hj => ?_, fun j hj => ?_, fun j hj => (h.rd j hj).keep hM fun b hb e => ?_, fun j hj => ?_⟩
  · by_cases hji : j = i
    · subst hji; rw [upd_same]; exact ha
    · rw [upd_ne _ _ hji]; exact hM.blk (h.ba j hj) fun e => e.elim (fun e => hji (hf.inj j i hj hi e)) fun e => hf.ne j i hj hi e
  · by_cases hji : j = i
    · subst hji; exact hl
    · exact hM.blk (h.bl j hj) fun e => e.elim (fun e => hf.ne i j hi hj e.symm) fun e => hji (hbl j hj e)
  · have h1 := hf.rd j hj b hb
    have h2 := hf.low i hi
    have h3 := hf.lowl i hi
    omega
  · by_cases hji : j = i
    · subst hji; rw [upd_same]; exact hx
    · rw [upd_ne _ _ hji]; exact h.at_ j hj
theorem closure_ok {f : Cs} (hf : f.Ok) (hbl : ∀ i j, i < f.n → j < f.n → f.bl i = f.bl j → i = j) {s : Nat → Nat} {F : Nat → Prop} {w : World} {i : Nat} {K : Int → List UInt8 → List UInt8 → Bool → Int → World → Prop} (hi : i < f.n) (h : f.I s F w)
    (hK : ∀ w', f.I (f.ask s i).2 F w' → Mod F w w' → K (f.ask s i).1.1.1 (f.ask s i).1.1.2.1 (f.ask s i).1.1.2.2 (f.ask s i).1.2.1 (f.ask s i).1.2.2 w') :
    callK Try.prog 50 [.leaf (.ptr (some (f.ba i, 0))), .leaf (.ptr (some (f.bl i, 0)))] w (.tup [.agg [.int .i64, .str, .str], .leaf .bool, .leaf (.int .i64)]) K := by
  refine go_merge_Records_1 _ _ _ _ _ _ ?_
  unfold S_merge_Records_1
  have hMF : ∀ w', Mod (fun b => b = f.ba i ∨ b = f.bl i) w w' → Mod F w w' := fun w' hM => hM.mono fun b _ e => (h.F b).2 ⟨i, hi, e⟩
  have h0 : At w (fun b => b = f.ba i ∨ b = f.bl i) [(f.ba i, [.int .i64 (s i : Nat)]), (f.bl i, [(LV.sl (f.sl i)).toV])] w :=
    ((At.init w _).add (h.ba i hi) (by simp) fun _ => .inl rfl).add (h.bl i hi) (by simpa using hf.ne i i hi hi) fun _ => .inr rfl
  refine h0.alK fun b5 w1 hb5 h1 _ => ?_
  have h1 : At w (fun b => b = f.ba i ∨ b = f.bl i) [(f.ba i, [.int .i64 (s i : Nat)]), (f.bl i, [(LV.sl (f.sl i)).toV]), (b5, zT)] w1 := h1
  have hlen : ((f.sl i).len : Int) = (f.L i).length := by rw [(h.rd i hi).len]
  have hle := h.at_ i hi
  have hlm := hf.len i hi
  refine h1.ld 0 (k := .int .i64) (s i : Int) rfl rfl (h1.ld 1 (k := .sl) (f.sl i) rfl rfl ?_)
  rw [hlen]
  refine ifK_intro (fun he => ?_) (fun he => ?_)
  · have he : s i = (f.L i).length := by have h : ((s i : Nat) : Int) = ((f.L i).length : Nat) := (beq_iff_eq (α := Int)).1 he; omega
    have hx : (f.L i)[s i]? = none := List.getElem?_eq_none (by omega)
    refine h1.st 2 rfl (Nat.le_refl 3) fun w2 h2 _ => ?_
    have h2 : At w (fun b => b = f.ba i ∨ b = f.bl i) [(f.ba i, [.int .i64 (s i : Nat)]), (f.bl i, [(LV.sl (f.sl i)).toV]), (b5, zT)] w2 := h2
    refine h2.ld 2 (k := .int .i64) 0 rfl rfl (h2.ld 2 (k := .str) [] rfl rfl (h2.ld 2 (k := .str) [] rfl rfl ?_))
    have hk := hK w2
    unfold Cs.ask at hk
    rw [hx] at hk
    refine hk ?_ (hMF _ h2.mod)
    have := h.done hf hi (x := s i) h2.mod (h2.blk (i := 0) rfl) (h2.blk (i := 1) rfl) hle fun j hj => hbl j i hj hi
    have hu : upd s i (s i) = s := by funext j; by_cases e : j = i <;> simp [upd, e]
    rwa [hu] at this
  · have hne : s i ≠ (f.L i).length := fun e => by rw [e] at he; exact absurd ((beq_iff_eq (α := Int)).2 rfl) (by rw [he]; decide)
    have hlt : s i < (f.L i).length := by omega
    obtain ⟨x, hx⟩ : ∃ x, (f.L i)[s i]? = some x := ⟨_, List.getElem?_eq_getElem hlt⟩
    have hw : w64 ((s i : Int) + 1) = ((s i + 1 : Nat) : Int) := by rw [w64_in (by omega) (by omega)]; omega
    refine h1.ld 0 (k := .int .i64) (s i : Int) rfl rfl ?_
    rw [hw]
    refine h1.st 0 rfl (Nat.le_refl 1) fun w2 h2 M2 => ?_
    have h2 : At w (fun b => b = f.ba i ∨ b = f.bl i) [(f.ba i, [.int .i64 (s i + 1 : Nat)]), (f.bl i, [(LV.sl (f.sl i)).toV]), (b5, zT)] w2 := h2
    refine h2.ld 1 (k := .sl) (f.sl i) rfl rfl (h2.ld 0 (k := .int .i64) ((s i + 1 : Nat) : Int) rfl rfl ?_)
    have hr := (h.rd i hi).keep h2.mod fun b hb e => by
      have h1 := hf.rd i hi b hb
      have h2 := hf.low i hi
      have h3 := hf.lowl i hi
      omega
    have hw2 : w64 (((s i + 1 : Nat) : Int) - 1) = (s i : Int) := by rw [w64_in (by omega) (by omega)]; omega
    rw [hw2]
    refine hr.ix rfl rfl hx fun b o hb hc => ?_
    refine ld_cell (k := .int .i64) x.1 (hc 0 (by decide)) (ld_cell (k := .str) x.2.1 (hc 1 (by decide)) (ld_cell (k := .str) x.2.2 (hc 2 (by decide)) ?_))
    refine h2.st 2 rfl (Nat.le_refl 3) fun w3 h3 _ => ?_
    have h3 : At w (fun b => b = f.ba i ∨ b = f.bl i) [(f.ba i, [.int .i64 (s i + 1 : Nat)]), (f.bl i, [(LV.sl (f.sl i)).toV]), (b5, recC x)] w3 := h3
    refine h3.ld 2 (k := .int .i64) x.1 rfl rfl (h3.ld 2 (k := .str) x.2.1 rfl rfl (h3.ld 2 (k := .str) x.2.2 rfl rfl ?_))
    have hk := hK w3
    unfold Cs.ask at hk
    rw [hx] at hk
    exact hk (h.done hf hi h3.mod (h3.blk (i := 0) rfl) (h3.blk (i := 1) rfl) hlt fun j hj => hbl j i hj hi) (hMF _ h3.mod)
/-- closures are sources -/
def Cs.src (f : Cs) (hf : f.Ok) (hbl : ∀ i j, i < f.n → j < f.n → f.bl i = f.bl j → i = j) : Srcs (Nat → Nat) where
  n := f.n
  v i := .func (.func 50) #[] #[(LV.toV (.ptr (some (f.ba i, 0)))), (LV.toV (.ptr (some (f.bl i, 0))))]
  ask := f.ask
  I := f.I
  base := f.base
  good s F w i hi h := by
    unfold Cs.ask
    split
    · rename_i x hx; exact hf.good i hi x (List.mem_of_getElem? hx)
    · exact Nat.zero_le _
  keep s F w w' D h hM hd hb := ⟨h.F, fun i hi => hM.blk (h.ba i hi) (hd _ ((h.F _).2 ⟨i, hi, .inl rfl⟩)), fun i hi => hM.blk (h.bl i hi) (hd _ ((h.F _).2 ⟨i, hi, .inr rfl⟩)), fun i hi => (h.rd i hi).keep hM fun b hbk => hb b (hf.rd i hi b hbk), h.at_⟩
  lt s F w b h hF := by
    obtain ⟨i, hi, rfl | rfl⟩ := (h.F b).1 hF
    · exact (h.ba i hi).lt
    · exact (h.bl i hi).lt
  call s F w i K hi h hK := by
    refine callV_func (CS_ok 50 rfl) [.leaf (.ptr (some (f.ba i, 0))), .leaf (.ptr (some (f.bl i, 0)))] (by rfl) ?_
    exact closure_ok hf hbl hi h fun w' h' hM => hK w' F h' hM fun b hb => .inl hb
def CsR (l : List Thing) (s : Nat) : Option (List Thing) → Prop
  | some r => s ≤ l.length ∧ r = l.drop s
  | none => s = l.length
def Cs.St (f : Cs) (t : Nat → Nat) (R : Nat → Option (List Thing)) : Prop := ∀ i, i < f.n → CsR (f.L i) (t i) (R i)
theorem Cs.lists (f : Cs) (hf : f.Ok) (hbl : ∀ i j, i < f.n → j < f.n → f.bl i = f.bl j → i = j) : Lists (f.src hf hbl) (fun _ => 0) f.St := by
  constructor
  · intro t R i x r hi hst hR
    have hi' : i < f.n := hi
    have h := hst i hi'
    rw [hR] at h
    obtain ⟨h1, h2⟩ := h
    have hlt : t i < (f.L i).length := by
      rcases Nat.lt_or_ge (t i) (f.L i).length with h | h
      · exact h
      · rw [List.drop_eq_nil_of_le h] at h2; cases h2
    have hd := List.drop_eq_getElem_cons hlt
    rw [← h2] at hd
    have hx : (f.L i)[t i]? = some x := by rw [List.getElem?_eq_getElem hlt]; cases hd; rfl
    have hr : r = (f.L i).drop (t i + 1) := by cases hd; rfl
    have ha : f.ask t i = ((x, true, 0), upd t i (t i + 1)) := by unfold Cs.ask; rw [hx]
    refine ⟨by show (f.ask t i).1 = _; rw [ha], fun j hj => ?_⟩
    show CsR (f.L j) ((f.ask t i).2 j) _
    rw [ha]
    by_cases hji : j = i
    · subst hji
      show CsR _ (upd t j (t j + 1) j) _
      rw [upd_same, upd_same]
      exact ⟨hlt, hr⟩
    · show CsR _ (upd t i (t i + 1) j) _
      rw [upd_ne _ _ hji, upd_ne _ _ hji]; exact hst j hj
  · intro t R i hi hst hR
    have hi' : i < f.n := hi
    have h := hst i hi'
    rw [hR] at h
    obtain ⟨h1, h2⟩ := h
    have hge : (f.L i).length ≤ t i := by
      rcases Nat.lt_or_ge (t i) (f.L i).length with h | h
      · rw [List.drop_eq_getElem_cons h] at h2; cases h2
      · exact h
    have hx : (f.L i)[t i]? = none := List.getElem?_eq_none hge
    have ha : f.ask t i = (((0, [], []), false, 0), t) := by unfold Cs.ask; rw [hx]
    refine ⟨by show (f.ask t i).1.2 = _; rw [ha], fun j hj => ?_⟩
    show CsR (f.L j) ((f.ask t i).2 j) _
    rw [ha]
    by_cases hji : j = i
    · subst hji
      rw [upd_same]
      exact Nat.le_antisymm h1 hge
    · rw [upd_ne _ _ hji]; exact hst j hj
end Go.Proofs.Ytfhojgammfkabaa.Rc

/- A merge of records: the texts of a merge of things, printed again by tools/rec.py. -/
namespace Go.Proofs.Ytfhojgammfkabaa.Rc
def cat (Q : Nat → List Thing) : Nat → List Thing
  | 0 => []
  | i + 1 => cat Q i ++ Q i
theorem mem_cat {Q : Nat → List Thing} {x : Thing} : ∀ {n : Nat}, x ∈ cat Q n ↔ ∃ i, i < n ∧ x ∈ Q i
  | 0 => by simp [cat]
  | n + 1 => by
    rw [cat, List.mem_append, mem_cat]
    constructor
    · rintro (⟨i, hi, h⟩ | h)
      · exact ⟨i, by omega, h⟩
      · exact ⟨n, by omega, h⟩
    · rintro ⟨i, hi, h⟩
      by_cases hin : i = n
      · subst hin; exact .inr h
      · exact .inl ⟨i, by omega, h⟩
theorem cat_length {Q : Nat → List Thing} : ∀ n, (cat Q n).length = remQ Q n
  | 0 => rfl
  | n + 1 => by rw [cat, List.length_append, cat_length n, remQ]
theorem cat_upd {Q : Nat → List Thing} {b : Nat} {x : Thing} {r : List Thing} (hq : Q b = x :: r) : ∀ n, (b < n → (cat Q n).Perm (x :: cat (upd Q b r) n)) ∧ (n ≤ b → cat (upd Q b r) n = cat Q n)
  | 0 => ⟨fun h => by omega, fun _ => rfl⟩
  | n + 1 => by
    obtain ⟨h1, h2⟩ := cat_upd hq n
    refine ⟨fun hb => ?_, fun hb => ?_⟩
    · rw [cat, cat]
      by_cases hbn : b < n
      · rw [upd_ne _ _ (by omega : n ≠ b)]
        exact (h1 hbn).append_right (Q n)
      · have e : n = b := by omega
        subst e
        rw [h2 (Nat.le_refl _), upd_same, hq]
        exact List.perm_middle
    · rw [cat, cat, h2 (by omega), upd_ne _ _ (by omega : n ≠ b)]
end Go.Proofs.Ytfhojgammfkabaa.Rc

/- Records, told plainly: a merge of sorted lists is the stable sort of them all; of an unsorted one an error. -/
namespace Go.Proofs.Ytfhojgammfkabaa.Rc

/-- a record is laid behind all that it does not come ahead of -/
def ins (r : Thing) : List Thing → List Thing
  | [] => [r]
  | y :: t => if bf r y then r :: y :: t else y :: ins r t
def srtA (acc l : List Thing) : List Thing := l.foldl (fun acc r => ins r acc) acc
def adj : List Thing → Bool
  | x :: y :: r => !bf y x && adj (y :: r)
  | _ => true
theorem adj_head : ∀ {x : Thing} {r : List Thing}, adj (x :: r) = true → ∀ y ∈ r, bf y x = false
  | x, [], _, y, hy => by cases hy
  | x, z :: r, h, y, hy => by
    simp only [adj, Bool.and_eq_true, Bool.not_eq_true'] at h
    rcases List.mem_cons.1 hy with e | hy
    · rw [e]; exact h.1
    · exact bf_nt (adj_head h.2 y hy) h.1
theorem adj_tail {x : Thing} {r : List Thing} (h : adj (x :: r) = true) : adj r = true := by
  cases r with
  | nil => rfl
  | cons y r => simp only [adj, Bool.and_eq_true] at h; exact h.2
theorem mem_ins {r y : Thing} : ∀ {l : List Thing}, y ∈ ins r l → y = r ∨ y ∈ l
  | [], h => by simp [ins] at h; exact .inl h
  | z :: t, h => by
    rw [ins] at h
    split at h
    · rcases List.mem_cons.1 h with e | h
      · exact .inl e
      · exact .inr h
    · rcases List.mem_cons.1 h with e | h
      · exact .inr (by simp [e])
      · rcases mem_ins h with e | h
        · exact .inl e
        · exact .inr (by simp [h])
theorem mem_srtA {y : Thing} : ∀ {l acc : List Thing}, y ∈ srtA acc l → y ∈ acc ∨ y ∈ l
  | [], acc, h => .inl h
  | r :: l, acc, h => by
    have h : y ∈ srtA (ins r acc) l := h
    rcases mem_srtA h with h | h
    · rcases mem_ins h with e | h
      · exact .inr (by simp [e])
      · exact .inl h
    · exact .inr (by simp [h])
theorem ins_front {x : Thing} {l : List Thing} (h : ∀ y ∈ l, bf x y = true) : ins x l = x :: l := by
  cases l with
  | nil => rfl
  | cons y t => rw [ins, if_pos (h y (by simp))]
theorem srtA_front {x : Thing} : ∀ {l acc : List Thing}, (∀ y ∈ l, bf y x = false) → srtA (x :: acc) l = x :: srtA acc l
  | [], acc, _ => rfl
  | r :: l, acc, h => by
    show srtA (ins r (x :: acc)) l = x :: srtA (ins r acc) l
    rw [ins, if_neg (by rw [h r (by simp)]; decide)]
    exact srtA_front fun y hy => h y (by simp [hy])
theorem srtA_app (acc l l' : List Thing) : srtA acc (l ++ l') = srtA (srtA acc l) l' := by unfold srtA; rw [List.foldl_append]
theorem srt_front {x : Thing} {A B : List Thing} (hA : ∀ y ∈ A, bf x y = true) (hB : ∀ y ∈ B, bf y x = false) : srtA [] (A ++ x :: B) = x :: srtA [] (A ++ B) := by
  rw [srtA_app, srtA_app]
  show srtA (ins x (srtA [] A)) B = _
  rw [ins_front fun y hy => hA y ((mem_srtA hy).resolve_left (by simp)), srtA_front hB]
theorem cat_split {Q : Nat → List Thing} {b : Nat} {r : List Thing} : ∀ {n : Nat}, b < n → ∃ B, cat Q n = cat Q b ++ (Q b ++ B) ∧ cat (upd Q b r) n = cat Q b ++ (r ++ B) ∧ ∀ y ∈ B, ∃ i, b < i ∧ i < n ∧ y ∈ Q i
  | 0, h => by omega
  | n + 1, h => by
    have same : ∀ m, m ≤ b → cat (upd Q b r) m = cat Q m := by
      intro m
      induction m with
      | zero => intro _; rfl
      | succ m ih => intro hm; rw [cat, cat, ih (by omega), upd_ne _ _ (by omega : m ≠ b)]
    by_cases hb : b < n
    · obtain ⟨B, h1, h2, h3⟩ := cat_split (Q := Q) (r := r) hb
      refine ⟨B ++ Q n, by rw [cat, h1]; simp, by rw [cat, h2, upd_ne _ _ (by omega : n ≠ b)]; simp, fun y hy => ?_⟩
      rcases List.mem_append.1 hy with hy | hy
      · obtain ⟨i, a1, a2, a3⟩ := h3 y hy; exact ⟨i, a1, by omega, a3⟩
      · exact ⟨n, hb, by omega, hy⟩
    · have : b = n := by omega
      subst this
      exact ⟨[], by rw [cat]; simp, by rw [cat, same b (Nat.le_refl _), upd_same]; simp, by simp⟩
theorem runF_rec {n : Nat} : ∀ (k : Nat) (Q : Nat → List Thing), remQ Q n ≤ k → (∀ i, i < n → adj (Q i) = true) → (runF n (fun _ => 0) k Q).2.1 = 0 ∧ (runF n (fun _ => 0) k Q).1 = srtA [] (cat Q n)
  | 0, Q, hk, _ => by
    have : cat Q n = [] := List.eq_nil_of_length_eq_zero (by rw [cat_length]; omega)
    rw [this]; exact ⟨rfl, rfl⟩
  | k + 1, Q, hk, h => by
    cases hs : scan Q n with
    | none =>
      rw [runF_none hs]
      have hn := scan_none.1 hs
      have : cat Q n = [] := by
        cases hc : cat Q n with
        | nil => rfl
        | cons x l =>
          obtain ⟨i, hi, hx⟩ := mem_cat.1 (by rw [hc]; exact List.mem_cons_self : x ∈ cat Q n)
          rw [hn i hi] at hx; cases hx
      rw [this]; exact ⟨rfl, rfl⟩
    | some b =>
      obtain ⟨hb, hne, hl⟩ := scan_some hs
      obtain ⟨x, r, hq⟩ : ∃ x r, Q b = x :: r := by
        cases hqb : Q b with
        | nil => exact absurd hqb hne
        | cons x r => exact ⟨x, r, rfl⟩
      rw [runF_some hs hq]
      have hrem := (remQ_upd hq n).1 hb
      have hadj := h b hb
      rw [hq] at hadj
      have hcf : contF n (fun _ => 0) k Q b x r = runF n (fun _ => 0) k (upd Q b r) := by
        unfold contF
        cases r with
        | nil => simp
        | cons y r' =>
          have := adj_head hadj y (by simp)
          simp [this]
      rw [hcf]
      obtain ⟨i1, i2⟩ := runF_rec (n := n) k (upd Q b r) (by omega) fun i hi => by
        by_cases hib : i = b
        · subst hib; rw [upd_same]; exact adj_tail hadj
        · rw [upd_ne _ _ hib]; exact h i hi
      refine ⟨i1, ?_⟩
      obtain ⟨B, c1, c2, c3⟩ := cat_split (Q := Q) (r := r) hb
      show x :: (runF n (fun _ => 0) k (upd Q b r)).1 = _
      rw [i2, c1, c2, hq]
      show _ = srtA [] (cat Q b ++ (x :: (r ++ B)))
      have hle : ∀ i, i < n → ∀ y ∈ Q i, bf y (hdK (Q i)) = false := by
        intro i hi y hy
        cases hqi : Q i with
        | nil => rw [hqi] at hy; cases hy
        | cons z t =>
          show bf y z = false
          have ha := h i hi
          rw [hqi] at hy ha
          rcases List.mem_cons.1 hy with e | hy
          · rw [e]; exact bf_irr _
          · exact adj_head ha y hy
      have hkb : hdK (Q b) = x := by rw [hq]; rfl
      refine (srt_front (fun y hy => ?_) fun y hy => ?_).symm
      · obtain ⟨i, hi, hy⟩ := mem_cat.1 hy
        have hin : i < n := by omega
        obtain ⟨l1, l2⟩ := hl i hin (fun e => by rw [e] at hy; cases hy)
        rw [hkb] at l1 l2
        have h3 := hle i hin y hy
        cases h4 : bf x (hdK (Q i)) with
        | false => have := l2 h4; omega
        | true =>
          cases h5 : bf x y with
          | true => rfl
          | false => have := bf_nt h5 h3; rw [h4] at this; cases this
      · rcases List.mem_append.1 hy with hy | hy
        · exact adj_head hadj y hy
        · obtain ⟨i, a1, a2, a3⟩ := c3 y hy
          obtain ⟨l1, _⟩ := hl i a2 (fun e => by rw [e] at a3; cases a3)
          rw [hkb] at l1
          exact bf_nt (hle i a2 y a3) l1
theorem runF_bad {n : Nat} : ∀ (k : Nat) (Q : Nat → List Thing), remQ Q n ≤ k → (∃ i, i < n ∧ adj (Q i) = false) → (runF n (fun _ => 0) k Q).2.1 = 61
  | 0, Q, hk, ⟨i, hi, ha⟩ => by
    exfalso
    have hne : Q i ≠ [] := fun e => by rw [e] at ha; cases ha
    have := remQ_pos hne n hi
    omega
  | k + 1, Q, hk, ⟨i, hi, ha⟩ => by
    have hne : Q i ≠ [] := fun e => by rw [e] at ha; cases ha
    cases hs : scan Q n with
    | none => exact absurd (scan_none.1 hs i hi) hne
    | some b =>
      obtain ⟨hb, hnb, hl⟩ := scan_some hs
      obtain ⟨x, r, hq⟩ : ∃ x r, Q b = x :: r := by
        cases hqb : Q b with
        | nil => exact absurd hqb hnb
        | cons x r => exact ⟨x, r, rfl⟩
      rw [runF_some hs hq]
      have hrem := (remQ_upd hq n).1 hb
      have rec' : (∃ i, i < n ∧ adj (upd Q b r i) = false) → (runF n (fun _ => 0) k (upd Q b r)).2.1 = 61 := runF_bad k (upd Q b r) (by omega)
      show (contF n (fun _ => 0) k Q b x r).2.1 = 61
      unfold contF
      cases r with
      | nil =>
        rw [if_neg (by simp)]
        refine rec' ⟨i, hi, ?_⟩
        by_cases hib : i = b
        · subst hib; rw [hq] at ha; cases ha
        · rw [upd_ne _ _ hib]; exact ha
      | cons y r' =>
        by_cases hbf : bf y x = true
        · simp only [hbf, if_true]
        · simp only [hbf]
          refine rec' ⟨i, hi, ?_⟩
          by_cases hib : i = b
          · subst hib
            rw [upd_same]
            rw [hq] at ha
            simp only [adj] at ha
            have hbf : bf y x = false := by simpa using hbf
            rw [hbf] at ha
            simpa using ha
          · rw [upd_ne _ _ hib]; exact ha
theorem firstE_zero {Q : Nat → List Thing} : ∀ (k i : Nat), firstE Q (fun _ => 0) k i = none
  | 0, _ => rfl
  | k + 1, i => by rw [firstE, if_neg (by simp)]; exact firstE_zero k _
/-- the lists, by number -/
def LQ (Ls : List (List Thing)) : Nat → List Thing := fun i => Ls[i]?.getD []
theorem cat_LQ (Ls : List (List Thing)) : cat (LQ Ls) Ls.length = Ls.flatten := by
  have : ∀ n, n ≤ Ls.length → cat (LQ Ls) n = (Ls.take n).flatten := by
    intro n
    induction n with
    | zero => intro _; simp [cat]
    | succ n ih =>
      intro hn
      have hlt : n < Ls.length := by omega
      rw [cat, ih (by omega), List.take_add_one, List.flatten_append]
      simp [LQ, hlt]
  rw [this _ (Nat.le_refl _), List.take_length]
/-- the plain answer -/
def recs (Ls : List (List Thing)) : List Thing × Int :=
  if 64 < Ls.length then ([], 3) else if Ls.all adj then (srtA [] Ls.flatten, 0) else ([], 61)
theorem runM_recs (Ls : List (List Thing)) : (Ls.all adj = true → runM Ls.length (fun _ => 0) (LQ Ls) = (srtA [] Ls.flatten, 0)) ∧ (Ls.all adj = false → (runM Ls.length (fun _ => 0) (LQ Ls)).2 = 61) := by
  unfold runM
  rw [firstE_zero]
  refine ⟨fun h => ?_, fun h => ?_⟩
  · obtain ⟨h1, h2⟩ := runF_rec _ (LQ Ls) (Nat.le_refl (remQ (LQ Ls) Ls.length)) fun i hi => by
      have := List.all_eq_true.1 h Ls[i] (List.getElem_mem hi)
      simpa [LQ, hi] using this
    simp only
    rw [h1, h2, cat_LQ]
  · refine runF_bad _ _ (Nat.le_refl _) ?_
    have : ¬ ∀ x ∈ Ls, adj x = true := fun h' => by rw [List.all_eq_true.2 h'] at h; cases h
    simp only [Classical.not_forall] at this
    obtain ⟨x, hx, ha⟩ := this
    obtain ⟨i, hi, he⟩ := List.mem_iff_getElem.1 hx
    exact ⟨i, hi, by simp [LQ, hi, he]; simpa using ha⟩
end Go.Proofs.Ytfhojgammfkabaa.Rc

/- A merge of records: the texts of a merge of things, printed again by tools/rec.py. -/
namespace Go.Proofs.Ytfhojgammfkabaa.Rc
open Go.Vw
theorem ins_ok {w0 w : World} {m rl : List (Nat × List Value)} (hA : At w0 (fun _ => False) (m ++ rl) w) {l : Sl} {ts : List Thing} (hv : VecE rl ET l ts) (hlen : ts.length ≤ 1048576) {x : Thing} {n : Nat} (hn : n ≤ ts.length) {K : Sl → World → Prop}
    {X : Sl → World → Prop} (hX : ∀ a39 w_40, Mod (fun _ => False) w0 w_40 → (Go.Vw.al w_40 91 [.int .i64 x.1, .str x.2.1, .str x.2.2] fun b48 w_49 => ap w_49 91 3 40 [.int .i64 0, .str [], .str []] a39 (⟨some (b48, 0), 1, 1⟩) fun a50 w_51 =>
      slx l 3 (some (n : Int)) none none fun s52 => ap w_51 91 3 40 [.int .i64 0, .str [], .str []] a50 s52 fun a53 w_54 => K a53 w_54) → X a39 w_40)
    (hK : ∀ l' rl' w', At w0 (fun _ => False) (m ++ rl') w' → VecE rl' ET l' (ts.take n ++ [x] ++ ts.drop n) → K l' w') :
    slx l 3 none (some (n : Int)) none fun s38 => ap w 91 3 40 [.int .i64 0, .str [], .str []] (⟨none, 0, 0⟩) s38 fun a39 w_40 => X a39 w_40 := by
  refine slx_take (E := ET) (VecE.of_at hA hv) hn fun s38 hs38 => ?_
  have hA0 : At w0 (fun _ => False) ((m ++ rl) ++ []) w := by rw [List.append_nil]; exact hA
  refine hA0.app (VecE.nil ET) hs38 rfl rfl (by simp; omega) fun a39 r1 w1 hA1 hv1 _ => hX _ _ hA1.mod ?_
  refine hA1.alK fun b48 w2 _ hA2 _ => ?_
  have hA2' : At w0 (fun _ => False) (((m ++ rl) ++ [(b48, recC x)]) ++ r1) w2 := hA2.perm (perm_tail3 _ _ _).symm
  have hx : RdS w2 ET ⟨some (b48, 0), 1, 1⟩ [x] := rd_one (hA2'.own (b48, recC x) (by simp))
  refine hA2'.app hv1 hx rfl rfl (by simp; omega) fun a50 r2 w3 hA3 hv2 _ => ?_
  have hA3l : At w0 (fun _ => False) (m ++ rl) w3 := hA3.sub (by rw [List.append_assoc]; exact List.sublist_append_left _ _)
  refine slx_drop (E := ET) (VecE.of_at hA3l hv) hn fun s52 hs52 => ?_
  refine hA3.app hv2 hs52 rfl rfl (by simp; omega) fun a53 r3 w4 hA4 hv3 _ => ?_
  refine hK a53 r3 w4 (hA4.sub ?_) (by simpa using hv3)
  exact List.Sublist.append_right ((List.sublist_append_left m rl).trans (List.sublist_append_left _ _)) r3
end Go.Proofs.Ytfhojgammfkabaa.Rc
