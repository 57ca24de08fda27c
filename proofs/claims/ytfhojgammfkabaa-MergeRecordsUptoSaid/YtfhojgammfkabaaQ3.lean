/- Sources are made tidy: one thing is put in its place. -/
import Derived.Test.YtfhojgammfkabaaQ2
namespace Go.Proofs.Ytfhojgammfkabaa
open Go.Vw

theorem slx_take {α : Type} {w : World} {E : Enc α} {a : Sl} {l : List α} (h : Vec w E a l) {n : Nat} (hn : n ≤ l.length) {K : Sl → Prop} (hK : ∀ s, RdS w E s (l.take n) → K s) : slx a E.n none (some (n : Int)) none K := by
  have hlen := h.len
  have hpos := E.pos
  rcases h.own with ⟨hp, hc, hl⟩ | ⟨b, rest, hp, hb, hc⟩
  · subst hl
    have h0 : n = 0 := by simpa using hn
    subst h0
    refine ⟨0, 0, a.cap, rfl, rfl, rfl, Nat.le_refl _, Nat.zero_le _, Nat.le_refl _, hK _ ⟨by simp [Sl.cut], .inl rfl, by simp [Sl.cut]⟩⟩
  · have hcap : a.len ≤ a.cap := by
      rw [List.length_append, E.cells_length] at hc
      have : l.length * E.n ≤ a.cap * E.n := by omega
      rw [hlen]; exact Nat.le_of_mul_le_mul_right this hpos
    refine ⟨0, n, a.cap, rfl, rfl, rfl, Nat.zero_le _, by omega, Nat.le_refl _, hK _ ⟨by simp [Sl.cut]; omega, ?_, by simp [Sl.cut]; omega⟩⟩
    by_cases hz : n = 0
    · subst hz; exact .inl rfl
    · have hcz : ¬ a.cap = 0 := by omega
      refine .inr ⟨b, 0, by simp [Sl.cut, hcz, hp], fun i hi => ?_⟩
      have h1 : E.cells l = E.cells (l.take n) ++ E.cells (l.drop n) := by rw [← E.cells_append, List.take_append_drop]
      rw [hb.cell, Nat.zero_add, h1, List.append_assoc, List.getElem?_append_left hi]
theorem slx_drop {α : Type} {w : World} {E : Enc α} {a : Sl} {l : List α} (h : Vec w E a l) {n : Nat} (hn : n ≤ l.length) {K : Sl → Prop} (hK : ∀ s, RdS w E s (l.drop n) → K s) : slx a E.n (some (n : Int)) none none K := by
  have hlen := h.len
  have hpos := E.pos
  have hcap : a.len ≤ a.cap := by
    rcases h.own with ⟨hp, hc, hl⟩ | ⟨b, rest, hp, hb, hc⟩
    · rw [hlen, hl]; exact Nat.zero_le _
    · rw [List.length_append, E.cells_length] at hc
      have : l.length * E.n ≤ a.cap * E.n := by omega
      rw [hlen]; exact Nat.le_of_mul_le_mul_right this hpos
  refine ⟨n, a.len, a.cap, rfl, rfl, rfl, by omega, hcap, Nat.le_refl _, hK _ ⟨by simp [Sl.cut]; omega, ?_, by simp [Sl.cut]; omega⟩⟩
  by_cases hz : n = l.length
  · left; rw [hz, List.drop_length]; rfl
  · rcases h.own with ⟨hp, hc, hl⟩ | ⟨b, rest, hp, hb, hc⟩
    · subst hl; simp at hn hz; omega
    · have hcz : ¬ a.cap = n := by omega
      refine .inr ⟨b, 0 + n * E.n, by simp [Sl.cut, hcz, hp], fun i hi => ?_⟩
      have h1 : E.cells l = E.cells (l.take n) ++ E.cells (l.drop n) := by rw [← E.cells_append, List.take_append_drop]
      have h2 : (E.cells (l.take n)).length = n * E.n := by rw [E.cells_length]; simp; rw [Nat.min_eq_left hn]
      rw [hb.cell, Nat.zero_add, h1, List.append_assoc, List.getElem?_append_right (by omega), h2, Nat.add_sub_cancel_left, List.getElem?_append_left hi]
theorem VecE.of_at {α : Type} {w0 w : World} {D : Nat → Prop} {m ro : List (Nat × List Value)} (hA : At w0 D (m ++ ro) w) {E : Enc α} {s : Sl} {l : List α} (h : VecE ro E s l) : Vec w E s l := h.vec fun p hp => hA.own p (List.mem_append_right _ hp)
theorem perm_tail3 {α : Type} (m a b : List α) : ((m ++ a) ++ b).Perm ((m ++ b) ++ a) := by
  rw [List.append_assoc, List.append_assoc]
  exact List.Perm.append_left m List.perm_append_comm
/-- l = l[:n] + x + l[n:] -/
theorem ins_ok {w0 w : World} {m rl : List (Nat × List Value)} (hA : At w0 (fun _ => False) (m ++ rl) w) {l : Sl} {ts : List Thing} (hv : VecE rl ET l ts) (hlen : ts.length ≤ 1048576) {x : Thing} {n : Nat} (hn : n ≤ ts.length) {K : Sl → World → Prop}
    {X : Sl → World → Prop} (hX : ∀ a39 w_40, Mod (fun _ => False) w0 w_40 → (Go.Vw.al w_40 55 [.int .i64 x.1, .int .i64 x.2] fun b48 w_49 => ap w_49 55 2 16 [.int .i64 0, .int .i64 0] a39 (⟨some (b48, 0), 1, 1⟩) fun a50 w_51 =>
      slx l 2 (some (n : Int)) none none fun s52 => ap w_51 55 2 16 [.int .i64 0, .int .i64 0] a50 s52 fun a53 w_54 => K a53 w_54) → X a39 w_40)
    (hK : ∀ l' rl' w', At w0 (fun _ => False) (m ++ rl') w' → VecE rl' ET l' (ts.take n ++ [x] ++ ts.drop n) → K l' w') :
    slx l 2 none (some (n : Int)) none fun s38 => ap w 55 2 16 [.int .i64 0, .int .i64 0] (⟨none, 0, 0⟩) s38 fun a39 w_40 => X a39 w_40 := by
  refine slx_take (E := ET) (VecE.of_at hA hv) hn fun s38 hs38 => ?_
  have hA0 : At w0 (fun _ => False) ((m ++ rl) ++ []) w := by rw [List.append_nil]; exact hA
  refine hA0.app (VecE.nil ET) hs38 rfl rfl (by simp; omega) fun a39 r1 w1 hA1 hv1 _ => hX _ _ hA1.mod ?_
  refine hA1.alK fun b48 w2 _ hA2 _ => ?_
  have hA2' : At w0 (fun _ => False) (((m ++ rl) ++ [(b48, [.int .i64 x.1, .int .i64 x.2])]) ++ r1) w2 := hA2.perm (perm_tail3 _ _ _).symm
  have hx : RdS w2 ET ⟨some (b48, 0), 1, 1⟩ [x] := rd_one (hA2'.own (b48, [.int .i64 x.1, .int .i64 x.2]) (by simp))
  refine hA2'.app hv1 hx rfl rfl (by simp; omega) fun a50 r2 w3 hA3 hv2 _ => ?_
  have hA3l : At w0 (fun _ => False) (m ++ rl) w3 := hA3.sub (by rw [List.append_assoc]; exact List.sublist_append_left _ _)
  refine slx_drop (E := ET) (VecE.of_at hA3l hv) hn fun s52 hs52 => ?_
  refine hA3.app hv2 hs52 rfl rfl (by simp; omega) fun a53 r3 w4 hA4 hv3 _ => ?_
  refine hK a53 r3 w4 (hA4.sub ?_) (by simpa using hv3)
  exact List.Sublist.append_right ((List.sublist_append_left m rl).trans (List.sublist_append_left _ _)) r3
theorem At.last {w0 w : World} {D : Nat → Prop} {m : List (Nat × List Value)} {b : Nat} {c : List Value} (hA : At w0 D (m ++ [(b, c)]) w) {o : Nat} {vs : List LV} {K : World → Prop} (hl : o + vs.length ≤ c.length)
    (hK : ∀ w', At w0 D (m ++ [(b, spl c o (vs.map LV.toV))]) w' → K w') : Go.Vw.st w b o vs K := by
  refine hA.st m.length (by simp) hl fun w' hA' _ => hK w' ?_
  have : (m ++ [(b, c)]).set m.length (b, spl c o (vs.map LV.toV)) = m ++ [(b, spl c o (vs.map LV.toV))] := by
    rw [List.set_append_right _ _ (Nat.le_refl _)]; simp
  rw [this] at hA'; exact hA'
/-- the names are given -/
theorem name_ok {w0 w : World} {m rl : List (Nat × List Value)} (hA : At w0 (fun _ => False) (m ++ rl) w) {l : Sl} {ts : List Thing} (hv : VecE rl ET l ts) (hlen : ts.length ≤ 1048576) {nm : Nat} (hnm : nm + ts.length ≤ 1048576) {k : Int → World → Prop}
    (hK : ∀ rl' w', At w0 (fun _ => False) (m ++ rl') w' → VecE rl' ET l (nameT nm ts) → k ((nm + ts.length : Nat) : Int) w') :
    loopL [.int .i64, .int .i64] (fun name59 k60 w_61 again58 =>
            ifK (decide (k60 < (l.len : Int)))
            (ix l 2 k60 fun b62 o63 =>
              Go.Vw.st w_61 b62 (o63 + 1) [.int .i64 name59] fun w_64 =>
              again58 (w64 (name59 + 1)) (w64 (k60 + 1)) w_64)
            (k name59 w_61)) [.int .i64 (nm : Int), .int .i64 0] w := by
  have hnl : ∀ (n : Nat) (ts : List Thing) (i : Nat), (nameT n ts)[i]? = ts[i]?.map fun x => (x.1, ((n + i : Nat) : Int)) := by
    intro n ts
    induction ts generalizing n with
    | nil => intro i; simp [nameT]
    | cons x ts ih =>
      intro i
      cases i with
      | zero => simp [nameT]
      | succ i => simp only [nameT, List.getElem?_cons_succ, ih]; congr 1; funext x; congr 2; omega
  refine loop2 (k1 := .int .i64) (k2 := .int .i64) (fun a x w' => ∃ (i : Nat) (rl' : List (Nat × List Value)), x = i ∧ a = ((nm + i : Nat) : Int) ∧ i ≤ ts.length ∧ At w0 (fun _ => False) (m ++ rl') w' ∧ VecE rl' ET l ((nameT nm ts).take i ++ ts.drop i)) (fun _ x _ => ts.length - x.toNat) rfl rfl ⟨0, rl, rfl, rfl, by omega, hA, by simpa using hv⟩ ?_
  rintro a x w1 ⟨i, rl1, rfl, rfl, hi, hA1, hv1⟩
  have hll : l.len = ts.length := hv.1
  refine ifK_intro (fun hlt => ?_) (fun hlt => ?_)
  · have hlt' : i < ts.length := by rw [hll] at hlt; simpa using hlt
    have hhas := (VecE.of_at hA1 hv1).rd.has
    obtain ⟨_, hown⟩ := hv1
    have hcur : ((nameT nm ts).take i ++ ts.drop i)[i]? = some ts[i] := by
      rw [List.getElem?_append_right (by simp [nameT_length]; omega)]
      simp only [List.length_take, nameT_length, Nat.min_eq_left hi, Nat.sub_self, List.getElem?_drop, Nat.add_zero]
      exact List.getElem?_eq_getElem hlt'
    rcases hown with ⟨_, _, _, hnil⟩ | ⟨b, rest, hrl, hp, hc⟩
    · rw [hnil] at hcur; cases hcur
    · subst hrl
      refine ix_some (hc := hhas) hp (by omega) (by omega) ?_
      have hset := ET.cells_set ((nameT nm ts).take i ++ ts.drop i) i 1 [.int .i64 ((nm + i : Nat) : Int)] ts[i] (ts[i].1, ((nm + i : Nat) : Int)) rest hcur (Nat.le_refl 2) rfl
      have hleni : ((nameT nm ts).take i ++ ts.drop i).length = ts.length := by simp [nameT_length]; omega
      refine At.last hA1 ?_ fun w2 hA2 => ?_
      · rw [List.length_append, ET.cells_length, hleni]
        simp [ET]; omega
      · have hset' : spl (ET.cells ((nameT nm ts).take i ++ ts.drop i) ++ rest) (0 + (i : Int).toNat * 2 + 1) (List.map LV.toV [.int .i64 ((nm + i : Nat) : Int)]) = ET.cells (((nameT nm ts).take i ++ ts.drop i).set i (ts[i].1, ((nm + i : Nat) : Int))) ++ rest := by rw [Nat.zero_add]; exact hset
        rw [hset'] at hA2
        have he : ((nameT nm ts).take i ++ ts.drop i).set i (ts[i].1, ((nm + i : Nat) : Int)) = (nameT nm ts).take (i + 1) ++ ts.drop (i + 1) := by
          rw [List.set_append_right _ _ (by simp [nameT_length]; omega)]
          simp only [List.length_take, nameT_length, Nat.min_eq_left hi, Nat.sub_self]
          rw [List.drop_eq_getElem_cons hlt', List.set_cons_zero, List.take_add_one, hnl, List.getElem?_eq_getElem hlt']
          simp
        rw [he] at hA2
        have e1 : w64 (((nm + i : Nat) : Int) + 1) = ((nm + (i + 1) : Nat) : Int) := by rw [w64_in (by omega) (by omega)]; omega
        rw [e1, set_step (by omega)]
        refine ⟨⟨i + 1, _, rfl, rfl, hlt', hA2, ?_, .inr ⟨b, rest, rfl, hp, ?_⟩⟩, by simp; omega⟩
        · rw [hll]; simp [nameT_length]; omega
        · rw [← he, ← hc]; simp [ET.cells_length]
  · have hge : i = ts.length := by rw [hll] at hlt; simp at hlt; omega
    subst hge
    refine hK rl1 w1 hA1 ?_
    have e1 : (nameT nm ts).take ts.length = nameT nm ts := List.take_of_length_le (by rw [nameT_length]; exact Nat.le_refl _)
    rw [e1, List.drop_length, List.append_nil] at hv1
    exact hv1
end Go.Proofs.Ytfhojgammfkabaa
