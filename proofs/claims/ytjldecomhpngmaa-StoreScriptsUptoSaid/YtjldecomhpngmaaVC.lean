/- The store's methods: what each one does. -/
import Derived.Test.YtjldecomhpngmaaVB
namespace Go.Proofs.Ytjldecomhpngmaa
open Go.Vw

theorem goodName_ok (n : Str) {w : World} {K : Bool → World → Prop} (hK : K (goodN n) w) : callK Try.prog 33 [.leaf (.str n)] w (.one (.leaf .bool)) K := by
  refine go_store_goodName _ _ _ ?_
  unfold S_store_goodName
  refine join1 (fun b w' => w' = w ∧ (b = true ↔ n.length < 1 ∨ 40 < n.length)) ?_ ?_
  · intro k hk
    refine ifK_intro (fun h => hk _ _ ⟨rfl, ?_⟩) fun h => hk _ _ ⟨rfl, ?_⟩
    · exact ⟨fun _ => .inl (by simp only [decide_eq_true_eq] at h; omega), fun _ => rfl⟩
    · simp only [decide_eq_true_eq, decide_eq_false_iff_not] at h ⊢; omega
  rintro b w' ⟨rfl, hb⟩
  refine ifK_intro (fun h => ?_) fun h => ?_
  · have : goodN n = false := by
      have := hb.1 h
      unfold goodN
      rcases this with h | h
      · rw [decide_eq_false (by omega)]; simp
      · rw [decide_eq_false (p := n.length ≤ 40) (by omega)]; simp
    rw [this] at hK; exact hK
  have hl : ¬ (n.length < 1 ∨ 40 < n.length) := fun x => by rw [hb.2 x] at h; cases h
  have hgN : goodN n = n.all fun c => decide (goodP c.toNat) := by
    unfold goodN; rw [decide_eq_true (by omega), decide_eq_true (by omega)]; rfl
  refine join0 (fun u => u = w' ∧ goodN n = true) ?_ (fun u hu => by obtain ⟨rfl, hu⟩ := hu; rw [hu] at hK; exact hK)
  intro k hk
  refine loop1 (k := .int .i64) (fun (i : Int) u => u = w' ∧ ∃ j : Nat, i = j ∧ j ≤ n.length ∧ ∀ c ∈ n.take j, goodP c.toNat) (fun i _ => (n.length - i).toNat) (x := 0) rfl ⟨rfl, 0, rfl, by omega, by simp⟩ ?_
  rintro i u ⟨rfl, j, rfl, hj, hg⟩
  refine ifK_intro (fun h => ?_) fun h => ?_
  · have hlt : j < n.length := dlt h
    refine ⟨n[j], by rw [Int.toNat_natCast, List.getElem?_eq_getElem hlt], by omega, ?_⟩
    generalize hx : ((n[j].toNat : Nat) : Int) = x
    refine join1 (fun b u' => u' = u ∧ (b = true ↔ ¬ goodP x)) ?_ ?_
    · intro k2 hk2
      have lf : ∀ {b : Bool}, (b = true ↔ ¬ goodP x) → k2 b u := fun hb => hk2 _ _ ⟨rfl, hb⟩
      unfold goodP at lf
      refine ifK_intro (fun h1 => ifK_intro (fun h2 => ifK_intro (fun h3 => lf ?_) (fun h3 => lf ?_)) fun h2 => ifK_intro (fun h3 => ifK_intro (fun h4 => lf ?_) (fun h4 => lf ?_)) fun h3 => lf ?_)
        fun h1 => ifK_intro (fun h2 => ifK_intro (fun h3 => ifK_intro (fun h4 => lf ?_) (fun h4 => lf ?_)) fun h3 => ifK_intro (fun h4 => ifK_intro (fun h5 => lf ?_) (fun h5 => lf ?_)) fun h4 => lf ?_) fun h2 => lf ?_
      all_goals (simp only [decide_eq_true_eq, decide_eq_false_iff_not, bne_iff_ne, bne_eq_false_iff_eq, ne_eq, Bool.false_eq_true, false_iff, Classical.not_not] at *; omega)
    · rintro b u' ⟨rfl, hb2⟩
      refine ifK_intro (fun h2 => ?_) fun h2 => ?_
      · have : goodN n = false := by
          rw [hgN]
          apply Bool.eq_false_iff.2
          intro ha
          have := List.all_eq_true.1 ha n[j] (List.getElem_mem hlt)
          simp only [decide_eq_true_eq, hx] at this
          exact hb2.1 h2 this
        rw [this] at hK; exact hK
      · have hgx : goodP x := Classical.byContradiction fun hn => by rw [hb2.2 hn] at h2; cases h2
        refine ⟨⟨rfl, j + 1, set_step (by omega), by omega, ?_⟩, ?_⟩
        · intro c hc
          rw [List.take_add_one, List.mem_append] at hc
          rcases hc with hc | hc
          · exact hg c hc
          · rw [List.getElem?_eq_getElem hlt] at hc
            simp at hc; subst hc; rw [hx]; exact hgx
        · have := set_step (i := j) (by omega); simp only [this]; omega
  · have hlt : n.length ≤ j := dge h
    refine hk _ ⟨rfl, ?_⟩
    rw [hgN]
    apply List.all_eq_true.2
    intro c hc
    rw [List.take_of_length_le hlt] at hg
    exact decide_eq_true (hg c hc)

theorem names_fnd {n : Str} {l : List En} {j b : Nat} (h : fnd n (l.map fun e => (e.name, e.bb)) 0 = some (j, b)) : ∃ A e B, l = A ++ e :: B ∧ e.name = n ∧ e.bb = b ∧ j = A.length ∧ ∀ x ∈ A, x.name ≠ n := by
  obtain ⟨A, B, h1, h2, h3⟩ := fnd_some h
  obtain ⟨A', r, e1, e2, e3⟩ := List.map_eq_append_iff.1 h1
  obtain ⟨e, B', e4, e5, e6⟩ := List.map_eq_cons_iff.1 e3
  simp only [Prod.mk.injEq] at e5
  refine ⟨A', e, B', by rw [e1, e4], e5.1, e5.2, by rw [h2, ← e2]; simp, fun x hx => ?_⟩
  exact h3 (x.name, x.bb) (by rw [← e2]; exact List.mem_map_of_mem (f := fun e : En => (e.name, e.bb)) hx)
section
variable {w0 w : World} {m : List (Nat × List Value)} {s : Int} {g : SG}
theorem abs_mid {A B : List En} {e : En} : ((A ++ e :: B).map fun e : En => (e.name, e.bl)) = (A.map fun e : En => (e.name, e.bl)) ++ (e.name, e.bl) :: (B.map fun e : En => (e.name, e.bl)) := by simp
theorem ask_some {n : Str} {A B : List En} {e : En} (hg : goodN n = true) (he : g.ents = A ++ e :: B) (hn : e.name = n) (hA : ∀ x ∈ A, x.name ≠ n) : askA n g.abs = (0, some e.bl) := by
  unfold askA SG.abs
  rw [hg, he, abs_mid, hn, getA_mid (fun x hx => by obtain ⟨y, hy, rfl⟩ := List.mem_map.1 hx; exact hA y hy)]
  simp
theorem ask_none {n : Str} (hg : goodN n = true) (hA : ∀ x ∈ g.ents, x.name ≠ n) : askA n g.abs = (52, none) := by
  unfold askA SG.abs
  rw [hg, getA_none (fun x hx => by obtain ⟨y, hy, rfl⟩ := List.mem_map.1 hx; exact hA y hy)]
  simp
theorem ask_bad {n : Str} (hg : goodN n = false) : askA n g.abs = (50, none) := by unfold askA; rw [if_pos hg]
/-- find -/
theorem find_ok (h : StA w0 m s g w) (n : Str) {K : PA → Int → World → Prop} (h0 : ∀ c, askA n g.abs = (c, none) → c = 50 ∨ c = 52 → (c = 52 → goodN n = true ∧ fnd n g.names 0 = none) → K none c w)
    (h1 : ∀ A e B, g.ents = A ++ e :: B → e.name = n → (∀ x ∈ A, x.name ≠ n) → askA n g.abs = (0, some e.bl) → K (some (e.bb, 0)) 0 w) :
    callK Try.prog 31 [.leaf (.ptr (some (g.bs, 0))), .leaf (.str n)] w (.tup [.leaf .ptr, .leaf (.int .i64)]) K := by
  refine go_store_Store_find _ _ _ _ ?_
  refine goodName_ok n ?_
  refine ifK_intro (fun hb => ?_) fun hb => ?_
  · have hg : goodN n = false := by simpa using hb
    exact h0 50 (ask_bad hg) (.inl rfl) (fun h => by cases h)
  have hg : goodN n = true := by simpa using hb
  refine dr_some ?_
  refine h.ldHd (k := .map) (some g.r) rfl ?_
  refine lookup_names h.nm n (fun j b hf => ?_) fun hf => ?_
  · refine ifK_f rfl ?_
    obtain ⟨A, e, B, h2, h3, h4, _, h6⟩ := names_fnd hf
    subst h4
    exact h1 A e B h2 h3 h6 (ask_some hg h2 h3 h6)
  · refine ifK_t rfl ?_
    have hne : ∀ x ∈ g.ents, x.name ≠ n := fun x hx => fnd_none hf (x.name, x.bb) (List.mem_map_of_mem (f := fun e : En => (e.name, e.bb)) hx)
    exact h0 52 (ask_none hg hne) (.inr rfl) fun _ => ⟨hg, hf⟩
def writeA (n : Str) (a : Abs) : Int × Option Bl := match askA n a with
  | (c, none) => (c, none)
  | (_, some b) => if b.out then (54, none) else if b.stopped then (55, none) else (0, some b)
def readA (n : Str) (a : Abs) : Int × Option Bl := match askA n a with
  | (c, none) => (c, none)
  | (_, some b) => if b.out then (0, some b) else (53, none)
theorem askA_c {n : Str} {a : Abs} {c : Int} (h : askA n a = (c, none)) : c ≠ 0 := by
  unfold askA at h
  split at h
  · cases h; decide
  · split at h
    · cases h; decide
    · cases h
theorem writable_ok (h : StA w0 m s g w) (n : Str) {K : PA → Int → World → Prop} (h0 : ∀ c, writeA n g.abs = (c, none) → c ≠ 0 → K none c w)
    (h1 : ∀ A e B, g.ents = A ++ e :: B → e.name = n → (∀ x ∈ A, x.name ≠ n) → writeA n g.abs = (0, some e.bl) → e.bl.out = false → e.bl.stopped = false → K (some (e.bb, 0)) 0 w) :
    callK Try.prog 32 [.leaf (.ptr (some (g.bs, 0))), .leaf (.str n)] w (.tup [.leaf .ptr, .leaf (.int .i64)]) K := by
  refine go_store_Store_writable _ _ _ _ ?_
  refine find_ok h n (fun c hc _ _ => ?_) fun A e B he hn hA ha => ?_
  · have := askA_c hc
    refine ifK_t (by simpa using this) (h0 c (by unfold writeA; rw [hc]) this)
  refine ifK_f rfl (dr_some (h.ldE he (k := .bool) e.bl.out rfl ?_))
  refine ifK_intro (fun ho => h0 54 (by unfold writeA; rw [ha]; simp [ho]) (by decide)) fun ho => dr_some (h.ldE he (k := .bool) e.bl.stopped rfl ?_)
  refine ifK_intro (fun hs => h0 55 (by unfold writeA; rw [ha]; simp [ho, hs]) (by decide)) fun hs => ?_
  exact h1 A e B he hn hA (by unfold writeA; rw [ha]; simp [ho, hs]) ho hs
theorem readable_ok (h : StA w0 m s g w) (n : Str) {K : PA → Int → World → Prop} (h0 : ∀ c, readA n g.abs = (c, none) → c ≠ 0 → K none c w)
    (h1 : ∀ A e B, g.ents = A ++ e :: B → e.name = n → (∀ x ∈ A, x.name ≠ n) → readA n g.abs = (0, some e.bl) → e.bl.out = true → K (some (e.bb, 0)) 0 w) :
    callK Try.prog 34 [.leaf (.ptr (some (g.bs, 0))), .leaf (.str n)] w (.tup [.leaf .ptr, .leaf (.int .i64)]) K := by
  refine go_store_Store_readable _ _ _ _ ?_
  refine find_ok h n (fun c hc _ _ => ?_) fun A e B he hn hA ha => ?_
  · have := askA_c hc
    refine ifK_t (by simpa using this) (h0 c (by unfold readA; rw [hc]) this)
  refine ifK_f rfl (dr_some (h.ldE he (k := .bool) e.bl.out rfl ?_))
  refine ifK_intro (fun ho => h0 53 (by unfold readA; rw [ha]; simp at ho; simp [ho]) (by decide)) fun ho => ?_
  have ho' : e.bl.out = true := by simpa using ho
  exact h1 A e B he hn hA (by unfold readA; rw [ha]; simp [ho']) ho'
/-- what a call has made of a store -/
structure Nx (w0 : World) (m : List (Nat × List Value)) (s : Int) (g : SG) (w : World) (a : Abs) (t : Int × Int × Int) (g' : SG) (w' : World) : Prop where
  st : StA w0 m s g' w'
  bs : g'.bs = g.bs
  r : g'.r = g.r
  mod : Mod g.D w w'
  abs : g'.abs = a
  mt : g'.mt = t
theorem D_bs (g : SG) : g.D g.bs := .inl rfl
theorem D_r (g : SG) : g.D g.r := .inr (.inl rfl)
theorem D_bb {A B : List En} {e : En} (he : g.ents = A ++ e :: B) : g.D e.bb := .inr (.inr ⟨e.blk, by rw [he, owns_append]; simp [owns], rfl⟩)
theorem D_ro {A B : List En} {e : En} (he : g.ents = A ++ e :: B) {b : Nat} (hb : Ks e.ro b) : g.D b := by
  obtain ⟨q, hq, rfl⟩ := hb
  exact .inr (.inr ⟨q, by rw [he, owns_append]; simp [owns, hq], rfl⟩)
theorem modD {D D' : Nat → Prop} {a b c : World} (h : Mod D a b) (k : Mod D' b c) (hd : ∀ x, x < a.heap.size → D' x → D x) : Mod D a c := h.trans k (fun _ _ h => h) hd
theorem lock_ok (h : StA w0 m 0 g w) {K : World → Prop} (hK : ∀ w', Nx w0 m 1 g w g.abs g.mt g w' → Mod (fun b => b = g.bs) w w' → K w') : callK Try.prog 29 [.leaf (.ptr (some (g.bs, 0)))] w (.tup []) K := by
  refine lock_raw (by rw [h.hdBlk.cell]; rfl) (h.hdBlk.frz _) (hK _ ⟨h.setHd (g' := g) (s' := 1) (o := 0) (vs := [.int .i32 1]) rfl rfl rfl rfl, rfl, rfl, (Mod.setCells ..).mono fun x _ e => e ▸ D_bs g, rfl, rfl⟩ (Mod.setCells ..))
theorem unlock_ok {a : Abs} {t : Int × Int × Int} {g' : SG} {w' : World} (h : Nx w0 m 1 g w a t g' w') {K : World → Prop} (hK : ∀ w'', Nx w0 m 0 g w a t g' w'' → Mod (fun b => b = g.bs) w' w'' → K w'') : callsK Try.prog [(30, [.leaf (.ptr (some (g.bs, 0)))])] w' K := by
  have hb : Blk w' g.bs (g'.hd 1).2 := by rw [← h.bs]; exact h.st.hdBlk
  have h2 := h.st.setHd (g' := g') (s' := 0) (o := 0) (vs := [.int .i32 0]) rfl rfl rfl rfl
  rw [h.bs] at h2
  exact unlock_raw (by rw [hb.cell]; rfl) (hb.frz _) (hK _ ⟨h2, h.bs, h.r, modD h.mod (Mod.setCells ..) fun x _ e => e ▸ D_bs g, h.abs, h.mt⟩ (Mod.setCells ..))
/-- New -/
theorem new_ok (hA : At w0 F0 m w) {K : PA → World → Prop} (hK : ∀ g w', StA w0 m 0 g w' → Mod F0 w w' → g.abs = [] → g.mt = (0, 0, 0) → w.heap.size ≤ g.bs → w.heap.size ≤ g.r → g.ents = [] → K (some (g.bs, 0)) w') : callK Try.prog 10 [] w (.one (.leaf .ptr)) K := by
  refine go_store_New _ _ ?_
  refine make_names fun w1 hN hM _ => ?_
  have hA1 : At w0 F0 m w1 := hA.keep0 hM fun _ => id
  refine hA1.alK fun b w2 hb hA2 hM2 => ?_
  have hge : w.heap.size ≤ b := by rw [hb]; exact hM.size
  refine hK ⟨b, w.heap.size, [], 0, 0, 0⟩ w2 ⟨by simpa [owns, SG.hd, LV.toV] using hA2, hN.keep hM2 id, hA.mod.size, fun e he => by cases he⟩ (mod0 hM hM2) rfl rfl hge (Nat.le_refl _) rfl
/-- Create -/
def createA (n : Str) (a : Abs) : Int × Abs := match askA n a with
  | (_, some _) => (51, a)
  | (c, none) => if c = 52 then (0, a ++ [(n, Bl.new)]) else (c, a)
theorem create_ok (h : StA w0 m 0 g w) (n : Str) {K : Int → World → Prop} (hK : ∀ g' w', Nx w0 m 0 g w (createA n g.abs).2 g.mt g' w' → K (createA n g.abs).1 w') :
    callK Try.prog 11 [.leaf (.ptr (some (g.bs, 0))), .leaf (.str n)] w (.one (.leaf (.int .i64))) K := by
  refine go_store_Store_Create _ _ _ _ ?_
  refine ifK_f rfl (dr_some (lock_ok h fun w1 h1 _ => dr_some ?_))
  refine find_ok h1.st n (fun c hc hc2 hf => ?_) fun A e B he hn hA ha => ?_
  · refine ifK_f (by simpa using askA_c hc) ?_
    refine ifK_intro (fun h52 => ?_) fun h52 => ?_
    · have h52 : c = 52 := by simpa using h52
      subst h52
      obtain ⟨hg, hf⟩ := hf rfl
      have e1 : createA n g.abs = (0, g.abs ++ [(n, Bl.new)]) := by unfold createA; rw [hc]; simp
      rw [e1] at hK
      refine dr_some (h1.st.ldHd (k := .map) (some g.r) rfl ?_)
      refine h1.st.at_.alK fun b w2 hb hA2 hM2 => ?_
      refine update_names (h1.st.nm.keep hM2 id) hf fun w3 hN hM3 => ?_
      have hst := h1.st.addE (n := n) (b := b) hA2 hM2 hN hM3
      have hnx : Nx w0 m 1 g w (g.abs ++ [(n, Bl.new)]) g.mt { g with ents := g.ents ++ [⟨n, b, ⟨none, 0, 0⟩, [], Bl.new⟩] } w3 :=
        ⟨hst, rfl, rfl, modD (modD h1.mod hM2 fun _ _ h => h.elim) hM3 fun x _ e => e ▸ D_r g, by simp [SG.abs], rfl⟩
      exact unlock_ok hnx fun w4 h4 _ => hK _ _ h4
    · have h52 : c ≠ 52 := by simpa using h52
      have e1 : createA n g.abs = (c, g.abs) := by unfold createA; rw [hc]; simp [h52]
      rw [e1] at hK
      exact unlock_ok h1 fun w4 h4 _ => hK _ _ h4
  · have e1 : createA n g.abs = (51, g.abs) := by unfold createA; rw [ha]
    rw [e1] at hK
    exact ifK_t rfl (unlock_ok h1 fun w4 h4 _ => hK _ _ h4)
end
end Go.Proofs.Ytjldecomhpngmaa
