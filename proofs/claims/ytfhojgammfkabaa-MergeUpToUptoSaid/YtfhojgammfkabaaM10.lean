/- A merge is made. -/
import Derived.Test.YtfhojgammfkabaaM9
namespace Go.Proofs.Ytfhojgammfkabaa
open Go.Vw

theorem _root_.Go.Vw.At.perm {w0 w : World} {D : Nat → Prop} {m m' : List (Nat × List Value)} (h : At w0 D m w) (hp : m'.Perm m) : At w0 D m' w :=
  ⟨h.mod, fun p hpp => h.own p (hp.subset hpp), (hp.map Prod.fst).nodup_iff.2 h.nodup, fun p hpp => h.wr p (hp.subset hpp)⟩
/-- a known block that has just been made -/
theorem _root_.Go.Vw.At.mkAdd {w0 w w' : World} {D : Nat → Prop} {m : List (Nat × List Value)} (h : At w0 D m w) {b : Nat} {c : List Value} (hM : Mod (fun _ => False) w w') (hb : Blk w' b c) (hf : w.heap.size ≤ b) : At w0 D (m ++ [(b, c)]) w' :=
  (h.keep0 hM fun _ => id).add hb (fun p hp e => by have := (h.own p hp).lt; omega) fun hlt => absurd hlt (by have := h.mod.size; omega)
def isFn (v : Value) : Prop := ∃ f a c, v = .func f a c
theorem isFn.cell {v : Value} (h : isFn v) : isCell v = true := by obtain ⟨f, a, c, rfl⟩ := h; rfl
theorem EF_f {v : Value} (h : isFn v) : EF.f v = [v] := by unfold EF; simp [h.cell]
theorem nilF_fn {v : Value} (h : isFn v) {K : Bool → Prop} (hK : K false) : nilF v K := by obtain ⟨f, a, c, rfl⟩ := h; exact .inr ⟨f, a, c, rfl, hK⟩
def s0 (n : Nat) : MS := ⟨List.replicate n (0, 0), List.replicate n false, 0, false, false, 0⟩
theorem cells_repl {α : Type} (E : Enc α) (n : Nat) (x : α) (l : List Value) (h : l = E.f x) : (List.replicate n l).flatten = E.cells (List.replicate n x) := by
  subst h
  induction n with
  | zero => rfl
  | succ n ih => simp only [List.replicate_succ, List.flatten_cons, Enc.cells, ih]
/-- the functions are looked at -/
theorem new_loop {w : World} {s : Sl} {vs : List Value} (hr : RdS w EF s vs) (hf : ∀ v ∈ vs, isFn v) (hlen : vs.length ≤ 1152921504606846976) {K : PA → Int → World → Prop} {k4 : World → Prop} (hK : k4 w) :
    loopL [.int .i64] (fun t136 w_7 again5 =>
        ifK (decide (t136 < (s.len : Int)))
        (ix s 1 t136 fun b8 o9 =>
          Go.Vw.ld w_7 .val b8 o9 fun v10 =>
          nilF v10 fun c11 =>
          ifK c11
          (K none 1 w_7)
          (again5 (w64 (t136 + 1)) w_7))
        (k4 w_7)) [.int .i64 0] w := by
  refine loop1 (k := .int .i64) (fun x w' => w' = w ∧ ∃ i : Nat, x = i ∧ i ≤ vs.length) (fun x _ => vs.length - x.toNat) rfl ⟨rfl, 0, rfl, by omega⟩ ?_
  rintro x w1 ⟨rfl, i, rfl, hi⟩
  refine ifK_intro (fun hlt => ?_) (fun hlt => hK)
  have hlt' : i < vs.length := by rw [hr.len] at hlt; simpa using hlt
  have hx : vs[i]? = some vs[i] := List.getElem?_eq_getElem hlt'
  have hfn := hf _ (List.getElem_mem hlt')
  refine hr.ix rfl rfl hx fun b o hb hc => ld_cell (k := .val) vs[i] ?_ (nilF_fn hfn (ifK_f rfl ?_))
  · have := hc 0 (by decide)
    rw [EF_f hfn] at this; exact this
  · have : w64 ((i : Int) + 1) = ((i + 1 : Nat) : Int) := by rw [w64_in (by omega) (by omega)]; omega
    rw [this]
    exact ⟨⟨rfl, i + 1, rfl, by omega⟩, by simp; omega⟩
theorem new_big {w : World} {cv : Value} {s : Sl} {vs : List Value} (hcv : isFn cv) (hr : RdS w EF s vs) (hf : ∀ v ∈ vs, isFn v) (hlen : vs.length ≤ 1152921504606846976) (hbig : 64 < vs.length) {K : PA → Int → World → Prop} (hK : K none 3 w) :
    callK Try.prog 30 [.leaf (.val cv), .leaf (.sl s)] w (.tup [.leaf .ptr, .leaf (.int .i64)]) K := by
  refine go_merge_New_winnowref11_Thing _ _ _ _ ?_
  unfold S_merge_New_winnowref11_Thing
  refine nilF_fn hcv (ifK_f rfl (join0 (fun w' => w' = w) (fun k hk => new_loop hr hf hlen (hk _ rfl)) fun w' hw' => ?_))
  rw [hw']
  exact ifK_t (by rw [hr.len]; simp; omega) hK
/-- what New has made -/
structure Made (y : Ly) (cv : Value) (vs : List Value) : Prop where
  cv : y.cv = cv
  n : y.n = vs.length
  p : y.fr.p = some (y.bf, 0)
  len : y.fr.len = vs.length
  cap : vs.length ≤ y.fr.cap
  cf : ∀ i, i < vs.length → y.cf[i]? = vs[i]?
  lo : y.lo = ⟨none, 0, 0⟩
theorem new_ok {w : World} {cv : Value} {s : Sl} {vs : List Value} (hcv : isFn cv) (hr : RdS w EF s vs) (hf : ∀ v ∈ vs, isFn v) (hlen : vs.length ≤ 64) {K : PA → Int → World → Prop}
    (hK : ∀ w' y, At w (fun _ => False) (y.m (s0 vs.length) []) w' → Made y cv vs → K (some (y.b, 0)) 0 w') :
    callK Try.prog 30 [.leaf (.val cv), .leaf (.sl s)] w (.tup [.leaf .ptr, .leaf (.int .i64)]) K := by
  refine go_merge_New_winnowref11_Thing _ _ _ _ ?_
  unfold S_merge_New_winnowref11_Thing
  refine nilF_fn hcv (ifK_f rfl (join0 (fun w' => w' = w) (fun k hk => new_loop hr hf (by omega) (hk _ rfl)) fun w' hw' => ?_))
  rw [hw']
  refine ifK_f (by rw [hr.len]; simp; omega) ?_
  refine (At.init _ fun _ => False).alK fun b13 w1 hb13 h1 M1 => ?_
  have hv1 : Vec w1 EF ⟨some (b13, 0), 0, 0⟩ [] := ⟨rfl, .inr ⟨b13, [], rfl, h1.blk (i := 0) rfl, rfl⟩⟩
  refine hv1.app (hr.keep M1 fun _ _ => id) rfl rfl (by simp; omega) fun a15 w2 hv2 hbk M2 hwh => ?_
  have hA2 : At w (fun _ => False) [] w2 := ((h1.sub (List.nil_sublist _)).keep M2 (fun b hb hk => by
    obtain ⟨o, hk⟩ := hk; cases hk; rw [hb13] at hb; exact absurd hb (Nat.lt_irrefl _)) (by simp))
  have hbf : ∃ bf rest, a15.p = some (bf, 0) ∧ Blk w2 bf (EF.cells vs ++ rest) := by
    rcases hv2.own with ⟨hp, hcap, hl⟩ | ⟨b, rest, hp, hb, _⟩
    · rcases hwh with ⟨h, _⟩ | ⟨⟨b, h, _⟩, _⟩
      · rw [hp] at h; cases h
      · rw [hp] at h; cases h
    · exact ⟨b, rest, hp, by simpa using hb⟩
  obtain ⟨bf, rest, hp, hbf⟩ := hbf
  have hbfs : w.heap.size ≤ bf := by
    rcases hbk bf ⟨0, hp⟩ with ⟨o, h⟩ | h
    · cases h; rw [hb13]; exact Nat.le_refl _
    · have := M1.size; omega
  have hA3 := hA2.add hbf (by simp) (fun h => by omega)
  refine ⟨fun x hx => by simp at hx; subst hx; exact hcv.cell, fun x hx => by simp at hx; subst hx; exact hcv.cell, ?_⟩
  refine hA3.alK fun b17 w3 hb17 h3 M3 => ?_
  have hlen2 : a15.len = vs.length := by rw [hv2.len]; simp
  have h3 : At w (fun _ => False) [(bf, EF.cells vs ++ rest), (b17, [cv, (LV.sl a15).toV, (LV.sl ⟨none, 0, 0⟩).toV, (LV.sl ⟨none, 0, 0⟩).toV, (LV.sl ⟨none, 0, 0⟩).toV, .int .i64 0, .bool false, .bool false, .int .i64 0])] w3 := h3
  let mm (hs so : Sl) : List Value := [cv, (LV.sl a15).toV, (LV.sl hs).toV, (LV.sl so).toV, (LV.sl ⟨none, 0, 0⟩).toV, .int .i64 0, .bool false, .bool false, .int .i64 0]
  let n := vs.length
  have hs1 : ((s.len : Int)) = ((n : Nat) : Int) := by rw [hr.len]
  refine join0 (fun w' => ∃ bh bs, At w (fun _ => False) [(bf, EF.cells vs ++ rest), (b17, mm ⟨some (bh, 0), n, n⟩ ⟨some (bs, 0), n, n⟩), (bh, ET.cells (List.replicate n (0, 0))), (bs, EB.cells (List.replicate n false))] w') (fun k hk => ?_) ?_
  · refine ⟨fun b => b = b17, ?_⟩
    have h4 := h3.drew
    have m1 : ∀ {a b c : World}, Mod (fun _ => False) a b → Mod (fun x => x = b17) b c → Mod (fun x => x = b17) a c := fun h h' => h.trans h' (fun _ _ h => h.elim) fun _ _ h => h
    have m2 : ∀ {a b c : World}, Mod (fun x => x = b17) a b → Mod (fun x => x = b17) b c → Mod (fun x => x = b17) a c := fun h h' => h.trans h' (fun _ _ h => h) fun _ _ h => h
    have m0 : ∀ {a b : World}, Mod (fun _ => False) a b → Mod (fun x => x = b17) a b := fun h => h.mono fun _ _ h => h.elim
    refine ⟨?_, ?_⟩
    · refine Vec.mkK ET (0, 0) n hs1 rfl (by show vs.length < _; omega) (by show _ * vs.length ≤ _; omega) fun w5 _ hb5 M5 => ⟨m0 M5, dr_some ⟨?_, ?_⟩⟩
      · have h5 := h4.mkAdd M5 hb5 (Nat.le_refl _)
        refine Vec.mkK EB false n hs1 rfl (by show vs.length < _; omega) (by show _ * vs.length ≤ _; omega) fun w6 _ hb6 M6 => ⟨m0 (M5.trans M6 (fun _ _ h => h) fun _ _ h => h), ?_⟩
        have h6 := h5.mkAdd M6 hb6 (Nat.le_refl _)
        have M56 := m0 (M5.trans M6 (fun _ _ h => h) fun _ _ h => h)
        refine h6.st 1 rfl (show (3 : Nat) ≤ 9 by decide) fun w7 h7 M7 => ⟨m2 M56 M7, dr_some (h7.st 1 rfl (show (4 : Nat) ≤ 9 by decide) fun w8 h8 M8 => ⟨m2 (m2 M56 M7) M8, hk _ ⟨_, _, h8⟩⟩)⟩
      · have h5 := h4.mkAdd M5 hb5 (Nat.le_refl _)
        refine h5.st 1 rfl (show (3 : Nat) ≤ 9 by decide) fun w7 h7 M7 => ⟨m1 M5 M7, ?_⟩
        refine Vec.mkK EB false n hs1 rfl (by show vs.length < _; omega) (by show _ * vs.length ≤ _; omega) fun w6 _ hb6 M6 => ⟨m2 (m1 M5 M7) (m0 M6), ?_⟩
        have h6 := h7.mkAdd M6 hb6 (Nat.le_refl _)
        refine dr_some (h6.st 1 rfl (show (4 : Nat) ≤ 9 by decide) fun w8 h8 M8 => ⟨m2 (m2 (m1 M5 M7) (m0 M6)) M8, hk _ ⟨_, _, h8⟩⟩)
    · refine Vec.mkK EB false n hs1 rfl (by show vs.length < _; omega) (by show _ * vs.length ≤ _; omega) fun w5 _ hb5 M5 => ⟨m0 M5, ?_⟩
      have h5 := h4.mkAdd M5 hb5 (Nat.le_refl _)
      refine Vec.mkK ET (0, 0) n hs1 rfl (by show vs.length < _; omega) (by show _ * vs.length ≤ _; omega) fun w6 _ hb6 M6 => ⟨m0 (M5.trans M6 (fun _ _ h => h) fun _ _ h => h), ?_⟩
      have h6 := h5.mkAdd M6 hb6 (Nat.le_refl _)
      have M56 := m0 (M5.trans M6 (fun _ _ h => h) fun _ _ h => h)
      refine dr_some (h6.st 1 rfl (show (3 : Nat) ≤ 9 by decide) fun w7 h7 M7 => ⟨m2 M56 M7, dr_some (h7.st 1 rfl (show (4 : Nat) ≤ 9 by decide) fun w8 h8 M8 => ⟨m2 (m2 M56 M7) M8, hk _ ⟨w5.heap.size, w3.drew.heap.size, h8.perm ?_⟩⟩)⟩)
      exact .cons _ (.cons _ (List.Perm.swap _ _ _))
  · rintro w4 ⟨bh, bs, h4⟩
    let y : Ly := ⟨b17, bf, bh, bs, cv, a15, EF.cells vs ++ rest, n, ⟨none, 0, 0⟩⟩
    refine hK w4 y (h4.perm (List.Perm.swap _ _ _)) ⟨rfl, rfl, hp, hlen2, by have := hv2.rd.has; rw [hlen2] at this; exact this, fun i hi => ?_, rfl⟩
    show (EF.cells vs ++ rest)[i]? = _
    have hi1 : i * EF.n + 0 = i := by simp [EF]
    have := EF.cells_get vs i 0 (by decide)
    rw [hi1] at this
    rw [List.getElem?_append_left (by rw [EF.cells_length]; simpa [EF] using hi), this, List.getElem?_eq_getElem hi]
    simp [EF_f (hf _ (List.getElem_mem hi))]
end Go.Proofs.Ytfhojgammfkabaa
