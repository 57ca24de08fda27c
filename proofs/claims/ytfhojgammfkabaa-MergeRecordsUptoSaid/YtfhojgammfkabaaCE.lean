/- merge.Records: its closures, and all of it, walked. -/
import Derived.Test.YtfhojgammfkabaaCG
namespace Go.Proofs.Ytfhojgammfkabaa.Rc
open Go.Vw

/-- a closure: its two variables, the list -/
abbrev Cl := Nat × Nat × Sl
def Cl.v (c : Cl) : Value := .func (.func 50) #[] #[(LV.toV (.ptr (some (c.1, 0)))), (LV.toV (.ptr (some (c.2.1, 0))))]
def Cl.m (c : Cl) : List (Nat × List Value) := [(c.1, [.int .i64 0]), (c.2.1, [(LV.sl c.2.2).toV])]
def clM (cs : List Cl) : List (Nat × List Value) := cs.flatMap Cl.m
theorem Cl.v_fn (c : Cl) : isFn c.v := ⟨_, _, _, rfl⟩
theorem clM_app (a b : List Cl) : clM (a ++ b) = clM a ++ clM b := by simp [clM]
theorem clM_mem {cs : List Cl} {i : Nat} {c : Cl} (h : cs[i]? = some c) : (c.1, [.int .i64 0]) ∈ clM cs ∧ (c.2.1, [(LV.sl c.2.2).toV]) ∈ clM cs := by
  have hm := List.mem_of_getElem? h
  exact ⟨List.mem_flatMap.2 ⟨c, hm, by simp [Cl.m]⟩, List.mem_flatMap.2 ⟨c, hm, by simp [Cl.m]⟩⟩
theorem clM_nd : ∀ {cs : List Cl}, ((clM cs).map Prod.fst).Nodup → ∀ (i j : Nat) (c d : Cl), cs[i]? = some c → cs[j]? = some d → (c.1 = d.1 → i = j) ∧ c.1 ≠ d.2.1 ∧ (c.2.1 = d.2.1 → i = j)
  | [], _, i, j, c, d, h, _ => by simp at h
  | x :: cs, hnd, i, j, c, d, hc, hd => by
    have hnd' : ([x.1, x.2.1] ++ (clM cs).map Prod.fst).Nodup := by simpa [clM, Cl.m] using hnd
    rw [List.nodup_append] at hnd'
    obtain ⟨n1, n2, n3⟩ := hnd'
    have out : ∀ {k : Nat} {e : Cl}, cs[k]? = some e → x.1 ≠ e.1 ∧ x.1 ≠ e.2.1 ∧ x.2.1 ≠ e.1 ∧ x.2.1 ≠ e.2.1 := fun {k e} he => by
      obtain ⟨h1, h2⟩ := clM_mem he
      have h1' := List.mem_map_of_mem (f := Prod.fst) h1
      have h2' := List.mem_map_of_mem (f := Prod.fst) h2
      exact ⟨n3 _ (by simp) _ h1', n3 _ (by simp) _ h2', n3 _ (by simp) _ h1', n3 _ (by simp) _ h2'⟩
    have hx : x.1 ≠ x.2.1 := by simpa using n1
    cases i with
    | zero =>
      simp at hc; subst hc
      cases j with
      | zero => simp at hd; subst hd; exact ⟨fun _ => rfl, hx, fun _ => rfl⟩
      | succ j =>
        have hd : cs[j]? = some d := by simpa using hd
        obtain ⟨o1, o2, o3, o4⟩ := out hd
        exact ⟨fun e => absurd e o1, o2, fun e => absurd e o4⟩
    | succ i =>
      have hc : cs[i]? = some c := by simpa using hc
      cases j with
      | zero =>
        simp at hd; subst hd
        obtain ⟨o1, o2, o3, o4⟩ := out hc
        exact ⟨fun e => absurd e.symm o1, fun e => o3 e.symm, fun e => absurd e.symm o4⟩
      | succ j =>
        have hd : cs[j]? = some d := by simpa using hd
        obtain ⟨h1, h2, h3⟩ := clM_nd n2 i j c d hc hd
        exact ⟨fun e => by rw [h1 e], h2, fun e => by rw [h3 e]⟩
def mkC (cs : List Cl) (Ls : List (List Thing)) (base : Nat) : Cs := ⟨cs.length, fun i => (cs[i]?.getD (0, 0, ⟨none, 0, 0⟩)).1, fun i => (cs[i]?.getD (0, 0, ⟨none, 0, 0⟩)).2.1, fun i => (cs[i]?.getD (0, 0, ⟨none, 0, 0⟩)).2.2, LQ Ls, base⟩
/-- a merge of closures, as it is when it has been made -/
theorem start_of {f : Cs} (hf : f.Ok) (hbl : ∀ i j, i < f.n → j < f.n → f.bl i = f.bl j → i = j) {w w4 : World} {F : Nat → Prop} (hI : f.I (fun _ => 0) F w) (hbase : f.base ≤ w.heap.size) {cv : Value} {vs : List Value} (hvl : vs.length = f.n) (hvs : ∀ i, i < f.n → vs[i]? = some ((f.src hf hbl).v i)) {y : Ly}
    (hA : At w (fun _ => False) (y.m (s0 vs.length) []) w4) (hy : Made y cv vs) :
    Of (f.src hf hbl) y ∧ MF (f.src hf hbl) w F y (s0 f.n, []) [] (fun _ => 0) F w4 ∧ Rel f.n f.St (s0 f.n) (fun _ => 0) f.L 0 f.L := by
  rw [hvl] at hA
  have hkey : ∀ p ∈ y.m (s0 f.n) [], w.heap.size ≤ p.1 := fun p hp => Nat.not_lt.1 fun hlt => hA.wr p hp hlt
  refine ⟨⟨by show f.n = _; rw [hy.n, hvl], hy.p, by rw [hy.len, hy.n], by rw [hy.n]; exact hy.cap, fun i hi => ?_⟩, ⟨⟨y.lo, [], ⟨hA.weaken fun _ _ h => h.elim, ?_, (f.src hf hbl).keep _ _ _ _ _ hI hA.mod (fun _ _ => id) (fun _ _ => id), Off.of (s := s0 f.n) fun p hp hg => ?_, fun _ _ h => h⟩, fun h => by cases h⟩, fun h => by cases h⟩, ?_⟩
  · have hi' : i < f.n := by rw [hy.n, hvl] at hi; exact hi
    rw [hy.cf i (by rw [hvl]; exact hi')]
    exact hvs i hi'
  · exact ⟨by rw [hy.n]; simp [s0, hvl], by rw [hy.n]; simp [s0, hvl], fun x hx => by
      have : x = (0, [], []) := by have := List.eq_of_mem_replicate (show x ∈ List.replicate f.n _ from hx); exact this
      rw [this]; exact Nat.zero_le _⟩
  · have := hkey p hp
    rcases hg with hg | hg
    · have := (f.src hf hbl).lt _ _ _ _ hI hg; omega
    · have : p.1 < f.base := hg
      omega
  · refine ⟨by simp [s0], by simp [s0], fun i => some (f.L i), fun i hi => ⟨Nat.zero_le _, rfl⟩, fun i hi => by omega, fun i _ hi => ⟨rfl, rfl, ?_⟩⟩
    simp [s0, getB, List.getElem?_replicate, hi]
theorem tell_over {σ : Type} {S : Srcs σ} {en : Nat → Int} {St : σ → (Nat → Option (List Thing)) → Prop} {tot : Nat} {Fin : (Nat → Option (List Thing)) → Prop} {err : Int} {p : PM} {t : σ} {c : Nat} {rest : List Thing} (h : Tell S en St tot Fin p t c rest err) (hov : p.1.ov = true) : p.1.e = err := by
  cases h with
  | start _ h => rw [hov] at h; cases h
  | mid _ h => rw [hov] at h; cases h
  | over _ _ h3 h4 => exact h3
/-- make([]T, 0, n) -/
theorem mk0 {α : Type} {w : World} (E : Enc α) (z : α) {e : TypeId} {bytes : Nat} {zs : List LV} {n : Int} (k : Nat) (hk : n = (k : Int)) (hz : zs.map LV.toV = E.f z) (h1 : k < 2 ^ 48) (h2 : bytes * k ≤ 2 ^ 47)
    {K : Sl → World → Prop} (hK : ∀ w' ro, At w (fun _ => False) ro w' → VecE ro E ⟨some (w.heap.size, 0), 0, k⟩ [] → K ⟨some (w.heap.size, 0), 0, k⟩ w') : Go.Vw.mk w e bytes zs 0 n K := by
  subst hk
  have hc : ∀ m : Nat, (List.replicate m (zs.map LV.toV)).flatten = E.cells (List.replicate m z) := by
    intro m
    induction m with
    | zero => rfl
    | succ m ih => rw [hz] at ih; simp only [List.replicate_succ, List.flatten_cons, Enc.cells, hz, ih]
  refine ⟨Int.le_refl _, by omega, by exact_mod_cast h1, by exact_mod_cast h2, ?_⟩
  have hb := (At.init w fun _ => False).al (List.replicate k (zs.map LV.toV)).flatten e
  simp only [Int.toNat_natCast]
  refine hK _ _ hb ⟨rfl, .inr ⟨_, (List.replicate k (zs.map LV.toV)).flatten, rfl, rfl, ?_⟩⟩
  rw [hc]
  show ([] ++ E.cells (List.replicate k z)).length = k * E.n
  rw [List.nil_append, E.cells_length, List.length_replicate]
end Go.Proofs.Ytfhojgammfkabaa.Rc
