/- Played sources tell their lists; a caller's own blocks beside a merge; appending to a known slice. -/
import Derived.Test.YtfhojgammfkabaaM12
namespace Go.Proofs.Ytfhojgammfkabaa
open Go.Vw

/-- a feed, and what it has yet to tell -/
def FeedR (l : List Thing) (s : FS) : Option (List Thing) → Prop
  | some r => s.at_ ≤ l.length ∧ r = l.drop s.at_ ∧ s.over = false ∧ s.asks = s.at_ ∧ s.bad = false
  | none => s.at_ = l.length ∧ s.over = true ∧ s.asks = l.length + 1 ∧ s.bad = false
def Feeds.St (f : Feeds) (t : Nat → FS) (R : Nat → Option (List Thing)) : Prop := ∀ i, i < f.n → FeedR (f.L i) (t i) (R i)
theorem Feeds.lists (f : Feeds) (hf : f.Ok) : Lists (f.src hf) f.en f.St := by
  constructor
  · intro t R i x r hi hst hR
    have hi' : i < f.n := hi
    have h := hst i hi'
    rw [hR] at h
    obtain ⟨h1, h2, h3, h4, h5⟩ := h
    have hlt : (t i).at_ < (f.L i).length := by
      rcases Nat.lt_or_ge (t i).at_ (f.L i).length with h | h
      · exact h
      · rw [List.drop_eq_nil_of_le h] at h2; cases h2
    have hd := List.drop_eq_getElem_cons hlt
    rw [← h2] at hd
    have hx : (f.L i)[(t i).at_]? = some x := by rw [List.getElem?_eq_getElem hlt]; cases hd; rfl
    have hr : r = (f.L i).drop ((t i).at_ + 1) := by cases hd; rfl
    have hlm := hf.len i hi'
    have ha : ask1 (f.L i) (f.en i) (t i) = ((x, true, 0), { at_ := (t i).at_ + 1, asks := w64 ((t i).asks + 1), over := (t i).over, bad := (t i).bad || (t i).over }) := by unfold ask1; rw [hx]
    refine ⟨by show (ask1 _ _ _).1 = _; rw [ha], fun j hj => ?_⟩
    show FeedR (f.L j) (upd t i (ask1 (f.L i) (f.en i) (t i)).2 j) _
    rw [ha]
    by_cases hji : j = i
    · subst hji
      rw [upd_same, upd_same]
      exact ⟨hlt, hr, h3, by rw [h4]; show w64 (((t j).at_ : Int) + 1) = _; rw [w64_in (by omega) (by omega)]; simp, by simp [h3, h5]⟩
    · rw [upd_ne _ _ hji, upd_ne _ _ hji]; exact hst j hj
  · intro t R i hi hst hR
    have hi' : i < f.n := hi
    have h := hst i hi'
    rw [hR] at h
    obtain ⟨h1, h2, h3, h4, h5⟩ := h
    have hge : (f.L i).length ≤ (t i).at_ := by
      rcases Nat.lt_or_ge (t i).at_ (f.L i).length with h | h
      · rw [List.drop_eq_getElem_cons h] at h2; cases h2
      · exact h
    have hx : (f.L i)[(t i).at_]? = none := List.getElem?_eq_none hge
    have hlm := hf.len i hi'
    have ha : ask1 (f.L i) (f.en i) (t i) = (((-99, -99), false, f.en i), { at_ := (t i).at_, asks := w64 ((t i).asks + 1), over := true, bad := (t i).bad || (t i).over }) := by unfold ask1; rw [hx]
    refine ⟨by show (ask1 _ _ _).1.2 = _; rw [ha], fun j hj => ?_⟩
    show FeedR (f.L j) (upd t i (ask1 (f.L i) (f.en i) (t i)).2 j) _
    rw [ha]
    by_cases hji : j = i
    · subst hji
      rw [upd_same, upd_same]
      exact ⟨by show (t j).at_ = _; omega, rfl, by rw [h4]; show w64 (((t j).at_ : Int) + 1) = _; rw [w64_in (by omega) (by omega)]; omega, by simp [h3, h5]⟩
    · rw [upd_ne _ _ hji, upd_ne _ _ hji]; exact hst j hj

/-! ### a caller's own blocks -/
/-- these blocks -/
def Ks (r : List (Nat × List Value)) : Nat → Prop := fun b => ∃ q ∈ r, q.1 = b
section
variable {σ : Type} {S : Srcs σ} {w0 w : World} {D : Nat → Prop} {y : Ly} {r : List (Nat × List Value)} {t : σ} {F : Nat → Prop}
theorem MI.law {s : MS} {rl : List (Nat × List Value)} (h : MI S w0 D y s (rl ++ r) t F w) {r' : List (Nat × List Value)} {w' : World} (hA : At w (Ks r) r' w') : MI S w0 D y s (rl ++ r') t F w' := by
  have hmem : ∀ q ∈ r, q ∈ y.m s (rl ++ r) := fun q hq => by simp [Ly.m, hq]
  have hnd := h.at_.nodup
  have hsplit : y.m s (rl ++ r) = y.m s rl ++ r := by simp [Ly.m]
  have hsplit' : y.m s (rl ++ r') = y.m s rl ++ r' := by simp [Ly.m]
  have hdis : ∀ p ∈ y.m s rl, ¬ Ks r p.1 := by
    rintro p hp ⟨q, hq, e⟩
    rw [hsplit, List.map_append, List.nodup_append] at hnd
    exact hnd.2.2 _ (List.mem_map_of_mem hp) _ (List.mem_map_of_mem hq) e.symm
  have hbase : ∀ b, w.heap.size ≤ b → ¬ S.G F b := fun b hb hg => by
    rcases hg with hg | hg
    · have := S.lt _ _ _ _ h.src hg; omega
    · have := At.lt h.at_ _ (by simp [Ly.m] : (y.b, y.st s) ∈ y.m s (rl ++ r))
      exact h.off.b (.inr (by simp at this; omega))
  have hold : ∀ p ∈ y.m s rl, p ∈ y.m s (rl ++ r) := fun p hp => by rw [hsplit]; exact List.mem_append_left _ hp
  refine ⟨⟨h.at_.mod.trans hA.mod (fun _ _ h => h) ?_, ?_, ?_, ?_⟩, ⟨h.ok.hd, h.ok.sm⟩, S.keepG h.src hA.mod ?_, Off.of (s := s) ?_, h.dom⟩
  · rintro b hb ⟨q, hq, rfl⟩; exact h.at_.wr q (hmem q hq) hb
  · intro p hp
    rw [hsplit'] at hp
    rcases List.mem_append.1 hp with hp | hp
    · exact hA.mod.blk (h.at_.own p (hold p hp)) (hdis p hp)
    · exact hA.own p hp
  · rw [hsplit', List.map_append, List.nodup_append]
    rw [hsplit, List.map_append, List.nodup_append] at hnd
    refine ⟨hnd.1, hA.nodup, ?_⟩
    rintro a ha b hb rfl
    obtain ⟨p, hp, rfl⟩ := List.mem_map.1 ha
    obtain ⟨q, hq, e⟩ := List.mem_map.1 hb
    have hlt := At.lt h.at_ p (hold p hp)
    have := hA.wr q hq (by omega)
    rw [e] at this
    exact hdis p hp this
  · intro p hp hlt
    rw [hsplit'] at hp
    rcases List.mem_append.1 hp with hp | hp
    · exact h.at_.wr p (hold p hp) hlt
    · obtain ⟨q, hq, e⟩ := hA.wr p hp (Nat.lt_of_lt_of_le hlt h.at_.mod.size)
      rw [← e] at hlt ⊢; exact h.at_.wr q (hmem q hq) hlt
  · rintro b hg ⟨q, hq, rfl⟩; exact h.off.all s q (hmem q hq) hg
  · intro p hp hg
    rw [hsplit'] at hp
    rcases List.mem_append.1 hp with hp | hp
    · exact h.off.all s p (hold p hp) hg
    · rcases Nat.lt_or_ge p.1 w.heap.size with hlt | hge
      · obtain ⟨q, hq, e⟩ := hA.wr p hp hlt
        rw [← e] at hg; exact h.off.all s q (hmem q hq) hg
      · exact hbase _ hge hg
theorem MF.law {p : PM} (h : MF S w0 D y p r t F w) {r' : List (Nat × List Value)} {w' : World} (hA : At w (Ks r) r' w') : MF S w0 D y p r' t F w' :=
  ⟨by obtain ⟨lo, rl, h1, h2⟩ := h.ex; exact ⟨lo, rl, h1.law hA, h2⟩, h.win⟩
theorem MF.rest {p : PM} (h : MF S w0 D y p r t F w) : At w (Ks r) r w := by
  obtain ⟨lo, rl, h1, h2⟩ := h.ex
  have hsplit : ({ y with lo := lo } : Ly).m p.1 (rl ++ r) = ({ y with lo := lo } : Ly).m p.1 rl ++ r := by simp [Ly.m]
  have h3 := h1.at_
  rw [hsplit] at h3
  exact (h3.sub (List.sublist_append_right _ _)).from fun q hq => ⟨q, hq, rfl⟩
theorem MF.at0 {p : PM} (h : MF S w0 D y p r t F w) : Mod D w0 w := by obtain ⟨lo, rl, h1, h2⟩ := h.ex; exact h1.at_.mod
theorem MF.src {p : PM} (h : MF S w0 D y p r t F w) : S.I t F w := by obtain ⟨lo, rl, h1, h2⟩ := h.ex; exact h1.src
end
/-- a slice that is one's own, its block among the known ones -/
def VecE {α : Type} (ro : List (Nat × List Value)) (E : Enc α) (s : Sl) (l : List α) : Prop :=
  s.len = l.length ∧ ((ro = [] ∧ s.p = none ∧ s.cap = 0 ∧ l = []) ∨ ∃ b rest, ro = [(b, E.cells l ++ rest)] ∧ s.p = some (b, 0) ∧ (E.cells l ++ rest).length = s.cap * E.n)
theorem VecE.nil {α : Type} (E : Enc α) : VecE [] E ⟨none, 0, 0⟩ [] := ⟨rfl, .inl ⟨rfl, rfl, rfl, rfl⟩⟩
theorem VecE.vec {α : Type} {ro : List (Nat × List Value)} {E : Enc α} {s : Sl} {l : List α} (h : VecE ro E s l) {w : World} (hb : ∀ p ∈ ro, Blk w p.1 p.2) : Vec w E s l :=
  ⟨h.1, h.2.imp (fun h => ⟨h.2.1, h.2.2.1, h.2.2.2⟩) fun ⟨b, rest, h1, h2, h3⟩ => ⟨b, rest, h2, hb (b, _) (by rw [h1]; simp), h3⟩⟩
theorem VecE.key {α : Type} {ro : List (Nat × List Value)} {E : Enc α} {s : Sl} {l : List α} (h : VecE ro E s l) {b : Nat} (hb : bk s b) : Ks ro b := by
  obtain ⟨o, hb⟩ := hb
  rcases h.2 with ⟨_, hp, _⟩ | ⟨b', rest, h1, h2, _⟩
  · rw [hp] at hb; cases hb
  · rw [h2] at hb; cases hb; exact ⟨_, by rw [h1]; exact List.mem_singleton.2 rfl, rfl⟩
theorem VecE.of_vec {α : Type} {w : World} {E : Enc α} {s : Sl} {l : List α} (h : Vec w E s l) : ∃ ro, VecE ro E s l ∧ (∀ p ∈ ro, Blk w p.1 p.2) ∧ (ro.map Prod.fst).Nodup ∧ ∀ p ∈ ro, bk s p.1 := by
  rcases h.own with ⟨h1, h2, h3⟩ | ⟨b, rest, h1, h2, h3⟩
  · exact ⟨[], ⟨h.len, .inl ⟨rfl, h1, h2, h3⟩⟩, by simp, by simp, by simp⟩
  · exact ⟨[(b, E.cells l ++ rest)], ⟨h.len, .inr ⟨b, rest, rfl, h1, h3⟩⟩, by simpa using h2, by simp, by simpa using ⟨0, h1⟩⟩
/-- append, with the known blocks -/
theorem _root_.Go.Vw.At.app {α : Type} {w0 w : World} {D : Nat → Prop} {m ro : List (Nat × List Value)} (hA : At w0 D (m ++ ro) w) {E : Enc α} {s x : Sl} {l l2 : List α} (hv : VecE ro E s l) (hr : RdS w E x l2) {e : TypeId} {n bytes : Nat} {zs : List LV} (hn : n = E.n) (hz : zs.length = E.n) (hlim : (l.length + l2.length + 1024) * (bytes + 1) ≤ 2 ^ 46)
    {K : Sl → World → Prop} (hK : ∀ s' ro' w', At w0 D (m ++ ro') w' → VecE ro' E s' (l ++ l2) → Mod (Ks ro) w w' → K s' w') : ap w e n bytes zs s x K := by
  have hvec := hv.vec (w := w) fun p hp => hA.own p (List.mem_append_right _ hp)
  refine hvec.app hr hn hz hlim fun s' w' hv' hbk' hM _ => ?_
  obtain ⟨ro', h1, h2, h3, h4⟩ := VecE.of_vec hv'
  have hM' : Mod (Ks ro) w w' := hM.mono fun b _ hb => hv.key hb
  have hnd := hA.nodup
  rw [List.map_append, List.nodup_append] at hnd
  have hdis : ∀ p ∈ m, ¬ Ks ro p.1 := by
    rintro p hp ⟨q, hq, e⟩
    exact hnd.2.2 _ (List.mem_map_of_mem hp) _ (List.mem_map_of_mem hq) e.symm
  refine hK s' ro' w' ⟨hA.mod.trans hM' (fun _ _ h => h) ?_, ?_, ?_, ?_⟩ h1 hM'
  · rintro b hb ⟨q, hq, rfl⟩; exact hA.wr q (List.mem_append_right _ hq) hb
  · intro p hp
    rcases List.mem_append.1 hp with hp | hp
    · exact hM'.blk (hA.own p (List.mem_append_left _ hp)) (hdis p hp)
    · exact h2 p hp
  · rw [List.map_append, List.nodup_append]
    refine ⟨hnd.1, h3, ?_⟩
    rintro a ha b hb rfl
    obtain ⟨p, hp, rfl⟩ := List.mem_map.1 ha
    obtain ⟨q, hq, e⟩ := List.mem_map.1 hb
    rcases hbk' q.1 (h4 q hq) with h | h
    · have := hv.key h; rw [e] at this; exact hdis p hp this
    · have := (hA.own p (List.mem_append_left _ hp)).lt; omega
  · intro p hp hlt
    rcases List.mem_append.1 hp with hp | hp
    · exact hA.wr p (List.mem_append_left _ hp) hlt
    · rcases hbk' p.1 (h4 p hp) with h | h
      · obtain ⟨q, hq, e⟩ := hv.key h
        rw [← e] at hlt ⊢; exact hA.wr q (List.mem_append_right _ hq) hlt
      · exact absurd hlt (by have := hA.mod.size; omega)
end Go.Proofs.Ytfhojgammfkabaa
