/- Merges as sources. -/
import Derived.Test.YtfhojgammfkabaaT6
import Derived.Test.YtfhojgammfkabaaSBund
namespace Go.Proofs.Ytfhojgammfkabaa
open Go.Vw

/-- a merge of played sources that is a source: its feeds, where it lies, the block that holds it -/
structure Bun where
  f : Feeds
  hf : f.Ok
  y : Ly
  xb : Nat
def Bun.S (b : Bun) : Srcs (Nat → FS) := b.f.src b.hf
abbrev BS := PM × (Nat → FS)
def Bun.cell (b : Bun) : List (Nat × List Value) := [(b.xb, [(LV.ptr (some (b.y.b, 0))).toV])]
def Bun.T (b : Bun) (s : BS) (c : Nat) (rest : List Thing) (err : Int) : Prop := Tell b.S b.f.en b.f.St (remQ b.f.L b.f.n) (fun _ => True) s.1 s.2 c rest err
structure BunOk (base : Nat) (b : Bun) : Prop where
  of : Of b.S b.y
  cv : CmpOk b.y.cv cmpT
  n : b.y.n ≤ 64
  base : b.f.base ≤ base
/-- where it stands: D: the blocks that are its own -/
structure BunAt (b : Bun) (s : BS) (D : Nat → Prop) (w : World) : Prop where
  mf : ∃ F, MF b.S w D b.y s.1 b.cell s.2 F w
  tell : ∃ c rest err, b.T s c rest err
theorem BunAt.keep {base : Nat} {b : Bun} (hb : BunOk base b) {s : BS} {D : Nat → Prop} {w : World} (h : BunAt b s D w) {E : Nat → Prop} {w' : World} (hM : Mod E w w') (hD : ∀ x, x < w.heap.size → D x → ¬ E x) (hE : ∀ x, x < base → ¬ E x) : BunAt b s D w' := by
  obtain ⟨F, hm⟩ := h.mf
  refine ⟨⟨F, ?_⟩, h.tell⟩
  obtain ⟨lo, rl, h1, h2⟩ := hm.ex
  have hk : ∀ p ∈ ({ b.y with lo := lo } : Ly).m s.1.1 (rl ++ b.cell), D p.1 := fun p hp => h1.at_.wr p hp (At.lt h1.at_ p hp)
  have hA : At w (fun x => D x ∨ E x) (({ b.y with lo := lo } : Ly).m s.1.1 (rl ++ b.cell)) w' :=
    (h1.at_.weaken fun _ _ h => .inl h).keep hM (fun x _ h => .inr h) fun p hp he => hD _ (At.lt h1.at_ p hp) (hk p hp) he
  have hfl : ∀ x, F x → D x := fun x hx => h1.dom x (b.S.lt _ _ _ _ h1.src hx) hx
  refine ⟨⟨lo, rl, ⟨hA.from hk, h1.ok, b.S.keepG h1.src hM fun x hx he => ?_, h1.off, fun x _ hx => hfl x hx⟩, h2⟩, hm.win⟩
  rcases hx with hx | hx
  · exact hD x (b.S.lt _ _ _ _ h1.src hx) (hfl x hx) he
  · exact hE x (Nat.lt_of_lt_of_le hx hb.base) he
/-- all of them -/
structure BunI (bs : List Bun) (base : Nat) (st : Nat → BS) (F : Nat → Prop) (w : World) : Prop where
  hbase : base ≤ w.heap.size
  ex : ∃ Ds : Nat → Nat → Prop, (∀ x, F x ↔ ∃ j, j < bs.length ∧ Ds j x) ∧ (∀ (j : Nat) b, bs[j]? = some b → BunAt b (st j) (Ds j) w) ∧ (∀ i j, i < bs.length → j < bs.length → i ≠ j → ∀ x, Ds i x → ¬ Ds j x) ∧ ∀ j, j < bs.length → ∀ x, Ds j x → base ≤ x ∧ x < w.heap.size
def nextB (x : Nat) : Value := .func (.func 29) #[(LV.toV (.ptr (some (x, 0))))] #[]
theorem nextB_fn (x : Nat) : isFn (nextB x) := ⟨_, _, _, rfl⟩
def askB (bs : List Bun) (st : Nat → BS) (j : Nat) : (Thing × Bool × Int) × (Nat → BS) :=
  match bs[j]? with
  | some b => ((nextM b.S cmpT b.y.n (st j).1 (st j).2).1, upd st j (nextM b.S cmpT b.y.n (st j).1 (st j).2).2)
  | none => (((0, 0), false, 0), st)
theorem Bun.next {base : Nat} {b : Bun} (hb : BunOk base b) {s : BS} {c : Nat} {rest : List Thing} {err : Int} (h : b.T s c rest err) :
    (∀ x r, rest = x :: r → (nextM b.S cmpT b.y.n s.1 s.2).1 = (x, true, 0) ∧ b.T (nextM b.S cmpT b.y.n s.1 s.2).2 (c + 1) r err) ∧ (rest = [] → (nextM b.S cmpT b.y.n s.1 s.2).1 = ((0, 0), false, err) ∧ b.T (nextM b.S cmpT b.y.n s.1 s.2).2 c [] err) := by
  obtain ⟨n1, n2⟩ := next_tell (b.f.lists b.hf) h
  have e : (b.f.src b.hf).n = b.y.n := hb.of.n
  rw [e] at n1 n2
  exact ⟨fun x r hr => ⟨(n1 x r hr).1, (n1 x r hr).2.1⟩, fun hr => ⟨(n2 hr).1, (n2 hr).2.1⟩⟩
theorem bun_next {base : Nat} {b : Bun} (hb : BunOk base b) {s : BS} {D : Nat → Prop} {w : World} (h : BunAt b s D w) {K : Int → Int → Bool → Int → World → Prop}
    (hK : ∀ w' D', BunAt b (nextM b.S cmpT b.y.n s.1 s.2).2 D' w' → Mod D w w' → (∀ x, D' x → x < w'.heap.size ∧ (x < w.heap.size → D x)) →
      K (nextM b.S cmpT b.y.n s.1 s.2).1.1.1 (nextM b.S cmpT b.y.n s.1 s.2).1.1.2 (nextM b.S cmpT b.y.n s.1 s.2).1.2.1 (nextM b.S cmpT b.y.n s.1 s.2).1.2.2 w') :
    callK Try.prog 29 [.leaf (.ptr (some (b.xb, 0)))] w (.tup [.agg [.int .i64, .int .i64], .leaf .bool, .leaf (.int .i64)]) K := by
  refine go_winnowlaw11_Inner_next _ _ _ ?_
  unfold S_winnowlaw11_Inner_next
  obtain ⟨F, hm⟩ := h.mf
  obtain ⟨c, rest, err, hT⟩ := h.tell
  refine hm.rest.alK fun b2 w3 _ hA3 _ => ?_
  have hA3 : At w (Ks b.cell) (b.cell ++ [(b2, zT)]) w3 := hA3
  have hm3 := hm.law hA3
  refine dr_some (hm3.rest.ld 0 (k := .ptr) (some (b.y.b, 0)) rfl rfl ?_)
  have hbg : s.1.1.bg = false → s.1.1.win = 0 ∧ s.1.1.ov = false := Tell.bg0 hT
  refine next_ok hb.of hb.cv hb.n hbg hm3 fun w11 F11 hm11 => ?_
  have hA11 : At w11 (Ks (b.cell ++ [(b2, zT)])) (b.cell ++ [(b2, zT)]) w11 := hm11.rest
  refine At.last hA11 (Nat.le_refl 2) fun w12 hA12 => ?_
  have hA12 : At w11 (Ks (b.cell ++ [(b2, zT)])) (b.cell ++ [(b2, [.int .i64 (nextM b.S cmpT b.y.n s.1 s.2).1.1.1, .int .i64 (nextM b.S cmpT b.y.n s.1 s.2).1.1.2])]) w12 := hA12
  refine hA12.ld 1 (k := .int .i64) (nextM b.S cmpT b.y.n s.1 s.2).1.1.1 rfl rfl (hA12.ld 1 (k := .int .i64) (nextM b.S cmpT b.y.n s.1 s.2).1.1.2 rfl rfl ?_)
  have hm12 := (hm11.law hA12).drop (List.sublist_append_left b.cell _)
  obtain ⟨D', hr, d1, _⟩ := hm12.reb
  refine hK w12 D' ⟨⟨_, hr⟩, ?_⟩ hm12.at0 d1
  obtain ⟨n1, n2⟩ := Bun.next hb hT
  cases rest with
  | nil => exact ⟨_, _, _, (n2 rfl).2⟩
  | cons x r => exact ⟨_, _, _, (n1 x r rfl).2⟩
def bunS (bs : List Bun) (base : Nat) (hok : ∀ b ∈ bs, BunOk base b) : Srcs (Nat → BS) where
  n := bs.length
  v j := nextB ((bs[j]?.map Bun.xb).getD 0)
  ask := askB bs
  I := BunI bs base
  base := base
  keep st F w w' D h hM hd hb := by
    obtain ⟨Ds, h1, h2, h3, h4⟩ := h.ex
    have hlen : ∀ (j : Nat) b, bs[j]? = some b → j < bs.length := fun j b hj => (List.getElem?_eq_some_iff.1 hj).1
    exact ⟨Nat.le_trans h.hbase hM.size, Ds, h1, fun j b hj => (h2 j b hj).keep (hok b (List.mem_of_getElem? hj)) hM (fun x _ hx => hd x ((h1 x).2 ⟨j, hlen j b hj, hx⟩)) hb, h3, fun j hj x hx => ⟨(h4 j hj x hx).1, Nat.lt_of_lt_of_le (h4 j hj x hx).2 hM.size⟩⟩
  lt st F w b h hF := by
    obtain ⟨Ds, h1, h2, h3, h4⟩ := h.ex
    obtain ⟨j, hj, hx⟩ := (h1 b).1 hF
    exact (h4 j hj b hx).2
  call st F w i K hi h hK := by
    obtain ⟨Ds, h1, h2, h3, h4⟩ := h.ex
    obtain ⟨b, hb⟩ : ∃ b, bs[i]? = some b := ⟨_, List.getElem?_eq_getElem hi⟩
    have hbo := hok b (List.mem_of_getElem? hb)
    have hlen : ∀ (j : Nat) b, bs[j]? = some b → j < bs.length := fun j b hj => (List.getElem?_eq_some_iff.1 hj).1
    have hv : nextB ((bs[i]?.map Bun.xb).getD 0) = nextB b.xb := by rw [hb]; rfl
    rw [hv]
    refine callV_func (CS_ok 29 rfl) [.leaf (.ptr (some (b.xb, 0)))] (by rfl) ?_
    have hask : askB bs st i = ((nextM b.S cmpT b.y.n (st i).1 (st i).2).1, upd st i (nextM b.S cmpT b.y.n (st i).1 (st i).2).2) := by unfold askB; rw [hb]
    refine bun_next hbo (h2 i b hb) fun w' D' hB hM hD' => ?_
    have hK' := hK w' (fun x => ∃ j, j < bs.length ∧ upd Ds i D' j x)
    rw [hask] at hK'
    refine hK' ⟨Nat.le_trans h.hbase hM.size, upd Ds i D', fun _ => Iff.rfl, fun j bj hj => ?_, fun j k hj hk hne x hx => ?_, fun j hj x hx => ?_⟩ (hM.mono fun x _ hx => (h1 x).2 ⟨i, hi, hx⟩) fun x ⟨j, hj, hx⟩ => ?_
    · by_cases e : j = i
      · subst e
        rw [hb] at hj; cases hj
        dsimp only
        rw [upd_same, upd_same]; exact hB
      · dsimp only
        rw [upd_ne _ _ e, upd_ne _ _ e]
        exact (h2 j bj hj).keep (hok bj (List.mem_of_getElem? hj)) hM (fun x _ hx hd => h3 j i (hlen j bj hj) hi e x hx hd) fun x hx hd => by have := (h4 i hi x hd).1; omega
    · by_cases e : j = i
      · subst e
        rw [upd_same] at hx
        rw [upd_ne _ _ (fun h => hne h.symm)]
        intro hk2
        exact h3 j k hj hk hne x ((hD' x hx).2 (h4 k hk x hk2).2) hk2
      · rw [upd_ne _ _ e] at hx
        by_cases e2 : k = i
        · subst e2
          rw [upd_same]
          intro hk2
          exact h3 j k hj hk hne x hx ((hD' x hk2).2 (h4 j hj x hx).2)
        · rw [upd_ne _ _ e2]; exact h3 j k hj hk hne x hx
    · by_cases e : j = i
      · subst e
        rw [upd_same] at hx
        refine ⟨?_, (hD' x hx).1⟩
        rcases Nat.lt_or_ge x w.heap.size with hlt | hge
        · exact (h4 j hj x ((hD' x hx).2 hlt)).1
        · exact Nat.le_trans h.hbase hge
      · rw [upd_ne _ _ e] at hx
        exact ⟨(h4 j hj x hx).1, Nat.lt_of_lt_of_le (h4 j hj x hx).2 hM.size⟩
    · by_cases e : j = i
      · subst e
        rw [upd_same] at hx
        rcases Nat.lt_or_ge x w.heap.size with hlt | hge
        · exact .inl ((h1 x).2 ⟨j, hj, (hD' x hx).2 hlt⟩)
        · exact .inr hge
      · rw [upd_ne _ _ e] at hx
        exact .inl ((h1 x).2 ⟨j, hj, hx⟩)
def bunSt (bs : List Bun) (st : Nat → BS) (R : Nat → Option (List Thing)) : Prop := ∀ (j : Nat) b, bs[j]? = some b → ∀ rest, R j = some rest → ∃ c, b.T (st j) c rest 0
theorem bun_lists (bs : List Bun) (base : Nat) (hok : ∀ b ∈ bs, BunOk base b) : Lists (bunS bs base hok) (fun _ => 0) (bunSt bs) := by
  constructor
  · intro t R i x r hi hst hR
    have hi' : i < bs.length := hi
    obtain ⟨b, hb⟩ : ∃ b, bs[i]? = some b := ⟨_, List.getElem?_eq_getElem hi'⟩
    have hbo := hok b (List.mem_of_getElem? hb)
    have hask : (bunS bs base hok).ask t i = ((nextM b.S cmpT b.y.n (t i).1 (t i).2).1, upd t i (nextM b.S cmpT b.y.n (t i).1 (t i).2).2) := by show askB bs t i = _; unfold askB; rw [hb]
    obtain ⟨c, hT⟩ := hst i b hb _ hR
    obtain ⟨n1, _⟩ := Bun.next hbo hT
    obtain ⟨r1, r2⟩ := n1 x r rfl
    rw [hask]
    refine ⟨r1, fun j bj hj rest hrest => ?_⟩
    by_cases e : j = i
    · subst e
      rw [upd_same] at hrest; cases hrest
      rw [hb] at hj; cases hj
      dsimp only
      rw [upd_same]; exact ⟨_, r2⟩
    · rw [upd_ne _ _ e] at hrest
      dsimp only
      rw [upd_ne _ _ e]; exact hst j bj hj rest hrest
  · intro t R i hi hst hR
    have hi' : i < bs.length := hi
    obtain ⟨b, hb⟩ : ∃ b, bs[i]? = some b := ⟨_, List.getElem?_eq_getElem hi'⟩
    have hbo := hok b (List.mem_of_getElem? hb)
    have hask : (bunS bs base hok).ask t i = ((nextM b.S cmpT b.y.n (t i).1 (t i).2).1, upd t i (nextM b.S cmpT b.y.n (t i).1 (t i).2).2) := by show askB bs t i = _; unfold askB; rw [hb]
    obtain ⟨c, hT⟩ := hst i b hb _ hR
    obtain ⟨_, n2⟩ := Bun.next hbo hT
    obtain ⟨r1, r2⟩ := n2 rfl
    rw [hask]
    refine ⟨by rw [r1], fun j bj hj rest hrest => ?_⟩
    by_cases e : j = i
    · subst e
      rw [upd_same] at hrest; cases hrest
    · rw [upd_ne _ _ e] at hrest
      dsimp only
      rw [upd_ne _ _ e]; exact hst j bj hj rest hrest
/-- a merge of any sources, as it is when it has been made -/
theorem start_gen {σ : Type} {S : Srcs σ} {t : σ} {w w4 : World} {F : Nat → Prop} (hI : S.I t F w) (hbase : S.base ≤ w.heap.size) {vs : List Value} {cv : Value} (hn : S.n = vs.length) (hv : ∀ i, i < vs.length → vs[i]? = some (S.v i)) {y : Ly}
    (hA : At w (fun _ => False) (y.m (s0 vs.length) []) w4) (hy : Made y cv vs) : Of S y ∧ MF S w F y (s0 vs.length, []) [] t F w4 := by
  have hkey : ∀ p ∈ y.m (s0 vs.length) [], w.heap.size ≤ p.1 := fun p hp => Nat.not_lt.1 fun hlt => hA.wr p hp hlt
  refine ⟨⟨by rw [hy.n, hn], hy.p, by rw [hy.len, hy.n], by rw [hy.n]; exact hy.cap, fun i hi => ?_⟩, ⟨⟨y.lo, [], ⟨hA.weaken fun _ _ h => h.elim, ?_, S.keep _ _ _ _ _ hI hA.mod (fun _ _ => id) (fun _ _ => id), Off.of (s := s0 vs.length) fun p hp hg => ?_, fun _ _ h => h⟩, fun h => by cases h⟩, fun h => by cases h⟩⟩
  · have hi' : i < vs.length := by rw [hy.n] at hi; exact hi
    rw [hy.cf i hi', hv i hi']
  · exact ⟨by rw [hy.n]; simp [s0], by rw [hy.n]; simp [s0]⟩
  · have := hkey p hp
    rcases hg with hg | hg
    · have := S.lt _ _ _ _ hI hg; omega
    · have : p.1 < S.base := hg
      omega
end Go.Proofs.Ytfhojgammfkabaa
