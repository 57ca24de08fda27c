/- Sources that are played. -/
import Derived.Test.YtfhojgammfkabaaM4
import Derived.Test.YtfhojgammfkabaaSFeed
namespace Go.Proofs.Ytfhojgammfkabaa
open Go.Vw

theorem callV_func {f : FuncId} {a c : Array Value} {args : List AV} {w : World} {rt : RT} {K : Go.Vw.Fn rt.kds (World → Prop)} (hf : callable Try.prog f = true) (args' : List AV) (ha : a ++ (args.map AV.toV).toArray ++ c = (args'.map AV.toV).toArray)
    (h : callK Try.prog f args' w rt K) : callV Try.prog (.func (.func f) a c) args w rt K := .inl ⟨f, a, c, rfl, hf, by rw [ha]; exact h⟩
def cmpT (x y : Thing) : Int := if x.1 < y.1 then -1 else if y.1 < x.1 then 7 else 0
theorem compare_ok : CmpOk (.func (.func 31) #[] #[]) cmpT := by
  intro x y w K hK
  refine callV_func (CS_ok 31 rfl) [.agg [.int .i64 x.1, .int .i64 x.2], .agg [.int .i64 y.1, .int .i64 y.2]] (by rfl) ?_
  refine go_winnowlaw11_compare _ _ _ _ _ _ ?_
  unfold S_winnowlaw11_compare
  refine (At.init w fun _ => False).alK fun b5 w1 _ h1 M1 => h1.alK fun b7 w2 _ h2 M2 => ?_
  have hM := M1.trans M2 (fun _ _ h => h) (fun _ _ h => h)
  have h2 : At w (fun _ => False) [(b5, [.int .i64 x.1, .int .i64 x.2]), (b7, [.int .i64 y.1, .int .i64 y.2])] w2 := h2
  refine h2.ld 0 (k := .int .i64) x.1 rfl rfl (h2.ld 1 (k := .int .i64) y.1 rfl rfl ?_)
  have hk := hK w2 hM
  unfold cmpT at hk
  refine ifK_intro (fun h => ?_) (fun h => ?_)
  · rw [if_pos (by simpa using h)] at hk; exact hk
  · rw [if_neg (by simpa using h)] at hk
    refine h2.ld 0 (k := .int .i64) x.1 rfl rfl (h2.ld 1 (k := .int .i64) y.1 rfl rfl ?_)
    refine ifK_intro (fun h' => ?_) (fun h' => ?_)
    · rw [if_pos (by simpa using h')] at hk; exact hk
    · rw [if_neg (by simpa using h')] at hk; exact hk

structure FS where
  at_ : Nat
  asks : Int
  over : Bool
  bad : Bool
structure Feeds where
  n : Nat
  fb : Nat → Nat
  sl : Nat → Sl
  L : Nat → List Thing
  en : Nat → Int
  base : Nat
structure Feeds.Ok (f : Feeds) : Prop where
  inj : ∀ i j, i < f.n → j < f.n → f.fb i = f.fb j → i = j
  low : ∀ i, i < f.n → f.base ≤ f.fb i
  rd : ∀ i, i < f.n → ∀ b, rk (f.sl i) b → b < f.base
  len : ∀ i, i < f.n → (f.L i).length ≤ 1152921504606846976
def Feeds.c (f : Feeds) (i : Nat) (s : FS) : List Value := [(LV.sl (f.sl i)).toV, .int .i64 (f.en i), .int .i64 s.at_, .int .i64 s.asks, .bool s.over, .bool s.bad]
structure Feeds.I (f : Feeds) (s : Nat → FS) (F : Nat → Prop) (w : World) : Prop where
  F : ∀ b, F b ↔ ∃ i, i < f.n ∧ b = f.fb i
  blk : ∀ i, i < f.n → Blk w (f.fb i) (f.c i (s i))
  rd : ∀ i, i < f.n → RdS w ET (f.sl i) (f.L i)
  at_ : ∀ i, i < f.n → (s i).at_ ≤ (f.L i).length
def upd {α : Type} (s : Nat → α) (i : Nat) (x : α) : Nat → α := fun j => if j = i then x else s j
@[simp] theorem upd_same {α : Type} (s : Nat → α) (i : Nat) (x : α) : upd s i x i = x := by simp [upd]
theorem upd_ne {α : Type} (s : Nat → α) {i j : Nat} (x : α) (h : j ≠ i) : upd s i x j = s j := by simp [upd, h]
/-- one source is asked -/
def ask1 (l : List Thing) (en : Int) (s : FS) : (Thing × Bool × Int) × FS :=
  match l[s.at_]? with
  | some x => ((x, true, 0), { at_ := s.at_ + 1, asks := w64 (s.asks + 1), over := s.over, bad := s.bad || s.over })
  | none => (((-99, -99), false, en), { at_ := s.at_, asks := w64 (s.asks + 1), over := true, bad := s.bad || s.over })
def Feeds.ask (f : Feeds) (s : Nat → FS) (i : Nat) : (Thing × Bool × Int) × (Nat → FS) := ((ask1 (f.L i) (f.en i) (s i)).1, upd s i (ask1 (f.L i) (f.en i) (s i)).2)
theorem Feeds.I.done {f : Feeds} (hf : f.Ok) {s : Nat → FS} {F : Nat → Prop} {w w' : World} (h : f.I s F w) {i : Nat} (hi : i < f.n) {x : FS} {b2 : Nat} {c2 : List Value} (hA : At w (fun b => b = f.fb i) [(f.fb i, f.c i x), (b2, c2)] w') (hx : x.at_ ≤ (f.L i).length) : f.I (upd s i x) F w' := by
  refine ⟨h.F, fun j hj => ?_, fun j hj => (h.rd j hj).keep hA.mod fun b hb e => ?_, fun j hj => ?_⟩
  · by_cases hji : j = i
    · subst hji; rw [upd_same]; exact hA.blk (i := 0) rfl
    · rw [upd_ne _ _ hji]; exact hA.mod.blk (h.blk j hj) fun e => hji (hf.inj j i hj hi e)
  · have h1 := hf.rd j hj b hb
    have h2 := hf.low i hi
    omega
  · by_cases hji : j = i
    · subst hji; rw [upd_same]; exact hx
    · rw [upd_ne _ _ hji]; exact h.at_ j hj
theorem feed_next {f : Feeds} (hf : f.Ok) {s : Nat → FS} {F : Nat → Prop} {w : World} {i : Nat} {K : Int → Int → Bool → Int → World → Prop} (hi : i < f.n) (h : f.I s F w)
    (hK : ∀ w', f.I (f.ask s i).2 F w' → Mod F w w' → K (f.ask s i).1.1.1 (f.ask s i).1.1.2 (f.ask s i).1.2.1 (f.ask s i).1.2.2 w') :
    callK Try.prog 34 [.leaf (.ptr (some (f.fb i, 0)))] w (.tup [.agg [.int .i64, .int .i64], .leaf .bool, .leaf (.int .i64)]) K := by
  refine go_winnowlaw11_Feed_next _ _ _ ?_
  unfold S_winnowlaw11_Feed_next
  have h0 : At w (fun b => b = f.fb i) [(f.fb i, f.c i (s i))] w := (At.init w _).add (h.blk i hi) (by simp) fun _ => rfl
  refine h0.alK fun b2 w1 hb2 h1 _ => ?_
  have h1 : At w (fun b => b = f.fb i) [(f.fb i, f.c i (s i)), (b2, zT)] w1 := h1
  refine dr_some (h1.ld 0 (k := .int .i64) (s i).asks rfl rfl (dr_some (h1.st 0 rfl (show (4 : Nat) ≤ 6 by decide) fun w2 h2 _ => ?_)))
  have h2 : At w (fun b => b = f.fb i) [(f.fb i, f.c i { s i with asks := w64 ((s i).asks + 1) }), (b2, zT)] w2 := h2
  have hMF : ∀ w', Mod (fun b => b = f.fb i) w w' → Mod F w w' := fun w' hM => hM.mono fun b _ e => (h.F b).2 ⟨i, hi, e⟩
  refine join0 (fun w' => At w (fun b => b = f.fb i) [(f.fb i, f.c i { s i with asks := w64 ((s i).asks + 1), bad := (s i).bad || (s i).over }), (b2, zT)] w') (fun k hk => ?_) fun w3 h3 => ?_
  · refine dr_some (h2.ld 0 (k := .bool) (s i).bad rfl rfl (ifK_intro (fun hb => ?_) (fun hb => ?_)))
    · refine dr_some (h2.st 0 rfl (show (6 : Nat) ≤ 6 by decide) fun w3 h3 _ => hk _ ?_)
      rw [hb]; exact h3
    · refine dr_some (h2.ld 0 (k := .bool) (s i).over rfl rfl (dr_some (h2.st 0 rfl (show (6 : Nat) ≤ 6 by decide) fun w3 h3 _ => hk _ ?_)))
      rw [hb, Bool.false_or]; exact h3
  · have h4 := h3.drew
    refine ⟨fun _ => False, dr_some (h4.ldD 0 (k := .int .i64) ((s i).at_ : Int) rfl rfl id (dr_some (h4.ldD 0 (k := .sl) (f.sl i) rfl rfl id ?_)))⟩
    have hlen : ((f.sl i).len : Int) = (f.L i).length := by rw [(h.rd i hi).len]
    have hle := h.at_ i hi
    have hlm := hf.len i hi
    refine ifK_intro (fun hlt => ?_) (fun hlt => ?_)
    · have hlt' : (s i).at_ < (f.L i).length := by rw [hlen] at hlt; simpa using hlt
      obtain ⟨x, hx⟩ : ∃ x, (f.L i)[(s i).at_]? = some x := ⟨_, List.getElem?_eq_getElem hlt'⟩
      refine dr_some (h4.ld 0 (k := .int .i64) ((s i).at_ : Int) rfl rfl (dr_some (h4.st 0 rfl (show (3 : Nat) ≤ 6 by decide) fun w5 h5 _ => ?_)))
      have hw : w64 (((s i).at_ : Int) + 1) = (((s i).at_ + 1 : Nat) : Int) := by rw [w64_in (by omega) (by omega)]; omega
      have h5 : At w (fun b => b = f.fb i) [(f.fb i, f.c i { at_ := (s i).at_ + 1, asks := w64 ((s i).asks + 1), over := (s i).over, bad := (s i).bad || (s i).over }), (b2, zT)] w5 := by
        have h5' := h5
        simp only [LV.toV, List.map, hw] at h5'
        exact h5'
      refine ⟨fun b => b = b2, ?_⟩
      have h6 := h5.drew
      have hne : ¬ f.fb i = b2 := h6.ne (i := 0) (j := 1) rfl rfl (by decide)
      refine dr_some (h6.ldD 0 (k := .sl) (f.sl i) rfl rfl hne (dr_some (h6.ldD 0 (k := .int .i64) (((s i).at_ + 1 : Nat) : Int) rfl rfl hne ?_)))
      have hr := (h.rd i hi).keep h6.mod fun b hb e => by
        have h1 := hf.rd i hi b hb
        have h2 := hf.low i hi
        omega
      have hw2 : w64 ((((s i).at_ + 1 : Nat) : Int) - 1) = ((s i).at_ : Int) := by rw [w64_in (by omega) (by omega)]; omega
      rw [hw2]
      refine hr.ix rfl rfl hx fun b o hb hc => ?_
      have hnb : ¬ b = b2 := by
        have h1 := hf.rd i hi b hb
        have h2 := hf.low i hi
        have h3 := (h.blk i hi).lt
        omega
      refine ldD_cell (k := .int .i64) x.1 hnb (hc 0 (by decide)) (ldD_cell (k := .int .i64) x.2 hnb (hc 1 (by decide)) ?_)
      refine h6.st 1 rfl (Nat.le_refl 2) fun w7 h7 M7 => ⟨M7, ?_⟩
      have h7 : At w (fun b => b = f.fb i) [(f.fb i, f.c i { at_ := (s i).at_ + 1, asks := w64 ((s i).asks + 1), over := (s i).over, bad := (s i).bad || (s i).over }), (b2, [.int .i64 x.1, .int .i64 x.2])] w7 := h7
      refine h7.ld 1 (k := .int .i64) x.1 rfl rfl (h7.ld 1 (k := .int .i64) x.2 rfl rfl ?_)
      have := hK w7
      unfold Feeds.ask ask1 at this
      rw [hx] at this
      exact this (h.done hf hi h7 hlt') (hMF _ h7.mod)
    · have hge : (f.L i)[(s i).at_]? = none := by rw [hlen] at hlt; simp at hlt; exact List.getElem?_eq_none (by omega)
      refine dr_some (h4.st 0 rfl (show (5 : Nat) ≤ 6 by decide) fun w5 h5 _ => ?_)
      have h5 : At w (fun b => b = f.fb i) [(f.fb i, f.c i { at_ := (s i).at_, asks := w64 ((s i).asks + 1), over := true, bad := (s i).bad || (s i).over }), (b2, zT)] w5 := h5
      refine ⟨fun b => b = b2, ?_⟩
      have h6 := h5.drew
      have hne : ¬ f.fb i = b2 := h6.ne (i := 0) (j := 1) rfl rfl (by decide)
      refine dr_some (h6.ldD 0 (k := .int .i64) (f.en i) rfl rfl hne ?_)
      refine h6.st 1 rfl (Nat.le_refl 2) fun w7 h7 M7 => ⟨M7, ?_⟩
      have h7 : At w (fun b => b = f.fb i) [(f.fb i, f.c i { at_ := (s i).at_, asks := w64 ((s i).asks + 1), over := true, bad := (s i).bad || (s i).over }), (b2, [.int .i64 (-99), .int .i64 (-99)])] w7 := h7
      refine h7.ld 1 (k := .int .i64) (-99) rfl rfl (h7.ld 1 (k := .int .i64) (-99) rfl rfl ?_)
      have := hK w7
      unfold Feeds.ask ask1 at this
      rw [hge] at this
      exact this (h.done hf hi h7 hle) (hMF _ h7.mod)
/-- played sources are sources -/
def Feeds.src (f : Feeds) (hf : f.Ok) : Srcs (Nat → FS) where
  n := f.n
  v i := .func (.func 34) #[(LV.toV (.ptr (some (f.fb i, 0))))] #[]
  ask := f.ask
  I := f.I
  base := f.base
  keep s F w w' D h hM hd hb := ⟨h.F, fun i hi => hM.blk (h.blk i hi) (hd _ ((h.F _).2 ⟨i, hi, rfl⟩)), fun i hi => (h.rd i hi).keep hM fun b hbk => hb b (hf.rd i hi b hbk), h.at_⟩
  lt s F w b h hF := by obtain ⟨i, hi, rfl⟩ := (h.F b).1 hF; exact (h.blk i hi).lt
  call s F w i K hi h hK := by
    refine callV_func (CS_ok 34 rfl) [.leaf (.ptr (some (f.fb i, 0)))] (by rfl) ?_
    exact feed_next hf hi h fun w' h' hM => hK w' F h' hM fun b hb => .inl hb
end Go.Proofs.Ytfhojgammfkabaa
