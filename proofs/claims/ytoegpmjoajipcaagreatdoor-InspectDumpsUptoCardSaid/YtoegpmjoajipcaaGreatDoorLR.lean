/- From a contract to a row: what names no type of a program (printed by tools/genlb.py out of R/RA.lean). -/
import Derived.Test.YtoegpmjoajipcaaGreatDoorRows
import Derived.WalkKit
import Derived.ProofKit
import Derived.OpenShut
import Derived.JoinedCond
import Derived.Test.YtoegpmjoajipcaaGreatDoorT14
import Derived.SliceStrings
/- From a function's contract to its row: what a law leaves behind. -/
namespace Go.Proofs.YtoegpmjoajipcaaGreatDoor
open Go.ChangeShapes Go.WideShapes Go.ChangeAt Go.RowKit

/-- what a call leaves behind that writes new blocks alone -/
theorem post_old {H : Type} {enc : TypeId × Value → H} {P : Program} {f : Func} {s : ChangeSpec} {apart fresh handsOn again : Bool} {W W' : World} {args : Array Value} {v : Value} {ds gs : List (DataW H)} {before pa pv : List MemPlace}
    (hW : DataW.Whole enc P f.params.toList s.vars apart W args.toList ds gs before)
    (hres : ∀ (b : Nat) (sp : Nat → Bool) (hd : Bool), DataW.TrodAll enc P W' b sp hd f.resultTypes.toList (v.resultList f.resultTypes.size) (s.fn H (ds ++ gs)).results [])
    (hargs : ∀ sp : Nat → Bool, (∀ p ∈ before, sp p.block = true) → DataW.TrodAll enc P W' 0 sp true f.params.toList args.toList (s.fn H (ds ++ gs)).args pa)
    (hvars : ∀ sp : Nat → Bool, (∀ p ∈ before, sp p.block = true) → DataW.TrodVars enc P W' sp s.vars (s.fn H (ds ++ gs)).vars pv)
    (hps : before = pa ++ pv) (hb : Below W.heap.size W W')
    (hok : ∀ (j : Nat) (t : TypeId) (r : Value), f.resultTypes[j]? = some t → (v.resultList f.resultTypes.size)[j]? = some r → Value.okWide P W' .any 0 t r) :
    s.post enc P f apart fresh handsOn again W args v W' := by
  have hold : ∀ p ∈ before, (fun b => decide (b < W.heap.size)) p.block = true := fun p hp => by simpa using hW.lt p hp
  have hlt : ∀ p ∈ before, p.block < W.heap.size := fun p hp => hW.lt p hp
  refine ⟨ds, gs, before, [], pa, pv, hW, hres _ _ _, hargs _ hold, hvars _ hold, World.keptBut_mono (fun p hp => ⟨hp, ?_⟩) (hb.frame (· ∈ before)), fun _ => ?_⟩
  · rw [hps, List.mem_append] at hp; exact Or.inr hp
  · obtain ⟨_, _, _, _, _, hz, hn⟩ := hW
    refine ⟨hok, _, _, ([] ++ pa) ++ pv, ⟨[] ++ pa, pv, trodAll_append (hargs _ (fun _ _ => rfl)) (hres _ _ _), hvars _ (fun _ _ => rfl), rfl, ?_, ?_⟩, ?_⟩
    · intro b off hp
      have hp' : MemPlace.cell b off ∈ before := by rw [hps]; simpa using hp
      rw [hb.frozen (p := ⟨b, off, none⟩) (hlt _ hp')]
      exact hz b off hp'
    · intro ha
      have := hn ha
      rw [hps] at this; simpa using this
    · intro p hp _
      rw [hps]; simpa using hp
theorem below_of {w w' : World} (h : Go.Vw.Mod (fun _ => False) w w') : Below w.heap.size w w' := ⟨h.os, h.tape, h.output, h.size, fun k hk => h.block k hk id⟩
/-- a law that answers true -/
theorem calls_true {P : Program} {f : FuncId} {args : List Go.Vw.AV} {w : World} (h : Go.Vw.callK P f args w (.one (.leaf .bool)) (fun b w' => b = true ∧ Go.Vw.Mod (fun _ => False) w w')) :
    Calls P f (args.map Go.Vw.AV.toV).toArray w fun e w' => e = .returned (.bool true) ∧ Below w.heap.size w w' := by
  refine Calls.mono h fun e w' he => ?_
  obtain ⟨l, rfl, hk⟩ := he
  cases l with
  | nil => exact hk.elim
  | cons x l =>
    simp only [Go.Vw.RT.kds, Go.Vw.Sh.kds, Go.Vw.app] at hk
    cases hx : x.as .bool with
    | none => rw [hx] at hk; exact hk.elim
    | some b =>
      rw [hx] at hk
      cases l with
      | cons y l => exact hk.elim
      | nil =>
        obtain ⟨hb, hM⟩ := hk
        subst hb
        refine ⟨?_, below_of hM⟩
        have := Go.Vw.LV.as_toV hx
        show Ending.returned x.toV = _
        rw [← this]; rfl
theorem own : ownKnob Tryz.prog.godebug = none := by kernel_rfl
end Go.Proofs.YtoegpmjoajipcaaGreatDoor

/- Opening: a slice among the arguments, whatever its elements are. -/
namespace Go.Proofs.YtoegpmjoajipcaaGreatDoor
open Go.ChangeShapes Go.WideShapes Go.ChangeAt Go.RowKit Go.Vw

def sumF {β : Type} (g : β → Nat) : List β → Nat
  | [] => 0
  | b :: r => g b + sumF g r
theorem sumF_le {H β : Type} {g : β → Nat} : ∀ (bs : List β) (ds : List (DataW H)), bs.length = ds.length → (∀ (i : Nat) b d, bs[i]? = some b → ds[i]? = some d → g b ≤ Rows.uptoBulk d) → sumF g bs ≤ Rows.uptoBulkAll ds
  | [], ds, _, _ => Nat.zero_le _
  | b :: bs, [], h, _ => by simp at h
  | b :: bs, d :: ds, h, hg => by
    have h1 := hg 0 b d rfl rfl
    have h2 := sumF_le bs ds (by simpa using h) fun i b' d' hb hd => hg (i + 1) b' d' (by simpa using hb) (by simpa using hd)
    simp only [sumF, Rows.uptoBulkAll]
    omega
theorem pick {γ : Type} {p : Nat → γ → Prop} : ∀ n, (∀ i, i < n → ∃ c, p i c) → ∃ l : List γ, l.length = n ∧ ∀ (i : Nat) c, l[i]? = some c → p i c
  | 0, _ => ⟨[], rfl, fun i c h => by simp at h⟩
  | n + 1, h => by
    obtain ⟨l, hl, hp⟩ := pick n fun i hi => h i (by omega)
    obtain ⟨c, hc⟩ := h n (by omega)
    refine ⟨l ++ [c], by simp [hl], fun i d hd => ?_⟩
    rw [List.getElem?_append] at hd
    split at hd
    · exact hp i d hd
    · have : i = n := by have := (List.getElem?_eq_some_iff.1 hd).1; simp at this; omega
      subst this
      rw [hl, Nat.sub_self] at hd
      cases hd; exact hc
section
variable {H : Type} {enc : TypeId × Value → H} {P : Program} {w : World} {base : Nat} {held : Bool}
theorem slA_of (a : Addr) {c : Nat} (hs : c ≠ 0 → a.spot = none) : ∃ o, slA c (some (a.block, o)) = some a ∧ (c ≠ 0 → o = a.off) := by
  by_cases hc : c = 0
  · subst hc
    obtain ⟨o, ho⟩ := decA_all a
    exact ⟨o, by simp [slA, ho], fun h => absurd rfl h⟩
  · refine ⟨a.off, ?_, fun _ => rfl⟩
    have := hs hc
    obtain ⟨b, o, s⟩ := a
    simp only at this
    subst this
    simp [slA, hc]
theorem cells_spot {a : Addr} {n : Nat} {cs : List Value} (hn : 0 < n) (h : w.cells? base a n = some cs) : a.spot = none ∧ a.block < w.heap.size ∧ ∀ j, j < n → w.cell? ⟨a.block, a.off + j, none⟩ = cs[j]? := by
  obtain ⟨_, hl, hc⟩ := World.cells?_some h
  have h0 := hc 0 hn
  have e0 : a.add 0 = a := by simp [Addr.add]
  rw [e0, List.getElem?_eq_getElem (by omega)] at h0
  have hsp : a.spot = none := by
    cases hs : a.spot with
    | none => rfl
    | some s =>
      unfold World.cell? at h0
      rw [hs] at h0
      split at h0 <;> simp at h0
  obtain ⟨b, o, s⟩ := a
  simp only at hsp
  subst hsp
  refine ⟨rfl, ?_, fun j hj => ?_⟩
  · exact cell_lt h0
  · rw [← hc j hj, Addr.add_none]
theorem open_slice {α β : Type} (E : Enc α) (R : α → β → Prop) (g : β → Nat) {t e : TypeId} {fuel : Nat} {cs : List Value} {x : DataW H × List MemPlace} (ht : P.underlying t = some (.slice e)) (hc : P.cellsOf e = E.n)
    (hel : ∀ n cs y, DataW.trod enc P w base (fun _ => true) held n e cs = some y → ∃ a b, cs = E.f a ∧ R a b ∧ g b ≤ Rows.uptoBulk y.1)
    (h : DataW.trod enc P w base (fun _ => true) held fuel t cs = some x) :
    ∃ (s : Sl) (l : List α) (bs : List β), cs = [(LV.sl s).toV] ∧ RdS w E s l ∧ (∀ b, rk s b → b < w.heap.size) ∧ bs.length = l.length ∧ (∀ (i : Nat) a b, l[i]? = some a → bs[i]? = some b → R a b) ∧ sumF g bs + 1 ≤ Rows.uptoBulk x.1 := by
  rcases DataW.trod_slice ht h with ⟨rfl, rfl⟩ | ⟨a, len, cap, elems, rest, n, _, rfl, rfl, hb, hl, hm, hlen, hel2, hsp, _⟩
  · exact ⟨⟨none, 0, 0⟩, [], [], rfl, ⟨rfl, .inl rfl, Nat.le_refl _⟩, fun b hb => absurd rfl hb.1, rfl, fun i a b h => by simp at h, by simp [sumF, Rows.uptoBulk]⟩
  have hpos := E.pos
  rw [hc] at hel2 hsp
  obtain ⟨hrl, hr⟩ := hsp rfl
  have hspot : cap ≠ 0 → a.spot = none ∧ a.block < w.heap.size := by
    intro h0
    by_cases hl0 : len = 0
    · have := hr 0 (by omega)
      rw [List.getElem?_eq_getElem (by omega), Option.bind_eq_some_iff] at this
      obtain ⟨cs', h1, _⟩ := this
      obtain ⟨k1, k2, _⟩ := cells_spot (a := a) hpos (by rw [hl0] at h1; simpa [Addr.add] using h1)
      exact ⟨k1, k2⟩
    · have := hel2 0 (by omega)
      rw [List.getElem?_eq_getElem (by omega), Option.bind_eq_some_iff] at this
      obtain ⟨cs', h1, _⟩ := this
      obtain ⟨k1, k2, _⟩ := cells_spot (a := a) hpos (by simpa [Addr.add] using h1)
      exact ⟨k1, k2⟩
  obtain ⟨o, ho, hoo⟩ := slA_of a (c := cap) fun h => (hspot h).1
  obtain ⟨l, hll, hp⟩ := pick (γ := α × β) (p := fun i ab => w.cells? base (a.add (i * E.n)) E.n = some (E.f ab.1) ∧ R ab.1 ab.2 ∧ ∀ y, elems[i]? = some y → g ab.2 ≤ Rows.uptoBulk y.1) len fun i hi => by
    have := hel2 i hi
    rw [List.getElem?_eq_getElem (by omega), Option.bind_eq_some_iff] at this
    obtain ⟨cs', h1, h2⟩ := this
    obtain ⟨a', b', rfl, hR, hg⟩ := hel _ _ _ h2
    refine ⟨(a', b'), h1, hR, fun y hy => ?_⟩
    rw [List.getElem?_eq_getElem (by omega)] at hy
    cases hy; exact hg
  refine ⟨⟨some (a.block, o), len, cap⟩, l.map (·.1), l.map (·.2), by simp [LV.toV, ho], ⟨by simp [hll], ?_, hl⟩, ?_, by simp, ?_, ?_⟩
  · by_cases hl0 : len = 0
    · left
      have : l = [] := List.eq_nil_of_length_eq_zero (by omega)
      subst this; rfl
    · right
      obtain ⟨k1, k2⟩ := hspot (by omega)
      refine ⟨a.block, o, rfl, fun i hi => ?_⟩
      rw [E.cells_length, List.length_map, hll] at hi
      have hq : i / E.n < len := (Nat.div_lt_iff_lt_mul hpos).2 hi
      have hrr : i % E.n < E.n := Nat.mod_lt _ hpos
      have hdm : i / E.n * E.n + i % E.n = i := by rw [Nat.mul_comm]; exact Nat.div_add_mod i E.n
      have hget := E.cells_get (l.map (·.1)) (i / E.n) (i % E.n) hrr
      rw [hdm] at hget
      rw [hget, List.getElem?_map, List.getElem?_eq_getElem (by omega)]
      obtain ⟨h1, _, _⟩ := hp (i / E.n) l[i / E.n] (List.getElem?_eq_getElem (by omega))
      have h2 := (cells_spot hpos h1).2.2 (i % E.n) hrr
      have hadd : a.add (i / E.n * E.n) = ⟨a.block, a.off + i / E.n * E.n, none⟩ := by
        obtain ⟨b, o, s⟩ := a
        simp only at k1
        subst k1
        exact Addr.add_none ..
      rw [hadd] at h2
      simp only at h2
      rw [hoo (by omega)]
      rw [show a.off + i = a.off + i / E.n * E.n + i % E.n by omega, h2]
      rfl
  · rintro b ⟨h0, o', hb'⟩
    cases hb'
    exact (hspot h0).2
  · intro i a' b' h1 h2
    rw [List.getElem?_map] at h1 h2
    cases hli : l[i]? with
    | none => rw [hli] at h1; cases h1
    | some ab =>
      rw [hli] at h1 h2
      cases h1; cases h2
      exact (hp i ab hli).2.1
  · have := sumF_le (g := g) (l.map (·.2)) (elems.map (·.1)) (by simp; omega) fun i b d hb hd => by
      rw [List.getElem?_map] at hb hd
      cases hli : l[i]? with
      | none => rw [hli] at hb; cases hb
      | some ab =>
        cases hei : elems[i]? with
        | none => rw [hei] at hd; cases hd
        | some y =>
          rw [hli] at hb; rw [hei] at hd
          cases hb; cases hd
          exact (hp i ab hli).2.2 y hei
    simp only [Rows.uptoBulk]
    omega
end
end Go.Proofs.YtoegpmjoajipcaaGreatDoor

namespace Go.Proofs.YtoegpmjoajipcaaGreatDoor
open Go.Vw
def okI (n : Int) : Prop := (Lit.int .i64 n).wf = true
theorem two_cells {cs : List Value} {u v : Value} (h : cs.length = 2) (h0 : (cs.drop 0).take 1 = [u]) (h1 : (cs.drop 1).take 1 = [v]) : cs = [u, v] := by
  match cs, h with
  | [a, b], _ => simp at h0 h1; rw [h0, h1]
end Go.Proofs.YtoegpmjoajipcaaGreatDoor

/- A law's row: the way out, the same for every law that writes new blocks alone. -/
namespace Go.Proofs.YtoegpmjoajipcaaGreatDoor
open Go.ChangeShapes Go.WideShapes Go.ChangeAt Go.RowKit Go.Vw

theorem laidOut : laidOutB Tryz.prog = true := by kernel_rfl
theorem stays_all {H : Type} {enc : TypeId × Value → H} {P : Program} (hl : laidOutB P = true) {W W' : World} {sp : Nat → Bool} (hb : Below W.heap.size W W') : ∀ {ts : List TypeId} {vs : List Value} {ds : List (DataW H)} {ps : List MemPlace},
    (ts.all fun t => P.readableRec t && decide (t < P.types.size)) = true → DataW.TrodAll enc P W 0 (fun _ => true) true ts vs ds ps → (∀ p ∈ ps, p.block < W.heap.size) → (∀ p ∈ ps, sp p.block = true) → DataW.TrodAll enc P W' 0 sp true ts vs ds ps
  | [], [], [], _, _, h, _, _ => h
  | [], [], _ :: _, _, _, h, _, _ => h.elim
  | [], _ :: _, _, _, _, h, _, _ => h.elim
  | _ :: _, [], _, _, _, h, _, _ => h.elim
  | _ :: _, _ :: _, [], _, _, h, _, _ => h.elim
  | t :: ts, v :: vs, d :: ds, ps, hr, h, hlt, hsp => by
    obtain ⟨p, q, h1, h2, rfl⟩ := h
    simp only [List.all_cons, Bool.and_eq_true, decide_eq_true_eq] at hr
    exact ⟨p, q, WideElems.Trod_stays hl hr.1.1 hr.1.2 h1 (fun x hx => hb.same (hlt x (by simp [hx]))) (fun x hx => hsp x (by simp [hx])),
      stays_all hl hb hr.2 h2 (fun x hx => hlt x (by simp [hx])) (fun x hx => hsp x (by simp [hx])), rfl⟩
theorem post_lawP {H : Type} {enc : TypeId × Value → H} {P : Program} {tb : TypeId} (hl : laidOutB P = true) (htb : P.underlying tb = some .bool) {f : Func} {s : ChangeSpec} {W W' : World} {args : Array Value} {ds gs : List (DataW H)} {before : List MemPlace}
    (hW : DataW.Whole enc P f.params.toList s.vars false W args.toList ds gs before) (hv : s.vars = []) (hts : (f.params.toList.all fun t => P.readableRec t && decide (t < P.types.size)) = true)
    (hres : (s.fn H ds).results = [.lit (.bool true)]) (hargs : (s.fn H ds).args = ds) (hvars : (s.fn H ds).vars = []) (hrt : f.resultTypes = #[tb]) (hb : Below W.heap.size W W') :
    s.post enc P f false true false false W args (.bool true) W' := by
  have hW' := hW
  obtain ⟨p, q, hA, hV, rfl, hfz, hnd⟩ := hW
  rw [hv] at hV
  obtain ⟨rfl, rfl⟩ := trodVars_none hV
  simp only [List.append_nil] at hW' 
  refine post_old (pa := p) (pv := []) hW' (fun _ _ _ => ?_) (fun sp hsp => ?_) (fun sp _ => ?_) (by simp) hb ?_
  · rw [hrt, List.append_nil, hres]; exact trodAll_cons_mk (shut_bool htb _) trodAll_mk0
  · rw [List.append_nil, hargs]
    exact stays_all hl hb hts hA (fun x hx => hW'.lt x hx) hsp
  · rw [List.append_nil, hvars, hv]; rfl
  · rw [hrt]; intro j t r h1 h2
    cases j with
    | succ j => simp at h1
    | zero =>
      simp at h1; subst h1
      simp [Value.resultList] at h2; subst h2
      exact okWide_bool_mk htb _
theorem post_law {H : Type} {enc : TypeId × Value → H} {f : Func} {s : ChangeSpec} {W W' : World} {args : Array Value} {ds gs : List (DataW H)} {before : List MemPlace}
    (hW : DataW.Whole enc Tryz.prog f.params.toList s.vars false W args.toList ds gs before) (hv : s.vars = []) (hts : (f.params.toList.all fun t => Tryz.prog.readableRec t && decide (t < Tryz.prog.types.size)) = true)
    (hres : (s.fn H ds).results = [.lit (.bool true)]) (hargs : (s.fn H ds).args = ds) (hvars : (s.fn H ds).vars = []) (hrt : f.resultTypes = #[4]) (hb : Below W.heap.size W W') :
    s.post enc Tryz.prog f false true false false W args (.bool true) W' := post_lawP laidOut Tryz.underlying4 hW hv hts hres hargs hvars hrt hb
theorem bound {H : Type} {l : List (DataW H)} (hk : Rows.uptoSmall H l = true) : Rows.uptoBulkAll l ≤ 1048576 := by
  simpa [Rows.uptoSmall] using hk
end Go.Proofs.YtoegpmjoajipcaaGreatDoor
