/- The played sources are made, and counted. -/
import Derived.Test.YtfhojgammfkabaaM10
namespace Go.Proofs.Ytfhojgammfkabaa
open Go.Vw

def EP : Enc PA := ⟨1, fun p => [(LV.ptr p).toV], fun _ => rfl, by decide, fun x v h => by simp at h; subst h; rfl⟩
/-- a source: its things' slice, its error -/
def ES : Enc (Sl × Int) := ⟨2, fun x => [(LV.sl x.1).toV, .int .i64 x.2], fun _ => rfl, by decide, fun x v h => by simp at h; rcases h with rfl | rfl <;> rfl⟩
/-- a slice whose block is among these known ones -/
structure RdIn {α : Type} (m : List (Nat × List Value)) (E : Enc α) (s : Sl) (l : List α) : Prop where
  len : s.len = l.length
  own : l = [] ∨ ∃ b rest, s.p = some (b, 0) ∧ (b, E.cells l ++ rest) ∈ m
  cap : s.len ≤ s.cap
theorem RdIn.mono {α : Type} {m m' : List (Nat × List Value)} {E : Enc α} {s : Sl} {l : List α} (h : RdIn m E s l) (hs : ∀ p ∈ m, p ∈ m') : RdIn m' E s l :=
  ⟨h.len, h.own.imp id fun ⟨b, rest, h1, h2⟩ => ⟨b, rest, h1, hs _ h2⟩, h.cap⟩
theorem RdIn.rd {α : Type} {m : List (Nat × List Value)} {E : Enc α} {s : Sl} {l : List α} (h : RdIn m E s l) {w0 w : World} {D : Nat → Prop} (hA : At w0 D m w) : RdS w E s l := by
  refine ⟨h.len, ?_, h.cap⟩
  rcases h.own with rfl | ⟨b, rest, h1, h2⟩
  · exact .inl rfl
  · exact .inr ⟨b, 0, h1, fun i hi => by rw [(hA.own _ h2).cell, Nat.zero_add, List.getElem?_append_left hi]⟩
theorem rd_one {α : Type} {w : World} {E : Enc α} {b : Nat} {x : α} (h : Blk w b (E.f x)) : RdS w E ⟨some (b, 0), 1, 1⟩ [x] :=
  ⟨rfl, .inr ⟨b, 0, rfl, fun i hi => by rw [h.cell, Nat.zero_add]; simp [Enc.cells]⟩, Nat.le_refl _⟩
def zFS : FS := ⟨0, 0, false, false⟩
def feedC (x : Sl × Int) : List Value := [(LV.sl x.1).toV, .int .i64 x.2, .int .i64 0, .int .i64 0, .bool false, .bool false]
/-- the sources are made -/
theorem feeds_ok {w : World} {s : Sl} {xs : List (Sl × Int)} (hr : RdS w ES s xs) (hlen : xs.length ≤ 1048576) {K : Sl → World → Prop}
    (hK : ∀ out w' (fbs : List Nat), Mod (fun _ => False) w w' → fbs.length = xs.length → fbs.Nodup → (∀ b ∈ fbs, w.heap.size ≤ b) → (∀ (i : Nat) (b : Nat) x, fbs[i]? = some b → xs[i]? = some x → Blk w' b (feedC x)) →
      Vec w' EP out (fbs.map fun b => some (b, 0)) → (∀ b, bk out b → w.heap.size ≤ b ∧ b ∉ fbs) → K out w') :
    callK Try.prog 20 [.leaf (.sl s)] w (.one (.leaf .sl)) K := by
  refine go_winnowlaw11_feeds _ _ _ ?_
  unfold S_winnowlaw11_feeds
  let Inv (i : Nat) (out : Sl) (w' : World) : Prop := ∃ fbs : List Nat, Mod (fun _ => False) w w' ∧ fbs.length = i ∧ fbs.Nodup ∧ (∀ b ∈ fbs, w.heap.size ≤ b) ∧ (∀ (i : Nat) (b : Nat) x, fbs[i]? = some b → xs[i]? = some x → Blk w' b (feedC x)) ∧
      Vec w' EP out (fbs.map fun b => some (b, 0)) ∧ (∀ b, bk out b → w.heap.size ≤ b ∧ b ∉ fbs)
  refine join1 (a := .sl) (fun out w' => Inv xs.length out w') (fun k hk => ?_) ?_
  · refine loop2 (k1 := .sl) (k2 := .int .i64) (fun out x w' => ∃ i : Nat, x = i ∧ i ≤ xs.length ∧ Inv i out w') (fun _ x _ => xs.length - x.toNat) rfl rfl ⟨0, rfl, by omega, [], Mod.refl _ _, rfl, List.nodup_nil, by simp, by simp, Vec.nil _ _, fun b hb => by obtain ⟨o, h⟩ := hb; cases h⟩ ?_
    rintro out x w1 ⟨i, rfl, hi, fbs, M1, hl, hnd, hge, hblk, hv, hbk⟩
    refine ifK_intro (fun hlt => ?_) (fun hlt => ?_)
    · have hlt' : i < xs.length := by rw [hr.len] at hlt; simpa using hlt
      obtain ⟨xi, hxi⟩ : ∃ xi, xs[i]? = some xi := ⟨_, List.getElem?_eq_getElem hlt'⟩
      refine (hr.keep M1 fun _ _ => id).ix rfl rfl hxi fun b o _ hc => ld_cell (k := .sl) xi.1 (hc 0 (by decide)) (ld_cell (k := .int .i64) xi.2 (hc 1 (by decide)) ?_)
      refine (At.init w1 fun _ => False).alK fun b11 w2 hb11 h2 M2 => h2.alK fun b13 w3 hb13 h3 M3 => ?_
      have M13 : Mod (fun _ => False) w1 w3 := M2.trans M3 (fun _ _ h => h) (fun _ _ h => h)
      have hv3 := hv.keep M13 fun _ _ => id
      have hlt3 : ∀ b, b ∈ fbs → b < w1.heap.size := fun b hb => by
        obtain ⟨j, hj⟩ := List.mem_iff_getElem?.1 hb
        have hjl : j < xs.length := by have := (List.getElem?_eq_some_iff.1 hj).1; omega
        exact (hblk j b _ hj (List.getElem?_eq_getElem hjl)).lt
      have hs2 : w1.heap.size ≤ w2.heap.size := M2.size
      have hr3 : RdS w3 EP ⟨some (b13, 0), 1, 1⟩ [some (b11, 0)] := rd_one (h3.blk (i := 1) rfl)
      refine hv3.app hr3 rfl rfl (by simp [hl]; omega) fun out' w4 hv4 hbk4 M4 _ => ?_
      have hw : w64 ((i : Int) + 1) = ((i + 1 : Nat) : Int) := by rw [w64_in (by omega) (by omega)]; omega
      rw [hw]
      have hM4 : Mod (fun _ => False) w w4 := ⟨M4.os.trans (M13.os.trans M1.os), M4.tape.trans (M13.tape.trans M1.tape), M4.output.trans (M13.output.trans M1.output), Nat.le_trans M1.size (Nat.le_trans M13.size M4.size), fun x hx _ => by
        rw [M4.block x (Nat.lt_of_lt_of_le hx (Nat.le_trans M1.size M13.size)) fun hb => by have := (hbk x hb).1; omega, M13.block x (Nat.lt_of_lt_of_le hx M1.size) id, M1.block x hx id]⟩
      have hb11n : b11 ∉ fbs := fun h => by have := hlt3 b11 h; omega
      have hnout : ∀ b, bk out b → b < w1.heap.size := fun b hb => hv.lt hb
      refine ⟨⟨i + 1, rfl, hlt', fbs ++ [b11], hM4, by simp [hl], ?_, ?_, ?_, ?_, ?_⟩, by simp; omega⟩
      · rw [List.nodup_append]
        exact ⟨hnd, by simp, fun a ha b hb => by simp at hb; subst hb; rintro rfl; exact hb11n ha⟩
      · intro b hb
        rcases List.mem_append.1 hb with hb | hb
        · exact hge b hb
        · simp at hb; subst hb; have := M1.size; omega
      · intro j b x hj hx
        rw [List.getElem?_append] at hj
        split at hj
        · have hb := hblk j b x hj hx
          exact M4.blk (M13.blk hb id) fun h => (hbk b h).2 (List.mem_of_getElem? hj)
        · rename_i hjl
          have hj0 : j = i := by have := (List.getElem?_eq_some_iff.1 hj).1; simp at this; omega
          subst hj0
          rw [hl] at hj; simp at hj; subst hj
          rw [hxi] at hx; cases hx
          exact M4.blk (h3.blk (i := 0) rfl) fun h => by have := hnout _ h; omega
      · rw [List.map_append]; exact hv4
      · intro b hb
        rcases hbk4 b hb with h | h
        · refine ⟨(hbk b h).1, fun hm => ?_⟩
          rcases List.mem_append.1 hm with hm | hm
          · exact (hbk b h).2 hm
          · simp at hm; subst hm; have := hnout _ h; omega
        · have hs3 : w2.heap.size < w3.heap.size := by have := (h3.blk (i := 1) rfl).lt; omega
          refine ⟨by have := M1.size; omega, fun hm => ?_⟩
          rcases List.mem_append.1 hm with hm | hm
          · have := hlt3 b hm; omega
          · simp at hm; subst hm; have := (h2.blk (i := 0) rfl).lt; omega
    · have hge : i = xs.length := by rw [hr.len] at hlt; simp at hlt; omega
      subst hge
      exact hk _ _ ⟨fbs, M1, hl, hnd, hge, hblk, hv, hbk⟩
  · rintro out w1 ⟨fbs, M1, hl, hnd, hge, hblk, hv, hbk⟩
    exact hK out w1 fbs M1 hl hnd hge hblk hv hbk
end Go.Proofs.Ytfhojgammfkabaa
