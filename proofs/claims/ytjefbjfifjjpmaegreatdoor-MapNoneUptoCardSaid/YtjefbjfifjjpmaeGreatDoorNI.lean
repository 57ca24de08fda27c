/- Numbers as texts: strconv.Itoa by the kit's contract (its laying in plain text), the document's Decimal. -/
import Derived.Shelf.Strconv.Itoa3
import Derived.Lib.AppendIntMem
import Derived.Lib.ItoaLen
import Derived.Test.YtjefbjfifjjpmaeGreatDoorLB
import Derived.Test.YtjefbjfifjjpmaeGreatDoorSN
namespace Go.Proofs.YtjefbjfifjjpmaeGreatDoor
section
open Go.Shelf Go.RowKit Go.Lib Go.Sort
def itoaLaysM_ren : Go.Shelf.Ren := ⟨fun | 171 => 23 | 243 => 56 | 246 => 92 | 283 => 143 | 284 => 144 | 285 => 145 | 286 => 146 | 129 => 184 | 317 => 183 | 318 => 185 | 319 => 186 | 320 => 187 | 337 => 220 | 338 => 221 | n => n, fun | 3 => 3 | 9 => 9 | 2 => 2 | 4 => 4 | 171 => 244 | 0 => 0 | 53 => 195 | 37 => 118 | 5 => 5 | 173 => 247 | 212 => 292 | 51 => 105 | 20 => 20 | 213 => 293 | 46 => 282 | 232 => 385 | 233 => 386 | n => n, fun | 17 => 0 | 18 => 1 | 19 => 2 | n => n⟩
theorem itoaLaysM : Go.Proofs.LaysM.n171 Tryz.prog itoaLaysM_ren where
  mixed := by kernel_rfl
  f129 := Tryz.func184.trans (congrArg some (by kernel_rfl))
  f171 := Tryz.func23.trans (congrArg some (by kernel_rfl))
  f243 := Tryz.func56.trans (congrArg some (by kernel_rfl))
  f246 := Tryz.func92.trans (congrArg some (by kernel_rfl))
  f283 := Tryz.func143.trans (congrArg some (by kernel_rfl))
  f284 := Tryz.func144.trans (congrArg some (by kernel_rfl))
  f285 := Tryz.func145.trans (congrArg some (by kernel_rfl))
  f286 := Tryz.func146.trans (congrArg some (by kernel_rfl))
  f317 := Tryz.func183.trans (congrArg some (by kernel_rfl))
  f318 := Tryz.func185.trans (congrArg some (by kernel_rfl))
  f319 := Tryz.func186.trans (congrArg some (by kernel_rfl))
  f320 := Tryz.func187.trans (congrArg some (by kernel_rfl))
  f337 := Tryz.func220.trans (congrArg some (by kernel_rfl))
  f338 := Tryz.func221.trans (congrArg some (by kernel_rfl))
  t0 := Tryz.underlying0
  a0 := Tryz.isAgg0
  z0 := Tryz.sizeOf0
  v0 := Tryz.zeroValue0
  t2 := Tryz.underlying2
  a2 := Tryz.isAgg2
  z2 := Tryz.sizeOf2
  v2 := Tryz.zeroValue2
  t3 := Tryz.underlying3
  a3 := Tryz.isAgg3
  z3 := Tryz.sizeOf3
  v3 := Tryz.zeroValue3
  t4 := Tryz.underlying4
  a4 := Tryz.isAgg4
  z4 := Tryz.sizeOf4
  v4 := Tryz.zeroValue4
  t5 := Tryz.underlying5
  a5 := Tryz.isAgg5
  z5 := Tryz.sizeOf5
  v5 := Tryz.zeroValue5
  t9 := Tryz.underlying9
  a9 := Tryz.isAgg9
  z9 := Tryz.sizeOf9
  v9 := Tryz.zeroValue9
  t20 := Tryz.underlying20
  a20 := Tryz.isAgg20
  z20 := Tryz.sizeOf20
  v20 := Tryz.zeroValue20
  t37 := Tryz.underlying118
  a37 := Tryz.isAgg118
  z37 := Tryz.sizeOf118
  v37 := Tryz.zeroValue118
  t46 := Tryz.underlying282
  a46 := Tryz.isAgg282
  z46 := Tryz.sizeOf282
  v46 := Tryz.zeroValue282
  t51 := Tryz.underlying105
  a51 := Tryz.isAgg105
  z51 := Tryz.sizeOf105
  v51 := Tryz.zeroValue105
  t53 := Tryz.underlying195
  a53 := Tryz.isAgg195
  z53 := Tryz.sizeOf195
  v53 := Tryz.zeroValue195
  t171 := Tryz.underlying244
  a171 := Tryz.isAgg244
  z171 := Tryz.sizeOf244
  v171 := Tryz.zeroValue244
  t173 := Tryz.underlying247
  a173 := Tryz.isAgg247
  z173 := Tryz.sizeOf247
  v173 := Tryz.zeroValue247
  t212 := Tryz.underlying292
  a212 := Tryz.isAgg292
  z212 := Tryz.sizeOf292
  v212 := Tryz.zeroValue292
  t213 := Tryz.underlying293
  a213 := Tryz.isAgg293
  z213 := Tryz.sizeOf293
  t232 := Tryz.underlying385
  a232 := Tryz.isAgg385
  z232 := Tryz.sizeOf385
  v232 := Tryz.zeroValue385
  t233 := Tryz.underlying386
  a233 := Tryz.isAgg386
  z233 := Tryz.sizeOf386
  v233 := Tryz.zeroValue386
  g17 := by kernel_rfl
  g18 := by kernel_rfl
  g19 := by kernel_rfl
  i0 := by kernel_rfl
  i2 := by kernel_rfl
  i3 := by kernel_rfl
  i4 := by kernel_rfl
  i5 := by kernel_rfl
  i9 := by kernel_rfl
  i20 := by kernel_rfl
  i37 := by kernel_rfl
  i46 := by kernel_rfl
  i51 := by kernel_rfl
  i53 := by kernel_rfl
  i171 := by kernel_rfl
  i173 := by kernel_rfl
  i212 := by kernel_rfl
  i232 := by kernel_rfl
  i233 := by kernel_rfl
  m17 := by kernel_rfl
  m18 := by kernel_rfl
  m19 := by kernel_rfl
end
open Go.Vw
theorem mod_below {w w' : World} (h : Go.RowKit.Below w.heap.size w w') : Mod (fun _ => False) w w' := ⟨h.os, h.tape, h.output, h.size, fun k hk _ => h.block k hk⟩
/-- the table of powers stands in all worlds behind this one -/
abbrev TabU (w : World) : Prop := Go.Lib.TabBelow Tryz.prog w.heap.size w "internal/strconv.uint64pow10" .u64 Go.Lib.pow10Tab
theorem TabU.keep {w w' : World} (h : TabU w) (hM : Mod (fun _ => False) w w') : TabU w' := fun w2 h2 => h w2 ((⟨hM.os, hM.tape, hM.output, hM.size, fun k hk => hM.block k hk id⟩ : Go.RowKit.Below w.heap.size w w').trans (h2.mono hM.size))
theorem itoa_all {n : Int} (h0 : -9223372036854775808 ≤ n) (h1 : n ≤ 9223372036854775807) {w : World} (ht : TabU w) {K : Str → World → Prop} (hK : ∀ w', Mod (fun _ => False) w w' → K (Go.Lib.itoa n) w') : callK Tryz.prog c_strconv_Itoa [.leaf (.int .i64 n)] w (.one (.leaf .str)) K := by
  have h := Any.strconv_Itoa itoaLaysM n h0 h1 w ht.here
  refine Calls.mono h fun e w' ⟨he, k, os, hw⟩ => ⟨[.str (Go.Lib.itoa n)], he, ?_⟩
  subst hw
  exact hK _ (mod_below (Go.Lib.below_grow _ w (Nat.le_refl _) k os))
theorem enc10 : ∀ i : Fin 10, Utf8.encode (48 + (i.1 : Int)) = ⟨#[UInt8.ofNat (48 + i.1)]⟩ := by decide +kernel
theorem dec10 : ∀ i : Fin 10, IntKind.wrap .i32 (w64 (48 + (i.1 : Int))) = 48 + (i.1 : Int) := by decide +kernel
theorem digits_len {u : Nat} (h : u ≤ 9223372036854775807) : (Go.Lib.decDigits u).length ≤ 20 := by
  rw [Go.Lib.decDigits_length]; exact Go.Lib.nDigits_le20 u (by omega)
/-- the document's Decimal, of what is not below 0 -/
theorem decimal_nat {i : Nat} (hi : i ≤ 9223372036854775807) {w : World} {K : Str → World → Prop} (hK : K (Go.Lib.decDigits i) w) : callK Tryz.prog c_winnowref15_Decimal [.leaf (.int .i64 (i : Int))] w (.one (.leaf .str)) K := by
  refine go_winnowref15_Decimal _ _ _ ?_
  refine ifK_intro (fun h => ?_) fun h => ?_
  · have h : (i : Int) = 0 := by simpa using h
    have : i = 0 := by omega
    subst this
    have : Go.Lib.decDigits 0 = [48] := by rw [Go.Lib.decDigits_one (by decide)]; rfl
    rw [this] at hK; exact hK
  have h : i ≠ 0 := by
    rintro rfl; simp at h
  refine join1 (a := .str) (fun (s : Str) u => s = Go.Lib.decDigits i ∧ u = w) ?_ ?_
  · intro k2 hk2
    refine loop2 (k1 := .int .i64) (k2 := .str) (fun (v : Int) (s : Str) u => u = w ∧ ∃ m : Nat, v = m ∧ m ≤ i ∧ ((m ≠ 0 ∧ Go.Lib.decDigits m ++ s = Go.Lib.decDigits i) ∨ (m = 0 ∧ s = Go.Lib.decDigits i))) (fun v _ _ => v.toNat) (x1 := (i : Int)) (x2 := []) rfl rfl ⟨rfl, i, rfl, Nat.le_refl _, .inl ⟨h, by simp⟩⟩ ?_
    rintro v s u ⟨rfl, m, rfl, hmi, hv⟩
    refine ifK_intro (fun h0 => ?_) fun h0 => ?_
    · have h0 : m ≠ 0 := by rintro rfl; simp at h0
      have hv : Go.Lib.decDigits m ++ s = Go.Lib.decDigits i := by
        rcases hv with hv | hv
        · exact hv.2
        · exact absurd hv.1 h0
      have hm : ((m : Int)).tmod 10 = ((m % 10 : Nat) : Int) := rfl
      have hq : ((m : Int)).tdiv 10 = ((m / 10 : Nat) : Int) := rfl
      rw [hm, hq]
      have hd : m % 10 < 10 := Nat.mod_lt _ (by decide)
      refine join1 (a := .int .i64) (fun (d : Int) u' => d = ((m % 10 : Nat) : Int) ∧ u' = u) ?_ ?_
      · intro k7 hk7
        exact ifK_f (decide_eq_false (by omega)) (hk7 _ _ ⟨rfl, rfl⟩)
      rintro d u' ⟨rfl, rfl⟩
      have e1 := dec10 ⟨m % 10, hd⟩
      have e2 := enc10 ⟨m % 10, hd⟩
      simp only at e1 e2
      rw [e1]
      refine ⟨[.str [UInt8.ofNat (48 + m % 10)]], u', ?_, ?_⟩
      · unfold vS
        have hrun := run_convert_int_string (P := Tryz.prog) u' 21 9 .i32 (48 + ((m % 10 : Nat) : Int)) (by rw [Tryz.underlying21]; rfl) Tryz.underlying9
        rw [e2] at hrun
        simp only [LV.toV, Sem.run_bind, hrun, Result.andThen]
        rfl
      · have hl : (Go.Lib.decDigits m).length + s.length ≤ 20 := by
          rw [← List.length_append, hv]; exact digits_len hi
        refine ⟨by simp; omega, ⟨rfl, m / 10, w64_in (by omega) (by omega), by omega, ?_⟩, ?_⟩
        · by_cases h10 : m < 10
          · refine .inr ⟨by omega, ?_⟩
            rw [← hv, Go.Lib.decDigits_one h10, Nat.mod_eq_of_lt h10]
          · refine .inl ⟨by omega, ?_⟩
            rw [← hv]
            conv => rhs; rw [Go.Lib.decDigits, dif_neg h10]
            simp
        · rw [w64_in (by omega) (by omega)]; omega
    · have h0 : m = 0 := by simpa using h0
      rcases hv with hv | hv
      · exact absurd h0 hv.1
      · exact hk2 _ _ ⟨hv.2, rfl⟩
  rintro s u ⟨rfl, rfl⟩
  refine join1 (a := .str) (fun (s : Str) v => s = Go.Lib.decDigits i ∧ v = u) ?_ (by rintro s v ⟨rfl, rfl⟩; exact hK)
  intro k14 hk14
  exact ifK_f (decide_eq_false (by omega)) (hk14 _ _ ⟨rfl, rfl⟩)
end Go.Proofs.YtjefbjfifjjpmaeGreatDoor
