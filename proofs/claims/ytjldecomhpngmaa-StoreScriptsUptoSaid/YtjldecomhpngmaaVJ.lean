/- Bits of bytes: a flip turns just the bits that the mask names. (no program) -/
import Derived.Test.YtjldecomhpngmaaVA
namespace Go.Proofs.Ytjldecomhpngmaa
open Go.Vw

def tb (x : Int) (k : Nat) : Bool := x.toNat.testBit k
def b01 (b : Bool) : Int := if b then 1 else 0
theorem pow_cast (j : Nat) : (2 : Int) ^ j = ((2 ^ j : Nat) : Int) := by
  rw [Int.natCast_pow]; rfl
theorem shr_nat (k : IntKind) (n j : Nat) : shrI k n j = ((n / 2 ^ (min j k.bits) : Nat) : Int) := by
  unfold shrI
  rw [pow_cast, Int.toNat_natCast]
  exact (Int.ofNat_fdiv n _).symm
theorem wrap_u {k : IntKind} (hs : k.signed = false) {n : Nat} (h : n < 2 ^ k.bits) : k.wrap n = n := by
  unfold IntKind.wrap
  simp only [hs, Bool.false_and]
  rw [pow_cast]
  have : ((n : Int) % ((2 ^ k.bits : Nat) : Int)) = n := Int.emod_eq_of_lt (by omega) (by exact_mod_cast h)
  rw [this]; rfl
theorem div_min {k : IntKind} {n j : Nat} (h : n < 2 ^ k.bits) : n / 2 ^ (min j k.bits) = n / 2 ^ j := by
  by_cases hj : j ≤ k.bits
  · rw [Nat.min_eq_left hj]
  · have h1 : 2 ^ k.bits ≤ 2 ^ j := Nat.pow_le_pow_right (by decide) (by omega)
    rw [Nat.min_eq_right (by omega), Nat.div_eq_of_lt h, Nat.div_eq_of_lt (by omega)]
theorem bit_and {k : IntKind} (hs : k.signed = false) (hb : 1 ≤ k.bits) {n j : Nat} (h : n < 2 ^ k.bits) : bitI .and k (shrI k n j) 1 = b01 (n.testBit j) := by
  have hb2 : 2 ≤ 2 ^ k.bits := by have := Nat.pow_le_pow_right (n := 2) (by decide) hb; simpa using this
  rw [shr_nat, div_min h]
  unfold b01
  show k.wrap (BitVec.ofInt k.bits ((n / 2 ^ j : Nat) : Int) &&& BitVec.ofInt k.bits 1).toNat = _
  have e2 : (BitVec.ofInt k.bits ((n / 2 ^ j : Nat) : Int) &&& BitVec.ofInt k.bits 1).toNat = n / 2 ^ j % 2 := by
    have hlt : n / 2 ^ j < 2 ^ k.bits := Nat.lt_of_le_of_lt (Nat.div_le_self _ _) h
    rw [BitVec.toNat_and, BitVec.ofInt_natCast, BitVec.toNat_ofNat, Nat.mod_eq_of_lt hlt]
    have : (BitVec.ofInt k.bits 1).toNat = 1 := by
      have : (1 : Int) = ((1 : Nat) : Int) := rfl
      rw [this, BitVec.ofInt_natCast, BitVec.toNat_ofNat, Nat.mod_eq_of_lt (by omega)]
    rw [this, Nat.and_one_is_mod]
  rw [e2, wrap_u hs (by omega), Nat.testBit_eq_decide_div_mod_eq]
  have : n / 2 ^ j % 2 < 2 := Nat.mod_lt _ (by decide)
  by_cases h1 : n / 2 ^ j % 2 = 1
  · rw [h1]; rfl
  · have : n / 2 ^ j % 2 = 0 := by omega
    rw [this]; rfl
theorem bit_xor {n j : Nat} (h : n < 256) (hj : j < 8) : bitI .xor .u8 n (shlI .u8 1 j) = ((n ^^^ 2 ^ j : Nat) : Int) := by
  have hp : 2 ^ j < 256 := by have := Nat.pow_lt_pow_right (a := 2) (by decide) hj; simpa using this
  have e1 : shlI .u8 1 (j : Int) = ((2 ^ j : Nat) : Int) := by
    unfold shlI
    rw [Int.toNat_natCast, Nat.min_eq_left (by show j ≤ 8; omega), Int.one_mul, pow_cast]
    exact wrap_u rfl (by show 2 ^ j < 2 ^ 8; simpa using hp)
  rw [e1]
  show IntKind.wrap .u8 (BitVec.ofInt IntKind.u8.bits (n : Int) ^^^ BitVec.ofInt IntKind.u8.bits ((2 ^ j : Nat) : Int)).toNat = _
  have e2 : (BitVec.ofInt IntKind.u8.bits (n : Int) ^^^ BitVec.ofInt IntKind.u8.bits ((2 ^ j : Nat) : Int)).toNat = n ^^^ 2 ^ j := by
    rw [BitVec.toNat_xor, BitVec.ofInt_natCast, BitVec.ofInt_natCast, BitVec.toNat_ofNat, BitVec.toNat_ofNat]
    have e3 : (2 : Nat) ^ IntKind.u8.bits = 256 := rfl
    rw [e3, Nat.mod_eq_of_lt h, Nat.mod_eq_of_lt hp]
  rw [e2]
  exact wrap_u rfl (Nat.xor_lt_two_pow (n := 8) h hp)
/-- one bit of a row of bytes is turned -/
def flipAt (d : List Int) (t : Nat) : List Int := d.set (t / 8) (((d.getD (t / 8) 0).toNat ^^^ 2 ^ (t % 8) : Nat) : Int)
def flips (bit : Nat) (mask : Int) : Nat → List Int → List Int
  | 0, d => d
  | n + 1, d => if tb mask n = true ∧ bit + n < 8 * d.length then flipAt (flips bit mask n d) (bit + n) else flips bit mask n d
theorem flipAt_length (d : List Int) (t : Nat) : (flipAt d t).length = d.length := by simp [flipAt]
theorem flips_length (bit : Nat) (mask : Int) : ∀ (n : Nat) (d : List Int), (flips bit mask n d).length = d.length
  | 0, d => rfl
  | n + 1, d => by
    unfold flips
    split
    · rw [flipAt_length, flips_length bit mask n d]
    · exact flips_length bit mask n d
def Byt (d : List Int) : Prop := ∀ x ∈ d, 0 ≤ x ∧ x < 256
theorem Byt.at {d : List Int} (h : Byt d) {i : Nat} (hi : i < d.length) : 0 ≤ d.getD i 0 ∧ d.getD i 0 < 256 := by
  have : d.getD i 0 = d[i] := by simp [List.getD, List.getElem?_eq_getElem hi]
  rw [this]; exact h _ (List.getElem_mem hi)
theorem xor_lt8 {n j : Nat} (h : n < 256) (hj : j < 8) : n ^^^ 2 ^ j < 256 := by
  have hp : 2 ^ j < 256 := by have := Nat.pow_lt_pow_right (a := 2) (by decide) hj; simpa using this
  exact Nat.xor_lt_two_pow (n := 8) h hp
theorem Byt.turn {d : List Int} (h : Byt d) {t : Nat} (ht : t < 8 * d.length) : Byt (flipAt d t) := by
  intro x hx
  unfold flipAt at hx
  rcases List.mem_or_eq_of_mem_set hx with hx | hx
  · exact h x hx
  · have h1 := h.at (i := t / 8) (by omega)
    have h2 := xor_lt8 (n := (d.getD (t / 8) 0).toNat) (j := t % 8) (by omega) (by omega)
    subst hx; omega
theorem Byt.turns {d : List Int} (h : Byt d) (bit : Nat) (mask : Int) : ∀ n, Byt (flips bit mask n d)
  | 0 => h
  | n + 1 => by
    unfold flips
    split
    · rename_i hc
      exact (h.turns bit mask n).turn (by rw [flips_length]; exact hc.2)
    · exact h.turns bit mask n
/-- a bit of a row of bytes -/
def tbit (d : List Int) (t : Nat) : Bool := tb (d.getD (t / 8) 0) (t % 8)
theorem tbit_flipAt {d : List Int} {s t : Nat} (hs : s < 8 * d.length) : tbit (flipAt d s) t = Bool.xor (tbit d t) (decide (s = t)) := by
  unfold tbit flipAt tb
  by_cases h8 : s / 8 = t / 8
  · have : (d.set (s / 8) (((d.getD (s / 8) 0).toNat ^^^ 2 ^ (s % 8) : Nat) : Int)).getD (t / 8) 0 = (((d.getD (s / 8) 0).toNat ^^^ 2 ^ (s % 8) : Nat) : Int) := by
      rw [← h8]; simp [List.getD, List.getElem?_set, show s / 8 < d.length by omega]
    rw [this, Int.toNat_natCast, Nat.testBit_xor, Nat.testBit_two_pow, h8]
    congr 1
    have : (s % 8 = t % 8) = (s = t) := propext ⟨fun h => by omega, fun h => by omega⟩
    simp only [this]
  · have : (d.set (s / 8) (((d.getD (s / 8) 0).toNat ^^^ 2 ^ (s % 8) : Nat) : Int)).getD (t / 8) 0 = d.getD (t / 8) 0 := by
      simp [List.getD, List.getElem?_set, h8]
    rw [this, decide_eq_false (fun h => h8 (by rw [h]))]
    simp
theorem tbit_flips (bit : Nat) (mask : Int) (d : List Int) (t : Nat) (ht : t < 8 * d.length) : ∀ n, tbit (flips bit mask n d) t = Bool.xor (tbit d t) (decide (bit ≤ t ∧ t < bit + n) && tb mask (t - bit))
  | 0 => by
    have : decide (bit ≤ t ∧ t < bit + 0) = false := decide_eq_false (by omega)
    rw [this]; simp [flips]
  | n + 1 => by
    have ih := tbit_flips bit mask d t ht n
    unfold flips
    split
    · rename_i hc
      rw [tbit_flipAt (by rw [flips_length]; exact hc.2), ih]
      by_cases he : bit + n = t
      · subst he
        have e1 : decide (bit ≤ bit + n ∧ bit + n < bit + n) = false := by simp
        have e2 : decide (bit ≤ bit + n ∧ bit + n < bit + (n + 1)) = true := by simp
        rw [e1, e2, Nat.add_sub_cancel_left, hc.1]; simp
      · have e3 : (bit ≤ t ∧ t < bit + (n + 1)) = (bit ≤ t ∧ t < bit + n) := propext ⟨fun h => ⟨h.1, by omega⟩, fun h => ⟨h.1, by omega⟩⟩
        rw [decide_eq_false he]
        simp only [e3, Bool.xor_false]
    · rename_i hc
      rw [ih]
      by_cases he : bit + n = t
      · subst he
        have : tb mask n = false := by
          cases hm : tb mask n with
          | false => rfl
          | true => exact absurd ⟨hm, ht⟩ hc
        rw [Nat.add_sub_cancel_left, this]; simp
      · have e3 : (bit ≤ t ∧ t < bit + (n + 1)) = (bit ≤ t ∧ t < bit + n) := propext ⟨fun h => ⟨h.1, by omega⟩, fun h => ⟨h.1, by omega⟩⟩
        simp only [e3]
theorem byt_ext {d e : List Int} (hd : Byt d) (he : Byt e) (hl : d.length = e.length) (h : ∀ t, t < 8 * d.length → tbit d t = tbit e t) : d = e := by
  apply List.ext_getElem hl
  intro i h1 h2
  have hdi : d.getD i 0 = d[i] := by simp [List.getD, List.getElem?_eq_getElem h1]
  have hei : e.getD i 0 = e[i] := by simp [List.getD, List.getElem?_eq_getElem h2]
  have b1 := hd.at h1
  have b2 := he.at h2
  rw [hdi] at b1
  rw [hei] at b2
  have : d[i].toNat = e[i].toNat := by
    apply Nat.eq_of_testBit_eq
    intro j
    by_cases hj : j < 8
    · have := h (8 * i + j) (by omega)
      unfold tbit tb at this
      rw [show (8 * i + j) / 8 = i by omega, show (8 * i + j) % 8 = j by omega, hdi, hei] at this
      exact this
    · have h256 : (256 : Nat) ≤ 2 ^ j := by have := Nat.pow_le_pow_right (n := 2) (by decide) (show 8 ≤ j by omega); simpa using this
      rw [Nat.testBit_lt_two_pow (by omega), Nat.testBit_lt_two_pow (by omega)]
  omega
/-- twice is back -/
theorem flips_twice {d : List Int} (hd : Byt d) (bit : Nat) (mask : Int) (n : Nat) : flips bit mask n (flips bit mask n d) = d := by
  refine byt_ext ((hd.turns bit mask n).turns bit mask n) hd (by rw [flips_length, flips_length]) fun t ht => ?_
  rw [flips_length, flips_length] at ht
  rw [tbit_flips bit mask _ t (by rw [flips_length]; exact ht), tbit_flips bit mask d t ht]
  cases tbit d t <;> cases (decide (bit ≤ t ∧ t < bit + n) && tb mask (t - bit)) <;> rfl
end Go.Proofs.Ytjldecomhpngmaa
