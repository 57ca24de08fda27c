/- The library's strings.Join, strings.IndexByte, strconv.Itoa, laid at this program (the text that the kit's own laying prints), as contracts of the typed reading. -/
import Derived.Shelf.Strings.OnBuilder
import Derived.Shelf.Small.Strs
import Derived.Shelf.Strconv.Itoa3
import Derived.Test.YtjldecomhpngmaaDoorDL
import Derived.Test.YtjldecomhpngmaaDoorS0
namespace Go.Proofs.YtjldecomhpngmaaDoor
section
open Go.Shelf Go.RowKit Go.Lib Go.Sort
def joinLays_ren : Go.Shelf.Ren := ⟨fun | 156 => 11 | 165 => 16 | 166 => 17 | 169 => 18 | 240 => 21 | 241 => 22 | 276 => 25 | 277 => 26 | n => n, fun | 31 => 22 | 9 => 9 | 3 => 3 | 4 => 4 | 0 => 0 | 20 => 20 | 72 => 41 | 76 => 45 | 70 => 39 | 37 => 36 | 75 => 44 | 127 => 48 | 164 => 50 | 5 => 5 | 80 => 47 | n => n, fun | n => n⟩
theorem joinLays : Go.Proofs.Lays.n156 Tryd.prog joinLays_ren where
  mixed := by kernel_rfl
  f156 := Tryd.func11.trans (congrArg some (by kernel_rfl))
  f165 := Tryd.func16.trans (congrArg some (by kernel_rfl))
  f166 := Tryd.func17.trans (congrArg some (by kernel_rfl))
  f169 := Tryd.func18.trans (congrArg some (by kernel_rfl))
  f240 := Tryd.func21.trans (congrArg some (by kernel_rfl))
  f241 := Tryd.func22.trans (congrArg some (by kernel_rfl))
  f276 := Tryd.func25.trans (congrArg some (by kernel_rfl))
  f277 := Tryd.func26.trans (congrArg some (by kernel_rfl))
  t0 := Tryd.underlying0
  a0 := Tryd.isAgg0
  z0 := Tryd.sizeOf0
  v0 := Tryd.zeroValue0
  t3 := Tryd.underlying3
  a3 := Tryd.isAgg3
  z3 := Tryd.sizeOf3
  v3 := Tryd.zeroValue3
  t4 := Tryd.underlying4
  a4 := Tryd.isAgg4
  z4 := Tryd.sizeOf4
  v4 := Tryd.zeroValue4
  t9 := Tryd.underlying9
  a9 := Tryd.isAgg9
  z9 := Tryd.sizeOf9
  v9 := Tryd.zeroValue9
  t20 := Tryd.underlying20
  a20 := Tryd.isAgg20
  z20 := Tryd.sizeOf20
  v20 := Tryd.zeroValue20
  t31 := Tryd.underlying22
  a31 := Tryd.isAgg22
  z31 := Tryd.sizeOf22
  v31 := Tryd.zeroValue22
  t37 := Tryd.underlying36
  a37 := Tryd.isAgg36
  z37 := Tryd.sizeOf36
  v37 := Tryd.zeroValue36
  t70 := Tryd.underlying39
  a70 := Tryd.isAgg39
  z70 := Tryd.sizeOf39
  v70 := Tryd.zeroValue39
  t72 := Tryd.underlying41
  a72 := Tryd.isAgg41
  z72 := Tryd.sizeOf41
  v72 := Tryd.zeroValue41
  t75 := Tryd.underlying44
  a75 := Tryd.isAgg44
  z75 := Tryd.sizeOf44
  v75 := Tryd.zeroValue44
  t76 := Tryd.underlying45
  a76 := Tryd.isAgg45
  z76 := Tryd.sizeOf45
  v76 := Tryd.zeroValue45
  t127 := Tryd.underlying48
  a127 := Tryd.isAgg48
  z127 := Tryd.sizeOf48
  v127 := Tryd.zeroValue48
  t164 := Tryd.underlying50
  a164 := Tryd.isAgg50
  z164 := Tryd.sizeOf50
  v164 := Tryd.zeroValue50
def indexLays_ren : Go.Shelf.Ren := ⟨fun | 137 => 12 | 217 => 19 | 266 => 23 | n => n, fun | 9 => 9 | 5 => 5 | 3 => 3 | n => n, fun | n => n⟩
theorem indexLays : Go.Proofs.Lays.n137 Tryd.prog indexLays_ren where
  mixed := by kernel_rfl
  f137 := Tryd.func12.trans (congrArg some (by kernel_rfl))
  f217 := Tryd.func19.trans (congrArg some (by kernel_rfl))
  f266 := Tryd.func23.trans (congrArg some (by kernel_rfl))
  t3 := Tryd.underlying3
  a3 := Tryd.isAgg3
  z3 := Tryd.sizeOf3
  v3 := Tryd.zeroValue3
  t5 := Tryd.underlying5
  a5 := Tryd.isAgg5
  z5 := Tryd.sizeOf5
  v5 := Tryd.zeroValue5
  t9 := Tryd.underlying9
  a9 := Tryd.isAgg9
  z9 := Tryd.sizeOf9
  v9 := Tryd.zeroValue9
def itoaLays_ren : Go.Shelf.Ren := ⟨fun | 171 => 14 | 243 => 20 | 246 => 24 | 283 => 27 | 284 => 28 | 285 => 29 | 286 => 30 | 129 => 32 | 317 => 31 | 318 => 33 | 319 => 34 | 320 => 35 | 337 => 36 | 338 => 37 | n => n, fun | 3 => 3 | 9 => 9 | 2 => 2 | 4 => 4 | 171 => 53 | 0 => 0 | 53 => 54 | 37 => 36 | 5 => 5 | 173 => 57 | 212 => 61 | 51 => 62 | 20 => 20 | 213 => 63 | 46 => 65 | 232 => 68 | 233 => 69 | n => n, fun | 17 => 1 | 18 => 2 | 19 => 3 | n => n⟩
theorem itoaLays : Go.Proofs.Lays.n171 Tryd.prog itoaLays_ren where
  mixed := by kernel_rfl
  f129 := Tryd.func32.trans (congrArg some (by kernel_rfl))
  f171 := Tryd.func14.trans (congrArg some (by kernel_rfl))
  f243 := Tryd.func20.trans (congrArg some (by kernel_rfl))
  f246 := Tryd.func24.trans (congrArg some (by kernel_rfl))
  f283 := Tryd.func27.trans (congrArg some (by kernel_rfl))
  f284 := Tryd.func28.trans (congrArg some (by kernel_rfl))
  f285 := Tryd.func29.trans (congrArg some (by kernel_rfl))
  f286 := Tryd.func30.trans (congrArg some (by kernel_rfl))
  f317 := Tryd.func31.trans (congrArg some (by kernel_rfl))
  f318 := Tryd.func33.trans (congrArg some (by kernel_rfl))
  f319 := Tryd.func34.trans (congrArg some (by kernel_rfl))
  f320 := Tryd.func35.trans (congrArg some (by kernel_rfl))
  f337 := Tryd.func36.trans (congrArg some (by kernel_rfl))
  f338 := Tryd.func37.trans (congrArg some (by kernel_rfl))
  t0 := Tryd.underlying0
  a0 := Tryd.isAgg0
  z0 := Tryd.sizeOf0
  v0 := Tryd.zeroValue0
  t2 := Tryd.underlying2
  a2 := Tryd.isAgg2
  z2 := Tryd.sizeOf2
  v2 := Tryd.zeroValue2
  t3 := Tryd.underlying3
  a3 := Tryd.isAgg3
  z3 := Tryd.sizeOf3
  v3 := Tryd.zeroValue3
  t4 := Tryd.underlying4
  a4 := Tryd.isAgg4
  z4 := Tryd.sizeOf4
  v4 := Tryd.zeroValue4
  t5 := Tryd.underlying5
  a5 := Tryd.isAgg5
  z5 := Tryd.sizeOf5
  v5 := Tryd.zeroValue5
  t9 := Tryd.underlying9
  a9 := Tryd.isAgg9
  z9 := Tryd.sizeOf9
  v9 := Tryd.zeroValue9
  t20 := Tryd.underlying20
  a20 := Tryd.isAgg20
  z20 := Tryd.sizeOf20
  v20 := Tryd.zeroValue20
  t37 := Tryd.underlying36
  a37 := Tryd.isAgg36
  z37 := Tryd.sizeOf36
  v37 := Tryd.zeroValue36
  t46 := Tryd.underlying65
  a46 := Tryd.isAgg65
  z46 := Tryd.sizeOf65
  v46 := Tryd.zeroValue65
  t51 := Tryd.underlying62
  a51 := Tryd.isAgg62
  z51 := Tryd.sizeOf62
  v51 := Tryd.zeroValue62
  t53 := Tryd.underlying54
  a53 := Tryd.isAgg54
  z53 := Tryd.sizeOf54
  v53 := Tryd.zeroValue54
  t171 := Tryd.underlying53
  a171 := Tryd.isAgg53
  z171 := Tryd.sizeOf53
  v171 := Tryd.zeroValue53
  t173 := Tryd.underlying57
  a173 := Tryd.isAgg57
  z173 := Tryd.sizeOf57
  v173 := Tryd.zeroValue57
  t212 := Tryd.underlying61
  a212 := Tryd.isAgg61
  z212 := Tryd.sizeOf61
  v212 := Tryd.zeroValue61
  t213 := Tryd.underlying63
  a213 := Tryd.isAgg63
  z213 := Tryd.sizeOf63
  t232 := Tryd.underlying68
  a232 := Tryd.isAgg68
  z232 := Tryd.sizeOf68
  v232 := Tryd.zeroValue68
  t233 := Tryd.underlying69
  a233 := Tryd.isAgg69
  z233 := Tryd.sizeOf69
  v233 := Tryd.zeroValue69
  g17 := by kernel_rfl
  g18 := by kernel_rfl
  g19 := by kernel_rfl

theorem joinX : Go.Proofs.Builder.Extra Tryd.prog joinLays_ren where
  sizeBuilder := by kernel_rfl
  liesBuilder := by kernel_rfl
  t5 := Tryd.underlying5
  a5 := Tryd.isAgg5
  z5 := Tryd.sizeOf5
  v5 := Tryd.zeroValue5
  infoByte := by kernel_rfl
  cellsByte := by kernel_rfl
  sizeByte := by kernel_rfl
  neB5 := by decide
end
open Go.Vw
theorem below_mod {w w' : World} (h : Go.RowKit.Below w.heap.size w w') : Mod F0 w w' := ⟨h.os, h.tape, h.output, h.size, fun k hk _ => h.block k hk⟩
theorem join_nosep : ∀ l : List Str, Go.Lib.join l [] = l.flatten
  | [] => rfl
  | [x] => by simp [Go.Lib.join_one]
  | x :: y :: r => by
    rw [Go.Lib.join_cons]
    unfold Go.Lib.joinTail
    simp
theorem str_map (l : List Str) : (l.map fun x => (⟨x.toArray⟩ : ByteArray)).map (·.data.toList) = l := by
  rw [List.map_map]
  conv => rhs; rw [← List.map_id l]
  exact List.map_congr_left fun x _ => rfl
theorem join_ok {w : World} {s : Sl} {l : List Str} (hr : RdS w EStr s l) (hn : l.length ≤ 1099511627776) (hb : l.flatten.length ≤ 1099511627776) {K : Str → World → Prop} (hK : ∀ w', Mod F0 w w' → K l.flatten w') :
    callK Tryd.prog 11 [.leaf (.sl s), .leaf (.str [])] w (.one (.leaf .str)) K := by
  have hlen := hr.len
  cases l with
  | nil =>
    have h := Any.strings_Join_none joinLays joinX (slA s.cap s.p) s.cap ⟨#[]⟩ w
    have hs : s.len = 0 := hlen
    show Calls _ _ #[.slice (slA s.cap s.p) s.len s.cap, .string ⟨#[]⟩] _ _
    rw [hs]
    refine Calls.mono h fun e w' ⟨he, hw⟩ => ⟨[.str []], he, ?_⟩
    subst hw; exact hK _ (Mod.refl _ _)
  | cons x r =>
    obtain ⟨b, o, hp, hlt, hc0⟩ := hr.at (i := 0) (x := x) rfl
    have hcap := hr.has
    have hsa : slA s.cap s.p = some ⟨b, o, none⟩ := by
      rw [hp]; show some (if s.cap = 0 then decA b o else ⟨b, o, none⟩) = _; rw [if_neg (by omega)]
    have hrd := hr.rd
    have hcells : ∀ (j : Nat) y, ((x :: r).map fun x => (⟨x.toArray⟩ : ByteArray))[j]? = some y → w.cell? ⟨b, o + j, none⟩ = some (.string y) := by
      intro j y hy
      rw [List.getElem?_map] at hy
      cases hz : (x :: r)[j]? with
      | none => rw [hz] at hy; cases hy
      | some z =>
        rw [hz] at hy
        cases hy
        obtain ⟨b', o', hp', _, hc⟩ := hr.at hz
        rw [hp] at hp'
        cases hp'
        have h1 := hc 0 (by decide)
        have e : o + j * EStr.n + 0 = o + j := by show o + j * 1 + 0 = o + j; omega
        rw [e] at h1
        exact h1
    have hbk : b < w.heap.size := by
      have h0 := hc0 0 (by decide)
      refine Classical.byContradiction fun hx => ?_
      have : w.heap[b]? = none := Array.getElem?_eq_none (by omega)
      unfold World.cell? at h0
      simp only [this] at h0
      cases h0
    have h := Any.strings_Join joinLays joinX b o s.cap ((x :: r).map fun x => (⟨x.toArray⟩ : ByteArray)) ⟨#[]⟩ w hcells hbk (by rw [List.length_map]; omega) (by rw [List.length_map]; omega) (by
      rw [str_map]
      show (Go.Lib.join (x :: r) []).length ≤ _
      rw [join_nosep]; omega)
    rw [List.length_map, str_map] at h
    have h : Calls Tryd.prog 11 #[.slice (some ⟨b, o, none⟩) (x :: r).length s.cap, .string ⟨#[]⟩] w fun e w' => e = .returned (.string ⟨(Go.Lib.join (x :: r) []).toArray⟩) ∧ Go.RowKit.Below w.heap.size w w' := h
    rw [join_nosep] at h
    show Calls _ _ #[.slice (slA s.cap s.p) s.len s.cap, .string ⟨#[]⟩] _ _
    rw [hsa, hlen]
    refine Calls.mono h fun e w' ⟨he, hw⟩ => ⟨[.str (x :: r).flatten], he, hK _ (below_mod hw)⟩
theorem index_ok {w : World} {s : Str} {K : Int → World → Prop} (hK : K (Go.Lib.indexByte s 10) w) : callK Tryd.prog 12 [.leaf (.str s), .leaf (.int .u8 10)] w (.one (.leaf (.int .i64))) K := by
  have h := Any.strings_IndexByte indexLays ⟨s.toArray⟩ 10 w
  refine Calls.mono h fun e w' ⟨he, hw⟩ => ⟨[.int .i64 (Go.Lib.indexByte s 10)], he, ?_⟩
  subst hw; exact hK
theorem itoa_ok {w : World} {i : Nat} (hi : i < 100) {K : Str → World → Prop} (hK : K (Go.Lib.decDigits i) w) : callK Tryd.prog 14 [.leaf (.int .i64 (i : Int))] w (.one (.leaf .str)) K := by
  have h := Any.strconv_Itoa_small itoaLays i hi w
  refine Calls.mono h fun e w' ⟨he, hw⟩ => ⟨[.str (Go.Lib.decDigits i)], he, ?_⟩
  subst hw; exact hK
end Go.Proofs.YtjldecomhpngmaaDoor
