/- MapNone, walked: an attempt without a store; the two names. -/
import Derived.Test.YtjefbjfifjjpmaeGreatDoorNI
import Derived.Test.YtjefbjfifjjpmaeGreatDoorLE
namespace Go.Proofs.YtjefbjfifjjpmaeGreatDoor
open Go.Vw

abbrev F0 : Nat → Prop := fun _ => False
/-- an attempt's spill's name -/
def nameM (out : Str) (task attempt : Int) : Str := if task < 0 ∨ attempt < 0 then [] else (((out ++ [46, 109]) ++ Go.Lib.decDigits task.toNat) ++ [46]) ++ Go.Lib.decDigits attempt.toNat
theorem name_ok {out : Str} (ho : out.length ≤ 1099511627776) {task attempt : Int} (h1 : task ≤ 9223372036854775807) (h2 : attempt ≤ 9223372036854775807) {w : World} (ht : TabU w) {K : Str → World → Prop} (hK : ∀ w', Mod F0 w w' → K (nameM out task attempt) w') :
    callK Tryz.prog c_maptask_Name [.leaf (.str out), .leaf (.int .i64 task), .leaf (.int .i64 attempt)] w (.one (.leaf .str)) K := by
  refine go_maptask_Name _ _ _ _ _ ?_
  refine join1 (fun c u => u = w ∧ (c = true ↔ task < 0 ∨ attempt < 0)) ?_ ?_
  · intro k3 hk3
    refine ifK_intro (fun h => hk3 _ _ ⟨rfl, ?_⟩) fun h => hk3 _ _ ⟨rfl, ?_⟩
    · have h : task < 0 := by simpa using h
      exact ⟨fun _ => .inl h, fun _ => rfl⟩
    · have h : ¬ task < 0 := by simpa using h
      rw [decide_eq_true_eq]; omega
  rintro c u ⟨rfl, hc⟩
  refine ifK_intro (fun h => ?_) fun h => ?_
  · have e : nameM out task attempt = [] := by unfold nameM; rw [if_pos (hc.1 h)]
    rw [e] at hK; exact hK _ (Mod.refl _ _)
  have h : ¬ (task < 0 ∨ attempt < 0) := fun x => by rw [hc.2 x] at h; cases h
  have e : nameM out task attempt = (((out ++ [46, 109]) ++ Go.Lib.decDigits task.toNat) ++ [46]) ++ Go.Lib.decDigits attempt.toNat := by unfold nameM; rw [if_neg h]
  rw [e] at hK
  obtain ⟨i, rfl⟩ : ∃ i : Nat, task = i := ⟨task.toNat, by omega⟩
  obtain ⟨j, rfl⟩ : ∃ j : Nat, attempt = j := ⟨attempt.toNat, by omega⟩
  simp only [Int.toNat_natCast] at hK
  have li := digits_len (u := i) (by omega)
  have lj := digits_len (u := j) (by omega)
  refine ⟨by simp; omega, itoa_all (by omega) h1 ht fun w1 M1 => ?_⟩
  rw [Go.Lib.itoa_nonneg]
  refine ⟨by simp; omega, by simp; omega, itoa_all (by omega) h2 (ht.keep M1) fun w2 M2 => ?_⟩
  rw [Go.Lib.itoa_nonneg]
  exact ⟨by simp; omega, hK _ (mod0 M1 M2)⟩
theorem refname_ok {out : Str} (ho : out.length ≤ 1099511627776) {task attempt : Int} (h1 : task ≤ 9223372036854775807) (h2 : attempt ≤ 9223372036854775807) {w : World} {K : Str → World → Prop} (hK : K (nameM out task attempt) w) :
    callK Tryz.prog c_winnowref17_Name [.leaf (.str out), .leaf (.int .i64 task), .leaf (.int .i64 attempt)] w (.one (.leaf .str)) K := by
  refine go_winnowref17_Name _ _ _ _ _ ?_
  refine join1 (fun c u => u = w ∧ (c = true ↔ task < 0 ∨ attempt < 0)) ?_ ?_
  · intro k3 hk3
    refine ifK_intro (fun h => hk3 _ _ ⟨rfl, ?_⟩) fun h => hk3 _ _ ⟨rfl, ?_⟩
    · have h : task < 0 := by simpa using h
      exact ⟨fun _ => .inl h, fun _ => rfl⟩
    · have h : ¬ task < 0 := by simpa using h
      rw [decide_eq_true_eq]; omega
  rintro c u ⟨rfl, hc⟩
  refine ifK_intro (fun h => ?_) fun h => ?_
  · have e : nameM out task attempt = [] := by unfold nameM; rw [if_pos (hc.1 h)]
    rw [e] at hK; exact hK
  have h : ¬ (task < 0 ∨ attempt < 0) := fun x => by rw [hc.2 x] at h; cases h
  have e : nameM out task attempt = (((out ++ [46, 109]) ++ Go.Lib.decDigits task.toNat) ++ [46]) ++ Go.Lib.decDigits attempt.toNat := by unfold nameM; rw [if_neg h]
  rw [e] at hK
  obtain ⟨i, rfl⟩ : ∃ i : Nat, task = i := ⟨task.toNat, by omega⟩
  obtain ⟨j, rfl⟩ : ∃ j : Nat, attempt = j := ⟨attempt.toNat, by omega⟩
  simp only [Int.toNat_natCast] at hK
  have li := digits_len (u := i) (by omega)
  have lj := digits_len (u := j) (by omega)
  refine ⟨by simp; omega, decimal_nat (by omega) ⟨by simp; omega, by simp; omega, decimal_nat (by omega) ⟨by simp; omega, hK⟩⟩⟩
variable {w : World}
theorem refused_nil {a0 a1 : Int} {a2 : Sl} {a3 : Bool} {a4 a5 a6 a7 a8 a9 t y p : Int} {s : Str} {K : Int → World → Prop} (hK : ∀ w', Mod F0 w w' → K 1 w') :
    callK Tryz.prog c_maptask_refused [.leaf (.ptr none), .agg [.int .i64 a0, .int .i64 a1, .sl a2, .bool a3, .int .i64 a4, .int .i64 a5, .int .i64 a6, .int .i64 a7, .int .i64 a8, .int .i64 a9], .leaf (.int .i64 t), .leaf (.int .i64 y), .agg [.int .i64 p, .str s]] w (.one (.leaf (.int .i64))) K := by
  refine go_maptask_refused _ _ _ _ _ _ _ _ _ _ _ _ _ _ _ _ _ ?_
  exact (At.init w F0).alK fun b1 w1 _ h1 _ => h1.alK fun b2 w2 _ h2 _ => ifK_t rfl (hK _ h2.mod)
theorem run_nil {out : Str} {a0 a1 : Int} {a2 : Sl} {a3 : Bool} {a4 a5 a6 a7 a8 a9 t y p : Int} {s : Str} {at_ : Int} {st : Bool} {K : Int → Int → Str → Int → Int → Int → Int → World → Prop} (hK : ∀ w', Mod F0 w w' → K 0 0 [] 0 0 0 1 w') :
    callK Tryz.prog c_maptask_Run [.leaf (.ptr none), .leaf (.str out), .agg [.int .i64 a0, .int .i64 a1, .sl a2, .bool a3, .int .i64 a4, .int .i64 a5, .int .i64 a6, .int .i64 a7, .int .i64 a8, .int .i64 a9], .leaf (.int .i64 t), .leaf (.int .i64 y), .agg [.int .i64 p, .str s], .leaf (.int .i64 at_), .leaf (.bool st)] w
      (.tup [.agg [.int .i64, .int .i64, .str, .int .i64, .int .i64, .int .i64], .leaf (.int .i64)]) K := by
  refine go_maptask_Run _ _ _ _ _ _ _ _ _ _ _ _ _ _ _ _ _ _ _ _ ?_
  unfold S_maptask_Run
  refine (At.init w F0).alK fun b1 w1 _ h1 _ => h1.alK fun b2 w2 _ h2 _ => h2.alK fun b3 w3 _ h3 _ => h3.alK fun b4 w4 _ h4 _ => h4.alK fun b5 w5 _ h5 _ => h5.alK fun b6 w6 _ h6 _ => h6.alK fun b7 w7 _ h7 _ => ?_
  refine h7.ld 0 (k := .ptr) none rfl rfl ?_
  refine h7.ld 1 (k := .int .i64) a0 rfl rfl (h7.ld 1 (k := .int .i64) a1 rfl rfl (h7.ld 1 (k := .sl) a2 rfl rfl (h7.ld 1 (k := .bool) a3 rfl rfl ?_)))
  refine h7.ld 1 (k := .int .i64) a4 rfl rfl (h7.ld 1 (k := .int .i64) a5 rfl rfl (h7.ld 1 (k := .int .i64) a6 rfl rfl (h7.ld 1 (k := .int .i64) a7 rfl rfl (h7.ld 1 (k := .int .i64) a8 rfl rfl (h7.ld 1 (k := .int .i64) a9 rfl rfl ?_)))))
  refine h7.ld 2 (k := .int .i64) p rfl rfl (h7.ld 2 (k := .str) s rfl rfl (refused_nil fun w8 M8 => ifK_t rfl ?_))
  have h8 := h7.keep0 M8 fun _ => id
  refine h8.st 5 rfl (Nat.le_refl 6) fun w9 h9 _ => ?_
  refine h9.st 6 rfl (Nat.le_refl 1) fun w10 h10 _ => ?_
  refine h10.ld 5 (k := .int .i64) 0 rfl rfl (h10.ld 5 (k := .int .i64) 0 rfl rfl (h10.ld 5 (k := .str) [] rfl rfl (h10.ld 5 (k := .int .i64) 0 rfl rfl (h10.ld 5 (k := .int .i64) 0 rfl rfl (h10.ld 5 (k := .int .i64) 0 rfl rfl ?_)))))
  exact h10.ld 6 (k := .int .i64) 1 rfl rfl (hK _ h10.mod)
theorem none_walk {out : Str} {a0 a1 : Int} {a2 : Sl} {a3 : Bool} {a4 a5 a6 a7 a8 a9 t y p : Int} {s : Str} {at_ : Int} {st : Bool} (ho : out.length ≤ 1099511627776) (ht : TabU w) (hlt : t ≤ 9223372036854775807) (hly : y ≤ 9223372036854775807) {K : Bool → World → Prop} (hK : ∀ w', Mod F0 w w' → K true w') :
    callK Tryz.prog c_winnowlaw17_MapNone [.agg [.str out, .int .i64 a0, .int .i64 a1, .sl a2, .bool a3, .int .i64 a4, .int .i64 a5, .int .i64 a6, .int .i64 a7, .int .i64 a8, .int .i64 a9, .int .i64 t, .int .i64 y, .int .i64 p, .str s, .int .i64 at_, .bool st]] w (.one (.leaf .bool)) K := by
  refine go_winnowlaw17_MapNone _ _ _ _ _ _ _ _ _ _ _ _ _ _ _ _ _ _ _ ?_
  unfold S_winnowlaw17_MapNone
  refine (At.init w F0).alK fun b1 w1 _ h1 _ => ?_
  refine h1.ld 0 (k := .str) out rfl rfl (h1.ld 0 (k := .int .i64) a0 rfl rfl (h1.ld 0 (k := .int .i64) a1 rfl rfl (h1.ld 0 (k := .sl) a2 rfl rfl (h1.ld 0 (k := .bool) a3 rfl rfl ?_))))
  refine h1.ld 0 (k := .int .i64) a4 rfl rfl (h1.ld 0 (k := .int .i64) a5 rfl rfl (h1.ld 0 (k := .int .i64) a6 rfl rfl (h1.ld 0 (k := .int .i64) a7 rfl rfl (h1.ld 0 (k := .int .i64) a8 rfl rfl (h1.ld 0 (k := .int .i64) a9 rfl rfl ?_)))))
  refine h1.ld 0 (k := .int .i64) t rfl rfl (h1.ld 0 (k := .int .i64) y rfl rfl (h1.ld 0 (k := .int .i64) p rfl rfl (h1.ld 0 (k := .str) s rfl rfl (h1.ld 0 (k := .int .i64) at_ rfl rfl (h1.ld 0 (k := .bool) st rfl rfl ?_)))))
  refine run_nil fun w2 M2 => ?_
  have h2 := h1.keep0 M2 fun _ => id
  refine h2.alK fun b3 w3 _ h3 _ => ?_
  refine h3.st 1 rfl (Nat.le_refl 6) fun w4 h4 _ => ?_
  refine join1 (a := .bool) (fun b w' => b = true ∧ Mod F0 w w') (fun kk hk => ?_) fun b w' h => by obtain ⟨rfl, h⟩ := h; exact hK _ h
  refine ⟨F0, ?_⟩
  have h5 := h4.drew
  refine h5.ldD 1 (k := .int .i64) 0 rfl rfl id (h5.ldD 1 (k := .int .i64) 0 rfl rfl id (h5.ldD 1 (k := .str) [] rfl rfl id (h5.ldD 1 (k := .int .i64) 0 rfl rfl id (h5.ldD 1 (k := .int .i64) 0 rfl rfl id (h5.ldD 1 (k := .int .i64) 0 rfl rfl id ?_)))))
  refine eqlK (d := 3) (ks := [.int .i64, .int .i64, .str, .int .i64, .int .i64, .int .i64]) (xs := [.int .i64 0, .int .i64 0, .str [], .int .i64 0, .int .i64 0, .int .i64 0]) (ys := [.int .i64 0, .int .i64 0, .str [], .int .i64 0, .int .i64 0, .int .i64 0]) (by kernel_rfl) (by decide) (by kernel_rfl) (by kernel_rfl) rfl rfl rfl rfl ⟨Mod.refl _ _, ifK_t rfl (ifK_t rfl ?_)⟩
  refine h5.ldD 0 (k := .str) out rfl rfl id (h5.ldD 0 (k := .int .i64) t rfl rfl id (h5.ldD 0 (k := .int .i64) y rfl rfl id (h5.ldD 0 (k := .str) out rfl rfl id (h5.ldD 0 (k := .int .i64) t rfl rfl id (h5.ldD 0 (k := .int .i64) y rfl rfl id ?_)))))
  refine name_ok ho hlt hly (ht.keep h5.mod) fun w6 M6 => ⟨M6, refname_ok ho hlt hly ⟨M6, hk _ _ ⟨?_, mod0 h5.mod M6⟩⟩⟩
  simp
end Go.Proofs.YtjefbjfifjjpmaeGreatDoor
