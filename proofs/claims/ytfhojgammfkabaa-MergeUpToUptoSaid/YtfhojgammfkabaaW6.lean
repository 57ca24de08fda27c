/- The typed reading is sound, fifth part: what an operation does to the world. -/
import Derived.Test.YtfhojgammfkabaaW5
namespace Go.Vw
variable {P : Program}

theorem nextcap_le (need cap : Nat) (h : cap < need) : Builtin.nextslicecap need cap ≤ 2 * need + 768 := by
  unfold Builtin.nextslicecap
  split
  · omega
  · split
    · omega
    · have key : ∀ (r c : Nat), c ≤ 2 * need + 768 → Builtin.growBy need r c ≤ 2 * need + 768 := by
        intro r
        induction r with
        | zero => intro c hc; simpa [Builtin.growBy] using hc
        | succ r ih =>
          intro c hc
          simp only [Builtin.growBy]
          split
          · exact hc
          · exact ih _ (by omega)
      exact key 4 cap (by omega)

theorem toV_sl0 (b n c : Nat) : (TV.one (AV.leaf (LV.sl ⟨some (b, 0), n, c⟩))).toV = .slice (some ⟨b, 0, none⟩) n c := by
  simp only [TV.toV, AV.toV, LV.toV, slA_zero]
theorem append_sound {ts : Array TypeId} {ty el : TypeId} {t t2 : TypeId} {e2 : TypeId} {i : TypeInfo} {zs : List LV} {s x : Sl} {w : World} {K : Sl → World → Prop}
    (hts : ts.toList = [t, t2]) (hu : P.underlying t = some (.slice el)) (hu2 : P.underlying t2 = some (.slice e2)) (hi : P.info? el = some i) (hz : zeroT P el = some zs) (hzl : zs.length = i.size)
    (h : ap w el i.size i.bytes zs s x K) :
    ∃ s' w', K s' w' ∧ (Builtin.append_ ts ty #[LV.toV (.sl s), LV.toV (.sl x)]).run P w = .ok (LV.toV (.sl s')) w' := by
  obtain ⟨new, hnew, hcell, hroom, hnil, hgrow⟩ := h
  obtain ⟨i', zv, hi', hzv, hzc⟩ := zeroT_spec hz
  rw [hi] at hi'; cases hi'
  obtain ⟨p, n, c⟩ := s
  obtain ⟨q, m, d⟩ := x
  simp only at hnew hroom hnil hgrow
  have h0 : ts[0]? = some t := by rw [← Array.getElem?_toList, hts]; rfl
  have h1 : ts[1]? = some t2 := by rw [← Array.getElem?_toList, hts]; rfl
  have hsz : (sizeOf el).run P w = .ok i.size w := by simp [sizeOf, typeInfo, hi]
  have hin : ∀ w, (typeInfo el).run P w = .ok i w := fun w => by simp [typeInfo, hi]
  have hfn : (Builtin.firstCells i.size m (.slice (slA d q) m d)).run P w = .ok new.toArray w := firstRow (s := ⟨q, m, d⟩) hnew
  by_cases hle : n + m ≤ c
  · by_cases hz0 : n + m = 0
    · have hm0 : m = 0 := by omega
      have hn0 : n = 0 := by omega
      subst hm0; subst hn0
      have hnn : new = [] := by have := hnew.1; simp at this; exact this
      subst hnn
      refine ⟨_, _, hnil rfl, ?_⟩
      simp only [LV.toV]
      generalize slA d q = Q at hfn ⊢
      cases p with
      | none => simp [Builtin.append_, h0, h1, run_underlying hu, run_underlying hu2, hsz, Builtin.lenOf, hfn, slA]
      | some a => obtain ⟨b, o⟩ := a; simp [Builtin.append_, h0, h1, run_underlying hu, run_underlying hu2, hsz, Builtin.lenOf, hfn, slA, storeCells]
    · obtain ⟨b, o, hp, hok, hK⟩ := hroom hle hz0
      subst hp
      refine ⟨_, _, hK, ?_⟩
      have hst := storeRow (P := P) new w b (o + n * i.size) 0 hcell (by rw [hnew.1]; simpa using hok)
      rw [Nat.add_zero] at hst
      simp only [LV.toV]
      generalize slA d q = Q at hfn ⊢
      simp [Builtin.append_, h0, h1, run_underlying hu, run_underlying hu2, hsz, Builtin.lenOf, hfn, slA, show c ≠ 0 by omega, hle, Addr.add_none, hst]
  · obtain ⟨hbd, old, hold, hK⟩ := hgrow (by omega)
    have hcap := nextcap_le (n + m) c (by omega)
    have hb : Builtin.nextslicecap (n + m) c * i.bytes ≤ 2 ^ 48 := by
      have h1 : Builtin.nextslicecap (n + m) c * i.bytes ≤ (2 * (n + m) + 768) * i.bytes := Nat.mul_le_mul_right _ hcap
      have h2 : (2 * (n + m) + 768) * i.bytes ≤ 2 * ((n + m + 1024) * (i.bytes + 1)) := by
        have h3 : (2 * (n + m) + 768) * i.bytes ≤ (2 * (n + m + 1024)) * (i.bytes + 1) := Nat.mul_le_mul (by clear hbd; omega) (by clear hbd; omega)
        rw [Nat.mul_assoc] at h3; exact h3
      have h46 : (2 : Nat) ^ 46 = 70368744177664 := by decide
      have h48 : (2 : Nat) ^ 48 = 281474976710656 := by decide
      rw [h46] at hbd; rw [h48]
      omega
    have hbig : ¬ (((n + m : Nat) : Int) > IntKind.i64.max ∧ i.bytes = 0) := by
      rintro ⟨hg, _⟩
      have : IntKind.i64.max = 9223372036854775807 := by decide
      rw [this] at hg
      have h3 : n + m + 1024 ≤ (n + m + 1024) * (i.bytes + 1) := Nat.le_mul_of_pos_right _ (by omega)
      have h46 : (2 : Nat) ^ 46 = 70368744177664 := by decide
      rw [h46] at hbd
      omega
    have hof : (Builtin.firstCells i.size n (.slice (slA c p) n c)).run P w.drew = .ok old.toArray w.drew := firstRow (s := ⟨p, n, c⟩) (by exact hold)
    have hnf : (Builtin.firstCells i.size m (.slice (slA d q) m d)).run P w.drew = .ok new.toArray w.drew := firstRow (s := ⟨q, m, d⟩) (by exact hnew)
    have hzr : (zeroValue el).run P w.drew = .ok zv w.drew := by simp [zeroValue, typeInfo, hi, hzv]
    have hzc' : ∀ k, Builtin.zeroCells zv.cells k = ((List.replicate k (zs.map LV.toV)).flatten).toArray := fun k => by
      unfold Builtin.zeroCells; rw [zero_flat, hzc]
    have hcut : ∀ t : Nat, n + m ≤ Question.cut (.appendCap (n + m) c el) t := fun t => by simp [Question.cut]
    refine ⟨_, _, hK _ (hcut (w.tape w.drawn (.appendCap (n + m) c el))), ?_⟩
    have hif1 : ¬ (Builtin.nextslicecap (n + m) c * i.bytes > 2 ^ 48) := Nat.not_lt.2 hb
    have hdr : (choose (.appendCap (n + m) c el)).run P w = .ok (Question.cut (.appendCap (n + m) c el) (w.tape w.drawn (.appendCap (n + m) c el))) w.drew := by
      simp only [run_choose, Question.forced, Bool.false_eq_true, if_false]; rfl
    generalize Question.cut (.appendCap (n + m) c el) (w.tape w.drawn (.appendCap (n + m) c el)) = cap at *
    have hcond : ¬ ((((n + m : Nat) : Int) > IntKind.i64.max) ∧ (False ∨ i.bytes = 0)) := by
      rintro ⟨a, b⟩
      rcases b with b | b
      · cases b
      · exact hbig ⟨a, b⟩
    have hpa : LV.toV (.sl ⟨some (w.heap.size, 0), n + m, cap⟩) = .slice (some ⟨w.heap.size, 0, none⟩) (n + m) cap := by simp only [LV.toV]; rw [slA_zero]
    rw [hpa]
    simp only [LV.toV]
    generalize slA c p = Pp at hof ⊢
    generalize slA d q = Qq at hnf hfn ⊢
    unfold Builtin.append_
    simp only [h0, h1, List.getElem?_toArray, List.getElem?_cons_zero, List.getElem?_cons_succ, Sem.run_bind, run_underlying hu, run_underlying hu2, Result.andThen_ok, LV.toV, hsz, Sem.run_pure, Builtin.lenOf, Bool.false_eq_true, if_false, if_neg hle, hin, hif1]
    simp only [Bool.not_false, if_true, Sem.run_bind, Sem.run_ite, Sem.run_pure, hin, Result.andThen_ok, if_neg hif1, hdr, run_askRoom, hof, hnf, hzr, hzc']
    rw [if_neg hcond]
    simp only [Result.andThen_ok, newRow, Sem.run_bind, run_newObj, Sem.run_pure, hdr, run_askRoom, hof, hnf, hzr, hzc', hin, if_neg hif1, Sem.run_ite]
    have hE : ∀ a b c : List Value, a.toArray ++ b.toArray ++ c.toArray = (a ++ b ++ c).toArray := fun a b c => by simp
    rw [hE]
    rfl

theorem isCell_of_leaves (v : AV) (h : ∀ x ∈ valsOf v.leaves, isCell x = true) : ∀ y ∈ v.leaves.map LV.toV, isCell y = true := by
  intro y hy
  obtain ⟨x, hx, rfl⟩ := List.mem_map.1 hy
  have key : ∀ l : List LV, x ∈ l → (∀ z ∈ valsOf l, isCell z = true) → isCell x.toV = true := by
    intro l
    induction l with
    | nil => intro h; cases h
    | cons a l ih =>
      intro hm hv
      rcases List.mem_cons.1 hm with rfl | hm
      · cases x <;> first | rfl | (exact hv _ (by simp [valsOf, LV.toV]))
      · exact ih hm fun z hz => hv z (by cases a <;> simp_all [valsOf])
  exact key _ hx h

theorem ndef {dst : Option Tmp} {op : Op} {ty : TypeId} {pos : String} {af : Array Edge} {g : Option (Nat × Bool)} (h : ∀ c, op ≠ .defer c) : ∀ c, (⟨dst, op, ty, pos, af, g⟩ : Oper).op ≠ .defer c := h

theorem run_callv {ρ : Operand → Value} {dst : Option Tmp} {g : Operand} {args : Array Operand} {ts : Array TypeId} {ty : TypeId} {pos : String} {af : Array Edge} {gd : Option (Nat × Bool)} {f : FuncId} {a c : Array Value}
    (hg : ρ g = .func (.func f) a c) (hf : callable P f = true) (w : World) :
    (execOp ρ ⟨dst, .call ⟨.value g, args, ts⟩, ty, pos, af, gd⟩).run P w = .ok (.enter f (a ++ args.map ρ ++ c)) w := by
  simp only [execOp, resolve, Deferred.ofValue, hg]
  simp [invoke, run_callFunc hf]

theorem RT_tup_nil (l : List LV) : ((RT.tup []).mk l).toV = undef := by cases l <;> rfl

theorem fbW_sound {e : Env} {a : Act} (hs : Sim e a) {r : Option Nat} {o : Oper} {w : World} {k : TV → World → Prop} {p : Prop} (hd : ∀ c, o.op ≠ .defer c) (hsel : ∀ cs b, o.op ≠ .select cs b) (h : fbW P e o w k = some p) (hp : p)
    {next : Act → World → Prop} {Q : Exit → Act → World → Prop} (hn : ∀ t w', k t w' → next (a.put o.dst t.toV) w') : o.wpIn (FW r) 0 P a w next Q := by
  unfold fbW at h
  split at h
  · rename_i hall
    have he : execOp (evE e) o = execOp a.eval o := execOp_congr o hsel fun x hx => by
      have := List.all_eq_true.1 hall x (by simpa using hx)
      obtain ⟨t, ht⟩ := Option.isSome_iff_exists.1 this
      rw [rd_sound hs ht]; simp [evE, ht]
    have fin : ∀ rt : RT, opF P (execOp (evE e) o) w rt (lam rt.kds fun l w' => k (rt.mk l) w') → o.wpIn (FW r) 0 P a w next Q := by
      rintro rt ⟨l, w', hr, hk⟩
      rw [he] at hr
      obtain ⟨l', hk', hl, _⟩ := app_noW hk
      refine wpIn_value hd hr ?_
      rw [← RT.mk_congr _ hl]
      exact hn _ _ hk'
    split at h
    · cases h; exact fin _ hp
    · cases h
      obtain ⟨w', hr, hk⟩ := hp
      rw [he] at hr
      exact wpIn_skipv hd hr (hn _ _ hk)
    · cases h; exact fin _ hp
    · cases h
  · cases h

theorem rdL_func {e : Env} {a : Act} (hs : Sim e a) {x : Operand} {v : Value} (h : rdL e x = some (.val v)) : a.eval x = v := rdL_sound hs h

theorem callV_sound {v : Value} {args : List AV} {w : World} {rt : RT} {K : Fn rt.kds (World → Prop)} (hp : callV P v args w rt K) {r : Option Nat} {a : Act} {dst : Option Tmp} {g : Operand} {as_ : Array Operand} {ts : Array TypeId} {ty : TypeId} {pos : String} {af : Array Edge} {gd : Option (Nat × Bool)}
    (hg : a.eval g = v) (ha : as_.map a.eval = (args.map AV.toV).toArray) {next : Act → World → Prop} {Q : Exit → Act → World → Prop} (hn : ∀ l w', app noW rt.kds K l w' → next (a.put dst (rt.mk l).toV) w') :
    (⟨dst, .call ⟨.value g, as_, ts⟩, ty, pos, af, gd⟩ : Oper).wpIn (FW r) 0 P a w next Q := by
  rcases hp with ⟨f, x, c, rfl, hf, hc⟩ | ⟨l, x, c, rfl, rfl, hc⟩
  · refine wpIn_enter (fun _ h => by cases h) (run_callv hg hf w) (by rw [ha]; exact hc) ?_
    rintro e' w'' ⟨l, rfl, hk⟩
    exact ⟨_, rfl, hn _ _ hk⟩
  · obtain ⟨fn, tmps, assign, body, hy, hr⟩ := hc
    have hrun : (execOp a.eval ⟨dst, .call ⟨.value g, as_, ts⟩, ty, pos, af, gd⟩).run P w = .ok (.round l fn tmps assign body) w := by
      simp only [execOp, resolve, Deferred.ofValue, hg]
      simpa [invoke, ha] using hy
    refine wpIn_round (fun _ h => by cases h) hrun hr ?_
    rintro e' w'' ⟨l, rfl, hk⟩
    exact ⟨_, rfl, hn _ _ hk⟩

theorem run_alloc {w : World} {el : TypeId} {zs : List LV} (h : zeroT P el = some zs) : (Instr.alloc el true (.tuple #[])).run P w = .ok (.pointer (some ⟨w.heap.size, 0, none⟩)) (w.alloc (.cells (zs.map LV.toV).toArray el)) := by
  obtain ⟨i, v, hi, hz, hc⟩ := zeroT_spec h
  simp [Instr.alloc, zeroValue, typeInfo, hi, hz, newVar, newRow, hc]

/-- **what an operation does to the world** -/
theorem ef1_sound {cs : List Nat} (hcs : ∀ f, cs.contains f = true → callable P f = true) {e : Env} {a : Act} (hs : Sim e a) {r : Option Nat} {o : Oper} {w : World} {k : TV → World → Prop} {p : Prop} (h : ef1 P cs e o w k = some p) (hp : p)
    {next : Act → World → Prop} {Q : Exit → Act → World → Prop} (hn : ∀ t w', k t w' → next (a.put o.dst t.toV) w') : o.wpIn (FW r) 0 P a w next Q := by
  obtain ⟨dst, op, ty, pos, after, guard⟩ := o
  have hn' : ∀ t w', k t w' → next (a.put dst t.toV) w' := hn
  cases op with
  | alloc el =>
    simp only [ef1] at h
    obtain ⟨zs, hz, rfl⟩ := Option.map_eq_some_iff.1 h
    refine wpIn_value (fun _ h => by cases h) (vok rfl (run_alloc hz)) (hn' _ _ hp)
  | box el x =>
    simp only [ef1] at h
    split at h
    · rename_i v n hx hsz
      split at h
      · cases h
        obtain ⟨hv, hk⟩ := okVals_iff.1 hp
        refine wpIn_value (fun _ h => by cases h) (vok rfl ?_) (hn' _ _ hk)
        rw [rdA_sound hs hx]
        have hbx : (Instr.box el v.toV).run P w = .ok (.pointer (some ⟨w.heap.size, 0, none⟩)) (w.alloc (.cells (v.leaves.map LV.toV).toArray el)) := by
          simp [Instr.box, newVar, newRow, leaves_cells v hv]
        exact hbx
      · cases h
    · cases h
  | store t x y =>
    simp only [ef1] at h
    split at h
    · rename_i b o' v n hx hy hsz
      split at h
      · rename_i hl; cases h
        obtain ⟨hv, hok, hk⟩ := okVals_iff.1 hp
        refine wpIn_skipv (w' := World.setCells w b o' (v.leaves.map LV.toV)) (fun _ h => by cases h) ?_ (hn' _ _ hk)
        have hc := leaves_cells v hv
        have hst := storeRow (P := P) (v.leaves.map LV.toV) w b o' 0 (isCell_of_leaves v hv) (by simpa using hok)
        rw [Nat.add_zero] at hst
        simp only [execOp, rdL_sound hs hx, rdA_sound hs hy]
        simp [LV.toV, paV, Instr.storeAt, Instr.sureAddr, storeVar, run_sizeOf hsz, hc, hl, hst]
      · cases h
    · cases h
  | buildSlice t n parts =>
    simp only [ef1] at h
    split at h
    · rename_i el hu
      split at h
      · rename_i sz zs hsz hz
        split at h
        · rename_i hzl
          split at h
          · rename_i hle
            obtain ⟨l, hl, rfl⟩ := Option.map_eq_some_iff.1 h
            obtain ⟨hv, hk⟩ := okVals_iff.1 hp
            obtain ⟨i, zv, hi, hzv, hzc⟩ := zeroT_spec hz
            refine wpIn_value (w' := w.alloc (.cells (l.map LV.toV).toArray el)) (v := .slice (some ⟨w.heap.size, 0, none⟩) n n) (fun _ h => by cases h) (vok rfl ?_) (by have h9 := hn' _ _ hk; rw [toV_sl0] at h9; exact h9)
            have hf := layAll_fill hs (fun i => some (i * sz, sz)) parts.toList _ l hl hv
            have hlim : ¬ n * sz > 2 ^ 24 := by
              have : (2 : Nat) ^ 24 = 16777216 := by decide
              omega
            have hzz : (zeroValue el).run P w = .ok zv w := by simp [zeroValue, typeInfo, hi, hzv]
            have hzs : zv.cells.size = sz := by rw [hzc]; simp [hzl]
            have hrow : (Array.range (n * sz)).map (fun i => zv.cells[i % zv.cells.size]!) = ((List.replicate n zs).flatten.map LV.toV).toArray := by
              have := zero_flat zv.cells n
              rw [hzs] at this
              rw [hzs, this, hzc]
              simp [List.map_flatten]
            have hpz : (parts.map fun (i, x) => (i, a.eval x)).toList = parts.toList.map fun (i, x) => (i, a.eval x) := by simp
            unfold Instr.buildSlice
            simp only [Sem.run_bind, run_underlying hu, Result.andThen_ok, run_sizeOf hsz, hpz]
            by_cases h0 : n * sz = 0
            · have hr0 : (Array.range (n * sz)).map (fun i => (#[] : Array Value)[i % (#[] : Array Value).size]!) = ((List.replicate n zs).flatten.map LV.toV).toArray := by
                have : (List.replicate n zs).flatten.map LV.toV = [] := by
                  apply List.eq_nil_of_length_eq_zero
                  simp [hzl, h0]
                rw [this, h0]; simp
              simp only [Sem.run_ite, if_neg hlim, h0, if_true, Sem.run_pure, Result.andThen_ok, Sem.run_bind]
              rw [h0] at hr0
              simp only [hr0]
              rw [hf]
              simp [newRow]
            · simp only [Sem.run_ite, if_neg hlim, if_neg h0, Sem.run_pure, Result.andThen_ok, Sem.run_bind, hzz, hrow]
              rw [hf]
              simp [newRow]
          · cases h
        · cases h
      · cases h
    · cases h
  | makeSlice t n c =>
    simp only [ef1] at h
    split at h
    · rename_i el k1 n' k2 c' hu hx hy
      split at h
      · rename_i i zs hi hz
        split at h
        · rename_i hzl; cases h
          obtain ⟨h0, h1, h2, h3, hk⟩ := hp
          obtain ⟨i', zv, hi', hzv, hzc⟩ := zeroT_spec hz
          rw [hi] at hi'; cases hi'
          refine wpIn_value (w' := w.alloc (.cells (List.replicate c'.toNat (zs.map LV.toV)).flatten.toArray el)) (v := .slice (some ⟨w.heap.size, 0, none⟩) n'.toNat c'.toNat) (fun _ h => by cases h) (vok rfl ?_) (by have h9 := hn' _ _ hk; rw [toV_sl0] at h9; exact h9)
          rw [rdL_sound hs hx, rdL_sound hs hy]
          have hzz : (zeroValue el).run P w = .ok zv w := by simp [zeroValue, typeInfo, hi, hzv]
          have hzs : zv.cells.size = i.size := by rw [hzc]; simp [hzl]
          have hw1 := i64_small h0 (Int.lt_of_le_of_lt h1 h2)
          have hw2 := i64_small (Int.le_trans h0 h1) h2
          have h47 : (2 : Int) ^ 47 = 140737488355328 := by decide
          have h48 : (2 : Int) ^ 48 = 281474976710656 := by decide
          have ht : (decide (c' < 0) || decide ((i.bytes : Int) * c' > 2 ^ 48)) = false := by
            rw [h47] at h3; rw [h48]
            simp; omega
          have hrow : (Array.range (c'.toNat * i.size)).map (fun i => zv.cells[i % zv.cells.size]!) = ((List.replicate c'.toNat (zs.map LV.toV)).flatten).toArray := by
            have := zero_flat zv.cells c'.toNat
            rw [hzs] at this
            rw [hzs, this, hzc]
          have hin : (typeInfo el).run P w = .ok i w := by simp [typeInfo, hi]
          unfold Instr.makeSlice
          simp only [LV.toV, Sem.run_bind, run_underlying hu, Result.andThen_ok, asInt, asIntOf, Sem.run_pure, hin, hw1, hw2]
          rw [if_neg (by rw [ht]; simp; omega)]
          simp only [Sem.run_bind, run_askRoom, Result.andThen_ok, sizeOf, hin, Sem.run_pure]
          by_cases h0' : c'.toNat * i.size = 0
          · have hflat : (List.replicate c'.toNat (zs.map LV.toV)).flatten = [] := by
              apply List.eq_nil_of_length_eq_zero
              simp [hzl, h0']
            rw [h0', hflat]
            have hr0 : Array.range 0 = (#[] : Array Nat) := by decide
            simp [newRow, hr0]
          · simp only [Sem.run_ite, if_neg h0', Sem.run_pure, Sem.run_bind, Result.andThen_ok, hzz, hrow]
            simp [newRow]
        · cases h
      · cases h
    · cases h
  | call c =>
    obtain ⟨callee, args, ts⟩ := c
    cases callee with
    | invoke rcv m => simp [ef1, isBuiltin] at h
    | value g =>
      cases g with
      | func f =>
        simp only [ef1] at h
        split at h
        · rename_i l rt hl hrt
          split at h
          · rename_i hc; cases h
            refine wpIn_enter (fun _ h => by cases h) (run_callv (ρ := a.eval) (a := #[]) (c := #[]) rfl (hcs f hc) w) (by simpa [rdAs_array hs hl, callK] using hp) ?_
            rintro e' w'' ⟨l', rfl, hk⟩
            obtain ⟨l'', hk', hl', _⟩ := app_noW hk
            refine ⟨_, rfl, ?_⟩
            rw [← RT.mk_congr _ hl']
            exact hn' _ _ hk'
          · cases h
        · cases h
      | _ =>
        simp only [ef1] at h
        split at h
        · rename_i v l rt hg hl hrt; cases h
          refine callV_sound hp (rdL_func hs hg) (rdAs_array hs hl) fun l' w' hk => ?_
          obtain ⟨l'', hk', hl', _⟩ := app_noW hk
          rw [← RT.mk_congr _ hl']
          exact hn' _ _ hk'
        · cases h
    | builtin b =>
      by_cases hb : b = .append
      · subst hb
        simp only [ef1] at h
        split at h
        · rename_i l hl
          unfold appE at h
          split at h
          · rename_i s x t t2 hts
            split at h
            · rename_i el e2 hu hu2
              split at h
              · rename_i i zs hi hz
                split at h
                · rename_i hzl; cases h
                  obtain ⟨s', w', hk, hr⟩ := append_sound (ty := ty) hts hu hu2 hi hz hzl hp
                  refine wpIn_value (fun _ h => by cases h) ?_ (hn' _ _ hk)
                  rw [execOp_call rfl]
                  simp only [rdAs_array hs hl]
                  simp only [builtin, List.map_cons, List.map_nil, AV.toV]
                  simp [hr, TV.toV, AV.toV]
                · cases h
              · cases h
            · cases h
          · cases h
        · cases h
      · have : fbW P e ⟨dst, .call ⟨.builtin b, args, ts⟩, ty, pos, after, guard⟩ w k = some p := by
          cases b <;> first | exact absurd rfl hb | exact h
        exact fbW_sound hs (fun _ h => by cases h) (fun _ _ h => by cases h) this hp hn
  | go c => simp [ef1] at h
  | defer c => simp [ef1] at h
  | select c b => simp [ef1] at h
  | _ => exact fbW_sound hs (fun _ h => by cases h) (fun _ _ h => by cases h) h hp hn
end Go.Vw
