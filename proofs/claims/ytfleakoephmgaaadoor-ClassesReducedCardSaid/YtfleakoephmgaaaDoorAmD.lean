/- The abstract machine's operations that leave memory alone say what Go's say. Conditions: none. -/
import Derived.Test.YtfleakoephmgaaaDoorAmB
import Derived.Laws.StructEq
set_option linter.unusedSimpArgs false
set_option linter.unusedVariables false
namespace Go.Am

section ops
variable {G : Glob} {P : Program} {ρ : Rho} {w : World} {n : Nat} {e : Env} {a : Act}

theorem cO_sound (hE : EnvR G ρ w n e a.tmps) {x : Operand} {o : Opd} (h : cO G x = some o) : V ρ w n (o.ev e) (a.eval x) := by
  cases x with
  | tmp t => cases h; exact hE.1 t
  | const v =>
    simp only [cO, Option.map_eq_some_iff] at h
    obtain ⟨c, hc, rfl⟩ := h
    unfold ofC at hc
    split at hc
    · rename_i vs
      simp only [Option.map_eq_some_iff] at hc
      obtain ⟨cs, hcs, rfl⟩ := hc
      have := V.agg (ρ := ρ) (w := w) (n := n) cs vs.toList (Vs.ofVs hcs)
      rw [Array.toArray_toList] at this
      exact this
    · exact V.ofV hc
  | global g =>
    simp only [cO, Option.map_eq_some_iff] at h
    obtain ⟨cs, hc, rfl⟩ := h
    exact hE.2 g cs hc
  | func f => cases h; exact .func f [] [] .nil

theorem cOs_sound (hE : EnvR G ρ w n e a.tmps) : ∀ {xs : List Operand} {os : List Opd}, cOs G xs = some os → Vs ρ w n (os.map (Opd.ev e)) (xs.map a.eval)
  | [], _, h => by cases h; exact .nil
  | x :: xs, os, h => by
    simp only [cOs] at h
    split at h
    · rename_i o os' h1 h2
      cases h
      exact .cons _ _ _ _ (cO_sound hE h1) (cOs_sound hE h2)
    · cases h

theorem binA_sound {op : BinOp} {va vb v : AV} {x y : Value} (h : binA op va vb = some v) (hx : V ρ w n va x) (hy : V ρ w n vb y) (t : TypeId) (ox oy : Operand) :
    ∃ v', (do eqGuard op t ox oy x y; binOp op t x y : Sem Value).run P w = .ok v' w ∧ V ρ w n v v' := by
  unfold binA at h
  split at h <;> (try (cases hx; cases hy))
  all_goals first
    | (cases h; first | refine ⟨_, ?_, .bool _⟩ | refine ⟨_, ?_, .str _⟩
       all_goals simp [go_sem, binOp, Op.stringOp])
    | (split at h
       · rename_i hc
         cases h
         first
           | (obtain ⟨hk, hb⟩ := hc; subst hk; refine ⟨_, ?_, .int _ _⟩; simp [go_sem, Op.intDiv, hb])
           | (subst hc; first | refine ⟨_, ?_, .int _ _⟩ | refine ⟨_, ?_, .bool _⟩
              all_goals simp [go_sem, Op.intArith])
           | (refine ⟨_, ?_, .str _⟩; simp only [eqGuard_add, binOp, Op.stringOp]; rw [if_neg (by omega)]; rfl)
       · cases h)
    | cases h

theorem rd_sound {s : St} (hS : Sim ρ s w) {k : Nat} {va : AV} {cs : List AV} {x : Value} (h : rdCells s k va = some cs) (hV : V ρ w s.size va x) :
    ∃ b o vs, x = .pointer (some ⟨b, o, none⟩) ∧ cs.length = k ∧ Vs ρ w s.size cs vs ∧ ∀ j u, vs[j]? = some u → w.cell? ⟨b, o + j, none⟩ = some u := by
  unfold rdCells at h
  split at h
  · rename_i i off
    split at h
    · rename_i cs0 hob
      split at h
      · rename_i hlen
        cases h
        cases hV
        rename_i hp hin
        obtain ⟨hi, hl, vs, rest, ty, hh, hvs, ht⟩ := hS.cells i cs0 hob ‹_›
        have hle := hvs.length
        refine ⟨_, _, (vs.drop off).take k, rfl, by simp; omega, (hvs.drop off).take k, ?_⟩
        intro j u hj
        rw [List.getElem?_take] at hj
        split at hj
        · rw [List.getElem?_drop] at hj
          have hlt := (List.getElem?_eq_some_iff.1 hj).1
          simp only [World.cell?, hh]
          simp [List.getElem?_append_left hlt, hj]
        · cases hj
      · cases h
    · rename_i cs0 hob
      split at h
      · rename_i hlen
        cases h
        cases hV
        obtain ⟨hi, hl, vs, hvs, ha⟩ := hS.froz i cs0 hob
        have hle := hvs.length
        refine ⟨_, _, (vs.drop off).take k, rfl, by simp; omega, (hvs.drop off).take k, ?_⟩
        intro j u hj
        rw [List.getElem?_take] at hj
        split at hj
        · rw [List.getElem?_drop] at hj
          have := (ha (off + j) u hj).2
          rwa [Nat.zero_add] at this
        · cases hj
      · cases h
    · cases h
  · split at h
    · rename_i hlen
      cases h
      cases hV
      rename_i vs b o ha hvs
      exact ⟨b, o, vs.take k, rfl, by simp; omega, hvs.take k, fun j u hj => (ha.take k j u hj).2⟩
    · cases h
  · cases h

theorem isAgg_run {t : TypeId} {g : Bool} (h : aggOf P t = some g) (w : World) : (isAgg t).run P w = .ok g w := by
  unfold aggOf at h
  unfold isAgg
  split at h <;> first | (cases h; simp [run_underlying ‹_›]) | cases h
  all_goals (split <;> simp_all)

theorem info_run {t : TypeId} {i : TypeInfo} (h : P.info? t = some i) (w : World) : (typeInfo t).run P w = .ok i w := by
  simp [typeInfo, program, Sem.run, h]

theorem sizeOf_run {t : TypeId} {i : TypeInfo} (h : P.info? t = some i) (w : World) : (sizeOf t).run P w = .ok i.size w := by
  simp [Go.sizeOf, info_run h]

theorem load_sound {s : St} (hS : Sim ρ s w) {t : TypeId} {g : Bool} {i : TypeInfo} (hg : aggOf P t = some g) (hi : P.info? t = some i) {va v : AV} {x : Value}
    (h : loadA s g (if g then i.size else 1) va = some v) (hV : V ρ w s.size va x) : ∃ v', (Instr.loadAt t x).run P w = .ok v' w ∧ V ρ w s.size v v' := by
  unfold loadA at h
  split at h
  · rename_i cs hcs
    obtain ⟨b, o, vs, rfl, hlen, hvs, hc⟩ := rd_sound hS hcs hV
    have hl := hvs.length
    cases g with
    | true =>
      simp at h hlen
      subst h
      refine ⟨.agg vs.toArray, ?_, .agg _ _ hvs.strip⟩
      have hr := run_loadCells_list (P := P) (w := w) ⟨b, o, none⟩ vs (by intro j u hj; rw [Addr.add_lit]; exact hc j u hj)
      rw [hl, hlen] at hr
      simp [Instr.loadAt, Instr.sureAddr, loadVar, isAgg_run hg, sizeOf_run hi, hr]
    | false =>
      simp at h
      split at h
      · cases h
        match vs, hvs, hc with
        | [u], .cons _ _ _ _ hu _, hc =>
          refine ⟨u, ?_, hu⟩
          have := hc 0 u rfl
          simp only [Nat.add_zero] at this
          simp [Instr.loadAt, Instr.sureAddr, loadVar, isAgg_run hg, this]
      · cases h
  · cases h

theorem bound_run {y k : Nat} {va : AV} {x : Value} (h : natOf y va = some k) (hV : V ρ w n va x) (z : Nat) (hz : y ≤ z) (c : BoundsCode) :
    (Instr.sliceBound x z c).run P w = .ok k w ∧ k ≤ y := by
  unfold natOf at h
  split at h
  · split at h
    · rename_i hc
      cases h
      cases hV
      refine ⟨?_, by omega⟩
      rename_i m
      have hc2 : 0 ≤ m ∧ m ≤ (z : Int) := ⟨hc.1, Int.le_trans hc.2 (by omega)⟩
      simp [Instr.sliceBound, asIntOf, hc2]
    · cases h
  · cases h

/-- The bounds of a slice expression. -/
theorem bounds_run {isS : Bool} {len cap m h l : Nat} {lo hi mx : Option AV} {xlo xhi xmx : Option Value} (hlc : len ≤ cap)
    (hm : optOf len len mx = some m) (hh : optOf m len hi = some h) (hl : optOf h 0 lo = some l)
    (vlo : ∀ v, lo = some v → ∃ x, xlo = some x ∧ V ρ w n v x) (nlo : lo = none → xlo = none)
    (vhi : ∀ v, hi = some v → ∃ x, xhi = some x ∧ V ρ w n v x) (nhi : hi = none → xhi = none)
    (vmx : ∀ v, mx = some v → ∃ x, xmx = some x ∧ V ρ w n v x) (nmx : mx = none → xmx = none) (hmh : mx.isSome = true → hi.isSome = true) :
    (Instr.sliceBounds isS len cap xlo xhi xmx).run P w = .ok (l, h, if mx.isSome then m else cap) w ∧ l ≤ h ∧ h ≤ len ∧ (mx.isSome = true → h ≤ m) ∧ m ≤ len := by
  cases mx with
  | none =>
    rw [nmx rfl]
    simp only [optOf] at hm
    cases hm
    cases hi with
    | none =>
      rw [nhi rfl]
      simp only [optOf] at hh
      cases hh
      cases lo with
      | none => rw [nlo rfl]; simp only [optOf] at hl; cases hl; simp [Instr.sliceBounds]
      | some v =>
        obtain ⟨x, rfl, hv⟩ := vlo v rfl
        simp only [optOf] at hl
        obtain ⟨hr, hle⟩ := bound_run (P := P) hl hv len (Nat.le_refl _) .sliceB
        simp [Instr.sliceBounds, hr, hle]
    | some u =>
      obtain ⟨y, rfl, hu⟩ := vhi u rfl
      simp only [optOf] at hh
      obtain ⟨hr, hle⟩ := bound_run (P := P) hh hu cap hlc (if isS then .sliceAcap else .sliceAlen)
      cases lo with
      | none => rw [nlo rfl]; simp only [optOf] at hl; cases hl; simp [Instr.sliceBounds, hr, hle]
      | some v =>
        obtain ⟨x, rfl, hv⟩ := vlo v rfl
        simp only [optOf] at hl
        obtain ⟨hr2, hle2⟩ := bound_run (P := P) hl hv h (Nat.le_refl _) .sliceB
        simp [Instr.sliceBounds, hr, hr2, hle, hle2]
  | some q =>
    obtain ⟨z, rfl, hq⟩ := vmx q rfl
    simp only [optOf] at hm
    obtain ⟨hrm, hlem⟩ := bound_run (P := P) hm hq cap hlc (if isS then .slice3Acap else .slice3Alen)
    cases hi with
    | none => simp at hmh
    | some u =>
      obtain ⟨y, rfl, hu⟩ := vhi u rfl
      simp only [optOf] at hh
      obtain ⟨hr, hle⟩ := bound_run (P := P) hh hu m (Nat.le_refl _) .slice3B
      cases lo with
      | none => rw [nlo rfl]; simp only [optOf] at hl; cases hl; simp [Instr.sliceBounds, hr, hrm, hle, hlem]; omega
      | some v =>
        obtain ⟨x, rfl, hv⟩ := vlo v rfl
        simp only [optOf] at hl
        obtain ⟨hr2, hle2⟩ := bound_run (P := P) hl hv h (Nat.le_refl _) .slice3C
        simp [Instr.sliceBounds, hr, hr2, hrm, hle, hle2, hlem]; omega

theorem optV {o : Option Opd} {x : Option Operand} (hE : EnvR G ρ w n e a.tmps) (h : cM G x = some o) :
    (∀ v, o.map (Opd.ev e) = some v → ∃ y, x.map a.eval = some y ∧ V ρ w n v y) ∧ (o.map (Opd.ev e) = none → x.map a.eval = none) := by
  cases x with
  | none => cases h; exact ⟨by simp, by simp⟩
  | some y =>
    simp only [cM, Option.map_eq_some_iff] at h
    obtain ⟨c, hc, rfl⟩ := h
    refine ⟨?_, by simp⟩
    intro v hv
    simp at hv
    subst hv
    exact ⟨a.eval y, rfl, cO_sound hE hc⟩

theorem ite_ne_none {c : Prop} [Decidable c] {x y : Addr} : (if c then some x else some y) ≠ none := by split <;> simp
theorem slc_sound {t el : TypeId} {i : TypeInfo} (ht : P.underlying t = some (.slice el)) (hi : P.info? el = some i) {x v : AV} {xv : Value} {lo hi' mx : Option AV} {xlo xhi xmx : Option Value}
    (h : slcA i.size x lo hi' mx = some v) (hV : V ρ w n x xv)
    (vlo : ∀ v, lo = some v → ∃ x, xlo = some x ∧ V ρ w n v x) (nlo : lo = none → xlo = none)
    (vhi : ∀ v, hi' = some v → ∃ x, xhi = some x ∧ V ρ w n v x) (nhi : hi' = none → xhi = none)
    (vmx : ∀ v, mx = some v → ∃ x, xmx = some x ∧ V ρ w n v x) (nmx : mx = none → xmx = none) (hmh : mx.isSome = true → hi'.isSome = true) :
    ∃ v', (Instr.sliceAt t xv xlo xhi xmx).run P w = .ok v' w ∧ V ρ w n v v' := by
  unfold slcA at h
  split at h
  · split at h
    · rename_i m h' l hm hh hl
      cases h
      cases hV
      have hm0 : optOf 0 0 mx = some 0 := by
        cases mx with
        | none => rfl
        | some u =>
          simp only [optOf] at hm ⊢
          obtain ⟨y, -, hy⟩ := vmx u rfl
          have := (bound_run (P := P) hm hy 0 (Nat.le_refl _) .index).2
          rw [hm]; congr; omega
      have hh0 : optOf 0 0 hi' = some 0 := by
        cases hi' with
        | none => rfl
        | some u =>
          simp only [optOf] at hh ⊢
          obtain ⟨y, -, hy⟩ := vhi u rfl
          have := (bound_run (P := P) hh hy 0 (Nat.le_refl _) .index).2
          rw [hh]; congr; omega
      have hl0 : optOf 0 0 lo = some 0 := by
        cases lo with
        | none => rfl
        | some u =>
          simp only [optOf] at hl ⊢
          obtain ⟨y, -, hy⟩ := vlo u rfl
          have := (bound_run (P := P) hl hy 0 (Nat.le_refl _) .index).2
          rw [hl]; congr; omega
      obtain ⟨hb, -, -, -, -⟩ := bounds_run (P := P) (isS := true) (Nat.le_refl 0) hm0 hh0 hl0 vlo nlo vhi nhi vmx nmx hmh
      refine ⟨.slice none 0 0, ?_, .nils⟩
      simp [Instr.sliceAt, Instr.slice, run_underlying ht, hb, sizeOf_run hi]
    · cases h
  · rename_i cs len full tok
    split at h
    · rename_i hlen
      split at h
      · rename_i m hm
        split at h
        · rename_i h' hh
          split at h
          · rename_i l hl
            split at h
            · rename_i hhm
              cases h
              cases hV with
              | sl cs vs b o _ cap _ _ hvs ha hf hlc htk =>
                obtain ⟨hb, hlh, hhl, hmx, hml⟩ := bounds_run (P := P) (isS := true) hlc hm hh hl vlo nlo vhi nhi vmx nmx hmh
                have hrun : (Instr.sliceAt t (.slice (some ⟨b, o, none⟩) len cap) xlo xhi xmx).run P w =
                    .ok (.slice (if (if mx.isSome then m else cap) = l then some ⟨b, o, none⟩ else some ⟨b, o + l * i.size, none⟩) (h' - l) ((if mx.isSome then m else cap) - l)) w := by
                  simp [Instr.sliceAt, Instr.slice, run_underlying ht, hb, sizeOf_run hi, Addr.add_lit]
                refine ⟨_, hrun, ?_⟩
                by_cases hwhole : l = 0 ∧ h' = len ∧ mx.isNone
                · obtain ⟨rfl, rfl, hn⟩ := hwhole
                  have hmn : mx = none := by cases mx <;> simp_all
                  subst hmn
                  have e1 : (cs.drop (0 * i.size)).take (h' * i.size) = cs := by
                    rw [Nat.zero_mul, List.drop_zero, ← hlen, List.take_length]
                  have e2 : (if cap = 0 then some (⟨b, o, none⟩ : Addr) else some ⟨b, o + 0 * i.size, none⟩) = some ⟨b, o, none⟩ := by simp
                  simp only [Nat.sub_zero, Option.isSome_none, Bool.false_eq_true, if_false, beq_self_eq_true, Bool.and_true]
                  rw [e1, if_pos (by simp), e2]
                  exact .sl cs vs b o h' cap full tok hvs ha hf hlc htk
                · rw [if_neg hwhole]
                  by_cases hz : h' = l
                  · subst hz
                    simp only [Nat.sub_self, Nat.zero_mul, List.take_zero]
                    refine .sl0 _ _ _ none ?_ ?_ (by simp)
                    · cases mx with
                      | none =>
                        simp only [Option.isSome_none, Bool.false_eq_true, if_false, Bool.and_eq_true, beq_iff_eq]
                        rintro ⟨h1, h2⟩
                        have := hf h1
                        omega
                      | some q => simp only [Option.isSome_some, if_true, beq_iff_eq]; omega
                    · intro hh; exact absurd hh ite_ne_none
                  · have hcl : (if mx.isSome then m else cap) ≠ l := by
                      split
                      · have := hmx ‹_›; omega
                      · omega
                    rw [if_neg hcl]
                    have hlv := hvs.length
                    refine .sl _ ((vs.drop (l * i.size)).take ((h' - l) * i.size)) b (o + l * i.size) (h' - l) _ _ none ((hvs.drop _).take _) ((ha.drop _).take _) ?_ ?_ (by simp)
                    · cases mx with
                      | none =>
                        simp only [Option.isSome_none, Bool.false_eq_true, if_false, Bool.and_eq_true, beq_iff_eq]
                        rintro ⟨h1, h2⟩
                        have := hf h1
                        omega
                      | some q => simp only [Option.isSome_some, if_true, beq_iff_eq]; omega
                    · split
                      · have := hmx ‹_›; omega
                      · omega
              | sl0 a cap _ _ hf ha htk =>
                obtain ⟨hb, hlh, hhl, hmx, hml⟩ := bounds_run (P := P) (isS := true) (Nat.zero_le cap) hm hh hl vlo nlo vhi nhi vmx nmx hmh
                obtain rfl : h' = 0 := by omega
                obtain rfl : l = 0 := by omega
                have hrun : (Instr.sliceAt t (.slice a 0 cap) xlo xhi xmx).run P w = .ok (.slice a 0 (if mx.isSome then m else cap)) w := by
                  cases a with
                  | none => simp [Instr.sliceAt, Instr.slice, run_underlying ht, hb, sizeOf_run hi]
                  | some a => simp [Instr.sliceAt, Instr.slice, run_underlying ht, hb, sizeOf_run hi, Addr.add]
                refine ⟨_, hrun, ?_⟩
                simp only [List.drop_nil, List.take_nil, Nat.sub_zero, ite_self]
                refine .sl0 a _ _ _ ?_ ?_ ?_
                · cases mx with
                  | none =>
                    simp only [Option.isSome_none, Bool.false_eq_true, if_false, Bool.and_eq_true, beq_iff_eq]
                    rintro ⟨h1, -⟩
                    exact hf h1
                  | some q => simp only [Option.isSome_some, if_true, beq_iff_eq]; omega
                · intro hn
                  have := ha hn
                  split <;> omega
                · intro ht1
                  refine htk ?_
                  split at ht1
                  · exact ht1
                  · simp at ht1
            · cases h
          · cases h
        · cases h
      · cases h
    · cases h
  · rename_i j off len z
    split at h
    · rename_i hzm
      obtain ⟨rfl, hmn⟩ := hzm
      have hmn : mx = none := by cases mx <;> simp_all
      subst hmn
      split at h
      · rename_i h' hh
        split at h
        · rename_i l hl
          cases hV with
          | msl _ _ _ cap _ hj hjp hlc htot =>
            obtain ⟨hb, hlh, hhl, hmx, hml⟩ := bounds_run (P := P) (isS := true) (mx := none) (m := len) hlc rfl hh hl vlo nlo vhi nhi vmx nmx hmh
            have hrun : (Instr.sliceAt t (.slice (some ⟨ρ.blk j, off, none⟩) len cap) xlo xhi xmx).run P w =
                .ok (.slice (if cap = l then some ⟨ρ.blk j, off, none⟩ else some ⟨ρ.blk j, off + l * i.size, none⟩) (h' - l) (cap - l)) w := by
              simp [Instr.sliceAt, Instr.slice, run_underlying ht, hb, sizeOf_run hi, Addr.add_lit]
            refine ⟨_, hrun, ?_⟩
            split at h
            · rename_i hcnd
              cases h
              have haddr : (if cap = l then some (⟨ρ.blk j, off, none⟩ : Addr) else some ⟨ρ.blk j, off + l * i.size, none⟩) = some ⟨ρ.blk j, off + l * i.size, none⟩ := by
                rcases hcnd with hc | ⟨h0, -⟩
                · rw [if_neg (by omega)]
                · subst h0; simp
              rw [haddr]
              refine .msl j _ _ _ _ hj hjp (by omega) ?_
              have : l * i.size + (cap - l) * i.size = cap * i.size := by rw [← Nat.add_mul]; congr 1; omega
              omega
            · split at h
              · cases h
                rename_i hlt heq
                rw [heq, Nat.sub_self]
                refine .sl0 _ _ _ none (by simp) ?_ (by simp)
                intro hn; exact absurd hn ite_ne_none
              · cases h
        · cases h
      · cases h
    · cases h
  · cases h

theorem sls_sound {t : TypeId} (ht : P.underlying t = some .string) {x v : AV} {xv : Value} {lo hi' : Option AV} {xlo xhi : Option Value}
    (h : slsA x lo hi' = some v) (hV : V ρ w n x xv)
    (vlo : ∀ v, lo = some v → ∃ x, xlo = some x ∧ V ρ w n v x) (nlo : lo = none → xlo = none)
    (vhi : ∀ v, hi' = some v → ∃ x, xhi = some x ∧ V ρ w n v x) (nhi : hi' = none → xhi = none) :
    ∃ v', (Instr.sliceAt t xv xlo xhi none).run P w = .ok v' w ∧ V ρ w n v v' := by
  unfold slsA at h
  split at h
  · rename_i s
    split at h
    · rename_i h' hh
      split at h
      · rename_i l hl
        cases h
        cases hV
        obtain ⟨hb, -⟩ := bounds_run (P := P) (isS := false) (mx := none) (xmx := none) (m := s.size) (Nat.le_refl _) rfl hh hl vlo nlo vhi nhi (by simp) (by simp) (by simp)
        refine ⟨_, ?_, .str _⟩
        simp [Instr.sliceAt, Instr.slice, run_underlying ht, hb]
      · cases h
    · cases h
  · cases h

theorem iaddr_sound {t el : TypeId} {i : TypeInfo} (ht : P.underlying t = some (.slice el)) (hi : P.info? el = some i) {x j v : AV} {xv jv : Value}
    (h : iaddrA i.size x j = some v) (hV : V ρ w n x xv) (hJ : V ρ w n j jv) : ∃ v', (Instr.indexAt t xv jv).run P w = .ok v' w ∧ V ρ w n v v' := by
  unfold iaddrA at h
  split at h
  · rename_i k m
    cases hJ
    split at h
    · rename_i cs len full tok
      split at h
      · rename_i hc
        cases h
        cases hV with
        | sl _ vs b o _ cap _ _ hvs ha hf hl ht' =>
          refine ⟨.pointer (some ⟨b, o + m.toNat * i.size, none⟩), ?_, .eptr _ _ _ _ (hvs.drop _) (ha.drop _)⟩
          simp [Instr.indexAt, asIntOf, run_underlying ht, sizeOf_run hi, hc.1, hc.2, Addr.add_lit]
        | sl0 => omega
      · cases h
    · rename_i jj off len z
      split at h
      · rename_i hc
        obtain ⟨h0, h1, rfl⟩ := hc
        cases h
        cases hV with
        | msl _ _ _ cap _ hj hjp hl htot =>
          refine ⟨.pointer (some ⟨ρ.blk jj, off + m.toNat * i.size, none⟩), ?_, .ptr jj _ hj hjp⟩
          simp [Instr.indexAt, asIntOf, run_underlying ht, sizeOf_run hi, h0, h1, Addr.add_lit]
      · cases h
    · cases h
  · cases h

theorem iaddra_sound {t el : TypeId} {len : Nat} {i : TypeInfo} (ht : P.underlying t = some (.array len el)) (hi : P.info? el = some i) {x j v : AV} {xv jv : Value}
    (h : iaddraA len i.size x j = some v) (hV : V ρ w n x xv) (hJ : V ρ w n j jv) : ∃ v', (Instr.indexAt t xv jv).run P w = .ok v' w ∧ V ρ w n v v' := by
  unfold iaddraA at h
  split at h
  · rename_i k m
    cases hJ
    split at h
    · rename_i hc
      split at h
      · cases h
        cases hV with
        | eptr cs vs b o hvs ha =>
          refine ⟨.pointer (some ⟨b, o + m.toNat * i.size, none⟩), ?_, .eptr _ _ _ _ (hvs.drop _) (ha.drop _)⟩
          simp [Instr.indexAt, asIntOf, run_underlying ht, Instr.sureAddr, sizeOf_run hi, hc.1, hc.2, Addr.add_lit]
      · cases h
        cases hV with
        | ptr _ _ hj hjp =>
          refine ⟨.pointer (some ⟨ρ.blk _, _ + m.toNat * i.size, none⟩), ?_, .ptr _ _ hj hjp⟩
          simp [Instr.indexAt, asIntOf, run_underlying ht, Instr.sureAddr, sizeOf_run hi, hc.1, hc.2, Addr.add_lit]
      · cases h
    · cases h
  · cases h

theorem idx_sound {t : TypeId} (ht : P.underlying t = some .string) {x j v : AV} {xv jv : Value}
    (h : idxA x j = some v) (hV : V ρ w n x xv) (hJ : V ρ w n j jv) : ∃ v', (Instr.index t xv jv).run P w = .ok v' w ∧ V ρ w n v v' := by
  unfold idxA at h
  split at h
  · rename_i s k m
    cases hV
    cases hJ
    split at h
    · rename_i hm
      split at h
      · rename_i b hb
        cases h
        refine ⟨_, ?_, .int _ _⟩
        simp [Instr.index, asIntOf, run_underlying ht, hm, hb]
      · cases h
    · cases h
  · cases h

theorem faddr_sound {t : TypeId} {fs : Array Field} {f : Nat} {fl : Field} {i : TypeInfo} (ht : P.underlying t = some (.struct fs)) (hf : fs[f]? = some fl) (hi : P.info? fl.type = some i) (h0 : 0 < i.size)
    {x v : AV} {xv : Value} (h : faddrA fl.offset x = some v) (hV : V ρ w n x xv) : ∃ v', (Instr.fieldAt t xv f).run P w = .ok v' w ∧ V ρ w n v v' := by
  have hne : ¬ i.size = 0 := by omega
  unfold faddrA at h
  split at h
  · cases h
    cases hV
    rename_i j o hj hjp
    refine ⟨.pointer (some ⟨ρ.blk j, o + fl.offset, none⟩), ?_, .ptr j _ ‹_› ‹_›⟩
    simp [Instr.fieldAt, run_underlying ht, hf, Instr.sureAddr, fieldPlace, sizeOf_run hi, hne, Addr.add_lit]
  · split at h
    · cases h
      cases hV
      rename_i vs b o ha hvs
      refine ⟨.pointer (some ⟨b, o + fl.offset, none⟩), ?_, .eptr _ _ _ _ (hvs.drop _) (ha.drop _)⟩
      simp [Instr.fieldAt, run_underlying ht, hf, Instr.sureAddr, fieldPlace, sizeOf_run hi, hne, Addr.add_lit]
    · cases h
  · cases h

theorem fld_sound {t : TypeId} {fs : Array Field} {f : Nat} {fl : Field} {g : Bool} {i : TypeInfo} (ht : P.underlying t = some (.struct fs)) (hf : fs[f]? = some fl) (hg : aggOf P fl.type = some g) (hi : P.info? fl.type = some i)
    {x v : AV} {xv : Value} (h : fldA g fl.offset i.size x = some v) (hV : V ρ w n x xv) : ∃ v', (Instr.field t xv f).run P w = .ok v' w ∧ V ρ w n v v' := by
  unfold fldA at h
  split at h
  · rename_i cs
    cases hV with
    | agg _ vs hvs =>
      cases g with
      | true =>
        simp at h
        subst h
        refine ⟨.agg ((vs.drop fl.offset).take i.size).toArray, ?_, .agg _ _ ((hvs.drop _).take _)⟩
        simp [Instr.field, run_underlying ht, hf, asAgg, part, isAgg_run hg, sizeOf_run hi, List.extract_eq_take_drop]
      | false =>
        simp at h
        obtain ⟨u, hu, hVu⟩ := hvs.get h
        refine ⟨u, ?_, hVu⟩
        simp [Instr.field, run_underlying ht, hf, asAgg, part, isAgg_run hg, hu]
  · cases h

theorem lens_sound {t ty : TypeId} (ht : P.underlying t = some .string) {x v : AV} {xv : Value} (h : lensA x = some v) (hV : V ρ w n x xv) :
    ∃ v', (Builtin.len_ #[t] ty #[xv]).run P w = .ok v' w ∧ V ρ w n v v' := by
  unfold lensA at h
  split at h
  · cases h; cases hV
    refine ⟨_, ?_, .int _ _⟩
    simp [Builtin.len_, run_underlying ht, goInt]
  · cases h

theorem len_sound {t ty el : TypeId} (ht : P.underlying t = some (.slice el)) {x v : AV} {xv : Value} (h : lenA x = some v) (hV : V ρ w n x xv) :
    ∃ v', (Builtin.len_ #[t] ty #[xv]).run P w = .ok v' w ∧ V ρ w n v v' := by
  unfold lenA at h
  split at h
  all_goals first
    | cases h
    | skip
  all_goals
    cases hV
    all_goals
      refine ⟨_, ?_, .int _ _⟩
      simp [Builtin.len_, run_underlying ht, goInt]

theorem un_sound {op : UnOp} {x v : AV} {xv : Value} (h : unA op x = some v) (hV : V ρ w n x xv) : ∃ v', (Op.unary op xv).run P w = .ok v' w ∧ V ρ w n v v' := by
  unfold unA at h
  split at h
  · cases h; cases hV; refine ⟨_, ?_, .int _ _⟩; simp [Op.unary, Op.intArith]
  · cases h; cases hV; refine ⟨_, ?_, .bool _⟩; simp [Op.unary]
  · cases h

theorem equal_bool {t : TypeId} (ht : P.underlying t = some .bool) (d : Nat) (x y : Bool) : (Op.equalIn (d + 1) t (.bool x) (.bool y)).run P w = .ok (x == y) w := by
  simp [Op.equalIn, run_underlying ht]
theorem equal_slice {t el : TypeId} (ht : P.underlying t = some (.slice el)) (d : Nat) (x : Option Addr) (l c : Nat) : (Op.equalIn (d + 1) t (.slice x l c) (.slice none 0 0)).run P w = .ok x.isNone w := by
  cases x <;> simp [Op.equalIn, run_underlying ht]
theorem equal_ptr {t el : TypeId} (ht : P.underlying t = some (.pointer el)) (d : Nat) (x : Option Addr) : (Op.equalIn (d + 1) t (.pointer x) (.pointer none)).run P w = .ok x.isNone w := by
  cases x <;> simp [Op.equalIn, run_underlying ht]

theorem eqbin_run {t : TypeId} {x y : Value} {r : Bool} (hg : ∀ op ox oy, eqGuard op t ox oy x y = pure ()) (hb : ∀ op, op = .eql ∨ op = .neq → binOp op t x y = (match op with | .neq => (do pure (.bool (!(← Op.equal t x y)))) | _ => (do pure (.bool (← Op.equal t x y)))))
    (h : (Op.equal t x y).run P w = .ok r w) (neq : Bool) (ox oy : Operand) :
    (do eqGuard (if neq then .neq else .eql) t ox oy x y; binOp (if neq then .neq else .eql) t x y : Sem Value).run P w = .ok (.bool (if neq then !r else r)) w := by
  rw [hg]
  cases neq with
  | false => simp only [Bool.false_eq_true, if_false]; rw [hb _ (Or.inl rfl)]; simp [h]
  | true => simp only [if_true]; rw [hb _ (Or.inr rfl)]; simp [h]

theorem eqb_sound {neq : Bool} {t : TypeId} (ht : P.underlying t = some .bool) {x y v : AV} {xv yv : Value} (h : eqbA neq x y = some v) (hX : V ρ w n x xv) (hY : V ρ w n y yv) (ox oy : Operand) :
    ∃ v', (do eqGuard (if neq then .neq else .eql) t ox oy xv yv; binOp (if neq then .neq else .eql) t xv yv : Sem Value).run P w = .ok v' w ∧ V ρ w n v v' := by
  unfold eqbA at h
  split at h
  · cases h; cases hX; cases hY
    rename_i p q
    refine ⟨_, eqbin_run (r := p == q) (fun _ _ _ => eqGuard_at_bool ..) ?_ (equal_bool ht 9999 p q) neq ox oy, ?_⟩
    · rintro op (rfl | rfl) <;> rfl
    · cases neq <;> exact .bool _
  · cases h

theorem eqnilS_sound {neq : Bool} {t el : TypeId} (ht : P.underlying t = some (.slice el)) {x v : AV} {xv : Value} (h : eqnilA false neq x = some v) (hX : V ρ w n x xv) (ox oy : Operand) :
    ∃ v', (do eqGuard (if neq then .neq else .eql) t ox oy xv (.slice none 0 0); binOp (if neq then .neq else .eql) t xv (.slice none 0 0) : Sem Value).run P w = .ok v' w ∧ V ρ w n v v' := by
  have key : ∀ (a : Option Addr) (l c : Nat), (do eqGuard (if neq then .neq else .eql) t ox oy (.slice a l c) (.slice none 0 0); binOp (if neq then .neq else .eql) t (.slice a l c) (.slice none 0 0) : Sem Value).run P w = .ok (.bool (if neq then !a.isNone else a.isNone)) w :=
    fun a l c => eqbin_run (r := a.isNone) (fun _ _ _ => eqGuard_at_slice ..) (by rintro op (rfl | rfl) <;> rfl) (equal_slice ht 9999 a l c) neq ox oy
  unfold eqnilA at h
  split at h <;> simp at h
  · subst h; cases hX; exact ⟨_, key _ _ _, by cases neq <;> exact .bool _⟩
  · obtain ⟨hl, rfl⟩ := h
    cases hX with
    | sl => exact ⟨_, key _ _ _, by cases neq <;> exact .bool _⟩
    | sl0 a cap _ _ hf ha ht =>
      have hn := ht (by rcases hl with hl | hl <;> simp_all)
      obtain ⟨a, rfl⟩ := Option.ne_none_iff_exists'.1 hn
      exact ⟨_, key _ _ _, by cases neq <;> exact .bool _⟩
  · subst h; cases hX; exact ⟨_, key _ _ _, by cases neq <;> exact .bool _⟩

theorem eqnilP_sound {neq : Bool} {t el : TypeId} (ht : P.underlying t = some (.pointer el)) {x v : AV} {xv : Value} (h : eqnilA true neq x = some v) (hX : V ρ w n x xv) (ox oy : Operand) :
    ∃ v', (do eqGuard (if neq then .neq else .eql) t ox oy xv (.pointer none); binOp (if neq then .neq else .eql) t xv (.pointer none) : Sem Value).run P w = .ok v' w ∧ V ρ w n v v' := by
  have key : ∀ (a : Option Addr), (do eqGuard (if neq then .neq else .eql) t ox oy (.pointer a) (.pointer none); binOp (if neq then .neq else .eql) t (.pointer a) (.pointer none) : Sem Value).run P w = .ok (.bool (if neq then !a.isNone else a.isNone)) w :=
    fun a => eqbin_run (r := a.isNone) (fun _ _ _ => eqGuard_at_pointer ..) (by rintro op (rfl | rfl) <;> rfl) (equal_ptr ht 9999 a) neq ox oy
  unfold eqnilA at h
  split at h <;> simp at h
  · subst h; cases hX; exact ⟨_, key _, by cases neq <;> exact .bool _⟩
  · subst h; cases hX; exact ⟨_, key _, by cases neq <;> exact .bool _⟩

theorem equal_nili {t : TypeId} {ms : Array (String × TypeId)} (ht : P.underlying t = some (.interface ms)) (k : Nat) (x : Value) (hx : x = .nilIface ∨ ∃ u v, x = .iface u v) :
    (Op.equalIn (k + 1) t x .nilIface).run P w = .ok (match x with | .nilIface => true | _ => false) w := by
  rcases hx with rfl | ⟨u, v, rfl⟩ <;> simp [Op.equalIn, run_underlying ht]

theorem eqni_sound {neq : Bool} {t : TypeId} {ms : Array (String × TypeId)} (ht : P.underlying t = some (.interface ms)) {x v : AV} {xv : Value} (h : eqniA neq x = some v) (hX : V ρ w n x xv) (ox : Operand) :
    ∃ v', (do eqGuard (if neq then .neq else .eql) t ox (.const .nilIface) xv .nilIface; binOp (if neq then .neq else .eql) t xv .nilIface : Sem Value).run P w = .ok v' w ∧ V ρ w n v v' := by
  unfold eqniA at h
  split at h <;> simp at h
  · subst h; cases hX
    refine ⟨_, ?_, .bool _⟩
    have this : (Op.equalIn Op.maxDepth t .nilIface .nilIface).run P w = .ok true w := equal_nili (w := w) ht 9999 .nilIface (Or.inl rfl)
    cases neq <;> simp [eqGuard, binOp, Op.equal, this]
  · rename_i u a
    subst h
    cases hX with
    | iface _ _ v' hv =>
      refine ⟨_, ?_, .bool _⟩
      have this : (Op.equalIn Op.maxDepth t (.iface u v') .nilIface).run P w = .ok false w := equal_nili (w := w) ht 9999 (.iface u v') (Or.inr ⟨_, _, rfl⟩)
      cases neq <;> simp [eqGuard, binOp, Op.equal, this]

theorem fields_eq (k : Nat) : ∀ (fs : List Field) (off : Nat) (ks : List Nat) (as bs : List AV) (xs ys : List Value) (pre pre' : List Value) (r : Bool), plainFields P fs off = some ks → eqCells ks as bs = some r → Vs ρ w n as xs → Vs ρ w n bs ys →
    pre.length = off → pre'.length = off → (Op.eqFields (k + 1) (pre ++ xs).toArray (pre' ++ ys).toArray fs).run P w = .ok r w
  | [], off, ks, as, bs, xs, ys, pre, pre', r, hp, he, hx, hy, h1, h2 => by
    cases hp
    match as, bs, he with
    | [], [], he => cases he; simp [Op.eqFields]
  | f :: fs, off, ks, as, bs, xs, ys, pre, pre', r, hp, he, hx, hy, h1, h2 => by
    simp only [plainFields] at hp
    split at hp
    · cases hp
    · rename_i hc
      have hname : f.name ≠ "_" := by
        intro hq
        exact hc (Or.inl (by simp [hq]))
      have hoff : f.offset = off := by
        by_cases hq : f.offset = off
        · exact hq
        · exact absurd (Or.inr hq) hc
      have main : ∀ (kd : Nat) (ks' : List Nat), ks = kd :: ks' → plainFields P fs (off + 1) = some ks' → aggOf P f.type = some false →
          (∀ a b x y r', eqCell kd a b = some r' → V ρ w n a x → V ρ w n b y → (Op.equalIn (k + 1) f.type x y).run P w = .ok r' w) →
          (Op.eqFields (k + 1) (pre ++ xs).toArray (pre' ++ ys).toArray (f :: fs)).run P w = .ok r w := by
        intro kd ks' hks hpl hagg heq
        subst hks
        match as, bs, he with
        | a :: as, b :: bs, he =>
          simp only [eqCells] at he
          split at he
          · rename_i p q hp1 hq1
            cases he
            cases hx with
            | cons _ x _ xs hax hxs =>
              cases hy with
              | cons _ y _ ys hby hys =>
                have ih := fields_eq k fs (off + 1) ks' as bs xs ys (pre ++ [x]) (pre' ++ [y]) q hpl hq1 hxs hys (by simp [h1]) (by simp [h2])
                simp only [List.append_assoc, List.singleton_append] at ih
                have hpx : (part f.type (pre ++ x :: xs).toArray f.offset).run P w = .ok x w := by
                  simp [part, isAgg_run hagg, hoff, ← h1]
                have hpy : (part f.type (pre' ++ y :: ys).toArray f.offset).run P w = .ok y w := by
                  simp [part, isAgg_run hagg, hoff, ← h2]
                have hc1 := heq a b x y p hp1 hax hby
                rw [Op.eqFields]
                simp only [if_pos hname, Sem.run_bind, hpx, hpy, hc1, Result.andThen_ok]
                cases p
                · simp
                · simpa using ih
          · cases he
      split at hp
      · rename_i kk ks' hu hpl
        cases hp
        refine main 0 ks' rfl hpl (by simp [aggOf, hu]) ?_
        intro a b x y r' hr hax hby
        unfold eqCell at hr
        split at hr
        · split at hr
          · rename_i hk
            cases hr
            subst hk
            cases hax
            cases hby
            exact run_equalIn_int w k f.type _ kk _ _ hu
          · cases hr
        · rename_i hz; cases hz
        · rename_i hz; cases hz
        · cases hr
      · rename_i ks' hu hpl
        cases hp
        refine main 1 ks' rfl hpl (by simp [aggOf, hu]) ?_
        intro a b x y r' hr hax hby
        unfold eqCell at hr
        split at hr
        · rename_i hz; cases hz
        · cases hr
          cases hax
          cases hby
          exact run_equalIn_bool' w k f.type _ _ hu
        · rename_i hz; cases hz
        · cases hr
      · rename_i ks' hu hpl
        cases hp
        refine main 2 ks' rfl hpl (by simp [aggOf, hu]) ?_
        intro a b x y r' hr hax hby
        unfold eqCell at hr
        split at hr
        · rename_i hz; cases hz
        · rename_i hz; cases hz
        · cases hr
          cases hax
          cases hby
          exact run_equalIn_string w k f.type _ _ hu
        · cases hr
      · cases hp

theorem eqs_sound {neq : Bool} {t : TypeId} {fs : Array Field} {ks : List Nat} (ht : P.underlying t = some (.struct fs)) (hg : P.eqGuardType P.depth t = false) (hp : P.stoodInHeld t = false) (hks : plainFields P fs.toList 0 = some ks)
    {x y v : AV} {xv yv : Value} (h : eqsA ks neq x y = some v) (hX : V ρ w n x xv) (hY : V ρ w n y yv) (ox oy : Operand) :
    ∃ v', (do eqGuard (if neq then .neq else .eql) t ox oy xv yv; binOp (if neq then .neq else .eql) t xv yv : Sem Value).run P w = .ok v' w ∧ V ρ w n v v' := by
  unfold eqsA at h
  split at h
  · rename_i as bs
    split at h
    · rename_i r hr
      cases h
      cases hX with
      | agg _ xs hxs =>
        cases hY with
        | agg _ ys hys =>
          have hfo : P.fieldsOf t = fs := by simp [Program.fieldsOf, ht]
          have hf := fields_eq (P := P) 9998 fs.toList 0 ks as bs xs ys [] [] r hks hr hxs hys rfl rfl
          have hst := run_equalIn_struct (P := P) w 9999 t xs.toArray ys.toArray (by rw [hfo]; exact ht) hp
          rw [hfo] at hst
          simp only [List.nil_append] at hf
          have he : (Op.equalIn 10000 t (.agg xs.toArray) (.agg ys.toArray)).run P w = .ok r w := hst.trans hf
          refine ⟨.bool (if neq then !r else r), ?_, .bool _⟩
          cases neq with
          | false =>
            simp only [Bool.false_eq_true, if_false, Sem.run_bind]
            rw [run_eqGuard_agg w .eql t ox oy _ _ hg]
            simp only [Result.andThen_ok]
            rw [run_eql_struct]
            rw [he]
            rfl
          | true =>
            simp only [if_true, Sem.run_bind]
            rw [run_eqGuard_agg w .neq t ox oy _ _ hg]
            simp only [Result.andThen_ok]
            rw [run_neq_struct]
            rw [he]
            rfl
    · cases h
  · cases h

theorem shf_sound {op : BinOp} {va vb v : AV} {x y : Value} (h : shfA op va vb = some v) (hx : V ρ w n va x) (hy : V ρ w n vb y) (t : TypeId) (ox oy : Operand) :
    ∃ v', (do eqGuard op t ox oy x y; binOp op t x y : Sem Value).run P w = .ok v' w ∧ V ρ w n v v' := by
  unfold shfA at h
  split at h <;> (try (cases hx; cases hy)) <;> (try (cases h; done))
  all_goals
    split at h
    · rename_i hc
      cases h
      first
        | (refine ⟨_, ?_, .int _ _⟩; simp [go_sem, Op.shift, show ¬ (_ < (0 : Int)) from Int.not_lt.2 hc]; done)
        | (subst hc; refine ⟨_, ?_, .int _ _⟩; simp [go_sem]; done)
    · cases h

theorem idxa_sound {t el : TypeId} {len : Nat} {g : Bool} {i : TypeInfo} (ht : P.underlying t = some (.array len el)) (hg : aggOf P el = some g) (hi : P.info? el = some i) {x j v : AV} {xv jv : Value}
    (h : idxaA g len i.size x j = some v) (hV : V ρ w n x xv) (hJ : V ρ w n j jv) : ∃ v', (Instr.index t xv jv).run P w = .ok v' w ∧ V ρ w n v v' := by
  unfold idxaA at h
  split at h
  · rename_i cs k m
    cases hJ
    cases hV with
    | agg _ vs hvs =>
      split at h
      · rename_i hc
        cases g with
        | true =>
          simp at h
          subst h
          refine ⟨.agg ((vs.drop (m.toNat * i.size)).take i.size).toArray, ?_, .agg _ _ ((hvs.drop _).take _)⟩
          simp [Instr.index, asIntOf, run_underlying ht, sizeOf_run hi, hc.1, hc.2, part, isAgg_run hg, List.extract_eq_take_drop]
        | false =>
          simp at h
          obtain ⟨u, hu, hVu⟩ := hvs.get h
          refine ⟨u, ?_, hVu⟩
          simp [Instr.index, asIntOf, run_underlying ht, sizeOf_run hi, hc.1, hc.2, part, isAgg_run hg, hu]
      · cases h
  · cases h

theorem mm_fold {isMin : Bool} : ∀ (r : List AV) (us : List Value) (x v : AV) (xv : Value), mmFold isMin x r = some v → V ρ w n x xv → Vs ρ w n r us →
    ∃ v', (us.foldlM (if isMin then Builtin.min2 else Builtin.max2) xv).run P w = .ok v' w ∧ V ρ w n v v'
  | [], _, x, v, xv, h, hx, .nil => by
    cases h
    exact ⟨xv, by simp, hx⟩
  | y :: r, _, x, v, xv, h, hx, .cons _ yv _ us hy hs => by
    simp only [mmFold] at h
    split at h
    · rename_i q hq
      unfold mm2 at hq
      split at hq
      · cases hq
        cases hx
        cases hy
        rename_i k a k' b
        obtain ⟨v', hr, hV⟩ := mm_fold r us _ v (.int k (if isMin then (if b < a then b else a) else (if b > a then b else a))) h (.int _ _) hs
        refine ⟨v', ?_, hV⟩
        cases isMin with
        | true => simpa [List.foldlM_cons, Builtin.min2] using hr
        | false => simpa [List.foldlM_cons, Builtin.max2] using hr
      · cases hq
    · cases h

theorem mm_sound {isMin : Bool} {as : List AV} {us : List Value} {v : AV} (hs : Vs ρ w n as us) (h : mmA isMin as = some v) :
    ∃ v', (match us with | [] => (stuck "" : Sem Value) | u :: r => r.foldlM (if isMin then Builtin.min2 else Builtin.max2) u).run P w = .ok v' w ∧ V ρ w n v v' := by
  unfold mmA at h
  split at h
  · cases h
  · cases hs with
    | cons _ u _ us hu hs => exact mm_fold _ us _ v u h hu hs

end ops
end Go.Am
