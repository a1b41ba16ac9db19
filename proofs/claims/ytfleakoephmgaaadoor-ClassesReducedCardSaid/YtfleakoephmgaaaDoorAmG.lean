/- Appending. Conditions: none. -/
import Derived.Test.YtfleakoephmgaaaDoorAmE
import Derived.Laws.Append
set_option linter.unusedSimpArgs false
set_option linter.unusedVariables false
namespace Go.Am

theorem drew_mono (ρ : Rho) (w : World) (n : Nat) : Mono ρ w n ρ w.drew n :=
  ⟨Nat.le_refl _, fun _ _ h => ⟨h, rfl⟩, fun _ _ _ => rfl, fun _ _ _ => rfl, fun _ _ => rfl, fun _ _ h => h⟩

theorem drew_sim {ρ : Rho} {s : St} {w : World} (hS : Sim ρ s w) : Fr ρ s w ρ s w.drew ∧ Sim ρ s w.drew := by
  refine ⟨⟨drew_mono ρ w s.size, rfl, rfl, rfl, Nat.le_refl _, fun _ _ _ => ⟨rfl, rfl⟩, fun _ _ => rfl, fun _ => rfl⟩, ⟨hS.free, hS.pn, ?_, hS.right, froz_mono hS (drew_mono ρ w s.size) (fun _ _ h => h) (fun _ _ h => h), map_mono hS (drew_mono ρ w s.size) (fun _ _ h => h) (fun _ _ _ _ hl _ => ⟨hl, rfl⟩)⟩⟩
  intro i cs h hp
  obtain ⟨a, b, vs, r, ty, c, d, f⟩ := hS.cells i cs h hp
  exact ⟨a, b, vs, r, ty, c, d.mono (drew_mono ρ w s.size), f⟩

section
variable {P : Program}

/-- The argument that is appended: so many elements, and their cells. -/
theorem contents_sound {ρ : Rho} {s : St} {w : World} (hS : Sim ρ s w) {sz m : Nat} {y : AV} {yv : Value} {ys : List AV} (h : contents s sz y = some (m, ys)) (hV : V ρ w s.size y yv) :
    ∃ vs, Vs ρ w s.size ys vs ∧ vs.length = m * sz ∧ ∀ w1 : World, w1.heap = w.heap → (Builtin.lenOf yv).run P w1 = .ok m w1 ∧ (Builtin.firstCells sz m yv).run P w1 = .ok vs.toArray w1 := by
  unfold contents at h
  split at h
  · cases h; cases hV
    exact ⟨[], .nil, by simp, fun w1 _ => ⟨by simp [Builtin.lenOf], by simp [Builtin.firstCells]⟩⟩
  · split at h
    · rename_i hl
      cases h
      cases hV with
      | sl _ vs b o _ cap _ _ hvs ha hf hlc ht =>
        have hlv := hvs.length
        refine ⟨vs, hvs, by omega, fun w1 hw => ⟨by simp [Builtin.lenOf], ?_⟩⟩
        exact run_firstCells_some (P := P) w1 sz _ ⟨b, o, none⟩ _ cap vs (by omega) (by intro j v hj; rw [Addr.add_lit]; simp only [World.cell?, hw]; exact (ha j v hj).2)
      | sl0 a cap _ _ hf ha htk =>
        refine ⟨[], .nil, by simp, fun w1 _ => ⟨by simp [Builtin.lenOf], ?_⟩⟩
        cases a with
        | none => simp [Builtin.firstCells]
        | some a => exact run_firstCells_some (P := P) w1 sz 0 a 0 cap [] (by simp) (by simp)
    · cases h
  · rename_i j off len zz
    split at h
    · rename_i cs hob
      split at h
      · rename_i hc
        obtain ⟨rfl, hle⟩ := hc
        cases h
        cases hV with
        | msl _ _ _ cap _ hi hip hl ht =>
          obtain ⟨-, -, vs, rest, ty, hh, hvs, -⟩ := hS.cells _ cs hob hip
          have hlv := hvs.length
          refine ⟨(vs.drop off).take (m * zz), (hvs.drop _).take _, by simp; omega, fun w1 hw => ⟨by simp [Builtin.lenOf], ?_⟩⟩
          refine run_firstCells_some (P := P) w1 zz _ ⟨ρ.blk j, off, none⟩ _ cap _ (by simp; omega) ?_
          intro jj v hj
          rw [Addr.add_lit]
          rw [List.getElem?_take] at hj
          split at hj
          · rw [List.getElem?_drop] at hj
            have hlt := (List.getElem?_eq_some_iff.1 hj).1
            simp only [World.cell?, hw, hh]
            simp [List.getElem?_append_left hlt, hj]
          · cases hj
      · cases h
    · rename_i cs hob
      split at h
      · rename_i hc
        obtain ⟨rfl, hle⟩ := hc
        cases h
        cases hV with
        | msl _ _ _ cap _ hi hip hl ht =>
          obtain ⟨-, -, vs, hvs, ha⟩ := hS.froz _ cs hob
          have hlv := hvs.length
          refine ⟨(vs.drop off).take (m * zz), (hvs.drop _).take _, by simp; omega, fun w1 hw => ⟨by simp [Builtin.lenOf], ?_⟩⟩
          refine run_firstCells_some (P := P) w1 zz _ ⟨ρ.blk j, off, none⟩ _ cap _ (by simp; omega) ?_
          intro jj v hj
          rw [Addr.add_lit]
          rw [List.getElem?_take] at hj
          split at hj
          · rw [List.getElem?_drop] at hj
            have := (ha (off + jj) v hj).2
            rw [Nat.zero_add] at this
            simp only [World.cell?, hw]
            exact this
          · cases hj
      · cases h
    · cases h
  · split at h
    · rename_i hz
      cases h; cases hV
      rename_i t
      refine ⟨t.data.toList.map fun b => .int .u8 b.toNat, ?_, ?_, fun w1 _ => ⟨by simp [Builtin.lenOf], ?_⟩⟩
      · generalize t.data.toList = l
        induction l with
        | nil => exact .nil
        | cons c l ih => exact .cons _ _ _ _ (.int _ _) ih
      · rw [List.length_map, Array.length_toList, hz, Nat.mul_one]; rfl
      · simp only [Builtin.firstCells]
        have hx : t.extract 0 t.size = t := by
          apply ByteArray.ext
          simp
        rw [hx]
        have hy : Array.map (fun b : UInt8 => Value.int IntKind.u8 (b.toNat : Int)) t.data = (t.data.toList.map fun b : UInt8 => Value.int IntKind.u8 (b.toNat : Int)).toArray := by
          apply Array.ext'
          simp
        rw [hy]
        rfl
    · cases h
  · cases h

theorem append_grow {t u ty e : TypeId} {i : TypeInfo} {z : Value} {du : TypeDesc} (ht : P.underlying t = some (.slice e)) (hu : P.underlying u = some du) (hdu : ∀ k, du ≠ .int k) (hi : P.info? e = some i) (hz : i.zero = some z) (hzs : z.cells.size = i.size)
    (hb0 : 0 < i.bytes) {w : World} {base : Option Addr} {sLen sCap n : Nat} {x : Value} {olds news : List Value} (hlen : (Builtin.lenOf x).run P w = .ok n w)
    (hnew : (Builtin.firstCells i.size n x).run P w.drew = .ok news.toArray w.drew) (hold : (Builtin.firstCells i.size sLen (.slice base sLen sCap)).run P w.drew = .ok olds.toArray w.drew)
    (hg : sCap < sLen + n) (hfit : (sLen + n) * i.bytes ≤ 140737488355328) :
    ∃ cap' rest, (Builtin.append_ #[t, u] ty #[.slice base sLen sCap, x]).run P w = .ok (.slice (some ⟨w.heap.size, 0, none⟩) (sLen + n) cap') (pushW w.drew (.cells (olds ++ news ++ rest).toArray e (0, 0))) ∧
      sLen + n ≤ cap' ∧ rest.length = (cap' - (sLen + n)) * i.size := by
  have hn : ¬ (sLen + n ≤ sCap) := by omega
  have hsm : sLen + n ≤ 140737488355328 := Nat.le_trans (Nat.le_mul_of_pos_right _ hb0) hfit
  have h63' : ¬ (9223372036854775807 < ((sLen : Int) + (n : Int))) := by omega
  have h48 := growslice_fits hg hfit
  have h48' : ¬ (281474976710656 < Builtin.nextslicecap (sLen + n) sCap * i.bytes) := by omega
  refine ⟨grownCap w (sLen + n) sCap e, (Builtin.zeroCells z.cells (grownCap w (sLen + n) sCap e - (sLen + n))).toList, ?_, ?_, ?_⟩
  · have hzero : (match du with | .int _ => true | _ => false) = false := by
      cases du <;> first | rfl | exact absurd rfl (hdu _)
    simp [Builtin.append_, run_underlying ht, run_underlying hu, sizeOf, typeInfo, zeroValue, hi, hz, hlen, hn, h63', h48', Question.forced, hnew, hold, newRow, grownCap, pushW]
    have hr : ∀ r : Array Value, (olds ++ (news ++ r.toList)).toArray = olds.toArray ++ (news.toArray ++ r) := fun r => by apply Array.ext'; simp
    rw [hr]
    rfl
  · unfold grownCap; simp [Question.cut]
  · simp [Builtin.zeroCells, hzs]

theorem append_fits {t u ty e : TypeId} {i : TypeInfo} {du : TypeDesc} (ht : P.underlying t = some (.slice e)) (hu : P.underlying u = some du) (hdu : ∀ k, du ≠ .int k) (hi : P.info? e = some i)
    {w : World} {base : Option Addr} {sLen sCap n : Nat} {x : Value} {news : List Value} (hlen : (Builtin.lenOf x).run P w = .ok n w)
    (hnew : (Builtin.firstCells i.size n x).run P w = .ok news.toArray w) (hg : sLen + n ≤ sCap) :
    (Builtin.append_ #[t, u] ty #[.slice base sLen sCap, x]).run P w =
      match base with
      | some a => (match (storeCells (a.add (sLen * i.size)) news).run P w with | .ok _ w' => .ok (.slice base (sLen + n) sCap) w' | .halt h w' => .halt h w')
      | none => .ok (.slice none (sLen + n) sCap) w := by
  have hzero : (match du with | .int _ => true | _ => false) = false := by
    cases du <;> first | rfl | exact absurd rfl (hdu _)
  cases base with
  | none => simp [Builtin.append_, run_underlying ht, run_underlying hu, sizeOf, typeInfo, hi, hlen, hg, hnew]
  | some a =>
    simp [Builtin.append_, run_underlying ht, run_underlying hu, sizeOf, typeInfo, hi, hlen, hg, hnew]
    cases (storeCells (a.add (sLen * i.size)) news).run P w <;> rfl

end
end Go.Am

/- Appending, whole. Conditions: none. -/
namespace Go.Am

theorem fresh_sound {ρ : Rho} {s s' : St} {w : World} (hS : Sim ρ s w) {mu : Bool} {sz len cap : Nat} {cs : List AV} {v : AV} (h : freshA s mu sz len cs = some (v, s')) {vs rest : List Value} (hv : Vs ρ w s.size cs vs)
    (hl : vs.length = len * sz) (hr : rest.length = (cap - len) * sz) (hc : len ≤ cap) (h0 : 0 < len) (e : TypeId) :
    ∃ ρ', Fr ρ s w ρ' s' (pushW w (.cells (vs ++ rest).toArray e (0, 0))) ∧ Sim ρ' s' (pushW w (.cells (vs ++ rest).toArray e (0, 0))) ∧
      V ρ' (pushW w (.cells (vs ++ rest).toArray e (0, 0))) s'.size v (.slice (some ⟨w.heap.size, 0, none⟩) len cap) := by
  have htot : (vs ++ rest).length = cap * sz := by
    rw [List.length_append, hl, hr, ← Nat.add_mul]
    congr 1
    omega
  unfold freshA at h
  split at h
  · split at h
    · cases h
      obtain ⟨hF, hS'⟩ := new_obj hS hv (rest := rest) e
      refine ⟨_, hF, hS', ?_⟩
      have hb : (ρ.newObj w.heap.size s.size (vs ++ rest).length).blk s.size = w.heap.size := by simp [Rho.newObj]
      have := V.msl (ρ := ρ.newObj w.heap.size s.size (vs ++ rest).length) (w := pushW w (.cells (vs ++ rest).toArray e (0, 0))) (n := (s.new (.cells cs)).size) s.size 0 len cap sz (by simp [St.new]) (id (pend_new hS : ρ.pend s.size = false)) hc (by
        simp only [Rho.newObj, if_true]; rw [htot]; omega)
      rw [hb] at this
      exact this
    · cases h
  · split at h
    · cases h
      obtain ⟨hF, hS'⟩ := new_right hS len cap sz htot e
      refine ⟨_, hF, hS', ?_⟩
      refine .sl _ vs w.heap.size 0 len cap false _ (hv.mono hF.mono).strip ?_ (by simp) hc ?_
      · intro j u hj
        have hlt := (List.getElem?_eq_some_iff.1 hj).1
        refine ⟨by simp only [Imm, ImmL, Rho.newRight, if_true]; omega, ?_⟩
        simp only [World.cell?, heap_push_new]
        simp [List.getElem?_append_left hlt, hj]
      · intro t ht
        cases ht
        have hlv := hv.length
        exact ⟨by simp [St.new], rfl, h0, sz, by rw [List.length_map]; omega, by simp [Rho.newRight]⟩
    · cases h

section
variable {P : Program}

theorem app_sound {t u ty e : TypeId} {i : TypeInfo} {z : Value} {du : TypeDesc} (ht : P.underlying t = some (.slice e)) (hu : P.underlying u = some du) (hdu : ∀ k, du ≠ .int k) (hi : P.info? e = some i) (hz : i.zero = some z) (hzs : z.cells.size = i.size)
    (hs0 : 0 < i.size) (hb0 : 0 < i.bytes) {ρ : Rho} {s s' : St} {w : World} (hS : Sim ρ s w) {mu : Bool} {x y v : AV} {xv yv : Value} (h : appendA s mu i.size i.bytes x y = some (v, s'))
    (hX : V ρ w s.size x xv) (hY : V ρ w s.size y yv) :
    ∃ ρ' w' v', (Builtin.append_ #[t, u] ty #[xv, yv]).run P w = .ok v' w' ∧ Fr ρ s w ρ' s' w' ∧ Sim ρ' s' w' ∧ V ρ' w' s'.size v v' := by
  unfold appendA at h
  split at h
  · cases h
  rename_i m ys hcont
  obtain ⟨us, hus, hul, hrun⟩ := contents_sound (P := P) hS hcont hY
  obtain ⟨hlen, hnew⟩ := hrun w rfl
  obtain ⟨-, hnew2⟩ := hrun w.drew rfl
  obtain ⟨hFd, hSd⟩ := drew_sim hS
  have husd : Vs ρ w.drew s.size ys us := hus.mono (drew_mono ρ w s.size)
  -- nothing is appended
  have hnone : ∀ (base : Option Addr) (len cap : Nat), m = 0 → len ≤ cap → (Builtin.append_ #[t, u] ty #[.slice base len cap, yv]).run P w = .ok (.slice base len cap) w := by
    intro base len cap hm hc
    subst hm
    have hus0 : us = [] := by
      apply List.eq_nil_of_length_eq_zero; rw [hul]; simp
    subst hus0
    rw [append_fits ht hu hdu hi hlen hnew (by omega)]
    cases base with
    | none => rfl
    | some a => simp [storeCells]
  split at h
  -- the nil slice
  · cases hX
    split at h
    · rename_i hm
      cases h
      exact ⟨ρ, w, _, hnone none 0 0 hm (Nat.le_refl _), Fr.refl _ _ _, hS, .nils⟩
    · split at h
      · rename_i hm hb
        obtain ⟨cap', rest, hr, hc, hrl⟩ := append_grow (ty := ty) ht hu hdu hi hz hzs hb0 (base := none) (sLen := 0) (sCap := 0) (olds := []) hlen hnew2 (by simp [Builtin.firstCells]) (by omega) (by simpa using hb)
        simp only [Nat.zero_add, List.nil_append] at hr hc hrl
        obtain ⟨ρ', hF, hS', hV⟩ := fresh_sound hSd h husd hul hrl hc (by omega) e
        exact ⟨ρ', _, _, hr, hFd.trans hF, hS', hV⟩
      · cases h
  -- a slice that never changes
  · rename_i cs len full tok
    split at h
    · rename_i hm
      cases h
      cases hX with
      | sl _ vs b o _ cap _ _ hvs ha hf hlc htk =>
        exact ⟨ρ, w, _, hnone _ _ _ hm hlc, Fr.refl _ _ _, hS, .sl _ vs b o len cap full tok hvs ha hf hlc htk⟩
      | sl0 a cap _ _ hf ha htk =>
        exact ⟨ρ, w, _, hnone _ _ _ hm (Nat.zero_le _), Fr.refl _ _ _, hS, .sl0 a cap full tok hf ha htk⟩
    · rename_i hm
      split at h
      · rename_i hcl
        obtain ⟨hcsl, hbd⟩ := hcl
        split at h
        -- it is full: a new row
        · rename_i hfull
          cases hX with
          | sl _ vs b o _ cap _ _ hvs ha hf hlc htk =>
            have hcap := hf hfull
            have hvl := hvs.length
            have hold : (Builtin.firstCells i.size len (.slice (some ⟨b, o, none⟩) len cap)).run P w.drew = .ok vs.toArray w.drew :=
              run_firstCells_some (P := P) w.drew i.size len ⟨b, o, none⟩ len cap vs (by omega) (by intro j v hj; rw [Addr.add_lit]; exact (ha j v hj).2)
            obtain ⟨cap', rest, hr, hc, hrl⟩ := append_grow (ty := ty) ht hu hdu hi hz hzs hb0 hlen hnew2 hold (by omega) hbd
            have hvs' : Vs ρ w.drew s.size cs vs := hvs.mono (drew_mono ρ w s.size)
            obtain ⟨ρ', hF, hS', hV⟩ := fresh_sound hSd h (hvs'.append husd) (by rw [List.length_append, hul, hvl, hcsl, Nat.add_mul]) hrl hc (by omega) e
            exact ⟨ρ', _, _, hr, hFd.trans hF, hS', hV⟩
          | sl0 a cap _ _ hf ha htk =>
            have hcap := hf hfull
            subst hcap
            have hold : (Builtin.firstCells i.size 0 (.slice a 0 0)).run P w.drew = .ok #[] w.drew := by
              cases a with
              | none => simp [Builtin.firstCells]
              | some a => exact run_firstCells_some (P := P) w.drew i.size 0 a 0 0 [] (by simp) (by simp)
            obtain ⟨cap', rest, hr, hc, hrl⟩ := append_grow (ty := ty) ht hu hdu hi hz hzs hb0 (olds := []) hlen hnew2 hold (by omega) hbd
            simp only [List.nil_append] at hr h
            obtain ⟨ρ', hF, hS', hV⟩ := fresh_sound hSd h husd (by rw [hul, Nat.zero_add]) hrl hc (by omega) e
            exact ⟨ρ', _, _, hr, hFd.trans hF, hS', hV⟩
        -- it may grow in place
        · split at h
          · cases h
          · rename_i t0
            split at h
            · rename_i hob
              split at h
              · rename_i hst
                obtain ⟨hst, hlp⟩ := hst
                cases h
                cases hX with
                | sl0 a cap _ _ hf ha htk => omega
                | sl _ vs b o _ cap _ _ hvs ha hf hlc htk =>
                  obtain ⟨htn, rfl, hlen0, zz, hcz, hrt⟩ := htk t0 rfl
                  obtain rfl : zz = i.size := Nat.eq_of_mul_eq_mul_left hlen0 (hcz.symm.trans hcsl)
                  have hvl := hvs.length
                  obtain ⟨-, b', len', cap', z', h1, hlab, vs1, ty1, h3, h4⟩ := hS.right t0 hob
                  rw [hrt] at h1
                  obtain ⟨rfl, rfl, rfl, rfl⟩ : b = b' ∧ len = len' ∧ cap = cap' ∧ i.size = z' := by
                    simp only [Prod.mk.injEq] at h1; exact ⟨h1.1, h1.2.1, h1.2.2.1, h1.2.2.2⟩
                  have hmul : (len + m) * i.size = len * i.size + m * i.size := Nat.add_mul _ _ _
                  by_cases hfit : len + m ≤ cap
                  · have hle : (len + m) * i.size ≤ cap * i.size := Nat.mul_le_mul_right _ hfit
                    have hst' := storeCells_run (P := P) us (o := len * i.size) (k := 0) h3 (by omega) (ones_V hus (still_one hst))
                    obtain ⟨hF, hS'⟩ := grow_right hS hob hrt hfit h3 hul
                    refine ⟨_, _, .slice (some ⟨b, 0, none⟩) (len + m) cap, ?_, hF, hS', ?_⟩
                    · rw [append_fits ht hu hdu hi hlen hnew hfit]
                      simp only [Addr.add_lit, Nat.zero_add]
                      rw [hst']
                      rfl
                    · have hb := (Array.getElem?_eq_some_iff.1 h3).1
                      refine .sl _ (vs ++ us) b 0 (len + m) cap false _ ((hvs.mono hF.mono).append (hus.mono hF.mono).strip) ?_ (by simp) hfit ?_
                      · intro j v hj
                        refine ⟨?_, ?_⟩
                        · simp only [Imm, ImmL, Rho.newRight, if_true]
                          have := (List.getElem?_eq_some_iff.1 hj).1
                          rw [List.length_append] at this
                          omega
                        · simp only [World.cell?, heap_put_same hb, Nat.zero_add, Option.isSome_none, Bool.false_eq_true, if_false, List.getElem?_toArray]
                          by_cases hjl : j < vs.length
                          · rw [List.getElem?_append_left hjl] at hj
                            have := (ha j v hj).2
                            simp only [World.cell?, h3, Nat.zero_add, Option.isSome_none, Bool.false_eq_true, if_false, List.getElem?_toArray] at this
                            rw [setV_get us vs1 (len * i.size) j (by omega)]
                            exact this
                          · rw [List.getElem?_append_right (by omega)] at hj
                            have hju := (List.getElem?_eq_some_iff.1 hj).1
                            have := setV_new us vs1 (len * i.size) (j - vs.length) (by omega) hju
                            rw [show len * i.size + (j - vs.length) = j by omega] at this
                            rw [this]; exact hj
                      · intro t1 ht1
                        cases ht1
                        exact ⟨by simp [St.new, St.put], rfl, by omega, i.size, by rw [List.length_append, List.length_map, ← hus.length]; omega, by simp [Rho.newRight]⟩
                  · have hold : (Builtin.firstCells i.size len (.slice (some ⟨b, 0, none⟩) len cap)).run P w.drew = .ok vs.toArray w.drew :=
                      run_firstCells_some (P := P) w.drew i.size len ⟨b, 0, none⟩ len cap vs (by omega) (by intro j v hj; rw [Addr.add_lit]; exact (ha j v hj).2)
                    obtain ⟨cap2, rest, hr, hc, hrl⟩ := append_grow (ty := ty) ht hu hdu hi hz hzs hb0 hlen hnew2 hold (by omega) hbd
                    have hvs' : Vs ρ w.drew s.size cs vs := hvs.mono (drew_mono ρ w s.size)
                    obtain ⟨hFk, hSk⟩ := kill_sim hSd t0 (by cases hq : ρ.pend t0 with | false => rfl | true => exact absurd hob (hS.pn t0 hq).2)
                    have hall : (cs ++ ys.map AV.strip) = cs ++ ys.map AV.strip := rfl
                    obtain ⟨hF, hS'⟩ := new_right (vs := vs ++ us ++ rest) hSk (len + m) cap2 i.size (by rw [List.length_append, List.length_append, hul, hrl, hvl, hcsl, ← Nat.add_mul, ← Nat.add_mul]; congr 1; omega) e
                    refine ⟨_, _, _, hr, (hFd.trans hFk).trans hF, hS', ?_⟩
                    refine .sl _ (vs ++ us) w.drew.heap.size 0 (len + m) cap2 false _ ((hvs'.mono (hFk.trans hF).mono).append (husd.mono (hFk.trans hF).mono).strip) ?_ (by simp) hc ?_
                    · intro j v hj
                      have hlt := (List.getElem?_eq_some_iff.1 hj).1
                      refine ⟨?_, ?_⟩
                      · simp only [Imm, ImmL, Rho.newRight, if_true]
                        rw [List.length_append] at hlt
                        omega
                      · simp only [World.cell?, heap_push_new, Nat.zero_add, Option.isSome_none, Bool.false_eq_true, if_false, List.getElem?_toArray]
                        rw [List.getElem?_append_left hlt]; exact hj
                    · intro t1 ht1
                      cases ht1
                      exact ⟨by simp [St.new, St.put], rfl, by omega, i.size, by rw [List.length_append, List.length_map, ← hus.length]; omega, by simp [Rho.newRight, St.put]⟩
              · cases h
            · cases h
      · cases h
  -- an array that is written
  · rename_i j off len zz
    split at h
    · rename_i cs0 hob
      split at h
      · rename_i hm
        cases h
        cases hX with
        | msl _ _ _ cap _ hj hjp hlc htot =>
          exact ⟨ρ, w, _, hnone _ _ _ hm hlc, Fr.refl _ _ _, hS, .msl j off len cap zz hj hjp hlc htot⟩
      · rename_i hm
        split at h
        · rename_i hcl
          obtain ⟨rfl, rfl, hcsl, hbd, hone⟩ := hcl
          cases h
          cases hX with
          | msl _ _ _ cap _ hj hjp hlc htot =>
            obtain ⟨-, hlab, vs0, rest0, ty1, hh0, hvs0, htt0⟩ := hS.cells j cs0 hob hjp
            obtain ⟨vs, rest, hvr, hvs⟩ : ∃ vs rest, vs ++ rest = vs0 ++ rest0 ∧ Vs ρ w s.size (cs0.take (len * i.size)) vs :=
              ⟨vs0.take (len * i.size), vs0.drop (len * i.size) ++ rest0, by rw [← List.append_assoc, List.take_append_drop], hvs0.take _⟩
            have hh := hh0
            have htt := htt0
            rw [← hvr] at hh htt
            have hcsl0 : (cs0.take (len * i.size)).length = len * i.size := by rw [List.length_take]; omega
            clear hcsl
            have hcsl := hcsl0
            have hvl := hvs.length
            have hmul : (len + m) * i.size = len * i.size + m * i.size := Nat.add_mul _ _ _
            by_cases hfit : len + m ≤ cap
            · have hle : (len + m) * i.size ≤ cap * i.size := Nat.mul_le_mul_right _ hfit
              have hst' := storeCells_run (P := P) us (o := len * i.size) (k := 0) hh (by rw [htt]; omega) (ones_V hus hone)
              have hrest : us.length ≤ rest.length := by
                rw [List.length_append] at htt; omega
              have hset : setV (vs ++ rest) (len * i.size + 0) us = (vs ++ us) ++ rest.drop us.length := by
                apply List.ext_getElem?
                intro q
                rw [Nat.add_zero]
                by_cases hq : q < vs.length
                · rw [setV_get us _ _ q (by omega), List.append_assoc, List.getElem?_append_left hq, List.getElem?_append_left hq]
                · by_cases hq2 : q < vs.length + us.length
                  · have := setV_new us (vs ++ rest) (len * i.size) (q - vs.length) (by rw [List.length_append]; omega) (by omega)
                    rw [show len * i.size + (q - vs.length) = q by omega] at this
                    rw [this, List.append_assoc, List.getElem?_append_right (by omega), List.getElem?_append_left (by omega)]
                  · rw [setV_after us _ _ q (by omega), List.getElem?_append_right (by omega), List.getElem?_append_right (by rw [List.length_append]; omega), List.getElem?_drop]
                    congr 1
                    rw [List.length_append]
                    omega
              obtain ⟨hF, hS'⟩ := grow_obj hS hob hjp (hvs.append hus) (rest := rest.drop us.length) (ty := ty1) (by rw [List.length_append, List.length_append, List.length_drop, ← htt, List.length_append]; omega)
              refine ⟨_, _, .slice (some ⟨ρ.blk j, 0, none⟩) (len + m) cap, ?_, hF, hS', ?_⟩
              · rw [append_fits ht hu hdu hi hlen hnew hfit]
                simp only [Addr.add_lit, Nat.zero_add]
                rw [hst', hset]
              · have := V.msl (ρ := ρ.newObj (ρ.blk j) s.size (ρ.tot j)) (w := putW w (ρ.blk j) (.cells ((vs ++ us) ++ rest.drop us.length).toArray ty1 (0, 0))) (n := ((s.put j none).new (.cells (cs0.take (len * i.size) ++ ys))).size) s.size 0 (len + m) cap i.size (by simp [St.new, St.put]) (id (pend_new hS : ρ.pend s.size = false)) hfit (by
                  simp only [Rho.newObj, if_true]; exact htot)
                have hb : (ρ.newObj (ρ.blk j) s.size (ρ.tot j)).blk s.size = ρ.blk j := by simp [Rho.newObj]
                rw [hb] at this
                exact this
            · have hold : (Builtin.firstCells i.size len (.slice (some ⟨ρ.blk j, 0, none⟩) len cap)).run P w.drew = .ok vs.toArray w.drew := by
                refine run_firstCells_some (P := P) w.drew i.size len ⟨ρ.blk j, 0, none⟩ len cap vs (by omega) ?_
                intro q v hq
                rw [Addr.add_lit]
                have hlt := (List.getElem?_eq_some_iff.1 hq).1
                show w.cell? _ = _
                simp only [World.cell?, hh]
                simp [List.getElem?_append_left hlt, hq]
              obtain ⟨cap2, rest2, hr, hc, hrl⟩ := append_grow (ty := ty) ht hu hdu hi hz hzs hb0 hlen hnew2 hold (by omega) hbd
              have hvs' : Vs ρ w.drew s.size (cs0.take (len * i.size)) vs := hvs.mono (drew_mono ρ w s.size)
              obtain ⟨hFk, hSk⟩ := kill_sim hSd j hjp
              obtain ⟨hF, hS'⟩ := new_obj hSk (cs := cs0.take (len * i.size) ++ ys) (vs := vs ++ us) (rest := rest2) (hvs'.append husd) e
              refine ⟨_, _, _, hr, (hFd.trans hFk).trans hF, hS', ?_⟩
              have htot2 : ((vs ++ us) ++ rest2).length = cap2 * i.size := by
                rw [List.length_append, List.length_append, hul, hrl, hvl, hcsl, ← Nat.add_mul, ← Nat.add_mul]; congr 1; omega
              have := V.msl (ρ := ρ.newObj w.drew.heap.size s.size ((vs ++ us) ++ rest2).length) (w := pushW w.drew (.cells ((vs ++ us) ++ rest2).toArray e (0, 0))) (n := ((s.put j none).new (.cells (cs0.take (len * i.size) ++ ys))).size) s.size 0 (len + m) cap2 i.size (by simp [St.new, St.put]) (id (pend_new hS : ρ.pend s.size = false)) hc (by
                simp only [Rho.newObj, if_true]; rw [htot2]; omega)
              have hb : (ρ.newObj w.drew.heap.size s.size ((vs ++ us) ++ rest2).length).blk s.size = w.drew.heap.size := by simp [Rho.newObj]
              rw [hb] at this
              exact this
        · cases h
    · cases h
  · cases h

end
end Go.Am
