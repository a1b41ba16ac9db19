/- Appending. Conditions: none. -/
import Derived.Test.YtfleakoephmgaaaDoorAmE
import Derived.Laws.Append
set_option linter.unusedSimpArgs false
set_option linter.unusedVariables false
namespace Go.Am

theorem drew_mono (ρ : Rho) (w : World) (n : Nat) : Mono ρ w n ρ w.drew n :=
  ⟨Nat.le_refl _, fun _ _ h => ⟨h, rfl⟩, fun _ _ _ => rfl, fun _ _ _ => rfl, fun _ _ => rfl, fun _ _ h => h⟩

theorem drew_sim {ρ : Rho} {s : St} {w : World} (hS : Sim ρ s w) : Fr ρ s w ρ s w.drew ∧ Sim ρ s w.drew := by
  refine ⟨⟨drew_mono ρ w s.size, rfl, rfl, rfl, Nat.le_refl _, fun _ _ _ => ⟨rfl, rfl⟩, fun _ _ => rfl, fun _ => rfl⟩, ⟨hS.free, hS.pn, ?_, hS.right, froz_mono hS (drew_mono ρ w s.size) (fun _ _ h => h) (fun _ _ h => h), map_mono hS (drew_mono ρ w s.size) (fun _ _ h => h) (fun _ _ _ _ hl _ => ⟨hl, rfl⟩)⟩⟩
  intro i cs h hp
  obtain ⟨a, b, vs, r, ty, c, d, f⟩ := hS.cells i cs h hp
  exact ⟨a, b, vs, r, ty, c, d.mono (drew_mono ρ w s.size), f⟩

section
variable {P : Program}

/-- The argument that is appended: so many elements, and their cells. -/
theorem contents_sound {ρ : Rho} {s : St} {w : World} (hS : Sim ρ s w) {sz m : Nat} {y : AV} {yv : Value} {ys : List AV} (h : contents s sz y = some (m, ys)) (hV : V ρ w s.size y yv) :
    ∃ vs, Vs ρ w s.size ys vs ∧ vs.length = m * sz ∧ ∀ w1 : World, w1.heap = w.heap → (Builtin.lenOf yv).run P w1 = .ok m w1 ∧ (Builtin.firstCells sz m yv).run P w1 = .ok vs.toArray w1 := by
  unfold contents at h
  split at h
  · cases h; cases hV
    exact ⟨[], .nil, by simp, fun w1 _ => ⟨by simp [Builtin.lenOf], by simp [Builtin.firstCells]⟩⟩
  · split at h
    · rename_i hl
      cases h
      cases hV with
      | sl _ vs b o _ cap _ _ hvs ha hf hlc ht =>
        have hlv := hvs.length
        refine ⟨vs, hvs, by omega, fun w1 hw => ⟨by simp [Builtin.lenOf], ?_⟩⟩
        exact run_firstCells_some (P := P) w1 sz _ ⟨b, o, none⟩ _ cap vs (by omega) (by intro j v hj; rw [Addr.add_lit]; simp only [World.cell?, hw]; exact (ha j v hj).2)
      | sl0 a cap _ _ hf ha htk =>
        refine ⟨[], .nil, by simp, fun w1 _ => ⟨by simp [Builtin.lenOf], ?_⟩⟩
        cases a with
        | none => simp [Builtin.firstCells]
        | some a => exact run_firstCells_some (P := P) w1 sz 0 a 0 cap [] (by simp) (by simp)
    · cases h
  · rename_i j off len zz
    split at h
    · rename_i cs hob
      split at h
      · rename_i hc
        obtain ⟨rfl, hle⟩ := hc
        cases h
        cases hV with
        | msl _ _ _ cap _ hi hip hl ht =>
          obtain ⟨-, -, vs, rest, ty, hh, hvs, -⟩ := hS.cells _ cs hob hip
          have hlv := hvs.length
          refine ⟨(vs.drop off).take (m * zz), (hvs.drop _).take _, by simp; omega, fun w1 hw => ⟨by simp [Builtin.lenOf], ?_⟩⟩
          refine run_firstCells_some (P := P) w1 zz _ ⟨ρ.blk j, off, none⟩ _ cap _ (by simp; omega) ?_
          intro jj v hj
          rw [Addr.add_lit]
          rw [List.getElem?_take] at hj
          split at hj
          · rw [List.getElem?_drop] at hj
            have hlt := (List.getElem?_eq_some_iff.1 hj).1
            simp only [World.cell?, hw, hh]
            simp [List.getElem?_append_left hlt, hj]
          · cases hj
      · cases h
    · rename_i cs hob
      split at h
      · rename_i hc
        obtain ⟨rfl, hle⟩ := hc
        cases h
        cases hV with
        | msl _ _ _ cap _ hi hip hl ht =>
          obtain ⟨-, -, vs, hvs, ha⟩ := hS.froz _ cs hob
          have hlv := hvs.length
          refine ⟨(vs.drop off).take (m * zz), (hvs.drop _).take _, by simp; omega, fun w1 hw => ⟨by simp [Builtin.lenOf], ?_⟩⟩
          refine run_firstCells_some (P := P) w1 zz _ ⟨ρ.blk j, off, none⟩ _ cap _ (by simp; omega) ?_
          intro jj v hj
          rw [Addr.add_lit]
          rw [List.getElem?_take] at hj
          split at hj
          · rw [List.getElem?_drop] at hj
            have := (ha (off + jj) v hj).2
            rw [Nat.zero_add] at this
            simp only [World.cell?, hw]
            exact this
          · cases hj
      · cases h
    · cases h
  · split at h
    · rename_i hz
      cases h; cases hV
      rename_i t
      refine ⟨t.data.toList.map fun b => .int .u8 b.toNat, ?_, ?_, fun w1 _ => ⟨by simp [Builtin.lenOf], ?_⟩⟩
      · generalize t.data.toList = l
        induction l with
        | nil => exact .nil
        | cons c l ih => exact .cons _ _ _ _ (.int _ _) ih
      · rw [List.length_map, Array.length_toList, hz, Nat.mul_one]; rfl
      · simp only [Builtin.firstCells]
        have hx : t.extract 0 t.size = t := by
          apply ByteArray.ext
          simp
        rw [hx]
        have hy : Array.map (fun b : UInt8 => Value.int IntKind.u8 (b.toNat : Int)) t.data = (t.data.toList.map fun b : UInt8 => Value.int IntKind.u8 (b.toNat : Int)).toArray := by
          apply Array.ext'
          simp
        rw [hy]
        rfl
    · cases h
  · cases h

theorem append_grow {t u ty e : TypeId} {i : TypeInfo} {z : Value} {du : TypeDesc} (ht : P.underlying t = some (.slice e)) (hu : P.underlying u = some du) (hdu : ∀ k, du ≠ .int k) (hi : P.info? e = some i) (hz : i.zero = some z) (hzs : z.cells.size = i.size)
    (hb0 : 0 < i.bytes) {w : World} {base : Option Addr} {sLen sCap n : Nat} {x : Value} {olds news : List Value} (hlen : (Builtin.lenOf x).run P w = .ok n w)
    (hnew : (Builtin.firstCells i.size n x).run P w.drew = .ok news.toArray w.drew) (hold : (Builtin.firstCells i.size sLen (.slice base sLen sCap)).run P w.drew = .ok olds.toArray w.drew)
    (hg : sCap < sLen + n) (hfit : (sLen + n) * i.bytes ≤ 140737488355328) :
    ∃ cap' rest, (Builtin.append_ #[t, u] ty #[.slice base sLen sCap, x]).run P w = .ok (.slice (some ⟨w.heap.size, 0, none⟩) (sLen + n) cap') (pushW w.drew (.cells (olds ++ news ++ rest).toArray e (0, 0))) ∧
      sLen + n ≤ cap' ∧ rest.length = (cap' - (sLen + n)) * i.size := by
  have hn : ¬ (sLen + n ≤ sCap) := by omega
  have hsm : sLen + n ≤ 140737488355328 := Nat.le_trans (Nat.le_mul_of_pos_right _ hb0) hfit
  have h63' : ¬ (9223372036854775807 < ((sLen : Int) + (n : Int))) := by omega
  have h48 := growslice_fits hg hfit
  have h48' : ¬ (281474976710656 < Builtin.nextslicecap (sLen + n) sCap * i.bytes) := by omega
  refine ⟨grownCap w (sLen + n) sCap e, (Builtin.zeroCells z.cells (grownCap w (sLen + n) sCap e - (sLen + n))).toList, ?_, ?_, ?_⟩
  · have hzero : (match du with | .int _ => true | _ => false) = false := by
      cases du <;> first | rfl | exact absurd rfl (hdu _)
    simp [Builtin.append_, run_underlying ht, run_underlying hu, sizeOf, typeInfo, zeroValue, hi, hz, hlen, hn, h63', h48', Question.forced, hnew, hold, newRow, grownCap, pushW]
    have hr : ∀ r : Array Value, (olds ++ (news ++ r.toList)).toArray = olds.toArray ++ (news.toArray ++ r) := fun r => by apply Array.ext'; simp
    rw [hr]
    rfl
  · unfold grownCap; simp [Question.cut]
  · simp [Builtin.zeroCells, hzs]

theorem append_fits {t u ty e : TypeId} {i : TypeInfo} {du : TypeDesc} (ht : P.underlying t = some (.slice e)) (hu : P.underlying u = some du) (hdu : ∀ k, du ≠ .int k) (hi : P.info? e = some i)
    {w : World} {base : Option Addr} {sLen sCap n : Nat} {x : Value} {news : List Value} (hlen : (Builtin.lenOf x).run P w = .ok n w)
    (hnew : (Builtin.firstCells i.size n x).run P w = .ok news.toArray w) (hg : sLen + n ≤ sCap) :
    (Builtin.append_ #[t, u] ty #[.slice base sLen sCap, x]).run P w =
      match base with
      | some a => (match (storeCells (a.add (sLen * i.size)) news).run P w with | .ok _ w' => .ok (.slice base (sLen + n) sCap) w' | .halt h w' => .halt h w')
      | none => .ok (.slice none (sLen + n) sCap) w := by
  have hzero : (match du with | .int _ => true | _ => false) = false := by
    cases du <;> first | rfl | exact absurd rfl (hdu _)
  cases base with
  | none => simp [Builtin.append_, run_underlying ht, run_underlying hu, sizeOf, typeInfo, hi, hlen, hg, hnew]
  | some a =>
    simp [Builtin.append_, run_underlying ht, run_underlying hu, sizeOf, typeInfo, hi, hlen, hg, hnew]
    cases (storeCells (a.add (sLen * i.size)) news).run P w <;> rfl

end
end Go.Am
