/- slices.Collect over slices.Values at strings as the abstract machine has it. Conditions: none. -/
import Derived.Test.YtjhbakfgoaeeoaaAmMa
import Derived.Test.YtjhbakfgoaeeoaaAmY8
namespace Go.Am
open Go.RowKit Go.Proofs

def collectX (yf : Nat) : List AV → St → Option (AV × St)
  | [.func g [.ptr p 0]], st => if g = yf then match st.obj p with
    | some (.cells [.nils]) => some (.nils, st)
    | some (.cells [.sl cs len _ _]) => match strsOf cs with
      | some l => if l.length = len ∧ len * 16 ≤ 140737488351232 then (if len = 0 then some (.nils, st) else some (.msl st.size 0 len 1, st.new (.cells (l.flatMap strc)))) else none
      | none => none
    | _ => none
    else none
  | _, _ => none

/-- A block that was laid behind what is known becomes an object. -/
theorem new_at {ρ : Rho} {s : St} {w w' : World} (hS : Sim ρ s w) (hb : Below w.heap.size w w') {cs : List AV} {vs rest : List Value} {g : Nat} {ty : TypeId} (hg : w.heap.size ≤ g) (hh : w'.heap[g]? = some (.cells (vs ++ rest).toArray ty (0, 0)))
    (hv : Vs ρ w s.size cs vs) : Fr ρ s w (ρ.newObj g s.size (vs ++ rest).length) (s.new (.cells cs)) w' ∧ Sim (ρ.newObj g s.size (vs ++ rest).length) (s.new (.cells cs)) w' := by
  have hgl : g < w'.heap.size := (Array.getElem?_eq_some_iff.1 hh).1
  have hm : Mono ρ w s.size (ρ.newObj g s.size (vs ++ rest).length) w' (s.new (.cells cs)).size := by
    refine ⟨by simp [St.new], ?_, ?_, ?_, fun _ _ => rfl, fun _ _ h => h⟩
    · intro b o hi
      have hbl := imm_lt hS hi
      refine ⟨?_, by simp only [World.cell?, hb.block b hbl]⟩
      simp only [Imm, Rho.newObj]
      rw [if_neg (by omega)]
      exact hi
    · intro i hi _; simp only [Rho.newObj]; rw [if_neg (by omega)]
    · intro i hi _; simp only [Rho.newObj]; rw [if_neg (by omega)]
  refine ⟨⟨hm, hb.os, hb.tape, hb.output, hb.size, ?_, fun i hp => by simp only [St.new]; rw [if_neg (by have := (hS.pn i hp).1; omega)], fun _ => rfl⟩, ⟨?_, ?_, ?_, ?_, froz_mono hS hm (fun _ _ h => h) (fun i cs h => by simp only [St.new] at h; split at h <;> first | exact h | cases h)⟩⟩
  · intro b hbl _
    refine ⟨?_, hb.block b hbl⟩
    simp only [Rho.newObj]
    rw [if_neg (by omega)]
  · intro b hbl
    simp only [Rho.newObj]
    rw [if_neg (by omega)]
    exact hS.free b (Nat.le_trans hb.size hbl)
  · intro i hp
    obtain ⟨hlt, hne⟩ := hS.pn i hp
    refine ⟨by simp only [St.new]; omega, ?_⟩
    simp only [St.new]
    rw [if_neg (by omega)]
    exact hne
  · intro i cs' h hp
    simp only [St.new] at h
    split at h
    · rename_i hi
      cases h
      subst hi
      refine ⟨by simp [St.new], by simp [Rho.newObj], vs, rest, ty, ?_, hv.mono hm, by simp [Rho.newObj]⟩
      simp only [Rho.newObj, if_true]
      exact hh
    · rename_i hi
      obtain ⟨hi', hl, vs', rest', ty', hh', hvs, ht⟩ := hS.cells i cs' h hp
      have hbl := blk_lt hS h hp
      refine ⟨by simp only [St.new]; omega, ?_, vs', rest', ty', ?_, hvs.mono hm, ?_⟩
      · simp only [Rho.newObj, if_neg hi]; rw [if_neg (by omega)]; exact hl
      · simp only [Rho.newObj, if_neg hi]; rw [hb.block _ hbl]; exact hh'
      · simp only [Rho.newObj, if_neg hi]; exact ht
  · intro t h
    simp only [St.new] at h
    split at h
    · cases h
    · obtain ⟨ht, b, len, cap, z, h1, h2, vs', ty', h3, h4⟩ := hS.right t h
      have hbl : b < w.heap.size := (Array.getElem?_eq_some_iff.1 h3).1
      refine ⟨by simp only [St.new]; omega, b, len, cap, z, h1, ?_, vs', ty', ?_, h4⟩
      · simp only [Rho.newObj]; rw [if_neg (by omega)]; exact h2
      · rw [hb.block _ hbl]; exact h3

theorem collect_callC {G : Glob} {P : Program} {f yf : Nat} (he : ∀ args w, (callFunc f args).run P w = .ok (.enter f args) w)
    (hc : ∀ (Bs bo : Nat) (sv : Value) (zs : List ByteArray), zs.length ≤ maxLen → zs.length * 16 ≤ 140737488351232 → ∀ w : World, Bs < w.heap.size → w.cell? ⟨Bs, bo, none⟩ = some sv → Try.Strs w.heap.size w sv zs →
      Calls P f #[.func (.func yf) #[] #[.pointer (some ⟨Bs, bo, none⟩)]] w fun e W' => ∃ v, e = .returned v ∧ W'.ownsRow w.heap.size 9 1 v zs.length (zs.map Value.string) ∧ (v = .slice none 0 0 ↔ zs = []) ∧ Below w.heap.size w W') :
    ∀ args s v s', collectX yf args s = some (v, s') → CallC G P f args s v s' := by
  intro args s v s' h
  unfold collectX at h
  split at h
  · split at h
    · rename_i g p hgy
      subst hgy
      have cell1 : ∀ (ρ : Rho) (w : World) (v : AV), Sim ρ s w → s.obj p = some (.cells [v]) → ρ.pend p = false → ρ.blk p < w.heap.size ∧ ∃ sv, V ρ w s.size v sv ∧ w.cell? ⟨ρ.blk p, 0, none⟩ = some sv := by
        intro ρ w v hS ho hp
        obtain ⟨-, -, vs, rest, ty, hh, hvs, -⟩ := hS.cells p _ ho hp
        obtain ⟨z, rfl, hz⟩ := argv1 hvs
        exact ⟨blk_lt hS ho hp, z, hz, by simp [World.cell?, hh]⟩
      -- the common part
      have main : ∀ (l : List ByteArray) (ρ : Rho) (w : World) (Bs bo : Nat) (sv : Value), Sim ρ s w → Bs < w.heap.size → w.cell? ⟨Bs, bo, none⟩ = some sv → Try.Strs w.heap.size w sv l → l.length * 16 ≤ 140737488351232 →
          Calls P f #[.func (.func g) #[] #[.pointer (some ⟨Bs, bo, none⟩)]] w fun e W' => ∃ ρ' v', e = .returned v' ∧
            (if l.length = 0 then Fr ρ s w ρ' s W' ∧ Sim ρ' s W' ∧ V ρ' W' s.size .nils v' else
              Fr ρ s w ρ' (s.new (.cells (l.flatMap strc))) W' ∧ Sim ρ' (s.new (.cells (l.flatMap strc))) W' ∧ V ρ' W' (s.new (.cells (l.flatMap strc))).size (.msl s.size 0 l.length 1) v') := by
        intro l ρ w Bs bo sv hS hi hcell hL hlb
        refine (hc Bs bo sv l (by simp only [maxLen]; omega) hlb w hi hcell hL).mono ?_
        rintro e W' ⟨v', rfl, ⟨hlen, hrow⟩, hnil, hbel⟩
        by_cases h0 : l.length = 0
        · have hl0 : l = [] := List.eq_nil_of_length_eq_zero h0
          obtain rfl := hnil.2 hl0
          obtain ⟨hF, hS'⟩ := below_sim hS hbel
          exact ⟨ρ, _, rfl, by rw [if_pos h0]; exact ⟨hF, hS', .nils⟩⟩
        · rcases hrow with ⟨rfl, he0⟩ | ⟨gb, cap, cur, rfl, hge, hh, hle, hcm, hcs, htk⟩
          · exact absurd he0 h0
          · have hcur : cur = (l.map Value.string ++ cur.toList.drop (l.length * 1)).toArray := by
              rw [← Array.toList_inj]
              rw [← htk, List.take_append_drop]
            rw [hcur] at hh
            obtain ⟨hF, hS'⟩ := new_at hS hbel hge hh (strs_vs (w' := w) (n := s.size) (ρ := ρ) l)
            refine ⟨ρ.newObj gb s.size (l.map Value.string ++ cur.toList.drop (l.length * 1)).length, _, rfl, ?_⟩
            rw [if_neg h0]
            refine ⟨hF, hS', ?_⟩
            have hb2 : (ρ.newObj gb s.size (l.map Value.string ++ cur.toList.drop (l.length * 1)).length).blk s.size = gb := by simp [Rho.newObj]
            have hV : V (ρ.newObj gb s.size (l.map Value.string ++ cur.toList.drop (l.length * 1)).length) W' (s.size + 1) (.msl s.size 0 l.length 1) (.slice (some ⟨(ρ.newObj gb s.size (l.map Value.string ++ cur.toList.drop (l.length * 1)).length).blk s.size, 0, none⟩) l.length cap) := by
              refine .msl s.size 0 l.length cap 1 (Nat.lt_succ_self _) (show ρ.pend s.size = false from pend_new hS) hle ?_
              simp only [Rho.newObj, if_true, List.length_append, List.length_map, List.length_drop, Array.length_toList]
              omega
            rw [hb2] at hV
            exact hV
      split at h
      · rename_i ho
        cases h
        intro ρ w argv hS hG hV
        refine ⟨he _, ?_⟩
        obtain ⟨x, rfl, hx⟩ := argv1 hV
        cases hx with
        | func _ _ vs hvs =>
          obtain ⟨y, rfl, hy⟩ := argv1 hvs
          cases hy with
          | ptr _ _ hi hp =>
            obtain ⟨hb, z, hz, hcell⟩ := cell1 ρ w _ hS ho hp
            cases hz
            refine (main [] ρ w (ρ.blk p) 0 _ hS hb hcell (Or.inl ⟨_, _, rfl, rfl⟩) (by simp)).mono ?_
            rintro e W' ⟨ρ', v', rfl, hh⟩
            rw [if_pos (show ([] : List ByteArray).length = 0 from rfl)] at hh
            exact ⟨ρ', v', rfl, hh⟩
      · rename_i ho
        split at h
        · rename_i l hl
          split at h
          · rename_i hcd
            obtain ⟨rfl, hbl⟩ := hcd
            obtain rfl := strsOf_some hl
            have fin : ∀ (ρ : Rho) (w : World) (b o : Nat) (sv : Value), Sim ρ s w → b < w.heap.size → w.cell? ⟨b, o, none⟩ = some sv → Try.Strs w.heap.size w sv l →
                Calls P f #[.func (.func g) #[] #[.pointer (some ⟨b, o, none⟩)]] w fun e W' => ∃ ρ' v', e = .returned v' ∧ Fr ρ s w ρ' s' W' ∧ Sim ρ' s' W' ∧ V ρ' W' s'.size v v' := by
              intro ρ w b o sv hS hi hcell hL
              refine (main l ρ w b o sv hS hi hcell hL hbl).mono ?_
              rintro e W' ⟨ρ', v', rfl, hh⟩
              refine ⟨ρ', v', rfl, ?_⟩
              split at h
              · rename_i h0
                cases h
                rw [if_pos h0] at hh
                exact hh
              · rename_i h0
                cases h
                rw [if_neg h0] at hh
                exact hh
            intro ρ w argv hS hG hV
            refine ⟨he _, ?_⟩
            obtain ⟨x, rfl, hx⟩ := argv1 hV
            cases hx with
            | func _ _ vs hvs =>
              obtain ⟨y, rfl, hy⟩ := argv1 hvs
              cases hy with
              | ptr _ _ hi hp =>
                obtain ⟨hb, z, hz, hcell⟩ := cell1 ρ w _ hS ho hp
                refine fin ρ w (ρ.blk p) 0 z hS hb hcell ?_
                generalize hq : l.flatMap strc = q at hz
                generalize hn : l.length = n at hz
                cases hz with
                | sl0 a cap _ _ hf ha' ht =>
                  exact Or.inl ⟨a, cap, rfl, List.eq_nil_of_length_eq_zero hn⟩
                | sl _ vs3 b2 o2 _ cap _ _ hvs3 ha3 hf hlc ht =>
                  subst hq
                  by_cases h0 : n = 0
                  · subst h0
                    exact Or.inl ⟨_, _, rfl, List.eq_nil_of_length_eq_zero hn⟩
                  · obtain rfl := vs_strs hvs3
                    have hcl : ∀ (j : Nat) x, l[j]? = some x → w.cell? ⟨b2, o2 + j, none⟩ = some (.string x) := fun j x hj => (ha3 j _ (by rw [List.getElem?_map, hj]; rfl)).2
                    have hb2 : b2 < w.heap.size := by
                      obtain ⟨x, hx⟩ : ∃ x, l[0]? = some x := ⟨_, List.getElem?_eq_getElem (by omega)⟩
                      exact World.block_lt_of_cell? w ⟨b2, o2 + 0, none⟩ (hcl 0 x hx)
                    refine Or.inr ⟨b2, o2, cap, by rw [hn], hb2, fun j hj => ?_⟩
                    have hx := hcl j _ (List.getElem?_eq_getElem hj)
                    rw [hx, Try.strAt, List.getElem?_eq_getElem hj]; rfl
          · cases h
        · cases h
      · cases h
    · cases h
  · cases h
end Go.Am
