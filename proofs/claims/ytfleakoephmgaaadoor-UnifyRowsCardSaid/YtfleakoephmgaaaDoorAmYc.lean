/- A law of a table's function holds in a table with more functions. Conditions: none. -/
import Derived.Test.YtfleakoephmgaaaDoorAmQ
set_option linter.unusedSimpArgs false
set_option linter.unusedVariables false
namespace Go.Am

/-- A table with more functions. -/
structure Sub (T : Nat → Option CF) (X : Ext) (T' : Nat → Option CF) (X' : Ext) : Prop where
  ext : ∀ f h, X f = some h → ∃ h', X' f = some h' ∧ ∀ a s r, h a s = some r → h' a s = some r
  fn : ∀ f cf, X f = none → T f = some cf → X' f = none ∧ T' f = some cf

theorem sub1 {T T' : Nat → Option CF} {X X' : Ext} (hs : Sub T X T' X') : ∀ n, (∀ c e s r, ev T X n c e s = some r → ev T' X' n c e s = some r) ∧ CLe (evCall T X n) (evCall T' X' n)
  | 0 => ⟨fun c e s r h => by simp [ev] at h, fun f a s r h => by simp [evCall] at h⟩
  | n + 1 => by
    obtain ⟨h1, h2⟩ := sub1 hs n
    refine ⟨fun c e s r h => ?_, fun f a s r h => ?_⟩
    · cases c with
      | skip => simpa [ev] using h
      | exit => simpa [ev] using h
      | ret => simpa [ev] using h
      | bad => simp [ev] at h
      | back => simp [ev] at h
      | reg ops =>
        simp only [ev] at h ⊢
        split at h
        · rename_i e' s' ho
          have := evOps_mono h2 _ _ _ _ ho
          simp only [this]; exact h
        · cases h
      | dreg ops chk =>
        simp only [ev] at h ⊢
        split at h
        · rename_i e' s' ho
          have := evRest_mono h2 _ _ _ _ ho
          simp only [this]
          split at h
          · rename_i hc
            rw [if_pos]
            · exact h
            · rw [List.all_eq_true] at hc ⊢
              exact fun p hp => chk1_mono h2 (fun k x hk => evTr_mono h2 _ _ _ _ _ hk) (hc p hp)
          · cases h
        · cases h
      | seq a b =>
        rw [ev] at h ⊢
        split at h
        · rename_i e' s' ha
          rw [h1 _ _ _ _ ha]
          exact h1 _ _ _ _ h
        · rename_i hn
          cases ho : ev T X n a e s with
          | none => rw [ho] at h; cases h
          | some q =>
            rw [ho] at h
            rw [h1 _ _ _ _ ho]
            obtain ⟨x, e', s'⟩ := q
            cases x with
            | normal => exact absurd ho (by simpa using hn e' s')
            | exit j => exact h
            | ret => exact h
      | cond c a b =>
        rw [ev] at h ⊢
        split at h
        · exact h1 _ _ _ _ h
        · exact h1 _ _ _ _ h
        · cases h
      | block id b =>
        rw [ev] at h ⊢
        cases ho : ev T X n b e s with
        | none => rw [ho] at h; cases h
        | some q => rw [ho] at h; rw [h1 _ _ _ _ ho]; exact h
      | loop b =>
        rw [ev] at h ⊢
        split at h
        · rename_i e' s' ha
          rw [h1 _ _ _ _ ha]
          exact h1 _ _ _ _ h
        · rename_i hn
          cases ho : ev T X n b e s with
          | none => rw [ho] at h; cases h
          | some q =>
            rw [ho] at h
            rw [h1 _ _ _ _ ho]
            obtain ⟨x, e', s'⟩ := q
            cases x with
            | normal => exact absurd ho (by simpa using hn e' s')
            | exit j => exact h
            | ret => exact h
    · rw [evCall] at h ⊢
      split at h
      · rename_i g hX
        obtain ⟨h', hX', hle⟩ := hs.ext _ _ hX
        rw [hX']
        exact hle _ _ _ h
      · rename_i hX
        split at h
        · cases h
        · rename_i cf hT
          obtain ⟨hX', hT'⟩ := hs.fn _ _ hX hT
          simp only [hX', hT']
          split at h
          · rename_i hl
            rw [if_pos hl]
            cases ho : ev T X n cf.body (env0 a) s with
            | none => rw [ho] at h; cases h
            | some q => rw [ho] at h; rw [h1 _ _ _ _ ho]; exact h
          · cases h

theorem WC.sub {T T' : Nat → Option CF} {X X' : Ext} (hs : Sub T X T' X') {f : Nat} {args : List AV} {s : St} {Q : AV → St → Prop} (h : WC T X f args s Q) : WC T' X' f args s Q :=
  let ⟨n, v, s', h1, h2⟩ := h
  ⟨n, v, s', (sub1 hs n).2 _ _ _ _ h1, h2⟩
end Go.Am
