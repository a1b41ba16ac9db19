/- The bound of bulk, and the wrap of a row that bears a condition and lists variables, the world's shape kept. Conditions: none. -/
import Derived.Test.YtjhbakfgoaeeoaaDoorAmP
import Derived.Test.YtjhbakfgoaeeoaaDoorRows
import Derived.Deep.CondSized
import Derived.HandedShaped
import Derived.LaidMore
set_option linter.unusedSimpArgs false
set_option linter.unusedVariables false
namespace Go.Am.Yd
open Go.RowKit Go.Proofs.YtjhbakfgoaeeoaaDoor

theorem one_le {H : Type} (d : DataW H) : 1 ≤ Rows.uptoBulk d := by
  cases d with
  | lit l => cases l <;> simp [Rows.uptoBulk]
  | nil => simp [Rows.uptoBulk]
  | ptr d => simp [Rows.uptoBulk]
  | slice elems spare => simp [Rows.uptoBulk]
  | agg parts => simp [Rows.uptoBulk]
  | iface t d => simp [Rows.uptoBulk]
  | map entries => simp [Rows.uptoBulk]
  | held h => simp [Rows.uptoBulk]
theorem len_le {H : Type} (l : List (DataW H)) : l.length ≤ Rows.uptoBulkAll l := by
  induction l with
  | nil => simp [Rows.uptoBulkAll]
  | cons x r ih => have := one_le x; simp only [Rows.uptoBulkAll, List.length_cons]; omega

section
variable {H : Type} {P : Program} {ts : List TypeId} {B K : Nat}

mutual
theorem w_le (hc : closedB P ts = true) (hK : ∀ t, t ∈ ts → P.bytesOf t ≤ K) (h1 : 1 ≤ K) : ∀ (d : DataW H) (t : TypeId), t ∈ ts → Rows.uptoBulk d ≤ B → ∀ n, n ∈ d.weights P t → n ≤ B * K
  | .lit l, t, _, hb, n, hn => by
    cases l with
    | string b =>
      simp only [DataW.weights, List.mem_singleton] at hn
      simp only [Rows.uptoBulk] at hb
      subst hn
      exact Nat.le_trans (by omega : b.length ≤ B) (Nat.le_mul_of_pos_right _ h1)
    | _ => simp [DataW.weights] at hn
  | .nil, t, _, hb, n, hn => by simp [DataW.weights] at hn
  | .ptr d, t, ht, hb, n, hn => by
    rcases closed_at hc ht with hu | ⟨k, hu⟩ | hu | ⟨e, hu, he, hpos⟩ | ⟨fs, hu, hcg, hfs⟩ <;> simp [DataW.weights, hu] at hn
  | .slice elems spare, t, ht, hb, n, hn => by
    rcases closed_at hc ht with hu | ⟨k, hu⟩ | hu | ⟨e, hu, he, hpos⟩ | ⟨fs, hu, hcg, hfs⟩
    · simp [DataW.weights, hu] at hn
    · simp [DataW.weights, hu] at hn
    · simp [DataW.weights, hu] at hn
    · simp only [DataW.weights, hu, List.mem_cons, List.mem_append] at hn
      simp only [Rows.uptoBulk] at hb
      rcases hn with rfl | hn | hn
      · have h2 := len_le elems
        have h3 := len_le spare
        exact Nat.mul_le_mul (by omega) (hK e he)
      · exact wAll_le hc hK h1 elems e he (by omega) n hn
      · exact wAll_le hc hK h1 spare e he (by omega) n hn
    · simp [DataW.weights, hu] at hn
  | .agg parts, t, ht, hb, n, hn => by
    rcases closed_at hc ht with hu | ⟨k, hu⟩ | hu | ⟨e, hu, he, hpos⟩ | ⟨fs, hu, hcg, hfs⟩
    · simp [DataW.weights, hu] at hn
    · simp [DataW.weights, hu] at hn
    · simp [DataW.weights, hu] at hn
    · simp [DataW.weights, hu] at hn
    · simp only [DataW.weights, hu] at hn
      simp only [Rows.uptoBulk] at hb
      exact wEach_le hc hK h1 parts (fs.toList.map (·.type)) (fun t ht => by obtain ⟨f, hf, rfl⟩ := List.mem_map.1 ht; exact hfs f hf) (by omega) n hn
  | .iface _ _, t, _, hb, n, hn => by simp [DataW.weights] at hn
  | .map entries, t, ht, hb, n, hn => by
    rcases closed_at hc ht with hu | ⟨k, hu⟩ | hu | ⟨e, hu, he, hpos⟩ | ⟨fs, hu, hcg, hfs⟩ <;> simp [DataW.weights, hu] at hn
  | .held _, t, _, hb, n, hn => by simp [DataW.weights] at hn
theorem wAll_le (hc : closedB P ts = true) (hK : ∀ t, t ∈ ts → P.bytesOf t ≤ K) (h1 : 1 ≤ K) : ∀ (l : List (DataW H)) (t : TypeId), t ∈ ts → Rows.uptoBulkAll l ≤ B → ∀ n, n ∈ DataW.weightsAll P t l → n ≤ B * K
  | [], t, _, _, n, hn => by simp [DataW.weightsAll] at hn
  | d :: r, t, ht, hb, n, hn => by
    simp only [Rows.uptoBulkAll] at hb
    simp only [DataW.weightsAll, List.mem_append] at hn
    rcases hn with hn | hn
    · exact w_le hc hK h1 d t ht (by omega) n hn
    · exact wAll_le hc hK h1 r t ht (by omega) n hn
theorem wEach_le (hc : closedB P ts = true) (hK : ∀ t, t ∈ ts → P.bytesOf t ≤ K) (h1 : 1 ≤ K) : ∀ (l : List (DataW H)) (us : List TypeId), (∀ t, t ∈ us → t ∈ ts) → Rows.uptoBulkAll l ≤ B → ∀ n, n ∈ DataW.weightsEach P us l → n ≤ B * K
  | [], us, _, _, n, hn => by cases us <;> simp [DataW.weightsEach] at hn
  | d :: r, [], _, hb, n, hn => by simp [DataW.weightsEach] at hn
  | d :: r, t :: us, hin, hb, n, hn => by
    simp only [Rows.uptoBulkAll] at hb
    simp only [DataW.weightsEach, List.mem_append] at hn
    rcases hn with hn | hn
    · exact w_le hc hK h1 d t (hin t (by simp)) (by omega) n hn
    · exact wEach_le hc hK h1 r us (fun t ht => hin t (by simp [ht])) (by omega) n hn
end

theorem each_le (hc : closedB P ts = true) (hK : ts.all (fun t => decide (P.bytesOf t ≤ K)) = true) (h1 : 1 ≤ K) {l : List (DataW H)} {us : List TypeId} (hin : us.all (fun t => ts.contains t) = true) (hb : Rows.uptoBulkAll l ≤ B) :
    (DataW.weightsEach P us l).all (· ≤ B * K) = true := by
  rw [List.all_eq_true]
  intro n hn
  exact decide_eq_true (wEach_le hc (fun t ht => by simpa using List.all_eq_true.1 hK t ht) h1 l us (fun t ht => by simpa using List.all_eq_true.1 hin t ht) hb n hn)
end
end Go.Am.Yd

namespace Go
theorem returnsInHanded_of_cond_and_shaped {H : Type} {enc : TypeId × Value → H} {a : Assume} {C : Checked} {os : Os} {f : FuncId} {fn : Func} {s : OpenSpec} {k : (H : Type) → List (DataW H) → Bool} (hk : s.cond = some k) {F : Stop.Interp} {conds : List PathCond} {apart fresh handsOn again : Bool} {X : World → Array Value → Prop}
    (hX : ∀ (w w' : World) (args : Array Value), w.heap = w'.heap → X w args → X w' args)
    (own : ownKnob C.prog.godebug = none) (started : os.Started) (noInit : C.prog.inits.idxOf? f = none) (hfn : C.prog.funcs[f]? = some fn)
    (witness : ∃ (w : World) (tape : Tape) (i : Input), w.os = os ∧ (w.forCall tape i).Shaped C.prog ∧ i.vars = [] ∧ Input.okWide C.prog (w.forCall tape i) .any w.heap.size f i ∧
      ((s.pre enc C.prog fn conds apart (w.forCall tape i).memory i.args ∧ X (w.forCall tape i).memory i.args) ∧ sizedMet enc C.prog fn s apart (w.forCall tape i).memory i.args) ∧ a.holds C.prog (lone (Frame.enter C.prog f i.args .normal) [] (w.forCall tape i)))
    (contract : ∀ (W : World) (base : Nat) (args : Array Value) (ds gs : List (DataW H)) (before : List MemPlace),
      (∀ (j : Nat) t v, fn.params[j]? = some t → args[j]? = some v → Value.okWide C.prog W .any base t v) →
      DataW.Whole enc C.prog fn.params.toList s.vars apart W args.toList ds gs before → k H (ds ++ gs) = true →
      (DataW.weightsEach C.prog (fn.params.toList ++ s.bare.plain.varTypes C.prog) (ds ++ gs)).all (· ≤ reachBytes) = true → X W args → W.ShapedOpen C.prog →
      Calls C.prog f args W fun e W' => ∃ v, e = .returned v ∧ (s.at F).post enc C.prog fn apart fresh handsOn again W args v W') :
    ReturnsInHanded a C os f .any (fun w args => (s.pre enc C.prog fn conds apart w args ∧ X w args) ∧ sizedMet enc C.prog fn s apart w args) ((s.at F).post enc C.prog fn apart fresh handsOn again) := by
  refine returnsInHanded_of_calls own started noInit witness ?_
  intro w tape i _ hsh _ hok hpre hholds
  obtain ⟨_, _, _, fn', hfn', _, _, _, _, hval⟩ := hok
  have e : fn' = fn := Option.some.inj (hfn'.symm.trans hfn)
  subst e
  obtain ⟨⟨hp0, hx⟩, hz⟩ := hpre
  obtain ⟨ds, gs, before, hw, hc, hkk⟩ := (OpenSpec.pre_some hk conds apart _ _).1 hp0
  have hw' := DataW.Whole.of_heap (w' := w.forCall tape i) (by rfl) hw
  refine (contract (w.forCall tape i) w.heap.size i.args ds gs before hval hw' hkk (hz.weights hw) (hX _ _ _ (by rfl) hx) hsh).mono fun e W' ⟨v, he, hp⟩ => ?_
  subst he
  exact ChangeSpec.post_blind hp

theorem OpenSpec.witness_shaped {H : Type} {enc : TypeId × Value → H} {C : Checked} {os : Os} {f : FuncId} {fn : Func} {s : OpenSpec} {k : (H : Type) → List (DataW H) → Bool} (hk : s.cond = some k) {conds : List PathCond} {apart : Bool} {X : World → Array Value → Prop} (modest : Bool) (w0 : World) (args : Array Value) (fuel : Nat) (hos : w0.os = os)
    (hsh : (w0.forCall (fun _ _ => 0) ⟨#[], args, []⟩).Shaped C.prog)
    (hok : Input.okWideB C.prog (w0.forCall (fun _ _ => 0) ⟨#[], args, []⟩) f ⟨#[], args, []⟩ = true)
    {x : List (DataW H) × List (DataW H) × List MemPlace} (hx : DataW.whole enc C.prog (w0.forCall (fun _ _ => 0) ⟨#[], args, []⟩).memory fn.params.toList s.vars apart args.toList fuel = some x)
    (hconds : conds.all (PathCond.test C.prog ⟨fn.params.toList, x.1, s.bare.plain.varTypes C.prog, x.2.1⟩) = true) (hkk : k H (x.1 ++ x.2.1) = true)
    (hsz : s.bare.sizedB enc C.prog fn apart (w0.forCall (fun _ _ => 0) ⟨#[], args, []⟩).memory args fuel = true)
    (hxx : X (w0.forCall (fun _ _ => 0) ⟨#[], args, []⟩).memory args) :
    ∃ (w : World) (tape : Tape) (i : Input), w.os = os ∧ (w.forCall tape i).Shaped C.prog ∧ i.vars = [] ∧ Input.okWide C.prog (w.forCall tape i) .any w.heap.size f i ∧
      ((s.pre enc C.prog fn conds apart (w.forCall tape i).memory i.args ∧ X (w.forCall tape i).memory i.args) ∧ sizedMet enc C.prog fn s apart (w.forCall tape i).memory i.args) ∧ ({ modest := modest } : Assume).holds C.prog (lone (Frame.enter C.prog f i.args .normal) [] (w.forCall tape i)) :=
  ⟨w0, fun _ _ => 0, ⟨#[], args, []⟩, hos, hsh, (Input.okWide_of_okWideB (base := 0) hok).1, (Input.okWide_of_okWideB hok).2, ⟨⟨(OpenSpec.pre_some hk conds apart _ _).2 ⟨x.1, x.2.1, x.2.2, DataW.Whole_of_whole hx, hconds, hkk⟩, hxx⟩, sizedMet_of_sizedB hsz⟩, by
    simp only [Assume.holds]
    exact ⟨by simp, by simp, fun _ => Modest.zero, by simp, by simp⟩⟩
end Go
