/- A law of the abstract machine is one of Go. Conditions: none. -/
import Derived.Test.YtfleakoephmgaaaDoorAmQ
import Derived.Test.YtfleakoephmgaaaDoorAmQ
import Derived.Carry
set_option linter.unusedSimpArgs false
set_option linter.unusedVariables false
namespace Go.Am
open Go.RowKit

section
variable {R : Nat} {H : Type} {enc : TypeId × Value → H} {G : Glob} {P : Program} {W : World} {T : Nat → Option CF} {X : Ext}

theorem back (hl : laidOutB P = true) {W' : World} (hb : Below W.heap.size W W') : ∀ (pts : List TypeId) (vs : List Value) (ds : List (DataW H)) (ps : List MemPlace), pts.all (fun t => P.readableRec t && decide (t < P.types.size)) = true →
    DataW.TrodAll enc P W 0 (fun _ => true) true pts vs ds ps → (∀ x, x ∈ ps → x.block < W.heap.size) → DataW.TrodAll enc P W' 0 (fun b => decide (b < W.heap.size)) true pts vs ds ps
  | [], vs, ds, ps, _, h, _ => by
    obtain ⟨rfl, rfl, rfl⟩ := ChangeShapes.trodAll_nil h
    rfl
  | t :: pts, vs, ds, ps, hr, h, hlt => by
    obtain ⟨v, vs1, d, ds1, p, q, rfl, rfl, rfl, h1, h2⟩ := ChangeShapes.trodAll_cons h
    simp only [List.all_cons, Bool.and_eq_true, decide_eq_true_eq] at hr
    exact ⟨p, q, Below.trod hl hr.1.1 hr.1.2 h1 hb (fun x hx => hlt x (by simp [hx])), back hl hb pts vs1 ds1 q hr.2 h2 (fun x hx => hlt x (by simp [hx])), rfl⟩

theorem calls_true (hG : Good G P T X) (hgl : GlobR G (rho0 W) W 0) {f : Nat} {as : List AV} {args : Array Value} (h : WC T X f as st0 (fun v _ => v = .bool true)) (hV : Vs (rho0 W) W 0 as args.toList) :
    Calls P f args W (fun e W' => e = .returned (.bool true) ∧ Below W.heap.size W W') := by
  obtain ⟨n, v, s', h1, rfl⟩ := h
  obtain ⟨_, h2⟩ := (sound hG n).2.2 f as st0 _ s' h1 (rho0 W) W args.toList (sim0 W) hgl hV
  rw [show args.toList.toArray = args by simp] at h2
  refine h2.mono fun e w' ⟨ρ', v', he, hF, _, hv⟩ => ?_
  cases hv
  exact ⟨he, below_of hF⟩

theorem law_calls (hG : Good G P T X) (hgl : GlobR G (rho0 W) W 0) {ts pts : List TypeId} {f : Nat} (hc : closedB P ts = true) (hin : pts.all (fun t => ts.contains t) = true) (hl : laidOutB P = true) (hr : pts.all (fun t => P.readableRec t && decide (t < P.types.size)) = true)
    (hlaw : ∀ as, TyAsR R P pts as → WC T X f as st0 (fun v _ => v = .bool true)) {base : Nat} {r : Reach} {args : Array Value} {ds : List (DataW H)} {ps : List MemPlace}
    (hval : ∀ (j : Nat) t v, pts[j]? = some t → args[j]? = some v → Value.okWide P W r base t v) (hA : DataW.TrodAll enc P W 0 (fun _ => true) true pts args.toList ds ps)
    (hsz : (DataW.weightsEach P pts ds).all (· ≤ R) = true) (hlt : ∀ x, x ∈ ps → x.block < W.heap.size) :
    Calls P f args W (fun e W' => e = .returned (.bool true) ∧ Below W.heap.size W W' ∧ DataW.TrodAll enc P W' 0 (fun b => decide (b < W.heap.size)) true pts args.toList ds ps) := by
  obtain ⟨as, h1, h2⟩ := read_args hc pts args.toList ds ps (fun t ht => by simpa using List.all_eq_true.1 hin t ht) (fun j t v ht hv => hval j t v ht (by simpa using hv)) hA hsz
  exact (calls_true hG hgl (hlaw as h1) h2).mono fun e W' ⟨he, hb⟩ => ⟨he, hb, back hl hb pts _ _ _ hr hA hlt⟩

end
end Go.Am
