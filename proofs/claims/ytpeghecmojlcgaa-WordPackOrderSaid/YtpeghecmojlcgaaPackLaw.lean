/- The machine representation of words keeps the order, is odd and adds: WordPackOrder answers true for every two integers. Conditions: none. -/
import Derived.Test.YtpeghecmojlcgaaRows
import Derived.Test.YtpeghecmojlcgaaWd
import Derived.Lib.Hide
import Derived.WalkKit
import Derived.ProofKit
import Derived.OpenShut
namespace Go.Proofs.Ytpeghecmojlcgaa.wordPackOrder
open Go.ChangeShapes Go.WideShapes Go.ChangeAt Go.RowKit
set_option linter.unusedVariables false

theorem own : ownKnob Try.prog.godebug = none := by kernel_rfl


theorem ret_int {k : IntKind} {a b : Int} (h : a = b) : Ending.returned (.int k a) = .returned (.int k b) := by rw [h]

theorem wrap_any (a : Int) (w : World) : Calls Try.prog 12 #[.int .i64 a] w fun e w' => e = .returned (.int .i64 (wd a)) ∧ w = w' := by
  go_enter Try.func12, Try.ntmps12
  go_wp2
  go_ret
  exact ⟨ret_int (wrap_val a), rfl⟩

theorem pack_any (a : Int) (h0 : -1073741824 ≤ a) (h1 : a < 1073741824) (w : World) : Calls Try.prog 13 #[.int .i64 a] w fun e w' => e = .returned (.int .i64 (2 * a + 1)) ∧ w = w' := by
  have hw : wd a = a := by unfold wd; omega
  have HW := Lib.hid hw
  have hb := wd_bd a
  obtain ⟨hb0, hb1⟩ := hb
  clear hw
  go_enter Try.func13, Try.ntmps13
  go_wp2_with (go_at_call 12; refine (wrap_any _ _).mono ?_; rintro e w' ⟨rfl, rfl⟩)
  go_ret
  exact ⟨ret_int (by rw [HW.out]), rfl⟩

theorem unpack_in (s : Int) (h0 : -2147483648 ≤ s) (h1 : s < 2147483648) (h2 : s % 2 = 1) (w : World) : Calls Try.prog 14 #[.int .i64 s] w fun e w' => e = .returned (.tuple #[.int .i64 (s / 2), .bool true]) ∧ w = w' := by
  have g0 : (Go.bits .and .i64 s 1 == 0) = false := by rw [i64_and_one, h2]; decide
  clear h2
  go_enter Try.func14, Try.ntmps14
  go_wp2
  go_ret2
  exact ⟨by simp, rfl⟩

theorem unpack_low (s : Int) (h0 : s < -2147483648) (h2 : s % 2 = 1) (w : World) : Calls Try.prog 14 #[.int .i64 s] w fun e w' => e = .returned (.tuple #[.int .i64 0, .bool false]) ∧ w = w' := by
  have g0 : (Go.bits .and .i64 s 1 == 0) = false := by rw [i64_and_one, h2]; decide
  clear h2
  go_enter Try.func14, Try.ntmps14
  go_wp2
  go_ret2
  exact ⟨rfl, rfl⟩

theorem unpack_high (s : Int) (h0 : 2147483648 ≤ s) (h2 : s % 2 = 1) (w : World) : Calls Try.prog 14 #[.int .i64 s] w fun e w' => e = .returned (.tuple #[.int .i64 0, .bool false]) ∧ w = w' := by
  have g0 : (Go.bits .and .i64 s 1 == 0) = false := by rw [i64_and_one, h2]; decide
  clear h2
  go_enter Try.func14, Try.ntmps14
  go_wp2
  go_ret2
  exact ⟨rfl, rfl⟩

set_option maxHeartbeats 1000000 in
theorem walk (a0 : Int) (a1 : Int) (w0 : (Lit.int .i64 a0).wf = true) (w1 : (Lit.int .i64 a1).wf = true) (w : World) :
    Calls Try.prog 4 #[.int .i64 a0, .int .i64 a1] w fun e w' => e = .returned (.bool true) ∧ Grown w w' := by
  obtain ⟨x0, x1⟩ := wd_bd a0
  obtain ⟨y0, y1⟩ := wd_bd a1
  have g0 : (Go.bits .and .i64 (2 * wd a0 + 1) 1 == 1) = true := by rw [i64_and_one]; simp
  have g1 : ((2 * wd a0 + 1 + (2 * wd a1 + 1) - 1) / 2 == wd a0 + wd a1) = true := by rw [beq_iff_eq]; omega
  clear w0 w1
  by_cases hl : wd a0 < wd a1
  all_goals
    by_cases h1 : wd a0 + wd a1 < -1073741824
    · go_enter Try.func4, Try.ntmps4
      go_wp2_with (first | (go_at_call 12; refine (wrap_any _ _).mono ?_; rintro e w' ⟨rfl, rfl⟩) | (go_at_call 13; refine (pack_any _ (by omega) (by omega) _).mono ?_; rintro e w' ⟨rfl, rfl⟩) | (go_at_call 14; refine (unpack_low _ (by omega) (by omega) _).mono ?_; rintro e w' ⟨rfl, rfl⟩))
      go_ret
      exact ⟨rfl, by repeat (first | exact Grown.refl _ | apply Grown.drew | apply Grown.alloc)⟩
    by_cases h2 : 1073741823 < wd a0 + wd a1
    · go_enter Try.func4, Try.ntmps4
      go_wp2_with (first | (go_at_call 12; refine (wrap_any _ _).mono ?_; rintro e w' ⟨rfl, rfl⟩) | (go_at_call 13; refine (pack_any _ (by omega) (by omega) _).mono ?_; rintro e w' ⟨rfl, rfl⟩) | (go_at_call 14; refine (unpack_high _ (by omega) (by omega) _).mono ?_; rintro e w' ⟨rfl, rfl⟩))
      go_ret
      exact ⟨rfl, by repeat (first | exact Grown.refl _ | apply Grown.drew | apply Grown.alloc)⟩
    · go_enter Try.func4, Try.ntmps4
      go_wp2_with (first | (go_at_call 12; refine (wrap_any _ _).mono ?_; rintro e w' ⟨rfl, rfl⟩) | (go_at_call 13; refine (pack_any _ (by omega) (by omega) _).mono ?_; rintro e w' ⟨rfl, rfl⟩) | (go_at_call 14; refine (unpack_in _ (by omega) (by omega) (by omega) _).mono ?_; rintro e w' ⟨rfl, rfl⟩))
      go_ret
      exact ⟨rfl, by repeat (first | exact Grown.refl _ | apply Grown.drew | apply Grown.alloc)⟩

set_option maxRecDepth 100000 in
theorem lifted (os : Os) (started : os.Started) (H : Type) (enc : TypeId × Value → H) :
    ReturnsInHanded {} Try.checked os 4 .any (Rows.wordPackOrderSpec.pre6 enc Try.prog Try.f4 Rows.wordPackOrderRow.domain false) (Rows.wordPackOrderSpec.post enc Try.prog Try.f4 false true false false) := by
  refine returnsInHanded_of_change (C := Try.checked) own started (by kernel_rfl) Try.func4
    (ChangeSpec.witness6 (enc := enc) (C := Try.checked) false ⟨#[], #[.int .i64 0, .int .i64 0], []⟩ 8 (by kernel_rfl) (by kernel_rfl) (by kernel_rfl) (by kernel_rfl)) ?_
  intro W base args ds gs before hval0 hW hcnd _
  have hval : ∀ (j : Nat) t v, Try.f4.params[j]? = some t → args[j]? = some v → Value.okWide Try.prog W .any base t v := hval0
  have hW' := hW
  obtain ⟨p, q, hA0, hV, rfl, hfz, hnd⟩ := hW
  have hA : DataW.TrodAll enc Try.prog W 0 (fun _ => true) true Try.f4.params.toList args.toList ds p := hA0
  rw [Try.params4] at hA hval
  obtain ⟨v0, vs0, d0, ds0, p0, q0, hargs, rfl, rfl, h0, r0⟩ := trodAll_cons hA
  obtain ⟨v1, vs1, d1, ds1, p1, q1, rfl, rfl, rfl, h1, r1⟩ := trodAll_cons r0
  obtain ⟨rfl, rfl, rfl⟩ := trodAll_nil r1
  obtain rfl : args = #[v0, v1] := by cases args; simp_all
  obtain ⟨rfl, rfl⟩ := trodVars_none hV
  obtain ⟨a0, rfl, rfl, rfl, w0⟩ := open_int Try.underlying3 (hval 0 3 v0 rfl rfl) h0
  obtain ⟨a1, rfl, rfl, rfl, w1⟩ := open_int Try.underlying3 (hval 1 3 v1 rfl rfl) h1
  clear hA0 hval0
  simp only [List.append_nil] at hW'
  refine (walk a0 a1 w0 w1 W).mono fun e W' ⟨he, hg⟩ => ?_
  subst he
  exact ⟨_, rfl, post_of_same (pa := []) (pv := []) hW' (fun _ _ _ => (trodAll_cons_mk (shut_bool Try.underlying4 _) trodAll_mk0)) (fun sp _ => (trodAll_cons_mk (shut_int Try.underlying3 w0) (trodAll_cons_mk (shut_int Try.underlying3 w1) trodAll_mk0))) (fun _ _ => rfl) rfl
    (hg.frame _) hg.2.1 (ok_one (by kernel_rfl) rfl (okWide_bool_mk Try.underlying4 _))⟩

theorem over : Rows.wordPackOrderRow.holds Try.pinned (OpenSpec.ofChange Rows.wordPackOrderSpec) :=
  OpenClaim.holds_of_wide 4 Try.f4 rfl rfl rfl rfl rfl rfl rfl ⟨rfl, rfl, rfl, rfl, rfl⟩ rfl rfl rfl rfl rfl (by kernel_rfl) Try.func4 (by kernel_rfl)
    (of_decide_eq_true (by kernel_rfl)) (by unfold Func.isWrapper; first | (rw [if_pos (by decide +kernel)]; kernel_rfl) | (rw [if_neg (by decide +kernel)]; exact ⟨rfl, rfl⟩))
    (fun os started H enc _ => lifted os started H enc)

theorem proved : Rows.WordPackOrderSaid :=
  over
#print axioms proved
end Go.Proofs.Ytpeghecmojlcgaa.wordPackOrder
