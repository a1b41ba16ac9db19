/- Quotient and remainder of words fit together: WordDivision answers true for every two integers. Conditions: none. -/
import Derived.Test.YtpeghecmojlcgaaPWordDivisionx1
namespace Go.Proofs.Ytpeghecmojlcgaa.Pure
open Go.RowKit Go.Proofs.Ytpeghecmojlcgaa.PWordDivision Go.Proofs.YtpeghecmojlcgaaW.PrintWords Go.Proofs.YtpeghecmojlcgaaW.PrintLast

theorem i64_and_mask (n : Int) : Go.bits .and .i64 n 2147483647 = n % 2147483648 := by
  have hm : (BitVec.ofInt 64 2147483647).toNat = 2 ^ 31 - 1 := by decide
  have key : (BitVec.ofInt 64 n &&& BitVec.ofInt 64 2147483647).toNat = (n % ((2 ^ 64 : Nat) : Int)).toNat % 2 ^ 31 := by
    rw [BitVec.toNat_and, BitVec.toNat_ofInt, hm, Nat.and_two_pow_sub_one_eq_mod]
  show IntKind.i64.wrap ((BitVec.ofInt 64 n &&& BitVec.ofInt 64 2147483647).toNat : Nat) = n % 2147483648
  rw [key, IntKind.wrap_i64]
  omega

/-- The word that is congruent to a number. -/
def wd (n : Int) : Int := (n + 1073741824) % 2147483648 - 1073741824

theorem wrap_eq (a : Int) : word_Wrap.f a = some (wd a) := by
  unfold word_Wrap.f
  rw [i64_and_mask]
  congr 1
  unfold wrap64 wd
  omega

theorem wd_wrap64 (a : Int) : wd (wrap64 a) = wd a := by
  unfold wrap64 wd
  omega

theorem wd_congr {a b : Int} (h : a % 2147483648 = b % 2147483648) : wd a = wd b := by
  unfold wd
  omega

theorem wd_mod (a : Int) : wd a % 2147483648 = a % 2147483648 := by
  unfold wd
  omega

theorem wd_mul (a b : Int) : wd (wd a * wd b) = wd (a * b) := by
  apply wd_congr
  rw [Int.mul_emod, wd_mod, wd_mod, ← Int.mul_emod]

theorem wd_mul_right (a b : Int) : wd (a * wd b) = wd (a * b) := by
  apply wd_congr
  rw [Int.mul_emod, wd_mod, ← Int.mul_emod]

theorem wd_mul_left (a b : Int) : wd (wd a * b) = wd (a * b) := by
  apply wd_congr
  rw [Int.mul_emod, wd_mod, ← Int.mul_emod]

theorem wd_add_right (a b : Int) : wd (a + wd b) = wd (a + b) := by
  unfold wd
  omega

theorem wd_add_left (a b : Int) : wd (wd a + b) = wd (a + b) := by
  unfold wd
  omega

theorem add_eq (a b : Int) : word_Add.f a b = some (wd (a + b)) := by
  unfold word_Add.f
  rw [wrap_eq, wd_wrap64]
  rfl

theorem mul_eq (a b : Int) : word_Mul.f a b = some (wd (a * b)) := by
  unfold word_Mul.f
  rw [wrap_eq, wrap_eq]
  simp only [Option.bind_some]
  rw [wrap_eq, wd_wrap64, wd_mul]
  rfl

theorem wd_bd (a : Int) : -1073741824 ≤ wd a ∧ wd a < 1073741824 := by
  unfold wd
  omega

theorem wd_self {a : Int} (h : -1073741824 ≤ a ∧ a < 1073741824) : wd a = a := by
  unfold wd
  omega

theorem div_zero (a b : Int) (h : wd b = 0) : word_Div.f a b = some (0, 1) := by
  unfold word_Div.f
  rw [wrap_eq]
  simp only [Option.bind_some]
  rw [if_pos h]

theorem div_some (a b : Int) (h : wd b ≠ 0) : word_Div.f a b = some (wd (Int.tdiv (wd a) (wd b)), 0) := by
  unfold word_Div.f
  rw [wrap_eq, wrap_eq]
  simp only [Option.bind_some]
  rw [if_neg h, if_neg h, wrap_eq, wd_wrap64]
  rfl

theorem mod_zero (a b : Int) (h : wd b = 0) : word_Mod.f a b = some (0, 1) := by
  unfold word_Mod.f
  rw [wrap_eq]
  simp only [Option.bind_some]
  rw [if_pos h]

theorem mod_some (a b : Int) (h : wd b ≠ 0) : word_Mod.f a b = some (Int.tmod (wd a) (wd b), 0) := by
  unfold word_Mod.f
  rw [wrap_eq, wrap_eq]
  simp only [Option.bind_some]
  rw [if_neg h, if_neg h]

/-- The remainder has the sign of the dividend and is smaller than the divisor. -/
theorem tmod_facts (x y : Int) (h : y ≠ 0) : 0 ≤ Int.tmod x y * x ∧ (Int.tmod x y).natAbs < y.natAbs ∧ (Int.tmod x y).natAbs ≤ x.natAbs := by
  have e : (Int.tmod x y).natAbs = x.natAbs % y.natAbs := Int.natAbs_tmod x y
  refine ⟨?_, ?_, ?_⟩
  · by_cases hx : 0 ≤ x
    · exact Int.mul_nonneg (Int.tmod_nonneg y hx) hx
    · have h1 : 0 ≤ Int.tmod (-x) y := Int.tmod_nonneg y (by omega)
      rw [Int.neg_tmod] at h1
      have h2 : 0 ≤ (- Int.tmod x y) * (-x) := Int.mul_nonneg h1 (by omega)
      rwa [Int.neg_mul_neg] at h2
  · rw [e]; exact Nat.mod_lt _ (by omega)
  · rw [e]; exact Nat.mod_le _ _

theorem mul_small {r x : Int} (h0 : 0 ≤ r * x) (hr : r.natAbs ≤ x.natAbs) (hx : -1073741824 ≤ x ∧ x < 1073741824) : wrap64 (r * x) = r * x := by
  have h3 : x.natAbs ≤ 1073741824 := by omega
  have h4 : r.natAbs ≤ 1073741824 := by omega
  have h2 : (r * x).natAbs ≤ 1152921504606846976 := by
    rw [Int.natAbs_mul]
    exact Nat.le_trans (Nat.mul_le_mul h4 h3) (by decide)
  have h1 : r * x ≤ 1152921504606846976 := by omega
  generalize r * x = z at *
  clear h2 h3 h4 hr hx
  unfold wrap64
  omega

/-- What the law computes of two words. -/
theorem tail_true (x y : Int) (ha : -1073741824 ≤ x ∧ x < 1073741824) (hb : -1073741824 ≤ y ∧ y < 1073741824) (hy : y ≠ 0) :
    wd (wd (wd (Int.tdiv x y) * y) + Int.tmod x y) = x ∧ wrap64 (Int.tmod x y * x) ≥ 0 ∧ mx (Int.tmod x y) (wrap64 (-(Int.tmod x y))) < mx y (wrap64 (-y)) := by
  obtain ⟨f1, f2, f3⟩ := tmod_facts x y hy
  refine ⟨?_, ?_, ?_⟩
  · rw [wd_mul_left, wd_add_left, Int.mul_comm, Int.mul_tdiv_add_tmod]
    exact wd_self ha
  · rw [mul_small f1 f3 ha]
    exact f1
  · generalize Int.tmod x y = r at *
    clear f1
    unfold mx wrap64
    omega

theorem div_first : word_Div.f (-7) 2 = some (-3, 0) := by
  rw [div_some (-7) 2 (by decide)]
  exact congrArg (fun n : Int => some (n, (0 : Int))) (by decide)

/-- What the law computes behind its example, of two words. -/
def rest (x y : Int) : Option Bool :=
  (word_Div.f x y).bind fun q => (word_Mod.f x y).bind fun r =>
    if y = 0 then (if q.2 = 1 then some (r.2 == 1) else some false)
    else (word_Mul.f q.1 y).bind fun m => (word_Add.f m r.1).bind fun s =>
      if s = x then (if wrap64 (r.1 * x) ≥ 0 then some (decide (mx r.1 (wrap64 (-r.1)) < mx y (wrap64 (-y)))) else some false) else some false

theorem rest_true (x y : Int) (ha : -1073741824 ≤ x ∧ x < 1073741824) (hb : -1073741824 ≤ y ∧ y < 1073741824) : rest x y = some true := by
  have ex := wd_self ha
  have ey := wd_self hb
  unfold rest
  by_cases hy : y = 0
  · rw [div_zero x y (by rw [ey]; exact hy), mod_zero x y (by rw [ey]; exact hy)]
    simp [hy]
  · rw [div_some x y (by rw [ey]; exact hy), mod_some x y (by rw [ey]; exact hy), ex, ey]
    simp only [Option.bind_some]
    rw [if_neg hy, mul_eq]
    simp only [Option.bind_some]
    rw [add_eq]
    simp only [Option.bind_some]
    obtain ⟨e1, e2, e3⟩ := tail_true x y ha hb hy
    rw [if_pos e1, if_pos e2, decide_eq_true e3]

theorem j0_eq (k : Nat) (a b : Int) : provenancekeep1_WordDivision.j0 (k + 1) a b false = rest (wd a) (wd b) := by
  simp only [provenancekeep1_WordDivision.j0]
  rw [if_neg Bool.false_ne_true, wrap_eq, wrap_eq]
  rfl

theorem bind_pair (k : Nat) (a b : Int) (o : Option (Int × Int)) (ho : o = some (-3, 0)) :
    (o.bind fun t => if t.1 = (-3) then provenancekeep1_WordDivision.j0 k a b (t.2 != 0) else provenancekeep1_WordDivision.j0 k a b true) = provenancekeep1_WordDivision.j0 k a b false := by
  subst ho
  generalize provenancekeep1_WordDivision.j0 k a b = g
  simp

theorem WordDivision : provenancekeep1_WordDivision.Pure := by
  intro a b _ _
  refine ⟨0 + 1, ?_⟩
  unfold provenancekeep1_WordDivision.f
  rw [bind_pair (0 + 1) a b _ div_first, j0_eq]
  exact rest_true (wd a) (wd b) (wd_bd a) (wd_bd b)

end Go.Proofs.Ytpeghecmojlcgaa.Pure
