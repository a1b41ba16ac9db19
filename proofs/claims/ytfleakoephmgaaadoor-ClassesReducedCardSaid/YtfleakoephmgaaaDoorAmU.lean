/- Functions that are told by a law of their own: from what the law says of Go's run to what the abstract machine wants. Conditions: none. -/
import Derived.Test.YtfleakoephmgaaaDoorAmL
import Derived.Below
import Derived.RangeFuncNested
import Derived.RangeFuncBox
import Derived.RangeFuncLeaves
import Derived.RangeFuncBound
import Derived.Shelf.Abstract
import Derived.WalkKit
import Derived.OwnWalkIn
import Derived.TacticsInMore
import Derived.LoopNIn
import Derived.LoopIn
import Derived.Test.YtfleakoephmgaaaDoorUoB
import Derived.Sort.Grow
import Derived.Sort.EncStr
import Derived.Lib.SlicesCompact
set_option linter.unusedSimpArgs false
set_option linter.unusedVariables false
namespace Go.Am
open Go.RowKit

variable {G : Glob} {P : Program}

end Go.Am

/- slices.Backward's iterator over an array of labels; types as they lie in memory. Conditions: none. -/
namespace Go.Am.U2
open Go.Proofs Go.RowKit Go.Shelf Go.Am.Un
attribute [local go_sem] Oper.semAt_some

/-- The numbers from the last one down. -/
def dn (N k : Nat) : List (Fin N) := (List.finRange N).reverse.take k
theorem dn_zero (N : Nat) : dn N 0 = [] := by simp [dn]
theorem dn_len {N k : Nat} (h : k ≤ N) : (dn N k).length = k := by simp [dn, h]
theorem dn_succ {N k : Nat} (h : k < N) : dn N (k + 1) = dn N k ++ [⟨N - 1 - k, by omega⟩] := by
  simp only [dn]
  rw [List.take_add_one]
  congr 1
  rw [List.getElem?_eq_getElem (by simpa using h)]
  simp

section
variable {N : Nat} (nm : Fin N → ByteArray) (sv : Fin N → Value)
abbrev enc (j : Fin N) : Array Value := #[.int .i64 (j.1 : Int), .agg #[.int .i64 0, .string (nm j), .int .i64 0, sv j]]

set_option maxRecDepth 100000 in
set_option maxHeartbeats 2000000 in
theorem bk_in (F : Fence) (n : Nat) (h7 : F.fn 73) (hro : F.round = none) (hn : 1 ≤ n) (l Bs b off cap : Nat) (hreach : N * 56 ≤ 140737488351232) (Kp : World → World → Prop)
    (hKp : ∀ {A B : World}, Kp A B → B.heap[Bs]? = A.heap[Bs]? ∧ B.heap[b]? = A.heap[b]?) (J Jx : List (Fin N) → World → Prop)
    (hY : ∀ pre x W, J pre W → pre.length < N → YieldAt F (n - 1) Tryd.prog l (enc nm sv x) W fun e W' =>
      (e = .returned (.bool true) ∧ J (pre ++ [x]) W' ∧ Kp W W') ∨ (e = .returned (.bool false) ∧ Jx (pre ++ [x]) W'))
    (W : World) (hBs : W.cell? ⟨Bs, 0, none⟩ = some (.slice (some ⟨b, off, none⟩) N cap))
    (hc0 : ∀ j : Fin N, W.cell? ⟨b, off + j.1 * 4, none⟩ = some (.int .i64 0)) (hc1 : ∀ j : Fin N, W.cell? ⟨b, off + j.1 * 4 + 1, none⟩ = some (.string (nm j)))
    (hc2 : ∀ j : Fin N, W.cell? ⟨b, off + j.1 * 4 + 2, none⟩ = some (.int .i64 0)) (hc3 : ∀ j : Fin N, W.cell? ⟨b, off + j.1 * 4 + 3, none⟩ = some (sv j)) (h0 : J [] W) :
    CallsIn F n Tryd.prog 73 #[.func (.yield l) #[] #[], .pointer (some ⟨Bs, 0, none⟩)] W fun e W' => (∃ v, e = .returned v) ∧
      ((∃ ys, ys = dn N N ∧ J ys W') ∨ (∃ pre, True ∧ Jx pre W')) := by
  refine callsIn_of_wp Tryd.func73 rfl h7 ?_ hro
  simp only [Tryd.ntmps73, List.size_toArray, List.length_cons, List.length_nil, Nat.reduceAdd, Nat.reduceSub, Array.replicate_succ, Array.replicate_zero, List.push_toArray, List.append_toArray, List.nil_append, List.cons_append]
  gi_wp2
  gi_loopw [3] (fun i wr => ∃ k : Nat, k ≤ N ∧ i = .int .i64 ((N : Int) - 1 - k) ∧ J (dn N k) wr ∧ wr.heap[Bs]? = W.heap[Bs]? ∧ wr.heap[b]? = W.heap[b]?)
    (fun i _ => (intOf i + 1).toNat)
  case atStart => exact ⟨0, Nat.zero_le _, by simp, h0, rfl, rfl⟩
  case round =>
    obtain ⟨k, hk, rfl, hJs, hk1, hk2⟩ := hrel
    have hBx : wr.cell? ⟨Bs, 0, none⟩ = some (.slice (some ⟨b, off, none⟩) N cap) := (World.cell?_of_block (w := W) hk1).trans hBs
    by_cases hlt : k < N
    · obtain ⟨fn, tmps, assign, body, hy, hR⟩ := hY _ ⟨N - 1 - k, by omega⟩ wr hJs (by rw [dn_len hk]; exact hlt)
      have e1 : ((N - 1 - k : Nat) : Int) = (N : Int) - 1 - k := by omega
      simp only [enc, e1] at hy
      have hx0 := (World.cell?_of_block (w := W) hk2).trans (hc0 ⟨N - 1 - k, by omega⟩)
      have hx1 := (World.cell?_of_block (w := W) hk2).trans (hc1 ⟨N - 1 - k, by omega⟩)
      have hx2 := (World.cell?_of_block (w := W) hk2).trans (hc2 ⟨N - 1 - k, by omega⟩)
      have hx3 := (World.cell?_of_block (w := W) hk2).trans (hc3 ⟨N - 1 - k, by omega⟩)
      simp only [] at hx0 hx1 hx2 hx3
      gi_wp2
      refine hR.mono ?_
      rintro e W3 (⟨rfl, hJ3, hk3⟩ | ⟨rfl, hJx3⟩)
      · gi_wp2
        go_roundw
        case rel => exact ⟨k + 1, by omega, by simp; omega, by rw [dn_succ hlt]; exact hJ3, (hKp hk3).1.trans hk1, (hKp hk3).2.trans hk2⟩
        case measure => simp [intOf]; omega
      · gi_wp2
        refine bodyPost_ret (results_none rfl _ _ _) rfl ?_
        exact ⟨⟨_, rfl⟩, .inr ⟨_, trivial, hJx3⟩⟩
    · obtain rfl : k = N := by omega
      gi_wp2
      go_end0
      exact ⟨⟨_, rfl⟩, .inl ⟨_, rfl, hJs⟩⟩
end

set_option maxRecDepth 100000 in
set_option maxHeartbeats 1000000 in
theorem bk_nil (F : Fence) (n : Nat) (h7 : F.fn 73) (hro : F.round = none) {α : Type} (l Bs : Nat) (J : List α → World → Prop) (W : World) (a : Option Addr) (c : Nat) (hBs : W.cell? ⟨Bs, 0, none⟩ = some (.slice a 0 c)) (h0 : J [] W) :
    CallsIn F n Tryd.prog 73 #[.func (.yield l) #[] #[], .pointer (some ⟨Bs, 0, none⟩)] W fun e W' => (∃ v, e = .returned v) ∧ J [] W' := by
  refine callsIn_of_wp Tryd.func73 rfl h7 ?_ hro
  simp only [Tryd.ntmps73, List.size_toArray, List.length_cons, List.length_nil, Nat.reduceAdd, Nat.reduceSub, Array.replicate_succ, Array.replicate_zero, List.push_toArray, List.append_toArray, List.nil_append, List.cons_append]
  gi_wp2
  gi_loopw [3] (fun i wr => i = .int .i64 (-1) ∧ J [] wr) (fun _ _ => 0)
  case atStart => exact ⟨rfl, h0⟩
  case round =>
    obtain ⟨rfl, hJs⟩ := hrel
    gi_wp2
    go_end0
    exact ⟨⟨_, rfl⟩, hJs⟩
end Go.Am.U2

/- The library's sort and compact of strings, as the abstract machine has them. Conditions: none. -/
namespace Go.Am
open Go.RowKit Go.Proofs
open Go.Sort (putRow mapBlock putCells onCells Holds grow grow_empty)

section
variable {ρ : Rho} {s : St} {w : World}

end

section
variable {G : Glob} {P : Program} {f : Nat}

end
end Go.Am
