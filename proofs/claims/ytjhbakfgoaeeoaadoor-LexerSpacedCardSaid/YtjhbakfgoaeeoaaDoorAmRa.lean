/- (*layout.marker).enclosing, by its text: a range over slices.Backward. Conditions: none. -/
import Derived.RangeFuncNested
import Derived.RangeFuncBox
import Derived.RangeFuncLeaves
import Derived.RangeFuncBound
import Derived.Shelf.Abstract
import Derived.WalkKit
import Derived.OwnWalkIn
import Derived.TacticsInMore
import Derived.LoopNIn
import Derived.LoopIn
import Derived.Test.YtjhbakfgoaeeoaaDoorProg
set_option linter.unusedSimpArgs false
set_option linter.unusedVariables false
namespace Go.Proofs
open Go.RowKit Go.Shelf
attribute [local go_sem] Oper.semAt_some

/-- A round's number, and the context that it bears. -/
abbrev Tryd.Cxv := Nat × (Int × ByteArray)
abbrev Tryd.cxEnc (x : Tryd.Cxv) : Array Value := #[.int .i64 (x.1 : Int), .agg #[.int .i64 x.2.1, .string x.2.2]]
def Tryd.cxAt (zs : List (Int × ByteArray)) (j : Nat) : Int × ByteArray := zs[j]?.getD (0, ⟨#[]⟩)
/-- What has come behind k rounds. -/
def Tryd.downTo (zs : List (Int × ByteArray)) (k : Nat) : List Tryd.Cxv := (List.range k).map fun j => (zs.length - 1 - j, Tryd.cxAt zs (zs.length - 1 - j))
theorem Tryd.downTo_succ (zs : List (Int × ByteArray)) (k : Nat) : Tryd.downTo zs (k + 1) = Tryd.downTo zs k ++ [(zs.length - 1 - k, Tryd.cxAt zs (zs.length - 1 - k))] := by simp [Tryd.downTo, List.range_succ]
theorem Tryd.downTo_length (zs : List (Int × ByteArray)) (k : Nat) : (Tryd.downTo zs k).length = k := by simp [Tryd.downTo]

set_option maxRecDepth 100000 in
set_option maxHeartbeats 2000000 in
theorem Tryd.back1_in (F : Fence) (n : Nat) (h7 : F.fn 140) (hro : F.round = none) (hn : 1 ≤ n) (l Bs bo n₀ b off len cap : Nat) (zs : List (Int × ByteArray)) (hlz : zs.length = len) (hreach : len * 24 ≤ 140737488351232) (hb : b < n₀) (J Jx : List Tryd.Cxv → World → Prop)
    (hY : ∀ pre x W, J pre W → pre.length < len → YieldAt F (n - 1) Tryd.prog l (Tryd.cxEnc x) W fun e W' =>
      (e = .returned (.bool true) ∧ J (pre ++ [x]) W' ∧ Below n₀ W W') ∨ (e = .returned (.bool false) ∧ Jx (pre ++ [x]) W'))
    (W : World) (hBs : ∀ W', Below n₀ W W' → W'.cell? ⟨Bs, bo, none⟩ = some (.slice (some ⟨b, off, none⟩) len cap))
    (hc0 : ∀ j, j < len → W.cell? ⟨b, off + j * 2, none⟩ = some (.int .i64 (Tryd.cxAt zs j).1)) (hc1 : ∀ j, j < len → W.cell? ⟨b, off + j * 2 + 1, none⟩ = some (.string (Tryd.cxAt zs j).2)) (h0 : J [] W) :
    CallsIn F n Tryd.prog 140 #[.func (.yield l) #[] #[], .pointer (some ⟨Bs, bo, none⟩)] W fun e W' => (∃ v, e = .returned v) ∧
      ((∃ ys, ys = Tryd.downTo zs len ∧ J ys W') ∨ (∃ pre, (∃ k, k ≤ len ∧ pre = Tryd.downTo zs k) ∧ Jx pre W')) := by
  refine callsIn_of_wp Tryd.func140 rfl h7 ?_ hro
  simp only [Tryd.ntmps140, List.size_toArray, List.length_cons, List.length_nil, Nat.reduceAdd, Nat.reduceSub, Array.replicate_succ, Array.replicate_zero, List.push_toArray, List.append_toArray, List.nil_append, List.cons_append]
  have hB0 := hBs W (Below.refl _ _)
  gi_wp2
  gi_loopw [3] (fun i wr => ∃ k : Nat, k ≤ len ∧ i = .int .i64 ((len : Int) - 1 - k) ∧ J (Tryd.downTo zs k) wr ∧ Below n₀ W wr)
    (fun i _ => (intOf i + 1).toNat)
  case atStart => exact ⟨0, Nat.zero_le _, by simp, h0, Below.refl _ _⟩
  case round =>
    obtain ⟨k, hk, rfl, hJs, hnx⟩ := hrel
    have hBx := hBs wr hnx
    by_cases hlt : k < len
    · obtain ⟨fn, tmps, assign, body, hy, hR⟩ := hY _ (zs.length - 1 - k, Tryd.cxAt zs (zs.length - 1 - k)) wr hJs (by rw [Tryd.downTo_length]; exact hlt)
      have e1 : ((len - 1 - k : Nat) : Int) = (len : Int) - 1 - k := by omega
      simp only [Tryd.cxEnc, hlz, e1] at hy
      have hcx0 : wr.cell? ⟨b, off + (len - 1 - k) * 2, none⟩ = some (.int .i64 (Tryd.cxAt zs (zs.length - 1 - k)).1) := by rw [hlz]; exact (hnx.cell (p := ⟨b, off + (len - 1 - k) * 2, none⟩) hb).trans (hc0 _ (by omega))
      have hcx1 : wr.cell? ⟨b, off + (len - 1 - k) * 2 + 1, none⟩ = some (.string (Tryd.cxAt zs (zs.length - 1 - k)).2) := by rw [hlz]; exact (hnx.cell (p := ⟨b, off + (len - 1 - k) * 2 + 1, none⟩) hb).trans (hc1 _ (by omega))
      gi_wp2
      refine hR.mono ?_
      rintro e W3 (⟨rfl, hJ3, hk3⟩ | ⟨rfl, hJx3⟩)
      · gi_wp2
        go_roundw
        case rel => exact ⟨k + 1, by omega, by simp; omega, by rw [Tryd.downTo_succ]; exact hJ3, hnx.trans hk3⟩
        case measure => simp [intOf]; omega
      · gi_wp2
        refine bodyPost_ret (results_none rfl _ _ _) rfl ?_
        exact ⟨⟨_, rfl⟩, .inr ⟨_, ⟨k + 1, by omega, (Tryd.downTo_succ _ _).symm⟩, hJx3⟩⟩
    · obtain rfl : k = len := by omega
      gi_wp2
      go_end0
      exact ⟨⟨_, rfl⟩, .inl ⟨_, rfl, hJs⟩⟩

/-- The slice value holds the contexts, in a block below n₀; or there are none. -/
def Tryd.Cxs (n₀ : Nat) (W : World) (sv : Value) (zs : List (Int × ByteArray)) : Prop :=
  (∃ a c, sv = .slice a 0 c ∧ zs = []) ∨ ∃ b off cap, sv = .slice (some ⟨b, off, none⟩) zs.length cap ∧ b < n₀ ∧ zs.length * 24 ≤ 140737488351232 ∧
    (∀ j, j < zs.length → W.cell? ⟨b, off + j * 2, none⟩ = some (.int .i64 (Tryd.cxAt zs j).1)) ∧ ∀ j, j < zs.length → W.cell? ⟨b, off + j * 2 + 1, none⟩ = some (.string (Tryd.cxAt zs j).2)
theorem Tryd.Cxs.below {n₀ m : Nat} {A B : World} (h : Below n₀ A B) (hm : n₀ ≤ m) {sv : Value} {zs : List (Int × ByteArray)} : Tryd.Cxs n₀ A sv zs → Tryd.Cxs m B sv zs
  | .inl e => .inl e
  | .inr ⟨b, off, cap, e, hb, hr, hc, hd⟩ => .inr ⟨b, off, cap, e, by omega, hr, fun j hj => (h.cell (p := ⟨b, off + j * 2, none⟩) hb).trans (hc j hj), fun j hj => (h.cell (p := ⟨b, off + j * 2 + 1, none⟩) hb).trans (hd j hj)⟩

set_option maxRecDepth 100000 in
set_option maxHeartbeats 1000000 in
theorem Tryd.back1_nil_in (F : Fence) (n : Nat) (h7 : F.fn 140) (hro : F.round = none) (l Bs bo : Nat) (J : List Tryd.Cxv → World → Prop) (W : World) (a : Option Addr) (c : Nat) (hBs : W.cell? ⟨Bs, bo, none⟩ = some (.slice a 0 c)) (h0 : J [] W) :
    CallsIn F n Tryd.prog 140 #[.func (.yield l) #[] #[], .pointer (some ⟨Bs, bo, none⟩)] W fun e W' => (∃ v, e = .returned v) ∧ J [] W' := by
  refine callsIn_of_wp Tryd.func140 rfl h7 ?_ hro
  simp only [Tryd.ntmps140, List.size_toArray, List.length_cons, List.length_nil, Nat.reduceAdd, Nat.reduceSub, Array.replicate_succ, Array.replicate_zero, List.push_toArray, List.append_toArray, List.nil_append, List.cons_append]
  gi_wp2
  gi_loopw [3] (fun i wr => i = .int .i64 (-1) ∧ J [] wr) (fun _ _ => 0)
  case atStart => exact ⟨rfl, h0⟩
  case round =>
    obtain ⟨rfl, hJs⟩ := hrel
    gi_wp2
    go_end0
    exact ⟨⟨_, rfl⟩, hJs⟩

theorem Tryd.back_stops (F : Fence) (n : Nat) (h7 : F.fn 140) (hro : F.round = none) (hn : 1 ≤ n) (Bs bo n₀ : Nat) (sv : Value) (zs : List (Int × ByteArray)) (w : World) (hBs : Bs < n₀) (hn₀ : n₀ ≤ w.heap.size)
    (hc : w.cell? ⟨Bs, bo, none⟩ = some sv) (hI : Tryd.Cxs n₀ w sv zs) :
    SeqStopsK F n Tryd.prog 140 #[.pointer (some ⟨Bs, bo, none⟩)] Tryd.cxEnc (Below n₀) (fun ys => ys = Tryd.downTo zs zs.length) (fun pre => ∃ k, k ≤ zs.length ∧ pre = Tryd.downTo zs k) zs.length w := fun l J Jx W hW _ _ hY h0 => by
  have hB := hW.mono hn₀
  have hc' := (hB.cell (p := ⟨Bs, bo, none⟩) hBs).trans hc
  rcases hI.below hB (Nat.le_refl _) with ⟨a, c, rfl, rfl⟩ | ⟨b, off, cap, rfl, hb, hr, hcs, hds⟩
  · exact (Tryd.back1_nil_in F n h7 hro l Bs bo J W a c hc' h0).mono fun e W' ⟨he, hj⟩ => ⟨he, .inl ⟨_, rfl, hj⟩⟩
  · refine (Tryd.back1_in F n h7 hro hn l Bs bo n₀ b off zs.length cap zs rfl hr hb J Jx hY W (fun W' h => (h.cell (p := ⟨Bs, bo, none⟩) hBs).trans hc') hcs hds h0).mono ?_
    rintro e W' ⟨he, ⟨ys, rfl, hj⟩ | ⟨pre, ⟨k, hk, rfl⟩, hj⟩⟩
    · exact ⟨he, .inl ⟨_, rfl, hj⟩⟩
    · exact ⟨he, .inr ⟨_, ⟨k, hk, rfl⟩, hj⟩⟩

set_option maxHeartbeats 1000000 in
theorem Tryd.back_in (F : Fence) (n : Nat) (h5 : F.fn 125) (hro : F.round = none) (a : Option Addr) (len cap : Nat) (w : World) :
    CallsIn F n Tryd.prog 125 #[.slice a len cap] w fun e w' => e = .returned (.func (.func 140) #[] #[.pointer (some ⟨w.heap.size, 0, none⟩)]) ∧ w' = w.alloc (.cells #[.slice a len cap] 142) := by
  refine callsIn_of_wp Tryd.func125 rfl h5 ?_ hro
  simp only [Tryd.ntmps125, List.size_toArray, List.length_cons, List.length_nil, Nat.reduceAdd, Nat.reduceSub, Array.replicate_succ, Array.replicate_zero, List.push_toArray, List.append_toArray, List.nil_append, List.cons_append]
  gi_wp2
  go_ret
  exact ⟨rfl, rfl⟩

/-- No context of these is a block. -/
def Tryd.clean (pre : List Tryd.Cxv) : Prop := ∀ x, x ∈ pre → ¬ 0 < x.2.1
theorem Tryd.clean_snoc {pre : List Tryd.Cxv} {x : Tryd.Cxv} (h : Tryd.clean pre) (hx : ¬ 0 < x.2.1) : Tryd.clean (pre ++ [x]) := fun y hy => by
  rcases List.mem_append.1 hy with hy | hy
  · exact h y hy
  · rw [List.mem_singleton] at hy; subst hy; exact hx

/-- The column of the innermost block; the innermost context comes first. -/
def Tryd.enclV : List (Int × ByteArray) → Int
  | [] => 0
  | c :: r => if 0 < c.1 then c.1 else Tryd.enclV r

theorem Tryd.enclV_none : ∀ l : List (Int × ByteArray), (∀ y, y ∈ l → ¬ 0 < y.1) → Tryd.enclV l = 0
  | [], _ => rfl
  | c :: r, h => by
    rw [Tryd.enclV, if_neg (h c (by simp))]
    exact Tryd.enclV_none r fun y hy => h y (by simp [hy])
theorem Tryd.enclV_hit : ∀ (a : List (Int × ByteArray)) (x : Int × ByteArray) (r : List (Int × ByteArray)), (∀ y, y ∈ a → ¬ 0 < y.1) → 0 < x.1 → Tryd.enclV (a ++ x :: r) = x.1
  | [], x, r, _, hx => by rw [List.nil_append, Tryd.enclV, if_pos hx]
  | c :: a, x, r, h, hx => by
    rw [List.cons_append, Tryd.enclV, if_neg (h c (by simp))]
    exact Tryd.enclV_hit a x r (fun y hy => h y (by simp [hy])) hx
theorem Tryd.downTo_map (zs : List (Int × ByteArray)) {k : Nat} (hk : k ≤ zs.length) : (Tryd.downTo zs k).map (·.2) = zs.reverse.take k := by
  apply List.ext_getElem
  · simp [Tryd.downTo, hk]
  · intro i h1 h2
    have hi : i < k := by simpa [Tryd.downTo] using h1
    have hz : zs[zs.length - 1 - i]? = some (zs[zs.length - 1 - i]'(by omega)) := List.getElem?_eq_getElem _
    simp [Tryd.downTo, Tryd.cxAt, hz]
theorem Tryd.encl_all {zs : List (Int × ByteArray)} (h : Tryd.clean (Tryd.downTo zs zs.length)) : Tryd.enclV zs.reverse = 0 := by
  have hm := Tryd.downTo_map zs (Nat.le_refl _)
  rw [List.take_of_length_le (by simp)] at hm
  rw [← hm]
  refine Tryd.enclV_none _ fun y hy => ?_
  obtain ⟨x, hx, rfl⟩ := List.mem_map.1 hy
  exact h x hx
theorem Tryd.encl_part {zs : List (Int × ByteArray)} {k : Nat} (hk : k ≤ zs.length) {pre : List Tryd.Cxv} {x : Tryd.Cxv} (he : pre ++ [x] = Tryd.downTo zs k) (hc : Tryd.clean pre) (hx : 0 < x.2.1) : Tryd.enclV zs.reverse = x.2.1 := by
  have hm := Tryd.downTo_map zs hk
  rw [← he, List.map_append] at hm
  rw [← List.take_append_drop k zs.reverse, ← hm, List.append_assoc]
  refine Tryd.enclV_hit _ _ _ (fun y hy => ?_) hx
  obtain ⟨z, hz, rfl⟩ := List.mem_map.1 hy
  exact hc z hz

set_option maxRecDepth 100000 in
set_option maxHeartbeats 2000000 in
theorem Tryd.encl_in (F : Fence) (n : Nat) (h3 : F.fn 99) (h4 : F.fn 125) (h5 : F.fn 140) (hro : F.round = none) (hn : 3 ≤ n) (pb po : Nat) (sa : Option Addr) (sl sc : Nat) (zs : List (Int × ByteArray)) (w : World)
    (hpb : pb < w.heap.size) (hp : w.cell? ⟨pb, po, none⟩ = some (.slice sa sl sc)) (hL : Tryd.Cxs w.heap.size w (.slice sa sl sc) zs) :
    CallsIn F n Tryd.prog 99 #[.pointer (some ⟨pb, po, none⟩)] w fun e W' => e = .returned (.int .i64 (Tryd.enclV zs.reverse)) ∧ Below w.heap.size w W' := by
  have h1 : 1 ≤ n := by omega
  refine callsIn_of_wp_marks Tryd.func99 rfl h3 ?_ hro
  simp only [Tryd.ntmps99, List.size_toArray, List.length_cons, List.length_nil, Nat.reduceAdd, Nat.reduceSub, Array.replicate_succ, Array.replicate_zero, List.push_toArray, List.append_toArray, List.nil_append, List.cons_append]
  have hp' : (w.alloc (.cells #[.int .i64 0] 3)).cell? ⟨pb, po, none⟩ = some (.slice sa sl sc) := (((Below.refl _ w).alloc (Nat.le_refl _) _).cell (p := ⟨pb, po, none⟩) hpb).trans hp
  gi_wp2_with (gi_at_call 125; refine (Tryd.back_in F (n - 1) h4 hro _ _ _ _).mono ?_; rintro e w' ⟨rfl, rfl⟩)
  have bO := (Boxed.new w 3 (.int .i64 0)).alloc (.cells #[.slice sa sl sc] 142)
  have bN := Boxed.new (w.alloc (.cells #[.int .i64 0] 3)) 142 (.slice sa sl sc)
  rw [World.size_alloc] at bN
  have hB0 : Below w.heap.size w ((w.alloc (.cells #[.int .i64 0] 3)).alloc (.cells #[.slice sa sl sc] 142)) := ((Below.refl _ w).alloc (Nat.le_refl _) _).alloc (by simp) _
  have hsz : ((w.alloc (.cells #[.int .i64 0] 3)).alloc (.cells #[.slice sa sl sc] 142)).heap.size = w.heap.size + 2 := by simp
  obtain ⟨W0, hW0⟩ : ∃ W0, (w.alloc (.cells #[.int .i64 0] 3)).alloc (.cells #[.slice sa sl sc] 142) = W0 := ⟨_, rfl⟩
  rw [hW0] at bO bN hB0 hsz ⊢
  clear hW0
  refine wpIn_rangeFunc_ownH hro h1 (gf := 140) (lb := #[.pointer (some ⟨w.heap.size + 1, 0, none⟩)]) rfl h5 (enters_of Tryd.func140 (by kernel_rfl) rfl)
    (Tryd.back_stops F (n - 1) h5 hro (by omega) (w.heap.size + 1) 0 (w.heap.size + 2) (.slice sa sl sc) zs W0 (by omega) (by omega) bN.cell (hL.below hB0 (by omega))) belowK_t (belowK_b (by omega)) (Below.refl _ _) (fun _ => rfl)
    (fun pre W => ((Boxed W w.heap.size 3 (.int .i64 0) ∧ Boxed W (w.heap.size + 1) 142 (.slice sa sl sc)) ∧ Tryd.clean pre) ∧ Below w.heap.size w W)
    (fun c pre W => (∃ x pre', c = .ret ∧ pre = pre' ++ [x] ∧ Tryd.clean pre' ∧ 0 < x.2.1 ∧ Boxed W w.heap.size 3 (.int .i64 x.2.1)) ∧ Below w.heap.size w W)
    (OwnFrom.and (OwnFrom.and (OwnFrom.and (Own.from (boxed_own _ _ _) _) (Own.from (boxed_own _ _ _) _)) (ownFrom_pure _ _)) (ownFrom_below (Nat.le_refl _) (by omega)))
    (fun c => OwnFrom.and (fun s X Y row hs hg hr => by
      obtain ⟨x, pre', h1, h2, h3, h4, h5⟩ := hs
      exact ⟨x, pre', h1, h2, h3, h4, boxed_own w.heap.size 3 (fun (_ : Unit) => Value.int .i64 x.2.1) () X Y row h5 hg (fun r e => (hr r e).2)⟩) (ownFrom_below (Nat.le_refl _) (by omega)))
    ⟨⟨⟨bO, bN⟩, fun x hx => by cases hx⟩, hB0⟩
    (fun x a' W => ∃ Bx, w.heap.size + 1 < Bx ∧ W.cell? ⟨Bx, 0, none⟩ = some (.int .i64 x.2.1) ∧ a' = { tmps := #[.pointer (some ⟨pb, po, none⟩), undef, .pointer (some ⟨w.heap.size, 0, none⟩), undef, .pointer (some ⟨Bx, 0, none⟩), .pointer (some ⟨pb, po, none⟩), .pointer (some ⟨pb, po, none⟩), .pointer (some ⟨pb, po, none⟩), .slice sa sl sc, .func (.func 140) #[] #[.pointer (some ⟨w.heap.size + 1, 0, none⟩)], .int .i64 (x.1 : Int), .agg #[.int .i64 x.2.1, .string x.2.2], undef, undef, undef, undef, undef], defers := [] })
    (fun x a' _ X Y row hs hg hr => by obtain ⟨Bx, h1, h2, h3⟩ := hs; exact ⟨Bx, h1, cell_kept h2 hg (fun r e => (hr r e).2), h3⟩)
    ?assign ?body ?done ?stop
  case assign =>
    rintro l pre x W K ⟨⟨⟨bS1, bN1⟩, hcl⟩, hB1⟩ hK
    gi_wp2
    exact hK _ _ ((KeepsOthers.alloc _ _).from _) ((Below.refl _ W).alloc bN1.lt _) ⟨⟨⟨bS1.alloc _, bN1.alloc _⟩, hcl⟩, hB1.alloc hB1.size _⟩ ⟨W.heap.size, bN1.lt, by simp only [World.cell?, World.alloc_heap_new]; rfl, rfl⟩
  case body =>
    rintro l pre x a' W hl ⟨r, hr⟩ ⟨⟨⟨bS1, bN1⟩, hcl⟩, hB1⟩ ⟨Bx, hBx, cX, rfl⟩ hlt
    have cS := bS1.cell
    have fS := bS1.frozen
    gi_wp2
    · have hx : 0 < x.2.1 := by assumption
      exact ⟨(KeepsOthers.setCell _ _ _).from _, ⟨x, pre, rfl, rfl, hcl, hx, bS1.set _⟩, hB1.setCell (p := ⟨w.heap.size, 0, none⟩) (Nat.le_refl _) _⟩
    · have hx : x.2.1 ≤ 0 := by assumption
      exact ⟨KeepsFrom.refl _ _, Below.refl _ _, ⟨⟨bS1, bN1⟩, Tryd.clean_snoc hcl (by omega)⟩, hB1⟩
  case done =>
    rintro D ys W hD rfl ⟨⟨⟨bS1, bN1⟩, hcl⟩, hB1⟩ hK
    have cS := bS1.cell
    have fS := bS1.frozen
    gi_wp2
    have hK' := (KeepsOthers.setCell W ⟨w.heap.size, 0, none⟩ (.int .i64 0)).same D _ hK rfl
    refine ⟨by simp, .inl ⟨_, _, rfl, run_takeDeferred hK', ?_⟩⟩
    have hc5 := cell_kept (World.cell?_setCell_same' W ⟨w.heap.size, 0, none⟩ (.int .i64 0) (by rw [cS]; rfl)) (grownBy_putObj' _ D (.deferred none)) (fun r e => by cases e; exact ⟨_, hK', rfl⟩)
    refine ⟨.int .i64 0, ?_, by rw [Tryd.encl_all hcl], (hB1.setCell (p := ⟨w.heap.size, 0, none⟩) (by simp) _).trans (belowK_b (w := w) (Nat.le_refl _) _ D _ _ (by omega) hK' rfl rfl)⟩
    simp [results, Tryd.f99, go_sem, hc5]
  case stop =>
    rintro D c pre W hD ⟨k, hk, hpre⟩ ⟨⟨x, pre', rfl, rfl, hcl, hx, bS1⟩, hB1⟩ hK
    have cS := bS1.cell
    gi_wp2
    refine ⟨by simp, .inl ⟨_, _, rfl, run_takeDeferred hK, ?_⟩⟩
    have hc5 := cell_kept cS (grownBy_putObj' _ D (.deferred none)) (fun r e => by cases e; exact ⟨_, hK, rfl⟩)
    refine ⟨.int .i64 x.2.1, ?_, by rw [Tryd.encl_part hk hpre hcl hx], hB1.trans (belowK_b (w := w) (Nat.le_refl _) W D _ _ (by omega) hK rfl rfl)⟩
    simp [results, Tryd.f99, go_sem, hc5]

theorem Tryd.encl (pb po : Nat) (sa : Option Addr) (sl sc : Nat) (zs : List (Int × ByteArray)) (w : World)
    (hpb : pb < w.heap.size) (hp : w.cell? ⟨pb, po, none⟩ = some (.slice sa sl sc)) (hL : Tryd.Cxs w.heap.size w (.slice sa sl sc) zs) :
    Calls Tryd.prog 99 #[.pointer (some ⟨pb, po, none⟩)] w fun e W' => e = .returned (.int .i64 (Tryd.enclV zs.reverse)) ∧ Below w.heap.size w W' :=
  (callsIn_wide (n := 4)).1 (Tryd.encl_in _ 4 trivial trivial trivial rfl (by omega) pb po sa sl sc zs w hpb hp hL)
#print axioms Tryd.encl
end Go.Proofs
