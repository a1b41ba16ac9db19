/- The library's sort and compact of strings, as the abstract machine has them. Conditions: none. -/
import Derived.Test.YtfleakoephmgaaaDoorAmU
import Derived.Sort.Grow
import Derived.Sort.EncStr
import Derived.Lib.SlicesCompact
set_option linter.unusedSimpArgs false
set_option linter.unusedVariables false
namespace Go.Am
open Go.RowKit Go.Proofs
open Go.Sort (putRow mapBlock putCells onCells Holds grow grow_empty)

def strc (s : ByteArray) : List AV := [.str s]
theorem strc_len (s : ByteArray) : (strc s).length = 1 := rfl

/-- The strings of a row of cells. -/
def strsOf : List AV → Option (List ByteArray)
  | [] => some []
  | .str s :: r => match strsOf r with | some l => some (s :: l) | none => none
  | _ => none

theorem strsOf_some : ∀ {cs : List AV} {l : List ByteArray}, strsOf cs = some l → cs = l.flatMap strc
  | [], l, h => by cases h; rfl
  | a :: r, l, h => by
    cases a <;> simp only [strsOf] at h <;> try (cases h)
    split at h
    · rename_i l' hl
      cases h
      rw [List.flatMap_cons, strsOf_some hl]; rfl
    · cases h
theorem strsOf_flat : ∀ (l : List ByteArray), strsOf (l.flatMap strc) = some l
  | [] => rfl
  | a :: l => by rw [List.flatMap_cons]; show (match strsOf (l.flatMap strc) with | some l => some (a :: l) | none => none) = _; rw [strsOf_flat l]

def bts (b : ByteArray) : List UInt8 := b.data.toList
def ofB (l : List UInt8) : ByteArray := ⟨l.toArray⟩
theorem ofB_bts (b : ByteArray) : ofB (bts b) = b := rfl
theorem bts_ofB (l : List UInt8) : bts (ofB l) = l := rfl

def sortB (l : List ByteArray) : List ByteArray := ((l.map bts).mergeSort fun x y => decide (x ≤ y)).map ofB
def compactB (l : List ByteArray) : List ByteArray := (Lib.compact (l.map bts)).map ofB
theorem sortB_len (l : List ByteArray) : (sortB l).length = l.length := by simp [sortB]

def sortX : List AV → St → Option (AV × St)
  | [.nils], s => some (.tup [], s)
  | [.sl [] 0 _ _], s => some (.tup [], s)
  | [.msl p 0 len 1], s => match s.obj p with
    | some (.cells cs) => match strsOf cs with
      | some l => if l.length = len ∧ len < 4611686018427387904 then some (.tup [], s.put p (some (.cells ((sortB l).flatMap strc)))) else none
      | none => none
    | _ => none
  | _, _ => none

/-- What is left over is cleared. -/
def clearB (l : List ByteArray) : List ByteArray := compactB l ++ List.replicate (l.length - (compactB l).length) ⟨#[]⟩

def compactX : List AV → St → Option (AV × St)
  | [.nils], s => some (.nils, s)
  | [.sl [] 0 full tok], s => some (.sl [] 0 full tok, s)
  | [.msl p 0 0 1], s => some (.msl p 0 0 1, s)
  | [.msl p 0 len 1], s => match s.obj p with
    | some (.cells cs) => match strsOf cs with
      | some l => if l.length = len ∧ 0 < len ∧ len < 4611686018427387904 ∧ (compactB l).length ≤ l.length then some (.msl p 0 (compactB l).length 1, s.put p (some (.cells ((clearB l).flatMap strc)))) else none
      | none => none
    | _ => none
  | _, _ => none

section
variable {ρ : Rho} {s : St} {w : World}

theorem vs_strs : ∀ {l : List ByteArray} {vs : List Value}, Vs ρ w s.size (l.flatMap strc) vs → vs = l.map Value.string
  | [], vs, h => by cases h; rfl
  | a :: l, vs, h => by
    rw [List.flatMap_cons] at h
    cases h with
    | cons _ v _ vs h hs => cases h; rw [List.map_cons, vs_strs hs]
theorem strs_vs {w' : World} {n : Nat} : ∀ (l : List ByteArray), Vs ρ w' n (l.flatMap strc) (l.map Value.string)
  | [] => .nil
  | a :: l => .cons _ _ _ _ (.str a) (strs_vs l)

theorem map_enc (l : List (List UInt8)) : (l.map ofB).map Value.string = l.map encStr := by
  rw [List.map_map]; rfl

theorem putRow_eq {b : Nat} {l : List ByteArray} {rest : List Value} {ty : TypeId} (h : w.heap[b]? = some (.cells (l.map Value.string ++ rest).toArray ty (0, 0))) (d : List (List UInt8)) (hd : d.length = l.length) :
    putRow encStr w b 0 d.toArray = putW w b (.cells ((d.map encStr) ++ rest).toArray ty (0, 0)) := by
  unfold putRow mapBlock putW
  congr 1
  have hb := (Array.getElem?_eq_some_iff.1 h).1
  apply Array.ext_getElem?
  intro k
  simp only [Array.getElem?_modify, Array.getElem?_setIfInBounds]
  by_cases hk : b = k
  · subst hk
    rw [if_pos rfl, if_pos rfl, if_pos hb, h]
    simp only [Option.map_some, onCells, putCells, Option.some.injEq, Obj.cells.injEq, and_true]
    apply Array.ext_getElem?
    intro j
    rw [Array.getElem?_mapIdx]
    simp only [List.getElem?_toArray, List.size_toArray, Nat.zero_le, true_and, Nat.zero_add, Nat.sub_zero]
    by_cases hj : j < d.length
    · have hj' : j < l.length := by omega
      rw [List.getElem?_append_left (by rw [List.length_map]; first | exact hj | exact hj'), List.getElem?_append_left (by rw [List.length_map]; first | exact hj | exact hj'), List.getElem?_map, List.getElem?_map, List.getElem?_eq_getElem hj', List.getElem?_eq_getElem hj]
      simp only [Option.map_some, hj, hj', if_true]
      rw [getElem!_pos _ j (by simpa using hj)]
      rfl
    · have hj' : ¬ j < l.length := by omega
      rw [List.getElem?_append_right (by rw [List.length_map]; omega), List.getElem?_append_right (by rw [List.length_map]; omega), List.length_map, List.length_map, hd]
      cases rest[j - l.length]? with
      | none => rfl
      | some x => simp only [Option.map_some, hj, hj', if_false]
  · rw [if_neg hk, if_neg hk]

theorem holds_of {b : Nat} {l : List ByteArray} {rest : List Value} {ty : TypeId} (h : w.heap[b]? = some (.cells (l.map Value.string ++ rest).toArray ty (0, 0))) : Holds encStr w b 0 (l.map bts).toArray := by
  intro j hj
  have hj' : j < l.length := by simpa using hj
  refine ⟨?_, ?_⟩
  · simp only [World.cell?, h, Nat.zero_add, Option.isSome_none, Bool.false_eq_true, if_false, List.getElem?_toArray]
    rw [List.getElem?_append_left (by simpa using hj'), List.getElem?_map, List.getElem?_eq_getElem hj']
    rw [getElem!_pos _ j hj]
    simp [bts]
  · simp [World.frozen?, h]

theorem below_ahead (w : World) (n : Nat) : Below w.heap.size w (Sort.ahead w n) := ⟨rfl, rfl, rfl, Nat.le_refl _, fun _ _ => rfl⟩
theorem below_grow (w : World) (os : Array Obj) : Below w.heap.size w (grow w os) := ⟨rfl, rfl, rfl, by simp, fun k hk => by simp only [grow]; rw [Array.getElem?_append_left hk]⟩

/-- An array of strings turned by the library. -/
theorem turned (hS : Sim ρ s w) {p : Nat} {l l' : List ByteArray} (ho : s.obj p = some (.cells (l.flatMap strc))) (hp : ρ.pend p = false) (hl : l'.length = l.length) (n : Nat) (os : Array Obj) :
    Fr ρ s w ρ (s.put p (some (.cells (l'.flatMap strc)))) (grow (putRow encStr (Sort.ahead w n) (ρ.blk p) 0 (l'.map bts).toArray) os) ∧
      Sim ρ (s.put p (some (.cells (l'.flatMap strc)))) (grow (putRow encStr (Sort.ahead w n) (ρ.blk p) 0 (l'.map bts).toArray) os) := by
  obtain ⟨hF0, hS0⟩ := below_sim hS (below_ahead w n)
  obtain ⟨hi, hlab, vs, rest, ty, hh, hvs, ht⟩ := hS0.cells p _ ho hp
  obtain rfl := vs_strs hvs
  rw [putRow_eq hh _ (by simpa using hl)]
  have he : (l'.map bts).map encStr = l'.map Value.string := by rw [List.map_map]; rfl
  rw [he]
  obtain ⟨hF1, hS1⟩ := put_obj (ty := ty) (rest := rest) hS0 ho hp (strs_vs (ρ := ρ) (w' := Sort.ahead w n) (n := s.size) l') (by rw [← ht]; simp [hl])
  obtain ⟨hF2, hS2⟩ := below_sim hS1 (below_grow _ os)
  exact ⟨(hF0.trans hF1).trans hF2, hS2⟩
end

section
variable {G : Glob} {P : Program} {f : Nat}

theorem sort_callC (he : ∀ args w, (callFunc f args).run P w = .ok (.enter f args) w)
    (hs : ∀ (blk off cap : Nat) (ss : List (List UInt8)) (w : World), Holds encStr w blk off ss.toArray → blk < w.heap.size → ss.length < 4611686018427387904 →
      Calls P f #[.slice (some ⟨blk, off, none⟩) ss.length cap] w fun e w' => e = .returned (.tuple #[]) ∧ ∃ n os, w' = grow (putRow encStr (Sort.ahead w n) blk off (ss.mergeSort fun x y => decide (x ≤ y)).toArray) os)
    (h0 : ∀ (p : Option Addr) (cap : Nat) (w : World), Calls P f #[.slice p 0 cap] w fun e w' => e = .returned (.tuple #[]) ∧ w' = w) :
    ∀ args s v s', sortX args s = some (v, s') → CallC G P f args s v s' := by
  intro args s v s' h
  unfold sortX at h
  split at h
  · cases h
    refine callC_of fun ρ w argv hS hG hV => ⟨he _, ?_⟩
    obtain ⟨x, rfl⟩ : ∃ x, argv = [x] := List.length_eq_one_iff.1 hV.length
    cases hV with
    | cons _ _ _ _ hv hvs =>
      cases hv
      refine (h0 none 0 w).mono ?_
      rintro e w' ⟨rfl, rfl⟩
      exact ⟨_, rfl, Below.refl _ _, fun _ => .tup [] [] .nil⟩
  · cases h
    refine callC_of fun ρ w argv hS hG hV => ⟨he _, ?_⟩
    obtain ⟨x, rfl⟩ : ∃ x, argv = [x] := List.length_eq_one_iff.1 hV.length
    cases hV with
    | cons _ _ _ _ hv hvs =>
      cases hv with
      | sl _ vs b o _ cap _ _ hvs ha hf hlc ht =>
        refine (h0 _ cap w).mono ?_
        rintro e w' ⟨rfl, rfl⟩
        exact ⟨_, rfl, Below.refl _ _, fun _ => .tup [] [] .nil⟩
      | sl0 a cap _ _ hf ha ht =>
        refine (h0 a cap w).mono ?_
        rintro e w' ⟨rfl, rfl⟩
        exact ⟨_, rfl, Below.refl _ _, fun _ => .tup [] [] .nil⟩
  · rename_i p len
    split at h
    · rename_i cs ho
      split at h
      · rename_i l hl
        split at h
        · rename_i hc
          obtain ⟨rfl, hlt⟩ := hc
          cases h
          obtain rfl := strsOf_some hl
          intro ρ w argv hS hG hV
          refine ⟨he _, ?_⟩
          obtain ⟨x, rfl⟩ : ∃ x, argv = [x] := List.length_eq_one_iff.1 hV.length
          cases hV with
          | cons _ _ _ _ hv hvs =>
            cases hv with
            | msl _ _ _ cap _ hi hip hlc ht =>
              obtain ⟨-, -, vs, rest, ty, hh, hvs', -⟩ := hS.cells p _ ho hip
              obtain rfl := vs_strs hvs'
              have := hs (ρ.blk p) 0 cap (l.map bts) w (holds_of hh) (blk_lt hS ho hip) (by simpa using hlt)
              rw [List.length_map] at this
              refine this.mono ?_
              rintro e w' ⟨rfl, n, os, rfl⟩
              obtain ⟨hF, hS'⟩ := turned hS (l' := sortB l) ho hip (sortB_len l) n os
              rw [show (sortB l).map bts = (l.map bts).mergeSort fun x y => decide (x ≤ y) by simp [sortB, List.map_map, Function.comp_def, bts_ofB]] at hF hS'
              exact ⟨ρ, _, rfl, hF, hS', .tup [] [] .nil⟩
        · cases h
      · cases h
    · cases h
  · cases h

theorem compact_callC (he : ∀ args w, (callFunc f args).run P w = .ok (.enter f args) w)
    (hs : ∀ (blk off cap : Nat) (zs : List (List UInt8)) (w : World), Holds encStr w blk off zs.toArray → zs.length ≤ 9223372036854775807 → zs.length ≤ cap →
      Calls P f #[.slice (some ⟨blk, off, none⟩) zs.length cap] w fun e w' => e = .returned (.slice (some ⟨blk, off, none⟩) (Lib.compact zs).length cap) ∧ ∃ q, w' = putRow encStr (Sort.ahead w q) blk off (Lib.compact zs ++ List.replicate (zs.length - (Lib.compact zs).length) []).toArray)
    (h0 : ∀ (a : Option Addr) (cap : Nat) (w : World), Calls P f #[.slice a 0 cap] w fun e w' => e = .returned (.slice a 0 cap) ∧ w' = w) :
    ∀ args s v s', compactX args s = some (v, s') → CallC G P f args s v s' := by
  intro args s v s' h
  unfold compactX at h
  split at h
  · cases h
    refine callC_of fun ρ w argv hS hG hV => ⟨he _, ?_⟩
    obtain ⟨x, rfl⟩ : ∃ x, argv = [x] := List.length_eq_one_iff.1 hV.length
    cases hV with
    | cons _ _ _ _ hv hvs =>
      cases hv
      refine (h0 none 0 w).mono ?_
      rintro e w' ⟨rfl, rfl⟩
      exact ⟨_, rfl, Below.refl _ _, fun _ => .nils⟩
  · cases h
    refine callC_of fun ρ w argv hS hG hV => ⟨he _, ?_⟩
    obtain ⟨x, rfl⟩ : ∃ x, argv = [x] := List.length_eq_one_iff.1 hV.length
    cases hV with
    | cons _ _ _ _ hv hvs =>
      have hv' := hv
      cases hv with
      | sl _ vs b o _ cap _ _ hvs ha hf hlc ht =>
        refine (h0 _ cap w).mono ?_
        rintro e w' ⟨rfl, rfl⟩
        exact ⟨_, rfl, Below.refl _ _, fun _ => hv'⟩
      | sl0 a cap _ _ hf ha ht =>
        refine (h0 a cap w).mono ?_
        rintro e w' ⟨rfl, rfl⟩
        exact ⟨_, rfl, Below.refl _ _, fun _ => hv'⟩
  · cases h
    refine callC_of fun ρ w argv hS hG hV => ⟨he _, ?_⟩
    obtain ⟨x, rfl⟩ : ∃ x, argv = [x] := List.length_eq_one_iff.1 hV.length
    cases hV with
    | cons _ _ _ _ hv hvs =>
      have hv' := hv
      cases hv with
      | msl _ _ _ cap _ hi hip hlc ht =>
        refine (h0 _ cap w).mono ?_
        rintro e w' ⟨rfl, rfl⟩
        exact ⟨_, rfl, Below.refl _ _, fun _ => hv'⟩
  · rename_i p len _
    split at h
    · rename_i cs ho
      split at h
      · rename_i l hl
        split at h
        · rename_i hc
          obtain ⟨rfl, hpos, hlt, hcl⟩ := hc
          cases h
          obtain rfl := strsOf_some hl
          intro ρ w argv hS hG hV
          refine ⟨he _, ?_⟩
          obtain ⟨x, rfl⟩ : ∃ x, argv = [x] := List.length_eq_one_iff.1 hV.length
          cases hV with
          | cons _ _ _ _ hv hvs =>
            cases hv with
            | msl _ _ _ cap _ hi hip hlc ht =>
              obtain ⟨-, -, vs, rest, ty, hh, hvs', -⟩ := hS.cells p _ ho hip
              obtain rfl := vs_strs hvs'
              have := hs (ρ.blk p) 0 cap (l.map bts) w (holds_of hh) (by simp; omega) (by simpa using hlc)
              rw [List.length_map] at this
              refine this.mono ?_
              rintro e w' ⟨rfl, n, rfl⟩
              have hcb : (Lib.compact (l.map bts)).length = (compactB l).length := by simp [compactB]
              obtain ⟨hF, hS'⟩ := turned hS (l' := clearB l) ho hip (by simp [clearB]; omega) n #[]
              have hm : (clearB l).map bts = Lib.compact (l.map bts) ++ List.replicate (l.length - (Lib.compact (l.map bts)).length) [] := by
                rw [clearB, List.map_append, List.map_replicate, hcb]
                rw [compactB, List.map_map, show bts ∘ ofB = id from rfl, List.map_id]
                rfl
              rw [hm, grow_empty] at hF hS'
              rw [hcb] at hF hS' ⊢
              exact ⟨ρ, _, rfl, hF, hS', .msl p 0 _ cap 1 (by simpa [St.put] using hi) hip (by omega) ht⟩
        · cases h
      · cases h
    · cases h
  · cases h
end
end Go.Am
