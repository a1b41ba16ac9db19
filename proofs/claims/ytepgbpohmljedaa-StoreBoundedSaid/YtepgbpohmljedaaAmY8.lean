/- The library's functions on strings at a line feed, as the abstract machine has them. Conditions: none. -/
import Derived.Test.YtepgbpohmljedaaAmY7
set_option linter.unusedSimpArgs false
set_option linter.unusedVariables false
namespace Go.Am
open Go.RowKit Go.Proofs

def nl : ByteArray := ⟨#[10]⟩
def lines (s : ByteArray) : List ByteArray := (sp (bts s)).map ofB
theorem lines_len (s : ByteArray) : (lines s).length = (bts s).count 10 + 1 := by rw [lines, List.length_map, sp_len]

def countX : List AV → St → Option (AV × St)
  | [.str s, .str sep], st => if sep = nl then some (.int .i64 ((bts s).count 10 : Nat), st) else none
  | _, _ => none
def splitX : List AV → St → Option (AV × St)
  | [.str s, .str sep], st => if sep = nl ∧ s.size < 4294967281 then some (.sl ((lines s).flatMap strc) (lines s).length true none, st) else none
  | _, _ => none
def idxX : List AV → St → Option (AV × St)
  | [.str s, .int .u8 c], st => if c = 10 then some (.int .i64 (Lib.indexByte (bts s) 10), st) else none
  | _, _ => none
def lastX : List AV → St → Option (AV × St)
  | [.str s, .int .u8 c], st => if c = 10 ∧ s.size < 4611686018427387904 then some (.int .i64 (Lib.lastIndexByte s 10), st) else none
  | _, _ => none
def cloneX : List AV → St → Option (AV × St)
  | [.str s], st => if s.size ≤ 281474976710656 then some (.str s, st) else none
  | _, _ => none
def joinX : List AV → St → Option (AV × St)
  | [.sl cs len _ _, .str sep], st => match strsOf cs with
    | some l => if l.length = len ∧ 0 < len ∧ len ≤ 140737488355328 ∧ (Lib.join (l.map bts) (bts sep)).length ≤ 140737488355328 then some (.str (ofB (Lib.join (l.map bts) (bts sep))), st) else none
    | none => none
  | _, _ => none

section
variable {G : Glob} {P : Program} {f : Nat}

theorem argv2 {ρ : Rho} {w : World} {n : Nat} {a b : AV} {argv : List Value} (h : Vs ρ w n [a, b] argv) : ∃ x y, argv = [x, y] ∧ V ρ w n a x ∧ V ρ w n b y := by
  cases h with
  | cons _ x _ vs h hs => cases hs with | cons _ y _ vs h2 hs => cases hs; exact ⟨x, y, rfl, h, h2⟩
theorem argv1 {ρ : Rho} {w : World} {n : Nat} {a : AV} {argv : List Value} (h : Vs ρ w n [a] argv) : ∃ x, argv = [x] ∧ V ρ w n a x := by
  cases h with
  | cons _ x _ vs h hs => cases hs; exact ⟨x, rfl, h⟩

theorem count_callC (he : ∀ args w, (callFunc f args).run P w = .ok (.enter f args) w)
    (hc : ∀ (s : ByteArray) (c : UInt8) (w : World), Calls P f #[.string s, .string ⟨#[c]⟩] w fun e w' => e = .returned (.int .i64 (Lib.countByte s.data.toList c)) ∧ w' = w) :
    ∀ args s v s', countX args s = some (v, s') → CallC G P f args s v s' := by
  intro args s v s' h
  unfold countX at h
  split at h
  · split at h
    · rename_i hs
      cases h
      refine callC_of fun ρ w argv hS hG hV => ⟨he _, ?_⟩
      obtain ⟨x, y, rfl, hx, hy⟩ := argv2 hV
      cases hx; cases hy
      subst hs
      refine (hc _ 10 w).mono ?_
      rintro e w' ⟨rfl, rfl⟩
      exact ⟨_, rfl, Below.refl _ _, fun _ => .int _ _⟩
    · cases h
  · cases h

theorem idx_callC (he : ∀ args w, (callFunc f args).run P w = .ok (.enter f args) w)
    (hc : ∀ (s : ByteArray) (c : Int) (w : World), Calls P f #[.string s, .int .u8 c] w fun e w' => e = .returned (.int .i64 (Lib.indexByte s.data.toList c.toNat.toUInt8)) ∧ w' = w) :
    ∀ args s v s', idxX args s = some (v, s') → CallC G P f args s v s' := by
  intro args s v s' h
  unfold idxX at h
  split at h
  · split at h
    · rename_i hs
      cases h
      refine callC_of fun ρ w argv hS hG hV => ⟨he _, ?_⟩
      obtain ⟨x, y, rfl, hx, hy⟩ := argv2 hV
      cases hx; cases hy
      subst hs
      refine (hc _ 10 w).mono ?_
      rintro e w' ⟨rfl, rfl⟩
      exact ⟨_, rfl, Below.refl _ _, fun _ => .int _ _⟩
    · cases h
  · cases h

theorem last_callC (he : ∀ args w, (callFunc f args).run P w = .ok (.enter f args) w)
    (hc : ∀ (s : ByteArray) (c : Int) (_ : s.size < 4611686018427387904) (w : World), Calls P f #[.string s, .int .u8 c] w fun e w' => e = .returned (.int .i64 (Lib.lastIndexByte s c)) ∧ w' = w) :
    ∀ args s v s', lastX args s = some (v, s') → CallC G P f args s v s' := by
  intro args s v s' h
  unfold lastX at h
  split at h
  · split at h
    · rename_i hs
      cases h
      refine callC_of fun ρ w argv hS hG hV => ⟨he _, ?_⟩
      obtain ⟨x, y, rfl, hx, hy⟩ := argv2 hV
      cases hx; cases hy
      obtain ⟨rfl, hsz⟩ := hs
      refine (hc _ 10 hsz w).mono ?_
      rintro e w' ⟨rfl, rfl⟩
      exact ⟨_, rfl, Below.refl _ _, fun _ => .int _ _⟩
    · cases h
  · cases h

theorem clone_callC (he : ∀ args w, (callFunc f args).run P w = .ok (.enter f args) w)
    (hc : ∀ (s : ByteArray) (w : World) (_ : s.size ≤ 281474976710656), Calls P f #[.string s] w fun e w' => e = .returned (.string s) ∧ Below w.heap.size w w') :
    ∀ args s v s', cloneX args s = some (v, s') → CallC G P f args s v s' := by
  intro args s v s' h
  unfold cloneX at h
  split at h
  · split at h
    · rename_i hs
      cases h
      refine callC_of fun ρ w argv hS hG hV => ⟨he _, ?_⟩
      obtain ⟨x, rfl, hx⟩ := argv1 hV
      cases hx
      refine (hc _ w hs).mono ?_
      rintro e w' ⟨rfl, hb⟩
      exact ⟨_, rfl, hb, fun _ => .str _⟩
    · cases h
  · cases h

theorem join_callC (he : ∀ args w, (callFunc f args).run P w = .ok (.enter f args) w)
    (hc : ∀ (bk o c : Nat) (xs : List ByteArray) (sep : ByteArray) (w : World), (∀ (j : Nat) x, xs[j]? = some x → w.cell? ⟨bk, o + j, none⟩ = some (.string x)) → bk < w.heap.size → xs.length ≤ 140737488355328 → xs.length ≤ c → (Lib.join (xs.map (·.data.toList)) sep.data.toList).length ≤ 140737488355328 →
      Calls P f #[.slice (some ⟨bk, o, none⟩) xs.length c, .string sep] w fun e w' => e = .returned (.string ⟨(Lib.join (xs.map (·.data.toList)) sep.data.toList).toArray⟩) ∧ Below w.heap.size w w') :
    ∀ args s v s', joinX args s = some (v, s') → CallC G P f args s v s' := by
  intro args s v s' h
  unfold joinX at h
  split at h
  · split at h
    · rename_i l hl
      split at h
      · rename_i hcd
        obtain ⟨rfl, hpos, hlen, hj⟩ := hcd
        cases h
        obtain rfl := strsOf_some hl
        refine callC_of fun ρ w argv hS hG hV => ⟨he _, ?_⟩
        obtain ⟨x, y, rfl, hx, hy⟩ := argv2 hV
        cases hy
        generalize hq : l.flatMap strc = q at hx
        generalize hn : l.length = n at hx
        cases hx with
        | sl0 => omega
        | sl _ vs b o _ cap _ _ hvs ha hf hlc ht =>
          subst hq hn
          obtain rfl := vs_strs hvs
          have hcell : ∀ (j : Nat) x, l[j]? = some x → w.cell? ⟨b, o + j, none⟩ = some (.string x) := fun j x hj => (ha j _ (by rw [List.getElem?_map, hj]; rfl)).2
          have hb : b < w.heap.size := by
            obtain ⟨x, hx⟩ : ∃ x, l[0]? = some x := ⟨_, List.getElem?_eq_getElem hpos⟩
            exact World.block_lt_of_cell? w ⟨b, o + 0, none⟩ (hcell 0 x hx)
          refine (hc b o cap l _ w hcell hb hlen hlc hj).mono ?_
          rintro e w' ⟨rfl, hbl⟩
          exact ⟨_, rfl, hbl, fun _ => .str _⟩
      · cases h
    · cases h
  · cases h

theorem split_callC {ty : TypeId} {g : Nat} {m : Int} (hg : G g = some [.int .i64 m]) (he : ∀ args w, (callFunc f args).run P w = .ok (.enter f args) w)
    (hc : ∀ (s sep : ByteArray) (m : Int) (w : World), s.size < 4294967281 → w.cell? ⟨g, 0, none⟩ = some (.int .i64 m) → 1 ≤ sep.size → Calls P f #[.string s, .string sep] w fun e w' =>
      e = .returned (.slice (some ⟨w.heap.size, 0, none⟩) (Lib.countB s sep + 1) (Lib.countB s sep + 1)) ∧ w' = w.alloc (.cells ((Lib.splitB sep 0 (Lib.countB s sep) s).map Value.string).toArray ty)) :
    ∀ args s v s', splitX args s = some (v, s') → CallC G P f args s v s' := by
  intro args s v s' h
  unfold splitX at h
  split at h
  · split at h
    · rename_i t sep hs
      obtain ⟨rfl, hsz⟩ := hs
      cases h
      intro ρ w argv hS hG hV
      refine ⟨he _, ?_⟩
      obtain ⟨x, y, rfl, hx, hy⟩ := argv2 hV
      cases hx; cases hy
      have hgl := hG g _ hg
      have hcell : w.cell? ⟨g, 0, none⟩ = some (.int .i64 m) := by
        cases hgl with
        | eptr cs vs b o hvs ha =>
          cases hvs with
          | cons _ v _ vs hv hs => cases hv; exact (ha 0 _ rfl).2
      refine (hc t nl m w hsz hcell (by decide)).mono ?_
      rintro e w' ⟨rfl, rfl⟩
      have hcnt : Lib.countB t nl = (bts t).count 10 := Lib.count_one 10 (bts t)
      have hsp : (Lib.splitB nl 0 (Lib.countB t nl) t) = lines t := by
        have h1 := Lib.splitB_data nl 0 (Lib.countB t nl) t
        have h2 : Lib.splitK nl.data.toList 0 (Lib.countB t nl) t.data.toList = sp (bts t) := splitK_sp _ _ hcnt.symm
        rw [h2] at h1
        have h3 := congrArg (List.map ofB) h1
        rw [List.map_map, show ofB ∘ (fun x : ByteArray => x.data.toList) = id from rfl, List.map_id] at h3
        exact h3
      have hl : Lib.countB t nl + 1 = (lines t).length := by rw [lines_len, hcnt]
      rw [hsp, hl]
      obtain ⟨hF, hS'⟩ := new_ro hS ((lines t).map Value.string).toArray ty
      refine ⟨_, _, rfl, hF, hS', ?_⟩
      refine .sl _ ((lines t).map Value.string) w.heap.size 0 (lines t).length (lines t).length true none (strs_vs _) (fun j v hj => ⟨?_, ?_⟩) (fun _ => rfl) (Nat.le_refl _) (fun t ht => by cases ht)
      · simp [Imm, ImmL, Rho.lay]
      · show (pushW w _).cell? _ = _
        simp only [World.cell?, heap_push_new, Nat.zero_add, Option.isSome_none, Bool.false_eq_true, if_false, List.getElem?_toArray]
        exact hj
    · cases h
  · cases h
end
end Go.Am
