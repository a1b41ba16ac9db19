/- strings.IndexByte and strings.Contains, as the abstract machine has them. Conditions: none. -/
import Derived.Test.YtjhbakfgoaeeoaaDoorAmY8
set_option linter.unusedSimpArgs false
set_option linter.unusedVariables false
namespace Go.Am
open Go.RowKit Go.Proofs

def idx2X : List AV → St → Option (AV × St)
  | [.str s, .int .u8 c], st => some (.int .i64 (Lib.indexByte (bts s) c.toNat.toUInt8), st)
  | _, _ => none
def hasX : List AV → St → Option (AV × St)
  | [.str s, .str sub], st => if s.size < 4294967281 then some (.bool (Lib.contains (bts s) (bts sub)), st) else none
  | _, _ => none

section
variable {G : Glob} {P : Program} {f : Nat}

theorem idx2_callC (he : ∀ args w, (callFunc f args).run P w = .ok (.enter f args) w)
    (hc : ∀ (s : ByteArray) (c : Int) (w : World), Calls P f #[.string s, .int .u8 c] w fun e w' => e = .returned (.int .i64 (Lib.indexByte s.data.toList c.toNat.toUInt8)) ∧ w' = w) :
    ∀ args s v s', idx2X args s = some (v, s') → CallC G P f args s v s' := by
  intro args s v s' h
  unfold idx2X at h
  split at h
  · cases h
    refine callC_of fun ρ w argv hS hG hV => ⟨he _, ?_⟩
    obtain ⟨x, y, rfl, hx, hy⟩ := argv2 hV
    cases hx; cases hy
    refine (hc _ _ w).mono ?_
    rintro e w' ⟨rfl, rfl⟩
    exact ⟨_, rfl, Below.refl _ _, fun _ => .int _ _⟩
  · cases h

theorem has_callC {g : Nat} {m : Int} (hg : G g = some [.int .i64 m]) (he : ∀ args w, (callFunc f args).run P w = .ok (.enter f args) w)
    (hc : ∀ (s sub : ByteArray) (m : Int) (w : World), s.size < 4294967281 → w.cell? ⟨g, 0, none⟩ = some (.int .i64 m) → Calls P f #[.string s, .string sub] w fun e w' => e = .returned (.bool (Lib.contains s.data.toList sub.data.toList)) ∧ w' = w) :
    ∀ args s v s', hasX args s = some (v, s') → CallC G P f args s v s' := by
  intro args s v s' h
  unfold hasX at h
  split at h
  · split at h
    · rename_i t sub hsz
      cases h
      refine callC_of fun ρ w argv hS hG hV => ⟨he _, ?_⟩
      obtain ⟨x, y, rfl, hx, hy⟩ := argv2 hV
      cases hx; cases hy
      have hgl := hG g _ hg
      have hcell : w.cell? ⟨g, 0, none⟩ = some (.int .i64 m) := by
        cases hgl with
        | eptr cs vs b o hvs ha =>
          cases hvs with
          | cons _ v _ vs hv hs => cases hv; exact (ha 0 _ rfl).2
      refine (hc t sub m w hsz hcell).mono ?_
      rintro e w' ⟨rfl, rfl⟩
      exact ⟨_, rfl, Below.refl _ _, fun _ => .bool _⟩
    · cases h
  · cases h
end
end Go.Am
