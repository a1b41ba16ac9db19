/-
  NARROWER THAN 'FOR EVERY INPUT', by the rows' own cells (each row's printed sentence says how): UnifyOccurs: loops, laid · UnifyNormal: loops, laid · UnifySymmetric: loops, laid · UnifyRows: laid · UnifyStable: loops, laid · UnifyExtends: loops, laid · UnifyInstances: loops, laid · ClassesSupers: loops, laid · ClassesWeakened: loops, laid · ClassesForged: loops, laid · ClassesReduced: loops, laid.
  DERIVED. THE GIVEN ROWS OF THIS SEAT. 11 by the template 'for every input the law returns true; each argument reads behind the call as it read before'; 0 by the template 'total and deterministic' (their statements: YtfleakoephmgaaaDoorTotals.lean).
  GIVEN WITH THE SEED: the statements are not yours to turn. If you find one false, say at which input.
  Laid BY PROGRAM, IN A SANDBOX (cutbox-rows.mjs): the forced cells as the released guide's own fill.sh prints them over the translation facdf27c2e2f2cd0… (all of the seat's roots in one cut). By AI agents, Wed Nov 11 2026. No macro, syntax, notation, axiom, sorry.
-/
import Derived.Test.YtfleakoephmgaaaDoorChecked
import GoSem.Claim
import GoSem.ClaimJoined
import GoSem.ClaimMapViews
import Derived.JoinedTies
import Derived.KernelRfl
namespace Go.Proofs.YtfleakoephmgaaaDoor
/- THE CELL 'sum', in the pinned program and in every row, IS THE sha256 OF THE DUMP (.gsa) THAT YtfleakoephmgaaaDoorProg.lean LOADS. Nothing in Lean hashes anything: it is a label: what it is worth is what the hold of that sum in a sandbox is worth. -/
noncomputable def Tryd.pinned : Pinned := { name := "ytfleakoephmgaaadoor", sum := "facdf27c2e2f2cd0b6419f138e182723eb2b3506f7d485ba832b338d8f8ca929", checked := Tryd.checked }
namespace Rows
def none {H : Type} : Left H := { results := [], args := [] }

/- WHAT THE LISTED PACKAGE-LEVEL VARIABLES READ AS WHEN THE CALL BEGINS. Each datum BY PROGRAM (the guide's laid-datum.mjs) off the statement by which the dump's own 'gosem.cut.vars' lays the variable. In a bare row this is a premise. The card (YtfleakoephmgaaaDoorCards.lean) ties it to the program's text. -/
def laid_provenance_unify_sizes {H : Type} : DataW H := .agg [.lit (.int .i64 0), .lit (.int .i64 (-1)), .lit (.int .i64 3), .lit (.int .i64 1), .lit (.int .i64 0), .lit (.int .i64 2)]
def laid_math_bits_deBruijn32tab {H : Type} : DataW H := .agg [.lit (.int .u8 0), .lit (.int .u8 1), .lit (.int .u8 28), .lit (.int .u8 2), .lit (.int .u8 29), .lit (.int .u8 14), .lit (.int .u8 24), .lit (.int .u8 3), .lit (.int .u8 30), .lit (.int .u8 22), .lit (.int .u8 20), .lit (.int .u8 15), .lit (.int .u8 25), .lit (.int .u8 17), .lit (.int .u8 4), .lit (.int .u8 8), .lit (.int .u8 31), .lit (.int .u8 27), .lit (.int .u8 13), .lit (.int .u8 23), .lit (.int .u8 21), .lit (.int .u8 19), .lit (.int .u8 16), .lit (.int .u8 7), .lit (.int .u8 26), .lit (.int .u8 12), .lit (.int .u8 18), .lit (.int .u8 6), .lit (.int .u8 11), .lit (.int .u8 5), .lit (.int .u8 10), .lit (.int .u8 9)]
def laid_math_bits_deBruijn64tab {H : Type} : DataW H := .agg [.lit (.int .u8 0), .lit (.int .u8 1), .lit (.int .u8 56), .lit (.int .u8 2), .lit (.int .u8 57), .lit (.int .u8 49), .lit (.int .u8 28), .lit (.int .u8 3), .lit (.int .u8 61), .lit (.int .u8 58), .lit (.int .u8 42), .lit (.int .u8 50), .lit (.int .u8 38), .lit (.int .u8 29), .lit (.int .u8 17), .lit (.int .u8 4), .lit (.int .u8 62), .lit (.int .u8 47), .lit (.int .u8 59), .lit (.int .u8 36), .lit (.int .u8 45), .lit (.int .u8 43), .lit (.int .u8 51), .lit (.int .u8 22), .lit (.int .u8 53), .lit (.int .u8 39), .lit (.int .u8 33), .lit (.int .u8 30), .lit (.int .u8 24), .lit (.int .u8 18), .lit (.int .u8 12), .lit (.int .u8 5), .lit (.int .u8 63), .lit (.int .u8 55), .lit (.int .u8 48), .lit (.int .u8 27), .lit (.int .u8 60), .lit (.int .u8 41), .lit (.int .u8 37), .lit (.int .u8 16), .lit (.int .u8 46), .lit (.int .u8 35), .lit (.int .u8 44), .lit (.int .u8 21), .lit (.int .u8 52), .lit (.int .u8 32), .lit (.int .u8 23), .lit (.int .u8 11), .lit (.int .u8 54), .lit (.int .u8 26), .lit (.int .u8 40), .lit (.int .u8 15), .lit (.int .u8 34), .lit (.int .u8 20), .lit (.int .u8 31), .lit (.int .u8 10), .lit (.int .u8 25), .lit (.int .u8 14), .lit (.int .u8 19), .lit (.int .u8 9), .lit (.int .u8 13), .lit (.int .u8 8), .lit (.int .u8 7), .lit (.int .u8 6)]
def laid_internal_strconv_uint64pow10 {H : Type} : DataW H := .agg [.lit (.int .u64 1), .lit (.int .u64 10), .lit (.int .u64 100), .lit (.int .u64 1000), .lit (.int .u64 10000), .lit (.int .u64 100000), .lit (.int .u64 1000000), .lit (.int .u64 10000000), .lit (.int .u64 100000000), .lit (.int .u64 1000000000), .lit (.int .u64 10000000000), .lit (.int .u64 100000000000), .lit (.int .u64 1000000000000), .lit (.int .u64 10000000000000), .lit (.int .u64 100000000000000), .lit (.int .u64 1000000000000000), .lit (.int .u64 10000000000000000), .lit (.int .u64 100000000000000000), .lit (.int .u64 1000000000000000000), .lit (.int .u64 10000000000000000000)]

/-- 'provenancekeep1.UnifyOccurs': WHATEVER THE INPUT: true; the input reads as it did. -/
def unifyOccursSpec : ChangeSpec := { name := "unifyOccurs", fn := fun _ => fun
  | [d1, d2] => { results := [.lit (.bool true)], args := [d1, d2] }
  | _ => none }
def unifyOccursRow : OpenClaim := { program := "ytfleakoephmgaaadoor", sum := "facdf27c2e2f2cd0b6419f138e182723eb2b3506f7d485ba832b338d8f8ca929", func := "provenance/provenancekeep1.UnifyOccurs", spec := "unifyOccurs", unfollowed := true, recurses := true, named := ["provenance/unify.sizes"], loops := true, apart := false, laid := [("provenance/unify.sizes", laid_provenance_unify_sizes)] }
def UnifyOccursSaid : Prop := unifyOccursRow.holds Tryd.pinned (OpenSpec.ofChange unifyOccursSpec)

/-- ITS FALSE NEIGHBOUR: 'it returns false'. Refute it at one input. -/
def unifyOccursWrong : ChangeSpec := { name := "unifyOccurs", fn := fun _ => fun
  | [d1, d2] => { results := [.lit (.bool false)], args := [d1, d2] }
  | _ => none }
def UnifyOccursWrongFalsely : Prop := unifyOccursRow.holds Tryd.pinned (OpenSpec.ofChange unifyOccursWrong)

/-- 'provenancekeep1.UnifyNormal': WHATEVER THE INPUT: true; the input reads as it did. -/
def unifyNormalSpec : ChangeSpec := { name := "unifyNormal", fn := fun _ => fun
  | [d] => { results := [.lit (.bool true)], args := [d] }
  | _ => none }
def unifyNormalRow : OpenClaim := { program := "ytfleakoephmgaaadoor", sum := "facdf27c2e2f2cd0b6419f138e182723eb2b3506f7d485ba832b338d8f8ca929", func := "provenance/provenancekeep1.UnifyNormal", spec := "unifyNormal", unfollowed := true, recurses := true, named := ["provenance/unify.sizes"], loops := true, apart := false, laid := [("provenance/unify.sizes", laid_provenance_unify_sizes)] }
def UnifyNormalSaid : Prop := unifyNormalRow.holds Tryd.pinned (OpenSpec.ofChange unifyNormalSpec)

/-- ITS FALSE NEIGHBOUR: 'it returns false'. Refute it at one input. -/
def unifyNormalWrong : ChangeSpec := { name := "unifyNormal", fn := fun _ => fun
  | [d] => { results := [.lit (.bool false)], args := [d] }
  | _ => none }
def UnifyNormalWrongFalsely : Prop := unifyNormalRow.holds Tryd.pinned (OpenSpec.ofChange unifyNormalWrong)

/-- 'provenancekeep1.UnifySymmetric': WHATEVER THE INPUT: true; the input reads as it did. -/
def unifySymmetricSpec : ChangeSpec := { name := "unifySymmetric", fn := fun _ => fun
  | [d1, d2] => { results := [.lit (.bool true)], args := [d1, d2] }
  | _ => none }
def unifySymmetricRow : OpenClaim := { program := "ytfleakoephmgaaadoor", sum := "facdf27c2e2f2cd0b6419f138e182723eb2b3506f7d485ba832b338d8f8ca929", func := "provenance/provenancekeep1.UnifySymmetric", spec := "unifySymmetric", unfollowed := true, recurses := true, named := ["provenance/unify.sizes"], loops := true, apart := false, laid := [("provenance/unify.sizes", laid_provenance_unify_sizes)] }
def UnifySymmetricSaid : Prop := unifySymmetricRow.holds Tryd.pinned (OpenSpec.ofChange unifySymmetricSpec)

/-- ITS FALSE NEIGHBOUR: 'it returns false'. Refute it at one input. -/
def unifySymmetricWrong : ChangeSpec := { name := "unifySymmetric", fn := fun _ => fun
  | [d1, d2] => { results := [.lit (.bool false)], args := [d1, d2] }
  | _ => none }
def UnifySymmetricWrongFalsely : Prop := unifySymmetricRow.holds Tryd.pinned (OpenSpec.ofChange unifySymmetricWrong)

/-- 'provenancekeep1.UnifyRows': WHATEVER THE INPUT: true; the input reads as it did. -/
def unifyRowsSpec : ChangeSpec := { name := "unifyRows", fn := fun _ => fun
  | [d1, d2, d3] => { results := [.lit (.bool true)], args := [d1, d2, d3] }
  | _ => none }
def unifyRowsRow : OpenClaim := { program := "ytfleakoephmgaaadoor", sum := "facdf27c2e2f2cd0b6419f138e182723eb2b3506f7d485ba832b338d8f8ca929", func := "provenance/provenancekeep1.UnifyRows", spec := "unifyRows", unfollowed := true, recurses := true, named := ["provenance/unify.sizes"], apart := false, laid := [("provenance/unify.sizes", laid_provenance_unify_sizes)] }
def UnifyRowsSaid : Prop := unifyRowsRow.holds Tryd.pinned (OpenSpec.ofChange unifyRowsSpec)

/-- ITS FALSE NEIGHBOUR: 'it returns false'. Refute it at one input. -/
def unifyRowsWrong : ChangeSpec := { name := "unifyRows", fn := fun _ => fun
  | [d1, d2, d3] => { results := [.lit (.bool false)], args := [d1, d2, d3] }
  | _ => none }
def UnifyRowsWrongFalsely : Prop := unifyRowsRow.holds Tryd.pinned (OpenSpec.ofChange unifyRowsWrong)

/-- 'provenancekeep1.UnifyStable': WHATEVER THE INPUT: true; the input reads as it did. -/
def unifyStableSpec : ChangeSpec := { name := "unifyStable", fn := fun _ => fun
  | [d1, d2] => { results := [.lit (.bool true)], args := [d1, d2] }
  | _ => none }
def unifyStableRow : OpenClaim := { program := "ytfleakoephmgaaadoor", sum := "facdf27c2e2f2cd0b6419f138e182723eb2b3506f7d485ba832b338d8f8ca929", func := "provenance/provenancekeep1.UnifyStable", spec := "unifyStable", unfollowed := true, recurses := true, named := ["provenance/unify.sizes"], loops := true, apart := false, laid := [("provenance/unify.sizes", laid_provenance_unify_sizes)] }
def UnifyStableSaid : Prop := unifyStableRow.holds Tryd.pinned (OpenSpec.ofChange unifyStableSpec)

/-- ITS FALSE NEIGHBOUR: 'it returns false'. Refute it at one input. -/
def unifyStableWrong : ChangeSpec := { name := "unifyStable", fn := fun _ => fun
  | [d1, d2] => { results := [.lit (.bool false)], args := [d1, d2] }
  | _ => none }
def UnifyStableWrongFalsely : Prop := unifyStableRow.holds Tryd.pinned (OpenSpec.ofChange unifyStableWrong)

/-- 'provenancekeep1.UnifyExtends': WHATEVER THE INPUT: true; the input reads as it did. -/
def unifyExtendsSpec : ChangeSpec := { name := "unifyExtends", fn := fun _ => fun
  | [d1, d2, d3, d4] => { results := [.lit (.bool true)], args := [d1, d2, d3, d4] }
  | _ => none }
def unifyExtendsRow : OpenClaim := { program := "ytfleakoephmgaaadoor", sum := "facdf27c2e2f2cd0b6419f138e182723eb2b3506f7d485ba832b338d8f8ca929", func := "provenance/provenancekeep1.UnifyExtends", spec := "unifyExtends", unfollowed := true, recurses := true, named := ["provenance/unify.sizes"], loops := true, apart := false, laid := [("provenance/unify.sizes", laid_provenance_unify_sizes)] }
def UnifyExtendsSaid : Prop := unifyExtendsRow.holds Tryd.pinned (OpenSpec.ofChange unifyExtendsSpec)

/-- ITS FALSE NEIGHBOUR: 'it returns false'. Refute it at one input. -/
def unifyExtendsWrong : ChangeSpec := { name := "unifyExtends", fn := fun _ => fun
  | [d1, d2, d3, d4] => { results := [.lit (.bool false)], args := [d1, d2, d3, d4] }
  | _ => none }
def UnifyExtendsWrongFalsely : Prop := unifyExtendsRow.holds Tryd.pinned (OpenSpec.ofChange unifyExtendsWrong)

/-- 'provenancekeep1.UnifyInstances': WHATEVER THE INPUT: true; the input reads as it did. -/
def unifyInstancesSpec : ChangeSpec := { name := "unifyInstances", fn := fun _ => fun
  | [d1, d2] => { results := [.lit (.bool true)], args := [d1, d2] }
  | _ => none }
def unifyInstancesRow : OpenClaim := { program := "ytfleakoephmgaaadoor", sum := "facdf27c2e2f2cd0b6419f138e182723eb2b3506f7d485ba832b338d8f8ca929", func := "provenance/provenancekeep1.UnifyInstances", spec := "unifyInstances", unfollowed := true, recurses := true, named := ["provenance/unify.sizes"], loops := true, apart := false, laid := [("provenance/unify.sizes", laid_provenance_unify_sizes)] }
def UnifyInstancesSaid : Prop := unifyInstancesRow.holds Tryd.pinned (OpenSpec.ofChange unifyInstancesSpec)

/-- ITS FALSE NEIGHBOUR: 'it returns false'. Refute it at one input. -/
def unifyInstancesWrong : ChangeSpec := { name := "unifyInstances", fn := fun _ => fun
  | [d1, d2] => { results := [.lit (.bool false)], args := [d1, d2] }
  | _ => none }
def UnifyInstancesWrongFalsely : Prop := unifyInstancesRow.holds Tryd.pinned (OpenSpec.ofChange unifyInstancesWrong)

/-- 'provenancekeep1.ClassesSupers': WHATEVER THE INPUT: true; the input reads as it did. -/
def classesSupersSpec : ChangeSpec := { name := "classesSupers", fn := fun _ => fun
  | [d1, d2, d3, d4] => { results := [.lit (.bool true)], args := [d1, d2, d3, d4] }
  | _ => none }
def classesSupersRow : OpenClaim := { program := "ytfleakoephmgaaadoor", sum := "facdf27c2e2f2cd0b6419f138e182723eb2b3506f7d485ba832b338d8f8ca929", func := "provenance/provenancekeep1.ClassesSupers", spec := "classesSupers", unfollowed := true, recurses := true, named := ["internal/strconv.uint64pow10", "math/bits.deBruijn32tab", "math/bits.deBruijn64tab", "provenance/unify.sizes"], loops := true, apart := false, laid := [("math/bits.deBruijn32tab", laid_math_bits_deBruijn32tab), ("math/bits.deBruijn64tab", laid_math_bits_deBruijn64tab), ("internal/strconv.uint64pow10", laid_internal_strconv_uint64pow10), ("provenance/unify.sizes", laid_provenance_unify_sizes)] }
def ClassesSupersSaid : Prop := classesSupersRow.holds Tryd.pinned (OpenSpec.ofChange classesSupersSpec)

/-- ITS FALSE NEIGHBOUR: 'it returns false'. Refute it at one input. -/
def classesSupersWrong : ChangeSpec := { name := "classesSupers", fn := fun _ => fun
  | [d1, d2, d3, d4] => { results := [.lit (.bool false)], args := [d1, d2, d3, d4] }
  | _ => none }
def ClassesSupersWrongFalsely : Prop := classesSupersRow.holds Tryd.pinned (OpenSpec.ofChange classesSupersWrong)

/-- 'provenancekeep1.ClassesWeakened': WHATEVER THE INPUT: true; the input reads as it did. -/
def classesWeakenedSpec : ChangeSpec := { name := "classesWeakened", fn := fun _ => fun
  | [d1, d2, d3, d4, d5] => { results := [.lit (.bool true)], args := [d1, d2, d3, d4, d5] }
  | _ => none }
def classesWeakenedRow : OpenClaim := { program := "ytfleakoephmgaaadoor", sum := "facdf27c2e2f2cd0b6419f138e182723eb2b3506f7d485ba832b338d8f8ca929", func := "provenance/provenancekeep1.ClassesWeakened", spec := "classesWeakened", unfollowed := true, recurses := true, named := ["internal/strconv.uint64pow10", "math/bits.deBruijn32tab", "math/bits.deBruijn64tab", "provenance/unify.sizes"], loops := true, apart := false, laid := [("math/bits.deBruijn32tab", laid_math_bits_deBruijn32tab), ("math/bits.deBruijn64tab", laid_math_bits_deBruijn64tab), ("internal/strconv.uint64pow10", laid_internal_strconv_uint64pow10), ("provenance/unify.sizes", laid_provenance_unify_sizes)] }
def ClassesWeakenedSaid : Prop := classesWeakenedRow.holds Tryd.pinned (OpenSpec.ofChange classesWeakenedSpec)

/-- ITS FALSE NEIGHBOUR: 'it returns false'. Refute it at one input. -/
def classesWeakenedWrong : ChangeSpec := { name := "classesWeakened", fn := fun _ => fun
  | [d1, d2, d3, d4, d5] => { results := [.lit (.bool false)], args := [d1, d2, d3, d4, d5] }
  | _ => none }
def ClassesWeakenedWrongFalsely : Prop := classesWeakenedRow.holds Tryd.pinned (OpenSpec.ofChange classesWeakenedWrong)

/-- 'provenancekeep1.ClassesForged': WHATEVER THE INPUT: true; the input reads as it did. -/
def classesForgedSpec : ChangeSpec := { name := "classesForged", fn := fun _ => fun
  | [d1, d2, d3, d4, d5] => { results := [.lit (.bool true)], args := [d1, d2, d3, d4, d5] }
  | _ => none }
def classesForgedRow : OpenClaim := { program := "ytfleakoephmgaaadoor", sum := "facdf27c2e2f2cd0b6419f138e182723eb2b3506f7d485ba832b338d8f8ca929", func := "provenance/provenancekeep1.ClassesForged", spec := "classesForged", unfollowed := true, recurses := true, named := ["internal/strconv.uint64pow10", "math/bits.deBruijn32tab", "math/bits.deBruijn64tab", "provenance/unify.sizes"], loops := true, apart := false, laid := [("math/bits.deBruijn32tab", laid_math_bits_deBruijn32tab), ("math/bits.deBruijn64tab", laid_math_bits_deBruijn64tab), ("internal/strconv.uint64pow10", laid_internal_strconv_uint64pow10), ("provenance/unify.sizes", laid_provenance_unify_sizes)] }
def ClassesForgedSaid : Prop := classesForgedRow.holds Tryd.pinned (OpenSpec.ofChange classesForgedSpec)

/-- ITS FALSE NEIGHBOUR: 'it returns false'. Refute it at one input. -/
def classesForgedWrong : ChangeSpec := { name := "classesForged", fn := fun _ => fun
  | [d1, d2, d3, d4, d5] => { results := [.lit (.bool false)], args := [d1, d2, d3, d4, d5] }
  | _ => none }
def ClassesForgedWrongFalsely : Prop := classesForgedRow.holds Tryd.pinned (OpenSpec.ofChange classesForgedWrong)

/-- 'provenancekeep1.ClassesReduced': WHATEVER THE INPUT: true; the input reads as it did. -/
def classesReducedSpec : ChangeSpec := { name := "classesReduced", fn := fun _ => fun
  | [d1, d2, d3] => { results := [.lit (.bool true)], args := [d1, d2, d3] }
  | _ => none }
def classesReducedRow : OpenClaim := { program := "ytfleakoephmgaaadoor", sum := "facdf27c2e2f2cd0b6419f138e182723eb2b3506f7d485ba832b338d8f8ca929", func := "provenance/provenancekeep1.ClassesReduced", spec := "classesReduced", unfollowed := true, recurses := true, named := ["internal/strconv.uint64pow10", "math/bits.deBruijn32tab", "math/bits.deBruijn64tab", "provenance/unify.sizes"], loops := true, apart := false, laid := [("math/bits.deBruijn32tab", laid_math_bits_deBruijn32tab), ("math/bits.deBruijn64tab", laid_math_bits_deBruijn64tab), ("internal/strconv.uint64pow10", laid_internal_strconv_uint64pow10), ("provenance/unify.sizes", laid_provenance_unify_sizes)] }
def ClassesReducedSaid : Prop := classesReducedRow.holds Tryd.pinned (OpenSpec.ofChange classesReducedSpec)

/-- ITS FALSE NEIGHBOUR: 'it returns false'. Refute it at one input. -/
def classesReducedWrong : ChangeSpec := { name := "classesReduced", fn := fun _ => fun
  | [d1, d2, d3] => { results := [.lit (.bool false)], args := [d1, d2, d3] }
  | _ => none }
def ClassesReducedWrongFalsely : Prop := classesReducedRow.holds Tryd.pinned (OpenSpec.ofChange classesReducedWrong)

/- THE SECOND FORM. 'bulk': how many values and letters a reading holds, each counted each time it is reached (what is shared counts as often as it is met; a slice's spare places count too). A statement '..UptoSaid' is the law's where the arguments, and the package variables that the reading takes, are together of bulk at most 1048576: NARROWER than '..Said'. Prove '..Said' where nothing that the law and all that it calls make is longer than what came in: it says more and counts as full. Else prove '..UptoSaid'. A law counts once. -/
mutual
def uptoBulk {H : Type} : DataW H → Nat
  | .lit (.string bytes) => bytes.length + 1
  | .lit _ => 1
  | .nil => 1
  | .ptr d => uptoBulk d + 1
  | .slice elems spare => uptoBulkAll elems + uptoBulkAll spare + 1
  | .agg parts => uptoBulkAll parts + 1
  | .iface _ d => uptoBulk d + 1
  | .map entries => uptoBulkEntries entries + 1
  | .held _ => 1
def uptoBulkAll {H : Type} : List (DataW H) → Nat
  | [] => 0
  | d :: r => uptoBulk d + uptoBulkAll r
def uptoBulkEntries {H : Type} : List (Lit × DataW H) → Nat
  | [] => 0
  | x :: r => uptoBulkEntry x + uptoBulkEntries r
def uptoBulkEntry {H : Type} : Lit × DataW H → Nat
  | (.string bytes, d) => bytes.length + uptoBulk d + 1
  | (_, d) => uptoBulk d + 1
 end
def uptoSmall : (H : Type) → List (DataW H) → Bool := fun _ ds => decide (uptoBulkAll ds ≤ 1048576)
def OpenSpec.upto (s : _root_.Go.ChangeSpec) : _root_.Go.OpenSpec := { _root_.Go.OpenSpec.ofChange s with cond := some uptoSmall }

/-- 'provenancekeep1.UnifyOccurs', WHERE WHAT IT READS IS OF BULK AT MOST 1048576: true; the input reads as it did. -/
def unifyOccursUptoRow : OpenClaim := { program := "ytfleakoephmgaaadoor", sum := "facdf27c2e2f2cd0b6419f138e182723eb2b3506f7d485ba832b338d8f8ca929", func := "provenance/provenancekeep1.UnifyOccurs", spec := "unifyOccurs", unfollowed := true, recurses := true, named := ["provenance/unify.sizes"], loops := true, apart := false, laid := [("provenance/unify.sizes", laid_provenance_unify_sizes)], narrowed := true }
def UnifyOccursUptoSaid : Prop := unifyOccursUptoRow.holds Tryd.pinned (OpenSpec.upto unifyOccursSpec)

/-- 'provenancekeep1.UnifyNormal', WHERE WHAT IT READS IS OF BULK AT MOST 1048576: true; the input reads as it did. -/
def unifyNormalUptoRow : OpenClaim := { program := "ytfleakoephmgaaadoor", sum := "facdf27c2e2f2cd0b6419f138e182723eb2b3506f7d485ba832b338d8f8ca929", func := "provenance/provenancekeep1.UnifyNormal", spec := "unifyNormal", unfollowed := true, recurses := true, named := ["provenance/unify.sizes"], loops := true, apart := false, laid := [("provenance/unify.sizes", laid_provenance_unify_sizes)], narrowed := true }
def UnifyNormalUptoSaid : Prop := unifyNormalUptoRow.holds Tryd.pinned (OpenSpec.upto unifyNormalSpec)

/-- 'provenancekeep1.UnifySymmetric', WHERE WHAT IT READS IS OF BULK AT MOST 1048576: true; the input reads as it did. -/
def unifySymmetricUptoRow : OpenClaim := { program := "ytfleakoephmgaaadoor", sum := "facdf27c2e2f2cd0b6419f138e182723eb2b3506f7d485ba832b338d8f8ca929", func := "provenance/provenancekeep1.UnifySymmetric", spec := "unifySymmetric", unfollowed := true, recurses := true, named := ["provenance/unify.sizes"], loops := true, apart := false, laid := [("provenance/unify.sizes", laid_provenance_unify_sizes)], narrowed := true }
def UnifySymmetricUptoSaid : Prop := unifySymmetricUptoRow.holds Tryd.pinned (OpenSpec.upto unifySymmetricSpec)

/-- 'provenancekeep1.UnifyRows', WHERE WHAT IT READS IS OF BULK AT MOST 1048576: true; the input reads as it did. -/
def unifyRowsUptoRow : OpenClaim := { program := "ytfleakoephmgaaadoor", sum := "facdf27c2e2f2cd0b6419f138e182723eb2b3506f7d485ba832b338d8f8ca929", func := "provenance/provenancekeep1.UnifyRows", spec := "unifyRows", unfollowed := true, recurses := true, named := ["provenance/unify.sizes"], apart := false, laid := [("provenance/unify.sizes", laid_provenance_unify_sizes)], narrowed := true }
def UnifyRowsUptoSaid : Prop := unifyRowsUptoRow.holds Tryd.pinned (OpenSpec.upto unifyRowsSpec)

/-- 'provenancekeep1.UnifyStable', WHERE WHAT IT READS IS OF BULK AT MOST 1048576: true; the input reads as it did. -/
def unifyStableUptoRow : OpenClaim := { program := "ytfleakoephmgaaadoor", sum := "facdf27c2e2f2cd0b6419f138e182723eb2b3506f7d485ba832b338d8f8ca929", func := "provenance/provenancekeep1.UnifyStable", spec := "unifyStable", unfollowed := true, recurses := true, named := ["provenance/unify.sizes"], loops := true, apart := false, laid := [("provenance/unify.sizes", laid_provenance_unify_sizes)], narrowed := true }
def UnifyStableUptoSaid : Prop := unifyStableUptoRow.holds Tryd.pinned (OpenSpec.upto unifyStableSpec)

/-- 'provenancekeep1.UnifyExtends', WHERE WHAT IT READS IS OF BULK AT MOST 1048576: true; the input reads as it did. -/
def unifyExtendsUptoRow : OpenClaim := { program := "ytfleakoephmgaaadoor", sum := "facdf27c2e2f2cd0b6419f138e182723eb2b3506f7d485ba832b338d8f8ca929", func := "provenance/provenancekeep1.UnifyExtends", spec := "unifyExtends", unfollowed := true, recurses := true, named := ["provenance/unify.sizes"], loops := true, apart := false, laid := [("provenance/unify.sizes", laid_provenance_unify_sizes)], narrowed := true }
def UnifyExtendsUptoSaid : Prop := unifyExtendsUptoRow.holds Tryd.pinned (OpenSpec.upto unifyExtendsSpec)

/-- 'provenancekeep1.UnifyInstances', WHERE WHAT IT READS IS OF BULK AT MOST 1048576: true; the input reads as it did. -/
def unifyInstancesUptoRow : OpenClaim := { program := "ytfleakoephmgaaadoor", sum := "facdf27c2e2f2cd0b6419f138e182723eb2b3506f7d485ba832b338d8f8ca929", func := "provenance/provenancekeep1.UnifyInstances", spec := "unifyInstances", unfollowed := true, recurses := true, named := ["provenance/unify.sizes"], loops := true, apart := false, laid := [("provenance/unify.sizes", laid_provenance_unify_sizes)], narrowed := true }
def UnifyInstancesUptoSaid : Prop := unifyInstancesUptoRow.holds Tryd.pinned (OpenSpec.upto unifyInstancesSpec)

/-- 'provenancekeep1.ClassesSupers', WHERE WHAT IT READS IS OF BULK AT MOST 1048576: true; the input reads as it did. -/
def classesSupersUptoRow : OpenClaim := { program := "ytfleakoephmgaaadoor", sum := "facdf27c2e2f2cd0b6419f138e182723eb2b3506f7d485ba832b338d8f8ca929", func := "provenance/provenancekeep1.ClassesSupers", spec := "classesSupers", unfollowed := true, recurses := true, named := ["internal/strconv.uint64pow10", "math/bits.deBruijn32tab", "math/bits.deBruijn64tab", "provenance/unify.sizes"], loops := true, apart := false, laid := [("math/bits.deBruijn32tab", laid_math_bits_deBruijn32tab), ("math/bits.deBruijn64tab", laid_math_bits_deBruijn64tab), ("internal/strconv.uint64pow10", laid_internal_strconv_uint64pow10), ("provenance/unify.sizes", laid_provenance_unify_sizes)], narrowed := true }
def ClassesSupersUptoSaid : Prop := classesSupersUptoRow.holds Tryd.pinned (OpenSpec.upto classesSupersSpec)

/-- 'provenancekeep1.ClassesWeakened', WHERE WHAT IT READS IS OF BULK AT MOST 1048576: true; the input reads as it did. -/
def classesWeakenedUptoRow : OpenClaim := { program := "ytfleakoephmgaaadoor", sum := "facdf27c2e2f2cd0b6419f138e182723eb2b3506f7d485ba832b338d8f8ca929", func := "provenance/provenancekeep1.ClassesWeakened", spec := "classesWeakened", unfollowed := true, recurses := true, named := ["internal/strconv.uint64pow10", "math/bits.deBruijn32tab", "math/bits.deBruijn64tab", "provenance/unify.sizes"], loops := true, apart := false, laid := [("math/bits.deBruijn32tab", laid_math_bits_deBruijn32tab), ("math/bits.deBruijn64tab", laid_math_bits_deBruijn64tab), ("internal/strconv.uint64pow10", laid_internal_strconv_uint64pow10), ("provenance/unify.sizes", laid_provenance_unify_sizes)], narrowed := true }
def ClassesWeakenedUptoSaid : Prop := classesWeakenedUptoRow.holds Tryd.pinned (OpenSpec.upto classesWeakenedSpec)

/-- 'provenancekeep1.ClassesForged', WHERE WHAT IT READS IS OF BULK AT MOST 1048576: true; the input reads as it did. -/
def classesForgedUptoRow : OpenClaim := { program := "ytfleakoephmgaaadoor", sum := "facdf27c2e2f2cd0b6419f138e182723eb2b3506f7d485ba832b338d8f8ca929", func := "provenance/provenancekeep1.ClassesForged", spec := "classesForged", unfollowed := true, recurses := true, named := ["internal/strconv.uint64pow10", "math/bits.deBruijn32tab", "math/bits.deBruijn64tab", "provenance/unify.sizes"], loops := true, apart := false, laid := [("math/bits.deBruijn32tab", laid_math_bits_deBruijn32tab), ("math/bits.deBruijn64tab", laid_math_bits_deBruijn64tab), ("internal/strconv.uint64pow10", laid_internal_strconv_uint64pow10), ("provenance/unify.sizes", laid_provenance_unify_sizes)], narrowed := true }
def ClassesForgedUptoSaid : Prop := classesForgedUptoRow.holds Tryd.pinned (OpenSpec.upto classesForgedSpec)

/-- 'provenancekeep1.ClassesReduced', WHERE WHAT IT READS IS OF BULK AT MOST 1048576: true; the input reads as it did. -/
def classesReducedUptoRow : OpenClaim := { program := "ytfleakoephmgaaadoor", sum := "facdf27c2e2f2cd0b6419f138e182723eb2b3506f7d485ba832b338d8f8ca929", func := "provenance/provenancekeep1.ClassesReduced", spec := "classesReduced", unfollowed := true, recurses := true, named := ["internal/strconv.uint64pow10", "math/bits.deBruijn32tab", "math/bits.deBruijn64tab", "provenance/unify.sizes"], loops := true, apart := false, laid := [("math/bits.deBruijn32tab", laid_math_bits_deBruijn32tab), ("math/bits.deBruijn64tab", laid_math_bits_deBruijn64tab), ("internal/strconv.uint64pow10", laid_internal_strconv_uint64pow10), ("provenance/unify.sizes", laid_provenance_unify_sizes)], narrowed := true }
def ClassesReducedUptoSaid : Prop := classesReducedUptoRow.holds Tryd.pinned (OpenSpec.upto classesReducedSpec)

end Rows
end Go.Proofs.YtfleakoephmgaaaDoor
