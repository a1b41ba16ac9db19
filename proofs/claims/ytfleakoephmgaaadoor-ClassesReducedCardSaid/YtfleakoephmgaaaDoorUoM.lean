/- UnifyNormal. Conditions: none. -/
import Derived.Test.YtfleakoephmgaaaDoorUoI
import Derived.Test.YtfleakoephmgaaaDoorAmTx
import Derived.Test.YtfleakoephmgaaaDoorUnP
set_option linter.unusedSimpArgs false
set_option linter.unusedVariables false
namespace Go.Am.U2
open Go.Am.Un Go.So Go.Proofs
open Go.Am.U1 (tycP isl_tycs drop_at tyw tyc_w NoX vtm vtm_c len_tszs tsz_pos ne_a ne_b ne_c ne_d ne_e ne_f avr chks_cons chk_tsz)
set_option maxRecDepth 100000
set_option linter.unusedSimpArgs false
attribute [local go_sem] wseq COp.isStore wreg wdreg wret wskip wexit wblock wcnd cnd_t cnd_f then_n then_x then_r catch_n rnd_n rnd_x rnd_r catch_x catch_r wo_nil wo_grd grdO_t grdO_f wo_ops stpO wr_nil wr_alloc wr_guards grdR_t grdR_f wr_ops stpR evAllocs evOp env0_app eput_some eput_none eset_app Opd.ev wantedA faddrA snew_obj snew_size sput_obj sput_size av_cells av_one av_strip av_still unA eqbA fillA fldA lensA mmA mm2 mmFold List.getD_cons_zero List.getD_cons_succ List.getD_nil List.length_cons List.length_nil List.drop_zero List.drop_succ_cons List.take_succ_cons List.take_zero List.map_cons List.map_nil List.set_cons_zero List.set_cons_succ List.all_cons List.all_nil List.getElem?_cons_zero List.getElem?_cons_succ List.nil_append List.cons_append Nat.zero_add Nat.add_zero beq_self_eq_true bt bf Bool.not_true Bool.not_false Bool.and_true Bool.true_and Bool.and_false Bool.false_and and_self and_true true_and n0 n1 n2 n3 n4 m0 m1 m2 m3 c1 retA resAs resA undefA Option.map_some Option.map_none
variable {X : Ext}

mutual
theorem chk_val (row : Bool) (d left : Int) : ∀ t : Tm, (chk row d left t).1 = 0 → Val t
  | .mk k n v l => by
    intro h
    rw [chk] at h
    split at h
    · simp at h
    split at h
    · simp at h
    split at h
    · simp at h
    split at h
    · simp at h
    split at h
    · simp at h
    rename_i h1 h2 h3 h4 h5
    rw [Val]
    have h31 : ¬ (szK k ≥ 0 ∧ (l.length : Int) ≠ szK k) := fun hh => h3 (Or.inl hh)
    refine ⟨by omega, by omega, fun hk => ?_, fun hk => ?_, fun hk => ?_, fun hk => ?_, fun hk => ?_, vals_of fun i t hi => chks_val k 0 (d + 1) (left - 1) l h t (List.mem_of_getElem? hi)⟩
    · subst hk; simp only [szK, if_true] at h31; omega
    · subst hk; simp [szK] at h31; omega
    · subst hk; simp [szK] at h31; omega
    · subst hk; simp [szK] at h31; simp [h31]
    · subst hk; simp [szK] at h31; omega
theorem chks_val (k : Int) (i : Nat) (d left : Int) : ∀ l : List Tm, (chks k i d left l).1 = 0 → ∀ a, a ∈ l → Val a
  | [] => fun _ a ha => by simp at ha
  | a :: r => fun h b hb => by
    rcases List.mem_cons.1 hb with hb' | hb'
    · rw [hb']; exact chk_val _ d left a (chks_cons h).1
    · exact chks_val k (i + 1) d _ r (chks_cons h).2.1 b hb'
end

end Go.Am.U2

/- Classes, instances and requirements as lists; what their checks say, as functions. Conditions: none. -/
namespace Go.Am.U3
open Go.Am.Un Go.So
set_option linter.unusedSimpArgs false

/-- A class: its name, its superclasses, and what its operations read as. -/
structure Cl where
  name : ByteArray
  sup : List ByteArray
  opn : Nat
  ops : List AV
def scc (s : ByteArray) : List AV := [.str s]
def clc (c : Cl) : List AV := [.str c.name, .sl (c.sup.flatMap scc) c.sup.length false none, .sl c.ops c.opn false none]
/-- A requirement. -/
structure Pr where
  cls : ByteArray
  ty : Tm
def prc (p : Pr) : List AV := [.str p.cls, .int .i64 (kof p.ty), .str (nof p.ty), .int .i64 (vof p.ty), .sl (tycs (lof p.ty)) (lof p.ty).length false none]
/-- An instance. -/
structure In where
  cls : ByteArray
  hd : Tm
  pre : List Pr
def inc (x : In) : List AV := [.str x.cls, .int .i64 (kof x.hd), .str (nof x.hd), .int .i64 (vof x.hd), .sl (tycs (lof x.hd)) (lof x.hd).length false none, .sl (x.pre.flatMap prc) x.pre.length false none]

theorem sccP : Plain scc 1 := ⟨fun _ => rfl, fun _ => rfl, fun _ => rfl, fun _ => rfl⟩
theorem clcP : Plain clc 3 := ⟨fun _ => rfl, fun _ => rfl, fun _ => rfl, fun _ => rfl⟩
theorem prcP : Plain prc 5 := ⟨fun _ => rfl, fun _ => rfl, fun _ => rfl, fun _ => rfl⟩
theorem incP : Plain inc 6 := ⟨fun _ => rfl, fun _ => rfl, fun _ => rfl, fun _ => rfl⟩

def sq (a b : ByteArray) : Bool := a.toList == b.toList
theorem sq_iff {a b : ByteArray} : sq a b = true ↔ a = b := by
  unfold sq
  rw [beq_iff_eq]
  exact ⟨bts_inj, fun h => by rw [h]⟩
theorem sq_rfl (a : ByteArray) : sq a a = true := sq_iff.2 rfl

def hasS (l : List ByteArray) (x : ByteArray) : Bool := l.any fun y => sq x y
theorem hasS_iff {l : List ByteArray} {x : ByteArray} : hasS l x = true ↔ x ∈ l := by
  unfold hasS
  rw [List.any_eq_true]
  constructor
  · rintro ⟨y, hy, h⟩; rw [sq_iff.1 h]; exact hy
  · exact fun h => ⟨x, h, sq_rfl x⟩
def noC : Cl := ⟨⟨#[]⟩, [], 0, []⟩
/-- The first class with a name. -/
def find (l : List Cl) (n : ByteArray) : Option Cl := l.find? fun c => sq c.name n
def fnd (l : List Cl) (n : ByteArray) : Cl := (find l n).getD noC
def isC (l : List Cl) (n : ByteArray) : Bool := (find l n).isSome

/-- Two classes of one name. -/
def dup1 : List Cl → List Cl → Bool
  | _, [] => false
  | pre, c :: r => pre.any (fun x => sq x.name c.name) || dup1 (pre ++ [c]) r
/-- The superclasses of a class. -/
def sup1 (l : List Cl) : List ByteArray → List ByteArray → Int
  | _, [] => 0
  | pre, s :: r => bif !(isC l s) then 6 else bif hasS pre s then 7 else sup1 l (pre ++ [s]) r
def sups (l : List Cl) : List Cl → Int
  | [] => 0
  | c :: r => bif (sup1 l [] c.sup != 0) then sup1 l [] c.sup else sups l r
/-- One class more is done. -/
def tstep (done : List ByteArray) (c : Cl) : List ByteArray := bif (!(hasS done c.name) && !(c.sup.any fun s => !(hasS done s))) then done ++ [c.name] else done
def tpass (l : List Cl) (done : List ByteArray) : List ByteArray := l.foldl tstep done
def titer (l : List Cl) : Nat → List ByteArray → List ByteArray
  | 0, d => d
  | n + 1, d => titer l n (tpass l d)
/-- What Check says. -/
def chkC (l : List Cl) : Int :=
  bif decide ((l.length : Int) > 4096) then 2 else bif dup1 [] l then 7 else bif (sups l l != 0) then sups l l else bif decide (((titer l l.length []).length : Int) < l.length) then 8 else 0

/-- A constructor applied to different variables. -/
def hdv : List Tm → List Tm → Bool
  | _, [] => true
  | pre, a :: r => bif (kof a != 0) then false else bif pre.any (fun b => vof b == vof a) then false else hdv (pre ++ [a]) r
def headed (t : Tm) : Bool := bif (kof t != 1) then false else hdv [] (lof t)
def prs (l : List Cl) (hd : Tm) : List Pr → Int
  | [] => 0
  | p :: r => bif !(isC l p.cls) then 6 else bif (kof p.ty != 0) then 3 else bif !((fre hd).contains (vof p.ty)) then 3 else prs l hd r
def ins1 (l : List Cl) (pre : List In) (x : In) : Int :=
  bif !(isC l x.cls) then 6 else bif ((chk false 1 4096 x.hd).1 != 0) then (chk false 1 4096 x.hd).1 else bif !(headed x.hd) then 3 else bif (prs l x.hd x.pre != 0) then prs l x.hd x.pre else bif pre.any (fun y => sq y.cls x.cls && sq (nof y.hd) (nof x.hd)) then 7 else 0
def insA (l : List Cl) : List In → List In → Int
  | _, [] => 0
  | pre, x :: r => bif (ins1 l pre x != 0) then ins1 l pre x else insA l (pre ++ [x]) r
/-- What Instances says. -/
def inst (l : List Cl) (ins : List In) : Int := bif (chkC l != 0) then chkC l else bif decide ((ins.length : Int) > 4096) then 2 else insA l [] ins

/-- The needs of an instance at a type. -/
def need1 (x : In) (t : Tm) (p : Pr) : List Pr := ((lof x.hd).zip (lof t)).filterMap fun q => bif vof q.1 == vof p.ty then some ⟨p.cls, q.2⟩ else none
def needs (x : In) (t : Tm) : List Pr := x.pre.flatMap (need1 x t)
def fits (w : Pr) (x : In) : Bool := sq x.cls w.cls && kof w.ty == 1 && sq (nof x.hd) (nof w.ty) && (lof x.hd).length == (lof w.ty).length
/-- The first instance that fits, and its number. -/
def instAt (w : Pr) : Nat → List In → Option (Nat × In)
  | _, [] => none
  | i, x :: r => bif fits w x then some (i, x) else instAt w (i + 1) r
theorem wrapc {n : Nat} (h : n ≤ 17592186044416) : IntKind.i64.wrap ((n : Int) + 1) = ((n + 1 : Nat) : Int) := by rw [IntKind.wrap_i64]; omega
end Go.Am.U3
