/- A part of the proof of fixityRenamed. Conditions: none. -/
import Derived.Test.YtpeghecmojlcgaaAmXb
namespace Go.Am.R1

section
variable (old : ByteArray)
/-- An operator renamed. -/
def rn (b : ByteArray) : ByteArray := if (b.toList == old.toList) = true then rnm else b
def rnF (x : Fx) : Fx := ⟨rn old x.op, x.side, x.level⟩
def rnI (x : It) : It := ⟨rn old x.op, x.n⟩
def rnN (x : Nd) : Nd := ⟨rn old x.op, x.n, x.a, x.b⟩
def rnC (r : Cl) : Cl := ⟨r.left, r.at_, r.ns.map (rnN old), r.e⟩
end

/-- It is not the new name. -/
def no (b : ByteArray) : Prop := (b.toList == rnm.toList) = false

section
variable {old : ByteArray}

theorem rn_eq {a b : ByteArray} (ha : no a) (hb : no b) : ((rn old a).toList == (rn old b).toList) = (a.toList == b.toList) := by
  unfold rn
  by_cases h1 : (a.toList == old.toList) = true <;> by_cases h2 : (b.toList == old.toList) = true
  · rw [if_pos h1, if_pos h2]
    have e1 := ba_ext h1
    have e2 := ba_ext h2
    rw [e1, e2, ba_self, ba_self]
  · rw [if_pos h1, if_neg h2]
    have h3 : (a.toList == b.toList) = false := by
      cases h : (a.toList == b.toList) with
      | false => rfl
      | true => rw [ba_ext h] at h1; exact absurd h1 h2
    rw [h3]
    cases h : (rnm.toList == b.toList) with
    | false => rfl
    | true => have := ba_ext h; rw [← this] at hb; unfold no at hb; rw [ba_self] at hb; cases hb
  · rw [if_neg h1, if_pos h2]
    have h3 : (a.toList == b.toList) = false := by
      cases h : (a.toList == b.toList) with
      | false => rfl
      | true => rw [← ba_ext h] at h2; exact absurd h2 h1
    rw [h3]
    exact ha
  · rw [if_neg h1, if_neg h2]

theorem no_emp : no emp := by unfold no; simp only [ByteArray.toList_eq, emp, rnm]; rfl
theorem rn_emp (ho : (old.toList == emp.toList) = false) : rn old emp = emp := by
  unfold rn
  cases h : (emp.toList == old.toList) with
  | false => rw [if_neg (by simp)]
  | true => rw [← ba_ext h, ba_self] at ho; cases ho

theorem find_congr {α : Type} {p q : α → Bool} : ∀ {l : List α}, (∀ x, x ∈ l → p x = q x) → l.find? p = l.find? q
  | [], _ => rfl
  | a :: l, h => by
    rw [List.find?_cons, List.find?_cons, h a (by simp), find_congr (fun x hx => h x (by simp [hx]))]

theorem find_rn (tb : List Fx) (hT : ∀ x, x ∈ tb → no x.op) {op : ByteArray} (hop : no op) : findF (tb.map (rnF old)) (rn old op) = rnF old (findF tb op) := by
  unfold findF
  rw [List.find?_map]
  have : ∀ x, x ∈ tb → ((fun x : Fx => x.op.toList == (rn old op).toList) ∘ rnF old) x = (x.op.toList == op.toList) := fun x hx => rn_eq (hT x hx) hop
  rw [find_congr this]
  cases h : tb.find? (fun x => x.op.toList == op.toList) with
  | none => rfl
  | some x => rfl

theorem against_rn (x y : Fx) : againstF (rnF old x) (rnF old y) = againstF x y := rfl

theorem climb_rn {tb : List Fx} {its : List It} (ho : (old.toList == emp.toList) = false) (hT : ∀ x, x ∈ tb → no x.op) (hI : ∀ x, x ∈ its → no x.op) : ∀ f,
    (∀ least outer k ns, climbF (tb.map (rnF old)) (its.map (rnI old)) f least (rnF old outer) k (ns.map (rnN old)) = (climbF tb its f least outer k ns).map (rnC old)) ∧
    (∀ least outer last left k ns, loopF (tb.map (rnF old)) (its.map (rnI old)) f least (rnF old outer) (rnF old last) left k (ns.map (rnN old)) = (loopF tb its f least outer last left k ns).map (rnC old))
  | 0 => ⟨fun _ _ _ _ => by simp only [climbF]; rfl, fun _ _ _ _ _ _ => by simp only [loopF]; rfl⟩
  | f + 1 => by
    obtain ⟨h1, h2⟩ := climb_rn ho hT hI f
    refine ⟨fun least outer k ns => ?_, fun least outer last left k ns => ?_⟩
    · simp only [climbF, List.getElem?_map]
      cases hit : its[k]? with
      | none => rfl
      | some it =>
        simp only [Option.map_some]
        have hl : (⟨⟨#[]⟩, (rnI old it).n, 0, 0⟩ : Nd) = rnN old ⟨⟨#[]⟩, it.n, 0, 0⟩ := by
          unfold rnN
          simp only
          rw [show rn old ⟨#[]⟩ = ⟨#[]⟩ from rn_emp ho]
          rfl
        rw [hl, List.length_map, show ns.map (rnN old) ++ [rnN old ⟨⟨#[]⟩, it.n, 0, 0⟩] = (ns ++ [(⟨⟨#[]⟩, it.n, 0, 0⟩ : Nd)]).map (rnN old) by simp]
        exact h2 _ _ _ _ _ _
    · simp only [loopF, List.getElem?_map]
      cases hit : its[k]? with
      | none => rfl
      | some it =>
        simp only [Option.map_some]
        have hfr : findF (tb.map (rnF old)) (rnI old it).op = rnF old (findF tb it.op) := find_rn tb hT (hI it (List.mem_of_getElem? hit))
        rw [hfr, against_rn, against_rn]
        generalize findF tb it.op = x
        show (if x.level < least then _ else _) = _
        by_cases hlt : x.level < least
        · rw [if_pos hlt, if_pos hlt]; rfl
        · rw [if_neg hlt, if_neg hlt]
          cases hag : (againstF x outer || againstF x last)
          · simp only [Bool.false_eq_true, if_false]
            have := h1 (if (x.side == 1) = true then x.level else x.level + 1) x (k + 1) ns
            show (match climbF (tb.map (rnF old)) (its.map (rnI old)) f (if (x.side == 1) = true then x.level else x.level + 1) (rnF old x) (k + 1) (ns.map (rnN old)) with | none => none | some r => _) = _
            rw [this]
            cases hq : climbF tb its f (if (x.side == 1) = true then x.level else x.level + 1) x (k + 1) ns with
            | none => rfl
            | some q =>
              simp only [Option.map_some]
              have hl : (rnC old q).ns ++ [(⟨(rnF old x).op, 0, left, (rnC old q).left⟩ : Nd)] = (q.ns ++ [(⟨x.op, 0, left, q.left⟩ : Nd)]).map (rnN old) := by simp [rnC, rnF, rnN]
              have hl2 : (rnC old q).ns.length = q.ns.length := by simp [rnC]
              rw [hl, hl2]
              show (if q.e = 0 then _ else _) = _
              by_cases hqe : q.e = 0
              · rw [if_pos hqe, if_pos hqe]
                exact h2 _ _ _ _ _ _
              · rw [if_neg hqe, if_neg hqe]
                rfl
          · simp only [if_true]
            rfl

theorem checkL_rn (ho : (old.toList == emp.toList) = false) : ∀ (l done : List Fx), (∀ x, x ∈ l → no x.op) → (∀ x, x ∈ done → no x.op) → checkL (done.map (rnF old)) (l.map (rnF old)) = checkL done l
  | [], done, _, _ => by simp only [List.map_nil, checkL]
  | y :: l, done, hl, hd => by
    have hy := hl y (by simp)
    have e1 : ((rnF old y).op.toList == (⟨#[]⟩ : ByteArray).toList) = (y.op.toList == (⟨#[]⟩ : ByteArray).toList) := by
      have := rn_eq (old := old) hy no_emp
      rw [rn_emp ho] at this
      exact this
    have e2 : (done.map (rnF old)).any (fun z => z.op.toList == (rnF old y).op.toList) = done.any (fun z => z.op.toList == y.op.toList) := by
      rw [List.any_map]
      rw [Bool.eq_iff_iff, List.any_eq_true, List.any_eq_true]
      constructor
      · rintro ⟨z, hz, h⟩
        exact ⟨z, hz, by rw [← rn_eq (old := old) (hd z hz) hy]; exact h⟩
      · rintro ⟨z, hz, h⟩
        exact ⟨z, hz, by show ((rn old z.op).toList == (rn old y.op).toList) = true; rw [rn_eq (hd z hz) hy]; exact h⟩
    have ih := checkL_rn ho l (done ++ [y]) (fun x hx => hl x (by simp [hx])) (fun x hx => by rcases List.mem_append.1 hx with hx | hx; exact hd x hx; simp only [List.mem_singleton] at hx; subst hx; exact hy)
    rw [List.map_append, List.map_cons, List.map_nil] at ih
    rw [List.map_cons, checkL, checkL, e1, e2, ih]
    rfl

theorem formL_rn (ho : (old.toList == emp.toList) = false) : ∀ (l : List It) (i : Nat), (∀ x, x ∈ l → no x.op) → formL i (l.map (rnI old)) = formL i l
  | [], i, _ => rfl
  | x :: l, i, hl => by
    have e1 : ((rnI old x).op.toList == (⟨#[]⟩ : ByteArray).toList) = (x.op.toList == (⟨#[]⟩ : ByteArray).toList) := by
      have := rn_eq (old := old) (hl x (by simp)) no_emp
      rw [rn_emp ho] at this
      exact this
    rw [List.map_cons, formL, formL, e1, formL_rn ho l (i + 1) (fun y hy => hl y (by simp [hy]))]

theorem build_rn {tb : List Fx} {its : List It} (ho : (old.toList == emp.toList) = false) (hT : ∀ x, x ∈ tb → no x.op) (hI : ∀ x, x ∈ its → no x.op) :
    buildF (tb.map (rnF old)) (its.map (rnI old)) = ((buildF tb its).1.map (rnN old), (buildF tb its).2) := by
  have hc : checkF (tb.map (rnF old)) = checkF tb := by
    unfold checkF
    rw [List.length_map]
    have := checkL_rn ho tb [] hT (by simp)
    rw [List.map_nil] at this
    rw [this]
  have hroot : rnF old root = root := by unfold rnF root; simp only; rw [show rn old ⟨#[]⟩ = ⟨#[]⟩ from rn_emp ho]
  have hcl := (climb_rn ho hT hI (2 * its.length + 1)).1 0 root 0 []
  rw [hroot, List.map_nil] at hcl
  unfold buildF
  rw [hc, List.length_map, formL_rn ho its 0 hI, hcl]
  by_cases h1 : checkF tb ≠ 0
  · rw [if_pos h1, if_pos h1]; rfl
  · rw [if_neg h1, if_neg h1]
    by_cases h2 : its.length > 400
    · rw [if_pos h2, if_pos h2]; rfl
    · rw [if_neg h2, if_neg h2]
      by_cases h3 : its.length % 2 = 0
      · rw [if_pos h3, if_pos h3]; rfl
      · rw [if_neg h3, if_neg h3]
        by_cases h4 : formL 0 its = false
        · rw [if_pos h4, if_pos h4]; rfl
        · rw [if_neg h4, if_neg h4]
          cases hq : climbF tb its (2 * its.length + 1) 0 root 0 [] with
          | none => rfl
          | some r =>
            simp only [Option.map_some]
            show (if r.e ≠ 0 then _ else _) = _
            by_cases h5 : r.e ≠ 0
            · rw [if_pos h5, if_pos h5]; rfl
            · rw [if_neg h5, if_neg h5]; rfl
end
end Go.Am.R1
