/- A part of the proof of fixityRenamed. Conditions: none. -/
import Derived.Test.YtpeghecmojlcgaaAmX7
namespace Go.Am.R1

theorem ba_ext {a b : ByteArray} (h : (a.toList == b.toList) = true) : a = b := by
  rw [beq_iff_eq, ByteArray.toList_eq, ByteArray.toList_eq] at h
  exact ByteArray.ext (Array.toList_inj.1 h)
theorem ba_self (a : ByteArray) : (a.toList == a.toList) = true := by simp

theorem walk_more {ns m : List Nd} : ∀ f i l, walkF ns f i = some l → walkF (ns ++ m) (f + 1) i = some l ∧ walkF (ns ++ m) f i = some l
  | 0, i, l, h => by cases h
  | f + 1, i, l, h => by
    simp only [walkF] at h
    split at h
    · cases h
    · rename_i x hx
      have hx' : (ns ++ m)[i]? = some x := by rw [List.getElem?_append_left (List.getElem?_eq_some_iff.1 hx).1]; exact hx
      split at h
      · rename_i hop
        constructor <;> rw [walkF, hx'] <;> simp only <;> rw [if_pos hop] <;> exact h
      · rename_i hop
        split at h
        · rename_i hab
          split at h
          · rename_i l1 l2 h1 h2
            obtain ⟨a1, a2⟩ := walk_more f _ _ h1
            obtain ⟨b1, b2⟩ := walk_more f _ _ h2
            constructor
            · rw [walkF, hx']; simp only; rw [if_neg hop, if_pos hab, a1, b1]; exact h
            · rw [walkF, hx']; simp only; rw [if_neg hop, if_pos hab, a2, b2]; exact h
          · cases h
        · cases h

/-- From this node one walks this row. -/
def Wk (ns : List Nd) (i : Nat) (l : List It) : Prop := ∃ f, walkF ns f i = some l
theorem Wk.app {ns : List Nd} {i : Nat} {l : List It} (h : Wk ns i l) (m : List Nd) : Wk (ns ++ m) i l := let ⟨f, hf⟩ := h; ⟨f, (walk_more f i l hf).2⟩
theorem walk_up {ns : List Nd} {i : Nat} {l : List It} (f : Nat) : ∀ g, walkF ns f i = some l → walkF ns (f + g) i = some l
  | 0, h => h
  | g + 1, h => by
    have := (walk_more (m := []) _ _ _ (walk_up f g h)).1
    rwa [List.append_nil] at this
theorem Wk.both {ns : List Nd} {i j : Nat} {l m : List It} (h : Wk ns i l) (k : Wk ns j m) : ∃ f, walkF ns f i = some l ∧ walkF ns f j = some m := by
  obtain ⟨f, hf⟩ := h
  obtain ⟨g, hg⟩ := k
  exact ⟨f + g, walk_up f g hf, by rw [Nat.add_comm]; exact walk_up g f hg⟩

section
variable {tb : List Fx} {its : List It}

theorem findF_op (tb : List Fx) (op : ByteArray) : (findF tb op).op = op := by
  unfold findF
  cases h : tb.find? (fun x => x.op.toList == op.toList) with
  | none => rfl
  | some x =>
    have hx := List.find?_some h
    exact ba_ext hx

def emp : ByteArray := ⟨#[]⟩

/-- Operands and operators take turns, and operators have no number. -/
def Nz (its : List It) : Prop := ∀ (i : Nat) (it : It), its[i]? = some it → (i % 2 = 0 → it.op = emp) ∧ (i % 2 = 1 → it.n = 0 ∧ (it.op.toList == emp.toList) = false)

theorem seg_one {k : Nat} {it : It} (h : its[k]? = some it) : (its.drop k).take 1 = [it] := by
  rw [drop_at h, List.take_succ_cons, List.take_zero]
theorem seg_app {k n m : Nat} (hn : k ≤ n) (hm : n ≤ m) : (its.drop k).take (m - k) = (its.drop k).take (n - k) ++ (its.drop n).take (m - n) := by
  rw [show m - k = (n - k) + (m - n) by omega, List.take_add, List.drop_drop, show k + (n - k) = n by omega]

theorem climb_walk (hz : Nz its) : ∀ f,
    (∀ least outer k ns r, climbF tb its f least outer k ns = some r → r.e = 0 → k % 2 = 0 →
      ∃ new, r.ns = ns ++ new ∧ new.length = r.at_ - k ∧ k < r.at_ ∧ r.at_ % 2 = 1 ∧ r.left + 1 = r.ns.length ∧ Wk r.ns r.left ((its.drop k).take (r.at_ - k))) ∧
    (∀ least outer last left k ns r l0, loopF tb its f least outer last left k ns = some r → r.e = 0 → k % 2 = 1 → left + 1 = ns.length → Wk ns left l0 →
      ∃ new, r.ns = ns ++ new ∧ new.length = r.at_ - k ∧ k ≤ r.at_ ∧ r.at_ % 2 = 1 ∧ r.left + 1 = r.ns.length ∧ Wk r.ns r.left (l0 ++ (its.drop k).take (r.at_ - k)))
  | 0 => ⟨by intro _ _ _ _ _ h; simp [climbF] at h, by intro _ _ _ _ _ _ _ _ h; simp [loopF] at h⟩
  | f + 1 => by
    obtain ⟨h1, h2⟩ := climb_walk hz f
    refine ⟨?_, ?_⟩
    · intro least outer k ns r h he hk
      simp only [climbF] at h
      split at h
      · cases h
      · rename_i it hit
        have hop := (hz k it hit).1 hk
        have hw : Wk (ns ++ [⟨⟨#[]⟩, it.n, 0, 0⟩]) ns.length [it] := by
          refine ⟨1, ?_⟩
          rw [walkF, List.getElem?_append_right (Nat.le_refl _), Nat.sub_self]
          simp only [List.getElem?_cons_zero]
          rw [if_pos (ba_self _), ← show it.op = (⟨#[]⟩ : ByteArray) from hop]
        obtain ⟨new, a1, a2, a3, a4, a5, a6⟩ := h2 _ _ _ _ _ _ _ _ h he (by omega) (by simp) hw
        refine ⟨[⟨⟨#[]⟩, it.n, 0, 0⟩] ++ new, by rw [a1, List.append_assoc], by simp; omega, by omega, a4, a5, ?_⟩
        rw [seg_app (n := k + 1) (by omega) (by omega), show k + 1 - k = 1 by omega, seg_one hit]
        exact a6
    · intro least outer last left k ns r l0 h he hk hl hw
      simp only [loopF] at h
      split at h
      · rename_i hn
        cases h
        exact ⟨[], by simp, by simp, Nat.le_refl _, hk, hl, by simpa using hw⟩
      · rename_i it hit
        split at h
        · cases h
          exact ⟨[], by simp, by simp, Nat.le_refl _, hk, hl, by simpa using hw⟩
        · split at h
          · cases h; cases he
          · split at h
            · cases h
            · rename_i q hq
              split at h
              · rename_i hqe
                obtain ⟨n1, b1, b2, b3, b4, b5, b6⟩ := h1 _ _ _ _ _ hq hqe (by omega)
                rw [findF_op] at h
                obtain ⟨hn0, hopn⟩ := (hz k it hit).2 hk
                have hwl := hw.app n1
                rw [← b1] at hwl
                obtain ⟨g, hg1, hg2⟩ := hwl.both b6
                have hnew : Wk (q.ns ++ [⟨it.op, 0, left, q.left⟩]) q.ns.length (l0 ++ [it] ++ (its.drop (k + 1)).take (q.at_ - (k + 1))) := by
                  refine ⟨g + 1, ?_⟩
                  rw [walkF, List.getElem?_append_right (Nat.le_refl _), Nat.sub_self]
                  simp only [List.getElem?_cons_zero]
                  rw [if_neg (by rw [show (⟨#[]⟩ : ByteArray) = emp from rfl, hopn]; simp), if_pos ⟨by omega, by omega⟩, Int.toNat_natCast, Int.toNat_natCast, (walk_more g _ _ hg1).2, (walk_more g _ _ hg2).2]
                  simp only
                  rw [show (⟨it.op, 0⟩ : It) = it by rw [← hn0]]
                obtain ⟨n2, c1, c2, c3, c4, c5, c6⟩ := h2 _ _ _ _ _ _ _ _ h he b4 (by simp) hnew
                refine ⟨n1 ++ [⟨it.op, 0, left, q.left⟩] ++ n2, by rw [c1, b1]; simp, by simp; omega, by omega, c4, c5, ?_⟩
                rw [seg_app (n := k + 1) (by omega) (by omega), seg_app (k := k + 1) (n := q.at_) (by omega) c3, show k + 1 - k = 1 by omega, seg_one hit]
                simpa [List.append_assoc] using c6
              · rename_i hqe
                cases h
                exact absurd he hqe
end

theorem formL_at : ∀ (l : List It) (i : Nat), formL i l = true → ∀ (j : Nat) (it : It), l[j]? = some it → ((it.op.toList == emp.toList) = ((i + j) % 2 == 0))
  | [], i, h, j, it, hj => by simp at hj
  | x :: l, i, h, j, it, hj => by
    rw [formL, Bool.and_eq_true] at h
    cases j with
    | zero => simp at hj; subst hj; exact beq_iff_eq.1 h.1
    | succ j =>
      have := formL_at l (i + 1) h.2 j it (by simpa using hj)
      rw [this, show i + 1 + j = i + (j + 1) by omega]

/-- Operators have no number. -/
def nzI (x : It) : It := if (x.op.toList == emp.toList) = true then x else ⟨x.op, 0⟩

theorem build_walk {tb : List Fx} {its : List It} (h : (buildF tb its).2 = 0) (hn : ∀ it, it ∈ its → nzI it = it) :
    (buildF tb its).1.length = its.length ∧ 0 < its.length ∧ its.length ≤ 400 ∧ Wk (buildF tb its).1 ((buildF tb its).1.length - 1) its := by
  unfold buildF at h ⊢
  split at h
  · rename_i hc; exact absurd h hc
  · rename_i hc
    rw [if_neg hc]
    split at h
    · cases h
    · rename_i h1
      rw [if_neg h1]
      split at h
      · cases h
      · rename_i h2
        rw [if_neg h2]
        split at h
        · cases h
        · rename_i h3
          rw [if_neg h3]
          have hf : formL 0 its = true := by simpa using h3
          have hz : Nz its := by
            intro i it hit
            have h4 := formL_at its 0 hf i it hit
            rw [Nat.zero_add] at h4
            have h5 := hn it (List.mem_of_getElem? hit)
            refine ⟨fun hi => ba_ext (by rw [h4, hi]; rfl), fun hi => ?_⟩
            have h6 : (it.op.toList == emp.toList) = false := by rw [h4, hi]; rfl
            refine ⟨?_, h6⟩
            rw [nzI, h6, if_neg (by simp)] at h5
            rw [← h5]
          obtain ⟨hlev, -⟩ := check_lev (show checkF tb = 0 by simpa using hc)
          obtain ⟨r, hr, hro⟩ := (climb_total (tb := tb) (its := its) (by omega) (2 * its.length + 1)).1 0 root 0 [] (by omega) (by omega) (by omega)
          rw [hr] at h ⊢
          simp only at h ⊢
          by_cases hre : r.e = 0
          · rw [if_neg (by simp [hre])]
            obtain ⟨new, a1, a2, a3, a4, a5, a6⟩ := (climb_walk (tb := tb) hz _).1 _ _ _ _ _ hr hre (by omega)
            obtain ⟨-, -, -, hnext⟩ := (climb_good (check_side (show checkF tb = 0 by simpa using hc)) _).1 _ _ _ _ _ hr hre (by simp)
            obtain ⟨-, -, hle, -⟩ := (size_both _).1 _ _ _ _ _ hr
            have hat : r.at_ = its.length := by
              cases hit : its[r.at_]? with
              | none => have := List.getElem?_eq_none_iff.1 hit; omega
              | some it => have := hnext it hit; have := (hlev it.op).1; omega
            rw [List.nil_append] at a1
            refine ⟨by simp only [a1]; omega, by omega, by omega, ?_⟩
            simp only
            rw [show r.ns.length - 1 = r.left by omega]
            rw [hat] at a6
            simpa using a6
          · rw [if_pos hre] at h
            exact absurd h hre
end Go.Am.R1
