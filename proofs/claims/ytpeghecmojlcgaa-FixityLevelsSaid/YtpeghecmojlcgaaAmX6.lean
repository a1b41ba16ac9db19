/- A part of the proof of fixityLevels. Conditions: none. -/
import Derived.Test.YtpeghecmojlcgaaAmX5
namespace Go.Am.R1

def isE (b : ByteArray) : Prop := (b.toList == (⟨#[]⟩ : ByteArray).toList) = true

def ChildOk (tb : List Fx) (ns : List Nd) (x : Fx) (side : Int) (k : Int) : Prop := ∃ (j : Nat) (c : Nd), k = j ∧ ns[j]? = some c ∧ (isE c.op ∨
  (¬ (findF tb c.op).level < x.level ∧ ((findF tb c.op).level = x.level → (findF tb c.op).side = x.side ∧ (x.side = 0 ∧ side = 0 ∨ x.side = 1 ∧ side = 1))))
def NOk (tb : List Fx) (ns : List Nd) (nd : Nd) : Prop := isE nd.op ∨ (ChildOk tb ns (findF tb nd.op) 0 nd.a ∧ ChildOk tb ns (findF tb nd.op) 1 nd.b)

theorem ChildOk.app {tb : List Fx} {ns : List Nd} {x : Fx} {side k : Int} (h : ChildOk tb ns x side k) (l : List Nd) : ChildOk tb (ns ++ l) x side k := by
  obtain ⟨j, c, h1, h2, h3⟩ := h
  exact ⟨j, c, h1, by rw [List.getElem?_append_left (List.getElem?_eq_some_iff.1 h2).1]; exact h2, h3⟩
theorem NOk.app {tb : List Fx} {ns : List Nd} {nd : Nd} (h : NOk tb ns nd) (l : List Nd) : NOk tb (ns ++ l) nd := by
  rcases h with h | ⟨h1, h2⟩
  · exact Or.inl h
  · exact Or.inr ⟨h1.app l, h2.app l⟩

theorem findF_idem (tb : List Fx) (op : ByteArray) : findF tb (findF tb op).op = findF tb op := by
  unfold findF
  cases h : tb.find? (fun x => x.op.toList == op.toList) with
  | none => simp only [Option.getD_none, h]
  | some x =>
    have hx := List.find?_some h
    simp only [beq_iff_eq] at hx
    simp only [Option.getD_some]
    rw [show (fun y : Fx => y.op.toList == x.op.toList) = (fun y => y.op.toList == op.toList) by funext y; rw [hx], h]
    rfl

def Top (tb : List Fx) (least : Int) (outer : Fx) (c : Nd) : Prop := isE c.op ∨ (least ≤ (findF tb c.op).level ∧ againstF (findF tb c.op) outer = false)
def Next (tb : List Fx) (its : List It) (k : Nat) (least : Int) : Prop := ∀ it, its[k]? = some it → (findF tb it.op).level < least

section
variable {tb : List Fx} {its : List It}

theorem against_f {x y : Fx} (h : againstF x y = false) (hl : x.level = y.level) : x.side = y.side ∧ x.side ≠ 2 := by
  unfold againstF at h
  simp only [hl, beq_self_eq_true, Bool.true_and, Bool.or_eq_false_iff, bne_eq_false_iff_eq, beq_eq_false_iff_ne] at h
  exact h

theorem climb_good (hs : ∀ op, 0 ≤ (findF tb op).side ∧ (findF tb op).side ≤ 2) : ∀ f,
    (∀ least outer k ns r, climbF tb its f least outer k ns = some r → r.e = 0 → (∀ nd, nd ∈ ns → NOk tb ns nd) →
      (∀ nd, nd ∈ r.ns → NOk tb r.ns nd) ∧ (∃ l, r.ns = ns ++ l) ∧ (∃ c, r.ns[r.left]? = some c ∧ Top tb least outer c) ∧ Next tb its r.at_ least) ∧
    (∀ least outer last left k ns r, loopF tb its f least outer last left k ns = some r → r.e = 0 → (∀ nd, nd ∈ ns → NOk tb ns nd) →
      (∃ c, ns[left]? = some c ∧ (isE c.op ∨ (findF tb c.op = last ∧ least ≤ last.level ∧ againstF last outer = false ∧ Next tb its k (if (last.side == 1) = true then last.level else last.level + 1)))) →
      (∀ nd, nd ∈ r.ns → NOk tb r.ns nd) ∧ (∃ l, r.ns = ns ++ l) ∧ (∃ c, r.ns[r.left]? = some c ∧ Top tb least outer c) ∧ Next tb its r.at_ least)
  | 0 => ⟨by intro _ _ _ _ _ h; simp [climbF] at h, by intro _ _ _ _ _ _ _ h; simp [loopF] at h⟩
  | f + 1 => by
    obtain ⟨h1, h2⟩ := climb_good hs f
    refine ⟨?_, ?_⟩
    · intro least outer k ns r h he hok
      simp only [climbF] at h
      split at h
      · cases h
      · rename_i it hit
        have hleaf : isE (⟨⟨#[]⟩, it.n, 0, 0⟩ : Nd).op := by simp [isE]
        obtain ⟨a1, ⟨l, a2⟩, a3, a4⟩ := h2 _ _ _ _ _ _ _ h he (fun nd hnd => by
          rcases List.mem_append.1 hnd with hnd | hnd
          · exact (hok nd hnd).app _
          · simp only [List.mem_singleton] at hnd; subst hnd; exact Or.inl hleaf) ⟨_, by simp, Or.inl hleaf⟩
        exact ⟨a1, ⟨_, by rw [a2, List.append_assoc]⟩, a3, a4⟩
    · intro least outer last left k ns r h he hok ⟨c, hc, hcc⟩
      have htop : Top tb least outer c := by
        rcases hcc with hcc | ⟨e1, e2, e3, _⟩
        · exact Or.inl hcc
        · exact Or.inr ⟨by rw [e1]; exact e2, by rw [e1]; exact e3⟩
      simp only [loopF] at h
      split at h
      · rename_i hn
        cases h
        exact ⟨hok, ⟨[], by simp⟩, ⟨c, hc, htop⟩, fun it hit => by rw [hn] at hit; cases hit⟩
      · rename_i it hit
        have hid := findF_idem tb it.op
        obtain ⟨hs0, hs2⟩ := hs it.op
        generalize hx : findF tb it.op = x at *
        split at h
        · rename_i hlt
          cases h
          exact ⟨hok, ⟨[], by simp⟩, ⟨c, hc, htop⟩, fun it' hit' => by rw [hit] at hit'; cases hit'; rw [hx]; exact hlt⟩
        · rename_i hlt
          split at h
          · cases h; cases he
          · rename_i hag
            simp only [Bool.or_eq_true, not_or, Bool.not_eq_true] at hag
            obtain ⟨hag1, hag2⟩ := hag
            split at h
            · cases h
            · rename_i q hq
              split at h
              · rename_i hqe
                obtain ⟨a1, ⟨l, a2⟩, ⟨c2, a3, a4⟩, a5⟩ := h1 _ _ _ _ _ hq hqe hok
                have hcq : q.ns[left]? = some c := by rw [a2, List.getElem?_append_left (List.getElem?_eq_some_iff.1 hc).1]; exact hc
                have hnew : NOk tb q.ns ⟨x.op, 0, left, q.left⟩ := by
                  refine Or.inr ⟨⟨left, c, rfl, hcq, ?_⟩, ⟨q.left, c2, rfl, a3, ?_⟩⟩
                  · rcases hcc with hcc | ⟨e1, e2, e3, e4⟩
                    · exact Or.inl hcc
                    · right
                      have e5 := e4 it hit
                      simp only [hid, e1]
                      rw [hx] at e5
                      have hls := hs c.op
                      rw [e1] at hls
                      by_cases hlr : last.side = 1
                      · rw [if_pos (by simpa using hlr)] at e5
                        exact ⟨by omega, fun hh => by omega⟩
                      · rw [if_neg (by simpa using hlr)] at e5
                        refine ⟨by omega, fun hh => ?_⟩
                        obtain ⟨b1, b2⟩ := against_f hag2 hh.symm
                        exact ⟨b1.symm, Or.inl ⟨by omega, trivial⟩⟩
                  · rcases a4 with a4 | ⟨a4, a6⟩
                    · exact Or.inl a4
                    · right
                      simp only [hid]
                      by_cases hlr : x.side = 1
                      · rw [if_pos (by simpa using hlr)] at a4
                        refine ⟨by omega, fun hh => ?_⟩
                        obtain ⟨b1, b2⟩ := against_f a6 hh
                        exact ⟨b1, Or.inr ⟨hlr, trivial⟩⟩
                      · rw [if_neg (by simpa using hlr)] at a4
                        exact ⟨by omega, fun hh => by omega⟩
                obtain ⟨d1, ⟨l', d2⟩, d3, d4⟩ := h2 _ _ _ _ _ _ _ h he (fun nd hnd => by
                  rcases List.mem_append.1 hnd with hnd | hnd
                  · exact (a1 nd hnd).app _
                  · simp only [List.mem_singleton] at hnd; subst hnd; exact hnew.app _) ⟨⟨x.op, 0, left, q.left⟩, by simp, Or.inr ⟨hid, by omega, hag1, a5⟩⟩
                exact ⟨d1, ⟨l ++ [⟨x.op, 0, left, q.left⟩] ++ l', by rw [d2, a2]; simp⟩, d3, d4⟩
              · rename_i hqe
                cases h
                exact absurd he hqe
end

theorem checkL_side : ∀ (l done : List Fx), checkL done l = 0 → ∀ x, x ∈ l → 0 ≤ x.side ∧ x.side ≤ 2
  | [], _, _, x, hx => by simp at hx
  | y :: l, done, h, x, hx => by
    rw [checkL] at h
    split at h
    · cases h
    · split at h
      · cases h
      · split at h
        · cases h
        · rename_i _ hb _
          simp only [Bool.or_eq_true, decide_eq_true_eq, not_or] at hb
          rcases List.mem_cons.1 hx with rfl | hx
          · omega
          · exact checkL_side l _ h x hx

theorem check_side {l : List Fx} (h : checkF l = 0) : ∀ op, 0 ≤ (findF l op).side ∧ (findF l op).side ≤ 2 := by
  unfold checkF at h
  split at h
  · cases h
  · intro op
    unfold findF
    cases hf : l.find? (fun x => x.op.toList == op.toList) with
    | none => simp
    | some x => exact checkL_side l [] h x (List.mem_of_find?_eq_some hf)

theorem build_good {tb : List Fx} {its : List It} (h : (buildF tb its).2 = 0) : ∀ nd, nd ∈ (buildF tb its).1 → NOk tb (buildF tb its).1 nd := by
  unfold buildF at h ⊢
  split at h
  · rename_i hc; exact absurd h hc
  · rename_i hc
    rw [if_neg hc]
    split
    · intro nd hnd; simp at hnd
    · split
      · intro nd hnd; simp at hnd
      · split
        · intro nd hnd; simp at hnd
        · rename_i h1 h2 h3
          rw [if_neg h1, if_neg h2, if_neg h3] at h
          cases hr : climbF tb its (2 * its.length + 1) 0 root 0 [] with
          | none => intro nd hnd; simp at hnd
          | some r =>
            rw [hr] at h
            simp only at h ⊢
            split
            · intro nd hnd; simp at hnd
            · rename_i hre
              exact ((climb_good (check_side (by simpa using hc)) _).1 _ _ _ _ _ hr (by simpa using hre) (by simp)).1
end Go.Am.R1
