/- Runs of super, entail and reduce exist. Conditions: none. -/
import Derived.Test.YtfleakoephmgaaaDoorClM
set_option linter.unusedSimpArgs false
set_option linter.unusedVariables false
namespace Go.Am.U3
open Go.Am.Un Go.So
set_option linter.unusedSimpArgs false

theorem nodup_len {α : Type} : ∀ {a b : List α}, a.Nodup → (∀ x, x ∈ a → x ∈ b) → a.length ≤ b.length
  | [], _, _, _ => by simp
  | x :: a, b, hn, hs => by
    obtain ⟨h1, h2⟩ := List.nodup_cons.1 hn
    obtain ⟨s, t, rfl⟩ := List.append_of_mem (hs x (by simp))
    have := nodup_len (b := s ++ t) h2 (fun y hy => by
      have := hs y (by simp [hy])
      rcases List.mem_append.1 this with h | h
      · exact List.mem_append_left _ h
      · rcases List.mem_cons.1 h with rfl | h
        · exact absurd hy h1
        · exact List.mem_append_right _ h)
    rw [List.length_append] at this
    rw [List.length_append, List.length_cons, List.length_cons]
    omega
theorem isC_mem {l : List Cl} {n : ByteArray} (h : isC l n = true) : n ∈ l.map (·.name) ∧ fnd l n ∈ l := by
  unfold isC find at h
  unfold fnd find
  cases hf : l.find? (fun c => sq c.name n) with
  | none => rw [hf] at h; cases h
  | some c =>
    have h1 := List.mem_of_find?_eq_some hf
    have h2 := List.find?_some hf
    exact ⟨List.mem_map.2 ⟨c, h1, sq_iff.1 h2⟩, h1⟩
theorem sup1_known {l : List Cl} : ∀ {r pre : List ByteArray}, sup1 l pre r = 0 → ∀ s, s ∈ r → isC l s = true
  | [], _, _, s, hs => by cases hs
  | x :: r, pre, h, s, hs => by
    rw [sup1] at h
    cases h1 : isC l x
    · rw [h1] at h; exact absurd (show (6 : Int) = 0 from h) (by decide)
    · cases h2 : hasS pre x
      · rw [h1, h2] at h
        rcases List.mem_cons.1 hs with rfl | hs
        · exact h1
        · exact sup1_known h s hs
      · rw [h1, h2] at h; exact absurd (show (7 : Int) = 0 from h) (by decide)
theorem sups_known {l : List Cl} : ∀ {r : List Cl}, sups l r = 0 → ∀ c, c ∈ r → ∀ s, s ∈ c.sup → isC l s = true
  | [], _, c, hc => by cases hc
  | x :: r, h, c, hc => by
    rw [sups] at h
    cases h1 : (sup1 l [] x.sup != 0)
    · rw [h1] at h
      rcases List.mem_cons.1 hc with rfl | hc
      · exact sup1_known (by simpa using h1)
      · exact sups_known h c hc
    · rw [h1] at h; exact absurd h (by simpa using h1)
theorem chkC_ok {l : List Cl} (h : chkC l = 0) : l.length ≤ 4096 ∧ ∀ c, c ∈ l → ∀ s, s ∈ c.sup → isC l s = true := by
  rw [chkC] at h
  cases h1 : decide ((l.length : Int) > 4096)
  · cases h2 : dup1 [] l
    · cases h3 : (sups l l != 0)
      · exact ⟨by have : ¬ ((l.length : Int) > 4096) := of_decide_eq_false h1; omega, sups_known (by simpa using h3)⟩
      · rw [h1, h2, h3] at h; exact absurd h (by simpa using h3)
    · rw [h1, h2] at h; exact absurd (show (7 : Int) = 0 from h) (by decide)
  · rw [h1] at h; exact absurd (show (2 : Int) = 0 from h) (by decide)

theorem su_ex {l : List Cl} (hc : chkC l = 0) (want : ByteArray) : ∀ (n : Nat) (seen : List ByteArray), seen.Nodup → (∀ x, x ∈ seen → isC l x = true) → l.length ≤ seen.length + n →
    ∀ (h : ByteArray), isC l h = true → ∀ pf, ∃ b p seen', Su l want seen (.one h pf) b p seen' ∧ seen'.Nodup ∧ (∀ x, x ∈ seen' → isC l x = true) ∧ seen.length ≤ seen'.length := by
  obtain ⟨hlen, hsup⟩ := chkC_ok hc
  intro n
  have key : ∀ seen : List ByteArray, seen.Nodup → (∀ x, x ∈ seen → isC l x = true) → seen.length ≤ l.length := fun seen h1 h2 => by
    have := nodup_len (b := l.map (·.name)) h1 (fun x hx => (isC_mem (h2 x hx)).1)
    simpa using this
  induction n with
  | zero =>
    intro seen hn hk hl h hh pf
    have hsl := key seen hn hk
    cases h1 : sq h want
    · cases h2 : hasS seen h
      · exfalso
        have := key (seen ++ [h]) (by
          rw [List.nodup_append]
          refine ⟨hn, by simp, fun a ha b hb => ?_⟩
          rcases List.mem_singleton.1 hb with rfl
          rintro rfl
          rw [hasS_iff.2 ha] at h2; cases h2) (fun x hx => by
          rcases List.mem_append.1 hx with hx | hx
          · exact hk x hx
          · rw [List.mem_singleton.1 hx]; exact hh)
        simp at this; omega
      · exact ⟨_, _, _, .old seen h pf (by omega) h1 h2, hn, hk, Nat.le_refl _⟩
    · exact ⟨_, _, _, .hit seen h pf h1, hn, hk, Nat.le_refl _⟩
  | succ n ih =>
    intro seen hn hk hl h hh pf
    have hsl := key seen hn hk
    cases h1 : sq h want
    · cases h2 : hasS seen h
      · have hn2 : (seen ++ [h]).Nodup := by
          rw [List.nodup_append]
          refine ⟨hn, by simp, fun a ha b hb => ?_⟩
          rcases List.mem_singleton.1 hb with rfl
          rintro rfl
          rw [hasS_iff.2 ha] at h2; cases h2
        have hk2 : ∀ x, x ∈ seen ++ [h] → isC l x = true := fun x hx => by
          rcases List.mem_append.1 hx with hx | hx
          · exact hk x hx
          · rw [List.mem_singleton.1 hx]; exact hh
        have all : ∀ (ss : List ByteArray), (∀ s, s ∈ ss → isC l s = true) → ∀ (i : Nat) (sn : List ByteArray), sn.Nodup → (∀ x, x ∈ sn → isC l x = true) → seen.length + 1 ≤ sn.length → ∃ b p sn', Su l want sn (.all ss i pf) b p sn' ∧ sn'.Nodup ∧ (∀ x, x ∈ sn' → isC l x = true) ∧ sn.length ≤ sn'.length := by
          intro ss
          induction ss with
          | nil => exact fun _ i sn a b c => ⟨_, _, _, .nil sn i pf, a, b, Nat.le_refl _⟩
          | cons s r ihr =>
            intro hs i sn a b c
            obtain ⟨bb, p, s1, hr, a1, b1, c1⟩ := ih sn a b (by omega) s (hs s (by simp)) (.mk 1 i [pf])
            cases bb with
            | true => exact ⟨_, _, _, .yes sn s1 s r i pf p hr, a1, b1, c1⟩
            | false =>
              obtain ⟨b2, p2, s2, hr2, a2, bb2, c2⟩ := ihr (fun x hx => hs x (by simp [hx])) (i + 1) s1 a1 b1 (by omega)
              exact ⟨_, _, _, .next sn s1 s2 s r i pf p p2 b2 hr hr2, a2, bb2, by omega⟩
        obtain ⟨b, p, s', hr, a1, b1, c1⟩ := all (fnd l h).sup (hsup _ (isC_mem hh).2) 0 (seen ++ [h]) hn2 hk2 (by simp)
        exact ⟨b, p, s', .go seen s' h pf p b (by omega) h1 h2 hr, a1, b1, by simp at c1; omega⟩
      · exact ⟨_, _, _, .old seen h pf (by omega) h1 h2, hn, hk, Nat.le_refl _⟩
    · exact ⟨_, _, _, .hit seen h pf h1, hn, hk, Nat.le_refl _⟩
theorem gv_ex {l : List Cl} (hc : chkC l = 0) (w : Pr) : ∀ (hv : List Pr), (∀ h, h ∈ hv → isC l h.cls = true) → ∀ i, ∃ o, Gv l w i hv o
  | [], _, i => ⟨_, .nil i⟩
  | h :: r, hk, i => by
    obtain ⟨o, hr⟩ := gv_ex hc w r (fun x hx => hk x (by simp [hx])) (i + 1)
    cases hs : eqb (nf h.ty) (nf w.ty)
    · exact ⟨_, .skip i h r o hs hr⟩
    · obtain ⟨b, p, sn, hu, -⟩ := su_ex hc w.cls l.length [] List.nodup_nil (fun x hx => by cases hx) (by simp) h.cls (hk h (by simp)) (.mk 0 i [])
      cases b with
      | true => exact ⟨_, .yes i h r p sn hs hu⟩
      | false => exact ⟨_, .next i h r p sn o hs hu hr⟩
theorem en_ex {l : List Cl} (hc : chkC l = 0) (ins : List In) {hv : List Pr} (hk : ∀ h, h ∈ hv → isC l h.cls = true) : ∀ (n : Nat) (left : Int), left.toNat ≤ n → ∀ (w : Pr) (d : Int), ∃ e p left', En l ins hv left (.one w d) e p left' := by
  intro n
  induction n with
  | zero => exact fun left hl w d => ⟨_, _, _, .large left w d (Or.inr (by omega))⟩
  | succ n ih =>
    intro left hl w d
    by_cases hlg : d > 400 ∨ left - 1 < 0
    · exact ⟨_, _, _, .large left w d hlg⟩
    · obtain ⟨o, hg⟩ := gv_ex hc w hv hk 0
      cases o with
      | some p => exact ⟨_, _, _, .given left w d p (by omega) (by omega) hg⟩
      | none =>
        cases hi : instAt w 0 ins with
        | none => exact ⟨_, _, _, .no left w d (by omega) (by omega) hg hi⟩
        | some q =>
          obtain ⟨i, x⟩ := q
          have all : ∀ (ps : List Pr) (lf : Int) (acc : List Pf), 0 ≤ lf → lf ≤ left - 1 → ∃ e p lf', En l ins hv lf (.all ps (d + 1) i acc) e p lf' := by
            intro ps
            induction ps with
            | nil => exact fun lf acc _ _ => ⟨_, _, _, .nil lf (d + 1) i acc⟩
            | cons q r ihr =>
              intro lf acc h0 h1
              obtain ⟨e, p, l1, hr⟩ := ih lf (by omega) q (d + 1)
              by_cases he : e = 0
              · subst he
                obtain ⟨r1, r2, r3⟩ := en_len hr h0
                obtain ⟨e2, p2, l2, hr2⟩ := ihr l1 (acc ++ [p]) (r2 rfl) (by omega)
                exact ⟨_, _, _, .ok lf l1 l2 q r (d + 1) e2 i acc p p2 hr hr2⟩
              · exact ⟨_, _, _, .bad lf l1 q r (d + 1) e i acc p hr he⟩
          obtain ⟨e, p, lf', hr⟩ := all (needs x w.ty) (left - 1) [] (by omega) (by omega)
          exact ⟨e, p, lf', .yes left lf' w d e p i x (by omega) (by omega) hg hi hr⟩
theorem ent_ex (l : List Cl) (ins : List In) (hv : List Pr) (w : Pr) : ∃ e p, EntR l ins hv w e p := by
  by_cases h : pre35 l ins hv w = 0
  · have hin : inst l ins = 0 := by
      rw [pre35] at h
      cases h1 : (inst l ins != 0)
      · simpa using h1
      · rw [h1] at h; exact h
    have hg : gvn l (hv ++ [w]) = 0 := by
      rw [pre35] at h
      cases h1 : (inst l ins != 0)
      · cases h2 : decide ((hv.length : Int) > 4096)
        · rw [h1, h2] at h; exact h
        · rw [h1, h2] at h; exact absurd (show (2 : Int) = 0 from h) (by decide)
      · rw [hin] at h1; cases h1
    obtain ⟨e, p, lf, hr⟩ := en_ex (inst_ok hin).1 ins (hv := hv) (fun x hx => (gvn_mem hg x (by simp [hx])).1) 4096 4096 (by decide) w 1
    exact ⟨e, p, Or.inr ⟨h, lf, hr⟩⟩
  · exact ⟨_, _, Or.inl ⟨h, rfl, rfl⟩⟩
theorem rd_ex (ins : List In) : ∀ (n : Nat) (left : Int), left.toNat ≤ n → ∀ (out : List Pr) (p : Pr) (d : Int), ∃ e o' l', Rd ins out left (.one p d) e o' l' := by
  intro n
  induction n with
  | zero => exact fun left hl out p d => ⟨_, _, _, .large out left p d (Or.inr (by omega))⟩
  | succ n ih =>
    intro left hl out p d
    by_cases hlg : d > 400 ∨ left - 1 < 0
    · exact ⟨_, _, _, .large out left p d hlg⟩
    · by_cases hk : kof p.ty = 0
      · exact ⟨_, _, _, .var out left p d (by omega) (by omega) hk⟩
      · cases hi : instAt p 0 ins with
        | none => exact ⟨_, _, _, .no out left p d (by omega) (by omega) hk hi⟩
        | some q =>
          obtain ⟨i, x⟩ := q
          have all : ∀ (ps : List Pr) (lf : Int) (out : List Pr), 0 ≤ lf → lf ≤ left - 1 → ∃ e o' lf', Rd ins out lf (.all ps (d + 1)) e o' lf' := by
            intro ps
            induction ps with
            | nil => exact fun lf out _ _ => ⟨_, _, _, .nil out lf (d + 1)⟩
            | cons q r ihr =>
              intro lf out h0 h1
              obtain ⟨e, o1, l1, hr⟩ := ih lf (by omega) out q (d + 1)
              by_cases he : e = 0
              · subst he
                obtain ⟨r1, r2, r3⟩ := rd_len hr h0
                obtain ⟨e2, o2, l2, hr2⟩ := ihr l1 o1 (r3 rfl) (by omega)
                exact ⟨_, _, _, .ok out o1 o2 lf l1 l2 q r (d + 1) e2 hr hr2⟩
              · exact ⟨_, _, _, .bad out o1 lf l1 q r (d + 1) e hr he⟩
          obtain ⟨e, o', lf', hr⟩ := all (needs x p.ty) (left - 1) out (by omega) (by omega)
          exact ⟨e, o', lf', .yes out o' left lf' p d e i x (by omega) (by omega) hk hi hr⟩
theorem rdT_ex (ins : List In) : ∀ (ps out : List Pr) (left : Int), ∃ e o', RdT ins out left ps e o'
  | [], out, left => ⟨_, _, .nil out left⟩
  | p :: ps, out, left => by
    by_cases hc : (chk false 1 4096 p.ty).1 = 0
    · obtain ⟨e, o1, l1, hr⟩ := rd_ex ins left.toNat left (Nat.le_refl _) out p 1
      by_cases he : e = 0
      · subst he
        obtain ⟨e2, o2, h2⟩ := rdT_ex ins ps o1 l1
        exact ⟨_, _, .ok out o1 o2 left l1 e2 p ps hc hr h2⟩
      · exact ⟨_, _, .bad out o1 left l1 e p ps hc hr he⟩
    · exact ⟨_, _, .chk out left p ps hc⟩
theorem red_ex (l : List Cl) (ins : List In) (ps : List Pr) : ∃ e out, RedR l ins ps e out := by
  by_cases h : inst l ins = 0
  · obtain ⟨e, o, hr⟩ := rdT_ex ins ps [] 4096
    exact ⟨e, o, Or.inr ⟨h, hr⟩⟩
  · exact ⟨_, _, Or.inl ⟨h, rfl, rfl⟩⟩
end Go.Am.U3

/- Requirements follow from those to which they come down. Conditions: none. -/
namespace Go.Am.U3
open Go.Am.Un Go.So
set_option linter.unusedSimpArgs false

/-- A part of a checked type. -/
def Ck (t : Tm) : Prop := ∃ row d left, (chk row d left t).1 = 0
theorem ck_var {t : Tm} (h : Ck t) (hk : kof t = 0) : t = .mk 0 ⟨#[]⟩ (vof t) [] ∧ (chk false 1 4096 t).1 = 0 := by
  obtain ⟨row, d, left, h⟩ := h
  cases t with
  | mk k n v l =>
    have hk0 : k = 0 := hk
    subst hk0
    obtain ⟨-, -, -, hv, -, -⟩ := U1.chk_inv h
    obtain ⟨hl, hv0, hv1⟩ := hv rfl
    subst hl
    rw [chk] at h
    split at h
    · simp at h
    split at h
    · simp at h
    split at h
    · simp at h
    rename_i h1 h2 h3
    have hn : n = ⟨#[]⟩ := by
      refine sq_iff.1 ?_
      show (n.toList == (⟨#[]⟩ : ByteArray).toList) = true
      cases hh : (n.toList == (⟨#[]⟩ : ByteArray).toList)
      · exact absurd (Or.inr (Or.inr ⟨by decide, by decide, hh⟩)) h3
      · rfl
    subst hn
    refine ⟨rfl, ?_⟩
    rw [chk, if_neg (by omega), if_neg (by omega), if_neg, if_neg (by simp), if_neg (by omega), chks]
    rintro (⟨-, h⟩ | ⟨h, -⟩ | ⟨-, -, h⟩)
    · exact h rfl
    · exact h rfl
    · exact absurd ((sq_rfl ⟨#[]⟩).symm.trans h) (by decide)
theorem chks_ck {k : Int} : ∀ {l : List Tm} {i : Nat} {d left : Int}, (chks k i d left l).1 = 0 → ∀ a, a ∈ l → Ck a
  | [], _, _, _, _, a, ha => by cases ha
  | b :: r, i, d, left, h, a, ha => by
    obtain ⟨h1, h2, -⟩ := U1.chks_cons h
    rcases List.mem_cons.1 ha with rfl | ha
    · exact ⟨_, _, _, h1⟩
    · exact chks_ck h2 a ha
theorem ck_arg {t a : Tm} (h : Ck t) (ha : a ∈ lof t) : Ck a := by
  obtain ⟨row, d, left, h⟩ := h
  cases t with
  | mk k n v l =>
    obtain ⟨-, -, -, -, -, he⟩ := U1.chk_inv h
    rw [he] at h
    exact chks_ck h a ha

/-- A requirement of a known class on a part of a checked type. -/
def Gd (l : List Cl) (p : Pr) : Prop := isC l p.cls = true ∧ Ck p.ty
theorem prs_known {l : List Cl} {hd : Tm} : ∀ {ps : List Pr}, prs l hd ps = 0 → ∀ p, p ∈ ps → isC l p.cls = true
  | [], _, p, hp => by cases hp
  | q :: r, h, p, hp => by
    rw [prs] at h
    cases h1 : isC l q.cls
    · rw [h1] at h; exact absurd (show (6 : Int) = 0 from h) (by decide)
    · cases h2 : (kof q.ty != 0)
      · cases h3 : (fre hd).contains (vof q.ty)
        · rw [h1, h2, h3] at h; exact absurd (show (3 : Int) = 0 from h) (by decide)
        · rw [h1, h2, h3] at h
          rcases List.mem_cons.1 hp with rfl | hp
          · exact h1
          · exact prs_known h p hp
      · rw [h1, h2] at h; exact absurd (show (3 : Int) = 0 from h) (by decide)
theorem needs_gd {l : List Cl} {ins : List In} (hin : inst l ins = 0) {w : Pr} {i : Nat} {x : In} (hw : Gd l w) (hi : instAt w 0 ins = some (i, x)) : ∀ q, q ∈ needs x w.ty → Gd l q := fun q hq => by
  obtain ⟨h1, p, hp, hc⟩ := needs_mem hq
  obtain ⟨-, -, -, h4⟩ := (inst_ok hin).2.2 x (instAt_mem hi)
  exact ⟨by rw [hc]; exact prs_known h4 p hp, ck_arg hw.2 h1⟩

/-- What is found are requirements on variables. -/
def RdJG (l : List Cl) : RdJ → Prop
  | .one p _ => Gd l p
  | .all ps _ => ∀ p, p ∈ ps → Gd l p
def VarsOf (l : List Cl) (out : List Pr) : Prop := ∀ q, q ∈ out → Gd l q ∧ kof q.ty = 0
theorem addP_sub (out : List Pr) (p : Pr) : ∀ q, q ∈ out → q ∈ addP out p := fun q hq => by
  unfold addP
  cases out.any (sameP p)
  · exact List.mem_append_left _ hq
  · exact hq
theorem addP_has (out : List Pr) (p : Pr) : ∃ q, q ∈ addP out p ∧ sq q.cls p.cls = true ∧ vof q.ty = vof p.ty := by
  unfold addP
  cases h : out.any (sameP p)
  · exact ⟨p, by simp, sq_rfl _, rfl⟩
  · obtain ⟨q, hq, hs⟩ := List.any_eq_true.1 h
    unfold sameP at hs
    rw [Bool.and_eq_true] at hs
    exact ⟨q, hq, hs.1, by simpa using hs.2⟩
theorem rd_out {l : List Cl} {ins : List In} (hin : inst l ins = 0) {out out' : List Pr} {left left' e : Int} {j : RdJ} (h : Rd ins out left j e out' left') : RdJG l j → VarsOf l out → VarsOf l out' ∧ ∀ q, q ∈ out → q ∈ out' := by
  induction h with
  | large => exact fun _ h => ⟨h, fun _ h => h⟩
  | var out left p d hd hl hk =>
    intro hj hv
    refine ⟨fun q hq => ?_, addP_sub out p⟩
    unfold addP at hq
    cases h : out.any (sameP p)
    · rw [h] at hq
      rcases List.mem_append.1 hq with hq | hq
      · exact hv q hq
      · rw [List.mem_singleton.1 hq]; exact ⟨hj, hk⟩
    · rw [h] at hq; exact hv q hq
  | no => exact fun _ h => ⟨h, fun _ h => h⟩
  | yes out out' left left' p d e i x hd hl hk hs hr ih => exact fun hj hv => ih (needs_gd hin hj hs) hv
  | nil => exact fun _ h => ⟨h, fun _ h => h⟩
  | ok out o1 o2 left l1 l2 p ps d e h hs ih1 ih2 =>
    intro hj hv
    obtain ⟨a1, b1⟩ := ih1 (hj p (by simp)) hv
    obtain ⟨a2, b2⟩ := ih2 (fun q hq => hj q (by simp [hq])) a1
    exact ⟨a2, fun q hq => b2 q (b1 q hq)⟩
  | bad out o1 left l1 p ps d e h he ih => exact fun hj hv => ih (hj p (by simp)) hv

theorem su_hit {l : List Cl} {want h : ByteArray} {seen sn : List ByteArray} {pf p : Pf} {b : Bool} (hs : Su l want seen (.one h pf) b p sn) (he : sq h want = true) : b = true := by
  cases hs with
  | hit => rfl
  | old _ _ _ _ h1 => rw [he] at h1; cases h1
  | go _ _ _ _ _ _ _ h1 => rw [he] at h1; cases h1
theorem gv_none {l : List Cl} {w : Pr} {i : Nat} {hv : List Pr} {o : Option Pf} (h : Gv l w i hv o) : o = none → ∀ q, q ∈ hv → eqb (nf q.ty) (nf w.ty) = true → sq q.cls w.cls = false := by
  induction h with
  | nil => exact fun _ q hq => by cases hq
  | skip i h r o hs hr ih =>
    intro ho q hq he
    rcases List.mem_cons.1 hq with rfl | hq
    · rw [hs] at he; cases he
    · exact ih ho q hq he
  | yes => intro ho; cases ho
  | next i h r p sn o hs hu hr ih =>
    intro ho q hq he
    rcases List.mem_cons.1 hq with rfl | hq
    · cases hc : sq q.cls w.cls
      · rfl
      · exact absurd (su_hit hu hc) (by decide)
    · exact ih ho q hq he

/-- A search takes no more steps than the coming down took, and finds. -/
def EnG (l : List Cl) (ins : List In) (hv : List Pr) (steps : Int) : RdJ → Prop
  | .one p d => ∀ left2 e pf l2, steps ≤ left2 → En l ins hv left2 (.one p d) e pf l2 → e = 0 ∧ left2 - steps ≤ l2
  | .all ps d => ∀ left2 n acc e pf l2, steps ≤ left2 → En l ins hv left2 (.all ps d n acc) e pf l2 → e = 0 ∧ left2 - steps ≤ l2
theorem rd_en {l : List Cl} {ins : List In} (hin : inst l ins = 0) {hv : List Pr} (hvv : VarsOf l hv) {out out' : List Pr} {left left' e : Int} {j : RdJ} (h : Rd ins out left j e out' left') :
    e = 0 → 0 ≤ left → RdJG l j → VarsOf l out → (∀ q, q ∈ out' → q ∈ hv) → EnG l ins hv (left - left') j := by
  induction h with
  | large => intro h; cases h
  | no => intro h; cases h
  | bad out o1 left l1 p ps d e h he ih => exact fun h => absurd h he
  | nil out left d =>
    intro _ h0 hj hv hs left2 n acc e pf l2 hl hr
    cases hr
    exact ⟨rfl, by omega⟩
  | var out left p d hd hl hk =>
    intro _ h0 hj hvo hs left2 e pf l2 h2 hr
    obtain ⟨q, hq, hc, hv⟩ := addP_has out p
    have hqh := hs q hq
    obtain ⟨⟨-, gq⟩, kq⟩ := hvv q hqh
    have e1 := (ck_var gq kq).1
    have e2 := (ck_var hj.2 hk).1
    have he : eqb (nf q.ty) (nf p.ty) = true := by rw [e1, e2, hv]; exact eqb_rfl _
    cases hr with
    | large _ _ _ h => omega
    | given => exact ⟨rfl, by omega⟩
    | no _ _ _ _ _ hg => rw [gv_none hg rfl q hqh he] at hc; cases hc
    | yes _ _ _ _ _ _ _ _ _ _ hg => rw [gv_none hg rfl q hqh he] at hc; cases hc
  | yes out out' left left' p d e i x hd hl hk hsx hr ih =>
    intro he h0 hj hvo hs left2 e2 pf l2 h2 hrun
    obtain ⟨r1, r2, r3⟩ := rd_len hr hl
    have ih' := ih he hl (needs_gd hin hj hsx) hvo hs
    cases hrun with
    | large _ _ _ h => omega
    | given => exact ⟨rfl, by omega⟩
    | no _ _ _ _ _ hg hn => rw [hsx] at hn; cases hn
    | yes _ _ _ _ _ _ i' x' _ _ hg hs' hr' =>
      rw [hsx] at hs'
      cases hs'
      obtain ⟨a, b⟩ := ih' (left2 - 1) i [] e2 pf l2 (by omega) hr'
      exact ⟨a, by omega⟩
  | ok out o1 o2 left l1 l2 p ps d e h hs ih1 ih2 =>
    intro he h0 hj hvo hss left2 n acc e2 pf l2' h2 hrun
    obtain ⟨r1, r2, r3⟩ := rd_len h h0
    obtain ⟨s1, s2, s3⟩ := rd_len hs (r3 rfl)
    obtain ⟨a1, b1⟩ := rd_out hin h (hj p (by simp)) hvo
    obtain ⟨a2, b2⟩ := rd_out hin hs (fun q hq => hj q (by simp [hq])) a1
    have j1 := ih1 rfl h0 (hj p (by simp)) hvo (fun q hq => hss q (b2 q hq))
    have j2 := ih2 he (r3 rfl) (fun q hq => hj q (by simp [hq])) a1 hss
    cases hrun with
    | ok _ m1 _ _ _ _ _ _ _ q r hq hrest =>
      obtain ⟨-, c1⟩ := j1 left2 0 q m1 (by omega) hq
      obtain ⟨c2, c3⟩ := j2 m1 n (acc ++ [q]) e2 pf l2' (by omega) hrest
      exact ⟨c2, by omega⟩
    | bad _ m1 _ _ _ _ _ _ q hq hne =>
      obtain ⟨c1, -⟩ := j1 left2 e2 q l2' (by omega) hq
      exact absurd c1 hne

theorem rdT_out {l : List Cl} {ins : List In} (hin : inst l ins = 0) {out out' : List Pr} {left e : Int} {ps : List Pr} (h : RdT ins out left ps e out') : e = 0 → 0 ≤ left → left ≤ 4096 → (out.length : Int) + left ≤ 4096 → (∀ p, p ∈ ps → isC l p.cls = true) → VarsOf l out →
    VarsOf l out' ∧ (∀ q, q ∈ out → q ∈ out') ∧ (out'.length : Int) ≤ 4096 ∧ ∀ p, p ∈ ps → (chk false 1 4096 p.ty).1 = 0 ∧ ∀ hv, VarsOf l hv → (∀ q, q ∈ out' → q ∈ hv) → ∀ e pf l2, En l ins hv 4096 (.one p 1) e pf l2 → e = 0 := by
  induction h with
  | nil out left => exact fun _ h0 _ hl _ hv => ⟨hv, fun _ h => h, by omega, fun p hp => by cases hp⟩
  | chk _ _ _ _ h => exact fun he => absurd he h
  | bad out o1 left l1 e p ps hc h he => exact fun h => absurd h he
  | ok out o1 o2 left l1 e p ps hc h hr ih =>
    intro he h0 h4 hl hk hv
    have gp : Gd l p := ⟨hk p (by simp), _, _, _, hc⟩
    obtain ⟨r1, r2, r3⟩ := rd_len h h0
    obtain ⟨a1, b1⟩ := rd_out hin h gp hv
    obtain ⟨a2, b2, c2, d2⟩ := ih he (r3 rfl) (by omega) (by omega) (fun q hq => hk q (by simp [hq])) a1
    refine ⟨a2, fun q hq => b2 q (b1 q hq), c2, fun q hq => ?_⟩
    rcases List.mem_cons.1 hq with rfl | hq
    · refine ⟨hc, fun hv' hvv hs e pf l2 hrun => ?_⟩
      exact (rd_en hin hvv h rfl h0 gp hv (fun x hx => hs x (b2 x hx)) 4096 e pf l2 (by have := r3 rfl; omega) hrun).1
    · exact d2 q hq
theorem gvn_zero {l : List Cl} : ∀ {ps : List Pr}, (∀ p, p ∈ ps → isC l p.cls = true ∧ (chk false 1 4096 p.ty).1 = 0) → gvn l ps = 0
  | [], _ => rfl
  | p :: r, h => by
    obtain ⟨h1, h2⟩ := h p (by simp)
    rw [gvn, h1, h2]
    exact gvn_zero fun q hq => h q (by simp [hq])

theorem rd_v {ins : List In} {out out' : List Pr} {left left' e : Int} {j : RdJ} (h : Rd ins out left j e out' left') : (∀ q, q ∈ out → kof q.ty = 0) → ∀ q, q ∈ out' → kof q.ty = 0 := by
  induction h with
  | large => exact fun h => h
  | no => exact fun h => h
  | nil => exact fun h => h
  | var out left p d hd hl hk =>
    intro hv q hq
    unfold addP at hq
    cases h : out.any (sameP p)
    · rw [h] at hq
      rcases List.mem_append.1 hq with hq | hq
      · exact hv q hq
      · rw [List.mem_singleton.1 hq]; exact hk
    · rw [h] at hq; exact hv q hq
  | yes out out' left left' p d e i x hd hl hk hs hr ih => exact ih
  | ok out o1 o2 left l1 l2 p ps d e h hs ih1 ih2 => exact fun hv => ih2 (ih1 hv)
  | bad out o1 left l1 p ps d e h he ih => exact ih
theorem rdT_v {ins : List In} {out out' : List Pr} {left e : Int} {ps : List Pr} (h : RdT ins out left ps e out') : (∀ q, q ∈ out → kof q.ty = 0) → ∀ q, q ∈ out' → kof q.ty = 0 := by
  induction h with
  | nil => exact fun h => h
  | chk => exact fun _ q hq => by cases hq
  | bad => exact fun _ q hq => by cases hq
  | ok out o1 o2 left l1 e p ps hc h hr ih => exact fun hv => ih (rd_v h hv)
theorem rdT_nil {ins : List In} {out out' : List Pr} {left e : Int} {ps : List Pr} (h : RdT ins out left ps e out') : e ≠ 0 → out' = [] := by
  induction h with
  | nil => exact fun h => absurd rfl h
  | chk => exact fun _ => rfl
  | bad => exact fun _ => rfl
  | ok out o1 o2 left l1 e p ps hc h hr ih => exact ih
theorem rdT_len {ins : List In} {out out' : List Pr} {left e : Int} {ps : List Pr} (h : RdT ins out left ps e out') : 0 ≤ left → (out.length : Int) + left ≤ 4096 → out'.length ≤ 4096 := by
  induction h with
  | nil => exact fun h1 h2 => by omega
  | chk => exact fun _ _ => by simp
  | bad => exact fun _ _ => by simp
  | ok out o1 o2 left l1 e p ps hc h hr ih =>
    intro h1 h2
    obtain ⟨r1, r2, r3⟩ := rd_len h h1
    exact ih (r3 rfl) (by omega)
theorem red_len {l : List Cl} {ins : List In} {ps out : List Pr} {e : Int} (h : RedR l ins ps e out) : out.length ≤ 4096 := by
  rcases h with ⟨-, -, rfl⟩ | ⟨-, h⟩
  · simp
  · exact rdT_len h (by decide) (by simp)
/-- What Reduce returns are requirements on variables; nothing, where it fails. -/
theorem red_v {l : List Cl} {ins : List In} {ps out : List Pr} {e : Int} (h : RedR l ins ps e out) : (∀ q, q ∈ out → kof q.ty = 0) ∧ (e ≠ 0 → out = []) := by
  rcases h with ⟨-, -, rfl⟩ | ⟨-, h⟩
  · exact ⟨fun q hq => absurd hq (by simp), fun _ => rfl⟩
  · exact ⟨rdT_v h (fun q hq => absurd hq (by simp)), rdT_nil h⟩
/-- They entail what came down to them. -/
theorem red_ent {l : List Cl} {ins : List In} {ps out : List Pr} (h : RedR l ins ps 0 out) (hk : ∀ p, p ∈ ps → isC l p.cls = true) {p : Pr} (hp : p ∈ ps) {e : Int} {pf : Pf} (he : EntR l ins out p e pf) : e = 0 := by
  rcases h with ⟨h1, h2, -⟩ | ⟨hin, h⟩
  · exact absurd h2.symm h1
  · obtain ⟨hv, -, hlen, hall⟩ := rdT_out hin h rfl (by decide) (by decide) (by simp) hk (fun q hq => by cases hq)
    obtain ⟨hc, hrun⟩ := hall p hp
    have hpre : pre35 l ins out p = 0 := by
      have h1 : (inst l ins != 0) = false := by rw [hin]; rfl
      have h2 : decide ((out.length : Int) > 4096) = false := by simp; omega
      rw [pre35, h1, h2]
      refine gvn_zero fun q hq => ?_
      rcases List.mem_append.1 hq with hq | hq
      · obtain ⟨⟨a, b⟩, c⟩ := hv q hq
        exact ⟨a, (ck_var b c).2⟩
      · rw [List.mem_singleton.1 hq]; exact ⟨hk p hp, hc⟩
    rcases he with ⟨h3, -⟩ | ⟨-, l2, h3⟩
    · exact absurd hpre h3
    · exact hrun out hv (fun q hq => hq) e pf l2 h3
end Go.Am.U3
