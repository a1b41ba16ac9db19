/- The normal form of a type: its rows sorted by label. Conditions: none. -/
import Derived.Test.YtfleakoephmgaaaDoorAmWa
import Derived.Test.YtfleakoephmgaaaDoorAmSo
import Derived.Shelf.Abstract
import Derived.Test.YtfleakoephmgaaaDoorUnL
set_option linter.unusedSimpArgs false
set_option linter.unusedVariables false
namespace Go.Am
namespace Un
open Go.So

abbrev Lb := ByteArray × Tm
def ltB (x y : ByteArray) : Bool := Op.bytesLess x.toList y.toList
def ltL (x y : Lb) : Bool := ltB x.1 y.1

theorem bl_asym : ∀ (a b : List UInt8), Op.bytesLess a b = true → Op.bytesLess b a = false
  | [], [], h => by simp [Op.bytesLess] at h
  | [], _ :: _, _ => by simp [Op.bytesLess]
  | _ :: _, [], h => by simp [Op.bytesLess] at h
  | x :: a, y :: b, h => by
    have ih := bl_asym a b
    simp only [Op.bytesLess, Bool.or_eq_true, Bool.and_eq_true, decide_eq_true_eq, beq_iff_eq] at h
    simp only [Op.bytesLess, Bool.or_eq_false_iff, Bool.and_eq_false_iff, decide_eq_false_iff_not, beq_eq_false_iff_ne]
    rcases h with h | ⟨rfl, h⟩
    · exact ⟨fun h2 => by simp only [UInt8.lt_iff_toNat_lt] at h h2; omega, Or.inl fun h2 => by subst h2; simp [UInt8.lt_iff_toNat_lt] at h⟩
    · exact ⟨by simp [UInt8.lt_iff_toNat_lt], Or.inr (ih h)⟩
theorem bl_trans : ∀ (a b c : List UInt8), Op.bytesLess b a = false → Op.bytesLess c b = false → Op.bytesLess c a = false
  | [], _, [], _, _ => by simp [Op.bytesLess]
  | _ :: _, [], _, h, _ => by simp [Op.bytesLess] at h
  | [], [], _ :: _, _, _ => by simp [Op.bytesLess]
  | [], _ :: _, _ :: _, _, _ => by simp [Op.bytesLess]
  | _ :: _, _ :: _, [], _, h => by simp [Op.bytesLess] at h
  | x :: a, y :: b, z :: c, h1, h2 => by
    have ih := bl_trans a b c
    simp only [Op.bytesLess, Bool.or_eq_false_iff, Bool.and_eq_false_iff, decide_eq_false_iff_not, beq_eq_false_iff_ne, UInt8.lt_iff_toNat_lt] at h1 h2 ⊢
    refine ⟨by omega, ?_⟩
    by_cases hxz : z = x
    · right
      subst hxz
      by_cases hyz : y = z
      · subst hyz
        rcases h1.2 with h | h
        · exact absurd rfl h
        rcases h2.2 with h' | h'
        · exact absurd rfl h'
        exact ih h h'
      · exfalso
        apply hyz
        apply UInt8.toNat_inj.1
        omega
    · exact Or.inl hxz
theorem ltL_ord : Ord ltL := ⟨fun a b h => bl_asym _ _ h, fun a b c h1 h2 => bl_trans _ _ _ h1 h2⟩
/-- A label more, in its place in a sorted row: ahead of those that are equal. -/
def insL (n : ByteArray) (a : Tm) : Tm → Tm
  | .mk k m v [b, r] => if k = 5 ∧ ltB m n = true then .mk 5 m v [b, insL n a r] else .mk 5 n 0 [a, .mk k m v [b, r]]
  | t => .mk 5 n 0 [a, t]
theorem insL_end {n : ByteArray} {a e : Tm} (h : kof e ≠ 5) : insL n a e = .mk 5 n 0 [a, e] := by
  match e, h with
  | .mk k m v [b, r], h => rw [insL, if_neg fun hh => h hh.1]
  | .mk k m v [], _ => rw [insL]; simp
  | .mk k m v [_], _ => rw [insL]; simp
  | .mk k m v (_ :: _ :: _ :: _), _ => rw [insL]; simp

mutual
def nf : Tm → Tm
  | .mk k n v l => if k = 5 then (match nfs l with
    | [a, r] => insL n a r
    | l' => .mk 5 n 0 l') else .mk k n v (nfs l)
def nfs : List Tm → List Tm
  | [] => []
  | t :: r => nf t :: nfs r
end
theorem nfs_map : ∀ l : List Tm, nfs l = l.map nf
  | [] => by rw [nfs]; rfl
  | t :: r => by rw [nfs, nfs_map r]; rfl
theorem nf_ext (n : ByteArray) (v : Int) (a r : Tm) : nf (.mk 5 n v [a, r]) = insL n (nf a) (nf r) := by
  rw [nf, if_pos rfl, nfs, nfs, nfs]
theorem nf_oth {t : Tm} (h : kof t ≠ 5) : nf t = .mk (kof t) (nof t) (vof t) ((lof t).map nf) := by
  obtain ⟨k, n, v, l⟩ := t
  rw [nf, if_neg (show ¬ k = 5 from h), nfs_map]; rfl

def bld : List Lb → Tm → Tm
  | [], t => t
  | x :: r, t => .mk 5 x.1 0 [x.2, bld r t]

/-- A row's labels, and its end. -/
inductive Spn : Tm → List Lb → Tm → Prop
  | nil (t : Tm) (h : kof t ≠ 5) : Spn t [] t
  | cons (n : ByteArray) (v : Int) (a r : Tm) (L : List Lb) (e : Tm) (h : Spn r L e) : Spn (.mk 5 n v [a, r]) ((n, a) :: L) e

theorem spn_end {t : Tm} {L : List Lb} {e : Tm} (h : Spn t L e) : kof e ≠ 5 := by
  induction h with
  | nil t h => exact h
  | cons n v a r L e h ih => exact ih
theorem two_of {l : List Tm} (h : l.length = 2) : ∃ a r, l = [a, r] := by
  match l, h with
  | [a, r], _ => exact ⟨a, r, rfl⟩
theorem spn_of : ∀ (n : Nat) (t : Tm), tsz t ≤ n → Val t → ∃ L e, Spn t L e := by
  intro n
  induction n with
  | zero => intro t h; cases t; rw [tsz] at h; omega
  | succ n ih =>
    rintro ⟨k, m, v, l⟩ h hv
    by_cases hk : k = 5
    · subst hk
      rw [Val] at hv
      obtain ⟨-, -, -, -, -, -, h5, hvs⟩ := hv
      obtain ⟨a, r, rfl⟩ := two_of (h5 rfl)
      rw [tsz, tszs, tszs, tszs] at h
      obtain ⟨L, e, hs⟩ := ih r (by omega) (vals_at hvs (i := 1) rfl)
      exact ⟨_, _, .cons m v a r L e hs⟩
    · exact ⟨[], _, .nil _ hk⟩

theorem insL_bld (n : ByteArray) (a : Tm) : ∀ (L : List Lb) {e : Tm}, kof e ≠ 5 → insL n a (bld L e) = bld (ins ltL (n, a) L) e
  | [], e, he => by
    rw [bld, insL_end he, ins]; rfl
  | x :: L, e, he => by
    rw [bld, Un.insL, Go.So.ins]
    cases h : ltL x (n, a)
    · have h' : ltB x.1 n = false := h
      rw [if_neg (by simp [h'])]
      rfl
    · have h' : ltB x.1 n = true := h
      rw [if_pos ⟨rfl, h'⟩]
      simp only [insL_bld n a L he]
      rfl

def nfl (x : Lb) : Lb := (x.1, nf x.2)
theorem nf_end {e : Tm} (h : kof e ≠ 5) : kof (nf e) ≠ 5 := by rw [nf_oth h]; exact h
theorem nf_spn {t : Tm} {L : List Lb} {e : Tm} (h : Spn t L e) : nf t = bld (isort ltL (L.map nfl)) (nf e) := by
  induction h with
  | nil t h => rfl
  | cons n v a r L e h ih => rw [nf_ext, ih, insL_bld _ _ _ (nf_end (spn_end h))]; rfl

theorem spn_mem {t : Tm} {L : List Lb} {e : Tm} (h : Spn t L e) : (∀ x, x ∈ L → tsz x.2 < tsz t ∧ (Val t → Val x.2)) ∧ tsz e ≤ tsz t ∧ (Val t → Val e) := by
  induction h with
  | nil t h => exact ⟨(fun x hx => nomatch hx), Nat.le_refl _, id⟩
  | cons n v a r L e h ih =>
    obtain ⟨h1, h2, h3⟩ := ih
    have hs : tsz (.mk 5 n v [a, r]) = 1 + (tsz a + (tsz r + 0)) := by rw [tsz, tszs, tszs, tszs]
    have hva : Val (.mk 5 n v [a, r]) → Val a ∧ Val r := fun hv => by
      rw [Val] at hv
      exact ⟨vals_at hv.2.2.2.2.2.2.2 (i := 0) rfl, vals_at hv.2.2.2.2.2.2.2 (i := 1) rfl⟩
    refine ⟨fun x hx => ?_, by omega, fun hv => h3 (hva hv).2⟩
    rcases List.mem_cons.1 hx with rfl | hx
    · exact ⟨by show tsz a < _; omega, fun hv => (hva hv).1⟩
    · obtain ⟨h4, h5⟩ := h1 x hx
      exact ⟨by omega, fun hv => h5 (hva hv).2⟩
theorem val_arg {t a : Tm} (hv : Val t) (h : a ∈ lof t) : Val a := by
  obtain ⟨k, n, v, l⟩ := t
  rw [Val] at hv
  obtain ⟨i, hi⟩ := List.getElem?_of_mem h
  exact vals_at hv.2.2.2.2.2.2.2 hi
theorem tsz_mem {t a : Tm} (h : a ∈ lof t) : tsz a < tsz t := by
  obtain ⟨k, n, v, l⟩ := t
  obtain ⟨i, hi⟩ := List.getElem?_of_mem h
  have := tsz_at hi
  simp only [lof] at this
  rw [tsz]
  omega

/-! ### Sorted rows -/
def top2 (n : ByteArray) : List Tm → Bool
  | [_, r] => kof r == 5 && ltB (nof r) n
  | _ => false
mutual
def srtd : Tm → Bool
  | .mk k n _ l => !(k == 5 && top2 n l) && srtds l
def srtds : List Tm → Bool
  | [] => true
  | t :: r => srtd t && srtds r
end
/-! ### Variables -/
mutual
def Occ (x : Int) : Tm → Prop
  | .mk k _ v l => if k = 0 then v = x else Occs x l
def Occs (x : Int) : List Tm → Prop
  | [] => False
  | t :: r => Occ x t ∨ Occs x r
end
theorem occs_iff (x : Int) : ∀ l : List Tm, Occs x l ↔ ∃ a, a ∈ l ∧ Occ x a
  | [] => by simp [Occs]
  | t :: r => by rw [Occs, occs_iff x r]; simp
theorem adds_mem : ∀ (f out : List Int) (x : Int), x ∈ adds out f ↔ x ∈ out ∨ x ∈ f
  | [], out, x => by rw [adds]; simp
  | v :: r, out, x => by
    rw [adds, adds_mem r]
    split
    · rename_i h
      have h' : v ∈ out := by simpa using h
      constructor
      · rintro (h1 | h1)
        · exact Or.inl h1
        · exact Or.inr (by simp [h1])
      · rintro (h1 | h1)
        · exact Or.inl h1
        · rcases List.mem_cons.1 h1 with rfl | h1
          · exact Or.inl h'
          · exact Or.inr h1
    · simp only [List.mem_append, List.mem_cons, List.not_mem_nil, or_false]
      constructor
      · rintro ((h1 | h1) | h1)
        · exact Or.inl h1
        · exact Or.inr (Or.inl h1)
        · exact Or.inr (Or.inr h1)
      · rintro (h1 | h1 | h1)
        · exact Or.inl (Or.inl h1)
        · exact Or.inl (Or.inr h1)
        · exact Or.inr h1
theorem adds_nodup : ∀ (f out : List Int), out.Nodup → (adds out f).Nodup
  | [], out, h => by rw [adds]; exact h
  | v :: r, out, h => by
    rw [adds]
    refine adds_nodup r _ ?_
    split
    · exact h
    · rename_i hc
      have hc' : v ∉ out := by simpa using hc
      rw [List.nodup_append]
      exact ⟨h, by simp, fun a ha b hb => by simp at hb; subst hb; exact fun e => hc' (e ▸ ha)⟩
mutual
theorem fre_mem (x : Int) : ∀ t : Tm, x ∈ fre t ↔ Occ x t
  | .mk k n v l => by
    rw [fre, Occ]
    split
    · simp [eq_comm]
    · rw [fres_mem x l []]; simp
theorem fres_mem (x : Int) : ∀ (l : List Tm) (out : List Int), x ∈ fres out l ↔ x ∈ out ∨ Occs x l
  | [], out => by rw [fres, Occs]; simp
  | a :: r, out => by rw [fres, Occs, fres_mem x r, adds_mem, fre_mem x a, or_assoc]
end
mutual
theorem fre_nodup : ∀ t : Tm, (fre t).Nodup
  | .mk k n v l => by
    rw [fre]
    split
    · simp
    · exact fres_nodup l [] (by simp)
theorem fres_nodup : ∀ (l : List Tm) (out : List Int), out.Nodup → (fres out l).Nodup
  | [], out, h => by rw [fres]; exact h
  | a :: r, out, h => by rw [fres]; exact fres_nodup r _ (adds_nodup _ _ h)
end
theorem occ_oth (x : Int) {t : Tm} (h : kof t ≠ 0) : Occ x t ↔ ∃ a, a ∈ lof t ∧ Occ x a := by
  obtain ⟨k, n, v, l⟩ := t
  rw [Occ, if_neg (show ¬ k = 0 from h), occs_iff]; rfl
/-! ### Equal types -/
mutual
def eqb : Tm → Tm → Bool
  | .mk k n v l, .mk k' n' v' l' => k == k' && n.toList == n'.toList && v == v' && eqbs l l'
def eqbs : List Tm → List Tm → Bool
  | [], [] => true
  | a :: l, b :: l' => eqb a b && eqbs l l'
  | _, _ => false
end
theorem bts_inj {a b : ByteArray} (h : a.toList = b.toList) : a = b := by
  rw [ByteArray.toList_eq, ByteArray.toList_eq] at h
  obtain ⟨⟨x⟩⟩ := a
  obtain ⟨⟨y⟩⟩ := b
  simp at h
  subst h
  rfl
mutual
theorem eqb_iff : ∀ a b : Tm, eqb a b = true ↔ a = b
  | .mk k n v l, .mk k' n' v' l' => by
    rw [eqb]
    simp only [Bool.and_eq_true, beq_iff_eq, eqbs_iff l l', Tm.mk.injEq]
    constructor
    · rintro ⟨⟨⟨h1, h2⟩, h3⟩, h4⟩; exact ⟨h1, bts_inj h2, h3, h4⟩
    · rintro ⟨h1, h2, h3, h4⟩; exact ⟨⟨⟨h1, by rw [h2]⟩, h3⟩, h4⟩
theorem eqbs_iff : ∀ a b : List Tm, eqbs a b = true ↔ a = b
  | [], [] => by simp [eqbs]
  | [], _ :: _ => by simp [eqbs]
  | _ :: _, [] => by simp [eqbs]
  | a :: l, b :: l' => by rw [eqbs]; simp [eqb_iff a b, eqbs_iff l l']
end
theorem eqb_rfl (a : Tm) : eqb a a = true := (eqb_iff a a).2 rfl
end Un
end Go.Am

/- What a substitution makes of types, step by step. Conditions: none. -/
namespace Go.Am.U1
open Go.Am.Un
set_option linter.unusedSimpArgs false

/-- A variable's own entry. -/
def Self (ss : List Tm) (i : Nat) : Prop := ∃ u, ss[i]? = some u ∧ kof u = 0 ∧ vof u = i

mutual
/-- What a substitution makes of a type, a step at a time. -/
inductive Ap (ss : List Tm) : Tm → Tm → Prop
  | self (t u : Tm) (i : Nat) (h : kof t = 0) (hv : vof t = i) (hi : ss[i]? = some u) (hu : kof u = 0) (hw : vof u = vof t) : Ap ss t t
  | step (t u A : Tm) (i : Nat) (h : kof t = 0) (hv : vof t = i) (hi : ss[i]? = some u) (hn : ¬ (kof u = 0 ∧ vof u = vof t)) (hr : Ap ss u A) : Ap ss t A
  | con (k : Int) (n : ByteArray) (v : Int) (l L : List Tm) (hk : k ≠ 0) (hs : Aps ss l L) : Ap ss (.mk k n v l) (.mk k n v L)
inductive Aps (ss : List Tm) : List Tm → List Tm → Prop
  | nil : Aps ss [] []
  | cons (a A : Tm) (l L : List Tm) (h : Ap ss a A) (hs : Aps ss l L) : Aps ss (a :: l) (A :: L)
end

theorem nat_eq {i j : Nat} {v : Int} (h : v = i) (h2 : v = j) : i = j := by omega
mutual
theorem ap_det {ss : List Tm} : ∀ {t A B : Tm}, Ap ss t A → Ap ss t B → A = B
  | _, _, _, .self t u i h hv hi hu hw, h2 => by
    cases h2 with
    | self => rfl
    | step _ u' _ j h' hv' hi' hn' hr' =>
      obtain rfl := nat_eq hv hv'
      rw [hi] at hi'; cases hi'
      exact absurd ⟨hu, hw⟩ hn'
    | con => exact absurd h (by assumption)
  | _, _, _, .step t u A i h hv hi hn hr, h2 => by
    cases h2 with
    | self _ u' j h' hv' hi' hu' hw' =>
      obtain rfl := nat_eq hv hv'
      rw [hi] at hi'; cases hi'
      exact absurd ⟨hu', hw'⟩ hn
    | step _ u' _ j h' hv' hi' hn' hr' =>
      obtain rfl := nat_eq hv hv'
      rw [hi] at hi'; cases hi'
      exact ap_det hr hr'
    | con => exact absurd h (by assumption)
  | _, _, _, .con k n v l L hk hs, h2 => by
    cases h2 with
    | self _ _ _ h => exact absurd h hk
    | step _ _ _ _ h => exact absurd h hk
    | con _ _ _ _ L' _ hs' => rw [aps_det hs hs']
theorem aps_det {ss : List Tm} : ∀ {l L M : List Tm}, Aps ss l L → Aps ss l M → L = M
  | _, _, _, .nil, h2 => by cases h2; rfl
  | _, _, _, .cons a A l L h hs, h2 => by
    cases h2 with
    | cons _ B _ M h' hs' => rw [ap_det h h', aps_det hs hs']
end

theorem ap_walk {ss : List Tm} {t t' A : Tm} (h : WalkTo ss t t') (h2 : Ap ss t' A) : Ap ss t A := by
  induction h with
  | con t h => exact h2
  | self t u i h hv hi hu hw => exact h2
  | step t u t' i h hv hi hn hr ih => exact .step t u A i h hv hi hn (ih h2)
theorem walk_self {ss : List Tm} {t t' : Tm} (h : WalkTo ss t t') : kof t' = 0 → Ap ss t' t' := by
  induction h with
  | con t h => intro h2; exact absurd h2 h
  | self t u i h hv hi hu hw => intro _; exact .self t u i h hv hi hu hw
  | step t u t' i h hv hi hn hr ih => exact ih
mutual
theorem ap_sub {ss : List Tm} : ∀ {t A : Tm}, Sub ss t A → Ap ss t A
  | _, _, .var t t' h hk => ap_walk h (walk_self h hk)
  | _, _, .con t k n v l L h hk hs => ap_walk h (.con k n v l L hk (aps_subs hs))
theorem aps_subs {ss : List Tm} : ∀ {l L : List Tm}, Subs ss l L → Aps ss l L
  | _, _, .nil => .nil
  | _, _, .cons a A l L h hs => .cons a A l L (ap_sub h) (aps_subs hs)
end
/-- Where a walk ends. -/
theorem walk_ap {ss : List Tm} {t A : Tm} (h : Ap ss t A) : ∃ t', WalkTo ss t t' ∧ kof t' = kof A ∧ Ap ss t' A := by
  match h with
  | .self t u i h hv hi hu hw => exact ⟨t, .self t u i h hv hi hu hw, rfl, .self t u i h hv hi hu hw⟩
  | .step t u A i h hv hi hn hr =>
    obtain ⟨t', h1, h2, h3⟩ := walk_ap hr
    exact ⟨t', .step t u t' i h hv hi hn h1, h2, h3⟩
  | .con k n v l L hk hs => exact ⟨.mk k n v l, .con _ hk, rfl, .con k n v l L hk hs⟩
mutual
theorem sub_ap {ss : List Tm} : ∀ {t A : Tm}, Ap ss t A → Sub ss t A
  | _, _, .self t u i h hv hi hu hw => .var t t (.self t u i h hv hi hu hw) h
  | _, _, .step t u A i h hv hi hn hr => by
    cases sub_ap hr with
    | var _ _ h1 h2 => exact .var t A (.step t u A i h hv hi hn h1) h2
    | con _ k n v l L h1 h2 h3 => exact .con t k n v l L (.step t u _ i h hv hi hn h1) h2 h3
  | _, _, .con k n v l L hk hs => .con _ k n v l L (.con _ hk) hk (subs_aps hs)
theorem subs_aps {ss : List Tm} : ∀ {l L : List Tm}, Aps ss l L → Subs ss l L
  | _, _, .nil => .nil
  | _, _, .cons a A l L h hs => .cons a A l L (sub_ap h) (subs_aps hs)
end
theorem aps_len {ss : List Tm} {l L : List Tm} (h : Aps ss l L) : L.length = l.length := subs_len (subs_aps h)
theorem aps_at {ss : List Tm} {l L : List Tm} (h : Aps ss l L) {i : Nat} {a : Tm} (hi : l[i]? = some a) : ∃ A, L[i]? = some A ∧ Ap ss a A := by
  obtain ⟨A, h1, h2⟩ := subs_at (subs_aps h) hi
  exact ⟨A, h1, ap_sub h2⟩
theorem ap_con {ss : List Tm} {k : Int} {n : ByteArray} {v : Int} {l : List Tm} {A : Tm} (hk : k ≠ 0) (h : Ap ss (.mk k n v l) A) : ∃ L, A = .mk k n v L ∧ Aps ss l L := by
  cases h with
  | self _ _ _ h => exact absurd h hk
  | step _ _ _ _ h => exact absurd h hk
  | con _ _ _ _ L _ hs => exact ⟨L, rfl, hs⟩

mutual
/-- A type with variables below N. -/
def Wt (N : Nat) : Tm → Prop
  | .mk k n v l => 0 ≤ k ∧ k ≤ 5 ∧ (k = 0 → n = ⟨#[]⟩ ∧ l = [] ∧ 0 ≤ v ∧ v < N) ∧ (k ≠ 0 → v = 0) ∧ (k = 2 → l.length = 3) ∧ (k = 3 → l.length = 1) ∧ (k = 4 → l.length = 0) ∧ (k = 5 → l.length = 2) ∧ l.length ≤ 1099511627776 ∧ Wts N l
def Wts (N : Nat) : List Tm → Prop
  | [] => True
  | t :: r => Wt N t ∧ Wts N r
end
theorem wts_iff {N : Nat} : ∀ {l : List Tm}, Wts N l ↔ ∀ a, a ∈ l → Wt N a
  | [] => by simp [Wts]
  | a :: r => by rw [Wts, wts_iff]; simp
theorem wt_arg {N : Nat} {t a : Tm} (h : Wt N t) (ha : a ∈ lof t) : Wt N a := by
  obtain ⟨k, n, v, l⟩ := t
  rw [Wt] at h
  exact wts_iff.1 h.2.2.2.2.2.2.2.2.2 a ha
theorem wt_lof {N : Nat} {t : Tm} (h : Wt N t) : (lof t).length ≤ 1099511627776 := by
  obtain ⟨k, n, v, l⟩ := t
  rw [Wt] at h
  exact h.2.2.2.2.2.2.2.2.1
theorem wt_var {N : Nat} {t : Tm} (h : Wt N t) (hk : kof t = 0) : ∃ i, i < N ∧ t = vtm i := by
  obtain ⟨k, n, v, l⟩ := t
  rw [kof_mk] at hk
  subst hk
  rw [Wt] at h
  obtain ⟨rfl, rfl, h1, h2⟩ := h.2.2.1 rfl
  exact ⟨v.toNat, by omega, by rw [vtm]; congr 1; omega⟩
theorem wt_vtm {N i : Nat} (h : i < N) : Wt N (vtm i) := by
  rw [vtm, Wt]
  simp [Wts]; omega
mutual
theorem wt_le {N M : Nat} (hNM : N ≤ M) : ∀ t : Tm, Wt N t → Wt M t
  | .mk k n v l => fun h => by
    rw [Wt] at h ⊢
    obtain ⟨h1, h2, h3, h4, h5, h6, h7, h8, h8', h9⟩ := h
    exact ⟨h1, h2, fun hk => ⟨(h3 hk).1, (h3 hk).2.1, (h3 hk).2.2.1, by have := (h3 hk).2.2.2; omega⟩, h4, h5, h6, h7, h8, h8', wts_le hNM l h9⟩
theorem wts_le {N M : Nat} (hNM : N ≤ M) : ∀ l : List Tm, Wts N l → Wts M l
  | [], _ => by rw [Wts]; trivial
  | t :: r, h => by rw [Wts] at h ⊢; exact ⟨wt_le hNM t h.1, wts_le hNM r h.2⟩
end
mutual
theorem wt_val {N : Nat} : ∀ t : Tm, Wt N t → Val t
  | .mk k n v l => fun h => by
    rw [Wt] at h
    obtain ⟨h1, h2, h3, h4, h5, h6, h7, h8, h8', h9⟩ := h
    rw [Val]
    exact ⟨h1, h2, fun hk => ⟨by rw [(h3 hk).2.1]; rfl, (h3 hk).2.2.1⟩, h5, h6, h7, h8, wts_vals l h9⟩
theorem wts_vals {N : Nat} : ∀ l : List Tm, Wts N l → Vals l
  | [], _ => by rw [Vals]; trivial
  | t :: r, h => by rw [Wts] at h; rw [Vals]; exact ⟨wt_val t h.1, wts_vals r h.2⟩
end
theorem wt_occ {N : Nat} {x : Int} : ∀ (n : Nat) (t : Tm), tsz t ≤ n → Wt N t → Occ x t → 0 ≤ x ∧ x < N := by
  intro n
  induction n with
  | zero => intro t h; have := tsz_pos t; omega
  | succ n ih =>
    rintro ⟨k, m, v, l⟩ h hw ho
    by_cases hk : k = 0
    · subst hk
      rw [Wt] at hw
      obtain ⟨-, -, h1, h2⟩ := hw.2.2.1 rfl
      rw [Occ, if_pos rfl] at ho
      omega
    · rw [occ_oth x (by simpa [kof_mk] using hk)] at ho
      obtain ⟨a, ha, ho⟩ := ho
      have := tsz_mem ha
      exact ih a (by omega) (wt_arg hw ha) ho

/-- A substitution without cycles. -/
structure Acy (ss : List Tm) (rk : Nat → Nat) : Prop where
  wt : ∀ (i : Nat) u, ss[i]? = some u → Wt ss.length u
  dn : ∀ (i : Nat) u, ss[i]? = some u → (kof u = 0 ∧ vof u = i) ∨ ∀ x : Nat, Occ x u → rk x < rk i

theorem ap_ex {ss : List Tm} {rk : Nat → Nat} (h : Acy ss rk) : ∀ (R n : Nat) (t : Tm), (∀ x : Nat, Occ x t → rk x < R) → Wt ss.length t → tsz t ≤ n → ∃ A, Ap ss t A := by
  intro R
  induction R with
  | zero =>
    intro n
    induction n with
    | zero => intro t _ _ h; have := tsz_pos t; omega
    | succ n ih =>
      rintro ⟨k, m, v, l⟩ hr hw hs
      by_cases hk : k = 0
      · subst hk
        rw [Wt] at hw
        obtain ⟨-, -, h1, h2⟩ := hw.2.2.1 rfl
        have := hr v.toNat (by rw [Occ, if_pos rfl]; omega)
        omega
      · have : ∀ l' : List Tm, (∀ a, a ∈ l' → a ∈ l) → ∃ L, Aps ss l' L := by
          intro l'
          induction l' with
          | nil => intro _; exact ⟨[], .nil⟩
          | cons a l' ihl =>
            intro hm
            have hal : a ∈ lof (Tm.mk k m v l) := hm a (by simp)
            have hz := tsz_mem hal
            obtain ⟨A, hA⟩ := ih a (fun x ho => hr x ((occ_oth x (by simpa [kof_mk] using hk)).2 ⟨a, hal, ho⟩)) (wt_arg hw hal) (by omega)
            obtain ⟨L, hL⟩ := ihl fun b hb => hm b (by simp [hb])
            exact ⟨A :: L, .cons _ _ _ _ hA hL⟩
        obtain ⟨L, hL⟩ := this l fun _ h => h
        exact ⟨_, .con k m v l L hk hL⟩
  | succ R ihR =>
    intro n
    induction n with
    | zero => intro t _ _ h; have := tsz_pos t; omega
    | succ n ih =>
      rintro ⟨k, m, v, l⟩ hr hw hs
      by_cases hk : k = 0
      · subst hk
        have hw' := hw
        rw [Wt] at hw
        obtain ⟨-, -, h1, h2⟩ := hw.2.2.1 rfl
        obtain ⟨i, rfl⟩ : ∃ i : Nat, v = i := ⟨v.toNat, by omega⟩
        obtain ⟨u, hu⟩ : ∃ u, ss[i]? = some u := ⟨_, List.getElem?_eq_getElem (by omega)⟩
        have hri := hr i (by rw [Occ, if_pos rfl])
        by_cases hse : kof u = 0 ∧ vof u = i
        · exact ⟨_, .self _ u i rfl rfl hu hse.1 hse.2⟩
        · rcases h.dn i u hu with hd | hd
          · exact absurd hd hse
          · obtain ⟨A, hA⟩ := ihR (tsz u) u (fun x ho => by have := hd x ho; omega) (h.wt i u hu) (Nat.le_refl _)
            exact ⟨A, .step _ u A i rfl rfl hu hse hA⟩
      · have : ∀ l' : List Tm, (∀ a, a ∈ l' → a ∈ l) → ∃ L, Aps ss l' L := by
          intro l'
          induction l' with
          | nil => intro _; exact ⟨[], .nil⟩
          | cons a l' ihl =>
            intro hm
            have hal : a ∈ lof (Tm.mk k m v l) := hm a (by simp)
            have hz := tsz_mem hal
            obtain ⟨A, hA⟩ := ih a (fun x ho => hr x ((occ_oth x (by simpa [kof_mk] using hk)).2 ⟨a, hal, ho⟩)) (wt_arg hw hal) (by omega)
            obtain ⟨L, hL⟩ := ihl fun b hb => hm b (by simp [hb])
            exact ⟨A :: L, .cons _ _ _ _ hA hL⟩
        obtain ⟨L, hL⟩ := this l fun _ h => h
        exact ⟨_, .con k m v l L hk hL⟩
/-- A bound of the ranks. -/
theorem rk_bound (rk : Nat → Nat) : ∀ N : Nat, ∃ R, ∀ i, i < N → rk i < R
  | 0 => ⟨0, fun i h => by omega⟩
  | N + 1 => by
    obtain ⟨R, hR⟩ := rk_bound rk N
    exact ⟨max R (rk N + 1), fun i hi => by
      by_cases h : i = N
      · subst h; omega
      · have := hR i (by omega); omega⟩
theorem Acy.ex {ss : List Tm} {rk : Nat → Nat} (h : Acy ss rk) {t : Tm} (hw : Wt ss.length t) : ∃ A, Ap ss t A := by
  obtain ⟨R, hR⟩ := rk_bound rk ss.length
  exact ap_ex h R _ t (fun x ho => hR x (by have := wt_occ _ t (Nat.le_refl _) hw ho; omega)) hw (Nat.le_refl _)
end Go.Am.U1
