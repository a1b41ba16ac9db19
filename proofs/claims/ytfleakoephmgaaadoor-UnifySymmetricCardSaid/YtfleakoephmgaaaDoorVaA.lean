/- Runs of the unifier: what is bound stays bound; what a run without an error makes equal; a run of any work exists. Conditions: none. -/
import Derived.Test.YtfleakoephmgaaaDoorUtH
import Derived.Test.YtfleakoephmgaaaDoorUtH
set_option linter.unusedSimpArgs false
set_option linter.unusedVariables false
namespace Go.Am.U1
open Go.Am.Un Go.So
set_option linter.unusedSimpArgs false

/-! ### What is bound stays -/
def Le (ss ss' : List Tm) : Prop := ss.length ≤ ss'.length ∧ ∀ (i : Nat) u, ss[i]? = some u → ¬ (kof u = 0 ∧ vof u = i) → ss'[i]? = some u
theorem Le.refl (ss : List Tm) : Le ss ss := ⟨Nat.le_refl _, fun _ _ h _ => h⟩
theorem Le.trans {a b c : List Tm} (h : Le a b) (h2 : Le b c) : Le a c := ⟨Nat.le_trans h.1 h2.1, fun i u hi hn => h2.2 i u (h.2 i u hi hn) hn⟩
theorem self_not {ss : List Tm} {i : Nat} {u : Tm} (h : Self ss i) (hi : ss[i]? = some u) : kof u = 0 ∧ vof u = i := by
  obtain ⟨w, h1, h2, h3⟩ := h
  rw [h1] at hi; cases hi
  exact ⟨h2, h3⟩
theorem set_le {ss : List Tm} {i : Nat} (h : Self ss i) (t : Tm) : Le ss (ss.set i t) := by
  refine ⟨by rw [List.length_set]; exact Nat.le_refl _, fun j u hj hn => ?_⟩
  by_cases hij : i = j
  · subst hij; exact absurd (self_not h hj) hn
  · rw [List.getElem?_set_ne hij]; exact hj
theorem two_le (ss : List Tm) : Le ss (two ss) := ⟨by rw [two_len]; omega, fun i u hi _ => by rw [two_old (List.getElem?_eq_some_iff.1 hi).1]; exact hi⟩
theorem grow_le {ss : List Tm} {i : Nat} (h : Self ss i) (l : ByteArray) : Le ss (grow ss i l) := (two_le ss).trans (set_le (self_two h) _)
theorem bd_le {ss ss' : List Tm} {i : Nat} {t : Tm} {e : Int} (hs : Self ss i) (h : BdR ss i t e ss') : Le ss ss' := by
  rcases h with ⟨-, -, -, rfl⟩ | ⟨-, -, -, rfl⟩ | ⟨-, -, -, rfl⟩
  · exact Le.refl _
  · exact Le.refl _
  · exact set_le hs t
theorem ex_le {l : ByteArray} {z : Int} {ss ss' : List Tm} {r t q : Tm} {e : Int} (h : ExR l z ss r e t q ss') : Le ss ss' := by
  induction h with
  | cyc => exact Le.refl _
  | large => exact two_le _
  | new r i hw => exact grow_le (walk_var hw) l
  | stop => exact Le.refl _
  | here => exact Le.refl _
  | there r m v x y e t q ss' hw hm h ih => exact ih
theorem un_le {ss ss' : List Tm} {j : Jb} {e : Int} (h : Un ss j e ss') : Le ss ss' := by
  induction h with
  | bl ss a b b' i e ss' wa wb h => exact bd_le (walk_var wa) h
  | br ss a b a' i e ss' wa ha wb h => exact bd_le (walk_var wb) h
  | row ss a b b' n v x y e ss' wa wb hb h ih => exact ih
  | bad => exact Le.refl _
  | args ss a b k n n' v v' l l' e ss' wa wb hk hr hn hl' h ih => exact ih
  | nil => exact Le.refl _
  | ok ss ss1 ss2 a b l m e h hs ih1 ih2 => exact ih1.trans ih2
  | fail ss ss1 a b l m e h he hl' ih => exact ih
  | exf ss ss1 n v x y b t q z e ht h he => exact ex_le h
  | hdf ss ss1 ss2 n v x y b t q z e ht h h1 he ih => exact (ex_le h).trans ih
  | rok ss ss1 ss2 ss3 n v x y b t q z e ht h h1 h2 ih1 ih2 => exact ((ex_le h).trans ih1).trans ih2

/-! ### What becomes of a type later -/
theorem walk_le {ss ss' : List Tm} {t t' A : Tm} (h : WalkTo ss t t') (hl : Le ss ss') : Ap ss' t A ↔ Ap ss' t' A := by
  induction h with
  | con => exact Iff.rfl
  | self => exact Iff.rfl
  | step t u t' i h hv hi hn hr ih =>
    rw [← ih]
    have hi' := hl.2 i u hi (by rw [hv] at hn; exact hn)
    constructor
    · intro h2
      cases h2 with
      | self _ u' j h' hv' hj hu' hw' =>
        obtain rfl := nat_eq hv hv'
        rw [hi'] at hj; cases hj
        exact absurd ⟨hu', hw'⟩ hn
      | step _ u' _ j h' hv' hj hn' hr' =>
        obtain rfl := nat_eq hv hv'
        rw [hi'] at hj; cases hj
        exact hr'
      | con _ _ _ _ _ hk => exact absurd h hk
    · exact fun h2 => .step t u A i h hv hi' hn h2
mutual
theorem ap_le {ss ss' : List Tm} (hl : Le ss ss') : ∀ {t A : Tm}, Ap ss t A → ∀ {B : Tm}, Ap ss' A B → Ap ss' t B
  | _, _, .self t u i h hv hi hu hw, _, h2 => h2
  | _, _, .step t u A i h hv hi hn hr, _, h2 => .step t u _ i h hv (hl.2 i u hi (by rw [hv] at hn; exact hn)) hn (ap_le hl hr h2)
  | _, _, .con k n v l L hk hs, _, h2 => by
    obtain ⟨M, rfl, hM⟩ := ap_con hk h2
    exact .con k n v l M hk (aps_le hl hs hM)
theorem aps_le {ss ss' : List Tm} (hl : Le ss ss') : ∀ {l L : List Tm}, Aps ss l L → ∀ {M : List Tm}, Aps ss' L M → Aps ss' l M
  | _, _, .nil, _, h2 => h2
  | _, _, .cons a A l L h hs, _, h2 => by
    cases h2 with
    | cons _ B _ M h' hs' => exact .cons a B l M (ap_le hl h h') (aps_le hl hs hs')
end
mutual
theorem ap_ri {ss ss' : List Tm} (hl : Le ss ss') : ∀ {t A : Tm}, Ap ss t A → ∀ {B : Tm}, Ap ss' t B → Ap ss' A B
  | _, _, .self t u i h hv hi hu hw, _, h2 => h2
  | _, _, .step t u A i h hv hi hn hr, _, h2 => by
    have hi' := hl.2 i u hi (by rw [hv] at hn; exact hn)
    cases h2 with
    | self _ u' j h' hv' hj hu' hw' =>
      obtain rfl := nat_eq hv hv'
      rw [hi'] at hj; cases hj
      exact absurd ⟨hu', hw'⟩ hn
    | step _ u' _ j h' hv' hj hn' hr' =>
      obtain rfl := nat_eq hv hv'
      rw [hi'] at hj; cases hj
      exact ap_ri hl hr hr'
    | con _ _ _ _ _ hk => exact absurd h hk
  | _, _, .con k n v l L hk hs, _, h2 => by
    obtain ⟨M, rfl, hM⟩ := ap_con hk h2
    exact .con k n v L M hk (aps_ri hl hs hM)
theorem aps_ri {ss ss' : List Tm} (hl : Le ss ss') : ∀ {l L : List Tm}, Aps ss l L → ∀ {M : List Tm}, Aps ss' l M → Aps ss' L M
  | _, _, .nil, _, h2 => h2
  | _, _, .cons a A l L h hs, _, h2 => by
    cases h2 with
    | cons _ B _ M h' hs' => exact .cons A B L M (ap_ri hl h h') (aps_ri hl hs hs')
end

/-! ### Labels put into a row in two orders -/
theorem bl_tot : ∀ (a b : List UInt8), a ≠ b → Op.bytesLess a b = false → Op.bytesLess b a = true
  | [], [], h, _ => absurd rfl h
  | [], _ :: _, _, h => by simp [Op.bytesLess] at h
  | _ :: _, [], _, _ => by simp [Op.bytesLess]
  | x :: a, y :: b, hne, h => by
    have ih := bl_tot a b
    simp only [Op.bytesLess, Bool.or_eq_false_iff, Bool.and_eq_false_iff, decide_eq_false_iff_not, beq_eq_false_iff_ne, UInt8.lt_iff_toNat_lt] at h
    simp only [Op.bytesLess, Bool.or_eq_true, Bool.and_eq_true, decide_eq_true_eq, beq_iff_eq, UInt8.lt_iff_toNat_lt]
    by_cases hxy : x = y
    · subst hxy
      rcases h.2 with h2 | h2
      · exact absurd rfl h2
      · exact Or.inr ⟨rfl, ih (fun e => hne (by rw [e])) h2⟩
    · have : x.toNat ≠ y.toNat := fun e => hxy (UInt8.toNat_inj.1 e)
      left; omega
theorem ltB_tot {n m : ByteArray} (hne : n ≠ m) (h : ltB n m = false) : ltB m n = true := bl_tot _ _ (fun e => hne (bts_inj e)) h
theorem ltB_asym {n m : ByteArray} (h : ltB n m = true) : ltB m n = false := bl_asym _ _ h
theorem ltB_trans {a b c : ByteArray} (h : ltB a b = true) (h2 : ltB b c = true) : ltB a c = true := by
  cases h3 : ltB a c
  · by_cases hac : a = c
    · subst hac; rw [ltB_asym h] at h2; cases h2
    · have h4 := ltB_tot hac h3
      have := bl_trans a.toList b.toList c.toList (bl_asym _ _ h) (bl_asym _ _ h2)
      exact absurd h4 (by unfold ltB; rw [this]; simp)
  · rfl
theorem insL_hd {n m : ByteArray} {a b t : Tm} (h : ltB m n = false) : insL n a (.mk 5 m 0 [b, t]) = .mk 5 n 0 [a, .mk 5 m 0 [b, t]] := by
  rw [insL, if_neg (by simp [h])]
theorem insL_ps {n m : ByteArray} {v : Int} {a b t : Tm} (h : ltB m n = true) : insL n a (.mk 5 m v [b, t]) = .mk 5 m v [b, insL n a t] := by
  rw [insL, if_pos ⟨rfl, h⟩]
theorem insL_sw {n m : ByteArray} {a b : Tm} (h : ltB n m = true) : ∀ (N : Nat) (t : Tm), tsz t ≤ N → insL n a (insL m b t) = insL m b (insL n a t) := by
  have h' := ltB_asym h
  have hend : ∀ t : Tm, (∀ (x : ByteArray) (y : Tm), insL x y t = .mk 5 x 0 [y, t]) → insL n a (insL m b t) = insL m b (insL n a t) := by
    intro t ht
    rw [ht, ht, insL_hd h', insL_ps h, ht]
  intro N
  induction N with
  | zero => intro t hz; have := tsz_pos t; omega
  | succ N ih =>
    intro t hz
    by_cases h5 : kof t = 5
    · obtain ⟨k, p, v, l⟩ := t
      rw [kof_mk] at h5; subst h5
      match l with
      | [c, r] =>
        rw [tsz, tszs, tszs, tszs] at hz
        cases hpn : ltB p n
        · have e1 : insL n a (.mk 5 p v [c, r]) = .mk 5 n 0 [a, .mk 5 p v [c, r]] := by rw [insL, if_neg (by simp [hpn])]
          rw [e1, insL_ps h]
          cases hpm : ltB p m
          · have e2 : insL m b (.mk 5 p v [c, r]) = .mk 5 m 0 [b, .mk 5 p v [c, r]] := by rw [insL, if_neg (by simp [hpm])]
            rw [e2, insL_hd h']
          · rw [insL_ps hpm, insL, if_neg (by simp [hpn])]
        · have hpm := ltB_trans hpn h
          rw [insL_ps hpm, insL_ps hpn, insL_ps hpn, insL_ps hpm, ih r (by omega)]
      | [] => exact hend _ fun x y => by rw [insL]; simp
      | [_] => exact hend _ fun x y => by rw [insL]; simp
      | _ :: _ :: _ :: _ => exact hend _ fun x y => by rw [insL]; simp
    · exact hend t fun x y => insL_end h5
theorem insL_comm {n m : ByteArray} (hne : n ≠ m) (a b t : Tm) : insL n a (insL m b t) = insL m b (insL n a t) := by
  cases h : ltB n m
  · exact (insL_sw (ltB_tot hne h) _ t (Nat.le_refl _)).symm
  · exact insL_sw h _ t (Nat.le_refl _)
theorem ne_of_beq {a b : ByteArray} (h : (a.toList == b.toList) = false) : a ≠ b := fun e => by subst e; simp at h

/-! ### What a run makes equal -/
theorem aps_two {ss : List Tm} {x y : Tm} {L : List Tm} (h : Aps ss [x, y] L) : ∃ X Y, L = [X, Y] ∧ Ap ss x X ∧ Ap ss y Y := by
  cases h with | cons _ X _ _ h hs => cases hs with | cons _ Y _ _ h2 hs => cases hs; exact ⟨X, Y, rfl, h, h2⟩
theorem ap_row {ss : List Tm} {n : ByteArray} {v : Int} {x y A : Tm} (h : Ap ss (.mk 5 n v [x, y]) A) : ∃ X Y, A = .mk 5 n v [X, Y] ∧ Ap ss x X ∧ Ap ss y Y := by
  obtain ⟨L, rfl, hL⟩ := ap_con (by decide) h
  obtain ⟨X, Y, rfl, h1, h2⟩ := aps_two hL
  exact ⟨X, Y, rfl, h1, h2⟩
theorem row_ap {ss : List Tm} (n : ByteArray) (v : Int) {x y X Y : Tm} (h : Ap ss x X) (h2 : Ap ss y Y) : Ap ss (.mk 5 n v [x, y]) (.mk 5 n v [X, Y]) :=
  .con 5 n v _ _ (by decide) (.cons _ _ _ _ h (.cons _ _ _ _ h2 .nil))
theorem ap_bound {ss : List Tm} {i : Nat} {u A : Tm} (hi : ss[i]? = some u) (hn : ¬ (kof u = 0 ∧ vof u = i)) (h : Ap ss (vtm i) A) : Ap ss u A := by
  cases h with
  | self _ u' j h' hv' hj hu' hw' =>
    obtain rfl : i = j := nat_eq (v := (i : Int)) rfl hv'
    rw [hi] at hj; cases hj
    exact absurd ⟨hu', hw'⟩ hn
  | step _ u' _ j h' hv' hj hn' hr' =>
    obtain rfl : i = j := nat_eq (v := (i : Int)) rfl hv'
    rw [hi] at hj; cases hj
    exact hr'
  | con _ _ _ _ _ hk => exact absurd rfl hk
theorem set_at {ss : List Tm} {i : Nat} (h : Self ss i) (t : Tm) : (ss.set i t)[i]? = some t := by
  obtain ⟨u, h1, -⟩ := h
  exact List.getElem?_set_self (List.getElem?_eq_some_iff.1 h1).1
theorem exl_not (l : ByteArray) (n i : Nat) : ¬ (kof (exl l n) = 0 ∧ vof (exl l n) = i) := fun h => by have := h.1; rw [exl, kof_mk] at this; exact absurd this (by decide)

theorem ex_snd {l : ByteArray} {z : Int} {ss ss' : List Tm} {r t q : Tm} {e : Int} (h : ExR l z ss r e t q ss') : e = 0 → ∀ ss2, Le ss' ss2 → ∀ B, Ap ss2 r B → ∃ T Q, Ap ss2 t T ∧ Ap ss2 q Q ∧ nf B = insL l (nf T) (nf Q) := by
  induction h with
  | cyc => intro h; cases h
  | large => intro h; cases h
  | stop => intro h; cases h
  | new r i hw hz hl' =>
    intro _ ss2 hle B hB
    have hs := walk_var hw
    have h1 := (walk_le hw ((grow_le hs l).trans hle)).1 hB
    have h2 := hle.2 i _ (set_at (self_two hs) (exl l ss.length)) (exl_not l _ i)
    obtain ⟨T, Q, rfl, h3, h4⟩ := ap_row (ap_bound h2 (exl_not l _ i) h1)
    exact ⟨T, Q, h3, h4, nf_ext _ _ _ _⟩
  | here r m v x y hw hm =>
    intro _ ss2 hle B hB
    obtain ⟨T, Q, rfl, h3, h4⟩ := ap_row ((walk_le hw hle).1 hB)
    refine ⟨T, Q, h3, h4, ?_⟩
    rw [nf_ext, bts_inj (beq_iff_eq.1 hm)]
  | there r m v x y e t q ss' hw hm h ih =>
    intro he ss2 hle B hB
    obtain ⟨X, Y, rfl, h3, h4⟩ := ap_row ((walk_le hw ((ex_le h).trans hle)).1 hB)
    obtain ⟨T, Q, h5, h6, h7⟩ := ih he ss2 hle Y h4
    refine ⟨T, _, h5, row_ap m 0 h3 h6, ?_⟩
    rw [nf_ext, nf_ext, h7, insL_comm (ne_of_beq hm)]

/-- What is equal then. -/
def JEq (ss : List Tm) : Jb → Prop
  | .un a b => ∀ A B, Ap ss a A → Ap ss b B → nf A = nf B
  | .us l m => ∀ L M, Aps ss l L → Aps ss m M → L.map nf = M.map nf
  | .rw n _ x y b => ∀ X Y B, Ap ss x X → Ap ss y Y → Ap ss b B → insL n (nf X) (nf Y) = nf B

theorem bd_snd {ss ss' ss2 : List Tm} {i : Nat} {t : Tm} {e : Int} (hs : Self ss i) (ht : Wt ss.length t) (h : BdR ss i t e ss') (he : e = 0) (hle : Le ss' ss2) {A B : Tm} (hA : Ap ss2 (vtm i) A) (hB : Ap ss2 t B) : A = B := by
  rcases h with ⟨h0, h1, -, rfl⟩ | ⟨-, -, rfl, -⟩ | ⟨hn, -, -, rfl⟩
  · obtain ⟨k, -, rfl⟩ := wt_var ht h0
    have h1' : (k : Int) = i := h1
    obtain rfl : k = i := by omega
    exact ap_det hA hB
  · cases he
  · exact ap_det (ap_bound (hle.2 i t (set_at hs t) hn) hn hA) hB
theorem wt_v0 {N : Nat} {k v : Int} {n : ByteArray} {l : List Tm} (h : Wt N (.mk k n v l)) (hk : k ≠ 0) : v = 0 := by
  rw [Wt] at h; exact h.2.2.2.1 hk

theorem un_snd {ss ss' : List Tm} {j : Jb} {e : Int} (h : Un ss j e ss') : e = 0 → Fine ss → ss.length ≤ 4096 → JWt ss.length j → ∀ ss2, Le ss' ss2 → JEq ss2 j := by
  induction h with
  | bl ss a b b' i e ss' wa wb h =>
    intro he hf hl hj ss2 hle A B hA hB
    have hs := walk_var wa
    have hle0 := (bd_le hs h).trans hle
    rw [bd_snd hs (fine_walk hf wb hj.2) h he hle ((walk_le wa hle0).1 hA) ((walk_le wb hle0).1 hB)]
  | br ss a b a' i e ss' wa ha wb h =>
    intro he hf hl hj ss2 hle A B hA hB
    have hs := walk_var wb
    have hle0 := (bd_le hs h).trans hle
    rw [bd_snd hs (fine_walk hf wa hj.1) h he hle ((walk_le wb hle0).1 hB) ((walk_le wa hle0).1 hA)]
  | row ss a b b' n v x y e ss' wa wb hb h ih =>
    intro he hf hl hj ss2 hle A B hA hB
    have hle0 := (un_le h).trans hle
    have hxy := row_wt (fine_walk hf wa hj.1)
    obtain ⟨X, Y, rfl, h1, h2⟩ := ap_row ((walk_le wa hle0).1 hA)
    rw [nf_ext]
    exact ih he hf hl ⟨hxy.1, hxy.2, fine_walk hf wb hj.2⟩ ss2 hle X Y B h1 h2 ((walk_le wb hle0).1 hB)
  | bad => intro h; cases h
  | args ss a b k n n' v v' l l' e ss' wa wb hk hr hn hl' h ih =>
    intro he hf hl hj ss2 hle A B hA hB
    have hle0 := (un_le h).trans hle
    have w1 := fine_walk hf wa hj.1
    have w2 := fine_walk hf wb hj.2
    obtain ⟨L, rfl, h1⟩ := ap_con hk ((walk_le wa hle0).1 hA)
    obtain ⟨M, rfl, h2⟩ := ap_con hk ((walk_le wb hle0).1 hB)
    have := ih he hf hl ⟨fun a ha => wt_arg w1 ha, fun a ha => wt_arg w2 ha⟩ ss2 hle L M h1 h2
    rw [nf_oth (by exact hr), nf_oth (by exact hr)]
    simp only [kof, nof, vof, lof]
    rw [this, bts_inj (beq_iff_eq.1 hn), wt_v0 w1 hk, wt_v0 w2 hk]
  | nil => intro _ _ _ _ ss2 _ L M hL hM; cases hL; cases hM; rfl
  | ok ss ss1 ss2 a b l m e h hs ih1 ih2 =>
    intro he hf hl hj ss2 hle L M hL hM
    have hj1 : JWt ss.length (.un a b) := ⟨hj.1 a (by simp), hj.2 b (by simp)⟩
    obtain ⟨h1, h2, h3⟩ := un_fine h hf hl hj1
    cases hL with | cons _ A _ L hA hL =>
    cases hM with | cons _ B _ M hB hM =>
    have e1 := ih1 rfl hf hl hj1 ss2 ((un_le hs).trans hle) A B hA hB
    have e2 := ih2 he h1 (h3 rfl) (jwt_le h2 (j := .us l m) ⟨fun a ha => hj.1 a (by simp [ha]), fun a ha => hj.2 a (by simp [ha])⟩) ss2 hle L M hL hM
    rw [List.map_cons, List.map_cons, e1, e2]
  | fail ss ss1 a b l m e h he hl' ih => intro h; exact absurd h he
  | exf ss ss1 n v x y b t q z e ht h he => intro h; exact absurd h he
  | hdf ss ss1 ss2 n v x y b t q z e ht h h1 he ih => intro h; exact absurd h he
  | rok ss ss1 ss2 ss3 n v x y b t q z e ht h h1 h2 ih1 ih2 =>
    intro he hf hl hj ss4 hle X Y B hX hY hB
    obtain ⟨g1, g2, g3⟩ := ex_fine hf hl h hj.2.2
    have hj1 : JWt ss1.length (.un x t) := ⟨wt_le g2 _ hj.1, (g3 rfl).2.1⟩
    obtain ⟨g4, g5, g6⟩ := un_fine h1 g1 (g3 rfl).1 hj1
    obtain ⟨T, Q, hT, hQ, hn⟩ := ex_snd h rfl ss4 (((un_le h1).trans (un_le h2)).trans hle) B hB
    rw [hn, ih1 rfl g1 (g3 rfl).1 hj1 ss4 ((un_le h2).trans hle) X T hX hT, ih2 he g4 (g6 rfl) ⟨wt_le (by omega) _ hj.2.1, wt_le g5 _ (g3 rfl).2.2⟩ ss4 hle Y Q hY hQ]

/-! ### Runs exist -/
noncomputable def aw (ss : List Tm) (t : Tm) : Nat := @dite _ (∃ A, Ap ss t A) (Classical.propDecidable _) (fun h => tsz h.choose) (fun _ => 0)
theorem aw_eq {ss : List Tm} {t A : Tm} (h : Ap ss t A) : aw ss t = tsz A := by
  have he : ∃ A, Ap ss t A := ⟨A, h⟩
  unfold aw
  rw [dif_pos he, ap_det he.choose_spec h]
noncomputable def aws (ss : List Tm) (l : List Tm) : Nat := (l.map (aw ss)).sum
theorem aws_eq {ss : List Tm} : ∀ {l L : List Tm}, Aps ss l L → aws ss l = tszs L
  | _, _, .nil => by simp [aws, tszs]
  | _, _, .cons a A l L h hs => by
    have := aws_eq hs
    simp only [aws, List.map_cons, List.sum_cons, tszs, aw_eq h] at this ⊢
    omega
theorem aws_cons (ss : List Tm) (a : Tm) (l : List Tm) : aws ss (a :: l) = aw ss a + aws ss l := by simp [aws]
theorem aw_con {ss : List Tm} {k v : Int} {n : ByteArray} {l : List Tm} {A : Tm} (hk : k ≠ 0) (h : Ap ss (.mk k n v l) A) : aw ss (.mk k n v l) = 1 + aws ss l := by
  obtain ⟨L, rfl, hL⟩ := ap_con hk h
  rw [aw_eq h, tsz, aws_eq hL]
theorem aw_walk {ss : List Tm} {t t' A : Tm} (h : WalkTo ss t t') (hA : Ap ss t A) : aw ss t' = aw ss t := by
  rw [aw_eq hA, aw_eq ((walk_le h (Le.refl _)).1 hA)]
theorem fine_ex {ss : List Tm} (h : Fine ss) {t : Tm} (ht : Wt ss.length t) : ∃ A, Ap ss t A := by
  obtain ⟨⟨rk, hac⟩, -⟩ := h
  exact hac.ex ht
theorem aw_pos {ss : List Tm} (h : Fine ss) {t : Tm} (ht : Wt ss.length t) : 1 ≤ aw ss t := by
  obtain ⟨A, hA⟩ := fine_ex h ht
  rw [aw_eq hA]; exact tsz_pos A

def nunf : Nat → List Tm → Nat
  | _, [] => 0
  | i, u :: r => (if kof u = 0 ∧ vof u = i then 1 else 0) + nunf (i + 1) r
theorem nunf_le : ∀ (i : Nat) (l : List Tm), nunf i l ≤ l.length
  | _, [] => Nat.le_refl _
  | i, u :: r => by
    have := nunf_le (i + 1) r
    rw [nunf, List.length_cons]
    split <;> omega
theorem nunf_set : ∀ (l : List Tm) (i j : Nat) (u t : Tm), l[j]? = some u → (kof u = 0 ∧ vof u = ((i + j : Nat) : Int)) → ¬ (kof t = 0 ∧ vof t = ((i + j : Nat) : Int)) → nunf i (l.set j t) < nunf i l
  | [], i, j, u, t, h, _, _ => by simp at h
  | a :: r, i, 0, u, t, h, hu, ht => by
    simp at h; subst h
    rw [Nat.add_zero] at hu ht
    rw [List.set_cons_zero, nunf, nunf, if_pos hu, if_neg ht]
    omega
  | a :: r, i, j + 1, u, t, h, hu, ht => by
    have := nunf_set r (i + 1) j u t (by simpa using h) (by rw [show i + 1 + j = i + (j + 1) by omega]; exact hu) (by rw [show i + 1 + j = i + (j + 1) by omega]; exact ht)
    rw [List.set_cons_succ, nunf, nunf]
    omega
def mu (ss : List Tm) : Nat := (4098 - ss.length) * 5000 + nunf 0 ss
/-- Nothing is changed, or the measure falls. -/
def Pg (ss ss' : List Tm) : Prop := ss' = ss ∨ mu ss' < mu ss
theorem Pg.trans {a b c : List Tm} (h : Pg a b) (h2 : Pg b c) : Pg a c := by
  rcases h with rfl | h
  · exact h2
  · rcases h2 with rfl | h2
    · exact Or.inr h
    · exact Or.inr (by omega)
theorem mu_len {ss ss' : List Tm} (h : ss.length < ss'.length) (h2 : ss'.length ≤ 4098) : mu ss' < mu ss := by
  have := nunf_le 0 ss'
  unfold mu
  have : (4098 - ss'.length) + 1 ≤ 4098 - ss.length := by omega
  have := Nat.mul_le_mul_right 5000 this
  omega
theorem bd_pg {ss ss' : List Tm} {i : Nat} {t : Tm} {e : Int} (hs : Self ss i) (h : BdR ss i t e ss') : Pg ss ss' := by
  rcases h with ⟨-, -, -, rfl⟩ | ⟨-, -, -, rfl⟩ | ⟨hn, -, -, rfl⟩
  · exact Or.inl rfl
  · exact Or.inl rfl
  · refine Or.inr ?_
    obtain ⟨u, h1, h2, h3⟩ := hs
    have := nunf_set ss 0 i u t h1 (by rw [Nat.zero_add]; exact ⟨h2, h3⟩) (by rw [Nat.zero_add]; exact hn)
    unfold mu
    rw [List.length_set]
    omega
theorem ex_pg {l : ByteArray} {z : Int} {ss ss' : List Tm} {r t q : Tm} {e : Int} (hl : ss.length ≤ 4096) (h : ExR l z ss r e t q ss') : Pg ss ss' := by
  induction h with
  | cyc => exact Or.inl rfl
  | large r i hw hz hl' => exact Or.inr (mu_len (by rw [two_len]; omega) (by rw [two_len]; omega))
  | new r i hw hz hl' => exact Or.inr (mu_len (by rw [grow_len]; omega) (by rw [grow_len]; omega))
  | stop => exact Or.inl rfl
  | here => exact Or.inl rfl
  | there r m v x y e t q ss' hw hm h ih => exact ih
theorem un_pg {ss ss' : List Tm} {j : Jb} {e : Int} (h : Un ss j e ss') : Fine ss → ss.length ≤ 4096 → JWt ss.length j → Pg ss ss' := by
  induction h with
  | bl ss a b b' i e ss' wa wb h => exact fun _ _ _ => bd_pg (walk_var wa) h
  | br ss a b a' i e ss' wa ha wb h => exact fun _ _ _ => bd_pg (walk_var wb) h
  | row ss a b b' n v x y e ss' wa wb hb h ih =>
    intro hf hl hj
    have := row_wt (fine_walk hf wa hj.1)
    exact ih hf hl ⟨this.1, this.2, fine_walk hf wb hj.2⟩
  | bad => exact fun _ _ _ => Or.inl rfl
  | args ss a b k n n' v v' l l' e ss' wa wb hk hr hn hl' h ih =>
    intro hf hl hj
    exact ih hf hl ⟨fun a ha => wt_arg (fine_walk hf wa hj.1) ha, fun a ha => wt_arg (fine_walk hf wb hj.2) ha⟩
  | nil => exact fun _ _ _ => Or.inl rfl
  | ok ss ss1 ss2 a b l m e h hs ih1 ih2 =>
    intro hf hl hj
    have hj1 : JWt ss.length (.un a b) := ⟨hj.1 a (by simp), hj.2 b (by simp)⟩
    obtain ⟨h1, h2, h3⟩ := un_fine h hf hl hj1
    exact (ih1 hf hl hj1).trans (ih2 h1 (h3 rfl) (jwt_le h2 (j := .us l m) ⟨fun a ha => hj.1 a (by simp [ha]), fun a ha => hj.2 a (by simp [ha])⟩))
  | fail ss ss1 a b l m e h he hl' ih => intro hf hl hj; exact ih hf hl ⟨hj.1 a (by simp), hj.2 b (by simp)⟩
  | exf ss ss1 n v x y b t q z e ht h he => exact fun _ hl _ => ex_pg hl h
  | hdf ss ss1 ss2 n v x y b t q z e ht h h1 he ih =>
    intro hf hl hj
    obtain ⟨g1, g2, g3⟩ := ex_fine hf hl h hj.2.2
    exact (ex_pg hl h).trans (ih g1 (g3 rfl).1 ⟨wt_le g2 _ hj.1, (g3 rfl).2.1⟩)
  | rok ss ss1 ss2 ss3 n v x y b t q z e ht h h1 h2 ih1 ih2 =>
    intro hf hl hj
    obtain ⟨g1, g2, g3⟩ := ex_fine hf hl h hj.2.2
    have hj1 : JWt ss1.length (.un x t) := ⟨wt_le g2 _ hj.1, (g3 rfl).2.1⟩
    obtain ⟨g4, g5, g6⟩ := un_fine h1 g1 (g3 rfl).1 hj1
    exact ((ex_pg hl h).trans (ih1 g1 (g3 rfl).1 hj1)).trans (ih2 g4 (g6 rfl) ⟨wt_le (by omega) _ hj.2.1, wt_le g5 _ (g3 rfl).2.2⟩)

theorem wt_two {N : Nat} {n : ByteArray} {v : Int} {l : List Tm} (h : Wt N (.mk 5 n v l)) : ∃ x y, l = [x, y] := by
  rw [Wt] at h
  exact two_of (h.2.2.2.2.2.2.2.1 rfl)
theorem walk_ex {ss : List Tm} (hf : Fine ss) {t : Tm} (ht : Wt ss.length t) : ∃ t', WalkTo ss t t' ∧ Wt ss.length t' ∧ aw ss t' = aw ss t := by
  obtain ⟨A, hA⟩ := fine_ex hf ht
  obtain ⟨t', h1, h2, h3⟩ := walk_ap hA
  exact ⟨t', h1, fine_walk hf h1 ht, aw_walk h1 hA⟩
theorem aw_row {ss : List Tm} (hf : Fine ss) {n : ByteArray} {v : Int} {x y : Tm} (h : Wt ss.length (.mk 5 n v [x, y])) : aw ss (.mk 5 n v [x, y]) = 1 + (aw ss x + aw ss y) := by
  obtain ⟨A, hA⟩ := fine_ex hf h
  rw [aw_con (by decide) hA]
  simp [aws]
theorem tle_ex {ss : List Tm} (hf : Fine ss) : ∀ (N : Nat) (t : Tm), aw ss t ≤ N → Wt ss.length t → kof t ≠ 0 ∨ (∃ i, t = vtm i) → ∃ z, TlE ss t z := by
  intro N
  induction N with
  | zero => intro t h hw; have := aw_pos hf hw; omega
  | succ N ih =>
    intro t h hw hk
    by_cases h0 : kof t = 0
    · exact ⟨_, .var t h0⟩
    · by_cases h5 : kof t = 5
      · obtain ⟨k, n, v, l⟩ := t
        rw [kof_mk] at h5; subst h5
        obtain ⟨x, y, rfl⟩ := wt_two hw
        have hxy := row_wt hw
        have ha := aw_row hf hw
        obtain ⟨y', hy1, hy2, hy3⟩ := walk_ex hf hxy.2
        obtain ⟨z, hz⟩ := ih y' (by omega) hy2 (by
          by_cases hy0 : kof y' = 0
          · obtain ⟨i, -, rfl⟩ := wt_var hy2 hy0; exact Or.inr ⟨i, rfl⟩
          · exact Or.inl hy0)
        exact ⟨z, .row n v x y y' z hy1 hz⟩
      · exact ⟨_, .stop t h0 h5⟩
theorem exr_ex {ss : List Tm} (hf : Fine ss) (l : ByteArray) (z : Int) : ∀ (N : Nat) (r : Tm), aw ss r ≤ N → Wt ss.length r → ∃ e t q ss', ExR l z ss r e t q ss' ∧ (e = 0 → ss' = ss → aw ss t + aw ss q + 1 = aw ss r) := by
  intro N
  induction N with
  | zero => intro t h hw; have := aw_pos hf hw; omega
  | succ N ih =>
    intro r h hw
    obtain ⟨r', hr1, hr2, hr3⟩ := walk_ex hf hw
    by_cases h0 : kof r' = 0
    · obtain ⟨i, -, rfl⟩ := wt_var hr2 h0
      by_cases hz : (i : Int) = z
      · exact ⟨_, _, _, _, .cyc r i hr1 hz, fun h => by cases h⟩
      · by_cases hl : ss.length + 2 ≤ 4096
        · exact ⟨_, _, _, _, .new r i hr1 hz hl, fun _ h => by have := congrArg List.length h; rw [grow_len] at this; omega⟩
        · exact ⟨_, _, _, _, .large r i hr1 hz (by omega), fun h => by cases h⟩
    · by_cases h5 : kof r' = 5
      · obtain ⟨k, m, v, l'⟩ := r'
        rw [kof_mk] at h5; subst h5
        obtain ⟨x, y, rfl⟩ := wt_two hr2
        have hxy := row_wt hr2
        have ha := aw_row hf hr2
        cases hm : (m.toList == l.toList)
        · obtain ⟨e, t, q, ss', h1, h2⟩ := ih y (by omega) hxy.2
          refine ⟨e, t, _, ss', .there r m v x y e t q ss' hr1 hm h1, fun he hs => ?_⟩
          have h3 := h2 he hs
          subst hs
          obtain ⟨X, hX⟩ := fine_ex hf hxy.1
          obtain ⟨Y, hY⟩ := fine_ex hf hxy.2
          obtain ⟨T, Q, hT, hQ, -⟩ := ex_snd h1 he _ (Le.refl _) Y hY
          have h4 := aw_con (by decide) (row_ap m 0 hX hQ)
          simp only [aws, List.map_cons, List.map_nil, List.sum_cons, List.sum_nil] at h4
          omega
        · exact ⟨_, _, _, _, .here r m v x y hr1 hm, fun _ _ => by omega⟩
      · exact ⟨_, _, _, _, .stop r r' hr1 h0 h5, fun h => by cases h⟩
theorem bd_ex (ss : List Tm) (i : Nat) (t : Tm) : ∃ e ss', BdR ss i t e ss' := by
  by_cases h : kof t = 0 ∧ vof t = i
  · exact ⟨_, _, Or.inl ⟨h.1, h.2, rfl, rfl⟩⟩
  · by_cases ho : OC ss i t
    · exact ⟨_, _, Or.inr (Or.inl ⟨h, ho, rfl, rfl⟩)⟩
    · exact ⟨_, _, Or.inr (Or.inr ⟨h, ho, rfl, rfl⟩)⟩

/-- Lists of the same length. -/
def JLn : Jb → Prop
  | .us l m => l.length = m.length
  | _ => True
noncomputable def jw (ss : List Tm) : Jb → Nat
  | .un a b => 2 * (aw ss a + aw ss b) + 1
  | .us l m => 2 * (aws ss l + aws ss m) + 2
  | .rw _ _ x y b => 2 * (aw ss x + aw ss y + aw ss b) + 2

theorem un_ex1 {ss : List Tm} (hf : Fine ss) (hl : ss.length ≤ 4096) (H : ∀ ss1 j1, mu ss1 < mu ss → Fine ss1 → ss1.length ≤ 4096 → JWt ss1.length j1 → JLn j1 → ∃ e ss', Un ss1 j1 e ss') :
    ∀ (N : Nat) (j : Jb), jw ss j ≤ N → JWt ss.length j → JLn j → ∃ e ss', Un ss j e ss' := by
  intro N
  induction N with
  | zero => intro j h; cases j <;> simp [jw] at h
  | succ N ih =>
    intro j h hj hn
    have step : ∀ {ss1 : List Tm} {j1 : Jb}, Pg ss ss1 → Fine ss1 → ss1.length ≤ 4096 → JWt ss1.length j1 → JLn j1 → (ss1 = ss → jw ss j1 ≤ N) → ∃ e ss', Un ss1 j1 e ss' := by
      intro ss1 j1 hp hf1 hl1 hj1 hn1 hw
      rcases hp with rfl | hp
      · exact ih j1 (hw rfl) hj1 hn1
      · exact H ss1 j1 hp hf1 hl1 hj1 hn1
    cases j with
    | un a b =>
      simp only [jw] at h
      obtain ⟨a', wa, wa', ha⟩ := walk_ex hf hj.1
      obtain ⟨b', wb, wb', hb⟩ := walk_ex hf hj.2
      by_cases a0 : kof a' = 0
      · obtain ⟨i, -, rfl⟩ := wt_var wa' a0
        obtain ⟨e, ss', hbd⟩ := bd_ex ss i b'
        exact ⟨e, ss', .bl ss a b b' i e ss' wa wb hbd⟩
      by_cases b0 : kof b' = 0
      · obtain ⟨i, -, rfl⟩ := wt_var wb' b0
        obtain ⟨e, ss', hbd⟩ := bd_ex ss i a'
        exact ⟨e, ss', .br ss a b a' i e ss' wa a0 wb hbd⟩
      by_cases hr : kof a' = 5 ∧ 4 ≤ kof b'
      · obtain ⟨k, n, v, l⟩ := a'
        rw [kof_mk] at hr
        obtain ⟨rfl, hr⟩ := hr
        obtain ⟨x, y, rfl⟩ := wt_two wa'
        have hxy := row_wt wa'
        have har := aw_row hf wa'
        obtain ⟨e, ss', hu⟩ := ih (.rw n v x y b') (by simp only [jw]; omega) ⟨hxy.1, hxy.2, wb'⟩ trivial
        exact ⟨e, ss', .row ss a b b' n v x y e ss' wa wb hr hu⟩
      by_cases hne : kof a' ≠ kof b' ∨ ((nof a').toList == (nof b').toList) = false ∨ (lof a').length ≠ (lof b').length
      · exact ⟨_, _, .bad ss a b a' b' wa wb a0 b0 hr hne⟩
      · obtain ⟨k, n, v, l⟩ := a'
        obtain ⟨k', n', v', l'⟩ := b'
        simp only [kof, nof, lof, not_or, Classical.not_not, Bool.not_eq_false] at hne a0 b0 hr
        obtain ⟨rfl, h2, h3⟩ := hne
        obtain ⟨A, hA⟩ := fine_ex hf wa'
        obtain ⟨B, hB⟩ := fine_ex hf wb'
        have g1 := aw_con a0 hA
        have g2 := aw_con a0 hB
        obtain ⟨e, ss', hu⟩ := ih (.us l l') (by simp only [jw]; omega) ⟨fun a ha => wt_arg wa' ha, fun a ha => wt_arg wb' ha⟩ h3
        exact ⟨e, ss', .args ss a b k n n' v v' l l' e ss' wa wb a0 (fun h5 => hr ⟨h5, by omega⟩) h2 h3 hu⟩
    | us l m =>
      cases l with
      | nil =>
        cases m with
        | nil => exact ⟨_, _, .nil ss⟩
        | cons b m => simp [JLn] at hn
      | cons a l =>
        cases m with
        | nil => simp [JLn] at hn
        | cons b m =>
          simp only [jw, aws_cons] at h
          have hn' : l.length = m.length := by simpa [JLn] using hn
          have hj1 : JWt ss.length (.un a b) := ⟨hj.1 a (by simp), hj.2 b (by simp)⟩
          have pa := aw_pos hf hj1.1
          have pb := aw_pos hf hj1.2
          obtain ⟨e, ss1, h1⟩ := ih (.un a b) (by simp only [jw]; omega) hj1 trivial
          by_cases he : e = 0
          · subst he
            obtain ⟨f1, f2, f3⟩ := un_fine h1 hf hl hj1
            obtain ⟨e2, ss2, h2⟩ := step (j1 := .us l m) (un_pg h1 hf hl hj1) f1 (f3 rfl) (jwt_le f2 (j := .us l m) ⟨fun a ha => hj.1 a (by simp [ha]), fun a ha => hj.2 a (by simp [ha])⟩) hn' (fun _ => by simp only [jw]; omega)
            exact ⟨e2, ss2, .ok ss ss1 ss2 a b l m e2 h1 h2⟩
          · exact ⟨e, ss1, .fail ss ss1 a b l m e h1 he hn'⟩
    | rw n v x y b =>
      simp only [jw] at h
      have hv : ∃ z, TlE ss (.mk 5 n v [x, y]) z := by
        obtain ⟨y', hy1, hy2, hy3⟩ := walk_ex hf hj.2.1
        obtain ⟨z, hz⟩ := tle_ex hf _ y' (Nat.le_refl _) hy2 (by
          by_cases hy0 : kof y' = 0
          · obtain ⟨i, -, rfl⟩ := wt_var hy2 hy0; exact Or.inr ⟨i, rfl⟩
          · exact Or.inl hy0)
        exact ⟨z, .row n v x y y' z hy1 hz⟩
      obtain ⟨z, hz⟩ := hv
      obtain ⟨e, t, q, ss1, hx, hxw⟩ := exr_ex hf n z _ b (Nat.le_refl _) hj.2.2
      by_cases he : e = 0
      · subst he
        obtain ⟨g1, g2, g3⟩ := ex_fine hf hl hx hj.2.2
        have hj1 : JWt ss1.length (.un x t) := ⟨wt_le g2 _ hj.1, (g3 rfl).2.1⟩
        have p1 := ex_pg hl hx
        obtain ⟨e1, ss2, h1⟩ := step (j1 := .un x t) p1 g1 (g3 rfl).1 hj1 trivial (fun hs => by have := hxw rfl hs; simp only [jw]; omega)
        by_cases he1 : e1 = 0
        · subst he1
          obtain ⟨g4, g5, g6⟩ := un_fine h1 g1 (g3 rfl).1 hj1
          have p2 := un_pg h1 g1 (g3 rfl).1 hj1
          obtain ⟨e2, ss3, h2⟩ := step (j1 := .un y q) (p1.trans p2) g4 (g6 rfl) ⟨wt_le (by omega) _ hj.2.1, wt_le g5 _ (g3 rfl).2.2⟩ trivial (fun hs => by
            have hs1 : ss1 = ss := by
              rcases p1 with h | h
              · exact h
              · rcases p2 with h2 | h2
                · rw [h2] at hs; exact hs
                · rw [hs] at h2; omega
            have := hxw rfl hs1
            simp only [jw]; omega)
          exact ⟨e2, ss3, .rok ss ss1 ss2 ss3 n v x y b t q z e2 hz hx h1 h2⟩
        · exact ⟨e1, ss2, .hdf ss ss1 ss2 n v x y b t q z e1 hz hx h1 he1⟩
      · exact ⟨e, ss1, .exf ss ss1 n v x y b t q z e hz hx he⟩

theorem un_ex : ∀ (N : Nat) (ss : List Tm) (j : Jb), mu ss ≤ N → Fine ss → ss.length ≤ 4096 → JWt ss.length j → JLn j → ∃ e ss', Un ss j e ss' := by
  intro N
  induction N with
  | zero => intro ss j hm hf hl hj hn; exact un_ex1 hf hl (fun ss1 j1 h => by omega) _ j (Nat.le_refl _) hj hn
  | succ N ih => intro ss j hm hf hl hj hn; exact un_ex1 hf hl (fun ss1 j1 h => ih ss1 j1 (by omega)) _ j (Nat.le_refl _) hj hn
/-- Two types have a run. -/
theorem un_run {ss : List Tm} (hf : Fine ss) (hl : ss.length ≤ 4096) {a b : Tm} (ha : Wt ss.length a) (hb : Wt ss.length b) : ∃ e ss', Un ss (.un a b) e ss' :=
  un_ex _ ss (.un a b) (Nat.le_refl _) hf hl ⟨ha, hb⟩ trivial
end Go.Am.U1
