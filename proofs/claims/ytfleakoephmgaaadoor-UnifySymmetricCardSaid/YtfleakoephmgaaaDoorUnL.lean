/- A part of the proof of unifySymmetric. Conditions: none. -/
import Derived.Test.YtfleakoephmgaaaDoorUnJ
import Derived.Test.YtfleakoephmgaaaDoorAmWa
import Derived.Test.YtfleakoephmgaaaDoorAmSo
import Derived.Shelf.Abstract
set_option linter.unusedSimpArgs false
set_option linter.unusedVariables false
namespace Go.Am.U1
open Go.Am.Un
set_option maxRecDepth 100000
set_option linter.unusedSimpArgs false
attribute [local go_sem] wseq COp.isStore wreg wdreg wret wskip wexit wblock wcnd cnd_t cnd_f then_n then_x then_r catch_n rnd_n rnd_x rnd_r catch_x catch_r wo_nil wo_grd grdO_t grdO_f wo_ops stpO wr_nil wr_alloc wr_guards grdR_t grdR_f wr_ops stpR evAllocs evOp env0_app eput_some eput_none eset_app Opd.ev wantedA faddrA snew_obj snew_size sput_obj sput_size av_cells av_one av_strip av_still unA eqbA fillA fldA lensA mmA mm2 mmFold List.getD_cons_zero List.getD_cons_succ List.getD_nil List.length_cons List.length_nil List.drop_zero List.drop_succ_cons List.take_succ_cons List.take_zero List.map_cons List.map_nil List.set_cons_zero List.set_cons_succ List.all_cons List.all_nil List.getElem?_cons_zero List.getElem?_cons_succ List.nil_append List.cons_append Nat.zero_add Nat.add_zero beq_self_eq_true bt bf Bool.not_true Bool.not_false Bool.and_true Bool.true_and Bool.and_false Bool.false_and and_self and_true true_and n0 n1 n2 n3 n4 m0 m1 m2 m3 c1 retA resAs resA undefA Option.map_some Option.map_none
variable {X : Ext}

theorem kof_mk (k : Int) (n : ByteArray) (v : Int) (l : List Tm) : kof (.mk k n v l) = k := rfl
theorem nof_mk (k : Int) (n : ByteArray) (v : Int) (l : List Tm) : nof (.mk k n v l) = n := rfl
theorem vof_mk (k : Int) (n : ByteArray) (v : Int) (l : List Tm) : vof (.mk k n v l) = v := rfl
theorem lof_mk (k : Int) (n : ByteArray) (v : Int) (l : List Tm) : lof (.mk k n v l) = l := rfl

end Go.Am.U1

/- The normal form of a type: its rows sorted by label. Conditions: none. -/
namespace Go.Am
namespace Un
open Go.So

abbrev Lb := ByteArray × Tm
def ltB (x y : ByteArray) : Bool := Op.bytesLess x.toList y.toList
def ltL (x y : Lb) : Bool := ltB x.1 y.1

theorem bl_asym : ∀ (a b : List UInt8), Op.bytesLess a b = true → Op.bytesLess b a = false
  | [], [], h => by simp [Op.bytesLess] at h
  | [], _ :: _, _ => by simp [Op.bytesLess]
  | _ :: _, [], h => by simp [Op.bytesLess] at h
  | x :: a, y :: b, h => by
    have ih := bl_asym a b
    simp only [Op.bytesLess, Bool.or_eq_true, Bool.and_eq_true, decide_eq_true_eq, beq_iff_eq] at h
    simp only [Op.bytesLess, Bool.or_eq_false_iff, Bool.and_eq_false_iff, decide_eq_false_iff_not, beq_eq_false_iff_ne]
    rcases h with h | ⟨rfl, h⟩
    · exact ⟨fun h2 => by simp only [UInt8.lt_iff_toNat_lt] at h h2; omega, Or.inl fun h2 => by subst h2; simp [UInt8.lt_iff_toNat_lt] at h⟩
    · exact ⟨by simp [UInt8.lt_iff_toNat_lt], Or.inr (ih h)⟩
theorem bl_trans : ∀ (a b c : List UInt8), Op.bytesLess b a = false → Op.bytesLess c b = false → Op.bytesLess c a = false
  | [], _, [], _, _ => by simp [Op.bytesLess]
  | _ :: _, [], _, h, _ => by simp [Op.bytesLess] at h
  | [], [], _ :: _, _, _ => by simp [Op.bytesLess]
  | [], _ :: _, _ :: _, _, _ => by simp [Op.bytesLess]
  | _ :: _, _ :: _, [], _, h => by simp [Op.bytesLess] at h
  | x :: a, y :: b, z :: c, h1, h2 => by
    have ih := bl_trans a b c
    simp only [Op.bytesLess, Bool.or_eq_false_iff, Bool.and_eq_false_iff, decide_eq_false_iff_not, beq_eq_false_iff_ne, UInt8.lt_iff_toNat_lt] at h1 h2 ⊢
    refine ⟨by omega, ?_⟩
    by_cases hxz : z = x
    · right
      subst hxz
      by_cases hyz : y = z
      · subst hyz
        rcases h1.2 with h | h
        · exact absurd rfl h
        rcases h2.2 with h' | h'
        · exact absurd rfl h'
        exact ih h h'
      · exfalso
        apply hyz
        apply UInt8.toNat_inj.1
        omega
    · exact Or.inl hxz
theorem ltL_ord : Ord ltL := ⟨fun a b h => bl_asym _ _ h, fun a b c h1 h2 => bl_trans _ _ _ h1 h2⟩
theorem ltB_irr (x : ByteArray) : ltB x x = false := ltL_ord.irr (x, .mk 0 x 0 [])

/-- A label more, in its place in a sorted row: ahead of those that are equal. -/
def insL (n : ByteArray) (a : Tm) : Tm → Tm
  | .mk k m v [b, r] => if k = 5 ∧ ltB m n = true then .mk 5 m v [b, insL n a r] else .mk 5 n 0 [a, .mk k m v [b, r]]
  | t => .mk 5 n 0 [a, t]
theorem insL_end {n : ByteArray} {a e : Tm} (h : kof e ≠ 5) : insL n a e = .mk 5 n 0 [a, e] := by
  match e, h with
  | .mk k m v [b, r], h => rw [insL, if_neg fun hh => h hh.1]
  | .mk k m v [], _ => rw [insL]; simp
  | .mk k m v [_], _ => rw [insL]; simp
  | .mk k m v (_ :: _ :: _ :: _), _ => rw [insL]; simp

mutual
def nf : Tm → Tm
  | .mk k n v l => if k = 5 then (match nfs l with
    | [a, r] => insL n a r
    | l' => .mk 5 n 0 l') else .mk k n v (nfs l)
def nfs : List Tm → List Tm
  | [] => []
  | t :: r => nf t :: nfs r
end
theorem nfs_map : ∀ l : List Tm, nfs l = l.map nf
  | [] => by rw [nfs]; rfl
  | t :: r => by rw [nfs, nfs_map r]; rfl
theorem nf_ext (n : ByteArray) (v : Int) (a r : Tm) : nf (.mk 5 n v [a, r]) = insL n (nf a) (nf r) := by
  rw [nf, if_pos rfl, nfs, nfs, nfs]
theorem nf_oth {t : Tm} (h : kof t ≠ 5) : nf t = .mk (kof t) (nof t) (vof t) ((lof t).map nf) := by
  obtain ⟨k, n, v, l⟩ := t
  rw [nf, if_neg (show ¬ k = 5 from h), nfs_map]; rfl

def bld : List Lb → Tm → Tm
  | [], t => t
  | x :: r, t => .mk 5 x.1 0 [x.2, bld r t]

/-- A row's labels, and its end. -/
inductive Spn : Tm → List Lb → Tm → Prop
  | nil (t : Tm) (h : kof t ≠ 5) : Spn t [] t
  | cons (n : ByteArray) (v : Int) (a r : Tm) (L : List Lb) (e : Tm) (h : Spn r L e) : Spn (.mk 5 n v [a, r]) ((n, a) :: L) e

theorem spn_end {t : Tm} {L : List Lb} {e : Tm} (h : Spn t L e) : kof e ≠ 5 := by
  induction h with
  | nil t h => exact h
  | cons n v a r L e h ih => exact ih
theorem spn_bld : ∀ (L : List Lb) {e : Tm}, kof e ≠ 5 → Spn (bld L e) L e
  | [], e, h => .nil e h
  | x :: L, e, h => .cons _ _ _ _ _ _ (spn_bld L h)
theorem two_of {l : List Tm} (h : l.length = 2) : ∃ a r, l = [a, r] := by
  match l, h with
  | [a, r], _ => exact ⟨a, r, rfl⟩
theorem spn_of : ∀ (n : Nat) (t : Tm), tsz t ≤ n → Val t → ∃ L e, Spn t L e := by
  intro n
  induction n with
  | zero => intro t h; cases t; rw [tsz] at h; omega
  | succ n ih =>
    rintro ⟨k, m, v, l⟩ h hv
    by_cases hk : k = 5
    · subst hk
      rw [Val] at hv
      obtain ⟨-, -, -, -, -, -, h5, hvs⟩ := hv
      obtain ⟨a, r, rfl⟩ := two_of (h5 rfl)
      rw [tsz, tszs, tszs, tszs] at h
      obtain ⟨L, e, hs⟩ := ih r (by omega) (vals_at hvs (i := 1) rfl)
      exact ⟨_, _, .cons m v a r L e hs⟩
    · exact ⟨[], _, .nil _ hk⟩

theorem insL_bld (n : ByteArray) (a : Tm) : ∀ (L : List Lb) {e : Tm}, kof e ≠ 5 → insL n a (bld L e) = bld (ins ltL (n, a) L) e
  | [], e, he => by
    rw [bld, insL_end he, ins]; rfl
  | x :: L, e, he => by
    rw [bld, Un.insL, Go.So.ins]
    cases h : ltL x (n, a)
    · have h' : ltB x.1 n = false := h
      rw [if_neg (by simp [h'])]
      rfl
    · have h' : ltB x.1 n = true := h
      rw [if_pos ⟨rfl, h'⟩]
      simp only [insL_bld n a L he]
      rfl

def nfl (x : Lb) : Lb := (x.1, nf x.2)
theorem nf_end {e : Tm} (h : kof e ≠ 5) : kof (nf e) ≠ 5 := by rw [nf_oth h]; exact h
theorem nf_spn {t : Tm} {L : List Lb} {e : Tm} (h : Spn t L e) : nf t = bld (isort ltL (L.map nfl)) (nf e) := by
  induction h with
  | nil t h => rfl
  | cons n v a r L e h ih => rw [nf_ext, ih, insL_bld _ _ _ (nf_end (spn_end h))]; rfl

theorem spn_mem {t : Tm} {L : List Lb} {e : Tm} (h : Spn t L e) : (∀ x, x ∈ L → tsz x.2 < tsz t ∧ (Val t → Val x.2)) ∧ tsz e ≤ tsz t ∧ (Val t → Val e) := by
  induction h with
  | nil t h => exact ⟨(fun x hx => nomatch hx), Nat.le_refl _, id⟩
  | cons n v a r L e h ih =>
    obtain ⟨h1, h2, h3⟩ := ih
    have hs : tsz (.mk 5 n v [a, r]) = 1 + (tsz a + (tsz r + 0)) := by rw [tsz, tszs, tszs, tszs]
    have hva : Val (.mk 5 n v [a, r]) → Val a ∧ Val r := fun hv => by
      rw [Val] at hv
      exact ⟨vals_at hv.2.2.2.2.2.2.2 (i := 0) rfl, vals_at hv.2.2.2.2.2.2.2 (i := 1) rfl⟩
    refine ⟨fun x hx => ?_, by omega, fun hv => h3 (hva hv).2⟩
    rcases List.mem_cons.1 hx with rfl | hx
    · exact ⟨by show tsz a < _; omega, fun hv => (hva hv).1⟩
    · obtain ⟨h4, h5⟩ := h1 x hx
      exact ⟨by omega, fun hv => h5 (hva hv).2⟩
theorem val_arg {t a : Tm} (hv : Val t) (h : a ∈ lof t) : Val a := by
  obtain ⟨k, n, v, l⟩ := t
  rw [Val] at hv
  obtain ⟨i, hi⟩ := List.getElem?_of_mem h
  exact vals_at hv.2.2.2.2.2.2.2 hi
theorem tsz_mem {t a : Tm} (h : a ∈ lof t) : tsz a < tsz t := by
  obtain ⟨k, n, v, l⟩ := t
  obtain ⟨i, hi⟩ := List.getElem?_of_mem h
  have := tsz_at hi
  simp only [lof] at this
  rw [tsz]
  omega

theorem nf_idem : ∀ (n : Nat) (t : Tm), tsz t ≤ n → Val t → nf (nf t) = nf t := by
  intro n
  induction n with
  | zero => intro t h; cases t; rw [tsz] at h; omega
  | succ n ih =>
    intro t h hv
    obtain ⟨L, e, hs⟩ := spn_of _ t (Nat.le_refl _) hv
    obtain ⟨h1, h2, h3⟩ := spn_mem hs
    have he := spn_end hs
    have hee : nf (nf e) = nf e := by
      have h4 := nf_oth he
      have h5 := nf_oth (nf_end he)
      rw [h5, h4]
      simp only [kof, nof, vof, lof, List.map_map]
      congr 1
      refine List.map_congr_left fun a ha => ih a ?_ (val_arg (h3 hv) ha)
      have := tsz_mem ha
      omega
    have hs2 := spn_bld (isort ltL (L.map nfl)) (nf_end he)
    have h6 := nf_spn hs
    have h7 := nf_spn hs2
    rw [← h6] at h7
    rw [h7, hee]
    have hm : (isort ltL (L.map nfl)).map nfl = isort ltL (L.map nfl) := by
      have : ∀ x, x ∈ isort ltL (L.map nfl) → nfl x = x := fun x hx => by
        rw [isort_mem] at hx
        obtain ⟨y, hy, rfl⟩ := List.mem_map.1 hx
        obtain ⟨h8, h9⟩ := h1 y hy
        show (y.1, nf (nf y.2)) = (y.1, nf y.2)
        rw [ih y.2 (by omega) (h9 hv)]
      rw [List.map_congr_left this]
      simp
    rw [hm, isort_idem ltL_ord, ← h6]

/-! ### Sorted rows -/
def top2 (n : ByteArray) : List Tm → Bool
  | [_, r] => kof r == 5 && ltB (nof r) n
  | _ => false
mutual
def srtd : Tm → Bool
  | .mk k n _ l => !(k == 5 && top2 n l) && srtds l
def srtds : List Tm → Bool
  | [] => true
  | t :: r => srtd t && srtds r
end
/-! ### Variables -/
mutual
def Occ (x : Int) : Tm → Prop
  | .mk k _ v l => if k = 0 then v = x else Occs x l
def Occs (x : Int) : List Tm → Prop
  | [] => False
  | t :: r => Occ x t ∨ Occs x r
end
theorem occs_iff (x : Int) : ∀ l : List Tm, Occs x l ↔ ∃ a, a ∈ l ∧ Occ x a
  | [] => by simp [Occs]
  | t :: r => by rw [Occs, occs_iff x r]; simp
theorem adds_mem : ∀ (f out : List Int) (x : Int), x ∈ adds out f ↔ x ∈ out ∨ x ∈ f
  | [], out, x => by rw [adds]; simp
  | v :: r, out, x => by
    rw [adds, adds_mem r]
    split
    · rename_i h
      have h' : v ∈ out := by simpa using h
      constructor
      · rintro (h1 | h1)
        · exact Or.inl h1
        · exact Or.inr (by simp [h1])
      · rintro (h1 | h1)
        · exact Or.inl h1
        · rcases List.mem_cons.1 h1 with rfl | h1
          · exact Or.inl h'
          · exact Or.inr h1
    · simp only [List.mem_append, List.mem_cons, List.not_mem_nil, or_false]
      constructor
      · rintro ((h1 | h1) | h1)
        · exact Or.inl h1
        · exact Or.inr (Or.inl h1)
        · exact Or.inr (Or.inr h1)
      · rintro (h1 | h1 | h1)
        · exact Or.inl (Or.inl h1)
        · exact Or.inl (Or.inr h1)
        · exact Or.inr h1
theorem adds_nodup : ∀ (f out : List Int), out.Nodup → (adds out f).Nodup
  | [], out, h => by rw [adds]; exact h
  | v :: r, out, h => by
    rw [adds]
    refine adds_nodup r _ ?_
    split
    · exact h
    · rename_i hc
      have hc' : v ∉ out := by simpa using hc
      rw [List.nodup_append]
      exact ⟨h, by simp, fun a ha b hb => by simp at hb; subst hb; exact fun e => hc' (e ▸ ha)⟩
mutual
theorem fre_mem (x : Int) : ∀ t : Tm, x ∈ fre t ↔ Occ x t
  | .mk k n v l => by
    rw [fre, Occ]
    split
    · simp [eq_comm]
    · rw [fres_mem x l []]; simp
theorem fres_mem (x : Int) : ∀ (l : List Tm) (out : List Int), x ∈ fres out l ↔ x ∈ out ∨ Occs x l
  | [], out => by rw [fres, Occs]; simp
  | a :: r, out => by rw [fres, Occs, fres_mem x r, adds_mem, fre_mem x a, or_assoc]
end
mutual
theorem fre_nodup : ∀ t : Tm, (fre t).Nodup
  | .mk k n v l => by
    rw [fre]
    split
    · simp
    · exact fres_nodup l [] (by simp)
theorem fres_nodup : ∀ (l : List Tm) (out : List Int), out.Nodup → (fres out l).Nodup
  | [], out, h => by rw [fres]; exact h
  | a :: r, out, h => by rw [fres]; exact fres_nodup r _ (adds_nodup _ _ h)
end
theorem nodup_le {α : Type} [DecidableEq α] : ∀ (l m : List α), l.Nodup → (∀ x, x ∈ l → x ∈ m) → l.length ≤ m.length
  | [], m, _, _ => Nat.zero_le _
  | a :: l, m, h, hs => by
    have ha : a ∈ m := hs a (by simp)
    have ih := nodup_le l (m.erase a) (List.nodup_cons.1 h).2 fun x hx => by
      have hne : x ≠ a := fun e => (List.nodup_cons.1 h).1 (e ▸ hx)
      exact (List.mem_erase_of_ne hne).2 (hs x (by simp [hx]))
    rw [List.length_erase_of_mem ha] at ih
    have : 0 < m.length := List.length_pos_of_mem ha
    rw [List.length_cons]
    omega
theorem spn_occ (x : Int) {t : Tm} {L : List Lb} {e : Tm} (h : Spn t L e) : Occ x t ↔ (∃ y, y ∈ L ∧ Occ x y.2) ∨ Occ x e := by
  induction h with
  | nil t h => simp
  | cons n v a r L e h ih =>
    rw [Occ, if_neg (by decide), Occs, Occs, Occs, ih]
    simp only [or_false, List.mem_cons, exists_eq_or_imp, or_assoc]
theorem occ_oth (x : Int) {t : Tm} (h : kof t ≠ 0) : Occ x t ↔ ∃ a, a ∈ lof t ∧ Occ x a := by
  obtain ⟨k, n, v, l⟩ := t
  rw [Occ, if_neg (show ¬ k = 0 from h), occs_iff]; rfl
theorem occ_nf (x : Int) : ∀ (n : Nat) (t : Tm), tsz t ≤ n → Val t → (Occ x (nf t) ↔ Occ x t) := by
  intro n
  induction n with
  | zero => intro t h; cases t; rw [tsz] at h; omega
  | succ n ih =>
    intro t h hv
    obtain ⟨L, e, hs⟩ := spn_of _ t (Nat.le_refl _) hv
    obtain ⟨h1, h2, h3⟩ := spn_mem hs
    have he := spn_end hs
    rw [nf_spn hs, spn_occ x (spn_bld _ (nf_end he)), spn_occ x hs]
    have hl : (∃ y, y ∈ isort ltL (L.map nfl) ∧ Occ x y.2) ↔ ∃ y, y ∈ L ∧ Occ x y.2 := by
      constructor
      · rintro ⟨y, hy, ho⟩
        rw [isort_mem] at hy
        obtain ⟨z, hz, rfl⟩ := List.mem_map.1 hy
        obtain ⟨h8, h9⟩ := h1 z hz
        exact ⟨z, hz, (ih z.2 (by omega) (h9 hv)).1 ho⟩
      · rintro ⟨z, hz, ho⟩
        obtain ⟨h8, h9⟩ := h1 z hz
        exact ⟨nfl z, by rw [isort_mem]; exact List.mem_map_of_mem hz, (ih z.2 (by omega) (h9 hv)).2 ho⟩
    have hr : Occ x (nf e) ↔ Occ x e := by
      by_cases h0 : kof e = 0
      · rw [nf_oth he]
        obtain ⟨k, n, v, l⟩ := e
        simp only [kof] at h0
        subst h0
        simp [Occ, kof, nof, vof, lof]
      · have h0' : kof (nf e) ≠ 0 := by rw [nf_oth he]; exact h0
        rw [occ_oth x h0, occ_oth x h0', nf_oth he]
        simp only [lof]
        constructor
        · rintro ⟨a, ha, ho⟩
          obtain ⟨b, hb, rfl⟩ := List.mem_map.1 ha
          have := tsz_mem hb
          exact ⟨b, hb, (ih b (by omega) (val_arg (h3 hv) hb)).1 ho⟩
        · rintro ⟨b, hb, ho⟩
          have := tsz_mem hb
          exact ⟨nf b, List.mem_map_of_mem hb, (ih b (by omega) (val_arg (h3 hv) hb)).2 ho⟩
    rw [hl, hr]
/-! ### Equal types -/
mutual
def eqb : Tm → Tm → Bool
  | .mk k n v l, .mk k' n' v' l' => k == k' && n.toList == n'.toList && v == v' && eqbs l l'
def eqbs : List Tm → List Tm → Bool
  | [], [] => true
  | a :: l, b :: l' => eqb a b && eqbs l l'
  | _, _ => false
end
theorem bts_inj {a b : ByteArray} (h : a.toList = b.toList) : a = b := by
  rw [ByteArray.toList_eq, ByteArray.toList_eq] at h
  obtain ⟨⟨x⟩⟩ := a
  obtain ⟨⟨y⟩⟩ := b
  simp at h
  subst h
  rfl
mutual
theorem eqb_iff : ∀ a b : Tm, eqb a b = true ↔ a = b
  | .mk k n v l, .mk k' n' v' l' => by
    rw [eqb]
    simp only [Bool.and_eq_true, beq_iff_eq, eqbs_iff l l', Tm.mk.injEq]
    constructor
    · rintro ⟨⟨⟨h1, h2⟩, h3⟩, h4⟩; exact ⟨h1, bts_inj h2, h3, h4⟩
    · rintro ⟨h1, h2, h3, h4⟩; exact ⟨⟨⟨h1, by rw [h2]⟩, h3⟩, h4⟩
theorem eqbs_iff : ∀ a b : List Tm, eqbs a b = true ↔ a = b
  | [], [] => by simp [eqbs]
  | [], _ :: _ => by simp [eqbs]
  | _ :: _, [] => by simp [eqbs]
  | a :: l, b :: l' => by rw [eqbs]; simp [eqb_iff a b, eqbs_iff l l']
end
end Un
end Go.Am
