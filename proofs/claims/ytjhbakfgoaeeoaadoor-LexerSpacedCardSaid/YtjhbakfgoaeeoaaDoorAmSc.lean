/- LexerSpaced's walk. Conditions: none. -/
import Derived.Test.YtjhbakfgoaeeoaaDoorAmSb
import Derived.WalkKit
import Derived.WalkSpells
import Derived.Shelf.Strings.BuilderF
import Derived.Lib.OthersKept
import Derived.Shelf.Abstract
import Derived.Test.YtjhbakfgoaeeoaaDoorShelf
set_option linter.unusedSimpArgs false
set_option linter.unusedVariables false
namespace Go.Am.Y3
open Go.Am.L1 (bts_len Tk tkc tkP scanT scanW OkS big key)
open Go.Proofs Go.RowKit
set_option maxRecDepth 100000

def apb : ByteArray := ⟨#[97, 43, 98]⟩
theorem apb_bads : (scanW apb).2.1 = [] := List.eq_nil_of_length_eq_zero (by kernel_rfl)
theorem apb_len : (scanT apb).length = 4 := by kernel_rfl
theorem apb_ok : OkS apb := by
  refine ⟨by decide, fun i b hb => ?_⟩
  match i, hb with
  | 0, hb => cases hb; rfl
  | 1, hb => cases hb; rfl
  | 2, hb => cases hb; rfl
  | _ + 3, hb => cases hb

theorem bws (B b : Nat) (bs : List Value) (s : ByteArray) (w : World) (h : Lib.IsBuilderF 62 5 B b bs w) (hlen : bs.length + s.size ≤ 140737488355328) (hBw : B ≤ w.heap.size) :
    Calls Tryd.prog 27 #[.pointer (some ⟨b, 0, none⟩), .string s] w fun e w' => e = .returned (.tuple #[.int .i64 s.size, .nilIface]) ∧ (Lib.BuilderAtF 62 5 B b (.pointer (some ⟨b, 0, none⟩)) (bs ++ Lib.strCells s) w' ∧ Below B w w') :=
  Any.Builder_WriteString_f { Tryd.lays154 with } Tryd.Builder_Extra_154 B b bs s w h hlen hBw
theorem blen (B b : Nat) (bs : List Value) (w : World) (h : Lib.IsBuilderF 62 5 B b bs w) :
    Calls Tryd.prog 28 #[.pointer (some ⟨b, 0, none⟩)] w fun e w' => e = .returned (.int .i64 bs.length) ∧ w' = w := Any.Builder_Len_f Tryd.lays170 B b bs w h
theorem bstr (B b : Nat) (l : List UInt8) (w : World) (h : Lib.IsBuilderF 62 5 B b (Lib.byteCells l) w) (hBw : B ≤ w.heap.size) :
    Calls Tryd.prog 29 #[.pointer (some ⟨b, 0, none⟩)] w fun e w' => e = .returned (.string ⟨l.toArray⟩) ∧ (Lib.IsBuilderF 62 5 B b (Lib.byteCells l) w' ∧ Below B w w') := Any.Builder_String_any_f Tryd.lays169 Tryd.Builder_Extra_169 B b l w h hBw
theorem lex_size : ∀ (n : Nat) (r : List UInt8), r.length ≤ n → ∀ (l c : Nat) (t : Tk), t ∈ (L1.lexA r l c).1 → t.text.size ≤ r.length
  | _, [], _, l, c, t, ht => by simp [L1.lexA, L1.lexL] at ht
  | 0, _ :: _, h, _, _, _, _ => by simp at h
  | n + 1, b :: r, h, l, c, t, ht => by
    have hp := L1.item_pos b r
    have hle := L1.item_le b r
    simp only [List.length_cons] at h hle ⊢
    rw [L1.lexA_cons] at ht
    rcases List.mem_append.1 ht with ht | ht
    · revert ht hle
      cases L1.item b (b :: r) with
      | tok k u m z =>
        intro hle ht
        simp only [L1.It.toks, List.mem_singleton] at ht
        subst ht
        rw [← bts_len, bts_ofB]; exact hle
      | _ => intro _ ht; simp [L1.It.toks] at ht
    · have := lex_size n _ (by rw [List.length_drop, List.length_cons]; omega) _ _ t ht
      rw [List.length_drop, List.length_cons] at this; omega
theorem scan_size (s : ByteArray) : ∀ t, t ∈ scanT s → t.text.size ≤ s.size := fun t ht => by
  rw [scanT, L1.scan_eq] at ht
  rcases List.mem_append.1 ht with ht | ht
  · have := lex_size _ (bts s) (Nat.le_refl _) 1 1 t ht; rwa [bts_len] at this
  · rw [List.mem_singleton.1 ht]; exact Nat.zero_le _
theorem spc_le (b : Nat) : ∀ L : List Tk, (∀ t, t ∈ L → t.text.size ≤ b) → (L1.spc L).length ≤ L.length * (b + 1)
  | [], _ => by simp [L1.spc]
  | t :: L, h => by
    have h1 := spc_le b L fun u hu => h u (List.mem_cons_of_mem _ hu)
    have h2 := h t (List.mem_cons_self ..)
    rw [← bts_len] at h2
    simp only [L1.spc, List.flatMap_cons, List.length_append, List.length_cons, List.length_nil] at h1 ⊢
    rw [Nat.succ_mul]
    omega
theorem spc_step {L : List Tk} {k : Nat} {t : Tk} (ht : L[k]? = some t) : L1.spc (L.take (k + 1)) = L1.spc (L.take k) ++ (bts t.text ++ [32]) := by
  rw [List.take_add_one, ht, Option.toList_some, L1.spc, List.flatMap_append]
  simp [L1.spc]
theorem tkv_at {L : List Tk} {k : Nat} {t : Tk} (ht : L[k]? = some t) {j : Nat} (hj : j < 5) : (L.flatMap tkv)[k * 5 + j]? = (tkv t)[j]? := by
  have hl : ∀ a : Tk, (tkv a).length = 5 := fun _ => rfl
  induction L generalizing k with
  | nil => simp at ht
  | cons a L ih =>
    rw [List.flatMap_cons]
    cases k with
    | zero =>
      simp at ht; subst ht
      rw [Nat.zero_mul, Nat.zero_add, List.getElem?_append_left (by rw [hl]; exact hj)]
    | succ k =>
      rw [List.getElem?_append_right (by rw [hl]; omega), hl, show (k + 1) * 5 + j - 5 = k * 5 + j by omega]
      exact ih (by simpa using ht)
theorem TksAt.cells {W : World} {q : Nat} {L : List Tk} (h : TksAt W q L) {k : Nat} {t : Tk} (ht : L[k]? = some t) :
    W.cell? ⟨q, k * 5, none⟩ = some (.int .i64 t.kind) ∧ W.cell? ⟨q, k * 5 + 1, none⟩ = some (.string t.text) ∧ W.cell? ⟨q, k * 5 + 2, none⟩ = some (.int .i64 t.n) ∧ W.cell? ⟨q, k * 5 + 3, none⟩ = some (.int .i64 t.line) ∧ W.cell? ⟨q, k * 5 + 4, none⟩ = some (.int .i64 t.col) :=
  ⟨h.at' (k * 5) _ (by rw [show k * 5 = k * 5 + 0 from rfl, tkv_at ht (by omega)]; rfl), h.at' _ _ (by rw [tkv_at ht (by omega)]; rfl), h.at' _ _ (by rw [tkv_at ht (by omega)]; rfl), h.at' _ _ (by rw [tkv_at ht (by omega)]; rfl), h.at' _ _ (by rw [tkv_at ht (by omega)]; rfl)⟩

theorem eqf_calls (L M : List Tk) (cL cM qL qM : Nat) (W : World) (h : L.map key = M.map key) (hl : L.length ≤ 1000000) (h1 : L.length ≤ cL) (h2 : M.length ≤ cM) (tL : TksAt W qL L) (tM : TksAt W qM M) :
    Calls Tryd.prog 30 #[.slice (some ⟨qL, 0, none⟩) L.length cL, .slice (some ⟨qM, 0, none⟩) M.length cM, .func (.func 31) #[] #[]] W fun e W' => e = .returned (.bool true) ∧ Below W.heap.size W W' := by
  have vv : ∀ (L : List Tk) (q c : Nat), L.length ≤ c → TksAt W q L → V (rho0 W) W 0 (.sl (L.flatMap tkc) L.length false none) (.slice (some ⟨q, 0, none⟩) L.length c) := fun L q c hc ht =>
    .sl _ (L.flatMap tkv) q 0 _ c false none (tks_vs L) (at0 fun j v hj => by rw [Nat.zero_add]; exact ht.at' j v hj) (fun h => by cases h) hc (fun t h => by cases h)
  exact calls_true (good (X := noX) (fun f h hx => by cases hx)) (fun g cs h => by cases h) (eqf_law L M h hl) (.cons _ _ _ _ (vv L qL cL h1 tL) (.cons _ _ _ _ (vv M qM cM h2 tM) (.cons _ _ _ _ (.func 31 [] [] .nil) .nil)))

set_option maxHeartbeats 4000000 in
theorem spaced_calls (m : Int) (s : ByteArray) (hs : s.size ≤ big) (w : World) (hm : w.cell? ⟨1, 0, none⟩ = some (.int .i64 m)) :
    Calls Tryd.prog 7 #[.string s] w fun e w' => e = .returned (.bool true) ∧ Below w.heap.size w w' := by
  have h1w : 1 < w.heap.size := World.block_lt_of_cell? w ⟨1, 0, none⟩ hm
  go_enter Tryd.func7, Tryd.ntmps7
  go_wp2_with (go_at_call 26; refine (scan_calls m apb (by decide) w hm).mono ?_)
  rintro e W1 ⟨hb1, ⟨a, b, c, rfl, hc, hno⟩ | ⟨-, -, q, cap, rfl, hcap, ht1⟩⟩
  · exact absurd ⟨apb_ok, apb_bads⟩ hno
  rw [apb_len]
  have hm1 := (hb1.cell (p := ⟨1, 0, none⟩) h1w).trans hm
  go_wp2_with (go_at_call 26; refine (scan_calls m s hs W1 hm1).mono ?_)
  rintro e W2 ⟨hb2, ⟨a, b, c, rfl, hc, hno⟩ | ⟨hok, hbd, q2, cap2, rfl, hcap2, ht2⟩⟩
  · go_wp2
    go_ret
    exact ⟨rfl, hb1.trans (hb2.mono hb1.size)⟩
  go_wp2
  have hsl := hok.le
  have hLl := L1.scanT_len s
  have hLs := scan_size s
  generalize hL : scanT s = L at *
  go_loopw [36] (fun i wr => ∃ k : Nat, k ≤ L.length ∧ i = .int .i64 (k : Int) ∧ Lib.IsBuilderF 62 5 W2.heap.size W2.heap.size (Lib.byteCells (L1.spc (L.take k))) wr ∧ Below W2.heap.size W2 wr)
    (fun i _ => (L.length - intOf i).toNat)
  case atStart => exact ⟨0, Nat.zero_le _, rfl, Lib.IsBuilderF.of (Lib.fresh_isBuilder 62 5 W2), (Below.refl _ W2).alloc (Nat.le_refl _) _⟩
  case round =>
    obtain ⟨k, hk, rfl, hI, hbw⟩ := hrel
    by_cases hlt : k < L.length
    · have htk := ht2.below hbw ht2.lt
      obtain ⟨t, ht⟩ : ∃ t, L[k]? = some t := ⟨_, List.getElem?_eq_getElem hlt⟩
      obtain ⟨c0, c1, c2, c3, c4⟩ := htk.cells ht
      have htx : t.text.size ≤ 8192 := Nat.le_trans (hLs t (List.mem_of_getElem? ht)) hsl
      have hspk := spc_le 8192 (L.take k) (fun u hu => Nat.le_trans (hLs u (List.mem_of_mem_take hu)) hsl)
      have htk2 : (L.take k).length ≤ 8193 := by have := List.length_take_le k L; omega
      have hmul : (L.take k).length * (8192 + 1) ≤ 8193 * 8193 := Nat.mul_le_mul htk2 (Nat.le_refl _)
      have hts : (t.text ++ ⟨#[32]⟩ : ByteArray).size = t.text.size + 1 := by rw [← bts_len]; simp [bts]
      have hI0 : Lib.IsBuilderF 62 5 W2.heap.size W2.heap.size (Lib.byteCells (L1.spc (L.take k))) wr := hI
      obtain ⟨Wa, hWa⟩ : ∃ Wa, Wa = wr.alloc (Obj.cells #[Value.int IntKind.i64 t.kind, Value.string t.text, Value.int IntKind.i64 t.n, Value.int IntKind.i64 ↑t.line, Value.int IntKind.i64 ↑t.col] 64) := ⟨_, rfl⟩
      have hI1 : Lib.IsBuilderF 62 5 W2.heap.size W2.heap.size (Lib.byteCells (L1.spc (L.take k))) Wa := by rw [hWa]; exact Lib.IsBuilderF.alloc hI0 _
      have hwz : W2.heap.size ≤ Wa.heap.size := by rw [hWa]; have := hbw.size; simp; omega
      have hba : Below W2.heap.size W2 Wa := by rw [hWa]; exact hbw.alloc hbw.size _
      have hlen : (Lib.byteCells (L1.spc (L.take k))).length + (t.text ++ ⟨#[32]⟩ : ByteArray).size ≤ 140737488355328 := by rw [Lib.byteCells_length, hts]; omega
      have cW := bws W2.heap.size W2.heap.size _ (t.text ++ ⟨#[32]⟩) Wa hI1 hlen hwz
      rw [hWa] at cW
      go_wp2_with (go_at_call 27; refine cW.mono ?_)
      rintro e W3 ⟨rfl, hI3, hb3⟩
      go_wp2
      rw [← hWa] at hb3
      refine ⟨⟨k + 1, by omega, by rw [show ((k : Int) + 1) = ((k + 1 : Nat) : Int) by omega], Or.inr ?_, hba.trans hb3⟩, by simp [intOf]; omega⟩
      have e1 : Lib.strCells (t.text ++ ⟨#[32]⟩) = Lib.byteCells (bts t.text ++ [32]) := by
        rw [Lib.strCells_eq]
        congr 1
      rw [spc_step ht, Lib.byteCells_append, ← e1]
      exact hI3
    · obtain rfl : k = L.length := by omega
      rw [List.take_of_length_le (Nat.le_refl _)] at hI
      go_wp2_with (go_at_call 28; refine (blen W2.heap.size W2.heap.size _ wr hI).mono ?_)
      rintro e W3 ⟨rfl, rfl⟩
      rw [Lib.byteCells_length]
      by_cases h82 : (8192 : Int) < ((L1.spc L).length : Int)
      · go_wp2
        go_ret
        exact ⟨rfl, hb1.trans ((hb2.trans (hbw.mono hb2.size)).mono hb1.size)⟩
      · go_wp2_with (go_at_call 29; refine (bstr W2.heap.size W2.heap.size _ W3 hI hbw.size).mono ?_)
        rintro e W4 ⟨rfl, -, hb4⟩
        have hb24 := hbw.trans hb4
        have hm4 : W4.cell? ⟨1, 0, none⟩ = some (.int .i64 m) := (hb24.cell (p := ⟨1, 0, none⟩) (Nat.lt_of_lt_of_le h1w (Nat.le_trans hb1.size hb2.size))).trans ((hb2.cell (p := ⟨1, 0, none⟩) (Nat.lt_of_lt_of_le h1w hb1.size)).trans hm1)
        have hsp : bts (⟨(L1.spc L).toArray⟩ : ByteArray) = L1.spc L := rfl
        have hspz : (⟨(L1.spc L).toArray⟩ : ByteArray).size ≤ 8192 := by rw [← bts_len, hsp]; omega
        obtain ⟨hok5, hbd5, hkey⟩ := L1.scan_spaced (s := s) (u := ⟨(L1.spc L).toArray⟩) hok hbd (by rw [hsp, hL]) hspz
        rw [hL] at hkey
        go_wp2_with (go_at_call 26; refine (scan_calls m ⟨(L1.spc L).toArray⟩ (by simp only [big]; omega) W4 hm4).mono ?_)
        rintro e W5 ⟨hb5, ⟨a, b, c, rfl, hc, hno⟩ | ⟨-, -, q5, cap5, rfl, hcap5, ht5⟩⟩
        · exact absurd ⟨hok5, hbd5⟩ hno
        generalize hM : scanT (⟨(L1.spc L).toArray⟩ : ByteArray) = M at *
        have ht25 : TksAt W5 q2 L := (ht2.below hb24 ht2.lt).below hb5 (Nat.lt_of_lt_of_le ht2.lt hb24.size)
        have cE := eqf_calls L M cap2 cap5 q2 q5 W5 hkey.symm (by omega) hcap2 hcap5 ht25 ht5
        go_wp2_with (go_at_call 30; refine cE.mono ?_)
        rintro e W6 ⟨rfl, hb6⟩
        go_wp2
        go_ret
        exact ⟨rfl, hb1.trans ((hb2.trans ((hb24.trans (hb5.mono hb24.size)).mono hb2.size)).mono hb1.size |>.trans (hb6.mono (Nat.le_trans hb1.size (Nat.le_trans hb2.size (Nat.le_trans hb24.size hb5.size)))))⟩
end Go.Am.Y3
