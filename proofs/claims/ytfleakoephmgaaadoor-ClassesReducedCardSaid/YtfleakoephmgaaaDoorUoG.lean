/- Norm's range over the labels from behind. Conditions: none. -/
import Derived.Test.YtfleakoephmgaaaDoorUoE
import Derived.Stop.RegionWithIn
set_option linter.unusedSimpArgs false
set_option linter.unusedVariables false
namespace Go.Am.U2
open Go.Proofs Go.RowKit Go.Shelf Go.Am.Un Go.So
open Go.Am.U1 (tyc_w isl_tycs)
attribute [local go_sem] Oper.semAt_some

def cl : Code → Code | .seq a _ => a | c => c
def cr : Code → Code | .seq _ b => b | c => c
def cb : Code → Code | .block _ b => b | c => c
/-- The range itself. -/
noncomputable def rf24 : Code := cb (cr (cl (cr (cr (cr (cr (cr (cr (cr (Tryd.f24.body.getD .skip))))))))))

theorem Kb.alloc (M bo : Nat) (W : World) (o : Obj) (hM : M ≤ W.heap.size) : Kb M bo W (W.alloc o) :=
  ⟨rfl, rfl, rfl, by simp, fun b hb _ => Below.heap_alloc _ _ _ (by omega)⟩

theorem dn_nil {N : Nat} (h : N = 0) : dn N N = [] := by subst h; exact dn_zero 0

theorem sl_form {ρ : Rho} {w : World} {n : Nat} {cs : List AV} {len : Nat} {fl : Bool} {tk : Option Nat} {u : Value} (h : V ρ w n (.sl cs len fl tk) u) : ∃ a m c, u = .slice a m c := by
  cases h <;> exact ⟨_, _, _, rfl⟩

theorem frz_cells {W : World} {bo : Nat} {arr : Array Value} {ty : TypeId} (h : W.heap[bo]? = some (.cells arr ty (0, 0))) (k : Nat) : W.frozen? ⟨bo, k, none⟩ = false := by
  simp [World.frozen?, h]

theorem set1 {W : World} {bo : Nat} {arr : Array Value} {ty : TypeId} (h : W.heap[bo]? = some (.cells arr ty (0, 0))) (k : Nat) (v : Value) : (W.setCell ⟨bo, k, none⟩ v).heap[bo]? = some (.cells (arr.setIfInBounds k v) ty (0, 0)) := by
  simp [World.setCell, Array.getElem?_modify, h]
def set4 (W : World) (bo : Nat) (a b c d : Value) : World := (((W.setCell ⟨bo, 0, none⟩ a).setCell ⟨bo, 1, none⟩ b).setCell ⟨bo, 2, none⟩ c).setCell ⟨bo, 3, none⟩ d
theorem set4_at {W : World} {bo : Nat} {a b c d a' b' c' d' : Value} {rest : Array Value} {ty : TypeId} (h : W.heap[bo]? = some (.cells (#[a, b, c, d] ++ rest) ty (0, 0))) :
    (set4 W bo a' b' c' d').heap[bo]? = some (.cells (#[a', b', c', d'] ++ rest) ty (0, 0)) := by
  unfold set4
  rw [set1 (set1 (set1 (set1 h 0 a') 1 b') 2 c') 3 d']
  obtain ⟨l⟩ := rest
  simp
theorem set4_ne {W : World} {bo k : Nat} {a b c d : Value} (h : k ≠ bo) : (set4 W bo a b c d).heap[k]? = W.heap[k]? := by
  unfold set4
  rw [Below.heap_setCell _ _ _ _ h, Below.heap_setCell _ _ _ _ h, Below.heap_setCell _ _ _ _ h, Below.heap_setCell _ _ _ _ h]
theorem set4_size (W : World) (bo : Nat) (a b c d : Value) : (set4 W bo a b c d).heap.size = W.heap.size := by simp [set4, World.setCell]

theorem slc_c {ρ : Rho} {w : World} {n : Nat} {a : Tm} {u : Value} (h : V ρ w n (.sl (tyc a) 1 false none) u) :
    ∃ b o cap ua, u = .slice (some ⟨b, o, none⟩) 1 cap ∧ 1 ≤ cap ∧ w.cell? ⟨b, o, none⟩ = some (.int .i64 (kof a)) ∧ w.cell? ⟨b, o + 1, none⟩ = some (.string (nof a)) ∧ w.cell? ⟨b, o + 2, none⟩ = some (.int .i64 (vof a)) ∧ w.cell? ⟨b, o + 3, none⟩ = some ua ∧
      Vs ρ w n (tyc a) [.int .i64 (kof a), .string (nof a), .int .i64 (vof a), ua] ∧ Imm ρ b o := by
  generalize hcs : tyc a = cs at h
  cases h with
  | sl _ vs b o _ cap _ _ hvs ha hf hl ht =>
    subst hcs
    have hvs' := hvs
    rw [tyc_w, U1.tyw] at hvs
    cases hvs with | cons _ v0 _ _ h0 hv => cases hv with | cons _ v1 _ _ h1 hv => cases hv with | cons _ v2 _ _ h2 hv => cases hv with | cons _ v3 _ _ h3 hv =>
    cases hv; cases h0; cases h1; cases h2
    exact ⟨b, o, cap, v3, rfl, hl, (ha 0 _ rfl).2, (ha 1 _ rfl).2, (ha 2 _ rfl).2, (ha 3 _ rfl).2, hvs', (ha 0 _ rfl).1⟩

set_option maxRecDepth 100000 in
set_option maxHeartbeats 8000000 in
theorem range_law {Q : Exit → Act → World → Prop} (ρ : Rho) (lb : Nat → Lab) (Ls : List Lb) (e' : Tm) (bs bo : Nat) (lvv : Value) (ty : TypeId) (rest : Array Value) (w : World) (y0 y1 y2 y3 y5 y6 y7 y8 y9 y10 y11 y12 y13 y14 y15 y16 y17 y18 y19 y20 y21 y22 y23 y24 y25 y26 y27 y28 y29 y30 y31 y32 y33 y34 y35 y36 y37 y38 y39 y40 y41 y42 y43 y44 y45 y46 y47 y48 y49 y51 y52 y53 y54 y55 y56 y57 y58 y59 y60 y61 : Value)
    (hbs : w.cell? ⟨bs, 0, none⟩ = some lvv) (hbne : bs ≠ bo) (hbo : bo < w.heap.size) (b cap : Nat) (sv : Fin Ls.length → Value) (ad : Option Addr) (hlv : lvv = .slice ad Ls.length cap) (had : 0 < Ls.length → ad = some ⟨b, 0, none⟩) (hb : 0 < Ls.length → b ≠ bo) (hreach : Ls.length * 56 ≤ 140737488351232)
    (hc0 : ∀ j : Fin Ls.length, w.cell? ⟨b, 0 + j.1 * 4, none⟩ = some (.int .i64 0)) (hc1 : ∀ j : Fin Ls.length, w.cell? ⟨b, 0 + j.1 * 4 + 1, none⟩ = some (.string (Ls[j].1)))
    (hc2 : ∀ j : Fin Ls.length, w.cell? ⟨b, 0 + j.1 * 4 + 2, none⟩ = some (.int .i64 0)) (hc3 : ∀ j : Fin Ls.length, w.cell? ⟨b, 0 + j.1 * 4 + 3, none⟩ = some (sv j))
    (hsv : ∀ j : Fin Ls.length, V (rhoX ρ lb w.heap.size bo w) w 0 (.sl (tyc Ls[j].2) 1 false none) (sv j))
    (ho : OutAt ρ lb w.heap.size bo ty rest e' w)
    (hQ : ∀ (D : Nat) (W : World), w.heap.size ≤ D → Kb w.heap.size bo w W → OutAt ρ lb w.heap.size bo ty rest (bld Ls e') W → W.heap[D]? = some (.deferred (some [])) → Q .normal { tmps := #[y0, y1, y2, y3, .pointer (some ⟨bo, 0, none⟩), y5, y6, y7, y8, y9, y10, y11, y12, y13, y14, y15, y16, y17, y18, y19, y20, y21, y22, y23, y24, y25, y26, y27, y28, y29, y30, y31, y32, y33, y34, y35, y36, y37, y38, y39, y40, y41, y42, y43, y44, y45, y46, y47, y48, y49, .func (.func 73) #[] #[.pointer (some ⟨bs, 0, none⟩)], y51, y52, y53, y54, y55, y56, y57, y58, y59, y60, y61], defers := [{ target := .collected D, args := #[] }] } W) :
    rf24.wpIn Fence.wide 4 Tryd.prog Q { tmps := #[y0, y1, y2, y3, .pointer (some ⟨bo, 0, none⟩), y5, y6, y7, y8, y9, y10, y11, y12, y13, y14, y15, y16, y17, y18, y19, y20, y21, y22, y23, y24, y25, y26, y27, y28, y29, y30, y31, y32, y33, y34, y35, y36, y37, y38, y39, y40, y41, y42, y43, y44, y45, y46, y47, y48, y49, .func (.func 73) #[] #[.pointer (some ⟨bs, 0, none⟩)], y51, y52, y53, y54, y55, y56, y57, y58, y59, y60, y61], defers := [] } w := by
  have hrf : rf24 = Code.rangeFunc _ _ _ _ := rfl
  rw [hrf]
  clear hrf
  have hbsz : bs < w.heap.size := by
    unfold World.cell? at hbs
    cases h : w.heap[bs]? with
    | none => simp [h] at hbs
    | some o => exact (Array.getElem?_eq_some_iff.1 h).1
  have hbz : ∀ j : Fin Ls.length, b < w.heap.size := fun j => by
    have := hc0 j
    unfold World.cell? at this
    cases h : w.heap[b]? with
    | none => simp [h] at this
    | some o => exact (Array.getElem?_eq_some_iff.1 h).1
  refine wpIn_rangeFunc_ownH (F := Fence.wide) (n := 4) rfl (by omega) (gf := 73) (lb := #[.pointer (some ⟨bs, 0, none⟩)]) rfl trivial (enters_of Tryd.func73 (by kernel_rfl) rfl)
    (encs := enc (fun j => Ls[j].1) sv) (Kp := fun A B => ∀ k, k < w.heap.size → k ≠ bo → B.heap[k]? = A.heap[k]?) (S := fun ys => ys = dn Ls.length Ls.length) (Sp := fun _ => True) (N := Ls.length) (w0 := w) ?hseq
    (fun h k i hi hn => (k i hi hn).trans (h i hi hn)) (fun W l o o' hl h _ _ i hi hn => (grownBy_putObj' W l o').block i (by have := (Array.getElem?_eq_some_iff.1 h).1; omega) (fun e => by cases e; omega)) (Below.refl _ _) (fun _ => rfl)
    (fun pre W => Kb w.heap.size bo w W ∧ OutAt ρ lb w.heap.size bo ty rest (pre.foldl (step Ls) e') W) (fun _ _ _ => False)
    (OwnFrom.and (kb_own _ _ _ (Nat.le_refl _)) (out_own _ _ _ _ _ _ _ _)) (fun _ _ _ _ _ h _ _ => h) ⟨Kb.refl _ _ _, ho⟩
    (fun x a' W => ∃ Bx, w.heap.size ≤ Bx ∧ W.cell? ⟨Bx, 0, none⟩ = some (.int .i64 0) ∧ W.cell? ⟨Bx, 1, none⟩ = some (.string Ls[x].1) ∧ W.cell? ⟨Bx, 2, none⟩ = some (.int .i64 0) ∧ W.cell? ⟨Bx, 3, none⟩ = some (sv x) ∧ a' = { tmps := #[y0, y1, y2, y3, .pointer (some ⟨bo, 0, none⟩), y5, y6, y7, .pointer (some ⟨Bx, 0, none⟩), y9, y10, y11, y12, y13, y14, y15, y16, y17, y18, y19, y20, y21, y22, y23, y24, y25, y26, y27, y28, y29, y30, y31, y32, y33, y34, y35, y36, y37, y38, y39, y40, y41, y42, y43, y44, y45, y46, y47, y48, y49, .func (.func 73) #[] #[.pointer (some ⟨bs, 0, none⟩)], .int .i64 (x.1 : Int), .agg #[.int .i64 0, .string Ls[x].1, .int .i64 0, sv x], y53, y54, y55, y56, y57, y58, y59, y60, y61], defers := [] })
    (fun x a' _ X Y row hs hg hr => by
      obtain ⟨Bx, h1, h2, h3, h4, h5, h6⟩ := hs
      have hr' : ∀ r, row = some r → ∃ o : Obj, X.heap[r]? = some o ∧ o.isCells = false := fun r e => (hr r e).2
      exact ⟨Bx, h1, cell_kept h2 hg hr', cell_kept h3 hg hr', cell_kept h4 hg hr', cell_kept h5 hg hr', h6⟩)
    ?assign ?body ?done ?stop
  case hseq =>
    subst hlv
    intro l J Jx W hW _ _ hY h0
    have hbW := (World.cell?_of_block (w := w) (hW.block bs hbsz)).trans hbs
    by_cases hN : 0 < Ls.length
    · obtain rfl := had hN
      exact bk_in (fun j => Ls[j].1) sv Fence.wide 3 trivial rfl (by omega) l bs b 0 cap hreach _ (fun {A B} h => ⟨h bs hbsz hbne, h b (hbz ⟨0, hN⟩) (hb hN)⟩) J Jx hY W hbW
        (fun j => (World.cell?_of_block (w := w) (hW.block b (hbz j))).trans (hc0 j)) (fun j => (World.cell?_of_block (w := w) (hW.block b (hbz j))).trans (hc1 j))
        (fun j => (World.cell?_of_block (w := w) (hW.block b (hbz j))).trans (hc2 j)) (fun j => (World.cell?_of_block (w := w) (hW.block b (hbz j))).trans (hc3 j)) h0
    · have h00 : Ls.length = 0 := by omega
      rw [h00] at hbW
      refine (bk_nil Fence.wide 3 trivial rfl l bs J W ad cap hbW h0).mono ?_
      rintro e W' ⟨h1, h2⟩
      refine ⟨h1, .inl ⟨_, rfl, ?_⟩⟩
      rw [dn_nil h00]
      exact h2
  case assign =>
    rintro l pre x W K ⟨hkb, hout⟩ hK
    obtain ⟨b', o', cap', ua, hsx, hcap, -⟩ := slc_c (hsv x)
    simp only [enc, hsx]
    gi_wp2
    have hkk := hkb.trans (Kb.alloc w.heap.size bo W (.cells #[.int .i64 0, .string Ls[x].1, .int .i64 0, .slice (some ⟨b', o', none⟩) 1 cap'] 24) hkb.size)
    refine hK _ _ ((KeepsOthers.alloc _ _).from _) (fun k hk hn => (Kb.alloc w.heap.size bo W _ hkb.size).block k hk hn) ⟨hkk, (out_own ρ lb w.heap.size w.heap.size bo ty rest (fun (pre : List (Fin Ls.length)) => pre.foldl (step Ls) e')).alloc _ hout⟩ ?_
    refine ⟨W.heap.size, hkb.size, ?_, ?_, ?_, ?_, by rw [hsx]; rfl⟩
    · simp only [World.cell?, World.alloc_heap_new]; rfl
    · simp only [World.cell?, World.alloc_heap_new]; rfl
    · simp only [World.cell?, World.alloc_heap_new]; rfl
    · simp only [World.cell?, World.alloc_heap_new, hsx]; rfl
  case body =>
    rintro l pre x a' W hl ⟨r, hr⟩ ⟨hkb, hout⟩ ⟨Bx, hBx, hx0, hx1, hx2, hx3, rfl⟩ hlt
    obtain ⟨b', o', cap', ua, hsx, hcap, g0, g1, g2, g3, gv, gi⟩ := slc_c (hsv x)
    rw [hsx] at hx3
    have hcar : Carry (rhoX ρ lb w.heap.size bo w) w (rhoX ρ lb w.heap.size bo W) W := carry_kb (fun k hk hn => hkb.block k hk hn) hkb.size
    have gb : b' < w.heap.size ∧ b' ≠ bo := ⟨cell_lt g0, (immX.1 gi).1⟩
    have g0' := (World.cell?_of_block (w := w) (hkb.block b' gb.1 gb.2)).trans g0
    have g1' := (World.cell?_of_block (w := w) (hkb.block b' gb.1 gb.2)).trans g1
    have g2' := (World.cell?_of_block (w := w) (hkb.block b' gb.1 gb.2)).trans g2
    have g3' := (World.cell?_of_block (w := w) (hkb.block b' gb.1 gb.2)).trans g3
    obtain ⟨u, hh, hu⟩ := hout
    have q0 : W.cell? ⟨bo, 0, none⟩ = some (.int .i64 (kof (pre.foldl (step Ls) e'))) := by simp [World.cell?, hh, Array.getElem?_append]
    have q1 : W.cell? ⟨bo, 1, none⟩ = some (.string (nof (pre.foldl (step Ls) e'))) := by simp [World.cell?, hh, Array.getElem?_append]
    have q2 : W.cell? ⟨bo, 2, none⟩ = some (.int .i64 (vof (pre.foldl (step Ls) e'))) := by simp [World.cell?, hh, Array.getElem?_append]
    have q3 : W.cell? ⟨bo, 3, none⟩ = some u := by simp [World.cell?, hh, Array.getElem?_append]
    have hbM : bo < W.heap.size := Nat.lt_of_lt_of_le hbo hkb.size
    obtain ⟨t0, ht0⟩ : ∃ t0, t0 = pre.foldl (step Ls) e' := ⟨_, rfl⟩
    rw [← ht0] at hh hu q0 q1 q2
    have HD : Hid (t0 = pre.foldl (step Ls) e') := ht0
    clear ht0
    have hf22 : Fence.wide.fn 22 := trivial
    obtain ⟨ux, un, uc, hux⟩ : ∃ ux un uc, u = .slice ux un uc := sl_form hu
    obtain ⟨uax, uan, uac, huax⟩ : ∃ ux un uc, ua = .slice ux un uc := by
      have gv' := gv
      rw [tyc_w, U1.tyw] at gv'
      cases gv' with | cons _ v0 _ _ h0 hv => cases hv with | cons _ v1 _ _ h1 hv => cases hv with | cons _ v2 _ _ h2 hv => cases hv with | cons _ v3 _ _ h3 hv =>
      exact sl_form h3
    subst hux huax
    have hva : Vs (rhoX ρ lb w.heap.size bo W) W 0 (tyc Ls[x].2) [.int .i64 (kof Ls[x].2), .string (nof Ls[x].2), .int .i64 (vof Ls[x].2), .slice uax uan uac] := tyc_carry hcar _ _ gv
    have hvb : Vs (rhoX ρ lb w.heap.size bo W) W 0 (tyc t0) [.int .i64 (kof t0), .string (nof t0), .int .i64 (vof t0), .slice ux un uc] := by
      rw [tyc_w, U1.tyw]
      exact .cons _ _ _ _ (.int _ _) (.cons _ _ _ _ (.str _) (.cons _ _ _ _ (.int _ _) (.cons _ _ _ _ hu .nil)))
    have hcall : ∀ m, CallsIn (Fence.wide.inRound l) m Tryd.prog 22 #[.string Ls[x].1, .agg #[.int .i64 (kof Ls[x].2), .string (nof Ls[x].2), .int .i64 (vof Ls[x].2), .slice uax uan uac], .agg #[.int .i64 (kof t0), .string (nof t0), .int .i64 (vof t0), .slice ux un uc]] W.drew
        (fun e W2 => ∃ b2 o2 cap2, e = .returned (.agg #[.int .i64 5, .string Ls[x].1, .int .i64 0, .slice (some ⟨b2, o2, none⟩) 2 cap2]) ∧ Below W.heap.size W.drew W2 ∧ V (rhoX ρ lb w.heap.size bo W2) W2 0 (.sl (tycs [Ls[x].2, t0]) 2 false none) (.slice (some ⟨b2, o2, none⟩) 2 cap2)) := fun m => by
      refine (callsIn_wide (n := m)).2 ((ext_calls W.drew Ls[x].1 (kof Ls[x].2) (kof t0) (vof Ls[x].2) (vof t0) (nof Ls[x].2) (nof t0) uax ux uan uac un uc).mono ?_)
      rintro e W2 ⟨h1, q, hq1, hq2, rfl, c0, c1, c2, c3, c4, c5, c6, c7⟩
      have hc2 : Carry (rhoX ρ lb w.heap.size bo W) W (rhoX ρ lb w.heap.size bo W2) W2 := carry_kb (fun k hk hn => h1.block k hk) h1.size
      have hW0 : W.drew.heap.size = W.heap.size := rfl
      have hsz := hkb.size
      refine ⟨q, 0, 2, rfl, h1, .sl _ [.int .i64 (kof Ls[x].2), .string (nof Ls[x].2), .int .i64 (vof Ls[x].2), .slice uax uan uac, .int .i64 (kof t0), .string (nof t0), .int .i64 (vof t0), .slice ux un uc] q 0 2 2 false none ?_ (fun j v hj => ⟨immX.2 ⟨by omega, Or.inr ⟨by omega, hq2⟩⟩, ?_⟩) (by simp) (by omega) (by simp)⟩
      · rw [tycs, tycs, tycs, List.append_nil]
        exact Vs.append (tyc_carry hc2 _ _ hva) (tyc_carry hc2 _ _ hvb)
      · match j, hj with
        | 0, hj => cases hj; exact c0
        | 1, hj => cases hj; exact c1
        | 2, hj => cases hj; exact c2
        | 3, hj => cases hj; exact c3
        | 4, hj => cases hj; exact c4
        | 5, hj => cases hj; exact c5
        | 6, hj => cases hj; exact c6
        | 7, hj => cases hj; exact c7
        | j + 8, hj => simp at hj
    clear hva hvb hcar g0 g1 g2 g3
    gi_wp2
    refine wpIn_mono (Q := fun e a2 W3 => e = .normal ∧ ∃ b2 o2 cap2 W2, Below W.heap.size W.drew W2 ∧ V (rhoX ρ lb w.heap.size bo W2) W2 0 (.sl (tycs [Ls[x].2, t0]) 2 false none) (.slice (some ⟨b2, o2, none⟩) 2 cap2) ∧
      W3 = ((((W2.setCell { block := bo, off := 0 } (Value.int IntKind.i64 5)).setCell { block := bo, off := 1 } (Value.string Ls[x].1)).setCell { block := bo, off := 2 } (Value.int IntKind.i64 0)).setCell { block := bo, off := 3 } (Value.slice (some ⟨b2, o2, none⟩) 2 cap2))) ?_ ?_
    · gi_region_with (gi_at_call 22; refine (hcall _).mono ?_; rintro e2 W2 ⟨b2, o2, cap2, rfl, hB2, hV2⟩; have hh2 := (hB2.block bo hbM).trans hh; have p0 := (hB2.cell (p := ⟨bo, 0, none⟩) hbM).trans q0; have p1 := (hB2.cell (p := ⟨bo, 1, none⟩) hbM).trans q1; have p2 := (hB2.cell (p := ⟨bo, 2, none⟩) hbM).trans q2; have p3 := (hB2.cell (p := ⟨bo, 3, none⟩) hbM).trans q3; have f0 := frz_cells hh2 0; have f1 := frz_cells hh2 1; have f2 := frz_cells hh2 2; have f3 := frz_cells hh2 3)
      all_goals exact ⟨rfl, _, _, _, _, hB2, hV2, rfl⟩
    · rintro e a2 W3 ⟨rfl, b2, o2, cap2, W2, hB2, hV2, rfl⟩
      have hh2 := (hB2.block bo hbM).trans hh
      change _ ∧ _
      have hb2 := hB2.block
      obtain ⟨W3, hW3⟩ : ∃ W3, W3 = set4 W2 bo (.int .i64 5) (.string Ls[x].1) (.int .i64 0) (.slice (some ⟨b2, o2, none⟩) 2 cap2) := ⟨_, rfl⟩
      have hhf := hW3 ▸ set4_at (a' := .int .i64 5) (b' := .string Ls[x].1) (c' := .int .i64 0) (d' := .slice (some ⟨b2, o2, none⟩) 2 cap2) hh2
      have hs3 : W3.heap.size = W2.heap.size := by rw [hW3, set4_size]
      have hn3 : ∀ k, k ≠ bo → W3.heap[k]? = W2.heap[k]? := fun k hk => by rw [hW3, set4_ne hk]
      have hkk : Kb w.heap.size bo W W3 := by
        refine ⟨?_, ?_, ?_, ?_, fun k hk hn => ?_⟩
        · rw [hW3]; exact hB2.os
        · rw [hW3]; exact hB2.tape
        · rw [hW3]; exact hB2.output
        · rw [hs3]; exact hB2.size
        · rw [hn3 k hn]; exact hb2 k (Nat.lt_of_lt_of_le hk hkb.size)
      change KeepsFrom w.heap.size W (set4 W2 bo _ _ _ _) ∧ (∀ (k : Nat), k < w.heap.size → k ≠ bo → (set4 W2 bo _ _ _ _).heap[k]? = W.heap[k]?) ∧ Kb w.heap.size bo w (set4 W2 bo _ _ _ _) ∧ OutAt ρ lb w.heap.size bo ty rest (List.foldl (step Ls) e' (pre ++ [x])) (set4 W2 bo _ _ _ _)
      rw [← hW3]
      refine ⟨?_, fun k hk hn => hkk.block k hk hn, hkb.trans hkk, ?_⟩
      · refine ⟨?_, fun k o hk ho hc => ?_⟩
        · rw [hs3]; exact hB2.size
        · rw [hn3 k fun e => ?_]
          · exact (hb2 k (Array.getElem?_eq_some_iff.1 ho).1).trans ho
          · rw [e, hh] at ho; cases ho; cases hc
      · rw [List.foldl_append, List.foldl_cons, List.foldl_nil]
        have := HD.out
        rw [← this]
        refine ⟨_, hhf, ?_⟩
        exact sl_carry (carry_kb (fun k hk hn => hn3 k hn) (by omega)) (tycs_carry (carry_kb (fun k hk hn => hn3 k hn) (by omega)) _) hV2
  case done =>
    rintro D ys W hD rfl ⟨hkb, hout⟩ hK
    rw [steps_all] at hout
    exact hQ D W hD hkb hout hK
  case stop =>
    rintro D c pre W hD _ h _
    exact h.elim
end Go.Am.U2
