/- Norm as the abstract machine has it. Conditions: none. -/
import Derived.Test.YtfleakoephmgaaaDoorUoG
import Derived.Test.YtfleakoephmgaaaDoorUnA
set_option linter.unusedSimpArgs false
set_option linter.unusedVariables false
namespace Go.Am.U2
open Go.Proofs Go.RowKit Go.Shelf Go.Am.Un Go.So
open Go.Am.U1 (tyc_w isl_tycs)
attribute [local go_sem] Oper.semAt_some

/-! ### Back to the store of before -/
mutual
theorem v_restrict {ρ ρ' : Rho} {w w' : World} {n m : Nat} {v0 : Value} : ∀ {a : AV} {v : Value}, V ρ' w' m a v → V ρ w n a v0 → V ρ' w' n a v
  | _, _, .bool b, _ => .bool b
  | _, _, .int k x, _ => .int k x
  | _, _, .str s, _ => .str s
  | _, _, .nilp, _ => .nilp
  | _, _, .ptr i off h hp, h0 => .ptr i off (by cases h0; assumption) hp
  | _, _, .eptr cs vs b o h ha, h0 => .eptr cs vs b o (by cases h0 with | eptr _ us _ _ h1 _ => exact vs_restrict h h1) ha
  | _, _, .nils, _ => .nils
  | _, _, .sl cs vs b o len cap full tok h ha hf hl ht, h0 => by
    cases h0 with
    | sl _ us _ _ _ _ _ _ h1 _ _ _ ht1 => exact .sl cs vs b o len cap full tok (vs_restrict h h1) ha hf hl (fun t e => ⟨(ht1 t e).1, (ht t e).2⟩)
    | sl0 _ _ _ _ _ _ _ => exact .sl [] vs b o 0 cap full tok (by cases h; exact .nil) ha hf hl (fun t e => by have := (ht t e).2.2.1; omega)
  | _, _, .sl0 a cap full tok hf ha ht, _ => .sl0 a cap full tok hf ha ht
  | _, _, .msl i off len cap z h hp hl ht, h0 => .msl i off len cap z (by cases h0; assumption) hp hl ht
  | _, _, .func f cs vs h, h0 => .func f cs vs (by cases h0 with | func _ _ us h1 => exact vs_restrict h h1)
  | _, _, .nilf, _ => .nilf
  | _, _, .agg cs vs h, h0 => .agg cs vs (by cases h0 with | agg _ us h1 => exact vs_restrict h h1)
  | _, _, .tup cs vs h, h0 => .tup cs vs (by cases h0 with | tup _ us h1 => exact vs_restrict h h1)
  | _, _, .iface t a v h, h0 => .iface t a v (by cases h0 with | iface _ _ u h1 => exact v_restrict h h1)
  | _, _, .niliface, _ => .niliface
  | _, _, .mapv i h hp, h0 => .mapv i (by cases h0; assumption) hp
  | _, _, .nilm, _ => .nilm
theorem vs_restrict {ρ ρ' : Rho} {w w' : World} {n m : Nat} {us : List Value} : ∀ {cs : List AV} {vs : List Value}, Vs ρ' w' m cs vs → Vs ρ w n cs us → Vs ρ' w' n cs vs
  | _, _, .nil, _ => .nil
  | _, _, .cons a v bs vs h hs, h0 => by
    cases h0 with
    | cons _ u _ us' h1 hs1 => exact .cons a v bs vs (v_restrict h h1) (vs_restrict hs hs1)
end

/-- New objects are read as immutable; one of them is let go. -/
def lbOf (ρ8 : Rho) (n r : Nat) (b : Nat) : Lab := match ρ8.lab b with
  | .obj i => if i = r then .free else if n ≤ i then .ro else .obj i
  | l => l
theorem sim_back {ρ ρ8 : Rho} {s S : St} {W w8 W' : World} {q r : Nat} (hS : Sim ρ s W) (hF : Fr ρ s W ρ8 S w8) (hS8 : Sim ρ8 S w8) (hk : ∀ j, j < s.size → S.obj j = s.obj j)
    (hq : s.size ≤ q) (lbq : ρ8.lab (ρ8.blk q) = .obj q) (hr : s.size ≤ r) (lbr : ρ8.lab (ρ8.blk r) = .obj r)
    (hos : W'.os = w8.os) (htp : W'.tape = w8.tape) (hou : W'.output = w8.output) (hsz : w8.heap.size ≤ W'.heap.size) (hb : ∀ b, b < w8.heap.size → b ≠ ρ8.blk q → b ≠ ρ8.blk r → W'.heap[b]? = w8.heap[b]?) :
    Fr ρ s W (rhoX ρ8 (lbOf ρ8 s.size r) w8.heap.size (ρ8.blk q) W') s W' ∧ Sim (rhoX ρ8 (lbOf ρ8 s.size r) w8.heap.size (ρ8.blk q) W') s W' := by
  obtain ⟨ρ', hρ⟩ : ∃ ρ', ρ' = rhoX ρ8 (lbOf ρ8 s.size r) w8.heap.size (ρ8.blk q) W' := ⟨_, rfl⟩
  have himm : ∀ b o, Imm ρ8 b o → Imm ρ' b o ∧ W'.cell? ⟨b, o, none⟩ = w8.cell? ⟨b, o, none⟩ := fun b o hi => by
    have hl := imm_lt hS8 hi
    have hnq : b ≠ ρ8.blk q := fun e => by subst e; unfold Imm at hi; rw [lbq] at hi; exact hi
    have hnr : b ≠ ρ8.blk r := fun e => by subst e; unfold Imm at hi; rw [lbr] at hi; exact hi
    refine ⟨?_, World.cell?_of_block (w := w8) (hb b hl hnq hnr)⟩
    rw [hρ]
    refine immX.2 ⟨hnq, Or.inl ⟨hl, ?_⟩⟩
    unfold lbOf
    unfold Imm at hi
    cases hlab : ρ8.lab b <;> rw [hlab] at hi <;> first | exact hi | exact hi.elim
  have hm8 : Mono ρ8 w8 s.size ρ' W' s.size := ⟨Nat.le_refl _, himm, fun _ _ _ => by rw [hρ]; rfl, fun _ _ _ => by rw [hρ]; rfl, fun _ _ => by rw [hρ]; rfl, fun _ _ h => by rw [hρ]; exact h⟩
  have hpb : ∀ i, ρ8.pend i = ρ.pend i := hF.pback
  have hpe : ρ'.pend = ρ8.pend := by rw [hρ]; rfl
  have hblk' : ρ'.blk = ρ8.blk := by rw [hρ]; rfl
  have htot' : ρ'.tot = ρ8.tot := by rw [hρ]; rfl
  have hrt' : ρ'.rt = ρ8.rt := by rw [hρ]; rfl
  have hlab : ∀ b, b < w8.heap.size → (∀ i, ρ8.lab b = .obj i → i < s.size) → ρ'.lab b = ρ8.lab b ∧ W'.heap[b]? = w8.heap[b]? := fun b hl hi => by
    have hnq : b ≠ ρ8.blk q := fun e => by subst e; have := hi q lbq; omega
    have hnr : b ≠ ρ8.blk r := fun e => by subst e; have := hi r lbr; omega
    refine ⟨?_, hb b hl hnq hnr⟩
    rw [hρ]
    show (if b = ρ8.blk q then Lab.free else if b < w8.heap.size then lbOf ρ8 s.size r b else _) = _
    rw [if_neg hnq, if_pos hl]
    unfold lbOf
    cases hlb : ρ8.lab b with
    | obj i => simp only []; rw [if_neg (by have := hi i hlb; omega), if_neg (by have := hi i hlb; omega)]
    | _ => rfl
  rw [← hρ]
  refine ⟨⟨⟨Nat.le_refl _, fun b o hi => ?_, fun i hi hp => ?_, fun i hi hp => ?_, fun t ht => ?_, fun i hi hp => ?_⟩, hos.trans hF.os, htp.trans hF.tape, hou.trans hF.output, Nat.le_trans hF.size hsz, fun b hl hfr => ?_, fun _ _ => rfl, fun i => by rw [hpe, hpb]⟩, ⟨fun b hl => ?_, fun i hi => ?_, fun i cs hi hp => ?_, fun t ht => ?_, fun i cs hi => ?_, fun i es hi => ?_⟩⟩
  · obtain ⟨h1, h2⟩ := hF.mono.imm b o hi
    obtain ⟨h3, h4⟩ := himm b o h1
    exact ⟨h3, h4.trans h2⟩
  · rw [hblk']; exact hF.mono.blk i hi hp
  · rw [htot']; exact hF.mono.tot i hi hp
  · rw [hrt']; exact hF.mono.rt t ht
  · rw [hpe]; exact hF.mono.pend i hi hp
  · obtain ⟨h1, h2⟩ := hF.keep b hl hfr
    obtain ⟨h3, h4⟩ := hlab b (Nat.lt_of_lt_of_le hl hF.size) (fun i e => by rw [h1] at e; rcases hfr with h | h <;> rw [h] at e <;> cases e)
    exact ⟨h3.trans h1, h4.trans h2⟩
  · rw [hρ]
    show (if b = ρ8.blk q then Lab.free else if b < w8.heap.size then lbOf ρ8 s.size r b else if b < W'.heap.size then Lab.ro else Lab.free) = _
    by_cases hbq : b = ρ8.blk q
    · rw [if_pos hbq]
    · rw [if_neg hbq, if_neg (by omega), if_neg (by omega)]
  · rw [hpe, hpb] at hi; exact hS.pn i hi
  · rw [hpe] at hp
    obtain ⟨h1, -, vs0, rest0, ty0, -, hvs0, -⟩ := hS.cells i cs hi (by rw [← hpb]; exact hp)
    obtain ⟨-, h2, vs, rest, ty, h3, h4, h5⟩ := hS8.cells i cs ((hk i h1).trans hi) hp
    obtain ⟨h6, h7⟩ := hlab (ρ8.blk i) (Array.getElem?_eq_some_iff.1 h3).1 (fun j e => by rw [h2] at e; cases e; exact h1)
    rw [hblk', htot']
    exact ⟨h1, h6.trans h2, vs, rest, ty, h7.trans h3, (vs_restrict h4 hvs0).mono hm8, h5⟩
  · obtain ⟨h1, b, len, cap, z, h2, h3, vs, ty, h4, h5⟩ := hS.right t ht
    obtain ⟨-, b', len', cap', z', h2', h3', vs', ty', h4', h5'⟩ := hS8.right t ((hk t h1).trans ht)
    obtain ⟨h6, h7⟩ := hlab b' (Array.getElem?_eq_some_iff.1 h4').1 (fun j e => by rw [h3'] at e; cases e)
    rw [hrt']
    exact ⟨h1, b', len', cap', z', h2', h6.trans h3', vs', ty', h7.trans h4', h5'⟩
  · obtain ⟨h1, hp, vs0, hvs0, -⟩ := hS.froz i cs hi
    obtain ⟨-, hp8, vs, hvs, hat⟩ := hS8.froz i cs ((hk i h1).trans hi)
    rw [hpe, hblk']
    exact ⟨h1, hp8, vs, (vs_restrict hvs hvs0).mono hm8, hat.mono hm8⟩
  · obtain ⟨h1, hp, hl, ms0, cl0, -, hmr0⟩ := hS.maps i es hi
    obtain ⟨-, hp8, h2, ms, cl, h3, hmr⟩ := hS8.maps i es ((hk i h1).trans hi)
    obtain ⟨h6, h7⟩ := hlab (ρ8.blk i) (Array.getElem?_eq_some_iff.1 h3).1 (fun j e => by rw [h2] at e; cases e; exact h1)
    rw [hpe, hblk']
    exact ⟨h1, hp8, h6.trans h2, ms, cl, h7.trans h3, hmr.1, (vs_restrict hmr.2.1 hmr0.2.1).mono hm8, hmr.2.2⟩

set_option maxRecDepth 100000 in
set_option maxHeartbeats 4000000 in
theorem norm_step (n : Nat) (hn : n ≤ big) (ih : ∀ args s v s', normX n args s = some (v, s') → CallC G0 Tryd.prog 24 args s v s') : ∀ args s v s', normX (n + 1) args s = some (v, s') → CallC G0 Tryd.prog 24 args s v s' := by
  intro args s v s' h
  obtain ⟨t, a, rfl, ha, hv, ht, rfl, hss⟩ := normX_inv h
  rw [hss]
  have hG : Good G0 Tryd.prog T (Xn n) := good (fun f h hx args s v s' hh => by
    unfold Xn at hx
    split at hx
    · rename_i hf; cases hx; subst hf; exact ih args s v s' hh
    · cases hx)
  obtain ⟨L, z, hs⟩ := spn_of _ t (Nat.le_refl _) hv
  obtain ⟨hm1, hm2, hm3⟩ := spn_mem hs
  intro ρ W argv hS hGl hV
  refine ⟨fun w1 => enters_of Tryd.func24 (by kernel_rfl) rfl _ w1, ?_⟩
  obtain ⟨x, rfl, hx⟩ := argv1 hV
  cases hx with | agg _ vs hvs =>
  have hvs2 := tyw_tyc ha hvs
  have hE0 : EnvR G0 ρ W s.size (env0 [.agg (tyc t)]) (#[.agg vs.toArray] ++ Array.replicate 61 undef) := env0_R (.cons _ _ _ _ (.agg _ _ hvs2) .nil) hGl
  have hpre := pre_law (n := n) hs (isl_tycs (lof t)) hv ht hn s
  rw [← tyc_w] at hpre
  obtain ⟨m, x0, e, S, hev, rfl, q, c, lv, ov, hq0, hqc, hcS, e2, o2, e4, oq, mov, fov, e50, oc, mlv, flv, hzS, hkS⟩ := hpre
  unfold kpre at hev
  refine (callsIn_wide (n := 4)).1 ?_
  refine callsIn_of_wp_marks Tryd.func24 rfl trivial ?_ rfl
  refine sok_step hG (mu := true) (fz := []) (nt := 62) (by kernel_rfl) hev hS hE0 ⟨by simp only [Tryd.ntmps24, Array.size_append, Array.size_replicate, List.size_toArray, List.length_cons, List.length_nil], rfl⟩ ?_
  intro n1 e1 s1 ρ1 a1 w1 hev1 hF1 hS1 hE1 ha1
  refine sok_step hG (mu := true) (fz := []) (nt := 62) (by kernel_rfl) hev1 hS1 hE1 ha1 ?_
  clear hev
  intro n2 e2' s2 ρ2 a2 w2 hev2 hF2 hS2 hE2 ha2
  replace hF2 := hF1.trans hF2
  clear hF1 hS1 hE1 ha1
  refine sok_step hG (mu := true) (fz := []) (nt := 62) (by kernel_rfl) hev2 hS2 hE2 ha2 ?_
  clear hev1
  intro n3 e3' s3 ρ3 a3 w3 hev3 hF3 hS3 hE3 ha3
  replace hF3 := hF2.trans hF3
  clear hF2 hS2 hE2 ha2
  refine sok_step hG (mu := true) (fz := []) (nt := 62) (by kernel_rfl) hev3 hS3 hE3 ha3 ?_
  clear hev2
  intro n4 e4' s4 ρ4 a4 w4 hev4 hF4 hS4 hE4 ha4
  replace hF4 := hF3.trans hF4
  clear hF3 hS3 hE3 ha3
  refine sok_step hG (mu := true) (fz := []) (nt := 62) (by kernel_rfl) hev4 hS4 hE4 ha4 ?_
  clear hev3
  intro n5 e5' s5 ρ5 a5 w5 hev5 hF5 hS5 hE5 ha5
  replace hF5 := hF4.trans hF5
  clear hF4 hS4 hE4 ha4
  refine sok_step hG (mu := true) (fz := []) (nt := 62) (by kernel_rfl) hev5 hS5 hE5 ha5 ?_
  clear hev4
  intro n6 e6' s6 ρ6 a6 w6 hev6 hF6 hS6 hE6 ha6
  replace hF6 := hF5.trans hF6
  clear hF5 hS5 hE5 ha5
  refine sok_step hG (mu := true) (fz := []) (nt := 62) (by kernel_rfl) hev6 hS6 hE6 ha6 ?_
  clear hev5
  intro n7 e7' s7 ρ7 a7 w7 hev7 hF7 hS7 hE7 ha7
  replace hF7 := hF6.trans hF7
  clear hF6 hS6 hE6 ha6
  clear hev6
  refine wpIn_seq ?_
  refine sok_last hG (mu := true) (fz := []) (nt := 62) (by kernel_rfl) hev7 hS7 hE7 ha7 ?_
  clear hev7
  intro ρ8 a8 w8 hF8 hS8 hE8 ha8
  replace hF8 := hF7.trans hF8
  clear hF7 hS7 hE7 ha7
  refine wpIn_block ?_
  obtain ⟨Ls, hLs⟩ : ∃ Ls, Ls = isort ltL (L.map nfl) := ⟨_, rfl⟩
  rw [← hLs] at mlv
  have hv50 := hE8.1 50
  have hv4 := hE8.1 4
  have hv2 := hE8.1 2
  rw [e50] at hv50
  rw [e4] at hv4
  rw [e2] at hv2
  obtain ⟨tm, htm⟩ : ∃ tm, tm = a8.tmps := ⟨_, rfl⟩
  have hsz : tm.size = 62 := by rw [htm]; exact ha8.1
  have hdf := ha8.2
  obtain ⟨tms, dfs⟩ := a8
  simp only at htm hdf hv50 hv4 hv2
  subst htm hdf
  obtain ⟨t50, ht50⟩ : ∃ x, x = tm.getD 50 undef := ⟨_, rfl⟩
  obtain ⟨t4, ht4⟩ : ∃ x, x = tm.getD 4 undef := ⟨_, rfl⟩
  obtain ⟨t2, ht2⟩ : ∃ x, x = tm.getD 2 undef := ⟨_, rfl⟩
  rw [← ht50] at hv50
  rw [← ht4] at hv4
  rw [← ht2] at hv2
  cases hv4 with | ptr _ _ hqi hqp =>
  cases hv2 with | ptr _ _ hri hrp =>
  cases hv50 with | func _ _ vs50 hvs50 =>
  obtain ⟨x50, rfl, hx50⟩ := argv1 hvs50
  cases hx50 with | ptr _ _ hci hcp =>
  obtain ⟨-, lbc, vsc, rsc, tyc', hhc, hvc, htc⟩ := hS8.cells c _ oc hcp
  obtain ⟨lvv, rfl, hlv⟩ := argv1 hvc
  obtain ⟨-, lbq, vsq, rsq, tyq, hhq, hvq, htq⟩ := hS8.cells q _ oq hqp
  obtain ⟨y0, y1, y2, y3, y4, y5, y6, y7, y8, y9, y10, y11, y12, y13, y14, y15, y16, y17, y18, y19, y20, y21, y22, y23, y24, y25, y26, y27, y28, y29, y30, y31, y32, y33, y34, y35, y36, y37, y38, y39, y40, y41, y42, y43, y44, y45, y46, y47, y48, y49, y50, y51, y52, y53, y54, y55, y56, y57, y58, y59, y60, y61, rfl⟩ := arr62 tm hsz
  obtain rfl : Value.func (.func 73) #[] #[.pointer (some ⟨ρ8.blk c, 0, none⟩)] = y50 := ht50
  obtain rfl : Value.pointer (some ⟨ρ8.blk q, 0, none⟩) = y4 := ht4
  obtain rfl : Value.pointer (some ⟨ρ8.blk (s.size + 1), 0, none⟩) = y2 := ht2
  have hblk : ∀ i j, (∃ ci, S.obj i = some (.cells ci)) → (∃ cj, S.obj j = some (.cells cj)) → ρ8.pend i = false → ρ8.pend j = false → i ≠ j → ρ8.blk i ≠ ρ8.blk j := by
    rintro i j ⟨ci, hi⟩ ⟨cj, hj⟩ hpi hpj hne he
    have h1 := (hS8.cells i ci hi hpi).2.1
    have h2 := (hS8.cells j cj hj hpj).2.1
    rw [he, h2] at h1
    cases h1; exact hne rfl
  have hbo : ρ8.blk q < w8.heap.size := (Array.getElem?_eq_some_iff.1 hhq).1
  have hbne : ρ8.blk c ≠ ρ8.blk q := hblk c q ⟨_, oc⟩ ⟨_, oq⟩ hcp hqp (by omega)
  obtain ⟨lb, hlb⟩ : ∃ lb, lb = lbOf ρ8 s.size (s.size + 1) := ⟨_, rfl⟩
  have hcarS : Carry ρ8 w8 (rhoX ρ8 lb w8.heap.size (ρ8.blk q) w8) w8 := fun b o v hi hc => ⟨immX.2 ⟨fun e => by
    subst e
    unfold Imm at hi
    rw [lbq] at hi
    exact hi, Or.inl ⟨imm_lt hS8 hi, by
      rw [hlb]
      unfold lbOf
      unfold Imm at hi
      cases hlab : ρ8.lab b <;> rw [hlab] at hi <;> first | exact hi | exact hi.elim⟩⟩, hc⟩
  -- the tail
  have hout : OutAt ρ8 lb w8.heap.size (ρ8.blk q) tyq rsq.toArray (nf z) w8 := by
    cases hvq with | cons _ v0 _ _ h0 hv => cases hv with | cons _ v1 _ _ h1 hv => cases hv with | cons _ v2 _ _ h2 hv => cases hv with | cons _ v3 _ _ h3 hv =>
    cases hv; cases h0; cases h1; cases h2
    rw [nf_oth (spn_end hs)]
    refine ⟨v3, ?_, ?_⟩
    · simp only [U1.kof_mk, U1.nof_mk, U1.vof_mk]
      simpa using hhq
    · simp only [U1.lof_mk]
      rw [tycs_flat]
      rcases mov with ⟨rfl, hm⟩ | ⟨rfl, hm⟩ | ⟨p, rfl, hop, hpS⟩
      · rw [hm]; cases h3; exact .sl0 none 0 false none (by simp) (fun _ => rfl) (by simp)
      · rw [hm]; exact sl_carry hcarS (fun vs h => by cases h; exact .nil) h3
      · have hpf := fov _ _ _ _ rfl
        cases h3 with
        | msl _ _ _ cap _ hpi hpp hlc htot =>
          obtain ⟨-, lbp, vsp, rsp, typ, hhp, hvp, htp⟩ := hS8.cells p _ hop hpp
          have hpq : ρ8.blk p ≠ ρ8.blk q := hblk p q ⟨_, hop⟩ ⟨_, oq⟩ hpp hqp (by omega)
          refine .sl _ vsp (ρ8.blk p) 0 _ cap false none ?_ (fun j v hj => ⟨immX.2 ⟨hpq, Or.inl ⟨(Array.getElem?_eq_some_iff.1 hhp).1, by rw [hlb]; unfold lbOf; rw [lbp]; simp only []; rw [if_neg (by omega), if_pos (by omega)]; trivial⟩⟩, ?_⟩) (by simp) hlc (by simp)
          · rw [← tycs_flat] at hvp ⊢
            exact tycs_carry hcarS _ _ hvp
          · have hlt := (List.getElem?_eq_some_iff.1 hj).1
            simp [World.cell?, hhp, List.getElem?_append_left hlt, hj]
  have hcc : w8.cell? ⟨ρ8.blk c, 0, none⟩ = some lvv := by simp [World.cell?, hhc]
  -- the labels
  obtain ⟨b, cap, ad, sv, hlvv, had, hbq, hc0, hc1, hc2, hc3, hsv⟩ : ∃ (b cap : Nat) (ad : Option Addr) (sv : Fin Ls.length → Value), lvv = .slice ad Ls.length cap ∧ (0 < Ls.length → ad = some ⟨b, 0, none⟩) ∧ (0 < Ls.length → b ≠ ρ8.blk q) ∧
      (∀ j : Fin Ls.length, w8.cell? ⟨b, 0 + j.1 * 4, none⟩ = some (.int .i64 0)) ∧ (∀ j : Fin Ls.length, w8.cell? ⟨b, 0 + j.1 * 4 + 1, none⟩ = some (.string (Ls[j].1))) ∧
      (∀ j : Fin Ls.length, w8.cell? ⟨b, 0 + j.1 * 4 + 2, none⟩ = some (.int .i64 0)) ∧ (∀ j : Fin Ls.length, w8.cell? ⟨b, 0 + j.1 * 4 + 3, none⟩ = some (sv j)) ∧
      (∀ j : Fin Ls.length, V (rhoX ρ8 lb w8.heap.size (ρ8.blk q) w8) w8 0 (.sl (tyc Ls[j].2) 1 false none) (sv j)) := by
    rcases mlv with ⟨rfl, hm⟩ | ⟨rfl, hm⟩ | ⟨p, rfl, hop, hpS⟩
    · subst hm
      cases hlv
      exact ⟨0, 0, none, fun x => x.elim0, rfl, fun h => by simp at h, fun h => by simp at h, fun x => x.elim0, fun x => x.elim0, fun x => x.elim0, fun x => x.elim0, fun x => x.elim0⟩
    · subst hm
      cases hlv with
      | sl _ vs b o _ cap _ _ hvs ha hf hl ht => exact ⟨0, cap, some ⟨b, o, none⟩, fun x => x.elim0, rfl, fun h => by simp at h, fun h => by simp at h, fun x => x.elim0, fun x => x.elim0, fun x => x.elim0, fun x => x.elim0, fun x => x.elim0⟩
      | sl0 a cap _ _ hf ha ht => exact ⟨0, cap, a, fun x => x.elim0, rfl, fun h => by simp at h, fun h => by simp at h, fun x => x.elim0, fun x => x.elim0, fun x => x.elim0, fun x => x.elim0, fun x => x.elim0⟩
    · obtain ⟨hp1, hp2⟩ := flv _ _ _ _ rfl
      cases hlv with
      | msl _ _ _ cap _ hpi hpp hlc htot =>
        obtain ⟨-, lbp, vsp, rsp, typ, hhp, hvp, htp⟩ := hS8.cells p _ hop hpp
        have hpq : ρ8.blk p ≠ ρ8.blk q := hblk p q ⟨_, hop⟩ ⟨_, oq⟩ hpp hqp (by omega)
        have hget : ∀ (j : Nat) u, vsp[j]? = some u → w8.cell? ⟨ρ8.blk p, 0 + j, none⟩ = some u := fun j u hj => by
          have hlt := (List.getElem?_eq_some_iff.1 hj).1
          simp [World.cell?, hhp, List.getElem?_append_left hlt, hj]
        have hlab := fun (j : Fin Ls.length) => labs_vs Ls vsp hvp j.1 Ls[j] (by simp)
        refine ⟨ρ8.blk p, cap, some ⟨ρ8.blk p, 0, none⟩, fun j => (vsp[j.1 * 4 + 3]?).getD undef, rfl, fun _ => rfl, fun _ => hpq, fun j => hget _ _ (hlab j).1, fun j => ?_, fun j => ?_, fun j => ?_, fun j => ?_⟩
        · have := hget _ _ (hlab j).2.1
          rwa [← Nat.add_assoc] at this
        · have := hget _ _ (hlab j).2.2.1
          rwa [← Nat.add_assoc] at this
        · obtain ⟨u, hu, -⟩ := (hlab j).2.2.2
          have := hget _ _ hu
          rw [← Nat.add_assoc] at this
          simp only [hu, Option.getD_some]; exact this
        · obtain ⟨u, hu, hV⟩ := (hlab j).2.2.2
          simp only [hu, Option.getD_some]
          exact sl_carry hcarS (fun vs h => tyc_carry hcarS _ _ h) hV
  have hreach : Ls.length * 56 ≤ 140737488351232 := by
    rw [hLs, isort_len, List.length_map]
    have : L.length ≤ big := by
      have : ∀ (t : Tm) (L : List Lb) (z : Tm), Spn t L z → L.length ≤ tsz t := by
        intro t L z h
        induction h with
        | nil => simp
        | cons n v a r L e h ih => rw [tsz, tszs, tszs, tszs, List.length_cons]; omega
      have := this _ _ _ hs
      omega
    unfold big at this
    omega
  have key := fun {Q} => range_law (Q := Q) ρ8 lb Ls (nf z) (ρ8.blk c) (ρ8.blk q) lvv tyq rsq.toArray w8 y0 y1 (.pointer (some ⟨ρ8.blk (s.size + 1), 0, none⟩)) y3 y5 y6 y7 y8 y9 y10 y11 y12 y13 y14 y15 y16 y17 y18 y19 y20 y21 y22 y23 y24 y25 y26 y27 y28 y29 y30 y31 y32 y33 y34 y35 y36 y37 y38 y39 y40 y41 y42 y43 y44 y45 y46 y47 y48 y49 y51 y52 y53 y54 y55 y56 y57 y58 y59 y60 y61 hcc hbne hbo b cap sv ad hlvv had hbq hreach hc0 hc1 hc2 hc3 hsv hout
  refine key ?_
  intro D W9 hD hkb9 hout9 hDe
  obtain ⟨-, lbr, vsr, rsr, tyr, hhr, hvr, htr⟩ := hS8.cells (s.size + 1) _ o2 hrp
  have hrq : ρ8.blk (s.size + 1) ≠ ρ8.blk q := hblk _ q ⟨_, o2⟩ ⟨_, oq⟩ hrp hqp (by omega)
  have hrlt : ρ8.blk (s.size + 1) < w8.heap.size := (Array.getElem?_eq_some_iff.1 hhr).1
  have hhr9 := (hkb9.block _ hrlt hrq).trans hhr
  cases hvr with | cons _ v0 _ _ h0 hv => cases hv with | cons _ v1 _ _ h1 hv => cases hv with | cons _ v2 _ _ h2 hv => cases hv with | cons _ v3 _ _ h3 hv =>
  cases hv; cases h0; cases h1; cases h2; cases h3
  obtain ⟨rr, hrr⟩ : ∃ rr, rr = ρ8.blk (s.size + 1) := ⟨_, rfl⟩
  obtain ⟨bo, hbo'⟩ : ∃ bo, bo = ρ8.blk q := ⟨_, rfl⟩
  obtain ⟨u, hho, hVo⟩ := hout9
  obtain ⟨ux, un, uc, rfl⟩ := sl_form hVo
  obtain ⟨tn, htn⟩ : ∃ tn, tn = bld Ls (nf z) := ⟨_, rfl⟩
  have hnf : nf t = tn := by rw [nf_spn hs, htn, hLs]
  rw [← htn] at hho hVo
  rw [← hrr] at hhr9
  rw [← hrr, ← hbo']
  rw [← hbo'] at hho
  have q0 : W9.cell? ⟨bo, 0, none⟩ = some (.int .i64 (kof tn)) := by simp [World.cell?, hho, Array.getElem?_append]
  have q1 : W9.cell? ⟨bo, 1, none⟩ = some (.string (nof tn)) := by simp [World.cell?, hho, Array.getElem?_append]
  have q2 : W9.cell? ⟨bo, 2, none⟩ = some (.int .i64 (vof tn)) := by simp [World.cell?, hho, Array.getElem?_append]
  have q3 : W9.cell? ⟨bo, 3, none⟩ = some (.slice ux un uc) := by simp [World.cell?, hho, Array.getElem?_append]
  have p0 : W9.cell? ⟨rr, 0, none⟩ = some (.int .i64 0) := by simp [World.cell?, hhr9]
  have p1 : W9.cell? ⟨rr, 1, none⟩ = some (.string ⟨#[]⟩) := by simp [World.cell?, hhr9]
  have p2 : W9.cell? ⟨rr, 2, none⟩ = some (.int .i64 0) := by simp [World.cell?, hhr9]
  have p3 : W9.cell? ⟨rr, 3, none⟩ = some (.slice none 0 0) := by simp [World.cell?, hhr9]
  have f0 := frz_cells hhr9 0
  have f1 := frz_cells hhr9 1
  have f2 := frz_cells hhr9 2
  have f3 := frz_cells hhr9 3
  have H1 : Hid (nf t = tn) := hnf
  have H2 : Hid (rr = ρ8.blk (s.size + 1)) := hrr
  have H3 : Hid (bo = ρ8.blk q) := hbo'
  clear hnf hrr hbo' htn
  gi_wp2
  change bodyPostM _ _ _ _ _ _ _ (set4 W9 rr _ _ _ _)
  obtain ⟨WF, hWF⟩ : ∃ WF, WF = set4 W9 rr (.int .i64 (kof tn)) (.string (nof tn)) (.int .i64 (vof tn)) (.slice ux un uc) := ⟨_, rfl⟩
  rw [← hWF]
  have hrD : rr ≠ D := by rw [H2.out]; omega
  have hK' : WF.heap[D]? = some (.deferred (some [])) := by rw [hWF, set4_ne (Ne.symm hrD)]; exact hDe
  refine ⟨by simp, .inl ⟨_, _, rfl, run_takeDeferred hK', ?_⟩⟩
  obtain ⟨WE, hWE⟩ : ∃ WE, WE = WF.putObj D (.deferred none) := ⟨_, rfl⟩
  have hg := grownBy_putObj' WF D (.deferred none)
  rw [← hWE] at hg ⊢
  have hDl : D < WF.heap.size := (Array.getElem?_eq_some_iff.1 hK').1
  have hsF : WF.heap.size = W9.heap.size := by rw [hWF, set4_size]
  have hblkE : ∀ k, k < WF.heap.size → k ≠ D → WE.heap[k]? = WF.heap[k]? := fun k hk hn => hg.block k hk (fun e => by cases e; exact hn rfl)
  have hrF : rr < WF.heap.size := by rw [hsF]; exact (Array.getElem?_eq_some_iff.1 hhr9).1
  have hhF : WF.heap[rr]? = some (.cells (#[.int .i64 (kof tn), .string (nof tn), .int .i64 (vof tn), .slice ux un uc] ++ rsr.toArray) tyr (0, 0)) := by
    rw [hWF]; exact set4_at (by simpa using hhr9)
  have hhE := (hblkE rr hrF hrD).trans hhF
  have g0 : WE.cell? ⟨rr, 0, none⟩ = some (.int .i64 (kof tn)) := by simp [World.cell?, hhE, Array.getElem?_append]
  have g1 : WE.cell? ⟨rr, 1, none⟩ = some (.string (nof tn)) := by simp [World.cell?, hhE, Array.getElem?_append]
  have g2 : WE.cell? ⟨rr, 2, none⟩ = some (.int .i64 (vof tn)) := by simp [World.cell?, hhE, Array.getElem?_append]
  have g3 : WE.cell? ⟨rr, 3, none⟩ = some (.slice ux un uc) := by simp [World.cell?, hhE, Array.getElem?_append]
  refine ⟨.agg #[.int .i64 (kof tn), .string (nof tn), .int .i64 (vof tn), .slice ux un uc], ?_, ?_⟩
  · simp [results, Tryd.f24, go_sem, g0, g1, g2, g3]
  · have hsE : w8.heap.size ≤ WE.heap.size := Nat.le_trans hkb9.size (by rw [← hsF]; exact hg.size)
    have hsb := sim_back (W' := WE) (r := s.size + 1) hS hF8 hS8 hkS (by omega) lbq (by omega) lbr (by rw [hg.os, hWF]; exact hkb9.os) (by rw [hg.tape, hWF]; exact hkb9.tape) (by rw [hg.output, hWF]; exact hkb9.output) hsE (fun b hb h1 h2 => by
      have hb9 : b < WF.heap.size := by rw [hsF]; exact Nat.lt_of_lt_of_le hb hkb9.size
      rw [hblkE b hb9 (by omega), hWF, set4_ne (by rw [H2.out]; exact h2)]
      exact hkb9.block b hb h1)
    refine ⟨_, _, rfl, hsb.1, hsb.2, ?_⟩
    rw [H1.out]
    rw [← hlb]
    have hcE : Carry (rhoX ρ8 lb w8.heap.size (ρ8.blk q) W9) W9 (rhoX ρ8 lb w8.heap.size (ρ8.blk q) WE) WE := fun b o v hi hc => by
      have hnr : b ≠ rr := fun e => by
        obtain ⟨-, ⟨-, h⟩ | ⟨h, -⟩⟩ := immX.1 hi
        · rw [hlb, e, H2.out] at h
          unfold lbOf at h
          rw [lbr] at h
          simp [ImmL] at h
        · rw [e, H2.out] at h; omega
      refine ⟨immX_le (by rw [← hsF]; exact hg.size) hi, ?_⟩
      have hbl := cell_lt hc
      have hDb : b ≠ D := fun e => by
        subst e
        simp [World.cell?, hDe] at hc
      have h1 : WE.heap[b]? = W9.heap[b]? := by rw [hblkE b (by rw [hsF]; exact hbl) hDb, hWF, set4_ne hnr]
      exact (World.cell?_of_block (w := W9) h1).trans hc
    have hfin := sl_carry (m := s.size) hcE (tycs_carry hcE _) hVo
    rw [tyc_w, U1.tyw]
    exact .agg _ [.int .i64 (kof tn), .string (nof tn), .int .i64 (vof tn), .slice ux un uc] (.cons _ _ _ _ (.int _ _) (.cons _ _ _ _ (.str _) (.cons _ _ _ _ (.int _ _) (.cons _ _ _ _ hfin .nil))))

theorem norm_all : ∀ n, n ≤ big → ∀ args s v s', normX n args s = some (v, s') → CallC G0 Tryd.prog 24 args s v s'
  | 0, _ => fun args s v s' h => by
    obtain ⟨t, a, -, -, -, ht, -⟩ := normX_inv h
    omega
  | n + 1, hn => norm_step n (by omega) (norm_all n (by omega))
noncomputable def Xb : Ext := Xn big
theorem Xb_none (f : Nat) (h : f ≠ 24) : Xb f = none := if_neg h
theorem hXb : ∀ f h, Xb f = some h → ∀ args s v s', h args s = some (v, s') → CallC G0 Tryd.prog f args s v s' := by
  intro f h hx args s v s' hh
  unfold Xb Xn at hx
  split at hx
  · rename_i hf; cases hx; subst hf; exact norm_all big (Nat.le_refl _) args s v s' hh
  · cases hx
theorem norm_law {t : Tm} {w : AV} (h1 : ISl tyc w (lof t)) (h2 : Val t) (h3 : tsz t < big) (s : St) : WC T Xb 24 [.agg (U1.tyw t w)] s (fun v s' => v = .agg (tyc (nf t)) ∧ s' = s) := norm_wc h1 h2 h3 s
#print axioms hXb
end Go.Am.U2

/- The normal form has as many nodes. Conditions: none. -/
namespace Go.Am
namespace Un
open Go.So

/-! ### Sizes -/
def lsz (L : List Lb) : Nat := (L.map fun x => 1 + tsz x.2).sum
theorem bld_tsz : ∀ (L : List Lb) (e : Tm), tsz (bld L e) = lsz L + tsz e
  | [], e => by simp [bld, lsz]
  | x :: L, e => by
    rw [bld, tsz, tszs, tszs, tszs, bld_tsz L e]
    simp only [lsz, List.map_cons, List.sum_cons]
    omega
theorem spn_tsz {t : Tm} {L : List Lb} {e : Tm} (h : Spn t L e) : tsz t = lsz L + tsz e := by
  induction h with
  | nil t h => simp [lsz]
  | cons n v a r L e h ih =>
    rw [tsz, tszs, tszs, tszs, ih]
    simp only [lsz, List.map_cons, List.sum_cons]
    omega
theorem ins_lsz (x : Lb) : ∀ L : List Lb, lsz (ins ltL x L) = 1 + tsz x.2 + lsz L
  | [] => by simp [Go.So.ins, lsz]
  | y :: L => by
    rw [Go.So.ins]
    split
    · have := ins_lsz x L
      simp only [lsz, List.map_cons, List.sum_cons] at this ⊢
      omega
    · simp only [lsz, List.map_cons, List.sum_cons]
theorem isort_lsz : ∀ L : List Lb, lsz (isort ltL L) = lsz L
  | [] => rfl
  | x :: L => by
    have := isort_lsz L
    rw [show isort ltL (x :: L) = ins ltL x (isort ltL L) from rfl, ins_lsz, this]
    simp [lsz]
theorem tszs_sum : ∀ l : List Tm, tszs l = (l.map tsz).sum
  | [] => by rw [tszs]; rfl
  | t :: r => by rw [tszs, tszs_sum r]; simp
theorem nf_tsz : ∀ (n : Nat) (t : Tm), tsz t ≤ n → Val t → tsz (nf t) = tsz t := by
  intro n
  induction n with
  | zero => intro t h; cases t; rw [tsz] at h; omega
  | succ n ih =>
    intro t h hv
    obtain ⟨L, e, hs⟩ := spn_of _ t (Nat.le_refl _) hv
    obtain ⟨h1, h2, h3⟩ := spn_mem hs
    have he := spn_end hs
    have hL : lsz (L.map nfl) = lsz L := by
      simp only [lsz, List.map_map]
      congr 1
      refine List.map_congr_left fun x hx => ?_
      obtain ⟨h8, h9⟩ := h1 x hx
      show 1 + tsz (nf x.2) = 1 + tsz x.2
      rw [ih x.2 (by omega) (h9 hv)]
    have hE : tsz (nf e) = tsz e := by
      rw [nf_oth he]
      obtain ⟨k, m, v, l⟩ := e
      rw [tsz, tsz, tszs_sum, tszs_sum]
      simp only [lof, List.map_map]
      congr 2
      refine List.map_congr_left fun a ha => ?_
      have := tsz_mem (t := .mk k m v l) ha
      exact ih a (by omega) (val_arg (h3 hv) ha)
    rw [nf_spn hs, bld_tsz, isort_lsz, hL, hE, spn_tsz hs]

end Un
end Go.Am
