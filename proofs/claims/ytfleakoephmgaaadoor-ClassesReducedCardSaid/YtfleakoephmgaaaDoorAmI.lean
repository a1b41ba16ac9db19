/- One operation: what the abstract machine says of it holds of Go's. Conditions: none. -/
import Derived.Test.YtfleakoephmgaaaDoorAmG
import Derived.Laws.Tables
import Derived.Lib.ConvBytes
import Derived.Laws.AppendOwn
set_option linter.unusedSimpArgs false
set_option linter.unusedVariables false
namespace Go.Am

section
variable {G : Glob} {P : Program} {ρ : Rho} {w : World} {n : Nat} {e : Env} {a : Act}

theorem fold_setV (off : Nat) : ∀ (us : List Value) (k : Nat) (cs : List Value),
    ((us.zipIdx k).foldl (fun (cs : Array Value) (p : Value × Nat) => cs.setIfInBounds (off + p.2) p.1) cs.toArray) = (setV cs (off + k) us).toArray
  | [], _, _ => rfl
  | u :: us, k, cs => by
    simp only [List.zipIdx_cons, List.foldl_cons, setV]
    rw [List.setIfInBounds_toArray, fold_setV off us (k + 1) (cs.set (off + k) u)]
    rfl

inductive PRel (G : Glob) (place : Nat → Option (Nat × Nat)) : List (Nat × Operand) → List (Nat × Nat × Opd) → Prop
  | nil : PRel G place [] []
  | cons (i : Nat) (x : Operand) (off sz : Nat) (o : Opd) (ps : List (Nat × Operand)) (cs : List (Nat × Nat × Opd)) (hp : place i = some (off, sz)) (hx : cO G x = some o) (h : PRel G place ps cs) :
      PRel G place ((i, x) :: ps) ((off, sz, o) :: cs)

theorem fill_sound (hE : EnvR G ρ w n e a.tmps) {place : Nat → Option (Nat × Nat)} : ∀ {ps : List (Nat × Operand)} {cps : List (Nat × Nat × Opd)}, PRel G place ps cps →
    ∀ {cells out : List AV} {vs : List Value}, fillA cells e cps = some out → Vs ρ w n cells vs →
      ∃ us : List Value, Instr.fill place vs.toArray (ps.map fun p => (p.1, a.eval p.2)) = some us.toArray ∧ Vs ρ w n out us
  | _, _, .nil, cells, out, vs, h, hv => by
    cases h
    exact ⟨vs, rfl, hv⟩
  | _, _, .cons i x off sz o ps cs hp hx hr, cells, out, vs, h, hv => by
    simp only [fillA] at h
    split at h
    · rename_i hc
      have hV := cO_sound hE hx
      have hcells := V.cells hV
      have hlen := hcells.length
      rw [Array.length_toList] at hlen
      have hvl := hv.length
      obtain ⟨us, hus, hVs⟩ := fill_sound hE hr h (setAt_V off hcells hv)
      refine ⟨us, ?_, hVs⟩
      simp only [List.map_cons, Instr.fill, hp]
      rw [if_neg (by simp; omega)]
      rw [← hus]
      congr 1
      have := fold_setV off (a.eval x).cells.toList 0 vs
      rw [Nat.add_zero] at this
      rw [← this, ← Array.foldl_toList, Array.toList_zipIdx]
    · cases h

theorem prelS {pl : List (Nat × Nat)} : ∀ {ps : List (Nat × Operand)} {cps : List (Nat × Nat × Opd)}, cPartsS G pl ps = some cps → PRel G (fun i => pl.toArray[i]?) ps cps
  | [], _, h => by cases h; exact .nil
  | (i, x) :: r, cps, h => by
    simp only [cPartsS] at h
    split at h
    · rename_i off sz o ps h1 h2 h3
      cases h
      exact .cons i x off sz o r ps (by simpa using h1) h2 (prelS h3)
    · cases h

theorem prelA {sz : Nat} : ∀ {ps : List (Nat × Operand)} {cps : List (Nat × Nat × Opd)}, cPartsA G sz ps = some cps → PRel G (fun i => some (i * sz, sz)) ps cps
  | [], _, h => by cases h; exact .nil
  | (i, x) :: r, cps, h => by
    simp only [cPartsA] at h
    split at h
    · rename_i o ps h2 h3
      cases h
      exact .cons i x _ _ o r ps rfl h2 (prelA h3)
    · cases h

def repV (zs : List Value) : Nat → List Value
  | 0 => []
  | n + 1 => zs ++ repV zs n

theorem repV_eq (z : Array Value) (k : Nat) (hk : z.size = k) (h0 : 0 < k) : ∀ m : Nat, (List.range (m * k)).map (fun i => z[i % k]!) = repV z.toList m
  | 0 => by simp [repV]
  | m + 1 => by
    rw [Nat.add_mul, Nat.one_mul, Nat.add_comm, List.range_add, List.map_append, List.map_map, repV]
    congr 1
    · apply List.ext_getElem
      · simp [hk]
      · intro i h1 h2
        simp at h1
        simp [Nat.mod_eq_of_lt h1, hk, h1]
    · rw [← repV_eq z k hk h0 m]
      apply List.map_congr_left
      intro i _
      simp

theorem rep_V {zs : List AV} {vs : List Value} (h : Vs ρ w n zs vs) : ∀ m : Nat, Vs ρ w n (repCells zs m) (repV vs m)
  | 0 => .nil
  | m + 1 => h.append (rep_V h m)

theorem zero_sound {t : TypeId} {zs : List AV} (h : zeroOf P t = some zs) : ∃ i z, P.info? t = some i ∧ i.zero = some z ∧ ∀ ρ w n, Vs ρ w n zs z.cells.toList := by
  unfold zeroOf at h
  split at h
  · rename_i i hi
    split at h
    · rename_i z hz
      exact ⟨i, z, hi, hz, fun ρ w n => Vs.ofVs h⟩
    · cases h
  · cases h

theorem zero_run {t : TypeId} {i : TypeInfo} {z : Value} (hi : P.info? t = some i) (hz : i.zero = some z) (w : World) : (zeroValue t).run P w = .ok z w := by
  simp [zeroValue, info_run hi, hz]

end

theorem pushW_eq (w : World) (o : Obj) : pushW w o = w.alloc o := rfl

/-- What an operation comes to that is no call. -/
def OpRes (P : Program) (o : Oper) (a : Act) (ρ : Rho) (s : St) (w : World) (v : AV) (s' : St) : Prop :=
  ∃ ρ' w', Fr ρ s w ρ' s' w' ∧ Sim ρ' s' w' ∧
    ((∃ v', (execOp a.eval o).run P w = .ok (.value v') w' ∧ V ρ' w' s'.size v v') ∨ ((execOp a.eval o).run P w = .ok .skip w' ∧ v = undefA))

section
variable {G : Glob} {P : Program} {ρ : Rho} {s : St} {w : World} {a : Act} {o : Oper}

theorem res_still {v : AV} {v' : Value} (hS : Sim ρ s w) (h : (execOp a.eval o).run P w = .ok (.value v') w) (hV : V ρ w s.size v v') : OpRes P o a ρ s w v s :=
  ⟨ρ, w, Fr.refl _ _ _, hS, Or.inl ⟨v', h, hV⟩⟩

theorem res_sem {v : AV} {x : Sem Value} (hS : Sim ρ s w) (hx : execOp a.eval o = (do pure (.value (← x)))) (h : ∃ v', x.run P w = .ok v' w ∧ V ρ w s.size v v') : OpRes P o a ρ s w v s := by
  obtain ⟨v', hr, hV⟩ := h
  exact res_still hS (by rw [hx]; simp [hr]) hV

theorem alloc_sound {t : TypeId} {zs : List AV} (hS : Sim ρ s w) (h : zeroOf P t = some zs) (ho : o.op = .alloc t) : OpRes P o a ρ s w (.ptr s.size 0) (s.new (.cells zs)) := by
  obtain ⟨i, z, hi, hz, hv⟩ := zero_sound h
  obtain ⟨hF, hS'⟩ := new_obj hS (hv ρ w s.size) (rest := []) t
  refine ⟨_, _, hF, hS', Or.inl ⟨.pointer (some ⟨w.heap.size, 0, none⟩), ?_, ?_⟩⟩
  · simp [execOp, ho, Instr.alloc, zero_run hi hz, newVar, newRow, pushW_eq]
  · have := V.ptr (ρ := ρ.newObj w.heap.size s.size (z.cells.toList ++ []).length) (w := pushW w (.cells (z.cells.toList ++ []).toArray t (0, 0))) (n := (s.new (.cells zs)).size) s.size 0 (by simp [St.new]) (id (pend_new hS : ρ.pend s.size = false))
    have hb : (ρ.newObj w.heap.size s.size (z.cells.toList ++ []).length).blk s.size = w.heap.size := by simp [Rho.newObj]
    rw [hb] at this
    exact this

theorem box_sound {t : TypeId} {x : Operand} {av : AV} (hS : Sim ρ s w) (hV : V ρ w s.size av (a.eval x)) (ho : o.op = .box t x) : OpRes P o a ρ s w (.ptr s.size 0) (s.new (.cells av.cells)) := by
  obtain ⟨hF, hS'⟩ := new_obj hS hV.cells (rest := []) t
  refine ⟨_, _, hF, hS', Or.inl ⟨.pointer (some ⟨w.heap.size, 0, none⟩), ?_, ?_⟩⟩
  · simp [execOp, ho, Instr.box, newVar, newRow, pushW_eq]
  · have := V.ptr (ρ := ρ.newObj w.heap.size s.size ((a.eval x).cells.toList ++ []).length) (w := pushW w (.cells ((a.eval x).cells.toList ++ []).toArray t (0, 0))) (n := (s.new (.cells av.cells)).size) s.size 0 (by simp [St.new]) (id (pend_new hS : ρ.pend s.size = false))
    have hb : (ρ.newObj w.heap.size s.size ((a.eval x).cells.toList ++ []).length).blk s.size = w.heap.size := by simp [Rho.newObj]
    rw [hb] at this
    exact this

theorem build_sound {t : TypeId} {fs : Array Field} {ps : Array (Nat × Operand)} {zs out : List AV} {pl : List (Nat × Nat)} {cps : List (Nat × Nat × Opd)} {e : Env} (hS : Sim ρ s w) (hE : EnvR G ρ w s.size e a.tmps)
    (hu : P.underlying t = some (.struct fs)) (hz : zeroOf P t = some zs) (hpl : placesOf P fs = some pl) (hc : cPartsS G pl ps.toList = some cps) (h : fillA zs e cps = some out) (ho : o.op = .build t ps) :
    OpRes P o a ρ s w (.agg out) s := by
  obtain ⟨i, z, hi, hzz, hv⟩ := zero_sound hz
  obtain ⟨us, hus, hV⟩ := fill_sound hE (prelS hc) h (hv ρ w s.size)
  refine res_still hS (v' := .agg us.toArray) ?_ (.agg _ _ hV)
  have h1 := run_places (P := P) w fs.toList pl hpl
  have h2 : (List.map (fun p => (p.fst, a.eval p.snd)) ps.toList) = (Array.map (fun x => (x.1, a.eval x.2)) ps).toList := by simp
  rw [h2] at hus
  have h3 : z.cells.toList.toArray = z.cells := by simp
  rw [h3] at hus
  simp [execOp, ho, Instr.build, run_underlying hu, zero_run hi hzz, Array.mapM_eq_mapM_toList, h1]
  simp at hus
  rw [hus]
  rfl

theorem bsl_sound {t el : TypeId} {i : TypeInfo} {len : Nat} {ps : Array (Nat × Operand)} {zs out : List AV} {cps : List (Nat × Nat × Opd)} {e : Env} (hS : Sim ρ s w) (hE : EnvR G ρ w s.size e a.tmps)
    (hu : P.underlying t = some (.slice el)) (hi : P.info? el = some i) (hz : zeroOf P el = some zs) (h0 : 0 < i.size) (hzl : zs.length = i.size) (hlim : len * i.size ≤ 16777216)
    (hc : cPartsA G i.size ps.toList = some cps) (h : fillA (repCells zs len) e cps = some out) (hlen : out.length = len * i.size) (ho : o.op = .buildSlice t len ps) :
    OpRes P o a ρ s w (.sl (out.map AV.strip) len true none) s := by
  obtain ⟨i', z, hi', hzz, hv⟩ := zero_sound hz
  obtain rfl : i = i' := Option.some.inj (hi.symm.trans hi')
  have hzv := (hv ρ w s.size).length
  rw [Array.length_toList, hzl] at hzv
  obtain ⟨us, hus, hV⟩ := fill_sound hE (prelA hc) h (rep_V (hv ρ w s.size) len)
  obtain ⟨hF, hS'⟩ := new_ro hS us.toArray el
  refine ⟨_, _, hF, hS', Or.inl ⟨.slice (some ⟨w.heap.size, 0, none⟩) len len, ?_, ?_⟩⟩
  · have hrep : (Array.range (len * i.size)).map (fun j => (if len * i.size = 0 then #[] else z.cells)[j % (if len * i.size = 0 then #[] else z.cells).size]!) = (repV z.cells.toList len).toArray := by
      apply Array.ext'
      rw [← repV_eq z.cells i.size hzv h0 len]
      by_cases hl : len * i.size = 0
      · simp [hl]
      · simp [hl, hzv]
    have hlim' : ¬ (16777216 < len * i.size) := by omega
    have h2 : (List.map (fun p => (p.fst, a.eval p.snd)) ps.toList) = (Array.map (fun x => (x.1, a.eval x.2)) ps).toList := by simp
    rw [h2] at hus
    by_cases hl : len * i.size = 0
    · rw [if_pos hl] at hrep
      simp only [execOp, ho, Instr.buildSlice, Sem.run_bind, run_underlying hu, sizeOf_run hi, Result.andThen]
      simp [hl]
      simp [hl] at hrep
      rw [← hrep] at hus
      simp at hus
      rw [hus]
      simp [newRow, pushW_eq]
    · rw [if_neg hl] at hrep
      simp only [execOp, ho, Instr.buildSlice, Sem.run_bind, run_underlying hu, sizeOf_run hi, Result.andThen]
      rw [if_neg (by omega), if_neg hl]
      rw [← hrep] at hus
      simp [zero_run hi hzz]
      simp at hus
      rw [hus]
      simp [newRow, pushW_eq]
  · have hVs := (hV.mono hF.mono)
    have hvl := hV.length
    cases hq : len with
    | zero =>
      subst hq
      obtain rfl : out = [] := List.eq_nil_of_length_eq_zero (by simpa using hlen)
      exact .sl0 _ 0 true none (by simp) (by simp) (by simp)
    | succ m =>
      rw [← hq]
      refine .sl _ us w.heap.size 0 len len true none hVs.strip ?_ (by simp) (Nat.le_refl _) (by simp)
      intro j v hj
      refine ⟨by simp [Imm, ImmL, Rho.lay], ?_⟩
      simp only [World.cell?, heap_push_new]
      simpa using hj

theorem s2b_sound {src dst el : TypeId} {x : Operand} {t : ByteArray} (hS : Sim ρ s w) (hs : P.underlying src = some .string) (hd : P.underlying dst = some (.slice el)) (he : P.underlying el = some (.int .u8))
    (hX : a.eval x = .string t) (ho : o.op = .convert src dst x) : OpRes P o a ρ s w (.sl (t.data.toList.map fun b => .int .u8 b.toNat) t.size false none) s := by
  obtain ⟨hF, hS'⟩ := new_blk (w' := Lib.bytesWorld w el t) hS rfl rfl rfl (Lib.bytesWorld_size w el t) (fun b hb => Lib.bytesWorld_at_old w el t b hb)
  refine ⟨_, _, hF, hS', Or.inl ⟨.slice (some ⟨w.heap.size, 0, none⟩) t.size (grownCap w t.size 0 el), ?_, ?_⟩⟩
  · simp only [execOp, ho, hX, Sem.run_bind, Lib.run_convert_string_bytes w src dst el t hs hd he]
    rfl
  · refine .sl _ (t.data.toList.map fun b => .int .u8 b.toNat) w.heap.size 0 t.size _ false none ?_ ?_ (by simp) (grownCap_ge w t.size 0 el) (by simp)
    · generalize t.data.toList = l
      induction l with
      | nil => exact .nil
      | cons b l ih => exact .cons _ _ _ _ (.int _ _) ih
    · intro j v hj
      refine ⟨by simp [Imm, ImmL, Rho.lay], ?_⟩
      rw [List.getElem?_map] at hj
      cases hb : t.data.toList[j]? with
      | none => rw [hb] at hj; cases hj
      | some b =>
        rw [hb] at hj; cases hj
        have hlt : j < t.size := by have := (List.getElem?_eq_some_iff.1 hb).1; simpa using this
        rw [Nat.zero_add, Lib.bytesWorld_cell w el t j hlt, List.getD, hb]
        rfl

theorem store_sound {t : TypeId} {i : TypeInfo} {x y : Operand} {xa ya : AV} {s' : St} (hS : Sim ρ s w) (hi : P.info? t = some i) (hX : V ρ w s.size xa (a.eval x)) (hY : V ρ w s.size ya (a.eval y))
    (h : storeA s i.size xa ya = some s') (ho : o.op = .store t x y) : OpRes P o a ρ s w undefA s' := by
  unfold storeA at h
  split at h
  · rename_i j off
    split at h
    · rename_i cs hob
      split at h
      · rename_i hc
        obtain ⟨hl, hle, hone⟩ := hc
        cases h
        have hcy := V.cells hY
        have hyl := hcy.length
        have hjp : ρ.pend j = false := by
          generalize a.eval x = q at hX
          cases hX
          assumption
        obtain ⟨hj, hlab, vs, rest, ty, hh, hvs, htot⟩ := hS.cells j cs hob hjp
        have hvl := hvs.length
        have hst := storeCells_run (P := P) (a.eval y).cells.toList (o := off) (k := 0) hh (by rw [List.length_append]; omega) (ones_V hcy hone)
        rw [Nat.add_zero, setV_append _ _ _ _ (by omega)] at hst
        have htot' : (setV vs off (a.eval y).cells.toList ++ rest).length = ρ.tot j := by rw [List.length_append, setV_length, ← List.length_append]; exact htot
        obtain ⟨hF, hS'⟩ := put_obj hS (ty := ty) hob hjp (setAt_V off hcy hvs) htot'
        refine ⟨_, _, hF, hS', Or.inr ⟨?_, rfl⟩⟩
        have hx : a.eval x = .pointer (some ⟨ρ.blk j, off, none⟩) := by
          generalize a.eval x = q at hX
          cases hX
          rfl
        have hsz : (a.eval y).cells.size = i.size := by rw [← Array.length_toList, hyl, hl]
        simp only [execOp, ho, Instr.storeAt, hx, Instr.sureAddr, storeVar, Sem.run_bind, sizeOf_run hi, Result.andThen]
        simp [hsz, sizeOf_run hi, hst]
      · cases h
    · cases h
  · cases h

theorem builda_sound {t el : TypeId} {len : Nat} {i : TypeInfo} {ps : Array (Nat × Operand)} {zs out : List AV} {cps : List (Nat × Nat × Opd)} {e : Env} (hS : Sim ρ s w) (hE : EnvR G ρ w s.size e a.tmps)
    (hu : P.underlying t = some (.array len el)) (hi : P.info? el = some i) (hz : zeroOf P t = some zs) (hc : cPartsA G i.size ps.toList = some cps) (h : fillA zs e cps = some out) (ho : o.op = .build t ps) :
    OpRes P o a ρ s w (.agg out) s := by
  obtain ⟨i', z, hi', hzz, hv⟩ := zero_sound hz
  obtain ⟨us, hus, hV⟩ := fill_sound hE (prelA hc) h (hv ρ w s.size)
  refine res_still hS (v' := .agg us.toArray) ?_ (.agg _ _ hV)
  have h2 : (List.map (fun p => (p.fst, a.eval p.snd)) ps.toList) = (Array.map (fun x => (x.1, a.eval x.2)) ps).toList := by simp
  rw [h2] at hus
  have h3 : z.cells.toList.toArray = z.cells := by simp
  rw [h3] at hus
  simp [execOp, ho, Instr.build, run_underlying hu, zero_run hi' hzz, sizeOf_run hi]
  simp at hus
  rw [hus]
  rfl

theorem mksl_sound {t el : TypeId} {i : TypeInfo} {x y : Operand} {xa ya v : AV} {zs : List AV} {s' : St} (hS : Sim ρ s w) (hu : P.underlying t = some (.slice el)) (hi : P.info? el = some i) (hz : zeroOf P el = some zs) (h0 : 0 < i.size) (hb0 : 0 < i.bytes) (hzl : zs.length = i.size)
    (hX : V ρ w s.size xa (a.eval x)) (hY : V ρ w s.size ya (a.eval y)) (h : mkslA s i.size i.bytes zs xa ya = some (v, s')) (ho : o.op = .makeSlice t x y) : OpRes P o a ρ s w v s' := by
  unfold mkslA at h
  split at h
  · rename_i k1 n k2 c
    split at h
    · rename_i hc
      obtain ⟨hn0, hnc, hcb, hone⟩ := hc
      cases h
      obtain ⟨i', z, hi', hzz, hv⟩ := zero_sound hz
      obtain rfl : i = i' := Option.some.inj (hi.symm.trans hi')
      have hzv := (hv ρ w s.size).length
      rw [Array.length_toList, hzl] at hzv
      have hx : a.eval x = .int k1 n := by generalize a.eval x = q at hX; cases hX; rfl
      have hy : a.eval y = .int k2 c := by generalize a.eval y = q at hY; cases hY; rfl
      have hcs : c ≤ 140737488355328 := by
        have : c * 1 ≤ c * (i.bytes : Int) := Int.mul_le_mul_of_nonneg_left (by omega) (by omega)
        omega
      have hwn : IntKind.i64.wrap n = n := by rw [IntKind.wrap_i64]; omega
      have hwc : IntKind.i64.wrap c = c := by rw [IntKind.wrap_i64]; omega
      have htot : repV z.cells.toList c.toNat = repV z.cells.toList n.toNat ++ repV z.cells.toList (c.toNat - n.toNat) := by
        have : c.toNat = n.toNat + (c.toNat - n.toNat) := by omega
        conv => lhs; rw [this]
        generalize c.toNat - n.toNat = d
        induction n.toNat with
        | zero => simp [repV]
        | succ m ih => rw [Nat.add_right_comm, repV, ih, repV, List.append_assoc]
      obtain ⟨hF, hS'⟩ := new_obj hS (rep_V (hv ρ w s.size) n.toNat) (rest := repV z.cells.toList (c.toNat - n.toNat)) el
      refine ⟨_, _, hF, hS', Or.inl ⟨.slice (some ⟨w.heap.size, 0, none⟩) n.toNat c.toNat, ?_, ?_⟩⟩
      · have hcell : (Array.range (c.toNat * i.size)).map (fun j => (if c.toNat * i.size = 0 then #[] else z.cells)[j % (if c.toNat * i.size = 0 then #[] else z.cells).size]!) = (repV z.cells.toList c.toNat).toArray := by
          apply Array.ext'
          rw [← repV_eq z.cells i.size hzv h0 c.toNat]
          by_cases hl : c.toNat * i.size = 0
          · simp [hl]
          · simp [hl, hzv]
        have hbig : ¬ ((281474976710656 : Int) < (i.bytes : Int) * c) := by rw [Int.mul_comm]; omega
        have hneg : ¬ c < 0 := by omega
        have hneg2 : ¬ n < 0 := by omega
        have hlt : ¬ c < n := by omega
        rw [← htot, ← hcell]
        by_cases hl : c.toNat * i.size = 0
        · simp [execOp, ho, Instr.makeSlice, run_underlying hu, hx, hy, asInt, asIntOf, info_run hi, hwn, hwc, hbig, hneg, hneg2, hlt, sizeOf_run hi, hl, askRoom, newRow, pushW_eq]
        · simp [execOp, ho, Instr.makeSlice, run_underlying hu, hx, hy, asInt, asIntOf, info_run hi, hwn, hwc, hbig, hneg, hneg2, hlt, sizeOf_run hi, hl, askRoom, zero_run hi hzz, newRow, pushW_eq]
      · have hlen : (repV z.cells.toList n.toNat ++ repV z.cells.toList (c.toNat - n.toNat)).length = c.toNat * i.size := by
          rw [← htot]
          have hr : ∀ m, (repV z.cells.toList m).length = m * i.size := by
            intro m
            induction m with
            | zero => simp [repV]
            | succ m ih => rw [repV, List.length_append, ih, Array.length_toList, hzv, Nat.add_mul]; omega
          exact hr _
        have := V.msl (ρ := ρ.newObj w.heap.size s.size (repV z.cells.toList n.toNat ++ repV z.cells.toList (c.toNat - n.toNat)).length) (w := pushW w (.cells (repV z.cells.toList n.toNat ++ repV z.cells.toList (c.toNat - n.toNat)).toArray el (0, 0)))
          (n := (s.new (.cells (repCells zs n.toNat))).size) s.size 0 n.toNat c.toNat i.size (by simp [St.new]) (id (pend_new hS : ρ.pend s.size = false)) (by omega) (by simp only [Rho.newObj, if_true]; rw [hlen]; omega)
        have hb : (ρ.newObj w.heap.size s.size (repV z.cells.toList n.toNat ++ repV z.cells.toList (c.toNat - n.toNat)).length).blk s.size = w.heap.size := by simp [Rho.newObj]
        rw [hb] at this
        exact this
    · cases h
  · cases h

theorem bslm_sound {t el : TypeId} {i : TypeInfo} {len : Nat} {ps : Array (Nat × Operand)} {zs out : List AV} {cps : List (Nat × Nat × Opd)} {e : Env} (hS : Sim ρ s w) (hE : EnvR G ρ w s.size e a.tmps)
    (hu : P.underlying t = some (.slice el)) (hi : P.info? el = some i) (hz : zeroOf P el = some zs) (h0 : 0 < i.size) (hzl : zs.length = i.size) (hlim : len * i.size ≤ 16777216)
    (hc : cPartsA G i.size ps.toList = some cps) (h : fillA (repCells zs len) e cps = some out) (hlen : out.length = len * i.size) (ho : o.op = .buildSlice t len ps) :
    OpRes P o a ρ s w (.msl s.size 0 len i.size) (s.new (.cells out)) := by
  obtain ⟨i', z, hi', hzz, hv⟩ := zero_sound hz
  obtain rfl : i = i' := Option.some.inj (hi.symm.trans hi')
  have hzv := (hv ρ w s.size).length
  rw [Array.length_toList, hzl] at hzv
  obtain ⟨us, hus, hV⟩ := fill_sound hE (prelA hc) h (rep_V (hv ρ w s.size) len)
  obtain ⟨hF, hS'⟩ := new_obj hS hV (rest := []) el
  rw [List.append_nil] at hF hS'
  refine ⟨_, _, hF, hS', Or.inl ⟨.slice (some ⟨w.heap.size, 0, none⟩) len len, ?_, ?_⟩⟩
  · have hrep : (Array.range (len * i.size)).map (fun j => (if len * i.size = 0 then #[] else z.cells)[j % (if len * i.size = 0 then #[] else z.cells).size]!) = (repV z.cells.toList len).toArray := by
      apply Array.ext'
      rw [← repV_eq z.cells i.size hzv h0 len]
      by_cases hl : len * i.size = 0
      · simp [hl]
      · simp [hl, hzv]
    have hlim' : ¬ (16777216 < len * i.size) := by omega
    have h2 : (List.map (fun p => (p.fst, a.eval p.snd)) ps.toList) = (Array.map (fun x => (x.1, a.eval x.2)) ps).toList := by simp
    rw [h2] at hus
    by_cases hl : len * i.size = 0
    · rw [if_pos hl] at hrep
      simp only [execOp, ho, Instr.buildSlice, Sem.run_bind, run_underlying hu, sizeOf_run hi, Result.andThen]
      simp [hl]
      simp [hl] at hrep
      rw [← hrep] at hus
      simp at hus
      rw [hus]
      simp [newRow, pushW_eq]
    · rw [if_neg hl] at hrep
      simp only [execOp, ho, Instr.buildSlice, Sem.run_bind, run_underlying hu, sizeOf_run hi, Result.andThen]
      rw [if_neg (by omega), if_neg hl]
      rw [← hrep] at hus
      simp [zero_run hi hzz]
      simp at hus
      rw [hus]
      simp [newRow, pushW_eq]
  · have hvl := hV.length
    have := V.msl (ρ := ρ.newObj w.heap.size s.size us.length) (w := pushW w (.cells us.toArray el (0, 0)))
      (n := (s.new (.cells out)).size) s.size 0 len len i.size (by simp [St.new]) (id (pend_new hS : ρ.pend s.size = false)) (Nat.le_refl _) (by simp only [Rho.newObj, if_true]; omega)
    have hb : (ρ.newObj w.heap.size s.size us.length).blk s.size = w.heap.size := by simp [Rho.newObj]
    rw [hb] at this
    exact this

end
end Go.Am
