/- Soundness of the abstract machine, 7: make, slice expressions, conversions between strings and bytes. -/
import Derived.Test.YtbdcgchgpdclaaaAmS6
namespace Go.AM

section
variable {P : Program} {F : Fr} {N : Nat} {ι : Nat → Gh} {s : S} {a : Act} {w : World} {o : Oper} {K : S → Prop}

/-! make -/
theorem CRs_const_D {ok : Nat → Prop} : ∀ {cs : List C} {z : List D} {pl : List (Nat × Pl)} {vs : List Value}, toDs [] cs = some (z, pl) → CRs ι w ok cs vs → CRs ι w ok (z.map .d) vs
  | [], z, pl, vs, h, hc => by cases h; cases vs with | nil => trivial | cons _ _ => exact hc.elim
  | _ :: _, _, _, [], _, hc => hc.elim
  | c :: cs, z, pl, v :: vs, h, hc => by
    simp only [toDs] at h
    split at h
    · rename_i y pl1 h1
      have hpl : pl1 = [] := by
        cases c with
        | clo f l => cases l with
          | nil => simp only [toD] at h1; cases h1; rfl
          | cons _ _ => simp only [toD] at h1; cases h1
        | _ => simp only [toD, aget] at h1 <;> cases h1 <;> rfl
      subst hpl
      split at h
      · rename_i ys pl2 h2
        cases h
        refine ⟨?_, CRs_const_D h2 hc.2⟩
        cases c with
        | clo f l => cases l with
          | nil =>
            simp only [toD] at h1; cases h1
            obtain ⟨bs, g1, g2⟩ := hc.1
            have hbs : bs = [] := by simpa using g1.symm
            subst hbs
            simp only [CR, RD, RDf]
            exact ⟨[], g2, rfl⟩
          | cons _ _ => simp only [toD] at h1; cases h1
        | d x => simp only [toD] at h1; cases h1; exact hc.1
        | nil =>
          simp only [toD] at h1; cases h1
          have := hc.1
          simp only [CR] at this
          subst this
          simp only [CR, RD]
          exact ⟨none, 0, 0, rfl, rfl, Nat.le_refl _, Nat.zero_le _, .inl trivial⟩
        | _ => simp only [toD, aget] at h1; cases h1
      · cases h
    · cases h

theorem flatten_replicate_get (l : List Value) : ∀ (n j : Nat) (v : Value), (List.replicate n l).flatten[j]? = some v → j < n * l.length ∧ l[j % l.length]? = some v
  | 0, j, v, h => by simp at h
  | n + 1, j, v, h => by
    simp only [List.replicate_succ, List.flatten_cons, List.getElem?_append] at h
    rw [Nat.add_mul, Nat.one_mul]
    split at h
    · rename_i hj
      rw [Nat.mod_eq_of_lt hj]
      exact ⟨by omega, h⟩
    · rename_i hj
      obtain ⟨h1, h2⟩ := flatten_replicate_get l n _ v h
      refine ⟨by omega, ?_⟩
      rw [← Nat.mod_eq_sub_mod (by omega)] at h2
      exact h2

theorem CRs_replicate {ok : Nat → Prop} {z : List D} {vs : List Value} (h : CRs ι w ok (z.map .d) vs) : ∀ (n : Nat), CRs ι w ok ((List.replicate n z).flatten.map .d) (List.replicate n vs).flatten
  | 0 => trivial
  | n + 1 => by
    simp only [List.replicate_succ, List.flatten_cons, List.map_append]
    exact CRs.append h (CRs_replicate h n)

theorem sound_mk (hr : Rel F N ι s a w) (hd : ∀ k, o.dst = some k → k < N) {t e : TypeId} {x y : Operand} (ho : o.op = .makeSlice t x y) (ht : telem P t = some e) {z : List D} {plz : List (Nat × Pl)} (hz : toDs [] (tzero P e).cells = some (z, plz))
    (hpos : Nat.blt 0 (tsz P e) = true) (hlen : Nat.beq z.length (tsz P e) = true) (h : aop P o.dst (.mk (tsz P e) (tbytes P e) z (cO x) (cO y)) s K) : Fine P F N o a w K := by
  simp only [aop] at h
  have hu := telem_spec ht
  have hpos : 0 < tsz P e := Nat.le_of_ble_eq_true hpos
  have hlen := Nat.eq_of_beq_eq_true hlen
  split at h
  · rename_i d n c hdst hn hc
    obtain ⟨k1, hx, _⟩ := litInt_spec hn (VR_o hr x)
    obtain ⟨k2, hy, _⟩ := litInt_spec hc (VR_o hr y)
    obtain ⟨g1, g2, g3, g4, h⟩ := h
    unfold tzero at hz
    cases hi : P.info? e with
    | none => simp [tsz, hi] at hpos
    | some i =>
      simp only [hi] at hz
      cases hiz : i.zero with
      | none => simp only [hiz] at hz; cases hz
      | some v =>
        simp only [hiz] at hz
        have hsol := solid_of_toDs hz
        rw [ofValue_cells hsol] at hz
        have hsz : tsz P e = i.size := by simp [tsz, hi]
        have hby : tbytes P e = i.bytes := by simp [tbytes, hi]
        have hbytes : (i.bytes : Int) * c ≤ 281474976710656 := by
          unfold fits at g3
          rw [hby] at g3
          have : ((i.bytes : Int) * c) = ((c.toNat * i.bytes : Nat) : Int) := by
            rw [Int.natCast_mul, Int.toNat_of_nonneg (by omega), Int.mul_comm]
          rw [this]; omega
        have hrun := run_make (P := P) w t e i v hu hi hiz k1 k2 n c g1 g2 hbytes g4
        obtain ⟨cur, hcur⟩ : ∃ cur, cur = madeCells v.cells (c.toNat * i.size) := ⟨_, rfl⟩
        rw [← hcur] at hrun
        have hcs : cur.size = c.toNat * tsz P e := by rw [hcur, size_madeCells, hsz]
        have hw := NewRow.alloc w cur e
        have hzv := CRs_const_D hz (CRs_ofCell ι w (F.ok ι s.pl w) v.cells.toList)
        have hvl : v.cells.toList.length = tsz P e := by rw [← hlen]; simpa using hzv.length.symm
        have hnc : n.toNat ≤ c.toNat := by omega
        have hrel := hr.newRow hw d (.arr (tsz P e) (List.replicate n.toNat z) false) [d] (by simp [isin]) n.toNat (hr.h_slot (hd _ (by assumption))) ⟨hpos, by rw [upd_same]; simp, .inr ⟨w.heap.size, by rw [upd_same], by
          refine RDs_mk (ι := ι) (vs := (List.replicate n.toNat v.cells.toList).flatten) (fun q hq => by rw [List.eq_of_mem_replicate hq, hlen]) ?_ ?_
          · exact CRs.keep (newRow_keeps hr hw d _ [d] (by simp [isin]) n.toNat) hw.shapes _ _ (CRs_replicate hzv n.toNat)
          · intro j u hj
            obtain ⟨j1, j2⟩ := flatten_replicate_get _ _ _ _ hj
            rw [Nat.zero_add, hw.cell, hcur]
            rw [hvl] at j1 j2
            have hjl : j < c.toNat * i.size := by
              have : n.toNat * tsz P e ≤ c.toNat * tsz P e := Nat.mul_le_mul_right _ hnc
              rw [hsz] at this j1; omega
            have hvs : v.cells.size = tsz P e := by simpa using hvl
            simp only [madeCells, Array.getElem?_map, Array.getElem?_range, hjl, if_true, Option.map_some, Option.some.injEq]
            rw [hvs]
            have hm : j % tsz P e < v.cells.size := by rw [hvs]; exact Nat.mod_lt _ hpos
            rw [Array.getElem?_toList, Array.getElem?_eq_getElem hm] at j2
            rw [getElem!_pos v.cells _ hm]
            exact Option.some.inj j2, (fun hf => by cases hf), (fun _ => ⟨cur, ⟨e, hw.new⟩, by rw [hcs]; simp; exact Nat.mul_le_mul_right _ hnc⟩)⟩⟩
        refine Fine.of_value (v := .slice (some ⟨w.heap.size, 0, none⟩) n.toNat c.toNat) (w' := w.alloc (.cells cur e)) (ι' := upd ι d ⟨some w.heap.size, n.toNat⟩) ?_ ?_ h
        · simp only [execOp, ho, hx, hy, Sem.run_bind, hrun, Result.andThen_ok, Sem.run_pure]
        · rw [hdst]
          refine hrel.put (some d) (fun k hk => by cases hk; exact hd d hdst) _ _ ?_
          exact .inr ⟨w.heap.size, c.toNat, e, by rw [upd_same], by rw [upd_same]; exact Nat.le_refl _, rfl, hnc, by simp only [maxLen]; omega, by rw [hw.shape, hcs]⟩
  · exact h.elim

/-! Slice expressions. -/
theorem bnd_spec (hr : Rel F N ι s a w) {x : Option Operand} {l : Option Int} (h : s.bnd (x.map cO) = some l) : (x = none ∧ l = none) ∨ ∃ y k n, x = some y ∧ l = some n ∧ a.eval y = .int k n := by
  cases x with
  | none => cases h; exact .inl ⟨rfl, rfl⟩
  | some y =>
    simp only [Option.map_some, S.bnd] at h
    cases hn : litInt (s.o (cO y)) with
    | none => rw [hn] at h; cases h
    | some n =>
      rw [hn] at h; cases h
      obtain ⟨k, hy, _⟩ := litInt_spec hn (VR_o hr y)
      exact .inr ⟨y, k, n, rfl, rfl, hy⟩

theorem run_sliceBound' (k : IntKind) (i : Int) (y : Nat) (code : BoundsCode) (h0 : 0 ≤ i) (h1 : i ≤ y) : (Instr.sliceBound (.int k i) y code).run P w = .ok i.toNat w := by
  simp [Instr.sliceBound, asIntOf, h0, h1]

theorem run_bounds (b : Bool) (len cap : Nat) (lo hi : Option Value) (l h : Option Int) (hl : (lo = none ∧ l = none) ∨ ∃ k n, lo = some (.int k n) ∧ l = some n) (hh : (hi = none ∧ h = none) ∨ ∃ k n, hi = some (.int k n) ∧ h = some n)
    (h0 : 0 ≤ orI l 0) (h1 : orI l 0 ≤ orI h len) (h2 : orI h len ≤ cap) : (Instr.sliceBounds b len cap lo hi none).run P w = .ok ((orI l 0).toNat, (orI h len).toNat, cap) w := by
  rcases hl with ⟨rfl, rfl⟩ | ⟨k, n, rfl, rfl⟩ <;> rcases hh with ⟨rfl, rfl⟩ | ⟨k', n', rfl, rfl⟩ <;> simp only [orI] at h0 h1 h2 ⊢
  · simp [Instr.sliceBounds]
  · simp [Instr.sliceBounds, run_sliceBound' k' n' cap _ (by omega) h2]
  · simp [Instr.sliceBounds, run_sliceBound' k n len _ h0 (by simpa using h1)]
  · have e : ((n'.toNat : Nat) : Int) = n' := Int.toNat_of_nonneg (by omega)
    simp [Instr.sliceBounds, run_sliceBound' k' n' cap _ (by omega) h2, run_sliceBound' k n n'.toNat _ h0 (by rw [e]; exact h1)]

theorem map_bnd {x : Option Operand} {l : Option Int} (h : (x = none ∧ l = none) ∨ ∃ y k n, x = some y ∧ l = some n ∧ a.eval y = .int k n) : (x.map a.eval = none ∧ l = none) ∨ ∃ k n, x.map a.eval = some (.int k n) ∧ l = some n := by
  rcases h with ⟨rfl, rfl⟩ | ⟨y, k, n, rfl, rfl, hy⟩
  · exact .inl ⟨rfl, rfl⟩
  · exact .inr ⟨k, n, by simp [hy], rfl⟩

theorem run_sli {t e : TypeId} (hu : P.underlying t = some (.slice e)) {i : TypeInfo} (hi : P.info? e = some i) {x : Operand} {lo hi' : Option Operand} (ho : o.op = .slice t x lo hi' none) {ad : Option Addr} {len cap : Nat} (hx : a.eval x = .slice ad len cap)
    {l h : Option Int} (hl : (lo = none ∧ l = none) ∨ ∃ y k n, lo = some y ∧ l = some n ∧ a.eval y = .int k n) (hh : (hi' = none ∧ h = none) ∨ ∃ y k n, hi' = some y ∧ h = some n ∧ a.eval y = .int k n)
    (h0 : 0 ≤ orI l 0) (h1 : orI l 0 ≤ orI h len) (h2 : orI h len ≤ cap) :
    (execOp a.eval o).run P w = .ok (.value (.slice (if cap = (orI l 0).toNat then ad else ad.map (·.add ((orI l 0).toNat * tsz P e))) ((orI h len).toNat - (orI l 0).toNat) (cap - (orI l 0).toNat))) w := by
  have hb := run_bounds (P := P) (w := w) true len cap (lo.map a.eval) (hi'.map a.eval) l h (map_bnd hl) (map_bnd hh) h0 h1 h2
  simp only [execOp, ho, Option.map_none, Instr.sliceAt, Instr.slice, hx, Sem.run_bind, run_underlying hu, Result.andThen_ok, hb, run_sizeOf hi, Sem.run_pure]

theorem sound_sli (hr : Rel F N ι s a w) (hd : ∀ k, o.dst = some k → k < N) {t e : TypeId} {x : Operand} {lo hi : Option Operand} (ho : o.op = .slice t x lo hi none) (hu : P.underlying t = some (.slice e)) {i : TypeInfo} (hi' : P.info? e = some i)
    (h : aop P o.dst (.sli (tsz P e) (cO x) (lo.map cO) (hi.map cO)) s K) : FineQ P F N o a w (fun _ => True) K := by
  simp only [aop] at h
  split at h
  case h_2 => exact h.elim
  rename_i lq hb hl hh
  have hl := bnd_spec hr hl
  have hh := bnd_spec hr hh
  have hx := CR_o hr x
  generalize s.oc (cO x) = cx at *
  unfold aSli at h
  split at h
  · rename_i els
    simp only [CR, RD] at hx
    obtain ⟨ad, m, c, e1, e2, e3, e4, e5⟩ := hx
    cases lq with
    | none =>
      obtain ⟨g1, g2, h⟩ := h
      have hrun := fun (w' : World) (_ : True) => run_sli (o := o) (w := w') hu hi' ho e1 hl hh (by simp [orI]) (by rw [e2]; simpa [orI] using g1) (by rw [e2]; omega)
      simp only [orI, Int.toNat_zero, Nat.zero_mul, Nat.sub_zero] at hrun
      have hadd : (if c = 0 then ad else ad.map (·.add 0)) = ad := by
        split
        · rfl
        · cases ad <;> simp [Addr.add]
      simp only [hadd] at hrun
      refine FineQ.put hr hd hrun ?_ h
      simp only [cV, VR, WR, CR, RD]
      have hlen : (els.take (orI hb els.length).toNat).length = (orI hb els.length).toNat := by rw [List.length_take]; omega
      refine ⟨ad, _, _, rfl, ?_, ?_, e4, ?_⟩
      · rw [hlen, e2]; rfl
      · rw [e2]; simp only [orI] at g2 ⊢; omega
      · rcases e5 with e5 | ⟨b, q, sz, f1, f2, f3⟩
        · rw [e5]; left; simp
        · right; exact ⟨b, q, sz, f1, f2, RDs.take _ f3⟩
    | some l =>
      obtain ⟨g0, g1, g2, g3, h⟩ := h
      have hrun := fun (w' : World) (_ : True) => run_sli (o := o) (w := w') hu hi' ho e1 hl hh (by simpa [orI] using g1) (by rw [e2]; simpa [orI] using g2) (by rw [e2]; omega)
      simp only [orI] at hrun
      refine FineQ.put hr hd hrun ?_ h
      simp only [cV, VR, WR, CR, RD]
      have hlen : ((els.take (orI hb els.length).toNat).drop l.toNat).length = (orI hb els.length).toNat - l.toNat := by rw [List.length_drop, List.length_take]; omega
      refine ⟨_, _, _, rfl, ?_, ?_, by omega, ?_⟩
      · rw [hlen, e2]; rfl
      · rw [e2]; simp only [orI] at g3 ⊢; omega
      · by_cases hemp : (els.take (orI hb els.length).toNat).drop l.toNat = []
        · exact .inl hemp
        · have hlt : l.toNat < (orI hb els.length).toNat := by
            have : 0 < ((els.take (orI hb els.length).toNat).drop l.toNat).length := List.length_pos_iff.2 hemp
            rw [hlen] at this; omega
          rcases e5 with e5 | ⟨b, q, sz, f1, f2, f3⟩
          · rw [e5] at hemp; simp at hemp
          · right
            have hne : els ≠ [] := fun e => by rw [e] at hemp; simp at hemp
            obtain ⟨y, hy⟩ : ∃ y, y ∈ els := List.exists_mem_of_ne_nil els hne
            have hsz : sz = tsz P e := by rw [← RDs.len f3 y hy, g0 y hy]
            refine ⟨b, q + l.toNat * sz, sz, ?_, f2, RDs.drop _ (RDs.take _ f3)⟩
            refine Eq.trans (if_neg (by simp only [orI] at *; omega)) ?_
            rw [f1, hsz]
            simp [addr_add]
  · rename_i p z n
    cases hz : Nat.beq z (tsz P e) with
    | false => rw [hz] at h; exact h.elim
    | true =>
      rw [hz] at h
      have hz := Nat.eq_of_beq_eq_true hz
      simp only [cond_true] at h
      cases lq with
      | none =>
        obtain ⟨g1, g2, h⟩ := h
        rcases hx with ⟨f1, f2, f3⟩ | ⟨b, cap, ty, f1, f2, f3, f4, f5, f6⟩
        · subst f2
          have h0 : orI hb ((0 : Nat) : Int) = 0 := by omega
          have hrun := fun (w' : World) (_ : True) => run_sli (o := o) (w := w') hu hi' ho f3 hl hh (by simp [orI]) (by simpa [orI] using g1) (by omega)
          simp only [h0] at hrun
          rw [h0] at h
          simp only [orI, Int.toNat_zero, Nat.zero_mul, Nat.sub_zero, if_true] at hrun
          exact FineQ.put hr hd hrun (show VR ι w _ (cV (.own p z 0)) _ from .inl ⟨f1, rfl, rfl⟩) h
        · have hrun := fun (w' : World) (_ : True) => run_sli (o := o) (w := w') hu hi' ho f3 hl hh (by simp [orI]) (by simpa [orI] using g1) (by omega)
          simp only [orI, Int.toNat_zero, Nat.zero_mul, Nat.sub_zero] at hrun
          have hadd : (if cap = 0 then some (⟨b, 0, none⟩ : Addr) else (some (⟨b, 0, none⟩ : Addr)).map (·.add 0)) = some ⟨b, 0, none⟩ := by
            split <;> simp [Addr.add]
          simp only [hadd] at hrun
          refine FineQ.put hr hd hrun (show VR ι w _ (cV (.own p z (orI hb n).toNat)) _ from .inr ⟨b, cap, ty, f1, by omega, rfl, by omega, f5, f6⟩) h
      | some l =>
        simp only [] at h
        split at h
        · rename_i z1 els fz hp
          cases hz1 : Nat.beq z z1 with
          | false => rw [hz1] at h; exact h.elim
          | true =>
            rw [hz1] at h
            have hz1 := Nat.eq_of_beq_eq_true hz1
            simp only [cond_true] at h
            obtain ⟨g1, g2, g3, h⟩ := h
            obtain ⟨k1, k2 | ⟨b, cap, ty, f1, f3, f4, f5, f6, f7⟩⟩ := own_data hr hp hz1 hx
            · obtain ⟨k2, k3, k4, k5⟩ := k2
              subst k2
              have h0 : orI hb ((0 : Nat) : Int) = 0 := by omega
              have hl0 : l = 0 := by omega
              subst hl0
              have hrun := fun (w' : World) (_ : True) => run_sli (o := o) (w := w') hu hi' ho k3 hl hh (by simp [orI]) (by simpa [orI] using g2) (by omega)
              simp only [h0] at hrun
              rw [h0] at h
              simp only [orI, Int.toNat_zero, Nat.zero_mul, Nat.sub_zero, if_true] at hrun
              refine ⟨_, ι, _, hrun, (hr.freeze p).put o.dst hd _ _ ?_, h⟩
              simp only [cV, VR, WR, CR, RD, k5]
              exact ⟨none, 0, 0, rfl, by simp, Nat.le_refl _, Nat.zero_le _, .inl (by simp)⟩
            · have hrun := fun (w' : World) (_ : True) => run_sli (o := o) (w := w') hu hi' ho f3 hl hh (by simpa [orI] using g1) (by simpa [orI] using g2) (by omega)
              simp only [orI] at hrun
              have hlen : ((els.take (orI hb n).toNat).drop l.toNat).length = (orI hb n).toNat - l.toNat := by rw [List.length_drop, List.length_take]; omega
              refine ⟨_, ι, _, hrun, (hr.freeze p).put o.dst hd _ _ ?_, h⟩
              have hdata := own_RD hr hp f1 (n := (orI hb n).toNat) (by omega) (cap := cap) (by omega) f5
              simp only [cV, VR, WR, CR]
              simp only [RD] at hdata ⊢
              obtain ⟨ad, m, c, e1, e2, e3, e4, e5⟩ := hdata
              cases e1
              refine ⟨_, _, _, rfl, by rw [hlen]; rfl, by simp only [orI] at *; omega, by omega, ?_⟩
              by_cases hemp : (els.take (orI hb n).toNat).drop l.toNat = []
              · exact .inl hemp
              · have hlt : l.toNat < (orI hb n).toNat := by
                  have : 0 < ((els.take (orI hb n).toNat).drop l.toNat).length := List.length_pos_iff.2 hemp
                  rw [hlen] at this; omega
                rcases e5 with e5 | ⟨b', q, sz, q1, q2, q3⟩
                · rw [e5] at hemp; simp at hemp
                · right
                  cases q1
                  have hne : els.take (orI hb n).toNat ≠ [] := fun e => by rw [e] at hemp; simp at hemp
                  obtain ⟨y, hy⟩ : ∃ y, y ∈ els.take (orI hb n).toNat := List.exists_mem_of_ne_nil _ hne
                  have hsz : sz = tsz P e := by
                    rw [← RDs.len q3 y hy, RDs.len f7 y (List.mem_of_mem_take hy), ← hz1, hz]
                  refine ⟨b, 0 + l.toNat * sz, sz, ?_, q2, RDs.drop _ q3⟩
                  refine Eq.trans (if_neg (by simp only [orI] at *; omega)) ?_
                  rw [hsz]
                  simp [addr_add]
        · exact h.elim
  · have hx : a.eval x = .slice none 0 0 := hx
    obtain ⟨g1, g2, g3, h⟩ := h
    have hrun := fun (w' : World) (_ : True) => run_sli (o := o) (w := w') hu hi' ho hx hl hh g1 g2 g3
    have e1 : (orI lq 0).toNat = 0 := by omega
    have e2 : (orI hb ((0 : Nat) : Int)).toNat = 0 := by
      have : orI hb ((0 : Nat) : Int) ≤ 0 := g3
      omega
    simp only [e1, e2, Nat.zero_mul, if_true, Nat.sub_zero] at hrun
    exact FineQ.put hr hd hrun (show VR ι w _ (cV .nil) _ from rfl) h
  · exact h.elim

theorem sound_sls (hr : Rel F N ι s a w) (hd : ∀ k, o.dst = some k → k < N) {t : TypeId} {x : Operand} {lo hi : Option Operand} (ho : o.op = .slice t x lo hi none) (hu : P.underlying t = some .string)
    (h : aop P o.dst (.sls (cO x) (lo.map cO) (hi.map cO)) s K) : FineQ P F N o a w (fun _ => True) K := by
  simp only [aop] at h
  split at h
  case h_2 => exact h.elim
  rename_i l hb hl hh
  have hl := bnd_spec hr hl
  have hh := bnd_spec hr hh
  have hx := CR_o hr x
  generalize s.oc (cO x) = cx at *
  unfold aSls at h
  split at h
  · rename_i b
    obtain ⟨g1, g2, g3, h⟩ := h
    have hxe := CR_lit hx
    have hbd := fun (w' : World) => run_bounds (P := P) (w := w') false b.size b.size (lo.map a.eval) (hi.map a.eval) l hb (map_bnd hl) (map_bnd hh) g1 g2 g3
    refine FineQ.put hr hd (v := .string (b.extract (orI l 0).toNat (orI hb b.size).toNat)) ?_ (VR_lit rfl) h
    intro w' _
    simp only [execOp, ho, Option.map_none, Instr.sliceAt, Instr.slice, hxe, Sem.run_bind, run_underlying hu, Result.andThen_ok, Sem.run_pure]
    simp
    rw [hbd w']
    rfl
  · exact h.elim

/-! Bytes and strings. -/
theorem isKind_string {t : TypeId} (h : isKind P t true = true) : P.underlying t = some .string := by
  unfold isKind at h
  split at h
  · assumption
  · split at h <;> cases h
  · cases h
theorem isKind_bytes {t : TypeId} (h : isKind P t false = true) : ∃ e, P.underlying t = some (.slice e) ∧ P.underlying e = some (.int .u8) := by
  unfold isKind at h
  split at h
  · cases h
  · rename_i e he
    split at h
    · rename_i h2; exact ⟨e, he, h2⟩
    · cases h
  · cases h

theorem encBytes_flat (b : ByteArray) : (encBytes b).flatten = b.data.toList.map fun x => D.lit (.int .u8 x.toNat) := by
  unfold encBytes
  induction b.data.toList with
  | nil => rfl
  | cons x r ih => simp [ih]

theorem CRs_bytes {ok : Nat → Prop} : ∀ (l : List UInt8) (vs : List Value), CRs ι w ok ((l.map fun x => D.lit (.int .u8 x.toNat)).map .d) vs → vs = l.map fun (x : UInt8) => Value.int .u8 x.toNat
  | [], [], _ => rfl
  | [], _ :: _, h => h.elim
  | _ :: _, [], h => h.elim
  | x :: l, v :: vs, h => by
    have h1 := CR_lit h.1
    simp only [List.map_cons, h1, CRs_bytes l vs h.2]

theorem CRs_bytes_mk {ok : Nat → Prop} : ∀ (l : List UInt8), CRs ι w ok ((l.map fun x => D.lit (.int .u8 x.toNat)).map .d) (l.map fun (x : UInt8) => Value.int .u8 x.toNat)
  | [] => trivial
  | x :: l => ⟨by simp only [CR, RD]; exact ⟨trivial, rfl⟩, CRs_bytes_mk l⟩

/-- What a slice that is read holds, in memory. -/
theorem readEls_spec (hr : Rel F N ι s a w) {c : C} {v : Value} (hc : CR ι w (F.ok ι s.pl w) c v) {l : List (List D)} (h : readEls s.pl c = some l) :
    ∃ ad cap, v = .slice ad l.length cap ∧ (l = [] ∨ ∃ b q sz, ad = some ⟨b, q, none⟩ ∧ RDs w (F.ok ι s.pl w) b sz q l) := by
  cases c with
  | d x =>
    cases x with
    | lit u => cases h
    | fn f l => cases h
    | sl els =>
      cases h
      simp only [CR, RD] at hc
      obtain ⟨ad, m, c, e1, e2, e3, e4, e5⟩ := hc
      refine ⟨ad, c, by rw [e1, e2], ?_⟩
      rcases e5 with e5 | ⟨b, q, sz, f1, f2, f3⟩
      · exact .inl e5
      · exact .inr ⟨b, q, sz, f1, f3⟩
  | nil => cases h; exact ⟨none, 0, hc, .inl rfl⟩
  | own p z n =>
    simp only [readEls] at h
    cases hp : aget s.pl p with
    | none => simp only [hp] at h; cases h
    | some y =>
      cases y with
      | box cs => simp only [hp] at h; cases h
      | fbox cs => simp only [hp] at h; cases h
      | gone => simp only [hp] at h; cases h
      | arr sz els fz =>
        simp only [hp] at h
        cases h
        obtain ⟨hn, h | ⟨b, cap, t, h1, h2, h3, h4, h5, h6⟩⟩ := own_data' hr hp hc
        · obtain ⟨rfl, rfl, _, _⟩ := h; exact ⟨none, 0, by simp, .inl (by simp)⟩
        · exact ⟨some ⟨b, 0, none⟩, cap, by rw [h2, List.length_take, Nat.min_eq_left hn], .inr ⟨b, 0, sz, rfl, RDs.take n h6⟩⟩
  | dead => cases h
  | ptr p o => cases h
  | eptr p z i k => cases h
  | fp l => cases h
  | clo f l => cases h

theorem sound_b2s (hr : Rel F N ι s a w) (hd : ∀ k, o.dst = some k → k < N) {t u : TypeId} {x : Operand} (ho : o.op = .convert t u x) (ht : isKind P t false = true) (hu : isKind P u true = true)
    (h : aop P o.dst (.b2s (cO x)) s K) : FineQ P F N o a w (Ext w) K := by
  simp only [aop] at h
  obtain ⟨e, h1, h2⟩ := isKind_bytes ht
  have h3 := isKind_string hu
  split at h
  · rename_i l hl
    obtain ⟨b, rfl, h⟩ := h
    obtain ⟨ad, cap, hv, hdata⟩ := readEls_spec hr (CR_o hr x) hl
    refine FineQ.put hr hd (v := .string b) ?_ (VR_lit rfl) h
    intro w' hw'
    have hconv : (Conv.bytesToString (.slice ad (encBytes b).length cap)).run P w' = .ok (.string b) w' := by
      rcases hdata with he | ⟨blk, q, sz, rfl, hdata⟩
      · have hb0 : b.data.toList = [] := by simpa [encBytes] using he
        have hb : b = ByteArray.empty := by
          cases b with | mk d => have : d = #[] := Array.toList_inj.1 (by simpa using hb0); subst this; rfl
        rw [he]
        cases ad with
        | none => simp [Conv.bytesToString, hb]
        | some ad => simp [Conv.bytesToString, loadCells, loadCellsFrom, hb]
      · obtain ⟨vs, g1, g2, g3⟩ := RDs.vals (ι := ι) hdata
        rw [encBytes_flat] at g1
        have hvs := CRs_bytes _ _ g1
        have hlen : vs.length = (encBytes b).length := by rw [hvs]; simp [encBytes]
        have hload := run_loadCells_list (P := P) w' ⟨blk, q, none⟩ vs (fun j v hv => by rw [addr_add]; exact hw'.cell (g3 j v hv))
        rw [hlen] at hload
        have hns : vs = (b.data.toList.map fun (x : UInt8) => (x.toNat : Int)).map (Value.int .u8) := by rw [hvs]; simp
        rw [hns] at hload
        rw [run_bytesToString w' _ _ _ (b.data.toList.map fun (x : UInt8) => (x.toNat : Int)) hload, foldl_push_byteCells]
        congr 2
        cases b with | mk d => simp [ByteArray.empty, ByteArray.emptyWithCapacity]; rfl
    simp only [execOp, ho, hv, Sem.run_bind, run_convert_bytes_string w' t u e ad _ cap h1 h2 h3, hconv, Result.andThen_ok, Sem.run_pure]
  · exact h.elim

theorem sound_s2b (hr : Rel F N ι s a w) (hd : ∀ k, o.dst = some k → k < N) {t u : TypeId} {x : Operand} (ho : o.op = .convert t u x) (ht : isKind P t true = true) (hu : isKind P u false = true)
    (h : aop P o.dst (.s2b (cO x)) s K) : Fine P F N o a w K := by
  simp only [aop] at h
  have h1 := isKind_string ht
  obtain ⟨e, h2, h3⟩ := isKind_bytes hu
  split at h
  · rename_i d b hdst hx
    have hxv := CR_o hr x
    rw [hx] at hxv
    have hxe := CR_lit hxv
    obtain ⟨hsz, h⟩ := h
    have hrun := run_bytes_of_string (P := P) w t u e b h1 h2 h3
    obtain ⟨cur, hcur⟩ : ∃ cur, cur = bytesRow b (grownCap w b.size 0 e) := ⟨_, rfl⟩
    rw [← hcur] at hrun
    have hge := grownCap_ge w b.size 0 e
    have hle := grownCap_le_maxLen w b.size 0 e (by simp only [maxLen]; omega)
    have hcs : cur.size = grownCap w b.size 0 e := by
      rw [hcur]; simp only [bytesRow, Array.size_append, Array.size_map, Array.size_replicate]
      have : b.data.size = b.size := rfl
      omega
    have hw := NewRow.draw w cur e (cur.size, cur.size + 1)
    have hbl : (encBytes b).length = b.size := by simp [encBytes]
    have hrel := hr.newRow hw d (.arr 1 (encBytes b) true) [d] (by simp [isin]) b.size (hr.h_slot (hd _ (by assumption))) ⟨by omega, by rw [upd_same, hbl], .inr ⟨w.heap.size, by rw [upd_same], by
      refine RDs_mk (ι := ι) (vs := b.data.toList.map fun (x : UInt8) => Value.int .u8 x.toNat) (fun q hq => by
        simp only [encBytes, List.mem_map] at hq; obtain ⟨_, _, rfl⟩ := hq; rfl) ?_ ?_
      · rw [encBytes_flat]; exact CRs_bytes_mk _
      · intro j v hv
        rw [Nat.zero_add, hw.cell, hcur, bytesRow]
        have hj : j < b.data.size := by
          have := (List.getElem?_eq_some_iff.1 hv).1; simpa using this
        rw [Array.getElem?_append_left (by simpa using hj)]
        simpa using hv, (fun _ => ⟨.inr (.inr hr.grows.size), by rw [hw.size]; omega, by
          rintro ⟨p, y, q1, q2, q3⟩
          have q1' : aget (s.redo [d] [(d, Pl.arr 1 (encBytes b) true)]).pl p = some y := q1
          rw [S.redo_pl] at q1'
          cases hn : aget [(d, Pl.arr 1 (encBytes b) true)] p with
          | some z => simp only [hn] at q1'; cases q1'; obtain ⟨_, rfl⟩ := aget_one hn; cases q2
          | none =>
            simp only [hn] at q1'
            split at q1'
            · rename_i hk
              cases hp : aget s.pl p with
              | none => rw [hp] at q1'; cases q1'
              | some z =>
                rw [hp] at q1'; simp at q1'; subst q1'
                rw [upd_other ι _ (isin_one hk)] at q3
                rw [Pl.live_kill] at q2
                have := (hr.mine _ ⟨p, z, hp, q2, q3⟩).2
                omega
            · cases q1'⟩), (fun hf => by cases hf)⟩⟩
    refine Fine.of_value (v := .slice (some ⟨w.heap.size, 0, none⟩) b.size (grownCap w b.size 0 e)) (w' := w.drew.alloc (.cells cur e (cur.size, cur.size + 1))) (ι' := upd ι d ⟨some w.heap.size, b.size⟩) ?_ ?_ h
    · simp only [execOp, ho, hxe, Sem.run_bind, hrun, Result.andThen_ok, Sem.run_pure]
    · rw [hdst]
      refine hrel.put (some d) (fun k hk => by cases hk; exact hd d hdst) _ _ ?_
      exact .inr ⟨w.heap.size, _, e, by rw [upd_same], by rw [upd_same]; exact Nat.le_refl _, rfl, hge, hle, by rw [hw.shape, hcs]; simp⟩
  · exact h.elim
end

end Go.AM
