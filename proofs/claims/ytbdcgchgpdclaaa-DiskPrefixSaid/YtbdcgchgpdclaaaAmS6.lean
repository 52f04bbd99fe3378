/- Soundness of the abstract machine, 6: struct and slice literals, make, slice expressions, conversions. -/
import Derived.Test.YtbdcgchgpdclaaaAmS5
namespace Go.AM

section
variable {P : Program} {F : Fr} {N : Nat} {ι : Nat → Gh} {s : S} {a : Act} {w : World} {o : Oper} {K : S → Prop}

theorem foldl_set (off : Nat) : ∀ (vals : List Value) (k : Nat) (cur : Array Value), off + k + vals.length ≤ cur.size →
    (vals.zipIdx k).foldl (fun cs (x : Value × Nat) => cs.setIfInBounds (off + x.2) x.1) cur = (splice cur.toList (off + k) vals).toArray
  | [], k, cur, _ => by simp [splice]
  | v :: r, k, cur, h => by
    simp only [List.zipIdx_cons, List.foldl_cons]
    simp only [List.length_cons] at h
    rw [foldl_set off r (k + 1) (cur.setIfInBounds (off + k) v) (by simpa using (by omega : off + (k + 1) + r.length ≤ cur.size))]
    congr 1
    simp only [splice, Array.toList_setIfInBounds, List.length_cons]
    have := list_seg_step cur.toList (off + k) v r (by simpa using h)
    rw [show off + (k + 1) = off + k + 1 by omega]
    rw [show off + k + (r.length + 1) = off + k + 1 + r.length by omega] at *
    exact this

theorem fill_step (place : Nat → Option (Nat × Nat)) (cur : Array Value) (i off sz : Nat) (v : Value) (rest : List (Nat × Value)) (hp : place i = some (off, sz)) (hl : v.cells.toList.length = sz) (hfit : off + sz ≤ cur.size) :
    Instr.fill place cur ((i, v) :: rest) = Instr.fill place (splice cur.toList off v.cells.toList).toArray rest := by
  have h1 : v.cells.size = sz := by simpa using hl
  have h2 := foldl_set off v.cells.toList 0 cur (by rw [hl]; omega)
  simp only [Nat.add_zero] at h2
  have h3 : v.cells.zipIdx.foldl (fun cs (x : Value × Nat) => cs.setIfInBounds (off + x.2) x.1) cur = (splice cur.toList off v.cells.toList).toArray := by
    rw [← h2, ← Array.foldl_toList]
    simp
  rw [Instr.fill]
  simp only [hp]
  rw [if_neg (by rw [h1]; simp; omega)]
  congr 1

theorem infos_places : ∀ (fs : List Field), infos P fs = true → ∃ places, fs.mapM (fun f => (P.info? f.type).map fun i => (f.offset, i.size)) = some places ∧ ∀ (j : Nat) (f : Field), fs[j]? = some f → places[j]? = some (f.offset, tsz P f.type)
  | [], _ => ⟨[], rfl, fun j f h => by simp at h⟩
  | f :: r, h => by
    unfold infos at h
    cases hi : P.info? f.type with
    | none => rw [hi] at h; cases h
    | some i =>
      rw [hi] at h
      obtain ⟨places, h1, h2⟩ := infos_places r h
      refine ⟨(f.offset, i.size) :: places, by simp [List.mapM_cons, hi, h1], fun j g hg => ?_⟩
      cases j with
      | zero => simp at hg; subst hg; simp [tsz, hi]
      | succ j => simp at hg; simpa using h2 j g hg

theorem fill_build (hr : Rel F N ι s a w) {t : TypeId} {fs : Array Field} (hu : P.underlying t = some (.struct fs)) {places : List (Nat × Nat)} (hpl : ∀ (j : Nat) (f : Field), fs.toList[j]? = some f → places[j]? = some (f.offset, tsz P f.type)) :
    ∀ (parts : List (Nat × Operand)) (l : List (Nat × Nat × O)) (cs cs' : List C) (vs : List Value), cParts P t parts = some l → CRs ι w (F.ok ι s.pl w) cs vs → buildParts s cs l = some cs' →
      ∃ vs', Instr.fill (fun x => places[x]?) vs.toArray (parts.map fun x => (x.1, a.eval x.2)) = some vs'.toArray ∧ CRs ι w (F.ok ι s.pl w) cs' vs'
  | [], l, cs, cs', vs, h1, h2, h3 => by cases h1; cases h3; exact ⟨vs, rfl, h2⟩
  | (i, x) :: parts, l, cs, cs', vs, h1, h2, h3 => by
    unfold cParts at h1
    split at h1
    · rename_i off ft l' ht hl
      cases h1
      unfold buildParts at h3
      cases hc : solid (s.ow (cO x)).cells && Nat.beq (s.ow (cO x)).cells.length (tsz P ft) && Nat.ble (off + tsz P ft) cs.length with
      | false => rw [hc] at h3; cases h3
      | true =>
        rw [hc] at h3
        simp only [cond_true] at h3
        rw [Bool.and_eq_true, Bool.and_eq_true] at hc
        obtain ⟨⟨c1, c2⟩, c3⟩ := hc
        have c2 := Nat.eq_of_beq_eq_true c2
        have c3 := Nat.le_of_ble_eq_true c3
        obtain ⟨fs', f, e1, e2, e3, e4⟩ := tfield_spec ht
        rw [hu] at e1; cases e1
        have hp : places[i]? = some (off, tsz P ft) := by rw [hpl i f (by simpa using e2), e3, e4]
        have hx := WR_cells (WR_o hr x) c1
        have hxl : (a.eval x).cells.toList.length = tsz P ft := by rw [← hx.length, c2]
        have hcl : cs.length = vs.length := h2.length
        have hnew : CRs ι w (F.ok ι s.pl w) (splice cs off (s.ow (cO x)).cells) (splice vs off (a.eval x).cells.toList) := by
          simp only [splice]
          rw [hxl, c2]
          exact CRs.append (CRs.append (CRs.take _ h2) hx) (CRs.drop _ h2)
        obtain ⟨vs', g1, g2⟩ := fill_build hr hu hpl parts l' _ cs' _ hl hnew h3
        refine ⟨vs', ?_, g2⟩
        rw [List.map_cons, fill_step _ vs.toArray i off (tsz P ft) (a.eval x) _ hp hxl (by simp; omega)]
        exact g1
    · cases h1

theorem sound_build (hr : Rel F N ι s a w) (hd : ∀ k, o.dst = some k → k < N) {t : TypeId} {parts : Array (Nat × Operand)} (ho : o.op = .build t parts) {fs : Array Field} (hu : P.underlying t = some (.struct fs)) {l : List (Nat × Nat × O)}
    (hl : cParts P t parts.toList = some l) (hi : infos P fs.toList = true) (hz : solid (tzero P t).cells = true) (h : aop P o.dst (.build (tzero P t).cells l) s K) : FineQ P F N o a w (fun _ => True) K := by
  simp only [aop] at h
  split at h
  · rename_i cs hcs
    obtain ⟨places, h1, h2⟩ := infos_places fs.toList hi
    unfold tzero at hz hcs
    cases hit : P.info? t with
    | none => simp only [hit] at hz; cases hz
    | some it =>
      simp only [hit] at hz hcs
      cases hzz : it.zero with
      | none => simp only [hzz] at hz; cases hz
      | some z =>
        simp only [hzz] at hz hcs
        rw [ofValue_cells hz] at hcs
        obtain ⟨vs, g1, g2⟩ := fill_build hr hu h2 parts.toList l _ cs _ hl (CRs_ofCell ι w _ z.cells.toList) hcs
        have hb : P.built t (parts.map fun (i, x) => (i, a.eval x)).toList = some vs.toArray := by
          simp only [Program.built, hit, hu, hzz, h1]
          simpa using g1
        have hrun := fun (w' : World) => run_build (P := P) w' t (parts.map fun (i, x) => (i, a.eval x)) vs.toArray hb
        exact FineQ.put hr hd (fun w' _ => by simp [execOp, ho, hrun]) (show VR ι w _ (.w (.agg cs)) _ from ⟨vs, rfl, g2⟩) h
  · exact h.elim

/-! Slice literals. -/
theorem fill_lits {sz : Nat} : ∀ (vals : List Value) (i : Nat) (cur : Array Value), (∀ v ∈ vals, v.cells.toList.length = sz) → (i + vals.length) * sz = cur.size → ∀ (parts : List (Nat × Value)),
    parts = (vals.zipIdx i).map (fun x => (x.2, x.1)) → Instr.fill (fun i => some (i * sz, sz)) cur parts = some (cur.toList.take (i * sz) ++ (vals.map fun v => v.cells.toList).flatten).toArray
  | [], i, cur, _, hs, parts, hp => by
    subst hp
    simp only [List.zipIdx_nil, List.map_nil, Instr.fill, List.flatten_nil, List.append_nil]
    rw [List.take_of_length_le (by simp at hs ⊢; omega)]
  | v :: r, i, cur, hv, hs, parts, hp => by
    subst hp
    have hvl := hv v (by simp)
    simp only [List.length_cons] at hs
    have hm : (i + (r.length + 1)) * sz = i * sz + sz + r.length * sz := by rw [Nat.add_mul, Nat.add_mul, Nat.one_mul]; omega
    simp only [List.zipIdx_cons, List.map_cons]
    rw [fill_step _ cur i (i * sz) sz v _ rfl hvl (by omega)]
    have hlen : (splice cur.toList (i * sz) v.cells.toList).length = cur.size := by
      simp only [splice, List.length_append, List.length_take, List.length_drop, hvl, Array.length_toList]; omega
    rw [fill_lits r (i + 1) _ (fun u hu => hv u (by simp [hu])) (by simp only [List.size_toArray, hlen]; rw [← hs]; congr 1; omega) _ rfl]
    congr 2
    simp only [List.flatten_cons]
    rw [← List.append_assoc]
    congr 1
    simp only [splice]
    rw [show (i + 1) * sz = i * sz + sz by rw [Nat.add_mul]; omega]
    have t1 : (cur.toList.take (i * sz)).length = i * sz := by rw [List.length_take, Array.length_toList]; omega
    rw [List.take_append_of_le_length (by simp only [List.length_append, t1, hvl]; omega)]
    rw [List.take_of_length_le (by simp only [List.length_append, t1, hvl]; omega)]

theorem inOrder_map : ∀ (parts : List (Nat × Operand)) (i : Nat), inOrder i parts = true → (parts.map fun x => (x.1, a.eval x.2)) = ((parts.map fun x => a.eval x.2).zipIdx i).map fun x => (x.2, x.1)
  | [], _, _ => rfl
  | (j, x) :: r, i, h => by
    simp only [inOrder, Bool.and_eq_true] at h
    have := Nat.eq_of_beq_eq_true h.1
    subst this
    simp only [List.map_cons, List.zipIdx_cons, inOrder_map r (i + 1) h.2]

theorem litEls_sound {sz : Nat} (s0 : S) (a : Act) : ∀ {parts : List Operand} {s : S} (_ : Rel F N ι s a w) (_ : ∀ x ∈ parts, WR ι w (F.ok ι s.pl w) (s0.ow (cO x)) (a.eval x)) {els : List (List D)} {pl1 : List (Nat × Pl)} (_ : litEls s0 sz s.pl (parts.map cO) = some (els, pl1)),
    Rel F N ι (s.withPl pl1) a w ∧ (∀ b, F.ok ι s.pl w b → F.ok ι pl1 w b) ∧ els.length = parts.length ∧ (∀ e ∈ els, e.length = sz) ∧ (∀ x ∈ parts, (a.eval x).cells.toList.length = sz) ∧
      CRs ι w (F.ok ι pl1 w) (els.flatten.map .d) ((parts.map fun x => (a.eval x).cells.toList).flatten)
  | [], s, hr, _, els, pl1, h => by cases h; exact ⟨hr, fun _ h => h, rfl, fun e he => (by cases he), fun x hx => (by cases hx), trivial⟩
  | x :: parts, s, hr, hx, els, pl1, h => by
    simp only [List.map_cons, litEls] at h
    cases hb : Nat.beq (s0.ow (cO x)).cells.length sz with
    | false => rw [hb] at h; cases h
    | true =>
      rw [hb] at h
      have hb := Nat.eq_of_beq_eq_true hb
      simp only [cond_true] at h
      split at h
      · rename_i ds pl2 h1
        split at h
        · rename_i es pl3 h2
          cases h
          have hcs := WR_cells (hx x (by simp)) (solid_of_toDs h1)
          obtain ⟨g1, g2, g3⟩ := toDs_sound hr hcs h1
          have hk : Keeps w w (F.ok ι s.pl w) (F.ok ι pl2 w) := fun b hb => ⟨g2 b hb, rfl⟩
          obtain ⟨k1, k2, k3, k4, k5, k6⟩ := litEls_sound s0 a (s := s.withPl pl2) g1 (fun y hy => WR.keep hk (Shapes.refl w) _ _ (hx y (by simp [hy]))) h2
          have hdl : ds.length = sz := by rw [← hb, hcs.length]; simpa using g3.length
          refine ⟨k1, fun b hb => k2 b (g2 b hb), by simp [k3], fun e he => ?_, fun y hy => ?_, ?_⟩
          · rcases List.mem_cons.1 he with rfl | he
            · exact hdl
            · exact k4 e he
          · rcases List.mem_cons.1 hy with rfl | hy
            · rw [← hcs.length, hb]
            · exact k5 y hy
          · simp only [List.flatten_cons, List.map_append, List.map_cons]
            exact CRs.append (CRs.keep (fun b hb => ⟨k2 b hb, rfl⟩) (Shapes.refl w) _ _ g3) k6
        · cases h
      · cases h

theorem withPl_redo (s : S) (pl : List (Nat × Pl)) (k : List Nat) (n : List (Nat × Pl)) : ({ s with pl := pl } : S).redo k n = (s.withPl pl).redo k n := rfl

theorem NewRow.shape {w w' : World} {cur : Array Value} {t : TypeId} {mk : Nat × Nat} (h : NewRow w w' cur t mk) : w'.shape? w.heap.size = some (t, cur.size) := by
  simp [World.shape?, h.new]

theorem sound_lits (hr : Rel F N ι s a w) (hd : ∀ k, o.dst = some k → k < N) {t e : TypeId} {n : Nat} {parts : Array (Nat × Operand)} (ho : o.op = .buildSlice t n parts) (ht : telem P t = some e) (hpos : Nat.blt 0 (tsz P e) = true) (hn : Nat.beq n parts.toList.length = true)
    (hbig : Nat.ble (n * tsz P e) 16777216 = true) (hin : inOrder 0 parts.toList = true) (hzero : hasZero P e = true) (h : aop P o.dst (.lits (tsz P e) (parts.toList.map fun x => cO x.2)) s K) : Fine P F N o a w K := by
  simp only [aop] at h
  have hu := telem_spec ht
  have hpos : 0 < tsz P e := Nat.le_of_ble_eq_true hpos
  have hn := Nat.eq_of_beq_eq_true hn
  have hbig := Nat.le_of_ble_eq_true hbig
  unfold hasZero at hzero
  cases hi : P.info? e with
  | none => rw [hi] at hzero; cases hzero
  | some i =>
    simp only [hi] at hzero
    cases hz : i.zero with
    | none => rw [hz] at hzero; cases hzero
    | some z =>
      have hsz : tsz P e = i.size := by simp [tsz, hi]
      split at h
      · rename_i d els pl1 hdst hels
        have hmap : (parts.toList.map fun x => cO x.2) = (parts.toList.map (·.2)).map cO := by simp
        rw [hmap] at hels
        obtain ⟨g1, g2, g3, g4, g5, g6⟩ := litEls_sound s a hr (fun x _ => WR_o hr x) hels
        have hfill := fill_lits (sz := tsz P e) (parts.toList.map fun x => a.eval x.2) 0 ((Array.range (n * tsz P e)).map ((if n * tsz P e = 0 then #[] else z.cells)[· % (if n * tsz P e = 0 then #[] else z.cells).size]!)) (fun v hv => by
          obtain ⟨x, hx, rfl⟩ := List.mem_map.1 hv
          exact g5 x.2 (List.mem_map.2 ⟨x, hx, rfl⟩)) (by simp [hn]) _ (inOrder_map parts.toList 0 hin)
        simp only [Nat.zero_mul, List.take_zero, List.nil_append] at hfill
        obtain ⟨cur, hcur⟩ : ∃ cur : Array Value, cur = ((parts.toList.map fun x => a.eval x.2).map fun v => v.cells.toList).flatten.toArray := ⟨_, rfl⟩
        rw [← hcur] at hfill
        have hcl : cur.toList = ((parts.toList.map (·.2)).map fun x => (a.eval x).cells.toList).flatten := by rw [hcur, List.map_map, List.map_map]; rfl
        have hcs : cur.size = n * tsz P e := by
          have h1 : cur.size = cur.toList.length := by simp
          rw [h1, hcl]
          have : ∀ (l : List Operand), (∀ x ∈ l, (a.eval x).cells.toList.length = tsz P e) → ((l.map fun x => (a.eval x).cells.toList).flatten).length = l.length * tsz P e := by
            intro l
            induction l with
            | nil => intro _; simp
            | cons x r ih => intro hl; simp only [List.map_cons, List.flatten_cons, List.length_append, List.length_cons, hl x (by simp), ih (fun y hy => hl y (by simp [hy])), Nat.add_mul]; omega
          rw [this _ g5, hn]; simp
        have hrun : (execOp a.eval o).run P w = .ok (.value (.slice (some ⟨w.heap.size, 0, none⟩) n n)) (w.alloc (.cells cur e)) := by
          have hnb : ¬ n * i.size > 16777216 := by rw [← hsz]; omega
          rw [hsz] at hfill
          have hparts : (parts.map fun (i, x) => (i, a.eval x)).toList = parts.toList.map fun x => (x.1, a.eval x.2) := by simp
          by_cases h0 : n * i.size = 0
          · rw [if_pos h0] at hfill
            simp only [execOp, ho, Instr.buildSlice, Sem.run_bind, run_underlying hu, Result.andThen_ok, sizeOf, typeInfo, run_program, hi, Sem.run_pure, if_neg hnb, if_pos h0, hparts, hfill, newRow, run_newObj]
            rfl
          · rw [if_neg h0] at hfill
            simp only [execOp, ho, Instr.buildSlice, Sem.run_bind, run_underlying hu, Result.andThen_ok, sizeOf, typeInfo, run_program, hi, Sem.run_pure, if_neg hnb, if_neg h0, zeroValue, hz, hparts, hfill, newRow, run_newObj]
            rfl
        have hw := NewRow.alloc w cur e
        have hrel := Rel.newRow g1 hw d (.arr (tsz P e) els false) [d] (by simp [isin]) els.length (g1.h_slot (hd _ (by assumption))) ⟨hpos, by rw [upd_same], .inr ⟨w.heap.size, by rw [upd_same], by
          refine RDs_mk (ι := ι) (vs := cur.toList) g4 ?_ (fun j v hv => by rw [Nat.zero_add, hw.cell]; simpa using hv)
          rw [hcl]
          exact CRs.keep (newRow_keeps g1 hw d _ [d] (by simp [isin]) els.length) hw.shapes _ _ g6, (fun hf => by cases hf), (fun _ => ⟨cur, ⟨e, hw.new⟩, by rw [hcs, g3, hn]; simp⟩)⟩⟩
        refine Fine.of_value (ι' := upd ι d ⟨some w.heap.size, els.length⟩) hrun ?_ h
        rw [hdst]
        refine hrel.put (some d) (fun k hk => by cases hk; exact hd d hdst) _ _ ?_
        have hne : els.length = n := by rw [g3, hn]; simp
        refine .inr ⟨w.heap.size, n, e, by rw [upd_same], by rw [upd_same]; exact Nat.le_refl _, by rw [hne], by rw [hne]; exact Nat.le_refl _, ?_, by rw [hw.shape, hcs]⟩
        have : n * 1 ≤ n * tsz P e := Nat.mul_le_mul_left _ hpos
        simp only [maxLen]; omega
      · exact h.elim
end

end Go.AM
