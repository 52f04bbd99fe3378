/- Soundness of the abstract machine, 4: operations that make or change no memory. -/
import Derived.Test.YtbdcgchgpdclaaaAmS3
namespace Go.AM

/-- From here on, whatever frame in which K holds will do. -/
def Fine (P : Program) (F : Fr) (N : Nat) (o : Oper) (a : Act) (w : World) (K : S → Prop) : Prop :=
  ∀ (next : Act → World → Prop) (Q : Exit → Act → World → Prop), (∀ ι s a' w', Rel F N ι s a' w' → K s → next a' w') → o.wp P a w next Q

section
variable {P : Program} {F : Fr} {N : Nat} {ι : Nat → Gh} {s : S} {a : Act} {w : World} {o : Oper} {K : S → Prop}

theorem Fine.of_value {v : Value} {w' : World} {ι' : Nat → Gh} {s' : S} (h : (execOp a.eval o).run P w = .ok (.value v) w') (hr : Rel F N ι' s' (a.put o.dst v) w') (hk : K s') : Fine P F N o a w K := by
  intro next Q hn
  unfold Oper.wp
  rw [h]
  exact hn ι' s' _ _ hr hk

theorem Fine.of_skip {w' : World} {ι' : Nat → Gh} {s' : S} (h : (execOp a.eval o).run P w = .ok .skip w') (hr : Rel F N ι' s' (a.put o.dst undef) w') (hk : K s') : Fine P F N o a w K := by
  intro next Q hn
  unfold Oper.wp
  rw [h]
  exact hn ι' s' _ _ hr hk

/-- A value that the operation computes without touching the world goes into its slot. -/
theorem Fine.put (hr : Rel F N ι s a w) (hd : ∀ k, o.dst = some k → k < N) {v : Value} {x : V} (h : (execOp a.eval o).run P w = .ok (.value v) w) (hv : VR ι w (F.ok ι s.pl w) x v) (hk : K (s.put o.dst x)) : Fine P F N o a w K :=
  Fine.of_value h (hr.put o.dst hd x v hv) hk

/-- The operation computes one value in every world of the class C, touching none; with it in its slot K holds. -/
def FineQ (P : Program) (F : Fr) (N : Nat) (o : Oper) (a : Act) (w : World) (C : World → Prop) (K : S → Prop) : Prop :=
  ∃ v ι' s', (∀ w', C w' → (execOp a.eval o).run P w' = .ok (.value v) w') ∧ Rel F N ι' s' (a.put o.dst v) w ∧ K s'

theorem FineQ.fine {C : World → Prop} (hC : C w) (h : FineQ P F N o a w C K) : Fine P F N o a w K :=
  let ⟨_, _, _, h1, h2, h3⟩ := h
  Fine.of_value (h1 w hC) h2 h3

theorem FineQ.put {C : World → Prop} (hr : Rel F N ι s a w) (hd : ∀ k, o.dst = some k → k < N) {v : Value} {x : V} (h : ∀ w', C w' → (execOp a.eval o).run P w' = .ok (.value v) w') (hv : VR ι w (F.ok ι s.pl w) x v) (hk : K (s.put o.dst x)) : FineQ P F N o a w C K :=
  ⟨v, ι, _, h, hr.put o.dst hd x v hv, hk⟩

/-- What was there is there as it was. -/
def Ext (w w' : World) : Prop := w.heap.size ≤ w'.heap.size ∧ ∀ b, b < w.heap.size → w'.heap[b]? = w.heap[b]?
theorem Ext.refl (w : World) : Ext w w := ⟨Nat.le_refl _, fun _ _ => rfl⟩
theorem Ext.trans {w w' w'' : World} (h : Ext w w') (k : Ext w' w'') : Ext w w'' :=
  ⟨Nat.le_trans h.1 k.1, fun b hb => (k.2 b (Nat.lt_of_lt_of_le hb h.1)).trans (h.2 b hb)⟩
theorem Ext.cell {w w' : World} (h : Ext w w') {b q : Nat} {v : Value} (hc : w.cell? ⟨b, q, none⟩ = some v) : w'.cell? ⟨b, q, none⟩ = some v := by
  have hb : b < w.heap.size := by
    rcases Nat.lt_or_ge b w.heap.size with h' | h'
    · exact h'
    · simp [World.cell?, Array.getElem?_eq_none h'] at hc
  simp only [World.cell?, h.2 b hb] at hc ⊢
  exact hc

theorem addr_add (b o j : Nat) : (⟨b, o, none⟩ : Addr).add j = ⟨b, o + j, none⟩ := by
  unfold Addr.add; split <;> simp_all

/-! Types. -/
theorem info_of_underlying {t : TypeId} {d : TypeDesc} (h : P.underlying t = some d) : ∃ i, P.info? t = some i := by
  unfold Program.underlying at h
  cases hi : P.info? t with
  | none => rw [hi] at h; cases h
  | some i => exact ⟨i, rfl⟩

theorem run_sizeOf {t : TypeId} {i : TypeInfo} (h : P.info? t = some i) (w : World) : (sizeOf t).run P w = .ok (tsz P t) w := by
  simp [sizeOf, typeInfo, h, tsz]

theorem tagg_spec {t : TypeId} {g : Bool} (h : tagg P t = some g) : ∃ i, P.info? t = some i ∧ ∀ w, (isAgg t).run P w = .ok g w := by
  unfold tagg at h
  cases hu : P.underlying t with
  | none => rw [hu] at h; cases h
  | some d =>
    obtain ⟨i, hi⟩ := info_of_underlying hu
    refine ⟨i, hi, fun w => ?_⟩
    rw [hu] at h
    cases d <;> cases h <;> simp [isAgg, run_underlying hu]

theorem telem_spec {t e : TypeId} (h : telem P t = some e) : P.underlying t = some (.slice e) := by
  unfold telem at h
  cases hu : P.underlying t with
  | none => rw [hu] at h; cases h
  | some d => rw [hu] at h; cases d <;> cases h; rfl

theorem tfield_spec {t : TypeId} {f off : Nat} {ft : TypeId} (h : tfield P t f = some (off, ft)) : ∃ fs x, P.underlying t = some (.struct fs) ∧ fs[f]? = some x ∧ x.offset = off ∧ x.type = ft := by
  unfold tfield at h
  cases hu : P.underlying t with
  | none => rw [hu] at h; cases h
  | some d =>
    rw [hu] at h
    cases d <;> try (cases h; done)
    case struct fs =>
      cases hx : fs[f]? with
      | none => simp only [hx] at h; cases h
      | some x => simp only [hx] at h; cases h; exact ⟨fs, x, rfl, hx, rfl, rfl⟩

/-! Literals. -/
theorem litInt_spec {v : V} {n : Int} {x : Value} {ok : Nat → Prop} (h : litInt v = some n) (hv : VR ι w ok v x) : ∃ k, x = .int k n ∧ v = .w (.c (.d (.lit (.int k n)))) := by
  unfold litInt at h
  split at h
  · rename_i k m
    cases h
    simp only [VR, WR, CR, RD] at hv
    exact ⟨k, hv.1, rfl⟩
  · cases h

theorem litBool_spec {v : V} {b : Bool} {x : Value} {ok : Nat → Prop} (h : litBool v = some b) (hv : VR ι w ok v x) : x = .bool b := by
  unfold litBool at h
  split at h
  · cases h
    simp only [VR, WR, CR, RD] at hv
    exact hv.1
  · cases h

theorem CR_lit {ok : Nat → Prop} {v x : Value} : CR ι w ok (.d (.lit v)) x → x = v := by
  intro h; simp only [CR, RD] at h; exact h.1

theorem VR_lit {ok : Nat → Prop} {v : Value} (h : v.oneCell' = true) : VR ι w ok (cV (.d (.lit v))) v := by
  simp only [cV, VR, WR, CR, RD]; exact ⟨trivial, h⟩

/-! Slots only. -/
theorem sound_mov (hr : Rel F N ι s a w) (hd : ∀ k, o.dst = some k → k < N) {x : Operand} (ho : o.op = .move x ∨ o.op = .assign x) (h : K (s.put o.dst (s.o (cO x)))) : FineQ P F N o a w (fun _ => True) K := by
  refine FineQ.put hr hd ?_ (VR_o hr x) h
  intro w' _
  rcases ho with ho | ho <;> simp [execOp, ho]

theorem sound_pick (hr : Rel F N ι s a w) (hd : ∀ k, o.dst = some k → k < N) {c x y : Operand} (ho : o.op = .pick c x y)
    (h : match litBool (s.o (cO c)) with | some t => cond t (K (s.put o.dst (s.o (cO x)))) (K (s.put o.dst (s.o (cO y)))) | none => False) : FineQ P F N o a w (fun _ => True) K := by
  cases hb : litBool (s.o (cO c)) with
  | none => simp only [hb] at h
  | some t =>
    simp only [hb] at h
    have hc := litBool_spec hb (VR_o hr c)
    cases t
    · exact FineQ.put hr hd (fun w' _ => by simp [execOp, ho, hc, asBool]) (VR_o hr y) h
    · exact FineQ.put hr hd (fun w' _ => by simp [execOp, ho, hc, asBool]) (VR_o hr x) h

theorem sound_ext (hr : Rel F N ι s a w) (hd : ∀ k, o.dst = some k → k < N) {x : Operand} {i : Nat} (ho : o.op = .extract x i)
    (h : aop P o.dst (.ext (cO x) i) s K) : FineQ P F N o a w (fun _ => True) K := by
  simp only [aop] at h
  have hx := VR_o hr x
  cases e : s.o (cO x) with
  | w y => simp only [e] at h
  | tup xs =>
    simp only [e] at h
    rw [e] at hx
    obtain ⟨vs, hv, hvs⟩ := hx
    cases ei : xs[i]? with
    | none => simp only [ei] at h
    | some y =>
      simp only [ei] at h
      have : ∀ (xs : List W) (vs : List Value) (i : Nat) (y : W), WRs ι w (F.ok ι s.pl w) xs vs → xs[i]? = some y → ∃ v, vs[i]? = some v ∧ WR ι w (F.ok ι s.pl w) y v := by
        intro xs
        induction xs with
        | nil => intro vs i y _ he; simp at he
        | cons z zs ih =>
          intro vs i y hh he
          cases vs with
          | nil => exact hh.elim
          | cons v vs => cases i with
            | zero => simp at he; subst he; exact ⟨v, rfl, hh.1⟩
            | succ i => simp at he; simpa using ih vs i y hh.2 he
      obtain ⟨v, h1, h2⟩ := this xs vs i y hvs ei
      refine FineQ.put hr hd ?_ (show VR ι w _ (.w y) v from h2) h
      intro w' _
      simp [execOp, ho, hv, Instr.extract, h1]

theorem sound_nc (hr : Rel F N ι s a w) (hd : ∀ k, o.dst = some k → k < N) {x : Operand} (ho : o.op = .nilCheck x)
    (h : aop P o.dst (.nc (cO x)) s K) : FineQ P F N o a w (fun _ => True) K := by
  simp only [aop] at h
  have hx := CR_o hr x
  cases e : s.oc (cO x) <;> simp only [e] at h <;> rw [e] at hx
  case ptr p k =>
    obtain ⟨b, h1, h2⟩ := hx
    exact FineQ.put hr hd (v := a.eval x) (fun w' _ => by simp [execOp, ho, h2]) (show VR ι w _ (cV (.ptr p k)) _ from ⟨b, h1, h2⟩) h
  case eptr p z i k =>
    obtain ⟨b, h1, h2⟩ := hx
    exact FineQ.put hr hd (v := a.eval x) (fun w' _ => by simp [execOp, ho, h2]) (show VR ι w _ (cV (.eptr p z i k)) _ from ⟨b, h1, h2⟩) h
  case fp l =>
    obtain ⟨b, q, h1, h2⟩ := hx
    exact FineQ.put hr hd (v := a.eval x) (fun w' _ => by simp [execOp, ho, h1]) (show VR ι w _ (cV (.fp l)) _ from ⟨b, q, h1, h2⟩) h

theorem ptrs_spec (hr : Rel F N ι s a w) : ∀ (caps : List Operand) (ps : List Nat), ptrs s (caps.map cO) = some ps → ∃ bs : List Nat, ps.map (fun p => (ι p).b) = bs.map some ∧ caps.map a.eval = bs.map fun b => Value.pointer (some ⟨b, 0, none⟩)
  | [], ps, h => by cases h; exact ⟨[], rfl, rfl⟩
  | x :: r, ps, h => by
    simp only [List.map_cons, ptrs] at h
    have hx := CR_o hr x
    split at h
    · rename_i p l h1 h2
      cases h
      rw [h1] at hx
      obtain ⟨b, e1, e2⟩ := hx
      obtain ⟨bs, e3, e4⟩ := ptrs_spec hr r l h2
      exact ⟨b :: bs, by simp [e1, e3], by simp [e2, e4]⟩
    · cases h

theorem sound_clo (hr : Rel F N ι s a w) (hd : ∀ k, o.dst = some k → k < N) {f : FuncId} {first caps : Array Operand} (ho : o.op = .makeFunc (.func f) first caps) (hf : first.toList.isEmpty = true)
    (h : aop P o.dst (.clo f (caps.toList.map cO)) s K) : Fine P F N o a w K := by
  simp only [aop] at h
  cases e : ptrs s (caps.toList.map cO) with
  | none => simp only [e] at h
  | some ps =>
    simp only [e] at h
    obtain ⟨bs, h1, h2⟩ := ptrs_spec hr caps.toList ps e
    have hfirst : first = #[] := by
      apply Array.toList_inj.1
      simpa using hf
    refine Fine.put hr hd (v := .func (.func f) #[] (bs.map fun b => Value.pointer (some ⟨b, 0, none⟩)).toArray) ?_ (show VR ι w _ (cV (.clo f ps)) _ from ⟨bs, h1, rfl⟩) h
    have hc : caps.map a.eval = (bs.map fun b => Value.pointer (some ⟨b, 0, none⟩)).toArray := by
      apply Array.toList_inj.1
      simpa using h2
    simp [execOp, ho, Instr.makeFunc, hfirst, hc]

/-! Without the world. -/
theorem pureRun_spec {α : Type} : ∀ (e : Sem α) (v : α), pureRun P e = some v → ∀ w, e.run P w = .ok v w := by
  intro e
  induction e with
  | pure x => intro v h w; simp only [pureRun, Option.some.injEq] at h; subst h; rfl
  | program k ih => intro v h w; exact ih P v h w
  | mark m k ih => intro v h w; exact ih v h w
  | _ => intro v h w; cases h

theorem litCs_spec {ok : Nat → Prop} : ∀ (cs : List C) (l vs : List Value), litCs cs = some l → CRs ι w ok cs vs → vs = l
  | [], _, [], h, _ => by cases h; rfl
  | [], _, _ :: _, _, h => h.elim
  | _ :: _, _, [], _, h => h.elim
  | c :: cs, l, v :: vs, h, hc => by
    simp only [litCs] at h
    split at h
    · rename_i u m h1 h2
      cases h
      have := litCs_spec cs m vs h2 hc.2
      subst this
      have hv := hc.1
      unfold litC at h1
      split at h1
      · cases h1; rw [CR_lit hv]
      · cases h1; simp only [CR] at hv; rw [hv]
      · cases h1
    · cases h

theorem litV_spec {ok : Nat → Prop} {v : V} {u x : Value} (h : litV v = some u) (hv : VR ι w ok v x) : x = u := by
  cases v with
  | tup xs => cases h
  | w y =>
    cases y with
    | c c =>
      simp only [litV, litW] at h
      unfold litC at h
      split at h
      · cases h; exact CR_lit (ι := ι) (w := w) (ok := ok) hv
      · cases h; exact hv
      · cases h
    | agg cs =>
      simp only [litV, litW] at h
      obtain ⟨vs, h1, h2⟩ := hv
      split at h
      · rename_i l hl
        cases h
        rw [h1, litCs_spec cs l vs hl h2]
      · cases h

theorem rho_eval (hr : Rel F N ι s a w) : ∀ (l : List Operand), allLit s l = true → ∀ x ∈ l, rho s x = a.eval x
  | [], _, _, hx => by cases hx
  | y :: r, h, x, hx => by
    simp only [allLit] at h
    split at h
    · rename_i u hu
      rcases List.mem_cons.1 hx with rfl | hx
      · unfold rho
        rw [hu]
        exact (litV_spec hu (VR_o hr x)).symm
      · exact rho_eval hr r h x hx
    · cases h

/-- What an operation of the plain kinds does hangs on its operands' values, its kind and its type alone. -/
def plainOp : Op → Bool
  | .convert _ _ _ | .binOp _ _ _ _ _ | .unOp _ _ _ => true
  | .call { callee := .builtin _, args := _, argTypes := _ } => true
  | _ => false

theorem execOp_rho {ρ ρ' : Operand → Value} {o o' : Oper} (hp : plainOp o.op = true) (h1 : o'.op = o.op) (h2 : o'.type = o.type) (h : ∀ x ∈ o.op.operands.toList, ρ x = ρ' x) : execOp ρ' o' = execOp ρ o := by
  unfold execOp
  rw [h1, h2]
  cases ho : o.op <;> rw [ho] at hp h <;> try (cases hp; done)
  case convert src dst x => simp [Op.operands] at h; simp [h]
  case binOp b t x y u => simp [Op.operands] at h; simp [h.1, h.2]
  case unOp u t x => simp [Op.operands] at h; simp [h]
  case call c =>
    obtain ⟨callee, args, ts⟩ := c
    cases callee <;> try (cases hp; done)
    case builtin b =>
      have hargs : args.map ρ' = args.map ρ := by
        apply Array.map_congr_left
        intro x hx
        exact (h x (by simp [Op.operands, Call.operands]; exact hx)).symm
      simp [resolve, hargs]

theorem sound_pure (hr : Rel F N ι s a w) (hd : ∀ k, o.dst = some k → k < N) (hp : plainOp o.op = true) (h : aop P o.dst (.pure o.op o.type) s K) : FineQ P F N o a w (fun _ => True) K := by
  simp only [aop, aPure] at h
  cases hl : allLit s o.op.operands.toList with
  | false => rw [hl] at h; exact h.elim
  | true =>
    rw [hl] at h
    simp only [cond_true] at h
    split at h
    · rename_i v hv
      have he : execOp a.eval o = execOp (rho s) (pureOp o.op o.type) := execOp_rho (o := pureOp o.op o.type) hp rfl rfl (rho_eval hr _ hl)
      exact FineQ.put hr hd (v := v) (x := .w (ofValue v)) (fun w' _ => by rw [he]; exact pureRun_spec _ _ hv w') (WR_ofValue ι w (F.ok ι s.pl w) v) h
    · exact h.elim

theorem kindEq_spec {k k' : IntKind} (h : kindEq k k' = true) : k = k' := by
  cases k <;> cases k' <;> first | rfl | cases h

theorem binI_one {b : BinOp} {k : IntKind} {m n : Int} {v : Value} (h : binI b k m n = some v) : v.oneCell' = true := by
  unfold binI at h
  split at h <;> cases h <;> rfl
theorem binS_one {b : BinOp} {m n : ByteArray} {v : Value} (h : binS b m n = some v) : v.oneCell' = true := by
  unfold binS at h
  split at h <;> cases h <;> rfl

theorem run_binI {b : BinOp} {k : IntKind} {m n : Int} {v : Value} (h : binI b k m n = some v) (t : TypeId) (w : World) : (binOp b t (.int k m) (.int k n)).run P w = .ok v w := by
  unfold binI at h
  split at h <;> cases h <;> simp [binOp, Op.intArith, Op.intCmp]

theorem run_binS {b : BinOp} {m n : ByteArray} {v : Value} (h : binS b m n = some v) (t : TypeId) (w : World) : (binOp b t (.string m) (.string n)).run P w = .ok v w := by
  unfold binS at h
  split at h <;> cases h <;> simp [binOp, Op.stringOp]

theorem run_eqGuard_one (b : BinOp) (t : TypeId) (x y : Operand) {u v : Value} (hu : (∃ k n, u = .int k n) ∨ ∃ m, u = .string m) (w : World) : (eqGuard b t x y u v).run P w = .ok () w := by
  rcases hu with ⟨k, n, rfl⟩ | ⟨m, rfl⟩ <;> (unfold eqGuard; cases b <;> simp)

theorem sound_bin (hr : Rel F N ι s a w) (hd : ∀ k, o.dst = some k → k < N) {b : BinOp} {t u : TypeId} {x y : Operand} (ho : o.op = .binOp b t x y u)
    (h : aop P o.dst (.bin b (cO x) (cO y)) s K) : FineQ P F N o a w (fun _ => True) K := by
  simp only [aop] at h
  have hx := CR_o hr x
  have hy := CR_o hr y
  generalize s.oc (cO x) = cx at *
  generalize s.oc (cO y) = cy at *
  unfold aBin at h
  split at h
  · rename_i k m k1 n
    cases hk : kindEq k k1 with
    | false => rw [hk] at h; exact h.elim
    | true =>
      rw [hk] at h
      have := kindEq_spec hk; subst this
      simp only [cond_true] at h
      split at h
      · rename_i v hv
        refine FineQ.put hr hd (v := v) ?_ (VR_lit (binI_one hv)) h
        intro w' _
        simp [execOp, ho, CR_lit hx, CR_lit hy, run_eqGuard_one b t x y (.inl ⟨k, m, rfl⟩), run_binI hv]
      · exact h.elim
  · rename_i m n
    split at h
    · rename_i v hv
      refine FineQ.put hr hd (v := v) ?_ (VR_lit (binS_one hv)) h
      intro w' _
      simp [execOp, ho, CR_lit hx, CR_lit hy, run_eqGuard_one b t x y (.inr ⟨m, rfl⟩), run_binS hv]
    · cases b <;> simp only [] at h
      case add =>
        refine FineQ.put hr hd (v := .string (m ++ n)) ?_ (VR_lit rfl) h.2
        intro w' _
        have h63 : ¬ ((m.size + n.size : Nat) : Int) > IntKind.i64.max := by
          have := h.1
          have e : IntKind.i64.max = 9223372036854775807 := by decide
          rw [e]; omega
        simp [execOp, ho, CR_lit hx, CR_lit hy, run_eqGuard_one .add t x y (.inr ⟨m, rfl⟩), binOp, Op.stringOp]
        simp at h63
        simp [h63]
  · exact h.elim

/-! Reading memory. -/
theorem run_loadVar_agg {t : TypeId} (h : tagg P t = some true) {b off : Nat} {vs : List Value} (hl : vs.length = tsz P t) (hc : ∀ j v, vs[j]? = some v → w.cell? ⟨b, off + j, none⟩ = some v) :
    (loadVar t ⟨b, off, none⟩).run P w = .ok (.agg vs.toArray) w := by
  obtain ⟨i, hi, hag⟩ := tagg_spec h
  have hcs := run_loadCells_list (P := P) w ⟨b, off, none⟩ vs (fun j v hv => by rw [addr_add]; exact hc j v hv)
  rw [hl] at hcs
  simp [loadVar, hag, run_sizeOf hi, hcs]

theorem run_loadVar_one {t : TypeId} (h : tagg P t = some false) {b off : Nat} {v : Value} (hc : w.cell? ⟨b, off, none⟩ = some v) :
    (loadVar t ⟨b, off, none⟩).run P w = .ok v w := by
  obtain ⟨i, hi, hag⟩ := tagg_spec h
  simp [loadVar, hag, hc]

/-- Cells from an address on, known as 'cs', read as a value of type t. -/
theorem load_cells {ok : Nat → Prop} {t : TypeId} {g : Bool} (ht : tagg P t = some g) {cs : List C} {vs : List Value} (hcs : CRs ι w ok cs vs) {b off : Nat} (hc : ∀ j v, vs[j]? = some v → w.cell? ⟨b, off + j, none⟩ = some v)
    {x : W} (hm : mkW g (tsz P t) cs = some x) : ∃ v, (∀ w', Ext w w' → (loadVar t ⟨b, off, none⟩).run P w' = .ok v w') ∧ WR ι w ok x v := by
  unfold mkW at hm
  cases g
  · simp only [cond_false] at hm
    cases cs with
    | nil => cases hm
    | cons c cs =>
      cases hm
      cases vs with
      | nil => exact hcs.elim
      | cons v vs => exact ⟨v, fun w' hw' => run_loadVar_one ht (hw'.cell (by simpa using hc 0 v rfl)), hcs.1⟩
  · simp only [cond_true] at hm
    cases hle : Nat.ble (tsz P t) cs.length with
    | false => rw [hle] at hm; cases hm
    | true =>
      rw [hle] at hm; cases hm
      have hle := Nat.le_of_ble_eq_true hle
      refine ⟨.agg (vs.take (tsz P t)).toArray, fun w' hw' => run_loadVar_agg ht ?_ (fun j v hv => hw'.cell ?_), _, rfl, CRs.take _ hcs⟩
      · rw [List.length_take, ← hcs.length]; omega
      · rw [List.getElem?_take] at hv
        split at hv
        · exact hc j v hv
        · cases hv

theorem RDc.vals {ok : Nat → Prop} {b : Nat} : ∀ {l : List D} {off : Nat}, RDc w ok b off l → ∃ vs, CRs ι w ok (l.map .d) vs ∧ ∀ j v, vs[j]? = some v → w.cell? ⟨b, off + j, none⟩ = some v
  | [], off, _ => ⟨[], trivial, fun j v h => by simp at h⟩
  | d :: r, off, h => by
    simp only [RDc] at h
    obtain ⟨⟨v, h1, h2⟩, h3⟩ := h
    obtain ⟨vs, h4, h5⟩ := RDc.vals h3
    refine ⟨v :: vs, ⟨h2, h4⟩, fun j u hu => ?_⟩
    cases j with
    | zero => simp at hu; subst hu; exact h1
    | succ j => simp at hu; rw [show off + (j + 1) = off + 1 + j by omega]; exact h5 j u hu

theorem sound_ld (hr : Rel F N ι s a w) (hd : ∀ k, o.dst = some k → k < N) {t : TypeId} {x : Operand} (ho : o.op = .load t x) {g : Bool} (ht : tagg P t = some g)
    (h : aop P o.dst (.ld g (tsz P t) (cO x)) s K) : FineQ P F N o a w (Ext w) K := by
  simp only [aop] at h
  have hx := CR_o hr x
  generalize s.oc (cO x) = cx at *
  unfold aLd at h
  split at h
  · rename_i p off
    obtain ⟨b, h1, h2⟩ := hx
    split at h
    · rename_i cs hp
      split at h
      · rename_i y hy
        obtain ⟨b', cur, e1, e2, e3⟩ := hr.places p _ hp
        rw [h1] at e1; cases e1
        obtain ⟨v, hv, hw⟩ := load_cells (b := b) (off := off) ht (CRs.drop off e3) (fun j v hv => by
          rw [e2.cell]; rw [List.getElem?_drop] at hv; simpa using hv) hy
        exact FineQ.put hr hd (fun w' hw' => by simp [execOp, ho, h2, Instr.loadAt, Instr.sureAddr, hv w' hw']) (show VR ι w _ (.w y) v from hw) h
      · exact h.elim
    · rename_i ds hp
      split at h
      · rename_i y hy
        obtain ⟨b', e1, e2, e3⟩ := hr.places p _ hp
        rw [h1] at e1; cases e1
        have e3 := RDc.drop off e3
        rw [Nat.zero_add] at e3
        obtain ⟨vs, h4, h5⟩ := RDc.vals (ι := ι) e3
        obtain ⟨v, hv, hw⟩ := load_cells (b := b) (off := off) ht h4 h5 hy
        exact FineQ.put hr hd (fun w' hw' => by simp [execOp, ho, h2, Instr.loadAt, Instr.sureAddr, hv w' hw']) (show VR ι w _ (.w y) v from hw) h
      · exact h.elim
    · exact h.elim
  · rename_i cells
    obtain ⟨b, off, h1, h2, h3⟩ := hx
    split at h
    · rename_i y hy
      obtain ⟨vs, h4, h5⟩ := RDc.vals (ι := ι) h3
      obtain ⟨v, hv, hw⟩ := load_cells (b := b) (off := off) ht h4 h5 hy
      exact FineQ.put hr hd (fun w' hw' => by simp [execOp, ho, h1, Instr.loadAt, Instr.sureAddr, hv w' hw']) (show VR ι w _ (.w y) v from hw) h
    · exact h.elim
  · rename_i p z i k
    obtain ⟨b, h1, h2⟩ := hx
    split at h
    · rename_i z1 els fz hp
      cases hz : Nat.beq z z1 with
      | false => rw [hz] at h; exact h.elim
      | true =>
        rw [hz] at h
        have hz := Nat.eq_of_beq_eq_true hz; subst hz
        simp only [cond_true] at h
        obtain ⟨e, he, h⟩ := h
        split at h
        · rename_i y hy
          obtain ⟨_, _, hpl | ⟨b', e1, e2, _⟩⟩ := hr.places p _ hp
          · rw [hpl.2] at he; simp at he
          · rw [h1] at e1; cases e1
            have h3 := RDc.drop k (RDs.get e2 he)
            rw [Nat.zero_add] at h3
            obtain ⟨vs, h4, h5⟩ := RDc.vals (ι := ι) h3
            obtain ⟨v, hv, hw⟩ := load_cells (b := b) (off := i * z + k) ht h4 h5 hy
            exact FineQ.put hr hd (fun w' hw' => by simp [execOp, ho, h2, Instr.loadAt, Instr.sureAddr, hv w' hw']) (show VR ι w _ (.w y) v from hw) h
        · exact h.elim
    · exact h.elim
  · exact h.elim

theorem sound_fa (hr : Rel F N ι s a w) (hd : ∀ k, o.dst = some k → k < N) {t : TypeId} {x : Operand} {f off : Nat} {ft : TypeId} (ho : o.op = .fieldAddr t x f) (ht : tfield P t f = some (off, ft)) (hz : Nat.blt 0 (tsz P ft) = true)
    (h : aop P o.dst (.fa off (cO x)) s K) : FineQ P F N o a w (fun _ => True) K := by
  simp only [aop] at h
  obtain ⟨fs, y, hu, hy, hoff, htype⟩ := tfield_spec ht
  have hpos : tsz P ft ≠ 0 := by have := Nat.le_of_ble_eq_true hz; omega
  have hinfo : ∃ i, P.info? ft = some i := by
    cases hi : P.info? ft with
    | none => simp [tsz, hi] at hpos
    | some i => exact ⟨i, rfl⟩
  obtain ⟨i, hi⟩ := hinfo
  have hrun : ∀ b q, a.eval x = .pointer (some ⟨b, q, none⟩) → ∀ w' : World, True → (execOp a.eval o).run P w' = .ok (.value (.pointer (some ⟨b, q + off, none⟩))) w' := by
    intro b q e w' _
    simp [execOp, ho, e, Instr.fieldAt, run_underlying hu, hy, Instr.sureAddr, fieldPlace, htype, run_sizeOf hi, hpos, hoff, addr_add]
  have hx := CR_o hr x
  cases e : s.oc (cO x) <;> simp only [e] at h <;> rw [e] at hx
  case ptr p k =>
    obtain ⟨b, h1, h2⟩ := hx
    exact FineQ.put hr hd (hrun b k h2) (show VR ι w _ (cV (.ptr p (k + off))) _ from ⟨b, h1, rfl⟩) h
  case eptr p z i k =>
    obtain ⟨b, h1, h2⟩ := hx
    exact FineQ.put hr hd (hrun b _ h2) (show VR ι w _ (cV (.eptr p z i (k + off))) _ from ⟨b, h1, by rw [Nat.add_assoc]⟩) h
  case fp l =>
    obtain ⟨b, q, h1, h2, h3⟩ := hx
    exact FineQ.put hr hd (hrun b _ h1) (show VR ι w _ (cV (.fp (l.drop off))) _ from ⟨b, q + off, rfl, h2, RDc.drop off h3⟩) h

theorem sound_fld (hr : Rel F N ι s a w) (hd : ∀ k, o.dst = some k → k < N) {t : TypeId} {x : Operand} {f off : Nat} {ft : TypeId} {g : Bool} (ho : o.op = .field t x f) (ht : tfield P t f = some (off, ft)) (hg : tagg P ft = some g)
    (h : aop P o.dst (.fld g (tsz P ft) off (cO x)) s K) : FineQ P F N o a w (fun _ => True) K := by
  simp only [aop] at h
  obtain ⟨fs, y, hu, hy, hoff, htype⟩ := tfield_spec ht
  obtain ⟨i, hi, hag⟩ := tagg_spec hg
  have hx := VR_o hr x
  cases e : s.o (cO x) with
  | tup xs => simp only [e] at h
  | w z =>
    cases z with
    | c c => simp only [e] at h
    | agg cs =>
      simp only [e] at h
      rw [e] at hx
      obtain ⟨vs, h1, h2⟩ := hx
      split at h
      · rename_i q hq
        unfold mkW at hq
        cases g
        · simp only [cond_false] at hq
          split at hq
          · rename_i c r hdrop
            cases hq
            have := CRs.drop off h2
            rw [hdrop] at this
            cases hvd : vs.drop off with
            | nil => rw [hvd] at this; exact this.elim
            | cons v vr =>
              rw [hvd] at this
              have hv : vs[off]? = some v := by
                have : (vs.drop off)[0]? = some v := by rw [hvd]; rfl
                simpa using this
              exact FineQ.put hr hd (v := v) (fun w' _ => by simp [execOp, ho, h1, Instr.field, run_underlying hu, hy, asAgg, part, htype, hag, hoff, hv]) (show VR ι w _ (.w (.c c)) v from this.1) h
          · cases hq
        · simp only [cond_true] at hq
          cases hle : Nat.ble (tsz P ft) (cs.drop off).length with
          | false => rw [hle] at hq; cases hq
          | true =>
            rw [hle] at hq; cases hq
            have hx2 : WR ι w (F.ok ι s.pl w) (.agg ((cs.drop off).take (tsz P ft))) (.agg ((vs.drop off).take (tsz P ft)).toArray) := ⟨_, rfl, CRs.take _ (CRs.drop off h2)⟩
            refine FineQ.put hr hd (v := .agg ((vs.drop off).take (tsz P ft)).toArray) ?_ (show VR ι w _ (.w (.agg ((cs.drop off).take (tsz P ft)))) _ from hx2) h
            intro w' _
            have hex : vs.toArray.extract off (off + tsz P ft) = ((vs.drop off).take (tsz P ft)).toArray := by
              apply Array.toList_inj.1
              simp [List.extract_eq_take_drop]
            simp only [execOp, ho, h1, Instr.field, Sem.run_bind, run_underlying hu, Result.andThen_ok, hy, asAgg, Sem.run_pure, part, htype, hag, hoff, run_sizeOf hi, if_true, hex]
      · exact h.elim

theorem sound_ia (hr : Rel F N ι s a w) (hd : ∀ k, o.dst = some k → k < N) {t e : TypeId} {x y : Operand} (ho : o.op = .indexAddr t x y) (ht : telem P t = some e) (hz : Nat.blt 0 (tsz P e) = true)
    (h : aop P o.dst (.ia (tsz P e) (cO x) (cO y)) s K) : FineQ P F N o a w (fun _ => True) K := by
  simp only [aop] at h
  have hu := telem_spec ht
  have hpos : tsz P e ≠ 0 := by have := Nat.le_of_ble_eq_true hz; omega
  have hinfo : ∃ i, P.info? e = some i := by
    cases hi : P.info? e with
    | none => simp [tsz, hi] at hpos
    | some i => exact ⟨i, rfl⟩
  obtain ⟨i, hi⟩ := hinfo
  split at h
  · rename_i n hn
    obtain ⟨k, hy, _⟩ := litInt_spec hn (VR_o hr y)
    have hrun : ∀ b q m c, a.eval x = .slice (some ⟨b, q, none⟩) m c → 0 ≤ n → n < m → ∀ w' : World, True → (execOp a.eval o).run P w' = .ok (.value (.pointer (some ⟨b, q + n.toNat * tsz P e, none⟩))) w' := by
      intro b q m c e1 e2 e3 w' _
      simp [execOp, ho, e1, hy, Instr.indexAt, run_underlying hu, asIntOf, e2, e3, run_sizeOf hi, addr_add]
    have hx := CR_o hr x
    split at h
    · rename_i l hl
      rw [hl] at hx
      simp only [CR, RD] at hx
      obtain ⟨ad, m, c, h1, h2, h3, h4, h5⟩ := hx
      obtain ⟨g1, y', g2, g3, g4⟩ := h
      rcases h5 with h5 | ⟨b, q, sz, e1, e2, e3⟩
      · rw [h5] at g2; simp at g2
      · subst e1
        have hlt : n.toNat < l.length := (List.getElem?_eq_some_iff.1 g2).1
        have hsz : y'.length = sz := RDs.len e3 y' (List.mem_of_getElem? g2)
        refine FineQ.put hr hd (hrun b q m c h1 g1 (by rw [h2]; omega)) (show VR ι w _ (cV (.fp y')) _ from ⟨b, _, rfl, e2, ?_⟩) g4
        rw [← g3, hsz]
        exact RDs.get e3 g2
    · rename_i p z m hl
      rw [hl] at hx
      cases hzz : Nat.beq z (tsz P e) with
      | false => rw [hzz] at h; exact h.elim
      | true =>
        rw [hzz] at h
        have hzz := Nat.eq_of_beq_eq_true hzz
        simp only [cond_true] at h
        obtain ⟨g1, g2, g3⟩ := h
        rcases hx with ⟨_, h2, _⟩ | ⟨b, cap, ty, h1, h2, h3, h4, h5, h6⟩
        · subst h2; omega
        · refine FineQ.put hr hd (hrun b 0 m cap h3 g1 g2) (show VR ι w _ (cV (.eptr p z n.toNat 0)) _ from ⟨b, h1, ?_⟩) g3
          rw [hzz]; simp
    · exact h.elim
  · exact h.elim

theorem sound_six (hr : Rel F N ι s a w) (hd : ∀ k, o.dst = some k → k < N) {t : TypeId} {x y : Operand} (ho : o.op = .index t x y) (hu : P.underlying t = some .string)
    (h : aop P o.dst (.six (cO x) (cO y)) s K) : FineQ P F N o a w (fun _ => True) K := by
  simp only [aop] at h
  split at h
  · rename_i b n hx hn
    obtain ⟨k, hy, _⟩ := litInt_spec hn (VR_o hr y)
    have hx' := CR_o hr x
    rw [hx] at hx'
    have hx' := CR_lit hx'
    obtain ⟨g1, g2, g3⟩ := h
    have hlt : n.toNat < b.size := by omega
    have hget : b[n.toNat]? = some (b.data.toList.getD n.toNat 0) := by
      have h1 : b[n.toNat]? = some b[n.toNat] := getElem?_pos b n.toNat hlt
      rw [h1]
      have h2 : n.toNat < b.data.toList.length := by simpa using hlt
      simp only [List.getD, List.getElem?_eq_getElem h2, Option.getD_some]
      rfl
    refine FineQ.put hr hd (v := .int .u8 (b.data.toList.getD n.toNat 0).toNat) ?_ (VR_lit rfl) g3
    intro w' _
    simp only [execOp, ho, hx', hy, Instr.index, Sem.run_bind, run_underlying hu, asIntOf, Sem.run_pure, Result.andThen_ok, g1, if_true, hget]
  · exact h.elim

theorem sound_len (hr : Rel F N ι s a w) (hd : ∀ k, o.dst = some k → k < N) {args : Array Operand} {ts : Array TypeId} {x : Operand} {t e : TypeId} (ho : o.op = .call { callee := .builtin .len, args := args, argTypes := ts })
    (hargs : args.toList = [x]) (hts : ts.toList = [t]) (ht : telem P t = some e) (h : aop P o.dst (.len (cO x)) s K) : FineQ P F N o a w (fun _ => True) K := by
  simp only [aop] at h
  have hu := telem_spec ht
  have ha : args = #[x] := Array.toList_inj.1 (by simpa using hargs)
  have hta : ts = #[t] := Array.toList_inj.1 (by simpa using hts)
  have hrun : ∀ b m c, a.eval x = .slice b m c → ∀ w' : World, True → (execOp a.eval o).run P w' = .ok (.value (.int .i64 m)) w' := by
    intro b m c e1 w' _
    simp [execOp, ho, resolve, invoke, builtin, Builtin.len_, ha, hta, e1, run_underlying hu, goInt]
  have hx := CR_o hr x
  split at h
  · rename_i l hl
    rw [hl] at hx
    simp only [CR, RD] at hx
    obtain ⟨ad, m, c, h1, h2, _⟩ := hx
    subst h2
    exact FineQ.put hr hd (hrun _ _ _ h1) (VR_lit rfl) h
  · rename_i hl
    rw [hl] at hx
    exact FineQ.put hr hd (hrun _ _ _ hx) (VR_lit rfl) h
  · rename_i p z m hl
    rw [hl] at hx
    rcases hx with ⟨_, h2, h3⟩ | ⟨b, cap, ty, h1, h2, h3, _⟩
    · subst h2; exact FineQ.put hr hd (hrun _ _ _ h3) (VR_lit rfl) h
    · exact FineQ.put hr hd (hrun _ _ _ h3) (VR_lit rfl) h
  · exact h.elim

theorem sound_isn (hr : Rel F N ι s a w) (hd : ∀ k, o.dst = some k → k < N) {b : BinOp} {t u : TypeId} {x y : Operand} (ho : o.op = .binOp b t x y u) {neg : Bool} (hn : nilCmp P b t y = some neg)
    (h : aop P o.dst (.isn neg (cO x)) s K) : FineQ P F N o a w (fun _ => True) K := by
  have hy : ∃ n c e, y = .const (.slice none n c) ∧ P.underlying t = some (.slice e) ∧ ((b = .eql ∧ neg = false) ∨ (b = .neq ∧ neg = true)) := by
    unfold nilCmp at hn
    split at hn
    · rename_i n c
      split at hn
      · rename_i e he
        split at hn
        · cases hn; exact ⟨n, c, e, rfl, he, .inl ⟨rfl, rfl⟩⟩
        · cases hn; exact ⟨n, c, e, rfl, he, .inr ⟨rfl, rfl⟩⟩
        · cases hn
      · cases hn
    · cases hn
  obtain ⟨n', c', e, rfl, hu, hb⟩ := hy
  have hrun : ∀ ad m c, a.eval x = .slice ad m c → ∀ w' : World, True → (execOp a.eval o).run P w' = .ok (.value (.bool (if ad.isNone then !neg else neg))) w' := by
    intro ad m c hx w' _
    have hyv : a.eval (.const (.slice none n' c')) = .slice none n' c' := rfl
    have heq : (Op.equal t (.slice ad m c) (.slice none n' c')).run P w' = .ok ad.isNone w' := by
      obtain ⟨d, hd⟩ : ∃ d, Op.maxDepth = d + 1 := ⟨_, rfl⟩
      rw [Op.equal, hd, Op.equalIn]
      simp only [Sem.run_bind, run_underlying hu, Result.andThen_ok]
      cases ad <;> rfl
    have hg : ∀ b, (eqGuard b t x (.const (.slice none n' c')) (.slice ad m c) (.slice none n' c')).run P w' = .ok () w' := by
      intro b
      unfold eqGuard
      cases b <;> simp
    rcases hb with ⟨rfl, rfl⟩ | ⟨rfl, rfl⟩
    · have hbin : binOp .eql t (.slice ad m c) (.slice none n' c') = (do pure (.bool (← Op.equal t (.slice ad m c) (.slice none n' c')))) := rfl
      simp only [execOp, ho, hx, hyv, hbin, Sem.run_bind, hg, heq, Result.andThen_ok, Sem.run_pure]
      cases ad <;> rfl
    · have hbin : binOp .neq t (.slice ad m c) (.slice none n' c') = (do pure (.bool (!(← Op.equal t (.slice ad m c) (.slice none n' c'))))) := rfl
      simp only [execOp, ho, hx, hyv, hbin, Sem.run_bind, hg, heq, Result.andThen_ok, Sem.run_pure]
      cases ad <;> rfl
  have hx := CR_o hr x
  simp only [aop] at h
  generalize s.oc (cO x) = cx at *
  unfold aIsn at h
  split at h
  · have hx : a.eval x = .slice none 0 0 := hx
    exact FineQ.put hr hd (hrun _ _ _ hx) (VR_lit rfl) h
  · rename_i l
    simp only [CR, RD] at hx
    obtain ⟨ad, m, c, h1, h2, h3, h4, h5⟩ := hx
    cases ad with
    | none => 
      rcases h5 with h5 | ⟨b', q, sz, e1, _⟩
      · exact FineQ.put hr hd (hrun _ _ _ h1) (VR_lit rfl) (h.1 h5)
      · cases e1
    | some ad => exact FineQ.put hr hd (hrun _ _ _ h1) (VR_lit rfl) h.2
  · rename_i p z m
    rcases hx with ⟨_, h2, h3⟩ | ⟨b', cap, ty, h1, h2, h3, _⟩
    · exact FineQ.put hr hd (hrun _ _ _ h3) (VR_lit rfl) (h.1 h2)
    · exact FineQ.put hr hd (hrun _ _ _ h3) (VR_lit rfl) h.2
  · exact h.elim

theorem mmOp_spec {b : Builtin} {l : List Operand} {z : AOp} (h : mmOp b l = some z) : ∃ x y, l = [x, y] ∧ ((b = .min ∧ z = .mm false (cO x) (cO y)) ∨ (b = .max ∧ z = .mm true (cO x) (cO y))) := by
  unfold mmOp at h
  split at h
  · split at h
    · rename_i x y; cases h; exact ⟨x, y, rfl, .inl ⟨rfl, rfl⟩⟩
    · cases h
  · split at h
    · rename_i x y; cases h; exact ⟨x, y, rfl, .inr ⟨rfl, rfl⟩⟩
    · cases h
  · cases h

theorem sound_mm (hr : Rel F N ι s a w) (hd : ∀ k, o.dst = some k → k < N) {b : Builtin} {args : Array Operand} {ts : Array TypeId} (ho : o.op = .call { callee := .builtin b, args := args, argTypes := ts })
    {z : AOp} (hz : mmOp b args.toList = some z) (h : aop P o.dst z s K) : FineQ P F N o a w (fun _ => True) K := by
  obtain ⟨x, y, hargs, hb⟩ := mmOp_spec hz
  have ha : args = #[x, y] := Array.toList_inj.1 (by simpa using hargs)
  have key : ∀ (mx : Bool), (b = .min ∧ mx = false ∨ b = .max ∧ mx = true) → aMm o.dst mx (s.oc (cO x)) (s.oc (cO y)) s K → FineQ P F N o a w (fun _ => True) K := by
    intro mx hmx h
    have hx := CR_o hr x
    have hy := CR_o hr y
    generalize s.oc (cO x) = cx at *
    generalize s.oc (cO y) = cy at *
    unfold aMm at h
    split at h
    · rename_i k m k1 n
      cases hk : kindEq k k1 with
      | false => rw [hk] at h; exact h.elim
      | true =>
        rw [hk] at h
        simp only [cond_true] at h
        have hx := CR_lit hx
        have hy := CR_lit hy
        refine FineQ.put hr hd (v := .int k (mmI mx m n)) ?_ (VR_lit rfl) h
        intro w' _
        rcases hmx with ⟨rfl, rfl⟩ | ⟨rfl, rfl⟩
        · simp [execOp, ho, resolve, invoke, builtin, Builtin.min_, Builtin.min2, ha, hx, hy, mmI]
        · simp [execOp, ho, resolve, invoke, builtin, Builtin.max_, Builtin.max2, ha, hx, hy, mmI]
    · exact h.elim
  rcases hb with ⟨rfl, rfl⟩ | ⟨rfl, rfl⟩
  · exact key false (.inl ⟨rfl, rfl⟩) h
  · exact key true (.inr ⟨rfl, rfl⟩) h
end

end Go.AM
