/- Soundness of the abstract machine: lengths of strings, conversions, structs compared, what is captured. -/
import Derived.Test.YtbdcgchgpdclaaaAmS8
import Derived.Laws.StructEq
import Derived.ChangeKeysEq
namespace Go.AM

section
variable {P : Program} {F : Fr} {N : Nat} {ι : Nat → Gh} {s : S} {a : Act} {w : World} {o : Oper} {K : S → Prop}

theorem sound_slen (hr : Rel F N ι s a w) (hd : ∀ k, o.dst = some k → k < N) {args : Array Operand} {ts : Array TypeId} {x : Operand} {t : TypeId} (ho : o.op = .call { callee := .builtin .len, args := args, argTypes := ts })
    (hargs : args.toList = [x]) (hts : ts.toList = [t]) {z : AOp} (hz : lenOp P t x = some z) (h : aop P o.dst z s K) : z = .slen (cO x) ∧ FineQ P F N o a w (fun _ => True) K := by
  unfold lenOp at hz
  split at hz
  · rename_i hu
    cases hz
    refine ⟨rfl, ?_⟩
    have ha : args = #[x] := Array.toList_inj.1 (by simpa using hargs)
    have hta : ts = #[t] := Array.toList_inj.1 (by simpa using hts)
    simp only [aop] at h
    have hx := CR_o hr x
    split at h
    · rename_i b hb
      rw [hb] at hx
      have hx := CR_lit hx
      refine FineQ.put hr hd (v := .int .i64 b.size) ?_ (VR_lit rfl) h
      intro w' _
      simp [execOp, ho, resolve, invoke, builtin, Builtin.len_, ha, hta, hx, run_underlying hu, goInt]
    · exact h.elim
  · cases hz

theorem sound_conv (hr : Rel F N ι s a w) (hd : ∀ k, o.dst = some k → k < N) {src dst : TypeId} {x : Operand} (ho : o.op = .convert src dst x) {z : AOp} (hz : convOp P src dst x = some z) (h : aop P o.dst z s K) :
    (∃ k, z = .conv k (cO x)) ∧ FineQ P F N o a w (fun _ => True) K := by
  unfold convOp at hz
  split at hz
  · rename_i k0 hs
    split at hz
    · rename_i k hu
      cases hz
      refine ⟨⟨k, rfl⟩, ?_⟩
      simp only [aop] at h
      have hx := CR_o hr x
      split at h
      · rename_i k' n hb
        rw [hb] at hx
        have hx := CR_lit hx
        refine FineQ.put hr hd (v := .int k (k.wrap n)) ?_ (VR_lit rfl) h
        intro w' _
        simp [execOp, ho, hx, convert, run_underlying hs, run_underlying hu, Conv.intToInt]
      · exact h.elim
    · cases hz
  · cases hz

theorem flatK_spec {t : TypeId} {k : Nat} (h : flatK P t = some k) : (k = 0 ∧ ∃ k', P.underlying t = some (.int k')) ∨ (k = 1 ∧ P.underlying t = some .string) ∨ (k = 2 ∧ P.underlying t = some .bool) := by
  unfold flatK at h
  split at h
  · rename_i k' hu; cases h; exact .inl ⟨rfl, k', hu⟩
  · rename_i hu; cases h; exact .inr (.inl ⟨rfl, hu⟩)
  · rename_i hu; cases h; exact .inr (.inr ⟨rfl, hu⟩)
  · cases h

theorem flatF_step {f : Field} {r : List Field} {i : Nat} {l : List Nat} (h : flatF P i (f :: r) = some l) : ∃ k ks, l = k :: ks ∧ f.offset = i ∧ f.name ≠ "_" ∧ flatK P f.type = some k ∧ P.plainKey f.type = true ∧ flatF P (i + 1) r = some ks := by
  simp only [flatF] at h
  cases hc : (Nat.beq f.offset i && !(f.name == "_") && P.plainKey f.type)
  · rw [hc] at h; cases h
  · rw [hc] at h
    simp only [cond_true] at h
    simp only [Bool.and_eq_true, Bool.not_eq_true', beq_eq_false_iff_ne] at hc
    split at h
    · rename_i k ks h1 h2
      cases h
      exact ⟨k, ks, rfl, Nat.eq_of_beq_eq_true hc.1.1, hc.1.2, h1, hc.2, h2⟩
    · cases h

theorem run_eqCell {ok : Nat → Prop} {k : Nat} {x y : C} {b : Bool} (h : eqCell k x y = some b) {t : TypeId} (ht : flatK P t = some k) {u v : Value} (hx : CR ι w ok x u) (hy : CR ι w ok y v) (d : Nat) (w' : World) :
    (Op.equalIn (d + 1) t u v).run P w' = .ok b w' := by
  unfold eqCell at h
  split at h
  · rename_i k1 m k2 n
    have hu := CR_lit hx
    have hv := CR_lit hy
    subst hu; subst hv
    cases hc : (Nat.beq k 0 && kindEq k1 k2)
    · rw [hc] at h; cases h
    · rw [hc] at h; cases h
      rw [Bool.and_eq_true] at hc
      have hk := Nat.eq_of_beq_eq_true hc.1
      have := kindEq_spec hc.2
      subst this; subst hk
      rcases flatK_spec ht with ⟨_, k', hu⟩ | ⟨h, _⟩ | ⟨h, _⟩
      · exact run_equalIn_int w' d t k1 k' m n hu
      · cases h
      · cases h
  · rename_i m n
    have hu := CR_lit hx
    have hv := CR_lit hy
    subst hu; subst hv
    cases hc : Nat.beq k 1
    · rw [hc] at h; cases h
    · rw [hc] at h; cases h
      have hk := Nat.eq_of_beq_eq_true hc
      subst hk
      rcases flatK_spec ht with ⟨h, _⟩ | ⟨_, hu⟩ | ⟨h, _⟩
      · cases h
      · exact run_equalIn_string w' d t m n hu
      · cases h
  · rename_i m n
    have hu := CR_lit hx
    have hv := CR_lit hy
    subst hu; subst hv
    cases hc : Nat.beq k 2
    · rw [hc] at h; cases h
    · rw [hc] at h; cases h
      have hk := Nat.eq_of_beq_eq_true hc
      subst hk
      rcases flatK_spec ht with ⟨h, _⟩ | ⟨h, _⟩ | ⟨_, hu⟩
      · cases h
      · cases h
      · exact run_equalIn_bool' w' d t m n hu
  · cases h

theorem run_eqFields_flat {ok : Nat → Prop} (d : Nat) (X Y : Array Value) (w' : World) : ∀ (fs : List Field) (i : Nat) (ks : List Nat), flatF P i fs = some ks → ∀ (xs ys : List C) (b : Bool), CRs ι w ok xs (X.toList.drop i) → CRs ι w ok ys (Y.toList.drop i) →
    eqCells ks xs ys = some b → (Op.eqFields (d + 1) X Y fs).run P w' = .ok b w'
  | [], i, ks, hf, xs, ys, b, _, _, hb => by
    cases hf
    cases xs with
    | nil => cases ys with
      | nil => cases hb; simp [Op.eqFields]
      | cons y ys => simp [eqCells] at hb
    | cons x xs => simp [eqCells] at hb
  | f :: fs, i, ks, hf, xs, ys, b, hx, hy, hb => by
    obtain ⟨k, ks, rfl, h1, h2, h3, h4, h5⟩ := flatF_step hf
    cases xs with
    | nil => simp [eqCells] at hb
    | cons x xs =>
      cases ys with
      | nil => simp [eqCells] at hb
      | cons y ys =>
        simp only [eqCells] at hb
        split at hb
        case h_2 => cases hb
        rename_i b1 b2 hb1 hb2
        cases hb
        cases hX : X.toList.drop i with
        | nil => rw [hX] at hx; exact hx.elim
        | cons u us =>
          cases hY : Y.toList.drop i with
          | nil => rw [hY] at hy; exact hy.elim
          | cons v vs =>
            rw [hX] at hx
            rw [hY] at hy
            have hXu : X[i]? = some u := by
              have : (X.toList.drop i)[0]? = some u := by rw [hX]; rfl
              rw [List.getElem?_drop] at this
              simpa using this
            have hYv : Y[i]? = some v := by
              have : (Y.toList.drop i)[0]? = some v := by rw [hY]; rfl
              rw [List.getElem?_drop] at this
              simpa using this
            have hXs : X.toList.drop (i + 1) = us := by rw [← List.drop_drop, hX]; rfl
            have hYs : Y.toList.drop (i + 1) = vs := by rw [← List.drop_drop, hY]; rfl
            have ih := run_eqFields_flat d X Y w' fs (i + 1) ks h5 xs ys b2 (by rw [hXs]; exact hx.2) (by rw [hYs]; exact hy.2) hb2
            have hp1 := run_part_plain (w := w') h4 hXu
            have hp2 := run_part_plain (w := w') h4 hYv
            have heq := run_eqCell hb1 h3 hx.1 hy.1 d w'
            simp only [Op.eqFields, h1, h2, ne_eq, not_false_eq_true, if_true, Sem.run_bind, hp1, hp2, heq, Result.andThen_ok]
            cases b1
            · simp
            · simpa using ih

theorem sound_eqa (hr : Rel F N ι s a w) (hd : ∀ k, o.dst = some k → k < N) {b : BinOp} {t u : TypeId} {x y : Operand} (ho : o.op = .binOp b t x y u) {z : AOp} (hz : eqaOp P b t x y = some z) (h : aop P o.dst z s K) :
    (∃ neg ks, z = .eqa neg ks (cO x) (cO y)) ∧ FineQ P F N o a w (fun _ => True) K := by
  unfold eqaOp at hz
  split at hz
  case h_2 => cases hz
  rename_i ks hks
  have hkey : ∀ neg, z = .eqa neg ks (cO x) (cO y) → (b = .eql ∧ neg = false ∨ b = .neq ∧ neg = true) → FineQ P F N o a w (fun _ => True) K := by
    intro neg hz hb
    subst hz
    unfold flatT at hks
    split at hks
    case h_2 => cases hks
    rename_i fs hu
    cases hc : (!P.stoodInHeld t && !P.eqGuardType P.depth t)
    · rw [hc] at hks; cases hks
    · rw [hc] at hks
      simp only [cond_true] at hks
      simp only [Bool.and_eq_true, Bool.not_eq_true'] at hc
      simp only [aop] at h
      split at h
      case h_2 => exact h.elim
      rename_i xs ys hxs hys
      split at h
      case h_2 => exact h.elim
      rename_i r hcells
      have hx := VR_o hr x
      have hy := VR_o hr y
      rw [hxs] at hx
      rw [hys] at hy
      obtain ⟨X, hX, hx⟩ := hx
      obtain ⟨Y, hY, hy⟩ := hy
      have hfs : P.fieldsOf t = fs := by simp [Program.fieldsOf, hu]
      have hut : P.underlying t = some (.struct (P.fieldsOf t)) := by rw [hfs]; exact hu
      refine FineQ.put hr hd (v := .bool (bif neg then !r else r)) ?_ (VR_lit rfl) h
      intro w' _
      have hrun : (Op.equalIn 10000 t (.agg X.toArray) (.agg Y.toArray)).run P w' = .ok r w' := by
        rw [run_equalIn_agg w' 9999 t X.toArray Y.toArray hut hc.1, hfs]
        exact run_eqFields_flat 9998 X.toArray Y.toArray w' fs.toList 0 ks hks xs ys r (by simpa using hx) (by simpa using hy) hcells
      have hguard : (eqGuard b t x y (.agg X.toArray) (.agg Y.toArray)).run P w' = .ok () w' := run_eqGuard_agg w' b t x y _ _ hc.2
      rcases hb with ⟨rfl, rfl⟩ | ⟨rfl, rfl⟩
      · simp [execOp, ho, hX, hY, hguard, run_eql_struct, hrun]
      · simp [execOp, ho, hX, hY, hguard, run_neq_struct, hrun]
  split at hz
  · cases hz; exact ⟨⟨false, ks, rfl⟩, hkey false rfl (.inl ⟨rfl, rfl⟩)⟩
  · cases hz; exact ⟨⟨true, ks, rfl⟩, hkey true rfl (.inr ⟨rfl, rfl⟩)⟩
  · cases hz

/-! What is captured, frozen. -/
theorem toD_box {pl pl1 : List (Nat × Pl)} {c : C} {x : D} (h : toD pl c = some (x, pl1)) {p : Nat} {cs : List C} (hp : aget pl p = some (.box cs)) : aget pl1 p = some (.box cs) := by
  cases c with
  | own q z n =>
    simp only [toD] at h
    split at h
    · cases h
      rw [aget_freezeP]
      split
      · rename_i e; subst e; rw [hp]
      · exact hp
    · cases h
  | d _ => cases h; exact hp
  | nil => cases h; exact hp
  | clo f l => cases l with
    | nil => cases h; exact hp
    | cons _ _ => cases h
  | dead => cases h
  | ptr _ _ => cases h
  | eptr _ _ _ _ => cases h
  | fp _ => cases h

theorem toDs_box : ∀ {cs' : List C} {pl pl1 : List (Nat × Pl)} {ds : List D} (_ : toDs pl cs' = some (ds, pl1)) {p : Nat} {cs : List C} (_ : aget pl p = some (.box cs)), aget pl1 p = some (.box cs)
  | [], _, _, _, h, _, _, hp => by cases h; exact hp
  | c :: cs', pl, pl1, ds, h, p, cs, hp => by
    unfold toDs at h
    cases h1 : toD pl c with
    | none => rw [h1] at h; cases h
    | some y =>
      obtain ⟨x, pl2⟩ := y
      rw [h1] at h
      simp only at h
      cases h2 : toDs pl2 cs' with
      | none => rw [h2] at h; cases h
      | some z =>
        obtain ⟨xs, pl3⟩ := z
        rw [h2] at h
        cases h
        exact toDs_box h2 (toD_box h1 hp)

theorem CRs_RDc {ok : Nat → Prop} {b : Nat} : ∀ {ds : List D} {vs : List Value} {off : Nat}, CRs ι w ok (ds.map .d) vs → (∀ j v, vs[j]? = some v → w.cell? ⟨b, off + j, none⟩ = some v) → RDc w ok b off ds
  | [], _, _, _, _ => by simp only [RDc]
  | d :: ds, [], _, h, _ => h.elim
  | d :: ds, v :: vs, off, h, hc => by
    simp only [RDc]
    refine ⟨⟨v, hc 0 v rfl, h.1⟩, CRs_RDc h.2 fun j u hu => ?_⟩
    rw [show off + 1 + j = off + (j + 1) by omega]
    exact hc (j + 1) u (by simpa using hu)

theorem frz_spec (s0 : S) : ∀ (caps : List Operand) {s : S} (_ : s.sl = s0.sl) (_ : Rel F N ι s a w) {l : List (List D)} {pl1 : List (Nat × Pl)} (_ : frz s0 s.pl (caps.map cO) = some (l, pl1)),
    Rel F N ι (s.withPl pl1) a w ∧ (∀ b, F.ok ι s.pl w b → F.ok ι pl1 w b) ∧ RDf w (F.ok ι pl1 w) (caps.map a.eval) l
  | [], s, hs, hr, l, pl1, h => by cases h; exact ⟨hr, fun _ h => h, by simp [RDf]⟩
  | x :: r, s, hs, hr, l, pl1, h => by
    have hx : CR ι w (F.ok ι s.pl w) (s0.oc (cO x)) (a.eval x) := by
      have := CR_o hr x
      have e : s.oc (cO x) = s0.oc (cO x) := by
        unfold S.oc S.o S.tmp; rw [hs]
      rwa [e] at this
    simp only [List.map_cons, frz] at h
    split at h
    · rename_i ds hds
      rw [hds] at hx
      obtain ⟨b, o', h1, h2, h3⟩ := hx
      split at h
      · rename_i l' pl2 hl
        cases h
        obtain ⟨g1, g2, g3⟩ := frz_spec s0 r hs hr hl
        refine ⟨g1, g2, ?_⟩
        simp only [List.map_cons, RDf]
        exact ⟨b, o', _, by rw [h1], g2 b h2, RDc.keep (fun b hb => ⟨g2 b hb, rfl⟩) b h2 _ _ h3, g3⟩
      · cases h
    · rename_i p hp
      rw [hp] at hx
      obtain ⟨b, h1, h2⟩ := hx
      split at h
      · rename_i cs hcs
        split at h
        case h_2 => cases h
        rename_i ds pl2 hds
        split at h
        case h_2 => cases h
        rename_i l' pl3 hl
        cases h
        obtain ⟨b', cur, e1, e2, e3⟩ := hr.places p _ hcs
        rw [h1] at e1; cases e1
        obtain ⟨g1, g2, g3⟩ := toDs_sound hr e3 hds
        have hbox : aget pl2 p = some (.box cs) := toDs_box hds hcs
        obtain ⟨k1, k2, k3⟩ := Rel.still (y := .fbox ds) g1 hbox rfl rfl (fun m n => ⟨b, h1, n b h1, CRs_RDc (CRs.keep (fun b hb => ⟨m b hb, rfl⟩) (Shapes.refl w) _ _ g3) fun j v hv => by
          rw [e2.cell]; simpa using hv⟩)
        obtain ⟨q1, q2, q3⟩ := frz_spec s0 r (s := s.withPl (aput p (.fbox ds) pl2)) hs k1 hl
        refine ⟨q1, fun b hb => q2 b (k2 b (g2 b hb)), ?_⟩
        simp only [List.map_cons, RDf]
        refine ⟨b, 0, _, by rw [h2], q2 b (k3 b h1), ?_, q3⟩
        exact CRs_RDc (CRs.keep (fun b hb => ⟨q2 b (k2 b hb), rfl⟩) (Shapes.refl w) _ _ g3) fun j v hv => by rw [e2.cell]; simpa using hv
      · rename_i ds hcs
        split at h
        case h_2 => cases h
        rename_i l' pl2 hl
        cases h
        obtain ⟨b', e1, e2, e3⟩ := hr.places p _ hcs
        rw [h1] at e1; cases e1
        obtain ⟨g1, g2, g3⟩ := frz_spec s0 r hs hr hl
        refine ⟨g1, g2, ?_⟩
        simp only [List.map_cons, RDf]
        exact ⟨b, 0, _, by rw [h2], g2 b e2, RDc.keep (fun b hb => ⟨g2 b hb, rfl⟩) b e2 _ _ e3, g3⟩
      · cases h
    · cases h

theorem sound_clof (hr : Rel F N ι s a w) (hd : ∀ k, o.dst = some k → k < N) {f : FuncId} {first caps : Array Operand} (ho : o.op = .makeFunc (.func f) first caps) (hf : first.toList.isEmpty = true)
    (h : aop P o.dst (.clof f (caps.toList.map cO)) s K) : Fine P F N o a w K := by
  simp only [aop] at h
  split at h
  · rename_i l pl1 hl
    have hfirst : first = #[] := by
      apply Array.toList_inj.1
      simpa using hf
    obtain ⟨g1, g2, g3⟩ := frz_spec s caps.toList rfl hr hl
    refine Fine.put g1 hd (v := .func (.func f) #[] (caps.toList.map a.eval).toArray) ?_ (show VR ι w _ (cV (.d (.fn f l))) _ from ?_) h
    · have hc : caps.map a.eval = (caps.toList.map a.eval).toArray := by
        apply Array.toList_inj.1
        simp
      simp [execOp, ho, Instr.makeFunc, hfirst, hc]
    · simp only [cV, VR, WR, CR, RD]
      exact ⟨_, rfl, g3⟩
  · exact h.elim

end
end Go.AM
