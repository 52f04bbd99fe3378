/- Merged from the texts: AmN1 AmN2 AmN3 AmS9 AmS10 AmS12 AmS13 AmS15 AmS16 AmS17 AmS19 AmS14 AmS11 AmS18 AmM1 -/
import Derived.Laws.StructEq
import Derived.ChangeKeysEq
import Derived.Orders
import Derived.Scope
import Derived.Test.YtekkjilpdohieaaGreatGr1
set_option linter.unusedSimpArgs false
set_option linter.unusedVariables false
namespace Go.AM

section
variable {P : Program} {F : Fr} {N : Nat} {ι : Nat → Gh} {s : S} {a : Act} {w : World} {o : Oper} {K : S → Prop}

theorem sound_slen (hr : Rel F N ι s a w) (hd : ∀ k, o.dst = some k → k < N) {args : Array Operand} {ts : Array TypeId} {x : Operand} {t : TypeId} (ho : o.op = .call { callee := .builtin .len, args := args, argTypes := ts })
    (hargs : args.toList = [x]) (hts : ts.toList = [t]) {z : AOp} (hz : lenOp P t x = some z) (h : aop P o.dst z s K) : z = .slen (cO x) ∧ FineQ P F N o a w (fun _ => True) K := by
  unfold lenOp at hz
  split at hz
  · rename_i hu
    cases hz
    refine ⟨rfl, ?_⟩
    have ha : args = #[x] := Array.toList_inj.1 (by simpa using hargs)
    have hta : ts = #[t] := Array.toList_inj.1 (by simpa using hts)
    simp only [aop] at h
    have hx := CR_o hr x
    split at h
    · rename_i b hb
      rw [hb] at hx
      have hx := CR_lit hx
      refine FineQ.put hr hd (v := .int .i64 b.size) ?_ (VR_lit rfl) h
      intro w' _
      simp [execOp, ho, resolve, invoke, builtin, Builtin.len_, ha, hta, hx, run_underlying hu, goInt]
    · exact h.elim
  · cases hz

theorem sound_conv (hr : Rel F N ι s a w) (hd : ∀ k, o.dst = some k → k < N) {src dst : TypeId} {x : Operand} (ho : o.op = .convert src dst x) {z : AOp} (hz : convOp P src dst x = some z) (h : aop P o.dst z s K) :
    (∃ k, z = .conv k (cO x)) ∧ FineQ P F N o a w (fun _ => True) K := by
  unfold convOp at hz
  split at hz
  · rename_i k0 hs
    split at hz
    · rename_i k hu
      cases hz
      refine ⟨⟨k, rfl⟩, ?_⟩
      simp only [aop] at h
      have hx := CR_o hr x
      split at h
      · rename_i k' n hb
        rw [hb] at hx
        have hx := CR_lit hx
        refine FineQ.put hr hd (v := .int k (k.wrap n)) ?_ (VR_lit rfl) h
        intro w' _
        simp [execOp, ho, hx, convert, run_underlying hs, run_underlying hu, Conv.intToInt]
      · exact h.elim
    · cases hz
  · cases hz

theorem sound_un (hr : Rel F N ι s a w) (hd : ∀ k, o.dst = some k → k < N) {b : UnOp} {t : TypeId} {x : Operand} (ho : o.op = .unOp b t x) {z : AOp} (hz : unOp' P b t x = some z) (h : aop P o.dst z s K) :
    (z = .bnot (cO x) ∨ z = .ineg (cO x)) ∧ FineQ P F N o a w (fun _ => True) K := by
  unfold unOp' at hz
  split at hz
  · cases hz
    refine ⟨.inl rfl, ?_⟩
    simp only [aop] at h
    split at h
    · rename_i b hb
      have hx := litBool_spec hb (VR_o hr x)
      refine FineQ.put hr hd (v := .bool (!b)) ?_ (VR_lit rfl) h
      intro w' _
      simp [execOp, ho, hx, Op.unary]
    · exact h.elim
  · split at hz
    · cases hz
      refine ⟨.inr rfl, ?_⟩
      simp only [aop] at h
      have hx := CR_o hr x
      split at h
      · rename_i k n hb
        rw [hb] at hx
        have hx := CR_lit hx
        refine FineQ.put hr hd (v := .int k (k.wrap (0 - n))) ?_ (VR_lit rfl) h
        intro w' _
        simp [execOp, ho, hx, Op.unary, Op.intArith]
      · exact h.elim
    · cases hz
  · cases hz

theorem sound_beq (hr : Rel F N ι s a w) (hd : ∀ k, o.dst = some k → k < N) {b : BinOp} {t u : TypeId} {x y : Operand} (ho : o.op = .binOp b t x y u) {z : AOp} (hz : beqOp P b t x y = some z) (h : aop P o.dst z s K) :
    ((∃ neg, z = .beq neg (cO x) (cO y)) ∨ ∃ l, z = .shf l (cO x) (cO y)) ∧ FineQ P F N o a w (fun _ => True) K := by
  have hbool : ∀ neg, z = .beq neg (cO x) (cO y) → P.underlying t = some .bool → (b = .eql ∧ neg = false ∨ b = .neq ∧ neg = true) → FineQ P F N o a w (fun _ => True) K := by
    intro neg hz ht hb
    subst hz
    simp only [aop] at h
    split at h
    · rename_i p q hp hq
      have hx := litBool_spec hp (VR_o hr x)
      have hy := litBool_spec hq (VR_o hr y)
      refine FineQ.put hr hd (v := .bool (bif neg then p != q else p == q)) ?_ (VR_lit rfl) h
      intro w' _
      have he : (Op.equal t (.bool p) (.bool q)).run P w' = .ok (p == q) w' := run_equalIn_bool' w' 9999 t p q ht
      rcases hb with ⟨rfl, rfl⟩ | ⟨rfl, rfl⟩
      · simp [execOp, ho, hx, hy, eqGuard, binOp, he]
      · simp [execOp, ho, hx, hy, eqGuard, binOp, he, bne]
    · exact h.elim
  have hsh : ∀ l, z = .shf l (cO x) (cO y) → (b = .shl ∧ l = true ∨ b = .shr ∧ l = false) → FineQ P F N o a w (fun _ => True) K := by
    intro l hz hb
    subst hz
    simp only [aop] at h
    have hx := CR_o hr x
    have hy := CR_o hr y
    split at h
    · rename_i k m k1 n hm hn
      rw [hm] at hx
      rw [hn] at hy
      have hx := CR_lit hx
      have hy := CR_lit hy
      have hn0 : ¬ n < 0 := by have := h.1; omega
      refine FineQ.put hr hd (v := .int k (shI l k m n)) ?_ (VR_lit rfl) h.2
      intro w' _
      rcases hb with ⟨rfl, rfl⟩ | ⟨rfl, rfl⟩
      · simp [execOp, ho, hx, hy, eqGuard, binOp, Op.shift, hn0, shI]
      · simp [execOp, ho, hx, hy, eqGuard, binOp, Op.shift, hn0, shI]
    · exact h.elim
  unfold beqOp at hz
  split at hz
  · split at hz
    · rename_i ht; cases hz; exact ⟨.inl ⟨_, rfl⟩, hbool false rfl ht (.inl ⟨rfl, rfl⟩)⟩
    · cases hz
  · split at hz
    · rename_i ht; cases hz; exact ⟨.inl ⟨_, rfl⟩, hbool true rfl ht (.inr ⟨rfl, rfl⟩)⟩
    · cases hz
  · split at hz
    · cases hz; exact ⟨.inr ⟨_, rfl⟩, hsh true rfl (.inl ⟨rfl, rfl⟩)⟩
    · cases hz
  · split at hz
    · cases hz; exact ⟨.inr ⟨_, rfl⟩, hsh false rfl (.inr ⟨rfl, rfl⟩)⟩
    · cases hz
  · cases hz

theorem flatK_spec {t : TypeId} {k : Nat} (h : flatK P t = some k) : (k = 0 ∧ ∃ k', P.underlying t = some (.int k')) ∨ (k = 1 ∧ P.underlying t = some .string) ∨ (k = 2 ∧ P.underlying t = some .bool) := by
  unfold flatK at h
  split at h
  · rename_i k' hu; cases h; exact .inl ⟨rfl, k', hu⟩
  · rename_i hu; cases h; exact .inr (.inl ⟨rfl, hu⟩)
  · rename_i hu; cases h; exact .inr (.inr ⟨rfl, hu⟩)
  · cases h

theorem flatF_step {f : Field} {r : List Field} {i : Nat} {l : List Nat} (h : flatF P i (f :: r) = some l) : ∃ k ks, l = k :: ks ∧ f.offset = i ∧ f.name ≠ "_" ∧ flatK P f.type = some k ∧ P.plainKey f.type = true ∧ flatF P (i + 1) r = some ks := by
  simp only [flatF] at h
  cases hc : (Nat.beq f.offset i && !(f.name == "_") && P.plainKey f.type)
  · rw [hc] at h; cases h
  · rw [hc] at h
    simp only [cond_true] at h
    simp only [Bool.and_eq_true, Bool.not_eq_true', beq_eq_false_iff_ne] at hc
    split at h
    · rename_i k ks h1 h2
      cases h
      exact ⟨k, ks, rfl, Nat.eq_of_beq_eq_true hc.1.1, hc.1.2, h1, hc.2, h2⟩
    · cases h

theorem run_eqCell {ok : Nat → Prop} {k : Nat} {x y : C} {b : Bool} (h : eqCell k x y = some b) {t : TypeId} (ht : flatK P t = some k) {u v : Value} (hx : CR ι w ok x u) (hy : CR ι w ok y v) (d : Nat) (w' : World) :
    (Op.equalIn (d + 1) t u v).run P w' = .ok b w' := by
  unfold eqCell at h
  split at h
  · rename_i k1 m k2 n
    have hu := CR_lit hx
    have hv := CR_lit hy
    subst hu; subst hv
    cases hc : (Nat.beq k 0 && kindEq k1 k2)
    · rw [hc] at h; cases h
    · rw [hc] at h; cases h
      rw [Bool.and_eq_true] at hc
      have hk := Nat.eq_of_beq_eq_true hc.1
      have := kindEq_spec hc.2
      subst this; subst hk
      rcases flatK_spec ht with ⟨_, k', hu⟩ | ⟨h, _⟩ | ⟨h, _⟩
      · exact run_equalIn_int w' d t k1 k' m n hu
      · cases h
      · cases h
  · rename_i m n
    have hu := CR_lit hx
    have hv := CR_lit hy
    subst hu; subst hv
    cases hc : Nat.beq k 1
    · rw [hc] at h; cases h
    · rw [hc] at h; cases h
      have hk := Nat.eq_of_beq_eq_true hc
      subst hk
      rcases flatK_spec ht with ⟨h, _⟩ | ⟨_, hu⟩ | ⟨h, _⟩
      · cases h
      · exact run_equalIn_string w' d t m n hu
      · cases h
  · rename_i m n
    have hu := CR_lit hx
    have hv := CR_lit hy
    subst hu; subst hv
    cases hc : Nat.beq k 2
    · rw [hc] at h; cases h
    · rw [hc] at h; cases h
      have hk := Nat.eq_of_beq_eq_true hc
      subst hk
      rcases flatK_spec ht with ⟨h, _⟩ | ⟨h, _⟩ | ⟨_, hu⟩
      · cases h
      · cases h
      · exact run_equalIn_bool' w' d t m n hu
  · cases h

theorem run_eqFields_flat {ok : Nat → Prop} (d : Nat) (X Y : Array Value) (w' : World) : ∀ (fs : List Field) (i : Nat) (ks : List Nat), flatF P i fs = some ks → ∀ (xs ys : List C) (b : Bool), CRs ι w ok xs (X.toList.drop i) → CRs ι w ok ys (Y.toList.drop i) →
    eqCells ks xs ys = some b → (Op.eqFields (d + 1) X Y fs).run P w' = .ok b w'
  | [], i, ks, hf, xs, ys, b, _, _, hb => by
    cases hf
    cases xs with
    | nil => cases ys with
      | nil => cases hb; simp [Op.eqFields]
      | cons y ys => simp [eqCells] at hb
    | cons x xs => simp [eqCells] at hb
  | f :: fs, i, ks, hf, xs, ys, b, hx, hy, hb => by
    obtain ⟨k, ks, rfl, h1, h2, h3, h4, h5⟩ := flatF_step hf
    cases xs with
    | nil => simp [eqCells] at hb
    | cons x xs =>
      cases ys with
      | nil => simp [eqCells] at hb
      | cons y ys =>
        simp only [eqCells] at hb
        split at hb
        case h_2 => cases hb
        rename_i b1 b2 hb1 hb2
        cases hb
        cases hX : X.toList.drop i with
        | nil => rw [hX] at hx; exact hx.elim
        | cons u us =>
          cases hY : Y.toList.drop i with
          | nil => rw [hY] at hy; exact hy.elim
          | cons v vs =>
            rw [hX] at hx
            rw [hY] at hy
            have hXu : X[i]? = some u := by
              have : (X.toList.drop i)[0]? = some u := by rw [hX]; rfl
              rw [List.getElem?_drop] at this
              simpa using this
            have hYv : Y[i]? = some v := by
              have : (Y.toList.drop i)[0]? = some v := by rw [hY]; rfl
              rw [List.getElem?_drop] at this
              simpa using this
            have hXs : X.toList.drop (i + 1) = us := by rw [← List.drop_drop, hX]; rfl
            have hYs : Y.toList.drop (i + 1) = vs := by rw [← List.drop_drop, hY]; rfl
            have ih := run_eqFields_flat d X Y w' fs (i + 1) ks h5 xs ys b2 (by rw [hXs]; exact hx.2) (by rw [hYs]; exact hy.2) hb2
            have hp1 := run_part_plain (w := w') h4 hXu
            have hp2 := run_part_plain (w := w') h4 hYv
            have heq := run_eqCell hb1 h3 hx.1 hy.1 d w'
            simp only [Op.eqFields, h1, h2, ne_eq, not_false_eq_true, if_true, Sem.run_bind, hp1, hp2, heq, Result.andThen_ok]
            cases b1
            · simp
            · simpa using ih

theorem sound_eqa (hr : Rel F N ι s a w) (hd : ∀ k, o.dst = some k → k < N) {b : BinOp} {t u : TypeId} {x y : Operand} (ho : o.op = .binOp b t x y u) {z : AOp} (hz : eqaOp P b t x y = some z) (h : aop P o.dst z s K) :
    (∃ neg ks, z = .eqa neg ks (cO x) (cO y)) ∧ FineQ P F N o a w (fun _ => True) K := by
  unfold eqaOp at hz
  split at hz
  case h_2 => cases hz
  rename_i ks hks
  have hkey : ∀ neg, z = .eqa neg ks (cO x) (cO y) → (b = .eql ∧ neg = false ∨ b = .neq ∧ neg = true) → FineQ P F N o a w (fun _ => True) K := by
    intro neg hz hb
    subst hz
    unfold flatT at hks
    split at hks
    case h_2 => cases hks
    rename_i fs hu
    cases hc : (!P.stoodInHeld t && !P.eqGuardType P.depth t)
    · rw [hc] at hks; cases hks
    · rw [hc] at hks
      simp only [cond_true] at hks
      simp only [Bool.and_eq_true, Bool.not_eq_true'] at hc
      simp only [aop] at h
      split at h
      case h_2 => exact h.elim
      rename_i xs ys hxs hys
      split at h
      case h_2 => exact h.elim
      rename_i r hcells
      have hx := VR_o hr x
      have hy := VR_o hr y
      rw [hxs] at hx
      rw [hys] at hy
      obtain ⟨X, hX, hx⟩ := hx
      obtain ⟨Y, hY, hy⟩ := hy
      have hfs : P.fieldsOf t = fs := by simp [Program.fieldsOf, hu]
      have hut : P.underlying t = some (.struct (P.fieldsOf t)) := by rw [hfs]; exact hu
      refine FineQ.put hr hd (v := .bool (bif neg then !r else r)) ?_ (VR_lit rfl) h
      intro w' _
      have hrun : (Op.equalIn 10000 t (.agg X.toArray) (.agg Y.toArray)).run P w' = .ok r w' := by
        rw [run_equalIn_agg w' 9999 t X.toArray Y.toArray hut hc.1, hfs]
        exact run_eqFields_flat 9998 X.toArray Y.toArray w' fs.toList 0 ks hks xs ys r (by simpa using hx) (by simpa using hy) hcells
      have hguard : (eqGuard b t x y (.agg X.toArray) (.agg Y.toArray)).run P w' = .ok () w' := run_eqGuard_agg w' b t x y _ _ hc.2
      rcases hb with ⟨rfl, rfl⟩ | ⟨rfl, rfl⟩
      · simp [execOp, ho, hX, hY, hguard, run_eql_struct, hrun]
      · simp [execOp, ho, hX, hY, hguard, run_neq_struct, hrun]
  split at hz
  · cases hz; exact ⟨⟨false, ks, rfl⟩, hkey false rfl (.inl ⟨rfl, rfl⟩)⟩
  · cases hz; exact ⟨⟨true, ks, rfl⟩, hkey true rfl (.inr ⟨rfl, rfl⟩)⟩
  · cases hz

/-! What is captured, frozen. -/
theorem toD_box {pl pl1 : List (Nat × Pl)} {c : C} {x : D} (h : toD pl c = some (x, pl1)) {p : Nat} {cs : List C} (hp : aget pl p = some (.box cs)) : aget pl1 p = some (.box cs) := by
  cases c with
  | own q z n =>
    simp only [toD] at h
    split at h
    · cases h
      rw [aget_freezeP]
      split
      · rename_i e; subst e; rw [hp]
      · exact hp
    · cases h
  | d _ => cases h; exact hp
  | nil => cases h; exact hp
  | clo f l => cases l with
    | nil => cases h; exact hp
    | cons _ _ => cases h
  | dead => cases h
  | sub _ _ _ _ => cases h
  | ptr _ _ => cases h
  | eptr _ _ _ _ => cases h
  | fp _ => cases h

theorem toDs_box : ∀ {cs' : List C} {pl pl1 : List (Nat × Pl)} {ds : List D} (_ : toDs pl cs' = some (ds, pl1)) {p : Nat} {cs : List C} (_ : aget pl p = some (.box cs)), aget pl1 p = some (.box cs)
  | [], _, _, _, h, _, _, hp => by cases h; exact hp
  | c :: cs', pl, pl1, ds, h, p, cs, hp => by
    unfold toDs at h
    cases h1 : toD pl c with
    | none => rw [h1] at h; cases h
    | some y =>
      obtain ⟨x, pl2⟩ := y
      rw [h1] at h
      simp only at h
      cases h2 : toDs pl2 cs' with
      | none => rw [h2] at h; cases h
      | some z =>
        obtain ⟨xs, pl3⟩ := z
        rw [h2] at h
        cases h
        exact toDs_box h2 (toD_box h1 hp)

theorem CRs_RDc {ok : Nat → Prop} {b : Nat} : ∀ {ds : List D} {vs : List Value} {off : Nat}, CRs ι w ok (ds.map .d) vs → (∀ j v, vs[j]? = some v → w.cell? ⟨b, off + j, none⟩ = some v) → RDc w ok b off ds
  | [], _, _, _, _ => by simp only [RDc]
  | d :: ds, [], _, h, _ => h.elim
  | d :: ds, v :: vs, off, h, hc => by
    simp only [RDc]
    refine ⟨⟨v, hc 0 v rfl, h.1⟩, CRs_RDc h.2 fun j u hu => ?_⟩
    rw [show off + 1 + j = off + (j + 1) by omega]
    exact hc (j + 1) u (by simpa using hu)

theorem frz_spec (s0 : S) : ∀ (caps : List Operand) {s : S} (_ : s.sl = s0.sl) (_ : Rel F N ι s a w) {l : List (List D)} {pl1 : List (Nat × Pl)} (_ : frz s0 s.pl (caps.map cO) = some (l, pl1)),
    Rel F N ι (s.withPl pl1) a w ∧ (∀ b, F.ok ι s.pl w b → F.ok ι pl1 w b) ∧ RDf w (F.ok ι pl1 w) (caps.map a.eval) l
  | [], s, hs, hr, l, pl1, h => by cases h; exact ⟨hr, fun _ h => h, by simp [RDf]⟩
  | x :: r, s, hs, hr, l, pl1, h => by
    have hx : CR ι w (F.ok ι s.pl w) (s0.oc (cO x)) (a.eval x) := by
      have := CR_o hr x
      have e : s.oc (cO x) = s0.oc (cO x) := by
        unfold S.oc S.o S.tmp; rw [hs]
      rwa [e] at this
    simp only [List.map_cons, frz] at h
    split at h
    · rename_i ds hds
      rw [hds] at hx
      obtain ⟨b, o', h1, h2, h3⟩ := hx
      split at h
      · rename_i l' pl2 hl
        cases h
        obtain ⟨g1, g2, g3⟩ := frz_spec s0 r hs hr hl
        refine ⟨g1, g2, ?_⟩
        simp only [List.map_cons, RDf]
        exact ⟨b, o', _, by rw [h1], g2 b h2, RDc.keep (fun b hb => ⟨g2 b hb, rfl⟩) b h2 _ _ h3, g3⟩
      · cases h
    · rename_i p hp
      rw [hp] at hx
      obtain ⟨b, h1, h2⟩ := hx
      split at h
      · rename_i cs hcs
        split at h
        case h_2 => cases h
        rename_i ds pl2 hds
        split at h
        case h_2 => cases h
        rename_i l' pl3 hl
        cases h
        obtain ⟨b', cur, e1, e2, e3⟩ := hr.places p _ hcs
        rw [h1] at e1; cases e1
        obtain ⟨g1, g2, g3⟩ := toDs_sound hr e3 hds
        have hbox : aget pl2 p = some (.box cs) := toDs_box hds hcs
        obtain ⟨k1, k2, k3⟩ := Rel.still (y := .fbox ds) g1 hbox rfl rfl (fun m n => ⟨b, h1, n b h1, CRs_RDc (CRs.keep (fun b hb => ⟨m b hb, rfl⟩) (Shapes.refl w) _ _ g3) fun j v hv => by
          rw [e2.cell]; simpa using hv⟩)
        obtain ⟨q1, q2, q3⟩ := frz_spec s0 r (s := s.withPl (aput p (.fbox ds) pl2)) hs k1 hl
        refine ⟨q1, fun b hb => q2 b (k2 b (g2 b hb)), ?_⟩
        simp only [List.map_cons, RDf]
        refine ⟨b, 0, _, by rw [h2], q2 b (k3 b h1), ?_, q3⟩
        exact CRs_RDc (CRs.keep (fun b hb => ⟨q2 b (k2 b hb), rfl⟩) (Shapes.refl w) _ _ g3) fun j v hv => by rw [e2.cell]; simpa using hv
      · rename_i ds hcs
        split at h
        case h_2 => cases h
        rename_i l' pl2 hl
        cases h
        obtain ⟨b', e1, e2, e3⟩ := hr.places p _ hcs
        rw [h1] at e1; cases e1
        obtain ⟨g1, g2, g3⟩ := frz_spec s0 r hs hr hl
        refine ⟨g1, g2, ?_⟩
        simp only [List.map_cons, RDf]
        exact ⟨b, 0, _, by rw [h2], g2 b e2, RDc.keep (fun b hb => ⟨g2 b hb, rfl⟩) b e2 _ _ e3, g3⟩
      · cases h
    · cases h

theorem sound_clof (hr : Rel F N ι s a w) (hd : ∀ k, o.dst = some k → k < N) {f : FuncId} {first caps : Array Operand} (ho : o.op = .makeFunc (.func f) first caps) (hf : first.toList.isEmpty = true)
    (h : aop P o.dst (.clof f (caps.toList.map cO)) s K) : Fine P F N o a w K := by
  simp only [aop] at h
  split at h
  · rename_i l pl1 hl
    have hfirst : first = #[] := by
      apply Array.toList_inj.1
      simpa using hf
    obtain ⟨g1, g2, g3⟩ := frz_spec s caps.toList rfl hr hl
    refine Fine.put g1 hd (v := .func (.func f) #[] (caps.toList.map a.eval).toArray) ?_ (show VR ι w _ (cV (.d (.fn f l))) _ from ?_) h
    · have hc : caps.map a.eval = (caps.toList.map a.eval).toArray := by
        apply Array.toList_inj.1
        simp
      simp [execOp, ho, Instr.makeFunc, hfirst, hc]
    · simp only [cV, VR, WR, CR, RD]
      exact ⟨_, rfl, g3⟩
  · exact h.elim

end
end Go.AM

namespace Go.AM

theorem flatten_splice {α : Type} {z : Nat} : ∀ (els : List (List α)) (off : Nat) (new : List (List α)), (∀ x ∈ els, x.length = z) → (∀ x ∈ new, x.length = z) → off + new.length ≤ els.length →
    (splice els off new).flatten = splice els.flatten (off * z) new.flatten := by
  intro els off new h1 h2 h3
  have e1 : ∀ (l : List (List α)) (n : Nat), (∀ x ∈ l, x.length = z) → n ≤ l.length → (l.take n).flatten = l.flatten.take (n * z) := by
    intro l
    induction l with
    | nil => intro n _ _; simp
    | cons x r ih =>
      intro n hl hn
      cases n with
      | zero => simp
      | succ n =>
        have hx : x.length = z := hl x (by simp)
        simp only [List.take_succ_cons, List.flatten_cons]
        rw [ih n (fun y hy => hl y (by simp [hy])) (by simpa using hn), show (n + 1) * z = x.length + n * z by rw [hx, Nat.add_mul]; omega, List.take_length_add_append]
  have e2 : ∀ (l : List (List α)) (n : Nat), (∀ x ∈ l, x.length = z) → n ≤ l.length → (l.drop n).flatten = l.flatten.drop (n * z) := by
    intro l
    induction l with
    | nil => intro n _ _; simp
    | cons x r ih =>
      intro n hl hn
      cases n with
      | zero => simp
      | succ n =>
        have hx : x.length = z := hl x (by simp)
        simp only [List.drop_succ_cons, List.flatten_cons]
        rw [ih n (fun y hy => hl y (by simp [hy])) (by simpa using hn), show (n + 1) * z = x.length + n * z by rw [hx, Nat.add_mul]; omega, List.drop_length_add_append]
  simp only [splice, List.flatten_append]
  rw [e1 els off h1 (by omega), e2 els _ h1 h3, flatten_length new h2, Nat.add_mul]

theorem splice_length {α : Type} (l : List α) (off : Nat) (new : List α) (h : off + new.length ≤ l.length) : (splice l off new).length = l.length := by
  simp only [splice, List.length_append, List.length_take, List.length_drop]; omega

section
variable {P : Program} {F : Fr} {N : Nat} {ι : Nat → Gh} {s : S} {a : Act} {w : World} {o : Oper} {K : S → Prop}

/-- Cells are stored into an array place. -/
theorem Rel.storeEls (hr : Rel F N ι s a w) {p z : Nat} {els els' : List (List D)} (hp : aget s.pl p = some (.arr z els false)) {b : Nat} (h1 : (ι p).b = some b) (hl : els'.length = els.length) (hz' : ∀ e ∈ els', e.length = z)
    {q : Nat} {ds : List D} {vs : List Value} (hfl : els'.flatten = splice els.flatten q ds) (hcs : CRs ι w (F.ok ι s.pl w) (ds.map .d) vs) (hq : q + ds.length ≤ els.length * z) :
    ∃ w', (storeCells (⟨b, q, none⟩ : Addr) vs 0).run P w = .ok () w' ∧ Rel F N ι (s.withPl (aput p (.arr z els' false) s.pl)) a w' := by
  obtain ⟨hz0, hn, hpl | ⟨b', e1, e2, _, e4⟩⟩ := hr.places p _ hp
  · rw [h1] at hpl; cases hpl.1
  rw [h1] at e1; cases e1
  obtain ⟨old, ⟨ty, hg⟩, hroom⟩ := e4 rfl
  have hvl : vs.length = ds.length := by have := hcs.length; simpa using this.symm
  have hrun := run_storeCells_at P b q ty vs 0 old w hg (by omega) (CRs_solid_of_ones hcs)
  simp only [Nat.add_zero] at hrun
  refine ⟨_, hrun, ?_⟩
  have hsz : (old.toList.take q ++ vs ++ old.toList.drop (q + vs.length)).toArray.size = old.size := by
    simp only [List.size_toArray, List.length_append, List.length_take, List.length_drop, Array.length_toList]; omega
  have hk := write_keeps hr p (.arr z els false) (.arr z els' false) hp rfl h1 (old.toList.take q ++ vs ++ old.toList.drop (q + vs.length)).toArray
  have hsh := Shapes.setRow w b hg hsz
  obtain ⟨us, g1, g2, g3⟩ := RDs.vals (ι := ι) e2
  refine hr.write p (.arr z els false) (.arr z els' false) hp rfl rfl h1 hg hsz ⟨hz0, by rw [hl]; exact hn, .inr ⟨b, h1, ?_, (fun hf => by cases hf), (fun _ => ⟨_, ⟨ty, setRow_heap w b old _ ty (0, 0) hg⟩, by rw [hsz, hl]; exact hroom⟩)⟩⟩
  refine RDs_mk (ι := ι) (vs := splice us q vs) hz' ?_ ?_
  · rw [hfl]
    simp only [splice, List.map_append, List.map_take, List.map_drop]
    refine CRs.keep hk hsh _ _ ?_
    rw [hvl]
    exact CRs.append (CRs.append (CRs.take _ g1) hcs) (CRs.drop _ g1)
  · intro j v hv
    rw [Nat.zero_add, cell_setRow_same w b _ old _ ty (0, 0) hg]
    simp only [splice] at hv
    have hold : ∀ j v, us[j]? = some v → old.toList[j]? = some v := fun j v hv => by
      have := g3 j v hv
      rw [Nat.zero_add, cell_of_row w b j old ty (0, 0) hg] at this
      rw [Array.getElem?_toList]; exact this
    simp only [List.getElem?_toArray]
    rw [List.getElem?_append, List.getElem?_append] at hv ⊢
    have t1 : (us.take q).length = q := by rw [List.length_take]; omega
    have t2 : (old.toList.take q).length = q := by rw [List.length_take, Array.length_toList]; omega
    simp only [List.length_append, t1, t2] at hv ⊢
    split at hv
    · rename_i c1
      rw [if_pos c1]
      split at hv
      · rename_i c2
        rw [if_pos c2]
        rw [List.getElem?_take] at hv ⊢
        rw [if_pos c2] at hv ⊢
        exact hold j v hv
      · rename_i c2
        rw [if_neg c2]
        exact hv
    · rename_i c1
      rw [if_neg c1]
      rw [List.getElem?_drop] at hv ⊢
      exact hold _ v hv

/-- What a slice over the frame's own memory is. -/
theorem range_spec (hr : Rel F N ι s a w) {c : C} {v : Value} (hc : CR ι w (F.ok ι s.pl w) c v) {p z off n : Nat} (h : range c = some (p, z, off, n)) {z1 : Nat} {els : List (List D)} {fz : Bool} (hp : aget s.pl p = some (.arr z1 els fz)) :
    ∃ ad cap, v = .slice ad n cap ∧ off + n ≤ els.length + (if n = 0 then off else 0) ∧ (n = 0 ∨ ∃ b, (ι p).b = some b ∧ ad = some ⟨b, off * z, none⟩) := by
  have hn := (hr.places p _ hp).2.1
  cases c with
  | own q z' m =>
    cases h
    rcases hc with ⟨h1, h2, h3⟩ | ⟨b, cap, t, h1, h2, h3, h4, h5, h6⟩
    · subst h2; exact ⟨none, 0, h3, by simp, .inl rfl⟩
    · exact ⟨_, cap, h3, by omega, .inr ⟨b, h1, by simp⟩⟩
  | sub q z' o m =>
    cases h
    obtain ⟨ad, cp, h1, _, _, h4⟩ := hc
    refine ⟨ad, cp, h1, ?_, ?_⟩
    · rcases h4 with h4 | ⟨b, e1, e2, e3⟩
      · simp [h4]
      · omega
    · rcases h4 with h4 | ⟨b, e1, e2, e3⟩
      · exact .inl h4
      · exact .inr ⟨b, e1, e2⟩
  | _ => cases h

theorem readElsW_spec (hr : Rel F N ι s a w) {c : C} {v : Value} (hc : CR ι w (F.ok ι s.pl w) c v) {l : List (List D)} (h : readElsW s.pl c = some l) :
    ∃ ad cap, v = .slice ad l.length cap ∧ ∃ ok : Nat → Prop, (l = [] ∨ ∃ b q sz, ad = some ⟨b, q, none⟩ ∧ RDs w (F.ok ι s.pl w) b sz q l) := by
  cases c with
  | sub p z off n =>
    simp only [readElsW] at h
    split at h
    · rename_i z1 els fz hp
      cases hzz : Nat.beq z z1 <;> rw [hzz] at h
      · cases h
      have hzz := Nat.eq_of_beq_eq_true hzz
      subst hzz
      cases h
      obtain ⟨ad, cp, h1, _, _, h4⟩ := hc
      rcases h4 with h4 | ⟨b, e1, e2, e3⟩
      · subst h4; exact ⟨ad, cp, by simpa using h1, fun _ => True, .inl (by simp)⟩
      · obtain ⟨hz0, hn, hpl | ⟨b', f1, f2, _⟩⟩ := hr.places p _ hp
        · rw [e1] at hpl; cases hpl.1
        · rw [e1] at f1; cases f1
          refine ⟨ad, cp, by rw [List.length_take, List.length_drop, Nat.min_eq_left (by omega)]; exact h1, fun _ => True, .inr ⟨b, off * z, z, e2, ?_⟩⟩
          have := RDs.take n (RDs.drop off f2)
          simpa using this
    · cases h
  | _ => obtain ⟨ad, cap, h1, h2⟩ := readEls_spec hr hc h; exact ⟨ad, cap, h1, fun _ => True, h2⟩

theorem telem_info {t e : TypeId} (h : Nat.blt 0 (tsz P e) = true) : ∃ i, P.info? e = some i ∧ i.size = tsz P e ∧ 0 < tsz P e := by
  have hpos : tsz P e ≠ 0 := by have := Nat.le_of_ble_eq_true h; omega
  cases hi : P.info? e with
  | none => simp [tsz, hi] at hpos
  | some i => exact ⟨i, rfl, by simp [tsz, hi], by omega⟩

theorem sound_cap (hr : Rel F N ι s a w) (hd : ∀ k, o.dst = some k → k < N) {args : Array Operand} {ts : Array TypeId} {x : Operand} {t e : TypeId} (ho : o.op = .call { callee := .builtin .cap, args := args, argTypes := ts })
    (hargs : args.toList = [x]) (hts : ts.toList = [t]) (ht : telem P t = some e) (h : aop P o.dst (.cap (cO x)) s K) : FineQ P F N o a w (fun _ => True) K := by
  simp only [aop] at h
  have hu := telem_spec ht
  have ha : args = #[x] := Array.toList_inj.1 (by simpa using hargs)
  have hta : ts = #[t] := Array.toList_inj.1 (by simpa using hts)
  have hrun : ∀ b m c, a.eval x = .slice b m c → ∀ w' : World, True → (execOp a.eval o).run P w' = .ok (.value (.int .i64 c)) w' := by
    intro b m c e1 w' _
    simp [execOp, ho, resolve, invoke, builtin, Builtin.cap_, ha, hta, e1, run_underlying hu, goInt]
  have hx := CR_o hr x
  split at h
  · rename_i l hl
    rw [hl] at hx
    simp only [CR, RD] at hx
    obtain ⟨ad, m, c, h1, h2, h3, h4, _⟩ := hx
    exact FineQ.put hr hd (hrun _ _ _ h1) (VR_lit rfl) (h c (by omega) (by simpa [maxLen] using h4))
  · rename_i hl
    rw [hl] at hx
    exact FineQ.put hr hd (hrun _ _ _ hx) (VR_lit rfl) h
  · rename_i p z m hl
    rw [hl] at hx
    rcases hx with ⟨_, h2, h3⟩ | ⟨b, cap, ty, h1, h2, h3, h4, h5, _⟩
    · subst h2; exact FineQ.put hr hd (hrun _ _ _ h3) (VR_lit rfl) (h 0 (Nat.le_refl _) (by omega))
    · exact FineQ.put hr hd (hrun _ _ _ h3) (VR_lit rfl) (h cap h4 (by simpa [maxLen] using h5))
  · exact h.elim

theorem range_ne {c : C} {p z off n : Nat} (h : range c = some (p, z, off, n)) : c ≠ .nil := fun e => by subst e; cases h

theorem sound_cpy (hr : Rel F N ι s a w) (hd : ∀ k, o.dst = some k → k < N) {args : Array Operand} {ts : Array TypeId} {x y : Operand} {t u e e' : TypeId} (ho : o.op = .call { callee := .builtin .copy, args := args, argTypes := ts })
    (hargs : args.toList = [x, y]) (hts : ts.toList = [t, u]) (ht : telem P t = some e) (hpos : Nat.blt 0 (tsz P e) = true) (h : aop P o.dst (.cpy (tsz P e) (cO x) (cO y)) s K) : Fine P F N o a w K := by
  simp only [aop] at h
  have hu := telem_spec ht
  obtain ⟨i, hi, hsz, hpos⟩ := telem_info (t := t) hpos
  have ha : args = #[x, y] := Array.toList_inj.1 (by simpa using hargs)
  have hta : ts = #[t, u] := Array.toList_inj.1 (by simpa using hts)
  have hx := CR_o hr x
  have hy := CR_o hr y
  generalize s.oc (cO x) = cx at *
  cases hsrc : readElsW s.pl (s.oc (cO y)) with
  | none => rw [hsrc] at h; exact h.elim
  | some l =>
  rw [hsrc] at h
  obtain ⟨ad, cap, hyv, _, hdata⟩ := readElsW_spec hr hy hsrc
  unfold aCpy at h
  simp only at h
  split at h
  · -- nothing to copy into
    have hx : a.eval x = .slice none 0 0 := hx
    refine (FineQ.put (C := fun _ => True) hr hd (v := .int .i64 0) ?_ (VR_lit rfl) h).fine trivial
    intro w' _
    have hfc : (Builtin.firstCells (tsz P e) 0 (.slice ad l.length cap)).run P w' = .ok #[] w' := by
      cases ad with
      | none => simp [Builtin.firstCells]
      | some ad => simp [Builtin.firstCells, loadCells, loadCellsFrom]
    simp [execOp, ho, resolve, invoke, builtin, Builtin.copy_, ha, hta, hx, hyv, run_underlying hu, goInt, Builtin.lenOf, run_sizeOf hi, hfc]
  · split at h
    case h_2 => exact h.elim
    rename_i p z off n hrg
    split at h
    case h_2 => exact h.elim
    rename_i z1 els hp
    cases hzz : (Nat.beq z z1 && Nat.beq z (tsz P e)) <;> rw [hzz] at h
    · exact h.elim
    simp only [cond_true] at h
    rw [Bool.and_eq_true] at hzz
    have e1 := Nat.eq_of_beq_eq_true hzz.1
    have e2 := Nat.eq_of_beq_eq_true hzz.2
    subst e1
    obtain ⟨hl, h⟩ := h
    obtain ⟨dad, dcap, hxv, hbd, hloc⟩ := range_spec hr hx hrg hp
    have hmin : Nat.min l.length n = min l.length n := rfl
    -- the cells that are read
    have hread : ∃ news : List Value, news.length = (l.take n).length * tsz P e ∧ CRs ι w (F.ok ι s.pl w) ((l.take n).flatten.map .d) news ∧ (Builtin.firstCells (tsz P e) (min l.length n) (.slice ad l.length cap)).run P w = .ok news.toArray w := by
      have htl : (l.take n).length = min l.length n := by rw [List.length_take, Nat.min_comm]
      rcases hdata with rfl | ⟨b, q, sz, rfl, hdata⟩
      · refine ⟨[], by simp, by simp [CRs], ?_⟩
        cases ad with
        | none => simp [Builtin.firstCells]
        | some ad => simp [Builtin.firstCells, loadCells, loadCellsFrom]
      · obtain ⟨vs, g1, g2, g3⟩ := RDs.vals (ι := ι) (RDs.take n hdata)
        have hvl : vs.length = (l.take n).length * tsz P e := by
          have := g1.length
          simp only [List.length_map] at this
          rw [← this, flatten_length (l.take n) (fun y hy => hl y (List.mem_of_mem_take hy))]
        refine ⟨vs, hvl, g1, ?_⟩
        exact run_firstCells_some (P := P) w (tsz P e) (min l.length n) ⟨b, q, none⟩ l.length cap vs (by rw [hvl, htl]) (fun j u hu => by
          rw [addr_add]
          exact g3 j u hu)
    obtain ⟨news, n1, n2, n3⟩ := hread
    have hall : ∀ x ∈ els, x.length = z := by
      obtain ⟨_, _, hpl | ⟨b', _, f2, _⟩⟩ := hr.places p _ hp
      · rw [hpl.2]; intro x hx; cases hx
      · exact RDs.len f2
    by_cases hn0 : n = 0
    · subst hn0
      have hnews : news = [] := by
        have : news.length = 0 := by rw [n1]; simp
        exact List.length_eq_zero_iff.1 this
      subst hnews
      have hels : splice els off (l.take 0) = els := by simp [splice]
      rw [hels] at h
      have hst : { s with pl := aput p (.arr z els false) s.pl } = { s with pl := aput p (.arr z els false) s.pl } := rfl
      have hrel : Rel F N ι (s.withPl (aput p (.arr z els false) s.pl)) a w := by
        refine hr.sub _ (fun k v h => h) (fun q y hq => ?_)
        have hq2 : aget (aput p (.arr z els false) s.pl) q = some y := hq
        rw [aget_aput] at hq2
        by_cases hpq : p = q
        · rw [if_pos hpq] at hq2; cases hq2; rw [← hpq]; exact hp
        · rw [if_neg hpq] at hq2; exact hq2
      refine Fine.of_value (v := .int .i64 (min l.length 0 : Nat)) (w' := w) ?_ (Rel.put hrel o.dst hd _ _ (VR_lit rfl)) h
      have hstore : ∀ ad', (storeCells ad' ([] : List Value) 0).run P w = .ok () w := fun ad' => by simp [storeCells]
      have n3' : (Builtin.firstCells (tsz P e) 0 (.slice ad l.length cap)).run P w = .ok #[] w := by simpa using n3
      cases dad with
      | none => simp [execOp, ho, resolve, invoke, builtin, Builtin.copy_, ha, hta, hxv, hyv, run_underlying hu, goInt, Builtin.lenOf, run_sizeOf hi, n3']
      | some dad => simp [execOp, ho, resolve, invoke, builtin, Builtin.copy_, ha, hta, hxv, hyv, run_underlying hu, goInt, Builtin.lenOf, run_sizeOf hi, n3', hstore]
    · rcases hloc with hloc | ⟨b, hb, rfl⟩
      · exact absurd hloc hn0
      rw [if_neg hn0] at hbd
      have hlt : (l.take n).length ≤ n := List.length_take_le n l
      have hlz : ∀ x ∈ l.take n, x.length = z := fun x hx => by rw [e2]; exact hl x (List.mem_of_mem_take hx)
      have hfit : off + (l.take n).length ≤ els.length := by omega
      have hfl := flatten_splice els off (l.take n) hall hlz hfit
      obtain ⟨w', hw', hrel⟩ := hr.storeEls (P := P) hp hb (splice_length els off (l.take n) hfit) (fun x hx => by
        simp only [splice, List.mem_append] at hx
        rcases hx with (hx | hx) | hx
        · exact hall x (List.mem_of_mem_take hx)
        · exact hlz x hx
        · exact hall x (List.mem_of_mem_drop hx)) hfl n2 (by
          rw [flatten_length (l.take n) hlz, ← Nat.add_mul]
          exact Nat.mul_le_mul_right _ hfit)
      refine Fine.of_value (v := .int .i64 (min l.length n : Nat)) (w' := w') ?_ (Rel.put hrel o.dst hd _ _ (VR_lit rfl)) h
      simp [execOp, ho, resolve, invoke, builtin, Builtin.copy_, ha, hta, hxv, hyv, run_underlying hu, goInt, Builtin.lenOf, run_sizeOf hi, hmin, n3, hw']

theorem storeNone (b : Addr) : (storeCells b ([] : List Value) 0).run P w = .ok () w := by simp [storeCells]

theorem sound_clr (hr : Rel F N ι s a w) (hd : ∀ k, o.dst = some k → k < N) {args : Array Operand} {ts : Array TypeId} {x : Operand} {t e : TypeId} (ho : o.op = .call { callee := .builtin .clear, args := args, argTypes := ts })
    (hargs : args.toList = [x]) (hts : ts.toList = [t]) (ht : telem P t = some e) (hpos : Nat.blt 0 (tsz P e) = true) {z : List D} {plz : List (Nat × Pl)} (hz : toDs [] (tzero P e).cells = some (z, plz)) (hzl : Nat.beq z.length (tsz P e) = true) (hzf : zeroFits P e = true)
    (h : aop P o.dst (.clr (tsz P e) z (cO x)) s K) : Fine P F N o a w K := by
  simp only [aop] at h
  have hu := telem_spec ht
  obtain ⟨i, zv, hi, hzv, hzs⟩ := zeroFits_spec hzf
  have hsz : i.size = tsz P e := by simp [tsz, hi]
  have hzl := Nat.eq_of_beq_eq_true hzl
  have ha : args = #[x] := Array.toList_inj.1 (by simpa using hargs)
  have hta : ts = #[t] := Array.toList_inj.1 (by simpa using hts)
  have hx := CR_o hr x
  generalize s.oc (cO x) = cx at *
  have hzero : (zeroValue e).run P w = .ok zv w := by simp [zeroValue, typeInfo, hi, hzv]
  have htz : tzero P e = ofValue zv := by simp [tzero, hi, hzv]
  have hzcs : CRs ι w (F.ok ι s.pl w) (z.map .d) zv.cells.toList := by
    refine CRs_const_D hz ?_
    rw [htz]
    have hwr := WR_ofValue ι w (F.ok ι s.pl w) zv
    refine WR_cells hwr ?_
    rw [← htz]
    exact solid_of_toDs hz
  have hput : ∀ {a' : Act} {s' : S} {w' : World}, Rel F N ι s' a' w' → Rel F N ι (s'.put o.dst undefV) (a'.put o.dst (.tuple #[])) w' := fun hr' => Rel.put hr' o.dst hd _ _ ⟨[], rfl, trivial⟩
  unfold aClr at h
  split at h
  · have hx : a.eval x = .slice none 0 0 := hx
    refine Fine.of_value (v := .tuple #[]) (w' := w) ?_ (hput hr) h
    simp [execOp, ho, resolve, invoke, builtin, Builtin.clear_, ha, hta, hx, run_underlying hu]
  · split at h
    case h_2 => exact h.elim
    rename_i p z1 off n hrg
    split at h
    case h_2 => exact h.elim
    rename_i z2 els hp
    cases hzz : (Nat.beq z1 z2 && Nat.beq z1 (tsz P e)) <;> rw [hzz] at h
    · exact h.elim
    simp only [cond_true] at h
    rw [Bool.and_eq_true] at hzz
    have e1 := Nat.eq_of_beq_eq_true hzz.1
    have e2 := Nat.eq_of_beq_eq_true hzz.2
    subst e1
    obtain ⟨dad, dcap, hxv, hbd, hloc⟩ := range_spec hr hx hrg hp
    have hall : ∀ x ∈ els, x.length = z1 := by
      obtain ⟨_, _, hpl | ⟨b', _, f2, _⟩⟩ := hr.places p _ hp
      · rw [hpl.2]; intro x hx; cases hx
      · exact RDs.len f2
    by_cases hn0 : n = 0
    · subst hn0
      have hels : splice els off (List.replicate 0 z) = els := by simp [splice]
      rw [hels] at h
      have hrel : Rel F N ι (s.withPl (aput p (.arr z1 els false) s.pl)) a w := by
        refine hr.sub _ (fun k v h => h) (fun q y hq => ?_)
        have hq2 : aget (aput p (.arr z1 els false) s.pl) q = some y := hq
        rw [aget_aput] at hq2
        by_cases hpq : p = q
        · rw [if_pos hpq] at hq2; cases hq2; rw [← hpq]; exact hp
        · rw [if_neg hpq] at hq2; exact hq2
      refine Fine.of_value (v := .tuple #[]) (w' := w) ?_ (hput hrel) h
      cases dad <;> simp [execOp, ho, resolve, invoke, builtin, Builtin.clear_, ha, hta, hxv, run_underlying hu]
    · rcases hloc with hloc | ⟨b, hb, rfl⟩
      · exact absurd hloc hn0
      rw [if_neg hn0] at hbd
      have hlz : ∀ x ∈ List.replicate n z, x.length = z1 := fun x hx => by rw [(List.mem_replicate.1 hx).2, hzl, e2]
      have hfit : off + (List.replicate n z).length ≤ els.length := by simpa using hbd
      have hfl := flatten_splice els off (List.replicate n z) hall hlz hfit
      have hcs := CRs_replicate hzcs n
      obtain ⟨w', hw', hrel⟩ := hr.storeEls (P := P) hp hb (splice_length els off (List.replicate n z) hfit) (fun x hx => by
        simp only [splice, List.mem_append] at hx
        rcases hx with (hx | hx) | hx
        · exact hall x (List.mem_of_mem_take hx)
        · exact hlz x hx
        · exact hall x (List.mem_of_mem_drop hx)) hfl hcs (by
          rw [flatten_length (List.replicate n z) hlz, ← Nat.add_mul]
          exact Nat.mul_le_mul_right _ hfit)
      refine Fine.of_value (v := .tuple #[]) (w' := w') ?_ (hput hrel) h
      have hzc : (Builtin.zeroCells zv.cells n).toList = (List.replicate n zv.cells.toList).flatten := by
        have hlen : (List.replicate n zv.cells.toList).flatten.length = n * zv.cells.size := by
          rw [flatten_length (sz := zv.cells.size) _ (fun x hx => by rw [(List.mem_replicate.1 hx).2]; simp)]; simp
        have hA : (Builtin.zeroCells zv.cells n).toList = (List.range (n * zv.cells.size)).map (fun i => zv.cells[i % zv.cells.size]!) := by simp [Builtin.zeroCells]
        rw [hA]
        apply List.ext_getElem?
        intro j
        cases hj : (List.replicate n zv.cells.toList).flatten[j]? with
        | some v =>
          obtain ⟨h1, h2⟩ := flatten_replicate_get _ _ _ _ hj
          rw [Array.length_toList] at h1 h2
          rw [List.getElem?_map, List.getElem?_range h1]
          rw [Array.getElem?_toList] at h2
          simp [getElem!_def, h2]
        | none =>
          rw [List.getElem?_eq_none_iff, hlen] at hj
          rw [List.getElem?_eq_none_iff]
          simpa using hj
      obtain ⟨m, rfl⟩ : ∃ m, n = m + 1 := ⟨n - 1, by omega⟩
      simp [execOp, ho, resolve, invoke, builtin, Builtin.clear_, ha, hta, hxv, run_underlying hu, hzero, hzc, hw']

theorem sound_slw (hr : Rel F N ι s a w) (hd : ∀ k, o.dst = some k → k < N) {t e : TypeId} {x : Operand} {lo hi : Option Operand} (ho : o.op = .slice t x lo hi none) (hu : P.underlying t = some (.slice e)) {i : TypeInfo} (hi' : P.info? e = some i)
    (h : aop P o.dst (.slw (tsz P e) (cO x) (lo.map cO) (hi.map cO)) s K) : FineQ P F N o a w (fun _ => True) K := by
  simp only [aop] at h
  split at h
  case h_2 => exact h.elim
  rename_i lq hb hl hh
  have hl := bnd_spec hr hl
  have hh := bnd_spec hr hh
  have hx := CR_o hr x
  generalize s.oc (cO x) = cx at *
  unfold aSlw at h
  split at h
  · rename_i p z n
    cases hz : Nat.beq z (tsz P e) with
    | false => rw [hz] at h; exact h.elim
    | true =>
      rw [hz] at h
      have hz := Nat.eq_of_beq_eq_true hz
      simp only [cond_true] at h
      obtain ⟨g0, g1, g2, h⟩ := h
      have g3 : orI lq 0 ≤ (n : Int) := by omega
      rcases hx with ⟨f1, f2, f3⟩ | ⟨b, cap, ty, f1, f2, f3, f4, f5, f6⟩
      · subst f2
        have hrun := fun (w' : World) (_ : True) => run_sli (o := o) (w := w') hu hi' ho f3 hl hh g0 (by simpa using g1) (by omega)
        refine FineQ.put hr hd hrun ?_ h
        refine ⟨_, _, rfl, by omega, by simp [maxLen], .inl (by omega)⟩
      · have hrun := fun (w' : World) (_ : True) => run_sli (o := o) (w := w') hu hi' ho f3 hl hh g0 g1 (by omega)
        refine FineQ.put hr hd hrun ?_ h
        refine ⟨_, _, rfl, by omega, by omega, ?_⟩
        by_cases hn : (orI hb n).toNat - (orI lq 0).toNat = 0
        · exact .inl hn
        · refine .inr ⟨b, f1, ?_, by omega⟩
          refine Eq.trans (if_neg (by omega)) ?_
          rw [hz]
          simp [addr_add]
  · have hx : a.eval x = .slice none 0 0 := hx
    obtain ⟨g0, g1, g2, h⟩ := h
    have hrun := fun (w' : World) (_ : True) => run_sli (o := o) (w := w') hu hi' ho hx hl hh g0 (by simpa using g1) (by simpa using g2)
    have e1 : (orI lq 0).toNat = 0 := by omega
    have e2 : (orI hb ((0 : Nat) : Int)).toNat = 0 := by simp only [Int.ofNat_zero] at *; omega
    rw [e1, e2] at hrun
    exact FineQ.put hr hd hrun (show VR ι w _ (cV .nil) _ from by simp [cV, VR, WR, CR]) h
  · exact h.elim

theorem okv_spec' {α : Type} {c : Bool} {x y : α} (h : okv c x = some y) : c = true ∧ x = y := by
  cases c
  · cases h
  · cases h; exact ⟨rfl, rfl⟩

theorem sound_blt (hr : Rel F N ι s a w) (hd : ∀ k, o.dst = some k → k < N) {b : Builtin} {args : Array Operand} {ts : Array TypeId} (ho : o.op = .call { callee := .builtin b, args := args, argTypes := ts }) {z : AOp} (hz : bltOp P b args.toList ts.toList = some z)
    (h : aop P o.dst z s K) : Fine P F N o a w K := by
  unfold bltOp at hz
  split at hz
  · split at hz
    · rename_i x t h1 h2
      split at hz
      · rename_i e ht
        cases hz
        exact (sound_cap hr hd ho h1 h2 ht h).fine trivial
      · cases hz
    · cases hz
  · split at hz
    · rename_i x y t u h1 h2
      split at hz
      · rename_i e e' ht hu
        obtain ⟨hc, rfl⟩ := okv_spec' hz
        rw [Bool.and_eq_true] at hc
        exact sound_cpy (e' := e') hr hd ho h1 h2 ht hc.1 h
      · cases hz
    · cases hz
  · split at hz
    · rename_i x t h1 h2
      split at hz
      · rename_i e ht
        split at hz
        · rename_i zz plz hzz
          obtain ⟨hc, rfl⟩ := okv_spec' hz
          simp only [Bool.and_eq_true] at hc
          exact sound_clr hr hd ho h1 h2 ht hc.1.1 hzz hc.1.2 hc.2 h
        · cases hz
      · cases hz
    · cases hz
  · cases hz

theorem bltOp_is {b : Builtin} {l : List Operand} {ts : List TypeId} {z : AOp} (hz : bltOp P b l ts = some z) : z.quiet = false ∧ isCall z = false ∧ ∀ cs, z ≠ .alloc cs := by
  unfold bltOp at hz
  repeat' split at hz
  all_goals first
    | (cases hz; done)
    | (obtain ⟨_, rfl⟩ := okv_spec' hz; exact ⟨rfl, rfl, fun _ h => by cases h⟩)
    | (cases hz; exact ⟨rfl, rfl, fun _ h => by cases h⟩)
end
end Go.AM

namespace Go.AM

section
variable {P : Program} {F : Fr} {N : Nat} {ι : Nat → Gh} {s : S} {a : Act} {w : World} {o : Oper} {K : S → Prop}

theorem Rel.noRow (hr : Rel F N ι s a w) {d sz : Nat} (kills : List Nat) (hk : isin d kills = true) (hpos : 0 < sz) (hh : F.h d = none) : Rel F N (upd ι d ⟨none, 0⟩) (s.redo kills [(d, .arr sz [] false)]) a w := by
  refine hr.redo kills [(d, .arr sz [] false)] _ w (fun p hp => upd_other ι _ (fun e => by subst e; rw [hk] at hp; cases hp)) (fun _ _ _ => rfl) (Shapes.refl w) rfl rfl (Out.refl w) (Nat.le_refl _) ?_ ?_ ?_ (fun p x hp => by obtain ⟨rfl, _⟩ := aget_one hp; exact hh)
  · intro p q hp
    obtain ⟨rfl, rfl⟩ := aget_one hp
    exact ⟨hpos, by rw [upd_same]; rfl, .inl ⟨by rw [upd_same], rfl⟩⟩
  · intro p q b hp hb
    obtain ⟨rfl, rfl⟩ := aget_one hp
    rw [upd_same] at hb; cases hb
  · intro p q r y b hp hq hpq
    obtain ⟨rfl, rfl⟩ := aget_one hp
    obtain ⟨rfl, rfl⟩ := aget_one hq
    exact absurd rfl hpq

/-- A slot that holds nil: a slice over a new place without elements. -/
def S.ownNil (s : S) (d p sz : Nat) : S := (s.redo [p] [(p, .arr sz [] false)]).put (some d) (cV (.own p sz 0))
theorem weak_ownNil {s : S} (d p sz : Nat) (hpos : 0 < sz) (hd : p < 100000) (h : aget s.sl d = some (cV .nil)) : Weak s (s.ownNil d p sz) := by
  intro F N ι a w hr
  have hh : F.h p = none := by
    cases e : F.h p with
    | none => rfl
    | some g => have := hr.hdom p g e; omega
  have hrel := hr.noRow (d := p) [p] (by simp [isin]) hpos hh
  obtain ⟨x, hx1, hx2⟩ := hr.slots d _ h
  have hx2 : x = .slice none 0 0 := hx2
  refine ⟨_, { hrel with slots := fun k v hv => ?_ }⟩
  have hv : aget (aput d (cV (.own p sz 0)) (s.redo [p] [(p, .arr sz [] false)]).sl) k = some v := hv
  rw [aget_aput] at hv
  by_cases e : d = k
  · rw [if_pos e] at hv
    cases hv
    subst e
    exact ⟨x, hx1, .inl ⟨by rw [upd_same], rfl, hx2⟩⟩
  · rw [if_neg e] at hv
    exact hrel.slots k v hv

theorem run_appz_new {t u ty e : TypeId} {k : IntKind} {i : TypeInfo} {z : Value} (ht : P.underlying t = some (.slice e)) (hu : P.underlying u = some (.int k)) (hi : P.info? e = some i) (hz : i.zero = some z) {k' : IntKind} {n : Nat} (hn0 : 0 < n) (hsz : 0 < i.size)
    (h63 : ((n : Nat) : Int) ≤ 9223372036854775807) (hbytes : n * i.bytes ≤ 140737488355328) :
    (Builtin.append_ #[t, u] ty #[.slice none 0 0, .int k' n]).run P w =
      .ok (.slice (some ⟨w.heap.size, 0, none⟩) n (grownCap w n 0 e))
        (w.drew.alloc (.cells ((Builtin.zeroCells z.cells n).toList ++ (Builtin.zeroCells z.cells (grownCap w n 0 e - n)).toList).toArray e)) := by
  have hn : ¬ (n ≤ 0) := by omega
  have hw : IntKind.i64.wrap (n : Int) = n := by rw [IntKind.wrap_i64]; omega
  have h63' : ¬ (9223372036854775807 < (n : Int)) := by omega
  have hfit := growslice_fits (old := 0) (need := n) (bytes := i.bytes) (by omega) hbytes
  have h48 : ¬ (281474976710656 < (n : Int) * (i.bytes : Int)) := by
    have : ((n * i.bytes : Nat) : Int) ≤ ((140737488355328 : Nat) : Int) := Int.ofNat_le.2 hbytes
    rw [Int.natCast_mul] at this; omega
  have h48' : ¬ (281474976710656 < Builtin.nextslicecap n 0 * i.bytes) := by omega
  have hns : ¬ (n * i.size = 0) := by
    have : 0 < n * i.size := Nat.mul_pos hn0 hsz
    omega
  have hlt : ¬ ((n : Int) < 0) := by omega
  simp [Builtin.append_, run_underlying ht, run_underlying hu, sizeOf, typeInfo, zeroValue, hi, hz, hw, h63', h48, h48', hns, hlt, Question.forced, newRow, asInt, asIntOf, Builtin.firstCells]
  rw [if_neg (by omega)]
  have fin : (Builtin.zeroCells z.cells n ++ Builtin.zeroCells z.cells (grownCap w n 0 e - n)) = ((Builtin.zeroCells z.cells n).toList ++ (Builtin.zeroCells z.cells (grownCap w n 0 e - n)).toList).toArray := by
    apply Array.ext'
    simp
  rw [← fin]
  rfl

theorem run_appz_zero {t u ty e : TypeId} {k : IntKind} {i : TypeInfo} (ht : P.underlying t = some (.slice e)) (hu : P.underlying u = some (.int k)) (hi : P.info? e = some i) {k' : IntKind} :
    (Builtin.append_ #[t, u] ty #[.slice none 0 0, .int k' 0]).run P w = .ok (.slice none 0 0) w := by
  have hw : IntKind.i64.wrap 0 = 0 := by rw [IntKind.wrap_i64]; omega
  simp [Builtin.append_, run_underlying ht, run_underlying hu, sizeOf, typeInfo, hi, hw, asInt, asIntOf, Builtin.firstCells]

theorem zeroCells_list (cs : Array Value) (n : Nat) : (Builtin.zeroCells cs n).toList = (List.replicate n cs.toList).flatten := by
  have hlen : (List.replicate n cs.toList).flatten.length = n * cs.size := by
    rw [flatten_length (sz := cs.size) _ (fun x hx => by rw [(List.mem_replicate.1 hx).2]; simp)]; simp
  have hA : (Builtin.zeroCells cs n).toList = (List.range (n * cs.size)).map (fun i => cs[i % cs.size]!) := by simp [Builtin.zeroCells]
  rw [hA]
  apply List.ext_getElem?
  intro j
  cases hj : (List.replicate n cs.toList).flatten[j]? with
  | some v =>
    obtain ⟨h1, h2⟩ := flatten_replicate_get _ _ _ _ hj
    rw [Array.length_toList] at h1 h2
    rw [List.getElem?_map, List.getElem?_range h1]
    rw [Array.getElem?_toList] at h2
    simp [getElem!_def, h2]
  | none =>
    rw [List.getElem?_eq_none_iff, hlen] at hj
    rw [List.getElem?_eq_none_iff]
    simpa using hj

theorem sound_appz (hr : Rel F N ι s a w) (hd : ∀ k, o.dst = some k → k < N) {args : Array Operand} {ts : Array TypeId} {x y : Operand} {t u e : TypeId} {k : IntKind} (ho : o.op = .call { callee := .builtin .append, args := args, argTypes := ts })
    (hargs : args.toList = [x, y]) (hts : ts.toList = [t, u]) (ht : telem P t = some e) (hu : P.underlying u = some (.int k)) (hpos : Nat.blt 0 (tsz P e) = true) {z : List D} {plz : List (Nat × Pl)} (hz : toDs [] (tzero P e).cells = some (z, plz)) (hzl : Nat.beq z.length (tsz P e) = true) (hzf : zeroFits P e = true)
    (h : aop P o.dst (.appz (tsz P e) (tbytes P e) z (cO x) (cO y)) s K) : Fine P F N o a w K := by
  simp only [aop] at h
  split at h
  case h_2 => exact h.elim
  rename_i d m hdst hx hm
  obtain ⟨g0, g1, g2, h⟩ := h
  have hu' := telem_spec ht
  obtain ⟨i, zv, hi, hzv, hzs⟩ := zeroFits_spec hzf
  have hsz : i.size = tsz P e := by simp [tsz, hi]
  have hbt : i.bytes = tbytes P e := by simp [tbytes, hi]
  have hzl := Nat.eq_of_beq_eq_true hzl
  have hps : 0 < i.size := by rw [hsz]; have := Nat.le_of_ble_eq_true hpos; omega
  have ha : args = #[x, y] := Array.toList_inj.1 (by simpa using hargs)
  have hta : ts = #[t, u] := Array.toList_inj.1 (by simpa using hts)
  have hxv := CR_o hr x
  rw [hx] at hxv
  have hxv : a.eval x = .slice none 0 0 := hxv
  obtain ⟨k', hyv, _⟩ := litInt_spec hm (VR_o hr y)
  obtain ⟨n, rfl⟩ : ∃ n : Nat, m = n := ⟨m.toNat, by omega⟩
  simp only [Int.toNat_natCast] at h g1
  have hrun : ∀ v w', (Builtin.append_ #[t, u] o.type #[.slice none 0 0, .int k' n]).run P w = .ok v w' → (execOp a.eval o).run P w = .ok (.value v) w' := by
    intro v w' hv
    simp [execOp, ho, resolve, invoke, builtin, ha, hta, hxv, hyv, hv]
  by_cases hn : n = 0
  · subst hn
    have hrel := hr.noRow (d := d) (sz := tsz P e) [d] (by simp [isin]) (by omega) (hr.h_slot (hd _ hdst))
    refine Fine.of_value (ι' := upd ι d ⟨none, 0⟩) (hrun _ _ (by simpa using run_appz_zero (ty := o.type) hu' hu hi)) ?_ h
    rw [hdst]
    exact hrel.put (some d) (fun k hk => by cases hk; exact hd d hdst) _ _ (.inl ⟨by rw [upd_same], rfl, rfl⟩)
  · have hap := run_appz_new (w := w) (ty := o.type) (k' := k') hu' hu hi hzv (n := n) (by omega) hps g2 (by rw [hbt]; exact g1)
    obtain ⟨cur, hcur⟩ : ∃ cur : Array Value, cur = ((Builtin.zeroCells zv.cells n).toList ++ (Builtin.zeroCells zv.cells (grownCap w n 0 e - n)).toList).toArray := ⟨_, rfl⟩
    rw [← hcur] at hap
    have hw := NewRow.draw w cur e (0, 0)
    have hge := grownCap_ge w n 0 e
    have hle := grownCap_le_maxLen w n 0 e (by simp only [maxLen]; omega)
    have hcs : cur.size = grownCap w n 0 e * i.size := by
      rw [hcur]
      simp only [List.size_toArray, List.length_append, zero_size hzv, hzs, ← Nat.add_mul]
      congr 1; omega
    have hzcs : CRs ι w (F.ok ι s.pl w) (z.map .d) zv.cells.toList := by
      refine CRs_const_D hz ?_
      have htz : tzero P e = ofValue zv := by simp [tzero, hi, hzv]
      rw [htz]
      refine WR_cells (WR_ofValue ι w (F.ok ι s.pl w) zv) ?_
      rw [← htz]
      exact solid_of_toDs hz
    have hnc := CRs_replicate hzcs n
    have hrel := hr.newRow hw d (.arr (tsz P e) (List.replicate n z) false) [d] (by simp [isin]) n (hr.h_slot (hd _ hdst)) ⟨by omega, by rw [upd_same]; simp, .inr ⟨w.heap.size, by rw [upd_same], by
      refine RDs_mk (ι := ι) (vs := (List.replicate n zv.cells.toList).flatten) (fun q hq => ?_) ?_ ?_
      · rw [(List.mem_replicate.1 hq).2, hzl]
      · exact CRs.keep (newRow_keeps hr hw d _ [d] (by simp [isin]) _) hw.shapes _ _ hnc
      · intro j v hv
        rw [Nat.zero_add, hw.cell, hcur]
        have hj := (List.getElem?_eq_some_iff.1 hv).1
        rw [List.getElem?_toArray, List.getElem?_append_left (by rw [zeroCells_list]; exact hj), zeroCells_list]
        exact hv, (fun hf => by cases hf), (fun _ => ⟨cur, ⟨e, hw.new⟩, by
        rw [hcs, ← hsz]; simp only [List.length_replicate]; exact Nat.mul_le_mul_right _ hge⟩)⟩⟩
    refine Fine.of_value (ι' := upd ι d ⟨some w.heap.size, n⟩) (hrun _ _ hap) ?_ h
    rw [hdst]
    refine hrel.put (some d) (fun k hk => by cases hk; exact hd d hdst) _ _ ?_
    exact .inr ⟨w.heap.size, _, e, by rw [upd_same], by rw [upd_same]; exact Nat.le_refl _, rfl, hge, hle, by rw [hw.shape, hcs, hsz]⟩
end
end Go.AM

namespace Go.AM

theorem upFrom_get : ∀ (n i q : Nat), (upFrom i n)[q]? = if q < n then some (i + q) else none
  | 0, i, q => by simp [upFrom]
  | n + 1, i, 0 => by simp [upFrom]
  | n + 1, i, q + 1 => by
    simp only [upFrom, List.getElem?_cons_succ, upFrom_get n (i + 1) q]
    by_cases h : q < n
    · rw [if_pos h, if_pos (by omega)]; congr 1; omega
    · rw [if_neg h, if_neg (by omega)]
theorem upFrom_len : ∀ (n i : Nat), (upFrom i n).length = n
  | 0, _ => rfl
  | n + 1, i => by simp [upFrom, upFrom_len n]

def Pl.isGone : Pl → Bool | .gone => true | _ => false
theorem lnames_cons (n : Nat) (ns : List Nat) (x : Pl) (xs : List Pl) : lnames (n :: ns) (x :: xs) = (if x.isGone = true then none else some n) :: lnames ns xs := by
  cases x <;> simp [lnames, Pl.isGone]
theorem zipPl_cons (n : Nat) (ns : List Nat) (x : Pl) (xs : List Pl) : zipPl (n :: ns) (x :: xs) = if x.isGone = true then zipPl ns xs else (n, x) :: zipPl ns xs := by
  cases x <;> simp [zipPl, Pl.isGone]
theorem kilN_succ (m n : Nat) (ns : List Nat) (x : Pl) (xs : List Pl) : kilN (m + 1) (n :: ns) (x :: xs) = if x.isGone = true then n :: kilN m ns xs else kilN m ns xs := by
  cases x <;> simp [kilN, Pl.isGone]
theorem isGone_ren (x : Pl) (l : List (Option Nat)) : (x.ren l).isGone = x.isGone := by cases x <;> rfl
theorem live_ren (x : Pl) (l : List (Option Nat)) : (x.ren l).live = x.live := by cases x <;> rfl
theorem isGone_live {x : Pl} (h : x.live = true) : x.isGone = false := by cases x <;> first | rfl | cases h

theorem nthO_lnames : ∀ (L : List Nat) (pls : List Pl) (q p : Nat), nthO (lnames L pls) q = some p ↔ ∃ x, L[q]? = some p ∧ pls[q]? = some x ∧ x.isGone = false
  | [], pls, q, p => by simp [lnames, nthO]
  | n :: ns, [], q, p => by simp [lnames, nthO]
  | n :: ns, x :: xs, 0, p => by
    rw [lnames_cons]
    cases h : x.isGone <;> simp [nthO, h]
  | n :: ns, x :: xs, q + 1, p => by
    rw [lnames_cons]
    simp only [nthO, nthO_lnames ns xs q p, List.getElem?_cons_succ]

theorem zip_get : ∀ (L : List Nat) (pls : List Pl) (p : Nat) (y : Pl), aget (zipPl L pls) p = some y → ∃ q : Nat, L[q]? = some p ∧ pls[q]? = some y ∧ y.isGone = false
  | [], pls, p, y, h => by simp [zipPl, aget] at h
  | n :: ns, [], p, y, h => by simp [zipPl, aget] at h
  | n :: ns, x :: xs, p, y, h => by
    rw [zipPl_cons] at h
    cases hg : x.isGone
    · simp only [hg, Bool.false_eq_true, if_false, aget_cons] at h
      split at h
      · rename_i e; subst e; cases h; exact ⟨0, rfl, rfl, hg⟩
      · obtain ⟨q, h1, h2, h3⟩ := zip_get ns xs p y h
        exact ⟨q + 1, by simpa using h1, by simpa using h2, h3⟩
    · simp only [hg, if_true] at h
      obtain ⟨q, h1, h2, h3⟩ := zip_get ns xs p y h
      exact ⟨q + 1, by simpa using h1, by simpa using h2, h3⟩

theorem zip_mem : ∀ (L : List Nat) (pls : List Pl) (q p : Nat) (y : Pl), L[q]? = some p → pls[q]? = some y → y.isGone = false → isin p (names (zipPl L pls)) = true
  | [], _, q, p, y, h, _, _ => by simp at h
  | _ :: _, [], q, p, y, _, h, _ => by simp at h
  | n :: ns, x :: xs, 0, p, y, h1, h2, h3 => by
    simp at h1 h2; subst h1; subst h2
    rw [zipPl_cons, h3]; simp [names, isin]
  | n :: ns, x :: xs, q + 1, p, y, h1, h2, h3 => by
    have ih := zip_mem ns xs q p y (by simpa using h1) (by simpa using h2) h3
    rw [zipPl_cons]
    cases hg : x.isGone
    · rw [isin_iff] at ih ⊢; simp [names, ih]
    · simpa using ih

theorem zip_uniq : ∀ (L : List Nat) (pls : List Pl), distinct (names (zipPl L pls)) = true → ∀ (q q' p : Nat) (y y' : Pl), L[q]? = some p → pls[q]? = some y → y.isGone = false → L[q']? = some p → pls[q']? = some y' → y'.isGone = false → q = q'
  | [], _, _, q, _, _, _, _, h, _, _, _, _, _ => by simp at h
  | _ :: _, [], _, q, _, _, _, _, _, h, _, _, _, _ => by simp at h
  | n :: ns, x :: xs, hd, q, q', p, y, y', h1, h2, h3, h4, h5, h6 => by
    have hd' : distinct (names (zipPl ns xs)) = true := by
      rw [zipPl_cons] at hd
      cases hg : x.isGone
      · rw [hg] at hd; simp only [Bool.false_eq_true, if_false, names, distinct, Bool.and_eq_true] at hd; exact hd.2
      · rw [hg] at hd; simpa using hd
    have hnot : x.isGone = false → isin n (names (zipPl ns xs)) = false := fun hg => by
      rw [zipPl_cons, hg] at hd; simp only [Bool.false_eq_true, if_false, names, distinct, Bool.and_eq_true, Bool.not_eq_true'] at hd; exact hd.1
    cases q with
    | zero => cases q' with
      | zero => rfl
      | succ q' =>
        simp at h1 h2; subst h1; subst h2
        have := zip_mem ns xs q' _ y' (by simpa using h4) (by simpa using h5) h6
        rw [hnot h3] at this; cases this
    | succ q => cases q' with
      | zero =>
        simp at h4 h5; subst h4; subst h5
        have := zip_mem ns xs q _ y (by simpa using h1) (by simpa using h2) h3
        rw [hnot h6] at this; cases this
      | succ q' => rw [zip_uniq ns xs hd' q q' p y y' (by simpa using h1) (by simpa using h2) h3 (by simpa using h4) (by simpa using h5) h6]

theorem zip_there : ∀ (L : List Nat) (pls : List Pl) (q p : Nat) (y : Pl), L[q]? = some p → pls[q]? = some y → y.isGone = false → aget (zipPl L pls) p ≠ none
  | [], _, q, p, y, h, _, _ => by simp at h
  | _ :: _, [], q, p, y, _, h, _ => by simp at h
  | n :: ns, x :: xs, 0, p, y, h1, h2, h3 => by
    simp at h1 h2; subst h1; subst h2
    rw [zipPl_cons, h3]; simp [aget_cons]
  | n :: ns, x :: xs, q + 1, p, y, h1, h2, h3 => by
    have ih := zip_there ns xs q p y (by simpa using h1) (by simpa using h2) h3
    rw [zipPl_cons]
    cases hg : x.isGone
    · simp only [Bool.false_eq_true, if_false, aget_cons]
      by_cases e : n = p
      · simp [e]
      · simpa [e] using ih
    · simpa using ih

theorem kil_iff : ∀ (L : List Nat) (pls : List Pl) (m p : Nat), isin p (kilN m L pls) = true ↔ ∃ q x, L[q]? = some p ∧ pls[q]? = some x ∧ (q < m → x.isGone = true)
  | [], pls, m, p => by cases m <;> simp [kilN, isin]
  | n :: ns, [], m, p => by cases m <;> simp [kilN, isin]
  | n :: ns, x :: xs, 0, p => by
    simp only [kilN, isin_iff, List.mem_cons]
    rw [← isin_iff, kil_iff ns xs 0 p]
    constructor
    · rintro (h | ⟨q, y, h1, h2, h3⟩)
      · exact ⟨0, x, by simp [h], rfl, fun h => by omega⟩
      · exact ⟨q + 1, y, by simpa using h1, by simpa using h2, fun h => by omega⟩
    · rintro ⟨q, y, h1, h2, h3⟩
      cases q with
      | zero => simp at h1; exact .inl h1.symm
      | succ q => exact .inr ⟨q, y, by simpa using h1, by simpa using h2, fun h => by omega⟩
  | n :: ns, x :: xs, m + 1, p => by
    rw [kilN_succ]
    have ih := kil_iff ns xs m p
    cases hg : x.isGone
    · simp only [Bool.false_eq_true, if_false, ih]
      constructor
      · rintro ⟨q, y, h1, h2, h3⟩
        exact ⟨q + 1, y, by simpa using h1, by simpa using h2, fun h => h3 (by omega)⟩
      · rintro ⟨q, y, h1, h2, h3⟩
        cases q with
        | zero => simp at h2; subst h2; have := h3 (by omega); rw [hg] at this; cases this
        | succ q => exact ⟨q, y, by simpa using h1, by simpa using h2, fun h => h3 (by omega)⟩
    · simp only [if_true, isin_iff, List.mem_cons]
      rw [← isin_iff, ih]
      constructor
      · rintro (h | ⟨q, y, h1, h2, h3⟩)
        · exact ⟨0, x, by simp [h], rfl, fun _ => hg⟩
        · exact ⟨q + 1, y, by simpa using h1, by simpa using h2, fun h => h3 (by omega)⟩
      · rintro ⟨q, y, h1, h2, h3⟩
        cases q with
        | zero => simp at h1; exact .inl h1.symm
        | succ q => exact .inr ⟨q, y, by simpa using h1, by simpa using h2, fun h => h3 (by omega)⟩

theorem zip_ren_names (ls : List (Option Nat)) : ∀ (L : List Nat) (pls : List Pl), names (zipPl L (pls.map (Pl.ren ls))) = names (zipPl L pls)
  | [], _ => rfl
  | _ :: _, [] => rfl
  | n :: ns, x :: xs => by
    rw [List.map_cons, zipPl_cons, zipPl_cons, isGone_ren]
    cases x.isGone <;> simp [names, zip_ren_names ls ns xs]

theorem distinct_up : ∀ (n i : Nat) (pls : List Pl), (∀ p, isin p (names (zipPl (upFrom i n) pls)) = true → i ≤ p) ∧ distinct (names (zipPl (upFrom i n) pls)) = true
  | 0, i, pls => by simp [upFrom, zipPl, names, isin, distinct]
  | n + 1, i, [] => by simp [upFrom, zipPl, names, isin, distinct]
  | n + 1, i, x :: xs => by
    obtain ⟨h1, h2⟩ := distinct_up n (i + 1) xs
    simp only [upFrom, zipPl_cons]
    cases x.isGone
    · simp only [Bool.false_eq_true, if_false, names, distinct, h2, Bool.and_true, Bool.not_eq_true']
      refine ⟨fun p hp => ?_, ?_⟩
      · rw [isin_iff, List.mem_cons] at hp
        rcases hp with rfl | hp
        · exact Nat.le_refl _
        · have := h1 p ((isin_iff _ _).2 hp); omega
      · cases hc : isin i (names (zipPl (upFrom (i + 1) n) xs))
        · rfl
        · have := h1 i hc; omega
    · simp only [if_true]
      exact ⟨fun p hp => by have := h1 p hp; omega, h2⟩

theorem aget_numbered (l : List Pl) : ∀ (n p : Nat), aget (numbered n l) p = if n ≤ p then l[p - n]? else none := by
  induction l with
  | nil => intro n p; simp [numbered, aget]
  | cons x r ih =>
    intro n p
    simp only [numbered, aget_cons, ih]
    by_cases h : n = p
    · subst h; simp
    · by_cases h2 : n ≤ p
      · rw [if_neg h, if_pos (by omega), if_pos h2, show p - n = (p - (n + 1)) + 1 by omega]; simp
      · rw [if_neg h, if_neg (by omega), if_neg h2]

section
variable {P : Program} {F : Fr} {N : Nat} {ι : Nat → Gh} {s : S} {a : Act} {w : World} {o : Oper} {K : S → Prop}

theorem run_callFunc {f : FuncId} (h : callable P f = true) (args : Array Value) (w : World) : (callFunc f args).run P w = .ok (.enter f args) w := by
  unfold callable at h
  cases hf : P.funcs[f]? with
  | none => rw [hf] at h; cases h
  | some fn =>
    simp only [hf, Bool.and_eq_true, Bool.not_eq_true'] at h
    obtain ⟨h1, h2⟩ := h
    have h3 : ¬ fn.body = none := by intro hb; rw [hb] at h1; cases h1
    have h4 : ¬ fn.name = "runtime.NumGoroutine" := by intro hb; rw [hb] at h2; cases h2
    simp [callFunc, hf, h4, h3]

/-- The frame in a world that has grown, nothing of what was there having turned. -/
theorem Shapes.of_grows {w w' : World} (h : Grows (fun _ => False) w w') : Shapes w w' := by
  intro b t m hb
  have hlt : b < w.heap.size := by
    rcases Nat.lt_or_ge b w.heap.size with h' | h'
    · exact h'
    · simp [World.shape?, Array.getElem?_eq_none h'] at hb
  simp only [World.shape?, h.block b hlt (fun h => h)] at hb ⊢
  exact hb

theorem Rel.grown (hr : Rel F N ι s a w) {w' : World} (hg : Grows (fun _ => False) w w') : Rel F N ι s a w' := by
  have hkeep : Keeps w w' (F.ok ι s.pl w) (F.ok ι s.pl w') := fun b hb => ⟨⟨hb.1, Nat.lt_of_lt_of_le hb.2.1 hg.size, hb.2.2⟩, hg.block b hb.2.1 (fun h => h)⟩
  have hsh := Shapes.of_grows hg
  refine ⟨hr.room, fun k v hv => ?_, fun p x hx => ?_, hr.inj, fun b hb => ⟨(hr.mine b hb).1, Nat.lt_of_lt_of_le (hr.mine b hb).2 hg.size⟩, hr.defers, ?_, hr.foreign, hr.handed, hr.few, hr.hdom, hr.hkeep⟩
  · obtain ⟨x, e1, e2⟩ := hr.slots k v hv
    exact ⟨x, e1, VR.keep hkeep hsh v x e2⟩
  · have h := hr.places p x hx
    cases x with
    | fbox ds => obtain ⟨b, e1, e2, e3⟩ := h; exact ⟨b, e1, (hkeep b e2).1, RDc.keep hkeep b e2 _ _ e3⟩
    | gone => exact h.elim
    | box cs => obtain ⟨b, cur, e1, ⟨t, e2⟩, e3⟩ := h; exact ⟨b, cur, e1, ⟨t, by rw [hg.block b (RowAt.lt ⟨t, e2⟩) (fun h => h)]; exact e2⟩, CRs.keep hkeep hsh _ _ e3⟩
    | arr sz els fz =>
      obtain ⟨h0, hn, h | ⟨b, e1, e2, e3, e4⟩⟩ := h
      · exact ⟨h0, hn, .inl h⟩
      · have hlt : b < w.heap.size := by
          cases fz
          · obtain ⟨cur, e5, _⟩ := e4 rfl; exact e5.lt
          · exact (e3 rfl).2.1
        refine ⟨h0, hn, .inr ⟨b, e1, RDs.keep' hkeep b sz els 0 (fun j _ _ => cell_of_heap (hg.block b hlt (fun h => h)) j) e2, fun hf => (hkeep b (e3 hf)).1, fun hf => ?_⟩⟩
        obtain ⟨cur, ⟨t, e5⟩, e6⟩ := e4 hf
        exact ⟨cur, ⟨t, by rw [hg.block b hlt (fun h => h)]; exact e5⟩, e6⟩
  · refine ⟨hg.os.trans hr.grows.os, hg.tape.trans hr.grows.tape, hg.output.trans hr.grows.output, Nat.le_trans hr.grows.size hg.size, fun b hb hm => ?_, fun b t m h => hg.shapes b t m (hr.grows.shapes b t m h)⟩
    rw [hg.block b (Nat.lt_of_lt_of_le hb hr.grows.size) (fun h => h)]
    exact hr.grows.block b hb hm

theorem CR_scalar {ι ι' : Nat → Gh} {w w' : World} {ok ok' : Nat → Prop} {c : C} {v : Value} (hs : c.scalar = true) (h : CR ι w ok c v) : CR ι' w' ok' c v := by
  cases c with
  | d x => cases x with
    | lit u => simp only [CR, RD] at h ⊢; exact h
    | sl l => cases hs
    | fn f l => cases hs
  | _ => cases hs
theorem WR_scalar {ι ι' : Nat → Gh} {w w' : World} {ok ok' : Nat → Prop} {x : W} {v : Value} (hs : x.scalar = true) (h : WR ι w ok x v) : WR ι' w' ok' x v := by
  cases x with
  | c c => exact CR_scalar hs h
  | agg cs =>
    obtain ⟨vs, h1, h2⟩ := h
    refine ⟨vs, h1, ?_⟩
    clear h1
    simp only [W.scalar] at hs
    induction cs generalizing vs with
    | nil => cases vs with | nil => trivial | cons _ _ => exact h2.elim
    | cons c cs ih => cases vs with
      | nil => exact h2.elim
      | cons v vs =>
        simp only [List.all_cons, Bool.and_eq_true] at hs
        exact ⟨CR_scalar hs.1 h2.1, ih hs.2 vs h2.2⟩
theorem VR_scalar {ι ι' : Nat → Gh} {w w' : World} {ok ok' : Nat → Prop} {x : V} {v : Value} (hs : x.scalar = true) (h : VR ι w ok x v) : VR ι' w' ok' x v := by
  cases x with
  | w x => exact WR_scalar hs h
  | tup cs =>
    obtain ⟨vs, h1, h2⟩ := h
    refine ⟨vs, h1, ?_⟩
    clear h1
    simp only [V.scalar] at hs
    induction cs generalizing vs with
    | nil => cases vs with | nil => trivial | cons _ _ => exact h2.elim
    | cons c cs ih => cases vs with
      | nil => exact h2.elim
      | cons v vs =>
        simp only [List.all_cons, Bool.and_eq_true] at hs
        exact ⟨WR_scalar hs.1 h2.1, ih hs.2 vs h2.2⟩

section ren
variable {ι ι' : Nat → Gh} {w w' : World} {ok ok' : Nat → Prop} {l : List (Option Nat)}
theorem CR_ren (hk : Keeps w w ok ok') (hι : ∀ q p, nthO l q = some p → ι' p = ι q) {c : C} {v : Value} (h : CR ι w ok c v) : CR ι' w ok' (c.ren l) v := by
  cases c with
  | d x => exact RD.keep hk _ _ h
  | nil => exact h
  | own q sz k =>
    simp only [C.ren]
    split
    · rename_i p hp
      simp only [CR, hι q p hp]
      exact h
    · trivial
  | ptr q o =>
    simp only [C.ren]
    split
    · rename_i p hp
      simp only [CR, hι q p hp]
      exact h
    · trivial
  | eptr q z i k =>
    simp only [C.ren]
    split
    · rename_i p hp
      simp only [CR, hι q p hp]
      exact h
    · trivial
  | fp l => exact CR.keep hk (Shapes.refl w) (.fp l) v h
  | clo f caps => cases caps with
    | nil => exact h
    | cons _ _ => trivial
  | dead => trivial
  | sub _ _ _ _ => trivial
theorem CRs_ren (hk : Keeps w w ok ok') (hι : ∀ q p, nthO l q = some p → ι' p = ι q) : ∀ {cs : List C} {vs : List Value}, CRs ι w ok cs vs → CRs ι' w ok' (cs.map (C.ren l)) vs
  | [], [], _ => trivial
  | [], _ :: _, h => h.elim
  | _ :: _, [], h => h.elim
  | _ :: _, _ :: _, h => ⟨CR_ren hk hι h.1, CRs_ren hk hι h.2⟩
theorem WR_ren (hk : Keeps w w ok ok') (hι : ∀ q p, nthO l q = some p → ι' p = ι q) {x : W} {v : Value} (h : WR ι w ok x v) : WR ι' w ok' (x.ren l) v := by
  cases x with
  | c x => exact CR_ren hk hι h
  | agg cs => obtain ⟨vs, h1, h2⟩ := h; exact ⟨vs, h1, CRs_ren hk hι h2⟩
theorem WRs_ren (hk : Keeps w w ok ok') (hι : ∀ q p, nthO l q = some p → ι' p = ι q) : ∀ {cs : List W} {vs : List Value}, WRs ι w ok cs vs → WRs ι' w ok' (cs.map (W.ren l)) vs
  | [], [], _ => trivial
  | [], _ :: _, h => h.elim
  | _ :: _, [], h => h.elim
  | _ :: _, _ :: _, h => ⟨WR_ren hk hι h.1, WRs_ren hk hι h.2⟩
theorem VR_ren (hk : Keeps w w ok ok') (hι : ∀ q p, nthO l q = some p → ι' p = ι q) {x : V} {v : Value} (h : VR ι w ok x v) : VR ι' w ok' (x.ren l) v := by
  cases x with
  | w x => exact WR_ren hk hι h
  | tup cs => obtain ⟨vs, h1, h2⟩ := h; exact ⟨vs, h1, WRs_ren hk hι h2⟩
/-- A place of the frame's own under a new name. -/
theorem PR_ren (hk : Keeps w w ok ok') (hι : ∀ q p, nthO l q = some p → ι' p = ι q) {q p : Nat} (hp : ι' p = ι q) {x : Pl} (h : PR ι w ok q x) : PR ι' w ok' p (x.ren l) := by
  cases x with
  | box cs => obtain ⟨b, cur, e1, e2, e3⟩ := h; exact ⟨b, cur, by rw [hp]; exact e1, e2, CRs_ren hk hι e3⟩
  | arr sz els fz =>
    obtain ⟨h0, hn, h | ⟨b, e1, e2, e3, e4⟩⟩ := h
    · exact ⟨h0, by rw [hp]; exact hn, .inl (by rw [hp]; exact h)⟩
    · exact ⟨h0, by rw [hp]; exact hn, .inr ⟨b, by rw [hp]; exact e1, RDs.keep' hk b sz els 0 (fun _ _ _ => rfl) e2, fun hf => (hk b (e3 hf)).1, e4⟩⟩
  | fbox ds => obtain ⟨b, e1, e2, e3⟩ := h; exact ⟨b, by rw [hp]; exact e1, (hk b e2).1, RDc.keep hk b e2 _ _ e3⟩
  | gone => exact h.elim
end ren

theorem PR.lt {ι : Nat → Gh} {w : World} {ok : Nat → Prop} {p : Nat} {x : Pl} (h : PR ι w ok p x) (hl : x.live = true) {b : Nat} (hb : (ι p).b = some b) : b < w.heap.size := by
  cases x with
  | box cs => obtain ⟨b', cur, e1, e2, e3⟩ := h; rw [hb] at e1; cases e1; exact e2.lt
  | arr sz els fz =>
    cases fz with
    | true => cases hl
    | false =>
      obtain ⟨h0, hn, h | ⟨b', e1, e2, e3, e4⟩⟩ := h
      · rw [hb] at h; cases h.1
      · rw [hb] at e1; cases e1; obtain ⟨cur, e5, _⟩ := e4 rfl; exact e5.lt
  | fbox ds => cases hl
  | gone => cases hl

/-- Behind a call. -/
theorem recvN_sound (hr : Rel F N ι s a w) {dst : Option Tmp} (hd : ∀ k, dst = some k → k < N) {U : List Nat} (hU : ∀ p ∈ U, ∃ x, aget s.pl p = some x ∧ x.live = true) {nb : Nat} (hnb : ∀ i, F.h (nb + i) = none) {M : Nat → Prop} (hM : ∀ b, M b ↔ ∃ p ∈ U, (ι p).b = some b)
    {h0 : Nat → Option Gh} {w' : World} {v : Value} {r : Res} (hres : ResH ⟨w, F.ok ι s.pl w, M, h0⟩ (fun i => ι (U.getD i 0)) U.length w' r v) (hg : Grows M w w') (hok : okNames U nb r = true) :
    ∃ ι', Rel F N ι' (recvN s U nb dst r) (a.put dst v) w' := by
  obtain ⟨hm, ιr, h1, h2, h3, h4, h5, h6⟩ := hres
  let L : List Nat := U ++ upFrom nb (r.pl.length - U.length)
  let ls := lnames L r.pl
  let NP := zipPl L (r.pl.map (Pl.ren ls))
  let KL := kilN U.length L r.pl
  have hdis : distinct (names (zipPl L r.pl)) = true := hok
  have hLlo : ∀ q, q < U.length → L[q]? = U[q]? := fun q hq => List.getElem?_append_left hq
  have hLhi : ∀ q p, U.length ≤ q → L[q]? = some p → p = nb + (q - U.length) := fun q p hq hp => by
    have hp : (U ++ upFrom nb (r.pl.length - U.length))[q]? = some p := hp
    rw [List.getElem?_append_right hq, upFrom_get] at hp
    split at hp
    · cases hp; rfl
    · cases hp
  have hz0 : ∀ q x, aget (zipPl (upFrom 0 r.pl.length) r.pl) q = some x ↔ r.pl[q]? = some x ∧ x.isGone = false := fun q x => by
    constructor
    · intro h
      obtain ⟨q', g1, g2, g3⟩ := zip_get _ _ _ _ h
      rw [upFrom_get] at g1
      split at g1
      · cases g1; rw [Nat.zero_add]; exact ⟨g2, g3⟩
      · cases g1
    · rintro ⟨g1, g2⟩
      have hlt : q < r.pl.length := (List.getElem?_eq_some_iff.1 g1).1
      have hup : (upFrom 0 r.pl.length)[q]? = some q := by rw [upFrom_get, if_pos hlt, Nat.zero_add]
      have := zip_there _ _ q q x hup g1 g2
      cases hz : aget (zipPl (upFrom 0 r.pl.length) r.pl) q with
      | none => exact absurd hz this
      | some y =>
        obtain ⟨q', g3, g4, g5⟩ := zip_get _ _ _ _ hz
        rw [upFrom_get] at g3
        split at g3
        · cases g3; rw [Nat.zero_add] at g1; rw [g1] at g4; cases g4; rfl
        · cases g3
  let ι' : Nat → Gh := fun p => open Classical in if h : isin p KL = true ∧ ∃ q, nthO ls q = some p then ιr h.2.choose else ι p
  have huniq : ∀ q q' p, nthO ls q = some p → nthO ls q' = some p → q = q' := fun q q' p g1 g2 => by
    obtain ⟨x, e1, e2, e3⟩ := (nthO_lnames L r.pl q p).1 g1
    obtain ⟨y, e4, e5, e6⟩ := (nthO_lnames L r.pl q' p).1 g2
    exact zip_uniq L r.pl hdis q q' p x y e1 e2 e3 e4 e5 e6
  have hι : ∀ p, isin p KL = false → ι' p = ι p := fun p hp => by
    simp only [ι']
    rw [dif_neg]
    rintro ⟨h, _⟩
    rw [hp] at h; cases h
  have hin : ∀ q p, nthO ls q = some p → ι' p = ιr q := fun q p hq => by
    by_cases hk : isin p KL = true
    · have hex : isin p KL = true ∧ ∃ q, nthO ls q = some p := ⟨hk, q, hq⟩
      simp only [ι']
      rw [dif_pos hex]
      congr 1
      exact huniq _ _ p hex.2.choose_spec hq
    · have hk : isin p KL = false := by simpa using hk
      rw [hι p hk]
      obtain ⟨x, e1, e2, e3⟩ := (nthO_lnames L r.pl q p).1 hq
      have hqm : q < U.length := by
        rcases Nat.lt_or_ge q U.length with h | h
        · exact h
        · have := (kil_iff L r.pl U.length p).2 ⟨q, x, e1, e2, fun h' => by omega⟩
          rw [hk] at this; cases this
      have := h6 q x hqm ((hz0 q x).2 ⟨e2, e3⟩)
      rw [this]
      have e1' : U[q]? = some p := by rw [← hLlo q hqm]; exact e1
      simp [List.getD, e1']
  have hNP : ∀ p y, aget NP p = some y → ∃ q x, nthO ls q = some p ∧ r.pl[q]? = some x ∧ x.isGone = false ∧ y = x.ren ls ∧ L[q]? = some p := fun p y hy => by
    obtain ⟨q, e1, e2, e3⟩ := zip_get _ _ _ _ hy
    rw [List.getElem?_map] at e2
    cases hx : r.pl[q]? with
    | none => rw [hx] at e2; cases e2
    | some x =>
      rw [hx] at e2; simp at e2; subst e2
      rw [isGone_ren] at e3
      exact ⟨q, x, (nthO_lnames L r.pl q p).2 ⟨x, e1, hx, e3⟩, hx, e3, rfl, e1⟩
  have hrep : ∀ p, p ∈ U → isin p KL = true ∨ aget NP p ≠ none := fun p hp => by
    obtain ⟨i, hi, hpi⟩ := List.getElem_of_mem hp
    have hUi : U[i]? = some p := by rw [List.getElem?_eq_getElem hi, hpi]
    have hLi : L[i]? = some p := by rw [hLlo i hi]; exact hUi
    have hlt : i < r.pl.length := by omega
    cases hg' : (r.pl[i]).isGone
    · right
      refine zip_there L _ i p ((r.pl[i]).ren ls) hLi (by rw [List.getElem?_map, List.getElem?_eq_getElem hlt]; rfl) (by rw [isGone_ren]; exact hg')
    · left
      exact (kil_iff L r.pl U.length p).2 ⟨i, r.pl[i], hLi, List.getElem?_eq_getElem hlt, fun _ => hg'⟩
  have hMown : ∀ b, M b → ∃ q y, (isin q KL = true ∨ aget NP q ≠ none) ∧ aget s.pl q = some y ∧ y.live = true ∧ (ι q).b = some b := fun b hb => by
    obtain ⟨p, hp, e⟩ := (hM b).1 hb
    obtain ⟨x, e1, e2⟩ := hU p hp
    exact ⟨p, x, hrep p hp, e1, e2, e⟩
  have hsame : ∀ b, b < w.heap.size → (∀ q y, (isin q KL = true ∨ aget NP q ≠ none) → aget s.pl q = some y → y.live = true → (ι q).b ≠ some b) → w'.heap[b]? = w.heap[b]? := fun b hb h => hg.block b hb fun hm' => by
    obtain ⟨q, y, e1, e2, e3, e4⟩ := hMown b hm'
    exact h q y e1 e2 e3 e4
  have hokk : Keeps w' w' (Fr.ok ⟨w, F.ok ι s.pl w, M, h0⟩ ιr (zipPl (upFrom 0 r.pl.length) r.pl) w') (F.ok ι' (s.redo KL NP).pl w') := by
    intro b hb
    obtain ⟨b1, b2, b3⟩ := hb
    refine ⟨⟨?_, b2, ?_⟩, rfl⟩
    · rcases b1 with b1 | b1 | b1
      · exact b1.1
      · obtain ⟨q, y, _, e2, e3, e4⟩ := hMown b b1
        rcases (hr.mine b ⟨q, y, e2, e3, e4⟩).1 with h | h
        · exact .inr (.inl h)
        · exact .inr (.inr h)
      · exact .inr (.inr (Nat.le_trans hr.grows.size b1))
    · rintro ⟨p, x, q1, q2, q3⟩
      rw [S.redo_pl] at q1
      cases hn : aget NP p with
      | some y =>
        simp only [hn] at q1; cases q1
        obtain ⟨q, z, e1, e2, e3, rfl, _⟩ := hNP p _ hn
        rw [hin q p e1] at q3
        rw [live_ren] at q2
        exact b3 ⟨q, z, (hz0 q z).2 ⟨e2, e3⟩, q2, q3⟩
      | none =>
        simp only [hn] at q1
        split at q1
        · rename_i hk
          cases hp : aget s.pl p with
          | none => rw [hp] at q1; cases q1
          | some y =>
            rw [hp] at q1; simp at q1; subst q1
            rw [hι p hk] at q3
            rw [Pl.live_kill] at q2
            have ho : Owns ι s.pl b := ⟨p, y, hp, q2, q3⟩
            rcases b1 with b1 | b1 | b1
            · exact b1.2.2 ho
            · obtain ⟨q, z, e1, e2, e3, e4⟩ := hMown b b1
              have hpq : p ≠ q := fun e => by subst e; rcases e1 with e1 | e1; · rw [hk] at e1; cases e1
                                              · exact e1 hn
              exact hr.inj p q y z b hp e2 hpq q2 q3 e4
            · have h7 := (hr.mine b ho).2
              have h8 : w.heap.size ≤ b := b1
              omega
        · cases q1
  have hrel := hr.redoG KL NP ι' w' hι hsame hg.shapes hg.os hg.tape hg.output hg.size (by
    intro p y hy
    obtain ⟨q, x, e1, e2, e3, rfl, _⟩ := hNP p y hy
    exact PR_ren hokk hin (hin q p e1) (h2 q x ((hz0 q x).2 ⟨e2, e3⟩))) (by
    intro p y b hy hb
    obtain ⟨q, x, e1, e2, e3, rfl, _⟩ := hNP p y hy
    rw [hin q p e1] at hb
    have hzq := (hz0 q x).2 ⟨e2, e3⟩
    refine ⟨(h2 q x hzq).lt (h5 q x hzq) hb, ?_⟩
    rcases h4 q x b hzq hb with h | h
    · exact .inr (hMown b h)
    · exact .inl h) (by
    intro p q x y b hx hy hpq hb hq
    obtain ⟨p', x', e1, e2, e3, rfl, _⟩ := hNP p x hx
    obtain ⟨q', y', e4, e5, e6, rfl, _⟩ := hNP q y hy
    rw [hin p' p e1] at hb
    rw [hin q' q e4] at hq
    refine h3 p' q' x' y' b ((hz0 p' x').2 ⟨e2, e3⟩) ((hz0 q' y').2 ⟨e5, e6⟩) (fun e => hpq ?_) hb hq
    subst e
    rw [e1] at e4; cases e4; rfl) (by
    intro p y g hy hg'
    obtain ⟨q, x, e1, e2, e3, rfl, e4⟩ := hNP p y hy
    have hqm : q < U.length := by
      rcases Nat.lt_or_ge q U.length with h | h
      · exact h
      · have := hLhi q p h e4
        rw [this, hnb] at hg'; cases hg'
    rw [hin q p e1, h6 q x hqm ((hz0 q x).2 ⟨e2, e3⟩)]
    have hUq : U[q]? = some p := by rw [← hLlo q hqm]; exact e4
    obtain ⟨z, e5, _⟩ := hU p (List.mem_of_getElem? hUq)
    have := hr.hkeep p z g e5 hg'
    simp only [List.getD, hUq, Option.getD_some]
    exact this)
  exact ⟨ι', hrel.put dst hd _ _ (VR_ren hokk hin h1)⟩

theorem recv_sound (hr : Rel F N ι s a w) (hd : ∀ k, o.dst = some k → k < N) {pl1 : List (Nat × Pl)} (hr1 : Rel F N ι (s.withPl pl1) a w) {w' : World} {v : Value} {r : Res} (hres : ResR ⟨w, F.ok ι pl1 w, fun _ => False, fun _ => none⟩ w' r v) (hg : Grows (fun _ => False) w w') :
    ∃ ι', Rel F N ι' (recv s { s with pl := pl1 } o.dst r) (a.put o.dst v) w' := by
  cases hdst : o.dst with
  | none => exact ⟨ι, hr.grown hg⟩
  | some d =>
    simp only [recv]
    cases hs : r.v.scalar
    · simp only [cond_false]
      have hdN := hd d hdst
      refine recvN_sound hr1 (dst := some d) (fun k hk => by cases hk; exact hdN) (U := []) (fun p hp => by cases hp) (nb := base d) (fun i => hr.h_big (by unfold base; omega)) (M := fun _ => False) (fun b => by simp) (h0 := fun _ => none) ?_ hg ?_
      · obtain ⟨_, ιr, h1, h2, h3, h4, h5, h6⟩ := hres
        exact ⟨Nat.zero_le _, ιr, h1, h2, h3, h4, h5, fun p x hp => by simp at hp⟩
      · exact (distinct_up _ _ _).2
    · simp only [cond_true]
      obtain ⟨_, ιr, h1, _⟩ := hres
      exact ⟨ι, (hr.grown hg).put (some d) (fun k hk => by cases hk; exact hd d hdst) _ _ (VR_scalar hs h1)⟩

theorem Rel.glb (hr : Rel F N ι s a w) : Glb (F.ok ι s.pl w) w := fun k hk => by
  obtain ⟨h1, m, h2⟩ := hr.handed.2 k hk
  obtain ⟨h3, h4⟩ := hr.foreign k h1
  refine ⟨⟨.inl h1, Nat.lt_of_lt_of_le h3 hr.grows.size, fun ho => ?_⟩, m, ?_⟩
  · rcases (hr.mine k ho).1 with h | h
    · exact h4 h
    · omega
  · rw [cell_of_heap (hr.grows.block k h3 h4) 0]; exact h2

theorem sound_aCall (hr : Rel F N ι s a w) (hd : ∀ k, o.dst = some k → k < N) {f : FuncId} {ws : List W} {vals : List Value} (hws : WRs ι w (F.ok ι s.pl w) ws vals) (hrun : callable P f = true → (execOp a.eval o).run P w = .ok (.enter f vals.toArray) w)
    (h : aCall P o.dst f ws s K) : FineX P F N o a w K := by
  unfold aCall at h
  split at h
  · rename_i ds pl1 hds
    obtain ⟨hc, h⟩ := h
    obtain ⟨g1, g2, g3⟩ := toDWs_sound hr hws hds
    intro next Q hn
    unfold Oper.wp
    rw [hrun hc]
    rw [Oper.upon_enter]
    refine (h w (F.ok ι pl1 w) vals ⟨fun b hb => hb.2.1, g1.glb⟩ (g3 _)).mono ?_
    rintro e w' ⟨v, r, rfl, hk, hres, hg⟩
    obtain ⟨ι', hrel⟩ := recv_sound (o := o) hr hd g1 hres hg
    exact hn ι' _ _ _ hrel hk ⟨hg.size, fun b hb => hg.block b hb (fun h => h)⟩
  · exact h.elim

theorem arr_map {α β : Type} (f : α → β) (xs : Array α) : xs.map f = (xs.toList.map f).toArray := by
  cases xs; simp

theorem sound_call (hr : Rel F N ι s a w) (hd : ∀ k, o.dst = some k → k < N) {f : FuncId} {args : Array Operand} {ts : Array TypeId} (ho : o.op = .call { callee := .value (.func f), args := args, argTypes := ts })
    (h : aop P o.dst (.call f (args.toList.map cO)) s K) : FineX P F N o a w K := by
  simp only [aop] at h
  refine sound_aCall hr hd (WRs_o hr args.toList) (fun hc => ?_) h
  simp only [execOp, ho, resolve, Deferred.ofValue, Act.eval, Sem.run_bind, Sem.run_pure, Result.andThen_ok, invoke]
  rw [run_callFunc hc, arr_map]
  simp

theorem WRs_append {ok : Nat → Prop} : ∀ {xs ys : List W} {us vs : List Value}, WRs ι w ok xs us → WRs ι w ok ys vs → WRs ι w ok (xs ++ ys) (us ++ vs)
  | [], _, [], _, _, h => h
  | [], _, _ :: _, _, h, _ => h.elim
  | _ :: _, _, [], _, h, _ => h.elim
  | _ :: _, _, _ :: _, _, h, h2 => ⟨h.1, WRs_append h.2 h2⟩
theorem WRs_fps {ok : Nat → Prop} : ∀ {caps : List (List D)} {vs : List Value}, RDf w ok vs caps → WRs ι w ok (caps.map fun ds => W.c (.fp ds)) vs
  | [], vs, h => by simp only [RDf] at h; subst h; trivial
  | c :: r, vs, h => by
    simp only [RDf] at h
    obtain ⟨b, o, vs', rfl, h2, h3, h4⟩ := h
    exact ⟨⟨b, o, rfl, h2, h3⟩, WRs_fps h4⟩

theorem sound_calv (hr : Rel F N ι s a w) (hd : ∀ k, o.dst = some k → k < N) {x : Operand} {args : Array Operand} {ts : Array TypeId} (ho : o.op = .call { callee := .value x, args := args, argTypes := ts })
    (h : aop P o.dst (.calv (cO x) (args.toList.map cO)) s K) : FineX P F N o a w K := by
  simp only [aop] at h
  have hx := CR_o hr x
  split at h
  · rename_i f hf
    rw [hf] at hx
    obtain ⟨bs, h1, h2⟩ := hx
    have hbs : bs = [] := by simpa using h1.symm
    subst hbs
    refine sound_aCall hr hd (WRs_o hr args.toList) (fun hc => ?_) h
    simp only [execOp, ho, resolve, h2, Deferred.ofValue, Sem.run_bind, Sem.run_pure, Result.andThen_ok, invoke]
    rw [run_callFunc hc, arr_map]
    simp
  · rename_i f caps hf
    rw [hf] at hx
    simp only [CR, RD] at hx
    obtain ⟨vs, h1, h2⟩ := hx
    refine sound_aCall hr hd (WRs_append (WRs_o hr args.toList) (WRs_fps h2)) (fun hc => ?_) h
    simp only [execOp, ho, resolve, h1, Deferred.ofValue, Sem.run_bind, Sem.run_pure, Result.andThen_ok, invoke]
    rw [run_callFunc hc, arr_map]
    simp
  · exact h.elim

theorem okv_spec {α : Type} {c : Bool} {x y : α} (h : okv c x = some y) : c = true ∧ x = y := by
  cases c
  · cases h
  · cases h; exact ⟨rfl, rfl⟩

theorem isSome_spec {α : Type} {x : Option α} (h : isSome x = true) : ∃ y, x = some y := by
  cases x with
  | none => cases h
  | some y => exact ⟨y, rfl⟩

/-- Every operation. -/
theorem aop_sound (hr : Rel F N ι s a w) (hd : ∀ k, o.dst = some k → k < N) {x : AOp} (hx : cOp P o.op o.type = some x) (h : aop P o.dst x s K) : Fine P F N o a w K := by
  unfold cOp at hx
  split at hx
  · rename_i y ho; cases hx; exact (sound_mov hr hd (.inl ho) h).fine trivial
  · rename_i y ho; cases hx; exact (sound_mov hr hd (.inr ho) h).fine trivial
  · rename_i c y z ho; cases hx; exact (sound_pick hr hd ho h).fine trivial
  · rename_i t ho; cases hx; exact sound_alloc hr hd ho h
  · rename_i t y ho; cases hx; exact (sound_bx hr hd ho h).fine
  · rename_i t parts ho
    split at hx
    · rename_i fs l hu hl
      obtain ⟨hc, rfl⟩ := okv_spec hx
      rw [Bool.and_eq_true] at hc
      exact (sound_build hr hd ho hu hl hc.1 hc.2 h).fine trivial
    · cases hx
  · rename_i t n parts ho
    split at hx
    · rename_i e ht
      obtain ⟨hc, rfl⟩ := okv_spec hx
      simp only [Bool.and_eq_true] at hc
      exact (sound_lits hr hd ho ht hc.1.1.1.1 hc.1.1.1.2 hc.1.1.2 hc.1.2 hc.2 h).fine
    · cases hx
  · rename_i t y ho
    split at hx
    · rename_i g ht; cases hx; exact (sound_ld hr hd ho ht h).fine (Ext.refl _)
    · cases hx
  · rename_i t y z ho
    obtain ⟨hc, rfl⟩ := okv_spec hx
    obtain ⟨i, hi⟩ := isSome_spec hc
    exact sound_st hr ho hi h
  · rename_i y ho; cases hx; exact (sound_nc hr hd ho h).fine trivial
  · rename_i src dst y ho
    cases h1 : isKind P src false && isKind P dst true
    · rw [h1] at hx
      cases h2 : isKind P src true && isKind P dst false
      · rw [h2] at hx
        simp only [cond_false] at hx
        cases h3 : convOp P src dst y with
        | none => simp only [h3] at hx; cases hx; exact (sound_pure hr hd (by rw [ho]; rfl) h).fine trivial
        | some z => simp only [h3] at hx; cases hx; exact (sound_conv hr hd ho h3 h).2.fine trivial
      · rw [h2] at hx; cases hx
        rw [Bool.and_eq_true] at h2
        exact (sound_s2b hr hd ho h2.1 h2.2 h).fine
    · rw [h1] at hx; cases hx
      rw [Bool.and_eq_true] at h1
      exact (sound_b2s hr hd ho h1.1 h1.2 h).fine (Ext.refl _)
  · rename_i f first caps ho
    obtain ⟨hc, rfl⟩ := okv_spec hx
    exact sound_clo hr hd ho hc h
  · rename_i t n c ho
    split at hx
    · rename_i e ht
      split at hx
      · rename_i z plz hz
        obtain ⟨hc, rfl⟩ := okv_spec hx
        rw [Bool.and_eq_true] at hc
        exact (sound_mk hr hd ho ht hz hc.1 hc.2 h).fine
      · cases hx
    · cases hx
  · rename_i t y lo hi mx ho
    split at hx
    · rename_i hu; cases hx; exact (sound_sls hr hd ho hu h).fine trivial
    · rename_i e hu
      obtain ⟨hc, rfl⟩ := okv_spec hx
      obtain ⟨i, hi'⟩ := isSome_spec hc
      exact (sound_sli hr hd ho hu hi' h).fine trivial
    · cases hx
  · rename_i t y f ho
    split at hx
    · rename_i off ft ht
      obtain ⟨hc, rfl⟩ := okv_spec hx
      exact (sound_fa hr hd ho ht hc h).fine trivial
    · cases hx
  · rename_i t y f ho
    split at hx
    · rename_i off ft ht
      split at hx
      · rename_i g hg; cases hx; exact (sound_fld hr hd ho ht hg h).fine trivial
      · cases hx
    · cases hx
  · rename_i t y i ho
    split at hx
    · rename_i e ht
      obtain ⟨hc, rfl⟩ := okv_spec hx
      exact (sound_ia hr hd ho ht hc h).fine trivial
    · cases hx
  · rename_i t y i ho
    split at hx
    · rename_i hu; cases hx; exact (sound_six hr hd ho hu h).fine trivial
    · cases hx
  · rename_i y i ho; cases hx; exact (sound_ext hr hd ho h).fine trivial
  · rename_i args ts ho
    split at hx
    · rename_i y t hargs hts
      split at hx
      · rename_i e ht; cases hx; exact (sound_len hr hd ho hargs hts ht h).fine trivial
      · cases h3 : lenOp P t y with
        | none => simp only [h3] at hx; cases hx; exact (sound_pure hr hd (by rw [ho]; rfl) h).fine trivial
        | some z => simp only [h3] at hx; cases hx; exact (sound_slen hr hd ho hargs hts h3 h).2.fine trivial
    · cases hx
  · rename_i args ts ho
    split at hx
    · rename_i y z t u hargs hts
      split at hx
      · rename_i e e' ht hu
        obtain ⟨hc, rfl⟩ := okv_spec hx
        rw [Bool.and_eq_true] at hc
        exact sound_app hr hd ho hargs hts ht hu hc.1 hc.2 h
      · rename_i e k ht hu
        split at hx
        · rename_i zz plz hzz
          obtain ⟨hc, rfl⟩ := okv_spec hx
          simp only [Bool.and_eq_true] at hc
          exact sound_appz hr hd ho hargs hts ht hu hc.1.1 hzz hc.1.2 hc.2 h
        · cases hx
      · rename_i e ht hu
        obtain ⟨hc, rfl⟩ := okv_spec hx
        rw [Bool.and_eq_true] at hc
        exact sound_apps hr hd ho hargs hts ht hu hc.1 hc.2 h
      · cases hx
    · cases hx
  · rename_i f args ts ho; cases hx; exact (sound_call hr hd ho h).fine
  · rename_i y args ts ho hne; cases hx; exact (sound_calv hr hd hne h).fine
  · rename_i b args ts h1 h2 ho
    cases hm : mmOp b args.toList with
    | some y => simp only [hm] at hx; cases hx; exact (sound_mm hr hd ho hm h).fine trivial
    | none =>
      simp only [hm] at hx
      cases hb : bltOp P b args.toList ts.toList with
      | some y => simp only [hb] at hx; cases hx; exact sound_blt hr hd ho hb h
      | none => simp only [hb] at hx; cases hx; exact (sound_pure hr hd (by rw [ho]; rfl) h).fine trivial
  · rename_i b t y z u ho
    cases hn : nilCmp P b t z with
    | some neg => simp only [hn] at hx; cases hx; exact (sound_isn hr hd ho hn h).fine trivial
    | none =>
    simp only [hn] at hx
    cases h3 : eqaOp P b t y z with
    | some q => simp only [h3] at hx; cases hx; exact (sound_eqa hr hd ho h3 h).2.fine trivial
    | none =>
    simp only [h3] at hx
    cases h4 : beqOp P b t y z with
    | some q => simp only [h4] at hx; cases hx; exact (sound_beq hr hd ho h4 h).2.fine trivial
    | none =>
    simp only [h4] at hx
    cases h1 : plainBin b && isBasic P t
    · rw [h1] at hx; cases hx; exact (sound_pure hr hd (by rw [ho]; rfl) h).fine trivial
    · rw [h1] at hx; cases hx; exact (sound_bin hr hd ho h).fine trivial
  · rename_i u t y ho
    cases h4 : unOp' P u t y with
    | some q => simp only [h4] at hx; cases hx; exact (sound_un hr hd ho h4 h).2.fine trivial
    | none => simp only [h4] at hx; cases hx; exact (sound_pure hr hd (by rw [ho]; rfl) h).fine trivial
  · cases hx
  · cases hx; exact h.elim
theorem addAll_spec {pl : List (Nat × Pl)} : ∀ (l U : List Nat), (U.Nodup ∧ ∀ p ∈ U, ∃ x, aget pl p = some x ∧ x.live = true) → (addAll pl U l).Nodup ∧ ∀ p ∈ addAll pl U l, ∃ x, aget pl p = some x ∧ x.live = true
  | [], U, h => h
  | p :: r, U, h => by
    have step : ∀ x, aget pl p = some x → x.live = true → (bif isin p U then addAll pl U r else addAll pl (U ++ [p]) r).Nodup ∧ ∀ q ∈ (bif isin p U then addAll pl U r else addAll pl (U ++ [p]) r), ∃ x, aget pl q = some x ∧ x.live = true := fun x hx hl => by
      cases hi : isin p U
      · have hn : p ∉ U := fun h => by rw [(isin_iff p U).2 h] at hi; cases hi
        refine addAll_spec r (U ++ [p]) ⟨?_, fun q hq => ?_⟩
        · rw [List.nodup_append]
          exact ⟨h.1, by simp, fun a ha b hb => by simp at hb; subst hb; exact fun e => hn (e ▸ ha)⟩
        · rcases List.mem_append.1 hq with hq | hq
          · exact h.2 q hq
          · simp at hq; subst hq; exact ⟨x, hx, hl⟩
      · exact addAll_spec r U h
    unfold addAll
    split
    · rename_i cs hp; exact step _ hp rfl
    · rename_i z els hp; exact step _ hp rfl
    · exact addAll_spec r U h

theorem reach_spec {pl : List (Nat × Pl)} : ∀ (n i : Nat) (U : List Nat), (U.Nodup ∧ ∀ p ∈ U, ∃ x, aget pl p = some x ∧ x.live = true) → (reach pl n i U).Nodup ∧ ∀ p ∈ reach pl n i U, ∃ x, aget pl p = some x ∧ x.live = true
  | 0, _, U, h => h
  | n + 1, i, U, h => by
    unfold reach
    split
    · split
      · exact reach_spec n (i + 1) _ (addAll_spec _ U h)
      · exact reach_spec n (i + 1) U h
    · exact h

theorem idx_spec : ∀ {U : List Nat} {p k : Nat}, idx p U = some k → U[k]? = some p
  | [], p, k, h => by simp [idx] at h
  | q :: r, p, k, h => by
    unfold idx at h
    by_cases e : q = p
    · subst e; rw [beq_self] at h; cases h; rfl
    · rw [beq_false e] at h
      simp only [cond_false] at h
      split at h
      · rename_i i hi; cases h; simpa using idx_spec hi
      · cases h
theorem idx_nodup : ∀ {U : List Nat} {p k : Nat}, U.Nodup → U[k]? = some p → idx p U = some k
  | [], p, k, _, h => by simp at h
  | q :: r, p, 0, hn, h => by simp at h; subst h; simp [idx]
  | q :: r, p, k + 1, hn, h => by
    rw [List.nodup_cons] at hn
    have hr : r[k]? = some p := by simpa using h
    have hne : q ≠ p := fun e => by subst e; exact hn.1 (List.mem_of_getElem? hr)
    unfold idx
    rw [beq_false hne, idx_nodup hn.2 hr]
    rfl

/-- What is packed reads as before. -/
theorem CR_pk (hr : Rel F N ι s a w) {ok' : Nat → Prop} (hk : Keeps w w (F.ok ι s.pl w) ok') {U : List Nat} {ι' : Nat → Gh} (hι : ∀ k p, U[k]? = some p → ι' k = ι p) {c : C} {v : Value} (hc : CR ι w (F.ok ι s.pl w) c v) : CR ι' w ok' (c.pk s.pl U) v := by
  cases c with
  | d x => exact RD.keep hk _ _ hc
  | nil => exact hc
  | fp l => exact CR.keep (ι := ι') hk (Shapes.refl w) (.fp l) v hc
  | clo f caps => cases caps with
    | nil =>
      obtain ⟨bs, h1, h2⟩ := hc
      have hbs : bs = [] := by simpa using h1.symm
      subst hbs
      simp only [C.pk, CR, RD, RDf]
      exact ⟨[], h2, rfl⟩
    | cons _ _ => trivial
  | dead => trivial
  | sub _ _ _ _ => trivial
  | eptr p z i k => trivial
  | ptr p o =>
    simp only [C.pk]
    split
    · split
      · rename_i k hk'
        simp only [CR, hι k p (idx_spec hk')]
        exact hc
      · trivial
    · rename_i ds hp
      obtain ⟨b, e1, e2⟩ := hc
      obtain ⟨b', e3, e4, e5⟩ := hr.places p _ hp
      rw [e1] at e3; cases e3
      have e5 := RDc.drop o e5
      rw [Nat.zero_add] at e5
      exact ⟨b, o, e2, (hk b e4).1, RDc.keep hk b e4 _ _ e5⟩
    · trivial
  | own p sz n =>
    simp only [C.pk]
    split
    · split
      · rename_i k hk'
        simp only [CR, hι k p (idx_spec hk')]
        exact hc
      · trivial
    · rename_i z els hp
      obtain ⟨hn, ⟨h1, h2, h3, h4⟩ | ⟨b, cap, t, h1, h2, h3, h4, h5, h6⟩⟩ := own_data' hr hp hc
      · subst h1; subst h2; subst h4
        simp only [CR, RD]
        exact ⟨none, 0, 0, rfl, rfl, Nat.le_refl _, Nat.zero_le _, .inl (by simp)⟩
      · have hpr := hr.places p _ hp
        obtain ⟨_, _, hf | ⟨b', e1, e2, e3, e4⟩⟩ := hpr
        · rw [h1] at hf; cases hf.1
        · rw [h1] at e1; cases e1
          have : RD w (F.ok ι s.pl w) (.sl (els.take n)) v := by
            subst h2
            simp only [RD]
            exact ⟨_, _, _, rfl, by simp; omega, h3, h4, .inr ⟨b, 0, z, rfl, e3 rfl, RDs.take n e2⟩⟩
          exact CR.keep (ι := ι') hk (Shapes.refl w) (.d (.sl (els.take n))) v this
    · trivial
theorem CRs_pk (hr : Rel F N ι s a w) {ok' : Nat → Prop} (hk : Keeps w w (F.ok ι s.pl w) ok') {U : List Nat} {ι' : Nat → Gh} (hι : ∀ k p, U[k]? = some p → ι' k = ι p) : ∀ {cs : List C} {vs : List Value}, CRs ι w (F.ok ι s.pl w) cs vs → CRs ι' w ok' (cs.map (C.pk s.pl U)) vs
  | [], [], _ => trivial
  | [], _ :: _, h => h.elim
  | _ :: _, [], h => h.elim
  | _ :: _, _ :: _, h => ⟨CR_pk hr hk hι h.1, CRs_pk hr hk hι h.2⟩
theorem WR_pk (hr : Rel F N ι s a w) {ok' : Nat → Prop} (hk : Keeps w w (F.ok ι s.pl w) ok') {U : List Nat} {ι' : Nat → Gh} (hι : ∀ k p, U[k]? = some p → ι' k = ι p) {x : W} {v : Value} (h : WR ι w (F.ok ι s.pl w) x v) : WR ι' w ok' (x.pk s.pl U) v := by
  cases x with
  | c x => exact CR_pk hr hk hι h
  | agg cs => obtain ⟨vs, h1, h2⟩ := h; exact ⟨vs, h1, CRs_pk hr hk hι h2⟩
theorem WRs_pk (hr : Rel F N ι s a w) {ok' : Nat → Prop} (hk : Keeps w w (F.ok ι s.pl w) ok') {U : List Nat} {ι' : Nat → Gh} (hι : ∀ k p, U[k]? = some p → ι' k = ι p) : ∀ {cs : List W} {vs : List Value}, WRs ι w (F.ok ι s.pl w) cs vs → WRs ι' w ok' (cs.map (W.pk s.pl U)) vs
  | [], [], _ => trivial
  | [], _ :: _, h => h.elim
  | _ :: _, [], h => h.elim
  | _ :: _, _ :: _, h => ⟨WR_pk hr hk hι h.1, WRs_pk hr hk hι h.2⟩
theorem VR_pk (hr : Rel F N ι s a w) {ok' : Nat → Prop} (hk : Keeps w w (F.ok ι s.pl w) ok') {U : List Nat} {ι' : Nat → Gh} (hι : ∀ k p, U[k]? = some p → ι' k = ι p) {x : V} {v : Value} (h : VR ι w (F.ok ι s.pl w) x v) : VR ι' w ok' (x.pk s.pl U) v := by
  cases x with
  | w x => exact WR_pk hr hk hι h
  | tup cs => obtain ⟨vs, h1, h2⟩ := h; exact ⟨vs, h1, WRs_pk hr hk hι h2⟩

theorem pkPls_get (pl : List (Nat × Pl)) (U : List Nat) : ∀ (l : List Nat) (k i : Nat), (pkPls pl U k l)[i]? = (l[i]?).map fun p => pkPl pl U (k + i) p
  | [], k, i => by simp [pkPls]
  | p :: r, k, 0 => by simp [pkPls]
  | p :: r, k, i + 1 => by
    simp only [pkPls, List.getElem?_cons_succ, pkPls_get pl U r (k + 1) i]
    rw [show k + 1 + i = k + (i + 1) by omega]
theorem pkPls_len (pl : List (Nat × Pl)) (U : List Nat) : ∀ (l : List Nat) (k : Nat), (pkPls pl U k l).length = l.length
  | [], _ => rfl
  | _ :: r, k => by simp [pkPls, pkPls_len pl U r (k + 1)]

/-- The i-th packed place, unless it is gone: it is the frame's own. -/
theorem pkPl_spec (hr : Rel F N ι s a w) {ok' : Nat → Prop} (hk : Keeps w w (F.ok ι s.pl w) ok') {U : List Nat} {ι' : Nat → Gh} (hι : ∀ k p, U[k]? = some p → ι' k = ι p) {k p : Nat} (hp : U[k]? = some p) (hg : (pkPl s.pl U k p).isGone = false) :
    idx p U = some k ∧ (∃ x, aget s.pl p = some x ∧ x.live = true) ∧ PR ι' w ok' k (pkPl s.pl U k p) ∧ (pkPl s.pl U k p).live = true := by
  unfold pkPl at hg ⊢
  split at hg
  case h_2 => cases hg
  rename_i i hi
  cases hb : Nat.beq i k
  · rw [hb] at hg; cases hg
  · have hik := Nat.eq_of_beq_eq_true hb
    subst hik
    rw [hb] at hg
    simp only [cond_true] at hg
    split at hg
    · rename_i cs hcs
      refine ⟨hi, ⟨_, hcs, rfl⟩, ?_⟩
      obtain ⟨b, cur, e1, e2, e3⟩ := hr.places p _ hcs
      exact ⟨⟨b, cur, by rw [hι i p hp]; exact e1, e2, CRs_pk hr hk hι e3⟩, rfl⟩
    · rename_i z els hcs
      refine ⟨hi, ⟨_, hcs, rfl⟩, ?_⟩
      refine ⟨?_, rfl⟩
      obtain ⟨h0, hn, hf | ⟨b, e1, e2, e3, e4⟩⟩ := hr.places p _ hcs
      · exact ⟨h0, by rw [hι i p hp]; exact hn, .inl (by rw [hι i p hp]; exact hf)⟩
      · exact ⟨h0, by rw [hι i p hp]; exact hn, .inr ⟨b, by rw [hι i p hp]; exact e1, RDs.keep' hk b z els 0 (fun _ _ _ => rfl) e2, fun hf => (hk b (e3 hf)).1, e4⟩⟩
    · cases hg

theorem nbase_ge (dst : Option Nat) (U : List Nat) : 600000 ≤ nbase dst U := by
  unfold nbase
  cases dst with
  | some d => simp only [base]; omega
  | none => cases U with
    | nil => simp only []; omega
    | cons p r => simp only []; omega

theorem sound_callh (hr : Rel F N ι s a w) (hd : ∀ k, o.dst = some k → k < N) {f : FuncId} {args : Array Operand} {ts : Array TypeId} (ho : o.op = .call { callee := .value (.func f), args := args, argTypes := ts })
    (h : aop P o.dst (.callh f (args.toList.map cO)) s K) : Fine P F N o a w K := by
  simp only [aop, aCallH] at h
  let U := reached s.pl [] (refsWs ((args.toList.map cO).map s.ow))
  have hU : U.Nodup ∧ ∀ p ∈ U, ∃ x, aget s.pl p = some x ∧ x.live = true := reach_spec 40 0 _ (addAll_spec _ [] ⟨List.nodup_nil, fun _ h => by cases h⟩)
  let ι0 : Nat → Gh := fun i => ι (U.getD i 0)
  have hι0 : ∀ k p, U[k]? = some p → ι0 k = ι p := fun k p hp => by simp only [ι0, List.getD, hp, Option.getD_some]
  have hkk : Keeps w w (F.ok ι s.pl w) (F.ok ι s.pl w) := fun b hb => ⟨hb, rfl⟩
  obtain ⟨hc, h⟩ := h
  have hws := WRs_pk hr hkk hι0 (WRs_o hr args.toList)
  have hget : ∀ i x, (pkPls s.pl U 0 U)[i]? = some x → ∃ p, U[i]? = some p ∧ x = pkPl s.pl U i p ∧ x.isGone = false := fun i x hx => by
    rw [pkPls_get, Nat.zero_add] at hx
    cases hp : U[i]? with
    | none => rw [hp] at hx; cases hx
    | some p =>
      rw [hp] at hx; simp at hx
      refine ⟨p, rfl, hx.symm, ?_⟩
      subst hx
      obtain ⟨y, e1, e2⟩ := hU.2 p (List.mem_of_getElem? hp)
      have hi := idx_nodup hU.1 hp
      unfold pkPl
      simp only [hi, beq_self, cond_true, e1]
      cases y with
      | box cs => rfl
      | arr z els fz => cases fz <;> first | rfl | cases e2
      | fbox ds => cases e2
      | gone => cases e2
  have hM : ∀ b, Handed ι0 (pkPls s.pl U 0 U) b ↔ ∃ p ∈ U, (ι p).b = some b := fun b => by
    constructor
    · rintro ⟨i, x, h1, h2⟩
      obtain ⟨p, e1, _, _⟩ := hget i x h1
      rw [hι0 i p e1] at h2
      exact ⟨p, List.mem_of_getElem? e1, h2⟩
    · rintro ⟨p, hp, e⟩
      obtain ⟨i, hi, hpi⟩ := List.getElem_of_mem hp
      have hUi : U[i]? = some p := by rw [List.getElem?_eq_getElem hi, hpi]
      exact ⟨i, pkPl s.pl U i p, by rw [pkPls_get, hUi, Nat.zero_add]; rfl, by rw [hι0 i p hUi]; exact e⟩
  have howns : ∀ b, Handed ι0 (pkPls s.pl U 0 U) b → Owns ι s.pl b := fun b hb => by
    obtain ⟨p, hp, e⟩ := (hM b).1 hb
    obtain ⟨x, e1, e2⟩ := hU.2 p hp
    exact ⟨p, x, e1, e2, e⟩
  have hcall := h w (F.ok ι s.pl w) ι0 (args.toList.map a.eval) (fun b hb => ⟨hb.2.1, fun hh => hb.2.2 (howns b hh)⟩) ⟨fun b hb => (hr.mine b (howns b hb)).2, hr.glb⟩
    (fun i x hx => by
      obtain ⟨p, e1, e2, e3⟩ := hget i x hx
      subst e2
      obtain ⟨_, _, g1, g2⟩ := pkPl_spec hr hkk hι0 e1 e3
      exact ⟨g1, g2⟩)
    (fun i j x y b hx hy hij hb hj => by
      obtain ⟨p, e1, _, _⟩ := hget i x hx
      obtain ⟨q, e2, _, _⟩ := hget j y hy
      rw [hι0 i p e1] at hb
      rw [hι0 j q e2] at hj
      obtain ⟨x', e3, e4⟩ := hU.2 p (List.mem_of_getElem? e1)
      obtain ⟨y', e5, e6⟩ := hU.2 q (List.mem_of_getElem? e2)
      refine hr.inj p q x' y' b e3 e5 (fun e => hij ?_) e4 hb hj
      subst e
      obtain ⟨k1, k2⟩ := List.getElem?_eq_some_iff.1 e1
      obtain ⟨l1, l2⟩ := List.getElem?_eq_some_iff.1 e2
      exact (List.getElem_inj hU.1).1 (k2.trans l2.symm))
    hws
  intro next Q hn
  unfold Oper.wp
  have hrun : (execOp a.eval o).run P w = .ok (.enter f (args.toList.map a.eval).toArray) w := by
    simp only [execOp, ho, resolve, Deferred.ofValue, Act.eval, Sem.run_bind, Sem.run_pure, Result.andThen_ok, invoke]
    rw [run_callFunc hc, arr_map]
    simp
  rw [hrun, Oper.upon_enter]
  refine hcall.mono ?_
  rintro e w' ⟨v, r, rfl, hk, hres, hg⟩
  cases hokn : okNames U (nbase o.dst U) r
  · have hk : cond (okNames U (nbase o.dst U) r) (K (recvN s U (nbase o.dst U) o.dst r)) False := hk
    rw [hokn] at hk; exact hk.elim
  · have hk : cond (okNames U (nbase o.dst U) r) (K (recvN s U (nbase o.dst U) o.dst r)) False := hk
    rw [hokn] at hk
    have hnb : ∀ i, F.h (nbase o.dst U + i) = none := fun i => hr.h_big (Nat.le_trans (nbase_ge o.dst U) (Nat.le_add_right _ _))
    rw [pkPls_len] at hres
    obtain ⟨ι', hrel⟩ := recvN_sound hr hd hU.2 hnb hM (h0 := fun _ => none) hres hg hokn
    exact hn ι' _ _ _ hrel hk

/-- An operation that may be marked. -/
def Cop (P : Program) (o : Oper) (x : AOp) : Prop := ∃ b, cOpM P b o.op o.type = some x

theorem cop_sound (hr : Rel F N ι s a w) (hd : ∀ k, o.dst = some k → k < N) {x : AOp} (hx : Cop P o x) (h : aop P o.dst x s K) : Fine P F N o a w K := by
  obtain ⟨b, h1⟩ := hx
  cases b
  · exact aop_sound hr hd h1 h
  · simp only [cOpM, cond_true] at h1
    unfold cOpH at h1
    split at h1
    · rename_i f first caps ho
      obtain ⟨hc, rfl⟩ := okv_spec h1
      exact sound_clof hr hd ho hc h
    · rename_i f args ts ho
      cases h1
      exact sound_callh hr hd ho h
    · rename_i t x lo hi ho
      split at h1
      · rename_i e hu
        obtain ⟨hc, rfl⟩ := okv_spec h1
        obtain ⟨i, hi'⟩ := isSome_spec hc
        exact (sound_slw hr hd ho hu hi' h).fine trivial
      · exact aop_sound hr hd h1 h
    · exact aop_sound hr hd h1 h
end

end Go.AM

namespace Go.AM

theorem Act.put_same {a : Act} {d : Nat} {x : Value} (h : a.tmps[d]? = some x) : a.put (some d) x = a := by
  cases a with
  | mk tmps defers =>
    simp only [Act.put] at h ⊢
    congr 1
    apply Array.ext_getElem?
    intro i
    rw [Array.getElem?_setIfInBounds]
    split
    · rename_i hi
      subst hi
      split
      · exact h.symm
      · rename_i hlt
        rw [Array.getElem?_eq_none (by omega)]
    · rfl

section
variable {P : Program} {F : Fr} {N : Nat} {ι : Nat → Gh} {s : S} {a : Act} {w : World} {K : S → Prop}

theorem Rel.drop (hr : Rel F N ι s a w) (l : List Nat) : Rel F N ι (s.drop l) a w :=
  hr.sub _ (fun _ _ h => (aget_afilter _ _ _ _ h).1) (fun _ _ h => h)
theorem Rel.norm (hr : Rel F N ι s a w) (keep : List Nat) : Rel F N ι (s.norm keep) a w :=
  hr.sub _ (fun _ _ h => (aget_afilter _ _ _ _ h).1) (fun _ _ h => (aget_afilter _ _ _ _ h).1)

theorem Rel.look (hr : Rel F N ι s a w) {d : Nat} {v : V} (h : s.tmp d = v) (hv : v ≠ deadV) : ∃ x, a.tmps[d]? = some x ∧ VR ι w (F.ok ι s.pl w) v x := by
  unfold S.tmp at h
  split at h
  · rename_i v' hv'
    subst h
    exact hr.slots d _ hv'
  · exact absurd h.symm hv

theorem bool_look (hr : Rel F N ι s a w) {d : Nat} {b : Bool} (h : s.tmp d = boolV b) : a.tmps[d]? = some (.bool b) := by
  obtain ⟨x, h1, h2⟩ := hr.look h (by intro h; cases h)
  rw [h1]
  exact congrArg some h2.1

theorem litBool_lit {v : V} {b : Bool} (h : litBool v = some b) : v = boolV b := by
  unfold litBool at h
  split at h
  · cases h; rfl
  · cases h

theorem split_sound (hr : Rel F N ι s a w) {dst : Option Nat} (hd : ∀ k, dst = some k → k < N) {isG : Bool} (h : split isG dst s K) : ∃ s', Rel F N ι s' a w ∧ K s' := by
  unfold split at h
  cases isG with
  | false => exact ⟨s, hr, h⟩
  | true =>
    simp only [cond_true] at h
    cases dst with
    | none => exact ⟨s, hr, h⟩
    | some d =>
      simp only at h
      cases hb : litBool (s.tmp d) with
      | none => rw [hb] at h; exact ⟨s, hr, h⟩
      | some b =>
        rw [hb] at h
        have hb := litBool_lit hb
        have hx := bool_look hr hb
        have hp := hr.put (some d) hd (boolV b) (.bool b) ⟨rfl, rfl⟩
        rw [Act.put_same hx] at hp
        cases b
        · exact ⟨_, hp, h⟩
        · exact ⟨_, hp, h⟩

/-- One operation of a region, its guard looked at. -/
theorem dst_ok {o : Oper} (h : dstOk N o.dst = true) : ∀ k, o.dst = some k → k < N := by
  intro k hk
  rw [hk] at h
  exact Nat.le_of_ble_eq_true h

theorem yielded_at {ops : Array Oper} {j d : Nat} (h : dstAt ops.toList j = some d) (tmps : Array Value) : yielded ops tmps j = match tmps[d]? with | some (.bool b) => some b | _ => none := by
  unfold dstAt at h
  unfold yielded
  cases ho : ops.toList[j]? with
  | none => rw [ho] at h; cases h
  | some o =>
    rw [ho] at h
    have : ops[j]? = some o := by rw [← Array.getElem?_toList]; exact ho
    simp only at h
    simp only [this, h, Option.bind_some]
    cases tmps[d]? with
    | none => rfl
    | some v => cases v <;> rfl

/-- The three ways on: carried out, or passed by. -/
theorem step_sound (hr : Rel F N ι s a w) {ops : Array Oper} {o : Oper} {x : AOp} {g : Option (Nat × Bool)} (hg : cGuard ops.toList o.guard = some g)
    {isG : Bool} {drop : List Nat} {rest : List AI} (h : awpOps P (.mk o.dst g isG x drop :: rest) s K) :
    (Region.wanted o (yielded ops a.tmps) = true ∧ aop P o.dst x s fun s1 => split isG o.dst s1 fun s2 => awpOps P rest (s2.drop drop) K) ∨
    (Region.wanted o (yielded ops a.tmps) = false ∧ awpOps P rest ((s.put o.dst undefV).drop drop) K) := by
  cases hog : o.guard with
  | none =>
    rw [hog] at hg
    simp only [cGuard, Option.some.injEq] at hg
    subst hg
    simp only [awpOps, force_eq] at h
    exact .inl ⟨by simp [Region.wanted, hog], h⟩
  | some jw =>
    obtain ⟨j, want⟩ := jw
    rw [hog] at hg
    simp only [cGuard] at hg
    cases hda : dstAt ops.toList j with
    | none => rw [hda] at hg; cases hg
    | some d =>
      rw [hda] at hg
      simp only [Option.some.injEq] at hg
      subst hg
      have hy := yielded_at hda a.tmps
      simp only [awpOps] at h
      split at h
      · rename_i b hb
        have hb' := bool_look hr hb
        rw [hb'] at hy
        simp only at hy
        cases b <;> cases want <;> simp only [Bool.not_true, Bool.not_false, cond_true, cond_false, force_eq] at h <;>
          first
            | exact .inl ⟨by simp [Region.wanted, hog, hy], h⟩
            | exact .inr ⟨by simp [Region.wanted, hog, hy], h⟩
      · rename_i hb
        obtain ⟨v, h1, h2⟩ := hr.look hb (by intro h; cases h)
        obtain ⟨vs, h3, h4⟩ := h2
        rw [h1, h3] at hy
        simp only at hy
        rw [force_eq] at h
        exact .inr ⟨by simp [Region.wanted, hog, hy], h⟩
      · exact h.elim

theorem VR_undef (ι : Nat → Gh) (w : World) (ok : Nat → Prop) : VR ι w ok undefV undef := ⟨[], rfl, trivial⟩

theorem awpOps_sound {ops : Array Oper} {hs gs : List Nat} {Q : Exit → Act → World → Prop} (hQ : ∀ ι s a w, Rel F N ι s a w → K s → Q .normal a w) :
    ∀ (l : List Nat) (xs : List AI), cOps P N hs ops.toList gs l = some (xs.map AI.erase) → ∀ (ι : Nat → Gh) (s : S) (a : Act) (w : World), Rel F N ι s a w → awpOps P xs s K → wpOps P ops Q l a w := by
  intro l
  induction l with
  | nil =>
    intro xs hx ι s a w hr h
    cases xs with
    | nil => exact hQ ι s a w hr h
    | cons x r => simp [cOps] at hx
  | cons i l ih =>
    intro xs hx ι s a w hr h
    simp only [cOps] at hx
    split at hx
    case h_2 => cases hx
    rename_i o ho
    have ho' : ops[i]? = some o := by rw [← Array.getElem?_toList]; exact ho
    cases hd : dstOk N o.dst with
    | false => rw [hd] at hx; cases hx
    | true =>
      rw [hd] at hx
      simp only [cond_true] at hx
      split at hx
      case h_2 => cases hx
      rename_i x g ys hx1 hg hys
      cases xs with
      | nil => simp at hx
      | cons y rest =>
        cases y with
        | mk d1 g1 isG1 op1 drop =>
          simp only [Option.some.injEq, List.map_cons, AI.erase, List.cons.injEq, AI.mk.injEq, and_true] at hx
          obtain ⟨⟨rfl, rfl, rfl, rfl⟩, rfl⟩ := hx
          have hd' := dst_ok hd
          simp only [wpOps, ho']
          rcases step_sound hr hg h with ⟨hw, h1⟩ | ⟨hw, h1⟩
          · rw [if_pos hw]
            refine .inl (cop_sound hr hd' ⟨_, hx1⟩ h1 _ _ fun ι1 s1 a1 w1 hr1 hk => ?_)
            obtain ⟨s2, hr2, hk2⟩ := split_sound hr1 hd' hk
            exact ih rest hys ι1 _ a1 w1 (hr2.drop drop) hk2
          · rw [if_neg (by rw [hw]; simp)]
            exact ih rest hys ι _ _ w ((hr.put o.dst hd' undefV undef (VR_undef _ _ _)).drop drop) h1

theorem upFrom_eq (n : Nat) : ∀ i, upFrom i n = List.range' i n := by
  induction n with
  | zero => intro i; rfl
  | succ n ih => intro i; simp only [upFrom, ih, List.range'_succ]
end

/-- A loop whose rounds are told apart by something that the machine's state need not show. -/
theorem wp_loop_ix {P : Program} {Q : Exit → Act → World → Prop} {a : Act} {w : World} {c : Code} {σ : Type} (I : σ → Act → World → Prop) (μ : σ → Nat) (x₀ : σ) (h₀ : I x₀ a w)
    (round : ∀ x a w, I x a w → c.wp P (Exit.then (fun a' w' => ∃ x', I x' a' w' ∧ μ x' < μ x) Q) a w) : (Code.loop c).wp P Q a w := by
  intro b k cs
  have key : ∀ n x a w, μ x = n → I x a w →
      ∃ e a' w', Q e a' w' ∧ Arrives P (lone (b.at a (.code c :: .inLoop c :: k)) cs w) b k cs e a' w' := by
    intro n
    induction n using Nat.strongRecOn with
    | _ n ih =>
      intro x a w hn hI
      obtain ⟨e, a₁, w₁, hq, harr⟩ := round x a w hI b (.inLoop c :: k) cs
      cases e with
      | normal =>
        obtain ⟨x₁, hI₁, hlt⟩ := hq
        obtain ⟨e₂, a₂, w₂, hq₂, harr₂⟩ := ih (μ x₁) (hn ▸ hlt) x₁ a₁ w₁ rfl hI₁
        exact ⟨e₂, a₂, w₂, hq₂, .of_steps (Steps.trans harr (.one step_inLoop)) harr₂⟩
      | exit id => exact ⟨_, a₁, w₁, hq, .pass (x := .inLoop c) rfl (fun _ _ => .inl (by simp)) harr⟩
      | goto l => exact ⟨_, a₁, w₁, hq, .pass (x := .inLoop c) rfl (fun _ _ => .inl (by simp)) harr⟩
      | ret => exact ⟨_, a₁, w₁, hq, .pass (x := .inLoop c) rfl (fun _ _ => .inl (by simp)) harr⟩
      | panic ch => exact ⟨_, a₁, w₁, hq, .pass (x := .inLoop c) rfl (fun _ _ => .inl (by simp)) harr⟩
      | outgrown => exact ⟨_, a₁, w₁, hq, .pass (x := .inLoop c) rfl (fun _ _ => .inl (by simp)) harr⟩
  obtain ⟨e, a', w', hq, harr⟩ := key _ x₀ a w rfl h₀
  exact ⟨e, a', w', hq, .of_steps (.one step_loop) harr⟩

section
variable {P : Program} {F : Fr} {N : Nat}

def Vis (F : Fr) (N : Nat) (K : S → Prop) (a : Act) (w : World) : Prop := ∃ ι s, Rel F N ι s a w ∧ K s

def up (F : Fr) (N : Nat) (Q : E → S → Prop) : Exit → Act → World → Prop
  | .normal => Vis F N (Q .normal)
  | .exit i => Vis F N (Q (.exit i))
  | .ret => Vis F N (Q .ret)
  | _ => fun _ _ => False
end

end Go.AM

namespace Go.AM

section
variable {P : Program} {F : Fr} {N : Nat} {ι : Nat → Gh} {s : S} {a : Act} {w : World} {o : Oper} {K : S → Prop}

/-- The worlds in which what the operation computes stays the same. -/
def Cw (x : AOp) (w w' : World) : Prop := x.reads = true → Ext w w'

theorem FineQ.weak {C C' : World → Prop} (h : FineQ P F N o a w C K) (hc : ∀ w', C' w' → C w') : FineQ P F N o a w C' K :=
  let ⟨v, ι', s', h1, h2, h3⟩ := h
  ⟨v, ι', s', fun w' hw => h1 w' (hc w' hw), h2, h3⟩

theorem aopQ_sound (hr : Rel F N ι s a w) (hd : ∀ k, o.dst = some k → k < N) {x : AOp} (hx : cOp P o.op o.type = some x) (hq : x.quiet = true) (h : aop P o.dst x s K) : FineQ P F N o a w (Cw x w) K := by
  unfold cOp at hx
  split at hx
  · rename_i y ho; cases hx; exact (sound_mov hr hd (.inl ho) h).weak fun _ _ => trivial
  · rename_i y ho; cases hx; exact (sound_mov hr hd (.inr ho) h).weak fun _ _ => trivial
  · rename_i c y z ho; cases hx; exact (sound_pick hr hd ho h).weak fun _ _ => trivial
  · cases hx; cases hq
  · cases hx; cases hq
  · rename_i t parts ho
    split at hx
    · rename_i fs l hu hl
      obtain ⟨hc, rfl⟩ := okv_spec hx
      rw [Bool.and_eq_true] at hc
      exact (sound_build hr hd ho hu hl hc.1 hc.2 h).weak fun _ _ => trivial
    · cases hx
  · split at hx
    · obtain ⟨_, rfl⟩ := okv_spec hx; cases hq
    · cases hx
  · rename_i t y ho
    split at hx
    · rename_i g ht; cases hx; exact (sound_ld hr hd ho ht h).weak fun _ hc => hc rfl
    · cases hx
  · obtain ⟨_, rfl⟩ := okv_spec hx; cases hq
  · rename_i y ho; cases hx; exact (sound_nc hr hd ho h).weak fun _ _ => trivial
  · rename_i src dst y ho
    cases h1 : isKind P src false && isKind P dst true
    · rw [h1] at hx
      cases h2 : isKind P src true && isKind P dst false
      · rw [h2] at hx
        simp only [cond_false] at hx
        cases h3 : convOp P src dst y with
        | none => simp only [h3] at hx; cases hx; exact (sound_pure hr hd (by rw [ho]; rfl) h).weak fun _ _ => trivial
        | some z => simp only [h3] at hx; cases hx; exact (sound_conv hr hd ho h3 h).2.weak fun _ _ => trivial
      · rw [h2] at hx; cases hx; cases hq
    · rw [h1] at hx; cases hx
      rw [Bool.and_eq_true] at h1
      exact (sound_b2s hr hd ho h1.1 h1.2 h).weak fun _ hc => hc rfl
  · obtain ⟨_, rfl⟩ := okv_spec hx; cases hq
  · split at hx
    · split at hx
      · obtain ⟨_, rfl⟩ := okv_spec hx; cases hq
      · cases hx
    · cases hx
  · rename_i t y lo hi mx ho
    split at hx
    · rename_i hu; cases hx; exact (sound_sls hr hd ho hu h).weak fun _ _ => trivial
    · rename_i e hu
      obtain ⟨hc, rfl⟩ := okv_spec hx
      obtain ⟨i, hi'⟩ := isSome_spec hc
      exact (sound_sli hr hd ho hu hi' h).weak fun _ _ => trivial
    · cases hx
  · rename_i t y f ho
    split at hx
    · rename_i off ft ht
      obtain ⟨hc, rfl⟩ := okv_spec hx
      exact (sound_fa hr hd ho ht hc h).weak fun _ _ => trivial
    · cases hx
  · rename_i t y f ho
    split at hx
    · rename_i off ft ht
      split at hx
      · rename_i g hg; cases hx; exact (sound_fld hr hd ho ht hg h).weak fun _ _ => trivial
      · cases hx
    · cases hx
  · rename_i t y i ho
    split at hx
    · rename_i e ht
      obtain ⟨hc, rfl⟩ := okv_spec hx
      exact (sound_ia hr hd ho ht hc h).weak fun _ _ => trivial
    · cases hx
  · rename_i t y i ho
    split at hx
    · rename_i hu; cases hx; exact (sound_six hr hd ho hu h).weak fun _ _ => trivial
    · cases hx
  · rename_i y i ho; cases hx; exact (sound_ext hr hd ho h).weak fun _ _ => trivial
  · rename_i args ts ho
    split at hx
    · rename_i y t hargs hts
      split at hx
      · rename_i e ht; cases hx; exact (sound_len hr hd ho hargs hts ht h).weak fun _ _ => trivial
      · cases h3 : lenOp P t y with
        | none => simp only [h3] at hx; cases hx; exact (sound_pure hr hd (by rw [ho]; rfl) h).weak fun _ _ => trivial
        | some z => simp only [h3] at hx; cases hx; exact (sound_slen hr hd ho hargs hts h3 h).2.weak fun _ _ => trivial
    · cases hx
  · split at hx
    · split at hx
      · obtain ⟨_, rfl⟩ := okv_spec hx; cases hq
      · split at hx
        · obtain ⟨_, rfl⟩ := okv_spec hx; cases hq
        · cases hx
      · obtain ⟨_, rfl⟩ := okv_spec hx; cases hq
      · cases hx
    · cases hx
  · cases hx; cases hq
  · cases hx; cases hq
  · rename_i b args ts h1 h2 ho
    cases hm : mmOp b args.toList with
    | some y => simp only [hm] at hx; cases hx; exact (sound_mm hr hd ho hm h).weak fun _ _ => trivial
    | none =>
      simp only [hm] at hx
      cases hb : bltOp P b args.toList ts.toList with
      | some y => simp only [hb] at hx; cases hx; rw [(bltOp_is hb).1] at hq; cases hq
      | none => simp only [hb] at hx; cases hx; exact (sound_pure hr hd (by rw [ho]; rfl) h).weak fun _ _ => trivial
  · rename_i b t y z u ho
    cases hn : nilCmp P b t z with
    | some neg => simp only [hn] at hx; cases hx; exact (sound_isn hr hd ho hn h).weak fun _ _ => trivial
    | none =>
    simp only [hn] at hx
    cases h3 : eqaOp P b t y z with
    | some q => simp only [h3] at hx; cases hx; exact (sound_eqa hr hd ho h3 h).2.weak fun _ _ => trivial
    | none =>
    simp only [h3] at hx
    cases h4 : beqOp P b t y z with
    | some q => simp only [h4] at hx; cases hx; exact (sound_beq hr hd ho h4 h).2.weak fun _ _ => trivial
    | none =>
    simp only [h4] at hx
    cases h1 : plainBin b && isBasic P t
    · rw [h1] at hx; cases hx; exact (sound_pure hr hd (by rw [ho]; rfl) h).weak fun _ _ => trivial
    · rw [h1] at hx; cases hx; exact (sound_bin hr hd ho h).weak fun _ _ => trivial
  · rename_i u t y ho
    cases h4 : unOp' P u t y with
    | some q => simp only [h4] at hx; cases hx; exact (sound_un hr hd ho h4 h).2.weak fun _ _ => trivial
    | none => simp only [h4] at hx; cases hx; exact (sound_pure hr hd (by rw [ho]; rfl) h).weak fun _ _ => trivial
  · cases hx
  · cases hx; cases hq

theorem beqOp_is {b : BinOp} {t : TypeId} {x y : Operand} {z : AOp} (h : beqOp P b t x y = some z) : isCall z = false := by
  unfold beqOp at h
  (repeat' split at h) <;> cases h <;> rfl
theorem unOp_is {b : UnOp} {t : TypeId} {x : Operand} {z : AOp} (h : unOp' P b t x = some z) : isCall z = false := by
  unfold unOp' at h
  (repeat' split at h) <;> cases h <;> rfl
theorem convOp_is {s t : TypeId} {x : Operand} {z : AOp} (h : convOp P s t x = some z) : isCall z = false := by
  unfold convOp at h
  (repeat' split at h) <;> cases h <;> rfl
theorem lenOp_is {t : TypeId} {x : Operand} {z : AOp} (h : lenOp P t x = some z) : isCall z = false := by
  unfold lenOp at h
  (repeat' split at h) <;> cases h <;> rfl
theorem eqaOp_is {b : BinOp} {t : TypeId} {x y : Operand} {z : AOp} (h : eqaOp P b t x y = some z) : isCall z = false := by
  unfold eqaOp at h
  (repeat' split at h) <;> cases h <;> rfl
theorem bif_or {α : Type} {c : Bool} {p q r : α} (h : (bif c then p else q) = r) : p = r ∨ q = r := by
  cases c
  · exact .inr h
  · exact .inl h

/-- A call leaves what was there as it was. -/
theorem aopX_sound (hr : Rel F N ι s a w) (hd : ∀ k, o.dst = some k → k < N) {x : AOp} (hx : cOp P o.op o.type = some x) (hq : isCall x = true) (h : aop P o.dst x s K) : FineX P F N o a w K := by
  unfold cOp at hx
  split at hx
  case h_22 => rename_i f args ts ho; cases hx; exact sound_call hr hd ho h
  case h_23 => rename_i y args ts ho hne; cases hx; exact sound_calv hr hd hne h
  case h_24 =>
    rename_i b args ts h1 h2 ho
    cases hm : mmOp b args.toList with
    | some y =>
      simp only [hm] at hx
      cases hx
      obtain ⟨x1, y1, _, ⟨_, rfl⟩ | ⟨_, rfl⟩⟩ := mmOp_spec hm <;> cases hq
    | none =>
      simp only [hm] at hx
      cases hb : bltOp P b args.toList ts.toList with
      | some y => simp only [hb] at hx; cases hx; rw [(bltOp_is hb).2.1] at hq; cases hq
      | none => simp only [hb] at hx; cases hx; cases hq
  case h_5 => rename_i t y ho; cases hx; exact sound_bx hr hd ho h
  case h_7 =>
    rename_i t n parts ho
    split at hx
    · rename_i e ht
      obtain ⟨hc, rfl⟩ := okv_spec hx
      simp only [Bool.and_eq_true] at hc
      exact sound_lits hr hd ho ht hc.1.1.1.1 hc.1.1.1.2 hc.1.1.2 hc.1.2 hc.2 h
    · cases hx
  case h_13 =>
    rename_i t n c ho
    split at hx
    · rename_i e ht
      split at hx
      · rename_i z plz hz
        obtain ⟨hc, rfl⟩ := okv_spec hx
        rw [Bool.and_eq_true] at hc
        exact sound_mk hr hd ho ht hz hc.1 hc.2 h
      · cases hx
    · cases hx
  case h_11 =>
    rename_i src dst y ho
    rcases bif_or hx with h1 | h1
    · cases h1; cases hq
    · cases h2 : isKind P src true && isKind P dst false
      case true =>
        rw [h2] at h1; cases h1
        rw [Bool.and_eq_true] at h2
        exact sound_s2b hr hd ho h2.1 h2.2 h
      case false =>
        rw [h2] at h1
        simp only [cond_false] at h1
        split at h1
        · rename_i z h3; cases h1; rw [convOp_is h3] at hq; cases hq
        · cases h1; cases hq
  case h_20 =>
    (repeat' split at hx)
    · cases hx; cases hq
    · rename_i h3; cases hx; rw [lenOp_is h3] at hq; cases hq
    · cases hx; cases hq
    · cases hx
  case h_25 =>
    (repeat' split at hx)
    · cases hx; cases hq
    · rename_i h3; cases hx; rw [eqaOp_is h3] at hq; cases hq
    · rename_i h3; cases hx; rw [beqOp_is h3] at hq; cases hq
    · rcases bif_or hx with h1 | h1 <;> (cases h1; cases hq)
  case h_26 =>
    (repeat' split at hx)
    · rename_i h3; cases hx; rw [unOp_is h3] at hq; cases hq
    · cases hx; cases hq
  all_goals first
    | (cases hx; done)
    | (rcases bif_or hx with h1 | h1 <;> (cases h1; cases hq); done)
    | (split at hx <;> first | (cases hx; cases hq; done) | (rcases bif_or hx with h1 | h1 <;> (cases h1; cases hq); done))
    | (cases hx; cases hq; done)
    | (obtain ⟨_, rfl⟩ := okv_spec hx; cases hq; done)
    | (exfalso; repeat' split at hx) <;> first | (cases hx; done) | (cases hx; cases hq; done) | (obtain ⟨_, rfl⟩ := okv_spec hx; cases hq; done) | skip
end

end Go.AM

namespace Go.AM

section
variable {P : Program} {hs : List Nat} {ops : Array Oper} {Q : Exit → Act → World → Prop}

/-! Whatever order is picked; the operations that are not of class 0 leave what was there as it was. -/
def wpAnyX (P : Program) (hs : List Nat) (ops : Array Oper) (Q : Exit → Act → World → Prop) : Nat → Array Bool → Act → World → Prop
  | 0, listed, a, w => Region.ready .any ops listed = [] ∧ Q .normal a w
  | fuel + 1, listed, a, w => (Region.ready .any ops listed = [] → Q .normal a w) ∧
    ∀ i ∈ Region.ready .any ops listed, wpOp P ops Q i (fun a' w' => (1 ≤ clsAt P hs ops i → Ext w w') ∧ wpAnyX P hs ops Q fuel (listed.setIfInBounds i true) a' w') a w

theorem wpAny_of_X : ∀ (fuel : Nat) (listed : Array Bool) (a : Act) (w : World), wpAnyX P hs ops Q fuel listed a w → wpAny P .any ops Q fuel listed a w
  | 0, _, _, _, h => h
  | fuel + 1, _, _, _, h => ⟨h.1, fun i hi => wpOp_mono (fun _ _ h' => wpAny_of_X fuel _ _ _ h'.2) (h.2 i hi)⟩

def YC (P : Program) (ops : Array Oper) (C : World → Prop) (o : Oper) (v : Value) (a : Act) : Prop :=
  (Region.wanted o (yielded ops a.tmps) = true ∧ ∀ w, C w → (execOp a.eval o).run P w = .ok (.value v) w) ∨
  (Region.wanted o (yielded ops a.tmps) = false ∧ v = undef)

theorem YC.wpOp {C : World → Prop} {i : Nat} {o : Oper} {v : Value} {a : Act} (hi : ops[i]? = some o) (hy : YC P ops C o v a) {K : Act → World → Prop} {w : World} (hC : C w) (h : K (a.put o.dst v) w) : wpOp P ops Q i K a w := by
  unfold Go.wpOp
  simp only [hi]
  rcases hy with ⟨hw, hv⟩ | ⟨hw, rfl⟩
  · simp only [hw, if_true, Oper.wp, hv w hC, Oper.upon]; exact .inl h
  · simp only [hw, Bool.false_eq_true, if_false]; exact h

theorem YC.of_same {C : World → Prop} {o : Oper} {v : Value} {a a' : Act} (hy : YC P ops C o v a) (he : execOp a'.eval o = execOp a.eval o) (hw : Region.wanted o (yielded ops a'.tmps) = Region.wanted o (yielded ops a.tmps)) : YC P ops C o v a' := by
  unfold YC at *
  rw [he, hw]
  exact hy

/-- The one does not touch what the other looks at or writes. -/
structure Apart (ops : Array Oper) (x y : Oper) : Prop where
  h1 : ∀ d, x.dst = some d → d ∉ y.looksAt ops
  h2 : ∀ d, x.dst = some d → y.dst ≠ some d
  h3 : ∀ d, y.dst = some d → d ∉ x.looksAt ops

theorem wpOp_ahead {C : World → Prop} {j : Nat} {oi oj : Oper} {v : Value} (hj : ops[j]? = some oj) (hap : Apart ops oi oj) (hsi : ∀ cs b, oi.op ≠ .select cs b) (hsj : ∀ cs b, oj.op ≠ .select cs b)
    (hQ : ∀ c a w, ¬ Q (.panic c) a w) {K : Act → World → Prop} {a : Act} {w : World} (hy : YC P ops C oi v a) (h : wpOp P ops Q j K (a.put oi.dst v) w) :
    wpOp P ops Q j (fun a' w' => YC P ops C oi v a' ∧ K (a'.put oi.dst v) w') a w := by
  obtain ⟨h1, h2, h3⟩ := hap
  have keep : ∀ (a : Act), YC P ops C oi v a → ∀ u, YC P ops C oi v (a.put oj.dst u) := fun a hy u =>
    hy.of_same (execOp_put oi hsi a oj.dst u h3) (wanted_put oi a oj.dst u h3)
  have keepD : ∀ d, YC P ops C oi v { a with defers := d :: a.defers } := fun d => hy.of_same rfl rfl
  unfold wpOp at *
  simp only [hj] at *
  rw [wanted_put oj a oi.dst v h1] at h
  split
  · rename_i hw
    simp only [hw, if_true] at h
    rcases h with h | ⟨hasks, hlets⟩
    case inr => exact .inr ⟨by unfold Oper.asks at *; rw [execOp_put oj hsj a oi.dst v h1] at hasks; exact hasks, hlets⟩
    refine .inl ?_
    unfold Oper.wp at *
    rw [execOp_put oj hsj a oi.dst v h1] at h
    generalize (execOp a.eval oj).run P w = r at *
    cases r with
    | ok n w' =>
      cases n <;> simp only [Oper.upon] at h ⊢
      case value u => exact ⟨keep a hy u, by rw [← Go.Act.put_comm a v u h2]; exact h⟩
      case skip => exact ⟨keep a hy _, by rw [← Go.Act.put_comm a v undef h2]; exact h⟩
      case defer d =>
        refine ⟨keep _ (keepD d) _, ?_⟩
        rw [← Go.Act.put_comm _ v undef h2, ← _root_.Go.Act.put_defers]
        exact h
      case enter f args =>
        refine Calls.mono h fun e w'' he => ?_
        cases e with
        | returned u => exact ⟨keep a hy u, by rw [← Go.Act.put_comm a v u h2]; exact he⟩
        | panicked c => exact absurd he (hQ _ _ _)
        | outgrown => exact he
      case row row args => exact Rows.mono h fun u w'' he => ⟨keep a hy u, by rw [← Go.Act.put_comm a v u h2]; exact he⟩
    | halt x w' =>
      cases x <;> simp only [Oper.upon] at h ⊢
      case panic u => exact absurd h (hQ _ _ _)
  · rename_i hw
    simp only [hw] at h
    exact ⟨keep a hy _, by rw [← Go.Act.put_comm a v undef h2]; exact h⟩

/-- A slot that the operation neither looks at nor writes may hold anything. -/
theorem wpOp_behind {j d : Nat} {oj : Oper} {v : Value} (hj : ops[j]? = some oj) (h1 : d ∉ oj.looksAt ops) (h2 : oj.dst ≠ some d) (hsj : ∀ cs b, oj.op ≠ .select cs b)
    (hQ : ∀ c a w, ¬ Q (.panic c) a w) {K : Act → World → Prop} {a : Act} {w : World} (h : wpOp P ops Q j (fun a' w' => K (a'.put (some d) v) w') a w) : wpOp P ops Q j K (a.put (some d) v) w := by
  have h1 : ∀ e, some d = some e → e ∉ oj.looksAt ops := fun e he => by cases he; exact h1
  have h2 : ∀ e, some d = some e → oj.dst ≠ some e := fun e he => by cases he; exact h2
  unfold wpOp at *
  simp only [hj] at *
  rw [wanted_put oj a (some d) v h1]
  split
  · rename_i hw
    simp only [hw, if_true] at h
    rcases h with h | ⟨hasks, hlets⟩
    case inr => exact .inr ⟨by unfold Oper.asks at *; rw [execOp_put oj hsj a (some d) v h1]; exact hasks, hlets⟩
    refine .inl ?_
    unfold Oper.wp at *
    rw [execOp_put oj hsj a (some d) v h1]
    generalize (execOp a.eval oj).run P w = r at *
    cases r with
    | ok n w' =>
      cases n <;> simp only [Oper.upon] at h ⊢
      case value u => rw [Go.Act.put_comm a v u h2]; exact h
      case skip => rw [Go.Act.put_comm a v undef h2]; exact h
      case defer e =>
        rw [_root_.Go.Act.put_defers, Go.Act.put_comm _ v undef h2]
        exact h
      case enter f args =>
        refine Calls.mono h fun e w'' he => ?_
        cases e with
        | returned u => show K _ _; rw [Go.Act.put_comm a v u h2]; exact he
        | panicked c => exact absurd he (hQ _ _ _)
        | outgrown => exact he
      case row row args => exact Rows.mono h fun u w'' he => by rw [Go.Act.put_comm a v u h2]; exact he
    | halt x w' =>
      cases x <;> simp only [Oper.upon] at h ⊢
      case panic u => exact absurd h (hQ _ _ _)
  · rename_i hw
    simp only [hw] at h
    rw [Go.Act.put_comm a v undef h2]
    exact h

theorem wpAnyX_first {C : World → Prop} {i : Nat} {oi : Oper} {v : Value} (hi : ops[i]? = some oi) (hsel : ∀ (j : Nat) (o : Oper) cs b, ops[j]? = some o → o.op ≠ .select cs b)
    (hQ : ∀ c a w, ¬ Q (.panic c) a w) (hC : ∀ w w', C w → Ext w w' → C w')
    (T : List Nat) (hT : ∀ j ∈ T, ∀ oj, ops[j]? = some oj → ∃ e ∈ oj.after, Region.binds .any e = true ∧ (e.on = i ∨ e.on ∈ T)) :
    ∀ (fuel : Nat) (listed : Array Bool) (a : Act) (w : World), C w → (∀ j ∈ T, listed.getD j false = false) →
      (∀ j oj, ops[j]? = some oj → j ≠ i → listed.getD j true = false → j ∉ T → Apart ops oi oj ∧ ((∀ w, C w) ∨ 1 ≤ clsAt P hs ops j)) →
      i ∈ Region.ready .any ops listed → YC P ops C oi v a →
      wpAnyX P hs ops Q fuel (listed.setIfInBounds i true) (a.put oi.dst v) w → wpAnyX P hs ops Q (fuel + 1) listed a w := by
  intro fuel
  induction fuel with
  | zero =>
    intro listed a w hw _ _ hr hy H
    refine ⟨fun h => (by rw [h] at hr; cases hr), fun j hj => ?_⟩
    by_cases hji : j = i
    · subst hji; exact hy.wpOp hi hw ⟨fun _ => Ext.refl w, H⟩
    · have := ready_mono hj hji
      rw [H.1] at this
      cases this
  | succ fuel ih =>
    intro listed a w hw hTu hfree hr hy H
    refine ⟨fun h => (by rw [h] at hr; cases hr), fun j hj => ?_⟩
    by_cases hji : j = i
    · subst hji; exact hy.wpOp hi hw ⟨fun _ => Ext.refl w, H⟩
    · have h1 := H.2 j (ready_mono hj hji)
      obtain ⟨hjun, oj, hoj, hall⟩ := mem_ready.1 hj
      have hiun : listed.getD i false = false := by
        have h0 := (mem_ready.1 hr).1
        rw [Array.getD_eq_getD_getElem?] at h0 ⊢
        cases hl : listed[i]? with
        | none => rfl
        | some b => rw [hl] at h0; exact h0
      have hjT : j ∉ T := fun hjT => by
        obtain ⟨e, he, hb, h3⟩ := hT j hjT oj hoj
        have h4 := hall e he hb
        rcases h3 with h3 | h3
        · rw [h3, hiun] at h4; cases h4
        · rw [hTu e.on h3] at h4; cases h4
      obtain ⟨hap, hcl⟩ := hfree j oj hoj hji hjun hjT
      have h2 := wpOp_ahead hoj hap (fun cs b => hsel i oi cs b hi) (fun cs b => hsel j oj cs b hoj) hQ hy h1
      have hfree' : ∀ k ok, ops[k]? = some ok → k ≠ i → (listed.setIfInBounds j true).getD k true = false → k ∉ T → Apart ops oi ok ∧ ((∀ w, C w) ∨ 1 ≤ clsAt P hs ops k) := fun k ok hk hki hun hno => by
        refine hfree k ok hk hki ?_ hno
        by_cases hjk : j = k
        · subst hjk; exact hjun
        · rw [getD_set_ne true hjk] at hun; exact hun
      have hTu' : ∀ k ∈ T, (listed.setIfInBounds j true).getD k false = false := fun k hk => by
        rw [getD_set_ne false (fun e => hjT (by rw [e]; exact hk))]; exact hTu k hk
      refine wpOp_mono (fun a' w' h3 => ⟨h3.2.1, ih (listed.setIfInBounds j true) a' w' ?_ hTu' hfree' (ready_mono hr (Ne.symm hji)) h3.1 ?_⟩) h2
      · rcases hcl with hcl | hcl
        · exact hcl w'
        · exact hC w w' hw (h3.2.1 hcl)
      · rw [Array.setIfInBounds_comm _ _ hji]
        exact h3.2.2
end

end Go.AM

namespace Go.AM

section
variable {P : Program} {F F' : Fr} {N : Nat} {ι : Nat → Gh} {s : S} {a : Act} {w : World}

/-- What a frame inside the frame F knows, a block b of F's own being left out. -/
structure Under (F F' : Fr) (b : Nat) : Prop where
  A : ∀ x, F'.A x → (F.A x ∨ F.M x ∨ F.w0.heap.size ≤ x) ∧ x ≠ b
  M : ∀ x, F'.M x → (F.M x ∨ F.w0.heap.size ≤ x) ∧ x ≠ b
  g : Grows F.M F.w0 F'.w0
  h : F'.h = F.h
  b1 : F.w0.heap.size ≤ b
  b2 : b < F'.w0.heap.size

theorem Rel.hide (hr : Rel F N ι s a w) {w1 : World} (hg : Grows (fun _ => False) w w1) (hb : w.heap.size < w1.heap.size) :
    ∃ F', Under F F' w.heap.size ∧ F'.w0 = w1 ∧ Rel F' N ι s a w1 := by
  have hr1 := hr.grown hg
  let F' : Fr := ⟨w1, fun x => F.ok ι s.pl w1 x ∧ x ≠ w.heap.size, Owns ι s.pl, F.h⟩
  have hkeep : Keeps w w1 (F.ok ι s.pl w) (F'.ok ι s.pl w1) := fun x hx =>
    ⟨⟨.inl ⟨⟨hx.1, Nat.lt_of_lt_of_le hx.2.1 hg.size, hx.2.2⟩, by have := hx.2.1; omega⟩, Nat.lt_of_lt_of_le hx.2.1 hg.size, hx.2.2⟩, hg.block x hx.2.1 (fun h => h)⟩
  have hsh := Shapes.of_grows hg
  refine ⟨F', ⟨fun x hx => ⟨hx.1.1, hx.2⟩, fun x hx => ⟨(hr.mine x hx).1, by have := (hr.mine x hx).2; omega⟩, hr1.grows, rfl, hr.grows.size, hb⟩, rfl, ?_⟩
  refine ⟨hr.room, fun k v hv => ?_, fun p x hx => ?_, hr.inj, fun x hx => ⟨.inl hx, (hr1.mine x hx).2⟩, hr.defers, Grows.refl _ _, fun x hx => ⟨hx.1.2.1, hx.1.2.2⟩, ⟨fun x hx => (hr1.mine x hx).2, fun k hk => ⟨⟨(hr1.glb k hk).1, fun e => Nat.lt_irrefl _ (e ▸ (hr.glb k hk).1.2.1)⟩, (hr1.glb k hk).2⟩⟩, hr.few, hr.hdom, hr.hkeep⟩
  · obtain ⟨x, e1, e2⟩ := hr.slots k v hv
    exact ⟨x, e1, VR.keep hkeep hsh v x e2⟩
  · have h := hr.places p x hx
    cases x with
    | fbox ds => obtain ⟨b, e1, e2, e3⟩ := h; exact ⟨b, e1, (hkeep b e2).1, RDc.keep hkeep b e2 _ _ e3⟩
    | gone => exact h.elim
    | box cs => obtain ⟨b, cur, e1, ⟨t, e2⟩, e3⟩ := h; exact ⟨b, cur, e1, ⟨t, by rw [hg.block b (RowAt.lt ⟨t, e2⟩) (fun h => h)]; exact e2⟩, CRs.keep hkeep hsh _ _ e3⟩
    | arr sz els fz =>
      obtain ⟨h0, hn, h | ⟨b, e1, e2, e3, e4⟩⟩ := h
      · exact ⟨h0, hn, .inl h⟩
      · have hlt : b < w.heap.size := by
          cases fz
          · obtain ⟨cur, e5, _⟩ := e4 rfl; exact e5.lt
          · exact (e3 rfl).2.1
        refine ⟨h0, hn, .inr ⟨b, e1, RDs.keep' hkeep b sz els 0 (fun j _ _ => cell_of_heap (hg.block b hlt (fun h => h)) j) e2, fun hf => (hkeep b (e3 hf)).1, fun hf => ?_⟩⟩
        obtain ⟨cur, ⟨t, e5⟩, e6⟩ := e4 hf
        exact ⟨cur, ⟨t, by rw [hg.block b hlt (fun h => h)]; exact e5⟩, e6⟩

theorem Rel.unhide {b : Nat} (hr : Rel F' N ι s a w) (hu : Under F F' b) (hf : ∀ x, F.A x → x < F.w0.heap.size ∧ ¬ F.M x) (hh : (∀ x, F.M x → x < F.w0.heap.size) ∧ Glb F.A F.w0) {cur : Array Value} (hrow : RowAt F'.w0 b cur)
    {cs : List C} (hcs : ∀ ι w ok, CRs ι w ok cs cur.toList) {d : Nat} (hd : d < N) :
    Rel F N (upd ι d ⟨some b, 0⟩) ((s.place d (.box cs)).put (some d) (cV (.ptr d 0))) (a.put (some d) (.pointer (some ⟨b, 0, none⟩))) w := by
  let ι' := upd ι d ⟨some b, 0⟩
  have hbM : ¬ F'.M b := fun h => (hu.M b h).2 rfl
  have hrow' : RowAt w b cur := by
    obtain ⟨t, h⟩ := hrow
    exact ⟨t, by rw [hr.grows.block b hu.b2 hbM]; exact h⟩
  have hne : ∀ x, F'.ok ι s.pl w x → x ≠ b := by
    intro x hx he
    subst he
    rcases hx.1 with h | h | h
    · exact (hu.A _ h).2 rfl
    · exact (hu.M _ h).2 rfl
    · have := hu.b2; omega
  have hnot : ¬ Owns ι s.pl b := by
    intro h
    rcases (hr.mine b h).1 with h | h
    · exact hbM h
    · have := hu.b2; omega
  have hιd : ι' d = ⟨some b, 0⟩ := upd_same _ _ _
  have hιo : ∀ p, isin p [d] = false → ι' p = ι p := fun p hp => upd_other ι _ (isin_one hp)
  have hget : ∀ p x, aget (s.place d (.box cs)).pl p = some x → (p = d ∧ x = .box cs) ∨ (p ≠ d ∧ ∃ y, aget s.pl p = some y ∧ x = y.kill [d]) := by
    intro p x hx
    unfold S.place at hx
    rw [S.redo_pl] at hx
    simp only [aget_cons] at hx
    by_cases hpd : d = p
    · subst hpd
      simp only [if_true, Option.some.injEq] at hx
      exact .inl ⟨rfl, hx.symm⟩
    · rw [if_neg hpd] at hx
      simp only [aget] at hx
      split at hx
      · cases hp : aget s.pl p with
        | none => rw [hp] at hx; cases hx
        | some y => rw [hp] at hx; simp at hx; exact .inr ⟨fun e => hpd e.symm, y, rfl, hx.symm⟩
      · cases hx
  have hisin : ∀ p, p ≠ d → isin p [d] = false := fun p hp => by
    cases h : isin p [d] with
    | false => rfl
    | true => have := (isin_iff p [d]).1 h; simp at this; exact absurd this hp
  have hown : ∀ x, Owns ι' (s.place d (.box cs)).pl x → x = b ∨ Owns ι s.pl x := by
    rintro x ⟨p, y, h1, h2, h3⟩
    rcases hget p y h1 with ⟨rfl, rfl⟩ | ⟨hp, z, hz, rfl⟩
    · rw [hιd] at h3; cases h3; exact .inl rfl
    · rw [hιo p (hisin p hp)] at h3
      rw [Pl.live_kill] at h2
      exact .inr ⟨p, z, hz, h2, h3⟩
  have hkeep : Keeps w w (F'.ok ι s.pl w) (F.ok ι' (s.place d (.box cs)).pl w) := by
    intro x hx
    refine ⟨⟨?_, hx.2.1, fun ho => ?_⟩, rfl⟩
    · rcases hx.1 with h | h | h
      · exact (hu.A x h).1
      · exact (hu.M x h).1.elim (fun h => .inr (.inl h)) (fun h => .inr (.inr h))
      · exact .inr (.inr (Nat.le_trans hu.g.size h))
    · rcases hown x ho with h | h
      · exact hne x hx h
      · exact hx.2.2 h
  have hrel : Rel F N ι' (s.place d (.box cs)) a w := by
    refine ⟨hr.room, fun k v hv => ?_, fun p x hx => ?_, ?_, ?_, hr.defers, ?_, hf, hh, hr.few, by rw [← hu.h]; exact hr.hdom, fun p x g hx hg => ?_⟩
    rotate_left 5
    · rw [← hu.h] at hg
      rcases hget p x hx with ⟨rfl, _⟩ | ⟨hp, z, hz, _⟩
      · rw [hr.h_slot hd] at hg; cases hg
      · rw [hιo p (hisin p hp)]; exact hr.hkeep p z g hz hg
    · unfold S.place at hv
      rw [S.redo_sl] at hv
      cases hk : aget s.sl k with
      | none => rw [hk] at hv; cases hv
      | some u =>
        rw [hk] at hv; simp at hv; subst hv
        obtain ⟨x, e1, e2⟩ := hr.slots k u hk
        exact ⟨x, e1, VR.kill hkeep (Shapes.refl w) hιo u x e2⟩
    · rcases hget p x hx with ⟨rfl, rfl⟩ | ⟨hp, z, hz, rfl⟩
      · exact ⟨b, cur, by rw [hιd], hrow', hcs _ _ _⟩
      · exact PR.kill hkeep (Shapes.refl w) hιo p (hisin p hp) z (fun _ _ _ => rfl) (hr.places p z hz)
    · intro p q x y b' hx hy hpq hl hb' hq
      rcases hget p x hx with ⟨rfl, rfl⟩ | ⟨hp, z, hz, rfl⟩ <;> rcases hget q y hy with ⟨rfl, rfl⟩ | ⟨hq', u, hu', rfl⟩
      · exact hpq rfl
      · rw [hιd] at hb'; cases hb'
        rw [hιo q (hisin q hq')] at hq
        have h := hr.places q u hu'
        cases u with
        | box cs => exact hnot ⟨q, _, hu', rfl, hq⟩
        | fbox ds => obtain ⟨b'', e1, e2, _⟩ := h; rw [hq] at e1; cases e1; exact hne _ e2 rfl
        | gone => exact h.elim
        | arr z els fz => cases fz with
          | false => exact hnot ⟨q, _, hu', rfl, hq⟩
          | true =>
            obtain ⟨_, _, h | ⟨b'', e1, _, e3, _⟩⟩ := h
            · rw [hq] at h; cases h.1
            · rw [hq] at e1; cases e1
              exact hne _ (e3 rfl) rfl
      · rw [hιd] at hq; cases hq
        rw [hιo p (hisin p hp)] at hb'
        rw [Pl.live_kill] at hl
        exact hnot ⟨p, z, hz, hl, hb'⟩
      · rw [hιo p (hisin p hp)] at hb'
        rw [hιo q (hisin q hq')] at hq
        rw [Pl.live_kill] at hl
        exact hr.inj p q z u b' hz hu' hpq hl hb' hq
    · intro x hx
      rcases hown x hx with rfl | h
      · exact ⟨.inr hu.b1, Nat.lt_of_lt_of_le hu.b2 hr.grows.size⟩
      · refine ⟨?_, (hr.mine x h).2⟩
        rcases (hr.mine x h).1 with h | h
        · exact (hu.M x h).1
        · exact .inr (Nat.le_trans hu.g.size h)
    · refine ⟨hr.grows.os.trans hu.g.os, hr.grows.tape.trans hu.g.tape, hr.grows.output.trans hu.g.output, Nat.le_trans hu.g.size hr.grows.size, fun x hx hm => ?_, fun c t m h => hr.grows.shapes c t m (hu.g.shapes c t m h)⟩
      rw [hr.grows.block x (Nat.lt_of_lt_of_le hx hu.g.size) (fun h => (hu.M x h).1.elim hm (fun h => by omega))]
      exact hu.g.block x hx hm
  exact hrel.put (some d) (fun k hk => by cases hk; exact hd) _ _ ⟨b, by rw [hιd], rfl⟩

/-- Where an operation of class 4 is carried out. -/
theorem alloc_run {o : Oper} {cs : List C} (hx : cOp P o.op o.type = some (.alloc cs)) (hs : solid cs = true) :
    ∃ t cur, (∀ ι w ok, CRs ι w ok cs (cur : Array Value).toList) ∧ ∀ (a : Act) (w : World), (execOp a.eval o).run P w = .ok (.value (.pointer (some ⟨w.heap.size, 0, none⟩))) (w.alloc (.cells cur t)) := by
  have key : ∃ t, o.op = .alloc t ∧ cs = (tzero P t).cells := by
    unfold cOp at hx
    split at hx
    case h_4 => rename_i t ho; cases hx; exact ⟨t, ho, rfl⟩
    case h_24 =>
      rename_i b args ts h1 h2 ho
      cases hm : mmOp b args.toList with
      | some y =>
        simp only [hm] at hx
        cases hx
        obtain ⟨x1, y1, _, ⟨_, h⟩ | ⟨_, h⟩⟩ := mmOp_spec hm <;> cases h
      | none =>
        simp only [hm] at hx
        cases hb : bltOp P b args.toList ts.toList with
        | some y => simp only [hb] at hx; cases hx; exact absurd rfl ((bltOp_is hb).2.2 cs)
        | none => simp only [hb] at hx; cases hx
    case h_11 =>
      rcases bif_or hx with h1 | h1
      · cases h1
      · rcases bif_or h1 with h1 | h1
        · cases h1
        · split at h1
          · rename_i z h3; cases h1; unfold convOp at h3; (repeat' split at h3) <;> cases h3
          · cases h1
    case h_20 =>
      (repeat' split at hx)
      · cases hx
      · rename_i h3; cases hx; unfold lenOp at h3; (repeat' split at h3) <;> cases h3
      · cases hx
      · cases hx
    case h_25 =>
      (repeat' split at hx)
      · cases hx
      · rename_i h3; cases hx; unfold eqaOp at h3; (repeat' split at h3) <;> cases h3
      · rename_i h3; cases hx; unfold beqOp at h3; (repeat' split at h3) <;> cases h3
      · rcases bif_or hx with h1 | h1 <;> cases h1
    case h_26 =>
      (repeat' split at hx)
      · rename_i h3; cases hx; unfold unOp' at h3; (repeat' split at h3) <;> cases h3
      · cases hx
    all_goals first
      | (cases hx; done)
      | (rcases bif_or hx with h1 | h1 <;> (cases h1; done); done)
      | (split at hx <;> first | (cases hx; done) | (rcases bif_or hx with h1 | h1 <;> (cases h1; done); done))
      | (obtain ⟨_, h⟩ := okv_spec hx; cases h; done)
      | ((repeat' split at hx) <;> first | (cases hx; done) | (obtain ⟨_, h⟩ := okv_spec hx; cases h; done))
  obtain ⟨t, ho, rfl⟩ := key
  unfold tzero at hs ⊢
  cases hi : P.info? t with
  | none => simp only [hi] at hs; cases hs
  | some i =>
    simp only [hi] at hs ⊢
    cases hz : i.zero with
    | none => simp only [hz] at hs; cases hs
    | some v =>
      simp only [hz] at hs ⊢
      rw [ofValue_cells hs]
      exact ⟨t, v.cells, fun ι w ok => CRs_ofCell ι w ok v.cells.toList, fun a w => by simp [execOp, ho, Instr.alloc, zeroValue, typeInfo, hi, hz, newVar, newRow]⟩

theorem Grows.alloc (w : World) (cur : Array Value) (t : TypeId) : Grows (fun _ => False) w (w.alloc (.cells cur t)) := by
  have h := NewRow.alloc w cur t
  exact ⟨h.os, h.tape, h.output, by rw [h.size]; omega, fun b hb _ => h.old hb, h.shapes⟩
end

end Go.AM

namespace Go.AM

theorem anyL_iff {α : Type} {f : α → Bool} : ∀ {l : List α}, anyL f l = true ↔ ∃ x ∈ l, f x = true
  | [] => by simp [anyL]
  | x :: r => by
    simp only [anyL, List.mem_cons]
    cases h : f x
    · rw [cond_false, anyL_iff]
      constructor
      · rintro ⟨y, h1, h2⟩; exact ⟨y, .inr h1, h2⟩
      · rintro ⟨y, rfl | h1, h2⟩
        · rw [h] at h2; cases h2
        · exact ⟨y, h1, h2⟩
    · rw [cond_true]
      exact ⟨fun _ => ⟨x, .inl rfl, h⟩, fun _ => rfl⟩
theorem allL_iff {α : Type} {f : α → Bool} : ∀ {l : List α}, allL f l = true ↔ ∀ x ∈ l, f x = true
  | [] => by simp [allL]
  | x :: r => by
    simp only [allL, List.mem_cons]
    cases h : f x
    · rw [cond_false]
      exact ⟨fun h' => (by cases h'), fun h' => (by have h2 := h' x (.inl rfl); rw [h] at h2; cases h2)⟩
    · rw [cond_true, allL_iff]
      constructor
      · rintro h' y (rfl | hy)
        · exact h
        · exact h' y hy
      · exact fun h' y hy => h' y (.inr hy)

theorem isin_false0 {n : Nat} {l : List Nat} : isin n l = false ↔ n ∉ l := by
  rw [← isin_iff]; cases isin n l <;> simp
theorem isin_cons_ne {j i : Nat} {r : List Nat} (h : j ≠ i) : isin j (i :: r) = isin j r := by
  cases hb : isin j r with
  | true => exact (isin_iff _ _).2 (List.mem_cons_of_mem _ ((isin_iff _ _).1 hb))
  | false => exact isin_false0.2 (fun h' => (List.mem_cons.1 h').elim h (isin_false0.1 hb))

theorem isin_false {n : Nat} {l : List Nat} : isin n l = false ↔ n ∉ l := by
  rw [← isin_iff]; cases isin n l <;> simp

section
variable {P : Program} {hs : List Nat} {ops : Array Oper}

theorem cls_quiet0 {o : Oper} {x : AOp} (hx : cOp P o.op o.type = some x) (h : cls P o = 1 ∨ cls P o = 2) : x.quiet = true ∧ (cls P o = 1 → x.reads = false) := by
  unfold cls at h ⊢
  rw [hx] at h ⊢
  simp only at h ⊢
  cases hq : x.quiet with
  | true =>
    refine ⟨rfl, fun h1 => ?_⟩
    cases hr : x.reads with
    | false => rfl
    | true => rw [hr] at h1; cases h1
  | false =>
    rw [hq] at h
    cases hc : isCall x <;> rw [hc] at h
    · cases ha : isAllocOf o x <;> rw [ha] at h <;> rcases h with h | h <;> cases h
    · rcases h with h | h <;> cases h

theorem cls_call0 {o : Oper} {x : AOp} (hx : cOp P o.op o.type = some x) (h : cls P o = 3) : isCall x = true := by
  unfold cls at h
  rw [hx] at h
  simp only at h
  cases hq : x.quiet <;> rw [hq] at h
  · cases hc : isCall x
    · rw [hc] at h
      cases ha : isAllocOf o x <;> rw [ha] at h <;> cases h
    · rfl
  · cases hr : x.reads <;> rw [hr] at h <;> cases h

theorem cls_alloc0 {o : Oper} (h : cls P o = 4) : ∃ cs d, cOp P o.op o.type = some (.alloc cs) ∧ solid cs = true ∧ o.guard = none ∧ o.dst = some d := by
  unfold cls at h
  cases hx : cOp P o.op o.type with
  | none => rw [hx] at h; cases h
  | some x =>
    rw [hx] at h
    simp only at h
    cases hq : x.quiet <;> rw [hq] at h
    · cases hc : isCall x <;> rw [hc] at h
      · cases ha : isAllocOf o x <;> rw [ha] at h
        · cases h
        · unfold isAllocOf at ha
          split at ha
          · rename_i cs
            simp only [Bool.and_eq_true, Bool.not_eq_true'] at ha
            obtain ⟨⟨h1, h2⟩, h3⟩ := ha
            obtain ⟨d, hd⟩ := isSome_spec h3
            refine ⟨cs, d, rfl, h1, ?_, hd⟩
            cases hg : o.guard with
            | none => rfl
            | some g => rw [hg] at h2; cases h2
          · cases ha
      · cases h
    · cases hr : x.reads <;> rw [hr] at h <;> cases h

theorem cls_le0 (o : Oper) : cls P o ≤ 4 := by
  unfold cls
  split
  · rename_i x _
    cases x.quiet
    · cases isCall x
      · cases isAllocOf o x <;> exact Nat.le_of_ble_eq_true rfl
      · exact Nat.le_of_ble_eq_true rfl
    · cases x.reads <;> exact Nat.le_of_ble_eq_true rfl
  · exact Nat.le_of_ble_eq_true rfl

/-! The class of the operation with a number. -/
theorem clsAt_cases {i : Nat} {o : Oper} (ho : ops[i]? = some o) : (isin i hs = true ∧ clsAt P hs ops i = 0) ∨ (isin i hs = false ∧ clsAt P hs ops i = cls P o) := by
  unfold clsAt
  cases isin i hs
  · exact .inr ⟨rfl, by simp [ho]⟩
  · exact .inl ⟨rfl, rfl⟩
theorem cls_quiet {i : Nat} {o : Oper} (ho : ops[i]? = some o) {x : AOp} (hx : cOpM P (isin i hs) o.op o.type = some x) (h : clsAt P hs ops i = 1 ∨ clsAt P hs ops i = 2) :
    cOp P o.op o.type = some x ∧ x.quiet = true ∧ (clsAt P hs ops i = 1 → x.reads = false) := by
  rcases clsAt_cases (P := P) (hs := hs) ho with ⟨_, h1⟩ | ⟨h1, h2⟩
  · rw [h1] at h; rcases h with h | h <;> cases h
  · rw [h1] at hx
    rw [h2] at h ⊢
    exact ⟨hx, cls_quiet0 hx h⟩
theorem cls_call {i : Nat} {o : Oper} (ho : ops[i]? = some o) {x : AOp} (hx : cOpM P (isin i hs) o.op o.type = some x) (h : clsAt P hs ops i = 3) : cOp P o.op o.type = some x ∧ isCall x = true := by
  rcases clsAt_cases (P := P) (hs := hs) ho with ⟨_, h1⟩ | ⟨h1, h2⟩
  · rw [h1] at h; cases h
  · rw [h1] at hx
    rw [h2] at h
    exact ⟨hx, cls_call0 hx h⟩
theorem cls_alloc {i : Nat} {o : Oper} (ho : ops[i]? = some o) (h : clsAt P hs ops i = 4) : ∃ cs d, cOp P o.op o.type = some (.alloc cs) ∧ solid cs = true ∧ o.guard = none ∧ o.dst = some d := by
  rcases clsAt_cases (P := P) (hs := hs) ho with ⟨_, h1⟩ | ⟨_, h2⟩
  · rw [h1] at h; cases h
  · rw [h2] at h; exact cls_alloc0 h
theorem cls_le {i : Nat} {o : Oper} (ho : ops[i]? = some o) : clsAt P hs ops i ≤ 4 := by
  rcases clsAt_cases (P := P) (hs := hs) ho with ⟨_, h1⟩ | ⟨_, h2⟩
  · rw [h1]; exact Nat.zero_le _
  · rw [h2]; exact cls_le0 o

/-! The compact operations of an order. -/
theorem cOps_cons {N : Nat} {gs : List Nat} {i : Nat} {l : List Nat} {xs : List AI} (hx : cOps P N hs ops.toList gs (i :: l) = some (xs.map AI.erase)) :
    ∃ o x g drop rest, xs = .mk o.dst g (isin i gs) x drop :: rest ∧ ops[i]? = some o ∧ (∀ k, o.dst = some k → k < N) ∧ cOpM P (isin i hs) o.op o.type = some x ∧ cGuard ops.toList o.guard = some g ∧
      cOps P N hs ops.toList gs l = some (rest.map AI.erase) := by
  simp only [cOps] at hx
  split at hx
  case h_2 => cases hx
  rename_i o ho
  have ho' : ops[i]? = some o := by rw [← Array.getElem?_toList]; exact ho
  cases hd : dstOk N o.dst with
  | false => rw [hd] at hx; cases hx
  | true =>
    rw [hd] at hx
    simp only [cond_true] at hx
    split at hx
    case h_2 => cases hx
    rename_i x g ys hx1 hg hys
    cases xs with
    | nil => simp at hx
    | cons y rest =>
      cases y with
      | mk d1 g1 isG1 op1 drop =>
        simp only [Option.some.injEq, List.map_cons, AI.erase, List.cons.injEq, AI.mk.injEq, and_true] at hx
        obtain ⟨⟨rfl, rfl, rfl, rfl⟩, rfl⟩ := hx
        exact ⟨o, _, _, drop, rest, rfl, ho', dst_ok hd, hx1, hg, hys⟩

theorem cOps_mem {N : Nat} {gs : List Nat} : ∀ {l : List Nat} {xs : List AI}, cOps P N hs ops.toList gs l = some (xs.map AI.erase) → ∀ i ∈ l, ∃ o x, ops[i]? = some o ∧ cOpM P (isin i hs) o.op o.type = some x
  | [], _, _, i, hi => by cases hi
  | j :: l, xs, h, i, hi => by
    obtain ⟨o, x, g, drop, rest, rfl, h1, h2, h3, h4, h5⟩ := cOps_cons h
    rcases List.mem_cons.1 hi with rfl | hi
    · exact ⟨o, x, h1, h3⟩
    · exact cOps_mem h5 i hi

/-! Which operations have come up. -/
def Lst (ops : Array Oper) (listed : Array Bool) (rest : List Nat) (hid : Nat → Bool) : Prop :=
  listed.size = ops.size ∧ ∀ j, j < ops.size → listed[j]? = some (!isin j rest || hid j)

theorem Lst.step {listed : Array Bool} {i : Nat} {r : List Nat} {hid : Nat → Bool} (h : Lst ops listed (i :: r) hid) (hi : i ∉ r) : Lst ops (listed.setIfInBounds i true) r hid := by
  refine ⟨by simp [h.1], fun j hj => ?_⟩
  rw [Array.getElem?_setIfInBounds]
  split
  · rename_i e
    subst e
    rw [if_pos (by rw [h.1]; exact hj), isin_false.2 hi]; rfl
  · rename_i hne
    rw [h.2 j hj]
    rw [isin_cons_ne (Ne.symm hne)]

theorem Lst.hide {listed : Array Bool} {k : Nat} {rest : List Nat} (h : Lst ops listed rest (fun _ => false)) : Lst ops (listed.setIfInBounds k true) rest (fun j => Nat.beq j k) := by
  refine ⟨by simp [h.1], fun j hj => ?_⟩
  rw [Array.getElem?_setIfInBounds]
  split
  · rename_i e
    subst e
    rw [if_pos (by rw [h.1]; exact hj)]; simp
  · rename_i hne
    rw [h.2 j hj]
    dsimp only
    rw [beq_false (Ne.symm hne)]

theorem Lst.show {listed : Array Bool} {k : Nat} {r : List Nat} (h : Lst ops listed (k :: r) (fun j => Nat.beq j k)) (hk : k ∉ r) : Lst ops listed r (fun _ => false) := by
  refine ⟨h.1, fun j hj => ?_⟩
  rw [h.2 j hj]
  by_cases he : j = k
  · subst he
    rw [isin_false.2 hk]; simp
  · dsimp only
    rw [beq_false he, isin_cons_ne he]

theorem Lst.ready_in {listed : Array Bool} {rest : List Nat} {hid : Nat → Bool} (h : Lst ops listed rest hid) {j : Nat} (hj : j ∈ Region.ready .any ops listed) : j ∈ rest ∧ hid j = false := by
  obtain ⟨h0, o, ho, _⟩ := mem_ready.1 hj
  have hlt : j < ops.size := (Array.getElem?_eq_some_iff.1 ho).1
  have := h.2 j hlt
  rw [Array.getD_eq_getD_getElem?, this] at h0
  simp only [Option.getD_some, Bool.or_eq_false_iff, Bool.not_eq_false'] at h0
  exact ⟨(isin_iff _ _).1 h0.1, h0.2⟩

theorem Lst.unlisted {listed : Array Bool} {rest : List Nat} {hid : Nat → Bool} (h : Lst ops listed rest hid) {j : Nat} (hj : listed.getD j false = true) (hr : j ∈ rest) : hid j = true := by
  rw [Array.getD_eq_getD_getElem?] at hj
  cases hl : listed[j]? with
  | none => rw [hl] at hj; cases hj
  | some b =>
    have hlt : j < ops.size := by rw [← h.1]; exact (Array.getElem?_eq_some_iff.1 hl).1
    rw [h.2 j hlt, (isin_iff _ _).2 hr] at hj
    simpa using hj

theorem ready_waits {listed : Array Bool} {j : Nat} (hj : j ∈ Region.ready .any ops listed) {f : Nat → Bool} (hw : waitsFor ops j f = true) : ∃ n, f n = true ∧ listed.getD n false = true := by
  obtain ⟨_, o, ho, hall⟩ := mem_ready.1 hj
  unfold waitsFor at hw
  rw [ho] at hw
  obtain ⟨e, he, h1⟩ := anyL_iff.1 hw
  rw [Bool.and_eq_true] at h1
  exact ⟨e.on, h1.2, hall e (Array.mem_toList_iff.1 he) h1.1⟩

theorem deps_sub (i : Nat) : ∀ (r T : List Nat), ∀ j ∈ depsL P hs ops i r T, j ∈ T ∨ (j ∈ r ∧ clsAt P hs ops j ≠ 4)
  | [], _, _, hj => .inl hj
  | m :: r, T, j, hj => by
    simp only [depsL] at hj
    rcases deps_sub i r _ j hj with h | h
    · cases hb : (!Nat.beq (clsAt P hs ops m) 4 && waitsFor ops m (fun n => Nat.beq n i || isin n T)) with
      | false => rw [hb] at h; exact .inl h
      | true =>
        rw [hb] at h
        rw [Bool.and_eq_true] at hb
        rcases List.mem_cons.1 h with rfl | h
        · exact .inr ⟨List.mem_cons_self, fun e => by rw [e] at hb; cases hb.1⟩
        · exact .inl h
    · exact .inr ⟨List.mem_cons_of_mem _ h.1, h.2⟩

theorem deps_mono (i : Nat) : ∀ (r T : List Nat), ∀ j ∈ T, j ∈ depsL P hs ops i r T
  | [], _, _, hj => hj
  | m :: r, T, j, hj => by
    simp only [depsL]
    refine deps_mono i r _ j ?_
    cases (!Nat.beq (clsAt P hs ops m) 4 && waitsFor ops m (fun n => Nat.beq n i || isin n T))
    · exact hj
    · exact List.mem_cons_of_mem _ hj

theorem deps_waits (i : Nat) : ∀ (r T : List Nat), (∀ j ∈ T, ∃ f : Nat → Bool, waitsFor ops j f = true ∧ ∀ n, f n = true → n = i ∨ n ∈ T) → ∀ j ∈ depsL P hs ops i r T, ∃ f : Nat → Bool, waitsFor ops j f = true ∧ ∀ n, f n = true → n = i ∨ n ∈ depsL P hs ops i r T
  | [], _, h, j, hj => h j hj
  | m :: r, T, h, j, hj => by
    simp only [depsL] at hj ⊢
    cases hb : (!Nat.beq (clsAt P hs ops m) 4 && waitsFor ops m (fun n => Nat.beq n i || isin n T)) with
    | false => rw [hb] at hj; exact deps_waits i r T h j hj
    | true =>
      rw [hb] at hj
      refine deps_waits i r (m :: T) ?_ j hj
      intro k hk
      rcases List.mem_cons.1 hk with rfl | hk
      · rw [Bool.and_eq_true] at hb
        refine ⟨_, hb.2, fun n hn => ?_⟩
        rw [Bool.or_eq_true] at hn
        exact hn.imp Nat.eq_of_beq_eq_true fun h => List.mem_cons_of_mem _ ((isin_iff _ _).1 h)
      · obtain ⟨f, h1, h2⟩ := h k hk
        exact ⟨f, h1, fun n hn => (h2 n hn).imp id (List.mem_cons_of_mem _)⟩

theorem waits_edge {j : Nat} {oj : Oper} (hoj : ops[j]? = some oj) {f : Nat → Bool} (h : waitsFor ops j f = true) : ∃ e ∈ oj.after, Region.binds .any e = true ∧ f e.on = true := by
  unfold waitsFor at h
  rw [hoj] at h
  obtain ⟨e, he, h1⟩ := anyL_iff.1 h
  rw [Bool.and_eq_true] at h1
  exact ⟨e, Array.mem_toList_iff.1 he, h1.1, h1.2⟩

theorem deps_edge (i : Nat) (r : List Nat) : ∀ j ∈ depsL P hs ops i r [], ∀ oj, ops[j]? = some oj → ∃ e ∈ oj.after, Region.binds .any e = true ∧ (e.on = i ∨ e.on ∈ depsL P hs ops i r []) := by
  intro j hj oj hoj
  obtain ⟨f, h1, h2⟩ := deps_waits i r [] (fun _ h => by cases h) j hj
  obtain ⟨e, he, hb, h3⟩ := waits_edge hoj h1
  exact ⟨e, he, hb, h2 _ h3⟩

/-! What the check of an order says. -/
structure Front (P : Program) (hs : List Nat) (ops : Array Oper) (o : Oper) (i : Nat) (r : List Nat) : Prop where
  nin : i ∉ r
  pre : ∀ e ∈ o.after, Region.binds .any e = true → e.on < ops.size ∧ e.on ∉ i :: r
  sep : ∀ j ∈ r, clsAt P hs ops j = 4 → ∀ d, dstOf ops j = some d → d ∉ o.looksAt ops ∧ o.dst ≠ some d
  quiet : (clsAt P hs ops i = 1 ∨ clsAt P hs ops i = 2) → ∀ j ∈ r, j ∈ depsL P hs ops i r [] ∨ ∀ oj, ops[j]? = some oj → Apart ops o oj ∧ (clsAt P hs ops i = 1 ∨ 1 ≤ clsAt P hs ops j)
  heavy : ¬ (clsAt P hs ops i = 1 ∨ clsAt P hs ops i = 2) → ∀ j ∈ r, clsAt P hs ops j = 4 ∨ waitsFor ops j (fun n => isin n (i :: r) && (Nat.beq n i || !Nat.beq (clsAt P hs ops n) 4)) = true

theorem sepB_spec {d : Tmp} {o : Oper} (h : sepB ops (some d) o = true) : d ∉ o.looksAt ops ∧ o.dst ≠ some d := by
  simp only [sepB, Bool.and_eq_true, Bool.not_eq_true'] at h
  refine ⟨isin_false.1 h.1, fun he => ?_⟩
  rw [he] at h
  simp only [beq_self, Bool.not_true] at h
  cases h.2

theorem apartB_spec {x y : Oper} (h : apartB ops x y = true) : Apart ops x y := by
  unfold apartB at h
  rw [Bool.and_eq_true] at h
  refine ⟨fun d hd => ?_, fun d hd => ?_, fun d hd => ?_⟩
  · rw [hd] at h; exact (sepB_spec h.1).1
  · rw [hd] at h; exact (sepB_spec h.1).2
  · rw [hd] at h
    simpa using isin_false.1 (by simpa using h.2)

theorem front_spec {i : Nat} {r : List Nat} {o : Oper} (ho : ops[i]? = some o) (h : front P hs ops i r = true) : Front P hs ops o i r := by
  unfold front at h
  rw [ho] at h
  simp only [Bool.and_eq_true, Bool.not_eq_true'] at h
  obtain ⟨⟨⟨h1, h2⟩, h3⟩, h4⟩ := h
  refine ⟨isin_false.1 h1, fun e he hb => ?_, fun j hj hc d hd => ?_, fun hq j hj => ?_, fun hq j hj => ?_⟩
  · have := allL_iff.1 h2 e (Array.mem_toList_iff.2 he)
    rw [hb] at this
    simp only [Bool.not_true, Bool.false_or, Bool.and_eq_true, Bool.not_eq_true'] at this
    exact ⟨Nat.le_of_ble_eq_true this.1, isin_false.1 this.2⟩
  · have := allL_iff.1 h3 j hj
    rw [hc, beq_self, hd] at this
    exact sepB_spec (by simpa using this)
  · have hb : (Nat.beq (clsAt P hs ops i) 1 || Nat.beq (clsAt P hs ops i) 2) = true := by
      rcases hq with hq | hq <;> rw [hq] <;> rfl
    rw [hb, cond_true] at h4
    have := allL_iff.1 h4 j hj
    rw [Bool.or_eq_true] at this
    refine this.imp (isin_iff _ _).1 fun h5 oj hoj => ?_
    unfold apartAt at h5
    rw [hoj] at h5
    simp only [Bool.and_eq_true, Bool.or_eq_true] at h5
    exact ⟨apartB_spec h5.1, h5.2.imp Nat.eq_of_beq_eq_true fun h => Nat.le_of_ble_eq_true h⟩
  · have hb : (Nat.beq (clsAt P hs ops i) 1 || Nat.beq (clsAt P hs ops i) 2) = false := by
      have h1 : clsAt P hs ops i ≠ 1 := fun e => hq (.inl e)
      have h2 : clsAt P hs ops i ≠ 2 := fun e => hq (.inr e)
      rw [beq_false h1, beq_false h2]; rfl
    rw [hb, cond_false] at h4
    have := allL_iff.1 h4 j hj
    rw [Bool.or_eq_true] at this
    exact this.imp Nat.eq_of_beq_eq_true id

theorem front_some {i : Nat} {r : List Nat} (h : front P hs ops i r = true) : ∃ o, ops[i]? = some o := by
  unfold front at h
  cases ho : ops[i]? with
  | none => rw [ho] at h; cases h
  | some o => exact ⟨o, rfl⟩

theorem okOrd_cons {i : Nat} {r : List Nat} (h : okOrd P hs ops (i :: r) = true) : front P hs ops i r = true ∧ okOrd P hs ops r = true := by
  simp only [okOrd] at h
  cases hf : front P hs ops i r <;> rw [hf] at h
  · cases h
  · exact ⟨rfl, h⟩

theorem few_spec : ∀ {l : List Nat}, fewAllocs P hs ops l = true → ∀ j k, j ∈ l → k ∈ l → clsAt P hs ops j = 4 → clsAt P hs ops k = 4 → j = k
  | [], _, j, k, hj, _, _, _ => by cases hj
  | i :: r, h, j, k, hj, hk, cj, ck => by
    simp only [fewAllocs] at h
    cases hi : Nat.beq (clsAt P hs ops i) 4 with
    | true =>
      rw [hi, cond_true] at h
      have none : ∀ m ∈ r, clsAt P hs ops m ≠ 4 := fun m hm hc => by
        have := allL_iff.1 h m hm
        rw [hc] at this; cases this
      rcases List.mem_cons.1 hj with rfl | hj
      · rcases List.mem_cons.1 hk with rfl | hk
        · rfl
        · exact absurd ck (none _ hk)
      · exact absurd cj (none _ hj)
    | false =>
      rw [hi, cond_false] at h
      have hne : clsAt P hs ops i ≠ 4 := fun hc => by rw [hc] at hi; cases hi
      rcases List.mem_cons.1 hj with rfl | hj
      · exact absurd cj hne
      · rcases List.mem_cons.1 hk with rfl | hk
        · exact absurd ck hne
        · exact few_spec h j k hj hk cj ck
end

end Go.AM

namespace Go.AM

section
variable {P : Program} {hs : List Nat} {ops : Array Oper} {N : Nat} {gs : List Nat} {Q : Exit → Act → World → Prop} {K : S → Prop}

theorem quiet_step {F : Fr} {ι : Nat → Gh} {s : S} {a : Act} {w : World} (hr : Rel F N ι s a w) {o : Oper} (hd : ∀ k, o.dst = some k → k < N) {x : AOp} (hx : cOp P o.op o.type = some x) (hq : x.quiet = true)
    {g : Option (Nat × Bool)} (hg : cGuard ops.toList o.guard = some g) {isG : Bool} {drop : List Nat} {rest : List AI} (h : awpOps P (.mk o.dst g isG x drop :: rest) s K) :
    ∃ v ι' s', YC P ops (Cw x w) o v a ∧ Rel F N ι' s' (a.put o.dst v) w ∧ awpOps P rest s' K := by
  rcases step_sound hr hg h with ⟨hw, h1⟩ | ⟨hw, h1⟩
  · obtain ⟨v, ι', s1, h2, h3, h4⟩ := aopQ_sound hr hd hx hq h1
    obtain ⟨s2, h5, h6⟩ := split_sound h3 hd h4
    exact ⟨v, ι', _, .inl ⟨hw, h2⟩, h5.drop drop, h6⟩
  · exact ⟨undef, ι, _, .inr ⟨hw, rfl⟩, (hr.put o.dst hd undefV undef (VR_undef _ _ _)).drop drop, h1⟩

theorem heavy_step {F : Fr} {ι : Nat → Gh} {s : S} {a : Act} {w : World} (hr : Rel F N ι s a w) {i : Nat} {o : Oper} (ho : ops[i]? = some o) (hd : ∀ k, o.dst = some k → k < N) {x : AOp} (hx : cOpM P (isin i hs) o.op o.type = some x)
    (hc : clsAt P hs ops i = 0 ∨ clsAt P hs ops i = 3) {g : Option (Nat × Bool)} (hg : cGuard ops.toList o.guard = some g) {isG : Bool} {drop : List Nat} {rest : List AI} (h : awpOps P (.mk o.dst g isG x drop :: rest) s K)
    {next : Act → World → Prop} (hn : ∀ ι s' a' w', Rel F N ι s' a' w' → awpOps P rest s' K → (1 ≤ clsAt P hs ops i → Ext w w') → next a' w') : wpOp P ops Q i next a w := by
  unfold wpOp
  simp only [ho]
  rcases step_sound hr hg h with ⟨hw, h1⟩ | ⟨hw, h1⟩
  · rw [if_pos hw]
    refine .inl ?_
    rcases hc with hc | hc
    · refine cop_sound hr hd ⟨_, hx⟩ h1 _ _ fun ι1 s1 a1 w1 hr1 hk => ?_
      obtain ⟨s2, h5, h6⟩ := split_sound hr1 hd hk
      exact hn ι1 _ a1 w1 (h5.drop drop) h6 (fun h => by rw [hc] at h; omega)
    · refine aopX_sound hr hd (cls_call ho hx hc).1 (cls_call ho hx hc).2 h1 _ _ fun ι1 s1 a1 w1 hr1 hk he => ?_
      obtain ⟨s2, h5, h6⟩ := split_sound hr1 hd hk
      exact hn ι1 _ a1 w1 (h5.drop drop) h6 (fun _ => he)
  · rw [if_neg (by rw [hw]; simp)]
    exact hn ι _ _ w ((hr.put o.dst hd undefV undef (VR_undef _ _ _)).drop drop) h1 (fun _ => Ext.refl w)

/-- A new variable that has come up ahead of its turn. -/
structure Hid (P : Program) (hs : List Nat) (ops : Array Oper) (F F' : Fr) (k d b : Nat) : Prop where
  cl : clsAt P hs ops k = 4
  dst : dstOf ops k = some d
  under : Under F F' b
  row : ∃ o cs cur, ops[k]? = some o ∧ o.guard = none ∧ cOp P o.op o.type = some (.alloc cs) ∧ solid cs = true ∧ RowAt F'.w0 b cur ∧ ∀ ι w ok, CRs ι w ok cs (cur : Array Value).toList

def ptrV (b : Nat) : Value := .pointer (some ⟨b, 0, none⟩)

theorem front_ready {listed : Array Bool} {i : Nat} {r : List Nat} {hid : Nat → Bool} {o : Oper} (hl : Lst ops listed (i :: r) hid) (ho : ops[i]? = some o) (hf : Front P hs ops o i r) (hh : hid i = false) : i ∈ Region.ready .any ops listed := by
  have hlt : i < ops.size := (Array.getElem?_eq_some_iff.1 ho).1
  refine mem_ready.2 ⟨?_, o, ho, fun e he hb => ?_⟩
  · rw [Array.getD_eq_getD_getElem?, hl.2 i hlt, (isin_iff _ _).2 (List.mem_cons_self), hh]; rfl
  · obtain ⟨h1, h2⟩ := hf.pre e he hb
    rw [Array.getD_eq_getD_getElem?, hl.2 e.on h1, isin_false.2 h2]; rfl

theorem quiet_free {listed : Array Bool} {i : Nat} {r : List Nat} {hid : Nat → Bool} {o : Oper} {x : AOp} {w : World} (hl : Lst ops listed (i :: r) hid) (ho : ops[i]? = some o) (hx : cOpM P (isin i hs) o.op o.type = some x) (hf : Front P hs ops o i r) (hc : clsAt P hs ops i = 1 ∨ clsAt P hs ops i = 2) :
    ∀ j oj, ops[j]? = some oj → j ≠ i → listed.getD j true = false → j ∉ depsL P hs ops i r [] → Apart ops o oj ∧ ((∀ w', Cw x w w') ∨ 1 ≤ clsAt P hs ops j) := by
  intro j oj hoj hji hun hno
  have hlt : j < ops.size := (Array.getElem?_eq_some_iff.1 hoj).1
  have hjr : j ∈ r := by
    rw [Array.getD_eq_getD_getElem?, hl.2 j hlt] at hun
    simp only [Option.getD_some, Bool.or_eq_false_iff, Bool.not_eq_false'] at hun
    rcases List.mem_cons.1 ((isin_iff _ _).1 hun.1) with h | h
    · exact absurd h hji
    · exact h
  rcases hf.quiet hc j hjr with h | h
  · exact absurd h hno
  · obtain ⟨h1, h2⟩ := h oj hoj
    refine ⟨h1, h2.imp (fun h w' hr => ?_) id⟩
    rw [(cls_quiet ho hx hc).2.2 h] at hr
    cases hr

theorem deps_unlisted {listed : Array Bool} {i : Nat} {r : List Nat} {hid : Nat → Bool} (hl : Lst ops listed (i :: r) hid) (hh : ∀ j, j ∈ r → clsAt P hs ops j ≠ 4 → hid j = false) : ∀ j ∈ depsL P hs ops i r [], listed.getD j false = false := by
  intro j hj
  rcases deps_sub i r [] j hj with h | ⟨h1, h2⟩
  · cases h
  · cases hb : listed.getD j false with
    | false => rfl
    | true =>
      have := hl.unlisted hb (List.mem_cons_of_mem _ h1)
      rw [hh j h1 h2] at this
      cases this

theorem Cw.ext (x : AOp) (w : World) : ∀ w' w'', Cw x w w' → Ext w' w'' → Cw x w w'' := fun _ _ h k hr => (h hr).trans k
theorem Cw.refl (x : AOp) (w : World) : Cw x w w := fun _ => Ext.refl w

theorem draw_main {F : Fr} (hf : ∀ x, F.A x → x < F.w0.heap.size ∧ ¬ F.M x) (hh : (∀ x, F.M x → x < F.w0.heap.size) ∧ Glb F.A F.w0)
    (hQn : ∀ ι s a w, Rel F N ι s a w → K s → Q .normal a w) (hQp : ∀ c a w, ¬ Q (.panic c) a w) (hsel : ∀ (j : Nat) (o : Oper) cs b, ops[j]? = some o → o.op ≠ .select cs b)
    (ord : List Nat) (huniq : ∀ j k, j ∈ ord → k ∈ ord → clsAt P hs ops j = 4 → clsAt P hs ops k = 4 → j = k) :
    ∀ (rest : List Nat), (∀ j ∈ rest, j ∈ ord) → okOrd P hs ops rest = true → ∀ xs, cOps P N hs ops.toList gs rest = some (xs.map AI.erase) →
      (∀ (k d b : Nat) (F' : Fr) (fuel : Nat) (listed : Array Bool) (ι : Nat → Gh) (s : S) (a : Act) (w : World), k ∈ rest → Hid P hs ops F F' k d b → Lst ops listed rest (fun j => Nat.beq j k) → rest.length ≤ fuel + 1 →
        Rel F' N ι s a w → awpOps P xs s K → wpAnyX P hs ops Q fuel listed (a.put (some d) (ptrV b)) w) ∧
      (∀ (fuel : Nat) (listed : Array Bool) (ι : Nat → Gh) (s : S) (a : Act) (w : World), Lst ops listed rest (fun _ => false) → rest.length ≤ fuel →
        Rel F N ι s a w → awpOps P xs s K → wpAnyX P hs ops Q fuel listed a w) := by
  intro rest
  induction rest with
  | nil =>
    intro _ _ xs hxs
    cases xs with
    | cons x r => simp [cOps] at hxs
    | nil =>
      refine ⟨fun k d b F' fuel listed ι s a w hk => (by cases hk), fun fuel listed ι s a w hl _ hr h => ?_⟩
      have hno : Region.ready .any ops listed = [] := by
        cases hrd : Region.ready .any ops listed with
        | nil => rfl
        | cons j js => have := (hl.ready_in (j := j) (by rw [hrd]; exact List.mem_cons_self)).1; cases this
      cases fuel with
      | zero => exact ⟨hno, hQn ι s a w hr h⟩
      | succ fuel => exact ⟨fun _ => hQn ι s a w hr h, fun i hi => by rw [hno] at hi; cases hi⟩
  | cons i r ih =>
    intro hsub hok xs hxs
    obtain ⟨hfr, hokr⟩ := okOrd_cons hok
    obtain ⟨o, x, g, drop, rest, rfl, ho, hd, hx, hg, hrest⟩ := cOps_cons hxs
    have hF := front_spec ho hfr
    obtain ⟨ih2, ih1⟩ := ih (fun j hj => hsub j (List.mem_cons_of_mem _ hj)) hokr rest hrest
    have P2 : ∀ (k d b : Nat) (F' : Fr) (fuel : Nat) (listed : Array Bool) (ι : Nat → Gh) (s : S) (a : Act) (w : World), k ∈ i :: r → Hid P hs ops F F' k d b → Lst ops listed (i :: r) (fun j => Nat.beq j k) → (i :: r).length ≤ fuel + 1 →
        Rel F' N ι s a w → awpOps P (.mk o.dst g (isin i gs) x drop :: rest) s K → wpAnyX P hs ops Q fuel listed (a.put (some d) (ptrV b)) w := by
      intro k d b F' fuel listed ι s a w hk hhid hl hfuel hr h
      by_cases hik : i = k
      · -- the variable's own turn
        subst hik
        obtain ⟨o', cs, cur, ho', hgn, hcop, hsol, hrow, hcs⟩ := hhid.row
        rw [ho] at ho'; cases ho'
        have hxx : cOp P o.op o.type = some x := by
          rcases clsAt_cases (P := P) (hs := hs) ho with ⟨_, h1⟩ | ⟨h1, _⟩
          · rw [hhid.cl] at h1; cases h1
          · rw [h1] at hx; exact hx
        rw [hxx] at hcop; cases hcop
        rw [hgn] at hg
        simp only [cGuard, Option.some.injEq] at hg
        subst hg
        have hdst : o.dst = some d := by have := hhid.dst; unfold dstOf at this; rw [ho] at this; exact this
        rw [hdst] at h
        simp only [awpOps, aop, hsol, cond_true] at h
        obtain ⟨s2, h5, h6⟩ := split_sound (hr.unhide hhid.under hf hh hrow hcs (hd d hdst)) (fun k hk => by cases hk; exact hd d hdst) h
        rw [force_eq] at h6
        exact ih1 fuel listed _ _ _ w (hl.show hF.nin) (by simp at hfuel; exact hfuel) (h5.drop drop) h6
      · have hkr : k ∈ r := (List.mem_cons.1 hk).resolve_left (fun h => hik h.symm)
        have hdk : dstOf ops k = some d := hhid.dst
        obtain ⟨hs1, hs2⟩ := hF.sep k hkr hhid.cl d hdk
        have hir : i ∈ Region.ready .any ops listed := front_ready hl ho hF (beq_false hik)
        have hlen : 1 ≤ r.length := List.length_pos_of_mem hkr
        obtain ⟨f, rfl⟩ : ∃ f, fuel = f + 1 := ⟨fuel - 1, by simp at hfuel; omega⟩
        have hl' := hl.step hF.nin
        have hfuel' : r.length ≤ f + 1 := by simp at hfuel; omega
        by_cases hc : clsAt P hs ops i = 1 ∨ clsAt P hs ops i = 2
        · obtain ⟨v, ι', s', hy, hr', h'⟩ := quiet_step hr hd (cls_quiet ho hx hc).1 (cls_quiet ho hx hc).2.1 hg h
          have hy' : YC P ops (Cw x w) o v (a.put (some d) (ptrV b)) :=
            hy.of_same (execOp_put o (fun cs b => hsel i o cs b ho) a (some d) (ptrV b) (fun e he => by cases he; exact hs1)) (wanted_put o a (some d) (ptrV b) (fun e he => by cases he; exact hs1))
          refine wpAnyX_first ho hsel hQp (Cw.ext x w) (depsL P hs ops i r []) (deps_edge i r) f listed _ w (Cw.refl x w) (deps_unlisted hl (fun j _ h4 => beq_false (fun e => h4 (by rw [e]; exact hhid.cl)))) (quiet_free hl ho hx hF hc) hir hy' ?_
          rw [Go.Act.put_comm a (ptrV b) v (fun e he => by cases he; exact hs2)]
          exact ih2 k d b F' f _ ι' s' _ w hkr hhid hl' hfuel' hr' h'
        · have hc4 : clsAt P hs ops i ≠ 4 := fun e => hik (huniq i k (hsub i List.mem_cons_self) (hsub k hk) e hhid.cl)
          have hc03 : clsAt P hs ops i = 0 ∨ clsAt P hs ops i = 3 := by have := cls_le (P := P) (hs := hs) ho; omega
          refine ⟨fun he => (by rw [he] at hir; cases hir), fun j hj => ?_⟩
          obtain ⟨hj1, hj2⟩ := hl.ready_in hj
          have hji : j = i := by
            rcases List.mem_cons.1 hj1 with h | hjr
            · exact h
            · rcases hF.heavy hc j hjr with h4 | hw
              · have := huniq j k (hsub j hj1) (hsub k hk) h4 hhid.cl
                subst this
                simp at hj2
              · obtain ⟨n, hn1, hn2⟩ := ready_waits hj hw
                rw [Bool.and_eq_true] at hn1
                have hnk := Nat.eq_of_beq_eq_true (hl.unlisted hn2 ((isin_iff _ _).1 hn1.1))
                subst hnk
                rw [hhid.cl] at hn1
                have hni : n ≠ i := fun e => hik e.symm
                rw [beq_false hni] at hn1
                cases hn1.2
          subst hji
          refine wpOp_behind ho hs1 hs2 (fun cs b => hsel j o cs b ho) hQp ?_
          refine heavy_step hr ho hd hx hc03 hg h fun ι1 s1 a1 w1 hr1 h1 he => ⟨he, ?_⟩
          exact ih2 k d b F' f _ ι1 s1 a1 w1 hkr hhid hl' hfuel' hr1 h1
    refine ⟨P2, fun fuel listed ι s a w hl hfuel hr h => ?_⟩
    have hir : i ∈ Region.ready .any ops listed := front_ready hl ho hF rfl
    obtain ⟨f, rfl⟩ : ∃ f, fuel = f + 1 := ⟨fuel - 1, by simp at hfuel; omega⟩
    have hl' := hl.step hF.nin
    have hfuel' : r.length ≤ f := by simp at hfuel; omega
    by_cases hc : clsAt P hs ops i = 1 ∨ clsAt P hs ops i = 2
    · obtain ⟨v, ι', s', hy, hr', h'⟩ := quiet_step hr hd (cls_quiet ho hx hc).1 (cls_quiet ho hx hc).2.1 hg h
      refine wpAnyX_first ho hsel hQp (Cw.ext x w) (depsL P hs ops i r []) (deps_edge i r) f listed _ w (Cw.refl x w) (deps_unlisted hl (fun _ _ _ => rfl)) (quiet_free hl ho hx hF hc) hir hy ?_
      exact ih1 f _ ι' s' _ w hl' hfuel' hr' h'
    · refine ⟨fun he => (by rw [he] at hir; cases hir), fun j hj => ?_⟩
      obtain ⟨hj1, hj2⟩ := hl.ready_in hj
      by_cases hj4 : clsAt P hs ops j = 4
      · -- a new variable comes up ahead of its turn, or at it
        obtain ⟨_, oj, hoj, _⟩ := mem_ready.1 hj
        obtain ⟨cs, d, hcop, hsol, hgn, hdst⟩ := cls_alloc hoj hj4
        obtain ⟨t, cur, hcs, hrun⟩ := alloc_run hcop hsol
        have hnr := NewRow.alloc w cur t
        have hgr := Grows.alloc w cur t
        obtain ⟨F', hu, hw0, hr'⟩ := hr.hide hgr (by rw [hnr.size]; omega)
        unfold wpOp
        simp only [hoj]
        rw [if_pos (by simp [Region.wanted, hgn])]
        refine .inl ?_
        unfold Oper.wp
        rw [hrun a w, Oper.upon_value, hdst]
        refine ⟨fun _ => ⟨hgr.size, fun b hb => hgr.block b hb (fun h => h)⟩, ?_⟩
        exact P2 j d w.heap.size F' f _ ι s a _ hj1 ⟨hj4, by unfold dstOf; rw [hoj]; exact hdst, hu, oj, cs, cur, hoj, hgn, hcop, hsol, by rw [hw0]; exact ⟨t, hnr.new⟩, hcs⟩ hl.hide hfuel hr' h
      · have hji : j = i := by
          rcases List.mem_cons.1 hj1 with h | hjr
          · exact h
          · rcases hF.heavy hc j hjr with h4 | hw
            · exact absurd h4 hj4
            · obtain ⟨n, hn1, hn2⟩ := ready_waits hj hw
              rw [Bool.and_eq_true] at hn1
              have := hl.unlisted hn2 ((isin_iff _ _).1 hn1.1)
              cases this
        subst hji
        have hc03 : clsAt P hs ops j = 0 ∨ clsAt P hs ops j = 3 := by have := cls_le (P := P) (hs := hs) ho; omega
        refine heavy_step hr ho hd hx hc03 hg h fun ι1 s1 a1 w1 hr1 h1 he => ⟨he, ?_⟩
        exact ih1 f _ ι1 s1 a1 w1 hl' hfuel' hr1 h1

theorem follows_of_ok {ord : List Nat} (h : okDraw P hs ops ord = true) : P.follows .mixedOrders = true ∧ (∀ i, i < ops.size → i ∈ ord) ∧ ord.length ≤ ops.size ∧ fewAllocs P hs ops ord = true ∧ okOrd P hs ops ord = true := by
  unfold okDraw at h
  simp only [Bool.and_eq_true] at h
  obtain ⟨⟨⟨⟨h1, h2⟩, h3⟩, h4⟩, h5⟩ := h
  refine ⟨h1, fun i hi => ?_, Nat.le_of_ble_eq_true h3, h4, h5⟩
  have := allL_iff.1 h2 i (by rw [upFrom_eq]; simp [List.mem_range']; omega)
  exact (isin_iff _ _).1 this

theorem draw_sound {F : Fr} {ords : List (Nat × List Nat)} {id : Nat} {xs : List AI} (hc : cReg P N ords id ops true = some (.reg (xs.map AI.erase))) {QE : E → S → Prop} {ι : Nat → Gh} {s : S} {a : Act} {w : World}
    (hr : Rel F N ι s a w) (h : awp P (.reg xs) QE s) : (Code.region id ops true).wp P (up F N QE) a w := by
  simp only [cReg] at hc
  split at hc
  · split at hc
    · rcases bif_or hc with h | h
      · simp only [Option.map_eq_some_iff] at h
        obtain ⟨_, _, h⟩ := h
        cases h
      · cases h
    · cases hc
  split at hc
  case h_2 => cases hc
  rename_i ord _
  cases hok : okDraw P (marked ords id) ops ord with
  | false => rw [hok] at hc; cases hc
  | true =>
    rw [hok] at hc
    simp only [cond_true, Option.map_eq_some_iff, ACode.reg.injEq] at hc
    obtain ⟨ys, hcs, rfl⟩ := hc
    obtain ⟨h1, h2, h3, h4, h5⟩ := follows_of_ok hok
    refine wp_region_any h1 (wpAny_of_X (hs := marked ords id) _ _ _ _ ?_)
    have hsel : ∀ (j : Nat) (o : Oper) cs b, ops[j]? = some o → o.op ≠ .select cs b := by
      intro j o cs b ho he
      have hlt : j < ops.size := (Array.getElem?_eq_some_iff.1 ho).1
      obtain ⟨o', x, ho', hx⟩ := cOps_mem hcs j (h2 j hlt)
      rw [ho] at ho'; cases ho'
      rw [he] at hx
      cases hb : isin j (marked ords id) <;> rw [hb] at hx <;> cases hx
    have hr' : Rel F N ι s a { w with drawn := w.drawn + 1 } := hr.grown ⟨rfl, rfl, ⟨rfl, Nat.le_succ _⟩, Nat.le_refl _, fun _ _ _ => rfl, fun _ _ _ h => h⟩
    refine (draw_main (F := F) (hs := marked ords id) (K := QE .normal) (Q := up F N QE) (gs := guardIx ops.toList) hr.foreign hr.handed (fun ι s a w hr hk => ⟨ι, s, hr, hk⟩) (fun c a w h => h) hsel ord (few_spec h4) ord (fun _ h => h) h5 xs hcs).2 ops.size _ ι s a _ ?_ h3 hr' h
    refine ⟨by simp, fun j hj => ?_⟩
    rw [(isin_iff _ _).2 (h2 j hj)]
    simp [hj]
end

end Go.AM

namespace Go.AM

section
variable {P : Program} {hs : List Nat} {ops : Array Oper} {N : Nat} {gs : List Nat} {Q : Exit → Act → World → Prop}

theorem isin_rmv {i j : Nat} : ∀ {l : List Nat}, isin j (rmv i l) = (isin j l && !Nat.beq j i)
  | [] => rfl
  | x :: r => by
    have ih := isin_rmv (i := i) (j := j) (l := r)
    have hb : ∀ a b : Nat, (Nat.beq a b = true) = (a = b) := fun a b => propext ⟨Nat.eq_of_beq_eq_true, fun h => by rw [h]; exact beq_self b⟩
    by_cases hx : x = i
    · subst hx
      simp only [rmv, beq_self, cond_true, ih, isin]
      by_cases hj : x = j
      · subst hj; simp [beq_self]
      · rw [beq_false hj]; rfl
    · simp only [rmv, beq_false hx, cond_false, isin, ih]
      by_cases hj : x = j
      · subst hj; simp only [beq_self, cond_true, beq_false hx]; rfl
      · rw [beq_false hj]; rfl
theorem rmv_len {i : Nat} : ∀ {l : List Nat}, (rmv i l).length ≤ l.length ∧ (isin i l = true → (rmv i l).length < l.length)
  | [] => ⟨Nat.le_refl _, fun h => by cases h⟩
  | x :: r => by
    have ih := rmv_len (i := i) (l := r)
    by_cases hx : x = i
    · subst hx
      simp only [rmv, beq_self, cond_true, List.length_cons]
      exact ⟨by omega, fun _ => by omega⟩
    · simp only [rmv, beq_false hx, cond_false, List.length_cons, isin]
      exact ⟨by omega, fun h => by have := ih.2 h; omega⟩
theorem Lst.congr {listed : Array Bool} {r r' : List Nat} {hid : Nat → Bool} (h : Lst ops listed r hid) (e : ∀ j, isin j r = isin j r') : Lst ops listed r' hid :=
  ⟨h.1, fun j hj => by rw [← e j]; exact h.2 j hj⟩
theorem isin_cons_rmv {i : Nat} {rest : List Nat} (h : isin i rest = true) (j : Nat) : isin j rest = isin j (i :: rmv i rest) := by
  simp only [isin, isin_rmv]
  by_cases hj : i = j
  · subst hj; rw [beq_self, h]; rfl
  · rw [beq_false hj, beq_false (fun e => hj e.symm)]; simp

/-- What is to be shown once the operations rest are left, the state being one from which K can be come to. -/
def Left (P : Program) (hs : List Nat) (ops : Array Oper) (Q : Exit → Act → World → Prop) (F : Fr) (N : Nat) (rest : List Nat) (K : S → Prop) : Prop :=
  ∀ (fuel : Nat) (listed : Array Bool) (ι : Nat → Gh) (s : S) (a : Act) (w : World), Lst ops listed rest (fun _ => false) → rest.length ≤ fuel → Rel F N ι s a w → K s → wpAnyX P hs ops Q fuel listed a w

theorem front_step {F : Fr} (hQp : ∀ c a w, ¬ Q (.panic c) a w) (hsel : ∀ (j : Nat) (o : Oper) cs b, ops[j]? = some o → o.op ≠ .select cs b)
    {i : Nat} {r : List Nat} (hfr : front P hs ops i r = true) (hno : ∀ j ∈ i :: r, clsAt P hs ops j ≠ 4) {o : Oper} (ho : ops[i]? = some o) (hd : ∀ k, o.dst = some k → k < N) {x : AOp} (hx : cOpM P (isin i hs) o.op o.type = some x)
    {g : Option (Nat × Bool)} (hg : cGuard ops.toList o.guard = some g) {isG : Bool} {drop : List Nat} {rest : List AI} {K : S → Prop}
    {f : Nat} {listed : Array Bool} {ι : Nat → Gh} {s : S} {a : Act} {w : World} (hl : Lst ops listed (i :: r) (fun _ => false)) (hr : Rel F N ι s a w) (h : awpOps P (.mk o.dst g isG x drop :: rest) s K)
    (hn : ∀ ι' s' a' w', Rel F N ι' s' a' w' → awpOps P rest s' K → wpAnyX P hs ops Q f (listed.setIfInBounds i true) a' w') : wpAnyX P hs ops Q (f + 1) listed a w := by
  have hF := front_spec ho hfr
  have hir : i ∈ Region.ready .any ops listed := front_ready hl ho hF rfl
  by_cases hc : clsAt P hs ops i = 1 ∨ clsAt P hs ops i = 2
  · obtain ⟨v, ι', s', hy, hr', h'⟩ := quiet_step hr hd (cls_quiet ho hx hc).1 (cls_quiet ho hx hc).2.1 hg h
    refine wpAnyX_first ho hsel hQp (Cw.ext x w) (depsL P hs ops i r []) (deps_edge i r) f listed _ w (Cw.refl x w) (deps_unlisted hl (fun _ _ _ => rfl)) (quiet_free hl ho hx hF hc) hir hy ?_
    exact hn ι' s' _ w hr' h'
  · refine ⟨fun he => (by rw [he] at hir; cases hir), fun j hj => ?_⟩
    obtain ⟨hj1, hj2⟩ := hl.ready_in hj
    have hj4 := hno j hj1
    have hji : j = i := by
      rcases List.mem_cons.1 hj1 with h | hjr
      · exact h
      · rcases hF.heavy hc j hjr with h4 | hw
        · exact absurd h4 hj4
        · obtain ⟨n, hn1, hn2⟩ := ready_waits hj hw
          rw [Bool.and_eq_true] at hn1
          have := hl.unlisted hn2 ((isin_iff _ _).1 hn1.1)
          cases this
    subst hji
    have hc03 : clsAt P hs ops j = 0 ∨ clsAt P hs ops j = 3 := by have := cls_le (P := P) (hs := hs) ho; omega
    exact heavy_step hr ho hd hx hc03 hg h fun ι1 s1 a1 w1 hr1 h1 he => ⟨he, hn ι1 s1 a1 w1 hr1 h1⟩

/-- An operation that has come up is carried out. -/
theorem any_step {F : Fr} {i : Nat} (hno : clsAt P hs ops i ≠ 4) {o : Oper} (ho : ops[i]? = some o) (hd : ∀ k, o.dst = some k → k < N) {x : AOp} (hx : cOpM P (isin i hs) o.op o.type = some x)
    {g : Option (Nat × Bool)} (hg : cGuard ops.toList o.guard = some g) {isG : Bool} {drop : List Nat} {rest : List AI} {K : S → Prop}
    {ι : Nat → Gh} {s : S} {a : Act} {w : World} (hr : Rel F N ι s a w) (h : awpOps P (.mk o.dst g isG x drop :: rest) s K) {next : Act → World → Prop}
    (hn : ∀ ι' s' a' w', Rel F N ι' s' a' w' → awpOps P rest s' K → next a' w') : wpOp P ops Q i (fun a' w' => (1 ≤ clsAt P hs ops i → Ext w w') ∧ next a' w') a w := by
  by_cases hc : clsAt P hs ops i = 1 ∨ clsAt P hs ops i = 2
  · obtain ⟨v, ι', s', hy, hr', h'⟩ := quiet_step hr hd (cls_quiet ho hx hc).1 (cls_quiet ho hx hc).2.1 hg h
    exact hy.wpOp ho (Cw.refl x w) ⟨fun _ => Ext.refl w, hn ι' s' _ w hr' h'⟩
  · have hc03 : clsAt P hs ops i = 0 ∨ clsAt P hs ops i = 3 := by have := cls_le (P := P) (hs := hs) ho; omega
    exact heavy_step hr ho hd hx hc03 hg h fun ι1 s1 a1 w1 hr1 h1 he => ⟨he, hn ι1 s1 a1 w1 hr1 h1⟩

theorem run_main {F : Fr} (hQp : ∀ c a w, ¬ Q (.panic c) a w) (hsel : ∀ (j : Nat) (o : Oper) cs b, ops[j]? = some o → o.op ≠ .select cs b) (hno : ∀ j, isin j (upFrom 0 ops.size) = true → clsAt P hs ops j ≠ 4) {K : S → Prop} {f : List Nat → Bool}
    (hf : ∀ rest, f rest = true → (∀ j, isin j rest = true → clsAt P hs ops j ≠ 4) → Left P hs ops Q F N rest K) :
    ∀ (l rest : List Nat), okRun P hs ops l rest f = true → (∀ j, isin j rest = true → clsAt P hs ops j ≠ 4) → ∀ xs, cOps P N hs ops.toList gs l = some (xs.map AI.erase) → Left P hs ops Q F N rest (fun s => awpOps P xs s K) := by
  intro l
  induction l with
  | nil =>
    intro rest hok hcl xs hxs
    cases xs with
    | cons x r => simp [cOps] at hxs
    | nil => exact hf rest hok hcl
  | cons i l ih =>
    intro rest hok hcl xs hxs fuel listed ι s a w hl hfu hr h
    simp only [okRun] at hok
    cases hb : (isin i rest && front P hs ops i (rmv i rest)) with
    | false => rw [hb] at hok; cases hok
    | true =>
      rw [hb, cond_true] at hok
      rw [Bool.and_eq_true] at hb
      obtain ⟨hin, hfr⟩ := hb
      obtain ⟨o, x, g, drop, rest', rfl, ho, hd, hx, hg, hrest⟩ := cOps_cons hxs
      have hl' := hl.congr (isin_cons_rmv hin)
      have hlen := (rmv_len (i := i) (l := rest)).2 hin
      obtain ⟨f', rfl⟩ : ∃ f', fuel = f' + 1 := ⟨fuel - 1, by omega⟩
      have hni : i ∉ rmv i rest := isin_false.1 (by rw [isin_rmv, beq_self]; simp)
      refine front_step hQp hsel hfr (fun j hj => hcl j (by rw [isin_cons_rmv hin]; exact (isin_iff _ _).2 hj)) ho hd hx hg hl' hr h fun ι' s' a' w' hr' h' => ?_
      exact ih (rmv i rest) hok (fun j hj => hcl j (by rw [isin_rmv, Bool.and_eq_true] at hj; exact hj.1)) rest' hrest f' _ ι' s' a' w' (hl'.step hni) (by omega) hr' h'

theorem readyS_iff {listed : Array Bool} {rest : List Nat} (hl : Lst ops listed rest (fun _ => false)) {j : Nat} (hj : isin j rest = true) : readyS ops rest j = true ↔ j ∈ Region.ready .any ops listed := by
  constructor
  · intro h
    unfold readyS at h
    cases ho : ops[j]? with
    | none => rw [ho] at h; cases h
    | some o =>
      rw [ho] at h
      have hlt : j < ops.size := (Array.getElem?_eq_some_iff.1 ho).1
      refine mem_ready.2 ⟨?_, o, ho, fun e he hb => ?_⟩
      · rw [Array.getD_eq_getD_getElem?, hl.2 j hlt, hj]; rfl
      · have := allL_iff.1 h e (Array.mem_toList_iff.2 he)
        rw [hb] at this
        simp only [Bool.not_true, Bool.false_or, Bool.and_eq_true, Bool.not_eq_true'] at this
        rw [Array.getD_eq_getD_getElem?, hl.2 e.on (Nat.le_of_ble_eq_true this.1), this.2]; rfl
  · intro h
    obtain ⟨_, oj, hoj, hall⟩ := mem_ready.1 h
    unfold readyS
    rw [hoj]
    refine allL_iff.2 fun e he => ?_
    cases hbd : Region.binds .any e with
    | false => rfl
    | true =>
      have hli := hall e (Array.mem_toList_iff.1 he) hbd
      have hlt : e.on < ops.size := by
        rw [Array.getD_eq_getD_getElem?] at hli
        cases hx : listed[e.on]? with
        | none => rw [hx] at hli; cases hli
        | some b => rw [← hl.1]; exact (Array.getElem?_eq_some_iff.1 hx).1
      have hnin : isin e.on rest = false := by
        cases hin : isin e.on rest with
        | false => rfl
        | true => have := hl.unlisted hli ((isin_iff _ _).1 hin); cases this
      have hblt : Nat.blt e.on ops.size = true := Nat.ble_eq_true_of_le hlt
      rw [hnin, hblt]; rfl
theorem tree_main {F : Fr} (hQp : ∀ c a w, ¬ Q (.panic c) a w) (hsel : ∀ (j : Nat) (o : Oper) cs b, ops[j]? = some o → o.op ≠ .select cs b) (hno : ∀ j, isin j (upFrom 0 ops.size) = true → clsAt P hs ops j ≠ 4) {K : S → Prop}
    (hQn : ∀ ι s a w, Rel F N ι s a w → K s → Q .normal a w) :
    ∀ (t : Tr) (rest : List Nat) (x : ATr), cTree P N hs ops.toList gs t = some x.erase → (∀ j, isin j rest = true → clsAt P hs ops j ≠ 4) →
      (okTr P hs ops false t rest = true → Left P hs ops Q F N rest (fun s => atr P x s K)) ∧
      (okTr P hs ops true t rest = true → ∀ (f : Nat) (listed : Array Bool) (ι : Nat → Gh) (s : S) (a : Act) (w : World), Lst ops listed rest (fun _ => false) → rest.length ≤ f + 1 → Rel F N ι s a w → atr P x s K →
        ∀ j, isin j (heads t) = true → isin j rest = true → wpOp P ops Q j (fun a' w' => (1 ≤ clsAt P hs ops j → Ext w w') ∧ wpAnyX P hs ops Q f (listed.setIfInBounds j true) a' w') a w) := by
  intro t
  induction t with
  | fin =>
    intro rest x hx hcl
    cases x with
    | fin =>
      refine ⟨fun hok fuel listed ι s a w hl hfu hr h => ?_, fun hok f listed ι s a w hl hfu hr h j hj _ => by cases hj⟩
      cases rest with
      | cons y r => cases hok
      | nil =>
        have hno' : Region.ready .any ops listed = [] := by
          cases hrd : Region.ready .any ops listed with
          | nil => rfl
          | cons j js => have := (hl.ready_in (j := j) (by rw [hrd]; exact List.mem_cons_self)).1; cases this
        cases fuel with
        | zero => exact ⟨hno', hQn ι s a w hr h⟩
        | succ fuel => exact ⟨fun _ => hQn ι s a w hr h, fun i hi => by rw [hno'] at hi; cases hi⟩
    | run _ _ => cases hx
    | br _ _ => cases hx
  | run l t ih =>
    intro rest x hx hcl
    simp only [cTree] at hx
    split at hx
    case h_2 => cases hx
    rename_i xo xt hxo hxt
    cases x with
    | fin => cases hx
    | br _ _ => cases hx
    | run xs xt' =>
      simp only [ATr.erase, Option.some.injEq, ATr.run.injEq] at hx
      obtain ⟨rfl, rfl⟩ := hx
      have hcont : ∀ rest, okTr P hs ops false t rest = true → (∀ j, isin j rest = true → clsAt P hs ops j ≠ 4) → Left P hs ops Q F N rest (fun s => atr P xt' s K) := fun rest hok hcl => (ih rest xt' hxt hcl).1 hok
      refine ⟨fun hok => ?_, fun hok f listed ι s a w hl hfu hr h j hj hjr => ?_⟩
      · exact run_main hQp hsel hno hcont l rest hok hcl xs hxo
      · cases l with
        | nil => cases hok
        | cons i l =>
          have hji : j = i := by
            simp only [heads, isin] at hj
            cases hb : Nat.beq i j with
            | false => rw [hb] at hj; cases hj
            | true => exact (Nat.eq_of_beq_eq_true hb).symm
          subst hji
          simp only [okTr, Bool.and_eq_true] at hok
          obtain ⟨hin, hok⟩ := hok
          obtain ⟨o, y, g, drop, rest', rfl, ho, hd, hy, hg, hrest⟩ := cOps_cons hxo
          have hl' := hl.congr (isin_cons_rmv hin)
          have hlen := (rmv_len (i := j) (l := rest)).2 hin
          have hni : j ∉ rmv j rest := isin_false.1 (by rw [isin_rmv, beq_self]; simp)
          refine any_step (hcl j hin) ho hd hy hg hr h fun ι' s' a' w' hr' h' => ?_
          exact run_main hQp hsel hno hcont l (rmv j rest) hok (fun k hk => hcl k (by rw [isin_rmv, Bool.and_eq_true] at hk; exact hk.1)) rest' hrest f _ ι' s' a' w' (hl'.step hni) (by omega) hr' h'
  | br t1 t2 ih1 ih2 =>
    intro rest x hx hcl
    simp only [cTree] at hx
    split at hx
    case h_2 => cases hx
    rename_i x1 x2 hx1 hx2
    cases x with
    | fin => cases hx
    | run _ _ => cases hx
    | br y1 y2 =>
      simp only [ATr.erase, Option.some.injEq, ATr.br.injEq] at hx
      obtain ⟨rfl, rfl⟩ := hx
      have hB : okTr P hs ops true t1 rest = true → okTr P hs ops true t2 rest = true → ∀ (f : Nat) (listed : Array Bool) (ι : Nat → Gh) (s : S) (a : Act) (w : World), Lst ops listed rest (fun _ => false) → rest.length ≤ f + 1 → Rel F N ι s a w → atr P (.br y1 y2) s K →
          ∀ j, isin j (heads t1 ++ heads t2) = true → isin j rest = true → wpOp P ops Q j (fun a' w' => (1 ≤ clsAt P hs ops j → Ext w w') ∧ wpAnyX P hs ops Q f (listed.setIfInBounds j true) a' w') a w := by
        intro h1 h2 f listed ι s a w hl hfu hr h j hj hjr
        rcases List.mem_append.1 ((isin_iff _ _).1 hj) with hj | hj
        · exact (ih1 rest y1 hx1 hcl).2 h1 f listed ι s a w hl hfu hr h.1 j ((isin_iff _ _).2 hj) hjr
        · exact (ih2 rest y2 hx2 hcl).2 h2 f listed ι s a w hl hfu hr h.2 j ((isin_iff _ _).2 hj) hjr
      refine ⟨fun hok fuel listed ι s a w hl hfu hr h => ?_, fun hok => ?_⟩
      · simp only [okTr, Bool.and_eq_true, Bool.false_or] at hok
        obtain ⟨⟨h1, h2⟩, h4, h3⟩ := hok
        have hcov : ∀ j, j ∈ Region.ready .any ops listed → isin j rest = true ∧ isin j (heads t1 ++ heads t2) = true := fun j hj => by
          have hjr := (hl.ready_in hj).1
          have := allL_iff.1 h3 j hjr
          rw [(readyS_iff hl ((isin_iff _ _).2 hjr)).2 hj] at this
          exact ⟨(isin_iff _ _).2 hjr, by simpa using this⟩
        obtain ⟨k, hk, hk2⟩ := anyL_iff.1 h4
        have hkr := (readyS_iff hl ((isin_iff _ _).2 hk)).1 hk2
        cases fuel with
        | zero =>
          have hrn : rest = [] := List.eq_nil_of_length_eq_zero (by omega)
          rw [hrn] at hk; cases hk
        | succ f => exact ⟨fun he => (by rw [he] at hkr; cases hkr), fun j hj => hB h1 h2 f listed ι s a w hl hfu hr h j (hcov j hj).2 (hcov j hj).1⟩
      · simp only [okTr, Bool.and_eq_true, Bool.true_or] at hok
        exact hB hok.1.1 hok.1.2

theorem run_mem {f : List Nat → Bool} (hf : ∀ rest, f rest = true → ∀ j ∈ rest, ∃ o y, ops[j]? = some o ∧ cOpM P (isin j hs) o.op o.type = some y) : ∀ (l rest : List Nat), okRun P hs ops l rest f = true → ∀ xs : List AI, cOps P N hs ops.toList gs l = some (xs.map AI.erase) →
    ∀ j ∈ rest, ∃ o y, ops[j]? = some o ∧ cOpM P (isin j hs) o.op o.type = some y := by
  intro l
  induction l with
  | nil => intro rest hok _ _; exact hf rest hok
  | cons i l ih =>
    intro rest hok xs hxs j hj
    simp only [okRun] at hok
    cases hb : (isin i rest && front P hs ops i (rmv i rest)) with
    | false => rw [hb] at hok; cases hok
    | true =>
      rw [hb, cond_true] at hok
      obtain ⟨o, x, g, drop, rest', rfl, ho, hd, hx, hg, hrest⟩ := cOps_cons hxs
      by_cases hji : j = i
      · subst hji; exact ⟨o, x, ho, hx⟩
      · exact ih (rmv i rest) hok rest' hrest j ((isin_iff _ _).1 (by rw [isin_rmv, (isin_iff _ _).2 hj, beq_false hji]; rfl))
theorem tree_mem : ∀ (t : Tr) (b : Bool) (rest : List Nat) (x : ATr), okTr P hs ops b t rest = true → cTree P N hs ops.toList gs t = some x.erase → ∀ j ∈ rest, ∃ o y, ops[j]? = some o ∧ cOpM P (isin j hs) o.op o.type = some y := by
  intro t
  induction t with
  | fin =>
    intro b rest x hok hx j hj
    cases b with
    | true => cases hok
    | false => cases rest with
      | nil => cases hj
      | cons y r => cases hok
  | run l t ih =>
    intro b rest x hok hx
    simp only [cTree] at hx
    split at hx
    case h_2 => cases hx
    rename_i xo xt hxo hxt
    cases x with
    | fin => cases hx
    | br _ _ => cases hx
    | run xs xt' =>
      simp only [ATr.erase, Option.some.injEq, ATr.run.injEq] at hx
      obtain ⟨rfl, rfl⟩ := hx
      cases b with
      | false => exact run_mem (fun rest hok => ih false rest xt' hok hxt) l rest hok xs hxo
      | true =>
        cases l with
        | nil => cases hok
        | cons i l =>
          simp only [okTr, Bool.and_eq_true] at hok
          obtain ⟨hin, hok⟩ := hok
          obtain ⟨o, y, g, drop, rest', rfl, ho, hd, hy, hg, hrest⟩ := cOps_cons hxo
          intro j hj
          by_cases hji : j = i
          · subst hji; exact ⟨o, y, ho, hy⟩
          · exact run_mem (fun rest hok => ih false rest xt' hok hxt) l (rmv i rest) hok rest' hrest j ((isin_iff _ _).1 (by rw [isin_rmv, (isin_iff _ _).2 hj, beq_false hji]; rfl))
  | br t1 t2 ih1 ih2 =>
    intro b rest x hok hx
    simp only [cTree] at hx
    split at hx
    case h_2 => cases hx
    rename_i x1 x2 hx1 hx2
    cases x with
    | fin => cases hx
    | run _ _ => cases hx
    | br y1 y2 =>
      simp only [ATr.erase, Option.some.injEq, ATr.br.injEq] at hx
      obtain ⟨rfl, rfl⟩ := hx
      simp only [okTr, Bool.and_eq_true] at hok
      exact ih1 true rest y1 hok.1.1 hx1

theorem tree_sound {F : Fr} {ords : List (Nat × List Nat)} {id : Nat} {x : ATr} (hc : cReg P N ords id ops true = some (.tree x.erase)) {QE : E → S → Prop} {ι : Nat → Gh} {s : S} {a : Act} {w : World}
    (hr : Rel F N ι s a w) (h : awp P (.tree x) QE s) : (Code.region id ops true).wp P (up F N QE) a w := by
  simp only [cReg] at hc
  split at hc
  · rename_i l _
    split at hc
    · rename_i t _ _
      cases hok : okDrawT P (marked ords id) ops t with
      | false => rw [hok] at hc; cases hc
      | true =>
        rw [hok] at hc
        simp only [cond_true, Option.map_eq_some_iff, ACode.tree.injEq] at hc
        obtain ⟨y, hct, rfl⟩ := hc
        unfold okDrawT at hok
        simp only [Bool.and_eq_true] at hok
        obtain ⟨⟨h1, h2⟩, h3⟩ := hok
        have hno : ∀ j, isin j (upFrom 0 ops.size) = true → clsAt P (marked ords id) ops j ≠ 4 := fun j hj e => by
          have := allL_iff.1 h2 j ((isin_iff _ _).1 hj)
          rw [e] at this; cases this
        refine wp_region_any h1 (wpAny_of_X (hs := marked ords id) _ _ _ _ ?_)
        have hsel : ∀ (j : Nat) (o : Oper) cs b, ops[j]? = some o → o.op ≠ .select cs b := by
          intro j o cs b ho he
          have hlt : j < ops.size := (Array.getElem?_eq_some_iff.1 ho).1
          obtain ⟨o', x', ho', hx'⟩ := tree_mem t false (upFrom 0 ops.size) x h3 hct j (by rw [upFrom_eq]; simp [List.mem_range']; omega)
          rw [ho] at ho'; cases ho'
          rw [he] at hx'
          cases hb : isin j (marked ords id) <;> rw [hb] at hx' <;> cases hx'
        have hr' : Rel F N ι s a { w with drawn := w.drawn + 1 } := hr.grown ⟨rfl, rfl, ⟨rfl, Nat.le_succ _⟩, Nat.le_refl _, fun _ _ _ => rfl, fun _ _ _ h => h⟩
        refine ((tree_main (F := F) (hs := marked ords id) (K := QE .normal) (Q := up F N QE) (gs := guardIx ops.toList) (fun c a w h => h) hsel hno (fun ι s a w hr hk => ⟨ι, s, hr, hk⟩) t (upFrom 0 ops.size) x hct (fun j hj => hno j hj)).1 h3) ops.size _ ι s a _ ?_ (by rw [upFrom_eq]; simp) hr' h
        refine ⟨by simp, fun j hj => ?_⟩
        rw [(isin_iff _ _).2 (by rw [upFrom_eq]; simp [List.mem_range']; omega)]
        simp [hj]
    · cases hc
  · split at hc
    · rcases bif_or hc with h | h
      · simp only [Option.map_eq_some_iff] at h
        obtain ⟨_, _, h⟩ := h
        cases h
      · cases h
    · cases hc
end

end Go.AM

namespace Go.AM

theorem cReg_reg {P : Program} {N : Nat} {ords : List (Nat × List Nat)} {id : Nat} {ops : Array Oper} {d : Bool} {y : ACode} (h : cReg P N ords id ops d = some y) : (∃ xs, y = .reg xs) ∨ ∃ t, y = .tree t := by
  cases d
  · simp only [cReg, Option.map_eq_some_iff] at h
    obtain ⟨ys, _, rfl⟩ := h
    exact .inl ⟨ys, rfl⟩
  · simp only [cReg] at h
    split at h
    · split at h
      · rcases bif_or h with h | h
        · simp only [Option.map_eq_some_iff] at h
          obtain ⟨ys, _, rfl⟩ := h
          exact .inr ⟨ys, rfl⟩
        · cases h
      · cases h
    · split at h
      · rcases bif_or h with h | h
        · simp only [Option.map_eq_some_iff] at h
          obtain ⟨ys, _, rfl⟩ := h
          exact .inl ⟨ys, rfl⟩
        · cases h
      · cases h

section
variable {P : Program} {F : Fr} {N : Nat} {ords : List (Nat × List Nat)}

theorem awp_sound : ∀ (x : ACode) (c : Code), cCode P N ords c = some x.erase → ∀ (Q : E → S → Prop) (ι : Nat → Gh) (s : S) (a : Act) (w : World), Rel F N ι s a w → awp P x Q s → c.wp P (up F N Q) a w := by
  intro x
  induction x with
  | skip =>
    intro c hc Q ι s a w hr h
    cases c with
    | skip => exact wp_skip ⟨ι, s, hr, h⟩
    | label l => exact wp_label ⟨ι, s, hr, h⟩
    | region id ops d => rcases cReg_reg hc with ⟨xs, h⟩ | ⟨xs, h⟩ <;> simp [ACode.erase] at h
    | _ => (simp only [cCode] at hc; (repeat' split at hc) <;> simp_all [ACode.erase])
  | reg xs =>
    intro c hc Q ι s a w hr h
    cases c with
    | region id ops d =>
      cases d with
      | true => exact draw_sound (hc : cReg P N ords id ops true = some (.reg (xs.map AI.erase))) hr h
      | false =>
        have hc : cReg P N ords id ops false = some (.reg (xs.map AI.erase)) := hc
        simp only [cReg, Option.map_eq_some_iff, ACode.reg.injEq] at hc
        obtain ⟨ys, h1, rfl⟩ := hc
        refine wp_region ?_
        have := awpOps_sound (F := F) (K := Q .normal) (Q := up F N Q) (fun ι s a w hr hk => ⟨ι, s, hr, hk⟩) _ xs h1 ι s a w hr h
        rw [upFrom_eq, ← List.range_eq_range', Array.length_toList] at this
        exact this
    | _ => (simp only [cCode] at hc; (repeat' split at hc) <;> simp_all [ACode.erase])
  | seq x y ihx ihy =>
    intro c hc Q ι s a w hr h
    cases c with
    | seq c d =>
      simp only [cCode, ACode.erase] at hc
      split at hc
      · rename_i x' y' hx hy
        simp only [Option.some.injEq, ACode.seq.injEq] at hc
        obtain ⟨rfl, rfl⟩ := hc
        refine wp_seq (wp_mono (ihx c hx _ ι s a w hr h) ?_)
        intro e a' w' he
        cases e with
        | normal => obtain ⟨ι1, s1, hr1, h1⟩ := he; exact ihy d hy Q ι1 s1 a' w' hr1 h1
        | exit i => exact he
        | ret => exact he
        | _ => exact he.elim
      · cases hc
    | region id ops d => rcases cReg_reg hc with ⟨xs, h⟩ | ⟨xs, h⟩ <;> simp [ACode.erase] at h
    | _ => (simp only [cCode] at hc; (repeat' split at hc) <;> simp_all [ACode.erase])
  | cond o x y ihx ihy =>
    intro c hc Q ι s a w hr h
    cases c with
    | cond q c d =>
      simp only [cCode, ACode.erase] at hc
      split at hc
      · rename_i x' y' hx hy
        simp only [Option.some.injEq, ACode.cond.injEq] at hc
        obtain ⟨rfl, rfl, rfl⟩ := hc
        simp only [awp] at h
        split at h
        · rename_i t ht
          have hv := VR_o hr q
          rw [litBool_lit ht] at hv
          have hq : a.eval q = .bool t := hv.1
          refine wp_cond hq ?_
          cases t
          · exact ihy d hy Q ι s a w hr h
          · exact ihx c hx Q ι s a w hr h
        · exact h.elim
      · cases hc
    | region id ops d => rcases cReg_reg hc with ⟨xs, h⟩ | ⟨xs, h⟩ <;> simp [ACode.erase] at h
    | _ => (simp only [cCode] at hc; (repeat' split at hc) <;> simp_all [ACode.erase])
  | block i x ih =>
    intro c hc Q ι s a w hr h
    cases c with
    | block j c =>
      simp only [cCode, Option.map_eq_some_iff, ACode.erase, ACode.block.injEq] at hc
      obtain ⟨y, h1, rfl, rfl⟩ := hc
      refine wp_block (wp_mono (ih c h1 _ ι s a w hr h) ?_)
      intro e a' w' he
      cases e with
      | normal => exact he
      | exit k =>
        obtain ⟨ι1, s1, hr1, h1⟩ := he
        simp only [Exit.inBlock]
        by_cases hk : k = j
        · subst hk
          rw [if_pos rfl]
          simp only [beq_self, cond_true] at h1
          exact ⟨ι1, s1, hr1, h1⟩
        · rw [if_neg hk]
          simp only [beq_false hk, cond_false] at h1
          exact ⟨ι1, s1, hr1, h1⟩
      | ret => exact he
      | _ => exact he.elim
    | region id ops d => rcases cReg_reg hc with ⟨xs, h⟩ | ⟨xs, h⟩ <;> simp [ACode.erase] at h
    | _ => (simp only [cCode] at hc; (repeat' split at hc) <;> simp_all [ACode.erase])
  | loop keep x ih =>
    intro c hc Q ι s a w hr h
    cases c with
    | loop c =>
      simp only [cCode, Option.map_eq_some_iff, ACode.erase, ACode.loop.injEq, true_and] at hc
      obtain ⟨y, h1, rfl⟩ := hc
      obtain ⟨I, μ, h2, h3⟩ := h
      obtain ⟨t, ht, h2⟩ := h2
      rw [normP_eq] at h2
      obtain ⟨ιt, hrt⟩ := ht F N ι a w hr
      refine wp_loop_ix (σ := S) (fun s a w => (∃ ι, Rel F N ι s a w) ∧ I s) μ (t.norm keep) ⟨⟨ιt, hrt.norm keep⟩, h2⟩ ?_
      rintro s1 a1 w1 ⟨⟨ι1, hr1⟩, hi⟩
      refine wp_mono (ih c h1 _ ι1 s1 a1 w1 hr1 (h3 s1 hi)) ?_
      intro e a' w' he
      cases e with
      | normal =>
        obtain ⟨ι2, s2, hr2, h4⟩ := he
        obtain ⟨t2, ht2, h4⟩ := h4
        simp only [normP_eq] at h4
        obtain ⟨ι3, hr3⟩ := ht2 F N ι2 a' w' hr2
        exact ⟨t2.norm keep, ⟨⟨ι3, hr3.norm keep⟩, h4.1⟩, h4.2⟩
      | exit k => exact he
      | ret => exact he
      | _ => exact he.elim
    | region id ops d => rcases cReg_reg hc with ⟨xs, h⟩ | ⟨xs, h⟩ <;> simp [ACode.erase] at h
    | _ => (simp only [cCode] at hc; (repeat' split at hc) <;> simp_all [ACode.erase])
  | scope x ih =>
    intro c hc Q ι s a w hr h
    cases c with
    | scope c =>
      simp only [cCode, Option.map_eq_some_iff, ACode.erase, ACode.scope.injEq] at hc
      obtain ⟨y, h1, rfl⟩ := hc
      refine wp_scope_straight (wp_mono (ih c h1 _ ι s a w hr h) ?_)
      intro e a' w' he
      cases e with
      | normal => exact he
      | exit k => exact he
      | ret => exact he
      | _ => exact he.elim
    | region id ops d => rcases cReg_reg hc with ⟨xs, h⟩ | ⟨xs, h⟩ <;> simp [ACode.erase] at h
    | _ => (simp only [cCode] at hc; (repeat' split at hc) <;> simp_all [ACode.erase])
  | exit i =>
    intro c hc Q ι s a w hr h
    cases c with
    | exit j => simp only [cCode, ACode.erase, Option.some.injEq, ACode.exit.injEq] at hc; subst hc; exact wp_exit ⟨ι, s, hr, h⟩
    | region id ops d => rcases cReg_reg hc with ⟨xs, h⟩ | ⟨xs, h⟩ <;> simp [ACode.erase] at h
    | _ => (simp only [cCode] at hc; (repeat' split at hc) <;> simp_all [ACode.erase])
  | ret =>
    intro c hc Q ι s a w hr h
    cases c with
    | ret => exact wp_ret ⟨ι, s, hr, h⟩
    | region id ops d => rcases cReg_reg hc with ⟨xs, h⟩ | ⟨xs, h⟩ <;> simp [ACode.erase] at h
    | _ => (simp only [cCode] at hc; (repeat' split at hc) <;> simp_all [ACode.erase])
  | tree x =>
    intro c hc Q ι s a w hr h
    cases c with
    | region id ops d =>
      cases d with
      | true => exact tree_sound (hc : cReg P N ords id ops true = some (.tree x.erase)) hr h
      | false =>
        have hc : cReg P N ords id ops false = some (.tree x.erase) := hc
        simp only [cReg, Option.map_eq_some_iff] at hc
        obtain ⟨_, _, hc⟩ := hc
        cases hc
    | _ => (simp only [cCode] at hc; (repeat' split at hc) <;> simp_all [ACode.erase])
end

end Go.AM

namespace Go.AM

section
variable {P : Program} {F : Fr} {N : Nat} {ι : Nat → Gh} {s : S} {a : Act} {w : World}

/-! Packing. -/
theorem addAll_prefix {pl : List (Nat × Pl)} : ∀ (l U : List Nat), ∃ r, addAll pl U l = U ++ r
  | [], U => ⟨[], by simp [addAll]⟩
  | p :: r, U => by
    have step : ∃ r', (bif isin p U then addAll pl U r else addAll pl (U ++ [p]) r) = U ++ r' := by
      cases isin p U
      · obtain ⟨r', h⟩ := addAll_prefix (pl := pl) r (U ++ [p])
        exact ⟨p :: r', by simp only [cond_false, h, List.append_assoc, List.singleton_append]⟩
      · exact addAll_prefix r U
    unfold addAll
    split
    · exact step
    · exact step
    · exact addAll_prefix r U
theorem reach_prefix {pl : List (Nat × Pl)} : ∀ (n i : Nat) (U : List Nat), ∃ r, reach pl n i U = U ++ r
  | 0, _, U => ⟨[], by simp [reach]⟩
  | n + 1, i, U => by
    unfold reach
    split
    · split
      · rename_i cs _
        obtain ⟨r1, h1⟩ := addAll_prefix (pl := pl) (refsCs cs) U
        obtain ⟨r2, h2⟩ := reach_prefix (pl := pl) n (i + 1) (addAll pl U (refsCs cs))
        exact ⟨r1 ++ r2, by rw [h2, h1, List.append_assoc]⟩
      · exact reach_prefix n (i + 1) U
    · exact ⟨[], by simp⟩
theorem reached_prefix {pl : List (Nat × Pl)} (U l : List Nat) : ∃ r, reached pl U l = U ++ r := by
  obtain ⟨r1, h1⟩ := addAll_prefix (pl := pl) l U
  obtain ⟨r2, h2⟩ := reach_prefix (pl := pl) 40 0 (addAll pl U l)
  exact ⟨r1 ++ r2, by unfold reached; rw [h2, h1, List.append_assoc]⟩

theorem packV_sound (hr : Rel F N ι s a w) {U0 : List Nat} {ι0 : Nat → Gh} (h0 : ∀ i p x, U0[i]? = some p → aget s.pl p = some x → ι p = ι0 i) {x : V} {v : Value} (h : VR ι w (F.ok ι s.pl w) x v) : ResH F ι0 U0.length w (packV s.pl U0 x) v := by
  let U := reached s.pl U0 x.refs
  obtain ⟨ur, hU⟩ : ∃ r, U = U0 ++ r := reached_prefix U0 x.refs
  let ι' : Nat → Gh := fun k => ι (U.getD k 0)
  have hι : ∀ k p, U[k]? = some p → ι' k = ι p := fun k p hp => by simp only [ι', List.getD, hp, Option.getD_some]
  let plr := zipPl (upFrom 0 (pkPls s.pl U 0 U).length) (pkPls s.pl U 0 U)
  have hz : ∀ q y, aget plr q = some y → ∃ p, U[q]? = some p ∧ y = pkPl s.pl U q p ∧ y.isGone = false := fun q y hy => by
    obtain ⟨q', g1, g2, g3⟩ := zip_get _ _ _ _ hy
    rw [upFrom_get] at g1
    split at g1
    · cases g1
      rw [Nat.zero_add]
      rw [pkPls_get, Nat.zero_add] at g2
      cases hp : U[q']? with
      | none => rw [hp] at g2; cases g2
      | some p => rw [hp] at g2; simp at g2; exact ⟨p, rfl, g2.symm, g3⟩
    · cases g1
  have hkk : Keeps w w (F.ok ι s.pl w) (F.ok ι s.pl w) := fun b hb => ⟨hb, rfl⟩
  have hkeep : Keeps w w (F.ok ι s.pl w) (F.ok ι' plr w) := fun b hb => ⟨⟨hb.1, hb.2.1, fun ⟨q, y, h1, h2, h3⟩ => by
    obtain ⟨p, e1, e2, e3⟩ := hz q y h1
    subst e2
    obtain ⟨_, ⟨z, e4, e5⟩, _, _⟩ := pkPl_spec hr hkk hι e1 e3
    rw [hι q p e1] at h3
    exact hb.2.2 ⟨p, z, e4, e5, h3⟩⟩, rfl⟩
  have hz2 : ∀ q y, aget plr q = some y → ∃ p z, U[q]? = some p ∧ idx p U = some q ∧ aget s.pl p = some z ∧ z.live = true ∧ PR ι' w (F.ok ι' plr w) q y ∧ y.live = true := fun q y hy => by
    obtain ⟨p, e1, e2, e3⟩ := hz q y hy
    subst e2
    obtain ⟨g1, ⟨z, g2, g3⟩, g4, g5⟩ := pkPl_spec hr hkeep hι e1 e3
    exact ⟨p, z, e1, g1, g2, g3, g4, g5⟩
  refine ⟨?_, ι', VR_pk hr hkeep hι h, ?_, ?_, ?_, ?_, ?_⟩
  · show U0.length ≤ (pkPls s.pl U 0 U).length
    rw [pkPls_len, hU, List.length_append]; omega
  · intro q y hy
    obtain ⟨p, z, _, _, _, _, g, _⟩ := hz2 q y hy
    exact g
  · intro q q' y y' b hy hy' hqq hb hb'
    obtain ⟨p, z, e1, e2, e3, e4, _, _⟩ := hz2 q y hy
    obtain ⟨p', z', e5, e6, e7, e8, _, _⟩ := hz2 q' y' hy'
    rw [hι q p e1] at hb
    rw [hι q' p' e5] at hb'
    refine hr.inj p p' z z' b e3 e7 (fun e => hqq ?_) e4 hb hb'
    subst e
    rw [e2] at e6; cases e6; rfl
  · intro q y b hy hb
    obtain ⟨p, z, e1, e2, e3, e4, _, _⟩ := hz2 q y hy
    rw [hι q p e1] at hb
    exact (hr.mine b ⟨p, z, e3, e4, hb⟩).1
  · intro q y hy
    obtain ⟨p, z, _, _, _, _, _, g⟩ := hz2 q y hy
    exact g
  · intro q y hq hy
    obtain ⟨p, z, e1, e2, e3, e4, _, _⟩ := hz2 q y hy
    rw [hι q p e1]
    refine h0 q p z ?_ e3
    rw [hU, List.getElem?_append_left hq] at e1
    exact e1

/-! Results. -/
def resV (tmps : Array Value) : ResultVar → Sem Value
  | .tmp t => pure (tmps.getD t undef)
  | .cell x t => do loadVar t (← asAddr (tmps.getD x undef))

theorem results_eq (fn : Func) (tmps : Array Value) : results fn tmps = (do
    let vs ← fn.results.mapM (resV tmps)
    pure (if h : vs.size = 1 then vs[0] else .tuple vs)) := by
  unfold results
  congr 2

theorem retWs_sound (hr : Rel F N ι s a w) : ∀ {rs : List ResultVar} {xs : List ARes}, cRes P rs = some xs → ∀ {ws : List W}, retWs s xs = some ws →
    ∃ vs : List Value, (rs.mapM (resV a.tmps)).run P w = .ok vs w ∧ WRs ι w (F.ok ι s.pl w) ws vs
  | [], xs, hx, ws, h => by
    cases hx
    cases h
    exact ⟨[], by simp, trivial⟩
  | .tmp t :: rs, xs, hx, ws, h => by
    simp only [cRes, Option.map_eq_some_iff] at hx
    obtain ⟨ys, h1, rfl⟩ := hx
    simp only [retWs] at h
    split at h
    · rename_i u l hu hl
      cases h
      obtain ⟨vs, h2, h3⟩ := retWs_sound hr h1 hl
      simp only [retW] at hu
      split at hu
      · rename_i u' hu'
        cases hu
        have hv := VR_tmp hr t
        rw [hu'] at hv
        refine ⟨a.tmps.getD t undef :: vs, ?_, hv, h3⟩
        rw [List.mapM_cons]
        simp only [resV, Sem.run_bind, Sem.run_pure, Result.andThen_ok, h2]
      · cases hu
    · cases h
  | .cell x t :: rs, xs, hx, ws, h => by
    simp only [cRes] at hx
    split at hx
    · rename_i g ys hg h1
      cases hx
      simp only [retWs] at h
      split at h
      · rename_i u l hu hl
        cases h
        obtain ⟨vs, h2, h3⟩ := retWs_sound hr h1 hl
        simp only [retW] at hu
        split at hu
        · rename_i p off hp
          split at hu
          · rename_i cs hcs
            have hv := CR_o hr (.tmp x)
            have hv : CR ι w (F.ok ι s.pl w) (cOf (s.tmp x)) (a.tmps.getD x undef) := hv
            rw [hp] at hv
            obtain ⟨b, e1, e2⟩ := hv
            obtain ⟨b', cur, e3, e4, e5⟩ := hr.places p _ hcs
            rw [e1] at e3; cases e3
            obtain ⟨v, hv, hw⟩ := load_cells (b := b) (off := off) hg (CRs.drop off e5) (fun j v hv => by
              rw [e4.cell]; rw [List.getElem?_drop] at hv; simpa using hv) hu
            refine ⟨v :: vs, ?_, hw, h3⟩
            rw [List.mapM_cons]
            simp only [resV, e2, asAddr, Sem.run_bind, Sem.run_pure, Result.andThen_ok, hv w (Ext.refl w), h2]
          · rename_i ds hcs
            have hv := CR_o hr (.tmp x)
            have hv : CR ι w (F.ok ι s.pl w) (cOf (s.tmp x)) (a.tmps.getD x undef) := hv
            rw [hp] at hv
            obtain ⟨b, e1, e2⟩ := hv
            obtain ⟨b', e3, e4, e5⟩ := hr.places p _ hcs
            rw [e1] at e3; cases e3
            have e5 := RDc.drop off e5
            rw [Nat.zero_add] at e5
            obtain ⟨us, h4, h5⟩ := RDc.vals (ι := ι) e5
            obtain ⟨v, hv, hw⟩ := load_cells (b := b) (off := off) hg h4 h5 hu
            refine ⟨v :: vs, ?_, hw, h3⟩
            rw [List.mapM_cons]
            simp only [resV, e2, asAddr, Sem.run_bind, Sem.run_pure, Result.andThen_ok, hv w (Ext.refl w), h2]
          · cases hu
        · cases hu
      · cases h
    · cases hx

theorem results_sound (hr : Rel F N ι s a w) {fn : Func} {xs : List ARes} (hx : cRes P fn.results.toList = some xs) {v : V} (h : retV s xs = some v) :
    ∃ x, (results fn a.tmps).run P w = .ok x w ∧ VR ι w (F.ok ι s.pl w) v x := by
  unfold retV at h
  have key : ∀ ws, retWs s xs = some ws → ∃ vs : List Value, WRs ι w (F.ok ι s.pl w) ws vs ∧ (results fn a.tmps).run P w = .ok (if h : vs.toArray.size = 1 then vs.toArray[0] else .tuple vs.toArray) w := by
    intro ws hws
    obtain ⟨vs, h1, h2⟩ := retWs_sound hr hx hws
    refine ⟨vs, h2, ?_⟩
    rw [results_eq, ← Array.toArray_toList (xs := fn.results), List.mapM_toArray]
    simp only [Sem.run_bind, map_eq_pure_bind, h1, Sem.run_pure, Result.andThen_ok]
  split at h
  · rename_i u hu
    obtain ⟨vs, h1, h2⟩ := key _ hu
    cases h
    cases vs with
    | nil => exact h1.elim
    | cons v vs => cases vs with
      | nil => exact ⟨v, by simpa using h2, h1.1⟩
      | cons _ _ => exact h1.2.elim
  · rename_i ws hne hws
    obtain ⟨vs, h1, h2⟩ := key _ hws
    cases h
    refine ⟨.tuple vs.toArray, ?_, vs, rfl, h1⟩
    rw [h2]
    rw [dif_neg]
    intro hs
    cases vs with
    | nil => simp at hs
    | cons v vs => cases vs with
      | nil => cases ws with
        | nil => exact h1.elim
        | cons u us => cases us with
          | nil => exact hne _ rfl
          | cons _ _ => exact h1.2.elim
      | cons _ _ => simp at hs
  · cases h

theorem initSl_get : ∀ (l : List W) (i k : Nat) (v : V), aget (initSl i l) k = some v → ∃ x, v = .w x ∧ i ≤ k ∧ l[k - i]? = some x := by
  intro l
  induction l with
  | nil => intro i k v h; cases h
  | cons x r ih =>
    intro i k v h
    simp only [initSl, aget_cons] at h
    split at h
    · rename_i e
      subst e
      cases h
      exact ⟨x, rfl, Nat.le_refl _, by simp⟩
    · rename_i hne
      obtain ⟨y, h1, h2, h3⟩ := ih (i + 1) k v h
      exact ⟨y, h1, by omega, by rw [show k - i = (k - (i + 1)) + 1 by omega]; simpa using h3⟩

theorem WRs.get {ok : Nat → Prop} : ∀ {cs : List W} {vs : List Value} {i : Nat} {c : W}, WRs ι w ok cs vs → cs[i]? = some c → ∃ v, vs[i]? = some v ∧ WR ι w ok c v
  | [], _, i, _, _, h => by simp at h
  | _ :: _, [], _, _, h, _ => h.elim
  | c :: cs, v :: vs, 0, _, h, hc => by simp at hc; subst hc; exact ⟨v, rfl, h.1⟩
  | c :: cs, v :: vs, i + 1, _, h, hc => by simpa using WRs.get h.2 (by simpa using hc)
end

theorem numbered_get (hs : List Pl) (n p : Nat) : aget (numbered n hs) p = if n ≤ p then hs[p - n]? else none := aget_numbered hs n p

/-- **A function's contract, from what the machine computes.** -/
theorem SatH_of_awpFHat {n0 : Nat} (hn1 : 100000 ≤ n0) (hn2 : n0 + 1000 ≤ 600000) {P : Program} {ords : List (Nat × List Nat)} {k : Nat} {A : AFun} (hc : cFun P ords k = some A.erase) (hb : callable P k = true) {args : List W} {hs : List Pl} (hsl : hs.length ≤ 1000) {Q : Res → Prop} (h : awpFHat n0 P A args hs Q) : SatH P k args hs Q := by
  refine ⟨hb, fun w ok ι0 vals hok ⟨hhb, hglb⟩ hhp hinj hargs => ?_⟩
  unfold cFun at hc
  split at hc
  case h_2 => cases hc
  rename_i fn hf
  split at hc
  case h_2 => cases hc
  rename_i c hbody
  split at hc
  case h_2 => cases hc
  rename_i x r hx hr
  cases hN : Nat.ble fn.ntmps 5000 with
  | false => rw [hN] at hc; cases hc
  | true =>
  rw [hN] at hc
  have hN := Nat.le_of_ble_eq_true hN
  simp only [cond_true, AFun.erase, Option.some.injEq, AFun.mk.injEq] at hc
  obtain ⟨rfl, rfl⟩ := hc
  unfold awpFHat at h
  rw [force_eq] at h
  let ls : List (Option Nat) := (hnames n0 hs).map some
  have hls : ∀ q p, nthO ls q = some p → q < hs.length ∧ p = n0 + q := by
    have gen : ∀ (n i q p : Nat), nthO ((upFrom i n).map some) q = some p → q < n ∧ p = i + q := by
      intro n
      induction n with
      | zero => intro i q p h; simp [upFrom, nthO] at h
      | succ n ih =>
        intro i q p h
        cases q with
        | zero => simp only [upFrom, List.map_cons, nthO, Option.some.injEq] at h; omega
        | succ q =>
          simp only [upFrom, List.map_cons, nthO] at h
          have := ih (i + 1) q p h
          omega
    exact gen hs.length n0
  let ιc : Nat → Gh := fun p => if n0 ≤ p then ι0 (p - n0) else ⟨none, 0⟩
  have hιc : ∀ q p, nthO ls q = some p → ιc p = ι0 q := fun q p hq => by
    obtain ⟨_, rfl⟩ := hls q p hq
    simp only [ιc, if_pos (by omega : n0 ≤ n0 + q)]
    congr 1; omega
  let F : Fr := ⟨w, ok, Handed ι0 hs, fun p => if n0 ≤ p ∧ p < n0 + hs.length then some (ι0 (p - n0)) else none⟩
  let pl0 := numbered n0 (hs.map (Pl.ren ls))
  have hpl0 : ∀ p y, aget pl0 p = some y → ∃ q x, p = n0 + q ∧ hs[q]? = some x ∧ y = x.ren ls ∧ ιc p = ι0 q := fun p y hy => by
    have hy : aget (numbered n0 (hs.map (Pl.ren ls))) p = some y := hy
    rw [aget_numbered] at hy
    split at hy
    · rename_i hle
      rw [List.getElem?_map] at hy
      cases hq : hs[p - n0]? with
      | none => rw [hq] at hy; cases hy
      | some x =>
        rw [hq] at hy; simp at hy; subst hy
        exact ⟨p - n0, x, by omega, hq, rfl, by simp only [ιc, if_pos hle]⟩
    · cases hy
  have hkeep : Keeps w w ok (F.ok ιc pl0 w) := fun b hb => ⟨⟨.inl hb, (hok b hb).1, fun ⟨p, y, h1, h2, h3⟩ => by
    obtain ⟨q, x, rfl, e1, rfl, e2⟩ := hpl0 p y h1
    rw [e2] at h3
    exact (hok b hb).2 ⟨q, x, e1, h3⟩⟩, rfl⟩
  have hrel : Rel F fn.ntmps ιc ⟨initSl 0 (args.map (W.ren ls)), pl0⟩ { tmps := vals.toArray ++ Array.replicate (fn.ntmps - vals.toArray.size) undef, defers := [] } w := by
    refine ⟨by simp; omega, fun i v hv => ?_, fun p y hy => ?_, fun p q y z b hy hz hpq hl hb => ?_, fun b ⟨p, y, h1, h2, h3⟩ => ?_, rfl, Grows.refl _ _, fun b hb => ⟨(hok b hb).1, (hok b hb).2⟩, ⟨fun b hb => hhb b hb, hglb⟩, hN, fun p g hg => ?_, fun p y g hy hg => ?_⟩
    · obtain ⟨x, rfl, _, h1⟩ := initSl_get (args.map (W.ren ls)) 0 i v hv
      obtain ⟨y, h2, h3⟩ := WRs.get (WRs_ren hkeep hιc hargs) h1
      simp only [Nat.sub_zero] at h2
      have hlt : i < vals.length := (List.getElem?_eq_some_iff.1 h2).1
      exact ⟨y, by simpa [Array.getElem?_append, hlt] using h2, h3⟩
    · obtain ⟨q, x, rfl, e1, rfl, e2⟩ := hpl0 p y hy
      exact PR_ren hkeep hιc e2 (hhp q x e1).1
    · obtain ⟨q1, x1, rfl, e1, rfl, e2⟩ := hpl0 p y hy
      obtain ⟨q2, x2, rfl, e3, rfl, e4⟩ := hpl0 q z hz
      rw [e2] at hb
      rw [e4]
      exact hinj q1 q2 x1 x2 b e1 e3 (fun e => hpq (by rw [e])) hb
    · obtain ⟨q, x, rfl, e1, rfl, e2⟩ := hpl0 p y h1
      rw [e2] at h3
      exact ⟨.inl ⟨q, x, e1, h3⟩, hhb b ⟨q, x, e1, h3⟩⟩
    · simp only [F] at hg
      split at hg
      · rename_i hp; omega
      · cases hg
    · obtain ⟨q, x, rfl, e1, rfl, e2⟩ := hpl0 p y hy
      simp only [F] at hg
      split at hg
      · cases hg; rw [e2]; congr 1; omega
      · cases hg
  refine calls_of_wp hf hbody (wp_mono (awp_sound A.code c hx _ _ _ _ _ hrel h) ?_)
  have fin : ∀ ι s a' w', Rel F fn.ntmps ι s a' w' → retQ A.res (hnames n0 hs) Q s → a'.defers = [] ∧ ∃ v, (results fn a'.tmps).run P w' = .ok v w' ∧ ∃ v' r, Ending.returned v = .returned v' ∧ Q r ∧ ResH ⟨w, ok, Handed ι0 hs, fun _ => none⟩ ι0 hs.length w' r v' ∧ Grows (Handed ι0 hs) w w' := by
    intro ι s a' w' hr1 hq
    unfold retQ at hq
    split at hq
    · rename_i v hv
      obtain ⟨x, h1, h2⟩ := results_sound hr1 hr hv
      have hp := packV_sound hr1 (U0 := hnames n0 hs) (ι0 := ι0) (fun i p y hi hy => by
        have hi : (upFrom n0 hs.length)[i]? = some p := hi
        rw [upFrom_get] at hi
        split at hi
        · rename_i hlt
          cases hi
          refine hr1.hkeep _ y _ hy ?_
          simp only [F]
          rw [if_pos ⟨by omega, by omega⟩]
          congr 2; omega
        · cases hi) h2
      have hlen : (hnames n0 hs).length = hs.length := upFrom_len _ _
      rw [hlen] at hp
      exact ⟨hr1.defers, x, h1, x, _, rfl, hq, hp, hr1.grows⟩
    · exact hq.elim
  intro e a' w' he
  cases e with
  | normal => obtain ⟨ι, s, hr1, hq⟩ := he; exact fin ι s a' w' hr1 hq
  | ret => obtain ⟨ι, s, hr1, hq⟩ := he; exact fin ι s a' w' hr1 hq
  | exit i => obtain ⟨_, _, _, hq⟩ := he; exact hq.elim
  | _ => exact he.elim

theorem SatH_of_awpFH {P : Program} {ords : List (Nat × List Nat)} {k : Nat} {A : AFun} (hc : cFun P ords k = some A.erase) (hb : callable P k = true) {args : List W} {hs : List Pl} (hsl : hs.length ≤ 1000) {Q : Res → Prop} (h : awpFH P A args hs Q) : SatH P k args hs Q :=
  SatH_of_awpFHat (n0 := 100000) (Nat.le_refl _) (Nat.le_of_ble_eq_true rfl) hc hb hsl h

theorem ren_none : ∀ (c : C), c.refs = [] → c.ren [] = c ∨ c.ren [] = .dead := by
  intro c h
  cases c with
  | clo f caps => cases caps with
    | nil => exact .inl rfl
    | cons _ _ => exact .inr rfl
  | ptr _ _ => cases h
  | eptr _ _ _ _ => cases h
  | own _ _ _ => cases h
  | sub _ _ _ _ => cases h
  | _ => exact .inl rfl

theorem Sat_of_awpF {P : Program} {ords : List (Nat × List Nat)} {k : Nat} {A : AFun} (hc : cFun P ords k = some A.erase) (hb : callable P k = true) {args : List W} {Q : Res → Prop} (h : awpF P A args Q) : Sat P k args Q := by
  refine ⟨hb, fun w ok vals ⟨hok, hglb⟩ hargs => ?_⟩
  unfold cFun at hc
  split at hc
  case h_2 => cases hc
  rename_i fn hf
  split at hc
  case h_2 => cases hc
  rename_i c hbody
  split at hc
  case h_2 => cases hc
  rename_i x r hx hr
  cases hN : Nat.ble fn.ntmps 5000 with
  | false => rw [hN] at hc; cases hc
  | true =>
  rw [hN] at hc
  have hN := Nat.le_of_ble_eq_true hN
  simp only [cond_true, AFun.erase, Option.some.injEq, AFun.mk.injEq] at hc
  obtain ⟨rfl, rfl⟩ := hc
  unfold awpF at h
  rw [force_eq] at h
  let F : Fr := ⟨w, ok, fun _ => False, fun _ => none⟩
  have hrel : Rel F fn.ntmps (fun _ => ⟨none, 0⟩) ⟨initSl 0 args, []⟩ { tmps := vals.toArray ++ Array.replicate (fn.ntmps - vals.toArray.size) undef, defers := [] } w := by
    refine ⟨by simp; omega, fun i v hv => ?_, fun p x hx => (by cases hx), fun p q x y b hx => (by cases hx), fun b ⟨p, x, hx, _⟩ => (by cases hx), rfl, Grows.refl _ _, fun b hb => ⟨hok b hb, fun h => h⟩, ⟨fun b hb => hb.elim, hglb⟩, hN, fun p g hg => (by cases hg), fun p x g hx => (by cases hx)⟩
    obtain ⟨x, rfl, _, h1⟩ := initSl_get args 0 i v hv
    obtain ⟨y, h2, h3⟩ := WRs.get hargs h1
    simp only [Nat.sub_zero] at h2
    have hlt : i < vals.length := (List.getElem?_eq_some_iff.1 h2).1
    refine ⟨y, by simpa [Array.getElem?_append, hlt] using h2, ?_⟩
    exact WR.keep (fun b hb => ⟨⟨.inl hb, hok b hb, fun ⟨p, x, hx, _⟩ => by cases hx⟩, rfl⟩) (Shapes.refl w) x y h3
  refine calls_of_wp hf hbody (wp_mono (awp_sound A.code c hx _ _ _ _ _ hrel h) ?_)
  have fin : ∀ ι s a' w', Rel F fn.ntmps ι s a' w' → retQ A.res [] Q s → a'.defers = [] ∧ ∃ v, (results fn a'.tmps).run P w' = .ok v w' ∧ ∃ v' r, Ending.returned v = .returned v' ∧ Q r ∧ ResR F w' r v' ∧ Grows (fun _ => False) w w' := by
    intro ι s a' w' hr1 hq
    unfold retQ at hq
    split at hq
    · rename_i v hv
      obtain ⟨x, h1, h2⟩ := results_sound hr1 hr hv
      exact ⟨hr1.defers, x, h1, x, _, rfl, hq, packV_sound hr1 (U0 := []) (fun i p y hi => by simp at hi) h2, hr1.grows⟩
    · exact hq.elim
  intro e a' w' he
  cases e with
  | normal => obtain ⟨ι, s, hr1, hq⟩ := he; exact fin ι s a' w' hr1 hq
  | ret => obtain ⟨ι, s, hr1, hq⟩ := he; exact fin ι s a' w' hr1 hq
  | exit i => obtain ⟨_, _, _, hq⟩ := he; exact hq.elim
  | _ => exact he.elim

end Go.AM

namespace Go.AM

/-! A result as data: its own leaves are given up. -/
def C.asData (pl : List Pl) : C → C
  | .own q _ n => match pl[q]? with
    | some (.arr _ els _) => .d (.sl (els.take n))
    | _ => .dead
  | .nil => .d (.sl [])
  | .sub _ _ _ _ => .dead
  | x => x
def W.asData (pl : List Pl) : W → W | .c x => .c (x.asData pl) | .agg cs => .agg (cs.map (C.asData pl))
def V.asData (pl : List Pl) : V → V | .w x => .w (x.asData pl) | .tup xs => .tup (xs.map (W.asData pl))
def Res.asData (r : Res) : Res := ⟨r.v.asData r.pl, []⟩

section
variable {F : Fr} {w : World} {ι : Nat → Gh} {pl : List Pl}

theorem zip_up (pl : List Pl) (q : Nat) (x : Pl) : aget (zipPl (upFrom 0 pl.length) pl) q = some x ↔ pl[q]? = some x ∧ x.isGone = false := by
  constructor
  · intro h
    obtain ⟨q', g1, g2, g3⟩ := zip_get _ _ _ _ h
    rw [upFrom_get] at g1
    split at g1
    · cases g1; rw [Nat.zero_add]; exact ⟨g2, g3⟩
    · cases g1
  · rintro ⟨g1, g2⟩
    have hlt : q < pl.length := (List.getElem?_eq_some_iff.1 g1).1
    have hup : (upFrom 0 pl.length)[q]? = some q := by rw [upFrom_get, if_pos hlt, Nat.zero_add]
    have := zip_there _ _ q q x hup g1 g2
    cases hz : aget (zipPl (upFrom 0 pl.length) pl) q with
    | none => exact absurd hz this
    | some y =>
      obtain ⟨q', g3, g4, g5⟩ := zip_get _ _ _ _ hz
      rw [upFrom_get] at g3
      split at g3
      · cases g3; rw [Nat.zero_add] at g1; rw [g1] at g4; cases g4; rfl
      · cases g3

theorem CR_asData (hpl : ∀ p x, aget (zipPl (upFrom 0 pl.length) pl) p = some x → PR ι w (F.ok ι (zipPl (upFrom 0 pl.length) pl) w) p x) (hin : ∀ p x b, aget (zipPl (upFrom 0 pl.length) pl) p = some x → (ι p).b = some b → F.M b ∨ F.w0.heap.size ≤ b)
    (hsh : ∀ p x, aget (zipPl (upFrom 0 pl.length) pl) p = some x → x.live = true) (ι' : Nat → Gh) {c : C} {v : Value} (h : CR ι w (F.ok ι (zipPl (upFrom 0 pl.length) pl) w) c v) (hd : ∀ p o, c ≠ .ptr p o) (he : ∀ p z i k, c ≠ .eptr p z i k) (hcl : ∀ f p ps, c ≠ .clo f (p :: ps)) :
    CR ι' w (F.ok ι' [] w) (c.asData pl) v := by
  have hk : Keeps w w (F.ok ι (zipPl (upFrom 0 pl.length) pl) w) (F.ok ι' [] w) := fun b hb => ⟨⟨hb.1, hb.2.1, fun ⟨_, _, h, _⟩ => by cases h⟩, rfl⟩
  cases c with
  | d x => exact RD.keep hk _ _ h
  | nil =>
    have h : v = .slice none 0 0 := h
    simp only [C.asData, CR, RD]
    exact ⟨none, 0, 0, h, rfl, Nat.le_refl _, Nat.zero_le _, .inl trivial⟩
  | own q sz n =>
    simp only [C.asData]
    split
    · rename_i z els fz hq
      have hq' : aget (zipPl (upFrom 0 pl.length) pl) q = some (.arr z els fz) := (zip_up pl q _).2 ⟨hq, rfl⟩
      obtain ⟨h0, hn, hpr⟩ := hpl q _ hq'
      simp only [CR, RD]
      rcases h with ⟨h1, h2, h3⟩ | ⟨b, cap, t, h1, h2, h3, h4, h5, h6⟩
      · subst h2; exact ⟨none, 0, 0, h3, by simp, Nat.le_refl _, Nat.zero_le _, .inl (by simp)⟩
      · rcases hpr with ⟨e, _⟩ | ⟨b', e1, e2, e3, e4⟩
        · rw [h1] at e; cases e
        · rw [h1] at e1; cases e1
          have hfz : fz = false := by
            have := hsh q _ hq'
            cases fz
            · rfl
            · cases this
          subst hfz
          obtain ⟨cur, e5, _⟩ := e4 rfl
          refine ⟨_, n, cap, h3, by rw [List.length_take]; omega, h4, h5, .inr ⟨b, 0, z, rfl, ⟨.inr (hin q _ b hq' h1), e5.lt, fun ⟨_, _, h, _⟩ => by cases h⟩, ?_⟩⟩
          exact RDs.take n (RDs.keep' hk b z els 0 (fun _ _ _ => rfl) e2)
    · trivial
  | dead => trivial
  | sub _ _ _ _ => trivial
  | fp l =>
    exact CR.keep (ι := ι') hk (Shapes.refl w) (.fp l) v h
  | clo f caps => cases caps with
    | nil => exact h
    | cons p ps => exact absurd rfl (hcl f p ps)
  | ptr p o => exact absurd rfl (hd p o)
  | eptr p z i k => exact absurd rfl (he p z i k)

def C.plain : C → Bool | .ptr _ _ => false | .eptr _ _ _ _ => false | .clo _ (_ :: _) => false | _ => true
def W.plain : W → Bool | .c x => x.plain | .agg cs => cs.all C.plain
def V.plain : V → Bool | .w x => x.plain | .tup xs => xs.all W.plain

theorem ResR.asData {r : Res} {v : Value} (h : ResR F w r v) (hp : r.v.plain = true) : ResR F w r.asData v := by
  obtain ⟨_, ι, h1, h2, h3, h4, h5, _⟩ := h
  have hC : ∀ {c : C} {v : Value}, CR ι w (F.ok ι (zipPl (upFrom 0 r.pl.length) r.pl) w) c v → c.plain = true → CR ι w (F.ok ι [] w) (c.asData r.pl) v := fun {c v} hc hp =>
    CR_asData h2 h4 h5 ι hc (fun p o e => by rw [e] at hp; cases hp) (fun p z i k e => by rw [e] at hp; cases hp) (fun f p ps e => by rw [e] at hp; cases hp)
  have hCs : ∀ (cs : List C) (vs : List Value), CRs ι w (F.ok ι (zipPl (upFrom 0 r.pl.length) r.pl) w) cs vs → cs.all C.plain = true → CRs ι w (F.ok ι [] w) (cs.map (C.asData r.pl)) vs := by
    intro cs
    induction cs with
    | nil => intro vs h _; cases vs with | nil => trivial | cons _ _ => exact h.elim
    | cons c cs ih =>
      intro vs h hp
      cases vs with
      | nil => exact h.elim
      | cons v vs =>
        rw [List.all_cons, Bool.and_eq_true] at hp
        exact ⟨hC h.1 hp.1, ih vs h.2 hp.2⟩
  have hW : ∀ {x : W} {v : Value}, WR ι w (F.ok ι (zipPl (upFrom 0 r.pl.length) r.pl) w) x v → x.plain = true → WR ι w (F.ok ι [] w) (x.asData r.pl) v := fun {x v} hx hp => by
    cases x with
    | c c => exact hC hx hp
    | agg cs => obtain ⟨vs, e, h⟩ := hx; exact ⟨vs, e, hCs cs vs h hp⟩
  have hWs : ∀ (cs : List W) (vs : List Value), WRs ι w (F.ok ι (zipPl (upFrom 0 r.pl.length) r.pl) w) cs vs → cs.all W.plain = true → WRs ι w (F.ok ι [] w) (cs.map (W.asData r.pl)) vs := by
    intro cs
    induction cs with
    | nil => intro vs h _; cases vs with | nil => trivial | cons _ _ => exact h.elim
    | cons c cs ih =>
      intro vs h hp
      cases vs with
      | nil => exact h.elim
      | cons v vs =>
        rw [List.all_cons, Bool.and_eq_true] at hp
        exact ⟨hW h.1 hp.1, ih vs h.2 hp.2⟩
  refine ⟨Nat.zero_le _, ι, ?_, fun p x h => (by cases h), fun p q x y b h => (by cases h), fun p x b h => (by cases h), fun p x h => (by cases h), fun p x h => (by cases h)⟩
  obtain ⟨v', pl'⟩ := r
  cases v' with
  | w x => exact hW h1 hp
  | tup xs => obtain ⟨vs, e, h⟩ := h1; exact ⟨vs, e, hWs xs vs h hp⟩
end

/-- A contract whose results are data. -/
theorem Sat.data {P : Program} {k : Nat} {args : List W} {Q Q' : Res → Prop} (h : Sat P k args Q) (hq : ∀ r, Q r → r.v.plain = true ∧ Q' r.asData) : Sat P k args Q' :=
  ⟨h.1, fun w A vals h1 h2 => (h.2 w A vals h1 h2).mono fun _ _ ⟨v, r, he, h3, h4, h5⟩ => ⟨v, r.asData, he, (hq r h3).2, h4.asData (hq r h3).1, h5⟩⟩

theorem cond_i {b : Bool} {X Y : Prop} (h1 : b = true → X) (h2 : b = false → Y) : cond b X Y := by cases b; exact h2 rfl; exact h1 rfl

end Go.AM

namespace Go.AM

/-- Functions that give one value for given values: called without more ado. -/
structure Tab (P : Program) where
  f : FuncId → List W → Option W
  ok : ∀ k args w, f k args = some w → Sat P k args (fun r => r = ⟨.w w, []⟩)

def andL : List Prop → Prop → Prop
  | [], K => K
  | p :: r, K => p ∧ andL r K
theorem andL_split {l : List Prop} {K : Prop} (h : andL l K) : andL l True ∧ K := by
  induction l with
  | nil => exact ⟨trivial, h⟩
  | cons p r ih => exact ⟨⟨h.1, (ih h.2).1⟩, (ih h.2).2⟩
theorem andL_mk {l : List Prop} {K : Prop} (h : andL l True) (k : K) : andL l K := by
  induction l with
  | nil => exact k
  | cons p r ih => exact ⟨h.1, ih h.2⟩
theorem andL_app {l m : List Prop} (h : andL (l ++ m) True) : andL l True ∧ andL m True := by
  induction l with
  | nil => exact ⟨trivial, h⟩
  | cons p r ih => exact ⟨⟨h.1, (ih h.2).1⟩, (ih h.2).2⟩

def okArgs (s : S) (args : List W) : Option (List W) := match toDWs s.pl args with | some (ds, _) => some ds | none => none

/-- The value of an operation that looks at slots and at boxes alone, with what it asks. -/
def aval (f : FuncId → List W → Option W) (op : AOp) (s : S) : Option (List Prop × V) :=
  match op with
  | .mov x => some ([], s.o x)
  | .pick c a b => match litBool (s.o c), litBool (s.o a), litBool (s.o b) with
    | some t, some x, some y => some ([], boolV (cond t x y))
    | _, _, _ => none
  | .ld g sz x => match s.oc x with
    | .ptr p off => match aget s.pl p with
      | some (.box cs) => match mkW g sz (cs.drop off) with | some w => some ([], .w w) | none => none
      | some (.fbox ds) => match mkW g sz ((ds.drop off).map .d) with | some w => some ([], .w w) | none => none
      | _ => none
    | .fp cells => match mkW g sz (cells.map .d) with | some w => some ([], .w w) | none => none
    | _ => none
  | .nc x => match s.oc x with
    | .ptr p k => some ([], cV (.ptr p k))
    | .eptr p z i k => some ([], cV (.eptr p z i k))
    | .fp l => some ([], cV (.fp l))
    | _ => none
  | .slen x => match s.oc x with
    | .d (.lit (.string b)) => some ([], intV b.size)
    | _ => none
  | .bnot x => match litBool (s.o x) with
    | some b => some ([], boolV (!b))
    | none => none
  | .ineg x => match s.oc x with
    | .d (.lit (.int k n)) => some ([], cV (.d (.lit (.int k (k.wrap (0 - n))))))
    | _ => none
  | .beq neg x y => match litBool (s.o x), litBool (s.o y) with
    | some a, some b => some ([], boolV (bif neg then a != b else a == b))
    | _, _ => none
  | .conv k x => match s.oc x with
    | .d (.lit (.int _ n)) => some ([], cV (.d (.lit (.int k (k.wrap n)))))
    | _ => none
  | .eqa neg ks x y => match s.o x, s.o y with
    | .w (.agg xs), .w (.agg ys) => match eqCells ks xs ys with
      | some b => some ([], boolV (bif neg then !b else b))
      | none => none
    | _, _ => none
  | .fa off x => match s.oc x with
    | .ptr p o => some ([], cV (.ptr p (o + off)))
    | .eptr p z i k => some ([], cV (.eptr p z i (k + off)))
    | .fp cells => some ([], cV (.fp (cells.drop off)))
    | _ => none
  | .fld g sz off x => match s.o x with
    | .w (.agg cs) => match mkW g sz (cs.drop off) with
      | some w => some ([], .w w)
      | none => none
    | _ => none
  | .six x i => match s.oc x, litInt (s.o i) with
    | .d (.lit (.string b)), some n => some ([0 ≤ n ∧ n < b.size], cV (.d (.lit (.int .u8 (b.data.toList.getD n.toNat 0).toNat))))
    | _, _ => none
  | .ext x i => match s.o x with
    | .tup xs => match xs[i]? with
      | some w => some ([], .w w)
      | none => none
    | _ => none
  | .len x => match s.oc x with
    | .d (.sl l) => some ([], intV l.length)
    | .nil => some ([], intV 0)
    | .own _ _ n => some ([], intV n)
    | _ => none
  | .bin b x y => match s.oc x, s.oc y with
    | .d (.lit (.int k m)), .d (.lit (.int k1 n)) => bif kindEq k k1 then
        match binI b k m n with
        | some v => some ([], cV (.d (.lit v)))
        | none => none
      else none
    | .d (.lit (.string m)), .d (.lit (.string n)) => match binS b m n with
      | some v => some ([], cV (.d (.lit v)))
      | none => none
    | _, _ => none
  | .mm mx x y => match s.oc x, s.oc y with
    | .d (.lit (.int k m)), .d (.lit (.int k1 n)) => bif kindEq k k1 then some ([], cV (.d (.lit (.int k (mmI mx m n))))) else none
    | _, _ => none
  | .call k args => match okArgs s (args.map s.ow) with
    | some ds => match f k ds with
      | some w => bif w.scalar then some ([], .w w) else none
      | none => none
    | none => none
  | _ => none

theorem litBool_eq {v : V} {b : Bool} (h : litBool v = some b) : v = boolV b := by
  unfold litBool at h
  split at h
  · cases h; rfl
  · cases h

theorem aval_ok {P : Program} {T : Tab P} {op : AOp} {s : S} {ps : List Prop} {v : V} {dst : Option Nat} {K : S → Prop} (h : aval T.f op s = some (ps, v)) (hp : andL ps True) (hk : K (s.put dst v)) (hd : isSome dst = true) :
    aop P dst op s K := by
  unfold aval at h
  split at h
  · cases h; exact hk
  · simp only [aop]
    split at h
    · rename_i t x y h1 h2 h3
      cases h
      rw [h1]
      cases t
      · show K _; rw [litBool_eq h3]; exact hk
      · show K _; rw [litBool_eq h2]; exact hk
    · cases h
  · simp only [aop, aLd]
    split at h
    · split at h
      · split at h
        · cases h; simp_all
        · cases h
      · split at h
        · cases h; simp_all
        · cases h
      · cases h
    · split at h
      · cases h; simp_all
      · cases h
    · cases h
  · simp only [aop]; split at h <;> cases h <;> simp_all
  · simp only [aop]; split at h <;> cases h <;> simp_all
  · simp only [aop]; split at h <;> cases h <;> simp_all
  · simp only [aop]; split at h <;> cases h <;> simp_all
  · simp only [aop]; split at h <;> cases h <;> simp_all
  · simp only [aop]; split at h <;> cases h <;> simp_all
  · simp only [aop]
    split at h
    · split at h <;> cases h <;> simp_all
    · cases h
  · simp only [aop]; split at h <;> cases h <;> simp_all
  · simp only [aop]
    split at h
    · split at h <;> cases h <;> simp_all
    · cases h
  · simp only [aop]
    split at h
    · cases h
      rename_i h1 h2
      rw [h1, h2]
      exact ⟨hp.1.1, hp.1.2, hk⟩
    · cases h
  · simp only [aop]
    split at h
    · split at h <;> cases h <;> simp_all
    · cases h
  · simp only [aop]; split at h <;> cases h <;> simp_all
  · simp only [aop, aBin]
    split at h
    · rename_i k m k1 n h1 h2
      rw [h1, h2]
      cases hk' : kindEq k k1 <;> rw [hk'] at h
      · cases h
      · simp only [cond_true] at h ⊢
        rw [hk']
        split at h
        · rename_i h3; cases h; simp only [h3, cond_true]; exact hk
        · cases h
    · rename_i h1 h2
      rw [h1, h2]
      split at h
      · rename_i h3; cases h; simp only [h3]; exact hk
      · cases h
    · cases h
  · simp only [aop, aMm]
    split at h
    · rename_i k m k1 n h1 h2
      rw [h1, h2]
      cases hk' : kindEq k k1 <;> rw [hk'] at h
      · cases h
      · cases h
        simp only [hk', cond_true]; exact hk
    · cases h
  · rename_i k args
    simp only [aop, aCall]
    unfold okArgs at h
    cases h1 : toDWs s.pl (args.map s.ow) with
    | none => rw [h1] at h; cases h
    | some x =>
      obtain ⟨ds, pl1⟩ := x
      simp only [h1] at h
      cases h2 : T.f k ds with
      | none => simp only [h2] at h; cases h
      | some w =>
        simp only [h2] at h
        cases h3 : w.scalar <;> rw [h3] at h
        · cases h
        · cases h
          refine Sat.mono (T.ok k ds w h2) ?_
          rintro r rfl
          cases dst with
          | none => cases hd
          | some d => simp only [recv, V.scalar, h3, cond_true]; exact hk
  · cases h
end Go.AM
