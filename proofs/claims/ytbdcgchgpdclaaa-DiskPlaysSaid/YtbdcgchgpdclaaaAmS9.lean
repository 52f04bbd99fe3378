/- Soundness of the abstract machine, 9: calls; every operation. -/
import Derived.Test.YtbdcgchgpdclaaaAmS8
namespace Go.AM

theorem aget_numbered (l : List Pl) : ∀ (n p : Nat), aget (numbered n l) p = if n ≤ p then l[p - n]? else none := by
  induction l with
  | nil => intro n p; simp [numbered, aget]
  | cons x r ih =>
    intro n p
    simp only [numbered, aget_cons, ih]
    by_cases h : n = p
    · subst h; simp
    · by_cases h2 : n ≤ p
      · rw [if_neg h, if_pos (by omega), if_pos h2, show p - n = (p - (n + 1)) + 1 by omega]; simp
      · rw [if_neg h, if_neg (by omega), if_neg h2]

theorem isin_names (l : List Pl) : ∀ (n p : Nat), isin p (names (numbered n l)) = true ↔ n ≤ p ∧ p < n + l.length := by
  induction l with
  | nil => intro n p; simp [numbered, names, isin]
  | cons x r ih =>
    intro n p
    simp only [numbered, names, isin_iff, List.mem_cons, List.length_cons]
    rw [← isin_iff, ih]
    omega

section
variable {P : Program} {F : Fr} {N : Nat} {ι : Nat → Gh} {s : S} {a : Act} {w : World} {o : Oper} {K : S → Prop}

theorem run_callFunc {f : FuncId} (h : callable P f = true) (args : Array Value) (w : World) : (callFunc f args).run P w = .ok (.enter f args) w := by
  unfold callable at h
  cases hf : P.funcs[f]? with
  | none => rw [hf] at h; cases h
  | some fn =>
    simp only [hf, Bool.and_eq_true, Bool.not_eq_true'] at h
    obtain ⟨h1, h2⟩ := h
    have h3 : ¬ fn.body = none := by intro hb; rw [hb] at h1; cases h1
    have h4 : ¬ fn.name = "runtime.NumGoroutine" := by intro hb; rw [hb] at h2; cases h2
    simp [callFunc, hf, h4, h3]

/-- The frame in a world that has grown, nothing of what was there having turned. -/
theorem Shapes.of_grows {w w' : World} (h : Grows (fun _ => False) w w') : Shapes w w' := by
  intro b t m hb
  have hlt : b < w.heap.size := by
    rcases Nat.lt_or_ge b w.heap.size with h' | h'
    · exact h'
    · simp [World.shape?, Array.getElem?_eq_none h'] at hb
  simp only [World.shape?, h.block b hlt (fun h => h)] at hb ⊢
  exact hb

theorem Rel.grown (hr : Rel F N ι s a w) {w' : World} (hg : Grows (fun _ => False) w w') : Rel F N ι s a w' := by
  have hkeep : Keeps w w' (F.ok ι s.pl w) (F.ok ι s.pl w') := fun b hb => ⟨⟨hb.1, Nat.lt_of_lt_of_le hb.2.1 hg.size, hb.2.2⟩, hg.block b hb.2.1 (fun h => h)⟩
  have hsh := Shapes.of_grows hg
  refine ⟨hr.room, fun k v hv => ?_, fun p x hx => ?_, hr.inj, fun b hb => ⟨(hr.mine b hb).1, Nat.lt_of_lt_of_le (hr.mine b hb).2 hg.size⟩, hr.defers, ?_, hr.foreign, hr.handed⟩
  · obtain ⟨x, e1, e2⟩ := hr.slots k v hv
    exact ⟨x, e1, VR.keep hkeep hsh v x e2⟩
  · have h := hr.places p x hx
    cases x with
    | box cs => obtain ⟨b, cur, e1, ⟨t, e2⟩, e3⟩ := h; exact ⟨b, cur, e1, ⟨t, by rw [hg.block b (RowAt.lt ⟨t, e2⟩) (fun h => h)]; exact e2⟩, CRs.keep hkeep hsh _ _ e3⟩
    | arr sz els fz =>
      obtain ⟨h0, hn, h | ⟨b, e1, e2, e3, e4⟩⟩ := h
      · exact ⟨h0, hn, .inl h⟩
      · have hlt : b < w.heap.size := by
          cases fz
          · obtain ⟨cur, e5, _⟩ := e4 rfl; exact e5.lt
          · exact (e3 rfl).2.1
        refine ⟨h0, hn, .inr ⟨b, e1, RDs.keep' hkeep b sz els 0 (fun j _ _ => cell_of_heap (hg.block b hlt (fun h => h)) j) e2, fun hf => (hkeep b (e3 hf)).1, fun hf => ?_⟩⟩
        obtain ⟨cur, ⟨t, e5⟩, e6⟩ := e4 hf
        exact ⟨cur, ⟨t, by rw [hg.block b hlt (fun h => h)]; exact e5⟩, e6⟩
  · refine ⟨hg.os.trans hr.grows.os, hg.tape.trans hr.grows.tape, hg.output.trans hr.grows.output, Nat.le_trans hr.grows.size hg.size, fun b hb hm => ?_⟩
    rw [hg.block b (Nat.lt_of_lt_of_le hb hr.grows.size) (fun h => h)]
    exact hr.grows.block b hb hm

theorem CR_scalar {ι ι' : Nat → Gh} {w w' : World} {ok ok' : Nat → Prop} {c : C} {v : Value} (hs : c.scalar = true) (h : CR ι w ok c v) : CR ι' w' ok' c v := by
  cases c with
  | d x => cases x with
    | lit u => simp only [CR, RD] at h ⊢; exact h
    | sl l => cases hs
  | _ => cases hs
theorem WR_scalar {ι ι' : Nat → Gh} {w w' : World} {ok ok' : Nat → Prop} {x : W} {v : Value} (hs : x.scalar = true) (h : WR ι w ok x v) : WR ι' w' ok' x v := by
  cases x with
  | c c => exact CR_scalar hs h
  | agg cs =>
    obtain ⟨vs, h1, h2⟩ := h
    refine ⟨vs, h1, ?_⟩
    clear h1
    simp only [W.scalar] at hs
    induction cs generalizing vs with
    | nil => cases vs with | nil => trivial | cons _ _ => exact h2.elim
    | cons c cs ih => cases vs with
      | nil => exact h2.elim
      | cons v vs =>
        simp only [List.all_cons, Bool.and_eq_true] at hs
        exact ⟨CR_scalar hs.1 h2.1, ih hs.2 vs h2.2⟩
theorem VR_scalar {ι ι' : Nat → Gh} {w w' : World} {ok ok' : Nat → Prop} {x : V} {v : Value} (hs : x.scalar = true) (h : VR ι w ok x v) : VR ι' w' ok' x v := by
  cases x with
  | w x => exact WR_scalar hs h
  | tup cs =>
    obtain ⟨vs, h1, h2⟩ := h
    refine ⟨vs, h1, ?_⟩
    clear h1
    simp only [V.scalar] at hs
    induction cs generalizing vs with
    | nil => cases vs with | nil => trivial | cons _ _ => exact h2.elim
    | cons c cs ih => cases vs with
      | nil => exact h2.elim
      | cons v vs =>
        simp only [List.all_cons, Bool.and_eq_true] at hs
        exact ⟨WR_scalar hs.1 h2.1, ih hs.2 vs h2.2⟩

section shift
variable {ι ι' : Nat → Gh} {w : World} {ok ok' : Nat → Prop} {n m : Nat}
theorem CR_shift (hk : Keeps w w ok ok') (hι : ∀ q, q < m → ι' (n + q) = ι q) {c : C} {v : Value} (h : CR ι w ok c v) : CR ι' w ok' (c.shift n m) v := by
  cases c with
  | d x => exact RD.keep hk _ _ h
  | nil => exact h
  | own q sz k =>
    simp only [C.shift]
    cases hq : Nat.blt q m
    · trivial
    · have hq : q < m := Nat.le_of_ble_eq_true hq
      simp only [cond_true, CR, hι q hq]
      exact h
  | fp l => exact CR.keep hk (Shapes.refl w) (.fp l) v h
  | clo f caps => cases caps with
    | nil => exact h
    | cons _ _ => trivial
  | dead => trivial
  | ptr p o => trivial
  | eptr p z i k => trivial
theorem CRs_shift (hk : Keeps w w ok ok') (hι : ∀ q, q < m → ι' (n + q) = ι q) : ∀ {cs : List C} {vs : List Value}, CRs ι w ok cs vs → CRs ι' w ok' (cs.map (C.shift n m)) vs
  | [], [], _ => trivial
  | [], _ :: _, h => h.elim
  | _ :: _, [], h => h.elim
  | _ :: _, _ :: _, h => ⟨CR_shift hk hι h.1, CRs_shift hk hι h.2⟩
theorem WR_shift (hk : Keeps w w ok ok') (hι : ∀ q, q < m → ι' (n + q) = ι q) {x : W} {v : Value} (h : WR ι w ok x v) : WR ι' w ok' (x.shift n m) v := by
  cases x with
  | c c => exact CR_shift hk hι h
  | agg cs => obtain ⟨vs, h1, h2⟩ := h; exact ⟨vs, h1, CRs_shift hk hι h2⟩
theorem WRs_shift (hk : Keeps w w ok ok') (hι : ∀ q, q < m → ι' (n + q) = ι q) : ∀ {cs : List W} {vs : List Value}, WRs ι w ok cs vs → WRs ι' w ok' (cs.map (W.shift n m)) vs
  | [], [], _ => trivial
  | [], _ :: _, h => h.elim
  | _ :: _, [], h => h.elim
  | _ :: _, _ :: _, h => ⟨WR_shift hk hι h.1, WRs_shift hk hι h.2⟩
theorem VR_shift (hk : Keeps w w ok ok') (hι : ∀ q, q < m → ι' (n + q) = ι q) {x : V} {v : Value} (h : VR ι w ok x v) : VR ι' w ok' (x.shift n m) v := by
  cases x with
  | w x => exact WR_shift hk hι h
  | tup cs => obtain ⟨vs, h1, h2⟩ := h; exact ⟨vs, h1, WRs_shift hk hι h2⟩
end shift

/-- Behind a call. -/
theorem recv_sound (hr : Rel F N ι s a w) (hd : ∀ k, o.dst = some k → k < N) {pl1 : List (Nat × Pl)} (hr1 : Rel F N ι (s.withPl pl1) a w) {w' : World} {v : Value} {r : Res} (hres : ResR ⟨w, F.ok ι pl1 w, fun _ => False⟩ w' r v) (hg : Grows (fun _ => False) w w') :
    ∃ ι', Rel F N ι' (recv s { s with pl := pl1 } o.dst r) (a.put o.dst v) w' := by
  obtain ⟨ιr, h1, h2, h3, h4, h5⟩ := hres
  cases hdst : o.dst with
  | none => exact ⟨ι, hr.grown hg⟩
  | some d =>
    simp only [recv]
    cases hs : r.v.scalar
    · simp only [cond_false]
      let kills := names (numbered (base d) r.pl)
      let ι' : Nat → Gh := fun p => if isin p kills = true then ιr (p - base d) else ι p
      have hι : ∀ p, isin p kills = false → ι' p = ι p := fun p hp => by simp only [ι']; rw [hp]; simp
      have hin : ∀ q, q < r.pl.length → ι' (base d + q) = ιr q := fun q hq => by
        have : isin (base d + q) kills = true := (isin_names r.pl (base d) _).2 ⟨by omega, by omega⟩
        simp only [ι', this, if_true]
        congr 1; omega
      have hnew : ∀ p x, aget (numbered (base d) r.pl) p = some x → ∃ q, p = base d + q ∧ q < r.pl.length ∧ aget (numbered 0 r.pl) q = some x := fun p x hx => by
        rw [aget_numbered] at hx
        split at hx
        · rename_i hle
          have := (List.getElem?_eq_some_iff.1 hx).1
          exact ⟨p - base d, by omega, this, by rw [aget_numbered]; simpa using hx⟩
        · cases hx
      have hsame : ∀ b, b < w.heap.size → (∀ q y, isin q kills = true → aget (s.withPl pl1).pl q = some y → y.live = true → (ι q).b ≠ some b) → w'.heap[b]? = w.heap[b]? := fun b hb _ => hg.block b hb (fun h => h)
      have hblk : ∀ q x b, aget (numbered 0 r.pl) q = some x → (ιr q).b = some b → w.heap.size ≤ b ∧ b < w'.heap.size := fun q x b hx hb => by
        refine ⟨(h4 q x b hx hb).resolve_left (fun h => h), ?_⟩
        obtain ⟨z, els, rfl⟩ := h5 q x hx
        obtain ⟨_, _, hp | ⟨b', e1, _, _, e4⟩⟩ := h2 q _ hx
        · rw [hb] at hp; cases hp.1
        · rw [hb] at e1; cases e1
          obtain ⟨cur, e5, _⟩ := e4 rfl
          exact e5.lt
      have hfresh : ∀ p x b, aget (numbered (base d) r.pl) p = some x → (ι' p).b = some b → b < w'.heap.size ∧ (w.heap.size ≤ b ∨ ∃ q y, isin q kills = true ∧ aget (s.withPl pl1).pl q = some y ∧ y.live = true ∧ (ι q).b = some b) := fun p x b hx hb => by
        obtain ⟨q, rfl, hq, hx'⟩ := hnew p x hx
        rw [hin q hq] at hb
        exact ⟨(hblk q x b hx' hb).2, .inl (hblk q x b hx' hb).1⟩
      have hokk : Keeps w' w' (Fr.ok ⟨w, F.ok ι pl1 w, fun _ => False⟩ ιr (numbered 0 r.pl) w') (F.ok ι' ((s.withPl pl1).redo kills (numbered (base d) r.pl)).pl w') := by
        intro b hb
        obtain ⟨b1, b2, b3⟩ := hb
        refine ⟨⟨?_, b2, ?_⟩, rfl⟩
        · rcases b1 with b1 | b1 | b1
          · exact b1.1
          · exact b1.elim
          · exact .inr (.inr (Nat.le_trans hr.grows.size b1))
        · rintro ⟨p, x, q1, q2, q3⟩
          rw [S.redo_pl] at q1
          cases hn : aget (numbered (base d) r.pl) p with
          | some y =>
            obtain ⟨q, rfl, hq, hx'⟩ := hnew p y hn
            rw [hin q hq] at q3
            obtain ⟨z, els, rfl⟩ := h5 q y hx'
            exact b3 ⟨q, _, hx', rfl, q3⟩
          | none =>
            simp only [hn] at q1
            split at q1
            · rename_i hk
              cases hp : aget (s.withPl pl1).pl p with
              | none => rw [hp] at q1; cases q1
              | some y =>
                rw [hp] at q1; simp at q1; subst q1
                rw [hι p hk] at q3
                rw [Pl.live_kill] at q2
                have ho : Owns ι pl1 b := ⟨p, y, hp, q2, q3⟩
                rcases b1 with b1 | b1 | b1
                · exact b1.2.2 ho
                · exact b1
                · have h7 := (hr1.mine b ho).2
                  have h8 : w.heap.size ≤ b := b1
                  omega
            · cases q1
      have hrel := hr1.redo kills (numbered (base d) r.pl) ι' w' hι hsame (Shapes.of_grows hg) hg.os hg.tape hg.output hg.size (by
        intro p x hx
        obtain ⟨q, rfl, hq, hx'⟩ := hnew p x hx
        obtain ⟨z, els, rfl⟩ := h5 q x hx'
        obtain ⟨g1, g2, g3⟩ := h2 q _ hx'
        refine ⟨g1, by rw [hin q hq]; exact g2, ?_⟩
        rcases g3 with g3 | ⟨b, g3, g4, g5, g6⟩
        · exact .inl ⟨by rw [hin q hq]; exact g3.1, g3.2⟩
        · exact .inr ⟨b, by rw [hin q hq]; exact g3, RDs.keep' hokk b z els 0 (fun _ _ _ => rfl) g4, (fun hf => by cases hf), g6⟩) hfresh (by
        intro p q x y b hx hy hpq hb hq
        obtain ⟨p', rfl, hp', hx'⟩ := hnew p x hx
        obtain ⟨q', rfl, hq', hy'⟩ := hnew q y hy
        rw [hin p' hp'] at hb
        rw [hin q' hq'] at hq
        exact h3 p' q' x y b hx' hy' (fun e => hpq (by rw [e])) hb hq)
      exact ⟨ι', hrel.put (some d) (fun k hk => by cases hk; exact hd d hdst) _ _ (VR_shift hokk hin h1)⟩
    · simp only [cond_true]
      exact ⟨ι, (hr.grown hg).put (some d) (fun k hk => by cases hk; exact hd d hdst) _ _ (VR_scalar hs h1)⟩

/-- As Fine, and what was there is there as it was. -/
def FineX (P : Program) (F : Fr) (N : Nat) (o : Oper) (a : Act) (w : World) (K : S → Prop) : Prop :=
  ∀ (next : Act → World → Prop) (Q : Exit → Act → World → Prop), (∀ ι s a' w', Rel F N ι s a' w' → K s → Ext w w' → next a' w') → o.wp P a w next Q

theorem FineX.fine (h : FineX P F N o a w K) : Fine P F N o a w K := fun next Q hn => h next Q fun ι s a' w' hr hk _ => hn ι s a' w' hr hk

theorem sound_aCall (hr : Rel F N ι s a w) (hd : ∀ k, o.dst = some k → k < N) {f : FuncId} {args : List Operand} (hrun : callable P f = true → (execOp a.eval o).run P w = .ok (.enter f (args.map a.eval).toArray) w)
    (h : aCall P o.dst f ((args.map cO).map s.ow) s K) : FineX P F N o a w K := by
  unfold aCall at h
  split at h
  · rename_i ds pl1 hds
    obtain ⟨hc, h⟩ := h
    obtain ⟨g1, g2, g3⟩ := toDWs_sound hr (WRs_o hr args) hds
    intro next Q hn
    unfold Oper.wp
    rw [hrun hc]
    rw [Oper.upon_enter]
    refine (h w (F.ok ι pl1 w) (args.map a.eval) (fun b hb => hb.2.1) (g3 _)).mono ?_
    rintro e w' ⟨v, r, rfl, hk, hres, hg⟩
    obtain ⟨ι', hrel⟩ := recv_sound (o := o) hr hd g1 hres hg
    exact hn ι' _ _ _ hrel hk ⟨hg.size, fun b hb => hg.block b hb (fun h => h)⟩
  · exact h.elim

theorem arr_map {α β : Type} (f : α → β) (xs : Array α) : xs.map f = (xs.toList.map f).toArray := by
  cases xs; simp

theorem sound_call (hr : Rel F N ι s a w) (hd : ∀ k, o.dst = some k → k < N) {f : FuncId} {args : Array Operand} {ts : Array TypeId} (ho : o.op = .call { callee := .value (.func f), args := args, argTypes := ts })
    (h : aop P o.dst (.call f (args.toList.map cO)) s K) : FineX P F N o a w K := by
  simp only [aop] at h
  refine sound_aCall hr hd (args := args.toList) (fun hc => ?_) h
  simp only [execOp, ho, resolve, Deferred.ofValue, Act.eval, Sem.run_bind, Sem.run_pure, Result.andThen_ok, invoke]
  rw [run_callFunc hc, arr_map]
  simp

theorem sound_calv (hr : Rel F N ι s a w) (hd : ∀ k, o.dst = some k → k < N) {x : Operand} {args : Array Operand} {ts : Array TypeId} (ho : o.op = .call { callee := .value x, args := args, argTypes := ts })
    (h : aop P o.dst (.calv (cO x) (args.toList.map cO)) s K) : FineX P F N o a w K := by
  simp only [aop] at h
  have hx := CR_o hr x
  split at h
  · rename_i f hf
    rw [hf] at hx
    obtain ⟨bs, h1, h2⟩ := hx
    have hbs : bs = [] := by simpa using h1.symm
    subst hbs
    refine sound_aCall hr hd (args := args.toList) (fun hc => ?_) h
    simp only [execOp, ho, resolve, h2, Deferred.ofValue, Sem.run_bind, Sem.run_pure, Result.andThen_ok, invoke]
    rw [run_callFunc hc, arr_map]
    simp
  · exact h.elim

theorem okv_spec {α : Type} {c : Bool} {x y : α} (h : okv c x = some y) : c = true ∧ x = y := by
  cases c
  · cases h
  · cases h; exact ⟨rfl, rfl⟩

theorem isSome_spec {α : Type} {x : Option α} (h : isSome x = true) : ∃ y, x = some y := by
  cases x with
  | none => cases h
  | some y => exact ⟨y, rfl⟩

/-- Every operation. -/
theorem aop_sound (hr : Rel F N ι s a w) (hd : ∀ k, o.dst = some k → k < N) {x : AOp} (hx : cOp P o.op o.type = some x) (h : aop P o.dst x s K) : Fine P F N o a w K := by
  unfold cOp at hx
  split at hx
  · rename_i y ho; cases hx; exact (sound_mov hr hd (.inl ho) h).fine trivial
  · rename_i y ho; cases hx; exact (sound_mov hr hd (.inr ho) h).fine trivial
  · rename_i c y z ho; cases hx; exact (sound_pick hr hd ho h).fine trivial
  · rename_i t ho; cases hx; exact sound_alloc hr hd ho h
  · rename_i t y ho; cases hx; exact sound_bx hr hd ho h
  · rename_i t parts ho
    split at hx
    · rename_i fs l hu hl
      obtain ⟨hc, rfl⟩ := okv_spec hx
      rw [Bool.and_eq_true] at hc
      exact (sound_build hr hd ho hu hl hc.1 hc.2 h).fine trivial
    · cases hx
  · rename_i t n parts ho
    split at hx
    · rename_i e ht
      obtain ⟨hc, rfl⟩ := okv_spec hx
      simp only [Bool.and_eq_true] at hc
      exact sound_lits hr hd ho ht hc.1.1.1.1 hc.1.1.1.2 hc.1.1.2 hc.1.2 hc.2 h
    · cases hx
  · rename_i t y ho
    split at hx
    · rename_i g ht; cases hx; exact (sound_ld hr hd ho ht h).fine (Ext.refl _)
    · cases hx
  · rename_i t y z ho
    obtain ⟨hc, rfl⟩ := okv_spec hx
    obtain ⟨i, hi⟩ := isSome_spec hc
    exact sound_st hr ho hi h
  · rename_i y ho; cases hx; exact (sound_nc hr hd ho h).fine trivial
  · rename_i src dst y ho
    cases h1 : isKind P src false && isKind P dst true
    · rw [h1] at hx
      cases h2 : isKind P src true && isKind P dst false
      · rw [h2] at hx; cases hx
        exact (sound_pure hr hd (by rw [ho]; rfl) h).fine trivial
      · rw [h2] at hx; cases hx
        rw [Bool.and_eq_true] at h2
        exact sound_s2b hr hd ho h2.1 h2.2 h
    · rw [h1] at hx; cases hx
      rw [Bool.and_eq_true] at h1
      exact (sound_b2s hr hd ho h1.1 h1.2 h).fine (Ext.refl _)
  · rename_i f first caps ho
    obtain ⟨hc, rfl⟩ := okv_spec hx
    exact sound_clo hr hd ho hc h
  · rename_i t n c ho
    split at hx
    · rename_i e ht
      split at hx
      · rename_i z plz hz
        obtain ⟨hc, rfl⟩ := okv_spec hx
        rw [Bool.and_eq_true] at hc
        exact sound_mk hr hd ho ht hz hc.1 hc.2 h
      · cases hx
    · cases hx
  · rename_i t y lo hi mx ho
    split at hx
    · rename_i hu; cases hx; exact (sound_sls hr hd ho hu h).fine trivial
    · rename_i e hu
      obtain ⟨hc, rfl⟩ := okv_spec hx
      obtain ⟨i, hi'⟩ := isSome_spec hc
      exact (sound_sli hr hd ho hu hi' h).fine trivial
    · cases hx
  · rename_i t y f ho
    split at hx
    · rename_i off ft ht
      obtain ⟨hc, rfl⟩ := okv_spec hx
      exact (sound_fa hr hd ho ht hc h).fine trivial
    · cases hx
  · rename_i t y f ho
    split at hx
    · rename_i off ft ht
      split at hx
      · rename_i g hg; cases hx; exact (sound_fld hr hd ho ht hg h).fine trivial
      · cases hx
    · cases hx
  · rename_i t y i ho
    split at hx
    · rename_i e ht
      obtain ⟨hc, rfl⟩ := okv_spec hx
      exact (sound_ia hr hd ho ht hc h).fine trivial
    · cases hx
  · rename_i t y i ho
    split at hx
    · rename_i hu; cases hx; exact (sound_six hr hd ho hu h).fine trivial
    · cases hx
  · rename_i y i ho; cases hx; exact (sound_ext hr hd ho h).fine trivial
  · rename_i args ts ho
    split at hx
    · rename_i y t hargs hts
      split at hx
      · rename_i e ht; cases hx; exact (sound_len hr hd ho hargs hts ht h).fine trivial
      · cases hx; exact (sound_pure hr hd (by rw [ho]; rfl) h).fine trivial
    · cases hx
  · rename_i args ts ho
    split at hx
    · rename_i y z t u hargs hts
      split at hx
      · rename_i e e' ht hu
        obtain ⟨hc, rfl⟩ := okv_spec hx
        rw [Bool.and_eq_true] at hc
        exact sound_app hr hd ho hargs hts ht hu hc.1 hc.2 h
      · rename_i e ht hu
        obtain ⟨hc, rfl⟩ := okv_spec hx
        rw [Bool.and_eq_true] at hc
        exact sound_apps hr hd ho hargs hts ht hu hc.1 hc.2 h
      · cases hx
    · cases hx
  · rename_i f args ts ho; cases hx; exact (sound_call hr hd ho h).fine
  · rename_i y args ts ho hne; cases hx; exact (sound_calv hr hd hne h).fine
  · rename_i b args ts h1 h2 ho
    cases hm : mmOp b args.toList with
    | some y => simp only [hm] at hx; cases hx; exact (sound_mm hr hd ho hm h).fine trivial
    | none => simp only [hm] at hx; cases hx; exact (sound_pure hr hd (by rw [ho]; rfl) h).fine trivial
  · rename_i b t y z u ho
    cases hn : nilCmp P b t z with
    | some neg => simp only [hn] at hx; cases hx; exact (sound_isn hr hd ho hn h).fine trivial
    | none =>
    simp only [hn] at hx
    cases h1 : plainBin b && isBasic P t
    · rw [h1] at hx; cases hx; exact (sound_pure hr hd (by rw [ho]; rfl) h).fine trivial
    · rw [h1] at hx; cases hx; exact (sound_bin hr hd ho h).fine trivial
  · rename_i u t y ho; cases hx; exact (sound_pure hr hd (by rw [ho]; rfl) h).fine trivial
  · cases hx
end

end Go.AM
