/- Soundness of the abstract machine, 11: results; a function's contract. -/
import Derived.Test.YtbdcgchgpdclaaaAmS14
namespace Go.AM

section
variable {P : Program} {F : Fr} {N : Nat} {ι : Nat → Gh} {s : S} {a : Act} {w : World}

/-! Packing. -/
structure PI (pl : List (Nat × Pl)) (used : List Nat) (acc : List Pl) : Prop where
  len : used.length = acc.length
  nodup : used.Nodup
  own : ∀ p, p ∈ used → ∃ z els, aget pl p = some (.arr z els false)
  acc : acc.map some = used.reverse.map (aget pl)

theorem PI.nil (pl : List (Nat × Pl)) : PI pl [] [] := ⟨rfl, List.nodup_nil, fun _ h => (by cases h), rfl⟩

/-- What packing yields reads as before, the k-th own leaf lying where the k-th place that was used lay. -/
structure PD (w : World) (ok' : Nat → Prop) (ι : Nat → Gh) (pl : List (Nat × Pl)) (used used1 : List Nat) (acc1 : List Pl) (R : (Nat → Gh) → Prop) : Prop where
  inv : PI pl used1 acc1
  ext : ∃ l, used1 = l ++ used
  rel : ∀ U : List Nat, (∃ l, U = l ++ used1) → ∀ ι' : Nat → Gh, (∀ k p, U.reverse[k]? = some p → ι' k = ι p) → R ι'

theorem packC_sound (hr : Rel F N ι s a w) {ok' : Nat → Prop} (hk : Keeps w w (F.ok ι s.pl w) ok') {used : List Nat} {acc : List Pl} (hi : PI s.pl used acc) {c : C} {v : Value} (hc : CR ι w (F.ok ι s.pl w) c v) :
    PD w ok' ι s.pl used (packC s.pl used acc c).2.1 (packC s.pl used acc c).2.2 fun ι' => CR ι' w ok' (packC s.pl used acc c).1 v := by
  have triv : ∀ {R : (Nat → Gh) → Prop}, (∀ ι', R ι') → PD w ok' ι s.pl used used acc R := fun h => ⟨hi, ⟨[], rfl⟩, fun _ _ ι' _ => h ι'⟩
  cases c with
  | d x => exact triv fun ι' => CR.keep (ι := ι') hk (Shapes.refl w) (.d x) v hc
  | nil => exact triv fun _ => hc
  | own p sz n =>
    simp only [packC]
    cases hu : isin p used with
    | true => simp only [cond_true]; exact triv fun _ => trivial
    | false =>
      simp only [cond_false]
      have hnot : p ∉ used := fun h => by rw [(isin_iff p used).2 h] at hu; cases hu
      split
      · rename_i z els hp
        refine ⟨⟨by simp [hi.len], List.nodup_cons.2 ⟨hnot, hi.nodup⟩, ?_, ?_⟩, ⟨[p], rfl⟩, ?_⟩
        · intro q hq
          rcases List.mem_cons.1 hq with rfl | hq
          · exact ⟨z, els, hp⟩
          · exact hi.own q hq
        · rw [List.map_append, hi.acc, List.reverse_cons, List.map_append]; simp [hp]
        · rintro U ⟨l, rfl⟩ ι' hι
          have hι' : ι' acc.length = ι p := hι _ p (by
            rw [List.reverse_append, List.reverse_cons, List.append_assoc, List.getElem?_append_right (by simp [hi.len])]
            simp [hi.len])
          simp only [CR] at hc ⊢
          rw [hι']
          exact hc
      · rename_i z els hp
        refine triv fun ι' => ?_
        obtain ⟨hn, ⟨h1, h2, h3, h4⟩ | ⟨b, cap, t, h1, h2, h3, h4, h5, h6⟩⟩ := own_data' hr hp hc
        · subst h1; subst h2; subst h4
          simp only [CR, RD]
          exact ⟨none, 0, 0, rfl, rfl, Nat.le_refl _, Nat.zero_le _, .inl (by simp)⟩
        · have hpr := hr.places p _ hp
          obtain ⟨_, _, hf | ⟨b', e1, e2, e3, e4⟩⟩ := hpr
          · rw [h1] at hf; cases hf.1
          · rw [h1] at e1; cases e1
            have : RD w (F.ok ι s.pl w) (.sl (els.take n)) v := by
              subst h2
              simp only [RD]
              exact ⟨_, _, _, rfl, by simp; omega, h3, h4, .inr ⟨b, 0, z, rfl, e3 rfl, RDs.take n e2⟩⟩
            exact CR.keep (ι := ι') hk (Shapes.refl w) (.d (.sl (els.take n))) v this
      · exact triv fun _ => trivial
  | dead => exact triv fun _ => trivial
  | ptr p o => exact triv fun _ => trivial
  | eptr p z i k => exact triv fun _ => trivial
  | fp l => exact triv fun _ => trivial
  | clo f caps => exact triv fun _ => trivial

theorem packCs_sound (hr : Rel F N ι s a w) {ok' : Nat → Prop} (hk : Keeps w w (F.ok ι s.pl w) ok') : ∀ {cs : List C} {vs : List Value} {used : List Nat} {acc : List Pl}, PI s.pl used acc → CRs ι w (F.ok ι s.pl w) cs vs →
    PD w ok' ι s.pl used (packCs s.pl used acc cs).2.1 (packCs s.pl used acc cs).2.2 fun ι' => CRs ι' w ok' (packCs s.pl used acc cs).1 vs
  | [], [], _, _, hi, _ => ⟨hi, ⟨[], rfl⟩, fun _ _ _ _ => trivial⟩
  | [], _ :: _, _, _, _, h => h.elim
  | _ :: _, [], _, _, _, h => h.elim
  | c :: cs, v :: vs, used, acc, hi, h => by
    have h1 := packC_sound hr hk hi h.1
    obtain ⟨l1, e1⟩ := h1.ext
    have h2 := packCs_sound hr hk (cs := cs) (vs := vs) h1.inv h.2
    obtain ⟨l2, e2⟩ := h2.ext
    simp only [packCs]
    refine ⟨h2.inv, ⟨l2 ++ l1, by rw [e2, e1, List.append_assoc]⟩, ?_⟩
    rintro U ⟨l, rfl⟩ ι' hι
    exact ⟨h1.rel _ ⟨l ++ l2, by rw [e2, List.append_assoc]⟩ ι' hι, h2.rel _ ⟨l, rfl⟩ ι' hι⟩

theorem packW_sound (hr : Rel F N ι s a w) {ok' : Nat → Prop} (hk : Keeps w w (F.ok ι s.pl w) ok') {used : List Nat} {acc : List Pl} (hi : PI s.pl used acc) {x : W} {v : Value} (hc : WR ι w (F.ok ι s.pl w) x v) :
    PD w ok' ι s.pl used (packW s.pl used acc x).2.1 (packW s.pl used acc x).2.2 fun ι' => WR ι' w ok' (packW s.pl used acc x).1 v := by
  cases x with
  | c c => exact packC_sound hr hk hi hc
  | agg cs =>
    obtain ⟨vs, h1, h2⟩ := hc
    have h := packCs_sound hr hk hi h2
    exact ⟨h.inv, h.ext, fun U hU ι' hι => ⟨vs, h1, h.rel U hU ι' hι⟩⟩

theorem packWs_sound (hr : Rel F N ι s a w) {ok' : Nat → Prop} (hk : Keeps w w (F.ok ι s.pl w) ok') : ∀ {cs : List W} {vs : List Value} {used : List Nat} {acc : List Pl}, PI s.pl used acc → WRs ι w (F.ok ι s.pl w) cs vs →
    PD w ok' ι s.pl used (packWs s.pl used acc cs).2.1 (packWs s.pl used acc cs).2.2 fun ι' => WRs ι' w ok' (packWs s.pl used acc cs).1 vs
  | [], [], _, _, hi, _ => ⟨hi, ⟨[], rfl⟩, fun _ _ _ _ => trivial⟩
  | [], _ :: _, _, _, _, h => h.elim
  | _ :: _, [], _, _, _, h => h.elim
  | c :: cs, v :: vs, used, acc, hi, h => by
    have h1 := packW_sound hr hk hi h.1
    obtain ⟨l1, e1⟩ := h1.ext
    have h2 := packWs_sound hr hk (cs := cs) (vs := vs) h1.inv h.2
    obtain ⟨l2, e2⟩ := h2.ext
    simp only [packWs]
    refine ⟨h2.inv, ⟨l2 ++ l1, by rw [e2, e1, List.append_assoc]⟩, ?_⟩
    rintro U ⟨l, rfl⟩ ι' hι
    exact ⟨h1.rel _ ⟨l ++ l2, by rw [e2, List.append_assoc]⟩ ι' hι, h2.rel _ ⟨l, rfl⟩ ι' hι⟩

/-- From what packing yields to a result. -/
theorem res_of_pack (hr : Rel F N ι s a w) {used : List Nat} {acc : List Pl} (hi : PI s.pl used acc) {x : V} {v : Value}
    (h : ∀ (ok' : Nat → Prop) (ι' : Nat → Gh), Keeps w w (F.ok ι s.pl w) ok' → (∀ k p, used.reverse[k]? = some p → ι' k = ι p) → VR ι' w ok' x v) : ResR F w ⟨x, acc⟩ v := by
  let ι' : Nat → Gh := fun k => ι (used.reverse.getD k 0)
  have hι : ∀ k p, used.reverse[k]? = some p → ι' k = ι p := fun k p hp => by simp only [ι', List.getD_eq_getElem?_getD, hp, Option.getD_some]
  have hnew : ∀ k x, aget (numbered 0 acc) k = some x → ∃ p z els, used.reverse[k]? = some p ∧ aget s.pl p = some (.arr z els false) ∧ x = .arr z els false := by
    intro k x hx
    rw [aget_numbered] at hx
    simp only [Nat.zero_le, if_true, Nat.sub_zero] at hx
    have h1 : (acc.map some)[k]? = some (some x) := by rw [List.getElem?_map, hx]; rfl
    rw [hi.acc, List.getElem?_map] at h1
    cases hp : used.reverse[k]? with
    | none => rw [hp] at h1; cases h1
    | some p =>
      rw [hp] at h1
      simp only [Option.map_some, Option.some.injEq] at h1
      obtain ⟨z, els, h2⟩ := hi.own p (List.mem_reverse.1 (List.mem_of_getElem? hp))
      rw [h1] at h2
      cases h2
      exact ⟨p, z, els, rfl, h1, rfl⟩
  have hkeep : Keeps w w (F.ok ι s.pl w) (F.ok ι' (numbered 0 acc) w) := fun b hb => ⟨⟨hb.1, hb.2.1, fun ⟨k, x, h1, h2, h3⟩ => by
    obtain ⟨p, z, els, g1, g2, rfl⟩ := hnew k x h1
    rw [hι k p g1] at h3
    exact hb.2.2 ⟨p, _, g2, rfl, h3⟩⟩, rfl⟩
  refine ⟨ι', h _ ι' hkeep hι, ?_, ?_, ?_, ?_⟩
  · intro k x hx
    obtain ⟨p, z, els, g1, g2, rfl⟩ := hnew k x hx
    obtain ⟨h0, hn, hf | ⟨b, e1, e2, e3, e4⟩⟩ := hr.places p _ g2
    · exact ⟨h0, by rw [hι k p g1]; exact hn, .inl ⟨by rw [hι k p g1]; exact hf.1, hf.2⟩⟩
    · exact ⟨h0, by rw [hι k p g1]; exact hn, .inr ⟨b, by rw [hι k p g1]; exact e1, RDs.keep' hkeep b z els 0 (fun _ _ _ => rfl) e2, (fun hf => by cases hf), e4⟩⟩
  · intro k l x y b hx hy hkl hb
    obtain ⟨p, z, els, g1, g2, rfl⟩ := hnew k x hx
    obtain ⟨q, z', els', g3, g4, rfl⟩ := hnew l y hy
    rw [hι k p g1] at hb
    rw [hι l q g3]
    refine hr.inj p q _ _ b g2 g4 (fun e => hkl ?_) rfl hb
    subst e
    have hnd : used.reverse.Nodup := List.pairwise_reverse.2 (hi.nodup.imp Ne.symm)
    obtain ⟨k1, k2⟩ := List.getElem?_eq_some_iff.1 g1
    obtain ⟨l1, l2⟩ := List.getElem?_eq_some_iff.1 g3
    exact (List.getElem_inj hnd).1 (k2.trans l2.symm)
  · intro k x b hx hb
    obtain ⟨p, z, els, g1, g2, rfl⟩ := hnew k x hx
    rw [hι k p g1] at hb
    exact (hr.mine b ⟨p, _, g2, rfl, hb⟩).1
  · intro k x hx
    obtain ⟨p, z, els, g1, g2, rfl⟩ := hnew k x hx
    exact ⟨z, els, rfl⟩

theorem packV_sound (hr : Rel F N ι s a w) {x : V} {v : Value} (h : VR ι w (F.ok ι s.pl w) x v) : ResR F w (packV s.pl x) v := by
  cases x with
  | w x =>
    simp only [packV]
    have h1 := fun ok' hk => packW_sound hr (ok' := ok') hk (PI.nil s.pl) h
    exact res_of_pack hr (h1 _ (fun b hb => ⟨hb, rfl⟩)).inv fun ok' ι' hk hι => (h1 ok' hk).rel _ ⟨[], rfl⟩ ι' hι
  | tup xs =>
    obtain ⟨vs, e, h⟩ := h
    simp only [packV]
    have h1 := fun ok' hk => packWs_sound hr (ok' := ok') hk (PI.nil s.pl) h
    exact res_of_pack hr (h1 _ (fun b hb => ⟨hb, rfl⟩)).inv fun ok' ι' hk hι => ⟨vs, e, (h1 ok' hk).rel _ ⟨[], rfl⟩ ι' hι⟩

/-! Results. -/
def resV (tmps : Array Value) : ResultVar → Sem Value
  | .tmp t => pure (tmps.getD t undef)
  | .cell x t => do loadVar t (← asAddr (tmps.getD x undef))

theorem results_eq (fn : Func) (tmps : Array Value) : results fn tmps = (do
    let vs ← fn.results.mapM (resV tmps)
    pure (if h : vs.size = 1 then vs[0] else .tuple vs)) := by
  unfold results
  congr 2

theorem retWs_sound (hr : Rel F N ι s a w) : ∀ {rs : List ResultVar} {xs : List ARes}, cRes P rs = some xs → ∀ {ws : List W}, retWs s xs = some ws →
    ∃ vs : List Value, (rs.mapM (resV a.tmps)).run P w = .ok vs w ∧ WRs ι w (F.ok ι s.pl w) ws vs
  | [], xs, hx, ws, h => by
    cases hx
    cases h
    exact ⟨[], by simp, trivial⟩
  | .tmp t :: rs, xs, hx, ws, h => by
    simp only [cRes, Option.map_eq_some_iff] at hx
    obtain ⟨ys, h1, rfl⟩ := hx
    simp only [retWs] at h
    split at h
    · rename_i u l hu hl
      cases h
      obtain ⟨vs, h2, h3⟩ := retWs_sound hr h1 hl
      simp only [retW] at hu
      split at hu
      · rename_i u' hu'
        cases hu
        have hv := VR_tmp hr t
        rw [hu'] at hv
        refine ⟨a.tmps.getD t undef :: vs, ?_, hv, h3⟩
        rw [List.mapM_cons]
        simp only [resV, Sem.run_bind, Sem.run_pure, Result.andThen_ok, h2]
      · cases hu
    · cases h
  | .cell x t :: rs, xs, hx, ws, h => by
    simp only [cRes] at hx
    split at hx
    · rename_i g ys hg h1
      cases hx
      simp only [retWs] at h
      split at h
      · rename_i u l hu hl
        cases h
        obtain ⟨vs, h2, h3⟩ := retWs_sound hr h1 hl
        simp only [retW] at hu
        split at hu
        · rename_i p off hp
          split at hu
          · rename_i cs hcs
            have hv := CR_o hr (.tmp x)
            have hv : CR ι w (F.ok ι s.pl w) (cOf (s.tmp x)) (a.tmps.getD x undef) := hv
            rw [hp] at hv
            obtain ⟨b, e1, e2⟩ := hv
            obtain ⟨b', cur, e3, e4, e5⟩ := hr.places p _ hcs
            rw [e1] at e3; cases e3
            obtain ⟨v, hv, hw⟩ := load_cells (b := b) (off := off) hg (CRs.drop off e5) (fun j v hv => by
              rw [e4.cell]; rw [List.getElem?_drop] at hv; simpa using hv) hu
            refine ⟨v :: vs, ?_, hw, h3⟩
            rw [List.mapM_cons]
            simp only [resV, e2, asAddr, Sem.run_bind, Sem.run_pure, Result.andThen_ok, hv w (Ext.refl w), h2]
          · cases hu
        · cases hu
      · cases h
    · cases hx

theorem results_sound (hr : Rel F N ι s a w) {fn : Func} {xs : List ARes} (hx : cRes P fn.results.toList = some xs) {v : V} (h : retV s xs = some v) :
    ∃ x, (results fn a.tmps).run P w = .ok x w ∧ VR ι w (F.ok ι s.pl w) v x := by
  unfold retV at h
  have key : ∀ ws, retWs s xs = some ws → ∃ vs : List Value, WRs ι w (F.ok ι s.pl w) ws vs ∧ (results fn a.tmps).run P w = .ok (if h : vs.toArray.size = 1 then vs.toArray[0] else .tuple vs.toArray) w := by
    intro ws hws
    obtain ⟨vs, h1, h2⟩ := retWs_sound hr hx hws
    refine ⟨vs, h2, ?_⟩
    rw [results_eq, ← Array.toArray_toList (xs := fn.results), List.mapM_toArray]
    simp only [Sem.run_bind, map_eq_pure_bind, h1, Sem.run_pure, Result.andThen_ok]
  split at h
  · rename_i u hu
    obtain ⟨vs, h1, h2⟩ := key _ hu
    cases h
    cases vs with
    | nil => exact h1.elim
    | cons v vs => cases vs with
      | nil => exact ⟨v, by simpa using h2, h1.1⟩
      | cons _ _ => exact h1.2.elim
  · rename_i ws hne hws
    obtain ⟨vs, h1, h2⟩ := key _ hws
    cases h
    refine ⟨.tuple vs.toArray, ?_, vs, rfl, h1⟩
    rw [h2]
    rw [dif_neg]
    intro hs
    cases vs with
    | nil => simp at hs
    | cons v vs => cases vs with
      | nil => cases ws with
        | nil => exact h1.elim
        | cons u us => cases us with
          | nil => exact hne _ rfl
          | cons _ _ => exact h1.2.elim
      | cons _ _ => simp at hs
  · cases h

theorem initSl_get : ∀ (l : List W) (i k : Nat) (v : V), aget (initSl i l) k = some v → ∃ x, v = .w x ∧ i ≤ k ∧ l[k - i]? = some x := by
  intro l
  induction l with
  | nil => intro i k v h; cases h
  | cons x r ih =>
    intro i k v h
    simp only [initSl, aget_cons] at h
    split at h
    · rename_i e
      subst e
      cases h
      exact ⟨x, rfl, Nat.le_refl _, by simp⟩
    · rename_i hne
      obtain ⟨y, h1, h2, h3⟩ := ih (i + 1) k v h
      exact ⟨y, h1, by omega, by rw [show k - i = (k - (i + 1)) + 1 by omega]; simpa using h3⟩

theorem WRs.get {ok : Nat → Prop} : ∀ {cs : List W} {vs : List Value} {i : Nat} {c : W}, WRs ι w ok cs vs → cs[i]? = some c → ∃ v, vs[i]? = some v ∧ WR ι w ok c v
  | [], _, i, _, _, h => by simp at h
  | _ :: _, [], _, _, h, _ => h.elim
  | c :: cs, v :: vs, 0, _, h, hc => by simp at hc; subst hc; exact ⟨v, rfl, h.1⟩
  | c :: cs, v :: vs, i + 1, _, h, hc => by simpa using WRs.get h.2 (by simpa using hc)
end

/-- **A function's contract, from what the machine computes.** -/
theorem Sat_of_awpF {P : Program} {ords : List (Nat × List Nat)} {k : Nat} {A : AFun} (hc : cFun P ords k = some A.erase) (hb : callable P k = true) {args : List W} {Q : Res → Prop} (h : awpF P A args Q) : Sat P k args Q := by
  refine ⟨hb, fun w ok vals hok hargs => ?_⟩
  unfold cFun at hc
  split at hc
  case h_2 => cases hc
  rename_i fn hf
  split at hc
  case h_2 => cases hc
  rename_i c hbody
  split at hc
  case h_2 => cases hc
  rename_i x r hx hr
  simp only [AFun.erase, Option.some.injEq, AFun.mk.injEq] at hc
  obtain ⟨rfl, rfl⟩ := hc
  unfold awpF at h
  rw [force_eq] at h
  let F : Fr := ⟨w, ok, fun _ => False⟩
  have hrel : Rel F fn.ntmps (fun _ => ⟨none, 0⟩) ⟨initSl 0 args, []⟩ { tmps := vals.toArray ++ Array.replicate (fn.ntmps - vals.toArray.size) undef, defers := [] } w := by
    refine ⟨by simp; omega, fun i v hv => ?_, fun p x hx => (by cases hx), fun p q x y b hx => (by cases hx), fun b ⟨p, x, hx, _⟩ => (by cases hx), rfl, Grows.refl _ _, fun b hb => ⟨hok b hb, fun h => h⟩, fun b hb => hb.elim⟩
    obtain ⟨x, rfl, _, h1⟩ := initSl_get args 0 i v hv
    obtain ⟨y, h2, h3⟩ := WRs.get hargs h1
    simp only [Nat.sub_zero] at h2
    have hlt : i < vals.length := (List.getElem?_eq_some_iff.1 h2).1
    refine ⟨y, by simpa [Array.getElem?_append, hlt] using h2, ?_⟩
    exact WR.keep (fun b hb => ⟨⟨.inl hb, hok b hb, fun ⟨p, x, hx, _⟩ => by cases hx⟩, rfl⟩) (Shapes.refl w) x y h3
  refine calls_of_wp hf hbody (wp_mono (awp_sound A.code c hx _ _ _ _ _ hrel h) ?_)
  have fin : ∀ ι s a' w', Rel F fn.ntmps ι s a' w' → retQ A.res Q s → a'.defers = [] ∧ ∃ v, (results fn a'.tmps).run P w' = .ok v w' ∧ ∃ v' r, Ending.returned v = .returned v' ∧ Q r ∧ ResR F w' r v' ∧ Grows (fun _ => False) w w' := by
    intro ι s a' w' hr1 hq
    unfold retQ at hq
    split at hq
    · rename_i v hv
      obtain ⟨x, h1, h2⟩ := results_sound hr1 hr hv
      exact ⟨hr1.defers, x, h1, x, _, rfl, hq, packV_sound hr1 h2, hr1.grows⟩
    · exact hq.elim
  intro e a' w' he
  cases e with
  | normal => obtain ⟨ι, s, hr1, hq⟩ := he; exact fin ι s a' w' hr1 hq
  | ret => obtain ⟨ι, s, hr1, hq⟩ := he; exact fin ι s a' w' hr1 hq
  | exit i => obtain ⟨_, _, _, hq⟩ := he; exact hq.elim
  | _ => exact he.elim

end Go.AM
