/- Soundness of the abstract machine: one order stands for all. -/
import Derived.Test.YtbdcgchgpdclaaaAmS16
namespace Go.AM

section
variable {P : Program} {hs : List Nat} {ops : Array Oper} {N : Nat} {gs : List Nat} {Q : Exit → Act → World → Prop} {K : S → Prop}

theorem quiet_step {F : Fr} {ι : Nat → Gh} {s : S} {a : Act} {w : World} (hr : Rel F N ι s a w) {o : Oper} (hd : ∀ k, o.dst = some k → k < N) {x : AOp} (hx : cOp P o.op o.type = some x) (hq : x.quiet = true)
    {g : Option (Nat × Bool)} (hg : cGuard ops.toList o.guard = some g) {isG : Bool} {drop : List Nat} {rest : List AI} (h : awpOps P (.mk o.dst g isG x drop :: rest) s K) :
    ∃ v ι' s', YC P ops (Cw x w) o v a ∧ Rel F N ι' s' (a.put o.dst v) w ∧ awpOps P rest s' K := by
  rcases step_sound hr hg h with ⟨hw, h1⟩ | ⟨hw, h1⟩
  · obtain ⟨v, ι', s1, h2, h3, h4⟩ := aopQ_sound hr hd hx hq h1
    obtain ⟨s2, h5, h6⟩ := split_sound h3 hd h4
    exact ⟨v, ι', _, .inl ⟨hw, h2⟩, h5.drop drop, h6⟩
  · exact ⟨undef, ι, _, .inr ⟨hw, rfl⟩, (hr.put o.dst hd undefV undef (VR_undef _ _ _)).drop drop, h1⟩

theorem heavy_step {F : Fr} {ι : Nat → Gh} {s : S} {a : Act} {w : World} (hr : Rel F N ι s a w) {i : Nat} {o : Oper} (ho : ops[i]? = some o) (hd : ∀ k, o.dst = some k → k < N) {x : AOp} (hx : cOpM P (isin i hs) o.op o.type = some x)
    (hc : clsAt P hs ops i = 0 ∨ clsAt P hs ops i = 3) {g : Option (Nat × Bool)} (hg : cGuard ops.toList o.guard = some g) {isG : Bool} {drop : List Nat} {rest : List AI} (h : awpOps P (.mk o.dst g isG x drop :: rest) s K)
    {next : Act → World → Prop} (hn : ∀ ι s' a' w', Rel F N ι s' a' w' → awpOps P rest s' K → (1 ≤ clsAt P hs ops i → Ext w w') → next a' w') : wpOp P ops Q i next a w := by
  unfold wpOp
  simp only [ho]
  rcases step_sound hr hg h with ⟨hw, h1⟩ | ⟨hw, h1⟩
  · rw [if_pos hw]
    refine .inl ?_
    rcases hc with hc | hc
    · refine cop_sound hr hd ⟨_, hx⟩ h1 _ _ fun ι1 s1 a1 w1 hr1 hk => ?_
      obtain ⟨s2, h5, h6⟩ := split_sound hr1 hd hk
      exact hn ι1 _ a1 w1 (h5.drop drop) h6 (fun h => by rw [hc] at h; omega)
    · refine aopX_sound hr hd (cls_call ho hx hc).1 (cls_call ho hx hc).2 h1 _ _ fun ι1 s1 a1 w1 hr1 hk he => ?_
      obtain ⟨s2, h5, h6⟩ := split_sound hr1 hd hk
      exact hn ι1 _ a1 w1 (h5.drop drop) h6 (fun _ => he)
  · rw [if_neg (by rw [hw]; simp)]
    exact hn ι _ _ w ((hr.put o.dst hd undefV undef (VR_undef _ _ _)).drop drop) h1 (fun _ => Ext.refl w)

/-- A new variable that has come up ahead of its turn. -/
structure Hid (P : Program) (hs : List Nat) (ops : Array Oper) (F F' : Fr) (k d b : Nat) : Prop where
  cl : clsAt P hs ops k = 4
  dst : dstOf ops k = some d
  under : Under F F' b
  row : ∃ o cs cur, ops[k]? = some o ∧ o.guard = none ∧ cOp P o.op o.type = some (.alloc cs) ∧ solid cs = true ∧ RowAt F'.w0 b cur ∧ ∀ ι w ok, CRs ι w ok cs (cur : Array Value).toList

def ptrV (b : Nat) : Value := .pointer (some ⟨b, 0, none⟩)

theorem front_ready {listed : Array Bool} {i : Nat} {r : List Nat} {hid : Nat → Bool} {o : Oper} (hl : Lst ops listed (i :: r) hid) (ho : ops[i]? = some o) (hf : Front P hs ops o i r) (hh : hid i = false) : i ∈ Region.ready .any ops listed := by
  have hlt : i < ops.size := (Array.getElem?_eq_some_iff.1 ho).1
  refine mem_ready.2 ⟨?_, o, ho, fun e he hb => ?_⟩
  · rw [Array.getD_eq_getD_getElem?, hl.2 i hlt, (isin_iff _ _).2 (List.mem_cons_self), hh]; rfl
  · obtain ⟨h1, h2⟩ := hf.pre e he hb
    rw [Array.getD_eq_getD_getElem?, hl.2 e.on h1, isin_false.2 h2]; rfl

theorem quiet_free {listed : Array Bool} {i : Nat} {r : List Nat} {hid : Nat → Bool} {o : Oper} {x : AOp} {w : World} (hl : Lst ops listed (i :: r) hid) (ho : ops[i]? = some o) (hx : cOpM P (isin i hs) o.op o.type = some x) (hf : Front P hs ops o i r) (hc : clsAt P hs ops i = 1 ∨ clsAt P hs ops i = 2) :
    ∀ j oj, ops[j]? = some oj → j ≠ i → listed.getD j true = false → j ∉ depsL P hs ops i r [] → Apart ops o oj ∧ ((∀ w', Cw x w w') ∨ 1 ≤ clsAt P hs ops j) := by
  intro j oj hoj hji hun hno
  have hlt : j < ops.size := (Array.getElem?_eq_some_iff.1 hoj).1
  have hjr : j ∈ r := by
    rw [Array.getD_eq_getD_getElem?, hl.2 j hlt] at hun
    simp only [Option.getD_some, Bool.or_eq_false_iff, Bool.not_eq_false'] at hun
    rcases List.mem_cons.1 ((isin_iff _ _).1 hun.1) with h | h
    · exact absurd h hji
    · exact h
  rcases hf.quiet hc j hjr with h | h
  · exact absurd h hno
  · obtain ⟨h1, h2⟩ := h oj hoj
    refine ⟨h1, h2.imp (fun h w' hr => ?_) id⟩
    rw [(cls_quiet ho hx hc).2.2 h] at hr
    cases hr

theorem deps_unlisted {listed : Array Bool} {i : Nat} {r : List Nat} {hid : Nat → Bool} (hl : Lst ops listed (i :: r) hid) (hh : ∀ j, j ∈ r → clsAt P hs ops j ≠ 4 → hid j = false) : ∀ j ∈ depsL P hs ops i r [], listed.getD j false = false := by
  intro j hj
  rcases deps_sub i r [] j hj with h | ⟨h1, h2⟩
  · cases h
  · cases hb : listed.getD j false with
    | false => rfl
    | true =>
      have := hl.unlisted hb (List.mem_cons_of_mem _ h1)
      rw [hh j h1 h2] at this
      cases this

theorem Cw.ext (x : AOp) (w : World) : ∀ w' w'', Cw x w w' → Ext w' w'' → Cw x w w'' := fun _ _ h k hr => (h hr).trans k
theorem Cw.refl (x : AOp) (w : World) : Cw x w w := fun _ => Ext.refl w

theorem draw_main {F : Fr} (hf : ∀ x, F.A x → x < F.w0.heap.size ∧ ¬ F.M x) (hh : ∀ x, F.M x → x < F.w0.heap.size)
    (hQn : ∀ ι s a w, Rel F N ι s a w → K s → Q .normal a w) (hQp : ∀ c a w, ¬ Q (.panic c) a w) (hsel : ∀ (j : Nat) (o : Oper) cs b, ops[j]? = some o → o.op ≠ .select cs b)
    (ord : List Nat) (huniq : ∀ j k, j ∈ ord → k ∈ ord → clsAt P hs ops j = 4 → clsAt P hs ops k = 4 → j = k) :
    ∀ (rest : List Nat), (∀ j ∈ rest, j ∈ ord) → okOrd P hs ops rest = true → ∀ xs, cOps P N hs ops.toList gs rest = some (xs.map AI.erase) →
      (∀ (k d b : Nat) (F' : Fr) (fuel : Nat) (listed : Array Bool) (ι : Nat → Gh) (s : S) (a : Act) (w : World), k ∈ rest → Hid P hs ops F F' k d b → Lst ops listed rest (fun j => Nat.beq j k) → rest.length ≤ fuel + 1 →
        Rel F' N ι s a w → awpOps P xs s K → wpAnyX P hs ops Q fuel listed (a.put (some d) (ptrV b)) w) ∧
      (∀ (fuel : Nat) (listed : Array Bool) (ι : Nat → Gh) (s : S) (a : Act) (w : World), Lst ops listed rest (fun _ => false) → rest.length ≤ fuel →
        Rel F N ι s a w → awpOps P xs s K → wpAnyX P hs ops Q fuel listed a w) := by
  intro rest
  induction rest with
  | nil =>
    intro _ _ xs hxs
    cases xs with
    | cons x r => simp [cOps] at hxs
    | nil =>
      refine ⟨fun k d b F' fuel listed ι s a w hk => (by cases hk), fun fuel listed ι s a w hl _ hr h => ?_⟩
      have hno : Region.ready .any ops listed = [] := by
        cases hrd : Region.ready .any ops listed with
        | nil => rfl
        | cons j js => have := (hl.ready_in (j := j) (by rw [hrd]; exact List.mem_cons_self)).1; cases this
      cases fuel with
      | zero => exact ⟨hno, hQn ι s a w hr h⟩
      | succ fuel => exact ⟨fun _ => hQn ι s a w hr h, fun i hi => by rw [hno] at hi; cases hi⟩
  | cons i r ih =>
    intro hsub hok xs hxs
    obtain ⟨hfr, hokr⟩ := okOrd_cons hok
    obtain ⟨o, x, g, drop, rest, rfl, ho, hd, hx, hg, hrest⟩ := cOps_cons hxs
    have hF := front_spec ho hfr
    obtain ⟨ih2, ih1⟩ := ih (fun j hj => hsub j (List.mem_cons_of_mem _ hj)) hokr rest hrest
    have P2 : ∀ (k d b : Nat) (F' : Fr) (fuel : Nat) (listed : Array Bool) (ι : Nat → Gh) (s : S) (a : Act) (w : World), k ∈ i :: r → Hid P hs ops F F' k d b → Lst ops listed (i :: r) (fun j => Nat.beq j k) → (i :: r).length ≤ fuel + 1 →
        Rel F' N ι s a w → awpOps P (.mk o.dst g (isin i gs) x drop :: rest) s K → wpAnyX P hs ops Q fuel listed (a.put (some d) (ptrV b)) w := by
      intro k d b F' fuel listed ι s a w hk hhid hl hfuel hr h
      by_cases hik : i = k
      · -- the variable's own turn
        subst hik
        obtain ⟨o', cs, cur, ho', hgn, hcop, hsol, hrow, hcs⟩ := hhid.row
        rw [ho] at ho'; cases ho'
        have hxx : cOp P o.op o.type = some x := by
          rcases clsAt_cases (P := P) (hs := hs) ho with ⟨_, h1⟩ | ⟨h1, _⟩
          · rw [hhid.cl] at h1; cases h1
          · rw [h1] at hx; exact hx
        rw [hxx] at hcop; cases hcop
        rw [hgn] at hg
        simp only [cGuard, Option.some.injEq] at hg
        subst hg
        have hdst : o.dst = some d := by have := hhid.dst; unfold dstOf at this; rw [ho] at this; exact this
        rw [hdst] at h
        simp only [awpOps, aop, hsol, cond_true] at h
        obtain ⟨s2, h5, h6⟩ := split_sound (hr.unhide hhid.under hf hh hrow hcs (hd d hdst)) (fun k hk => by cases hk; exact hd d hdst) h
        rw [force_eq] at h6
        exact ih1 fuel listed _ _ _ w (hl.show hF.nin) (by simp at hfuel; exact hfuel) (h5.drop drop) h6
      · have hkr : k ∈ r := (List.mem_cons.1 hk).resolve_left (fun h => hik h.symm)
        have hdk : dstOf ops k = some d := hhid.dst
        obtain ⟨hs1, hs2⟩ := hF.sep k hkr hhid.cl d hdk
        have hir : i ∈ Region.ready .any ops listed := front_ready hl ho hF (beq_false hik)
        have hlen : 1 ≤ r.length := List.length_pos_of_mem hkr
        obtain ⟨f, rfl⟩ : ∃ f, fuel = f + 1 := ⟨fuel - 1, by simp at hfuel; omega⟩
        have hl' := hl.step hF.nin
        have hfuel' : r.length ≤ f + 1 := by simp at hfuel; omega
        by_cases hc : clsAt P hs ops i = 1 ∨ clsAt P hs ops i = 2
        · obtain ⟨v, ι', s', hy, hr', h'⟩ := quiet_step hr hd (cls_quiet ho hx hc).1 (cls_quiet ho hx hc).2.1 hg h
          have hy' : YC P ops (Cw x w) o v (a.put (some d) (ptrV b)) :=
            hy.of_same (execOp_put o (fun cs b => hsel i o cs b ho) a (some d) (ptrV b) (fun e he => by cases he; exact hs1)) (wanted_put o a (some d) (ptrV b) (fun e he => by cases he; exact hs1))
          refine wpAnyX_first ho hsel hQp (Cw.ext x w) (depsL P hs ops i r []) (deps_edge i r) f listed _ w (Cw.refl x w) (deps_unlisted hl (fun j _ h4 => beq_false (fun e => h4 (by rw [e]; exact hhid.cl)))) (quiet_free hl ho hx hF hc) hir hy' ?_
          rw [Go.Act.put_comm a (ptrV b) v (fun e he => by cases he; exact hs2)]
          exact ih2 k d b F' f _ ι' s' _ w hkr hhid hl' hfuel' hr' h'
        · have hc4 : clsAt P hs ops i ≠ 4 := fun e => hik (huniq i k (hsub i List.mem_cons_self) (hsub k hk) e hhid.cl)
          have hc03 : clsAt P hs ops i = 0 ∨ clsAt P hs ops i = 3 := by have := cls_le (P := P) (hs := hs) ho; omega
          refine ⟨fun he => (by rw [he] at hir; cases hir), fun j hj => ?_⟩
          obtain ⟨hj1, hj2⟩ := hl.ready_in hj
          have hji : j = i := by
            rcases List.mem_cons.1 hj1 with h | hjr
            · exact h
            · rcases hF.heavy hc j hjr with h4 | hw
              · have := huniq j k (hsub j hj1) (hsub k hk) h4 hhid.cl
                subst this
                simp at hj2
              · obtain ⟨n, hn1, hn2⟩ := ready_waits hj hw
                rw [Bool.and_eq_true] at hn1
                have hnk := Nat.eq_of_beq_eq_true (hl.unlisted hn2 ((isin_iff _ _).1 hn1.1))
                subst hnk
                rw [hhid.cl] at hn1
                have hni : n ≠ i := fun e => hik e.symm
                rw [beq_false hni] at hn1
                cases hn1.2
          subst hji
          refine wpOp_behind ho hs1 hs2 (fun cs b => hsel j o cs b ho) hQp ?_
          refine heavy_step hr ho hd hx hc03 hg h fun ι1 s1 a1 w1 hr1 h1 he => ⟨he, ?_⟩
          exact ih2 k d b F' f _ ι1 s1 a1 w1 hkr hhid hl' hfuel' hr1 h1
    refine ⟨P2, fun fuel listed ι s a w hl hfuel hr h => ?_⟩
    have hir : i ∈ Region.ready .any ops listed := front_ready hl ho hF rfl
    obtain ⟨f, rfl⟩ : ∃ f, fuel = f + 1 := ⟨fuel - 1, by simp at hfuel; omega⟩
    have hl' := hl.step hF.nin
    have hfuel' : r.length ≤ f := by simp at hfuel; omega
    by_cases hc : clsAt P hs ops i = 1 ∨ clsAt P hs ops i = 2
    · obtain ⟨v, ι', s', hy, hr', h'⟩ := quiet_step hr hd (cls_quiet ho hx hc).1 (cls_quiet ho hx hc).2.1 hg h
      refine wpAnyX_first ho hsel hQp (Cw.ext x w) (depsL P hs ops i r []) (deps_edge i r) f listed _ w (Cw.refl x w) (deps_unlisted hl (fun _ _ _ => rfl)) (quiet_free hl ho hx hF hc) hir hy ?_
      exact ih1 f _ ι' s' _ w hl' hfuel' hr' h'
    · refine ⟨fun he => (by rw [he] at hir; cases hir), fun j hj => ?_⟩
      obtain ⟨hj1, hj2⟩ := hl.ready_in hj
      by_cases hj4 : clsAt P hs ops j = 4
      · -- a new variable comes up ahead of its turn, or at it
        obtain ⟨_, oj, hoj, _⟩ := mem_ready.1 hj
        obtain ⟨cs, d, hcop, hsol, hgn, hdst⟩ := cls_alloc hoj hj4
        obtain ⟨t, cur, hcs, hrun⟩ := alloc_run hcop hsol
        have hnr := NewRow.alloc w cur t
        have hgr := Grows.alloc w cur t
        obtain ⟨F', hu, hw0, hr'⟩ := hr.hide hgr (by rw [hnr.size]; omega)
        unfold wpOp
        simp only [hoj]
        rw [if_pos (by simp [Region.wanted, hgn])]
        refine .inl ?_
        unfold Oper.wp
        rw [hrun a w, Oper.upon_value, hdst]
        refine ⟨fun _ => ⟨hgr.size, fun b hb => hgr.block b hb (fun h => h)⟩, ?_⟩
        exact P2 j d w.heap.size F' f _ ι s a _ hj1 ⟨hj4, by unfold dstOf; rw [hoj]; exact hdst, hu, oj, cs, cur, hoj, hgn, hcop, hsol, by rw [hw0]; exact ⟨t, hnr.new⟩, hcs⟩ hl.hide hfuel hr' h
      · have hji : j = i := by
          rcases List.mem_cons.1 hj1 with h | hjr
          · exact h
          · rcases hF.heavy hc j hjr with h4 | hw
            · exact absurd h4 hj4
            · obtain ⟨n, hn1, hn2⟩ := ready_waits hj hw
              rw [Bool.and_eq_true] at hn1
              have := hl.unlisted hn2 ((isin_iff _ _).1 hn1.1)
              cases this
        subst hji
        have hc03 : clsAt P hs ops j = 0 ∨ clsAt P hs ops j = 3 := by have := cls_le (P := P) (hs := hs) ho; omega
        refine heavy_step hr ho hd hx hc03 hg h fun ι1 s1 a1 w1 hr1 h1 he => ⟨he, ?_⟩
        exact ih1 f _ ι1 s1 a1 w1 hl' hfuel' hr1 h1

theorem follows_of_ok {ord : List Nat} (h : okDraw P hs ops ord = true) : P.follows .mixedOrders = true ∧ (∀ i, i < ops.size → i ∈ ord) ∧ ord.length ≤ ops.size ∧ fewAllocs P hs ops ord = true ∧ okOrd P hs ops ord = true := by
  unfold okDraw at h
  simp only [Bool.and_eq_true] at h
  obtain ⟨⟨⟨⟨h1, h2⟩, h3⟩, h4⟩, h5⟩ := h
  refine ⟨h1, fun i hi => ?_, Nat.le_of_ble_eq_true h3, h4, h5⟩
  have := allL_iff.1 h2 i (by rw [upFrom_eq]; simp [List.mem_range']; omega)
  exact (isin_iff _ _).1 this

theorem draw_sound {F : Fr} {ords : List (Nat × List Nat)} {id : Nat} {xs : List AI} (hc : cReg P N ords id ops true = some (.reg (xs.map AI.erase))) {QE : E → S → Prop} {ι : Nat → Gh} {s : S} {a : Act} {w : World}
    (hr : Rel F N ι s a w) (h : awp P (.reg xs) QE s) : (Code.region id ops true).wp P (up F N QE) a w := by
  simp only [cReg] at hc
  split at hc
  case h_2 => cases hc
  rename_i ord _
  cases hok : okDraw P (marked ords id) ops ord with
  | false => rw [hok] at hc; cases hc
  | true =>
    rw [hok] at hc
    simp only [cond_true, Option.map_eq_some_iff, ACode.reg.injEq] at hc
    obtain ⟨ys, hcs, rfl⟩ := hc
    obtain ⟨h1, h2, h3, h4, h5⟩ := follows_of_ok hok
    refine wp_region_any h1 (wpAny_of_X (hs := marked ords id) _ _ _ _ ?_)
    have hsel : ∀ (j : Nat) (o : Oper) cs b, ops[j]? = some o → o.op ≠ .select cs b := by
      intro j o cs b ho he
      have hlt : j < ops.size := (Array.getElem?_eq_some_iff.1 ho).1
      obtain ⟨o', x, ho', hx⟩ := cOps_mem hcs j (h2 j hlt)
      rw [ho] at ho'; cases ho'
      rw [he] at hx
      cases hb : isin j (marked ords id) <;> rw [hb] at hx <;> cases hx
    have hr' : Rel F N ι s a { w with drawn := w.drawn + 1 } := hr.grown ⟨rfl, rfl, rfl, Nat.le_refl _, fun _ _ _ => rfl, fun _ _ _ h => h⟩
    refine (draw_main (F := F) (hs := marked ords id) (K := QE .normal) (Q := up F N QE) (gs := guardIx ops.toList) hr.foreign hr.handed (fun ι s a w hr hk => ⟨ι, s, hr, hk⟩) (fun c a w h => h) hsel ord (few_spec h4) ord (fun _ h => h) h5 xs hcs).2 ops.size _ ι s a _ ?_ h3 hr' h
    refine ⟨by simp, fun j hj => ?_⟩
    rw [(isin_iff _ _).2 (h2 j hj)]
    simp [hj]
end

end Go.AM
