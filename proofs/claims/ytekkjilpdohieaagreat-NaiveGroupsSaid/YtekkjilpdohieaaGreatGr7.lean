/- Merged from the texts: AmM5 -/
import Derived.Test.YtekkjilpdohieaaGreatGr6
set_option linter.unusedSimpArgs false
set_option linter.unusedVariables false
namespace Go.AM

def mwpOps (P : Program) (f : FuncId → List W → Option W) : Nat → List AI → S → (S → Prop) → Prop
  | 0, _, _, _ => False
  | _ + 1, [], s, K => K s
  | n + 1, .mk dst g isG op drop :: r, s, K =>
    match g with
    | none => match dst with
      | none => aop P none op s fun s1 => force (s1.drop drop) fun s2 => mwpOps P f n r s2 K
      | some d => avalK f op s (aop P (some d) op s fun s1 => split isG (some d) s1 fun s2 => force (s2.drop drop) fun s2 => mwpOps P f n r s2 K) fun ps v =>
          bif isG then
            force (s.put (some d) v) fun s1 => scK f 100 none (some d) drop r s1 (andL ps (split true (some d) s1 fun s2 => force (s2.drop drop) fun s2 => mwpOps P f n r s2 K)) fun ps2 s2 r2 =>
              andL ps (andL ps2 (mwpOps P f n r2 s2 K))
          else andL ps (force ((s.put (some d) v).drop drop) fun s2 => mwpOps P f n r s2 K)
    | some (d, want) => match s.tmp d with
      | .w (.c (.d (.lit (.bool b)))) =>
        bif (bif b then want else !want) then aop P dst op s fun s1 => split isG dst s1 fun s2 => force (s2.drop drop) fun s2 => mwpOps P f n r s2 K
        else force ((s.put dst undefV).drop drop) fun s => mwpOps P f n r s K
      | .tup [] => force ((s.put dst undefV).drop drop) fun s => mwpOps P f n r s K
      | _ => False

/-! What follows a piece of code, by how it ends. -/
def seqK (W : (E → S → Prop) → S → Prop) (Q : E → S → Prop) : E → S → Prop
  | .normal, s => W Q s
  | .exit i, s => Q (.exit i) s
  | .ret, s => Q .ret s
def blockK (id : Nat) (Q : E → S → Prop) : E → S → Prop
  | .normal, s => Q .normal s
  | .exit i, s => bif Nat.beq i id then Q .normal s else Q (.exit i) s
  | .ret, s => Q .ret s
def loopK (B : S → Prop) (Q : E → S → Prop) : E → S → Prop
  | .normal, s => B s
  | .exit i, s => Q (.exit i) s
  | .ret, s => Q .ret s
def endK (res : List ARes) (U : List Nat) (Q : Res → Prop) : E → S → Prop
  | .exit _, _ => False
  | .normal, s => retQ res U Q s
  | .ret, s => retQ res U Q s

/-- A loop: kept as it stands until one says how it goes. W: what must hold before the body. -/
def LoopP (W : (E → S → Prop) → S → Prop) (keep : List Nat) (Q : E → S → Prop) (s : S) : Prop :=
  ∃ (I : S → Prop) (μ : S → Nat), normW s keep I ∧ ∀ s1, I s1 →
    W (loopK (fun s2 => normW s2 keep fun s2 => I s2 ∧ μ s2 < μ s1) Q) s1

def mwtr (P : Program) (f : FuncId → List W → Option W) : ATr → S → (S → Prop) → Prop
  | .fin, s, K => K s
  | .run ops t, s, K => mwpOps P f 1000 ops s fun s1 => mwtr P f t s1 K
  | .br a b, s, K => mwtr P f a s K ∧ mwtr P f b s K
def mwp (P : Program) (f : FuncId → List W → Option W) : ACode → (E → S → Prop) → S → Prop
  | .skip, Q, s => Q .normal s
  | .reg ops, Q, s => mwpOps P f 1000 ops s (Q .normal)
  | .seq a b, Q, s => mwp P f a (seqK (fun Q s => mwp P f b Q s) Q) s
  | .cond c a b, Q, s => match litBool (s.o c) with
    | some t => cond t (mwp P f a Q s) (mwp P f b Q s)
    | none => False
  | .block id a, Q, s => mwp P f a (blockK id Q) s
  | .loop keep body, Q, s => LoopP (fun Q s => mwp P f body Q s) keep Q s
  | .scope a, Q, s => mwp P f a Q s
  | .exit i, Q, s => Q (.exit i) s
  | .ret, Q, s => Q .ret s
  | .tree t, Q, s => mwtr P f t s (Q .normal)

def mwpF (P : Program) (f : FuncId → List W → Option W) (F : AFun) (args : List W) (Q : Res → Prop) : Prop :=
  force ⟨initSl 0 args, []⟩ fun s => mwp P f F.code (endK F.res [] Q) s
def mwpFH (P : Program) (f : FuncId → List W → Option W) (F : AFun) (args : List W) (hs : List Pl) (Q : Res → Prop) : Prop :=
  force ⟨initSl 0 (args.map (W.ren ((hnames 100000 hs).map some))), numbered 100000 (hs.map (Pl.ren ((hnames 100000 hs).map some)))⟩ fun s =>
    mwp P f F.code (endK F.res (hnames 100000 hs) Q) s

section
variable {P : Program} {T : Tab P}

theorem cond_mono {b : Bool} {A B A' B' : Prop} (h1 : A → A') (h2 : B → B') : cond b A B → cond b A' B' := by cases b; exact h2; exact h1

theorem aop_mono {dst : Option Nat} {op : AOp} {s : S} {K K' : S → Prop} (hk : ∀ s, K s → K' s) : aop P dst op s K → aop P dst op s K' := by
  cases op <;> simp only [aop, aLd, aSt, aApp, aSli, aSls, aCall, aCallH, aPure, aBin, aMm, aIsn, aCpy, aClr, aSlw]
  all_goals repeat' first | exact fun h => hk _ h | exact id | refine cond_mono ?_ id | refine cond_mono ?_ ?_ | exact fun h => h.mono fun _ => hk _ | split
  all_goals try exact fun h => ⟨h.1, hk _ h.2⟩
  all_goals try exact fun h => ⟨h.1, h.2.1, hk _ h.2.2⟩
  all_goals try exact fun h => ⟨h.1, h.2.1, h.2.2.1, hk _ h.2.2.2⟩
  all_goals try exact fun h => ⟨h.1, h.2.1, h.2.2.1, h.2.2.2.1, hk _ h.2.2.2.2⟩
  all_goals try exact fun h => ⟨fun e => hk _ (h.1 e), hk _ h.2⟩
  all_goals try exact fun h c h1 h2 => hk _ (h c h1 h2)
  all_goals try exact fun ⟨y, h1, h2⟩ => ⟨y, h1, hk _ h2⟩
  all_goals try exact fun ⟨y, h1, h2, h3⟩ => ⟨y, h1, h2, hk _ h3⟩
  all_goals try exact fun ⟨h0, y, h1, h2, h3⟩ => ⟨h0, y, h1, h2, hk _ h3⟩
  all_goals try exact fun h => SatH.mono h fun r => cond_mono (hk _) id
  · rintro ⟨e, h1, h2⟩
    refine ⟨e, h1, ?_⟩
    split at h2
    · exact hk _ h2
    · exact h2.elim

theorem split_mono {isG : Bool} {dst : Option Nat} {s : S} {K K' : S → Prop} (hk : ∀ s, K s → K' s) : split isG dst s K → split isG dst s K' := by
  unfold split
  refine cond_mono ?_ (hk _)
  split
  · split
    · exact cond_mono (hk _) (hk _)
    · exact hk _
  · exact hk _

theorem mwpOps_ok : ∀ (n : Nat) (ops : List AI) (s : S) (K : S → Prop), mwpOps P T.f n ops s K → awpOps P ops s K
  | 0, _, _, _, h => h.elim
  | _ + 1, [], _, _, h => h
  | n + 1, .mk dst g isG op drop :: r, s, K, h => by
    unfold mwpOps at h
    simp only [force_eq] at h
    have hrec : ∀ s2, mwpOps P T.f n r s2 K → awpOps P r s2 K := fun s2 h => mwpOps_ok n r s2 K h
    cases g with
    | some x =>
      obtain ⟨d, w⟩ := x
      unfold awpOps
      simp only [force_eq] at h ⊢
      split at h
      · rename_i b hb
        rw [hb]
        simp only
        exact cond_mono (aop_mono fun s1 => split_mono fun s2 => hrec _) (hrec _) h
      · rename_i hb
        rw [hb]
        exact hrec _ h
      · exact h.elim
    | none =>
      simp only at h
      refine awpOps_step (g := none) rfl ?_
      cases dst with
      | none =>
        refine aop_mono (fun s1 h1 => ?_) h
        cases isG <;> exact hrec _ h1
      | some d =>
        simp only at h
        rcases avalK_of h with h | ⟨ps, v, ha, h⟩
        · exact aop_mono (fun s1 => split_mono fun s2 => hrec _) h
        cases isG with
        | false =>
          obtain ⟨h1, h2⟩ := andL_split h
          exact aval_ok ha h1 (hrec _ h2) rfl
        | true =>
          simp only [cond_true] at h
          rcases (mk_sk T.f 100).2 _ _ _ _ _ _ _ h with h | ⟨ps2, s2, r2, hs, h⟩
          · obtain ⟨h1, h2⟩ := andL_split h
            exact aval_ok ha h1 (split_mono (fun s2 => hrec _) h2) rfl
          · obtain ⟨h1, h2⟩ := andL_split h
            obtain ⟨h2, h3⟩ := andL_split h2
            refine aval_ok ha h1 ?_ rfl
            obtain ⟨_, _, hk⟩ := (mev_sc P T 100).2 _ _ _ _ _ _ _ _ hs
            have := hk [] K h2 (by rw [List.append_nil]; exact mwpOps_ok n r2 s2 K h3)
            rw [List.append_nil] at this
            exact this

theorem awpOps_mono {K K' : S → Prop} (hk : ∀ s, K s → K' s) : ∀ (ops : List AI) (s : S), awpOps P ops s K → awpOps P ops s K'
  | [], s, h => hk s h
  | .mk dst g isG op drop :: r, s, h => by
    have hrec : ∀ s2, awpOps P r s2 K → awpOps P r s2 K' := fun s2 h => awpOps_mono hk r s2 h
    unfold awpOps at h ⊢
    simp only [force_eq] at h ⊢
    cases g with
    | none => exact aop_mono (fun s1 => split_mono fun s2 => hrec _) h
    | some x =>
      obtain ⟨d, w⟩ := x
      simp only at h ⊢
      split at h
      · exact cond_mono (aop_mono fun s1 => split_mono fun s2 => hrec _) (hrec _) h
      · exact hrec _ h
      · exact h.elim

theorem normP_mono {s : S} {keep : List Nat} {K K' : S → Prop} (hk : ∀ s, K s → K' s) (h : normP s keep K) : normP s keep K' := by
  rw [normP_eq] at h ⊢; exact hk _ h

theorem atr_mono {K K' : S → Prop} (hk : ∀ s, K s → K' s) : ∀ (t : ATr) (s : S), atr P t s K → atr P t s K'
  | .fin, s, h => hk s h
  | .run ops t, s, h => awpOps_mono (fun s1 => atr_mono hk t s1) ops s h
  | .br a b, s, h => ⟨atr_mono hk a s h.1, atr_mono hk b s h.2⟩
theorem awp_mono : ∀ (c : ACode) {Q Q' : E → S → Prop} (_ : ∀ e s, Q e s → Q' e s) (s : S), awp P c Q s → awp P c Q' s
  | .skip, _, _, hq, s, h => hq _ _ h
  | .reg ops, _, _, hq, s, h => awpOps_mono (fun s => hq _ s) ops s h
  | .seq a b, _, _, hq, s, h => awp_mono a (fun e s1 h1 => by
      cases e with
      | normal => exact awp_mono b hq s1 h1
      | exit i => exact hq _ _ h1
      | ret => exact hq _ _ h1) s h
  | .cond c a b, Q, Q', hq, s, h => by
    unfold awp at h ⊢
    split at h
    · exact cond_mono (awp_mono a hq s) (awp_mono b hq s) h
    · exact h.elim
  | .block id a, Q, Q', hq, s, h => awp_mono a (fun e s1 h1 => by
      cases e with
      | normal => exact hq _ _ h1
      | exit i => exact cond_mono (hq _ _) (hq _ _) h1
      | ret => exact hq _ _ h1) s h
  | .loop keep body, Q, Q', hq, s, ⟨I, μ, h1, h2⟩ => ⟨I, μ, h1, fun s1 hs => awp_mono body (fun e s2 h3 => by
      cases e with
      | normal => exact h3
      | exit i => exact hq _ _ h3
      | ret => exact hq _ _ h3) s1 (h2 s1 hs)⟩
  | .scope a, _, _, hq, s, h => awp_mono a hq s h
  | .exit i, _, _, hq, s, h => hq _ _ h
  | .ret, _, _, hq, s, h => hq _ _ h
  | .tree t, _, _, hq, s, h => atr_mono (fun s => hq _ s) t s h

theorem mwpOps_mono {f : FuncId → List W → Option W} {K K' : S → Prop} (hk : ∀ s, K s → K' s) : ∀ (n : Nat) (ops : List AI) (s : S), mwpOps P f n ops s K → mwpOps P f n ops s K'
  | 0, _, _, h => h.elim
  | _ + 1, [], s, h => hk s h
  | n + 1, .mk dst g isG op drop :: r, s, h => by
    have hrec : ∀ r s2, mwpOps P f n r s2 K → mwpOps P f n r s2 K' := fun r s2 h => mwpOps_mono hk n r s2 h
    have handL : ∀ {l : List Prop} {A B : Prop}, (A → B) → andL l A → andL l B := fun h h' => let ⟨a, b⟩ := andL_split h'; andL_mk a (h b)
    unfold mwpOps at h ⊢
    simp only [force_eq] at h ⊢
    cases g with
    | some x =>
      obtain ⟨d, w⟩ := x
      simp only at h ⊢
      split at h
      · exact cond_mono (aop_mono fun s1 => split_mono fun s2 => hrec _ _) (hrec _ _) h
      · exact hrec _ _ h
      · exact h.elim
    | none =>
      cases dst with
      | none => exact aop_mono (fun s1 => hrec _ _) h
      | some d =>
        simp only at h ⊢
        refine avalK_mono (fun h => aop_mono (fun s1 => split_mono fun s2 => hrec _ _) h) (fun ps v h => ?_) h
        cases isG with
        | false => exact handL (hrec _ _) h
        | true =>
          simp only [cond_true] at h ⊢
          exact scK_mono (handL (split_mono fun s2 => hrec _ _)) (fun _ _ _ => handL (handL (hrec _ _))) h

theorem mwtr_mono {f : FuncId → List W → Option W} {K K' : S → Prop} (hk : ∀ s, K s → K' s) : ∀ (t : ATr) (s : S), mwtr P f t s K → mwtr P f t s K'
  | .fin, s, h => hk s h
  | .run ops t, s, h => mwpOps_mono (fun s1 => mwtr_mono hk t s1) _ ops s h
  | .br a b, s, h => ⟨mwtr_mono hk a s h.1, mwtr_mono hk b s h.2⟩
theorem mwtr_ok {K : S → Prop} : ∀ (t : ATr) (s : S), mwtr P T.f t s K → atr P t s K
  | .fin, s, h => h
  | .run ops t, s, h => awpOps_mono (fun s1 => mwtr_ok t s1) ops s (mwpOps_ok _ _ _ _ h)
  | .br a b, s, h => ⟨mwtr_ok a s h.1, mwtr_ok b s h.2⟩
theorem mwp_mono {f : FuncId → List W → Option W} : ∀ (c : ACode) {Q Q' : E → S → Prop} (_ : ∀ e s, Q e s → Q' e s) (s : S), mwp P f c Q s → mwp P f c Q' s
  | .skip, _, _, hq, s, h => hq _ _ h
  | .reg ops, _, _, hq, s, h => mwpOps_mono (fun s => hq _ s) _ ops s h
  | .seq a b, _, _, hq, s, h => mwp_mono a (fun e s1 h1 => by
      cases e with
      | normal => exact mwp_mono b hq s1 h1
      | exit i => exact hq _ _ h1
      | ret => exact hq _ _ h1) s h
  | .cond c a b, Q, Q', hq, s, h => by
    unfold mwp at h ⊢
    split at h
    · exact cond_mono (mwp_mono a hq s) (mwp_mono b hq s) h
    · exact h.elim
  | .block id a, Q, Q', hq, s, h => mwp_mono a (fun e s1 h1 => by
      cases e with
      | normal => exact hq _ _ h1
      | exit i => exact cond_mono (hq _ _) (hq _ _) h1
      | ret => exact hq _ _ h1) s h
  | .loop keep body, Q, Q', hq, s, ⟨I, μ, h1, h2⟩ => ⟨I, μ, h1, fun s1 hs => mwp_mono body (fun e s2 h3 => by
      cases e with
      | normal => exact h3
      | exit i => exact hq _ _ h3
      | ret => exact hq _ _ h3) s1 (h2 s1 hs)⟩
  | .scope a, _, _, hq, s, h => mwp_mono a hq s h
  | .exit i, _, _, hq, s, h => hq _ _ h
  | .ret, _, _, hq, s, h => hq _ _ h
  | .tree t, _, _, hq, s, h => mwtr_mono (fun s => hq _ s) t s h

theorem mwp_ok : ∀ (c : ACode) (Q : E → S → Prop) (s : S), mwp P T.f c Q s → awp P c Q s
  | .skip, _, _, h => h
  | .reg ops, Q, s, h => mwpOps_ok _ _ _ _ h
  | .seq a b, Q, s, h => awp_mono a (fun e s1 h1 => by
      cases e with
      | normal => exact mwp_ok b Q s1 h1
      | exit i => exact h1
      | ret => exact h1) s (mwp_ok a _ s h)
  | .cond c a b, Q, s, h => by
    unfold mwp at h
    unfold awp
    split at h
    · rename_i t ht
      rw [ht]
      exact cond_mono (mwp_ok a Q s) (mwp_ok b Q s) h
    · exact h.elim
  | .block id a, Q, s, h => awp_mono a (fun e s1 h1 => by
      cases e with
      | normal => exact h1
      | exit i => exact h1
      | ret => exact h1) s (mwp_ok a _ s h)
  | .loop keep body, Q, s, ⟨I, μ, h1, h2⟩ => ⟨I, μ, h1, fun s1 hs => awp_mono body (fun e s2 h3 => by
      cases e with
      | normal => exact h3
      | exit i => exact h3
      | ret => exact h3) s1 (mwp_ok body _ s1 (h2 s1 hs))⟩
  | .scope a, Q, s, h => mwp_ok a Q s h
  | .exit i, Q, s, h => h
  | .ret, Q, s, h => h
  | .tree t, Q, s, h => mwtr_ok t s h
end

theorem Sat_of_mwpF {P : Program} {k : Nat} {ords : List (Nat × List Nat)} {A : AFun} {args : List W} {Q : Res → Prop} (T : Tab P) (h1 : cFun P ords k = some A.erase) (h2 : callable P k = true) (h : mwpF P T.f A args Q) : Sat P k args Q := by
  refine Sat_of_awpF h1 h2 ?_
  unfold mwpF at h
  unfold awpF
  rw [force_eq] at h ⊢
  exact awp_mono _ (fun e s h => by cases e <;> exact h) _ (mwp_ok _ _ _ h)
theorem SatH_of_mwpFH {P : Program} {k : Nat} {ords : List (Nat × List Nat)} {A : AFun} {args : List W} {hs : List Pl} {Q : Res → Prop} (T : Tab P) (h1 : cFun P ords k = some A.erase) (h2 : callable P k = true) (h3 : hs.length ≤ 1000) (h : mwpFH P T.f A args hs Q) : SatH P k args hs Q := by
  refine SatH_of_awpFH h1 h2 h3 ?_
  unfold mwpFH at h
  unfold awpFH awpFHat
  rw [force_eq] at h ⊢
  exact awp_mono _ (fun e s h => by cases e <;> exact h) _ (mwp_ok _ _ _ h)

theorem normW_mono {s : S} {keep : List Nat} {K K' : S → Prop} (hk : ∀ s, K s → K' s) (h : normW s keep K) : normW s keep K' := let ⟨t, h1, h2⟩ := h; ⟨t, h1, normP_mono hk h2⟩

/-- The least n for which p holds. -/
theorem least {p : Nat → Prop} : ∀ (n : Nat), p n → ∃ m, p m ∧ ∀ k, p k → m ≤ k := by
  intro n
  induction n using Nat.strongRecOn with
  | _ n ih =>
    intro hn
    by_cases h : ∃ k, k < n ∧ p k
    · obtain ⟨k, h1, h2⟩ := h
      exact ih k h1 h2
    · exact ⟨n, hn, fun k hk => Nat.le_of_not_lt fun hlt => h ⟨k, hlt, hk⟩⟩

/-- A loop whose states are a family: from each of them to the next one. -/
theorem loop_fam {W : (E → S → Prop) → S → Prop} (hW : ∀ {Q Q' : E → S → Prop} (_ : ∀ e s, Q e s → Q' e s) (s : S), W Q s → W Q' s) {keep : List Nat} {Q : E → S → Prop} {s : S} {ι : Type} (σ : ι → S) (μ : ι → Nat) (R : ι → Prop)
    (h0 : ∃ i, R i ∧ normW s keep (· = σ i))
    (hb : ∀ i, R i → W (loopK (fun s2 => ∃ j, (R j ∧ μ j < μ i) ∧ normW s2 keep (· = σ j)) Q) (σ i)) : LoopP W keep Q s := by
  classical
  have hmin : ∀ t, (∃ i, R i ∧ t = σ i) → ∃ m, (∃ i, R i ∧ t = σ i ∧ μ i = m) ∧ ∀ k, (∃ i, R i ∧ t = σ i ∧ μ i = k) → m ≤ k :=
    fun t ⟨i, h1, h2⟩ => least (p := fun k => ∃ i, R i ∧ t = σ i ∧ μ i = k) (μ i) ⟨i, h1, h2, rfl⟩
  let M : S → Nat := fun t => if h : ∃ i, R i ∧ t = σ i then Classical.choose (hmin t h) else 0
  have hM : ∀ t (h : ∃ i, R i ∧ t = σ i), (∃ i, R i ∧ t = σ i ∧ μ i = M t) ∧ ∀ k, (∃ i, R i ∧ t = σ i ∧ μ i = k) → M t ≤ k := fun t h => by
    have := Classical.choose_spec (hmin t h)
    have e : M t = Classical.choose (hmin t h) := dif_pos h
    rw [e]; exact this
  refine ⟨fun t => ∃ i, R i ∧ t = σ i, M, ?_, ?_⟩
  · obtain ⟨i, h1, h2⟩ := h0
    exact normW_mono (fun t ht => ⟨i, h1, ht⟩) h2
  · intro t ht
    obtain ⟨⟨i, h1, h2, h3⟩, _⟩ := hM t ht
    subst h2
    refine hW (fun e s2 h => ?_) _ (hb i h1)
    cases e with
    | normal =>
      obtain ⟨j, ⟨h4, h5⟩, h6⟩ := h
      refine normW_mono (fun t ht => ?_) h6
      subst ht
      refine ⟨⟨j, h4, rfl⟩, ?_⟩
      have := (hM (σ j) ⟨j, h4, rfl⟩).2 (μ j) ⟨j, h4, rfl, rfl⟩
      omega
    | exit k => exact h
    | ret => exact h
/-- A loop over indices 0, 1 .. n: the state at each of them is written out. R says what is known at it. -/
theorem loop_ix {P : Program} {f : FuncId → List W → Option W} {keep : List Nat} {body : ACode} {Q : E → S → Prop} {s : S} (n : Nat) (σ : Nat → S) (R : Nat → Prop) (h0 : R 0 ∧ normW s keep (· = σ 0))
    (hb : ∀ i, i ≤ n → R i → mwp P f body (loopK (fun s2 => i < n ∧ R (i + 1) ∧ normW s2 keep (· = σ (i + 1))) Q) (σ i)) : LoopP (fun Q s => mwp P f body Q s) keep Q s := by
  refine loop_fam (mwp_mono body) σ (fun i => n - i) (fun i => i ≤ n ∧ R i) ⟨0, ⟨Nat.zero_le _, h0.1⟩, h0.2⟩ ?_
  rintro i ⟨h1, h2⟩
  refine mwp_mono body (fun e s2 h => ?_) _ (hb i h1 h2)
  cases e with
  | normal =>
    obtain ⟨h3, h4, h5⟩ := h
    exact ⟨i + 1, ⟨⟨h3, h4⟩, by omega⟩, h5⟩
  | exit k => exact h
  | ret => exact h
end Go.AM
