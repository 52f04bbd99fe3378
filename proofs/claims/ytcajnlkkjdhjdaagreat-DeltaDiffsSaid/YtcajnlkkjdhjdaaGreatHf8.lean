/- Merged from the texts: AmM7 AmM8 Code1 -/
import Derived.Test.YtcajnlkkjdhjdaaGreatProg
import Derived.Test.YtcajnlkkjdhjdaaGreatHf7
set_option linter.unusedSimpArgs false
set_option linter.unusedVariables false
namespace Go.AM

mutual
def bnd : D → Prop
  | .lit _ => True
  | .sl l => l.length ≤ 9223372036854775807 ∧ bnds l
  | .fn _ _ => True
def bnds : List (List D) → Prop
  | [] => True
  | e :: r => bndc e ∧ bnds r
def bndc : List D → Prop
  | [] => True
  | d :: r => bnd d ∧ bndc r
end
mutual
theorem RD_bnd {w : World} {ok : Nat → Prop} : ∀ (d : D) (v : Value), RD w ok d v → bnd d
  | .lit _, _, _ => by simp only [bnd]
  | .sl l, v, h => by
    simp only [RD] at h
    obtain ⟨a, n, c, h1, h2, h3, h4, h5⟩ := h
    simp only [bnd]
    refine ⟨by rw [← h2]; simp only [maxLen] at h4; omega, ?_⟩
    rcases h5 with h5 | ⟨b, o, sz, _, _, h6⟩
    · subst h5; simp only [bnds]
    · exact RDs_bnd l b sz o h6
  | .fn _ _, _, _ => by simp only [bnd]
theorem RDs_bnd {w : World} {ok : Nat → Prop} : ∀ (l : List (List D)) (b sz o : Nat), RDs w ok b sz o l → bnds l
  | [], _, _, _, _ => by simp only [bnds]
  | e :: r, b, sz, o, h => by
    simp only [RDs] at h
    simp only [bnds]
    exact ⟨RDc_bnd e b o h.2.1, RDs_bnd r b sz (o + sz) h.2.2⟩
theorem RDc_bnd {w : World} {ok : Nat → Prop} : ∀ (l : List D) (b o : Nat), RDc w ok b o l → bndc l
  | [], _, _, _ => by simp only [bndc]
  | d :: r, b, o, h => by
    simp only [RDc] at h
    simp only [bndc]
    obtain ⟨⟨v, _, h1⟩, h2⟩ := h
    exact ⟨RD_bnd d v h1, RDc_bnd r b (o + 1) h2⟩
end
theorem bnds_iff {l : List (List D)} : bnds l ↔ ∀ e ∈ l, bndc e := by
  induction l with
  | nil => simp [bnds]
  | cons x r ih => simp [bnds, ih]
theorem bndc_iff {l : List D} : bndc l ↔ ∀ e ∈ l, bnd e := by
  induction l with
  | nil => simp [bndc]
  | cons x r ih => simp [bndc, ih]
def bndC : C → Prop
  | .d x => bnd x
  | .fp l => bndc l
  | _ => True
def bndW : W → Prop
  | .c x => bndC x
  | .agg cs => ∀ x ∈ cs, bndC x
theorem CR_bnd {ι : Nat → Gh} {w : World} {ok : Nat → Prop} {c : C} {v : Value} (h : CR ι w ok c v) : bndC c := by
  cases c with
  | d x => exact RD_bnd x v h
  | fp l => obtain ⟨b, o, _, _, h⟩ := h; exact RDc_bnd l b o h
  | _ => trivial
theorem CRs_bnd {ι : Nat → Gh} {w : World} {ok : Nat → Prop} : ∀ {cs : List C} {vs : List Value}, CRs ι w ok cs vs → ∀ c ∈ cs, bndC c
  | [], _, _, c, hc => by cases hc
  | x :: r, [], h, _, _ => h.elim
  | x :: r, v :: vs, h, c, hc => by
    rcases List.mem_cons.1 hc with rfl | hc
    · exact CR_bnd h.1
    · exact CRs_bnd h.2 c hc
theorem WR_bnd {ι : Nat → Gh} {w : World} {ok : Nat → Prop} {x : W} {v : Value} (h : WR ι w ok x v) : bndW x := by
  cases x with
  | c x => exact CR_bnd h
  | agg cs => obtain ⟨vs, _, h⟩ := h; exact CRs_bnd h
theorem WRs_bnd {ι : Nat → Gh} {w : World} {ok : Nat → Prop} : ∀ {xs : List W} {vs : List Value}, WRs ι w ok xs vs → ∀ x ∈ xs, bndW x
  | [], _, _, c, hc => by cases hc
  | x :: r, [], h, _, _ => h.elim
  | x :: r, v :: vs, h, c, hc => by
    rcases List.mem_cons.1 hc with rfl | hc
    · exact WR_bnd h.1
    · exact WRs_bnd h.2 c hc

/-- What is handed over is bounded. -/
theorem sat_bnd {P : Program} {k : Nat} {args : List W} {Q : Res → Prop} (hk : callable P k = true) (h : (∀ x ∈ args, bndW x) → Sat P k args Q) : Sat P k args Q :=
  ⟨hk, fun w A vals hA hw => (h (WRs_bnd hw)).2 w A vals hA hw⟩
/-- The i-th argument is a slice: its length is bounded. -/
theorem sat_len {P : Program} {k : Nat} {args : List W} {Q : Res → Prop} (i : Nat) {l : List (List D)} (hk : callable P k = true) (hi : args[i]? = some (.c (.d (.sl l)))) (h : l.length ≤ 9223372036854775807 → Sat P k args Q) : Sat P k args Q :=
  sat_bnd hk fun hb => h (by
    have := hb _ (List.mem_of_getElem? hi)
    simp only [bndW, bndC, bnd] at this
    exact this.1)
theorem wrapS {i : Nat} {n : Nat} (h : i < n) (hn : n ≤ 9223372036854775807) : IntKind.i64.wrap ((i : Int) + 1) = ((i + 1 : Nat) : Int) := by
  rw [IntKind.wrap_i64]; omega
theorem wrapI {n : Int} (h1 : -9223372036854775808 ≤ n) (h2 : n ≤ 9223372036854775807) : IntKind.i64.wrap n = n := by
  rw [IntKind.wrap_i64]; omega
end Go.AM

namespace Go.AM

noncomputable def andR (l : List Prop) (K : Prop) : Prop := List.rec (motive := fun _ => Prop) K (fun p _ ih => p ∧ ih) l
theorem andR_eq : ∀ (l : List Prop) (K : Prop), andR l K = andL l K
  | [], _ => rfl
  | p :: r, K => by
    show (p ∧ andR r K) = (p ∧ andL r K)
    rw [andR_eq r K]

/-- 'forceN l K' is 'K l', the list written out before one goes on. -/
noncomputable def forceN (l : List Nat) (K : List Nat → Prop) : Prop := List.rec (motive := fun _ => (List Nat → Prop) → Prop) (fun K => K []) (fun x _ ih K => ih (fun r => K (x :: r))) l K
theorem forceN_eq : ∀ (l : List Nat) (K : List Nat → Prop), forceN l K = K l
  | [], _ => rfl
  | x :: r, K => forceN_eq r fun r => K (x :: r)

noncomputable def aCallR (P : Program) (dst : Option Nat) (f : FuncId) (args : List W) (s : S) (K : S → Prop) : Prop :=
  forceN (reached s.pl [] (refsWs args)) fun U =>
    SatH P f (args.map (W.pk s.pl U)) (pkPls s.pl U 0 U) fun r => cond (okNames U (nbase dst U) r) (K (recvN s U (nbase dst U) dst r)) False

noncomputable def aopR (P : Program) (dst : Option Tmp) (op : AOp) (s : S) (K : S → Prop) : Prop :=
  match op with
  | .callh f args => aCallR P dst f (args.map s.ow) s K
  | op => aop P dst op s K
theorem aopR_eq (P : Program) : aopR P = aop P := by
  funext dst op s K
  cases op <;> try rfl
  simp only [aopR, aop, aCallR, aCallH, forceN_eq]

noncomputable def opsG (ap : Option Tmp → AOp → S → (S → Prop) → Prop) (f : FuncId → List W → Option W) (n : Nat) : List AI → S → (S → Prop) → Prop :=
  Nat.rec (motive := fun _ => List AI → S → (S → Prop) → Prop) (fun _ _ _ => False) (fun _ ih ops s K => match ops with
    | [] => K s
    | .mk dst g isG op drop :: r =>
      match g with
      | none => match dst with
        | none => ap none op s fun s1 => force (s1.drop drop) fun s2 => ih r s2 K
        | some d => avalK f op s (ap (some d) op s fun s1 => split isG (some d) s1 fun s2 => force (s2.drop drop) fun s2 => ih r s2 K) fun ps v =>
            bif isG then
              force (s.put (some d) v) fun s1 => scK f 100 none (some d) drop r s1 (andR ps (split true (some d) s1 fun s2 => force (s2.drop drop) fun s2 => ih r s2 K)) fun ps2 s2 r2 =>
                andR ps (andR ps2 (ih r2 s2 K))
            else andR ps (force ((s.put (some d) v).drop drop) fun s2 => ih r s2 K)
      | some (d, want) => match s.tmp d with
        | .w (.c (.d (.lit (.bool b)))) =>
          bif (bif b then want else !want) then ap dst op s fun s1 => split isG dst s1 fun s2 => force (s2.drop drop) fun s2 => ih r s2 K
          else force ((s.put dst undefV).drop drop) fun s => ih r s K
        | .tup [] => force ((s.put dst undefV).drop drop) fun s => ih r s K
        | _ => False) n

theorem opsG_eq (P : Program) (f : FuncId → List W → Option W) : ∀ n, opsG (aop P) f n = mwpOps P f n
  | 0 => by
    funext ops s K
    unfold mwpOps
    rfl
  | n + 1 => by
    funext ops s K
    have ih := opsG_eq P f n
    cases ops with
    | nil => unfold mwpOps; rfl
    | cons i r =>
      obtain ⟨dst, g, isG, op, drop⟩ := i
      unfold mwpOps
      rw [← ih]
      simp only [← andR_eq]
      rfl

noncomputable def opsR (P : Program) (f : FuncId → List W → Option W) (n : Nat) : List AI → S → (S → Prop) → Prop := opsG (aopR P) f n
theorem opsR_eq (P : Program) (f : FuncId → List W → Option W) (n : Nat) : opsR P f n = mwpOps P f n := by
  unfold opsR
  rw [aopR_eq]
  exact opsG_eq P f n

noncomputable def mwtrR (P : Program) (f : FuncId → List W → Option W) (t : ATr) : S → (S → Prop) → Prop :=
  ATr.rec (motive := fun _ => S → (S → Prop) → Prop) (fun s K => K s) (fun ops _ ih s K => opsR P f 1000 ops s fun s1 => ih s1 K) (fun _ _ ia ib s K => ia s K ∧ ib s K) t
theorem mwtrR_eq (P : Program) (f : FuncId → List W → Option W) : ∀ t, mwtrR P f t = mwtr P f t
  | .fin => rfl
  | .run ops t => by
    funext s K
    unfold mwtr
    rw [← mwtrR_eq P f t, ← opsR_eq]
    rfl
  | .br a b => by
    funext s K
    unfold mwtr
    rw [← mwtrR_eq P f a, ← mwtrR_eq P f b]
    rfl

noncomputable def mwpR (P : Program) (f : FuncId → List W → Option W) (c : ACode) : (E → S → Prop) → S → Prop :=
  ACode.rec (motive := fun _ => (E → S → Prop) → S → Prop)
    (fun Q s => Q .normal s)
    (fun ops Q s => opsR P f 1000 ops s (Q .normal))
    (fun _ _ ia ib Q s => ia (seqK ib Q) s)
    (fun c _ _ ia ib Q s => match litBool (s.o c) with
      | some t => cond t (ia Q s) (ib Q s)
      | none => False)
    (fun id _ ia Q s => ia (blockK id Q) s)
    (fun keep _ ib Q s => LoopP ib keep Q s)
    (fun _ ia Q s => ia Q s)
    (fun i Q s => Q (.exit i) s)
    (fun Q s => Q .ret s)
    (fun t Q s => mwtrR P f t s (Q .normal)) c

theorem mwpR_eq (P : Program) (f : FuncId → List W → Option W) : ∀ c, mwpR P f c = mwp P f c
  | .skip => by funext Q s; unfold mwp; rfl
  | .reg ops => by
    funext Q s
    unfold mwp
    rw [← opsR_eq]
    rfl
  | .seq a b => by
    funext Q s
    unfold mwp
    rw [← mwpR_eq P f a, ← mwpR_eq P f b]
    rfl
  | .cond c a b => by
    funext Q s
    unfold mwp
    rw [← mwpR_eq P f a, ← mwpR_eq P f b]
    rfl
  | .block i a => by
    funext Q s
    unfold mwp
    rw [← mwpR_eq P f a]
    rfl
  | .loop k b => by
    funext Q s
    unfold mwp
    rw [← mwpR_eq P f b]
    rfl
  | .scope a => by
    funext Q s
    unfold mwp
    rw [← mwpR_eq P f a]
    rfl
  | .exit i => by funext Q s; unfold mwp; rfl
  | .ret => by funext Q s; unfold mwp; rfl
  | .tree t => by
    funext Q s
    unfold mwp
    rw [← mwtrR_eq]
    rfl

noncomputable def wpF (P : Program) (f : FuncId → List W → Option W) (F : AFun) (args : List W) (Q : Res → Prop) : Prop :=
  force ⟨initSl 0 args, []⟩ fun s => mwpR P f F.code (endK F.res [] Q) s
noncomputable def wpFH (P : Program) (f : FuncId → List W → Option W) (F : AFun) (args : List W) (hs : List Pl) (Q : Res → Prop) : Prop :=
  force ⟨initSl 0 (args.map (W.ren ((hnames 100000 hs).map some))), numbered 100000 (hs.map (Pl.ren ((hnames 100000 hs).map some)))⟩ fun s =>
    mwpR P f F.code (endK F.res (hnames 100000 hs) Q) s

theorem Sat_of {P : Program} {k : Nat} {ords : List (Nat × List Nat)} {A : AFun} {args : List W} {Q : Res → Prop} (T : Tab P) (h1 : cFun P ords k = some A.erase) (h2 : callable P k = true) (h : wpF P T.f A args Q) : Sat P k args Q := by
  refine Sat_of_mwpF T h1 h2 ?_
  unfold wpF at h
  unfold mwpF
  rw [mwpR_eq] at h
  exact h
theorem SatH_of {P : Program} {k : Nat} {ords : List (Nat × List Nat)} {A : AFun} {args : List W} {hs : List Pl} {Q : Res → Prop} (T : Tab P) (h1 : cFun P ords k = some A.erase) (h2 : callable P k = true) (h3 : hs.length ≤ 1000) (h : wpFH P T.f A args hs Q) : SatH P k args hs Q := by
  refine SatH_of_mwpFH T h1 h2 h3 ?_
  unfold wpFH at h
  unfold mwpFH
  rw [mwpR_eq] at h
  exact h

theorem mwpR_mono {P : Program} {f : FuncId → List W → Option W} (c : ACode) {Q Q' : E → S → Prop} (hq : ∀ e s, Q e s → Q' e s) (s : S) : mwpR P f c Q s → mwpR P f c Q' s := by
  rw [mwpR_eq]; exact mwp_mono c hq s

/-- A loop over a family of states. -/
theorem loopF {P : Program} {f : FuncId → List W → Option W} {body : ACode} {keep : List Nat} {Q : E → S → Prop} {s : S} {ι : Type} (σ : ι → S) (μ : ι → Nat) (R : ι → Prop) (h0 : ∃ i, R i ∧ normW s keep (· = σ i))
    (hb : ∀ i, R i → mwpR P f body (loopK (fun s2 => ∃ j, (R j ∧ μ j < μ i) ∧ normW s2 keep (· = σ j)) Q) (σ i)) : LoopP (mwpR P f body) keep Q s :=
  loop_fam (mwpR_mono body) σ μ R h0 hb

/-- A loop over indices 0, 1 .. n. -/
theorem loopI {P : Program} {f : FuncId → List W → Option W} {body : ACode} {keep : List Nat} {Q : E → S → Prop} {s : S} (n : Nat) (σ : Nat → S) (R : Nat → Prop) (h0 : R 0 ∧ normW s keep (· = σ 0))
    (hb : ∀ i, i ≤ n → R i → mwpR P f body (loopK (fun s2 => i < n ∧ R (i + 1) ∧ normW s2 keep (· = σ (i + 1))) Q) (σ i)) : LoopP (mwpR P f body) keep Q s := by
  refine loopF σ (fun i => n - i) (fun i => i ≤ n ∧ R i) ⟨0, ⟨Nat.zero_le _, h0.1⟩, h0.2⟩ ?_
  rintro i ⟨h1, h2⟩
  refine mwpR_mono body (fun e s2 h => ?_) _ (hb i h1 h2)
  cases e with
  | normal =>
    obtain ⟨h3, h4, h5⟩ := h
    exact ⟨i + 1, ⟨⟨h3, h4⟩, by omega⟩, h5⟩
  | exit k => exact h
  | ret => exact h
end Go.AM

namespace Go.Proofs.YtcajnlkkjdhjdaaGreat
open Go Go.AM
noncomputable abbrev Pg : Program := Tryz.prog
def k_law45_DeltaDiffs : Nat := 3
def k_law45_DeltaApplies : Nat := 4
def k_law45_DeltaLeads : Nat := 5
def k_law45_awake : Nat := 6
def k_ref39_FewTable : Nat := 7
def k_delta_Diff : Nat := 8
def k_ref45_Diff : Nat := 9
def k_ref45_Same : Nat := 10
def k_ref45_FewChanges : Nat := 11
def k_delta_Apply : Nat := 12
def k_ref45_Apply : Nat := 13
def k_ref34_Same : Nat := 14
def k_ref45_Rows : Nat := 15
def k_law45_numbers : Nat := 16
def k_delta_Linear : Nat := 17
def k_ref39_FewCols : Nat := 18
def k_table_Check : Nat := 19
def k_slices_Equal_Column : Nat := 20
def k_delta_summed : Nat := 21
def k_delta_counted : Nat := 22
def k_ref34_Check : Nat := 23
def k_ref39_Same : Nat := 24
def k_ref42_Compare : Nat := 25
def k_ref45_count : Nat := 26
def k_ref33_Same : Nat := 27
def k_delta_order : Nat := 28
def k_delta_values : Nat := 29
def k_slices_Clone_Column : Nat := 30
def k_slices_Repeat_LValue : Nat := 31
def k_ref45_changes : Nat := 32
def k_ref45_without : Nat := 33
def k_ref34_SameRow : Nat := 34
def k_syntax_Query : Nat := 35
def k_slices_ContainsFunc_QStep : Nat := 36
def k_delta_Linear_1 : Nat := 37
def k_intern_Name : Nat := 38
def k_table_Col : Nat := 39
def k_column_Value : Nat := 40
def k_slices_Concat_Change : Nat := 41
def k_slices_SortStableFunc_Change : Nat := 42
def k_delta_summed_1 : Nat := 43
def k_slices_DeleteFunc_Change : Nat := 44
def k_delta_summed_2 : Nat := 45
def k_slices_SortedFunc_LValue : Nat := 46
def k_slices_Values_LValue : Nat := 47
def k_ref06_Name : Nat := 48
def k_ref34_Col : Nat := 49
def k_ref33_Value : Nat := 50
def k_ref34_Order : Nat := 51
def k_slices_CompareFunc_Value : Nat := 52
def k_table_Order : Nat := 53
def k_math_bits_Mul : Nat := 54
def k_ref45_values : Nat := 55
def k_syntax_identifier : Nat := 56
def k_syntax_Step : Nat := 57
def k_slices_IndexFunc_QStep : Nat := 58
def k_intern_letter : Nat := 59
def k_slices_IndexFunc_Column : Nat := 60
def k_table_Col_1 : Nat := 61
def k_num_In : Nat := 62
def k_slices_Grow_Change : Nat := 63
def k_slices_stableCmpFunc_Change : Nat := 64
def k_slices_IndexFunc_Change : Nat := 65
def k_slices_Collect_LValue : Nat := 66
def k_slices_SortFunc_LValue : Nat := 67
def k_slices_Values_LValue_1 : Nat := 68
def k_ref06_letter : Nat := 69
def k_ref01_In : Nat := 70
def k_ref34_numbers : Nat := 71
def k_cmp_Compare_ValueKind : Nat := 72
def k_cmp_Compare_string : Nat := 73
def k_cmp_Compare_int : Nat := 74
def k_math_bits_Mul32 : Nat := 75
def k_math_bits_Mul64 : Nat := 76
def k_slices_Contains_string : Nat := 77
def k_syntax_uses : Nat := 78
def k_syntax_Expr : Nat := 79
def k_syntax_size : Nat := 80
def k_syntax_items : Nat := 81
def k_syntax_group : Nat := 82
def k_syntax_columns : Nat := 83
def k_strings_IndexByte : Nat := 84
def k_slices_insertionSortCmpFunc_Change : Nat := 85
def k_slices_symMergeCmpFunc_Change : Nat := 86
def k_slices_AppendSeq_LValue : Nat := 87
def k_slices_pdqsortCmpFunc_LValue : Nat := 88
def k_math_bits_Len : Nat := 89
def k_cmp_isNaN_ValueKind : Nat := 90
def k_cmp_isNaN_string : Nat := 91
def k_cmp_isNaN_int : Nat := 92
def k_slices_Index_string : Nat := 93
def k_syntax_uses_1 : Nat := 94
def k_slices_Contains_StepOp : Nat := 95
def k_syntax_zero : Nat := 96
def k_syntax_measure : Nat := 97
def k_syntax_nodes : Nat := 98
def k_syntax_list_add : Nat := 99
def k_syntax_list_all : Nat := 100
def k_internal_stringslite_IndexByte : Nat := 101
def k_slices_rotateCmpFunc_Change : Nat := 102
def k_slices_insertionSortCmpFunc_LValue : Nat := 103
def k_slices_heapSortCmpFunc_LValue : Nat := 104
def k_slices_breakPatternsCmpFunc_LValue : Nat := 105
def k_slices_choosePivotCmpFunc_LValue : Nat := 106
def k_slices_reverseRangeCmpFunc_LValue : Nat := 107
def k_slices_partialInsertionSortCmpFunc_LValue : Nat := 108
def k_slices_partitionEqualCmpFunc_LValue : Nat := 109
def k_slices_partitionCmpFunc_LValue : Nat := 110
def k_math_bits_Len32 : Nat := 111
def k_math_bits_Len64 : Nat := 112
def k_slices_Index_StepOp : Nat := 113
def k_syntax_node : Nat := 114
def k_internal_bytealg_IndexByteString : Nat := 115
def k_slices_swapRangeCmpFunc_Change : Nat := 116
def k_slices_siftDownCmpFunc_LValue : Nat := 117
def k_slices_nextPowerOfTwo : Nat := 118
def k_slices_xorshift_Next : Nat := 119
def k_slices_medianAdjacentCmpFunc_LValue : Nat := 120
def k_slices_medianCmpFunc_LValue : Nat := 121
def k_syntax_constant : Nat := 122
def k_syntax_arity : Nat := 123
def k_slices_order2CmpFunc_LValue : Nat := 124
/- law45_DeltaDiffs -/
def c_law45_DeltaDiffs : AFun := ⟨.seq (.reg [⟨(some 2), none, false, .bx (.t 0), [0]⟩,
 ⟨(some 3), none, false, .bx (.t 1), [1]⟩,
 ⟨(some 4), none, false, .mov (.k (boolV false)), [4]⟩])
(.seq (.seq (.reg [⟨(some 9), none, false, .call 6 [], []⟩,
 ⟨(some 10), none, false, .bnot (.t 9), [9]⟩,
 ⟨(some 11), none, true, .mov (.t 10), [10]⟩,
 ⟨(some 12), (some (11, false)), false, .ld true 2 (.t 2), []⟩,
 ⟨(some 13), (some (11, false)), false, .call 7 [(.t 12)], [12]⟩,
 ⟨(some 14), (some (11, false)), false, .bnot (.t 13), [13]⟩,
 ⟨(some 15), none, false, .pick (.t 11) (.k (boolV true)) (.t 14), [11, 14, 13, 13, 12, 12]⟩,
 ⟨(some 16), none, true, .mov (.t 15), [15]⟩,
 ⟨(some 17), (some (16, false)), false, .ld true 2 (.t 3), []⟩,
 ⟨(some 18), (some (16, false)), false, .call 7 [(.t 17)], [17]⟩,
 ⟨(some 19), (some (16, false)), false, .bnot (.t 18), [18]⟩,
 ⟨(some 20), none, false, .pick (.t 16) (.k (boolV true)) (.t 19), [16, 19, 18, 18, 17, 17]⟩])
(.cond (.t 20)
(.seq (.reg [⟨(some 21), none, false, .call 6 [], [2, 3, 20]⟩,
 ⟨(some 4), none, false, .mov (.t 21), [21]⟩])
(.ret))
(.skip)))
(.seq (.reg [⟨(some 23), none, false, .ld true 2 (.t 2), [4, 20]⟩,
 ⟨(some 24), none, false, .ld true 2 (.t 3), []⟩,
 ⟨(some 25), none, false, .call 8 [(.t 23), (.t 24)], [23, 24]⟩,
 ⟨(some 22), none, false, .mov (.t 25), [25]⟩,
 ⟨(some 26), none, false, .ext (.t 22) 0, []⟩,
 ⟨(some 27), none, false, .ext (.t 22) 1, [22]⟩,
 ⟨(some 5), none, false, .mov (.t 26), [26]⟩,
 ⟨(some 6), none, false, .mov (.t 27), [27]⟩])
(.seq (.reg [⟨(some 29), none, false, .ld true 2 (.t 2), [2]⟩,
 ⟨(some 30), none, false, .ld true 2 (.t 3), [3]⟩,
 ⟨(some 31), none, false, .call 9 [(.t 29), (.t 30)], [29, 30]⟩,
 ⟨(some 28), none, false, .mov (.t 31), [31]⟩,
 ⟨(some 32), none, false, .ext (.t 28) 0, []⟩,
 ⟨(some 33), none, false, .ext (.t 28) 1, [28]⟩,
 ⟨(some 7), none, false, .mov (.t 32), [32]⟩,
 ⟨(some 8), none, false, .mov (.t 33), [33]⟩])
(.seq (.reg [⟨(some 34), none, false, .mov (.t 6), [6]⟩,
 ⟨(some 35), none, false, .mov (.t 8), [8]⟩,
 ⟨(some 36), none, false, .bin .eql (.t 34) (.t 35), [34, 35]⟩,
 ⟨(some 37), none, true, .mov (.t 36), [36]⟩,
 ⟨(some 38), (some (37, true)), false, .mov (.t 5), [5]⟩,
 ⟨(some 39), (some (37, true)), false, .mov (.t 7), [7]⟩,
 ⟨(some 40), (some (37, true)), false, .call 10 [(.t 38), (.t 39)], [38, 39]⟩,
 ⟨(some 41), none, false, .pick (.t 37) (.t 40) (.k (boolV false)), [37, 40, 38, 39, 39, 7, 38, 5]⟩,
 ⟨(some 4), none, false, .mov (.t 41), [41]⟩])
(.ret))))),
 [.tmp 4]⟩
def o_law45_DeltaDiffs : List (Nat × List Nat) := []
theorem c_law45_DeltaDiffs_ok : cFun Tryz.prog o_law45_DeltaDiffs 3 = some c_law45_DeltaDiffs.erase := by kernel_rfl

/- law45_awake -/
def c_law45_awake : AFun := ⟨.seq (.reg [⟨(some 0), none, false, .mov (.k (boolV false)), [0]⟩])
(.seq (.reg [⟨(some 8), none, false, .lits 1 [(.k (intV 1)), (.k (intV 1)), (.k (intV 2))], []⟩,
 ⟨(some 9), none, false, .call 16 [(.t 8)], [8]⟩,
 ⟨(some 10), none, false, .lits 1 [(.k (intV 1)), (.k (intV 3))], []⟩,
 ⟨(some 11), none, false, .call 16 [(.t 10)], [10]⟩,
 ⟨(some 12), none, false, .call 8 [(.t 9), (.t 11)], [9, 11]⟩,
 ⟨(some 7), none, false, .mov (.t 12), [12]⟩,
 ⟨(some 13), none, false, .ext (.t 7) 0, []⟩,
 ⟨(some 14), none, false, .ext (.t 7) 1, [7]⟩,
 ⟨(some 1), none, false, .mov (.t 13), [13]⟩,
 ⟨(some 2), none, false, .mov (.t 14), [14]⟩])
(.seq (.reg [⟨(some 16), none, false, .lits 1 [(.k (intV 2)), (.k (intV 1)), (.k (intV 1))], []⟩,
 ⟨(some 17), none, false, .call 16 [(.t 16)], [16]⟩,
 ⟨(some 18), none, false, .mov (.t 1), []⟩,
 ⟨(some 19), none, false, .call 12 [(.t 17), (.t 18)], [17, 18]⟩,
 ⟨(some 15), none, false, .mov (.t 19), [19]⟩,
 ⟨(some 20), none, false, .ext (.t 15) 0, []⟩,
 ⟨(some 21), none, false, .ext (.t 15) 1, [15]⟩,
 ⟨(some 3), none, false, .alloc [.nil, .nil], []⟩,
 ⟨none, none, false, .st 2 (.t 3) (.t 20), [20]⟩,
 ⟨(some 4), none, false, .mov (.t 21), [21]⟩])
(.seq (.seq (.reg [⟨(some 22), none, false, .mov (.t 2), [2]⟩,
 ⟨(some 23), none, false, .bin .neq (.t 22) (.k (intV 0)), [22]⟩,
 ⟨(some 24), none, true, .mov (.t 23), [23]⟩,
 ⟨(some 25), (some (24, false)), false, .mov (.t 4), [4]⟩,
 ⟨(some 26), (some (24, false)), false, .bin .neq (.t 25) (.k (intV 0)), [25]⟩,
 ⟨(some 27), none, false, .pick (.t 24) (.k (boolV true)) (.t 26), [24, 26, 25, 25, 4]⟩,
 ⟨(some 28), none, true, .mov (.t 27), [27]⟩,
 ⟨(some 29), (some (28, false)), false, .mov (.t 1), []⟩,
 ⟨(some 30), (some (28, false)), false, .len (.t 29), [29]⟩,
 ⟨(some 31), (some (28, false)), false, .bin .neq (.t 30) (.k (intV 3)), [30]⟩,
 ⟨(some 32), none, false, .pick (.t 28) (.k (boolV true)) (.t 31), [28, 31, 30, 30, 29, 29]⟩,
 ⟨(some 33), none, true, .mov (.t 32), [32]⟩,
 ⟨(some 34), (some (33, false)), false, .fa 1 (.t 3), []⟩,
 ⟨(some 35), (some (33, false)), false, .ld false 1 (.t 34), [34]⟩,
 ⟨(some 36), (some (33, false)), false, .len (.t 35), [35]⟩,
 ⟨(some 37), (some (33, false)), false, .bin .neq (.t 36) (.k (intV 2)), [36]⟩,
 ⟨(some 38), none, false, .pick (.t 33) (.k (boolV true)) (.t 37), [33, 37, 36, 36, 35, 35, 34, 34]⟩,
 ⟨(some 39), none, true, .mov (.t 38), [38]⟩,
 ⟨(some 40), (some (39, false)), false, .mov (.t 1), []⟩,
 ⟨(some 41), (some (39, false)), false, .ia 2 (.t 40) (.k (intV 2)), [40]⟩,
 ⟨(some 42), (some (39, false)), false, .fa 0 (.t 41), [41]⟩,
 ⟨(some 43), (some (39, false)), false, .ld false 1 (.t 42), [42]⟩,
 ⟨(some 44), (some (39, false)), false, .len (.t 43), [43]⟩,
 ⟨(some 45), (some (39, false)), false, .bin .neq (.t 44) (.k (intV 1)), [44]⟩,
 ⟨(some 46), none, false, .pick (.t 39) (.k (boolV true)) (.t 45), [39, 45, 44, 44, 43, 43, 42, 42, 41, 41, 40, 40]⟩,
 ⟨(some 47), none, true, .mov (.t 46), [46]⟩,
 ⟨(some 48), (some (47, false)), false, .fa 1 (.t 3), []⟩,
 ⟨(some 49), (some (47, false)), false, .ld false 1 (.t 48), [48]⟩,
 ⟨(some 50), (some (47, false)), false, .ia 1 (.t 49) (.k (intV 0)), [49]⟩,
 ⟨(some 51), (some (47, false)), false, .ld false 1 (.t 50), [50]⟩,
 ⟨(some 52), (some (47, false)), false, .len (.t 51), [51]⟩,
 ⟨(some 53), (some (47, false)), false, .bin .neq (.t 52) (.k (intV 1)), [52]⟩,
 ⟨(some 54), none, false, .pick (.t 47) (.k (boolV true)) (.t 53), [47, 53, 52, 52, 51, 51, 50, 50, 49, 49, 48, 48]⟩,
 ⟨(some 55), none, true, .mov (.t 54), [54]⟩,
 ⟨(some 56), (some (55, false)), false, .fa 1 (.t 3), []⟩,
 ⟨(some 57), (some (55, false)), false, .ld false 1 (.t 56), [56]⟩,
 ⟨(some 58), (some (55, false)), false, .ia 1 (.t 57) (.k (intV 1)), [57]⟩,
 ⟨(some 59), (some (55, false)), false, .ld false 1 (.t 58), [58]⟩,
 ⟨(some 60), (some (55, false)), false, .len (.t 59), [59]⟩,
 ⟨(some 61), (some (55, false)), false, .bin .neq (.t 60) (.k (intV 1)), [60]⟩,
 ⟨(some 62), none, false, .pick (.t 55) (.k (boolV true)) (.t 61), [55, 61, 60, 60, 59, 59, 58, 58, 57, 57, 56, 56]⟩])
(.cond (.t 62)
(.seq (.reg [⟨(some 0), none, false, .mov (.k (boolV false)), [1, 3, 62]⟩])
(.ret))
(.skip)))
(.seq (.reg [⟨(some 63), none, false, .build [(.d (.lit (.int .i64 0))), (.d (.lit (.string ⟨#[]⟩))), (.d (.lit (.int .i64 0))), (.d (.lit (.int .i64 0))), (.d (.lit (.string ⟨#[]⟩))), .nil] [(0, 1, (.k (intV 2))), (1, 1, (.k (.w (.c (.d (.lit (.string ⟨#[110]⟩)))))))], [0, 62]⟩,
 ⟨(some 64), none, false, .build [(.d (.lit (.int .i64 0))), (.d (.lit (.int .i64 0))), (.d (.lit (.string ⟨#[]⟩)))] [(0, 1, (.k (intV 2))), (1, 1, (.k (intV 3)))], []⟩,
 ⟨(some 65), none, false, .build [(.d (.lit (.int .i64 0))), (.d (.lit (.string ⟨#[]⟩))), (.d (.lit (.int .i64 0))), (.d (.lit (.int .i64 0))), (.d (.lit (.string ⟨#[]⟩))), .nil] [(0, 1, (.k (intV 1))), (2, 3, (.t 64))], [64]⟩,
 ⟨(some 66), none, false, .lits 6 [(.t 63), (.t 65)], [63, 65]⟩,
 ⟨(some 67), none, false, .build [(.d (.lit (.int .i64 0))), (.d (.lit (.string ⟨#[]⟩))), (.d (.lit (.int .i64 0))), (.d (.lit (.int .i64 0))), (.d (.lit (.string ⟨#[]⟩))), .nil] [(0, 1, (.k (intV 12))), (5, 1, (.t 66))], [66]⟩,
 ⟨(some 68), none, false, .build [(.d (.lit (.int .i64 0))), (.d (.lit (.int .i64 0))), (.d (.lit (.string ⟨#[]⟩))), (.d (.lit (.int .i64 0))), (.d (.lit (.int .i64 0))), (.d (.lit (.string ⟨#[]⟩))), .nil, .nil, .nil, .nil, .nil, (.d (.lit (.int .i64 0))), (.d (.lit (.string ⟨#[]⟩)))] [(0, 1, (.k (intV 1))), (1, 6, (.t 67))], [67]⟩,
 ⟨(some 5), none, false, .alloc [(.d (.lit (.int .i64 0))), (.d (.lit (.int .i64 0))), (.d (.lit (.string ⟨#[]⟩))), (.d (.lit (.int .i64 0))), (.d (.lit (.int .i64 0))), (.d (.lit (.string ⟨#[]⟩))), .nil, .nil, .nil, .nil, .nil, (.d (.lit (.int .i64 0))), (.d (.lit (.string ⟨#[]⟩)))], []⟩,
 ⟨none, none, false, .st 13 (.t 5) (.t 68), [68]⟩])
(.seq (.reg [⟨(some 69), none, false, .build [(.d (.lit (.int .i64 0))), (.d (.lit (.int .i64 0))), (.d (.lit (.string ⟨#[]⟩))), (.d (.lit (.int .i64 0))), (.d (.lit (.int .i64 0))), (.d (.lit (.string ⟨#[]⟩))), .nil, .nil, .nil, .nil, .nil, (.d (.lit (.int .i64 0))), (.d (.lit (.string ⟨#[]⟩)))] [(0, 1, (.k (intV 5))), (11, 1, (.k (intV 1)))], []⟩,
 ⟨(some 6), none, false, .alloc [(.d (.lit (.int .i64 0))), (.d (.lit (.int .i64 0))), (.d (.lit (.string ⟨#[]⟩))), (.d (.lit (.int .i64 0))), (.d (.lit (.int .i64 0))), (.d (.lit (.string ⟨#[]⟩))), .nil, .nil, .nil, .nil, .nil, (.d (.lit (.int .i64 0))), (.d (.lit (.string ⟨#[]⟩)))], []⟩,
 ⟨none, none, false, .st 13 (.t 6) (.t 69), [69]⟩])
(.seq (.reg [⟨(some 70), none, false, .mov (.t 1), []⟩,
 ⟨(some 71), none, false, .ia 2 (.t 70) (.k (intV 0)), [70]⟩,
 ⟨(some 72), none, false, .fa 1 (.t 71), [71]⟩,
 ⟨(some 73), none, false, .ld false 1 (.t 72), [72]⟩,
 ⟨(some 74), none, false, .bin .eql (.t 73) (.k (intV (-1))), [73]⟩,
 ⟨(some 75), none, true, .mov (.t 74), [74]⟩,
 ⟨(some 76), (some (75, true)), false, .mov (.t 1), []⟩,
 ⟨(some 77), (some (75, true)), false, .ia 2 (.t 76) (.k (intV 1)), [76]⟩,
 ⟨(some 78), (some (75, true)), false, .fa 1 (.t 77), [77]⟩,
 ⟨(some 79), (some (75, true)), false, .ld false 1 (.t 78), [78]⟩,
 ⟨(some 80), (some (75, true)), false, .bin .eql (.t 79) (.k (intV (-1))), [79]⟩,
 ⟨(some 81), none, false, .pick (.t 75) (.t 80) (.k (boolV false)), [75, 80, 79, 79, 78, 78, 77, 77, 76, 76]⟩,
 ⟨(some 82), none, true, .mov (.t 81), [81]⟩,
 ⟨(some 83), (some (82, true)), false, .mov (.t 1), []⟩,
 ⟨(some 84), (some (82, true)), false, .ia 2 (.t 83) (.k (intV 2)), [83]⟩,
 ⟨(some 85), (some (82, true)), false, .fa 1 (.t 84), [84]⟩,
 ⟨(some 86), (some (82, true)), false, .ld false 1 (.t 85), [85]⟩,
 ⟨(some 87), (some (82, true)), false, .bin .eql (.t 86) (.k (intV 1)), [86]⟩,
 ⟨(some 88), none, false, .pick (.t 82) (.t 87) (.k (boolV false)), [82, 87, 86, 86, 85, 85, 84, 84, 83, 83]⟩,
 ⟨(some 89), none, true, .mov (.t 88), [88]⟩,
 ⟨(some 90), (some (89, true)), false, .mov (.t 1), [1]⟩,
 ⟨(some 91), (some (89, true)), false, .ia 2 (.t 90) (.k (intV 2)), [90]⟩,
 ⟨(some 92), (some (89, true)), false, .fa 0 (.t 91), [91]⟩,
 ⟨(some 93), (some (89, true)), false, .ld false 1 (.t 92), [92]⟩,
 ⟨(some 94), (some (89, true)), false, .ia 3 (.t 93) (.k (intV 0)), [93]⟩,
 ⟨(some 95), (some (89, true)), false, .fa 1 (.t 94), [94]⟩,
 ⟨(some 96), (some (89, true)), false, .ld false 1 (.t 95), [95]⟩,
 ⟨(some 97), (some (89, true)), false, .bin .eql (.t 96) (.k (intV 3)), [96]⟩,
 ⟨(some 98), none, false, .pick (.t 89) (.t 97) (.k (boolV false)), [89, 97, 96, 96, 95, 95, 94, 94, 93, 93, 92, 92, 91, 91, 90, 90, 1]⟩,
 ⟨(some 99), none, true, .mov (.t 98), [98]⟩,
 ⟨(some 100), (some (99, true)), false, .fa 1 (.t 3), []⟩,
 ⟨(some 101), (some (99, true)), false, .ld false 1 (.t 100), [100]⟩,
 ⟨(some 102), (some (99, true)), false, .ia 1 (.t 101) (.k (intV 0)), [101]⟩,
 ⟨(some 103), (some (99, true)), false, .ld false 1 (.t 102), [102]⟩,
 ⟨(some 104), (some (99, true)), false, .ia 3 (.t 103) (.k (intV 0)), [103]⟩,
 ⟨(some 105), (some (99, true)), false, .fa 1 (.t 104), [104]⟩,
 ⟨(some 106), (some (99, true)), false, .ld false 1 (.t 105), [105]⟩,
 ⟨(some 107), (some (99, true)), false, .bin .eql (.t 106) (.k (intV 1)), [106]⟩,
 ⟨(some 108), none, false, .pick (.t 99) (.t 107) (.k (boolV false)), [99, 107, 106, 106, 105, 105, 104, 104, 103, 103, 102, 102, 101, 101, 100, 100]⟩,
 ⟨(some 109), none, true, .mov (.t 108), [108]⟩,
 ⟨(some 110), (some (109, true)), false, .fa 1 (.t 3), [3]⟩,
 ⟨(some 111), (some (109, true)), false, .ld false 1 (.t 110), [110]⟩,
 ⟨(some 112), (some (109, true)), false, .ia 1 (.t 111) (.k (intV 1)), [111]⟩,
 ⟨(some 113), (some (109, true)), false, .ld false 1 (.t 112), [112]⟩,
 ⟨(some 114), (some (109, true)), false, .ia 3 (.t 113) (.k (intV 0)), [113]⟩,
 ⟨(some 115), (some (109, true)), false, .fa 1 (.t 114), [114]⟩,
 ⟨(some 116), (some (109, true)), false, .ld false 1 (.t 115), [115]⟩,
 ⟨(some 117), (some (109, true)), false, .bin .eql (.t 116) (.k (intV 3)), [116]⟩,
 ⟨(some 118), none, false, .pick (.t 109) (.t 117) (.k (boolV false)), [109, 117, 116, 116, 115, 115, 114, 114, 113, 113, 112, 112, 111, 111, 110, 110, 3]⟩,
 ⟨(some 119), none, true, .mov (.t 118), [118]⟩,
 ⟨(some 120), (some (119, true)), false, .ld true 13 (.t 5), []⟩,
 ⟨(some 121), (some (119, true)), false, .lits 13 [(.t 120)], [120]⟩,
 ⟨(some 122), (some (119, true)), false, .build [(.d (.lit (.string ⟨#[]⟩))), .nil] [(0, 1, (.k (.w (.c (.d (.lit (.string ⟨#[116]⟩))))))), (1, 1, (.t 121))], [121]⟩,
 ⟨(some 123), (some (119, true)), false, .call 17 [(.t 122), (.k (.w (.c (.d (.lit (.string ⟨#[116]⟩))))))], [122]⟩,
 ⟨(some 124), none, false, .pick (.t 119) (.t 123) (.k (boolV false)), [119, 123, 122, 122, 121, 121, 120, 120]⟩,
 ⟨(some 125), none, true, .mov (.t 124), [124]⟩,
 ⟨(some 126), (some (125, true)), false, .ld true 13 (.t 5), [5]⟩,
 ⟨(some 127), (some (125, true)), false, .ld true 13 (.t 6), [6]⟩,
 ⟨(some 128), (some (125, true)), false, .lits 13 [(.t 126), (.t 127)], [126, 127]⟩,
 ⟨(some 129), (some (125, true)), false, .build [(.d (.lit (.string ⟨#[]⟩))), .nil] [(0, 1, (.k (.w (.c (.d (.lit (.string ⟨#[116]⟩))))))), (1, 1, (.t 128))], [128]⟩,
 ⟨(some 130), (some (125, true)), false, .call 17 [(.t 129), (.k (.w (.c (.d (.lit (.string ⟨#[116]⟩))))))], [129]⟩,
 ⟨(some 131), (some (125, true)), false, .bnot (.t 130), [130]⟩,
 ⟨(some 132), none, false, .pick (.t 125) (.t 131) (.k (boolV false)), [125, 131, 130, 130, 129, 129, 128, 128, 126, 127, 127, 6, 126, 5]⟩,
 ⟨(some 0), none, false, .mov (.t 132), [132]⟩])
(.ret))))))),
 [.tmp 0]⟩
def o_law45_awake : List (Nat × List Nat) := []
theorem c_law45_awake_ok : cFun Tryz.prog o_law45_awake 6 = some c_law45_awake.erase := by kernel_rfl

/- ref39_FewTable -/
def c_ref39_FewTable_L0 : ACode := (.seq (.seq (.reg [⟨(some 29), none, false, .mov (.t 4), []⟩,
 ⟨(some 30), none, false, .fa 1 (.t 1), []⟩,
 ⟨(some 31), none, false, .ld false 1 (.t 30), [30]⟩,
 ⟨(some 32), none, false, .mov (.t 3), []⟩,
 ⟨(some 33), none, false, .ia 1 (.t 31) (.t 32), [31, 32]⟩,
 ⟨(some 34), none, false, .ld false 1 (.t 33), [33]⟩,
 ⟨(some 35), none, false, .len (.t 34), [34]⟩,
 ⟨(some 36), none, false, .bin .lss (.t 29) (.t 35), [29, 35]⟩])
(.cond (.t 36)
(.skip)
(.exit 2)))
(.seq (.block 3 (.seq (.reg [⟨(some 39), none, false, .fa 1 (.t 1), [36]⟩,
 ⟨(some 40), none, false, .ld false 1 (.t 39), [39]⟩,
 ⟨(some 41), none, false, .mov (.t 3), []⟩,
 ⟨(some 42), none, false, .ia 1 (.t 40) (.t 41), [40, 41]⟩,
 ⟨(some 43), none, false, .ld false 1 (.t 42), [42]⟩,
 ⟨(some 44), none, false, .mov (.t 4), []⟩,
 ⟨(some 45), none, false, .ia 3 (.t 43) (.t 44), [43, 44]⟩,
 ⟨(some 46), none, false, .fa 2 (.t 45), [45]⟩,
 ⟨(some 47), none, false, .ld false 1 (.t 46), [46]⟩,
 ⟨(some 48), none, false, .slen (.t 47), [47]⟩,
 ⟨(some 49), none, false, .bin .gtr (.t 48) (.k (intV 300)), [48]⟩])
(.cond (.t 49)
(.seq (.reg [⟨(some 2), none, false, .mov (.k (boolV false)), [1, 3, 4, 49]⟩])
(.ret))
(.skip))))
(.reg [⟨(some 37), none, false, .mov (.t 4), [2, 4, 49, 36]⟩,
 ⟨(some 38), none, false, .bin .add (.t 37) (.k (intV 1)), [37]⟩,
 ⟨(some 4), none, false, .mov (.t 38), [38]⟩])))
def c_ref39_FewTable_L1 : ACode := (.seq (.seq (.reg [⟨(some 15), none, false, .mov (.t 3), []⟩,
 ⟨(some 16), none, false, .fa 1 (.t 1), []⟩,
 ⟨(some 17), none, false, .ld false 1 (.t 16), [16]⟩,
 ⟨(some 18), none, false, .len (.t 17), [17]⟩,
 ⟨(some 19), none, false, .bin .lss (.t 15) (.t 18), [15, 18]⟩])
(.cond (.t 19)
(.skip)
(.exit 0)))
(.seq (.block 1 (.seq (.seq (.reg [⟨(some 22), none, false, .fa 1 (.t 1), [19]⟩,
 ⟨(some 23), none, false, .ld false 1 (.t 22), [22]⟩,
 ⟨(some 24), none, false, .mov (.t 3), []⟩,
 ⟨(some 25), none, false, .ia 1 (.t 23) (.t 24), [23, 24]⟩,
 ⟨(some 26), none, false, .ld false 1 (.t 25), [25]⟩,
 ⟨(some 27), none, false, .len (.t 26), [26]⟩,
 ⟨(some 28), none, false, .bin .gtr (.t 27) (.k (intV 40)), [27]⟩])
(.cond (.t 28)
(.seq (.reg [⟨(some 2), none, false, .mov (.k (boolV false)), [1, 3, 28]⟩])
(.ret))
(.skip)))
(.seq (.reg [⟨(some 4), none, false, .mov (.k (intV 0)), [2, 28]⟩])
(.block 2 (.loop [1, 3, 4] c_ref39_FewTable_L0)))))
(.reg [⟨(some 20), none, false, .mov (.t 3), [3, 4, 19]⟩,
 ⟨(some 21), none, false, .bin .add (.t 20) (.k (intV 1)), [20]⟩,
 ⟨(some 3), none, false, .mov (.t 21), [21]⟩])))
def c_ref39_FewTable : AFun := ⟨.seq (.reg [⟨(some 1), none, false, .bx (.t 0), [0]⟩,
 ⟨(some 2), none, false, .mov (.k (boolV false)), [2]⟩])
(.seq (.seq (.reg [⟨(some 5), none, false, .fa 0 (.t 1), []⟩,
 ⟨(some 6), none, false, .ld false 1 (.t 5), [5]⟩,
 ⟨(some 7), none, false, .call 18 [(.t 6)], [6]⟩,
 ⟨(some 8), none, false, .bnot (.t 7), [7]⟩,
 ⟨(some 9), none, true, .mov (.t 8), [8]⟩,
 ⟨(some 10), (some (9, false)), false, .fa 1 (.t 1), []⟩,
 ⟨(some 11), (some (9, false)), false, .ld false 1 (.t 10), [10]⟩,
 ⟨(some 12), (some (9, false)), false, .len (.t 11), [11]⟩,
 ⟨(some 13), (some (9, false)), false, .bin .gtr (.t 12) (.k (intV 40)), [12]⟩,
 ⟨(some 14), none, false, .pick (.t 9) (.k (boolV true)) (.t 13), [9, 13, 12, 12, 11, 11, 10, 10]⟩])
(.cond (.t 14)
(.seq (.reg [⟨(some 2), none, false, .mov (.k (boolV false)), [1, 14]⟩])
(.ret))
(.skip)))
(.seq (.seq (.reg [⟨(some 3), none, false, .mov (.k (intV 0)), [2, 14]⟩])
(.block 0 (.loop [1, 3] c_ref39_FewTable_L1)))
(.seq (.reg [⟨(some 2), none, false, .mov (.k (boolV true)), [1, 3]⟩])
(.ret)))),
 [.tmp 2]⟩
def o_ref39_FewTable : List (Nat × List Nat) := []
theorem c_ref39_FewTable_ok : cFun Tryz.prog o_ref39_FewTable 7 = some c_ref39_FewTable.erase := by kernel_rfl

/- delta_Diff -/
def c_delta_Diff_L0 : ACode := (.seq (.reg [⟨(some 14), none, false, .bin .lss (.t 13) (.t 12), []⟩])
(.seq (.cond (.t 14)
(.skip)
(.exit 0))
(.seq (.block 1 (.seq (.reg [⟨(some 15), none, false, .ia 2 (.t 11) (.t 13), [14]⟩,
 ⟨(some 16), none, false, .ld true 2 (.t 15), [15]⟩,
 ⟨(some 7), none, false, .alloc [.nil, .nil], []⟩,
 ⟨none, none, false, .st 2 (.t 7) (.t 16), [16]⟩])
(.seq (.reg [⟨(some 17), none, false, .ld true 2 (.t 7), [7]⟩,
 ⟨(some 18), none, false, .call 19 [(.t 17)], [17]⟩,
 ⟨(some 8), none, false, .mov (.t 18), [18]⟩])
(.seq (.reg [⟨(some 19), none, false, .mov (.t 8), []⟩,
 ⟨(some 20), none, false, .bin .neq (.t 19) (.k (intV 0)), [19]⟩])
(.cond (.t 20)
(.seq (.reg [⟨(some 21), none, false, .mov (.t 8), [2, 3, 11, 12, 13, 8, 20]⟩,
 ⟨(some 4), none, false, .mov (.k (.w (.c .nil))), []⟩,
 ⟨(some 5), none, false, .mov (.t 21), [21]⟩])
(.ret))
(.skip))))))
(.reg [⟨(some 22), none, false, .bin .add (.t 13) (.k (intV 1)), [4, 5, 13, 8, 20, 14]⟩,
 ⟨(some 13), none, false, .mov (.t 22), [22]⟩]))))
def c_delta_Diff : AFun := ⟨.seq (.reg [⟨(some 2), none, false, .bx (.t 0), [0]⟩,
 ⟨(some 3), none, false, .bx (.t 1), [1]⟩,
 ⟨(some 4), none, false, .mov (.k (.w (.c .nil))), [4]⟩,
 ⟨(some 5), none, false, .mov (.k (intV 0)), [5]⟩])
(.seq (.seq (.reg [⟨(some 9), none, false, .ld true 2 (.t 2), []⟩,
 ⟨(some 10), none, false, .ld true 2 (.t 3), []⟩,
 ⟨(some 11), none, false, .lits 2 [(.t 9), (.t 10)], [9, 10]⟩,
 ⟨(some 12), none, false, .len (.t 11), []⟩,
 ⟨(some 13), none, false, .mov (.k (intV 0)), []⟩])
(.block 0 (.loop [2, 3, 11, 12, 13] c_delta_Diff_L0)))
(.seq (.seq (.reg [⟨(some 23), none, false, .fa 0 (.t 2), [11, 12, 13]⟩,
 ⟨(some 24), none, false, .ld false 1 (.t 23), [23]⟩,
 ⟨(some 25), none, false, .fa 0 (.t 3), []⟩,
 ⟨(some 26), none, false, .ld false 1 (.t 25), [25]⟩,
 ⟨(some 27), none, false, .call 20 [(.t 24), (.t 26)], [24, 26]⟩,
 ⟨(some 28), none, false, .bnot (.t 27), [27]⟩])
(.cond (.t 28)
(.seq (.reg [⟨(some 4), none, false, .mov (.k (.w (.c .nil))), [2, 3, 28]⟩,
 ⟨(some 5), none, false, .mov (.k (intV 10)), []⟩])
(.ret))
(.skip)))
(.seq (.reg [⟨(some 29), none, false, .fa 1 (.t 2), [4, 5, 2, 28]⟩,
 ⟨(some 30), none, false, .ld false 1 (.t 29), [29]⟩,
 ⟨(some 32), none, false, .fa 1 (.t 3), [3]⟩,
 ⟨(some 33), none, false, .ld false 1 (.t 32), [32]⟩,
 ⟨(some 31), none, false, .call 22 [(.t 30), (.k (intV (-1)))], [30]⟩,
 ⟨(some 34), none, false, .call 22 [(.t 33), (.k (intV 1))], [33]⟩,
 ⟨(some 35), none, false, .call 21 [(.t 31), (.t 34)], [31, 34]⟩,
 ⟨(some 4), none, false, .mov (.t 35), [35]⟩,
 ⟨(some 5), none, false, .mov (.k (intV 0)), []⟩])
(.ret)))),
 [.tmp 4, .tmp 5]⟩
def o_delta_Diff : List (Nat × List Nat) := [(10, [0, 1, 3, 4, 2, 5, 6, 7, 8])]
theorem c_delta_Diff_ok : cFun Tryz.prog o_delta_Diff 8 = some c_delta_Diff.erase := by kernel_rfl

/- ref45_Diff -/
def c_ref45_Diff_L0 : ACode := (.seq (.seq (.reg [⟨(some 38), none, false, .mov (.t 9), []⟩,
 ⟨(some 39), none, false, .mov (.t 8), []⟩,
 ⟨(some 40), none, false, .len (.t 39), [39]⟩,
 ⟨(some 41), none, false, .bin .lss (.t 38) (.t 40), [38, 40]⟩])
(.cond (.t 41)
(.skip)
(.exit 0)))
(.seq (.block 1 (.seq (.seq (.reg [⟨(some 44), none, false, .mov (.t 9), [41]⟩,
 ⟨(some 45), none, false, .bin .gtr (.t 44) (.k (intV 0)), [44]⟩,
 ⟨(some 46), none, true, .mov (.t 45), [45]⟩,
 ⟨(some 47), (some (46, true)), false, .mov (.t 8), []⟩,
 ⟨(some 48), (some (46, true)), false, .mov (.t 9), []⟩,
 ⟨(some 49), (some (46, true)), false, .ia 1 (.t 47) (.t 48), [47, 48]⟩,
 ⟨(some 50), (some (46, true)), false, .ld false 1 (.t 49), [49]⟩,
 ⟨(some 51), (some (46, true)), false, .mov (.t 8), []⟩,
 ⟨(some 52), (some (46, true)), false, .mov (.t 9), []⟩,
 ⟨(some 53), (some (46, true)), false, .bin .sub (.t 52) (.k (intV 1)), [52]⟩,
 ⟨(some 54), (some (46, true)), false, .ia 1 (.t 51) (.t 53), [51, 53]⟩,
 ⟨(some 55), (some (46, true)), false, .ld false 1 (.t 54), [54]⟩,
 ⟨(some 56), (some (46, true)), false, .call 25 [(.t 50), (.t 55)], [50, 55]⟩,
 ⟨(some 57), (some (46, true)), false, .bin .eql (.t 56) (.k (intV 0)), [56]⟩,
 ⟨(some 58), none, false, .pick (.t 46) (.t 57) (.k (boolV false)), [46, 57, 56, 56, 50, 55, 55, 54, 54, 51, 53, 53, 52, 52, 51, 50, 49, 49, 47, 48, 48, 47]⟩])
(.cond (.t 58)
(.exit 1)
(.skip)))
(.seq (.reg [⟨(some 59), none, false, .fa 1 (.t 3), [58]⟩,
 ⟨(some 60), none, false, .ld false 1 (.t 59), [59]⟩,
 ⟨(some 61), none, false, .mov (.t 8), []⟩,
 ⟨(some 62), none, false, .mov (.t 9), []⟩,
 ⟨(some 63), none, false, .ia 1 (.t 61) (.t 62), [61, 62]⟩,
 ⟨(some 64), none, false, .ld false 1 (.t 63), [63]⟩,
 ⟨(some 66), none, false, .fa 1 (.t 2), []⟩,
 ⟨(some 67), none, false, .ld false 1 (.t 66), [66]⟩,
 ⟨(some 68), none, false, .mov (.t 8), []⟩,
 ⟨(some 69), none, false, .mov (.t 9), []⟩,
 ⟨(some 70), none, false, .ia 1 (.t 68) (.t 69), [68, 69]⟩,
 ⟨(some 71), none, false, .ld false 1 (.t 70), [70]⟩,
 ⟨(some 65), none, false, .call 26 [(.t 60), (.t 64)], [60, 64]⟩,
 ⟨(some 72), none, false, .call 26 [(.t 67), (.t 71)], [67, 71]⟩,
 ⟨(some 73), none, false, .bin .sub (.t 65) (.t 72), [65, 72]⟩,
 ⟨(some 10), none, false, .mov (.t 73), [73]⟩])
(.seq (.reg [⟨(some 74), none, false, .mov (.t 10), []⟩,
 ⟨(some 75), none, false, .bin .neq (.t 74) (.k (intV 0)), [74]⟩])
(.cond (.t 75)
(.reg [⟨(some 76), none, false, .mov (.t 7), [7, 75]⟩,
 ⟨(some 77), none, false, .mov (.t 8), []⟩,
 ⟨(some 78), none, false, .mov (.t 9), []⟩,
 ⟨(some 79), none, false, .ia 1 (.t 77) (.t 78), [77, 78]⟩,
 ⟨(some 80), none, false, .ld false 1 (.t 79), [79]⟩,
 ⟨(some 81), none, false, .mov (.t 10), [10]⟩,
 ⟨(some 82), none, false, .build [.nil, (.d (.lit (.int .i64 0)))] [(0, 1, (.t 80)), (1, 1, (.t 81))], [80, 81]⟩,
 ⟨(some 83), none, false, .lits 2 [(.t 82)], [82]⟩,
 ⟨(some 84), none, false, .app 2 32 (.t 76) (.t 83), [76, 83]⟩,
 ⟨(some 7), none, false, .mov (.t 84), [84]⟩])
(.skip))))))
(.reg [⟨(some 42), none, false, .mov (.t 9), [9, 10, 75, 41]⟩,
 ⟨(some 43), none, false, .bin .add (.t 42) (.k (intV 1)), [42]⟩,
 ⟨(some 9), none, false, .mov (.t 43), [43]⟩])))
def c_ref45_Diff : AFun := ⟨.seq (.reg [⟨(some 2), none, false, .bx (.t 0), [0]⟩,
 ⟨(some 3), none, false, .bx (.t 1), [1]⟩,
 ⟨(some 4), none, false, .mov (.k (.w (.c .nil))), [4]⟩,
 ⟨(some 5), none, false, .mov (.k (intV 0)), [5]⟩])
(.seq (.reg [⟨(some 11), none, false, .ld true 2 (.t 2), []⟩,
 ⟨(some 12), none, false, .call 23 [(.t 11)], [11]⟩,
 ⟨(some 6), none, false, .mov (.t 12), [12]⟩])
(.seq (.seq (.reg [⟨(some 13), none, false, .mov (.t 6), []⟩,
 ⟨(some 14), none, false, .bin .eql (.t 13) (.k (intV 0)), [13]⟩])
(.cond (.t 14)
(.reg [⟨(some 15), none, false, .ld true 2 (.t 3), [6, 14]⟩,
 ⟨(some 16), none, false, .call 23 [(.t 15)], [15]⟩,
 ⟨(some 6), none, false, .mov (.t 16), [16]⟩])
(.skip)))
(.seq (.seq (.reg [⟨(some 17), none, false, .mov (.t 6), [14]⟩,
 ⟨(some 18), none, false, .bin .eql (.t 17) (.k (intV 0)), [17]⟩,
 ⟨(some 19), none, true, .mov (.t 18), [18]⟩,
 ⟨(some 20), (some (19, true)), false, .fa 0 (.t 2), []⟩,
 ⟨(some 21), (some (19, true)), false, .ld false 1 (.t 20), [20]⟩,
 ⟨(some 22), (some (19, true)), false, .fa 0 (.t 3), []⟩,
 ⟨(some 23), (some (19, true)), false, .ld false 1 (.t 22), [22]⟩,
 ⟨(some 24), (some (19, true)), false, .call 24 [(.t 21), (.t 23)], [21, 23]⟩,
 ⟨(some 25), (some (19, true)), false, .bnot (.t 24), [24]⟩,
 ⟨(some 26), none, false, .pick (.t 19) (.t 25) (.k (boolV false)), [19, 25, 24, 24, 21, 23, 23, 22, 22, 21, 20, 20]⟩])
(.cond (.t 26)
(.reg [⟨(some 6), none, false, .mov (.k (intV 10)), [26]⟩])
(.skip)))
(.seq (.seq (.reg [⟨(some 27), none, false, .mov (.t 6), [26]⟩,
 ⟨(some 28), none, false, .bin .neq (.t 27) (.k (intV 0)), [27]⟩])
(.cond (.t 28)
(.seq (.reg [⟨(some 29), none, false, .mov (.t 6), [2, 3, 6, 28]⟩,
 ⟨(some 4), none, false, .mov (.k (.w (.c .nil))), []⟩,
 ⟨(some 5), none, false, .mov (.t 29), [29]⟩])
(.ret))
(.skip)))
(.seq (.reg [⟨(some 7), none, false, .mov (.k (.w (.c .nil))), [4, 5, 6, 28]⟩])
(.seq (.tree (.run [⟨(some 31), none, false, .fa 1 (.t 2), []⟩,
  ⟨(some 32), none, false, .ld false 1 (.t 31), [31]⟩,
  ⟨(some 34), none, false, .fa 1 (.t 3), []⟩] (.br (.run [⟨(some 30), none, false, .lits 1 [], []⟩] (.br (.run [⟨(some 33), none, false, .app 1 24 (.t 30) (.t 32), [32, 30]⟩,
  ⟨(some 35), none, false, .ld false 1 (.t 34), [34]⟩,
  ⟨(some 36), none, false, .app 1 24 (.t 33) (.t 35), [33, 35]⟩,
  ⟨(some 37), none, false, .call 15 [(.t 36)], [36]⟩,
  ⟨(some 8), none, false, .mov (.t 37), [37]⟩] (.fin))
(.run [⟨(some 35), none, false, .ld false 1 (.t 34), [34]⟩,
  ⟨(some 33), none, false, .app 1 24 (.t 30) (.t 32), [32, 30]⟩,
  ⟨(some 36), none, false, .app 1 24 (.t 33) (.t 35), [35, 33]⟩,
  ⟨(some 37), none, false, .call 15 [(.t 36)], [36]⟩,
  ⟨(some 8), none, false, .mov (.t 37), [37]⟩] (.fin))))
(.run [⟨(some 35), none, false, .ld false 1 (.t 34), [34]⟩,
  ⟨(some 30), none, false, .lits 1 [], []⟩,
  ⟨(some 33), none, false, .app 1 24 (.t 30) (.t 32), [32, 30]⟩,
  ⟨(some 36), none, false, .app 1 24 (.t 33) (.t 35), [35, 33]⟩,
  ⟨(some 37), none, false, .call 15 [(.t 36)], [36]⟩,
  ⟨(some 8), none, false, .mov (.t 37), [37]⟩] (.fin)))))
(.seq (.seq (.reg [⟨(some 9), none, false, .mov (.k (intV 0)), []⟩])
(.block 0 (.loop [2, 3, 7, 8, 9] c_ref45_Diff_L0)))
(.seq (.reg [⟨(some 85), none, false, .mov (.t 7), [2, 3, 8, 7, 9]⟩,
 ⟨(some 4), none, false, .mov (.t 85), [85]⟩,
 ⟨(some 5), none, false, .mov (.k (intV 0)), []⟩])
(.ret))))))))),
 [.tmp 4, .tmp 5]⟩
def o_ref45_Diff : List (Nat × List Nat) := [(2000009, [1, 3, 1, 2, 4, 2, 1, 1, 0, 2, 1, 5, 3, 5, 6, 7, 8, 0, 1, 5, 5, 3, 6, 7, 8, 0, 1, 6, 5, 0, 3, 6, 7, 8, 0]), (13, [0, 1, 2, 3, 4, 5, 6, 7, 8, 9, 10, 11, 12, 13, 14]), (14, [0, 1, 2, 3, 4, 5, 7, 8, 9, 10, 11, 12, 6, 13, 14, 15])]
theorem c_ref45_Diff_ok : cFun Tryz.prog o_ref45_Diff 9 = some c_ref45_Diff.erase := by kernel_rfl

/- ref45_Same -/
def c_ref45_Same_L0 : ACode := (.seq (.seq (.reg [⟨(some 11), none, false, .mov (.t 5), []⟩,
 ⟨(some 12), none, false, .mov (.t 0), []⟩,
 ⟨(some 13), none, false, .len (.t 12), [12]⟩,
 ⟨(some 14), none, false, .bin .lss (.t 11) (.t 13), [11, 13]⟩])
(.cond (.t 14)
(.skip)
(.exit 0)))
(.seq (.block 1 (.seq (.reg [⟨(some 17), none, false, .mov (.t 0), [14]⟩,
 ⟨(some 18), none, false, .mov (.t 5), []⟩,
 ⟨(some 19), none, false, .ia 2 (.t 17) (.t 18), [17, 18]⟩,
 ⟨(some 20), none, false, .fa 1 (.t 19), [19]⟩,
 ⟨(some 21), none, false, .ld false 1 (.t 20), [20]⟩,
 ⟨(some 22), none, false, .mov (.t 1), []⟩,
 ⟨(some 23), none, false, .mov (.t 5), []⟩,
 ⟨(some 24), none, false, .ia 2 (.t 22) (.t 23), [22, 23]⟩,
 ⟨(some 25), none, false, .fa 1 (.t 24), [24]⟩,
 ⟨(some 26), none, false, .ld false 1 (.t 25), [25]⟩,
 ⟨(some 27), none, false, .bin .neq (.t 21) (.t 26), [21, 26]⟩,
 ⟨(some 28), none, true, .mov (.t 27), [27]⟩,
 ⟨(some 29), (some (28, false)), false, .mov (.t 0), []⟩,
 ⟨(some 30), (some (28, false)), false, .mov (.t 5), []⟩,
 ⟨(some 31), (some (28, false)), false, .ia 2 (.t 29) (.t 30), [29, 30]⟩,
 ⟨(some 32), (some (28, false)), false, .fa 0 (.t 31), [31]⟩,
 ⟨(some 33), (some (28, false)), false, .ld false 1 (.t 32), [32]⟩,
 ⟨(some 34), (some (28, false)), false, .mov (.t 1), []⟩,
 ⟨(some 35), (some (28, false)), false, .mov (.t 5), []⟩,
 ⟨(some 36), (some (28, false)), false, .ia 2 (.t 34) (.t 35), [34, 35]⟩,
 ⟨(some 37), (some (28, false)), false, .fa 0 (.t 36), [36]⟩,
 ⟨(some 38), (some (28, false)), false, .ld false 1 (.t 37), [37]⟩,
 ⟨(some 39), (some (28, false)), false, .call 27 [(.t 33), (.t 38)], [33, 38]⟩,
 ⟨(some 40), (some (28, false)), false, .bnot (.t 39), [39]⟩,
 ⟨(some 41), none, false, .pick (.t 28) (.k (boolV true)) (.t 40), [28, 40, 39, 39, 33, 38, 38, 37, 37, 36, 36, 34, 35, 35, 34, 33, 32, 32, 31, 31, 29, 30, 30, 29]⟩])
(.cond (.t 41)
(.seq (.reg [⟨(some 4), none, false, .mov (.k (boolV false)), [0, 1, 5, 41]⟩])
(.ret))
(.skip))))
(.reg [⟨(some 15), none, false, .mov (.t 5), [4, 5, 41, 14]⟩,
 ⟨(some 16), none, false, .bin .add (.t 15) (.k (intV 1)), [15]⟩,
 ⟨(some 5), none, false, .mov (.t 16), [16]⟩])))
def c_ref45_Same : AFun := ⟨.seq (.reg [⟨(some 4), none, false, .mov (.k (boolV false)), [4]⟩])
(.seq (.seq (.reg [⟨(some 6), none, false, .mov (.t 0), []⟩,
 ⟨(some 7), none, false, .len (.t 6), [6]⟩,
 ⟨(some 8), none, false, .mov (.t 1), []⟩,
 ⟨(some 9), none, false, .len (.t 8), [8]⟩,
 ⟨(some 10), none, false, .bin .neq (.t 7) (.t 9), [7, 9]⟩])
(.cond (.t 10)
(.seq (.reg [⟨(some 4), none, false, .mov (.k (boolV false)), [0, 1, 10]⟩])
(.ret))
(.skip)))
(.seq (.seq (.reg [⟨(some 5), none, false, .mov (.k (intV 0)), [4, 10]⟩])
(.block 0 (.loop [0, 1, 5] c_ref45_Same_L0)))
(.seq (.reg [⟨(some 4), none, false, .mov (.k (boolV true)), [0, 1, 5]⟩])
(.ret)))),
 [.tmp 4]⟩
def o_ref45_Same : List (Nat × List Nat) := [(6, [0, 1, 2, 3, 4, 5, 6, 7, 8, 9, 10, 11, 12, 13, 14, 15, 16, 17, 18, 19, 20, 21, 22, 23, 24])]
theorem c_ref45_Same_ok : cFun Tryz.prog o_ref45_Same 10 = some c_ref45_Same.erase := by kernel_rfl

/- ref45_FewChanges -/
def c_ref45_FewChanges_L0 : ACode := (.seq (.seq (.reg [⟨(some 7), none, false, .mov (.t 3), []⟩,
 ⟨(some 8), none, false, .mov (.t 0), []⟩,
 ⟨(some 9), none, false, .len (.t 8), [8]⟩,
 ⟨(some 10), none, false, .bin .lss (.t 7) (.t 9), [7, 9]⟩])
(.cond (.t 10)
(.skip)
(.exit 0)))
(.seq (.block 1 (.seq (.reg [⟨(some 13), none, false, .mov (.t 0), [10]⟩,
 ⟨(some 14), none, false, .mov (.t 3), []⟩,
 ⟨(some 15), none, false, .ia 2 (.t 13) (.t 14), [13, 14]⟩,
 ⟨(some 16), none, false, .fa 1 (.t 15), [15]⟩,
 ⟨(some 17), none, false, .ld false 1 (.t 16), [16]⟩,
 ⟨(some 18), none, false, .bin .gtr (.t 17) (.k (intV 100)), [17]⟩,
 ⟨(some 19), none, true, .mov (.t 18), [18]⟩,
 ⟨(some 20), (some (19, true)), false, .mov (.t 0), []⟩,
 ⟨(some 21), (some (19, true)), false, .mov (.t 3), []⟩,
 ⟨(some 22), (some (19, true)), false, .ia 2 (.t 20) (.t 21), [20, 21]⟩,
 ⟨(some 23), (some (19, true)), false, .fa 1 (.t 22), [22]⟩,
 ⟨(some 24), (some (19, true)), false, .ld false 1 (.t 23), [23]⟩,
 ⟨(some 25), (some (19, true)), false, .bin .leq (.t 24) (.k (intV 20000)), [24]⟩,
 ⟨(some 26), none, false, .pick (.t 19) (.t 25) (.k (boolV false)), [19, 25, 24, 24, 23, 23, 22, 22, 20, 21, 21, 20]⟩,
 ⟨(some 27), none, true, .mov (.t 26), [26]⟩,
 ⟨(some 28), (some (27, false)), false, .mov (.t 0), []⟩,
 ⟨(some 29), (some (27, false)), false, .mov (.t 3), []⟩,
 ⟨(some 30), (some (27, false)), false, .ia 2 (.t 28) (.t 29), [28, 29]⟩,
 ⟨(some 31), (some (27, false)), false, .fa 0 (.t 30), [30]⟩,
 ⟨(some 32), (some (27, false)), false, .ld false 1 (.t 31), [31]⟩,
 ⟨(some 33), (some (27, false)), false, .lits 1 [(.t 32)], [32]⟩,
 ⟨(some 34), (some (27, false)), false, .build [.nil, .nil] [(1, 1, (.t 33))], [33]⟩,
 ⟨(some 35), (some (27, false)), false, .call 7 [(.t 34)], [34]⟩,
 ⟨(some 36), (some (27, false)), false, .bnot (.t 35), [35]⟩,
 ⟨(some 37), none, false, .pick (.t 27) (.k (boolV true)) (.t 36), [27, 36, 35, 35, 34, 34, 33, 33, 32, 32, 31, 31, 30, 30, 28, 29, 29, 28]⟩])
(.cond (.t 37)
(.seq (.reg [⟨(some 2), none, false, .mov (.k (boolV false)), [0, 3, 37]⟩])
(.ret))
(.skip))))
(.reg [⟨(some 11), none, false, .mov (.t 3), [2, 3, 37, 10]⟩,
 ⟨(some 12), none, false, .bin .add (.t 11) (.k (intV 1)), [11]⟩,
 ⟨(some 3), none, false, .mov (.t 12), [12]⟩])))
def c_ref45_FewChanges : AFun := ⟨.seq (.reg [⟨(some 2), none, false, .mov (.k (boolV false)), [2]⟩])
(.seq (.seq (.reg [⟨(some 4), none, false, .mov (.t 0), []⟩,
 ⟨(some 5), none, false, .len (.t 4), [4]⟩,
 ⟨(some 6), none, false, .bin .gtr (.t 5) (.k (intV 30)), [5]⟩])
(.cond (.t 6)
(.seq (.reg [⟨(some 2), none, false, .mov (.k (boolV false)), [0, 6]⟩])
(.ret))
(.skip)))
(.seq (.seq (.reg [⟨(some 3), none, false, .mov (.k (intV 0)), [2, 6]⟩])
(.block 0 (.loop [0, 3] c_ref45_FewChanges_L0)))
(.seq (.reg [⟨(some 2), none, false, .mov (.k (boolV true)), [0, 3]⟩])
(.ret)))),
 [.tmp 2]⟩
def o_ref45_FewChanges : List (Nat × List Nat) := []
theorem c_ref45_FewChanges_ok : cFun Tryz.prog o_ref45_FewChanges 11 = some c_ref45_FewChanges.erase := by kernel_rfl

/- delta_Apply -/
def c_delta_Apply_L0 : ACode := (.seq (.reg [⟨(some 26), none, false, .bin .lss (.t 25) (.t 24), []⟩])
(.seq (.cond (.t 26)
(.skip)
(.exit 0))
(.seq (.block 1 (.seq (.reg [⟨(some 27), none, false, .mov (.t 25), [26]⟩,
 ⟨(some 28), none, false, .ia 2 (.t 23) (.t 25), []⟩,
 ⟨(some 29), none, false, .ld true 2 (.t 28), [28]⟩,
 ⟨(some 8), none, false, .alloc [.nil, (.d (.lit (.int .i64 0)))], []⟩,
 ⟨(some 7), none, false, .mov (.t 27), [27]⟩,
 ⟨none, none, false, .st 2 (.t 8) (.t 29), [29]⟩])
(.seq (.seq (.reg [⟨(some 30), none, false, .fa 0 (.t 8), []⟩,
 ⟨(some 31), none, false, .ld false 1 (.t 30), [30]⟩,
 ⟨(some 32), none, false, .len (.t 31), [31]⟩,
 ⟨(some 33), none, false, .fa 0 (.t 2), []⟩,
 ⟨(some 34), none, false, .ld false 1 (.t 33), [33]⟩,
 ⟨(some 35), none, false, .len (.t 34), [34]⟩,
 ⟨(some 36), none, false, .bin .neq (.t 32) (.t 35), [32, 35]⟩,
 ⟨(some 37), none, true, .mov (.t 36), [36]⟩,
 ⟨(some 38), (some (37, false)), false, .fa 1 (.t 8), []⟩,
 ⟨(some 39), (some (37, false)), false, .ld false 1 (.t 38), [38]⟩,
 ⟨(some 40), (some (37, false)), false, .bin .eql (.t 39) (.k (intV 0)), [39]⟩,
 ⟨(some 41), none, false, .pick (.t 37) (.k (boolV true)) (.t 40), [37, 40, 39, 39, 38, 38]⟩,
 ⟨(some 42), none, true, .mov (.t 41), [41]⟩,
 ⟨(some 43), (some (42, false)), false, .fa 1 (.t 8), []⟩,
 ⟨(some 44), (some (42, false)), false, .ld false 1 (.t 43), [43]⟩,
 ⟨(some 45), (some (42, false)), false, .bin .lss (.t 44) (.k (intV (-20000))), [44]⟩,
 ⟨(some 46), none, false, .pick (.t 42) (.k (boolV true)) (.t 45), [42, 45, 44, 44, 43, 43]⟩,
 ⟨(some 47), none, true, .mov (.t 46), [46]⟩,
 ⟨(some 48), (some (47, false)), false, .fa 1 (.t 8), []⟩,
 ⟨(some 49), (some (47, false)), false, .ld false 1 (.t 48), [48]⟩,
 ⟨(some 50), (some (47, false)), false, .bin .gtr (.t 49) (.k (intV 20000)), [49]⟩,
 ⟨(some 51), none, false, .pick (.t 47) (.k (boolV true)) (.t 50), [47, 50, 49, 49, 48, 48]⟩,
 ⟨(some 52), none, true, .mov (.t 51), [51]⟩,
 ⟨(some 53), (some (52, false)), false, .mov (.t 7), []⟩,
 ⟨(some 54), (some (52, false)), false, .bin .gtr (.t 53) (.k (intV 0)), [53]⟩,
 ⟨(some 55), (some (52, false)), true, .mov (.t 54), [54]⟩,
 ⟨(some 56), (some (55, true)), false, .mov (.t 1), []⟩,
 ⟨(some 57), (some (55, true)), false, .mov (.t 7), [7]⟩,
 ⟨(some 58), (some (55, true)), false, .bin .sub (.t 57) (.k (intV 1)), [57]⟩,
 ⟨(some 59), (some (55, true)), false, .ia 2 (.t 56) (.t 58), [56, 58]⟩,
 ⟨(some 60), (some (55, true)), false, .fa 0 (.t 59), [59]⟩,
 ⟨(some 61), (some (55, true)), false, .ld false 1 (.t 60), [60]⟩,
 ⟨(some 62), (some (55, true)), false, .fa 0 (.t 8), []⟩,
 ⟨(some 63), (some (55, true)), false, .ld false 1 (.t 62), [62]⟩,
 ⟨(some 64), (some (55, true)), false, .call 28 [(.t 61), (.t 63)], [61, 63]⟩,
 ⟨(some 65), (some (55, true)), false, .bin .geq (.t 64) (.k (intV 0)), [64]⟩,
 ⟨(some 66), (some (52, false)), false, .pick (.t 55) (.t 65) (.k (boolV false)), [55, 65, 64, 64, 61, 63, 63, 62, 62, 61, 60, 60, 59, 59, 56, 58, 58, 57, 57, 7, 56]⟩,
 ⟨(some 67), none, false, .pick (.t 52) (.k (boolV true)) (.t 66), [52, 66, 55, 65, 64, 64, 61, 63, 63, 62, 62, 61, 60, 60, 59, 59, 56, 58, 58, 57, 57, 7, 56, 65, 64, 64, 61, 63, 63, 62, 62, 61, 60, 60, 59, 59, 56, 58, 58, 57, 57, 7, 56, 55, 54, 54, 53, 53]⟩])
(.cond (.t 67)
(.seq (.reg [⟨(some 68), none, false, .build [.nil, .nil] [], [1, 2, 23, 24, 25, 8, 67]⟩,
 ⟨none, none, false, .st 2 (.t 4) (.t 68), [68]⟩,
 ⟨(some 5), none, false, .mov (.k (intV 10)), []⟩])
(.ret))
(.skip)))
(.seq (.reg [⟨(some 69), none, false, .fa 0 (.t 2), [5, 67]⟩,
 ⟨(some 70), none, false, .ld false 1 (.t 69), [69]⟩,
 ⟨(some 71), none, false, .fa 0 (.t 8), [8]⟩,
 ⟨(some 72), none, false, .ld false 1 (.t 71), [71]⟩,
 ⟨(some 73), none, false, .call 29 [(.t 70), (.t 72)], [70, 72]⟩,
 ⟨(some 9), none, false, .mov (.t 73), [73]⟩])
(.seq (.reg [⟨(some 74), none, false, .mov (.t 9), []⟩,
 ⟨(some 75), none, false, .bin .neq (.t 74) (.k (intV 0)), [74]⟩])
(.cond (.t 75)
(.seq (.reg [⟨(some 76), none, false, .build [.nil, .nil] [], [1, 2, 23, 24, 25, 75]⟩,
 ⟨(some 77), none, false, .mov (.t 9), [9]⟩,
 ⟨none, none, false, .st 2 (.t 4) (.t 76), [76]⟩,
 ⟨(some 5), none, false, .mov (.t 77), [77]⟩])
(.ret))
(.skip)))))))
(.reg [⟨(some 78), none, false, .bin .add (.t 25) (.k (intV 1)), [5, 25, 9, 75, 26]⟩,
 ⟨(some 25), none, false, .mov (.t 78), [78]⟩]))))
def c_delta_Apply_L1 : ACode := (.seq (.reg [⟨(some 87), none, false, .bin .lss (.t 86) (.t 85), []⟩])
(.seq (.cond (.t 87)
(.skip)
(.exit 2))
(.seq (.block 3 (.seq (.reg [⟨(some 88), none, false, .ia 2 (.t 84) (.t 86), [87]⟩,
 ⟨(some 89), none, false, .ld true 2 (.t 88), [88]⟩,
 ⟨(some 13), none, false, .alloc [.nil, (.d (.lit (.int .i64 0)))], []⟩,
 ⟨none, none, false, .st 2 (.t 13) (.t 89), [89]⟩])
(.seq (.seq (.reg [⟨(some 90), none, false, .fa 1 (.t 13), []⟩,
 ⟨(some 91), none, false, .ld false 1 (.t 90), [90]⟩,
 ⟨(some 92), none, false, .bin .lss (.t 91) (.k (intV 0)), [91]⟩])
(.cond (.t 92)
(.seq (.reg [⟨(some 93), none, false, .build [.nil, .nil] [], [2, 10, 11, 84, 85, 86, 13, 92]⟩,
 ⟨none, none, false, .st 2 (.t 4) (.t 93), [93]⟩,
 ⟨(some 5), none, false, .mov (.k (intV 5)), []⟩])
(.ret))
(.skip)))
(.reg [⟨(some 94), none, false, .mov (.t 11), [5, 11, 92]⟩,
 ⟨(some 95), none, false, .fa 1 (.t 13), [13]⟩,
 ⟨(some 96), none, false, .ld false 1 (.t 95), [95]⟩,
 ⟨(some 97), none, false, .bin .add (.t 94) (.t 96), [94, 96]⟩,
 ⟨(some 98), none, false, .mm false (.t 97) (.k (intV 40000)), [97]⟩,
 ⟨(some 11), none, false, .mov (.t 98), [98]⟩]))))
(.reg [⟨(some 99), none, false, .bin .add (.t 86) (.k (intV 1)), [86, 87]⟩,
 ⟨(some 86), none, false, .mov (.t 99), [99]⟩]))))
def c_delta_Apply_L2 : ACode := (.seq (.reg [⟨(some 110), none, false, .bin .lss (.t 109) (.t 108), []⟩])
(.seq (.cond (.t 110)
(.skip)
(.exit 4))
(.seq (.block 5 (.seq (.reg [⟨(some 111), none, false, .ia 2 (.t 107) (.t 109), [110]⟩,
 ⟨(some 112), none, false, .ld true 2 (.t 111), [111]⟩,
 ⟨(some 16), none, false, .alloc [.nil, (.d (.lit (.int .i64 0)))], []⟩,
 ⟨none, none, false, .st 2 (.t 16) (.t 112), [112]⟩])
(.reg [⟨(some 113), none, false, .fa 1 (.t 14), []⟩,
 ⟨(some 114), none, false, .ld false 1 (.t 113), [113]⟩,
 ⟨(some 115), none, false, .fa 0 (.t 16), []⟩,
 ⟨(some 116), none, false, .ld false 1 (.t 115), [115]⟩,
 ⟨(some 118), none, false, .fa 1 (.t 16), [16]⟩,
 ⟨(some 119), none, false, .ld false 1 (.t 118), [118]⟩,
 ⟨(some 117), none, false, .lits 1 [(.t 116)], [116]⟩,
 ⟨(some 120), none, false, .call 31 [(.t 117), (.t 119)], [119, 117]⟩,
 ⟨(some 121), none, false, .app 1 24 (.t 114) (.t 120), [114, 120]⟩,
 ⟨(some 122), none, false, .fa 1 (.t 14), []⟩,
 ⟨none, none, false, .st 1 (.t 122) (.t 121), [121, 122]⟩])))
(.reg [⟨(some 123), none, false, .bin .add (.t 109) (.k (intV 1)), [109, 110]⟩,
 ⟨(some 109), none, false, .mov (.t 123), [123]⟩]))))
def c_delta_Apply : AFun := ⟨.seq (.reg [⟨(some 2), none, false, .bx (.t 0), [0]⟩,
 ⟨(some 4), none, false, .alloc [.nil, .nil], []⟩,
 ⟨(some 5), none, false, .mov (.k (intV 0)), [5]⟩])
(.seq (.seq (.reg [⟨(some 17), none, false, .ld true 2 (.t 2), []⟩,
 ⟨(some 18), none, false, .call 19 [(.t 17)], [17]⟩,
 ⟨(some 6), none, false, .mov (.t 18), [18]⟩])
(.seq (.reg [⟨(some 19), none, false, .mov (.t 6), []⟩,
 ⟨(some 20), none, false, .bin .neq (.t 19) (.k (intV 0)), [19]⟩])
(.cond (.t 20)
(.seq (.reg [⟨(some 21), none, false, .build [.nil, .nil] [], [1, 2, 20]⟩,
 ⟨(some 22), none, false, .mov (.t 6), [6]⟩,
 ⟨none, none, false, .st 2 (.t 4) (.t 21), [21]⟩,
 ⟨(some 5), none, false, .mov (.t 22), [22]⟩])
(.ret))
(.skip))))
(.seq (.seq (.reg [⟨(some 23), none, false, .mov (.t 1), [5, 6, 20]⟩,
 ⟨(some 24), none, false, .len (.t 23), []⟩,
 ⟨(some 25), none, false, .mov (.k (intV 0)), []⟩])
(.block 0 (.loop [1, 2, 4, 23, 24, 25] c_delta_Apply_L0)))
(.seq (.reg [⟨(some 79), none, false, .fa 1 (.t 2), [23, 24, 25]⟩,
 ⟨(some 80), none, false, .ld false 1 (.t 79), [79]⟩,
 ⟨(some 81), none, false, .call 22 [(.t 80), (.k (intV 1))], [80]⟩,
 ⟨(some 82), none, false, .mov (.t 1), [1]⟩,
 ⟨(some 83), none, false, .call 21 [(.t 81), (.t 82)], [81, 82]⟩,
 ⟨(some 10), none, false, .mov (.t 83), [83]⟩])
(.seq (.reg [⟨(some 11), none, false, .mov (.k (intV 0)), []⟩])
(.seq (.seq (.reg [⟨(some 84), none, false, .mov (.t 10), []⟩,
 ⟨(some 85), none, false, .len (.t 84), []⟩,
 ⟨(some 86), none, false, .mov (.k (intV 0)), []⟩])
(.block 2 (.loop [2, 4, 10, 11, 84, 85, 86] c_delta_Apply_L1)))
(.seq (.seq (.reg [⟨(some 100), none, false, .mov (.t 11), [84, 85, 11, 86]⟩,
 ⟨(some 101), none, false, .bin .gtr (.t 100) (.k (intV 20000)), [100]⟩])
(.cond (.t 101)
(.seq (.reg [⟨(some 102), none, false, .build [.nil, .nil] [], [2, 10, 101]⟩,
 ⟨none, none, false, .st 2 (.t 4) (.t 102), [102]⟩,
 ⟨(some 5), none, false, .mov (.k (intV 7)), []⟩])
(.ret))
(.skip)))
(.seq (.reg [⟨(some 103), none, false, .fa 0 (.t 2), [5, 2, 101]⟩,
 ⟨(some 104), none, false, .ld false 1 (.t 103), [103]⟩,
 ⟨(some 105), none, false, .call 30 [(.t 104)], [104]⟩,
 ⟨(some 106), none, false, .build [.nil, .nil] [(0, 1, (.t 105))], [105]⟩,
 ⟨(some 14), none, false, .alloc [.nil, .nil], []⟩,
 ⟨none, none, false, .st 2 (.t 14) (.t 106), [106]⟩])
(.seq (.seq (.reg [⟨(some 107), none, false, .mov (.t 10), [10]⟩,
 ⟨(some 108), none, false, .len (.t 107), []⟩,
 ⟨(some 109), none, false, .mov (.k (intV 0)), []⟩])
(.block 4 (.loop [4, 14, 107, 108, 109] c_delta_Apply_L2)))
(.seq (.reg [⟨(some 124), none, false, .ld true 2 (.t 14), [14, 107, 108, 109]⟩,
 ⟨none, none, false, .st 2 (.t 4) (.t 124), [124]⟩,
 ⟨(some 5), none, false, .mov (.k (intV 0)), []⟩])
(.ret)))))))))),
 [.cell 4 true 2, .tmp 5]⟩
def o_delta_Apply : List (Nat × List Nat) := [(7, [0, 1, 2, 3, 4, 5, 6, 7, 8, 9, 10, 11, 12, 13, 14, 15, 16, 17, 18, 19, 20, 21, 22, 23, 24, 25, 26, 27, 28, 29, 30, 31, 32, 33, 34, 35, 36, 37]), (28, [0, 1, 2, 3, 5, 6, 4, 7, 8, 9, 10])]
theorem c_delta_Apply_ok : cFun Tryz.prog o_delta_Apply 12 = some c_delta_Apply.erase := by kernel_rfl

/- ref45_Apply -/
def c_ref45_Apply_L0 : ACode := (.seq (.seq (.reg [⟨(some 28), none, false, .mov (.t 8), []⟩,
 ⟨(some 29), none, false, .mov (.t 1), []⟩,
 ⟨(some 30), none, false, .len (.t 29), [29]⟩,
 ⟨(some 31), none, false, .bin .lss (.t 28) (.t 30), [28, 30]⟩])
(.cond (.t 31)
(.skip)
(.exit 0)))
(.seq (.block 1 (.seq (.seq (.reg [⟨(some 34), none, false, .fa 1 (.t 2), [31]⟩,
 ⟨(some 35), none, false, .ld false 1 (.t 34), [34]⟩,
 ⟨(some 36), none, false, .mov (.t 1), []⟩,
 ⟨(some 37), none, false, .mov (.t 8), []⟩,
 ⟨(some 38), none, false, .ia 2 (.t 36) (.t 37), [36, 37]⟩,
 ⟨(some 39), none, false, .fa 0 (.t 38), [38]⟩,
 ⟨(some 40), none, false, .ld false 1 (.t 39), [39]⟩,
 ⟨(some 42), none, false, .mov (.t 1), []⟩,
 ⟨(some 43), none, false, .mov (.t 8), []⟩,
 ⟨(some 44), none, false, .ia 2 (.t 42) (.t 43), [42, 43]⟩,
 ⟨(some 45), none, false, .fa 1 (.t 44), [44]⟩,
 ⟨(some 46), none, false, .ld false 1 (.t 45), [45]⟩,
 ⟨(some 41), none, false, .call 26 [(.t 35), (.t 40)], [35, 40]⟩,
 ⟨(some 47), none, false, .bin .add (.t 41) (.t 46), [46, 41]⟩,
 ⟨(some 48), none, false, .bin .lss (.t 47) (.k (intV 0)), [47]⟩])
(.cond (.t 48)
(.seq (.reg [⟨(some 49), none, false, .build [.nil, .nil] [], [1, 2, 7, 8, 48]⟩,
 ⟨none, none, false, .st 2 (.t 4) (.t 49), [49]⟩,
 ⟨(some 5), none, false, .mov (.k (intV 5)), []⟩])
(.ret))
(.skip)))
(.reg [⟨(some 50), none, false, .mov (.t 7), [5, 7, 48]⟩,
 ⟨(some 51), none, false, .mov (.t 1), []⟩,
 ⟨(some 52), none, false, .mov (.t 8), []⟩,
 ⟨(some 53), none, false, .ia 2 (.t 51) (.t 52), [51, 52]⟩,
 ⟨(some 54), none, false, .fa 1 (.t 53), [53]⟩,
 ⟨(some 55), none, false, .ld false 1 (.t 54), [54]⟩,
 ⟨(some 56), none, false, .bin .add (.t 50) (.t 55), [50, 55]⟩,
 ⟨(some 7), none, false, .mov (.t 56), [56]⟩])))
(.reg [⟨(some 32), none, false, .mov (.t 8), [8, 31]⟩,
 ⟨(some 33), none, false, .bin .add (.t 32) (.k (intV 1)), [32]⟩,
 ⟨(some 8), none, false, .mov (.t 33), [33]⟩])))
def c_ref45_Apply_L1 : ACode := (.seq (.seq (.reg [⟨(some 70), none, false, .mov (.t 11), []⟩,
 ⟨(some 71), none, false, .mov (.t 1), []⟩,
 ⟨(some 72), none, false, .mov (.t 10), []⟩,
 ⟨(some 73), none, false, .ia 2 (.t 71) (.t 72), [71, 72]⟩,
 ⟨(some 74), none, false, .fa 1 (.t 73), [73]⟩,
 ⟨(some 75), none, false, .ld false 1 (.t 74), [74]⟩,
 ⟨(some 76), none, false, .bin .lss (.t 70) (.t 75), [70, 75]⟩])
(.cond (.t 76)
(.skip)
(.exit 4)))
(.seq (.block 5 (.reg [⟨(some 79), none, false, .mov (.t 9), [9, 76]⟩,
 ⟨(some 80), none, false, .mov (.t 1), []⟩,
 ⟨(some 81), none, false, .mov (.t 10), []⟩,
 ⟨(some 82), none, false, .ia 2 (.t 80) (.t 81), [80, 81]⟩,
 ⟨(some 83), none, false, .fa 0 (.t 82), [82]⟩,
 ⟨(some 84), none, false, .ld false 1 (.t 83), [83]⟩,
 ⟨(some 85), none, false, .lits 1 [(.t 84)], [84]⟩,
 ⟨(some 86), none, false, .app 1 24 (.t 79) (.t 85), [79, 85]⟩,
 ⟨(some 9), none, false, .mov (.t 86), [86]⟩]))
(.reg [⟨(some 77), none, false, .mov (.t 11), [11, 76]⟩,
 ⟨(some 78), none, false, .bin .add (.t 77) (.k (intV 1)), [77]⟩,
 ⟨(some 11), none, false, .mov (.t 78), [78]⟩])))
def c_ref45_Apply_L2 : ACode := (.seq (.seq (.reg [⟨(some 92), none, false, .mov (.t 12), []⟩,
 ⟨(some 93), none, false, .bin .lss (.t 92) (.k (intV 0)), [92]⟩])
(.cond (.t 93)
(.skip)
(.exit 6)))
(.seq (.block 7 (.reg [⟨(some 96), none, false, .mov (.t 9), [9, 93]⟩,
 ⟨(some 97), none, false, .mov (.t 1), []⟩,
 ⟨(some 98), none, false, .mov (.t 10), []⟩,
 ⟨(some 99), none, false, .ia 2 (.t 97) (.t 98), [97, 98]⟩,
 ⟨(some 100), none, false, .fa 0 (.t 99), [99]⟩,
 ⟨(some 101), none, false, .ld false 1 (.t 100), [100]⟩,
 ⟨(some 102), none, false, .call 33 [(.t 96), (.t 101)], [96, 101]⟩,
 ⟨(some 9), none, false, .mov (.t 102), [102]⟩]))
(.reg [⟨(some 94), none, false, .mov (.t 12), [12, 93]⟩,
 ⟨(some 95), none, false, .bin .add (.t 94) (.k (intV 1)), [94]⟩,
 ⟨(some 12), none, false, .mov (.t 95), [95]⟩])))
def c_ref45_Apply_L3 : ACode := (.seq (.seq (.reg [⟨(some 64), none, false, .mov (.t 10), []⟩,
 ⟨(some 65), none, false, .mov (.t 1), []⟩,
 ⟨(some 66), none, false, .len (.t 65), [65]⟩,
 ⟨(some 67), none, false, .bin .lss (.t 64) (.t 66), [64, 66]⟩])
(.cond (.t 67)
(.skip)
(.exit 2)))
(.seq (.block 3 (.seq (.seq (.reg [⟨(some 11), none, false, .mov (.k (intV 0)), [67]⟩])
(.block 4 (.loop [1, 2, 4, 9, 10, 11] c_ref45_Apply_L1)))
(.seq (.reg [⟨(some 87), none, false, .mov (.t 1), [11]⟩,
 ⟨(some 88), none, false, .mov (.t 10), []⟩,
 ⟨(some 89), none, false, .ia 2 (.t 87) (.t 88), [87, 88]⟩,
 ⟨(some 90), none, false, .fa 1 (.t 89), [89]⟩,
 ⟨(some 91), none, false, .ld false 1 (.t 90), [90]⟩,
 ⟨(some 12), none, false, .mov (.t 91), [91]⟩])
(.block 6 (.loop [1, 2, 4, 9, 10, 12] c_ref45_Apply_L2)))))
(.reg [⟨(some 68), none, false, .mov (.t 10), [10, 12, 67]⟩,
 ⟨(some 69), none, false, .bin .add (.t 68) (.k (intV 1)), [68]⟩,
 ⟨(some 10), none, false, .mov (.t 69), [69]⟩])))
def c_ref45_Apply : AFun := ⟨.seq (.reg [⟨(some 2), none, false, .bx (.t 0), [0]⟩,
 ⟨(some 4), none, false, .alloc [.nil, .nil], []⟩,
 ⟨(some 5), none, false, .mov (.k (intV 0)), [5]⟩])
(.seq (.reg [⟨(some 13), none, false, .ld true 2 (.t 2), []⟩,
 ⟨(some 14), none, false, .call 23 [(.t 13)], [13]⟩,
 ⟨(some 6), none, false, .mov (.t 14), [14]⟩])
(.seq (.seq (.reg [⟨(some 15), none, false, .mov (.t 6), []⟩,
 ⟨(some 16), none, false, .bin .eql (.t 15) (.k (intV 0)), [15]⟩])
(.cond (.t 16)
(.reg [⟨(some 17), none, false, .fa 0 (.t 2), [6, 16]⟩,
 ⟨(some 18), none, false, .ld false 1 (.t 17), [17]⟩,
 ⟨(some 19), none, false, .mov (.t 1), []⟩,
 ⟨(some 20), none, false, .call 32 [(.t 18), (.t 19)], [18, 19]⟩,
 ⟨(some 6), none, false, .mov (.t 20), [20]⟩])
(.skip)))
(.seq (.seq (.reg [⟨(some 21), none, false, .mov (.t 6), [16]⟩,
 ⟨(some 22), none, false, .bin .neq (.t 21) (.k (intV 0)), [21]⟩])
(.cond (.t 22)
(.seq (.reg [⟨(some 23), none, false, .build [.nil, .nil] [], [1, 2, 22]⟩,
 ⟨(some 24), none, false, .mov (.t 6), [6]⟩,
 ⟨none, none, false, .st 2 (.t 4) (.t 23), [23]⟩,
 ⟨(some 5), none, false, .mov (.t 24), [24]⟩])
(.ret))
(.skip)))
(.seq (.reg [⟨(some 25), none, false, .fa 1 (.t 2), [5, 6, 22]⟩,
 ⟨(some 26), none, false, .ld false 1 (.t 25), [25]⟩,
 ⟨(some 27), none, false, .len (.t 26), [26]⟩,
 ⟨(some 7), none, false, .mov (.t 27), [27]⟩])
(.seq (.seq (.reg [⟨(some 8), none, false, .mov (.k (intV 0)), []⟩])
(.block 0 (.loop [1, 2, 4, 7, 8] c_ref45_Apply_L0)))
(.seq (.seq (.reg [⟨(some 57), none, false, .mov (.t 7), [7, 8]⟩,
 ⟨(some 58), none, false, .bin .gtr (.t 57) (.k (intV 20000)), [57]⟩])
(.cond (.t 58)
(.seq (.reg [⟨(some 59), none, false, .build [.nil, .nil] [], [1, 2, 58]⟩,
 ⟨none, none, false, .st 2 (.t 4) (.t 59), [59]⟩,
 ⟨(some 5), none, false, .mov (.k (intV 7)), []⟩])
(.ret))
(.skip)))
(.seq (.reg [⟨(some 60), none, false, .lits 1 [], [5, 58]⟩,
 ⟨(some 61), none, false, .fa 1 (.t 2), []⟩,
 ⟨(some 62), none, false, .ld false 1 (.t 61), [61]⟩,
 ⟨(some 63), none, false, .app 1 24 (.t 60) (.t 62), [60, 62]⟩,
 ⟨(some 9), none, false, .mov (.t 63), [63]⟩])
(.seq (.seq (.reg [⟨(some 10), none, false, .mov (.k (intV 0)), []⟩])
(.block 2 (.loop [1, 2, 4, 9, 10] c_ref45_Apply_L3)))
(.seq (.reg [⟨(some 103), none, false, .fa 0 (.t 2), [1, 2, 10]⟩,
 ⟨(some 104), none, false, .ld false 1 (.t 103), [103]⟩,
 ⟨(some 105), none, false, .mov (.t 9), [9]⟩,
 ⟨(some 106), none, false, .call 15 [(.t 105)], [105]⟩,
 ⟨(some 107), none, false, .build [.nil, .nil] [(0, 1, (.t 104)), (1, 1, (.t 106))], [104, 106]⟩,
 ⟨none, none, false, .st 2 (.t 4) (.t 107), [107]⟩,
 ⟨(some 5), none, false, .mov (.k (intV 0)), []⟩])
(.ret)))))))))),
 [.cell 4 true 2, .tmp 5]⟩
def o_ref45_Apply : List (Nat × List Nat) := [(10, [0, 1, 2, 3, 4, 5, 6, 8, 9, 10, 11, 12, 7, 13, 14]), (27, [0, 1, 2, 3, 4, 5, 6])]
theorem c_ref45_Apply_ok : cFun Tryz.prog o_ref45_Apply 13 = some c_ref45_Apply.erase := by kernel_rfl

/- ref34_Same -/
def c_ref34_Same_L0 : ACode := (.seq (.seq (.reg [⟨(some 23), none, false, .mov (.t 5), []⟩,
 ⟨(some 24), none, false, .fa 0 (.t 2), []⟩,
 ⟨(some 25), none, false, .ld false 1 (.t 24), [24]⟩,
 ⟨(some 26), none, false, .len (.t 25), [25]⟩,
 ⟨(some 27), none, false, .bin .lss (.t 23) (.t 26), [23, 26]⟩])
(.cond (.t 27)
(.skip)
(.exit 0)))
(.seq (.block 1 (.seq (.reg [⟨(some 30), none, false, .fa 0 (.t 2), [27]⟩,
 ⟨(some 31), none, false, .ld false 1 (.t 30), [30]⟩,
 ⟨(some 32), none, false, .mov (.t 5), []⟩,
 ⟨(some 33), none, false, .ia 2 (.t 31) (.t 32), [31, 32]⟩,
 ⟨(some 34), none, false, .ld true 2 (.t 33), [33]⟩,
 ⟨(some 35), none, false, .fa 0 (.t 3), []⟩,
 ⟨(some 36), none, false, .ld false 1 (.t 35), [35]⟩,
 ⟨(some 37), none, false, .mov (.t 5), []⟩,
 ⟨(some 38), none, false, .ia 2 (.t 36) (.t 37), [36, 37]⟩,
 ⟨(some 39), none, false, .ld true 2 (.t 38), [38]⟩,
 ⟨(some 40), none, false, .eqa true [1, 0] (.t 34) (.t 39), [34, 39]⟩])
(.cond (.t 40)
(.seq (.reg [⟨(some 4), none, false, .mov (.k (boolV false)), [2, 3, 5, 40]⟩])
(.ret))
(.skip))))
(.reg [⟨(some 28), none, false, .mov (.t 5), [4, 5, 40, 27]⟩,
 ⟨(some 29), none, false, .bin .add (.t 28) (.k (intV 1)), [28]⟩,
 ⟨(some 5), none, false, .mov (.t 29), [29]⟩])))
def c_ref34_Same_L1 : ACode := (.seq (.seq (.reg [⟨(some 41), none, false, .mov (.t 6), []⟩,
 ⟨(some 42), none, false, .fa 1 (.t 2), []⟩,
 ⟨(some 43), none, false, .ld false 1 (.t 42), [42]⟩,
 ⟨(some 44), none, false, .len (.t 43), [43]⟩,
 ⟨(some 45), none, false, .bin .lss (.t 41) (.t 44), [41, 44]⟩])
(.cond (.t 45)
(.skip)
(.exit 2)))
(.seq (.block 3 (.seq (.reg [⟨(some 48), none, false, .fa 1 (.t 2), [45]⟩,
 ⟨(some 49), none, false, .ld false 1 (.t 48), [48]⟩,
 ⟨(some 50), none, false, .mov (.t 6), []⟩,
 ⟨(some 51), none, false, .ia 1 (.t 49) (.t 50), [49, 50]⟩,
 ⟨(some 52), none, false, .ld false 1 (.t 51), [51]⟩,
 ⟨(some 53), none, false, .fa 1 (.t 3), []⟩,
 ⟨(some 54), none, false, .ld false 1 (.t 53), [53]⟩,
 ⟨(some 55), none, false, .mov (.t 6), []⟩,
 ⟨(some 56), none, false, .ia 1 (.t 54) (.t 55), [54, 55]⟩,
 ⟨(some 57), none, false, .ld false 1 (.t 56), [56]⟩,
 ⟨(some 58), none, false, .call 34 [(.t 52), (.t 57)], [52, 57]⟩,
 ⟨(some 59), none, false, .bnot (.t 58), [58]⟩])
(.cond (.t 59)
(.seq (.reg [⟨(some 4), none, false, .mov (.k (boolV false)), [2, 3, 6, 59]⟩])
(.ret))
(.skip))))
(.reg [⟨(some 46), none, false, .mov (.t 6), [4, 6, 59, 45]⟩,
 ⟨(some 47), none, false, .bin .add (.t 46) (.k (intV 1)), [46]⟩,
 ⟨(some 6), none, false, .mov (.t 47), [47]⟩])))
def c_ref34_Same : AFun := ⟨.seq (.reg [⟨(some 2), none, false, .bx (.t 0), [0]⟩,
 ⟨(some 3), none, false, .bx (.t 1), [1]⟩,
 ⟨(some 4), none, false, .mov (.k (boolV false)), [4]⟩])
(.seq (.seq (.reg [⟨(some 7), none, false, .fa 0 (.t 2), []⟩,
 ⟨(some 8), none, false, .ld false 1 (.t 7), [7]⟩,
 ⟨(some 9), none, false, .len (.t 8), [8]⟩,
 ⟨(some 10), none, false, .fa 0 (.t 3), []⟩,
 ⟨(some 11), none, false, .ld false 1 (.t 10), [10]⟩,
 ⟨(some 12), none, false, .len (.t 11), [11]⟩,
 ⟨(some 13), none, false, .bin .neq (.t 9) (.t 12), [9, 12]⟩,
 ⟨(some 14), none, true, .mov (.t 13), [13]⟩,
 ⟨(some 15), (some (14, false)), false, .fa 1 (.t 2), []⟩,
 ⟨(some 16), (some (14, false)), false, .ld false 1 (.t 15), [15]⟩,
 ⟨(some 17), (some (14, false)), false, .len (.t 16), [16]⟩,
 ⟨(some 18), (some (14, false)), false, .fa 1 (.t 3), []⟩,
 ⟨(some 19), (some (14, false)), false, .ld false 1 (.t 18), [18]⟩,
 ⟨(some 20), (some (14, false)), false, .len (.t 19), [19]⟩,
 ⟨(some 21), (some (14, false)), false, .bin .neq (.t 17) (.t 20), [17, 20]⟩,
 ⟨(some 22), none, false, .pick (.t 14) (.k (boolV true)) (.t 21), [14, 21, 17, 20, 20, 19, 19, 18, 18, 17, 16, 16, 15, 15]⟩])
(.cond (.t 22)
(.seq (.reg [⟨(some 4), none, false, .mov (.k (boolV false)), [2, 3, 22]⟩])
(.ret))
(.skip)))
(.seq (.seq (.reg [⟨(some 5), none, false, .mov (.k (intV 0)), [4, 22]⟩])
(.block 0 (.loop [2, 3, 5] c_ref34_Same_L0)))
(.seq (.seq (.reg [⟨(some 6), none, false, .mov (.k (intV 0)), [5]⟩])
(.block 2 (.loop [2, 3, 6] c_ref34_Same_L1)))
(.seq (.reg [⟨(some 4), none, false, .mov (.k (boolV true)), [2, 3, 6]⟩])
(.ret))))),
 [.tmp 4]⟩
def o_ref34_Same : List (Nat × List Nat) := [(6, [0, 1, 2, 3, 4, 5, 6, 7, 8, 9, 10]), (11, [0, 1, 2, 3, 4, 5, 6, 7, 8, 9, 10, 11])]
theorem c_ref34_Same_ok : cFun Tryz.prog o_ref34_Same 14 = some c_ref34_Same.erase := by kernel_rfl

/- ref45_Rows -/
def c_ref45_Rows_L0 : ACode := (.seq (.seq (.reg [⟨(some 22), none, false, .mov (.t 5), []⟩,
 ⟨(some 23), none, false, .bin .gtr (.t 22) (.k (intV 0)), [22]⟩,
 ⟨(some 24), none, true, .mov (.t 23), [23]⟩,
 ⟨(some 25), (some (24, true)), false, .mov (.t 3), []⟩,
 ⟨(some 26), (some (24, true)), false, .mov (.t 5), []⟩,
 ⟨(some 27), (some (24, true)), false, .ia 1 (.t 25) (.t 26), [25, 26]⟩,
 ⟨(some 28), (some (24, true)), false, .ld false 1 (.t 27), [27]⟩,
 ⟨(some 29), (some (24, true)), false, .mov (.t 3), []⟩,
 ⟨(some 30), (some (24, true)), false, .mov (.t 5), []⟩,
 ⟨(some 31), (some (24, true)), false, .bin .sub (.t 30) (.k (intV 1)), [30]⟩,
 ⟨(some 32), (some (24, true)), false, .ia 1 (.t 29) (.t 31), [29, 31]⟩,
 ⟨(some 33), (some (24, true)), false, .ld false 1 (.t 32), [32]⟩,
 ⟨(some 34), (some (24, true)), false, .call 25 [(.t 28), (.t 33)], [28, 33]⟩,
 ⟨(some 35), (some (24, true)), false, .bin .lss (.t 34) (.k (intV 0)), [34]⟩,
 ⟨(some 36), none, false, .pick (.t 24) (.t 35) (.k (boolV false)), [24, 35, 34, 34, 28, 33, 33, 32, 32, 29, 31, 31, 30, 30, 29, 28, 27, 27, 25, 26, 26, 25]⟩])
(.cond (.t 36)
(.skip)
(.exit 2)))
(.block 3 (.seq (.reg [⟨(some 37), none, false, .mov (.t 3), [36]⟩,
 ⟨(some 38), none, false, .mov (.t 5), []⟩,
 ⟨(some 39), none, false, .ia 1 (.t 37) (.t 38), [37, 38]⟩,
 ⟨(some 40), none, false, .ld false 1 (.t 39), [39]⟩,
 ⟨(some 6), none, false, .mov (.t 40), [40]⟩])
(.seq (.reg [⟨(some 41), none, false, .mov (.t 3), []⟩,
 ⟨(some 42), none, false, .mov (.t 5), []⟩,
 ⟨(some 43), none, false, .mov (.t 3), []⟩,
 ⟨(some 44), none, false, .mov (.t 5), []⟩,
 ⟨(some 45), none, false, .bin .sub (.t 44) (.k (intV 1)), [44]⟩,
 ⟨(some 46), none, false, .ia 1 (.t 43) (.t 45), [43, 45]⟩,
 ⟨(some 47), none, false, .ld false 1 (.t 46), [46]⟩,
 ⟨(some 48), none, false, .ia 1 (.t 41) (.t 42), [41, 42]⟩,
 ⟨none, none, false, .st 1 (.t 48) (.t 47), [47, 48]⟩])
(.seq (.reg [⟨(some 49), none, false, .mov (.t 3), []⟩,
 ⟨(some 50), none, false, .mov (.t 5), []⟩,
 ⟨(some 51), none, false, .bin .sub (.t 50) (.k (intV 1)), [50]⟩,
 ⟨(some 52), none, false, .mov (.t 6), [6]⟩,
 ⟨(some 53), none, false, .ia 1 (.t 49) (.t 51), [49, 51]⟩,
 ⟨none, none, false, .st 1 (.t 53) (.t 52), [52, 53]⟩])
(.reg [⟨(some 54), none, false, .mov (.t 5), [5]⟩,
 ⟨(some 55), none, false, .bin .sub (.t 54) (.k (intV 1)), [54]⟩,
 ⟨(some 5), none, false, .mov (.t 55), [55]⟩]))))))
def c_ref45_Rows_L1 : ACode := (.seq (.seq (.reg [⟨(some 7), none, false, .mov (.t 4), []⟩,
 ⟨(some 8), none, false, .mov (.t 0), []⟩,
 ⟨(some 9), none, false, .len (.t 8), [8]⟩,
 ⟨(some 10), none, false, .bin .lss (.t 7) (.t 9), [7, 9]⟩])
(.cond (.t 10)
(.skip)
(.exit 0)))
(.seq (.block 1 (.seq (.reg [⟨(some 13), none, false, .mov (.t 3), [10]⟩,
 ⟨(some 14), none, false, .len (.t 13), [13]⟩,
 ⟨(some 5), none, false, .mov (.t 14), [14]⟩])
(.seq (.reg [⟨(some 15), none, false, .mov (.t 3), [3]⟩,
 ⟨(some 16), none, false, .mov (.t 0), []⟩,
 ⟨(some 17), none, false, .mov (.t 4), []⟩,
 ⟨(some 18), none, false, .ia 1 (.t 16) (.t 17), [16, 17]⟩,
 ⟨(some 19), none, false, .ld false 1 (.t 18), [18]⟩,
 ⟨(some 20), none, false, .lits 1 [(.t 19)], [19]⟩,
 ⟨(some 21), none, false, .app 1 24 (.t 15) (.t 20), [15, 20]⟩,
 ⟨(some 3), none, false, .mov (.t 21), [21]⟩])
(.block 2 (.loop [0, 3, 4, 5] c_ref45_Rows_L0)))))
(.reg [⟨(some 11), none, false, .mov (.t 4), [4, 5, 36, 10]⟩,
 ⟨(some 12), none, false, .bin .add (.t 11) (.k (intV 1)), [11]⟩,
 ⟨(some 4), none, false, .mov (.t 12), [12]⟩])))
def c_ref45_Rows : AFun := ⟨.seq (.reg [⟨(some 2), none, false, .mov (.k (.w (.c .nil))), [2]⟩])
(.seq (.reg [⟨(some 3), none, false, .mov (.k (.w (.c .nil))), []⟩])
(.seq (.seq (.reg [⟨(some 4), none, false, .mov (.k (intV 0)), []⟩])
(.block 0 (.loop [0, 3, 4] c_ref45_Rows_L1)))
(.seq (.reg [⟨(some 56), none, false, .mov (.t 3), [0, 3, 4]⟩,
 ⟨(some 2), none, false, .mov (.t 56), [56]⟩])
(.ret)))),
 [.tmp 2]⟩
def o_ref45_Rows : List (Nat × List Nat) := [(7, [0, 1, 2, 3, 4, 5, 6, 7, 8, 9, 10, 11, 12, 13, 14])]
theorem c_ref45_Rows_ok : cFun Tryz.prog o_ref45_Rows 15 = some c_ref45_Rows.erase := by kernel_rfl

/- law45_numbers -/
def c_law45_numbers_L0 : ACode := (.seq (.seq (.reg [⟨(some 8), none, false, .mov (.t 4), []⟩,
 ⟨(some 9), none, false, .mov (.t 0), []⟩,
 ⟨(some 10), none, false, .len (.t 9), [9]⟩,
 ⟨(some 11), none, false, .bin .lss (.t 8) (.t 10), [8, 10]⟩])
(.cond (.t 11)
(.skip)
(.exit 0)))
(.seq (.block 1 (.reg [⟨(some 14), none, false, .fa 1 (.t 3), [11]⟩,
 ⟨(some 15), none, false, .ld false 1 (.t 14), [14]⟩,
 ⟨(some 16), none, false, .mov (.t 0), []⟩,
 ⟨(some 17), none, false, .mov (.t 4), []⟩,
 ⟨(some 18), none, false, .ia 1 (.t 16) (.t 17), [16, 17]⟩,
 ⟨(some 19), none, false, .ld false 1 (.t 18), [18]⟩,
 ⟨(some 20), none, false, .build [(.d (.lit (.int .i64 0))), (.d (.lit (.int .i64 0))), (.d (.lit (.string ⟨#[]⟩)))] [(0, 1, (.k (intV 2))), (1, 1, (.t 19))], [19]⟩,
 ⟨(some 21), none, false, .lits 3 [(.t 20)], [20]⟩,
 ⟨(some 22), none, false, .lits 1 [(.t 21)], [21]⟩,
 ⟨(some 23), none, false, .app 1 24 (.t 15) (.t 22), [15, 22]⟩,
 ⟨(some 24), none, false, .fa 1 (.t 3), []⟩,
 ⟨none, none, false, .st 1 (.t 24) (.t 23), [23, 24]⟩]))
(.reg [⟨(some 12), none, false, .mov (.t 4), [4, 11]⟩,
 ⟨(some 13), none, false, .bin .add (.t 12) (.k (intV 1)), [12]⟩,
 ⟨(some 4), none, false, .mov (.t 13), [13]⟩])))
def c_law45_numbers : AFun := ⟨.seq (.reg [⟨(some 2), none, false, .alloc [.nil, .nil], []⟩])
(.seq (.reg [⟨(some 5), none, false, .build [(.d (.lit (.string ⟨#[]⟩))), (.d (.lit (.int .i64 0)))] [(0, 1, (.k (.w (.c (.d (.lit (.string ⟨#[110]⟩))))))), (1, 1, (.k (intV 2)))], []⟩,
 ⟨(some 6), none, false, .lits 2 [(.t 5)], [5]⟩,
 ⟨(some 7), none, false, .build [.nil, .nil] [(0, 1, (.t 6))], [6]⟩,
 ⟨(some 3), none, false, .alloc [.nil, .nil], []⟩,
 ⟨none, none, false, .st 2 (.t 3) (.t 7), [7]⟩])
(.seq (.seq (.reg [⟨(some 4), none, false, .mov (.k (intV 0)), []⟩])
(.block 0 (.loop [0, 2, 3, 4] c_law45_numbers_L0)))
(.seq (.reg [⟨(some 25), none, false, .ld true 2 (.t 3), [0, 3, 4]⟩,
 ⟨none, none, false, .st 2 (.t 2) (.t 25), [25]⟩])
(.ret)))),
 [.cell 2 true 2]⟩
def o_law45_numbers : List (Nat × List Nat) := [(5, [0, 1, 2, 3, 4, 5, 6, 7, 8, 9, 10, 11])]
theorem c_law45_numbers_ok : cFun Tryz.prog o_law45_numbers 16 = some c_law45_numbers.erase := by kernel_rfl

/- delta_Linear -/
def c_delta_Linear : AFun := ⟨.seq (.reg [⟨(some 2), none, false, .bx (.t 0), [0]⟩,
 ⟨(some 3), none, false, .bx (.t 1), [1]⟩,
 ⟨(some 4), none, false, .mov (.k (boolV false)), [4]⟩])
(.seq (.seq (.reg [⟨(some 5), none, false, .ld true 2 (.t 2), []⟩,
 ⟨(some 6), none, false, .call 35 [(.t 5)], [5]⟩,
 ⟨(some 7), none, false, .bin .neq (.t 6) (.k (intV 0)), [6]⟩,
 ⟨(some 8), none, true, .mov (.t 7), [7]⟩,
 ⟨(some 9), (some (8, false)), false, .fa 0 (.t 2), []⟩,
 ⟨(some 10), (some (8, false)), false, .ld false 1 (.t 9), [9]⟩,
 ⟨(some 11), (some (8, false)), false, .ld false 1 (.t 3), []⟩,
 ⟨(some 12), (some (8, false)), false, .bin .neq (.t 10) (.t 11), [10, 11]⟩,
 ⟨(some 13), none, false, .pick (.t 8) (.k (boolV true)) (.t 12), [8, 12, 10, 11, 11, 10, 9, 9]⟩])
(.cond (.t 13)
(.seq (.reg [⟨(some 4), none, false, .mov (.k (boolV false)), [2, 3, 13]⟩])
(.ret))
(.skip)))
(.seq (.reg [⟨(some 14), none, false, .fa 1 (.t 2), [4, 2, 13]⟩,
 ⟨(some 15), none, false, .ld false 1 (.t 14), [14]⟩,
 ⟨(some 16), none, false, .clof 37 [(.t 3)], [3]⟩,
 ⟨(some 17), none, false, .call 36 [(.t 15), (.t 16)], [15, 16]⟩,
 ⟨(some 18), none, false, .bnot (.t 17), [17]⟩,
 ⟨(some 4), none, false, .mov (.t 18), [18]⟩])
(.ret))),
 [.tmp 4]⟩
def o_delta_Linear : List (Nat × List Nat) := [(1000003, [2])]
theorem c_delta_Linear_ok : cFun Tryz.prog o_delta_Linear 17 = some c_delta_Linear.erase := by kernel_rfl

/- ref39_FewCols -/
def c_ref39_FewCols_L0 : ACode := (.seq (.seq (.reg [⟨(some 4), none, false, .mov (.t 3), []⟩,
 ⟨(some 5), none, false, .mov (.t 0), []⟩,
 ⟨(some 6), none, false, .len (.t 5), [5]⟩,
 ⟨(some 7), none, false, .bin .lss (.t 4) (.t 6), [4, 6]⟩,
 ⟨(some 8), none, true, .mov (.t 7), [7]⟩,
 ⟨(some 9), (some (8, true)), false, .mov (.t 3), []⟩,
 ⟨(some 10), (some (8, true)), false, .bin .leq (.t 9) (.k (intV 40)), [9]⟩,
 ⟨(some 11), none, false, .pick (.t 8) (.t 10) (.k (boolV false)), [8, 10, 9, 9]⟩])
(.cond (.t 11)
(.skip)
(.exit 0)))
(.seq (.block 1 (.seq (.reg [⟨(some 14), none, false, .mov (.t 0), [11]⟩,
 ⟨(some 15), none, false, .mov (.t 3), []⟩,
 ⟨(some 16), none, false, .ia 2 (.t 14) (.t 15), [14, 15]⟩,
 ⟨(some 17), none, false, .fa 0 (.t 16), [16]⟩,
 ⟨(some 18), none, false, .ld false 1 (.t 17), [17]⟩,
 ⟨(some 19), none, false, .slen (.t 18), [18]⟩,
 ⟨(some 20), none, false, .bin .gtr (.t 19) (.k (intV 300)), [19]⟩])
(.cond (.t 20)
(.seq (.reg [⟨(some 2), none, false, .mov (.k (boolV false)), [0, 3, 20]⟩])
(.ret))
(.skip))))
(.reg [⟨(some 12), none, false, .mov (.t 3), [2, 3, 20, 11]⟩,
 ⟨(some 13), none, false, .bin .add (.t 12) (.k (intV 1)), [12]⟩,
 ⟨(some 3), none, false, .mov (.t 13), [13]⟩])))
def c_ref39_FewCols : AFun := ⟨.seq (.reg [⟨(some 2), none, false, .mov (.k (boolV false)), [2]⟩])
(.seq (.seq (.reg [⟨(some 3), none, false, .mov (.k (intV 0)), []⟩])
(.block 0 (.loop [0, 3] c_ref39_FewCols_L0)))
(.seq (.reg [⟨(some 21), none, false, .mov (.t 0), [0, 3]⟩,
 ⟨(some 22), none, false, .len (.t 21), [21]⟩,
 ⟨(some 23), none, false, .bin .leq (.t 22) (.k (intV 40)), [22]⟩,
 ⟨(some 2), none, false, .mov (.t 23), [23]⟩])
(.ret))),
 [.tmp 2]⟩
def o_ref39_FewCols : List (Nat × List Nat) := []
theorem c_ref39_FewCols_ok : cFun Tryz.prog o_ref39_FewCols 18 = some c_ref39_FewCols.erase := by kernel_rfl

/- table_Check -/
def c_table_Check_L0 : ACode := (.seq (.reg [⟨(some 25), none, false, .bin .lss (.t 24) (.t 23), []⟩])
(.seq (.cond (.t 25)
(.skip)
(.exit 0))
(.seq (.block 1 (.seq (.reg [⟨(some 26), none, false, .mov (.t 24), [25]⟩,
 ⟨(some 27), none, false, .ia 2 (.t 22) (.t 24), []⟩,
 ⟨(some 28), none, false, .ld true 2 (.t 27), [27]⟩,
 ⟨(some 4), none, false, .alloc [(.d (.lit (.string ⟨#[]⟩))), (.d (.lit (.int .i64 0)))], []⟩,
 ⟨(some 3), none, false, .mov (.t 26), [26]⟩,
 ⟨none, none, false, .st 2 (.t 4) (.t 28), [28]⟩])
(.seq (.seq (.reg [⟨(some 29), none, false, .fa 0 (.t 4), []⟩,
 ⟨(some 30), none, false, .ld false 1 (.t 29), [29]⟩,
 ⟨(some 31), none, false, .call 38 [(.t 30)], [30]⟩,
 ⟨(some 5), none, false, .mov (.t 31), [31]⟩])
(.seq (.reg [⟨(some 32), none, false, .mov (.t 5), []⟩,
 ⟨(some 33), none, false, .bin .neq (.t 32) (.k (intV 0)), [32]⟩])
(.cond (.t 33)
(.seq (.reg [⟨(some 34), none, false, .mov (.t 5), [1, 22, 23, 24, 4, 3, 5, 33]⟩,
 ⟨(some 2), none, false, .mov (.t 34), [34]⟩])
(.ret))
(.skip))))
(.seq (.seq (.reg [⟨(some 35), none, false, .fa 0 (.t 1), [2, 5, 33]⟩,
 ⟨(some 36), none, false, .ld false 1 (.t 35), [35]⟩,
 ⟨(some 37), none, false, .mov (.t 3), [3]⟩,
 ⟨(some 38), none, false, .sli 2 (.t 36) none (some (.t 37)), [36, 37]⟩,
 ⟨(some 39), none, false, .build [.nil, .nil] [(0, 1, (.t 38))], [38]⟩,
 ⟨(some 40), none, false, .fa 0 (.t 4), []⟩,
 ⟨(some 41), none, false, .ld false 1 (.t 40), [40]⟩,
 ⟨(some 42), none, false, .call 39 [(.t 39), (.t 41)], [39, 41]⟩,
 ⟨(some 43), none, false, .bin .geq (.t 42) (.k (intV 0)), [42]⟩])
(.cond (.t 43)
(.seq (.reg [⟨(some 2), none, false, .mov (.k (intV 4)), [1, 22, 23, 24, 4, 43]⟩])
(.ret))
(.skip)))
(.seq (.reg [⟨(some 44), none, false, .fa 1 (.t 4), [2, 43]⟩,
 ⟨(some 45), none, false, .ld false 1 (.t 44), [44]⟩,
 ⟨(some 46), none, false, .bin .neq (.t 45) (.k (intV 1)), [45]⟩,
 ⟨(some 47), none, true, .mov (.t 46), [46]⟩,
 ⟨(some 48), (some (47, true)), false, .fa 1 (.t 4), []⟩,
 ⟨(some 49), (some (47, true)), false, .ld false 1 (.t 48), [48]⟩,
 ⟨(some 50), (some (47, true)), false, .bin .neq (.t 49) (.k (intV 2)), [49]⟩,
 ⟨(some 51), none, false, .pick (.t 47) (.t 50) (.k (boolV false)), [47, 50, 49, 49, 48, 48]⟩,
 ⟨(some 52), none, true, .mov (.t 51), [51]⟩,
 ⟨(some 53), (some (52, true)), false, .fa 1 (.t 4), [4]⟩,
 ⟨(some 54), (some (52, true)), false, .ld false 1 (.t 53), [53]⟩,
 ⟨(some 55), (some (52, true)), false, .bin .neq (.t 54) (.k (intV 3)), [54]⟩,
 ⟨(some 56), none, false, .pick (.t 52) (.t 55) (.k (boolV false)), [52, 55, 54, 54, 53, 53, 4]⟩])
(.cond (.t 56)
(.seq (.reg [⟨(some 2), none, false, .mov (.k (intV 14)), [1, 22, 23, 24, 56]⟩])
(.ret))
(.skip)))))))
(.reg [⟨(some 57), none, false, .bin .add (.t 24) (.k (intV 1)), [2, 24, 56, 25]⟩,
 ⟨(some 24), none, false, .mov (.t 57), [57]⟩]))))
def c_table_Check_L1 : ACode := (.seq (.reg [⟨(some 74), none, false, .bin .lss (.t 73) (.t 72), []⟩])
(.seq (.cond (.t 74)
(.skip)
(.exit 4))
(.seq (.block 5 (.seq (.reg [⟨(some 75), none, false, .mov (.t 73), [74]⟩,
 ⟨(some 76), none, false, .ia 3 (.t 71) (.t 73), []⟩,
 ⟨(some 77), none, false, .ld true 3 (.t 76), [76]⟩,
 ⟨(some 9), none, false, .alloc [(.d (.lit (.int .i64 0))), (.d (.lit (.int .i64 0))), (.d (.lit (.string ⟨#[]⟩)))], []⟩,
 ⟨(some 8), none, false, .mov (.t 75), [75]⟩,
 ⟨none, none, false, .st 3 (.t 9) (.t 77), [77]⟩])
(.seq (.reg [⟨(some 78), none, false, .fa 0 (.t 1), []⟩,
 ⟨(some 79), none, false, .ld false 1 (.t 78), [78]⟩,
 ⟨(some 80), none, false, .mov (.t 8), [8]⟩,
 ⟨(some 81), none, false, .ia 2 (.t 79) (.t 80), [79, 80]⟩,
 ⟨(some 82), none, false, .fa 1 (.t 81), [81]⟩,
 ⟨(some 83), none, false, .ld false 1 (.t 82), [82]⟩,
 ⟨(some 84), none, false, .ld true 3 (.t 9), [9]⟩,
 ⟨(some 85), none, false, .call 40 [(.t 83), (.t 84)], [83, 84]⟩,
 ⟨(some 10), none, false, .mov (.t 85), [85]⟩])
(.seq (.reg [⟨(some 86), none, false, .mov (.t 10), []⟩,
 ⟨(some 87), none, false, .bin .neq (.t 86) (.k (intV 0)), [86]⟩])
(.cond (.t 87)
(.seq (.reg [⟨(some 88), none, false, .mov (.t 10), [1, 59, 60, 61, 71, 72, 73, 10, 87]⟩,
 ⟨(some 2), none, false, .mov (.t 88), [88]⟩])
(.ret))
(.skip))))))
(.reg [⟨(some 89), none, false, .bin .add (.t 73) (.k (intV 1)), [2, 73, 10, 87, 74]⟩,
 ⟨(some 73), none, false, .mov (.t 89), [89]⟩]))))
def c_table_Check_L2 : ACode := (.seq (.reg [⟨(some 62), none, false, .bin .lss (.t 61) (.t 60), []⟩])
(.seq (.cond (.t 62)
(.skip)
(.exit 2))
(.seq (.block 3 (.seq (.reg [⟨(some 63), none, false, .ia 1 (.t 59) (.t 61), [62]⟩,
 ⟨(some 64), none, false, .ld false 1 (.t 63), [63]⟩,
 ⟨(some 7), none, false, .mov (.t 64), [64]⟩])
(.seq (.seq (.reg [⟨(some 65), none, false, .mov (.t 7), []⟩,
 ⟨(some 66), none, false, .len (.t 65), [65]⟩,
 ⟨(some 67), none, false, .fa 0 (.t 1), []⟩,
 ⟨(some 68), none, false, .ld false 1 (.t 67), [67]⟩,
 ⟨(some 69), none, false, .len (.t 68), [68]⟩,
 ⟨(some 70), none, false, .bin .neq (.t 66) (.t 69), [66, 69]⟩])
(.cond (.t 70)
(.seq (.reg [⟨(some 2), none, false, .mov (.k (intV 10)), [1, 59, 60, 61, 7, 70]⟩])
(.ret))
(.skip)))
(.seq (.reg [⟨(some 71), none, false, .mov (.t 7), [2, 7, 70]⟩,
 ⟨(some 72), none, false, .len (.t 71), []⟩,
 ⟨(some 73), none, false, .mov (.k (intV 0)), []⟩])
(.block 4 (.loop [1, 59, 60, 61, 71, 72, 73] c_table_Check_L1))))))
(.reg [⟨(some 90), none, false, .bin .add (.t 61) (.k (intV 1)), [61, 71, 72, 73, 62]⟩,
 ⟨(some 61), none, false, .mov (.t 90), [90]⟩]))))
def c_table_Check : AFun := ⟨.seq (.reg [⟨(some 1), none, false, .bx (.t 0), [0]⟩,
 ⟨(some 2), none, false, .mov (.k (intV 0)), [2]⟩])
(.seq (.seq (.reg [⟨(some 11), none, false, .fa 0 (.t 1), []⟩,
 ⟨(some 12), none, false, .ld false 1 (.t 11), [11]⟩,
 ⟨(some 13), none, false, .len (.t 12), [12]⟩,
 ⟨(some 14), none, false, .bin .gtr (.t 13) (.k (intV 32)), [13]⟩,
 ⟨(some 15), none, true, .mov (.t 14), [14]⟩,
 ⟨(some 16), (some (15, false)), false, .fa 1 (.t 1), []⟩,
 ⟨(some 17), (some (15, false)), false, .ld false 1 (.t 16), [16]⟩,
 ⟨(some 18), (some (15, false)), false, .len (.t 17), [17]⟩,
 ⟨(some 19), (some (15, false)), false, .bin .gtr (.t 18) (.k (intV 20000)), [18]⟩,
 ⟨(some 20), none, false, .pick (.t 15) (.k (boolV true)) (.t 19), [15, 19, 18, 18, 17, 17, 16, 16]⟩])
(.cond (.t 20)
(.seq (.reg [⟨(some 2), none, false, .mov (.k (intV 7)), [1, 20]⟩])
(.ret))
(.skip)))
(.seq (.seq (.reg [⟨(some 21), none, false, .fa 0 (.t 1), [2, 20]⟩,
 ⟨(some 22), none, false, .ld false 1 (.t 21), [21]⟩,
 ⟨(some 23), none, false, .len (.t 22), []⟩,
 ⟨(some 24), none, false, .mov (.k (intV 0)), []⟩])
(.block 0 (.loop [1, 22, 23, 24] c_table_Check_L0)))
(.seq (.seq (.reg [⟨(some 58), none, false, .fa 1 (.t 1), [22, 23, 24]⟩,
 ⟨(some 59), none, false, .ld false 1 (.t 58), [58]⟩,
 ⟨(some 60), none, false, .len (.t 59), []⟩,
 ⟨(some 61), none, false, .mov (.k (intV 0)), []⟩])
(.block 2 (.loop [1, 59, 60, 61] c_table_Check_L2)))
(.seq (.reg [⟨(some 2), none, false, .mov (.k (intV 0)), [1, 59, 60, 61]⟩])
(.ret))))),
 [.tmp 2]⟩
def o_table_Check : List (Nat × List Nat) := [(9, [0, 1, 2, 3, 4, 5, 6, 7, 8]), (22, [0, 1, 2, 3, 4, 5, 6, 7, 8])]
theorem c_table_Check_ok : cFun Tryz.prog o_table_Check 19 = some c_table_Check.erase := by kernel_rfl

/- slices_Equal_Column -/
def c_slices_Equal_Column_L0 : ACode := (.seq (.reg [⟨(some 14), none, false, .bin .lss (.t 13) (.t 12), []⟩])
(.seq (.cond (.t 14)
(.skip)
(.exit 0))
(.seq (.block 1 (.seq (.reg [⟨(some 15), none, false, .mov (.t 13), [14]⟩,
 ⟨(some 5), none, false, .mov (.t 15), [15]⟩])
(.seq (.reg [⟨(some 16), none, false, .mov (.t 0), []⟩,
 ⟨(some 17), none, false, .mov (.t 5), []⟩,
 ⟨(some 18), none, false, .ia 2 (.t 16) (.t 17), [16, 17]⟩,
 ⟨(some 19), none, false, .ld true 2 (.t 18), [18]⟩,
 ⟨(some 20), none, false, .mov (.t 1), []⟩,
 ⟨(some 21), none, false, .mov (.t 5), [5]⟩,
 ⟨(some 22), none, false, .ia 2 (.t 20) (.t 21), [20, 21]⟩,
 ⟨(some 23), none, false, .ld true 2 (.t 22), [22]⟩,
 ⟨(some 24), none, false, .eqa true [1, 0] (.t 19) (.t 23), [19, 23]⟩])
(.cond (.t 24)
(.seq (.reg [⟨(some 4), none, false, .mov (.k (boolV false)), [0, 1, 12, 13, 24]⟩])
(.ret))
(.skip)))))
(.reg [⟨(some 25), none, false, .bin .add (.t 13) (.k (intV 1)), [4, 13, 24, 14]⟩,
 ⟨(some 13), none, false, .mov (.t 25), [25]⟩]))))
def c_slices_Equal_Column : AFun := ⟨.seq (.reg [⟨(some 4), none, false, .mov (.k (boolV false)), [4]⟩])
(.seq (.seq (.reg [⟨(some 6), none, false, .mov (.t 0), []⟩,
 ⟨(some 7), none, false, .len (.t 6), [6]⟩,
 ⟨(some 8), none, false, .mov (.t 1), []⟩,
 ⟨(some 9), none, false, .len (.t 8), [8]⟩,
 ⟨(some 10), none, false, .bin .neq (.t 7) (.t 9), [7, 9]⟩])
(.cond (.t 10)
(.seq (.reg [⟨(some 4), none, false, .mov (.k (boolV false)), [0, 1, 10]⟩])
(.ret))
(.skip)))
(.seq (.seq (.reg [⟨(some 11), none, false, .mov (.t 0), [4, 10]⟩,
 ⟨(some 12), none, false, .len (.t 11), [11]⟩,
 ⟨(some 13), none, false, .mov (.k (intV 0)), []⟩])
(.block 0 (.loop [0, 1, 12, 13] c_slices_Equal_Column_L0)))
(.seq (.reg [⟨(some 4), none, false, .mov (.k (boolV true)), [0, 1, 12, 13]⟩])
(.ret)))),
 [.tmp 4]⟩
def o_slices_Equal_Column : List (Nat × List Nat) := [(6, [0, 1, 2, 3, 4, 5, 6, 7, 8])]
theorem c_slices_Equal_Column_ok : cFun Tryz.prog o_slices_Equal_Column 20 = some c_slices_Equal_Column.erase := by kernel_rfl

/- delta_summed -/
def c_delta_summed_L0 : ACode := (.seq (.reg [⟨(some 19), none, false, .bin .lss (.t 18) (.t 17), []⟩])
(.seq (.cond (.t 19)
(.skip)
(.exit 0))
(.seq (.block 1 (.seq (.reg [⟨(some 20), none, false, .ia 2 (.t 16) (.t 18), [19]⟩,
 ⟨(some 21), none, false, .ld true 2 (.t 20), [20]⟩,
 ⟨(some 8), none, false, .alloc [.nil, (.d (.lit (.int .i64 0)))], []⟩,
 ⟨none, none, false, .st 2 (.t 8) (.t 21), [21]⟩])
(.seq (.reg [⟨(some 22), none, false, .mov (.t 6), []⟩,
 ⟨(some 23), none, false, .len (.t 22), [22]⟩,
 ⟨(some 9), none, false, .mov (.t 23), [23]⟩])
(.seq (.reg [⟨(some 24), none, false, .mov (.t 9), []⟩,
 ⟨(some 25), none, false, .bin .gtr (.t 24) (.k (intV 0)), [24]⟩,
 ⟨(some 26), none, true, .mov (.t 25), [25]⟩,
 ⟨(some 27), (some (26, true)), false, .mov (.t 6), []⟩,
 ⟨(some 28), (some (26, true)), false, .mov (.t 9), []⟩,
 ⟨(some 29), (some (26, true)), false, .bin .sub (.t 28) (.k (intV 1)), [28]⟩,
 ⟨(some 30), (some (26, true)), false, .ia 2 (.t 27) (.t 29), [27, 29]⟩,
 ⟨(some 31), (some (26, true)), false, .fa 0 (.t 30), [30]⟩,
 ⟨(some 32), (some (26, true)), false, .ld false 1 (.t 31), [31]⟩,
 ⟨(some 33), (some (26, true)), false, .fa 0 (.t 8), []⟩,
 ⟨(some 34), (some (26, true)), false, .ld false 1 (.t 33), [33]⟩,
 ⟨(some 35), (some (26, true)), false, .call 28 [(.t 32), (.t 34)], [32, 34]⟩,
 ⟨(some 36), (some (26, true)), false, .bin .eql (.t 35) (.k (intV 0)), [35]⟩,
 ⟨(some 37), none, false, .pick (.t 26) (.t 36) (.k (boolV false)), [26, 36, 35, 35, 32, 34, 34, 33, 33, 32, 31, 31, 30, 30, 27, 29, 29, 28, 28, 27]⟩])
(.cond (.t 37)
(.reg [⟨(some 38), none, false, .mov (.t 6), [37]⟩,
 ⟨(some 39), none, false, .mov (.t 9), [9]⟩,
 ⟨(some 40), none, false, .bin .sub (.t 39) (.k (intV 1)), [39]⟩,
 ⟨(some 41), none, false, .ia 2 (.t 38) (.t 40), []⟩,
 ⟨(some 42), none, false, .fa 1 (.t 41), [41]⟩,
 ⟨(some 43), none, false, .ld false 1 (.t 42), [42]⟩,
 ⟨(some 44), none, false, .fa 1 (.t 8), [8]⟩,
 ⟨(some 45), none, false, .ld false 1 (.t 44), [44]⟩,
 ⟨(some 46), none, false, .bin .add (.t 43) (.t 45), [43, 45]⟩,
 ⟨(some 47), none, false, .ia 2 (.t 38) (.t 40), [38, 40]⟩,
 ⟨(some 48), none, false, .fa 1 (.t 47), [47]⟩,
 ⟨none, none, false, .st 1 (.t 48) (.t 46), [46, 48]⟩])
(.reg [⟨(some 49), none, false, .mov (.t 6), [6, 9, 37]⟩,
 ⟨(some 50), none, false, .ld true 2 (.t 8), [8]⟩,
 ⟨(some 51), none, false, .lits 2 [(.t 50)], [50]⟩,
 ⟨(some 52), none, false, .app 2 32 (.t 49) (.t 51), [49, 51]⟩,
 ⟨(some 6), none, false, .mov (.t 52), [52]⟩]))))))
(.reg [⟨(some 53), none, false, .bin .add (.t 18) (.k (intV 1)), [18, 19]⟩,
 ⟨(some 18), none, false, .mov (.t 53), [53]⟩]))))
def c_delta_summed : AFun := ⟨.seq (.reg [⟨(some 4), none, false, .mov (.k (.w (.c .nil))), [4]⟩])
(.seq (.reg [⟨(some 10), none, false, .mov (.t 0), [0]⟩,
 ⟨(some 11), none, false, .mov (.t 1), [1]⟩,
 ⟨(some 12), none, false, .lits 1 [(.t 10), (.t 11)], [10, 11]⟩,
 ⟨(some 13), none, false, .call 41 [(.t 12)], [12]⟩,
 ⟨(some 5), none, false, .mov (.t 13), [13]⟩])
(.seq (.reg [⟨(some 14), none, false, .mov (.t 5), []⟩,
 ⟨(some 15), none, false, .callh 42 [(.t 14), (.k (.w (.c (.clo 43 []))))], [14, 15]⟩])
(.seq (.reg [⟨(some 6), none, false, .mov (.k (.w (.c .nil))), []⟩])
(.seq (.seq (.reg [⟨(some 16), none, false, .mov (.t 5), [5]⟩,
 ⟨(some 17), none, false, .len (.t 16), []⟩,
 ⟨(some 18), none, false, .mov (.k (intV 0)), []⟩])
(.block 0 (.loop [6, 16, 17, 18] c_delta_summed_L0)))
(.seq (.reg [⟨(some 54), none, false, .mov (.t 6), [6, 16, 17, 18]⟩,
 ⟨(some 55), none, false, .callh 44 [(.t 54), (.k (.w (.c (.clo 45 []))))], [54]⟩,
 ⟨(some 4), none, false, .mov (.t 55), [55]⟩])
(.ret)))))),
 [.tmp 4]⟩
def o_delta_summed : List (Nat × List Nat) := [(1000002, [1]), (8, [0, 1, 2, 3, 4, 5, 6, 7, 8, 9, 10, 11, 12, 13]), (9, [0, 1, 2, 3, 4, 5, 6, 7, 8, 9, 10, 11]), (1000012, [1])]
theorem c_delta_summed_ok : cFun Tryz.prog o_delta_summed 21 = some c_delta_summed.erase := by kernel_rfl

/- delta_counted -/
def c_delta_counted_L0 : ACode := (.seq (.reg [⟨(some 16), none, false, .bin .lss (.t 15) (.t 14), []⟩])
(.seq (.cond (.t 16)
(.skip)
(.exit 0))
(.seq (.block 1 (.seq (.reg [⟨(some 17), none, false, .ia 1 (.t 13) (.t 15), [16]⟩,
 ⟨(some 18), none, false, .ld false 1 (.t 17), [17]⟩,
 ⟨(some 8), none, false, .mov (.t 18), [18]⟩])
(.seq (.reg [⟨(some 19), none, false, .mov (.t 6), []⟩,
 ⟨(some 20), none, false, .len (.t 19), [19]⟩,
 ⟨(some 9), none, false, .mov (.t 20), [20]⟩])
(.seq (.reg [⟨(some 21), none, false, .mov (.t 9), []⟩,
 ⟨(some 22), none, false, .bin .gtr (.t 21) (.k (intV 0)), [21]⟩,
 ⟨(some 23), none, true, .mov (.t 22), [22]⟩,
 ⟨(some 24), (some (23, true)), false, .mov (.t 6), []⟩,
 ⟨(some 25), (some (23, true)), false, .mov (.t 9), []⟩,
 ⟨(some 26), (some (23, true)), false, .bin .sub (.t 25) (.k (intV 1)), [25]⟩,
 ⟨(some 27), (some (23, true)), false, .ia 2 (.t 24) (.t 26), [24, 26]⟩,
 ⟨(some 28), (some (23, true)), false, .fa 0 (.t 27), [27]⟩,
 ⟨(some 29), (some (23, true)), false, .ld false 1 (.t 28), [28]⟩,
 ⟨(some 30), (some (23, true)), false, .mov (.t 8), []⟩,
 ⟨(some 31), (some (23, true)), false, .call 28 [(.t 29), (.t 30)], [29, 30]⟩,
 ⟨(some 32), (some (23, true)), false, .bin .eql (.t 31) (.k (intV 0)), [31]⟩,
 ⟨(some 33), none, false, .pick (.t 23) (.t 32) (.k (boolV false)), [23, 32, 31, 31, 29, 30, 30, 29, 28, 28, 27, 27, 24, 26, 26, 25, 25, 24]⟩])
(.cond (.t 33)
(.reg [⟨(some 34), none, false, .mov (.t 6), [8, 33]⟩,
 ⟨(some 35), none, false, .mov (.t 9), [9]⟩,
 ⟨(some 36), none, false, .bin .sub (.t 35) (.k (intV 1)), [35]⟩,
 ⟨(some 37), none, false, .ia 2 (.t 34) (.t 36), []⟩,
 ⟨(some 38), none, false, .fa 1 (.t 37), [37]⟩,
 ⟨(some 39), none, false, .ld false 1 (.t 38), [38]⟩,
 ⟨(some 40), none, false, .mov (.t 1), []⟩,
 ⟨(some 41), none, false, .bin .add (.t 39) (.t 40), [39, 40]⟩,
 ⟨(some 42), none, false, .ia 2 (.t 34) (.t 36), [34, 36]⟩,
 ⟨(some 43), none, false, .fa 1 (.t 42), [42]⟩,
 ⟨none, none, false, .st 1 (.t 43) (.t 41), [41, 43]⟩])
(.reg [⟨(some 44), none, false, .mov (.t 6), [6, 9, 33]⟩,
 ⟨(some 45), none, false, .mov (.t 8), [8]⟩,
 ⟨(some 46), none, false, .mov (.t 1), []⟩,
 ⟨(some 47), none, false, .build [.nil, (.d (.lit (.int .i64 0)))] [(0, 1, (.t 45)), (1, 1, (.t 46))], [45, 46]⟩,
 ⟨(some 48), none, false, .lits 2 [(.t 47)], [47]⟩,
 ⟨(some 49), none, false, .app 2 32 (.t 44) (.t 48), [44, 48]⟩,
 ⟨(some 6), none, false, .mov (.t 49), [49]⟩]))))))
(.reg [⟨(some 50), none, false, .bin .add (.t 15) (.k (intV 1)), [15, 16]⟩,
 ⟨(some 15), none, false, .mov (.t 50), [50]⟩]))))
def c_delta_counted : AFun := ⟨.seq (.reg [⟨(some 4), none, false, .mov (.k (.w (.c .nil))), [4]⟩])
(.seq (.reg [⟨(some 10), none, false, .mov (.t 0), [0]⟩,
 ⟨(some 11), none, false, .call 47 [(.t 10)], [10]⟩,
 ⟨(some 12), none, false, .callh 46 [(.t 11), (.k (.w (.c (.clo 28 []))))], [11]⟩,
 ⟨(some 5), none, false, .mov (.t 12), [12]⟩])
(.seq (.reg [⟨(some 6), none, false, .mov (.k (.w (.c .nil))), []⟩])
(.seq (.seq (.reg [⟨(some 13), none, false, .mov (.t 5), [5]⟩,
 ⟨(some 14), none, false, .len (.t 13), []⟩,
 ⟨(some 15), none, false, .mov (.k (intV 0)), []⟩])
(.block 0 (.loop [1, 6, 13, 14, 15] c_delta_counted_L0)))
(.seq (.reg [⟨(some 51), none, false, .mov (.t 6), [1, 6, 13, 14, 15]⟩,
 ⟨(some 4), none, false, .mov (.t 51), [51]⟩])
(.ret))))),
 [.tmp 4]⟩
def o_delta_counted : List (Nat × List Nat) := [(1000001, [2])]
theorem c_delta_counted_ok : cFun Tryz.prog o_delta_counted 22 = some c_delta_counted.erase := by kernel_rfl

/- ref34_Check -/
def c_ref34_Check_L0 : ACode := (.seq (.seq (.reg [⟨(some 19), none, false, .mov (.t 3), []⟩,
 ⟨(some 20), none, false, .fa 0 (.t 1), []⟩,
 ⟨(some 21), none, false, .ld false 1 (.t 20), [20]⟩,
 ⟨(some 22), none, false, .len (.t 21), [21]⟩,
 ⟨(some 23), none, false, .bin .lss (.t 19) (.t 22), [19, 22]⟩])
(.cond (.t 23)
(.skip)
(.exit 0)))
(.seq (.block 1 (.seq (.reg [⟨(some 26), none, false, .fa 0 (.t 1), [23]⟩,
 ⟨(some 27), none, false, .ld false 1 (.t 26), [26]⟩,
 ⟨(some 28), none, false, .mov (.t 3), []⟩,
 ⟨(some 29), none, false, .ia 2 (.t 27) (.t 28), [27, 28]⟩,
 ⟨(some 30), none, false, .ld true 2 (.t 29), [29]⟩,
 ⟨(some 4), none, false, .alloc [(.d (.lit (.string ⟨#[]⟩))), (.d (.lit (.int .i64 0)))], []⟩,
 ⟨none, none, false, .st 2 (.t 4) (.t 30), [30]⟩])
(.seq (.reg [⟨(some 31), none, false, .fa 0 (.t 4), []⟩,
 ⟨(some 32), none, false, .ld false 1 (.t 31), [31]⟩,
 ⟨(some 33), none, false, .call 48 [(.t 32)], [32]⟩,
 ⟨(some 5), none, false, .mov (.t 33), [33]⟩])
(.block 2 (.seq (.reg [⟨(some 35), none, false, .mov (.t 5), []⟩,
 ⟨(some 36), none, false, .bin .neq (.t 35) (.k (intV 0)), [35]⟩,
 ⟨(some 34), none, false, .mov (.t 36), [36]⟩])
(.cond (.t 34)
(.seq (.reg [⟨(some 37), none, false, .mov (.t 5), [1, 3, 4, 5, 34]⟩,
 ⟨(some 2), none, false, .mov (.t 37), [37]⟩])
(.ret))
(.seq (.reg [⟨(some 39), none, false, .ld true 2 (.t 1), [5, 34]⟩,
 ⟨(some 40), none, false, .fa 0 (.t 4), []⟩,
 ⟨(some 41), none, false, .ld false 1 (.t 40), [40]⟩,
 ⟨(some 42), none, false, .call 49 [(.t 39), (.t 41)], [39, 41]⟩,
 ⟨(some 43), none, false, .mov (.t 3), []⟩,
 ⟨(some 44), none, false, .bin .lss (.t 42) (.t 43), [42, 43]⟩,
 ⟨(some 38), none, false, .mov (.t 44), [44]⟩])
(.cond (.t 38)
(.seq (.reg [⟨(some 2), none, false, .mov (.k (intV 4)), [1, 3, 4, 38]⟩])
(.ret))
(.seq (.reg [⟨(some 46), none, false, .fa 1 (.t 4), [38]⟩,
 ⟨(some 47), none, false, .ld false 1 (.t 46), [46]⟩,
 ⟨(some 48), none, false, .bin .neq (.t 47) (.k (intV 1)), [47]⟩,
 ⟨(some 49), none, true, .mov (.t 48), [48]⟩,
 ⟨(some 50), (some (49, true)), false, .fa 1 (.t 4), []⟩,
 ⟨(some 51), (some (49, true)), false, .ld false 1 (.t 50), [50]⟩,
 ⟨(some 52), (some (49, true)), false, .bin .neq (.t 51) (.k (intV 2)), [51]⟩,
 ⟨(some 53), none, false, .pick (.t 49) (.t 52) (.k (boolV false)), [49, 52, 51, 51, 50, 50]⟩,
 ⟨(some 54), none, true, .mov (.t 53), [53]⟩,
 ⟨(some 55), (some (54, true)), false, .fa 1 (.t 4), [4]⟩,
 ⟨(some 56), (some (54, true)), false, .ld false 1 (.t 55), [55]⟩,
 ⟨(some 57), (some (54, true)), false, .bin .neq (.t 56) (.k (intV 3)), [56]⟩,
 ⟨(some 58), none, false, .pick (.t 54) (.t 57) (.k (boolV false)), [54, 57, 56, 56, 55, 55, 4]⟩,
 ⟨(some 45), none, false, .mov (.t 58), [58]⟩])
(.cond (.t 45)
(.seq (.reg [⟨(some 2), none, false, .mov (.k (intV 14)), [1, 3, 45]⟩])
(.ret))
(.skip)))))))))))
(.reg [⟨(some 24), none, false, .mov (.t 3), [2, 3, 45, 4, 5, 23]⟩,
 ⟨(some 25), none, false, .bin .add (.t 24) (.k (intV 1)), [24]⟩,
 ⟨(some 3), none, false, .mov (.t 25), [25]⟩])))
def c_ref34_Check_L1 : ACode := (.seq (.seq (.reg [⟨(some 76), none, false, .mov (.t 7), []⟩,
 ⟨(some 77), none, false, .fa 0 (.t 1), []⟩,
 ⟨(some 78), none, false, .ld false 1 (.t 77), [77]⟩,
 ⟨(some 79), none, false, .len (.t 78), [78]⟩,
 ⟨(some 80), none, false, .bin .lss (.t 76) (.t 79), [76, 79]⟩])
(.cond (.t 80)
(.skip)
(.exit 5)))
(.seq (.block 6 (.seq (.reg [⟨(some 83), none, false, .fa 0 (.t 1), [80]⟩,
 ⟨(some 84), none, false, .ld false 1 (.t 83), [83]⟩,
 ⟨(some 85), none, false, .mov (.t 7), []⟩,
 ⟨(some 86), none, false, .ia 2 (.t 84) (.t 85), [84, 85]⟩,
 ⟨(some 87), none, false, .fa 1 (.t 86), [86]⟩,
 ⟨(some 88), none, false, .ld false 1 (.t 87), [87]⟩,
 ⟨(some 89), none, false, .fa 1 (.t 1), []⟩,
 ⟨(some 90), none, false, .ld false 1 (.t 89), [89]⟩,
 ⟨(some 91), none, false, .mov (.t 6), []⟩,
 ⟨(some 92), none, false, .ia 1 (.t 90) (.t 91), [90, 91]⟩,
 ⟨(some 93), none, false, .ld false 1 (.t 92), [92]⟩,
 ⟨(some 94), none, false, .mov (.t 7), []⟩,
 ⟨(some 95), none, false, .ia 3 (.t 93) (.t 94), [93, 94]⟩,
 ⟨(some 96), none, false, .ld true 3 (.t 95), [95]⟩,
 ⟨(some 97), none, false, .call 50 [(.t 88), (.t 96)], [88, 96]⟩,
 ⟨(some 8), none, false, .mov (.t 97), [97]⟩])
(.seq (.reg [⟨(some 98), none, false, .mov (.t 8), []⟩,
 ⟨(some 99), none, false, .bin .neq (.t 98) (.k (intV 0)), [98]⟩])
(.cond (.t 99)
(.seq (.reg [⟨(some 100), none, false, .mov (.t 8), [1, 6, 7, 8, 99]⟩,
 ⟨(some 2), none, false, .mov (.t 100), [100]⟩])
(.ret))
(.skip)))))
(.reg [⟨(some 81), none, false, .mov (.t 7), [2, 7, 8, 99, 80]⟩,
 ⟨(some 82), none, false, .bin .add (.t 81) (.k (intV 1)), [81]⟩,
 ⟨(some 7), none, false, .mov (.t 82), [82]⟩])))
def c_ref34_Check_L2 : ACode := (.seq (.seq (.reg [⟨(some 59), none, false, .mov (.t 6), []⟩,
 ⟨(some 60), none, false, .fa 1 (.t 1), []⟩,
 ⟨(some 61), none, false, .ld false 1 (.t 60), [60]⟩,
 ⟨(some 62), none, false, .len (.t 61), [61]⟩,
 ⟨(some 63), none, false, .bin .lss (.t 59) (.t 62), [59, 62]⟩])
(.cond (.t 63)
(.skip)
(.exit 3)))
(.seq (.block 4 (.seq (.seq (.reg [⟨(some 66), none, false, .fa 1 (.t 1), [63]⟩,
 ⟨(some 67), none, false, .ld false 1 (.t 66), [66]⟩,
 ⟨(some 68), none, false, .mov (.t 6), []⟩,
 ⟨(some 69), none, false, .ia 1 (.t 67) (.t 68), [67, 68]⟩,
 ⟨(some 70), none, false, .ld false 1 (.t 69), [69]⟩,
 ⟨(some 71), none, false, .len (.t 70), [70]⟩,
 ⟨(some 72), none, false, .fa 0 (.t 1), []⟩,
 ⟨(some 73), none, false, .ld false 1 (.t 72), [72]⟩,
 ⟨(some 74), none, false, .len (.t 73), [73]⟩,
 ⟨(some 75), none, false, .bin .neq (.t 71) (.t 74), [71, 74]⟩])
(.cond (.t 75)
(.seq (.reg [⟨(some 2), none, false, .mov (.k (intV 10)), [1, 6, 75]⟩])
(.ret))
(.skip)))
(.seq (.reg [⟨(some 7), none, false, .mov (.k (intV 0)), [2, 75]⟩])
(.block 5 (.loop [1, 6, 7] c_ref34_Check_L1)))))
(.reg [⟨(some 64), none, false, .mov (.t 6), [6, 7, 63]⟩,
 ⟨(some 65), none, false, .bin .add (.t 64) (.k (intV 1)), [64]⟩,
 ⟨(some 6), none, false, .mov (.t 65), [65]⟩])))
def c_ref34_Check : AFun := ⟨.seq (.reg [⟨(some 1), none, false, .bx (.t 0), [0]⟩,
 ⟨(some 2), none, false, .mov (.k (intV 0)), [2]⟩])
(.seq (.seq (.reg [⟨(some 9), none, false, .fa 0 (.t 1), []⟩,
 ⟨(some 10), none, false, .ld false 1 (.t 9), [9]⟩,
 ⟨(some 11), none, false, .len (.t 10), [10]⟩,
 ⟨(some 12), none, false, .bin .gtr (.t 11) (.k (intV 32)), [11]⟩,
 ⟨(some 13), none, true, .mov (.t 12), [12]⟩,
 ⟨(some 14), (some (13, false)), false, .fa 1 (.t 1), []⟩,
 ⟨(some 15), (some (13, false)), false, .ld false 1 (.t 14), [14]⟩,
 ⟨(some 16), (some (13, false)), false, .len (.t 15), [15]⟩,
 ⟨(some 17), (some (13, false)), false, .bin .gtr (.t 16) (.k (intV 20000)), [16]⟩,
 ⟨(some 18), none, false, .pick (.t 13) (.k (boolV true)) (.t 17), [13, 17, 16, 16, 15, 15, 14, 14]⟩])
(.cond (.t 18)
(.seq (.reg [⟨(some 2), none, false, .mov (.k (intV 7)), [1, 18]⟩])
(.ret))
(.skip)))
(.seq (.seq (.reg [⟨(some 3), none, false, .mov (.k (intV 0)), [2, 18]⟩])
(.block 0 (.loop [1, 3] c_ref34_Check_L0)))
(.seq (.seq (.reg [⟨(some 6), none, false, .mov (.k (intV 0)), [3]⟩])
(.block 3 (.loop [1, 6] c_ref34_Check_L2)))
(.seq (.reg [⟨(some 2), none, false, .mov (.k (intV 0)), [1, 6]⟩])
(.ret))))),
 [.tmp 2]⟩
def o_ref34_Check : List (Nat × List Nat) := [(17, [0, 1, 2, 3, 4, 5, 6, 7, 8, 9]), (22, [0, 1, 2, 3, 4, 5, 6, 7, 8, 9, 10, 11, 12, 13, 14, 15])]
theorem c_ref34_Check_ok : cFun Tryz.prog o_ref34_Check 23 = some c_ref34_Check.erase := by kernel_rfl

/- ref39_Same -/
def c_ref39_Same_L0 : ACode := (.seq (.seq (.reg [⟨(some 11), none, false, .mov (.t 5), []⟩,
 ⟨(some 12), none, false, .mov (.t 0), []⟩,
 ⟨(some 13), none, false, .len (.t 12), [12]⟩,
 ⟨(some 14), none, false, .bin .lss (.t 11) (.t 13), [11, 13]⟩])
(.cond (.t 14)
(.skip)
(.exit 0)))
(.seq (.block 1 (.seq (.reg [⟨(some 17), none, false, .mov (.t 0), [14]⟩,
 ⟨(some 18), none, false, .mov (.t 5), []⟩,
 ⟨(some 19), none, false, .ia 2 (.t 17) (.t 18), [17, 18]⟩,
 ⟨(some 20), none, false, .ld true 2 (.t 19), [19]⟩,
 ⟨(some 21), none, false, .mov (.t 1), []⟩,
 ⟨(some 22), none, false, .mov (.t 5), []⟩,
 ⟨(some 23), none, false, .ia 2 (.t 21) (.t 22), [21, 22]⟩,
 ⟨(some 24), none, false, .ld true 2 (.t 23), [23]⟩,
 ⟨(some 25), none, false, .eqa true [1, 0] (.t 20) (.t 24), [20, 24]⟩])
(.cond (.t 25)
(.seq (.reg [⟨(some 4), none, false, .mov (.k (boolV false)), [0, 1, 5, 25]⟩])
(.ret))
(.skip))))
(.reg [⟨(some 15), none, false, .mov (.t 5), [4, 5, 25, 14]⟩,
 ⟨(some 16), none, false, .bin .add (.t 15) (.k (intV 1)), [15]⟩,
 ⟨(some 5), none, false, .mov (.t 16), [16]⟩])))
def c_ref39_Same : AFun := ⟨.seq (.reg [⟨(some 4), none, false, .mov (.k (boolV false)), [4]⟩])
(.seq (.seq (.reg [⟨(some 6), none, false, .mov (.t 0), []⟩,
 ⟨(some 7), none, false, .len (.t 6), [6]⟩,
 ⟨(some 8), none, false, .mov (.t 1), []⟩,
 ⟨(some 9), none, false, .len (.t 8), [8]⟩,
 ⟨(some 10), none, false, .bin .neq (.t 7) (.t 9), [7, 9]⟩])
(.cond (.t 10)
(.seq (.reg [⟨(some 4), none, false, .mov (.k (boolV false)), [0, 1, 10]⟩])
(.ret))
(.skip)))
(.seq (.seq (.reg [⟨(some 5), none, false, .mov (.k (intV 0)), [4, 10]⟩])
(.block 0 (.loop [0, 1, 5] c_ref39_Same_L0)))
(.seq (.reg [⟨(some 4), none, false, .mov (.k (boolV true)), [0, 1, 5]⟩])
(.ret)))),
 [.tmp 4]⟩
def o_ref39_Same : List (Nat × List Nat) := [(6, [0, 1, 2, 3, 4, 5, 6, 7, 8])]
theorem c_ref39_Same_ok : cFun Tryz.prog o_ref39_Same 24 = some c_ref39_Same.erase := by kernel_rfl

/- ref42_Compare -/
def c_ref42_Compare_L0 : ACode := (.seq (.seq (.reg [⟨(some 7), none, false, .mov (.t 5), []⟩,
 ⟨(some 8), none, false, .mov (.t 0), []⟩,
 ⟨(some 9), none, false, .len (.t 8), [8]⟩,
 ⟨(some 10), none, false, .bin .lss (.t 7) (.t 9), [7, 9]⟩,
 ⟨(some 11), none, true, .mov (.t 10), [10]⟩,
 ⟨(some 12), (some (11, true)), false, .mov (.t 5), []⟩,
 ⟨(some 13), (some (11, true)), false, .mov (.t 1), []⟩,
 ⟨(some 14), (some (11, true)), false, .len (.t 13), [13]⟩,
 ⟨(some 15), (some (11, true)), false, .bin .lss (.t 12) (.t 14), [12, 14]⟩,
 ⟨(some 16), none, false, .pick (.t 11) (.t 15) (.k (boolV false)), [11, 15, 12, 14, 14, 13, 13, 12]⟩])
(.cond (.t 16)
(.skip)
(.exit 0)))
(.seq (.block 1 (.seq (.reg [⟨(some 19), none, false, .mov (.t 0), [16]⟩,
 ⟨(some 20), none, false, .mov (.t 5), []⟩,
 ⟨(some 21), none, false, .ia 3 (.t 19) (.t 20), [19, 20]⟩,
 ⟨(some 22), none, false, .ld true 3 (.t 21), [21]⟩,
 ⟨(some 23), none, false, .mov (.t 1), []⟩,
 ⟨(some 24), none, false, .mov (.t 5), []⟩,
 ⟨(some 25), none, false, .ia 3 (.t 23) (.t 24), [23, 24]⟩,
 ⟨(some 26), none, false, .ld true 3 (.t 25), [25]⟩,
 ⟨(some 27), none, false, .call 51 [(.t 22), (.t 26)], [22, 26]⟩,
 ⟨(some 6), none, false, .mov (.t 27), [27]⟩])
(.seq (.reg [⟨(some 28), none, false, .mov (.t 6), []⟩,
 ⟨(some 29), none, false, .bin .neq (.t 28) (.k (intV 0)), [28]⟩])
(.cond (.t 29)
(.seq (.reg [⟨(some 30), none, false, .mov (.t 6), [0, 1, 5, 6, 29]⟩,
 ⟨(some 4), none, false, .mov (.t 30), [30]⟩])
(.ret))
(.skip)))))
(.reg [⟨(some 17), none, false, .mov (.t 5), [4, 5, 6, 29, 16]⟩,
 ⟨(some 18), none, false, .bin .add (.t 17) (.k (intV 1)), [17]⟩,
 ⟨(some 5), none, false, .mov (.t 18), [18]⟩])))
def c_ref42_Compare : AFun := ⟨.seq (.reg [⟨(some 4), none, false, .mov (.k (intV 0)), [4]⟩])
(.seq (.seq (.reg [⟨(some 5), none, false, .mov (.k (intV 0)), []⟩])
(.block 0 (.loop [0, 1, 5] c_ref42_Compare_L0)))
(.seq (.seq (.reg [⟨(some 31), none, false, .mov (.t 0), [5]⟩,
 ⟨(some 32), none, false, .len (.t 31), [31]⟩,
 ⟨(some 33), none, false, .mov (.t 1), []⟩,
 ⟨(some 34), none, false, .len (.t 33), [33]⟩,
 ⟨(some 35), none, false, .bin .lss (.t 32) (.t 34), [32, 34]⟩])
(.cond (.t 35)
(.seq (.reg [⟨(some 4), none, false, .mov (.k (intV (-1))), [0, 1, 35]⟩])
(.ret))
(.skip)))
(.seq (.seq (.reg [⟨(some 36), none, false, .mov (.t 0), [4, 0, 35]⟩,
 ⟨(some 37), none, false, .len (.t 36), [36]⟩,
 ⟨(some 38), none, false, .mov (.t 1), [1]⟩,
 ⟨(some 39), none, false, .len (.t 38), [38]⟩,
 ⟨(some 40), none, false, .bin .gtr (.t 37) (.t 39), [37, 39]⟩])
(.cond (.t 40)
(.seq (.reg [⟨(some 4), none, false, .mov (.k (intV 1)), [40]⟩])
(.ret))
(.skip)))
(.seq (.reg [⟨(some 4), none, false, .mov (.k (intV 0)), [40]⟩])
(.ret))))),
 [.tmp 4]⟩
def o_ref42_Compare : List (Nat × List Nat) := [(4, [0, 1, 2, 3, 4, 5, 6, 7, 8, 9])]
theorem c_ref42_Compare_ok : cFun Tryz.prog o_ref42_Compare 25 = some c_ref42_Compare.erase := by kernel_rfl

/- ref45_count -/
def c_ref45_count_L0 : ACode := (.seq (.seq (.reg [⟨(some 7), none, false, .mov (.t 6), []⟩,
 ⟨(some 8), none, false, .mov (.t 0), []⟩,
 ⟨(some 9), none, false, .len (.t 8), [8]⟩,
 ⟨(some 10), none, false, .bin .lss (.t 7) (.t 9), [7, 9]⟩])
(.cond (.t 10)
(.skip)
(.exit 0)))
(.seq (.block 1 (.seq (.reg [⟨(some 13), none, false, .mov (.t 0), [10]⟩,
 ⟨(some 14), none, false, .mov (.t 6), []⟩,
 ⟨(some 15), none, false, .ia 1 (.t 13) (.t 14), [13, 14]⟩,
 ⟨(some 16), none, false, .ld false 1 (.t 15), [15]⟩,
 ⟨(some 17), none, false, .mov (.t 1), []⟩,
 ⟨(some 18), none, false, .call 25 [(.t 16), (.t 17)], [16, 17]⟩,
 ⟨(some 19), none, false, .bin .eql (.t 18) (.k (intV 0)), [18]⟩])
(.cond (.t 19)
(.reg [⟨(some 20), none, false, .mov (.t 5), [5, 19]⟩,
 ⟨(some 21), none, false, .bin .add (.t 20) (.k (intV 1)), [20]⟩,
 ⟨(some 5), none, false, .mov (.t 21), [21]⟩])
(.skip))))
(.reg [⟨(some 11), none, false, .mov (.t 6), [6, 19, 10]⟩,
 ⟨(some 12), none, false, .bin .add (.t 11) (.k (intV 1)), [11]⟩,
 ⟨(some 6), none, false, .mov (.t 12), [12]⟩])))
def c_ref45_count : AFun := ⟨.seq (.reg [⟨(some 4), none, false, .mov (.k (intV 0)), [4]⟩])
(.seq (.reg [⟨(some 5), none, false, .mov (.k (intV 0)), []⟩])
(.seq (.seq (.reg [⟨(some 6), none, false, .mov (.k (intV 0)), []⟩])
(.block 0 (.loop [0, 1, 5, 6] c_ref45_count_L0)))
(.seq (.reg [⟨(some 22), none, false, .mov (.t 5), [0, 1, 5, 6]⟩,
 ⟨(some 4), none, false, .mov (.t 22), [22]⟩])
(.ret)))),
 [.tmp 4]⟩
def o_ref45_count : List (Nat × List Nat) := []
theorem c_ref45_count_ok : cFun Tryz.prog o_ref45_count 26 = some c_ref45_count.erase := by kernel_rfl

/- ref33_Same -/
def c_ref33_Same_L0 : ACode := (.seq (.seq (.reg [⟨(some 11), none, false, .mov (.t 5), []⟩,
 ⟨(some 12), none, false, .mov (.t 0), []⟩,
 ⟨(some 13), none, false, .len (.t 12), [12]⟩,
 ⟨(some 14), none, false, .bin .lss (.t 11) (.t 13), [11, 13]⟩])
(.cond (.t 14)
(.skip)
(.exit 0)))
(.seq (.block 1 (.seq (.reg [⟨(some 17), none, false, .mov (.t 0), [14]⟩,
 ⟨(some 18), none, false, .mov (.t 5), []⟩,
 ⟨(some 19), none, false, .ia 3 (.t 17) (.t 18), [17, 18]⟩,
 ⟨(some 20), none, false, .ld true 3 (.t 19), [19]⟩,
 ⟨(some 21), none, false, .mov (.t 1), []⟩,
 ⟨(some 22), none, false, .mov (.t 5), []⟩,
 ⟨(some 23), none, false, .ia 3 (.t 21) (.t 22), [21, 22]⟩,
 ⟨(some 24), none, false, .ld true 3 (.t 23), [23]⟩,
 ⟨(some 25), none, false, .eqa true [0, 0, 1] (.t 20) (.t 24), [20, 24]⟩])
(.cond (.t 25)
(.seq (.reg [⟨(some 4), none, false, .mov (.k (boolV false)), [0, 1, 5, 25]⟩])
(.ret))
(.skip))))
(.reg [⟨(some 15), none, false, .mov (.t 5), [4, 5, 25, 14]⟩,
 ⟨(some 16), none, false, .bin .add (.t 15) (.k (intV 1)), [15]⟩,
 ⟨(some 5), none, false, .mov (.t 16), [16]⟩])))
def c_ref33_Same : AFun := ⟨.seq (.reg [⟨(some 4), none, false, .mov (.k (boolV false)), [4]⟩])
(.seq (.seq (.reg [⟨(some 6), none, false, .mov (.t 0), []⟩,
 ⟨(some 7), none, false, .len (.t 6), [6]⟩,
 ⟨(some 8), none, false, .mov (.t 1), []⟩,
 ⟨(some 9), none, false, .len (.t 8), [8]⟩,
 ⟨(some 10), none, false, .bin .neq (.t 7) (.t 9), [7, 9]⟩])
(.cond (.t 10)
(.seq (.reg [⟨(some 4), none, false, .mov (.k (boolV false)), [0, 1, 10]⟩])
(.ret))
(.skip)))
(.seq (.seq (.reg [⟨(some 5), none, false, .mov (.k (intV 0)), [4, 10]⟩])
(.block 0 (.loop [0, 1, 5] c_ref33_Same_L0)))
(.seq (.reg [⟨(some 4), none, false, .mov (.k (boolV true)), [0, 1, 5]⟩])
(.ret)))),
 [.tmp 4]⟩
def o_ref33_Same : List (Nat × List Nat) := [(6, [0, 1, 2, 3, 4, 5, 6, 7, 8])]
theorem c_ref33_Same_ok : cFun Tryz.prog o_ref33_Same 27 = some c_ref33_Same.erase := by kernel_rfl

/- delta_order -/
def c_delta_order : AFun := ⟨.seq (.reg [⟨(some 4), none, false, .mov (.k (intV 0)), [4]⟩])
(.seq (.reg [⟨(some 5), none, false, .mov (.t 0), [0]⟩,
 ⟨(some 6), none, false, .mov (.t 1), [1]⟩,
 ⟨(some 7), none, false, .call 52 [(.t 5), (.t 6), (.k (.w (.c (.clo 53 []))))], [5, 6]⟩,
 ⟨(some 4), none, false, .mov (.t 7), [7]⟩])
(.ret)),
 [.tmp 4]⟩
def o_delta_order : List (Nat × List Nat) := []
theorem c_delta_order_ok : cFun Tryz.prog o_delta_order 28 = some c_delta_order.erase := by kernel_rfl

/- delta_values -/
def c_delta_values_L0 : ACode := (.seq (.reg [⟨(some 16), none, false, .bin .lss (.t 15) (.t 14), []⟩])
(.seq (.cond (.t 16)
(.skip)
(.exit 0))
(.seq (.block 1 (.seq (.reg [⟨(some 17), none, false, .mov (.t 15), [16]⟩,
 ⟨(some 18), none, false, .ia 3 (.t 13) (.t 15), []⟩,
 ⟨(some 19), none, false, .ld true 3 (.t 18), [18]⟩,
 ⟨(some 6), none, false, .alloc [(.d (.lit (.int .i64 0))), (.d (.lit (.int .i64 0))), (.d (.lit (.string ⟨#[]⟩)))], []⟩,
 ⟨(some 5), none, false, .mov (.t 17), [17]⟩,
 ⟨none, none, false, .st 3 (.t 6) (.t 19), [19]⟩])
(.seq (.reg [⟨(some 20), none, false, .mov (.t 0), []⟩,
 ⟨(some 21), none, false, .mov (.t 5), [5]⟩,
 ⟨(some 22), none, false, .ia 2 (.t 20) (.t 21), [20, 21]⟩,
 ⟨(some 23), none, false, .fa 1 (.t 22), [22]⟩,
 ⟨(some 24), none, false, .ld false 1 (.t 23), [23]⟩,
 ⟨(some 25), none, false, .ld true 3 (.t 6), [6]⟩,
 ⟨(some 26), none, false, .call 40 [(.t 24), (.t 25)], [24, 25]⟩,
 ⟨(some 7), none, false, .mov (.t 26), [26]⟩])
(.seq (.reg [⟨(some 27), none, false, .mov (.t 7), []⟩,
 ⟨(some 28), none, false, .bin .neq (.t 27) (.k (intV 0)), [27]⟩])
(.cond (.t 28)
(.seq (.reg [⟨(some 29), none, false, .mov (.t 7), [0, 13, 14, 15, 7, 28]⟩,
 ⟨(some 4), none, false, .mov (.t 29), [29]⟩])
(.ret))
(.skip))))))
(.reg [⟨(some 30), none, false, .bin .add (.t 15) (.k (intV 1)), [4, 15, 7, 28, 16]⟩,
 ⟨(some 15), none, false, .mov (.t 30), [30]⟩]))))
def c_delta_values : AFun := ⟨.seq (.reg [⟨(some 4), none, false, .mov (.k (intV 0)), [4]⟩])
(.seq (.seq (.reg [⟨(some 8), none, false, .mov (.t 1), []⟩,
 ⟨(some 9), none, false, .len (.t 8), [8]⟩,
 ⟨(some 10), none, false, .mov (.t 0), []⟩,
 ⟨(some 11), none, false, .len (.t 10), [10]⟩,
 ⟨(some 12), none, false, .bin .neq (.t 9) (.t 11), [9, 11]⟩])
(.cond (.t 12)
(.seq (.reg [⟨(some 4), none, false, .mov (.k (intV 10)), [0, 1, 12]⟩])
(.ret))
(.skip)))
(.seq (.seq (.reg [⟨(some 13), none, false, .mov (.t 1), [4, 1, 12]⟩,
 ⟨(some 14), none, false, .len (.t 13), []⟩,
 ⟨(some 15), none, false, .mov (.k (intV 0)), []⟩])
(.block 0 (.loop [0, 13, 14, 15] c_delta_values_L0)))
(.seq (.reg [⟨(some 4), none, false, .mov (.k (intV 0)), [0, 13, 14, 15]⟩])
(.ret)))),
 [.tmp 4]⟩
def o_delta_values : List (Nat × List Nat) := [(6, [0, 1, 2, 3, 4, 5, 6, 7])]
theorem c_delta_values_ok : cFun Tryz.prog o_delta_values 29 = some c_delta_values.erase := by kernel_rfl

/- slices_Clone_Column -/
def c_slices_Clone_Column : AFun := ⟨.seq (.reg [⟨(some 2), none, false, .mov (.k (.w (.c .nil))), [2]⟩])
(.seq (.seq (.reg [⟨(some 3), none, false, .mov (.t 0), []⟩,
 ⟨(some 4), none, false, .isn false (.t 3), [3]⟩])
(.cond (.t 4)
(.seq (.reg [⟨(some 2), none, false, .mov (.k (.w (.c .nil))), [0, 4]⟩])
(.ret))
(.skip)))
(.seq (.reg [⟨(some 5), none, false, .lits 2 [], [2, 4]⟩,
 ⟨(some 6), none, false, .mov (.t 0), [0]⟩,
 ⟨(some 7), none, false, .app 2 24 (.t 5) (.t 6), [5, 6]⟩,
 ⟨(some 2), none, false, .mov (.t 7), [7]⟩])
(.ret))),
 [.tmp 2]⟩
def o_slices_Clone_Column : List (Nat × List Nat) := []
theorem c_slices_Clone_Column_ok : cFun Tryz.prog o_slices_Clone_Column 30 = some c_slices_Clone_Column.erase := by kernel_rfl

/- slices_Repeat_LValue -/
def c_slices_Repeat_LValue_L0 : ACode := (.seq (.seq (.reg [⟨(some 34), none, false, .mov (.t 8), []⟩,
 ⟨(some 35), none, false, .mov (.t 7), []⟩,
 ⟨(some 36), none, false, .len (.t 35), [35]⟩,
 ⟨(some 37), none, false, .bin .lss (.t 34) (.t 36), [34, 36]⟩])
(.cond (.t 37)
(.skip)
(.exit 0)))
(.block 1 (.reg [⟨(some 38), none, false, .mov (.t 8), [37]⟩,
 ⟨(some 39), none, false, .mov (.t 7), []⟩,
 ⟨(some 40), none, false, .mov (.t 8), []⟩,
 ⟨(some 42), none, false, .mov (.t 7), []⟩,
 ⟨(some 43), none, false, .mov (.t 8), [8]⟩,
 ⟨(some 44), none, false, .sli 1 (.t 42) none (some (.t 43)), [42, 43]⟩,
 ⟨(some 41), none, false, .slw 1 (.t 39) (some (.t 40)) none, [39, 40]⟩,
 ⟨(some 45), none, false, .cpy 1 (.t 41) (.t 44), [44, 41]⟩,
 ⟨(some 46), none, false, .bin .add (.t 38) (.t 45), [38, 45]⟩,
 ⟨(some 8), none, false, .mov (.t 46), [46]⟩])))
def c_slices_Repeat_LValue : AFun := ⟨.seq (.reg [⟨(some 4), none, false, .mov (.k (.w (.c .nil))), [4]⟩])
(.seq (.seq (.reg [⟨(some 9), none, false, .mov (.t 1), []⟩,
 ⟨(some 10), none, false, .bin .lss (.t 9) (.k (intV 0)), [9]⟩])
(.cond (.t 10)
(.reg [⟨(some 11), none, false, .stop, [10, 11]⟩,
 ⟨none, none, false, .stop, []⟩])
(.skip)))
(.seq (.reg [⟨(some 13), none, false, .mov (.t 0), [10]⟩,
 ⟨(some 14), none, false, .len (.t 13), [13]⟩,
 ⟨(some 15), none, false, .conv .u64 (.t 14), [14]⟩,
 ⟨(some 16), none, false, .mov (.t 1), [1]⟩,
 ⟨(some 17), none, false, .conv .u64 (.t 16), [16]⟩,
 ⟨(some 18), none, false, .call 54 [(.t 15), (.t 17)], [15, 17]⟩,
 ⟨(some 12), none, false, .mov (.t 18), [18]⟩,
 ⟨(some 19), none, false, .ext (.t 12) 0, []⟩,
 ⟨(some 20), none, false, .ext (.t 12) 1, [12]⟩,
 ⟨(some 5), none, false, .mov (.t 19), [19]⟩,
 ⟨(some 6), none, false, .mov (.t 20), [20]⟩])
(.seq (.seq (.reg [⟨(some 21), none, false, .mov (.t 5), [5]⟩,
 ⟨(some 22), none, false, .bin .gtr (.t 21) (.k (.w (.c (.d (.lit (.int .u64 0)))))), [21]⟩,
 ⟨(some 23), none, true, .mov (.t 22), [22]⟩,
 ⟨(some 24), (some (23, false)), false, .mov (.t 6), []⟩,
 ⟨(some 25), (some (23, false)), false, .bin .gtr (.t 24) (.k (.w (.c (.d (.lit (.int .u64 9223372036854775807)))))), [24]⟩,
 ⟨(some 26), none, false, .pick (.t 23) (.k (boolV true)) (.t 25), [23, 25, 24, 24]⟩])
(.cond (.t 26)
(.reg [⟨(some 27), none, false, .stop, [26, 27]⟩,
 ⟨none, none, false, .stop, []⟩])
(.skip)))
(.seq (.reg [⟨(some 28), none, false, .mov (.t 6), [6, 26]⟩,
 ⟨(some 29), none, false, .conv .i64 (.t 28), [28]⟩,
 ⟨(some 30), none, false, .mk 1 24 [(.sl [])] (.t 29) (.t 29), [29]⟩,
 ⟨(some 7), none, false, .mov (.t 30), [30]⟩])
(.seq (.reg [⟨(some 31), none, false, .mov (.t 7), []⟩,
 ⟨(some 32), none, false, .mov (.t 0), [0]⟩,
 ⟨(some 33), none, false, .cpy 1 (.t 31) (.t 32), [31, 32]⟩,
 ⟨(some 8), none, false, .mov (.t 33), [33]⟩])
(.seq (.block 0 (.loop [7, 8] c_slices_Repeat_LValue_L0))
(.seq (.reg [⟨(some 47), none, false, .mov (.t 7), [7, 8, 37]⟩,
 ⟨(some 4), none, false, .mov (.t 47), [47]⟩])
(.ret)))))))),
 [.tmp 4]⟩
def o_slices_Repeat_LValue : List (Nat × List Nat) := [(9, [0, 1, 2, 4, 5, 6, 3, 7, 8, 9]), (1000009, [3])]
theorem c_slices_Repeat_LValue_ok : cFun Tryz.prog o_slices_Repeat_LValue 31 = some c_slices_Repeat_LValue.erase := by kernel_rfl

/- ref45_changes -/
def c_ref45_changes_L0 : ACode := (.seq (.seq (.reg [⟨(some 8), none, false, .mov (.t 5), []⟩,
 ⟨(some 9), none, false, .mov (.t 1), []⟩,
 ⟨(some 10), none, false, .len (.t 9), [9]⟩,
 ⟨(some 11), none, false, .bin .lss (.t 8) (.t 10), [8, 10]⟩])
(.cond (.t 11)
(.skip)
(.exit 0)))
(.seq (.block 1 (.seq (.reg [⟨(some 14), none, false, .mov (.t 1), [11]⟩,
 ⟨(some 15), none, false, .mov (.t 5), []⟩,
 ⟨(some 16), none, false, .ia 2 (.t 14) (.t 15), [14, 15]⟩,
 ⟨(some 17), none, false, .ld true 2 (.t 16), [16]⟩,
 ⟨(some 6), none, false, .alloc [.nil, (.d (.lit (.int .i64 0)))], []⟩,
 ⟨none, none, false, .st 2 (.t 6) (.t 17), [17]⟩])
(.seq (.seq (.reg [⟨(some 18), none, false, .fa 0 (.t 6), []⟩,
 ⟨(some 19), none, false, .ld false 1 (.t 18), [18]⟩,
 ⟨(some 20), none, false, .len (.t 19), [19]⟩,
 ⟨(some 21), none, false, .mov (.t 0), []⟩,
 ⟨(some 22), none, false, .len (.t 21), [21]⟩,
 ⟨(some 23), none, false, .bin .neq (.t 20) (.t 22), [20, 22]⟩,
 ⟨(some 24), none, true, .mov (.t 23), [23]⟩,
 ⟨(some 25), (some (24, false)), false, .fa 1 (.t 6), []⟩,
 ⟨(some 26), (some (24, false)), false, .ld false 1 (.t 25), [25]⟩,
 ⟨(some 27), (some (24, false)), false, .bin .eql (.t 26) (.k (intV 0)), [26]⟩,
 ⟨(some 28), none, false, .pick (.t 24) (.k (boolV true)) (.t 27), [24, 27, 26, 26, 25, 25]⟩,
 ⟨(some 29), none, true, .mov (.t 28), [28]⟩,
 ⟨(some 30), (some (29, false)), false, .fa 1 (.t 6), []⟩,
 ⟨(some 31), (some (29, false)), false, .ld false 1 (.t 30), [30]⟩,
 ⟨(some 32), (some (29, false)), false, .bin .lss (.t 31) (.k (intV (-20000))), [31]⟩,
 ⟨(some 33), none, false, .pick (.t 29) (.k (boolV true)) (.t 32), [29, 32, 31, 31, 30, 30]⟩,
 ⟨(some 34), none, true, .mov (.t 33), [33]⟩,
 ⟨(some 35), (some (34, false)), false, .fa 1 (.t 6), []⟩,
 ⟨(some 36), (some (34, false)), false, .ld false 1 (.t 35), [35]⟩,
 ⟨(some 37), (some (34, false)), false, .bin .gtr (.t 36) (.k (intV 20000)), [36]⟩,
 ⟨(some 38), none, false, .pick (.t 34) (.k (boolV true)) (.t 37), [34, 37, 36, 36, 35, 35]⟩,
 ⟨(some 39), none, true, .mov (.t 38), [38]⟩,
 ⟨(some 40), (some (39, false)), false, .mov (.t 5), []⟩,
 ⟨(some 41), (some (39, false)), false, .bin .gtr (.t 40) (.k (intV 0)), [40]⟩,
 ⟨(some 42), (some (39, false)), true, .mov (.t 41), [41]⟩,
 ⟨(some 43), (some (42, true)), false, .mov (.t 1), []⟩,
 ⟨(some 44), (some (42, true)), false, .mov (.t 5), []⟩,
 ⟨(some 45), (some (42, true)), false, .bin .sub (.t 44) (.k (intV 1)), [44]⟩,
 ⟨(some 46), (some (42, true)), false, .ia 2 (.t 43) (.t 45), [43, 45]⟩,
 ⟨(some 47), (some (42, true)), false, .fa 0 (.t 46), [46]⟩,
 ⟨(some 48), (some (42, true)), false, .ld false 1 (.t 47), [47]⟩,
 ⟨(some 49), (some (42, true)), false, .fa 0 (.t 6), []⟩,
 ⟨(some 50), (some (42, true)), false, .ld false 1 (.t 49), [49]⟩,
 ⟨(some 51), (some (42, true)), false, .call 25 [(.t 48), (.t 50)], [48, 50]⟩,
 ⟨(some 52), (some (42, true)), false, .bin .geq (.t 51) (.k (intV 0)), [51]⟩,
 ⟨(some 53), (some (39, false)), false, .pick (.t 42) (.t 52) (.k (boolV false)), [42, 52, 51, 51, 48, 50, 50, 49, 49, 48, 47, 47, 46, 46, 43, 45, 45, 44, 44, 43]⟩,
 ⟨(some 54), none, false, .pick (.t 39) (.k (boolV true)) (.t 53), [39, 53, 42, 52, 51, 51, 48, 50, 50, 49, 49, 48, 47, 47, 46, 46, 43, 45, 45, 44, 44, 43, 52, 51, 51, 48, 50, 50, 49, 49, 48, 47, 47, 46, 46, 43, 45, 45, 44, 44, 43, 42, 41, 41, 40, 40]⟩])
(.cond (.t 54)
(.seq (.reg [⟨(some 4), none, false, .mov (.k (intV 10)), [0, 1, 5, 6, 54]⟩])
(.ret))
(.skip)))
(.seq (.reg [⟨(some 55), none, false, .mov (.t 0), [4, 54]⟩,
 ⟨(some 56), none, false, .fa 0 (.t 6), [6]⟩,
 ⟨(some 57), none, false, .ld false 1 (.t 56), [56]⟩,
 ⟨(some 58), none, false, .call 55 [(.t 55), (.t 57)], [55, 57]⟩,
 ⟨(some 7), none, false, .mov (.t 58), [58]⟩])
(.seq (.reg [⟨(some 59), none, false, .mov (.t 7), []⟩,
 ⟨(some 60), none, false, .bin .neq (.t 59) (.k (intV 0)), [59]⟩])
(.cond (.t 60)
(.seq (.reg [⟨(some 61), none, false, .mov (.t 7), [0, 1, 5, 7, 60]⟩,
 ⟨(some 4), none, false, .mov (.t 61), [61]⟩])
(.ret))
(.skip)))))))
(.reg [⟨(some 12), none, false, .mov (.t 5), [4, 5, 7, 60, 11]⟩,
 ⟨(some 13), none, false, .bin .add (.t 12) (.k (intV 1)), [12]⟩,
 ⟨(some 5), none, false, .mov (.t 13), [13]⟩])))
def c_ref45_changes : AFun := ⟨.seq (.reg [⟨(some 4), none, false, .mov (.k (intV 0)), [4]⟩])
(.seq (.seq (.reg [⟨(some 5), none, false, .mov (.k (intV 0)), []⟩])
(.block 0 (.loop [0, 1, 5] c_ref45_changes_L0)))
(.seq (.reg [⟨(some 4), none, false, .mov (.k (intV 0)), [0, 1, 5]⟩])
(.ret))),
 [.tmp 4]⟩
def o_ref45_changes : List (Nat × List Nat) := [(5, [0, 1, 2, 3, 4, 5, 6, 7, 8, 9, 10, 11, 12, 13, 14, 15, 16, 17, 18, 19, 20, 21, 22, 23, 24, 25, 26, 27, 28, 29, 30, 31, 32, 33, 34, 35, 36])]
theorem c_ref45_changes_ok : cFun Tryz.prog o_ref45_changes 32 = some c_ref45_changes.erase := by kernel_rfl

/- ref45_without -/
def c_ref45_without_L0 : ACode := (.seq (.seq (.reg [⟨(some 6), none, false, .mov (.t 5), []⟩,
 ⟨(some 7), none, false, .mov (.t 0), []⟩,
 ⟨(some 8), none, false, .len (.t 7), [7]⟩,
 ⟨(some 9), none, false, .bin .lss (.t 6) (.t 8), [6, 8]⟩])
(.cond (.t 9)
(.skip)
(.exit 0)))
(.seq (.block 1 (.seq (.reg [⟨(some 12), none, false, .mov (.t 0), [9]⟩,
 ⟨(some 13), none, false, .mov (.t 5), []⟩,
 ⟨(some 14), none, false, .ia 1 (.t 12) (.t 13), [12, 13]⟩,
 ⟨(some 15), none, false, .ld false 1 (.t 14), [14]⟩,
 ⟨(some 16), none, false, .mov (.t 1), []⟩,
 ⟨(some 17), none, false, .call 25 [(.t 15), (.t 16)], [15, 16]⟩,
 ⟨(some 18), none, false, .bin .eql (.t 17) (.k (intV 0)), [17]⟩])
(.cond (.t 18)
(.seq (.reg [⟨(some 20), none, false, .mov (.t 0), [1, 18]⟩,
 ⟨(some 21), none, false, .mov (.t 5), []⟩,
 ⟨(some 22), none, false, .sli 1 (.t 20) none (some (.t 21)), [20, 21]⟩,
 ⟨(some 24), none, false, .mov (.t 0), [0]⟩,
 ⟨(some 25), none, false, .mov (.t 5), [5]⟩,
 ⟨(some 26), none, false, .bin .add (.t 25) (.k (intV 1)), [25]⟩,
 ⟨(some 27), none, false, .sli 1 (.t 24) (some (.t 26)) none, [24, 26]⟩,
 ⟨(some 19), none, false, .lits 1 [], []⟩,
 ⟨(some 23), none, false, .app 1 24 (.t 19) (.t 22), [22, 19]⟩,
 ⟨(some 28), none, false, .app 1 24 (.t 23) (.t 27), [27, 23]⟩,
 ⟨(some 4), none, false, .mov (.t 28), [28]⟩])
(.ret))
(.skip))))
(.reg [⟨(some 10), none, false, .mov (.t 5), [4, 5, 18, 9]⟩,
 ⟨(some 11), none, false, .bin .add (.t 10) (.k (intV 1)), [10]⟩,
 ⟨(some 5), none, false, .mov (.t 11), [11]⟩])))
def c_ref45_without : AFun := ⟨.seq (.reg [⟨(some 4), none, false, .mov (.k (.w (.c .nil))), [4]⟩])
(.seq (.seq (.reg [⟨(some 5), none, false, .mov (.k (intV 0)), []⟩])
(.block 0 (.loop [0, 1, 5] c_ref45_without_L0)))
(.seq (.reg [⟨(some 29), none, false, .mov (.t 0), [0, 1, 5]⟩,
 ⟨(some 4), none, false, .mov (.t 29), [29]⟩])
(.ret))),
 [.tmp 4]⟩
def o_ref45_without : List (Nat × List Nat) := [(5, [1, 2, 3, 5, 6, 7, 8, 0, 4, 9, 10])]
theorem c_ref45_without_ok : cFun Tryz.prog o_ref45_without 33 = some c_ref45_without.erase := by kernel_rfl

/- ref34_SameRow -/
def c_ref34_SameRow : AFun := ⟨.seq (.reg [⟨(some 4), none, false, .mov (.k (boolV false)), [4]⟩])
(.seq (.reg [⟨(some 5), none, false, .mov (.t 0), [0]⟩,
 ⟨(some 6), none, false, .mov (.t 1), [1]⟩,
 ⟨(some 7), none, false, .call 27 [(.t 5), (.t 6)], [5, 6]⟩,
 ⟨(some 4), none, false, .mov (.t 7), [7]⟩])
(.ret)),
 [.tmp 4]⟩
def o_ref34_SameRow : List (Nat × List Nat) := []
theorem c_ref34_SameRow_ok : cFun Tryz.prog o_ref34_SameRow 34 = some c_ref34_SameRow.erase := by kernel_rfl

/- syntax_Query -/
def c_syntax_Query_L0 : ACode := (.seq (.reg [⟨(some 20), none, false, .bin .lss (.t 19) (.t 18), []⟩])
(.seq (.cond (.t 20)
(.skip)
(.exit 1))
(.seq (.block 2 (.seq (.reg [⟨(some 21), none, false, .ia 13 (.t 17) (.t 19), [20]⟩,
 ⟨(some 22), none, false, .ld true 13 (.t 21), [21]⟩,
 ⟨(some 4), none, false, .alloc [(.d (.lit (.int .i64 0))), (.d (.lit (.int .i64 0))), (.d (.lit (.string ⟨#[]⟩))), (.d (.lit (.int .i64 0))), (.d (.lit (.int .i64 0))), (.d (.lit (.string ⟨#[]⟩))), .nil, .nil, .nil, .nil, .nil, (.d (.lit (.int .i64 0))), (.d (.lit (.string ⟨#[]⟩)))], []⟩,
 ⟨none, none, false, .st 13 (.t 4) (.t 22), [22]⟩])
(.seq (.reg [⟨(some 23), none, false, .ld true 13 (.t 4), [4]⟩,
 ⟨(some 24), none, false, .call 57 [(.t 23)], [23]⟩,
 ⟨(some 5), none, false, .mov (.t 24), [24]⟩])
(.seq (.reg [⟨(some 25), none, false, .mov (.t 5), []⟩,
 ⟨(some 26), none, false, .bin .neq (.t 25) (.k (intV 0)), [25]⟩])
(.cond (.t 26)
(.seq (.reg [⟨(some 27), none, false, .mov (.t 5), [17, 18, 19, 5, 26]⟩,
 ⟨(some 2), none, false, .mov (.t 27), [27]⟩])
(.ret))
(.skip))))))
(.reg [⟨(some 28), none, false, .bin .add (.t 19) (.k (intV 1)), [2, 19, 5, 26, 20]⟩,
 ⟨(some 19), none, false, .mov (.t 28), [28]⟩]))))
def c_syntax_Query : AFun := ⟨.seq (.reg [⟨(some 1), none, false, .bx (.t 0), [0]⟩,
 ⟨(some 2), none, false, .mov (.k (intV 0)), [2]⟩])
(.seq (.block 0 (.seq (.reg [⟨(some 7), none, false, .fa 0 (.t 1), []⟩,
 ⟨(some 8), none, false, .ld false 1 (.t 7), [7]⟩,
 ⟨(some 9), none, false, .call 56 [(.t 8)], [8]⟩,
 ⟨(some 10), none, false, .bnot (.t 9), [9]⟩,
 ⟨(some 6), none, false, .mov (.t 10), [10]⟩])
(.cond (.t 6)
(.seq (.reg [⟨(some 2), none, false, .mov (.k (intV 3)), [1, 6]⟩])
(.ret))
(.seq (.reg [⟨(some 12), none, false, .fa 1 (.t 1), [6]⟩,
 ⟨(some 13), none, false, .ld false 1 (.t 12), [12]⟩,
 ⟨(some 14), none, false, .len (.t 13), [13]⟩,
 ⟨(some 15), none, false, .bin .gtr (.t 14) (.k (intV 16)), [14]⟩,
 ⟨(some 11), none, false, .mov (.t 15), [15]⟩])
(.cond (.t 11)
(.seq (.reg [⟨(some 2), none, false, .mov (.k (intV 7)), [1, 11]⟩])
(.ret))
(.skip))))))
(.seq (.seq (.reg [⟨(some 16), none, false, .fa 1 (.t 1), [2, 1, 11]⟩,
 ⟨(some 17), none, false, .ld false 1 (.t 16), [16]⟩,
 ⟨(some 18), none, false, .len (.t 17), []⟩,
 ⟨(some 19), none, false, .mov (.k (intV 0)), []⟩])
(.block 1 (.loop [17, 18, 19] c_syntax_Query_L0)))
(.seq (.reg [⟨(some 2), none, false, .mov (.k (intV 0)), [17, 18, 19]⟩])
(.ret)))),
 [.tmp 2]⟩
def o_syntax_Query : List (Nat × List Nat) := []
theorem c_syntax_Query_ok : cFun Tryz.prog o_syntax_Query 35 = some c_syntax_Query.erase := by kernel_rfl

/- slices_ContainsFunc_QStep -/
def c_slices_ContainsFunc_QStep : AFun := ⟨.seq (.reg [⟨(some 4), none, false, .mov (.k (boolV false)), [4]⟩])
(.seq (.reg [⟨(some 5), none, false, .mov (.t 0), [0]⟩,
 ⟨(some 6), none, false, .mov (.t 1), [1]⟩,
 ⟨(some 7), none, false, .call 58 [(.t 5), (.t 6)], [5, 6]⟩,
 ⟨(some 8), none, false, .bin .geq (.t 7) (.k (intV 0)), [7]⟩,
 ⟨(some 4), none, false, .mov (.t 8), [8]⟩])
(.ret)),
 [.tmp 4]⟩
def o_slices_ContainsFunc_QStep : List (Nat × List Nat) := []
theorem c_slices_ContainsFunc_QStep_ok : cFun Tryz.prog o_slices_ContainsFunc_QStep 36 = some c_slices_ContainsFunc_QStep.erase := by kernel_rfl

/- delta_Linear_1 -/
def c_delta_Linear_1 : AFun := ⟨.seq (.reg [⟨(some 2), none, false, .bx (.t 0), [0]⟩,
 ⟨(some 3), none, false, .mov (.k (boolV false)), [3]⟩])
(.seq (.seq (.reg [⟨(some 4), none, false, .fa 0 (.t 2), []⟩,
 ⟨(some 5), none, false, .ld false 1 (.t 4), [4]⟩])
(.block 0 (.seq (.seq (.reg [⟨(some 7), none, false, .bin .eql (.t 5) (.k (intV 1)), []⟩,
 ⟨(some 6), none, false, .mov (.t 7), [7]⟩])
(.cond (.t 6)
(.skip)
(.reg [⟨(some 8), none, false, .bin .eql (.t 5) (.k (intV 2)), [6]⟩,
 ⟨(some 6), none, false, .mov (.t 8), [8]⟩])))
(.cond (.t 6)
(.seq (.reg [⟨(some 3), none, false, .mov (.k (boolV false)), [1, 2, 5, 6]⟩])
(.ret))
(.seq (.seq (.reg [⟨(some 10), none, false, .bin .eql (.t 5) (.k (intV 6)), [6]⟩,
 ⟨(some 9), none, false, .mov (.t 10), [10]⟩])
(.cond (.t 9)
(.skip)
(.reg [⟨(some 11), none, false, .bin .eql (.t 5) (.k (intV 7)), [5, 9]⟩,
 ⟨(some 9), none, false, .mov (.t 11), [11]⟩])))
(.cond (.t 9)
(.seq (.reg [⟨(some 12), none, false, .fa 12 (.t 2), [2, 5, 9]⟩,
 ⟨(some 13), none, false, .ld false 1 (.t 12), [12]⟩,
 ⟨(some 14), none, false, .ld false 1 (.t 1), [1]⟩,
 ⟨(some 15), none, false, .bin .eql (.t 13) (.t 14), [13, 14]⟩,
 ⟨(some 3), none, false, .mov (.t 15), [15]⟩])
(.ret))
(.skip)))))))
(.seq (.reg [⟨(some 3), none, false, .mov (.k (boolV true)), [1, 2, 5, 9]⟩])
(.ret))),
 [.tmp 3]⟩
def o_delta_Linear_1 : List (Nat × List Nat) := []
theorem c_delta_Linear_1_ok : cFun Tryz.prog o_delta_Linear_1 37 = some c_delta_Linear_1.erase := by kernel_rfl

/- intern_Name -/
def c_intern_Name_L0 : ACode := (.seq (.reg [⟨(some 14), none, false, .bin .lss (.t 13) (.t 12), []⟩])
(.seq (.cond (.t 14)
(.skip)
(.exit 0))
(.seq (.block 1 (.seq (.reg [⟨(some 15), none, false, .mov (.t 13), [14]⟩,
 ⟨(some 3), none, false, .mov (.t 15), [15]⟩])
(.seq (.reg [⟨(some 16), none, false, .mov (.t 0), []⟩,
 ⟨(some 17), none, false, .mov (.t 3), [3]⟩,
 ⟨(some 18), none, false, .six (.t 16) (.t 17), [16, 17]⟩,
 ⟨(some 19), none, false, .call 59 [(.t 18)], [18]⟩,
 ⟨(some 20), none, false, .bnot (.t 19), [19]⟩])
(.cond (.t 20)
(.seq (.reg [⟨(some 2), none, false, .mov (.k (intV 3)), [0, 12, 13, 20]⟩])
(.ret))
(.skip)))))
(.reg [⟨(some 21), none, false, .bin .add (.t 13) (.k (intV 1)), [2, 13, 20, 14]⟩,
 ⟨(some 13), none, false, .mov (.t 21), [21]⟩]))))
def c_intern_Name : AFun := ⟨.seq (.reg [⟨(some 2), none, false, .mov (.k (intV 0)), [2]⟩])
(.seq (.seq (.reg [⟨(some 4), none, false, .mov (.t 0), []⟩,
 ⟨(some 5), none, false, .bin .eql (.t 4) (.k (.w (.c (.d (.lit (.string ⟨#[]⟩)))))), [4]⟩,
 ⟨(some 6), none, true, .mov (.t 5), [5]⟩,
 ⟨(some 7), (some (6, false)), false, .mov (.t 0), []⟩,
 ⟨(some 8), (some (6, false)), false, .slen (.t 7), [7]⟩,
 ⟨(some 9), (some (6, false)), false, .bin .gtr (.t 8) (.k (intV 40)), [8]⟩,
 ⟨(some 10), none, false, .pick (.t 6) (.k (boolV true)) (.t 9), [6, 9, 8, 8, 7, 7]⟩])
(.cond (.t 10)
(.seq (.reg [⟨(some 2), none, false, .mov (.k (intV 3)), [0, 10]⟩])
(.ret))
(.skip)))
(.seq (.seq (.reg [⟨(some 11), none, false, .mov (.t 0), [2, 10]⟩,
 ⟨(some 12), none, false, .slen (.t 11), [11]⟩,
 ⟨(some 13), none, false, .mov (.k (intV 0)), []⟩])
(.block 0 (.loop [0, 12, 13] c_intern_Name_L0)))
(.seq (.reg [⟨(some 2), none, false, .mov (.k (intV 0)), [0, 12, 13]⟩])
(.ret)))),
 [.tmp 2]⟩
def o_intern_Name : List (Nat × List Nat) := []
theorem c_intern_Name_ok : cFun Tryz.prog o_intern_Name 38 = some c_intern_Name.erase := by kernel_rfl

/- table_Col -/
def c_table_Col : AFun := ⟨.seq (.reg [⟨(some 2), none, false, .bx (.t 0), [0]⟩,
 ⟨(some 3), none, false, .bx (.t 1), [1]⟩,
 ⟨(some 4), none, false, .mov (.k (intV 0)), [4]⟩])
(.seq (.reg [⟨(some 5), none, false, .fa 0 (.t 2), [2]⟩,
 ⟨(some 6), none, false, .ld false 1 (.t 5), [5]⟩,
 ⟨(some 7), none, false, .clof 61 [(.t 3)], [3]⟩,
 ⟨(some 8), none, false, .call 60 [(.t 6), (.t 7)], [6, 7]⟩,
 ⟨(some 4), none, false, .mov (.t 8), [8]⟩])
(.ret)),
 [.tmp 4]⟩
def o_table_Col : List (Nat × List Nat) := [(1000001, [2])]
theorem c_table_Col_ok : cFun Tryz.prog o_table_Col 39 = some c_table_Col.erase := by kernel_rfl

/- column_Value -/
def c_column_Value : AFun := ⟨.seq (.reg [⟨(some 3), none, false, .bx (.t 1), [1]⟩,
 ⟨(some 4), none, false, .mov (.k (intV 0)), [4]⟩])
(.seq (.reg [⟨(some 6), none, false, .mov (.t 0), []⟩,
 ⟨(some 7), none, false, .bin .eql (.t 6) (.k (intV 1)), [6]⟩,
 ⟨(some 8), none, true, .mov (.t 7), [7]⟩,
 ⟨(some 9), (some (8, false)), false, .mov (.t 0), []⟩,
 ⟨(some 10), (some (8, false)), false, .bin .eql (.t 9) (.k (intV 2)), [9]⟩,
 ⟨(some 11), none, false, .pick (.t 8) (.k (boolV true)) (.t 10), [8, 10, 9, 9]⟩,
 ⟨(some 12), none, true, .mov (.t 11), [11]⟩,
 ⟨(some 13), (some (12, false)), false, .mov (.t 0), []⟩,
 ⟨(some 14), (some (12, false)), false, .bin .eql (.t 13) (.k (intV 3)), [13]⟩,
 ⟨(some 15), none, false, .pick (.t 12) (.k (boolV true)) (.t 14), [12, 14, 13, 13]⟩,
 ⟨(some 5), none, false, .mov (.t 15), [15]⟩])
(.seq (.block 0 (.seq (.reg [⟨(some 17), none, false, .fa 0 (.t 3), []⟩,
 ⟨(some 18), none, false, .ld false 1 (.t 17), [17]⟩,
 ⟨(some 19), none, false, .bin .neq (.t 18) (.k (intV 0)), [18]⟩,
 ⟨(some 20), none, true, .mov (.t 19), [19]⟩,
 ⟨(some 21), (some (20, true)), false, .fa 0 (.t 3), []⟩,
 ⟨(some 22), (some (20, true)), false, .ld false 1 (.t 21), [21]⟩,
 ⟨(some 23), (some (20, true)), false, .mov (.t 0), [0]⟩,
 ⟨(some 24), (some (20, true)), false, .bin .neq (.t 22) (.t 23), [22, 23]⟩,
 ⟨(some 25), (some (20, true)), true, .mov (.t 24), [24]⟩,
 ⟨(some 26), (some (25, false)), false, .mov (.t 5), [5]⟩,
 ⟨(some 27), (some (25, false)), false, .bnot (.t 26), [26]⟩,
 ⟨(some 28), (some (20, true)), false, .pick (.t 25) (.k (boolV true)) (.t 27), [25, 27, 26, 26, 5]⟩,
 ⟨(some 29), none, false, .pick (.t 20) (.t 28) (.k (boolV false)), [20, 28, 25, 27, 26, 26, 5, 27, 26, 26, 5, 25, 24, 24, 22, 23, 23, 0, 22, 21, 21]⟩,
 ⟨(some 16), none, false, .mov (.t 29), [29]⟩])
(.cond (.t 16)
(.seq (.reg [⟨(some 4), none, false, .mov (.k (intV 14)), [3, 16]⟩])
(.ret))
(.seq (.seq (.reg [⟨(some 31), none, false, .fa 0 (.t 3), [16]⟩,
 ⟨(some 32), none, false, .ld false 1 (.t 31), [31]⟩,
 ⟨(some 33), none, false, .bin .eql (.t 32) (.k (intV 1)), [32]⟩,
 ⟨(some 34), none, true, .mov (.t 33), [33]⟩,
 ⟨(some 35), (some (34, true)), false, .fa 1 (.t 3), []⟩,
 ⟨(some 36), (some (34, true)), false, .ld false 1 (.t 35), [35]⟩,
 ⟨(some 37), (some (34, true)), false, .bin .neq (.t 36) (.k (intV 0)), [36]⟩,
 ⟨(some 38), none, false, .pick (.t 34) (.t 37) (.k (boolV false)), [34, 37, 36, 36, 35, 35]⟩,
 ⟨(some 39), none, true, .mov (.t 38), [38]⟩,
 ⟨(some 40), (some (39, true)), false, .fa 1 (.t 3), []⟩,
 ⟨(some 41), (some (39, true)), false, .ld false 1 (.t 40), [40]⟩,
 ⟨(some 42), (some (39, true)), false, .bin .neq (.t 41) (.k (intV 1)), [41]⟩,
 ⟨(some 43), none, false, .pick (.t 39) (.t 42) (.k (boolV false)), [39, 42, 41, 41, 40, 40]⟩,
 ⟨(some 30), none, false, .mov (.t 43), [43]⟩])
(.cond (.t 30)
(.skip)
(.reg [⟨(some 44), none, false, .fa 0 (.t 3), [30]⟩,
 ⟨(some 45), none, false, .ld false 1 (.t 44), [44]⟩,
 ⟨(some 46), none, false, .bin .eql (.t 45) (.k (intV 2)), [45]⟩,
 ⟨(some 47), none, true, .mov (.t 46), [46]⟩,
 ⟨(some 48), (some (47, true)), false, .fa 1 (.t 3), []⟩,
 ⟨(some 49), (some (47, true)), false, .ld false 1 (.t 48), [48]⟩,
 ⟨(some 50), (some (47, true)), false, .call 62 [(.t 49)], [49]⟩,
 ⟨(some 51), (some (47, true)), false, .bnot (.t 50), [50]⟩,
 ⟨(some 52), none, false, .pick (.t 47) (.t 51) (.k (boolV false)), [47, 51, 50, 50, 49, 49, 48, 48]⟩,
 ⟨(some 30), none, false, .mov (.t 52), [52]⟩])))
(.cond (.t 30)
(.seq (.reg [⟨(some 4), none, false, .mov (.k (intV 2)), [3, 30]⟩])
(.ret))
(.seq (.reg [⟨(some 54), none, false, .fa 0 (.t 3), [30]⟩,
 ⟨(some 55), none, false, .ld false 1 (.t 54), [54]⟩,
 ⟨(some 56), none, false, .bin .eql (.t 55) (.k (intV 3)), [55]⟩,
 ⟨(some 57), none, true, .mov (.t 56), [56]⟩,
 ⟨(some 58), (some (57, true)), false, .fa 2 (.t 3), []⟩,
 ⟨(some 59), (some (57, true)), false, .ld false 1 (.t 58), [58]⟩,
 ⟨(some 60), (some (57, true)), false, .slen (.t 59), [59]⟩,
 ⟨(some 61), (some (57, true)), false, .bin .gtr (.t 60) (.k (intV 200)), [60]⟩,
 ⟨(some 62), none, false, .pick (.t 57) (.t 61) (.k (boolV false)), [57, 61, 60, 60, 59, 59, 58, 58]⟩,
 ⟨(some 53), none, false, .mov (.t 62), [62]⟩])
(.cond (.t 53)
(.seq (.reg [⟨(some 4), none, false, .mov (.k (intV 7)), [3, 53]⟩])
(.ret))
(.seq (.seq (.reg [⟨(some 64), none, false, .fa 0 (.t 3), [53]⟩,
 ⟨(some 65), none, false, .ld false 1 (.t 64), [64]⟩,
 ⟨(some 66), none, false, .bin .neq (.t 65) (.k (intV 3)), [65]⟩,
 ⟨(some 67), none, true, .mov (.t 66), [66]⟩,
 ⟨(some 68), (some (67, true)), false, .fa 2 (.t 3), []⟩,
 ⟨(some 69), (some (67, true)), false, .ld false 1 (.t 68), [68]⟩,
 ⟨(some 70), (some (67, true)), false, .bin .neq (.t 69) (.k (.w (.c (.d (.lit (.string ⟨#[]⟩)))))), [69]⟩,
 ⟨(some 71), none, false, .pick (.t 67) (.t 70) (.k (boolV false)), [67, 70, 69, 69, 68, 68]⟩,
 ⟨(some 63), none, false, .mov (.t 71), [71]⟩])
(.cond (.t 63)
(.skip)
(.reg [⟨(some 72), none, false, .fa 0 (.t 3), [63]⟩,
 ⟨(some 73), none, false, .ld false 1 (.t 72), [72]⟩,
 ⟨(some 74), none, false, .bin .eql (.t 73) (.k (intV 0)), [73]⟩,
 ⟨(some 75), none, true, .mov (.t 74), [74]⟩,
 ⟨(some 76), (some (75, false)), false, .fa 0 (.t 3), []⟩,
 ⟨(some 77), (some (75, false)), false, .ld false 1 (.t 76), [76]⟩,
 ⟨(some 78), (some (75, false)), false, .bin .eql (.t 77) (.k (intV 3)), [77]⟩,
 ⟨(some 79), none, false, .pick (.t 75) (.k (boolV true)) (.t 78), [75, 78, 77, 77, 76, 76]⟩,
 ⟨(some 80), none, true, .mov (.t 79), [79]⟩,
 ⟨(some 81), (some (80, true)), false, .fa 1 (.t 3), [3]⟩,
 ⟨(some 82), (some (80, true)), false, .ld false 1 (.t 81), [81]⟩,
 ⟨(some 83), (some (80, true)), false, .bin .neq (.t 82) (.k (intV 0)), [82]⟩,
 ⟨(some 84), none, false, .pick (.t 80) (.t 83) (.k (boolV false)), [80, 83, 82, 82, 81, 81, 3]⟩,
 ⟨(some 63), none, false, .mov (.t 84), [84]⟩])))
(.cond (.t 63)
(.seq (.reg [⟨(some 4), none, false, .mov (.k (intV 1)), [3, 63]⟩])
(.ret))
(.skip))))))))))
(.seq (.reg [⟨(some 4), none, false, .mov (.k (intV 0)), [3, 63, 0, 5]⟩])
(.ret)))),
 [.tmp 4]⟩
def o_column_Value : List (Nat × List Nat) := []
theorem c_column_Value_ok : cFun Tryz.prog o_column_Value 40 = some c_column_Value.erase := by kernel_rfl

/- slices_Concat_Change -/
def c_slices_Concat_Change_L0 : ACode := (.seq (.reg [⟨(some 12), none, false, .bin .lss (.t 11) (.t 10), []⟩])
(.seq (.cond (.t 12)
(.skip)
(.exit 0))
(.seq (.block 1 (.seq (.reg [⟨(some 13), none, false, .ia 1 (.t 9) (.t 11), [12]⟩,
 ⟨(some 14), none, false, .ld false 1 (.t 13), [13]⟩,
 ⟨(some 5), none, false, .mov (.t 14), [14]⟩])
(.seq (.reg [⟨(some 15), none, false, .mov (.t 3), [3]⟩,
 ⟨(some 16), none, false, .mov (.t 5), [5]⟩,
 ⟨(some 17), none, false, .len (.t 16), [16]⟩,
 ⟨(some 18), none, false, .bin .add (.t 15) (.t 17), [15, 17]⟩,
 ⟨(some 3), none, false, .mov (.t 18), [18]⟩])
(.seq (.reg [⟨(some 19), none, false, .mov (.t 3), []⟩,
 ⟨(some 20), none, false, .bin .lss (.t 19) (.k (intV 0)), [19]⟩])
(.cond (.t 20)
(.reg [⟨(some 21), none, false, .stop, [20, 21]⟩,
 ⟨none, none, false, .stop, []⟩])
(.skip))))))
(.reg [⟨(some 22), none, false, .bin .add (.t 11) (.k (intV 1)), [11, 20, 12]⟩,
 ⟨(some 11), none, false, .mov (.t 22), [22]⟩]))))
def c_slices_Concat_Change_L1 : ACode := (.seq (.reg [⟨(some 28), none, false, .bin .lss (.t 27) (.t 26), []⟩])
(.seq (.cond (.t 28)
(.skip)
(.exit 2))
(.seq (.block 3 (.seq (.reg [⟨(some 29), none, false, .ia 1 (.t 25) (.t 27), [28]⟩,
 ⟨(some 30), none, false, .ld false 1 (.t 29), [29]⟩,
 ⟨(some 8), none, false, .mov (.t 30), [30]⟩])
(.reg [⟨(some 31), none, false, .mov (.t 6), [6]⟩,
 ⟨(some 32), none, false, .mov (.t 8), [8]⟩,
 ⟨(some 33), none, false, .app 2 32 (.t 31) (.t 32), [31, 32]⟩,
 ⟨(some 6), none, false, .mov (.t 33), [33]⟩])))
(.reg [⟨(some 34), none, false, .bin .add (.t 27) (.k (intV 1)), [27, 28]⟩,
 ⟨(some 27), none, false, .mov (.t 34), [34]⟩]))))
def c_slices_Concat_Change : AFun := ⟨.seq (.reg [⟨(some 2), none, false, .mov (.k (.w (.c .nil))), [2]⟩])
(.seq (.reg [⟨(some 3), none, false, .mov (.k (intV 0)), []⟩])
(.seq (.seq (.reg [⟨(some 9), none, false, .mov (.t 0), []⟩,
 ⟨(some 10), none, false, .len (.t 9), []⟩,
 ⟨(some 11), none, false, .mov (.k (intV 0)), []⟩])
(.block 0 (.loop [0, 3, 9, 10, 11] c_slices_Concat_Change_L0)))
(.seq (.reg [⟨(some 23), none, false, .mov (.t 3), [9, 10, 3, 11]⟩,
 ⟨(some 24), none, false, .callh 63 [(.k (.w (.c .nil))), (.t 23)], [23]⟩,
 ⟨(some 6), none, false, .mov (.t 24), [24]⟩])
(.seq (.seq (.reg [⟨(some 25), none, false, .mov (.t 0), [0]⟩,
 ⟨(some 26), none, false, .len (.t 25), []⟩,
 ⟨(some 27), none, false, .mov (.k (intV 0)), []⟩])
(.block 2 (.loop [6, 25, 26, 27] c_slices_Concat_Change_L1)))
(.seq (.reg [⟨(some 35), none, false, .mov (.t 6), [25, 26, 6, 27]⟩,
 ⟨(some 2), none, false, .mov (.t 35), [35]⟩])
(.ret)))))),
 [.tmp 2]⟩
def o_slices_Concat_Change : List (Nat × List Nat) := [(1000009, [1])]
theorem c_slices_Concat_Change_ok : cFun Tryz.prog o_slices_Concat_Change 41 = some c_slices_Concat_Change.erase := by kernel_rfl

/- slices_SortStableFunc_Change -/
def c_slices_SortStableFunc_Change : AFun := ⟨.reg [⟨(some 4), none, false, .mov (.t 0), []⟩,
 ⟨(some 5), none, false, .mov (.t 0), [0]⟩,
 ⟨(some 6), none, false, .len (.t 5), [5]⟩,
 ⟨(some 7), none, false, .mov (.t 1), [1]⟩,
 ⟨(some 8), none, false, .callh 64 [(.t 4), (.t 6), (.t 7)], [4, 6, 7, 8]⟩],
 []⟩
def o_slices_SortStableFunc_Change : List (Nat × List Nat) := [(1000000, [4])]
theorem c_slices_SortStableFunc_Change_ok : cFun Tryz.prog o_slices_SortStableFunc_Change 42 = some c_slices_SortStableFunc_Change.erase := by kernel_rfl

/- delta_summed_1 -/
def c_delta_summed_1 : AFun := ⟨.seq (.reg [⟨(some 2), none, false, .bx (.t 0), [0]⟩,
 ⟨(some 3), none, false, .bx (.t 1), [1]⟩,
 ⟨(some 4), none, false, .mov (.k (intV 0)), [4]⟩])
(.seq (.reg [⟨(some 5), none, false, .fa 0 (.t 2), [2]⟩,
 ⟨(some 6), none, false, .ld false 1 (.t 5), [5]⟩,
 ⟨(some 7), none, false, .fa 0 (.t 3), [3]⟩,
 ⟨(some 8), none, false, .ld false 1 (.t 7), [7]⟩,
 ⟨(some 9), none, false, .call 28 [(.t 6), (.t 8)], [6, 8]⟩,
 ⟨(some 4), none, false, .mov (.t 9), [9]⟩])
(.ret)),
 [.tmp 4]⟩
def o_delta_summed_1 : List (Nat × List Nat) := []
theorem c_delta_summed_1_ok : cFun Tryz.prog o_delta_summed_1 43 = some c_delta_summed_1.erase := by kernel_rfl

/- slices_DeleteFunc_Change -/
def c_slices_DeleteFunc_Change_L0 : ACode := (.seq (.seq (.reg [⟨(some 16), none, false, .mov (.t 6), []⟩,
 ⟨(some 17), none, false, .mov (.t 0), []⟩,
 ⟨(some 18), none, false, .len (.t 17), [17]⟩,
 ⟨(some 19), none, false, .bin .lss (.t 16) (.t 18), [16, 18]⟩])
(.cond (.t 19)
(.skip)
(.exit 0)))
(.seq (.block 1 (.seq (.reg [⟨(some 22), none, false, .mov (.t 0), [19]⟩,
 ⟨(some 23), none, false, .mov (.t 6), []⟩,
 ⟨(some 24), none, false, .ia 2 (.t 22) (.t 23), [22, 23]⟩,
 ⟨(some 25), none, false, .ld true 2 (.t 24), [24]⟩,
 ⟨(some 7), none, false, .alloc [.nil, (.d (.lit (.int .i64 0)))], []⟩,
 ⟨none, none, false, .st 2 (.t 7) (.t 25), [25]⟩])
(.seq (.reg [⟨(some 26), none, false, .mov (.t 1), []⟩,
 ⟨(some 27), none, false, .ld true 2 (.t 7), []⟩,
 ⟨(some 28), none, false, .calv (.t 26) [(.t 27)], [26, 27]⟩,
 ⟨(some 29), none, false, .bnot (.t 28), [28]⟩])
(.cond (.t 29)
(.seq (.reg [⟨(some 30), none, false, .mov (.t 0), [29]⟩,
 ⟨(some 31), none, false, .mov (.t 5), []⟩,
 ⟨(some 32), none, false, .ld true 2 (.t 7), [7]⟩,
 ⟨(some 33), none, false, .ia 2 (.t 30) (.t 31), [30, 31]⟩,
 ⟨none, none, false, .st 2 (.t 33) (.t 32), [32, 33]⟩])
(.reg [⟨(some 34), none, false, .mov (.t 5), [5]⟩,
 ⟨(some 35), none, false, .bin .add (.t 34) (.k (intV 1)), [34]⟩,
 ⟨(some 5), none, false, .mov (.t 35), [35]⟩]))
(.skip)))))
(.reg [⟨(some 20), none, false, .mov (.t 6), [6, 7, 29, 19]⟩,
 ⟨(some 21), none, false, .bin .add (.t 20) (.k (intV 1)), [20]⟩,
 ⟨(some 6), none, false, .mov (.t 21), [21]⟩])))
def c_slices_DeleteFunc_Change : AFun := ⟨.seq (.reg [⟨(some 4), none, false, .mov (.k (.w (.c .nil))), [4]⟩])
(.seq (.reg [⟨(some 8), none, false, .mov (.t 0), []⟩,
 ⟨(some 9), none, false, .mov (.t 1), []⟩,
 ⟨(some 10), none, false, .call 65 [(.t 8), (.t 9)], [8, 9]⟩,
 ⟨(some 5), none, false, .mov (.t 10), [10]⟩])
(.seq (.seq (.reg [⟨(some 11), none, false, .mov (.t 5), []⟩,
 ⟨(some 12), none, false, .bin .eql (.t 11) (.k (intV (-1))), [11]⟩])
(.cond (.t 12)
(.seq (.reg [⟨(some 13), none, false, .mov (.t 0), [0, 1, 5, 12]⟩,
 ⟨(some 4), none, false, .mov (.t 13), [13]⟩])
(.ret))
(.skip)))
(.seq (.seq (.reg [⟨(some 14), none, false, .mov (.t 5), [4, 12]⟩,
 ⟨(some 15), none, false, .bin .add (.t 14) (.k (intV 1)), [14]⟩,
 ⟨(some 6), none, false, .mov (.t 15), [15]⟩])
(.block 0 (.loop [0, 1, 5, 6] c_slices_DeleteFunc_Change_L0)))
(.seq (.reg [⟨(some 36), none, false, .mov (.t 0), [1, 6]⟩,
 ⟨(some 37), none, false, .mov (.t 5), []⟩,
 ⟨(some 38), none, false, .slw 2 (.t 36) (some (.t 37)) none, [36, 37]⟩,
 ⟨none, none, false, .clr 2 [(.sl []), (.lit (.int .i64 0))] (.t 38), [38]⟩])
(.seq (.reg [⟨(some 39), none, false, .mov (.t 0), [0]⟩,
 ⟨(some 40), none, false, .mov (.t 5), [5]⟩,
 ⟨(some 41), none, false, .sli 2 (.t 39) none (some (.t 40)), [39, 40]⟩,
 ⟨(some 4), none, false, .mov (.t 41), [41]⟩])
(.ret)))))),
 [.tmp 4]⟩
def o_slices_DeleteFunc_Change : List (Nat × List Nat) := [(1000011, [2])]
theorem c_slices_DeleteFunc_Change_ok : cFun Tryz.prog o_slices_DeleteFunc_Change 44 = some c_slices_DeleteFunc_Change.erase := by kernel_rfl

/- delta_summed_2 -/
def c_delta_summed_2 : AFun := ⟨.seq (.reg [⟨(some 1), none, false, .bx (.t 0), [0]⟩,
 ⟨(some 2), none, false, .mov (.k (boolV false)), [2]⟩])
(.seq (.reg [⟨(some 3), none, false, .fa 1 (.t 1), [1]⟩,
 ⟨(some 4), none, false, .ld false 1 (.t 3), [3]⟩,
 ⟨(some 5), none, false, .bin .eql (.t 4) (.k (intV 0)), [4]⟩,
 ⟨(some 2), none, false, .mov (.t 5), [5]⟩])
(.ret)),
 [.tmp 2]⟩
def o_delta_summed_2 : List (Nat × List Nat) := []
theorem c_delta_summed_2_ok : cFun Tryz.prog o_delta_summed_2 45 = some c_delta_summed_2.erase := by kernel_rfl

/- slices_SortedFunc_LValue -/
def c_slices_SortedFunc_LValue : AFun := ⟨.seq (.reg [⟨(some 4), none, false, .mov (.k (.w (.c .nil))), [4]⟩])
(.seq (.reg [⟨(some 6), none, false, .mov (.t 0), [0]⟩,
 ⟨(some 7), none, false, .call 66 [(.t 6)], [6]⟩,
 ⟨(some 5), none, false, .mov (.t 7), [7]⟩])
(.seq (.reg [⟨(some 8), none, false, .mov (.t 5), []⟩,
 ⟨(some 9), none, false, .mov (.t 1), [1]⟩,
 ⟨(some 10), none, false, .callh 67 [(.t 8), (.t 9)], [8, 9, 10]⟩])
(.seq (.reg [⟨(some 11), none, false, .mov (.t 5), [5]⟩,
 ⟨(some 4), none, false, .mov (.t 11), [11]⟩])
(.ret)))),
 [.tmp 4]⟩
def o_slices_SortedFunc_LValue : List (Nat × List Nat) := [(1000002, [2])]
theorem c_slices_SortedFunc_LValue_ok : cFun Tryz.prog o_slices_SortedFunc_LValue 46 = some c_slices_SortedFunc_LValue.erase := by kernel_rfl

/- slices_Values_LValue -/
def c_slices_Values_LValue : AFun := ⟨.seq (.reg [⟨(some 1), none, false, .bx (.t 0), [0]⟩,
 ⟨(some 2), none, false, .mov (.k (.w (.c (.d (.lit .nilFunc))))), [2]⟩])
(.seq (.reg [⟨(some 3), none, false, .clof 68 [(.t 1)], [1]⟩,
 ⟨(some 2), none, false, .mov (.t 3), [3]⟩])
(.ret)),
 [.tmp 2]⟩
def o_slices_Values_LValue : List (Nat × List Nat) := [(1000001, [0])]
theorem c_slices_Values_LValue_ok : cFun Tryz.prog o_slices_Values_LValue 47 = some c_slices_Values_LValue.erase := by kernel_rfl

/- ref06_Name -/
def c_ref06_Name_L0 : ACode := (.seq (.seq (.reg [⟨(some 12), none, false, .mov (.t 3), []⟩,
 ⟨(some 13), none, false, .mov (.t 0), []⟩,
 ⟨(some 14), none, false, .slen (.t 13), [13]⟩,
 ⟨(some 15), none, false, .bin .lss (.t 12) (.t 14), [12, 14]⟩])
(.cond (.t 15)
(.skip)
(.exit 0)))
(.seq (.block 1 (.seq (.reg [⟨(some 18), none, false, .mov (.t 0), [15]⟩,
 ⟨(some 19), none, false, .mov (.t 3), []⟩,
 ⟨(some 20), none, false, .six (.t 18) (.t 19), [18, 19]⟩,
 ⟨(some 21), none, false, .call 69 [(.t 20)], [20]⟩,
 ⟨(some 22), none, false, .bnot (.t 21), [21]⟩])
(.cond (.t 22)
(.seq (.reg [⟨(some 2), none, false, .mov (.k (intV 3)), [0, 3, 22]⟩])
(.ret))
(.skip))))
(.reg [⟨(some 16), none, false, .mov (.t 3), [2, 3, 22, 15]⟩,
 ⟨(some 17), none, false, .bin .add (.t 16) (.k (intV 1)), [16]⟩,
 ⟨(some 3), none, false, .mov (.t 17), [17]⟩])))
def c_ref06_Name : AFun := ⟨.seq (.reg [⟨(some 2), none, false, .mov (.k (intV 0)), [2]⟩])
(.seq (.seq (.reg [⟨(some 4), none, false, .mov (.t 0), []⟩,
 ⟨(some 5), none, false, .slen (.t 4), [4]⟩,
 ⟨(some 6), none, false, .bin .lss (.t 5) (.k (intV 1)), [5]⟩,
 ⟨(some 7), none, true, .mov (.t 6), [6]⟩,
 ⟨(some 8), (some (7, false)), false, .mov (.t 0), []⟩,
 ⟨(some 9), (some (7, false)), false, .slen (.t 8), [8]⟩,
 ⟨(some 10), (some (7, false)), false, .bin .gtr (.t 9) (.k (intV 40)), [9]⟩,
 ⟨(some 11), none, false, .pick (.t 7) (.k (boolV true)) (.t 10), [7, 10, 9, 9, 8, 8]⟩])
(.cond (.t 11)
(.seq (.reg [⟨(some 2), none, false, .mov (.k (intV 3)), [0, 11]⟩])
(.ret))
(.skip)))
(.seq (.seq (.reg [⟨(some 3), none, false, .mov (.k (intV 0)), [2, 11]⟩])
(.block 0 (.loop [0, 3] c_ref06_Name_L0)))
(.seq (.reg [⟨(some 2), none, false, .mov (.k (intV 0)), [0, 3]⟩])
(.ret)))),
 [.tmp 2]⟩
def o_ref06_Name : List (Nat × List Nat) := []
theorem c_ref06_Name_ok : cFun Tryz.prog o_ref06_Name 48 = some c_ref06_Name.erase := by kernel_rfl

/- ref34_Col -/
def c_ref34_Col_L0 : ACode := (.seq (.seq (.reg [⟨(some 6), none, false, .mov (.t 5), []⟩,
 ⟨(some 7), none, false, .fa 0 (.t 2), []⟩,
 ⟨(some 8), none, false, .ld false 1 (.t 7), [7]⟩,
 ⟨(some 9), none, false, .len (.t 8), [8]⟩,
 ⟨(some 10), none, false, .bin .lss (.t 6) (.t 9), [6, 9]⟩])
(.cond (.t 10)
(.skip)
(.exit 0)))
(.seq (.block 1 (.seq (.reg [⟨(some 13), none, false, .fa 0 (.t 2), [10]⟩,
 ⟨(some 14), none, false, .ld false 1 (.t 13), [13]⟩,
 ⟨(some 15), none, false, .mov (.t 5), []⟩,
 ⟨(some 16), none, false, .ia 2 (.t 14) (.t 15), [14, 15]⟩,
 ⟨(some 17), none, false, .fa 0 (.t 16), [16]⟩,
 ⟨(some 18), none, false, .ld false 1 (.t 17), [17]⟩,
 ⟨(some 19), none, false, .mov (.t 1), []⟩,
 ⟨(some 20), none, false, .bin .eql (.t 18) (.t 19), [18, 19]⟩])
(.cond (.t 20)
(.seq (.reg [⟨(some 21), none, false, .mov (.t 5), [1, 2, 5, 20]⟩,
 ⟨(some 4), none, false, .mov (.t 21), [21]⟩])
(.ret))
(.skip))))
(.reg [⟨(some 11), none, false, .mov (.t 5), [4, 5, 20, 10]⟩,
 ⟨(some 12), none, false, .bin .add (.t 11) (.k (intV 1)), [11]⟩,
 ⟨(some 5), none, false, .mov (.t 12), [12]⟩])))
def c_ref34_Col : AFun := ⟨.seq (.reg [⟨(some 2), none, false, .bx (.t 0), [0]⟩,
 ⟨(some 4), none, false, .mov (.k (intV 0)), [4]⟩])
(.seq (.seq (.reg [⟨(some 5), none, false, .mov (.k (intV 0)), []⟩])
(.block 0 (.loop [1, 2, 5] c_ref34_Col_L0)))
(.seq (.reg [⟨(some 4), none, false, .mov (.k (intV (-1))), [1, 2, 5]⟩])
(.ret))),
 [.tmp 4]⟩
def o_ref34_Col : List (Nat × List Nat) := []
theorem c_ref34_Col_ok : cFun Tryz.prog o_ref34_Col 49 = some c_ref34_Col.erase := by kernel_rfl

/- ref33_Value -/
def c_ref33_Value : AFun := ⟨.seq (.reg [⟨(some 3), none, false, .bx (.t 1), [1]⟩,
 ⟨(some 4), none, false, .mov (.k (intV 0)), [4]⟩])
(.seq (.seq (.reg [⟨(some 5), none, false, .fa 0 (.t 3), []⟩,
 ⟨(some 6), none, false, .ld false 1 (.t 5), [5]⟩,
 ⟨(some 7), none, false, .bin .neq (.t 6) (.k (intV 0)), [6]⟩,
 ⟨(some 8), none, true, .mov (.t 7), [7]⟩,
 ⟨(some 9), (some (8, true)), false, .fa 0 (.t 3), []⟩,
 ⟨(some 10), (some (8, true)), false, .ld false 1 (.t 9), [9]⟩,
 ⟨(some 11), (some (8, true)), false, .mov (.t 0), []⟩,
 ⟨(some 12), (some (8, true)), false, .bin .neq (.t 10) (.t 11), [10, 11]⟩,
 ⟨(some 13), (some (8, true)), true, .mov (.t 12), [12]⟩,
 ⟨(some 14), (some (13, false)), false, .mov (.t 0), []⟩,
 ⟨(some 15), (some (13, false)), false, .bin .lss (.t 14) (.k (intV 1)), [14]⟩,
 ⟨(some 16), (some (8, true)), false, .pick (.t 13) (.k (boolV true)) (.t 15), [13, 15, 14, 14]⟩,
 ⟨(some 17), (some (8, true)), true, .mov (.t 16), [16]⟩,
 ⟨(some 18), (some (17, false)), false, .mov (.t 0), [0]⟩,
 ⟨(some 19), (some (17, false)), false, .bin .gtr (.t 18) (.k (intV 3)), [18]⟩,
 ⟨(some 20), (some (8, true)), false, .pick (.t 17) (.k (boolV true)) (.t 19), [17, 19, 18, 18, 0]⟩,
 ⟨(some 21), none, false, .pick (.t 8) (.t 20) (.k (boolV false)), [8, 20, 17, 19, 18, 18, 0, 19, 18, 18, 0, 17, 16, 16, 13, 15, 14, 14, 15, 14, 14, 13, 12, 12, 10, 11, 11, 10, 9, 9]⟩])
(.cond (.t 21)
(.seq (.reg [⟨(some 4), none, false, .mov (.k (intV 14)), [3, 21]⟩])
(.ret))
(.skip)))
(.seq (.seq (.reg [⟨(some 22), none, false, .fa 0 (.t 3), [4, 21]⟩,
 ⟨(some 23), none, false, .ld false 1 (.t 22), [22]⟩,
 ⟨(some 24), none, false, .bin .eql (.t 23) (.k (intV 1)), [23]⟩,
 ⟨(some 25), none, true, .mov (.t 24), [24]⟩,
 ⟨(some 26), (some (25, true)), false, .fa 1 (.t 3), []⟩,
 ⟨(some 27), (some (25, true)), false, .ld false 1 (.t 26), [26]⟩,
 ⟨(some 28), (some (25, true)), false, .bin .lss (.t 27) (.k (intV 0)), [27]⟩,
 ⟨(some 29), (some (25, true)), true, .mov (.t 28), [28]⟩,
 ⟨(some 30), (some (29, false)), false, .fa 1 (.t 3), []⟩,
 ⟨(some 31), (some (29, false)), false, .ld false 1 (.t 30), [30]⟩,
 ⟨(some 32), (some (29, false)), false, .bin .gtr (.t 31) (.k (intV 1)), [31]⟩,
 ⟨(some 33), (some (25, true)), false, .pick (.t 29) (.k (boolV true)) (.t 32), [29, 32, 31, 31, 30, 30]⟩,
 ⟨(some 34), none, false, .pick (.t 25) (.t 33) (.k (boolV false)), [25, 33, 29, 32, 31, 31, 30, 30, 32, 31, 31, 30, 30, 29, 28, 28, 27, 27, 26, 26]⟩,
 ⟨(some 35), none, true, .mov (.t 34), [34]⟩,
 ⟨(some 36), (some (35, false)), false, .fa 0 (.t 3), []⟩,
 ⟨(some 37), (some (35, false)), false, .ld false 1 (.t 36), [36]⟩,
 ⟨(some 38), (some (35, false)), false, .bin .eql (.t 37) (.k (intV 2)), [37]⟩,
 ⟨(some 39), (some (35, false)), true, .mov (.t 38), [38]⟩,
 ⟨(some 40), (some (39, true)), false, .fa 1 (.t 3), []⟩,
 ⟨(some 41), (some (39, true)), false, .ld false 1 (.t 40), [40]⟩,
 ⟨(some 42), (some (39, true)), false, .call 70 [(.t 41)], [41]⟩,
 ⟨(some 43), (some (39, true)), false, .bnot (.t 42), [42]⟩,
 ⟨(some 44), (some (35, false)), false, .pick (.t 39) (.t 43) (.k (boolV false)), [39, 43, 42, 42, 41, 41, 40, 40]⟩,
 ⟨(some 45), none, false, .pick (.t 35) (.k (boolV true)) (.t 44), [35, 44, 39, 43, 42, 42, 41, 41, 40, 40, 43, 42, 42, 41, 41, 40, 40, 39, 38, 38, 37, 37, 36, 36]⟩])
(.cond (.t 45)
(.seq (.reg [⟨(some 4), none, false, .mov (.k (intV 2)), [3, 45]⟩])
(.ret))
(.skip)))
(.seq (.seq (.reg [⟨(some 46), none, false, .fa 0 (.t 3), [4, 45]⟩,
 ⟨(some 47), none, false, .ld false 1 (.t 46), [46]⟩,
 ⟨(some 48), none, false, .bin .eql (.t 47) (.k (intV 3)), [47]⟩,
 ⟨(some 49), none, true, .mov (.t 48), [48]⟩,
 ⟨(some 50), (some (49, true)), false, .fa 2 (.t 3), []⟩,
 ⟨(some 51), (some (49, true)), false, .ld false 1 (.t 50), [50]⟩,
 ⟨(some 52), (some (49, true)), false, .slen (.t 51), [51]⟩,
 ⟨(some 53), (some (49, true)), false, .bin .gtr (.t 52) (.k (intV 200)), [52]⟩,
 ⟨(some 54), none, false, .pick (.t 49) (.t 53) (.k (boolV false)), [49, 53, 52, 52, 51, 51, 50, 50]⟩])
(.cond (.t 54)
(.seq (.reg [⟨(some 4), none, false, .mov (.k (intV 7)), [3, 54]⟩])
(.ret))
(.skip)))
(.seq (.seq (.reg [⟨(some 55), none, false, .fa 0 (.t 3), [4, 54]⟩,
 ⟨(some 56), none, false, .ld false 1 (.t 55), [55]⟩,
 ⟨(some 57), none, false, .bin .neq (.t 56) (.k (intV 3)), [56]⟩,
 ⟨(some 58), none, true, .mov (.t 57), [57]⟩,
 ⟨(some 59), (some (58, true)), false, .fa 2 (.t 3), []⟩,
 ⟨(some 60), (some (58, true)), false, .ld false 1 (.t 59), [59]⟩,
 ⟨(some 61), (some (58, true)), false, .bin .neq (.t 60) (.k (.w (.c (.d (.lit (.string ⟨#[]⟩)))))), [60]⟩,
 ⟨(some 62), none, false, .pick (.t 58) (.t 61) (.k (boolV false)), [58, 61, 60, 60, 59, 59]⟩,
 ⟨(some 63), none, true, .mov (.t 62), [62]⟩,
 ⟨(some 64), (some (63, false)), false, .fa 0 (.t 3), []⟩,
 ⟨(some 65), (some (63, false)), false, .ld false 1 (.t 64), [64]⟩,
 ⟨(some 66), (some (63, false)), false, .bin .eql (.t 65) (.k (intV 0)), [65]⟩,
 ⟨(some 67), (some (63, false)), true, .mov (.t 66), [66]⟩,
 ⟨(some 68), (some (67, false)), false, .fa 0 (.t 3), []⟩,
 ⟨(some 69), (some (67, false)), false, .ld false 1 (.t 68), [68]⟩,
 ⟨(some 70), (some (67, false)), false, .bin .eql (.t 69) (.k (intV 3)), [69]⟩,
 ⟨(some 71), (some (63, false)), false, .pick (.t 67) (.k (boolV true)) (.t 70), [67, 70, 69, 69, 68, 68]⟩,
 ⟨(some 72), (some (63, false)), true, .mov (.t 71), [71]⟩,
 ⟨(some 73), (some (72, true)), false, .fa 1 (.t 3), [3]⟩,
 ⟨(some 74), (some (72, true)), false, .ld false 1 (.t 73), [73]⟩,
 ⟨(some 75), (some (72, true)), false, .bin .neq (.t 74) (.k (intV 0)), [74]⟩,
 ⟨(some 76), (some (63, false)), false, .pick (.t 72) (.t 75) (.k (boolV false)), [72, 75, 74, 74, 73, 73, 3]⟩,
 ⟨(some 77), none, false, .pick (.t 63) (.k (boolV true)) (.t 76), [63, 76, 72, 75, 74, 74, 73, 73, 3, 75, 74, 74, 73, 73, 3, 72, 71, 71, 67, 70, 69, 69, 68, 68, 70, 69, 69, 68, 68, 67, 66, 66, 65, 65, 64, 64]⟩])
(.cond (.t 77)
(.seq (.reg [⟨(some 4), none, false, .mov (.k (intV 1)), [77]⟩])
(.ret))
(.skip)))
(.seq (.reg [⟨(some 4), none, false, .mov (.k (intV 0)), [77]⟩])
(.ret)))))),
 [.tmp 4]⟩
def o_ref33_Value : List (Nat × List Nat) := []
theorem c_ref33_Value_ok : cFun Tryz.prog o_ref33_Value 50 = some c_ref33_Value.erase := by kernel_rfl

/- ref34_Order -/
def c_ref34_Order : AFun := ⟨.seq (.reg [⟨(some 2), none, false, .bx (.t 0), [0]⟩,
 ⟨(some 3), none, false, .bx (.t 1), [1]⟩,
 ⟨(some 4), none, false, .mov (.k (intV 0)), [4]⟩])
(.seq (.block 0 (.seq (.reg [⟨(some 6), none, false, .fa 0 (.t 2), []⟩,
 ⟨(some 7), none, false, .ld false 1 (.t 6), [6]⟩,
 ⟨(some 8), none, false, .fa 0 (.t 3), []⟩,
 ⟨(some 9), none, false, .ld false 1 (.t 8), [8]⟩,
 ⟨(some 10), none, false, .bin .neq (.t 7) (.t 9), [7, 9]⟩,
 ⟨(some 5), none, false, .mov (.t 10), [10]⟩])
(.cond (.t 5)
(.seq (.reg [⟨(some 11), none, false, .fa 0 (.t 2), [2, 5]⟩,
 ⟨(some 12), none, false, .ld false 1 (.t 11), [11]⟩,
 ⟨(some 13), none, false, .fa 0 (.t 3), [3]⟩,
 ⟨(some 14), none, false, .ld false 1 (.t 13), [13]⟩,
 ⟨(some 15), none, false, .call 71 [(.t 12), (.t 14)], [12, 14]⟩,
 ⟨(some 4), none, false, .mov (.t 15), [15]⟩])
(.ret))
(.seq (.reg [⟨(some 17), none, false, .fa 0 (.t 2), [5]⟩,
 ⟨(some 18), none, false, .ld false 1 (.t 17), [17]⟩,
 ⟨(some 19), none, false, .bin .eql (.t 18) (.k (intV 1)), [18]⟩,
 ⟨(some 20), none, true, .mov (.t 19), [19]⟩,
 ⟨(some 21), (some (20, false)), false, .fa 0 (.t 2), []⟩,
 ⟨(some 22), (some (20, false)), false, .ld false 1 (.t 21), [21]⟩,
 ⟨(some 23), (some (20, false)), false, .bin .eql (.t 22) (.k (intV 2)), [22]⟩,
 ⟨(some 24), none, false, .pick (.t 20) (.k (boolV true)) (.t 23), [20, 23, 22, 22, 21, 21]⟩,
 ⟨(some 16), none, false, .mov (.t 24), [24]⟩])
(.cond (.t 16)
(.seq (.reg [⟨(some 25), none, false, .fa 1 (.t 2), [2, 16]⟩,
 ⟨(some 26), none, false, .ld false 1 (.t 25), [25]⟩,
 ⟨(some 27), none, false, .fa 1 (.t 3), [3]⟩,
 ⟨(some 28), none, false, .ld false 1 (.t 27), [27]⟩,
 ⟨(some 29), none, false, .call 71 [(.t 26), (.t 28)], [26, 28]⟩,
 ⟨(some 4), none, false, .mov (.t 29), [29]⟩])
(.ret))
(.seq (.reg [⟨(some 31), none, false, .fa 0 (.t 2), [16]⟩,
 ⟨(some 32), none, false, .ld false 1 (.t 31), [31]⟩,
 ⟨(some 33), none, false, .bin .neq (.t 32) (.k (intV 3)), [32]⟩,
 ⟨(some 34), none, true, .mov (.t 33), [33]⟩,
 ⟨(some 35), (some (34, false)), false, .fa 2 (.t 2), []⟩,
 ⟨(some 36), (some (34, false)), false, .ld false 1 (.t 35), [35]⟩,
 ⟨(some 37), (some (34, false)), false, .fa 2 (.t 3), []⟩,
 ⟨(some 38), (some (34, false)), false, .ld false 1 (.t 37), [37]⟩,
 ⟨(some 39), (some (34, false)), false, .bin .eql (.t 36) (.t 38), [36, 38]⟩,
 ⟨(some 40), none, false, .pick (.t 34) (.k (boolV true)) (.t 39), [34, 39, 36, 38, 38, 37, 37, 36, 35, 35]⟩,
 ⟨(some 30), none, false, .mov (.t 40), [40]⟩])
(.cond (.t 30)
(.seq (.reg [⟨(some 4), none, false, .mov (.k (intV 0)), [2, 3, 30]⟩])
(.ret))
(.seq (.reg [⟨(some 42), none, false, .fa 2 (.t 2), [2, 30]⟩,
 ⟨(some 43), none, false, .ld false 1 (.t 42), [42]⟩,
 ⟨(some 44), none, false, .fa 2 (.t 3), [3]⟩,
 ⟨(some 45), none, false, .ld false 1 (.t 44), [44]⟩,
 ⟨(some 46), none, false, .bin .lss (.t 43) (.t 45), [43, 45]⟩,
 ⟨(some 41), none, false, .mov (.t 46), [46]⟩])
(.cond (.t 41)
(.seq (.reg [⟨(some 4), none, false, .mov (.k (intV (-1))), [41]⟩])
(.ret))
(.skip))))))))))
(.seq (.reg [⟨(some 4), none, false, .mov (.k (intV 1)), [41, 2, 3]⟩])
(.ret))),
 [.tmp 4]⟩
def o_ref34_Order : List (Nat × List Nat) := []
theorem c_ref34_Order_ok : cFun Tryz.prog o_ref34_Order 51 = some c_ref34_Order.erase := by kernel_rfl

/- slices_CompareFunc_Value -/
def c_slices_CompareFunc_Value_L0 : ACode := (.seq (.reg [⟨(some 14), none, false, .bin .lss (.t 13) (.t 12), []⟩])
(.seq (.cond (.t 14)
(.skip)
(.exit 0))
(.seq (.block 1 (.seq (.reg [⟨(some 15), none, false, .mov (.t 13), [14]⟩,
 ⟨(some 16), none, false, .ia 3 (.t 11) (.t 13), []⟩,
 ⟨(some 17), none, false, .ld true 3 (.t 16), [16]⟩,
 ⟨(some 8), none, false, .alloc [(.d (.lit (.int .i64 0))), (.d (.lit (.int .i64 0))), (.d (.lit (.string ⟨#[]⟩)))], []⟩,
 ⟨(some 7), none, false, .mov (.t 15), [15]⟩,
 ⟨none, none, false, .st 3 (.t 8) (.t 17), [17]⟩])
(.seq (.seq (.reg [⟨(some 18), none, false, .mov (.t 7), []⟩,
 ⟨(some 19), none, false, .mov (.t 1), []⟩,
 ⟨(some 20), none, false, .len (.t 19), [19]⟩,
 ⟨(some 21), none, false, .bin .geq (.t 18) (.t 20), [18, 20]⟩])
(.cond (.t 21)
(.seq (.reg [⟨(some 6), none, false, .mov (.k (intV 1)), [0, 1, 2, 11, 12, 13, 8, 7, 21]⟩])
(.ret))
(.skip)))
(.seq (.reg [⟨(some 22), none, false, .mov (.t 1), [6, 21]⟩,
 ⟨(some 23), none, false, .mov (.t 7), [7]⟩,
 ⟨(some 24), none, false, .ia 3 (.t 22) (.t 23), [22, 23]⟩,
 ⟨(some 25), none, false, .ld true 3 (.t 24), [24]⟩,
 ⟨(some 9), none, false, .alloc [(.d (.lit (.int .i64 0))), (.d (.lit (.int .i64 0))), (.d (.lit (.string ⟨#[]⟩)))], []⟩,
 ⟨none, none, false, .st 3 (.t 9) (.t 25), [25]⟩])
(.seq (.reg [⟨(some 26), none, false, .mov (.t 2), []⟩,
 ⟨(some 27), none, false, .ld true 3 (.t 8), [8]⟩,
 ⟨(some 28), none, false, .ld true 3 (.t 9), [9]⟩,
 ⟨(some 29), none, false, .calv (.t 26) [(.t 27), (.t 28)], [26, 27, 28]⟩,
 ⟨(some 10), none, false, .mov (.t 29), [29]⟩])
(.seq (.reg [⟨(some 30), none, false, .mov (.t 10), []⟩,
 ⟨(some 31), none, false, .bin .neq (.t 30) (.k (intV 0)), [30]⟩])
(.cond (.t 31)
(.seq (.reg [⟨(some 32), none, false, .mov (.t 10), [0, 1, 2, 11, 12, 13, 10, 31]⟩,
 ⟨(some 6), none, false, .mov (.t 32), [32]⟩])
(.ret))
(.skip))))))))
(.reg [⟨(some 33), none, false, .bin .add (.t 13) (.k (intV 1)), [6, 13, 10, 31, 14]⟩,
 ⟨(some 13), none, false, .mov (.t 33), [33]⟩]))))
def c_slices_CompareFunc_Value : AFun := ⟨.seq (.reg [⟨(some 6), none, false, .mov (.k (intV 0)), [6]⟩])
(.seq (.seq (.reg [⟨(some 11), none, false, .mov (.t 0), []⟩,
 ⟨(some 12), none, false, .len (.t 11), []⟩,
 ⟨(some 13), none, false, .mov (.k (intV 0)), []⟩])
(.block 0 (.loop [0, 1, 2, 11, 12, 13] c_slices_CompareFunc_Value_L0)))
(.seq (.seq (.reg [⟨(some 34), none, false, .mov (.t 0), [0, 2, 11, 12, 13]⟩,
 ⟨(some 35), none, false, .len (.t 34), [34]⟩,
 ⟨(some 36), none, false, .mov (.t 1), [1]⟩,
 ⟨(some 37), none, false, .len (.t 36), [36]⟩,
 ⟨(some 38), none, false, .bin .lss (.t 35) (.t 37), [35, 37]⟩])
(.cond (.t 38)
(.seq (.reg [⟨(some 6), none, false, .mov (.k (intV (-1))), [38]⟩])
(.ret))
(.skip)))
(.seq (.reg [⟨(some 6), none, false, .mov (.k (intV 0)), [38]⟩])
(.ret)))),
 [.tmp 6]⟩
def o_slices_CompareFunc_Value : List (Nat × List Nat) := []
theorem c_slices_CompareFunc_Value_ok : cFun Tryz.prog o_slices_CompareFunc_Value 52 = some c_slices_CompareFunc_Value.erase := by kernel_rfl

/- table_Order -/
def c_table_Order : AFun := ⟨.seq (.reg [⟨(some 2), none, false, .bx (.t 0), [0]⟩,
 ⟨(some 3), none, false, .bx (.t 1), [1]⟩,
 ⟨(some 4), none, false, .mov (.k (intV 0)), [4]⟩])
(.seq (.block 0 (.seq (.reg [⟨(some 6), none, false, .fa 0 (.t 2), []⟩,
 ⟨(some 7), none, false, .ld false 1 (.t 6), [6]⟩,
 ⟨(some 8), none, false, .fa 0 (.t 3), []⟩,
 ⟨(some 9), none, false, .ld false 1 (.t 8), [8]⟩,
 ⟨(some 10), none, false, .bin .neq (.t 7) (.t 9), [7, 9]⟩,
 ⟨(some 5), none, false, .mov (.t 10), [10]⟩])
(.cond (.t 5)
(.seq (.reg [⟨(some 11), none, false, .fa 0 (.t 2), [2, 5]⟩,
 ⟨(some 12), none, false, .ld false 1 (.t 11), [11]⟩,
 ⟨(some 13), none, false, .fa 0 (.t 3), [3]⟩,
 ⟨(some 14), none, false, .ld false 1 (.t 13), [13]⟩,
 ⟨(some 15), none, false, .call 72 [(.t 12), (.t 14)], [12, 14]⟩,
 ⟨(some 4), none, false, .mov (.t 15), [15]⟩])
(.ret))
(.seq (.reg [⟨(some 17), none, false, .fa 0 (.t 2), [5]⟩,
 ⟨(some 18), none, false, .ld false 1 (.t 17), [17]⟩,
 ⟨(some 19), none, false, .bin .eql (.t 18) (.k (intV 3)), [18]⟩,
 ⟨(some 16), none, false, .mov (.t 19), [19]⟩])
(.cond (.t 16)
(.seq (.reg [⟨(some 20), none, false, .fa 2 (.t 2), [2, 16]⟩,
 ⟨(some 21), none, false, .ld false 1 (.t 20), [20]⟩,
 ⟨(some 22), none, false, .fa 2 (.t 3), [3]⟩,
 ⟨(some 23), none, false, .ld false 1 (.t 22), [22]⟩,
 ⟨(some 24), none, false, .call 73 [(.t 21), (.t 23)], [21, 23]⟩,
 ⟨(some 4), none, false, .mov (.t 24), [24]⟩])
(.ret))
(.seq (.reg [⟨(some 26), none, false, .fa 0 (.t 2), [16]⟩,
 ⟨(some 27), none, false, .ld false 1 (.t 26), [26]⟩,
 ⟨(some 28), none, false, .bin .eql (.t 27) (.k (intV 1)), [27]⟩,
 ⟨(some 29), none, true, .mov (.t 28), [28]⟩,
 ⟨(some 30), (some (29, false)), false, .fa 0 (.t 2), []⟩,
 ⟨(some 31), (some (29, false)), false, .ld false 1 (.t 30), [30]⟩,
 ⟨(some 32), (some (29, false)), false, .bin .eql (.t 31) (.k (intV 2)), [31]⟩,
 ⟨(some 33), none, false, .pick (.t 29) (.k (boolV true)) (.t 32), [29, 32, 31, 31, 30, 30]⟩,
 ⟨(some 25), none, false, .mov (.t 33), [33]⟩])
(.cond (.t 25)
(.seq (.reg [⟨(some 34), none, false, .fa 1 (.t 2), [2, 25]⟩,
 ⟨(some 35), none, false, .ld false 1 (.t 34), [34]⟩,
 ⟨(some 36), none, false, .fa 1 (.t 3), [3]⟩,
 ⟨(some 37), none, false, .ld false 1 (.t 36), [36]⟩,
 ⟨(some 38), none, false, .call 74 [(.t 35), (.t 37)], [35, 37]⟩,
 ⟨(some 4), none, false, .mov (.t 38), [38]⟩])
(.ret))
(.skip))))))))
(.seq (.reg [⟨(some 4), none, false, .mov (.k (intV 0)), [2, 3, 25]⟩])
(.ret))),
 [.tmp 4]⟩
def o_table_Order : List (Nat × List Nat) := []
theorem c_table_Order_ok : cFun Tryz.prog o_table_Order 53 = some c_table_Order.erase := by kernel_rfl

/- math_bits_Mul -/
def c_math_bits_Mul : AFun := ⟨.seq (.reg [⟨(some 4), none, false, .mov (.k (.w (.c (.d (.lit (.int .u64 0)))))), [4]⟩,
 ⟨(some 5), none, false, .mov (.k (.w (.c (.d (.lit (.int .u64 0)))))), [5]⟩])
(.seq (.cond (.k (boolV false))
(.seq (.reg [⟨(some 11), none, false, .mov (.t 0), [0]⟩,
 ⟨(some 12), none, false, .conv .u32 (.t 11), [11]⟩,
 ⟨(some 13), none, false, .mov (.t 1), [1]⟩,
 ⟨(some 14), none, false, .conv .u32 (.t 13), [13]⟩,
 ⟨(some 15), none, false, .call 75 [(.t 12), (.t 14)], [12, 14]⟩,
 ⟨(some 10), none, false, .mov (.t 15), [15]⟩,
 ⟨(some 16), none, false, .ext (.t 10) 0, []⟩,
 ⟨(some 17), none, false, .ext (.t 10) 1, [10]⟩,
 ⟨(some 6), none, false, .mov (.t 16), [16]⟩,
 ⟨(some 7), none, false, .mov (.t 17), [17]⟩])
(.seq (.reg [⟨(some 18), none, false, .mov (.t 6), [6]⟩,
 ⟨(some 19), none, false, .conv .u64 (.t 18), [18]⟩,
 ⟨(some 20), none, false, .mov (.t 7), [7]⟩,
 ⟨(some 21), none, false, .conv .u64 (.t 20), [20]⟩,
 ⟨(some 4), none, false, .mov (.t 19), [19]⟩,
 ⟨(some 5), none, false, .mov (.t 21), [21]⟩])
(.ret)))
(.skip))
(.seq (.reg [⟨(some 23), none, false, .mov (.t 0), [4, 5, 0]⟩,
 ⟨(some 24), none, false, .mov (.t 1), [1]⟩,
 ⟨(some 25), none, false, .call 76 [(.t 23), (.t 24)], [23, 24]⟩,
 ⟨(some 22), none, false, .mov (.t 25), [25]⟩,
 ⟨(some 26), none, false, .ext (.t 22) 0, []⟩,
 ⟨(some 27), none, false, .ext (.t 22) 1, [22]⟩,
 ⟨(some 8), none, false, .mov (.t 26), [26]⟩,
 ⟨(some 9), none, false, .mov (.t 27), [27]⟩])
(.seq (.reg [⟨(some 28), none, false, .mov (.t 8), [8]⟩,
 ⟨(some 29), none, false, .mov (.t 9), [9]⟩,
 ⟨(some 4), none, false, .mov (.t 28), [28]⟩,
 ⟨(some 5), none, false, .mov (.t 29), [29]⟩])
(.ret)))),
 [.tmp 4, .tmp 5]⟩
def o_math_bits_Mul : List (Nat × List Nat) := []
theorem c_math_bits_Mul_ok : cFun Tryz.prog o_math_bits_Mul 54 = some c_math_bits_Mul.erase := by kernel_rfl

/- ref45_values -/
def c_ref45_values_L0 : ACode := (.seq (.seq (.reg [⟨(some 12), none, false, .mov (.t 5), []⟩,
 ⟨(some 13), none, false, .mov (.t 1), []⟩,
 ⟨(some 14), none, false, .len (.t 13), [13]⟩,
 ⟨(some 15), none, false, .bin .lss (.t 12) (.t 14), [12, 14]⟩])
(.cond (.t 15)
(.skip)
(.exit 0)))
(.seq (.block 1 (.seq (.reg [⟨(some 18), none, false, .mov (.t 0), [15]⟩,
 ⟨(some 19), none, false, .mov (.t 5), []⟩,
 ⟨(some 20), none, false, .ia 2 (.t 18) (.t 19), [18, 19]⟩,
 ⟨(some 21), none, false, .fa 1 (.t 20), [20]⟩,
 ⟨(some 22), none, false, .ld false 1 (.t 21), [21]⟩,
 ⟨(some 23), none, false, .mov (.t 1), []⟩,
 ⟨(some 24), none, false, .mov (.t 5), []⟩,
 ⟨(some 25), none, false, .ia 3 (.t 23) (.t 24), [23, 24]⟩,
 ⟨(some 26), none, false, .ld true 3 (.t 25), [25]⟩,
 ⟨(some 27), none, false, .call 50 [(.t 22), (.t 26)], [22, 26]⟩,
 ⟨(some 6), none, false, .mov (.t 27), [27]⟩])
(.seq (.reg [⟨(some 28), none, false, .mov (.t 6), []⟩,
 ⟨(some 29), none, false, .bin .neq (.t 28) (.k (intV 0)), [28]⟩])
(.cond (.t 29)
(.seq (.reg [⟨(some 30), none, false, .mov (.t 6), [0, 1, 5, 6, 29]⟩,
 ⟨(some 4), none, false, .mov (.t 30), [30]⟩])
(.ret))
(.skip)))))
(.reg [⟨(some 16), none, false, .mov (.t 5), [4, 5, 6, 29, 15]⟩,
 ⟨(some 17), none, false, .bin .add (.t 16) (.k (intV 1)), [16]⟩,
 ⟨(some 5), none, false, .mov (.t 17), [17]⟩])))
def c_ref45_values : AFun := ⟨.seq (.reg [⟨(some 4), none, false, .mov (.k (intV 0)), [4]⟩])
(.seq (.seq (.reg [⟨(some 7), none, false, .mov (.t 1), []⟩,
 ⟨(some 8), none, false, .len (.t 7), [7]⟩,
 ⟨(some 9), none, false, .mov (.t 0), []⟩,
 ⟨(some 10), none, false, .len (.t 9), [9]⟩,
 ⟨(some 11), none, false, .bin .neq (.t 8) (.t 10), [8, 10]⟩])
(.cond (.t 11)
(.seq (.reg [⟨(some 4), none, false, .mov (.k (intV 10)), [0, 1, 11]⟩])
(.ret))
(.skip)))
(.seq (.seq (.reg [⟨(some 5), none, false, .mov (.k (intV 0)), [4, 11]⟩])
(.block 0 (.loop [0, 1, 5] c_ref45_values_L0)))
(.seq (.reg [⟨(some 4), none, false, .mov (.k (intV 0)), [0, 1, 5]⟩])
(.ret)))),
 [.tmp 4]⟩
def o_ref45_values : List (Nat × List Nat) := [(6, [0, 1, 2, 3, 4, 5, 6, 7, 8, 9, 10])]
theorem c_ref45_values_ok : cFun Tryz.prog o_ref45_values 55 = some c_ref45_values.erase := by kernel_rfl

/- syntax_identifier -/
def c_syntax_identifier_L0 : ACode := (.seq (.reg [⟨(some 25), none, false, .bin .lss (.t 24) (.t 23), []⟩])
(.seq (.cond (.t 25)
(.skip)
(.exit 0))
(.seq (.block 1 (.seq (.reg [⟨(some 26), none, false, .mov (.t 24), [25]⟩,
 ⟨(some 3), none, false, .mov (.t 26), [26]⟩])
(.seq (.reg [⟨(some 27), none, false, .mov (.t 0), []⟩,
 ⟨(some 28), none, false, .mov (.t 3), [3]⟩,
 ⟨(some 29), none, false, .six (.t 27) (.t 28), [27, 28]⟩,
 ⟨(some 4), none, false, .mov (.t 29), [29]⟩])
(.seq (.reg [⟨(some 30), none, false, .mov (.t 4), []⟩,
 ⟨(some 31), none, false, .bin .lss (.t 30) (.k (.w (.c (.d (.lit (.int .u8 97)))))), [30]⟩,
 ⟨(some 32), none, true, .mov (.t 31), [31]⟩,
 ⟨(some 33), (some (32, false)), false, .mov (.t 4), []⟩,
 ⟨(some 34), (some (32, false)), false, .bin .gtr (.t 33) (.k (.w (.c (.d (.lit (.int .u8 122)))))), [33]⟩,
 ⟨(some 35), none, false, .pick (.t 32) (.k (boolV true)) (.t 34), [32, 34, 33, 33]⟩,
 ⟨(some 36), none, true, .mov (.t 35), [35]⟩,
 ⟨(some 37), (some (36, true)), false, .mov (.t 4), []⟩,
 ⟨(some 38), (some (36, true)), false, .bin .lss (.t 37) (.k (.w (.c (.d (.lit (.int .u8 48)))))), [37]⟩,
 ⟨(some 39), (some (36, true)), true, .mov (.t 38), [38]⟩,
 ⟨(some 40), (some (39, false)), false, .mov (.t 4), []⟩,
 ⟨(some 41), (some (39, false)), false, .bin .gtr (.t 40) (.k (.w (.c (.d (.lit (.int .u8 57)))))), [40]⟩,
 ⟨(some 42), (some (36, true)), false, .pick (.t 39) (.k (boolV true)) (.t 41), [39, 41, 40, 40]⟩,
 ⟨(some 43), none, false, .pick (.t 36) (.t 42) (.k (boolV false)), [36, 42, 39, 41, 40, 40, 41, 40, 40, 39, 38, 38, 37, 37]⟩,
 ⟨(some 44), none, true, .mov (.t 43), [43]⟩,
 ⟨(some 45), (some (44, true)), false, .mov (.t 4), [4]⟩,
 ⟨(some 46), (some (44, true)), false, .bin .neq (.t 45) (.k (.w (.c (.d (.lit (.int .u8 95)))))), [45]⟩,
 ⟨(some 47), none, false, .pick (.t 44) (.t 46) (.k (boolV false)), [44, 46, 45, 45, 4]⟩])
(.cond (.t 47)
(.seq (.reg [⟨(some 2), none, false, .mov (.k (boolV false)), [0, 23, 24, 47]⟩])
(.ret))
(.skip))))))
(.reg [⟨(some 48), none, false, .bin .add (.t 24) (.k (intV 1)), [2, 24, 47, 25]⟩,
 ⟨(some 24), none, false, .mov (.t 48), [48]⟩]))))
def c_syntax_identifier : AFun := ⟨.seq (.reg [⟨(some 2), none, false, .mov (.k (boolV false)), [2]⟩])
(.seq (.seq (.reg [⟨(some 5), none, false, .mov (.t 0), []⟩,
 ⟨(some 6), none, false, .bin .eql (.t 5) (.k (.w (.c (.d (.lit (.string ⟨#[]⟩)))))), [5]⟩,
 ⟨(some 7), none, true, .mov (.t 6), [6]⟩,
 ⟨(some 8), (some (7, false)), false, .mov (.t 0), []⟩,
 ⟨(some 9), (some (7, false)), false, .slen (.t 8), [8]⟩,
 ⟨(some 10), (some (7, false)), false, .bin .gtr (.t 9) (.k (intV 40)), [9]⟩,
 ⟨(some 11), none, false, .pick (.t 7) (.k (boolV true)) (.t 10), [7, 10, 9, 9, 8, 8]⟩,
 ⟨(some 12), none, true, .mov (.t 11), [11]⟩,
 ⟨(some 13), (some (12, false)), false, .mov (.t 0), []⟩,
 ⟨(some 14), (some (12, false)), false, .six (.t 13) (.k (intV 0)), [13]⟩,
 ⟨(some 15), (some (12, false)), false, .bin .lss (.t 14) (.k (.w (.c (.d (.lit (.int .u8 97)))))), [14]⟩,
 ⟨(some 16), none, false, .pick (.t 12) (.k (boolV true)) (.t 15), [12, 15, 14, 14, 13, 13]⟩,
 ⟨(some 17), none, true, .mov (.t 16), [16]⟩,
 ⟨(some 18), (some (17, false)), false, .mov (.t 0), []⟩,
 ⟨(some 19), (some (17, false)), false, .six (.t 18) (.k (intV 0)), [18]⟩,
 ⟨(some 20), (some (17, false)), false, .bin .gtr (.t 19) (.k (.w (.c (.d (.lit (.int .u8 122)))))), [19]⟩,
 ⟨(some 21), none, false, .pick (.t 17) (.k (boolV true)) (.t 20), [17, 20, 19, 19, 18, 18]⟩])
(.cond (.t 21)
(.seq (.reg [⟨(some 2), none, false, .mov (.k (boolV false)), [0, 21]⟩])
(.ret))
(.skip)))
(.seq (.seq (.reg [⟨(some 22), none, false, .mov (.t 0), [2, 21]⟩,
 ⟨(some 23), none, false, .slen (.t 22), [22]⟩,
 ⟨(some 24), none, false, .mov (.k (intV 0)), []⟩])
(.block 0 (.loop [0, 23, 24] c_syntax_identifier_L0)))
(.seq (.reg [⟨(some 49), none, false, .lits 1 [(.k (.w (.c (.d (.lit (.string ⟨#[97, 110, 100]⟩)))))), (.k (.w (.c (.d (.lit (.string ⟨#[111, 114]⟩)))))), (.k (.w (.c (.d (.lit (.string ⟨#[110, 111, 116]⟩)))))), (.k (.w (.c (.d (.lit (.string ⟨#[110, 117, 108, 108]⟩)))))), (.k (.w (.c (.d (.lit (.string ⟨#[116, 114, 117, 101]⟩)))))), (.k (.w (.c (.d (.lit (.string ⟨#[102, 97, 108, 115, 101]⟩))))))], [23, 24]⟩,
 ⟨(some 50), none, false, .mov (.t 0), [0]⟩,
 ⟨(some 51), none, false, .call 77 [(.t 49), (.t 50)], [49, 50]⟩,
 ⟨(some 52), none, false, .bnot (.t 51), [51]⟩,
 ⟨(some 2), none, false, .mov (.t 52), [52]⟩])
(.ret)))),
 [.tmp 2]⟩
def o_syntax_identifier : List (Nat × List Nat) := []
theorem c_syntax_identifier_ok : cFun Tryz.prog o_syntax_identifier 56 = some c_syntax_identifier.erase := by kernel_rfl

/- syntax_Step -/
def c_syntax_Step_L0 : ACode := (.seq (.reg [⟨(some 40), none, false, .bin .lss (.t 39) (.t 38), []⟩])
(.seq (.cond (.t 40)
(.skip)
(.exit 1))
(.seq (.block 2 (.seq (.reg [⟨(some 41), none, false, .ia 2 (.t 37) (.t 39), [40]⟩,
 ⟨(some 42), none, false, .ld true 2 (.t 41), [41]⟩,
 ⟨(some 6), none, false, .alloc [(.d (.lit (.string ⟨#[]⟩))), (.d (.lit (.bool false)))], []⟩,
 ⟨none, none, false, .st 2 (.t 6) (.t 42), [42]⟩])
(.reg [⟨(some 43), none, false, .mov (.t 4), [4]⟩,
 ⟨(some 44), none, false, .fa 0 (.t 6), [6]⟩,
 ⟨(some 45), none, false, .ld false 1 (.t 44), [44]⟩,
 ⟨(some 46), none, false, .lits 1 [(.t 45)], [45]⟩,
 ⟨(some 47), none, false, .app 1 16 (.t 43) (.t 46), [43, 46]⟩,
 ⟨(some 4), none, false, .mov (.t 47), [47]⟩])))
(.reg [⟨(some 48), none, false, .bin .add (.t 39) (.k (intV 1)), [39, 40]⟩,
 ⟨(some 39), none, false, .mov (.t 48), [48]⟩]))))
def c_syntax_Step : AFun := ⟨.seq (.reg [⟨(some 1), none, false, .bx (.t 0), [0]⟩,
 ⟨(some 2), none, false, .mov (.k (intV 0)), [2]⟩])
(.seq (.seq (.reg [⟨(some 8), none, false, .ld true 13 (.t 1), []⟩,
 ⟨(some 9), none, false, .call 78 [(.t 8)], [8]⟩,
 ⟨(some 10), none, false, .bnot (.t 9), [9]⟩])
(.cond (.t 10)
(.seq (.reg [⟨(some 2), none, false, .mov (.k (intV 1)), [1, 10]⟩])
(.ret))
(.skip)))
(.seq (.seq (.reg [⟨(some 11), none, false, .fa 0 (.t 1), [2, 10]⟩,
 ⟨(some 12), none, false, .ld false 1 (.t 11), [11]⟩])
(.block 0 (.seq (.reg [⟨(some 14), none, false, .bin .eql (.t 12) (.k (intV 1)), []⟩,
 ⟨(some 13), none, false, .mov (.t 14), [14]⟩])
(.cond (.t 13)
(.seq (.reg [⟨(some 15), none, false, .fa 1 (.t 1), [1, 12, 13]⟩,
 ⟨(some 16), none, false, .ld true 6 (.t 15), [15]⟩,
 ⟨(some 17), none, false, .call 79 [(.t 16)], [16]⟩,
 ⟨(some 2), none, false, .mov (.t 17), [17]⟩])
(.ret))
(.seq (.reg [⟨(some 19), none, false, .bin .eql (.t 12) (.k (intV 2)), [13]⟩,
 ⟨(some 18), none, false, .mov (.t 19), [19]⟩])
(.cond (.t 18)
(.seq (.seq (.reg [⟨(some 20), none, false, .fa 7 (.t 1), [12, 18]⟩,
 ⟨(some 21), none, false, .ld false 1 (.t 20), [20]⟩,
 ⟨(some 22), none, false, .len (.t 21), [21]⟩,
 ⟨(some 23), none, false, .call 80 [(.t 22), (.k (intV 1))], [22]⟩,
 ⟨(some 3), none, false, .mov (.t 23), [23]⟩])
(.seq (.reg [⟨(some 24), none, false, .mov (.t 3), []⟩,
 ⟨(some 25), none, false, .bin .neq (.t 24) (.k (intV 0)), [24]⟩])
(.cond (.t 25)
(.seq (.reg [⟨(some 26), none, false, .mov (.t 3), [1, 3, 25]⟩,
 ⟨(some 2), none, false, .mov (.t 26), [26]⟩])
(.ret))
(.skip))))
(.seq (.reg [⟨(some 27), none, false, .fa 7 (.t 1), [2, 1, 3, 25]⟩,
 ⟨(some 28), none, false, .ld false 1 (.t 27), [27]⟩,
 ⟨(some 29), none, false, .call 81 [(.t 28)], [28]⟩,
 ⟨(some 2), none, false, .mov (.t 29), [29]⟩])
(.ret)))
(.seq (.reg [⟨(some 31), none, false, .bin .eql (.t 12) (.k (intV 3)), [18]⟩,
 ⟨(some 30), none, false, .mov (.t 31), [31]⟩])
(.cond (.t 30)
(.seq (.reg [⟨(some 32), none, false, .ld true 13 (.t 1), [1, 12, 30]⟩,
 ⟨(some 33), none, false, .call 82 [(.t 32)], [32]⟩,
 ⟨(some 2), none, false, .mov (.t 33), [33]⟩])
(.ret))
(.seq (.reg [⟨(some 35), none, false, .bin .eql (.t 12) (.k (intV 4)), [30]⟩,
 ⟨(some 34), none, false, .mov (.t 35), [35]⟩])
(.cond (.t 34)
(.seq (.reg [⟨(some 4), none, false, .mov (.k (.w (.c .nil))), [12, 34]⟩])
(.seq (.seq (.reg [⟨(some 36), none, false, .fa 10 (.t 1), [1]⟩,
 ⟨(some 37), none, false, .ld false 1 (.t 36), [36]⟩,
 ⟨(some 38), none, false, .len (.t 37), []⟩,
 ⟨(some 39), none, false, .mov (.k (intV 0)), []⟩])
(.block 1 (.loop [4, 37, 38, 39] c_syntax_Step_L0)))
(.seq (.reg [⟨(some 49), none, false, .mov (.t 4), [37, 38, 4, 39]⟩,
 ⟨(some 50), none, false, .call 83 [(.t 49), (.k (intV 1))], [49]⟩,
 ⟨(some 2), none, false, .mov (.t 50), [50]⟩])
(.ret))))
(.seq (.reg [⟨(some 52), none, false, .bin .eql (.t 12) (.k (intV 5)), [34]⟩,
 ⟨(some 51), none, false, .mov (.t 52), [52]⟩])
(.cond (.t 51)
(.seq (.seq (.reg [⟨(some 53), none, false, .fa 11 (.t 1), [12, 51]⟩,
 ⟨(some 54), none, false, .ld false 1 (.t 53), [53]⟩,
 ⟨(some 55), none, false, .bin .lss (.t 54) (.k (intV 0)), [54]⟩,
 ⟨(some 56), none, true, .mov (.t 55), [55]⟩,
 ⟨(some 57), (some (56, false)), false, .fa 11 (.t 1), [1]⟩,
 ⟨(some 58), (some (56, false)), false, .ld false 1 (.t 57), [57]⟩,
 ⟨(some 59), (some (56, false)), false, .bin .gtr (.t 58) (.k (intV 20000)), [58]⟩,
 ⟨(some 60), none, false, .pick (.t 56) (.k (boolV true)) (.t 59), [56, 59, 58, 58, 57, 57, 1]⟩])
(.cond (.t 60)
(.seq (.reg [⟨(some 2), none, false, .mov (.k (intV 2)), [60]⟩])
(.ret))
(.skip)))
(.seq (.reg [⟨(some 2), none, false, .mov (.k (intV 0)), [60]⟩])
(.ret)))
(.seq (.reg [⟨(some 62), none, false, .bin .eql (.t 12) (.k (intV 9)), [12, 51]⟩,
 ⟨(some 61), none, false, .mov (.t 62), [62]⟩])
(.cond (.t 61)
(.seq (.reg [⟨(some 63), none, false, .fa 8 (.t 1), [1, 61]⟩,
 ⟨(some 64), none, false, .ld false 1 (.t 63), [63]⟩,
 ⟨(some 65), none, false, .call 83 [(.t 64), (.k (intV 0))], [64]⟩,
 ⟨(some 2), none, false, .mov (.t 65), [65]⟩])
(.ret))
(.skip)))))))))))))))
(.seq (.seq (.reg [⟨(some 66), none, false, .fa 12 (.t 1), [2, 61, 12]⟩,
 ⟨(some 67), none, false, .ld false 1 (.t 66), [66]⟩,
 ⟨(some 68), none, false, .call 56 [(.t 67)], [67]⟩,
 ⟨(some 69), none, false, .bnot (.t 68), [68]⟩])
(.cond (.t 69)
(.seq (.reg [⟨(some 2), none, false, .mov (.k (intV 3)), [1, 69]⟩])
(.ret))
(.skip)))
(.seq (.reg [⟨(some 7), none, false, .mov (.k (intV 0)), [2, 69]⟩])
(.seq (.seq (.reg [⟨(some 70), none, false, .fa 0 (.t 1), []⟩,
 ⟨(some 71), none, false, .ld false 1 (.t 70), [70]⟩,
 ⟨(some 72), none, false, .bin .eql (.t 71) (.k (intV 6)), [71]⟩])
(.cond (.t 72)
(.reg [⟨(some 7), none, false, .mov (.k (intV 1)), [72]⟩])
(.skip)))
(.seq (.reg [⟨(some 73), none, false, .fa 8 (.t 1), [1, 72]⟩,
 ⟨(some 74), none, false, .ld false 1 (.t 73), [73]⟩,
 ⟨(some 75), none, false, .mov (.t 7), [7]⟩,
 ⟨(some 76), none, false, .call 83 [(.t 74), (.t 75)], [74, 75]⟩,
 ⟨(some 2), none, false, .mov (.t 76), [76]⟩])
(.ret))))))),
 [.tmp 2]⟩
def o_syntax_Step : List (Nat × List Nat) := []
theorem c_syntax_Step_ok : cFun Tryz.prog o_syntax_Step 57 = some c_syntax_Step.erase := by kernel_rfl

/- slices_IndexFunc_QStep -/
def c_slices_IndexFunc_QStep_L0 : ACode := (.seq (.reg [⟨(some 9), none, false, .bin .lss (.t 8) (.t 7), []⟩])
(.seq (.cond (.t 9)
(.skip)
(.exit 0))
(.seq (.block 1 (.seq (.reg [⟨(some 10), none, false, .mov (.t 8), [9]⟩,
 ⟨(some 5), none, false, .mov (.t 10), [10]⟩])
(.seq (.reg [⟨(some 11), none, false, .mov (.t 1), []⟩,
 ⟨(some 12), none, false, .mov (.t 0), []⟩,
 ⟨(some 13), none, false, .mov (.t 5), []⟩,
 ⟨(some 14), none, false, .ia 13 (.t 12) (.t 13), [12, 13]⟩,
 ⟨(some 15), none, false, .ld true 13 (.t 14), [14]⟩,
 ⟨(some 16), none, false, .calv (.t 11) [(.t 15)], [11, 15]⟩])
(.cond (.t 16)
(.seq (.reg [⟨(some 17), none, false, .mov (.t 5), [0, 1, 7, 8, 5, 16]⟩,
 ⟨(some 4), none, false, .mov (.t 17), [17]⟩])
(.ret))
(.skip)))))
(.reg [⟨(some 18), none, false, .bin .add (.t 8) (.k (intV 1)), [4, 8, 5, 16, 9]⟩,
 ⟨(some 8), none, false, .mov (.t 18), [18]⟩]))))
def c_slices_IndexFunc_QStep : AFun := ⟨.seq (.reg [⟨(some 4), none, false, .mov (.k (intV 0)), [4]⟩])
(.seq (.seq (.reg [⟨(some 6), none, false, .mov (.t 0), []⟩,
 ⟨(some 7), none, false, .len (.t 6), [6]⟩,
 ⟨(some 8), none, false, .mov (.k (intV 0)), []⟩])
(.block 0 (.loop [0, 1, 7, 8] c_slices_IndexFunc_QStep_L0)))
(.seq (.reg [⟨(some 4), none, false, .mov (.k (intV (-1))), [0, 1, 7, 8]⟩])
(.ret))),
 [.tmp 4]⟩
def o_slices_IndexFunc_QStep : List (Nat × List Nat) := []
theorem c_slices_IndexFunc_QStep_ok : cFun Tryz.prog o_slices_IndexFunc_QStep 58 = some c_slices_IndexFunc_QStep.erase := by kernel_rfl

/- intern_letter -/
def c_intern_letter : AFun := ⟨.seq (.reg [⟨(some 2), none, false, .mov (.k (boolV false)), [2]⟩])
(.seq (.reg [⟨(some 3), none, false, .mov (.t 0), []⟩,
 ⟨(some 4), none, false, .bin .geq (.t 3) (.k (.w (.c (.d (.lit (.int .u8 97)))))), [3]⟩,
 ⟨(some 5), none, true, .mov (.t 4), [4]⟩,
 ⟨(some 6), (some (5, true)), false, .mov (.t 0), []⟩,
 ⟨(some 7), (some (5, true)), false, .bin .leq (.t 6) (.k (.w (.c (.d (.lit (.int .u8 122)))))), [6]⟩,
 ⟨(some 8), none, false, .pick (.t 5) (.t 7) (.k (boolV false)), [5, 7, 6, 6]⟩,
 ⟨(some 9), none, true, .mov (.t 8), [8]⟩,
 ⟨(some 10), (some (9, false)), false, .mov (.t 0), []⟩,
 ⟨(some 11), (some (9, false)), false, .bin .geq (.t 10) (.k (.w (.c (.d (.lit (.int .u8 65)))))), [10]⟩,
 ⟨(some 12), (some (9, false)), true, .mov (.t 11), [11]⟩,
 ⟨(some 13), (some (12, true)), false, .mov (.t 0), []⟩,
 ⟨(some 14), (some (12, true)), false, .bin .leq (.t 13) (.k (.w (.c (.d (.lit (.int .u8 90)))))), [13]⟩,
 ⟨(some 15), (some (9, false)), false, .pick (.t 12) (.t 14) (.k (boolV false)), [12, 14, 13, 13]⟩,
 ⟨(some 16), none, false, .pick (.t 9) (.k (boolV true)) (.t 15), [9, 15, 12, 14, 13, 13, 14, 13, 13, 12, 11, 11, 10, 10]⟩,
 ⟨(some 17), none, true, .mov (.t 16), [16]⟩,
 ⟨(some 18), (some (17, false)), false, .mov (.t 0), []⟩,
 ⟨(some 19), (some (17, false)), false, .bin .geq (.t 18) (.k (.w (.c (.d (.lit (.int .u8 48)))))), [18]⟩,
 ⟨(some 20), (some (17, false)), true, .mov (.t 19), [19]⟩,
 ⟨(some 21), (some (20, true)), false, .mov (.t 0), []⟩,
 ⟨(some 22), (some (20, true)), false, .bin .leq (.t 21) (.k (.w (.c (.d (.lit (.int .u8 57)))))), [21]⟩,
 ⟨(some 23), (some (17, false)), false, .pick (.t 20) (.t 22) (.k (boolV false)), [20, 22, 21, 21]⟩,
 ⟨(some 24), none, false, .pick (.t 17) (.k (boolV true)) (.t 23), [17, 23, 20, 22, 21, 21, 22, 21, 21, 20, 19, 19, 18, 18]⟩,
 ⟨(some 25), none, true, .mov (.t 24), [24]⟩,
 ⟨(some 26), (some (25, false)), false, .mov (.t 0), [0]⟩,
 ⟨(some 27), (some (25, false)), false, .call 84 [(.k (.w (.c (.d (.lit (.string ⟨#[95, 46, 58, 47, 60, 62, 36, 42, 126, 45]⟩)))))), (.t 26)], [26]⟩,
 ⟨(some 28), (some (25, false)), false, .bin .geq (.t 27) (.k (intV 0)), [27]⟩,
 ⟨(some 29), none, false, .pick (.t 25) (.k (boolV true)) (.t 28), [25, 28, 27, 27, 26, 26, 0]⟩,
 ⟨(some 2), none, false, .mov (.t 29), [29]⟩])
(.ret)),
 [.tmp 2]⟩
def o_intern_letter : List (Nat × List Nat) := []
theorem c_intern_letter_ok : cFun Tryz.prog o_intern_letter 59 = some c_intern_letter.erase := by kernel_rfl

/- slices_IndexFunc_Column -/
def c_slices_IndexFunc_Column_L0 : ACode := (.seq (.reg [⟨(some 9), none, false, .bin .lss (.t 8) (.t 7), []⟩])
(.seq (.cond (.t 9)
(.skip)
(.exit 0))
(.seq (.block 1 (.seq (.reg [⟨(some 10), none, false, .mov (.t 8), [9]⟩,
 ⟨(some 5), none, false, .mov (.t 10), [10]⟩])
(.seq (.reg [⟨(some 11), none, false, .mov (.t 1), []⟩,
 ⟨(some 12), none, false, .mov (.t 0), []⟩,
 ⟨(some 13), none, false, .mov (.t 5), []⟩,
 ⟨(some 14), none, false, .ia 2 (.t 12) (.t 13), [12, 13]⟩,
 ⟨(some 15), none, false, .ld true 2 (.t 14), [14]⟩,
 ⟨(some 16), none, false, .calv (.t 11) [(.t 15)], [11, 15]⟩])
(.cond (.t 16)
(.seq (.reg [⟨(some 17), none, false, .mov (.t 5), [0, 1, 7, 8, 5, 16]⟩,
 ⟨(some 4), none, false, .mov (.t 17), [17]⟩])
(.ret))
(.skip)))))
(.reg [⟨(some 18), none, false, .bin .add (.t 8) (.k (intV 1)), [4, 8, 5, 16, 9]⟩,
 ⟨(some 8), none, false, .mov (.t 18), [18]⟩]))))
def c_slices_IndexFunc_Column : AFun := ⟨.seq (.reg [⟨(some 4), none, false, .mov (.k (intV 0)), [4]⟩])
(.seq (.seq (.reg [⟨(some 6), none, false, .mov (.t 0), []⟩,
 ⟨(some 7), none, false, .len (.t 6), [6]⟩,
 ⟨(some 8), none, false, .mov (.k (intV 0)), []⟩])
(.block 0 (.loop [0, 1, 7, 8] c_slices_IndexFunc_Column_L0)))
(.seq (.reg [⟨(some 4), none, false, .mov (.k (intV (-1))), [0, 1, 7, 8]⟩])
(.ret))),
 [.tmp 4]⟩
def o_slices_IndexFunc_Column : List (Nat × List Nat) := []
theorem c_slices_IndexFunc_Column_ok : cFun Tryz.prog o_slices_IndexFunc_Column 60 = some c_slices_IndexFunc_Column.erase := by kernel_rfl

/- table_Col_1 -/
def c_table_Col_1 : AFun := ⟨.seq (.reg [⟨(some 2), none, false, .bx (.t 0), [0]⟩,
 ⟨(some 3), none, false, .mov (.k (boolV false)), [3]⟩])
(.seq (.reg [⟨(some 4), none, false, .fa 0 (.t 2), [2]⟩,
 ⟨(some 5), none, false, .ld false 1 (.t 4), [4]⟩,
 ⟨(some 6), none, false, .ld false 1 (.t 1), [1]⟩,
 ⟨(some 7), none, false, .bin .eql (.t 5) (.t 6), [5, 6]⟩,
 ⟨(some 3), none, false, .mov (.t 7), [7]⟩])
(.ret)),
 [.tmp 3]⟩
def o_table_Col_1 : List (Nat × List Nat) := []
theorem c_table_Col_1_ok : cFun Tryz.prog o_table_Col_1 61 = some c_table_Col_1.erase := by kernel_rfl

/- num_In -/
def c_num_In : AFun := ⟨.seq (.reg [⟨(some 2), none, false, .mov (.k (boolV false)), [2]⟩])
(.seq (.reg [⟨(some 3), none, false, .mov (.t 0), []⟩,
 ⟨(some 4), none, false, .bin .geq (.t 3) (.k (intV (-1000000000000000))), [3]⟩,
 ⟨(some 5), none, true, .mov (.t 4), [4]⟩,
 ⟨(some 6), (some (5, true)), false, .mov (.t 0), [0]⟩,
 ⟨(some 7), (some (5, true)), false, .bin .leq (.t 6) (.k (intV 1000000000000000)), [6]⟩,
 ⟨(some 8), none, false, .pick (.t 5) (.t 7) (.k (boolV false)), [5, 7, 6, 6, 0]⟩,
 ⟨(some 2), none, false, .mov (.t 8), [8]⟩])
(.ret)),
 [.tmp 2]⟩
def o_num_In : List (Nat × List Nat) := []
theorem c_num_In_ok : cFun Tryz.prog o_num_In 62 = some c_num_In.erase := by kernel_rfl

/- slices_Grow_Change -/
def c_slices_Grow_Change : AFun := ⟨.seq (.reg [⟨(some 4), none, false, .mov (.k (.w (.c .nil))), [4]⟩])
(.seq (.seq (.reg [⟨(some 5), none, false, .mov (.t 1), []⟩,
 ⟨(some 6), none, false, .bin .lss (.t 5) (.k (intV 0)), [5]⟩])
(.cond (.t 6)
(.reg [⟨(some 7), none, false, .stop, [6, 7]⟩,
 ⟨none, none, false, .stop, []⟩])
(.skip)))
(.seq (.seq (.reg [⟨(some 8), none, false, .mov (.t 1), [1, 6]⟩,
 ⟨(some 9), none, false, .mov (.t 0), []⟩,
 ⟨(some 10), none, false, .cap (.t 9), [9]⟩,
 ⟨(some 11), none, false, .mov (.t 0), []⟩,
 ⟨(some 12), none, false, .len (.t 11), [11]⟩,
 ⟨(some 13), none, false, .bin .sub (.t 10) (.t 12), [10, 12]⟩,
 ⟨(some 14), none, false, .bin .sub (.t 8) (.t 13), [8, 13]⟩,
 ⟨(some 1), none, false, .mov (.t 14), [14]⟩])
(.seq (.reg [⟨(some 15), none, false, .mov (.t 1), []⟩,
 ⟨(some 16), none, false, .bin .gtr (.t 15) (.k (intV 0)), [15]⟩])
(.cond (.t 16)
(.reg [⟨(some 17), none, false, .mov (.t 0), [16]⟩,
 ⟨(some 18), none, false, .mov (.t 0), []⟩,
 ⟨(some 19), none, false, .cap (.t 18), [18]⟩,
 ⟨(some 20), none, false, .sli 2 (.t 17) none (some (.t 19)), [17, 19]⟩,
 ⟨(some 21), none, false, .mov (.t 1), [1]⟩,
 ⟨(some 22), none, false, .appz 2 32 [(.sl []), (.lit (.int .i64 0))] (.t 20) (.t 21), [20, 21]⟩,
 ⟨(some 23), none, false, .mov (.t 0), [0]⟩,
 ⟨(some 24), none, false, .len (.t 23), [23]⟩,
 ⟨(some 25), none, false, .sli 2 (.t 22) none (some (.t 24)), [22, 24]⟩,
 ⟨(some 0), none, false, .mov (.t 25), [25]⟩])
(.skip))))
(.seq (.reg [⟨(some 26), none, false, .mov (.t 0), [0, 1, 16]⟩,
 ⟨(some 4), none, false, .mov (.t 26), [26]⟩])
(.ret)))),
 [.tmp 4]⟩
def o_slices_Grow_Change : List (Nat × List Nat) := []
theorem c_slices_Grow_Change_ok : cFun Tryz.prog o_slices_Grow_Change 63 = some c_slices_Grow_Change.erase := by kernel_rfl

/- slices_stableCmpFunc_Change -/
def c_slices_stableCmpFunc_Change_L0 : ACode := (.seq (.seq (.reg [⟨(some 11), none, false, .mov (.t 8), []⟩,
 ⟨(some 12), none, false, .mov (.t 1), []⟩,
 ⟨(some 13), none, false, .bin .leq (.t 11) (.t 12), [11, 12]⟩])
(.cond (.t 13)
(.skip)
(.exit 0)))
(.block 1 (.seq (.reg [⟨(some 14), none, false, .mov (.t 0), [13]⟩,
 ⟨(some 15), none, false, .mov (.t 7), [7]⟩,
 ⟨(some 16), none, false, .mov (.t 8), []⟩,
 ⟨(some 17), none, false, .mov (.t 2), []⟩,
 ⟨(some 18), none, false, .callh 85 [(.t 14), (.t 15), (.t 16), (.t 17)], [14, 15, 16, 17, 18]⟩])
(.seq (.reg [⟨(some 19), none, false, .mov (.t 8), []⟩,
 ⟨(some 7), none, false, .mov (.t 19), [19]⟩])
(.reg [⟨(some 20), none, false, .mov (.t 8), [8]⟩,
 ⟨(some 21), none, false, .mov (.t 6), []⟩,
 ⟨(some 22), none, false, .bin .add (.t 20) (.t 21), [20, 21]⟩,
 ⟨(some 8), none, false, .mov (.t 22), [22]⟩])))))
def c_slices_stableCmpFunc_Change_L1 : ACode := (.seq (.seq (.reg [⟨(some 33), none, false, .mov (.t 8), []⟩,
 ⟨(some 34), none, false, .mov (.t 1), []⟩,
 ⟨(some 35), none, false, .bin .leq (.t 33) (.t 34), [33, 34]⟩])
(.cond (.t 35)
(.skip)
(.exit 4)))
(.block 5 (.seq (.reg [⟨(some 36), none, false, .mov (.t 0), [35]⟩,
 ⟨(some 37), none, false, .mov (.t 7), []⟩,
 ⟨(some 38), none, false, .mov (.t 7), [7]⟩,
 ⟨(some 39), none, false, .mov (.t 6), []⟩,
 ⟨(some 40), none, false, .bin .add (.t 38) (.t 39), [38, 39]⟩,
 ⟨(some 41), none, false, .mov (.t 8), []⟩,
 ⟨(some 42), none, false, .mov (.t 2), []⟩,
 ⟨(some 43), none, false, .callh 86 [(.t 36), (.t 37), (.t 40), (.t 41), (.t 42)], [36, 37, 40, 41, 42, 43]⟩])
(.seq (.reg [⟨(some 44), none, false, .mov (.t 8), []⟩,
 ⟨(some 7), none, false, .mov (.t 44), [44]⟩])
(.reg [⟨(some 45), none, false, .mov (.t 8), [8]⟩,
 ⟨(some 46), none, false, .mov (.t 6), []⟩,
 ⟨(some 47), none, false, .bin .mul (.k (intV 2)) (.t 46), [46]⟩,
 ⟨(some 48), none, false, .bin .add (.t 45) (.t 47), [45, 47]⟩,
 ⟨(some 8), none, false, .mov (.t 48), [48]⟩])))))
def c_slices_stableCmpFunc_Change_L2 : ACode := (.seq (.seq (.reg [⟨(some 28), none, false, .mov (.t 6), []⟩,
 ⟨(some 29), none, false, .mov (.t 1), []⟩,
 ⟨(some 30), none, false, .bin .lss (.t 28) (.t 29), [28, 29]⟩])
(.cond (.t 30)
(.skip)
(.exit 2)))
(.block 3 (.seq (.reg [⟨(some 31), none, false, .mov (.t 6), [30]⟩,
 ⟨(some 32), none, false, .bin .mul (.k (intV 2)) (.t 31), [31]⟩,
 ⟨(some 7), none, false, .mov (.k (intV 0)), []⟩,
 ⟨(some 8), none, false, .mov (.t 32), [32]⟩])
(.seq (.block 4 (.loop [0, 1, 2, 6, 7, 8] c_slices_stableCmpFunc_Change_L1))
(.seq (.seq (.reg [⟨(some 49), none, false, .mov (.t 7), [8, 35]⟩,
 ⟨(some 50), none, false, .mov (.t 6), []⟩,
 ⟨(some 51), none, false, .bin .add (.t 49) (.t 50), [49, 50]⟩,
 ⟨(some 9), none, false, .mov (.t 51), [51]⟩])
(.seq (.reg [⟨(some 52), none, false, .mov (.t 9), []⟩,
 ⟨(some 53), none, false, .mov (.t 1), []⟩,
 ⟨(some 54), none, false, .bin .lss (.t 52) (.t 53), [52, 53]⟩])
(.cond (.t 54)
(.reg [⟨(some 55), none, false, .mov (.t 0), [54]⟩,
 ⟨(some 56), none, false, .mov (.t 7), [7]⟩,
 ⟨(some 57), none, false, .mov (.t 9), [9]⟩,
 ⟨(some 58), none, false, .mov (.t 1), []⟩,
 ⟨(some 59), none, false, .mov (.t 2), []⟩,
 ⟨(some 60), none, false, .callh 86 [(.t 55), (.t 56), (.t 57), (.t 58), (.t 59)], [55, 56, 57, 58, 59, 60]⟩])
(.skip))))
(.reg [⟨(some 61), none, false, .mov (.t 6), [6, 7, 9, 54]⟩,
 ⟨(some 62), none, false, .bin .mul (.t 61) (.k (intV 2)), [61]⟩,
 ⟨(some 6), none, false, .mov (.t 62), [62]⟩]))))))
def c_slices_stableCmpFunc_Change : AFun := ⟨.seq (.reg [⟨(some 6), none, false, .mov (.k (intV 20)), []⟩])
(.seq (.reg [⟨(some 10), none, false, .mov (.t 6), []⟩,
 ⟨(some 7), none, false, .mov (.k (intV 0)), []⟩,
 ⟨(some 8), none, false, .mov (.t 10), [10]⟩])
(.seq (.block 0 (.loop [0, 1, 2, 6, 7, 8] c_slices_stableCmpFunc_Change_L0))
(.seq (.reg [⟨(some 23), none, false, .mov (.t 0), [8, 13]⟩,
 ⟨(some 24), none, false, .mov (.t 7), [7]⟩,
 ⟨(some 25), none, false, .mov (.t 1), []⟩,
 ⟨(some 26), none, false, .mov (.t 2), []⟩,
 ⟨(some 27), none, false, .callh 85 [(.t 23), (.t 24), (.t 25), (.t 26)], [23, 24, 25, 26, 27]⟩])
(.block 2 (.loop [0, 1, 2, 6] c_slices_stableCmpFunc_Change_L2))))),
 []⟩
def o_slices_stableCmpFunc_Change : List (Nat × List Nat) := [(1000003, [4]), (1000006, [4]), (1000010, [7]), (1000015, [5])]
theorem c_slices_stableCmpFunc_Change_ok : cFun Tryz.prog o_slices_stableCmpFunc_Change 64 = some c_slices_stableCmpFunc_Change.erase := by kernel_rfl

/- slices_IndexFunc_Change -/
def c_slices_IndexFunc_Change_L0 : ACode := (.seq (.reg [⟨(some 9), none, false, .bin .lss (.t 8) (.t 7), []⟩])
(.seq (.cond (.t 9)
(.skip)
(.exit 0))
(.seq (.block 1 (.seq (.reg [⟨(some 10), none, false, .mov (.t 8), [9]⟩,
 ⟨(some 5), none, false, .mov (.t 10), [10]⟩])
(.seq (.reg [⟨(some 11), none, false, .mov (.t 1), []⟩,
 ⟨(some 12), none, false, .mov (.t 0), []⟩,
 ⟨(some 13), none, false, .mov (.t 5), []⟩,
 ⟨(some 14), none, false, .ia 2 (.t 12) (.t 13), [12, 13]⟩,
 ⟨(some 15), none, false, .ld true 2 (.t 14), [14]⟩,
 ⟨(some 16), none, false, .calv (.t 11) [(.t 15)], [11, 15]⟩])
(.cond (.t 16)
(.seq (.reg [⟨(some 17), none, false, .mov (.t 5), [0, 1, 7, 8, 5, 16]⟩,
 ⟨(some 4), none, false, .mov (.t 17), [17]⟩])
(.ret))
(.skip)))))
(.reg [⟨(some 18), none, false, .bin .add (.t 8) (.k (intV 1)), [4, 8, 5, 16, 9]⟩,
 ⟨(some 8), none, false, .mov (.t 18), [18]⟩]))))
def c_slices_IndexFunc_Change : AFun := ⟨.seq (.reg [⟨(some 4), none, false, .mov (.k (intV 0)), [4]⟩])
(.seq (.seq (.reg [⟨(some 6), none, false, .mov (.t 0), []⟩,
 ⟨(some 7), none, false, .len (.t 6), [6]⟩,
 ⟨(some 8), none, false, .mov (.k (intV 0)), []⟩])
(.block 0 (.loop [0, 1, 7, 8] c_slices_IndexFunc_Change_L0)))
(.seq (.reg [⟨(some 4), none, false, .mov (.k (intV (-1))), [0, 1, 7, 8]⟩])
(.ret))),
 [.tmp 4]⟩
def o_slices_IndexFunc_Change : List (Nat × List Nat) := []
theorem c_slices_IndexFunc_Change_ok : cFun Tryz.prog o_slices_IndexFunc_Change 65 = some c_slices_IndexFunc_Change.erase := by kernel_rfl

/- slices_Collect_LValue -/
def c_slices_Collect_LValue : AFun := ⟨.seq (.reg [⟨(some 2), none, false, .mov (.k (.w (.c .nil))), [2]⟩])
(.seq (.reg [⟨(some 3), none, false, .mov (.t 0), [0]⟩,
 ⟨(some 4), none, false, .callh 87 [(.k (.w (.c .nil))), (.t 3)], [3]⟩,
 ⟨(some 2), none, false, .mov (.t 4), [4]⟩])
(.ret)),
 [.tmp 2]⟩
def o_slices_Collect_LValue : List (Nat × List Nat) := [(1000001, [1])]
theorem c_slices_Collect_LValue_ok : cFun Tryz.prog o_slices_Collect_LValue 66 = some c_slices_Collect_LValue.erase := by kernel_rfl

/- ref06_letter -/
def c_ref06_letter_L0 : ACode := (.seq (.seq (.reg [⟨(some 27), none, false, .mov (.t 4), []⟩,
 ⟨(some 28), none, false, .mov (.t 3), []⟩,
 ⟨(some 29), none, false, .slen (.t 28), [28]⟩,
 ⟨(some 30), none, false, .bin .lss (.t 27) (.t 29), [27, 29]⟩])
(.cond (.t 30)
(.skip)
(.exit 0)))
(.seq (.block 1 (.seq (.reg [⟨(some 33), none, false, .mov (.t 3), [30]⟩,
 ⟨(some 34), none, false, .mov (.t 4), []⟩,
 ⟨(some 35), none, false, .six (.t 33) (.t 34), [33, 34]⟩,
 ⟨(some 36), none, false, .mov (.t 0), []⟩,
 ⟨(some 37), none, false, .bin .eql (.t 35) (.t 36), [35, 36]⟩])
(.cond (.t 37)
(.seq (.reg [⟨(some 2), none, false, .mov (.k (boolV true)), [0, 3, 4, 37]⟩])
(.ret))
(.skip))))
(.reg [⟨(some 31), none, false, .mov (.t 4), [2, 4, 37, 30]⟩,
 ⟨(some 32), none, false, .bin .add (.t 31) (.k (intV 1)), [31]⟩,
 ⟨(some 4), none, false, .mov (.t 32), [32]⟩])))
def c_ref06_letter : AFun := ⟨.seq (.reg [⟨(some 2), none, false, .mov (.k (boolV false)), [2]⟩])
(.seq (.seq (.reg [⟨(some 5), none, false, .mov (.t 0), []⟩,
 ⟨(some 6), none, false, .bin .geq (.t 5) (.k (.w (.c (.d (.lit (.int .u8 97)))))), [5]⟩,
 ⟨(some 7), none, true, .mov (.t 6), [6]⟩,
 ⟨(some 8), (some (7, true)), false, .mov (.t 0), []⟩,
 ⟨(some 9), (some (7, true)), false, .bin .leq (.t 8) (.k (.w (.c (.d (.lit (.int .u8 122)))))), [8]⟩,
 ⟨(some 10), none, false, .pick (.t 7) (.t 9) (.k (boolV false)), [7, 9, 8, 8]⟩,
 ⟨(some 11), none, true, .mov (.t 10), [10]⟩,
 ⟨(some 12), (some (11, false)), false, .mov (.t 0), []⟩,
 ⟨(some 13), (some (11, false)), false, .bin .geq (.t 12) (.k (.w (.c (.d (.lit (.int .u8 65)))))), [12]⟩,
 ⟨(some 14), (some (11, false)), true, .mov (.t 13), [13]⟩,
 ⟨(some 15), (some (14, true)), false, .mov (.t 0), []⟩,
 ⟨(some 16), (some (14, true)), false, .bin .leq (.t 15) (.k (.w (.c (.d (.lit (.int .u8 90)))))), [15]⟩,
 ⟨(some 17), (some (11, false)), false, .pick (.t 14) (.t 16) (.k (boolV false)), [14, 16, 15, 15]⟩,
 ⟨(some 18), none, false, .pick (.t 11) (.k (boolV true)) (.t 17), [11, 17, 14, 16, 15, 15, 16, 15, 15, 14, 13, 13, 12, 12]⟩,
 ⟨(some 19), none, true, .mov (.t 18), [18]⟩,
 ⟨(some 20), (some (19, false)), false, .mov (.t 0), []⟩,
 ⟨(some 21), (some (19, false)), false, .bin .geq (.t 20) (.k (.w (.c (.d (.lit (.int .u8 48)))))), [20]⟩,
 ⟨(some 22), (some (19, false)), true, .mov (.t 21), [21]⟩,
 ⟨(some 23), (some (22, true)), false, .mov (.t 0), []⟩,
 ⟨(some 24), (some (22, true)), false, .bin .leq (.t 23) (.k (.w (.c (.d (.lit (.int .u8 57)))))), [23]⟩,
 ⟨(some 25), (some (19, false)), false, .pick (.t 22) (.t 24) (.k (boolV false)), [22, 24, 23, 23]⟩,
 ⟨(some 26), none, false, .pick (.t 19) (.k (boolV true)) (.t 25), [19, 25, 22, 24, 23, 23, 24, 23, 23, 22, 21, 21, 20, 20]⟩])
(.cond (.t 26)
(.seq (.reg [⟨(some 2), none, false, .mov (.k (boolV true)), [0, 26]⟩])
(.ret))
(.skip)))
(.seq (.reg [⟨(some 3), none, false, .mov (.k (.w (.c (.d (.lit (.string ⟨#[95, 46, 58, 47, 60, 62, 36, 42, 126, 45]⟩)))))), [2, 26]⟩])
(.seq (.seq (.reg [⟨(some 4), none, false, .mov (.k (intV 0)), []⟩])
(.block 0 (.loop [0, 3, 4] c_ref06_letter_L0)))
(.seq (.reg [⟨(some 2), none, false, .mov (.k (boolV false)), [0, 3, 4]⟩])
(.ret))))),
 [.tmp 2]⟩
def o_ref06_letter : List (Nat × List Nat) := []
theorem c_ref06_letter_ok : cFun Tryz.prog o_ref06_letter 69 = some c_ref06_letter.erase := by kernel_rfl

/- ref01_In -/
def c_ref01_In : AFun := ⟨.seq (.reg [⟨(some 2), none, false, .mov (.k (boolV false)), [2]⟩])
(.seq (.reg [⟨(some 3), none, false, .mov (.t 0), []⟩,
 ⟨(some 4), none, false, .bin .geq (.t 3) (.k (intV (-1000000000000000))), [3]⟩,
 ⟨(some 5), none, true, .mov (.t 4), [4]⟩,
 ⟨(some 6), (some (5, true)), false, .mov (.t 0), [0]⟩,
 ⟨(some 7), (some (5, true)), false, .bin .leq (.t 6) (.k (intV 1000000000000000)), [6]⟩,
 ⟨(some 8), none, false, .pick (.t 5) (.t 7) (.k (boolV false)), [5, 7, 6, 6, 0]⟩,
 ⟨(some 2), none, false, .mov (.t 8), [8]⟩])
(.ret)),
 [.tmp 2]⟩
def o_ref01_In : List (Nat × List Nat) := []
theorem c_ref01_In_ok : cFun Tryz.prog o_ref01_In 70 = some c_ref01_In.erase := by kernel_rfl

/- ref34_numbers -/
def c_ref34_numbers : AFun := ⟨.seq (.reg [⟨(some 4), none, false, .mov (.k (intV 0)), [4]⟩])
(.seq (.block 0 (.seq (.reg [⟨(some 6), none, false, .mov (.t 0), []⟩,
 ⟨(some 7), none, false, .mov (.t 1), []⟩,
 ⟨(some 8), none, false, .bin .lss (.t 6) (.t 7), [6, 7]⟩,
 ⟨(some 5), none, false, .mov (.t 8), [8]⟩])
(.cond (.t 5)
(.seq (.reg [⟨(some 4), none, false, .mov (.k (intV (-1))), [0, 1, 5]⟩])
(.ret))
(.seq (.reg [⟨(some 10), none, false, .mov (.t 0), [0, 5]⟩,
 ⟨(some 11), none, false, .mov (.t 1), [1]⟩,
 ⟨(some 12), none, false, .bin .gtr (.t 10) (.t 11), [10, 11]⟩,
 ⟨(some 9), none, false, .mov (.t 12), [12]⟩])
(.cond (.t 9)
(.seq (.reg [⟨(some 4), none, false, .mov (.k (intV 1)), [9]⟩])
(.ret))
(.skip))))))
(.seq (.reg [⟨(some 4), none, false, .mov (.k (intV 0)), [9, 0, 1]⟩])
(.ret))),
 [.tmp 4]⟩
def o_ref34_numbers : List (Nat × List Nat) := []
theorem c_ref34_numbers_ok : cFun Tryz.prog o_ref34_numbers 71 = some c_ref34_numbers.erase := by kernel_rfl

/- cmp_Compare_ValueKind -/
def c_cmp_Compare_ValueKind : AFun := ⟨.seq (.reg [⟨(some 4), none, false, .mov (.k (intV 0)), [4]⟩])
(.seq (.reg [⟨(some 7), none, false, .mov (.t 0), []⟩,
 ⟨(some 8), none, false, .call 90 [(.t 7)], [7]⟩,
 ⟨(some 5), none, false, .mov (.t 8), [8]⟩])
(.seq (.reg [⟨(some 9), none, false, .mov (.t 1), []⟩,
 ⟨(some 10), none, false, .call 90 [(.t 9)], [9]⟩,
 ⟨(some 6), none, false, .mov (.t 10), [10]⟩])
(.seq (.seq (.reg [⟨(some 11), none, false, .mov (.t 5), [5]⟩])
(.cond (.t 11)
(.seq (.seq (.reg [⟨(some 12), none, false, .mov (.t 6), [0, 1, 6, 11]⟩])
(.cond (.t 12)
(.seq (.reg [⟨(some 4), none, false, .mov (.k (intV 0)), [12]⟩])
(.ret))
(.skip)))
(.seq (.reg [⟨(some 4), none, false, .mov (.k (intV (-1))), [12]⟩])
(.ret)))
(.skip)))
(.seq (.seq (.reg [⟨(some 13), none, false, .mov (.t 6), [4, 6, 11]⟩])
(.cond (.t 13)
(.seq (.reg [⟨(some 4), none, false, .mov (.k (intV 1)), [0, 1, 13]⟩])
(.ret))
(.skip)))
(.seq (.seq (.reg [⟨(some 14), none, false, .mov (.t 0), [4, 13]⟩,
 ⟨(some 15), none, false, .mov (.t 1), []⟩,
 ⟨(some 16), none, false, .bin .lss (.t 14) (.t 15), [14, 15]⟩])
(.cond (.t 16)
(.seq (.reg [⟨(some 4), none, false, .mov (.k (intV (-1))), [0, 1, 16]⟩])
(.ret))
(.skip)))
(.seq (.seq (.reg [⟨(some 17), none, false, .mov (.t 0), [4, 0, 16]⟩,
 ⟨(some 18), none, false, .mov (.t 1), [1]⟩,
 ⟨(some 19), none, false, .bin .gtr (.t 17) (.t 18), [17, 18]⟩])
(.cond (.t 19)
(.seq (.reg [⟨(some 4), none, false, .mov (.k (intV 1)), [19]⟩])
(.ret))
(.skip)))
(.seq (.reg [⟨(some 4), none, false, .mov (.k (intV 0)), [19]⟩])
(.ret)))))))),
 [.tmp 4]⟩
def o_cmp_Compare_ValueKind : List (Nat × List Nat) := []
theorem c_cmp_Compare_ValueKind_ok : cFun Tryz.prog o_cmp_Compare_ValueKind 72 = some c_cmp_Compare_ValueKind.erase := by kernel_rfl

/- cmp_Compare_string -/
def c_cmp_Compare_string : AFun := ⟨.seq (.reg [⟨(some 4), none, false, .mov (.k (intV 0)), [4]⟩])
(.seq (.reg [⟨(some 7), none, false, .mov (.t 0), []⟩,
 ⟨(some 8), none, false, .call 91 [(.t 7)], [7]⟩,
 ⟨(some 5), none, false, .mov (.t 8), [8]⟩])
(.seq (.reg [⟨(some 9), none, false, .mov (.t 1), []⟩,
 ⟨(some 10), none, false, .call 91 [(.t 9)], [9]⟩,
 ⟨(some 6), none, false, .mov (.t 10), [10]⟩])
(.seq (.seq (.reg [⟨(some 11), none, false, .mov (.t 5), [5]⟩])
(.cond (.t 11)
(.seq (.seq (.reg [⟨(some 12), none, false, .mov (.t 6), [0, 1, 6, 11]⟩])
(.cond (.t 12)
(.seq (.reg [⟨(some 4), none, false, .mov (.k (intV 0)), [12]⟩])
(.ret))
(.skip)))
(.seq (.reg [⟨(some 4), none, false, .mov (.k (intV (-1))), [12]⟩])
(.ret)))
(.skip)))
(.seq (.seq (.reg [⟨(some 13), none, false, .mov (.t 6), [4, 6, 11]⟩])
(.cond (.t 13)
(.seq (.reg [⟨(some 4), none, false, .mov (.k (intV 1)), [0, 1, 13]⟩])
(.ret))
(.skip)))
(.seq (.seq (.reg [⟨(some 14), none, false, .mov (.t 0), [4, 13]⟩,
 ⟨(some 15), none, false, .mov (.t 1), []⟩,
 ⟨(some 16), none, false, .bin .lss (.t 14) (.t 15), [14, 15]⟩])
(.cond (.t 16)
(.seq (.reg [⟨(some 4), none, false, .mov (.k (intV (-1))), [0, 1, 16]⟩])
(.ret))
(.skip)))
(.seq (.seq (.reg [⟨(some 17), none, false, .mov (.t 0), [4, 0, 16]⟩,
 ⟨(some 18), none, false, .mov (.t 1), [1]⟩,
 ⟨(some 19), none, false, .bin .gtr (.t 17) (.t 18), [17, 18]⟩])
(.cond (.t 19)
(.seq (.reg [⟨(some 4), none, false, .mov (.k (intV 1)), [19]⟩])
(.ret))
(.skip)))
(.seq (.reg [⟨(some 4), none, false, .mov (.k (intV 0)), [19]⟩])
(.ret)))))))),
 [.tmp 4]⟩
def o_cmp_Compare_string : List (Nat × List Nat) := []
theorem c_cmp_Compare_string_ok : cFun Tryz.prog o_cmp_Compare_string 73 = some c_cmp_Compare_string.erase := by kernel_rfl

/- cmp_Compare_int -/
def c_cmp_Compare_int : AFun := ⟨.seq (.reg [⟨(some 4), none, false, .mov (.k (intV 0)), [4]⟩])
(.seq (.reg [⟨(some 7), none, false, .mov (.t 0), []⟩,
 ⟨(some 8), none, false, .call 92 [(.t 7)], [7]⟩,
 ⟨(some 5), none, false, .mov (.t 8), [8]⟩])
(.seq (.reg [⟨(some 9), none, false, .mov (.t 1), []⟩,
 ⟨(some 10), none, false, .call 92 [(.t 9)], [9]⟩,
 ⟨(some 6), none, false, .mov (.t 10), [10]⟩])
(.seq (.seq (.reg [⟨(some 11), none, false, .mov (.t 5), [5]⟩])
(.cond (.t 11)
(.seq (.seq (.reg [⟨(some 12), none, false, .mov (.t 6), [0, 1, 6, 11]⟩])
(.cond (.t 12)
(.seq (.reg [⟨(some 4), none, false, .mov (.k (intV 0)), [12]⟩])
(.ret))
(.skip)))
(.seq (.reg [⟨(some 4), none, false, .mov (.k (intV (-1))), [12]⟩])
(.ret)))
(.skip)))
(.seq (.seq (.reg [⟨(some 13), none, false, .mov (.t 6), [4, 6, 11]⟩])
(.cond (.t 13)
(.seq (.reg [⟨(some 4), none, false, .mov (.k (intV 1)), [0, 1, 13]⟩])
(.ret))
(.skip)))
(.seq (.seq (.reg [⟨(some 14), none, false, .mov (.t 0), [4, 13]⟩,
 ⟨(some 15), none, false, .mov (.t 1), []⟩,
 ⟨(some 16), none, false, .bin .lss (.t 14) (.t 15), [14, 15]⟩])
(.cond (.t 16)
(.seq (.reg [⟨(some 4), none, false, .mov (.k (intV (-1))), [0, 1, 16]⟩])
(.ret))
(.skip)))
(.seq (.seq (.reg [⟨(some 17), none, false, .mov (.t 0), [4, 0, 16]⟩,
 ⟨(some 18), none, false, .mov (.t 1), [1]⟩,
 ⟨(some 19), none, false, .bin .gtr (.t 17) (.t 18), [17, 18]⟩])
(.cond (.t 19)
(.seq (.reg [⟨(some 4), none, false, .mov (.k (intV 1)), [19]⟩])
(.ret))
(.skip)))
(.seq (.reg [⟨(some 4), none, false, .mov (.k (intV 0)), [19]⟩])
(.ret)))))))),
 [.tmp 4]⟩
def o_cmp_Compare_int : List (Nat × List Nat) := []
theorem c_cmp_Compare_int_ok : cFun Tryz.prog o_cmp_Compare_int 74 = some c_cmp_Compare_int.erase := by kernel_rfl

/- math_bits_Mul64 -/
def c_math_bits_Mul64 : AFun := ⟨.seq (.reg [⟨(some 4), none, false, .mov (.k (.w (.c (.d (.lit (.int .u64 0)))))), [4]⟩,
 ⟨(some 5), none, false, .mov (.k (.w (.c (.d (.lit (.int .u64 0)))))), [5]⟩])
(.seq (.reg [⟨(some 14), none, false, .mov (.t 0), []⟩,
 ⟨(some 15), none, false, .bin .and (.t 14) (.k (.w (.c (.d (.lit (.int .u64 4294967295)))))), [14]⟩,
 ⟨(some 6), none, false, .mov (.t 15), [15]⟩])
(.seq (.reg [⟨(some 16), none, false, .mov (.t 0), []⟩,
 ⟨(some 17), none, false, .shf false (.t 16) (.k (.w (.c (.d (.lit (.int .u64 32)))))), [16]⟩,
 ⟨(some 7), none, false, .mov (.t 17), [17]⟩])
(.seq (.reg [⟨(some 18), none, false, .mov (.t 1), []⟩,
 ⟨(some 19), none, false, .bin .and (.t 18) (.k (.w (.c (.d (.lit (.int .u64 4294967295)))))), [18]⟩,
 ⟨(some 8), none, false, .mov (.t 19), [19]⟩])
(.seq (.reg [⟨(some 20), none, false, .mov (.t 1), []⟩,
 ⟨(some 21), none, false, .shf false (.t 20) (.k (.w (.c (.d (.lit (.int .u64 32)))))), [20]⟩,
 ⟨(some 9), none, false, .mov (.t 21), [21]⟩])
(.seq (.reg [⟨(some 22), none, false, .mov (.t 6), []⟩,
 ⟨(some 23), none, false, .mov (.t 8), []⟩,
 ⟨(some 24), none, false, .bin .mul (.t 22) (.t 23), [22, 23]⟩,
 ⟨(some 10), none, false, .mov (.t 24), [24]⟩])
(.seq (.reg [⟨(some 25), none, false, .mov (.t 7), []⟩,
 ⟨(some 26), none, false, .mov (.t 8), [8]⟩,
 ⟨(some 27), none, false, .bin .mul (.t 25) (.t 26), [25, 26]⟩,
 ⟨(some 28), none, false, .mov (.t 10), [10]⟩,
 ⟨(some 29), none, false, .shf false (.t 28) (.k (.w (.c (.d (.lit (.int .u64 32)))))), [28]⟩,
 ⟨(some 30), none, false, .bin .add (.t 27) (.t 29), [27, 29]⟩,
 ⟨(some 11), none, false, .mov (.t 30), [30]⟩])
(.seq (.reg [⟨(some 31), none, false, .mov (.t 11), []⟩,
 ⟨(some 32), none, false, .bin .and (.t 31) (.k (.w (.c (.d (.lit (.int .u64 4294967295)))))), [31]⟩,
 ⟨(some 12), none, false, .mov (.t 32), [32]⟩])
(.seq (.reg [⟨(some 33), none, false, .mov (.t 11), [11]⟩,
 ⟨(some 34), none, false, .shf false (.t 33) (.k (.w (.c (.d (.lit (.int .u64 32)))))), [33]⟩,
 ⟨(some 13), none, false, .mov (.t 34), [34]⟩])
(.seq (.reg [⟨(some 35), none, false, .mov (.t 12), [12]⟩,
 ⟨(some 36), none, false, .mov (.t 6), [6]⟩,
 ⟨(some 37), none, false, .mov (.t 9), []⟩,
 ⟨(some 38), none, false, .bin .mul (.t 36) (.t 37), [36, 37]⟩,
 ⟨(some 39), none, false, .bin .add (.t 35) (.t 38), [35, 38]⟩,
 ⟨(some 12), none, false, .mov (.t 39), [39]⟩])
(.seq (.reg [⟨(some 40), none, false, .mov (.t 7), [7]⟩,
 ⟨(some 41), none, false, .mov (.t 9), [9]⟩,
 ⟨(some 42), none, false, .bin .mul (.t 40) (.t 41), [40, 41]⟩,
 ⟨(some 43), none, false, .mov (.t 13), [13]⟩,
 ⟨(some 44), none, false, .bin .add (.t 42) (.t 43), [42, 43]⟩,
 ⟨(some 45), none, false, .mov (.t 12), [12]⟩,
 ⟨(some 46), none, false, .shf false (.t 45) (.k (.w (.c (.d (.lit (.int .u64 32)))))), [45]⟩,
 ⟨(some 47), none, false, .bin .add (.t 44) (.t 46), [44, 46]⟩,
 ⟨(some 4), none, false, .mov (.t 47), [47]⟩])
(.seq (.reg [⟨(some 48), none, false, .mov (.t 0), [0]⟩,
 ⟨(some 49), none, false, .mov (.t 1), [1]⟩,
 ⟨(some 50), none, false, .bin .mul (.t 48) (.t 49), [48, 49]⟩,
 ⟨(some 5), none, false, .mov (.t 50), [50]⟩])
(.ret)))))))))))),
 [.tmp 4, .tmp 5]⟩
def o_math_bits_Mul64 : List (Nat × List Nat) := []
theorem c_math_bits_Mul64_ok : cFun Tryz.prog o_math_bits_Mul64 76 = some c_math_bits_Mul64.erase := by kernel_rfl

/- slices_Contains_string -/
def c_slices_Contains_string : AFun := ⟨.seq (.reg [⟨(some 4), none, false, .mov (.k (boolV false)), [4]⟩])
(.seq (.reg [⟨(some 5), none, false, .mov (.t 0), [0]⟩,
 ⟨(some 6), none, false, .mov (.t 1), [1]⟩,
 ⟨(some 7), none, false, .call 93 [(.t 5), (.t 6)], [5, 6]⟩,
 ⟨(some 8), none, false, .bin .geq (.t 7) (.k (intV 0)), [7]⟩,
 ⟨(some 4), none, false, .mov (.t 8), [8]⟩])
(.ret)),
 [.tmp 4]⟩
def o_slices_Contains_string : List (Nat × List Nat) := []
theorem c_slices_Contains_string_ok : cFun Tryz.prog o_slices_Contains_string 77 = some c_slices_Contains_string.erase := by kernel_rfl

/- syntax_uses -/
def c_syntax_uses : AFun := ⟨.seq (.reg [⟨(some 1), none, false, .bx (.t 0), [0]⟩,
 ⟨(some 2), none, false, .mov (.k (boolV false)), [2]⟩])
(.seq (.reg [⟨(some 4), none, false, .clof 94 [(.t 1)], []⟩,
 ⟨(some 3), none, false, .mov (.t 4), [4]⟩])
(.seq (.block 0 (.seq (.reg [⟨(some 6), none, false, .fa 0 (.t 1), []⟩,
 ⟨(some 7), none, false, .ld false 1 (.t 6), [6]⟩,
 ⟨(some 8), none, false, .bin .lss (.t 7) (.k (intV 1)), [7]⟩,
 ⟨(some 9), none, true, .mov (.t 8), [8]⟩,
 ⟨(some 10), (some (9, false)), false, .fa 0 (.t 1), []⟩,
 ⟨(some 11), (some (9, false)), false, .ld false 1 (.t 10), [10]⟩,
 ⟨(some 12), (some (9, false)), false, .bin .gtr (.t 11) (.k (intV 9)), [11]⟩,
 ⟨(some 13), none, false, .pick (.t 9) (.k (boolV true)) (.t 12), [9, 12, 11, 11, 10, 10]⟩,
 ⟨(some 5), none, false, .mov (.t 13), [13]⟩])
(.cond (.t 5)
(.seq (.reg [⟨(some 2), none, false, .mov (.k (boolV false)), [1, 3, 5]⟩])
(.ret))
(.seq (.seq (.reg [⟨(some 15), none, false, .mov (.t 3), [5]⟩,
 ⟨(some 16), none, false, .lits 1 [(.k (intV 1))], []⟩,
 ⟨(some 17), none, false, .calv (.t 15) [(.t 16)], [15, 16]⟩,
 ⟨(some 18), none, false, .bnot (.t 17), [17]⟩,
 ⟨(some 19), none, true, .mov (.t 18), [18]⟩,
 ⟨(some 20), (some (19, true)), false, .fa 1 (.t 1), []⟩,
 ⟨(some 21), (some (19, true)), false, .ld true 6 (.t 20), [20]⟩,
 ⟨(some 22), (some (19, true)), false, .call 96 [(.t 21)], [21]⟩,
 ⟨(some 23), (some (19, true)), false, .bnot (.t 22), [22]⟩,
 ⟨(some 24), none, false, .pick (.t 19) (.t 23) (.k (boolV false)), [19, 23, 22, 22, 21, 21, 20, 20]⟩,
 ⟨(some 14), none, false, .mov (.t 24), [24]⟩])
(.cond (.t 14)
(.skip)
(.seq (.reg [⟨(some 25), none, false, .mov (.t 3), [14]⟩,
 ⟨(some 26), none, false, .lits 1 [(.k (intV 2))], []⟩,
 ⟨(some 27), none, false, .calv (.t 25) [(.t 26)], [25, 26]⟩,
 ⟨(some 28), none, false, .bnot (.t 27), [27]⟩,
 ⟨(some 29), none, true, .mov (.t 28), [28]⟩,
 ⟨(some 30), (some (29, true)), false, .fa 7 (.t 1), []⟩,
 ⟨(some 31), (some (29, true)), false, .ld false 1 (.t 30), [30]⟩,
 ⟨(some 32), (some (29, true)), false, .len (.t 31), [31]⟩,
 ⟨(some 33), (some (29, true)), false, .bin .gtr (.t 32) (.k (intV 0)), [32]⟩,
 ⟨(some 34), none, false, .pick (.t 29) (.t 33) (.k (boolV false)), [29, 33, 32, 32, 31, 31, 30, 30]⟩,
 ⟨(some 14), none, false, .mov (.t 34), [34]⟩])
(.cond (.t 14)
(.skip)
(.seq (.reg [⟨(some 35), none, false, .mov (.t 3), [14]⟩,
 ⟨(some 36), none, false, .lits 1 [(.k (intV 3))], []⟩,
 ⟨(some 37), none, false, .calv (.t 35) [(.t 36)], [35, 36]⟩,
 ⟨(some 38), none, false, .bnot (.t 37), [37]⟩,
 ⟨(some 39), none, true, .mov (.t 38), [38]⟩,
 ⟨(some 40), (some (39, true)), false, .fa 9 (.t 1), []⟩,
 ⟨(some 41), (some (39, true)), false, .ld false 1 (.t 40), [40]⟩,
 ⟨(some 42), (some (39, true)), false, .len (.t 41), [41]⟩,
 ⟨(some 43), (some (39, true)), false, .bin .gtr (.t 42) (.k (intV 0)), [42]⟩,
 ⟨(some 44), none, false, .pick (.t 39) (.t 43) (.k (boolV false)), [39, 43, 42, 42, 41, 41, 40, 40]⟩,
 ⟨(some 14), none, false, .mov (.t 44), [44]⟩])
(.cond (.t 14)
(.skip)
(.seq (.reg [⟨(some 45), none, false, .mov (.t 3), [14]⟩,
 ⟨(some 46), none, false, .lits 1 [(.k (intV 4))], []⟩,
 ⟨(some 47), none, false, .calv (.t 45) [(.t 46)], [45, 46]⟩,
 ⟨(some 48), none, false, .bnot (.t 47), [47]⟩,
 ⟨(some 49), none, true, .mov (.t 48), [48]⟩,
 ⟨(some 50), (some (49, true)), false, .fa 10 (.t 1), []⟩,
 ⟨(some 51), (some (49, true)), false, .ld false 1 (.t 50), [50]⟩,
 ⟨(some 52), (some (49, true)), false, .len (.t 51), [51]⟩,
 ⟨(some 53), (some (49, true)), false, .bin .gtr (.t 52) (.k (intV 0)), [52]⟩,
 ⟨(some 54), none, false, .pick (.t 49) (.t 53) (.k (boolV false)), [49, 53, 52, 52, 51, 51, 50, 50]⟩,
 ⟨(some 14), none, false, .mov (.t 54), [54]⟩])
(.cond (.t 14)
(.skip)
(.reg [⟨(some 55), none, false, .mov (.t 3), [14]⟩,
 ⟨(some 56), none, false, .lits 1 [(.k (intV 5))], []⟩,
 ⟨(some 57), none, false, .calv (.t 55) [(.t 56)], [55, 56]⟩,
 ⟨(some 58), none, false, .bnot (.t 57), [57]⟩,
 ⟨(some 59), none, true, .mov (.t 58), [58]⟩,
 ⟨(some 60), (some (59, true)), false, .fa 11 (.t 1), []⟩,
 ⟨(some 61), (some (59, true)), false, .ld false 1 (.t 60), [60]⟩,
 ⟨(some 62), (some (59, true)), false, .bin .neq (.t 61) (.k (intV 0)), [61]⟩,
 ⟨(some 63), none, false, .pick (.t 59) (.t 62) (.k (boolV false)), [59, 62, 61, 61, 60, 60]⟩,
 ⟨(some 14), none, false, .mov (.t 63), [63]⟩])))))))))
(.cond (.t 14)
(.seq (.reg [⟨(some 2), none, false, .mov (.k (boolV false)), [1, 3, 14]⟩])
(.ret))
(.seq (.reg [⟨(some 65), none, false, .mov (.t 3), [14]⟩,
 ⟨(some 66), none, false, .lits 1 [(.k (intV 6)), (.k (intV 7)), (.k (intV 8))], []⟩,
 ⟨(some 67), none, false, .calv (.t 65) [(.t 66)], [65, 66]⟩,
 ⟨(some 68), none, false, .bnot (.t 67), [67]⟩,
 ⟨(some 69), none, true, .mov (.t 68), [68]⟩,
 ⟨(some 70), (some (69, true)), false, .fa 12 (.t 1), []⟩,
 ⟨(some 71), (some (69, true)), false, .ld false 1 (.t 70), [70]⟩,
 ⟨(some 72), (some (69, true)), false, .bin .neq (.t 71) (.k (.w (.c (.d (.lit (.string ⟨#[]⟩)))))), [71]⟩,
 ⟨(some 73), none, false, .pick (.t 69) (.t 72) (.k (boolV false)), [69, 72, 71, 71, 70, 70]⟩,
 ⟨(some 64), none, false, .mov (.t 73), [73]⟩])
(.cond (.t 64)
(.seq (.reg [⟨(some 2), none, false, .mov (.k (boolV false)), [1, 3, 64]⟩])
(.ret))
(.skip))))))))
(.seq (.reg [⟨(some 74), none, false, .mov (.t 3), [2, 3, 64]⟩,
 ⟨(some 75), none, false, .lits 1 [(.k (intV 3)), (.k (intV 6)), (.k (intV 7)), (.k (intV 8)), (.k (intV 9))], []⟩,
 ⟨(some 76), none, false, .calv (.t 74) [(.t 75)], [74, 75]⟩,
 ⟨(some 77), none, true, .mov (.t 76), [76]⟩,
 ⟨(some 78), (some (77, false)), false, .fa 8 (.t 1), [1]⟩,
 ⟨(some 79), (some (77, false)), false, .ld false 1 (.t 78), [78]⟩,
 ⟨(some 80), (some (77, false)), false, .len (.t 79), [79]⟩,
 ⟨(some 81), (some (77, false)), false, .bin .eql (.t 80) (.k (intV 0)), [80]⟩,
 ⟨(some 82), none, false, .pick (.t 77) (.k (boolV true)) (.t 81), [77, 81, 80, 80, 79, 79, 78, 78, 1]⟩,
 ⟨(some 2), none, false, .mov (.t 82), [82]⟩])
(.ret)))),
 [.tmp 2]⟩
def o_syntax_uses : List (Nat × List Nat) := [(1000001, [0])]
theorem c_syntax_uses_ok : cFun Tryz.prog o_syntax_uses 78 = some c_syntax_uses.erase := by kernel_rfl

/- syntax_Expr -/
def c_syntax_Expr : AFun := ⟨.seq (.reg [⟨(some 1), none, false, .bx (.t 0), [0]⟩,
 ⟨(some 2), none, false, .mov (.k (intV 0)), [2]⟩])
(.seq (.reg [⟨(some 6), none, false, .ld true 6 (.t 1), []⟩,
 ⟨(some 7), none, false, .call 97 [(.t 6), (.k (intV 0))], [6]⟩,
 ⟨(some 5), none, false, .mov (.t 7), [7]⟩,
 ⟨(some 8), none, false, .ext (.t 5) 0, []⟩,
 ⟨(some 9), none, false, .ext (.t 5) 1, [5]⟩,
 ⟨(some 3), none, false, .mov (.t 8), [8]⟩,
 ⟨(some 4), none, false, .mov (.t 9), [9]⟩])
(.seq (.block 0 (.seq (.reg [⟨(some 11), none, false, .mov (.t 3), [3]⟩,
 ⟨(some 12), none, false, .bin .gtr (.t 11) (.k (intV 200)), [11]⟩,
 ⟨(some 10), none, false, .mov (.t 12), [12]⟩])
(.cond (.t 10)
(.seq (.reg [⟨(some 2), none, false, .mov (.k (intV 7)), [1, 4, 10]⟩])
(.ret))
(.seq (.reg [⟨(some 14), none, false, .mov (.t 4), [4, 10]⟩,
 ⟨(some 15), none, false, .bin .gtr (.t 14) (.k (intV 16)), [14]⟩,
 ⟨(some 13), none, false, .mov (.t 15), [15]⟩])
(.cond (.t 13)
(.seq (.reg [⟨(some 2), none, false, .mov (.k (intV 20)), [1, 13]⟩])
(.ret))
(.skip))))))
(.seq (.reg [⟨(some 16), none, false, .ld true 6 (.t 1), [2, 1, 13, 3, 4]⟩,
 ⟨(some 17), none, false, .call 98 [(.t 16)], [16]⟩,
 ⟨(some 2), none, false, .mov (.t 17), [17]⟩])
(.ret)))),
 [.tmp 2]⟩
def o_syntax_Expr : List (Nat × List Nat) := []
theorem c_syntax_Expr_ok : cFun Tryz.prog o_syntax_Expr 79 = some c_syntax_Expr.erase := by kernel_rfl

/- syntax_size -/
def c_syntax_size : AFun := ⟨.seq (.reg [⟨(some 4), none, false, .mov (.k (intV 0)), [4]⟩])
(.seq (.block 0 (.seq (.reg [⟨(some 6), none, false, .mov (.t 0), []⟩,
 ⟨(some 7), none, false, .mov (.t 1), [1]⟩,
 ⟨(some 8), none, false, .bin .lss (.t 6) (.t 7), [6, 7]⟩,
 ⟨(some 5), none, false, .mov (.t 8), [8]⟩])
(.cond (.t 5)
(.seq (.reg [⟨(some 4), none, false, .mov (.k (intV 8)), [0, 5]⟩])
(.ret))
(.seq (.reg [⟨(some 10), none, false, .mov (.t 0), [0, 5]⟩,
 ⟨(some 11), none, false, .bin .gtr (.t 10) (.k (intV 16)), [10]⟩,
 ⟨(some 9), none, false, .mov (.t 11), [11]⟩])
(.cond (.t 9)
(.seq (.reg [⟨(some 4), none, false, .mov (.k (intV 7)), [9]⟩])
(.ret))
(.skip))))))
(.seq (.reg [⟨(some 4), none, false, .mov (.k (intV 0)), [9, 0, 1]⟩])
(.ret))),
 [.tmp 4]⟩
def o_syntax_size : List (Nat × List Nat) := []
theorem c_syntax_size_ok : cFun Tryz.prog o_syntax_size 80 = some c_syntax_size.erase := by kernel_rfl

/- syntax_items -/
def c_syntax_items_L0 : ACode := (.seq (.reg [⟨(some 11), none, false, .bin .lss (.t 10) (.t 9), []⟩])
(.seq (.cond (.t 11)
(.skip)
(.exit 0))
(.seq (.block 1 (.seq (.reg [⟨(some 12), none, false, .ia 7 (.t 8) (.t 10), [11]⟩,
 ⟨(some 13), none, false, .ld true 7 (.t 12), [12]⟩,
 ⟨(some 5), none, false, .alloc [(.d (.lit (.int .i64 0))), (.d (.lit (.string ⟨#[]⟩))), (.d (.lit (.int .i64 0))), (.d (.lit (.int .i64 0))), (.d (.lit (.string ⟨#[]⟩))), .nil, (.d (.lit (.string ⟨#[]⟩)))], []⟩,
 ⟨none, none, false, .st 7 (.t 5) (.t 13), [13]⟩])
(.seq (.seq (.reg [⟨(some 14), none, false, .fa 0 (.t 5), []⟩,
 ⟨(some 15), none, false, .ld true 6 (.t 14), [14]⟩,
 ⟨(some 16), none, false, .call 79 [(.t 15)], [15]⟩,
 ⟨(some 6), none, false, .mov (.t 16), [16]⟩])
(.seq (.reg [⟨(some 17), none, false, .mov (.t 6), []⟩,
 ⟨(some 18), none, false, .bin .neq (.t 17) (.k (intV 0)), [17]⟩])
(.cond (.t 18)
(.seq (.reg [⟨(some 19), none, false, .mov (.t 6), [3, 8, 9, 10, 5, 6, 18]⟩,
 ⟨(some 2), none, false, .mov (.t 19), [19]⟩])
(.ret))
(.skip))))
(.seq (.reg [⟨(some 20), none, false, .fa 6 (.t 5), [2, 5, 6, 18]⟩,
 ⟨(some 21), none, false, .ld false 1 (.t 20), [20]⟩,
 ⟨(some 22), none, false, .callh 99 [(.t 3), (.t 21)], [21]⟩,
 ⟨(some 7), none, false, .mov (.t 22), [22]⟩])
(.seq (.reg [⟨(some 23), none, false, .mov (.t 7), []⟩,
 ⟨(some 24), none, false, .bin .neq (.t 23) (.k (intV 0)), [23]⟩])
(.cond (.t 24)
(.seq (.reg [⟨(some 25), none, false, .mov (.t 7), [3, 8, 9, 10, 7, 24]⟩,
 ⟨(some 2), none, false, .mov (.t 25), [25]⟩])
(.ret))
(.skip)))))))
(.reg [⟨(some 26), none, false, .bin .add (.t 10) (.k (intV 1)), [2, 10, 7, 24, 11]⟩,
 ⟨(some 10), none, false, .mov (.t 26), [26]⟩]))))
def c_syntax_items : AFun := ⟨.seq (.reg [⟨(some 2), none, false, .mov (.k (intV 0)), [2]⟩])
(.seq (.reg [⟨(some 3), none, false, .alloc [.nil], []⟩])
(.seq (.seq (.reg [⟨(some 8), none, false, .mov (.t 0), [0]⟩,
 ⟨(some 9), none, false, .len (.t 8), []⟩,
 ⟨(some 10), none, false, .mov (.k (intV 0)), []⟩])
(.block 0 (.loop [3, 8, 9, 10] c_syntax_items_L0)))
(.seq (.reg [⟨(some 2), none, false, .mov (.k (intV 0)), [3, 8, 9, 10]⟩])
(.ret)))),
 [.tmp 2]⟩
def o_syntax_items : List (Nat × List Nat) := [(1000008, [2])]
theorem c_syntax_items_ok : cFun Tryz.prog o_syntax_items 81 = some c_syntax_items.erase := by kernel_rfl

/- syntax_group -/
def c_syntax_group_L0 : ACode := (.seq (.reg [⟨(some 39), none, false, .bin .lss (.t 38) (.t 37), []⟩])
(.seq (.cond (.t 39)
(.skip)
(.exit 1))
(.seq (.block 2 (.seq (.reg [⟨(some 40), none, false, .ia 3 (.t 36) (.t 38), [39]⟩,
 ⟨(some 41), none, false, .ld true 3 (.t 40), [40]⟩,
 ⟨(some 6), none, false, .alloc [(.d (.lit (.string ⟨#[]⟩))), (.d (.lit (.string ⟨#[]⟩))), (.d (.lit (.string ⟨#[]⟩)))], []⟩,
 ⟨none, none, false, .st 3 (.t 6) (.t 41), [41]⟩])
(.seq (.reg [⟨(some 42), none, false, .fa 0 (.t 6), []⟩,
 ⟨(some 43), none, false, .ld false 1 (.t 42), [42]⟩,
 ⟨(some 44), none, false, .bin .eql (.t 43) (.k (.w (.c (.d (.lit (.string ⟨#[99, 111, 117, 110, 116]⟩)))))), [43]⟩,
 ⟨(some 7), none, false, .mov (.t 44), [44]⟩])
(.seq (.seq (.reg [⟨(some 45), none, false, .mov (.t 7), []⟩,
 ⟨(some 46), none, false, .bnot (.t 45), [45]⟩,
 ⟨(some 47), none, true, .mov (.t 46), [46]⟩,
 ⟨(some 48), (some (47, true)), false, .lits 1 [(.k (.w (.c (.d (.lit (.string ⟨#[115, 117, 109]⟩)))))), (.k (.w (.c (.d (.lit (.string ⟨#[109, 105, 110]⟩)))))), (.k (.w (.c (.d (.lit (.string ⟨#[109, 97, 120]⟩)))))), (.k (.w (.c (.d (.lit (.string ⟨#[102, 105, 114, 115, 116]⟩))))))], []⟩,
 ⟨(some 49), (some (47, true)), false, .fa 0 (.t 6), []⟩,
 ⟨(some 50), (some (47, true)), false, .ld false 1 (.t 49), [49]⟩,
 ⟨(some 51), (some (47, true)), false, .call 77 [(.t 48), (.t 50)], [48, 50]⟩,
 ⟨(some 52), (some (47, true)), false, .bnot (.t 51), [51]⟩,
 ⟨(some 53), none, false, .pick (.t 47) (.t 52) (.k (boolV false)), [47, 52, 51, 51, 48, 50, 50, 49, 49, 48]⟩,
 ⟨(some 54), none, true, .mov (.t 53), [53]⟩,
 ⟨(some 55), (some (54, false)), false, .mov (.t 7), [7]⟩,
 ⟨(some 56), (some (54, false)), false, .fa 1 (.t 6), []⟩,
 ⟨(some 57), (some (54, false)), false, .ld false 1 (.t 56), [56]⟩,
 ⟨(some 58), (some (54, false)), false, .bin .neq (.t 57) (.k (.w (.c (.d (.lit (.string ⟨#[]⟩)))))), [57]⟩,
 ⟨(some 59), (some (54, false)), false, .beq false (.t 55) (.t 58), [55, 58]⟩,
 ⟨(some 60), none, false, .pick (.t 54) (.k (boolV true)) (.t 59), [54, 59, 55, 58, 58, 57, 57, 56, 56, 55, 7]⟩])
(.cond (.t 60)
(.seq (.reg [⟨(some 2), none, false, .mov (.k (intV 5)), [3, 36, 37, 38, 6, 60]⟩])
(.ret))
(.skip)))
(.seq (.seq (.reg [⟨(some 61), none, false, .fa 1 (.t 6), [2, 60]⟩,
 ⟨(some 62), none, false, .ld false 1 (.t 61), [61]⟩,
 ⟨(some 63), none, false, .bin .neq (.t 62) (.k (.w (.c (.d (.lit (.string ⟨#[]⟩)))))), [62]⟩,
 ⟨(some 64), none, true, .mov (.t 63), [63]⟩,
 ⟨(some 65), (some (64, true)), false, .fa 1 (.t 6), []⟩,
 ⟨(some 66), (some (64, true)), false, .ld false 1 (.t 65), [65]⟩,
 ⟨(some 67), (some (64, true)), false, .call 56 [(.t 66)], [66]⟩,
 ⟨(some 68), (some (64, true)), false, .bnot (.t 67), [67]⟩,
 ⟨(some 69), none, false, .pick (.t 64) (.t 68) (.k (boolV false)), [64, 68, 67, 67, 66, 66, 65, 65]⟩])
(.cond (.t 69)
(.seq (.reg [⟨(some 2), none, false, .mov (.k (intV 3)), [3, 36, 37, 38, 6, 69]⟩])
(.ret))
(.skip)))
(.seq (.reg [⟨(some 70), none, false, .fa 2 (.t 6), [2, 6, 69]⟩,
 ⟨(some 71), none, false, .ld false 1 (.t 70), [70]⟩,
 ⟨(some 72), none, false, .callh 99 [(.t 3), (.t 71)], [71]⟩,
 ⟨(some 8), none, false, .mov (.t 72), [72]⟩])
(.seq (.reg [⟨(some 73), none, false, .mov (.t 8), []⟩,
 ⟨(some 74), none, false, .bin .neq (.t 73) (.k (intV 0)), [73]⟩])
(.cond (.t 74)
(.seq (.reg [⟨(some 75), none, false, .mov (.t 8), [3, 36, 37, 38, 8, 74]⟩,
 ⟨(some 2), none, false, .mov (.t 75), [75]⟩])
(.ret))
(.skip)))))))))
(.reg [⟨(some 76), none, false, .bin .add (.t 38) (.k (intV 1)), [2, 38, 8, 74, 39]⟩,
 ⟨(some 38), none, false, .mov (.t 76), [76]⟩]))))
def c_syntax_group : AFun := ⟨.seq (.reg [⟨(some 1), none, false, .bx (.t 0), [0]⟩,
 ⟨(some 2), none, false, .mov (.k (intV 0)), [2]⟩])
(.seq (.block 0 (.seq (.reg [⟨(some 10), none, false, .fa 8 (.t 1), []⟩,
 ⟨(some 11), none, false, .ld false 1 (.t 10), [10]⟩,
 ⟨(some 12), none, false, .len (.t 11), [11]⟩,
 ⟨(some 13), none, false, .fa 9 (.t 1), []⟩,
 ⟨(some 14), none, false, .ld false 1 (.t 13), [13]⟩,
 ⟨(some 15), none, false, .len (.t 14), [14]⟩,
 ⟨(some 16), none, false, .bin .add (.t 12) (.t 15), [12, 15]⟩,
 ⟨(some 17), none, false, .bin .eql (.t 16) (.k (intV 0)), [16]⟩,
 ⟨(some 9), none, false, .mov (.t 17), [17]⟩])
(.cond (.t 9)
(.seq (.reg [⟨(some 2), none, false, .mov (.k (intV 8)), [1, 9]⟩])
(.ret))
(.seq (.reg [⟨(some 19), none, false, .fa 8 (.t 1), [9]⟩,
 ⟨(some 20), none, false, .ld false 1 (.t 19), [19]⟩,
 ⟨(some 21), none, false, .len (.t 20), [20]⟩,
 ⟨(some 22), none, false, .bin .gtr (.t 21) (.k (intV 16)), [21]⟩,
 ⟨(some 23), none, true, .mov (.t 22), [22]⟩,
 ⟨(some 24), (some (23, false)), false, .fa 9 (.t 1), []⟩,
 ⟨(some 25), (some (23, false)), false, .ld false 1 (.t 24), [24]⟩,
 ⟨(some 26), (some (23, false)), false, .len (.t 25), [25]⟩,
 ⟨(some 27), (some (23, false)), false, .bin .gtr (.t 26) (.k (intV 16)), [26]⟩,
 ⟨(some 28), none, false, .pick (.t 23) (.k (boolV true)) (.t 27), [23, 27, 26, 26, 25, 25, 24, 24]⟩,
 ⟨(some 18), none, false, .mov (.t 28), [28]⟩])
(.cond (.t 18)
(.seq (.reg [⟨(some 2), none, false, .mov (.k (intV 7)), [1, 18]⟩])
(.ret))
(.skip))))))
(.seq (.reg [⟨(some 3), none, false, .alloc [.nil], [2, 18]⟩])
(.seq (.seq (.reg [⟨(some 29), none, false, .fa 8 (.t 1), []⟩,
 ⟨(some 30), none, false, .ld false 1 (.t 29), [29]⟩,
 ⟨(some 31), none, false, .callh 100 [(.t 3), (.t 30)], [30]⟩,
 ⟨(some 4), none, false, .mov (.t 31), [31]⟩])
(.seq (.reg [⟨(some 32), none, false, .mov (.t 4), []⟩,
 ⟨(some 33), none, false, .bin .neq (.t 32) (.k (intV 0)), [32]⟩])
(.cond (.t 33)
(.seq (.reg [⟨(some 34), none, false, .mov (.t 4), [1, 3, 4, 33]⟩,
 ⟨(some 2), none, false, .mov (.t 34), [34]⟩])
(.ret))
(.skip))))
(.seq (.seq (.reg [⟨(some 35), none, false, .fa 9 (.t 1), [2, 1, 4, 33]⟩,
 ⟨(some 36), none, false, .ld false 1 (.t 35), [35]⟩,
 ⟨(some 37), none, false, .len (.t 36), []⟩,
 ⟨(some 38), none, false, .mov (.k (intV 0)), []⟩])
(.block 1 (.loop [3, 36, 37, 38] c_syntax_group_L0)))
(.seq (.reg [⟨(some 2), none, false, .mov (.k (intV 0)), [3, 36, 37, 38]⟩])
(.ret)))))),
 [.tmp 2]⟩
def o_syntax_group : List (Nat × List Nat) := [(1000006, [2]), (1000017, [2])]
theorem c_syntax_group_ok : cFun Tryz.prog o_syntax_group 82 = some c_syntax_group.erase := by kernel_rfl

/- syntax_columns -/
def c_syntax_columns : AFun := ⟨.seq (.reg [⟨(some 4), none, false, .mov (.k (intV 0)), [4]⟩])
(.seq (.seq (.reg [⟨(some 7), none, false, .mov (.t 0), []⟩,
 ⟨(some 8), none, false, .len (.t 7), [7]⟩,
 ⟨(some 9), none, false, .mov (.t 1), [1]⟩,
 ⟨(some 10), none, false, .call 80 [(.t 8), (.t 9)], [8, 9]⟩,
 ⟨(some 5), none, false, .mov (.t 10), [10]⟩])
(.seq (.reg [⟨(some 11), none, false, .mov (.t 5), []⟩,
 ⟨(some 12), none, false, .bin .neq (.t 11) (.k (intV 0)), [11]⟩])
(.cond (.t 12)
(.seq (.reg [⟨(some 13), none, false, .mov (.t 5), [0, 5, 12]⟩,
 ⟨(some 4), none, false, .mov (.t 13), [13]⟩])
(.ret))
(.skip))))
(.seq (.reg [⟨(some 6), none, false, .alloc [.nil], [4, 5, 12]⟩])
(.seq (.reg [⟨(some 14), none, false, .mov (.t 0), [0]⟩,
 ⟨(some 15), none, false, .callh 100 [(.t 6), (.t 14)], [6, 14]⟩,
 ⟨(some 4), none, false, .mov (.t 15), [15]⟩])
(.ret)))),
 [.tmp 4]⟩
def o_syntax_columns : List (Nat × List Nat) := [(1000005, [1])]
theorem c_syntax_columns_ok : cFun Tryz.prog o_syntax_columns 83 = some c_syntax_columns.erase := by kernel_rfl

/- strings_IndexByte -/
def c_strings_IndexByte : AFun := ⟨.seq (.reg [⟨(some 4), none, false, .mov (.k (intV 0)), [4]⟩])
(.seq (.reg [⟨(some 5), none, false, .mov (.t 0), [0]⟩,
 ⟨(some 6), none, false, .mov (.t 1), [1]⟩,
 ⟨(some 7), none, false, .call 101 [(.t 5), (.t 6)], [5, 6]⟩,
 ⟨(some 4), none, false, .mov (.t 7), [7]⟩])
(.ret)),
 [.tmp 4]⟩
def o_strings_IndexByte : List (Nat × List Nat) := []
theorem c_strings_IndexByte_ok : cFun Tryz.prog o_strings_IndexByte 84 = some c_strings_IndexByte.erase := by kernel_rfl

/- slices_insertionSortCmpFunc_Change -/
def c_slices_insertionSortCmpFunc_Change_L0 : ACode := (.seq (.seq (.reg [⟨(some 18), none, false, .mov (.t 9), []⟩,
 ⟨(some 19), none, false, .mov (.t 1), []⟩,
 ⟨(some 20), none, false, .bin .gtr (.t 18) (.t 19), [18, 19]⟩,
 ⟨(some 21), none, true, .mov (.t 20), [20]⟩,
 ⟨(some 22), (some (21, true)), false, .mov (.t 3), []⟩,
 ⟨(some 23), (some (21, true)), false, .mov (.t 0), []⟩,
 ⟨(some 24), (some (21, true)), false, .mov (.t 9), []⟩,
 ⟨(some 25), (some (21, true)), false, .ia 2 (.t 23) (.t 24), [23, 24]⟩,
 ⟨(some 26), (some (21, true)), false, .ld true 2 (.t 25), [25]⟩,
 ⟨(some 27), (some (21, true)), false, .mov (.t 0), []⟩,
 ⟨(some 28), (some (21, true)), false, .mov (.t 9), []⟩,
 ⟨(some 29), (some (21, true)), false, .bin .sub (.t 28) (.k (intV 1)), [28]⟩,
 ⟨(some 30), (some (21, true)), false, .ia 2 (.t 27) (.t 29), [27, 29]⟩,
 ⟨(some 31), (some (21, true)), false, .ld true 2 (.t 30), [30]⟩,
 ⟨(some 32), (some (21, true)), false, .calv (.t 22) [(.t 26), (.t 31)], [22, 26, 31]⟩,
 ⟨(some 33), (some (21, true)), false, .bin .lss (.t 32) (.k (intV 0)), [32]⟩,
 ⟨(some 34), none, false, .pick (.t 21) (.t 33) (.k (boolV false)), [21, 33, 32, 32, 22, 26, 31, 31, 30, 30, 27, 29, 29, 28, 28, 27, 26, 25, 25, 23, 24, 24, 23, 22]⟩])
(.cond (.t 34)
(.skip)
(.exit 2)))
(.seq (.block 3 (.reg [⟨(some 37), none, false, .mov (.t 0), [34]⟩,
 ⟨(some 38), none, false, .mov (.t 9), []⟩,
 ⟨(some 39), none, false, .mov (.t 0), []⟩,
 ⟨(some 40), none, false, .mov (.t 9), []⟩,
 ⟨(some 41), none, false, .bin .sub (.t 40) (.k (intV 1)), [40]⟩,
 ⟨(some 42), none, false, .mov (.t 0), []⟩,
 ⟨(some 43), none, false, .mov (.t 9), []⟩,
 ⟨(some 44), none, false, .bin .sub (.t 43) (.k (intV 1)), [43]⟩,
 ⟨(some 45), none, false, .ia 2 (.t 42) (.t 44), [42, 44]⟩,
 ⟨(some 46), none, false, .ld true 2 (.t 45), [45]⟩,
 ⟨(some 47), none, false, .mov (.t 0), []⟩,
 ⟨(some 48), none, false, .mov (.t 9), []⟩,
 ⟨(some 49), none, false, .ia 2 (.t 47) (.t 48), [47, 48]⟩,
 ⟨(some 50), none, false, .ld true 2 (.t 49), [49]⟩,
 ⟨(some 51), none, false, .ia 2 (.t 37) (.t 38), [37, 38]⟩,
 ⟨none, none, false, .st 2 (.t 51) (.t 46), [46, 51]⟩,
 ⟨(some 52), none, false, .ia 2 (.t 39) (.t 41), [39, 41]⟩,
 ⟨none, none, false, .st 2 (.t 52) (.t 50), [50, 52]⟩]))
(.reg [⟨(some 35), none, false, .mov (.t 9), [9, 34]⟩,
 ⟨(some 36), none, false, .bin .sub (.t 35) (.k (intV 1)), [35]⟩,
 ⟨(some 9), none, false, .mov (.t 36), [36]⟩])))
def c_slices_insertionSortCmpFunc_Change_L1 : ACode := (.seq (.seq (.reg [⟨(some 12), none, false, .mov (.t 8), []⟩,
 ⟨(some 13), none, false, .mov (.t 2), []⟩,
 ⟨(some 14), none, false, .bin .lss (.t 12) (.t 13), [12, 13]⟩])
(.cond (.t 14)
(.skip)
(.exit 0)))
(.seq (.block 1 (.seq (.reg [⟨(some 17), none, false, .mov (.t 8), [14]⟩,
 ⟨(some 9), none, false, .mov (.t 17), [17]⟩])
(.block 2 (.loop [0, 1, 2, 3, 8, 9] c_slices_insertionSortCmpFunc_Change_L0))))
(.reg [⟨(some 15), none, false, .mov (.t 8), [8, 9, 14]⟩,
 ⟨(some 16), none, false, .bin .add (.t 15) (.k (intV 1)), [15]⟩,
 ⟨(some 8), none, false, .mov (.t 16), [16]⟩])))
def c_slices_insertionSortCmpFunc_Change : AFun := ⟨.seq (.reg [⟨(some 10), none, false, .mov (.t 1), []⟩,
 ⟨(some 11), none, false, .bin .add (.t 10) (.k (intV 1)), [10]⟩,
 ⟨(some 8), none, false, .mov (.t 11), [11]⟩])
(.block 0 (.loop [0, 1, 2, 3, 8] c_slices_insertionSortCmpFunc_Change_L1)),
 []⟩
def o_slices_insertionSortCmpFunc_Change : List (Nat × List Nat) := [(4, [0, 1, 2, 3, 4, 5, 6, 7, 8, 9, 10, 11, 12, 13, 14, 15, 16]), (6, [0, 1, 2, 3, 4, 5, 6, 7, 8, 9, 10, 11, 12, 13, 14, 15, 16, 17])]
theorem c_slices_insertionSortCmpFunc_Change_ok : cFun Tryz.prog o_slices_insertionSortCmpFunc_Change 85 = some c_slices_insertionSortCmpFunc_Change.erase := by kernel_rfl

/- slices_symMergeCmpFunc_Change -/
def c_slices_symMergeCmpFunc_Change_L0 : ACode := (.seq (.seq (.reg [⟨(some 31), none, false, .mov (.t 10), []⟩,
 ⟨(some 32), none, false, .mov (.t 11), []⟩,
 ⟨(some 33), none, false, .bin .lss (.t 31) (.t 32), [31, 32]⟩])
(.cond (.t 33)
(.skip)
(.exit 0)))
(.block 1 (.seq (.reg [⟨(some 34), none, false, .mov (.t 10), [33]⟩,
 ⟨(some 35), none, false, .mov (.t 11), []⟩,
 ⟨(some 36), none, false, .bin .add (.t 34) (.t 35), [34, 35]⟩,
 ⟨(some 37), none, false, .conv .u64 (.t 36), [36]⟩,
 ⟨(some 38), none, false, .shf false (.t 37) (.k (.w (.c (.d (.lit (.int .u64 1)))))), [37]⟩,
 ⟨(some 39), none, false, .conv .i64 (.t 38), [38]⟩,
 ⟨(some 12), none, false, .mov (.t 39), [39]⟩])
(.seq (.reg [⟨(some 40), none, false, .mov (.t 4), []⟩,
 ⟨(some 41), none, false, .mov (.t 0), []⟩,
 ⟨(some 42), none, false, .mov (.t 12), []⟩,
 ⟨(some 43), none, false, .ia 2 (.t 41) (.t 42), [41, 42]⟩,
 ⟨(some 44), none, false, .ld true 2 (.t 43), [43]⟩,
 ⟨(some 45), none, false, .mov (.t 0), []⟩,
 ⟨(some 46), none, false, .mov (.t 1), []⟩,
 ⟨(some 47), none, false, .ia 2 (.t 45) (.t 46), [45, 46]⟩,
 ⟨(some 48), none, false, .ld true 2 (.t 47), [47]⟩,
 ⟨(some 49), none, false, .calv (.t 40) [(.t 44), (.t 48)], [40, 44, 48]⟩,
 ⟨(some 50), none, false, .bin .lss (.t 49) (.k (intV 0)), [49]⟩])
(.cond (.t 50)
(.reg [⟨(some 51), none, false, .mov (.t 12), [10, 12, 50]⟩,
 ⟨(some 52), none, false, .bin .add (.t 51) (.k (intV 1)), [51]⟩,
 ⟨(some 10), none, false, .mov (.t 52), [52]⟩])
(.reg [⟨(some 53), none, false, .mov (.t 12), [11, 12, 50]⟩,
 ⟨(some 11), none, false, .mov (.t 53), [53]⟩]))))))
def c_slices_symMergeCmpFunc_Change_L1 : ACode := (.seq (.seq (.reg [⟨(some 55), none, false, .mov (.t 13), []⟩,
 ⟨(some 56), none, false, .mov (.t 10), []⟩,
 ⟨(some 57), none, false, .bin .sub (.t 56) (.k (intV 1)), [56]⟩,
 ⟨(some 58), none, false, .bin .lss (.t 55) (.t 57), [55, 57]⟩])
(.cond (.t 58)
(.skip)
(.exit 2)))
(.seq (.block 3 (.reg [⟨(some 61), none, false, .mov (.t 0), [58]⟩,
 ⟨(some 62), none, false, .mov (.t 13), []⟩,
 ⟨(some 63), none, false, .mov (.t 0), []⟩,
 ⟨(some 64), none, false, .mov (.t 13), []⟩,
 ⟨(some 65), none, false, .bin .add (.t 64) (.k (intV 1)), [64]⟩,
 ⟨(some 66), none, false, .mov (.t 0), []⟩,
 ⟨(some 67), none, false, .mov (.t 13), []⟩,
 ⟨(some 68), none, false, .bin .add (.t 67) (.k (intV 1)), [67]⟩,
 ⟨(some 69), none, false, .ia 2 (.t 66) (.t 68), [66, 68]⟩,
 ⟨(some 70), none, false, .ld true 2 (.t 69), [69]⟩,
 ⟨(some 71), none, false, .mov (.t 0), []⟩,
 ⟨(some 72), none, false, .mov (.t 13), []⟩,
 ⟨(some 73), none, false, .ia 2 (.t 71) (.t 72), [71, 72]⟩,
 ⟨(some 74), none, false, .ld true 2 (.t 73), [73]⟩,
 ⟨(some 75), none, false, .ia 2 (.t 61) (.t 62), [61, 62]⟩,
 ⟨none, none, false, .st 2 (.t 75) (.t 70), [70, 75]⟩,
 ⟨(some 76), none, false, .ia 2 (.t 63) (.t 65), [63, 65]⟩,
 ⟨none, none, false, .st 2 (.t 76) (.t 74), [74, 76]⟩]))
(.reg [⟨(some 59), none, false, .mov (.t 13), [13, 58]⟩,
 ⟨(some 60), none, false, .bin .add (.t 59) (.k (intV 1)), [59]⟩,
 ⟨(some 13), none, false, .mov (.t 60), [60]⟩])))
def c_slices_symMergeCmpFunc_Change_L2 : ACode := (.seq (.seq (.reg [⟨(some 83), none, false, .mov (.t 14), []⟩,
 ⟨(some 84), none, false, .mov (.t 15), []⟩,
 ⟨(some 85), none, false, .bin .lss (.t 83) (.t 84), [83, 84]⟩])
(.cond (.t 85)
(.skip)
(.exit 4)))
(.block 5 (.seq (.reg [⟨(some 86), none, false, .mov (.t 14), [85]⟩,
 ⟨(some 87), none, false, .mov (.t 15), []⟩,
 ⟨(some 88), none, false, .bin .add (.t 86) (.t 87), [86, 87]⟩,
 ⟨(some 89), none, false, .conv .u64 (.t 88), [88]⟩,
 ⟨(some 90), none, false, .shf false (.t 89) (.k (.w (.c (.d (.lit (.int .u64 1)))))), [89]⟩,
 ⟨(some 91), none, false, .conv .i64 (.t 90), [90]⟩,
 ⟨(some 16), none, false, .mov (.t 91), [91]⟩])
(.seq (.reg [⟨(some 92), none, false, .mov (.t 4), []⟩,
 ⟨(some 93), none, false, .mov (.t 0), []⟩,
 ⟨(some 94), none, false, .mov (.t 2), []⟩,
 ⟨(some 95), none, false, .ia 2 (.t 93) (.t 94), [93, 94]⟩,
 ⟨(some 96), none, false, .ld true 2 (.t 95), [95]⟩,
 ⟨(some 97), none, false, .mov (.t 0), []⟩,
 ⟨(some 98), none, false, .mov (.t 16), []⟩,
 ⟨(some 99), none, false, .ia 2 (.t 97) (.t 98), [97, 98]⟩,
 ⟨(some 100), none, false, .ld true 2 (.t 99), [99]⟩,
 ⟨(some 101), none, false, .calv (.t 92) [(.t 96), (.t 100)], [92, 96, 100]⟩,
 ⟨(some 102), none, false, .bin .lss (.t 101) (.k (intV 0)), [101]⟩,
 ⟨(some 103), none, false, .bnot (.t 102), [102]⟩])
(.cond (.t 103)
(.reg [⟨(some 104), none, false, .mov (.t 16), [14, 16, 103]⟩,
 ⟨(some 105), none, false, .bin .add (.t 104) (.k (intV 1)), [104]⟩,
 ⟨(some 14), none, false, .mov (.t 105), [105]⟩])
(.reg [⟨(some 106), none, false, .mov (.t 16), [15, 16, 103]⟩,
 ⟨(some 15), none, false, .mov (.t 106), [106]⟩]))))))
def c_slices_symMergeCmpFunc_Change_L3 : ACode := (.seq (.seq (.reg [⟨(some 108), none, false, .mov (.t 17), []⟩,
 ⟨(some 109), none, false, .mov (.t 14), []⟩,
 ⟨(some 110), none, false, .bin .gtr (.t 108) (.t 109), [108, 109]⟩])
(.cond (.t 110)
(.skip)
(.exit 6)))
(.seq (.block 7 (.reg [⟨(some 113), none, false, .mov (.t 0), [110]⟩,
 ⟨(some 114), none, false, .mov (.t 17), []⟩,
 ⟨(some 115), none, false, .mov (.t 0), []⟩,
 ⟨(some 116), none, false, .mov (.t 17), []⟩,
 ⟨(some 117), none, false, .bin .sub (.t 116) (.k (intV 1)), [116]⟩,
 ⟨(some 118), none, false, .mov (.t 0), []⟩,
 ⟨(some 119), none, false, .mov (.t 17), []⟩,
 ⟨(some 120), none, false, .bin .sub (.t 119) (.k (intV 1)), [119]⟩,
 ⟨(some 121), none, false, .ia 2 (.t 118) (.t 120), [118, 120]⟩,
 ⟨(some 122), none, false, .ld true 2 (.t 121), [121]⟩,
 ⟨(some 123), none, false, .mov (.t 0), []⟩,
 ⟨(some 124), none, false, .mov (.t 17), []⟩,
 ⟨(some 125), none, false, .ia 2 (.t 123) (.t 124), [123, 124]⟩,
 ⟨(some 126), none, false, .ld true 2 (.t 125), [125]⟩,
 ⟨(some 127), none, false, .ia 2 (.t 113) (.t 114), [113, 114]⟩,
 ⟨none, none, false, .st 2 (.t 127) (.t 122), [122, 127]⟩,
 ⟨(some 128), none, false, .ia 2 (.t 115) (.t 117), [115, 117]⟩,
 ⟨none, none, false, .st 2 (.t 128) (.t 126), [126, 128]⟩]))
(.reg [⟨(some 111), none, false, .mov (.t 17), [17, 110]⟩,
 ⟨(some 112), none, false, .bin .sub (.t 111) (.k (intV 1)), [111]⟩,
 ⟨(some 17), none, false, .mov (.t 112), [112]⟩])))
def c_slices_symMergeCmpFunc_Change_L4 : ACode := (.seq (.seq (.reg [⟨(some 149), none, false, .mov (.t 20), []⟩,
 ⟨(some 150), none, false, .mov (.t 21), []⟩,
 ⟨(some 151), none, false, .bin .lss (.t 149) (.t 150), [149, 150]⟩])
(.cond (.t 151)
(.skip)
(.exit 8)))
(.block 9 (.seq (.reg [⟨(some 152), none, false, .mov (.t 20), [151]⟩,
 ⟨(some 153), none, false, .mov (.t 21), []⟩,
 ⟨(some 154), none, false, .bin .add (.t 152) (.t 153), [152, 153]⟩,
 ⟨(some 155), none, false, .conv .u64 (.t 154), [154]⟩,
 ⟨(some 156), none, false, .shf false (.t 155) (.k (.w (.c (.d (.lit (.int .u64 1)))))), [155]⟩,
 ⟨(some 157), none, false, .conv .i64 (.t 156), [156]⟩,
 ⟨(some 23), none, false, .mov (.t 157), [157]⟩])
(.seq (.reg [⟨(some 158), none, false, .mov (.t 4), []⟩,
 ⟨(some 159), none, false, .mov (.t 0), []⟩,
 ⟨(some 160), none, false, .mov (.t 22), []⟩,
 ⟨(some 161), none, false, .mov (.t 23), []⟩,
 ⟨(some 162), none, false, .bin .sub (.t 160) (.t 161), [160, 161]⟩,
 ⟨(some 163), none, false, .ia 2 (.t 159) (.t 162), [159, 162]⟩,
 ⟨(some 164), none, false, .ld true 2 (.t 163), [163]⟩,
 ⟨(some 165), none, false, .mov (.t 0), []⟩,
 ⟨(some 166), none, false, .mov (.t 23), []⟩,
 ⟨(some 167), none, false, .ia 2 (.t 165) (.t 166), [165, 166]⟩,
 ⟨(some 168), none, false, .ld true 2 (.t 167), [167]⟩,
 ⟨(some 169), none, false, .calv (.t 158) [(.t 164), (.t 168)], [158, 164, 168]⟩,
 ⟨(some 170), none, false, .bin .lss (.t 169) (.k (intV 0)), [169]⟩,
 ⟨(some 171), none, false, .bnot (.t 170), [170]⟩])
(.cond (.t 171)
(.reg [⟨(some 172), none, false, .mov (.t 23), [20, 23, 171]⟩,
 ⟨(some 173), none, false, .bin .add (.t 172) (.k (intV 1)), [172]⟩,
 ⟨(some 20), none, false, .mov (.t 173), [173]⟩])
(.reg [⟨(some 174), none, false, .mov (.t 23), [21, 23, 171]⟩,
 ⟨(some 21), none, false, .mov (.t 174), [174]⟩]))))))
def c_slices_symMergeCmpFunc_Change : AFun := ⟨.seq (.seq (.reg [⟨(some 25), none, false, .mov (.t 2), []⟩,
 ⟨(some 26), none, false, .mov (.t 1), []⟩,
 ⟨(some 27), none, false, .bin .sub (.t 25) (.t 26), [25, 26]⟩,
 ⟨(some 28), none, false, .bin .eql (.t 27) (.k (intV 1)), [27]⟩])
(.cond (.t 28)
(.seq (.reg [⟨(some 29), none, false, .mov (.t 2), [2, 28]⟩,
 ⟨(some 10), none, false, .mov (.t 29), [29]⟩])
(.seq (.reg [⟨(some 30), none, false, .mov (.t 3), [3]⟩,
 ⟨(some 11), none, false, .mov (.t 30), [30]⟩])
(.seq (.block 0 (.loop [0, 1, 4, 10, 11] c_slices_symMergeCmpFunc_Change_L0))
(.seq (.seq (.reg [⟨(some 54), none, false, .mov (.t 1), [1, 4, 11, 33]⟩,
 ⟨(some 13), none, false, .mov (.t 54), [54]⟩])
(.block 2 (.loop [0, 10, 13] c_slices_symMergeCmpFunc_Change_L1)))
(.ret)))))
(.skip)))
(.seq (.seq (.reg [⟨(some 77), none, false, .mov (.t 3), [10, 13, 28]⟩,
 ⟨(some 78), none, false, .mov (.t 2), []⟩,
 ⟨(some 79), none, false, .bin .sub (.t 77) (.t 78), [77, 78]⟩,
 ⟨(some 80), none, false, .bin .eql (.t 79) (.k (intV 1)), [79]⟩])
(.cond (.t 80)
(.seq (.reg [⟨(some 81), none, false, .mov (.t 1), [1, 3, 80]⟩,
 ⟨(some 14), none, false, .mov (.t 81), [81]⟩])
(.seq (.reg [⟨(some 82), none, false, .mov (.t 2), []⟩,
 ⟨(some 15), none, false, .mov (.t 82), [82]⟩])
(.seq (.block 4 (.loop [0, 2, 4, 14, 15] c_slices_symMergeCmpFunc_Change_L2))
(.seq (.seq (.reg [⟨(some 107), none, false, .mov (.t 2), [2, 4, 15, 85]⟩,
 ⟨(some 17), none, false, .mov (.t 107), [107]⟩])
(.block 6 (.loop [0, 14, 17] c_slices_symMergeCmpFunc_Change_L3)))
(.ret)))))
(.skip)))
(.seq (.reg [⟨(some 129), none, false, .mov (.t 1), [14, 17, 80]⟩,
 ⟨(some 130), none, false, .mov (.t 3), []⟩,
 ⟨(some 131), none, false, .bin .add (.t 129) (.t 130), [129, 130]⟩,
 ⟨(some 132), none, false, .conv .u64 (.t 131), [131]⟩,
 ⟨(some 133), none, false, .shf false (.t 132) (.k (.w (.c (.d (.lit (.int .u64 1)))))), [132]⟩,
 ⟨(some 134), none, false, .conv .i64 (.t 133), [133]⟩,
 ⟨(some 18), none, false, .mov (.t 134), [134]⟩])
(.seq (.reg [⟨(some 135), none, false, .mov (.t 18), []⟩,
 ⟨(some 136), none, false, .mov (.t 2), []⟩,
 ⟨(some 137), none, false, .bin .add (.t 135) (.t 136), [135, 136]⟩,
 ⟨(some 19), none, false, .mov (.t 137), [137]⟩])
(.seq (.reg [⟨(some 20), none, false, .mov (.k (intV 0)), [20]⟩,
 ⟨(some 21), none, false, .mov (.k (intV 0)), [21]⟩])
(.seq (.seq (.reg [⟨(some 138), none, false, .mov (.t 2), []⟩,
 ⟨(some 139), none, false, .mov (.t 18), []⟩,
 ⟨(some 140), none, false, .bin .gtr (.t 138) (.t 139), [138, 139]⟩])
(.cond (.t 140)
(.seq (.reg [⟨(some 141), none, false, .mov (.t 19), [140]⟩,
 ⟨(some 142), none, false, .mov (.t 3), []⟩,
 ⟨(some 143), none, false, .bin .sub (.t 141) (.t 142), [141, 142]⟩,
 ⟨(some 20), none, false, .mov (.t 143), [143]⟩])
(.reg [⟨(some 144), none, false, .mov (.t 18), []⟩,
 ⟨(some 21), none, false, .mov (.t 144), [144]⟩]))
(.seq (.reg [⟨(some 145), none, false, .mov (.t 1), [140]⟩,
 ⟨(some 20), none, false, .mov (.t 145), [145]⟩])
(.reg [⟨(some 146), none, false, .mov (.t 2), []⟩,
 ⟨(some 21), none, false, .mov (.t 146), [146]⟩]))))
(.seq (.reg [⟨(some 147), none, false, .mov (.t 19), []⟩,
 ⟨(some 148), none, false, .bin .sub (.t 147) (.k (intV 1)), [147]⟩,
 ⟨(some 22), none, false, .mov (.t 148), [148]⟩])
(.seq (.block 8 (.loop [0, 1, 2, 3, 4, 18, 19, 20, 21, 22] c_slices_symMergeCmpFunc_Change_L4))
(.seq (.reg [⟨(some 175), none, false, .mov (.t 19), [19, 21, 22, 151]⟩,
 ⟨(some 176), none, false, .mov (.t 20), []⟩,
 ⟨(some 177), none, false, .bin .sub (.t 175) (.t 176), [175, 176]⟩,
 ⟨(some 24), none, false, .mov (.t 177), [177]⟩])
(.seq (.seq (.reg [⟨(some 178), none, false, .mov (.t 20), []⟩,
 ⟨(some 179), none, false, .mov (.t 2), []⟩,
 ⟨(some 180), none, false, .bin .lss (.t 178) (.t 179), [178, 179]⟩,
 ⟨(some 181), none, true, .mov (.t 180), [180]⟩,
 ⟨(some 182), (some (181, true)), false, .mov (.t 2), []⟩,
 ⟨(some 183), (some (181, true)), false, .mov (.t 24), []⟩,
 ⟨(some 184), (some (181, true)), false, .bin .lss (.t 182) (.t 183), [182, 183]⟩,
 ⟨(some 185), none, false, .pick (.t 181) (.t 184) (.k (boolV false)), [181, 184, 182, 183, 183, 182]⟩])
(.cond (.t 185)
(.reg [⟨(some 186), none, false, .mov (.t 0), [185]⟩,
 ⟨(some 187), none, false, .mov (.t 20), []⟩,
 ⟨(some 188), none, false, .mov (.t 2), [2]⟩,
 ⟨(some 189), none, false, .mov (.t 24), []⟩,
 ⟨(some 190), none, false, .mov (.t 4), []⟩,
 ⟨(some 191), none, false, .callh 102 [(.t 186), (.t 187), (.t 188), (.t 189), (.t 190)], [186, 187, 188, 189, 190, 191]⟩])
(.skip)))
(.seq (.seq (.reg [⟨(some 192), none, false, .mov (.t 1), [2, 185]⟩,
 ⟨(some 193), none, false, .mov (.t 20), []⟩,
 ⟨(some 194), none, false, .bin .lss (.t 192) (.t 193), [192, 193]⟩,
 ⟨(some 195), none, true, .mov (.t 194), [194]⟩,
 ⟨(some 196), (some (195, true)), false, .mov (.t 20), []⟩,
 ⟨(some 197), (some (195, true)), false, .mov (.t 18), []⟩,
 ⟨(some 198), (some (195, true)), false, .bin .lss (.t 196) (.t 197), [196, 197]⟩,
 ⟨(some 199), none, false, .pick (.t 195) (.t 198) (.k (boolV false)), [195, 198, 196, 197, 197, 196]⟩])
(.cond (.t 199)
(.reg [⟨(some 200), none, false, .mov (.t 0), [199]⟩,
 ⟨(some 201), none, false, .mov (.t 1), [1]⟩,
 ⟨(some 202), none, false, .mov (.t 20), [20]⟩,
 ⟨(some 203), none, false, .mov (.t 18), []⟩,
 ⟨(some 204), none, false, .mov (.t 4), []⟩,
 ⟨(some 205), none, false, .callh 86 [(.t 200), (.t 201), (.t 202), (.t 203), (.t 204)], [200, 201, 202, 203, 204, 205]⟩])
(.skip)))
(.seq (.reg [⟨(some 206), none, false, .mov (.t 18), [1, 20, 199]⟩,
 ⟨(some 207), none, false, .mov (.t 24), []⟩,
 ⟨(some 208), none, false, .bin .lss (.t 206) (.t 207), [206, 207]⟩,
 ⟨(some 209), none, true, .mov (.t 208), [208]⟩,
 ⟨(some 210), (some (209, true)), false, .mov (.t 24), []⟩,
 ⟨(some 211), (some (209, true)), false, .mov (.t 3), []⟩,
 ⟨(some 212), (some (209, true)), false, .bin .lss (.t 210) (.t 211), [210, 211]⟩,
 ⟨(some 213), none, false, .pick (.t 209) (.t 212) (.k (boolV false)), [209, 212, 210, 211, 211, 210]⟩])
(.cond (.t 213)
(.reg [⟨(some 214), none, false, .mov (.t 0), [0, 213]⟩,
 ⟨(some 215), none, false, .mov (.t 18), [18]⟩,
 ⟨(some 216), none, false, .mov (.t 24), [24]⟩,
 ⟨(some 217), none, false, .mov (.t 3), [3]⟩,
 ⟨(some 218), none, false, .mov (.t 4), [4]⟩,
 ⟨(some 219), none, false, .callh 86 [(.t 214), (.t 215), (.t 216), (.t 217), (.t 218)], [214, 215, 216, 217, 218, 219]⟩])
(.skip))))))))))))),
 []⟩
def o_slices_symMergeCmpFunc_Change : List (Nat × List Nat) := [(5, [0, 1, 2, 3, 4, 5, 6, 7, 8, 9, 10]), (11, [0, 1, 2, 3, 4, 5, 6, 7, 8, 9, 10, 11, 12, 13, 14, 15, 16, 17]), (17, [0, 1, 2, 3, 4, 5, 6, 7, 8, 9, 10, 11]), (23, [0, 1, 2, 3, 4, 5, 6, 7, 8, 9, 10, 11, 12, 13, 14, 15, 16, 17]), (35, [0, 1, 2, 3, 4, 5, 6, 7, 8, 9, 10, 11, 12, 13]), (1000040, [5]), (1000042, [5]), (1000044, [5])]
theorem c_slices_symMergeCmpFunc_Change_ok : cFun Tryz.prog o_slices_symMergeCmpFunc_Change 86 = some c_slices_symMergeCmpFunc_Change.erase := by kernel_rfl

end Go.Proofs.YtcajnlkkjdhjdaaGreat
