/- Merged from the texts: AmM7 AmM8 Code1 Code2 AmU1 Da1 Da2 Da3 Da4 -/
import Derived.Test.YtekkjilpdohieaaGreatProg
import Derived.Lib.Strings
import Derived.Lib.Slices
import Derived.Lib.Walk
import Derived.Lib.Bytealg
import Derived.Test.YtekkjilpdohieaaGreatGr7
set_option linter.unusedSimpArgs false
set_option linter.unusedVariables false
namespace Go.AM

mutual
def bnd : D → Prop
  | .lit _ => True
  | .sl l => l.length ≤ 9223372036854775807 ∧ bnds l
  | .fn _ _ => True
def bnds : List (List D) → Prop
  | [] => True
  | e :: r => bndc e ∧ bnds r
def bndc : List D → Prop
  | [] => True
  | d :: r => bnd d ∧ bndc r
end
mutual
theorem RD_bnd {w : World} {ok : Nat → Prop} : ∀ (d : D) (v : Value), RD w ok d v → bnd d
  | .lit _, _, _ => by simp only [bnd]
  | .sl l, v, h => by
    simp only [RD] at h
    obtain ⟨a, n, c, h1, h2, h3, h4, h5⟩ := h
    simp only [bnd]
    refine ⟨by rw [← h2]; simp only [maxLen] at h4; omega, ?_⟩
    rcases h5 with h5 | ⟨b, o, sz, _, _, h6⟩
    · subst h5; simp only [bnds]
    · exact RDs_bnd l b sz o h6
  | .fn _ _, _, _ => by simp only [bnd]
theorem RDs_bnd {w : World} {ok : Nat → Prop} : ∀ (l : List (List D)) (b sz o : Nat), RDs w ok b sz o l → bnds l
  | [], _, _, _, _ => by simp only [bnds]
  | e :: r, b, sz, o, h => by
    simp only [RDs] at h
    simp only [bnds]
    exact ⟨RDc_bnd e b o h.2.1, RDs_bnd r b sz (o + sz) h.2.2⟩
theorem RDc_bnd {w : World} {ok : Nat → Prop} : ∀ (l : List D) (b o : Nat), RDc w ok b o l → bndc l
  | [], _, _, _ => by simp only [bndc]
  | d :: r, b, o, h => by
    simp only [RDc] at h
    simp only [bndc]
    obtain ⟨⟨v, _, h1⟩, h2⟩ := h
    exact ⟨RD_bnd d v h1, RDc_bnd r b (o + 1) h2⟩
end
theorem bnds_iff {l : List (List D)} : bnds l ↔ ∀ e ∈ l, bndc e := by
  induction l with
  | nil => simp [bnds]
  | cons x r ih => simp [bnds, ih]
theorem bndc_iff {l : List D} : bndc l ↔ ∀ e ∈ l, bnd e := by
  induction l with
  | nil => simp [bndc]
  | cons x r ih => simp [bndc, ih]
def bndC : C → Prop
  | .d x => bnd x
  | .fp l => bndc l
  | _ => True
def bndW : W → Prop
  | .c x => bndC x
  | .agg cs => ∀ x ∈ cs, bndC x
theorem CR_bnd {ι : Nat → Gh} {w : World} {ok : Nat → Prop} {c : C} {v : Value} (h : CR ι w ok c v) : bndC c := by
  cases c with
  | d x => exact RD_bnd x v h
  | fp l => obtain ⟨b, o, _, _, h⟩ := h; exact RDc_bnd l b o h
  | _ => trivial
theorem CRs_bnd {ι : Nat → Gh} {w : World} {ok : Nat → Prop} : ∀ {cs : List C} {vs : List Value}, CRs ι w ok cs vs → ∀ c ∈ cs, bndC c
  | [], _, _, c, hc => by cases hc
  | x :: r, [], h, _, _ => h.elim
  | x :: r, v :: vs, h, c, hc => by
    rcases List.mem_cons.1 hc with rfl | hc
    · exact CR_bnd h.1
    · exact CRs_bnd h.2 c hc
theorem WR_bnd {ι : Nat → Gh} {w : World} {ok : Nat → Prop} {x : W} {v : Value} (h : WR ι w ok x v) : bndW x := by
  cases x with
  | c x => exact CR_bnd h
  | agg cs => obtain ⟨vs, _, h⟩ := h; exact CRs_bnd h
theorem WRs_bnd {ι : Nat → Gh} {w : World} {ok : Nat → Prop} : ∀ {xs : List W} {vs : List Value}, WRs ι w ok xs vs → ∀ x ∈ xs, bndW x
  | [], _, _, c, hc => by cases hc
  | x :: r, [], h, _, _ => h.elim
  | x :: r, v :: vs, h, c, hc => by
    rcases List.mem_cons.1 hc with rfl | hc
    · exact WR_bnd h.1
    · exact WRs_bnd h.2 c hc

/-- What is handed over is bounded. -/
theorem sat_bnd {P : Program} {k : Nat} {args : List W} {Q : Res → Prop} (hk : callable P k = true) (h : (∀ x ∈ args, bndW x) → Sat P k args Q) : Sat P k args Q :=
  ⟨hk, fun w A vals hA hw => (h (WRs_bnd hw)).2 w A vals hA hw⟩
/-- The i-th argument is a slice: its length is bounded. -/
theorem sat_len {P : Program} {k : Nat} {args : List W} {Q : Res → Prop} (i : Nat) {l : List (List D)} (hk : callable P k = true) (hi : args[i]? = some (.c (.d (.sl l)))) (h : l.length ≤ 9223372036854775807 → Sat P k args Q) : Sat P k args Q :=
  sat_bnd hk fun hb => h (by
    have := hb _ (List.mem_of_getElem? hi)
    simp only [bndW, bndC, bnd] at this
    exact this.1)
theorem wrapS {i : Nat} {n : Nat} (h : i < n) (hn : n ≤ 9223372036854775807) : IntKind.i64.wrap ((i : Int) + 1) = ((i + 1 : Nat) : Int) := by
  rw [IntKind.wrap_i64]; omega
theorem wrapI {n : Int} (h1 : -9223372036854775808 ≤ n) (h2 : n ≤ 9223372036854775807) : IntKind.i64.wrap n = n := by
  rw [IntKind.wrap_i64]; omega
end Go.AM

namespace Go.AM

noncomputable def andR (l : List Prop) (K : Prop) : Prop := List.rec (motive := fun _ => Prop) K (fun p _ ih => p ∧ ih) l
theorem andR_eq : ∀ (l : List Prop) (K : Prop), andR l K = andL l K
  | [], _ => rfl
  | p :: r, K => by
    show (p ∧ andR r K) = (p ∧ andL r K)
    rw [andR_eq r K]

/-- 'forceN l K' is 'K l', the list written out before one goes on. -/
noncomputable def forceN (l : List Nat) (K : List Nat → Prop) : Prop := List.rec (motive := fun _ => (List Nat → Prop) → Prop) (fun K => K []) (fun x _ ih K => ih (fun r => K (x :: r))) l K
theorem forceN_eq : ∀ (l : List Nat) (K : List Nat → Prop), forceN l K = K l
  | [], _ => rfl
  | x :: r, K => forceN_eq r fun r => K (x :: r)

noncomputable def aCallR (P : Program) (dst : Option Nat) (f : FuncId) (args : List W) (s : S) (K : S → Prop) : Prop :=
  forceN (reached s.pl [] (refsWs args)) fun U =>
    SatH P f (args.map (W.pk s.pl U)) (pkPls s.pl U 0 U) fun r => cond (okNames U (nbase dst U) r) (K (recvN s U (nbase dst U) dst r)) False

noncomputable def aopR (P : Program) (dst : Option Tmp) (op : AOp) (s : S) (K : S → Prop) : Prop :=
  match op with
  | .callh f args => aCallR P dst f (args.map s.ow) s K
  | op => aop P dst op s K
theorem aopR_eq (P : Program) : aopR P = aop P := by
  funext dst op s K
  cases op <;> try rfl
  simp only [aopR, aop, aCallR, aCallH, forceN_eq]

noncomputable def opsG (ap : Option Tmp → AOp → S → (S → Prop) → Prop) (f : FuncId → List W → Option W) (n : Nat) : List AI → S → (S → Prop) → Prop :=
  Nat.rec (motive := fun _ => List AI → S → (S → Prop) → Prop) (fun _ _ _ => False) (fun _ ih ops s K => match ops with
    | [] => K s
    | .mk dst g isG op drop :: r =>
      match g with
      | none => match dst with
        | none => ap none op s fun s1 => force (s1.drop drop) fun s2 => ih r s2 K
        | some d => avalK f op s (ap (some d) op s fun s1 => split isG (some d) s1 fun s2 => force (s2.drop drop) fun s2 => ih r s2 K) fun ps v =>
            bif isG then
              force (s.put (some d) v) fun s1 => scK f 100 none (some d) drop r s1 (andR ps (split true (some d) s1 fun s2 => force (s2.drop drop) fun s2 => ih r s2 K)) fun ps2 s2 r2 =>
                andR ps (andR ps2 (ih r2 s2 K))
            else andR ps (force ((s.put (some d) v).drop drop) fun s2 => ih r s2 K)
      | some (d, want) => match s.tmp d with
        | .w (.c (.d (.lit (.bool b)))) =>
          bif (bif b then want else !want) then ap dst op s fun s1 => split isG dst s1 fun s2 => force (s2.drop drop) fun s2 => ih r s2 K
          else force ((s.put dst undefV).drop drop) fun s => ih r s K
        | .tup [] => force ((s.put dst undefV).drop drop) fun s => ih r s K
        | _ => False) n

theorem opsG_eq (P : Program) (f : FuncId → List W → Option W) : ∀ n, opsG (aop P) f n = mwpOps P f n
  | 0 => by
    funext ops s K
    unfold mwpOps
    rfl
  | n + 1 => by
    funext ops s K
    have ih := opsG_eq P f n
    cases ops with
    | nil => unfold mwpOps; rfl
    | cons i r =>
      obtain ⟨dst, g, isG, op, drop⟩ := i
      unfold mwpOps
      rw [← ih]
      simp only [← andR_eq]
      rfl

noncomputable def opsR (P : Program) (f : FuncId → List W → Option W) (n : Nat) : List AI → S → (S → Prop) → Prop := opsG (aopR P) f n
theorem opsR_eq (P : Program) (f : FuncId → List W → Option W) (n : Nat) : opsR P f n = mwpOps P f n := by
  unfold opsR
  rw [aopR_eq]
  exact opsG_eq P f n

noncomputable def mwtrR (P : Program) (f : FuncId → List W → Option W) (t : ATr) : S → (S → Prop) → Prop :=
  ATr.rec (motive := fun _ => S → (S → Prop) → Prop) (fun s K => K s) (fun ops _ ih s K => opsR P f 1000 ops s fun s1 => ih s1 K) (fun _ _ ia ib s K => ia s K ∧ ib s K) t
theorem mwtrR_eq (P : Program) (f : FuncId → List W → Option W) : ∀ t, mwtrR P f t = mwtr P f t
  | .fin => rfl
  | .run ops t => by
    funext s K
    unfold mwtr
    rw [← mwtrR_eq P f t, ← opsR_eq]
    rfl
  | .br a b => by
    funext s K
    unfold mwtr
    rw [← mwtrR_eq P f a, ← mwtrR_eq P f b]
    rfl

noncomputable def mwpR (P : Program) (f : FuncId → List W → Option W) (c : ACode) : (E → S → Prop) → S → Prop :=
  ACode.rec (motive := fun _ => (E → S → Prop) → S → Prop)
    (fun Q s => Q .normal s)
    (fun ops Q s => opsR P f 1000 ops s (Q .normal))
    (fun _ _ ia ib Q s => ia (seqK ib Q) s)
    (fun c _ _ ia ib Q s => match litBool (s.o c) with
      | some t => cond t (ia Q s) (ib Q s)
      | none => False)
    (fun id _ ia Q s => ia (blockK id Q) s)
    (fun keep _ ib Q s => LoopP ib keep Q s)
    (fun _ ia Q s => ia Q s)
    (fun i Q s => Q (.exit i) s)
    (fun Q s => Q .ret s)
    (fun t Q s => mwtrR P f t s (Q .normal)) c

theorem mwpR_eq (P : Program) (f : FuncId → List W → Option W) : ∀ c, mwpR P f c = mwp P f c
  | .skip => by funext Q s; unfold mwp; rfl
  | .reg ops => by
    funext Q s
    unfold mwp
    rw [← opsR_eq]
    rfl
  | .seq a b => by
    funext Q s
    unfold mwp
    rw [← mwpR_eq P f a, ← mwpR_eq P f b]
    rfl
  | .cond c a b => by
    funext Q s
    unfold mwp
    rw [← mwpR_eq P f a, ← mwpR_eq P f b]
    rfl
  | .block i a => by
    funext Q s
    unfold mwp
    rw [← mwpR_eq P f a]
    rfl
  | .loop k b => by
    funext Q s
    unfold mwp
    rw [← mwpR_eq P f b]
    rfl
  | .scope a => by
    funext Q s
    unfold mwp
    rw [← mwpR_eq P f a]
    rfl
  | .exit i => by funext Q s; unfold mwp; rfl
  | .ret => by funext Q s; unfold mwp; rfl
  | .tree t => by
    funext Q s
    unfold mwp
    rw [← mwtrR_eq]
    rfl

noncomputable def wpF (P : Program) (f : FuncId → List W → Option W) (F : AFun) (args : List W) (Q : Res → Prop) : Prop :=
  force ⟨initSl 0 args, []⟩ fun s => mwpR P f F.code (endK F.res [] Q) s
noncomputable def wpFH (P : Program) (f : FuncId → List W → Option W) (F : AFun) (args : List W) (hs : List Pl) (Q : Res → Prop) : Prop :=
  force ⟨initSl 0 (args.map (W.ren ((hnames 100000 hs).map some))), numbered 100000 (hs.map (Pl.ren ((hnames 100000 hs).map some)))⟩ fun s =>
    mwpR P f F.code (endK F.res (hnames 100000 hs) Q) s

theorem Sat_of {P : Program} {k : Nat} {ords : List (Nat × List Nat)} {A : AFun} {args : List W} {Q : Res → Prop} (T : Tab P) (h1 : cFun P ords k = some A.erase) (h2 : callable P k = true) (h : wpF P T.f A args Q) : Sat P k args Q := by
  refine Sat_of_mwpF T h1 h2 ?_
  unfold wpF at h
  unfold mwpF
  rw [mwpR_eq] at h
  exact h
theorem SatH_of {P : Program} {k : Nat} {ords : List (Nat × List Nat)} {A : AFun} {args : List W} {hs : List Pl} {Q : Res → Prop} (T : Tab P) (h1 : cFun P ords k = some A.erase) (h2 : callable P k = true) (h3 : hs.length ≤ 1000) (h : wpFH P T.f A args hs Q) : SatH P k args hs Q := by
  refine SatH_of_mwpFH T h1 h2 h3 ?_
  unfold wpFH at h
  unfold mwpFH
  rw [mwpR_eq] at h
  exact h

theorem mwpR_mono {P : Program} {f : FuncId → List W → Option W} (c : ACode) {Q Q' : E → S → Prop} (hq : ∀ e s, Q e s → Q' e s) (s : S) : mwpR P f c Q s → mwpR P f c Q' s := by
  rw [mwpR_eq]; exact mwp_mono c hq s

/-- A loop over a family of states. -/
theorem loopF {P : Program} {f : FuncId → List W → Option W} {body : ACode} {keep : List Nat} {Q : E → S → Prop} {s : S} {ι : Type} (σ : ι → S) (μ : ι → Nat) (R : ι → Prop) (h0 : ∃ i, R i ∧ normW s keep (· = σ i))
    (hb : ∀ i, R i → mwpR P f body (loopK (fun s2 => ∃ j, (R j ∧ μ j < μ i) ∧ normW s2 keep (· = σ j)) Q) (σ i)) : LoopP (mwpR P f body) keep Q s :=
  loop_fam (mwpR_mono body) σ μ R h0 hb

/-- A loop over indices 0, 1 .. n. -/
theorem loopI {P : Program} {f : FuncId → List W → Option W} {body : ACode} {keep : List Nat} {Q : E → S → Prop} {s : S} (n : Nat) (σ : Nat → S) (R : Nat → Prop) (h0 : R 0 ∧ normW s keep (· = σ 0))
    (hb : ∀ i, i ≤ n → R i → mwpR P f body (loopK (fun s2 => i < n ∧ R (i + 1) ∧ normW s2 keep (· = σ (i + 1))) Q) (σ i)) : LoopP (mwpR P f body) keep Q s := by
  refine loopF σ (fun i => n - i) (fun i => i ≤ n ∧ R i) ⟨0, ⟨Nat.zero_le _, h0.1⟩, h0.2⟩ ?_
  rintro i ⟨h1, h2⟩
  refine mwpR_mono body (fun e s2 h => ?_) _ (hb i h1 h2)
  cases e with
  | normal =>
    obtain ⟨h3, h4, h5⟩ := h
    exact ⟨i + 1, ⟨⟨h3, h4⟩, by omega⟩, h5⟩
  | exit k => exact h
  | ret => exact h
end Go.AM

namespace Go.Proofs.YtekkjilpdohieaaGreat
open Go Go.AM
noncomputable abbrev Pg : Program := Tryz.prog
abbrev iA (d : Nat) (op : AOp) (dr : List Nat) : AI := ⟨some d, none, false, op, dr⟩
abbrev iM (d x : Nat) (dr : List Nat) : AI := ⟨some d, none, false, .mov (.t x), dr⟩
abbrev iN (d q x : Nat) (dr : List Nat) : AI := ⟨some d, some (q, true), false, .mov (.t x), dr⟩
abbrev iB (d q : Nat) (op : AOp) (dr : List Nat) : AI := ⟨some d, some (q, true), false, op, dr⟩
abbrev iC (d q : Nat) (op : AOp) (dr : List Nat) : AI := ⟨some d, some (q, false), false, op, dr⟩
abbrev iG (d x : Nat) (dr : List Nat) : AI := ⟨some d, none, true, .mov (.t x), dr⟩
abbrev iE (op : AOp) (dr : List Nat) : AI := ⟨none, none, false, op, dr⟩
def k_law42_NaiveWheres : Nat := 3
def k_law42_NaiveGroups : Nat := 4
def k_law42_awake : Nat := 5
def k_ref39_FewTable : Nat := 6
def k_ref36_Small : Nat := 7
def k_naive_Step : Nat := 8
def k_ref34_Same : Nat := 9
def k_ref42_Compare : Nat := 10
def k_law42_text : Nat := 11
def k_law42_num : Nat := 12
def k_naive_Run : Nat := 13
def k_ref39_FewCols : Nat := 14
def k_ref36_Deep : Nat := 15
def k_table_CheckAll : Nat := 16
def k_table_Check : Nat := 17
def k_typing_Step : Nat := 18
def k_naive_step : Nat := 19
def k_ref34_SameRow : Nat := 20
def k_ref34_Order : Nat := 21
def k_typing_Query : Nat := 22
def k_table_Find : Nat := 23
def k_intern_Name : Nat := 24
def k_table_Col : Nat := 25
def k_column_Value : Nat := 26
def k_syntax_Step : Nat := 27
def k_typing_node : Nat := 28
def k_typing_fits : Nat := 29
def k_typing_selected : Nat := 30
def k_typing_grouped : Nat := 31
def k_typing_column : Nat := 32
def k_typing_coalesced : Nat := 33
def k_typing_joined : Nat := 34
def k_slices_Clone_Column : Nat := 35
def k_table_Sorted : Nat := 36
def k_temporal_Overlap : Nat := 37
def k_temporal_Nearest : Nat := 38
def k_temporal_Coalesce : Nat := 39
def k_naive_rows : Nat := 40
def k_ref33_Same : Nat := 41
def k_ref34_numbers : Nat := 42
def k_syntax_Query : Nat := 43
def k_intern_letter : Nat := 44
def k_slices_IndexFunc_Column : Nat := 45
def k_table_Col_1 : Nat := 46
def k_num_In : Nat := 47
def k_syntax_uses : Nat := 48
def k_syntax_Expr : Nat := 49
def k_syntax_size : Nat := 50
def k_syntax_items : Nat := 51
def k_syntax_group : Nat := 52
def k_syntax_columns : Nat := 53
def k_syntax_identifier : Nat := 54
def k_typing_when : Nat := 55
def k_typing_all : Nat := 56
def k_typing_call : Nat := 57
def k_typing_take : Nat := 58
def k_typing_column_1 : Nat := 59
def k_slices_Contains_string : Nat := 60
def k_typing_integer : Nat := 61
def k_slices_ContainsFunc_string : Nat := 62
def k_typing_joined_1 : Nat := 63
def k_table_Sorted_1 : Nat := 64
def k_slices_Clone_LValue : Nat := 65
def k_slices_SortStableFunc_LValue : Nat := 66
def k_table_Sorted_2 : Nat := 67
def k_table_compared_Value : Nat := 68
def k_table_Sorted_2_1 : Nat := 69
def k_table_Order : Nat := 70
def k_temporal_columns : Nat := 71
def k_temporal_places : Nat := 72
def k_temporal_rest : Nat := 73
def k_slices_Clone_string : Nat := 74
def k_temporal_span : Nat := 75
def k_temporal_agree : Nat := 76
def k_temporal_pick : Nat := 77
def k_slices_Clone_Value : Nat := 78
def k_slices_SortStableFunc_piece : Nat := 79
def k_temporal_compare : Nat := 80
def k_slices_Equal_Value : Nat := 81
def k_eval_Cond : Nat := 82
def k_eval_Expr : Nat := 83
def k_naive_grouped : Nat := 84
def k_naive_joined : Nat := 85
def k_strings_IndexByte : Nat := 86
def k_syntax_uses_1 : Nat := 87
def k_slices_Contains_StepOp : Nat := 88
def k_syntax_zero : Nat := 89
def k_syntax_measure : Nat := 90
def k_syntax_nodes : Nat := 91
def k_syntax_list_add : Nat := 92
def k_syntax_list_all : Nat := 93
def k_slices_ContainsFunc_ValueKind : Nat := 94
def k_typing_all_1 : Nat := 95
def k_slices_Index_string : Nat := 96
def k_slices_IndexFunc_string : Nat := 97
def k_slices_stableCmpFunc_LValue : Nat := 98
def k_cmp_Compare_int : Nat := 99
def k_cmp_Compare_ValueKind : Nat := 100
def k_cmp_Compare_string : Nat := 101
def k_slices_Contains_Value : Nat := 102
def k_slices_stableCmpFunc_piece : Nat := 103
def k_cmp_Or_int : Nat := 104
def k_slices_CompareFunc_Value : Nat := 105
def k_eval_truth : Nat := 106
def k_typing_Expr : Nat := 107
def k_eval_fits : Nat := 108
def k_eval_value : Nat := 109
def k_naive_groups : Nat := 110
def k_naive_places : Nat := 111
def k_eval_Agg : Nat := 112
def k_naive_pick : Nat := 113
def k_slices_Concat_Value : Nat := 114
def k_internal_stringslite_IndexByte : Nat := 115
def k_slices_Index_StepOp : Nat := 116
def k_syntax_node : Nat := 117
def k_slices_IndexFunc_ValueKind : Nat := 118
def k_slices_insertionSortCmpFunc_LValue : Nat := 119
def k_slices_symMergeCmpFunc_LValue : Nat := 120
def k_cmp_isNaN_int : Nat := 121
def k_cmp_isNaN_ValueKind : Nat := 122
def k_cmp_isNaN_string : Nat := 123
def k_slices_Index_Value : Nat := 124
def k_slices_insertionSortCmpFunc_piece : Nat := 125
def k_slices_symMergeCmpFunc_piece : Nat := 126
def k_eval_value_1 : Nat := 127
def k_eval_both : Nat := 128
def k_eval_not : Nat := 129
def k_eval_operation : Nat := 130
def k_slices_BinarySearchFunc_LValue : Nat := 131
def k_naive_groups_1 : Nat := 132
def k_slices_Insert_group : Nat := 133
def k_eval_number : Nat := 134
def k_eval_sum : Nat := 135
def k_slices_MinFunc_Value : Nat := 136
def k_slices_MaxFunc_Value : Nat := 137
def k_slices_Grow_Value : Nat := 138
def k_internal_bytealg_IndexByteString : Nat := 139
def k_syntax_constant : Nat := 140
def k_syntax_arity : Nat := 141
def k_slices_rotateCmpFunc_LValue : Nat := 142
def k_slices_rotateCmpFunc_piece : Nat := 143
def k_num_Add : Nat := 144
def k_num_Mul : Nat := 145
def k_eval_divided : Nat := 146
def k_eval_call : Nat := 147
def k_slices_overlaps_group : Nat := 148
def k_slices_rotateRight_group : Nat := 149
def k_slices_swapRangeCmpFunc_LValue : Nat := 150
def k_slices_swapRangeCmpFunc_piece : Nat := 151
def k_num_within : Nat := 152
def k_num_Floor : Nat := 153
def k_strings_Contains : Nat := 154
def k_strings_HasPrefix : Nat := 155
def k_slices_rotateLeft_group : Nat := 156
def k_num_quotient : Nat := 157
def k_strings_Index : Nat := 158
def k_internal_stringslite_HasPrefix : Nat := 159
def k_slices_Reverse_group : Nat := 160
def k_num_magnitude : Nat := 161
def k_math_bits_Mul64 : Nat := 162
def k_math_bits_Div64 : Nat := 163
def k_internal_stringslite_Index : Nat := 164
def k_math_bits_LeadingZeros64 : Nat := 165
def k_internal_bytealg_IndexString : Nat := 166
def k_internal_bytealg_Cutover : Nat := 167
def k_internal_bytealg_IndexRabinKarp_string : Nat := 168
def k_math_bits_Len64 : Nat := 169
def k_internal_bytealg_hashStr_string : Nat := 170
def k_errors_errorString_Error : Nat := 186
/- law42_NaiveWheres -/
def c_law42_NaiveWheres : AFun := ⟨.seq (.reg [iA 3 (.bx (.t 0)) [0],
 iA 4 (.bx (.t 1)) [1],
 iA 5 (.bx (.t 2)) [2],
 iA 6 (.mov (.k (boolV false))) [6]])
(.seq (.seq (.reg [iA 13 (.call 5 []) [],
 iA 14 (.bnot (.t 13)) [13],
 iG 15 14 [14],
 iC 16 15 (.ld true 2 (.t 3)) [],
 iC 17 15 (.call 6 [(.t 16)]) [16],
 iC 18 15 (.bnot (.t 17)) [17],
 iA 19 (.pick (.t 15) (.k (boolV true)) (.t 18)) [15, 18, 17, 16],
 iG 20 19 [19],
 iC 21 20 (.ld true 6 (.t 4)) [],
 iC 22 20 (.call 7 [(.t 21)]) [21],
 iC 23 20 (.bnot (.t 22)) [22],
 iA 24 (.pick (.t 20) (.k (boolV true)) (.t 23)) [20, 23, 22, 21],
 iG 25 24 [24],
 iC 26 25 (.ld true 6 (.t 5)) [],
 iC 27 25 (.call 7 [(.t 26)]) [26],
 iC 28 25 (.bnot (.t 27)) [27],
 iA 29 (.pick (.t 25) (.k (boolV true)) (.t 28)) [25, 28, 27, 26]])
(.cond (.t 29)
(.seq (.reg [iA 30 (.call 5 []) [3, 4, 5, 29],
 iM 6 30 [30]])
(.ret))
(.skip)))
(.seq (.reg [iA 32 (.ld true 2 (.t 3)) [6, 29],
 iA 33 (.ld true 6 (.t 4)) [],
 iA 34 (.build [(.d (.lit (.int .i64 0))), (.d (.lit (.int .i64 0))), (.d (.lit (.string ⟨#[]⟩))), (.d (.lit (.int .i64 0))), (.d (.lit (.int .i64 0))), (.d (.lit (.string ⟨#[]⟩))), .nil, .nil, .nil, .nil, .nil, (.d (.lit (.int .i64 0))), (.d (.lit (.string ⟨#[]⟩)))] [(0, 1, (.k (intV 1))), (1, 6, (.t 33))]) [33],
 iA 35 (.call 8 [(.k (.w (.c .nil))), (.t 32), (.t 34)]) [32, 34],
 iM 31 35 [35],
 iA 36 (.ext (.t 31) 0) [],
 iA 37 (.ext (.t 31) 1) [31],
 iA 7 (.alloc [.nil, .nil]) [],
 iE (.st 2 (.t 7) (.t 36)) [36],
 iM 8 37 [37]])
(.seq (.reg [iA 39 (.ld true 2 (.t 3)) [3],
 iA 40 (.ld true 6 (.t 4)) [4],
 iA 41 (.ld true 6 (.t 5)) [],
 iA 42 (.lits 6 [(.t 40), (.t 41)]) [40, 41],
 iA 43 (.build [(.d (.lit (.int .i64 0))), (.d (.lit (.string ⟨#[]⟩))), (.d (.lit (.int .i64 0))), (.d (.lit (.int .i64 0))), (.d (.lit (.string ⟨#[]⟩))), .nil] [(0, 1, (.k (intV 14))), (5, 1, (.t 42))]) [42],
 iA 44 (.build [(.d (.lit (.int .i64 0))), (.d (.lit (.int .i64 0))), (.d (.lit (.string ⟨#[]⟩))), (.d (.lit (.int .i64 0))), (.d (.lit (.int .i64 0))), (.d (.lit (.string ⟨#[]⟩))), .nil, .nil, .nil, .nil, .nil, (.d (.lit (.int .i64 0))), (.d (.lit (.string ⟨#[]⟩)))] [(0, 1, (.k (intV 1))), (1, 6, (.t 43))]) [43],
 iA 45 (.call 8 [(.k (.w (.c .nil))), (.t 39), (.t 44)]) [39, 44],
 iM 38 45 [45],
 iA 46 (.ext (.t 38) 0) [],
 iA 47 (.ext (.t 38) 1) [38],
 iA 9 (.alloc [.nil, .nil]) [],
 iE (.st 2 (.t 9) (.t 46)) [46],
 iM 10 47 [47]])
(.seq (.reg [iA 49 (.ld true 2 (.t 7)) [7],
 iA 50 (.ld true 6 (.t 5)) [5],
 iA 51 (.build [(.d (.lit (.int .i64 0))), (.d (.lit (.int .i64 0))), (.d (.lit (.string ⟨#[]⟩))), (.d (.lit (.int .i64 0))), (.d (.lit (.int .i64 0))), (.d (.lit (.string ⟨#[]⟩))), .nil, .nil, .nil, .nil, .nil, (.d (.lit (.int .i64 0))), (.d (.lit (.string ⟨#[]⟩)))] [(0, 1, (.k (intV 1))), (1, 6, (.t 50))]) [50],
 iA 52 (.call 8 [(.k (.w (.c .nil))), (.t 49), (.t 51)]) [49, 51],
 iM 48 52 [52],
 iA 53 (.ext (.t 48) 0) [],
 iA 54 (.ext (.t 48) 1) [48],
 iA 11 (.alloc [.nil, .nil]) [],
 iE (.st 2 (.t 11) (.t 53)) [53],
 iM 12 54 [54]])
(.seq (.seq (.reg [iM 55 8 [8],
 iA 56 (.bin .neq (.t 55) (.k (intV 0))) [55],
 iG 57 56 [56],
 iC 58 57 (.mov (.t 10)) [10],
 iC 59 57 (.bin .neq (.t 58) (.k (intV 0))) [58],
 iA 60 (.pick (.t 57) (.k (boolV true)) (.t 59)) [57, 59, 58, 10]])
(.cond (.t 60)
(.seq (.reg [iA 6 (.mov (.k (boolV true))) [9, 11, 12, 60]])
(.ret))
(.skip)))
(.seq (.reg [iM 61 12 [6, 12, 60],
 iA 62 (.bin .eql (.t 61) (.k (intV 0))) [61],
 iG 63 62 [62],
 iB 64 63 (.ld true 2 (.t 11)) [11],
 iB 65 63 (.ld true 2 (.t 9)) [9],
 iB 66 63 (.call 9 [(.t 64), (.t 65)]) [64, 65],
 iA 67 (.pick (.t 63) (.t 66) (.k (boolV false))) [63, 66, 64, 65, 9, 11],
 iM 6 67 [67]])
(.ret))))))),
 [.tmp 6]⟩
def o_law42_NaiveWheres : List (Nat × List Nat) := []
theorem c_law42_NaiveWheres_ok : cFun Tryz.prog o_law42_NaiveWheres 3 = some c_law42_NaiveWheres.erase := by kernel_rfl

/- law42_NaiveGroups -/
def c_law42_NaiveGroups_L0 : ACode := (.seq (.seq (.reg [iM 41 11 [],
 iA 42 (.fa 1 (.t 7)) [],
 iA 43 (.ld false 1 (.t 42)) [42],
 iA 44 (.len (.t 43)) [43],
 iA 45 (.bin .lss (.t 41) (.t 44)) [41, 44]])
(.cond (.t 45)
(.skip)
(.exit 0)))
(.seq (.block 1 (.seq (.seq (.reg [iA 48 (.fa 1 (.t 7)) [45],
 iA 49 (.ld false 1 (.t 48)) [48],
 iM 50 11 [],
 iA 51 (.ia 1 (.t 49) (.t 50)) [49, 50],
 iA 52 (.ld false 1 (.t 51)) [51],
 iA 53 (.len (.t 52)) [52],
 iM 54 10 [],
 iA 55 (.bin .add (.t 54) (.k (intV 1))) [54],
 iA 56 (.bin .neq (.t 53) (.t 55)) [53, 55],
 iG 57 56 [56],
 iC 58 57 (.fa 1 (.t 7)) [],
 iC 59 57 (.ld false 1 (.t 58)) [58],
 iC 60 57 (.mov (.t 11)) [],
 iC 61 57 (.ia 1 (.t 59) (.t 60)) [59, 60],
 iC 62 57 (.ld false 1 (.t 61)) [61],
 iC 63 57 (.mov (.t 10)) [],
 iC 64 57 (.ia 3 (.t 62) (.t 63)) [62, 63],
 iC 65 57 (.fa 0 (.t 64)) [64],
 iC 66 57 (.ld false 1 (.t 65)) [65],
 iC 67 57 (.bin .neq (.t 66) (.k (intV 2))) [66],
 iA 68 (.pick (.t 57) (.k (boolV true)) (.t 67)) [57, 67, 66, 65, 64, 62, 63, 61, 59, 60, 58]])
(.cond (.t 68)
(.seq (.reg [iA 6 (.mov (.k (boolV false))) [2, 3, 7, 9, 10, 11, 68]])
(.ret))
(.skip)))
(.seq (.reg [iM 69 9 [6, 9, 68],
 iA 70 (.fa 1 (.t 7)) [],
 iA 71 (.ld false 1 (.t 70)) [70],
 iM 72 11 [],
 iA 73 (.ia 1 (.t 71) (.t 72)) [71, 72],
 iA 74 (.ld false 1 (.t 73)) [73],
 iM 75 10 [],
 iA 76 (.ia 3 (.t 74) (.t 75)) [74, 75],
 iA 77 (.fa 1 (.t 76)) [76],
 iA 78 (.ld false 1 (.t 77)) [77],
 iA 79 (.bin .add (.t 69) (.t 78)) [69, 78],
 iM 9 79 [79]])
(.seq (.reg [iM 80 11 [],
 iA 81 (.bin .gtr (.t 80) (.k (intV 0))) [80],
 iG 82 81 [81],
 iB 83 82 (.fa 1 (.t 7)) [],
 iB 84 82 (.ld false 1 (.t 83)) [83],
 iN 85 82 11 [],
 iB 86 82 (.bin .sub (.t 85) (.k (intV 1))) [85],
 iB 87 82 (.ia 1 (.t 84) (.t 86)) [84, 86],
 iB 88 82 (.ld false 1 (.t 87)) [87],
 iN 89 82 10 [],
 iB 90 82 (.sli 3 (.t 88) none (some (.t 89))) [88, 89],
 iB 91 82 (.fa 1 (.t 7)) [],
 iB 92 82 (.ld false 1 (.t 91)) [91],
 iN 93 82 11 [],
 iB 94 82 (.ia 1 (.t 92) (.t 93)) [92, 93],
 iB 95 82 (.ld false 1 (.t 94)) [94],
 iN 96 82 10 [],
 iB 97 82 (.sli 3 (.t 95) none (some (.t 96))) [95, 96],
 iB 98 82 (.call 10 [(.t 90), (.t 97)]) [90, 97],
 iB 99 82 (.bin .geq (.t 98) (.k (intV 0))) [98],
 iA 100 (.pick (.t 82) (.t 99) (.k (boolV false))) [82, 99, 98, 90, 97, 95, 96, 94, 92, 93, 91, 88, 89, 87, 84, 86, 85, 83]])
(.cond (.t 100)
(.seq (.reg [iA 6 (.mov (.k (boolV false))) [2, 3, 7, 10, 11, 9, 100]])
(.ret))
(.skip))))))
(.reg [iM 46 11 [6, 11, 100, 45],
 iA 47 (.bin .add (.t 46) (.k (intV 1))) [46],
 iM 11 47 [47]])))
def c_law42_NaiveGroups : AFun := ⟨.seq (.reg [iA 3 (.bx (.t 0)) [0],
 iA 6 (.mov (.k (boolV false))) [6]])
(.seq (.seq (.reg [iA 15 (.call 5 []) [],
 iA 16 (.bnot (.t 15)) [15],
 iG 17 16 [16],
 iC 18 17 (.ld true 2 (.t 3)) [],
 iC 19 17 (.call 6 [(.t 18)]) [18],
 iC 20 17 (.bnot (.t 19)) [19],
 iA 21 (.pick (.t 17) (.k (boolV true)) (.t 20)) [17, 20, 19, 18],
 iG 22 21 [21],
 iC 23 22 (.mov (.t 1)) [],
 iC 24 22 (.len (.t 23)) [23],
 iC 25 22 (.bin .gtr (.t 24) (.k (intV 10))) [24],
 iA 26 (.pick (.t 22) (.k (boolV true)) (.t 25)) [22, 25, 24, 23]])
(.cond (.t 26)
(.seq (.reg [iA 27 (.call 5 []) [1, 2, 3, 26],
 iM 6 27 [27]])
(.ret))
(.skip)))
(.seq (.reg [iA 29 (.ld true 2 (.t 3)) [6, 26],
 iM 30 1 [],
 iA 31 (.build [(.d (.lit (.string ⟨#[]⟩))), (.d (.lit (.string ⟨#[]⟩))), (.d (.lit (.string ⟨#[]⟩)))] [(0, 1, (.k (.w (.c (.d (.lit (.string ⟨#[99, 111, 117, 110, 116]⟩))))))), (2, 1, (.k (.w (.c (.d (.lit (.string ⟨#[99, 111, 117, 110, 116, 95, 111, 102, 95, 114, 111, 119, 115]⟩)))))))]) [],
 iA 32 (.lits 3 [(.t 31)]) [31],
 iA 33 (.build [(.d (.lit (.int .i64 0))), (.d (.lit (.int .i64 0))), (.d (.lit (.string ⟨#[]⟩))), (.d (.lit (.int .i64 0))), (.d (.lit (.int .i64 0))), (.d (.lit (.string ⟨#[]⟩))), .nil, .nil, .nil, .nil, .nil, (.d (.lit (.int .i64 0))), (.d (.lit (.string ⟨#[]⟩)))] [(0, 1, (.k (intV 3))), (8, 1, (.t 30)), (9, 1, (.t 32))]) [30, 32],
 iA 34 (.call 8 [(.k (.w (.c .nil))), (.t 29), (.t 33)]) [29, 33],
 iM 28 34 [34],
 iA 35 (.ext (.t 28) 0) [],
 iA 36 (.ext (.t 28) 1) [28],
 iA 7 (.alloc [.nil, .nil]) [],
 iE (.st 2 (.t 7) (.t 35)) [35],
 iM 8 36 [36]])
(.seq (.seq (.reg [iM 37 8 [8],
 iA 38 (.bin .neq (.t 37) (.k (intV 0))) [37]])
(.cond (.t 38)
(.seq (.reg [iA 6 (.mov (.k (boolV true))) [1, 2, 3, 7, 38]])
(.ret))
(.skip)))
(.seq (.reg [iM 39 1 [6, 1, 38],
 iA 40 (.len (.t 39)) [39],
 iA 9 (.mov (.k (intV 0))) [],
 iM 10 40 [40]])
(.seq (.seq (.reg [iA 11 (.mov (.k (intV 0))) []])
(.block 0 (.loop [2, 3, 7, 9, 10, 11] c_law42_NaiveGroups_L0)))
(.seq (.reg [iM 101 2 [2, 7, 10, 11],
 iA 102 (.mm false (.t 101) (.k (intV 50))) [101],
 iA 103 (.mm true (.k (intV 0)) (.t 102)) [102],
 iM 12 103 [103]])
(.seq (.reg [iA 105 (.ld true 2 (.t 3)) [],
 iM 106 12 [],
 iA 107 (.build [(.d (.lit (.int .i64 0))), (.d (.lit (.int .i64 0))), (.d (.lit (.string ⟨#[]⟩))), (.d (.lit (.int .i64 0))), (.d (.lit (.int .i64 0))), (.d (.lit (.string ⟨#[]⟩))), .nil, .nil, .nil, .nil, .nil, (.d (.lit (.int .i64 0))), (.d (.lit (.string ⟨#[]⟩)))] [(0, 1, (.k (intV 5))), (11, 1, (.t 106))]) [106],
 iA 108 (.call 8 [(.k (.w (.c .nil))), (.t 105), (.t 107)]) [105, 107],
 iM 104 108 [108],
 iA 109 (.ext (.t 104) 0) [],
 iA 110 (.ext (.t 104) 1) [104],
 iA 13 (.alloc [.nil, .nil]) [],
 iE (.st 2 (.t 13) (.t 109)) [109],
 iM 14 110 [110]])
(.seq (.seq (.reg [iM 111 14 [14],
 iA 112 (.bin .neq (.t 111) (.k (intV 0))) [111],
 iG 113 112 [112],
 iC 114 113 (.fa 1 (.t 13)) [],
 iC 115 113 (.ld false 1 (.t 114)) [114],
 iC 116 113 (.len (.t 115)) [115],
 iC 117 113 (.mov (.t 12)) [12],
 iC 118 113 (.fa 1 (.t 3)) [],
 iC 119 113 (.ld false 1 (.t 118)) [118],
 iC 120 113 (.len (.t 119)) [119],
 iC 121 113 (.mm false (.t 117) (.t 120)) [117, 120],
 iC 122 113 (.bin .neq (.t 116) (.t 121)) [116, 121],
 iA 123 (.pick (.t 113) (.k (boolV true)) (.t 122)) [113, 122, 116, 121, 117, 120, 119, 118, 12, 115, 114]])
(.cond (.t 123)
(.seq (.reg [iA 6 (.mov (.k (boolV false))) [3, 9, 13, 123]])
(.ret))
(.skip)))
(.seq (.reg [iM 124 9 [6, 9, 123],
 iA 125 (.fa 1 (.t 3)) [],
 iA 126 (.ld false 1 (.t 125)) [125],
 iA 127 (.len (.t 126)) [126],
 iA 128 (.bin .eql (.t 124) (.t 127)) [124, 127],
 iG 129 128 [128],
 iB 130 129 (.ld true 2 (.t 13)) [],
 iB 131 129 (.fa 0 (.t 3)) [],
 iB 132 129 (.ld false 1 (.t 131)) [131],
 iB 133 129 (.fa 1 (.t 3)) [3],
 iB 134 129 (.ld false 1 (.t 133)) [133],
 iB 135 129 (.fa 1 (.t 13)) [13],
 iB 136 129 (.ld false 1 (.t 135)) [135],
 iB 137 129 (.len (.t 136)) [136],
 iB 138 129 (.sli 1 (.t 134) none (some (.t 137))) [134, 137],
 iB 139 129 (.build [.nil, .nil] [(0, 1, (.t 132)), (1, 1, (.t 138))]) [132, 138],
 iB 140 129 (.call 9 [(.t 130), (.t 139)]) [130, 139],
 iA 141 (.pick (.t 129) (.t 140) (.k (boolV false))) [129, 140, 130, 139, 132, 138, 134, 137, 136, 135, 13, 133, 3, 131],
 iM 6 141 [141]])
(.ret)))))))))),
 [.tmp 6]⟩
def o_law42_NaiveGroups : List (Nat × List Nat) := [(13, [0, 1, 2, 3, 4, 5, 6, 7, 8, 9, 10, 11, 12, 13, 14, 15, 16, 17, 18, 19, 20]), (19, [0, 1, 2, 3, 4, 5, 6, 7, 8, 9, 10, 11, 12, 13, 14, 15, 16, 17, 18])]
theorem c_law42_NaiveGroups_ok : cFun Tryz.prog o_law42_NaiveGroups 4 = some c_law42_NaiveGroups.erase := by kernel_rfl

/- law42_awake -/
def c_law42_awake : AFun := ⟨.seq (.reg [iA 0 (.mov (.k (boolV false))) [0]])
(.seq (.reg [iA 10 (.build [(.d (.lit (.string ⟨#[]⟩))), (.d (.lit (.int .i64 0)))] [(0, 1, (.k (.w (.c (.d (.lit (.string ⟨#[107]⟩))))))), (1, 1, (.k (intV 3)))]) [],
 iA 11 (.build [(.d (.lit (.string ⟨#[]⟩))), (.d (.lit (.int .i64 0)))] [(0, 1, (.k (.w (.c (.d (.lit (.string ⟨#[110]⟩))))))), (1, 1, (.k (intV 2)))]) [],
 iA 12 (.lits 2 [(.t 10), (.t 11)]) [10, 11],
 iA 13 (.call 11 [(.k (.w (.c (.d (.lit (.string ⟨#[97]⟩))))))]) [],
 iA 14 (.call 12 [(.k (intV 1))]) [],
 iA 15 (.lits 3 [(.t 13), (.t 14)]) [13, 14],
 iA 16 (.call 11 [(.k (.w (.c (.d (.lit (.string ⟨#[98]⟩))))))]) [],
 iA 17 (.call 12 [(.k (intV 2))]) [],
 iA 18 (.lits 3 [(.t 16), (.t 17)]) [16, 17],
 iA 19 (.call 11 [(.k (.w (.c (.d (.lit (.string ⟨#[97]⟩))))))]) [],
 iA 20 (.call 12 [(.k (intV 3))]) [],
 iA 21 (.lits 3 [(.t 19), (.t 20)]) [19, 20],
 iA 22 (.lits 1 [(.t 15), (.t 18), (.t 21)]) [15, 18, 21],
 iA 23 (.build [.nil, .nil] [(0, 1, (.t 12)), (1, 1, (.t 22))]) [12, 22],
 iA 1 (.alloc [.nil, .nil]) [],
 iE (.st 2 (.t 1) (.t 23)) [23]])
(.seq (.reg [iA 24 (.build [(.d (.lit (.string ⟨#[]⟩))), (.d (.lit (.int .i64 0)))] [(0, 1, (.k (.w (.c (.d (.lit (.string ⟨#[107]⟩))))))), (1, 1, (.k (intV 3)))]) [],
 iA 25 (.build [(.d (.lit (.string ⟨#[]⟩))), (.d (.lit (.int .i64 0)))] [(0, 1, (.k (.w (.c (.d (.lit (.string ⟨#[109]⟩))))))), (1, 1, (.k (intV 2)))]) [],
 iA 26 (.lits 2 [(.t 24), (.t 25)]) [24, 25],
 iA 27 (.fa 1 (.t 1)) [],
 iA 28 (.ld false 1 (.t 27)) [27],
 iA 29 (.build [.nil, .nil] [(0, 1, (.t 26)), (1, 1, (.t 28))]) [26, 28],
 iA 2 (.alloc [.nil, .nil]) [],
 iE (.st 2 (.t 2) (.t 29)) [29]])
(.seq (.reg [iA 30 (.ld true 2 (.t 1)) [],
 iA 31 (.build [(.d (.lit (.string ⟨#[]⟩))), .nil, .nil] [(0, 1, (.k (.w (.c (.d (.lit (.string ⟨#[116]⟩))))))), (1, 2, (.t 30))]) [30],
 iA 32 (.ld true 2 (.t 2)) [2],
 iA 33 (.build [(.d (.lit (.string ⟨#[]⟩))), .nil, .nil] [(0, 1, (.k (.w (.c (.d (.lit (.string ⟨#[117]⟩))))))), (1, 2, (.t 32))]) [32],
 iA 34 (.lits 3 [(.t 31), (.t 33)]) [31, 33],
 iM 3 34 [34]])
(.seq (.reg [iM 36 3 [],
 iA 37 (.lits 1 [(.k (.w (.c (.d (.lit (.string ⟨#[107]⟩))))))]) [],
 iA 38 (.build [(.d (.lit (.string ⟨#[]⟩))), (.d (.lit (.string ⟨#[]⟩))), (.d (.lit (.string ⟨#[]⟩)))] [(0, 1, (.k (.w (.c (.d (.lit (.string ⟨#[115, 117, 109]⟩))))))), (1, 1, (.k (.w (.c (.d (.lit (.string ⟨#[110]⟩))))))), (2, 1, (.k (.w (.c (.d (.lit (.string ⟨#[115]⟩)))))))]) [],
 iA 39 (.lits 3 [(.t 38)]) [38],
 iA 40 (.build [(.d (.lit (.int .i64 0))), (.d (.lit (.int .i64 0))), (.d (.lit (.string ⟨#[]⟩))), (.d (.lit (.int .i64 0))), (.d (.lit (.int .i64 0))), (.d (.lit (.string ⟨#[]⟩))), .nil, .nil, .nil, .nil, .nil, (.d (.lit (.int .i64 0))), (.d (.lit (.string ⟨#[]⟩)))] [(0, 1, (.k (intV 3))), (8, 1, (.t 37)), (9, 1, (.t 39))]) [37, 39],
 iA 41 (.lits 13 [(.t 40)]) [40],
 iA 42 (.build [(.d (.lit (.string ⟨#[]⟩))), .nil] [(0, 1, (.k (.w (.c (.d (.lit (.string ⟨#[116]⟩))))))), (1, 1, (.t 41))]) [41],
 iA 43 (.call 13 [(.t 36), (.t 42)]) [36, 42],
 iM 35 43 [43],
 iA 44 (.ext (.t 35) 0) [],
 iA 45 (.ext (.t 35) 1) [35],
 iA 4 (.alloc [.nil, .nil]) [],
 iE (.st 2 (.t 4) (.t 44)) [44],
 iM 5 45 [45]])
(.seq (.reg [iM 47 3 [3],
 iA 48 (.lits 1 [(.k (.w (.c (.d (.lit (.string ⟨#[107]⟩))))))]) [],
 iA 49 (.build [(.d (.lit (.int .i64 0))), (.d (.lit (.int .i64 0))), (.d (.lit (.string ⟨#[]⟩))), (.d (.lit (.int .i64 0))), (.d (.lit (.int .i64 0))), (.d (.lit (.string ⟨#[]⟩))), .nil, .nil, .nil, .nil, .nil, (.d (.lit (.int .i64 0))), (.d (.lit (.string ⟨#[]⟩)))] [(0, 1, (.k (intV 6))), (12, 1, (.k (.w (.c (.d (.lit (.string ⟨#[117]⟩))))))), (8, 1, (.t 48))]) [48],
 iA 50 (.lits 13 [(.t 49)]) [49],
 iA 51 (.build [(.d (.lit (.string ⟨#[]⟩))), .nil] [(0, 1, (.k (.w (.c (.d (.lit (.string ⟨#[116]⟩))))))), (1, 1, (.t 50))]) [50],
 iA 52 (.call 13 [(.t 47), (.t 51)]) [47, 51],
 iM 46 52 [52],
 iA 53 (.ext (.t 46) 0) [],
 iA 54 (.ext (.t 46) 1) [46],
 iA 6 (.alloc [.nil, .nil]) [],
 iE (.st 2 (.t 6) (.t 53)) [53],
 iM 7 54 [54]])
(.seq (.reg [iA 56 (.fa 0 (.t 1)) [1],
 iA 57 (.ld false 1 (.t 56)) [56],
 iA 58 (.build [.nil, .nil] [(0, 1, (.t 57))]) [57],
 iA 59 (.build [(.d (.lit (.string ⟨#[]⟩))), (.d (.lit (.string ⟨#[]⟩))), (.d (.lit (.string ⟨#[]⟩)))] [(0, 1, (.k (.w (.c (.d (.lit (.string ⟨#[99, 111, 117, 110, 116]⟩))))))), (2, 1, (.k (.w (.c (.d (.lit (.string ⟨#[99]⟩)))))))]) [],
 iA 60 (.lits 3 [(.t 59)]) [59],
 iA 61 (.build [(.d (.lit (.int .i64 0))), (.d (.lit (.int .i64 0))), (.d (.lit (.string ⟨#[]⟩))), (.d (.lit (.int .i64 0))), (.d (.lit (.int .i64 0))), (.d (.lit (.string ⟨#[]⟩))), .nil, .nil, .nil, .nil, .nil, (.d (.lit (.int .i64 0))), (.d (.lit (.string ⟨#[]⟩)))] [(0, 1, (.k (intV 3))), (9, 1, (.t 60))]) [60],
 iA 62 (.call 8 [(.k (.w (.c .nil))), (.t 58), (.t 61)]) [58, 61],
 iM 55 62 [62],
 iA 63 (.ext (.t 55) 0) [],
 iA 64 (.ext (.t 55) 1) [55],
 iA 8 (.alloc [.nil, .nil]) [],
 iE (.st 2 (.t 8) (.t 63)) [63],
 iM 9 64 [64]])
(.seq (.reg [iM 65 5 [5],
 iA 66 (.bin .eql (.t 65) (.k (intV 0))) [65],
 iG 67 66 [66],
 iB 68 67 (.fa 1 (.t 4)) [],
 iB 69 67 (.ld false 1 (.t 68)) [68],
 iB 70 67 (.len (.t 69)) [69],
 iB 71 67 (.bin .eql (.t 70) (.k (intV 2))) [70],
 iA 72 (.pick (.t 67) (.t 71) (.k (boolV false))) [67, 71, 70, 69, 68],
 iG 73 72 [72],
 iB 74 73 (.fa 1 (.t 4)) [],
 iB 75 73 (.ld false 1 (.t 74)) [74],
 iB 76 73 (.ia 1 (.t 75) (.k (intV 0))) [75],
 iB 77 73 (.ld false 1 (.t 76)) [76],
 iB 78 73 (.len (.t 77)) [77],
 iB 79 73 (.bin .eql (.t 78) (.k (intV 2))) [78],
 iA 80 (.pick (.t 73) (.t 79) (.k (boolV false))) [73, 79, 78, 77, 76, 75, 74],
 iG 81 80 [80],
 iB 82 81 (.fa 1 (.t 4)) [],
 iB 83 81 (.ld false 1 (.t 82)) [82],
 iB 84 81 (.ia 1 (.t 83) (.k (intV 1))) [83],
 iB 85 81 (.ld false 1 (.t 84)) [84],
 iB 86 81 (.len (.t 85)) [85],
 iB 87 81 (.bin .eql (.t 86) (.k (intV 2))) [86],
 iA 88 (.pick (.t 81) (.t 87) (.k (boolV false))) [81, 87, 86, 85, 84, 83, 82],
 iG 89 88 [88],
 iB 90 89 (.fa 1 (.t 4)) [],
 iB 91 89 (.ld false 1 (.t 90)) [90],
 iB 92 89 (.ia 1 (.t 91) (.k (intV 0))) [91],
 iB 93 89 (.ld false 1 (.t 92)) [92],
 iB 94 89 (.ia 3 (.t 93) (.k (intV 0))) [93],
 iB 95 89 (.ld true 3 (.t 94)) [94],
 iB 96 89 (.call 11 [(.k (.w (.c (.d (.lit (.string ⟨#[97]⟩))))))]) [],
 iB 97 89 (.eqa false [0, 0, 1] (.t 95) (.t 96)) [95, 96],
 iA 98 (.pick (.t 89) (.t 97) (.k (boolV false))) [89, 97, 95, 96, 94, 93, 92, 91, 90],
 iG 99 98 [98],
 iB 100 99 (.fa 1 (.t 4)) [],
 iB 101 99 (.ld false 1 (.t 100)) [100],
 iB 102 99 (.ia 1 (.t 101) (.k (intV 0))) [101],
 iB 103 99 (.ld false 1 (.t 102)) [102],
 iB 104 99 (.ia 3 (.t 103) (.k (intV 1))) [103],
 iB 105 99 (.ld true 3 (.t 104)) [104],
 iB 106 99 (.call 12 [(.k (intV 4))]) [],
 iB 107 99 (.eqa false [0, 0, 1] (.t 105) (.t 106)) [105, 106],
 iA 108 (.pick (.t 99) (.t 107) (.k (boolV false))) [99, 107, 105, 106, 104, 103, 102, 101, 100],
 iG 109 108 [108],
 iB 110 109 (.fa 1 (.t 4)) [4],
 iB 111 109 (.ld false 1 (.t 110)) [110],
 iB 112 109 (.ia 1 (.t 111) (.k (intV 1))) [111],
 iB 113 109 (.ld false 1 (.t 112)) [112],
 iB 114 109 (.ia 3 (.t 113) (.k (intV 1))) [113],
 iB 115 109 (.ld true 3 (.t 114)) [114],
 iB 116 109 (.call 12 [(.k (intV 2))]) [],
 iB 117 109 (.eqa false [0, 0, 1] (.t 115) (.t 116)) [115, 116],
 iA 118 (.pick (.t 109) (.t 117) (.k (boolV false))) [109, 117, 115, 116, 114, 113, 112, 111, 110, 4],
 iG 119 118 [118],
 iN 120 119 7 [7],
 iB 121 119 (.bin .eql (.t 120) (.k (intV 0))) [120],
 iA 122 (.pick (.t 119) (.t 121) (.k (boolV false))) [119, 121, 120, 7],
 iG 123 122 [122],
 iB 124 123 (.fa 1 (.t 6)) [6],
 iB 125 123 (.ld false 1 (.t 124)) [124],
 iB 126 123 (.len (.t 125)) [125],
 iB 127 123 (.bin .eql (.t 126) (.k (intV 5))) [126],
 iA 128 (.pick (.t 123) (.t 127) (.k (boolV false))) [123, 127, 126, 125, 124, 6],
 iG 129 128 [128],
 iN 130 129 9 [9],
 iB 131 129 (.bin .eql (.t 130) (.k (intV 0))) [130],
 iA 132 (.pick (.t 129) (.t 131) (.k (boolV false))) [129, 131, 130, 9],
 iG 133 132 [132],
 iB 134 133 (.fa 1 (.t 8)) [],
 iB 135 133 (.ld false 1 (.t 134)) [134],
 iB 136 133 (.len (.t 135)) [135],
 iB 137 133 (.bin .eql (.t 136) (.k (intV 1))) [136],
 iA 138 (.pick (.t 133) (.t 137) (.k (boolV false))) [133, 137, 136, 135, 134],
 iG 139 138 [138],
 iB 140 139 (.fa 1 (.t 8)) [],
 iB 141 139 (.ld false 1 (.t 140)) [140],
 iB 142 139 (.ia 1 (.t 141) (.k (intV 0))) [141],
 iB 143 139 (.ld false 1 (.t 142)) [142],
 iB 144 139 (.len (.t 143)) [143],
 iB 145 139 (.bin .eql (.t 144) (.k (intV 1))) [144],
 iA 146 (.pick (.t 139) (.t 145) (.k (boolV false))) [139, 145, 144, 143, 142, 141, 140],
 iG 147 146 [146],
 iB 148 147 (.fa 1 (.t 8)) [8],
 iB 149 147 (.ld false 1 (.t 148)) [148],
 iB 150 147 (.ia 1 (.t 149) (.k (intV 0))) [149],
 iB 151 147 (.ld false 1 (.t 150)) [150],
 iB 152 147 (.ia 3 (.t 151) (.k (intV 0))) [151],
 iB 153 147 (.ld true 3 (.t 152)) [152],
 iB 154 147 (.call 12 [(.k (intV 0))]) [],
 iB 155 147 (.eqa false [0, 0, 1] (.t 153) (.t 154)) [153, 154],
 iA 156 (.pick (.t 147) (.t 155) (.k (boolV false))) [147, 155, 153, 154, 152, 151, 150, 149, 148, 8],
 iM 0 156 [156]])
(.ret)))))))),
 [.tmp 0]⟩
def o_law42_awake : List (Nat × List Nat) := [(7, [0, 1, 2, 3, 4, 5, 6, 7, 8, 9, 10, 11, 12, 13, 14, 15, 16, 17, 18, 19, 20, 21, 22, 23, 24, 25, 26, 27, 28, 29, 30, 31, 32, 33, 34, 35, 36, 37, 38, 39, 40, 41, 42, 43, 44, 45, 46, 47, 48, 49, 50, 51, 52, 53, 54, 55, 56, 57, 58, 59, 60, 61, 62, 63, 64, 65, 66, 67, 68, 69, 70, 71, 72, 73, 74, 75, 76, 77, 78, 79, 80, 81, 82, 83, 84, 85, 86, 87, 88, 89, 90, 91, 92])]
theorem c_law42_awake_ok : cFun Tryz.prog o_law42_awake 5 = some c_law42_awake.erase := by kernel_rfl

/- ref39_FewTable -/
def c_ref39_FewTable_L0 : ACode := (.seq (.seq (.reg [iM 29 4 [],
 iA 30 (.fa 1 (.t 1)) [],
 iA 31 (.ld false 1 (.t 30)) [30],
 iM 32 3 [],
 iA 33 (.ia 1 (.t 31) (.t 32)) [31, 32],
 iA 34 (.ld false 1 (.t 33)) [33],
 iA 35 (.len (.t 34)) [34],
 iA 36 (.bin .lss (.t 29) (.t 35)) [29, 35]])
(.cond (.t 36)
(.skip)
(.exit 2)))
(.seq (.block 3 (.seq (.reg [iA 39 (.fa 1 (.t 1)) [36],
 iA 40 (.ld false 1 (.t 39)) [39],
 iM 41 3 [],
 iA 42 (.ia 1 (.t 40) (.t 41)) [40, 41],
 iA 43 (.ld false 1 (.t 42)) [42],
 iM 44 4 [],
 iA 45 (.ia 3 (.t 43) (.t 44)) [43, 44],
 iA 46 (.fa 2 (.t 45)) [45],
 iA 47 (.ld false 1 (.t 46)) [46],
 iA 48 (.slen (.t 47)) [47],
 iA 49 (.bin .gtr (.t 48) (.k (intV 300))) [48]])
(.cond (.t 49)
(.seq (.reg [iA 2 (.mov (.k (boolV false))) [1, 3, 4, 49]])
(.ret))
(.skip))))
(.reg [iM 37 4 [2, 4, 49, 36],
 iA 38 (.bin .add (.t 37) (.k (intV 1))) [37],
 iM 4 38 [38]])))
def c_ref39_FewTable_L1 : ACode := (.seq (.seq (.reg [iM 15 3 [],
 iA 16 (.fa 1 (.t 1)) [],
 iA 17 (.ld false 1 (.t 16)) [16],
 iA 18 (.len (.t 17)) [17],
 iA 19 (.bin .lss (.t 15) (.t 18)) [15, 18]])
(.cond (.t 19)
(.skip)
(.exit 0)))
(.seq (.block 1 (.seq (.seq (.reg [iA 22 (.fa 1 (.t 1)) [19],
 iA 23 (.ld false 1 (.t 22)) [22],
 iM 24 3 [],
 iA 25 (.ia 1 (.t 23) (.t 24)) [23, 24],
 iA 26 (.ld false 1 (.t 25)) [25],
 iA 27 (.len (.t 26)) [26],
 iA 28 (.bin .gtr (.t 27) (.k (intV 40))) [27]])
(.cond (.t 28)
(.seq (.reg [iA 2 (.mov (.k (boolV false))) [1, 3, 28]])
(.ret))
(.skip)))
(.seq (.reg [iA 4 (.mov (.k (intV 0))) [2, 28]])
(.block 2 (.loop [1, 3, 4] c_ref39_FewTable_L0)))))
(.reg [iM 20 3 [3, 4, 19],
 iA 21 (.bin .add (.t 20) (.k (intV 1))) [20],
 iM 3 21 [21]])))
def c_ref39_FewTable : AFun := ⟨.seq (.reg [iA 1 (.bx (.t 0)) [0],
 iA 2 (.mov (.k (boolV false))) [2]])
(.seq (.seq (.reg [iA 5 (.fa 0 (.t 1)) [],
 iA 6 (.ld false 1 (.t 5)) [5],
 iA 7 (.call 14 [(.t 6)]) [6],
 iA 8 (.bnot (.t 7)) [7],
 iG 9 8 [8],
 iC 10 9 (.fa 1 (.t 1)) [],
 iC 11 9 (.ld false 1 (.t 10)) [10],
 iC 12 9 (.len (.t 11)) [11],
 iC 13 9 (.bin .gtr (.t 12) (.k (intV 40))) [12],
 iA 14 (.pick (.t 9) (.k (boolV true)) (.t 13)) [9, 13, 12, 11, 10]])
(.cond (.t 14)
(.seq (.reg [iA 2 (.mov (.k (boolV false))) [1, 14]])
(.ret))
(.skip)))
(.seq (.seq (.reg [iA 3 (.mov (.k (intV 0))) [2, 14]])
(.block 0 (.loop [1, 3] c_ref39_FewTable_L1)))
(.seq (.reg [iA 2 (.mov (.k (boolV true))) [1, 3]])
(.ret)))),
 [.tmp 2]⟩
def o_ref39_FewTable : List (Nat × List Nat) := []
theorem c_ref39_FewTable_ok : cFun Tryz.prog o_ref39_FewTable 6 = some c_ref39_FewTable.erase := by kernel_rfl

/- ref36_Small -/
def c_ref36_Small : AFun := ⟨.seq (.reg [iA 1 (.bx (.t 0)) [0],
 iA 2 (.mov (.k (boolV false))) [2]])
(.seq (.reg [iA 3 (.ld true 6 (.t 1)) [1],
 iA 4 (.call 15 [(.t 3), (.k (intV 40)), (.k (intV 300))]) [3],
 iA 5 (.bin .geq (.t 4) (.k (intV 0))) [4],
 iM 2 5 [5]])
(.ret)),
 [.tmp 2]⟩
def o_ref36_Small : List (Nat × List Nat) := []
theorem c_ref36_Small_ok : cFun Tryz.prog o_ref36_Small 7 = some c_ref36_Small.erase := by kernel_rfl

/- naive_Step -/
def c_naive_Step : AFun := ⟨.seq (.reg [iA 4 (.bx (.t 1)) [1],
 iA 5 (.bx (.t 2)) [2],
 iA 6 (.alloc [.nil, .nil]) [],
 iA 7 (.mov (.k (intV 0))) [7]])
(.seq (.seq (.reg [iM 12 0 [],
 iA 13 (.call 16 [(.t 12)]) [12],
 iM 8 13 [13]])
(.seq (.reg [iM 14 8 [],
 iA 15 (.bin .neq (.t 14) (.k (intV 0))) [14]])
(.cond (.t 15)
(.seq (.reg [iA 16 (.build [.nil, .nil] []) [0, 4, 5, 15],
 iM 17 8 [8],
 iE (.st 2 (.t 6) (.t 16)) [16],
 iM 7 17 [17]])
(.ret))
(.skip))))
(.seq (.seq (.reg [iA 18 (.ld true 2 (.t 4)) [7, 8, 15],
 iA 19 (.call 17 [(.t 18)]) [18],
 iM 9 19 [19]])
(.seq (.reg [iM 20 9 [],
 iA 21 (.bin .neq (.t 20) (.k (intV 0))) [20]])
(.cond (.t 21)
(.seq (.reg [iA 22 (.build [.nil, .nil] []) [0, 4, 5, 21],
 iM 23 9 [9],
 iE (.st 2 (.t 6) (.t 22)) [22],
 iM 7 23 [23]])
(.ret))
(.skip))))
(.seq (.reg [iM 25 0 [7, 9, 21],
 iA 26 (.fa 0 (.t 4)) [],
 iA 27 (.ld false 1 (.t 26)) [26],
 iA 28 (.ld true 13 (.t 5)) [],
 iA 29 (.call 18 [(.t 25), (.t 27), (.t 28)]) [25, 27, 28],
 iM 24 29 [29],
 iA 30 (.ext (.t 24) 0) [],
 iA 31 (.ext (.t 24) 1) [24],
 iM 10 30 [30],
 iM 11 31 [31]])
(.seq (.seq (.reg [iM 32 11 [],
 iA 33 (.bin .neq (.t 32) (.k (intV 0))) [32]])
(.cond (.t 33)
(.seq (.reg [iA 34 (.build [.nil, .nil] []) [0, 4, 5, 10, 33],
 iM 35 11 [11],
 iE (.st 2 (.t 6) (.t 34)) [34],
 iM 7 35 [35]])
(.ret))
(.skip)))
(.seq (.reg [iM 36 0 [7, 0, 11, 33],
 iA 37 (.ld true 2 (.t 4)) [4],
 iA 38 (.ld true 13 (.t 5)) [5],
 iM 39 10 [10],
 iA 40 (.call 19 [(.t 36), (.t 37), (.t 38), (.t 39)]) [36, 37, 38, 39],
 iA 41 (.ext (.t 40) 0) [],
 iA 42 (.ext (.t 40) 1) [40],
 iE (.st 2 (.t 6) (.t 41)) [41],
 iM 7 42 [42]])
(.ret)))))),
 [.cell 6 true 2, .tmp 7]⟩
def o_naive_Step : List (Nat × List Nat) := []
theorem c_naive_Step_ok : cFun Tryz.prog o_naive_Step 8 = some c_naive_Step.erase := by kernel_rfl

/- ref34_Same -/
def c_ref34_Same_L0 : ACode := (.seq (.seq (.reg [iM 23 5 [],
 iA 24 (.fa 0 (.t 2)) [],
 iA 25 (.ld false 1 (.t 24)) [24],
 iA 26 (.len (.t 25)) [25],
 iA 27 (.bin .lss (.t 23) (.t 26)) [23, 26]])
(.cond (.t 27)
(.skip)
(.exit 0)))
(.seq (.block 1 (.seq (.reg [iA 30 (.fa 0 (.t 2)) [27],
 iA 31 (.ld false 1 (.t 30)) [30],
 iM 32 5 [],
 iA 33 (.ia 2 (.t 31) (.t 32)) [31, 32],
 iA 34 (.ld true 2 (.t 33)) [33],
 iA 35 (.fa 0 (.t 3)) [],
 iA 36 (.ld false 1 (.t 35)) [35],
 iM 37 5 [],
 iA 38 (.ia 2 (.t 36) (.t 37)) [36, 37],
 iA 39 (.ld true 2 (.t 38)) [38],
 iA 40 (.eqa true [1, 0] (.t 34) (.t 39)) [34, 39]])
(.cond (.t 40)
(.seq (.reg [iA 4 (.mov (.k (boolV false))) [2, 3, 5, 40]])
(.ret))
(.skip))))
(.reg [iM 28 5 [4, 5, 40, 27],
 iA 29 (.bin .add (.t 28) (.k (intV 1))) [28],
 iM 5 29 [29]])))
def c_ref34_Same_L1 : ACode := (.seq (.seq (.reg [iM 41 6 [],
 iA 42 (.fa 1 (.t 2)) [],
 iA 43 (.ld false 1 (.t 42)) [42],
 iA 44 (.len (.t 43)) [43],
 iA 45 (.bin .lss (.t 41) (.t 44)) [41, 44]])
(.cond (.t 45)
(.skip)
(.exit 2)))
(.seq (.block 3 (.seq (.reg [iA 48 (.fa 1 (.t 2)) [45],
 iA 49 (.ld false 1 (.t 48)) [48],
 iM 50 6 [],
 iA 51 (.ia 1 (.t 49) (.t 50)) [49, 50],
 iA 52 (.ld false 1 (.t 51)) [51],
 iA 53 (.fa 1 (.t 3)) [],
 iA 54 (.ld false 1 (.t 53)) [53],
 iM 55 6 [],
 iA 56 (.ia 1 (.t 54) (.t 55)) [54, 55],
 iA 57 (.ld false 1 (.t 56)) [56],
 iA 58 (.call 20 [(.t 52), (.t 57)]) [52, 57],
 iA 59 (.bnot (.t 58)) [58]])
(.cond (.t 59)
(.seq (.reg [iA 4 (.mov (.k (boolV false))) [2, 3, 6, 59]])
(.ret))
(.skip))))
(.reg [iM 46 6 [4, 6, 59, 45],
 iA 47 (.bin .add (.t 46) (.k (intV 1))) [46],
 iM 6 47 [47]])))
def c_ref34_Same : AFun := ⟨.seq (.reg [iA 2 (.bx (.t 0)) [0],
 iA 3 (.bx (.t 1)) [1],
 iA 4 (.mov (.k (boolV false))) [4]])
(.seq (.seq (.reg [iA 7 (.fa 0 (.t 2)) [],
 iA 8 (.ld false 1 (.t 7)) [7],
 iA 9 (.len (.t 8)) [8],
 iA 10 (.fa 0 (.t 3)) [],
 iA 11 (.ld false 1 (.t 10)) [10],
 iA 12 (.len (.t 11)) [11],
 iA 13 (.bin .neq (.t 9) (.t 12)) [9, 12],
 iG 14 13 [13],
 iC 15 14 (.fa 1 (.t 2)) [],
 iC 16 14 (.ld false 1 (.t 15)) [15],
 iC 17 14 (.len (.t 16)) [16],
 iC 18 14 (.fa 1 (.t 3)) [],
 iC 19 14 (.ld false 1 (.t 18)) [18],
 iC 20 14 (.len (.t 19)) [19],
 iC 21 14 (.bin .neq (.t 17) (.t 20)) [17, 20],
 iA 22 (.pick (.t 14) (.k (boolV true)) (.t 21)) [14, 21, 17, 20, 19, 18, 16, 15]])
(.cond (.t 22)
(.seq (.reg [iA 4 (.mov (.k (boolV false))) [2, 3, 22]])
(.ret))
(.skip)))
(.seq (.seq (.reg [iA 5 (.mov (.k (intV 0))) [4, 22]])
(.block 0 (.loop [2, 3, 5] c_ref34_Same_L0)))
(.seq (.seq (.reg [iA 6 (.mov (.k (intV 0))) [5]])
(.block 2 (.loop [2, 3, 6] c_ref34_Same_L1)))
(.seq (.reg [iA 4 (.mov (.k (boolV true))) [2, 3, 6]])
(.ret))))),
 [.tmp 4]⟩
def o_ref34_Same : List (Nat × List Nat) := [(6, [0, 1, 2, 3, 4, 5, 6, 7, 8, 9, 10]), (11, [0, 1, 2, 3, 4, 5, 6, 7, 8, 9, 10, 11])]
theorem c_ref34_Same_ok : cFun Tryz.prog o_ref34_Same 9 = some c_ref34_Same.erase := by kernel_rfl

/- ref42_Compare -/
def c_ref42_Compare_L0 : ACode := (.seq (.seq (.reg [iM 7 5 [],
 iM 8 0 [],
 iA 9 (.len (.t 8)) [8],
 iA 10 (.bin .lss (.t 7) (.t 9)) [7, 9],
 iG 11 10 [10],
 iN 12 11 5 [],
 iN 13 11 1 [],
 iB 14 11 (.len (.t 13)) [13],
 iB 15 11 (.bin .lss (.t 12) (.t 14)) [12, 14],
 iA 16 (.pick (.t 11) (.t 15) (.k (boolV false))) [11, 15, 12, 14, 13]])
(.cond (.t 16)
(.skip)
(.exit 0)))
(.seq (.block 1 (.seq (.reg [iM 19 0 [16],
 iM 20 5 [],
 iA 21 (.ia 3 (.t 19) (.t 20)) [19, 20],
 iA 22 (.ld true 3 (.t 21)) [21],
 iM 23 1 [],
 iM 24 5 [],
 iA 25 (.ia 3 (.t 23) (.t 24)) [23, 24],
 iA 26 (.ld true 3 (.t 25)) [25],
 iA 27 (.call 21 [(.t 22), (.t 26)]) [22, 26],
 iM 6 27 [27]])
(.seq (.reg [iM 28 6 [],
 iA 29 (.bin .neq (.t 28) (.k (intV 0))) [28]])
(.cond (.t 29)
(.seq (.reg [iM 30 6 [0, 1, 5, 6, 29],
 iM 4 30 [30]])
(.ret))
(.skip)))))
(.reg [iM 17 5 [4, 5, 6, 29, 16],
 iA 18 (.bin .add (.t 17) (.k (intV 1))) [17],
 iM 5 18 [18]])))
def c_ref42_Compare : AFun := ⟨.seq (.reg [iA 4 (.mov (.k (intV 0))) [4]])
(.seq (.seq (.reg [iA 5 (.mov (.k (intV 0))) []])
(.block 0 (.loop [0, 1, 5] c_ref42_Compare_L0)))
(.seq (.seq (.reg [iM 31 0 [5],
 iA 32 (.len (.t 31)) [31],
 iM 33 1 [],
 iA 34 (.len (.t 33)) [33],
 iA 35 (.bin .lss (.t 32) (.t 34)) [32, 34]])
(.cond (.t 35)
(.seq (.reg [iA 4 (.mov (.k (intV (-1)))) [0, 1, 35]])
(.ret))
(.skip)))
(.seq (.seq (.reg [iM 36 0 [4, 0, 35],
 iA 37 (.len (.t 36)) [36],
 iM 38 1 [1],
 iA 39 (.len (.t 38)) [38],
 iA 40 (.bin .gtr (.t 37) (.t 39)) [37, 39]])
(.cond (.t 40)
(.seq (.reg [iA 4 (.mov (.k (intV 1))) [40]])
(.ret))
(.skip)))
(.seq (.reg [iA 4 (.mov (.k (intV 0))) [40]])
(.ret))))),
 [.tmp 4]⟩
def o_ref42_Compare : List (Nat × List Nat) := [(4, [0, 1, 2, 3, 4, 5, 6, 7, 8, 9])]
theorem c_ref42_Compare_ok : cFun Tryz.prog o_ref42_Compare 10 = some c_ref42_Compare.erase := by kernel_rfl

/- law42_text -/
def c_law42_text : AFun := ⟨.seq (.reg [iA 2 (.alloc [(.d (.lit (.int .i64 0))), (.d (.lit (.int .i64 0))), (.d (.lit (.string ⟨#[]⟩)))]) []])
(.seq (.reg [iM 3 0 [0],
 iA 4 (.build [(.d (.lit (.int .i64 0))), (.d (.lit (.int .i64 0))), (.d (.lit (.string ⟨#[]⟩)))] [(0, 1, (.k (intV 3))), (2, 1, (.t 3))]) [3],
 iE (.st 3 (.t 2) (.t 4)) [4]])
(.ret)),
 [.cell 2 true 3]⟩
def o_law42_text : List (Nat × List Nat) := []
theorem c_law42_text_ok : cFun Tryz.prog o_law42_text 11 = some c_law42_text.erase := by kernel_rfl

/- law42_num -/
def c_law42_num : AFun := ⟨.seq (.reg [iA 2 (.alloc [(.d (.lit (.int .i64 0))), (.d (.lit (.int .i64 0))), (.d (.lit (.string ⟨#[]⟩)))]) []])
(.seq (.reg [iM 3 0 [0],
 iA 4 (.build [(.d (.lit (.int .i64 0))), (.d (.lit (.int .i64 0))), (.d (.lit (.string ⟨#[]⟩)))] [(0, 1, (.k (intV 2))), (1, 1, (.t 3))]) [3],
 iE (.st 3 (.t 2) (.t 4)) [4]])
(.ret)),
 [.cell 2 true 3]⟩
def o_law42_num : List (Nat × List Nat) := []
theorem c_law42_num_ok : cFun Tryz.prog o_law42_num 12 = some c_law42_num.erase := by kernel_rfl

/- naive_Run -/
def c_naive_Run_L0 : ACode := (.seq (.reg [iA 35 (.bin .lss (.t 34) (.t 33)) []])
(.seq (.cond (.t 35)
(.skip)
(.exit 0))
(.seq (.block 1 (.seq (.reg [iA 36 (.ia 13 (.t 32) (.t 34)) [35],
 iA 37 (.ld true 13 (.t 36)) [36],
 iA 11 (.alloc [(.d (.lit (.int .i64 0))), (.d (.lit (.int .i64 0))), (.d (.lit (.string ⟨#[]⟩))), (.d (.lit (.int .i64 0))), (.d (.lit (.int .i64 0))), (.d (.lit (.string ⟨#[]⟩))), .nil, .nil, .nil, .nil, .nil, (.d (.lit (.int .i64 0))), (.d (.lit (.string ⟨#[]⟩)))]) [],
 iE (.st 13 (.t 11) (.t 37)) [37]])
(.seq (.reg [iM 39 0 [],
 iA 40 (.ld true 2 (.t 8)) [],
 iA 41 (.ld true 13 (.t 11)) [11],
 iA 42 (.call 8 [(.t 39), (.t 40), (.t 41)]) [39, 40, 41],
 iM 38 42 [42],
 iA 43 (.ext (.t 38) 0) [],
 iA 44 (.ext (.t 38) 1) [38],
 iA 12 (.alloc [.nil, .nil]) [],
 iE (.st 2 (.t 12) (.t 43)) [43],
 iM 13 44 [44]])
(.seq (.seq (.reg [iM 45 13 [],
 iA 46 (.bin .neq (.t 45) (.k (intV 0))) [45]])
(.cond (.t 46)
(.seq (.reg [iA 47 (.build [.nil, .nil] []) [0, 8, 32, 33, 34, 12, 46],
 iM 48 13 [13],
 iE (.st 2 (.t 4) (.t 47)) [47],
 iM 5 48 [48]])
(.ret))
(.skip)))
(.reg [iA 49 (.ld true 2 (.t 12)) [5, 12, 13, 46],
 iE (.st 2 (.t 8) (.t 49)) [49]])))))
(.reg [iA 50 (.bin .add (.t 34) (.k (intV 1))) [34, 35],
 iM 34 50 [50]]))))
def c_naive_Run : AFun := ⟨.seq (.reg [iA 3 (.bx (.t 1)) [1],
 iA 4 (.alloc [.nil, .nil]) [],
 iA 5 (.mov (.k (intV 0))) [5]])
(.seq (.seq (.reg [iM 15 0 [],
 iA 16 (.ld true 2 (.t 3)) [],
 iA 17 (.call 22 [(.t 15), (.t 16)]) [15, 16],
 iM 14 17 [17],
 iA 18 (.ext (.t 14) 0) [],
 iA 19 (.ext (.t 14) 1) [14],
 iM 6 18 [18, 6],
 iM 7 19 [19]])
(.seq (.reg [iM 20 7 [],
 iA 21 (.bin .neq (.t 20) (.k (intV 0))) [20]])
(.cond (.t 21)
(.seq (.reg [iA 22 (.build [.nil, .nil] []) [0, 3, 21],
 iM 23 7 [7],
 iE (.st 2 (.t 4) (.t 22)) [22],
 iM 5 23 [23]])
(.ret))
(.skip))))
(.seq (.reg [iM 25 0 [5, 7, 21],
 iA 26 (.fa 0 (.t 3)) [],
 iA 27 (.ld false 1 (.t 26)) [26],
 iA 28 (.call 23 [(.t 25), (.t 27)]) [25, 27],
 iM 24 28 [28],
 iA 29 (.ext (.t 24) 0) [],
 iA 30 (.ext (.t 24) 1) [24],
 iA 8 (.alloc [.nil, .nil]) [],
 iE (.st 2 (.t 8) (.t 29)) [29],
 iM 9 30 [30, 9]])
(.seq (.seq (.reg [iA 31 (.fa 1 (.t 3)) [3],
 iA 32 (.ld false 1 (.t 31)) [31],
 iA 33 (.len (.t 32)) [],
 iA 34 (.mov (.k (intV 0))) []])
(.block 0 (.loop [0, 4, 8, 32, 33, 34] c_naive_Run_L0)))
(.seq (.reg [iA 51 (.ld true 2 (.t 8)) [0, 8, 32, 33, 34],
 iE (.st 2 (.t 4) (.t 51)) [51],
 iA 5 (.mov (.k (intV 0))) []])
(.ret))))),
 [.cell 4 true 2, .tmp 5]⟩
def o_naive_Run : List (Nat × List Nat) := []
theorem c_naive_Run_ok : cFun Tryz.prog o_naive_Run 13 = some c_naive_Run.erase := by kernel_rfl

/- ref39_FewCols -/
def c_ref39_FewCols_L0 : ACode := (.seq (.seq (.reg [iM 4 3 [],
 iM 5 0 [],
 iA 6 (.len (.t 5)) [5],
 iA 7 (.bin .lss (.t 4) (.t 6)) [4, 6],
 iG 8 7 [7],
 iN 9 8 3 [],
 iB 10 8 (.bin .leq (.t 9) (.k (intV 40))) [9],
 iA 11 (.pick (.t 8) (.t 10) (.k (boolV false))) [8, 10, 9]])
(.cond (.t 11)
(.skip)
(.exit 0)))
(.seq (.block 1 (.seq (.reg [iM 14 0 [11],
 iM 15 3 [],
 iA 16 (.ia 2 (.t 14) (.t 15)) [14, 15],
 iA 17 (.fa 0 (.t 16)) [16],
 iA 18 (.ld false 1 (.t 17)) [17],
 iA 19 (.slen (.t 18)) [18],
 iA 20 (.bin .gtr (.t 19) (.k (intV 300))) [19]])
(.cond (.t 20)
(.seq (.reg [iA 2 (.mov (.k (boolV false))) [0, 3, 20]])
(.ret))
(.skip))))
(.reg [iM 12 3 [2, 3, 20, 11],
 iA 13 (.bin .add (.t 12) (.k (intV 1))) [12],
 iM 3 13 [13]])))
def c_ref39_FewCols : AFun := ⟨.seq (.reg [iA 2 (.mov (.k (boolV false))) [2]])
(.seq (.seq (.reg [iA 3 (.mov (.k (intV 0))) []])
(.block 0 (.loop [0, 3] c_ref39_FewCols_L0)))
(.seq (.reg [iM 21 0 [0, 3],
 iA 22 (.len (.t 21)) [21],
 iA 23 (.bin .leq (.t 22) (.k (intV 40))) [22],
 iM 2 23 [23]])
(.ret))),
 [.tmp 2]⟩
def o_ref39_FewCols : List (Nat × List Nat) := []
theorem c_ref39_FewCols_ok : cFun Tryz.prog o_ref39_FewCols 14 = some c_ref39_FewCols.erase := by kernel_rfl

/- ref36_Deep -/
def c_ref36_Deep_L0 : ACode := (.seq (.seq (.reg [iM 29 7 [],
 iA 30 (.fa 5 (.t 3)) [],
 iA 31 (.ld false 1 (.t 30)) [30],
 iA 32 (.len (.t 31)) [31],
 iA 33 (.bin .lss (.t 29) (.t 32)) [29, 32]])
(.cond (.t 33)
(.skip)
(.exit 0)))
(.seq (.block 1 (.seq (.reg [iA 36 (.fa 5 (.t 3)) [33],
 iA 37 (.ld false 1 (.t 36)) [36],
 iM 38 7 [],
 iA 39 (.ia 6 (.t 37) (.t 38)) [37, 38],
 iA 40 (.ld true 6 (.t 39)) [39],
 iM 41 1 [],
 iA 42 (.bin .sub (.t 41) (.k (intV 1))) [41],
 iM 43 2 [2],
 iA 44 (.call 15 [(.t 40), (.t 42), (.t 43)]) [40, 42, 43],
 iM 2 44 [44]])
(.seq (.reg [iM 45 2 [],
 iA 46 (.bin .lss (.t 45) (.k (intV 0))) [45]])
(.cond (.t 46)
(.seq (.reg [iA 6 (.mov (.k (intV (-1)))) [1, 3, 7, 2, 46]])
(.ret))
(.skip)))))
(.reg [iM 34 7 [6, 7, 46, 33],
 iA 35 (.bin .add (.t 34) (.k (intV 1))) [34],
 iM 7 35 [35]])))
def c_ref36_Deep : AFun := ⟨.seq (.reg [iA 3 (.bx (.t 0)) [0],
 iA 6 (.mov (.k (intV 0))) [6]])
(.seq (.reg [iM 8 2 [2],
 iA 9 (.bin .sub (.t 8) (.k (intV 1))) [8],
 iM 2 9 [9]])
(.seq (.seq (.reg [iM 10 1 [],
 iA 11 (.bin .lss (.t 10) (.k (intV 1))) [10],
 iG 12 11 [11],
 iC 13 12 (.mov (.t 2)) [],
 iC 14 12 (.bin .lss (.t 13) (.k (intV 0))) [13],
 iA 15 (.pick (.t 12) (.k (boolV true)) (.t 14)) [12, 14, 13],
 iG 16 15 [15],
 iC 17 16 (.fa 1 (.t 3)) [],
 iC 18 16 (.ld false 1 (.t 17)) [17],
 iC 19 16 (.slen (.t 18)) [18],
 iC 20 16 (.bin .gtr (.t 19) (.k (intV 300))) [19],
 iA 21 (.pick (.t 16) (.k (boolV true)) (.t 20)) [16, 20, 19, 18, 17],
 iG 22 21 [21],
 iC 23 22 (.fa 2 (.t 3)) [],
 iC 24 22 (.fa 2 (.t 23)) [23],
 iC 25 22 (.ld false 1 (.t 24)) [24],
 iC 26 22 (.slen (.t 25)) [25],
 iC 27 22 (.bin .gtr (.t 26) (.k (intV 300))) [26],
 iA 28 (.pick (.t 22) (.k (boolV true)) (.t 27)) [22, 27, 26, 25, 24, 23]])
(.cond (.t 28)
(.seq (.reg [iA 6 (.mov (.k (intV (-1)))) [1, 3, 2, 28]])
(.ret))
(.skip)))
(.seq (.seq (.reg [iA 7 (.mov (.k (intV 0))) [6, 28]])
(.block 0 (.loop [1, 2, 3, 7] c_ref36_Deep_L0)))
(.seq (.reg [iM 47 2 [1, 3, 2, 7],
 iM 6 47 [47]])
(.ret))))),
 [.tmp 6]⟩
def o_ref36_Deep : List (Nat × List Nat) := []
theorem c_ref36_Deep_ok : cFun Tryz.prog o_ref36_Deep 15 = some c_ref36_Deep.erase := by kernel_rfl

/- table_CheckAll -/
def c_table_CheckAll_L0 : ACode := (.seq (.reg [iA 15 (.bin .lss (.t 14) (.t 13)) []])
(.seq (.cond (.t 15)
(.skip)
(.exit 0))
(.seq (.block 1 (.seq (.reg [iM 16 14 [15],
 iA 17 (.ia 3 (.t 12) (.t 14)) [],
 iA 18 (.ld true 3 (.t 17)) [17],
 iA 4 (.alloc [(.d (.lit (.string ⟨#[]⟩))), .nil, .nil]) [],
 iM 3 16 [16],
 iE (.st 3 (.t 4) (.t 18)) [18]])
(.seq (.seq (.reg [iA 19 (.fa 0 (.t 4)) [],
 iA 20 (.ld false 1 (.t 19)) [19],
 iA 21 (.call 24 [(.t 20)]) [20],
 iM 5 21 [21]])
(.seq (.reg [iM 22 5 [],
 iA 23 (.bin .neq (.t 22) (.k (intV 0))) [22]])
(.cond (.t 23)
(.seq (.reg [iM 24 5 [0, 12, 13, 14, 4, 3, 5, 23],
 iM 2 24 [24]])
(.ret))
(.skip))))
(.seq (.seq (.reg [iM 26 0 [2, 5, 23],
 iM 27 3 [3],
 iA 28 (.sli 3 (.t 26) none (some (.t 27))) [26, 27],
 iA 29 (.fa 0 (.t 4)) [],
 iA 30 (.ld false 1 (.t 29)) [29],
 iA 31 (.call 23 [(.t 28), (.t 30)]) [28, 30],
 iM 25 31 [31],
 iA 32 (.ext (.t 25) 0) [],
 iA 33 (.ext (.t 25) 1) [25],
 iA 6 (.alloc [.nil, .nil]) [],
 iE (.st 2 (.t 6) (.t 32)) [32, 6],
 iM 7 33 [33]])
(.seq (.reg [iM 34 7 [7]])
(.cond (.t 34)
(.seq (.reg [iA 2 (.mov (.k (intV 4))) [0, 12, 13, 14, 4, 34]])
(.ret))
(.skip))))
(.seq (.reg [iA 35 (.fa 1 (.t 4)) [2, 4, 34],
 iA 36 (.ld true 2 (.t 35)) [35],
 iA 37 (.call 17 [(.t 36)]) [36],
 iM 8 37 [37]])
(.seq (.reg [iM 38 8 [],
 iA 39 (.bin .neq (.t 38) (.k (intV 0))) [38]])
(.cond (.t 39)
(.seq (.reg [iM 40 8 [0, 12, 13, 14, 8, 39],
 iM 2 40 [40]])
(.ret))
(.skip))))))))
(.reg [iA 41 (.bin .add (.t 14) (.k (intV 1))) [2, 14, 8, 39, 15],
 iM 14 41 [41]]))))
def c_table_CheckAll : AFun := ⟨.seq (.reg [iA 2 (.mov (.k (intV 0))) [2]])
(.seq (.seq (.reg [iM 9 0 [],
 iA 10 (.len (.t 9)) [9],
 iA 11 (.bin .gtr (.t 10) (.k (intV 32))) [10]])
(.cond (.t 11)
(.seq (.reg [iA 2 (.mov (.k (intV 7))) [0, 11]])
(.ret))
(.skip)))
(.seq (.seq (.reg [iM 12 0 [2, 11],
 iA 13 (.len (.t 12)) [],
 iA 14 (.mov (.k (intV 0))) []])
(.block 0 (.loop [0, 12, 13, 14] c_table_CheckAll_L0)))
(.seq (.reg [iA 2 (.mov (.k (intV 0))) [0, 12, 13, 14]])
(.ret)))),
 [.tmp 2]⟩
def o_table_CheckAll : List (Nat × List Nat) := [(9, [0, 1, 2, 3, 4, 5, 6, 7, 8, 9, 10, 11])]
theorem c_table_CheckAll_ok : cFun Tryz.prog o_table_CheckAll 16 = some c_table_CheckAll.erase := by kernel_rfl

/- table_Check -/
def c_table_Check_L0 : ACode := (.seq (.reg [iA 25 (.bin .lss (.t 24) (.t 23)) []])
(.seq (.cond (.t 25)
(.skip)
(.exit 0))
(.seq (.block 1 (.seq (.reg [iM 26 24 [25],
 iA 27 (.ia 2 (.t 22) (.t 24)) [],
 iA 28 (.ld true 2 (.t 27)) [27],
 iA 4 (.alloc [(.d (.lit (.string ⟨#[]⟩))), (.d (.lit (.int .i64 0)))]) [],
 iM 3 26 [26],
 iE (.st 2 (.t 4) (.t 28)) [28]])
(.seq (.seq (.reg [iA 29 (.fa 0 (.t 4)) [],
 iA 30 (.ld false 1 (.t 29)) [29],
 iA 31 (.call 24 [(.t 30)]) [30],
 iM 5 31 [31]])
(.seq (.reg [iM 32 5 [],
 iA 33 (.bin .neq (.t 32) (.k (intV 0))) [32]])
(.cond (.t 33)
(.seq (.reg [iM 34 5 [1, 22, 23, 24, 4, 3, 5, 33],
 iM 2 34 [34]])
(.ret))
(.skip))))
(.seq (.seq (.reg [iA 35 (.fa 0 (.t 1)) [2, 5, 33],
 iA 36 (.ld false 1 (.t 35)) [35],
 iM 37 3 [3],
 iA 38 (.sli 2 (.t 36) none (some (.t 37))) [36, 37],
 iA 39 (.build [.nil, .nil] [(0, 1, (.t 38))]) [38],
 iA 40 (.fa 0 (.t 4)) [],
 iA 41 (.ld false 1 (.t 40)) [40],
 iA 42 (.call 25 [(.t 39), (.t 41)]) [39, 41],
 iA 43 (.bin .geq (.t 42) (.k (intV 0))) [42]])
(.cond (.t 43)
(.seq (.reg [iA 2 (.mov (.k (intV 4))) [1, 22, 23, 24, 4, 43]])
(.ret))
(.skip)))
(.seq (.reg [iA 44 (.fa 1 (.t 4)) [2, 43],
 iA 45 (.ld false 1 (.t 44)) [44],
 iA 46 (.bin .neq (.t 45) (.k (intV 1))) [45],
 iG 47 46 [46],
 iB 48 47 (.fa 1 (.t 4)) [],
 iB 49 47 (.ld false 1 (.t 48)) [48],
 iB 50 47 (.bin .neq (.t 49) (.k (intV 2))) [49],
 iA 51 (.pick (.t 47) (.t 50) (.k (boolV false))) [47, 50, 49, 48],
 iG 52 51 [51],
 iB 53 52 (.fa 1 (.t 4)) [4],
 iB 54 52 (.ld false 1 (.t 53)) [53],
 iB 55 52 (.bin .neq (.t 54) (.k (intV 3))) [54],
 iA 56 (.pick (.t 52) (.t 55) (.k (boolV false))) [52, 55, 54, 53, 4]])
(.cond (.t 56)
(.seq (.reg [iA 2 (.mov (.k (intV 14))) [1, 22, 23, 24, 56]])
(.ret))
(.skip)))))))
(.reg [iA 57 (.bin .add (.t 24) (.k (intV 1))) [2, 24, 56, 25],
 iM 24 57 [57]]))))
def c_table_Check_L1 : ACode := (.seq (.reg [iA 74 (.bin .lss (.t 73) (.t 72)) []])
(.seq (.cond (.t 74)
(.skip)
(.exit 4))
(.seq (.block 5 (.seq (.reg [iM 75 73 [74],
 iA 76 (.ia 3 (.t 71) (.t 73)) [],
 iA 77 (.ld true 3 (.t 76)) [76],
 iA 9 (.alloc [(.d (.lit (.int .i64 0))), (.d (.lit (.int .i64 0))), (.d (.lit (.string ⟨#[]⟩)))]) [],
 iM 8 75 [75],
 iE (.st 3 (.t 9) (.t 77)) [77]])
(.seq (.reg [iA 78 (.fa 0 (.t 1)) [],
 iA 79 (.ld false 1 (.t 78)) [78],
 iM 80 8 [8],
 iA 81 (.ia 2 (.t 79) (.t 80)) [79, 80],
 iA 82 (.fa 1 (.t 81)) [81],
 iA 83 (.ld false 1 (.t 82)) [82],
 iA 84 (.ld true 3 (.t 9)) [9],
 iA 85 (.call 26 [(.t 83), (.t 84)]) [83, 84],
 iM 10 85 [85]])
(.seq (.reg [iM 86 10 [],
 iA 87 (.bin .neq (.t 86) (.k (intV 0))) [86]])
(.cond (.t 87)
(.seq (.reg [iM 88 10 [1, 59, 60, 61, 71, 72, 73, 10, 87],
 iM 2 88 [88]])
(.ret))
(.skip))))))
(.reg [iA 89 (.bin .add (.t 73) (.k (intV 1))) [2, 73, 10, 87, 74],
 iM 73 89 [89]]))))
def c_table_Check_L2 : ACode := (.seq (.reg [iA 62 (.bin .lss (.t 61) (.t 60)) []])
(.seq (.cond (.t 62)
(.skip)
(.exit 2))
(.seq (.block 3 (.seq (.reg [iA 63 (.ia 1 (.t 59) (.t 61)) [62],
 iA 64 (.ld false 1 (.t 63)) [63],
 iM 7 64 [64]])
(.seq (.seq (.reg [iM 65 7 [],
 iA 66 (.len (.t 65)) [65],
 iA 67 (.fa 0 (.t 1)) [],
 iA 68 (.ld false 1 (.t 67)) [67],
 iA 69 (.len (.t 68)) [68],
 iA 70 (.bin .neq (.t 66) (.t 69)) [66, 69]])
(.cond (.t 70)
(.seq (.reg [iA 2 (.mov (.k (intV 10))) [1, 59, 60, 61, 7, 70]])
(.ret))
(.skip)))
(.seq (.reg [iM 71 7 [2, 7, 70],
 iA 72 (.len (.t 71)) [],
 iA 73 (.mov (.k (intV 0))) []])
(.block 4 (.loop [1, 59, 60, 61, 71, 72, 73] c_table_Check_L1))))))
(.reg [iA 90 (.bin .add (.t 61) (.k (intV 1))) [61, 71, 72, 73, 62],
 iM 61 90 [90]]))))
def c_table_Check : AFun := ⟨.seq (.reg [iA 1 (.bx (.t 0)) [0],
 iA 2 (.mov (.k (intV 0))) [2]])
(.seq (.seq (.reg [iA 11 (.fa 0 (.t 1)) [],
 iA 12 (.ld false 1 (.t 11)) [11],
 iA 13 (.len (.t 12)) [12],
 iA 14 (.bin .gtr (.t 13) (.k (intV 32))) [13],
 iG 15 14 [14],
 iC 16 15 (.fa 1 (.t 1)) [],
 iC 17 15 (.ld false 1 (.t 16)) [16],
 iC 18 15 (.len (.t 17)) [17],
 iC 19 15 (.bin .gtr (.t 18) (.k (intV 20000))) [18],
 iA 20 (.pick (.t 15) (.k (boolV true)) (.t 19)) [15, 19, 18, 17, 16]])
(.cond (.t 20)
(.seq (.reg [iA 2 (.mov (.k (intV 7))) [1, 20]])
(.ret))
(.skip)))
(.seq (.seq (.reg [iA 21 (.fa 0 (.t 1)) [2, 20],
 iA 22 (.ld false 1 (.t 21)) [21],
 iA 23 (.len (.t 22)) [],
 iA 24 (.mov (.k (intV 0))) []])
(.block 0 (.loop [1, 22, 23, 24] c_table_Check_L0)))
(.seq (.seq (.reg [iA 58 (.fa 1 (.t 1)) [22, 23, 24],
 iA 59 (.ld false 1 (.t 58)) [58],
 iA 60 (.len (.t 59)) [],
 iA 61 (.mov (.k (intV 0))) []])
(.block 2 (.loop [1, 59, 60, 61] c_table_Check_L2)))
(.seq (.reg [iA 2 (.mov (.k (intV 0))) [1, 59, 60, 61]])
(.ret))))),
 [.tmp 2]⟩
def o_table_Check : List (Nat × List Nat) := [(9, [0, 1, 2, 3, 4, 5, 6, 7, 8]), (22, [0, 1, 2, 3, 4, 5, 6, 7, 8])]
theorem c_table_Check_ok : cFun Tryz.prog o_table_Check 17 = some c_table_Check.erase := by kernel_rfl

/- typing_Step -/
def c_typing_Step_L0 : ACode := (.seq (.reg [iA 60 (.bin .lss (.t 59) (.t 58)) []])
(.seq (.cond (.t 60)
(.skip)
(.exit 1))
(.seq (.block 2 (.seq (.reg [iA 61 (.ia 2 (.t 57) (.t 59)) [60],
 iA 62 (.ld true 2 (.t 61)) [61],
 iA 12 (.alloc [(.d (.lit (.string ⟨#[]⟩))), (.d (.lit (.bool false)))]) [],
 iE (.st 2 (.t 12) (.t 62)) [62]])
(.seq (.reg [iM 63 1 [],
 iA 64 (.fa 0 (.t 12)) [12],
 iA 65 (.ld false 1 (.t 64)) [64],
 iA 66 (.call 32 [(.t 63), (.t 65)]) [63, 65],
 iA 67 (.bin .lss (.t 66) (.k (intV 0))) [66]])
(.cond (.t 67)
(.seq (.reg [iA 6 (.mov (.k (.w (.c .nil)))) [1, 57, 58, 59, 67],
 iA 7 (.mov (.k (intV 16))) []])
(.ret))
(.skip)))))
(.reg [iA 68 (.bin .add (.t 59) (.k (intV 1))) [6, 7, 59, 67, 60],
 iM 59 68 [68]]))))
def c_typing_Step : AFun := ⟨.seq (.reg [iA 5 (.bx (.t 2)) [2],
 iA 6 (.mov (.k (.w (.c .nil)))) [6],
 iA 7 (.mov (.k (intV 0))) [7]])
(.seq (.seq (.reg [iA 13 (.ld true 13 (.t 5)) [],
 iA 14 (.call 27 [(.t 13)]) [13],
 iM 8 14 [14]])
(.seq (.reg [iM 15 8 [],
 iA 16 (.bin .neq (.t 15) (.k (intV 0))) [15]])
(.cond (.t 16)
(.seq (.reg [iM 17 8 [0, 1, 5, 8, 16],
 iA 6 (.mov (.k (.w (.c .nil)))) [],
 iM 7 17 [17]])
(.ret))
(.skip))))
(.seq (.seq (.reg [iA 18 (.fa 0 (.t 5)) [6, 7, 8, 16],
 iA 19 (.ld false 1 (.t 18)) [18]])
(.block 0 (.seq (.reg [iA 21 (.bin .eql (.t 19) (.k (intV 1))) [],
 iM 20 21 [21]])
(.cond (.t 20)
(.seq (.reg [iM 23 1 [0, 19, 20],
 iA 24 (.fa 1 (.t 5)) [5],
 iA 25 (.ld true 6 (.t 24)) [24],
 iA 26 (.call 28 [(.t 23), (.t 25)]) [23, 25],
 iM 22 26 [26],
 iA 27 (.ext (.t 22) 0) [],
 iA 28 (.ext (.t 22) 1) [22],
 iM 9 27 [27],
 iM 10 28 [28]])
(.seq (.seq (.reg [iM 29 10 [],
 iA 30 (.bin .eql (.t 29) (.k (intV 0))) [29],
 iG 31 30 [30],
 iN 32 31 9 [9],
 iB 33 31 (.call 29 [(.t 32), (.k (intV 1))]) [32],
 iB 34 31 (.bnot (.t 33)) [33],
 iA 35 (.pick (.t 31) (.t 34) (.k (boolV false))) [31, 34, 33, 32, 9]])
(.cond (.t 35)
(.reg [iA 10 (.mov (.k (intV 14))) [35]])
(.skip)))
(.seq (.reg [iM 36 10 [35],
 iA 37 (.bin .neq (.t 36) (.k (intV 0))) [36]])
(.cond (.t 37)
(.seq (.reg [iM 38 10 [1, 10, 37],
 iA 6 (.mov (.k (.w (.c .nil)))) [],
 iM 7 38 [38]])
(.ret))
(.skip)))))
(.seq (.reg [iA 40 (.bin .eql (.t 19) (.k (intV 2))) [20],
 iM 39 40 [40]])
(.cond (.t 39)
(.seq (.reg [iM 41 1 [0, 1, 19, 39],
 iA 42 (.fa 7 (.t 5)) [5],
 iA 43 (.ld false 1 (.t 42)) [42],
 iA 44 (.call 30 [(.t 41), (.t 43)]) [41, 43],
 iA 45 (.ext (.t 44) 0) [],
 iA 46 (.ext (.t 44) 1) [44],
 iM 6 45 [45],
 iM 7 46 [46]])
(.ret))
(.seq (.reg [iA 48 (.bin .eql (.t 19) (.k (intV 3))) [39],
 iM 47 48 [48]])
(.cond (.t 47)
(.seq (.reg [iM 49 1 [0, 1, 19, 47],
 iA 50 (.ld true 13 (.t 5)) [5],
 iA 51 (.call 31 [(.t 49), (.t 50)]) [49, 50],
 iA 52 (.ext (.t 51) 0) [],
 iA 53 (.ext (.t 51) 1) [51],
 iM 6 52 [52],
 iM 7 53 [53]])
(.ret))
(.seq (.reg [iA 55 (.bin .eql (.t 19) (.k (intV 4))) [47],
 iM 54 55 [55]])
(.cond (.t 54)
(.seq (.reg [iA 56 (.fa 10 (.t 5)) [0, 5, 19, 54],
 iA 57 (.ld false 1 (.t 56)) [56],
 iA 58 (.len (.t 57)) [],
 iA 59 (.mov (.k (intV 0))) []])
(.block 1 (.loop [1, 57, 58, 59] c_typing_Step_L0)))
(.seq (.reg [iA 70 (.bin .eql (.t 19) (.k (intV 9))) [54],
 iM 69 70 [70]])
(.cond (.t 69)
(.seq (.reg [iM 71 1 [0, 1, 19, 69],
 iA 72 (.ld true 13 (.t 5)) [5],
 iA 73 (.call 33 [(.t 71), (.t 72)]) [71, 72],
 iA 74 (.ext (.t 73) 0) [],
 iA 75 (.ext (.t 73) 1) [73],
 iM 6 74 [74],
 iM 7 75 [75]])
(.ret))
(.seq (.seq (.reg [iA 77 (.bin .eql (.t 19) (.k (intV 6))) [69],
 iM 76 77 [77]])
(.cond (.t 76)
(.skip)
(.seq (.reg [iA 78 (.bin .eql (.t 19) (.k (intV 7))) [76],
 iM 76 78 [78]])
(.cond (.t 76)
(.skip)
(.reg [iA 79 (.bin .eql (.t 19) (.k (intV 8))) [19, 76],
 iM 76 79 [79]])))))
(.cond (.t 76)
(.seq (.reg [iM 80 0 [0, 19, 76],
 iM 81 1 [1],
 iA 82 (.ld true 13 (.t 5)) [5],
 iA 83 (.call 34 [(.t 80), (.t 81), (.t 82)]) [80, 81, 82],
 iA 84 (.ext (.t 83) 0) [],
 iA 85 (.ext (.t 83) 1) [83],
 iM 6 84 [84],
 iM 7 85 [85]])
(.ret))
(.skip)))))))))))))))
(.seq (.reg [iM 86 1 [6, 7, 1, 10, 37, 57, 58, 59, 0, 5, 19, 76],
 iA 87 (.call 35 [(.t 86)]) [86],
 iM 6 87 [87],
 iA 7 (.mov (.k (intV 0))) []])
(.ret)))),
 [.tmp 6, .tmp 7]⟩
def o_typing_Step : List (Nat × List Nat) := []
theorem c_typing_Step_ok : cFun Tryz.prog o_typing_Step 18 = some c_typing_Step.erase := by kernel_rfl

/- naive_step -/
def c_naive_step : AFun := ⟨.seq (.reg [iA 5 (.bx (.t 1)) [1],
 iA 6 (.bx (.t 2)) [2],
 iA 8 (.alloc [.nil, .nil]) [],
 iA 9 (.mov (.k (intV 0))) [9]])
(.seq (.reg [iM 15 0 [],
 iA 16 (.fa 12 (.t 6)) [],
 iA 17 (.ld false 1 (.t 16)) [16],
 iA 18 (.call 23 [(.t 15), (.t 17)]) [15, 17],
 iM 14 18 [18],
 iA 19 (.ext (.t 14) 0) [],
 iA 20 (.ext (.t 14) 1) [14],
 iA 10 (.alloc [.nil, .nil]) [],
 iE (.st 2 (.t 10) (.t 19)) [19],
 iM 11 20 [20, 11]])
(.seq (.seq (.reg [iA 21 (.fa 0 (.t 6)) [],
 iA 22 (.ld false 1 (.t 21)) [21]])
(.block 0 (.seq (.reg [iA 24 (.bin .eql (.t 22) (.k (intV 4))) [],
 iM 23 24 [24]])
(.cond (.t 23)
(.seq (.reg [iA 25 (.ld true 2 (.t 5)) [0, 3, 5, 10, 22, 23],
 iA 26 (.fa 10 (.t 6)) [6],
 iA 27 (.ld false 1 (.t 26)) [26],
 iA 28 (.call 36 [(.t 25), (.t 27)]) [25, 27],
 iA 29 (.ext (.t 28) 0) [],
 iA 30 (.ext (.t 28) 1) [28],
 iE (.st 2 (.t 8) (.t 29)) [29],
 iM 9 30 [30]])
(.ret))
(.seq (.reg [iA 32 (.bin .eql (.t 22) (.k (intV 7))) [23],
 iM 31 32 [32]])
(.cond (.t 31)
(.seq (.reg [iA 33 (.ld true 2 (.t 5)) [0, 3, 5, 22, 31],
 iA 34 (.ld true 2 (.t 10)) [10],
 iA 35 (.fa 8 (.t 6)) [6],
 iA 36 (.ld false 1 (.t 35)) [35],
 iA 37 (.call 37 [(.t 33), (.t 34), (.t 36)]) [33, 34, 36],
 iA 38 (.ext (.t 37) 0) [],
 iA 39 (.ext (.t 37) 1) [37],
 iE (.st 2 (.t 8) (.t 38)) [38],
 iM 9 39 [39]])
(.ret))
(.seq (.reg [iA 41 (.bin .eql (.t 22) (.k (intV 8))) [31],
 iM 40 41 [41]])
(.cond (.t 40)
(.seq (.reg [iA 42 (.ld true 2 (.t 5)) [0, 3, 5, 22, 40],
 iA 43 (.ld true 2 (.t 10)) [10],
 iA 44 (.fa 8 (.t 6)) [6],
 iA 45 (.ld false 1 (.t 44)) [44],
 iA 46 (.call 38 [(.t 42), (.t 43), (.t 45)]) [42, 43, 45],
 iA 47 (.ext (.t 46) 0) [],
 iA 48 (.ext (.t 46) 1) [46],
 iE (.st 2 (.t 8) (.t 47)) [47],
 iM 9 48 [48]])
(.ret))
(.seq (.reg [iA 50 (.bin .eql (.t 22) (.k (intV 9))) [10, 22, 40],
 iM 49 50 [50]])
(.cond (.t 49)
(.seq (.reg [iA 51 (.ld true 2 (.t 5)) [0, 3, 5, 49],
 iA 52 (.fa 8 (.t 6)) [6],
 iA 53 (.ld false 1 (.t 52)) [52],
 iA 54 (.call 39 [(.t 51), (.t 53)]) [51, 53],
 iA 55 (.ext (.t 54) 0) [],
 iA 56 (.ext (.t 54) 1) [54],
 iE (.st 2 (.t 8) (.t 55)) [55],
 iM 9 56 [56]])
(.ret))
(.skip)))))))))))
(.seq (.reg [iM 58 0 [9, 0, 49, 10, 22],
 iA 59 (.ld true 2 (.t 5)) [5],
 iA 60 (.ld true 13 (.t 6)) [6],
 iA 61 (.call 40 [(.t 58), (.t 59), (.t 60)]) [58, 59, 60],
 iM 57 61 [61],
 iA 62 (.ext (.t 57) 0) [],
 iA 63 (.ext (.t 57) 1) [57],
 iM 12 62 [62],
 iM 13 63 [63]])
(.seq (.seq (.reg [iM 64 13 [13],
 iA 65 (.bnot (.t 64)) [64],
 iG 66 65 [65],
 iC 67 66 (.mov (.t 12)) [],
 iC 68 66 (.len (.t 67)) [67],
 iC 69 66 (.bin .gtr (.t 68) (.k (intV 20000))) [68],
 iA 70 (.pick (.t 66) (.k (boolV true)) (.t 69)) [66, 69, 68, 67]])
(.cond (.t 70)
(.seq (.reg [iA 71 (.build [.nil, .nil] []) [3, 12, 70],
 iE (.st 2 (.t 8) (.t 71)) [71],
 iA 9 (.mov (.k (intV 7))) []])
(.ret))
(.skip)))
(.seq (.reg [iM 72 3 [9, 3, 70],
 iM 73 12 [12],
 iA 74 (.build [.nil, .nil] [(0, 1, (.t 72)), (1, 1, (.t 73))]) [72, 73],
 iE (.st 2 (.t 8) (.t 74)) [74],
 iA 9 (.mov (.k (intV 0))) []])
(.ret)))))),
 [.cell 8 true 2, .tmp 9]⟩
def o_naive_step : List (Nat × List Nat) := []
theorem c_naive_step_ok : cFun Tryz.prog o_naive_step 19 = some c_naive_step.erase := by kernel_rfl

/- ref34_SameRow -/
def c_ref34_SameRow : AFun := ⟨.seq (.reg [iA 4 (.mov (.k (boolV false))) [4]])
(.seq (.reg [iM 5 0 [0],
 iM 6 1 [1],
 iA 7 (.call 41 [(.t 5), (.t 6)]) [5, 6],
 iM 4 7 [7]])
(.ret)),
 [.tmp 4]⟩
def o_ref34_SameRow : List (Nat × List Nat) := []
theorem c_ref34_SameRow_ok : cFun Tryz.prog o_ref34_SameRow 20 = some c_ref34_SameRow.erase := by kernel_rfl

/- ref34_Order -/
def c_ref34_Order : AFun := ⟨.seq (.reg [iA 2 (.bx (.t 0)) [0],
 iA 3 (.bx (.t 1)) [1],
 iA 4 (.mov (.k (intV 0))) [4]])
(.seq (.block 0 (.seq (.reg [iA 6 (.fa 0 (.t 2)) [],
 iA 7 (.ld false 1 (.t 6)) [6],
 iA 8 (.fa 0 (.t 3)) [],
 iA 9 (.ld false 1 (.t 8)) [8],
 iA 10 (.bin .neq (.t 7) (.t 9)) [7, 9],
 iM 5 10 [10]])
(.cond (.t 5)
(.seq (.reg [iA 11 (.fa 0 (.t 2)) [2, 5],
 iA 12 (.ld false 1 (.t 11)) [11],
 iA 13 (.fa 0 (.t 3)) [3],
 iA 14 (.ld false 1 (.t 13)) [13],
 iA 15 (.call 42 [(.t 12), (.t 14)]) [12, 14],
 iM 4 15 [15]])
(.ret))
(.seq (.reg [iA 17 (.fa 0 (.t 2)) [5],
 iA 18 (.ld false 1 (.t 17)) [17],
 iA 19 (.bin .eql (.t 18) (.k (intV 1))) [18],
 iG 20 19 [19],
 iC 21 20 (.fa 0 (.t 2)) [],
 iC 22 20 (.ld false 1 (.t 21)) [21],
 iC 23 20 (.bin .eql (.t 22) (.k (intV 2))) [22],
 iA 24 (.pick (.t 20) (.k (boolV true)) (.t 23)) [20, 23, 22, 21],
 iM 16 24 [24]])
(.cond (.t 16)
(.seq (.reg [iA 25 (.fa 1 (.t 2)) [2, 16],
 iA 26 (.ld false 1 (.t 25)) [25],
 iA 27 (.fa 1 (.t 3)) [3],
 iA 28 (.ld false 1 (.t 27)) [27],
 iA 29 (.call 42 [(.t 26), (.t 28)]) [26, 28],
 iM 4 29 [29]])
(.ret))
(.seq (.reg [iA 31 (.fa 0 (.t 2)) [16],
 iA 32 (.ld false 1 (.t 31)) [31],
 iA 33 (.bin .neq (.t 32) (.k (intV 3))) [32],
 iG 34 33 [33],
 iC 35 34 (.fa 2 (.t 2)) [],
 iC 36 34 (.ld false 1 (.t 35)) [35],
 iC 37 34 (.fa 2 (.t 3)) [],
 iC 38 34 (.ld false 1 (.t 37)) [37],
 iC 39 34 (.bin .eql (.t 36) (.t 38)) [36, 38],
 iA 40 (.pick (.t 34) (.k (boolV true)) (.t 39)) [34, 39, 36, 38, 37, 35],
 iM 30 40 [40]])
(.cond (.t 30)
(.seq (.reg [iA 4 (.mov (.k (intV 0))) [2, 3, 30]])
(.ret))
(.seq (.reg [iA 42 (.fa 2 (.t 2)) [2, 30],
 iA 43 (.ld false 1 (.t 42)) [42],
 iA 44 (.fa 2 (.t 3)) [3],
 iA 45 (.ld false 1 (.t 44)) [44],
 iA 46 (.bin .lss (.t 43) (.t 45)) [43, 45],
 iM 41 46 [46]])
(.cond (.t 41)
(.seq (.reg [iA 4 (.mov (.k (intV (-1)))) [41]])
(.ret))
(.skip))))))))))
(.seq (.reg [iA 4 (.mov (.k (intV 1))) [41, 2, 3]])
(.ret))),
 [.tmp 4]⟩
def o_ref34_Order : List (Nat × List Nat) := []
theorem c_ref34_Order_ok : cFun Tryz.prog o_ref34_Order 21 = some c_ref34_Order.erase := by kernel_rfl

/- typing_Query -/
def c_typing_Query_L0 : ACode := (.seq (.reg [iA 41 (.bin .lss (.t 40) (.t 39)) []])
(.seq (.cond (.t 41)
(.skip)
(.exit 0))
(.seq (.block 1 (.seq (.reg [iA 42 (.ia 13 (.t 38) (.t 40)) [41],
 iA 43 (.ld true 13 (.t 42)) [42],
 iA 12 (.alloc [(.d (.lit (.int .i64 0))), (.d (.lit (.int .i64 0))), (.d (.lit (.string ⟨#[]⟩))), (.d (.lit (.int .i64 0))), (.d (.lit (.int .i64 0))), (.d (.lit (.string ⟨#[]⟩))), .nil, .nil, .nil, .nil, .nil, (.d (.lit (.int .i64 0))), (.d (.lit (.string ⟨#[]⟩)))]) [],
 iE (.st 13 (.t 12) (.t 43)) [43]])
(.seq (.reg [iM 45 0 [],
 iM 46 10 [10],
 iA 47 (.ld true 13 (.t 12)) [12],
 iA 48 (.call 18 [(.t 45), (.t 46), (.t 47)]) [45, 46, 47],
 iM 44 48 [48],
 iA 49 (.ext (.t 44) 0) [],
 iA 50 (.ext (.t 44) 1) [44],
 iM 13 49 [49],
 iM 14 50 [50]])
(.seq (.seq (.reg [iM 51 14 [],
 iA 52 (.bin .neq (.t 51) (.k (intV 0))) [51]])
(.cond (.t 52)
(.seq (.reg [iM 53 14 [0, 38, 39, 40, 13, 14, 52],
 iA 4 (.mov (.k (.w (.c .nil)))) [],
 iM 5 53 [53]])
(.ret))
(.skip)))
(.reg [iM 54 13 [4, 5, 13, 14, 52],
 iM 10 54 [54]])))))
(.reg [iA 55 (.bin .add (.t 40) (.k (intV 1))) [40, 41],
 iM 40 55 [55]]))))
def c_typing_Query : AFun := ⟨.seq (.reg [iA 3 (.bx (.t 1)) [1],
 iA 4 (.mov (.k (.w (.c .nil)))) [4],
 iA 5 (.mov (.k (intV 0))) [5]])
(.seq (.seq (.reg [iM 15 0 [],
 iA 16 (.call 16 [(.t 15)]) [15],
 iM 6 16 [16]])
(.seq (.reg [iM 17 6 [],
 iA 18 (.bin .neq (.t 17) (.k (intV 0))) [17]])
(.cond (.t 18)
(.seq (.reg [iM 19 6 [0, 3, 6, 18],
 iA 4 (.mov (.k (.w (.c .nil)))) [],
 iM 5 19 [19]])
(.ret))
(.skip))))
(.seq (.seq (.reg [iA 20 (.ld true 2 (.t 3)) [4, 5, 6, 18],
 iA 21 (.call 43 [(.t 20)]) [20],
 iM 7 21 [21]])
(.seq (.reg [iM 22 7 [],
 iA 23 (.bin .neq (.t 22) (.k (intV 0))) [22]])
(.cond (.t 23)
(.seq (.reg [iM 24 7 [0, 3, 7, 23],
 iA 4 (.mov (.k (.w (.c .nil)))) [],
 iM 5 24 [24]])
(.ret))
(.skip))))
(.seq (.reg [iM 26 0 [4, 5, 7, 23],
 iA 27 (.fa 0 (.t 3)) [],
 iA 28 (.ld false 1 (.t 27)) [27],
 iA 29 (.call 23 [(.t 26), (.t 28)]) [26, 28],
 iM 25 29 [29],
 iA 30 (.ext (.t 25) 0) [],
 iA 31 (.ext (.t 25) 1) [25],
 iA 8 (.alloc [.nil, .nil]) [],
 iE (.st 2 (.t 8) (.t 30)) [30],
 iM 9 31 [31]])
(.seq (.seq (.reg [iM 32 9 [9],
 iA 33 (.bnot (.t 32)) [32]])
(.cond (.t 33)
(.seq (.reg [iA 4 (.mov (.k (.w (.c .nil)))) [0, 3, 8, 33],
 iA 5 (.mov (.k (intV 17))) []])
(.ret))
(.skip)))
(.seq (.reg [iA 34 (.fa 0 (.t 8)) [4, 5, 8, 33],
 iA 35 (.ld false 1 (.t 34)) [34],
 iA 36 (.call 35 [(.t 35)]) [35],
 iM 10 36 [36]])
(.seq (.seq (.reg [iA 37 (.fa 1 (.t 3)) [3],
 iA 38 (.ld false 1 (.t 37)) [37],
 iA 39 (.len (.t 38)) [],
 iA 40 (.mov (.k (intV 0))) []])
(.block 0 (.loop [0, 10, 38, 39, 40] c_typing_Query_L0)))
(.seq (.reg [iM 56 10 [0, 38, 39, 10, 40],
 iM 4 56 [56],
 iA 5 (.mov (.k (intV 0))) []])
(.ret)))))))),
 [.tmp 4, .tmp 5]⟩
def o_typing_Query : List (Nat × List Nat) := []
theorem c_typing_Query_ok : cFun Tryz.prog o_typing_Query 22 = some c_typing_Query.erase := by kernel_rfl

/- table_Find -/
def c_table_Find_L0 : ACode := (.seq (.reg [iA 11 (.bin .lss (.t 10) (.t 9)) []])
(.seq (.cond (.t 11)
(.skip)
(.exit 0))
(.seq (.block 1 (.seq (.reg [iA 12 (.ia 3 (.t 8) (.t 10)) [11],
 iA 13 (.ld true 3 (.t 12)) [12],
 iA 7 (.alloc [(.d (.lit (.string ⟨#[]⟩))), .nil, .nil]) [],
 iE (.st 3 (.t 7) (.t 13)) [13]])
(.seq (.reg [iA 14 (.fa 0 (.t 7)) [],
 iA 15 (.ld false 1 (.t 14)) [14],
 iM 16 1 [],
 iA 17 (.bin .eql (.t 15) (.t 16)) [15, 16]])
(.cond (.t 17)
(.seq (.reg [iA 18 (.fa 1 (.t 7)) [1, 8, 9, 10, 7, 17],
 iA 19 (.ld true 2 (.t 18)) [18],
 iE (.st 2 (.t 4) (.t 19)) [19],
 iA 5 (.mov (.k (boolV true))) []])
(.ret))
(.skip)))))
(.reg [iA 20 (.bin .add (.t 10) (.k (intV 1))) [5, 10, 7, 17, 11],
 iM 10 20 [20]]))))
def c_table_Find : AFun := ⟨.seq (.reg [iA 4 (.alloc [.nil, .nil]) [],
 iA 5 (.mov (.k (boolV false))) [5]])
(.seq (.seq (.reg [iM 8 0 [0],
 iA 9 (.len (.t 8)) [],
 iA 10 (.mov (.k (intV 0))) []])
(.block 0 (.loop [1, 4, 8, 9, 10] c_table_Find_L0)))
(.seq (.reg [iA 21 (.build [.nil, .nil] []) [1, 8, 9, 10],
 iE (.st 2 (.t 4) (.t 21)) [21],
 iA 5 (.mov (.k (boolV false))) []])
(.ret))),
 [.cell 4 true 2, .tmp 5]⟩
def o_table_Find : List (Nat × List Nat) := []
theorem c_table_Find_ok : cFun Tryz.prog o_table_Find 23 = some c_table_Find.erase := by kernel_rfl

/- intern_Name -/
def c_intern_Name_L0 : ACode := (.seq (.reg [iA 14 (.bin .lss (.t 13) (.t 12)) []])
(.seq (.cond (.t 14)
(.skip)
(.exit 0))
(.seq (.block 1 (.seq (.reg [iM 15 13 [14],
 iM 3 15 [15]])
(.seq (.reg [iM 16 0 [],
 iM 17 3 [3],
 iA 18 (.six (.t 16) (.t 17)) [16, 17],
 iA 19 (.call 44 [(.t 18)]) [18],
 iA 20 (.bnot (.t 19)) [19]])
(.cond (.t 20)
(.seq (.reg [iA 2 (.mov (.k (intV 3))) [0, 12, 13, 20]])
(.ret))
(.skip)))))
(.reg [iA 21 (.bin .add (.t 13) (.k (intV 1))) [2, 13, 20, 14],
 iM 13 21 [21]]))))
def c_intern_Name : AFun := ⟨.seq (.reg [iA 2 (.mov (.k (intV 0))) [2]])
(.seq (.seq (.reg [iM 4 0 [],
 iA 5 (.bin .eql (.t 4) (.k (.w (.c (.d (.lit (.string ⟨#[]⟩))))))) [4],
 iG 6 5 [5],
 iC 7 6 (.mov (.t 0)) [],
 iC 8 6 (.slen (.t 7)) [7],
 iC 9 6 (.bin .gtr (.t 8) (.k (intV 40))) [8],
 iA 10 (.pick (.t 6) (.k (boolV true)) (.t 9)) [6, 9, 8, 7]])
(.cond (.t 10)
(.seq (.reg [iA 2 (.mov (.k (intV 3))) [0, 10]])
(.ret))
(.skip)))
(.seq (.seq (.reg [iM 11 0 [2, 10],
 iA 12 (.slen (.t 11)) [11],
 iA 13 (.mov (.k (intV 0))) []])
(.block 0 (.loop [0, 12, 13] c_intern_Name_L0)))
(.seq (.reg [iA 2 (.mov (.k (intV 0))) [0, 12, 13]])
(.ret)))),
 [.tmp 2]⟩
def o_intern_Name : List (Nat × List Nat) := []
theorem c_intern_Name_ok : cFun Tryz.prog o_intern_Name 24 = some c_intern_Name.erase := by kernel_rfl

/- table_Col -/
def c_table_Col : AFun := ⟨.seq (.reg [iA 2 (.bx (.t 0)) [0],
 iA 3 (.bx (.t 1)) [1],
 iA 4 (.mov (.k (intV 0))) [4]])
(.seq (.reg [iA 5 (.fa 0 (.t 2)) [2],
 iA 6 (.ld false 1 (.t 5)) [5],
 iA 7 (.clof 46 [(.t 3)]) [3],
 iA 8 (.call 45 [(.t 6), (.t 7)]) [6, 7],
 iM 4 8 [8]])
(.ret)),
 [.tmp 4]⟩
def o_table_Col : List (Nat × List Nat) := [(1000001, [2])]
theorem c_table_Col_ok : cFun Tryz.prog o_table_Col 25 = some c_table_Col.erase := by kernel_rfl

/- column_Value -/
def c_column_Value : AFun := ⟨.seq (.reg [iA 3 (.bx (.t 1)) [1],
 iA 4 (.mov (.k (intV 0))) [4]])
(.seq (.reg [iM 6 0 [],
 iA 7 (.bin .eql (.t 6) (.k (intV 1))) [6],
 iG 8 7 [7],
 iC 9 8 (.mov (.t 0)) [],
 iC 10 8 (.bin .eql (.t 9) (.k (intV 2))) [9],
 iA 11 (.pick (.t 8) (.k (boolV true)) (.t 10)) [8, 10, 9],
 iG 12 11 [11],
 iC 13 12 (.mov (.t 0)) [],
 iC 14 12 (.bin .eql (.t 13) (.k (intV 3))) [13],
 iA 15 (.pick (.t 12) (.k (boolV true)) (.t 14)) [12, 14, 13],
 iM 5 15 [15]])
(.seq (.block 0 (.seq (.reg [iA 17 (.fa 0 (.t 3)) [],
 iA 18 (.ld false 1 (.t 17)) [17],
 iA 19 (.bin .neq (.t 18) (.k (intV 0))) [18],
 iG 20 19 [19],
 iB 21 20 (.fa 0 (.t 3)) [],
 iB 22 20 (.ld false 1 (.t 21)) [21],
 iN 23 20 0 [0],
 iB 24 20 (.bin .neq (.t 22) (.t 23)) [22, 23],
 ⟨(some 25), (some (20, true)), true, .mov (.t 24), [24]⟩,
 iC 26 25 (.mov (.t 5)) [5],
 iC 27 25 (.bnot (.t 26)) [26],
 iB 28 20 (.pick (.t 25) (.k (boolV true)) (.t 27)) [25, 27, 26, 5],
 iA 29 (.pick (.t 20) (.t 28) (.k (boolV false))) [20, 28, 25, 27, 26, 5, 24, 22, 23, 0, 21],
 iM 16 29 [29]])
(.cond (.t 16)
(.seq (.reg [iA 4 (.mov (.k (intV 14))) [3, 16]])
(.ret))
(.seq (.seq (.reg [iA 31 (.fa 0 (.t 3)) [16],
 iA 32 (.ld false 1 (.t 31)) [31],
 iA 33 (.bin .eql (.t 32) (.k (intV 1))) [32],
 iG 34 33 [33],
 iB 35 34 (.fa 1 (.t 3)) [],
 iB 36 34 (.ld false 1 (.t 35)) [35],
 iB 37 34 (.bin .neq (.t 36) (.k (intV 0))) [36],
 iA 38 (.pick (.t 34) (.t 37) (.k (boolV false))) [34, 37, 36, 35],
 iG 39 38 [38],
 iB 40 39 (.fa 1 (.t 3)) [],
 iB 41 39 (.ld false 1 (.t 40)) [40],
 iB 42 39 (.bin .neq (.t 41) (.k (intV 1))) [41],
 iA 43 (.pick (.t 39) (.t 42) (.k (boolV false))) [39, 42, 41, 40],
 iM 30 43 [43]])
(.cond (.t 30)
(.skip)
(.reg [iA 44 (.fa 0 (.t 3)) [30],
 iA 45 (.ld false 1 (.t 44)) [44],
 iA 46 (.bin .eql (.t 45) (.k (intV 2))) [45],
 iG 47 46 [46],
 iB 48 47 (.fa 1 (.t 3)) [],
 iB 49 47 (.ld false 1 (.t 48)) [48],
 iB 50 47 (.call 47 [(.t 49)]) [49],
 iB 51 47 (.bnot (.t 50)) [50],
 iA 52 (.pick (.t 47) (.t 51) (.k (boolV false))) [47, 51, 50, 49, 48],
 iM 30 52 [52]])))
(.cond (.t 30)
(.seq (.reg [iA 4 (.mov (.k (intV 2))) [3, 30]])
(.ret))
(.seq (.reg [iA 54 (.fa 0 (.t 3)) [30],
 iA 55 (.ld false 1 (.t 54)) [54],
 iA 56 (.bin .eql (.t 55) (.k (intV 3))) [55],
 iG 57 56 [56],
 iB 58 57 (.fa 2 (.t 3)) [],
 iB 59 57 (.ld false 1 (.t 58)) [58],
 iB 60 57 (.slen (.t 59)) [59],
 iB 61 57 (.bin .gtr (.t 60) (.k (intV 200))) [60],
 iA 62 (.pick (.t 57) (.t 61) (.k (boolV false))) [57, 61, 60, 59, 58],
 iM 53 62 [62]])
(.cond (.t 53)
(.seq (.reg [iA 4 (.mov (.k (intV 7))) [3, 53]])
(.ret))
(.seq (.seq (.reg [iA 64 (.fa 0 (.t 3)) [53],
 iA 65 (.ld false 1 (.t 64)) [64],
 iA 66 (.bin .neq (.t 65) (.k (intV 3))) [65],
 iG 67 66 [66],
 iB 68 67 (.fa 2 (.t 3)) [],
 iB 69 67 (.ld false 1 (.t 68)) [68],
 iB 70 67 (.bin .neq (.t 69) (.k (.w (.c (.d (.lit (.string ⟨#[]⟩))))))) [69],
 iA 71 (.pick (.t 67) (.t 70) (.k (boolV false))) [67, 70, 69, 68],
 iM 63 71 [71]])
(.cond (.t 63)
(.skip)
(.reg [iA 72 (.fa 0 (.t 3)) [63],
 iA 73 (.ld false 1 (.t 72)) [72],
 iA 74 (.bin .eql (.t 73) (.k (intV 0))) [73],
 iG 75 74 [74],
 iC 76 75 (.fa 0 (.t 3)) [],
 iC 77 75 (.ld false 1 (.t 76)) [76],
 iC 78 75 (.bin .eql (.t 77) (.k (intV 3))) [77],
 iA 79 (.pick (.t 75) (.k (boolV true)) (.t 78)) [75, 78, 77, 76],
 iG 80 79 [79],
 iB 81 80 (.fa 1 (.t 3)) [3],
 iB 82 80 (.ld false 1 (.t 81)) [81],
 iB 83 80 (.bin .neq (.t 82) (.k (intV 0))) [82],
 iA 84 (.pick (.t 80) (.t 83) (.k (boolV false))) [80, 83, 82, 81, 3],
 iM 63 84 [84]])))
(.cond (.t 63)
(.seq (.reg [iA 4 (.mov (.k (intV 1))) [3, 63]])
(.ret))
(.skip))))))))))
(.seq (.reg [iA 4 (.mov (.k (intV 0))) [3, 63, 0, 5]])
(.ret)))),
 [.tmp 4]⟩
def o_column_Value : List (Nat × List Nat) := []
theorem c_column_Value_ok : cFun Tryz.prog o_column_Value 26 = some c_column_Value.erase := by kernel_rfl

/- syntax_Step -/
def c_syntax_Step_L0 : ACode := (.seq (.reg [iA 40 (.bin .lss (.t 39) (.t 38)) []])
(.seq (.cond (.t 40)
(.skip)
(.exit 1))
(.seq (.block 2 (.seq (.reg [iA 41 (.ia 2 (.t 37) (.t 39)) [40],
 iA 42 (.ld true 2 (.t 41)) [41],
 iA 6 (.alloc [(.d (.lit (.string ⟨#[]⟩))), (.d (.lit (.bool false)))]) [],
 iE (.st 2 (.t 6) (.t 42)) [42]])
(.reg [iM 43 4 [4],
 iA 44 (.fa 0 (.t 6)) [6],
 iA 45 (.ld false 1 (.t 44)) [44],
 iA 46 (.lits 1 [(.t 45)]) [45],
 iA 47 (.app 1 16 (.t 43) (.t 46)) [43, 46],
 iM 4 47 [47]])))
(.reg [iA 48 (.bin .add (.t 39) (.k (intV 1))) [39, 40],
 iM 39 48 [48]]))))
def c_syntax_Step : AFun := ⟨.seq (.reg [iA 1 (.bx (.t 0)) [0],
 iA 2 (.mov (.k (intV 0))) [2]])
(.seq (.seq (.reg [iA 8 (.ld true 13 (.t 1)) [],
 iA 9 (.call 48 [(.t 8)]) [8],
 iA 10 (.bnot (.t 9)) [9]])
(.cond (.t 10)
(.seq (.reg [iA 2 (.mov (.k (intV 1))) [1, 10]])
(.ret))
(.skip)))
(.seq (.seq (.reg [iA 11 (.fa 0 (.t 1)) [2, 10],
 iA 12 (.ld false 1 (.t 11)) [11]])
(.block 0 (.seq (.reg [iA 14 (.bin .eql (.t 12) (.k (intV 1))) [],
 iM 13 14 [14]])
(.cond (.t 13)
(.seq (.reg [iA 15 (.fa 1 (.t 1)) [1, 12, 13],
 iA 16 (.ld true 6 (.t 15)) [15],
 iA 17 (.call 49 [(.t 16)]) [16],
 iM 2 17 [17]])
(.ret))
(.seq (.reg [iA 19 (.bin .eql (.t 12) (.k (intV 2))) [13],
 iM 18 19 [19]])
(.cond (.t 18)
(.seq (.seq (.reg [iA 20 (.fa 7 (.t 1)) [12, 18],
 iA 21 (.ld false 1 (.t 20)) [20],
 iA 22 (.len (.t 21)) [21],
 iA 23 (.call 50 [(.t 22), (.k (intV 1))]) [22],
 iM 3 23 [23]])
(.seq (.reg [iM 24 3 [],
 iA 25 (.bin .neq (.t 24) (.k (intV 0))) [24]])
(.cond (.t 25)
(.seq (.reg [iM 26 3 [1, 3, 25],
 iM 2 26 [26]])
(.ret))
(.skip))))
(.seq (.reg [iA 27 (.fa 7 (.t 1)) [2, 1, 3, 25],
 iA 28 (.ld false 1 (.t 27)) [27],
 iA 29 (.call 51 [(.t 28)]) [28],
 iM 2 29 [29]])
(.ret)))
(.seq (.reg [iA 31 (.bin .eql (.t 12) (.k (intV 3))) [18],
 iM 30 31 [31]])
(.cond (.t 30)
(.seq (.reg [iA 32 (.ld true 13 (.t 1)) [1, 12, 30],
 iA 33 (.call 52 [(.t 32)]) [32],
 iM 2 33 [33]])
(.ret))
(.seq (.reg [iA 35 (.bin .eql (.t 12) (.k (intV 4))) [30],
 iM 34 35 [35]])
(.cond (.t 34)
(.seq (.reg [iA 4 (.mov (.k (.w (.c .nil)))) [12, 34]])
(.seq (.seq (.reg [iA 36 (.fa 10 (.t 1)) [1],
 iA 37 (.ld false 1 (.t 36)) [36],
 iA 38 (.len (.t 37)) [],
 iA 39 (.mov (.k (intV 0))) []])
(.block 1 (.loop [4, 37, 38, 39] c_syntax_Step_L0)))
(.seq (.reg [iM 49 4 [37, 38, 4, 39],
 iA 50 (.call 53 [(.t 49), (.k (intV 1))]) [49],
 iM 2 50 [50]])
(.ret))))
(.seq (.reg [iA 52 (.bin .eql (.t 12) (.k (intV 5))) [34],
 iM 51 52 [52]])
(.cond (.t 51)
(.seq (.seq (.reg [iA 53 (.fa 11 (.t 1)) [12, 51],
 iA 54 (.ld false 1 (.t 53)) [53],
 iA 55 (.bin .lss (.t 54) (.k (intV 0))) [54],
 iG 56 55 [55],
 iC 57 56 (.fa 11 (.t 1)) [1],
 iC 58 56 (.ld false 1 (.t 57)) [57],
 iC 59 56 (.bin .gtr (.t 58) (.k (intV 20000))) [58],
 iA 60 (.pick (.t 56) (.k (boolV true)) (.t 59)) [56, 59, 58, 57, 1]])
(.cond (.t 60)
(.seq (.reg [iA 2 (.mov (.k (intV 2))) [60]])
(.ret))
(.skip)))
(.seq (.reg [iA 2 (.mov (.k (intV 0))) [60]])
(.ret)))
(.seq (.reg [iA 62 (.bin .eql (.t 12) (.k (intV 9))) [12, 51],
 iM 61 62 [62]])
(.cond (.t 61)
(.seq (.reg [iA 63 (.fa 8 (.t 1)) [1, 61],
 iA 64 (.ld false 1 (.t 63)) [63],
 iA 65 (.call 53 [(.t 64), (.k (intV 0))]) [64],
 iM 2 65 [65]])
(.ret))
(.skip)))))))))))))))
(.seq (.seq (.reg [iA 66 (.fa 12 (.t 1)) [2, 61, 12],
 iA 67 (.ld false 1 (.t 66)) [66],
 iA 68 (.call 54 [(.t 67)]) [67],
 iA 69 (.bnot (.t 68)) [68]])
(.cond (.t 69)
(.seq (.reg [iA 2 (.mov (.k (intV 3))) [1, 69]])
(.ret))
(.skip)))
(.seq (.reg [iA 7 (.mov (.k (intV 0))) [2, 69]])
(.seq (.seq (.reg [iA 70 (.fa 0 (.t 1)) [],
 iA 71 (.ld false 1 (.t 70)) [70],
 iA 72 (.bin .eql (.t 71) (.k (intV 6))) [71]])
(.cond (.t 72)
(.reg [iA 7 (.mov (.k (intV 1))) [72]])
(.skip)))
(.seq (.reg [iA 73 (.fa 8 (.t 1)) [1, 72],
 iA 74 (.ld false 1 (.t 73)) [73],
 iM 75 7 [7],
 iA 76 (.call 53 [(.t 74), (.t 75)]) [74, 75],
 iM 2 76 [76]])
(.ret))))))),
 [.tmp 2]⟩
def o_syntax_Step : List (Nat × List Nat) := []
theorem c_syntax_Step_ok : cFun Tryz.prog o_syntax_Step 27 = some c_syntax_Step.erase := by kernel_rfl

/- typing_node -/
def c_typing_node_L0 : ACode := (.seq (.reg [iA 16 (.bin .lss (.t 15) (.t 14)) []])
(.seq (.cond (.t 16)
(.skip)
(.exit 0))
(.seq (.block 1 (.seq (.reg [iA 17 (.ia 6 (.t 13) (.t 15)) [16],
 iA 18 (.ld true 6 (.t 17)) [17],
 iA 8 (.alloc [(.d (.lit (.int .i64 0))), (.d (.lit (.string ⟨#[]⟩))), (.d (.lit (.int .i64 0))), (.d (.lit (.int .i64 0))), (.d (.lit (.string ⟨#[]⟩))), .nil]) [],
 iE (.st 6 (.t 8) (.t 18)) [18]])
(.seq (.reg [iM 20 0 [],
 iA 21 (.ld true 6 (.t 8)) [8],
 iA 22 (.call 28 [(.t 20), (.t 21)]) [20, 21],
 iM 19 22 [22],
 iA 23 (.ext (.t 19) 0) [],
 iA 24 (.ext (.t 19) 1) [19],
 iM 9 23 [23],
 iM 10 24 [24]])
(.seq (.seq (.reg [iM 25 10 [],
 iA 26 (.bin .neq (.t 25) (.k (intV 0))) [25]])
(.cond (.t 26)
(.seq (.reg [iM 27 10 [0, 3, 6, 13, 14, 15, 9, 10, 26],
 iA 4 (.mov (.k (intV 0))) [],
 iM 5 27 [27]])
(.ret))
(.skip)))
(.reg [iM 28 6 [4, 5, 6, 10, 26],
 iM 29 9 [9],
 iA 30 (.lits 1 [(.t 29)]) [29],
 iA 31 (.app 1 8 (.t 28) (.t 30)) [28, 30],
 iM 6 31 [31]])))))
(.reg [iA 32 (.bin .add (.t 15) (.k (intV 1))) [15, 16],
 iM 15 32 [32]]))))
def c_typing_node : AFun := ⟨.seq (.reg [iA 3 (.bx (.t 1)) [1],
 iA 4 (.mov (.k (intV 0))) [4],
 iA 5 (.mov (.k (intV 0))) [5]])
(.seq (.reg [iA 6 (.mov (.k (.w (.c .nil)))) []])
(.seq (.seq (.reg [iA 12 (.fa 5 (.t 3)) [],
 iA 13 (.ld false 1 (.t 12)) [12],
 iA 14 (.len (.t 13)) [],
 iA 15 (.mov (.k (intV 0))) []])
(.block 0 (.loop [0, 3, 6, 13, 14, 15] c_typing_node_L0)))
(.seq (.seq (.reg [iA 33 (.fa 0 (.t 3)) [13, 14, 15],
 iA 34 (.ld false 1 (.t 33)) [33]])
(.block 2 (.seq (.reg [iA 36 (.bin .eql (.t 34) (.k (intV 1))) [],
 iM 35 36 [36]])
(.cond (.t 35)
(.seq (.reg [iA 37 (.fa 2 (.t 3)) [0, 3, 6, 34, 35],
 iA 38 (.fa 0 (.t 37)) [37],
 iA 39 (.ld false 1 (.t 38)) [38],
 iM 4 39 [39],
 iA 5 (.mov (.k (intV 0))) []])
(.ret))
(.seq (.reg [iA 41 (.bin .eql (.t 34) (.k (intV 2))) [35],
 iM 40 41 [41]])
(.cond (.t 40)
(.seq (.reg [iM 42 0 [6, 34, 40],
 iA 43 (.fa 1 (.t 3)) [3],
 iA 44 (.ld false 1 (.t 43)) [43],
 iA 45 (.call 32 [(.t 42), (.t 44)]) [42, 44],
 iM 11 45 [45]])
(.seq (.seq (.reg [iM 46 11 [],
 iA 47 (.bin .lss (.t 46) (.k (intV 0))) [46]])
(.cond (.t 47)
(.seq (.reg [iA 4 (.mov (.k (intV 0))) [0, 11, 47],
 iA 5 (.mov (.k (intV 16))) []])
(.ret))
(.skip)))
(.seq (.reg [iM 48 0 [4, 5, 0, 47],
 iM 49 11 [11],
 iA 50 (.ia 2 (.t 48) (.t 49)) [48, 49],
 iA 51 (.fa 1 (.t 50)) [50],
 iA 52 (.ld false 1 (.t 51)) [51],
 iM 4 52 [52],
 iA 5 (.mov (.k (intV 0))) []])
(.ret))))
(.seq (.seq (.reg [iA 54 (.bin .eql (.t 34) (.k (intV 3))) [0, 40],
 iM 53 54 [54]])
(.cond (.t 53)
(.skip)
(.seq (.reg [iA 55 (.bin .eql (.t 34) (.k (intV 14))) [53],
 iM 53 55 [55]])
(.cond (.t 53)
(.skip)
(.reg [iA 56 (.bin .eql (.t 34) (.k (intV 15))) [53],
 iM 53 56 [56]])))))
(.cond (.t 53)
(.seq (.reg [iM 57 6 [3, 6, 34, 53],
 iA 58 (.call 56 [(.t 57), (.k (intV 1))]) [57],
 iA 59 (.call 55 [(.t 58), (.k (intV 1))]) [58],
 iA 60 (.ext (.t 59) 0) [],
 iA 61 (.ext (.t 59) 1) [59],
 iM 4 60 [60],
 iM 5 61 [61]])
(.ret))
(.seq (.seq (.reg [iA 63 (.bin .eql (.t 34) (.k (intV 10))) [53],
 iM 62 63 [63]])
(.cond (.t 62)
(.skip)
(.reg [iA 64 (.bin .eql (.t 34) (.k (intV 11))) [62],
 iM 62 64 [64]])))
(.cond (.t 62)
(.seq (.reg [iM 65 6 [3, 34, 62],
 iA 66 (.ia 1 (.t 65) (.k (intV 0))) [65],
 iA 67 (.ld false 1 (.t 66)) [66],
 iM 68 6 [],
 iA 69 (.ia 1 (.t 68) (.k (intV 1))) [68],
 iA 70 (.ld false 1 (.t 69)) [69],
 iA 71 (.call 29 [(.t 67), (.t 70)]) [67, 70],
 iG 72 71 [71],
 iC 73 72 (.mov (.t 6)) [],
 iC 74 72 (.ia 1 (.t 73) (.k (intV 1))) [73],
 iC 75 72 (.ld false 1 (.t 74)) [74],
 iC 76 72 (.mov (.t 6)) [6],
 iC 77 72 (.ia 1 (.t 76) (.k (intV 0))) [76],
 iC 78 72 (.ld false 1 (.t 77)) [77],
 iC 79 72 (.call 29 [(.t 75), (.t 78)]) [75, 78],
 iA 80 (.pick (.t 72) (.k (boolV true)) (.t 79)) [72, 79, 75, 78, 77, 76, 6, 74, 73],
 iA 81 (.call 55 [(.t 80), (.k (intV 1))]) [80],
 iA 82 (.ext (.t 81) 0) [],
 iA 83 (.ext (.t 81) 1) [81],
 iM 4 82 [82],
 iM 5 83 [83]])
(.ret))
(.seq (.seq (.reg [iA 85 (.bin .eql (.t 34) (.k (intV 12))) [62],
 iM 84 85 [85]])
(.cond (.t 84)
(.skip)
(.reg [iA 86 (.bin .eql (.t 34) (.k (intV 13))) [84],
 iM 84 86 [86]])))
(.cond (.t 84)
(.seq (.reg [iM 87 6 [3, 34, 84],
 iA 88 (.call 56 [(.t 87), (.k (intV 2))]) [87],
 iG 89 88 [88],
 iC 90 89 (.mov (.t 6)) [6],
 iC 91 89 (.call 56 [(.t 90), (.k (intV 3))]) [90],
 iA 92 (.pick (.t 89) (.k (boolV true)) (.t 91)) [89, 91, 90, 6],
 iA 93 (.call 55 [(.t 92), (.k (intV 1))]) [92],
 iA 94 (.ext (.t 93) 0) [],
 iA 95 (.ext (.t 93) 1) [93],
 iM 4 94 [94],
 iM 5 95 [95]])
(.ret))
(.seq (.reg [iA 97 (.bin .eql (.t 34) (.k (intV 16))) [34, 84],
 iM 96 97 [97]])
(.cond (.t 96)
(.seq (.reg [iA 98 (.fa 1 (.t 3)) [3, 96],
 iA 99 (.ld false 1 (.t 98)) [98],
 iM 100 6 [6],
 iA 101 (.call 57 [(.t 99), (.t 100)]) [99, 100],
 iA 102 (.ext (.t 101) 0) [],
 iA 103 (.ext (.t 101) 1) [101],
 iM 4 102 [102],
 iM 5 103 [103]])
(.ret))
(.skip)))))))))))))))
(.seq (.reg [iM 104 6 [4, 5, 3, 6, 96, 0, 34],
 iA 105 (.call 56 [(.t 104), (.k (intV 2))]) [104],
 iA 106 (.call 55 [(.t 105), (.k (intV 2))]) [105],
 iA 107 (.ext (.t 106) 0) [],
 iA 108 (.ext (.t 106) 1) [106],
 iM 4 107 [107],
 iM 5 108 [108]])
(.ret))))),
 [.tmp 4, .tmp 5]⟩
def o_typing_node : List (Nat × List Nat) := [(24, [0, 1, 2, 3, 4, 5, 6, 7, 8, 9, 10, 11, 12, 13, 14, 15, 16, 17, 18, 19, 20])]
theorem c_typing_node_ok : cFun Tryz.prog o_typing_node 28 = some c_typing_node.erase := by kernel_rfl

/- typing_fits -/
def c_typing_fits : AFun := ⟨.seq (.reg [iA 4 (.mov (.k (boolV false))) [4]])
(.seq (.reg [iM 5 0 [],
 iM 6 1 [1],
 iA 7 (.bin .eql (.t 5) (.t 6)) [5, 6],
 iG 8 7 [7],
 iC 9 8 (.mov (.t 0)) [0],
 iC 10 8 (.bin .eql (.t 9) (.k (intV 0))) [9],
 iA 11 (.pick (.t 8) (.k (boolV true)) (.t 10)) [8, 10, 9, 0],
 iM 4 11 [11]])
(.ret)),
 [.tmp 4]⟩
def o_typing_fits : List (Nat × List Nat) := []
theorem c_typing_fits_ok : cFun Tryz.prog o_typing_fits 29 = some c_typing_fits.erase := by kernel_rfl

/- typing_grouped -/
def c_typing_grouped_L0 : ACode := (.seq (.reg [iA 27 (.bin .lss (.t 26) (.t 25)) []])
(.seq (.cond (.t 27)
(.skip)
(.exit 0))
(.seq (.block 1 (.seq (.reg [iA 28 (.ia 3 (.t 24) (.t 26)) [27],
 iA 29 (.ld true 3 (.t 28)) [28],
 iA 9 (.alloc [(.d (.lit (.string ⟨#[]⟩))), (.d (.lit (.string ⟨#[]⟩))), (.d (.lit (.string ⟨#[]⟩)))]) [],
 iE (.st 3 (.t 9) (.t 29)) [29]])
(.seq (.reg [iA 30 (.fa 2 (.t 9)) [],
 iA 31 (.ld false 1 (.t 30)) [30],
 iA 32 (.build [(.d (.lit (.string ⟨#[]⟩))), (.d (.lit (.int .i64 0)))] [(0, 1, (.t 31)), (1, 1, (.k (intV 2)))]) [31],
 iA 10 (.alloc [(.d (.lit (.string ⟨#[]⟩))), (.d (.lit (.int .i64 0)))]) [],
 iE (.st 2 (.t 10) (.t 32)) [32]])
(.seq (.seq (.reg [iA 33 (.fa 0 (.t 9)) [],
 iA 34 (.ld false 1 (.t 33)) [33],
 iA 35 (.bin .neq (.t 34) (.k (.w (.c (.d (.lit (.string ⟨#[99, 111, 117, 110, 116]⟩))))))) [34]])
(.cond (.t 35)
(.seq (.reg [iM 37 0 [35],
 iA 38 (.fa 1 (.t 9)) [],
 iA 39 (.ld false 1 (.t 38)) [38],
 iA 40 (.lits 1 [(.t 39)]) [39],
 iA 41 (.call 58 [(.t 37), (.t 40)]) [37, 40],
 iM 36 41 [41],
 iA 42 (.ext (.t 36) 0) [],
 iA 43 (.ext (.t 36) 1) [36],
 iM 11 42 [42],
 iM 12 43 [43]])
(.seq (.seq (.reg [iM 44 12 [],
 iA 45 (.bin .neq (.t 44) (.k (intV 0))) [44]])
(.cond (.t 45)
(.seq (.reg [iM 46 12 [0, 6, 24, 25, 26, 9, 10, 11, 12, 45],
 iA 4 (.mov (.k (.w (.c .nil)))) [],
 iM 5 46 [46]])
(.ret))
(.skip)))
(.seq (.seq (.reg [iA 47 (.fa 0 (.t 9)) [4, 5, 9, 12, 45],
 iA 48 (.ld false 1 (.t 47)) [47],
 iA 49 (.bin .eql (.t 48) (.k (.w (.c (.d (.lit (.string ⟨#[115, 117, 109]⟩))))))) [48],
 iG 50 49 [49],
 iN 51 50 11 [],
 iB 52 50 (.ia 2 (.t 51) (.k (intV 0))) [51],
 iB 53 50 (.fa 1 (.t 52)) [52],
 iB 54 50 (.ld false 1 (.t 53)) [53],
 iB 55 50 (.bin .neq (.t 54) (.k (intV 2))) [54],
 iA 56 (.pick (.t 50) (.t 55) (.k (boolV false))) [50, 55, 54, 53, 52, 51]])
(.cond (.t 56)
(.seq (.reg [iA 4 (.mov (.k (.w (.c .nil)))) [0, 6, 24, 25, 26, 10, 11, 56],
 iA 5 (.mov (.k (intV 14))) []])
(.ret))
(.skip)))
(.reg [iM 57 11 [4, 5, 11, 56],
 iA 58 (.ia 2 (.t 57) (.k (intV 0))) [57],
 iA 59 (.fa 1 (.t 58)) [58],
 iA 60 (.ld false 1 (.t 59)) [59],
 iA 61 (.fa 1 (.t 10)) [],
 iE (.st 1 (.t 61) (.t 60)) [60, 61]]))))
(.skip)))
(.reg [iM 62 6 [6, 9, 35],
 iA 63 (.ld true 2 (.t 10)) [10],
 iA 64 (.lits 2 [(.t 63)]) [63],
 iA 65 (.app 2 24 (.t 62) (.t 64)) [62, 64],
 iM 6 65 [65]])))))
(.reg [iA 66 (.bin .add (.t 26) (.k (intV 1))) [26, 27],
 iM 26 66 [66]]))))
def c_typing_grouped : AFun := ⟨.seq (.reg [iA 3 (.bx (.t 1)) [1],
 iA 4 (.mov (.k (.w (.c .nil)))) [4],
 iA 5 (.mov (.k (intV 0))) [5]])
(.seq (.reg [iM 14 0 [],
 iA 15 (.fa 8 (.t 3)) [],
 iA 16 (.ld false 1 (.t 15)) [15],
 iA 17 (.call 58 [(.t 14), (.t 16)]) [14, 16],
 iM 13 17 [17],
 iA 18 (.ext (.t 13) 0) [],
 iA 19 (.ext (.t 13) 1) [13],
 iM 6 18 [18],
 iM 7 19 [19]])
(.seq (.seq (.reg [iM 20 7 [],
 iA 21 (.bin .neq (.t 20) (.k (intV 0))) [20]])
(.cond (.t 21)
(.seq (.reg [iM 22 7 [0, 3, 6, 7, 21],
 iA 4 (.mov (.k (.w (.c .nil)))) [],
 iM 5 22 [22]])
(.ret))
(.skip)))
(.seq (.seq (.reg [iA 23 (.fa 9 (.t 3)) [4, 5, 3, 7, 21],
 iA 24 (.ld false 1 (.t 23)) [23],
 iA 25 (.len (.t 24)) [],
 iA 26 (.mov (.k (intV 0))) []])
(.block 0 (.loop [0, 6, 24, 25, 26] c_typing_grouped_L0)))
(.seq (.reg [iM 67 6 [0, 24, 25, 6, 26],
 iM 4 67 [67],
 iA 5 (.mov (.k (intV 0))) []])
(.ret))))),
 [.tmp 4, .tmp 5]⟩
def o_typing_grouped : List (Nat × List Nat) := []
theorem c_typing_grouped_ok : cFun Tryz.prog o_typing_grouped 31 = some c_typing_grouped.erase := by kernel_rfl

/- typing_column -/
def c_typing_column : AFun := ⟨.seq (.reg [iA 3 (.bx (.t 1)) [1],
 iA 4 (.mov (.k (intV 0))) [4]])
(.seq (.reg [iM 5 0 [0],
 iA 6 (.clof 59 [(.t 3)]) [3],
 iA 7 (.call 45 [(.t 5), (.t 6)]) [5, 6],
 iM 4 7 [7]])
(.ret)),
 [.tmp 4]⟩
def o_typing_column : List (Nat × List Nat) := [(1000001, [1])]
theorem c_typing_column_ok : cFun Tryz.prog o_typing_column 32 = some c_typing_column.erase := by kernel_rfl

/- typing_joined -/
def c_typing_joined_L0 : ACode := (.seq (.reg [iA 49 (.bin .lss (.t 48) (.t 47)) []])
(.seq (.cond (.t 49)
(.skip)
(.exit 1))
(.seq (.block 2 (.seq (.reg [iA 50 (.ia 1 (.t 46) (.t 48)) [49],
 iA 51 (.ld false 1 (.t 50)) [50],
 iM 12 51 [51]])
(.seq (.reg [iM 52 1 [],
 iM 53 12 [],
 iA 55 (.fa 0 (.t 8)) [],
 iA 56 (.ld false 1 (.t 55)) [55],
 iM 57 12 [12],
 iA 54 (.call 32 [(.t 52), (.t 53)]) [52, 53],
 iA 58 (.call 32 [(.t 56), (.t 57)]) [56, 57],
 iM 13 54 [54],
 iM 14 58 [58]])
(.block 3 (.seq (.reg [iM 60 13 [],
 iA 61 (.bin .lss (.t 60) (.k (intV 0))) [60],
 iG 62 61 [61],
 iC 63 62 (.mov (.t 14)) [],
 iC 64 62 (.bin .lss (.t 63) (.k (intV 0))) [63],
 iA 65 (.pick (.t 62) (.k (boolV true)) (.t 64)) [62, 64, 63],
 iM 59 65 [65]])
(.cond (.t 59)
(.seq (.reg [iA 6 (.mov (.k (.w (.c .nil)))) [1, 5, 8, 10, 46, 47, 48, 13, 14, 59],
 iA 7 (.mov (.k (intV 16))) []])
(.ret))
(.seq (.reg [iM 67 1 [59],
 iM 68 13 [13],
 iA 69 (.ia 2 (.t 67) (.t 68)) [67, 68],
 iA 70 (.fa 1 (.t 69)) [69],
 iA 71 (.ld false 1 (.t 70)) [70],
 iA 72 (.fa 0 (.t 8)) [],
 iA 73 (.ld false 1 (.t 72)) [72],
 iM 74 14 [14],
 iA 75 (.ia 2 (.t 73) (.t 74)) [73, 74],
 iA 76 (.fa 1 (.t 75)) [75],
 iA 77 (.ld false 1 (.t 76)) [76],
 iA 78 (.bin .neq (.t 71) (.t 77)) [71, 77],
 iM 66 78 [78]])
(.cond (.t 66)
(.seq (.reg [iA 6 (.mov (.k (.w (.c .nil)))) [1, 5, 8, 10, 46, 47, 48, 66],
 iA 7 (.mov (.k (intV 14))) []])
(.ret))
(.skip)))))))))
(.reg [iA 79 (.bin .add (.t 48) (.k (intV 1))) [6, 7, 48, 66, 13, 14, 49],
 iM 48 79 [79]]))))
def c_typing_joined_L1 : ACode := (.seq (.reg [iA 92 (.bin .lss (.t 91) (.t 90)) []])
(.seq (.cond (.t 92)
(.skip)
(.exit 6))
(.seq (.block 7 (.seq (.reg [iA 93 (.ia 1 (.t 89) (.t 91)) [92],
 iA 94 (.ld false 1 (.t 93)) [93],
 iM 18 94 [94]])
(.seq (.reg [iM 95 16 [],
 iM 96 18 [18],
 iA 97 (.call 61 [(.t 95), (.t 96)]) [95, 96],
 iM 19 97 [97]])
(.seq (.reg [iM 98 19 [],
 iA 99 (.bin .neq (.t 98) (.k (intV 0))) [98]])
(.cond (.t 99)
(.seq (.reg [iM 100 19 [1, 5, 8, 10, 16, 83, 84, 85, 89, 90, 91, 19, 99],
 iA 6 (.mov (.k (.w (.c .nil)))) [],
 iM 7 100 [100]])
(.ret))
(.skip))))))
(.reg [iA 101 (.bin .add (.t 91) (.k (intV 1))) [6, 7, 91, 19, 99, 92],
 iM 91 101 [101]]))))
def c_typing_joined_L2 : ACode := (.seq (.reg [iA 86 (.bin .lss (.t 85) (.t 84)) []])
(.seq (.cond (.t 86)
(.skip)
(.exit 4))
(.seq (.block 5 (.seq (.reg [iA 87 (.ia 1 (.t 83) (.t 85)) [86],
 iA 88 (.ld false 1 (.t 87)) [87],
 iM 16 88 [88]])
(.seq (.reg [iM 89 10 [],
 iA 90 (.len (.t 89)) [],
 iA 91 (.mov (.k (intV 0))) []])
(.block 6 (.loop [1, 5, 8, 10, 16, 83, 84, 85, 89, 90, 91] c_typing_joined_L1)))))
(.reg [iA 102 (.bin .add (.t 85) (.k (intV 1))) [16, 85, 89, 90, 91, 86],
 iM 85 102 [102]]))))
def c_typing_joined_L3 : ACode := (.seq (.reg [iA 109 (.bin .lss (.t 108) (.t 107)) []])
(.seq (.cond (.t 109)
(.skip)
(.exit 8))
(.seq (.block 9 (.seq (.reg [iA 110 (.ia 2 (.t 106) (.t 108)) [109],
 iA 111 (.ld true 2 (.t 110)) [110],
 iA 22 (.alloc [(.d (.lit (.string ⟨#[]⟩))), (.d (.lit (.int .i64 0)))]) [],
 iE (.st 2 (.t 22) (.t 111)) [111]])
(.seq (.reg [iA 112 (.fa 8 (.t 5)) [],
 iA 113 (.ld false 1 (.t 112)) [112],
 iA 114 (.fa 0 (.t 22)) [],
 iA 115 (.ld false 1 (.t 114)) [114],
 iA 116 (.call 60 [(.t 113), (.t 115)]) [113, 115],
 iA 117 (.bnot (.t 116)) [116],
 iG 118 117 [117],
 iN 119 118 10 [],
 iB 120 118 (.fa 0 (.t 22)) [],
 iB 121 118 (.ld false 1 (.t 120)) [120],
 iB 122 118 (.call 60 [(.t 119), (.t 121)]) [119, 121],
 iB 123 118 (.bnot (.t 122)) [122],
 iA 124 (.pick (.t 118) (.t 123) (.k (boolV false))) [118, 123, 122, 119, 121, 120]])
(.cond (.t 124)
(.reg [iM 125 20 [20, 124],
 iA 126 (.ld true 2 (.t 22)) [22],
 iA 127 (.lits 2 [(.t 126)]) [126],
 iA 128 (.app 2 24 (.t 125) (.t 127)) [125, 127],
 iM 20 128 [128]])
(.skip)))))
(.reg [iA 129 (.bin .add (.t 108) (.k (intV 1))) [108, 22, 124, 109],
 iM 108 129 [129]]))))
def c_typing_joined_L4 : ACode := (.seq (.reg [iA 133 (.bin .lss (.t 132) (.t 131)) []])
(.seq (.cond (.t 133)
(.skip)
(.exit 10))
(.seq (.block 11 (.seq (.reg [iM 134 132 [133],
 iA 135 (.ia 2 (.t 130) (.t 132)) [],
 iA 136 (.ld true 2 (.t 135)) [135],
 iA 24 (.alloc [(.d (.lit (.string ⟨#[]⟩))), (.d (.lit (.int .i64 0)))]) [],
 iM 23 134 [134],
 iE (.st 2 (.t 24) (.t 136)) [136]])
(.seq (.reg [iM 137 20 [],
 iM 138 23 [23],
 iA 139 (.sli 2 (.t 137) none (some (.t 138))) [137, 138],
 iA 140 (.fa 0 (.t 24)) [24],
 iA 141 (.ld false 1 (.t 140)) [140],
 iA 142 (.call 32 [(.t 139), (.t 141)]) [139, 141],
 iA 143 (.bin .geq (.t 142) (.k (intV 0))) [142]])
(.cond (.t 143)
(.seq (.reg [iA 6 (.mov (.k (.w (.c .nil)))) [20, 130, 131, 132, 143],
 iA 7 (.mov (.k (intV 4))) []])
(.ret))
(.skip)))))
(.reg [iA 144 (.bin .add (.t 132) (.k (intV 1))) [6, 7, 132, 143, 133],
 iM 132 144 [144]]))))
def c_typing_joined : AFun := ⟨.seq (.reg [iA 5 (.bx (.t 2)) [2],
 iA 6 (.mov (.k (.w (.c .nil)))) [6],
 iA 7 (.mov (.k (intV 0))) [7]])
(.seq (.reg [iM 26 0 [0],
 iA 27 (.fa 12 (.t 5)) [],
 iA 28 (.ld false 1 (.t 27)) [27],
 iA 29 (.call 23 [(.t 26), (.t 28)]) [26, 28],
 iM 25 29 [29],
 iA 30 (.ext (.t 25) 0) [],
 iA 31 (.ext (.t 25) 1) [25],
 iA 8 (.alloc [.nil, .nil]) [],
 iE (.st 2 (.t 8) (.t 30)) [30],
 iM 9 31 [31]])
(.seq (.seq (.reg [iM 32 9 [9],
 iA 33 (.bnot (.t 32)) [32]])
(.cond (.t 33)
(.seq (.reg [iA 6 (.mov (.k (.w (.c .nil)))) [1, 5, 8, 33],
 iA 7 (.mov (.k (intV 17))) []])
(.ret))
(.skip)))
(.seq (.reg [iA 10 (.mov (.k (.w (.c .nil)))) [6, 7, 33]])
(.seq (.seq (.reg [iA 34 (.fa 0 (.t 5)) [],
 iA 35 (.ld false 1 (.t 34)) [34]])
(.block 0 (.seq (.reg [iA 37 (.bin .eql (.t 35) (.k (intV 7))) [],
 iM 36 37 [37]])
(.cond (.t 36)
(.reg [iA 38 (.lits 1 [(.k (.w (.c (.d (.lit (.string ⟨#[102, 114, 111, 109]⟩)))))), (.k (.w (.c (.d (.lit (.string ⟨#[116, 111]⟩))))))]) [10, 35, 36],
 iM 10 38 [38]])
(.seq (.reg [iA 40 (.bin .eql (.t 35) (.k (intV 8))) [35, 36],
 iM 39 40 [40]])
(.cond (.t 39)
(.reg [iA 41 (.lits 1 [(.k (.w (.c (.d (.lit (.string ⟨#[102, 114, 111, 109]⟩))))))]) [10, 39],
 iM 10 41 [41]])
(.skip)))))))
(.seq (.seq (.reg [iM 42 10 [39, 35],
 iA 43 (.clof 63 [(.t 5)]) [],
 iA 44 (.call 62 [(.t 42), (.t 43)]) [42, 43]])
(.cond (.t 44)
(.seq (.reg [iA 6 (.mov (.k (.w (.c .nil)))) [1, 5, 8, 10, 44],
 iA 7 (.mov (.k (intV 4))) []])
(.ret))
(.skip)))
(.seq (.seq (.reg [iA 45 (.fa 8 (.t 5)) [6, 7, 44],
 iA 46 (.ld false 1 (.t 45)) [45],
 iA 47 (.len (.t 46)) [],
 iA 48 (.mov (.k (intV 0))) []])
(.block 1 (.loop [1, 5, 8, 10, 46, 47, 48] c_typing_joined_L0)))
(.seq (.seq (.reg [iM 80 1 [46, 47, 48],
 iA 81 (.fa 0 (.t 8)) [],
 iA 82 (.ld false 1 (.t 81)) [81],
 iA 83 (.lits 1 [(.t 80), (.t 82)]) [80, 82],
 iA 84 (.len (.t 83)) [],
 iA 85 (.mov (.k (intV 0))) []])
(.block 4 (.loop [1, 5, 8, 10, 83, 84, 85] c_typing_joined_L2)))
(.seq (.reg [iM 103 1 [1, 83, 84, 85],
 iA 104 (.call 35 [(.t 103)]) [103],
 iM 20 104 [104]])
(.seq (.seq (.reg [iA 105 (.fa 0 (.t 8)) [8],
 iA 106 (.ld false 1 (.t 105)) [105],
 iA 107 (.len (.t 106)) [],
 iA 108 (.mov (.k (intV 0))) []])
(.block 8 (.loop [5, 10, 20, 106, 107, 108] c_typing_joined_L3)))
(.seq (.seq (.reg [iM 130 20 [5, 10, 106, 107, 108],
 iA 131 (.len (.t 130)) [],
 iA 132 (.mov (.k (intV 0))) []])
(.block 10 (.loop [20, 130, 131, 132] c_typing_joined_L4)))
(.seq (.seq (.reg [iM 145 20 [130, 131, 132],
 iA 146 (.len (.t 145)) [145],
 iA 147 (.bin .gtr (.t 146) (.k (intV 32))) [146]])
(.cond (.t 147)
(.seq (.reg [iA 6 (.mov (.k (.w (.c .nil)))) [20, 147],
 iA 7 (.mov (.k (intV 7))) []])
(.ret))
(.skip)))
(.seq (.reg [iM 148 20 [6, 7, 20, 147],
 iM 6 148 [148],
 iA 7 (.mov (.k (intV 0))) []])
(.ret))))))))))))),
 [.tmp 6, .tmp 7]⟩
def o_typing_joined : List (Nat × List Nat) := [(1000010, [1]), (15, [0, 1, 3, 4, 5, 2, 6, 7, 8]), (18, [0, 1, 2, 3, 4, 5, 6, 7, 8, 9, 10, 11, 12]), (42, [0, 1, 2, 3, 4, 5, 6])]
theorem c_typing_joined_ok : cFun Tryz.prog o_typing_joined 34 = some c_typing_joined.erase := by kernel_rfl

/- slices_Clone_Column -/
def c_slices_Clone_Column : AFun := ⟨.seq (.reg [iA 2 (.mov (.k (.w (.c .nil)))) [2]])
(.seq (.seq (.reg [iM 3 0 [],
 iA 4 (.isn false (.t 3)) [3]])
(.cond (.t 4)
(.seq (.reg [iA 2 (.mov (.k (.w (.c .nil)))) [0, 4]])
(.ret))
(.skip)))
(.seq (.reg [iA 5 (.lits 2 []) [2, 4],
 iM 6 0 [0],
 iA 7 (.app 2 24 (.t 5) (.t 6)) [5, 6],
 iM 2 7 [7]])
(.ret))),
 [.tmp 2]⟩
def o_slices_Clone_Column : List (Nat × List Nat) := []
theorem c_slices_Clone_Column_ok : cFun Tryz.prog o_slices_Clone_Column 35 = some c_slices_Clone_Column.erase := by kernel_rfl

/- naive_rows -/
def c_naive_rows_L0 : ACode := (.seq (.reg [iA 26 (.bin .lss (.t 25) (.t 24)) []])
(.seq (.cond (.t 26)
(.skip)
(.exit 1))
(.seq (.block 2 (.seq (.reg [iA 27 (.ia 1 (.t 23) (.t 25)) [26],
 iA 28 (.ld false 1 (.t 27)) [27],
 iM 10 28 [28]])
(.seq (.reg [iA 29 (.fa 0 (.t 4)) [],
 iA 30 (.ld false 1 (.t 29)) [29],
 iM 31 10 [],
 iA 32 (.fa 1 (.t 5)) [],
 iA 33 (.ld true 6 (.t 32)) [32],
 iA 34 (.call 82 [(.t 30), (.t 31), (.t 33)]) [30, 31, 33]])
(.cond (.t 34)
(.reg [iM 35 8 [8, 34],
 iM 36 10 [10],
 iA 37 (.lits 1 [(.t 36)]) [36],
 iA 38 (.app 1 24 (.t 35) (.t 37)) [35, 37],
 iM 8 38 [38]])
(.skip)))))
(.reg [iA 39 (.bin .add (.t 25) (.k (intV 1))) [25, 10, 34, 26],
 iM 25 39 [39]]))))
def c_naive_rows_L1 : ACode := (.seq (.reg [iA 53 (.bin .lss (.t 52) (.t 51)) []])
(.seq (.cond (.t 53)
(.skip)
(.exit 5))
(.seq (.block 6 (.seq (.reg [iA 54 (.ia 7 (.t 50) (.t 52)) [53],
 iA 55 (.ld true 7 (.t 54)) [54],
 iA 15 (.alloc [(.d (.lit (.int .i64 0))), (.d (.lit (.string ⟨#[]⟩))), (.d (.lit (.int .i64 0))), (.d (.lit (.int .i64 0))), (.d (.lit (.string ⟨#[]⟩))), .nil, (.d (.lit (.string ⟨#[]⟩)))]) [],
 iE (.st 7 (.t 15) (.t 55)) [55]])
(.reg [iM 56 13 [13],
 iA 57 (.fa 0 (.t 4)) [],
 iA 58 (.ld false 1 (.t 57)) [57],
 iM 59 12 [],
 iA 60 (.fa 0 (.t 15)) [15],
 iA 61 (.ld true 6 (.t 60)) [60],
 iA 62 (.call 83 [(.t 58), (.t 59), (.t 61)]) [58, 59, 61],
 iA 63 (.lits 3 [(.t 62)]) [62],
 iA 64 (.app 3 32 (.t 56) (.t 63)) [56, 63],
 iM 13 64 [64]])))
(.reg [iA 65 (.bin .add (.t 52) (.k (intV 1))) [52, 53],
 iM 52 65 [65]]))))
def c_naive_rows_L2 : ACode := (.seq (.reg [iA 46 (.bin .lss (.t 45) (.t 44)) []])
(.seq (.cond (.t 46)
(.skip)
(.exit 3))
(.seq (.block 4 (.seq (.reg [iA 47 (.ia 1 (.t 43) (.t 45)) [46],
 iA 48 (.ld false 1 (.t 47)) [47],
 iM 12 48 [48]])
(.seq (.reg [iA 13 (.mov (.k (.w (.c .nil)))) []])
(.seq (.seq (.reg [iA 49 (.fa 7 (.t 5)) [],
 iA 50 (.ld false 1 (.t 49)) [49],
 iA 51 (.len (.t 50)) [],
 iA 52 (.mov (.k (intV 0))) []])
(.block 5 (.loop [4, 5, 8, 12, 13, 43, 44, 45, 50, 51, 52] c_naive_rows_L1)))
(.reg [iM 66 8 [8, 12, 50, 51, 52],
 iM 67 13 [13],
 iA 68 (.lits 1 [(.t 67)]) [67],
 iA 69 (.app 1 24 (.t 66) (.t 68)) [66, 68],
 iM 8 69 [69]])))))
(.reg [iA 70 (.bin .add (.t 45) (.k (intV 1))) [45, 46],
 iM 45 70 [70]]))))
def c_naive_rows : AFun := ⟨.seq (.reg [iA 4 (.bx (.t 1)) [1],
 iA 5 (.bx (.t 2)) [2],
 iA 6 (.mov (.k (.w (.c .nil)))) [6],
 iA 7 (.mov (.k (boolV false))) [7]])
(.seq (.reg [iA 8 (.mov (.k (.w (.c .nil)))) []])
(.seq (.seq (.reg [iA 18 (.fa 0 (.t 5)) [],
 iA 19 (.ld false 1 (.t 18)) [18]])
(.block 0 (.seq (.reg [iA 21 (.bin .eql (.t 19) (.k (intV 1))) [],
 iM 20 21 [21]])
(.cond (.t 20)
(.seq (.reg [iA 22 (.fa 1 (.t 4)) [0, 19, 20],
 iA 23 (.ld false 1 (.t 22)) [22],
 iA 24 (.len (.t 23)) [],
 iA 25 (.mov (.k (intV 0))) []])
(.block 1 (.loop [4, 5, 8, 23, 24, 25] c_naive_rows_L0)))
(.seq (.reg [iA 41 (.bin .eql (.t 19) (.k (intV 2))) [20],
 iM 40 41 [41]])
(.cond (.t 40)
(.seq (.reg [iA 42 (.fa 1 (.t 4)) [0, 19, 40],
 iA 43 (.ld false 1 (.t 42)) [42],
 iA 44 (.len (.t 43)) [],
 iA 45 (.mov (.k (intV 0))) []])
(.block 3 (.loop [4, 5, 8, 43, 44, 45] c_naive_rows_L2)))
(.seq (.reg [iA 72 (.bin .eql (.t 19) (.k (intV 3))) [40],
 iM 71 72 [72]])
(.cond (.t 71)
(.seq (.reg [iA 73 (.ld true 2 (.t 4)) [0, 4, 8, 19, 71],
 iA 74 (.ld true 13 (.t 5)) [5],
 iA 75 (.call 84 [(.t 73), (.t 74)]) [73, 74],
 iM 6 75 [75],
 iA 7 (.mov (.k (boolV true))) []])
(.ret))
(.seq (.reg [iA 77 (.bin .eql (.t 19) (.k (intV 5))) [71],
 iM 76 77 [77]])
(.cond (.t 76)
(.seq (.reg [iA 78 (.fa 1 (.t 4)) [0, 8, 19, 76],
 iA 79 (.ld false 1 (.t 78)) [78],
 iA 80 (.fa 11 (.t 5)) [5],
 iA 81 (.ld false 1 (.t 80)) [80],
 iA 82 (.fa 1 (.t 4)) [4],
 iA 83 (.ld false 1 (.t 82)) [82],
 iA 84 (.len (.t 83)) [83],
 iA 85 (.mm false (.t 81) (.t 84)) [81, 84],
 iA 86 (.sli 1 (.t 79) none (some (.t 85))) [79, 85],
 iM 6 86 [86],
 iA 7 (.mov (.k (boolV true))) []])
(.ret))
(.seq (.reg [iA 88 (.bin .eql (.t 19) (.k (intV 6))) [19, 76],
 iM 87 88 [88]])
(.cond (.t 87)
(.seq (.reg [iM 90 0 [0, 8, 87],
 iA 91 (.fa 12 (.t 5)) [],
 iA 92 (.ld false 1 (.t 91)) [91],
 iA 93 (.call 23 [(.t 90), (.t 92)]) [90, 92],
 iM 89 93 [93],
 iA 94 (.ext (.t 89) 0) [],
 iA 95 (.ext (.t 89) 1) [89],
 iA 16 (.alloc [.nil, .nil]) [],
 iE (.st 2 (.t 16) (.t 94)) [94],
 iM 17 95 [95, 17]])
(.seq (.reg [iA 96 (.ld true 2 (.t 4)) [4],
 iA 97 (.ld true 2 (.t 16)) [16],
 iA 98 (.fa 8 (.t 5)) [5],
 iA 99 (.ld false 1 (.t 98)) [98],
 iA 100 (.call 85 [(.t 96), (.t 97), (.t 99)]) [96, 97, 99],
 iA 101 (.ext (.t 100) 0) [],
 iA 102 (.ext (.t 100) 1) [100],
 iM 6 101 [101],
 iM 7 102 [102]])
(.ret)))
(.skip)))))))))))))
(.seq (.reg [iM 103 8 [4, 5, 23, 24, 8, 25, 43, 44, 45, 6, 7, 0, 87, 19],
 iM 6 103 [103],
 iA 7 (.mov (.k (boolV true))) []])
(.ret)))),
 [.tmp 6, .tmp 7]⟩
def o_naive_rows : List (Nat × List Nat) := []
theorem c_naive_rows_ok : cFun Tryz.prog o_naive_rows 40 = some c_naive_rows.erase := by kernel_rfl

/- ref33_Same -/
def c_ref33_Same_L0 : ACode := (.seq (.seq (.reg [iM 11 5 [],
 iM 12 0 [],
 iA 13 (.len (.t 12)) [12],
 iA 14 (.bin .lss (.t 11) (.t 13)) [11, 13]])
(.cond (.t 14)
(.skip)
(.exit 0)))
(.seq (.block 1 (.seq (.reg [iM 17 0 [14],
 iM 18 5 [],
 iA 19 (.ia 3 (.t 17) (.t 18)) [17, 18],
 iA 20 (.ld true 3 (.t 19)) [19],
 iM 21 1 [],
 iM 22 5 [],
 iA 23 (.ia 3 (.t 21) (.t 22)) [21, 22],
 iA 24 (.ld true 3 (.t 23)) [23],
 iA 25 (.eqa true [0, 0, 1] (.t 20) (.t 24)) [20, 24]])
(.cond (.t 25)
(.seq (.reg [iA 4 (.mov (.k (boolV false))) [0, 1, 5, 25]])
(.ret))
(.skip))))
(.reg [iM 15 5 [4, 5, 25, 14],
 iA 16 (.bin .add (.t 15) (.k (intV 1))) [15],
 iM 5 16 [16]])))
def c_ref33_Same : AFun := ⟨.seq (.reg [iA 4 (.mov (.k (boolV false))) [4]])
(.seq (.seq (.reg [iM 6 0 [],
 iA 7 (.len (.t 6)) [6],
 iM 8 1 [],
 iA 9 (.len (.t 8)) [8],
 iA 10 (.bin .neq (.t 7) (.t 9)) [7, 9]])
(.cond (.t 10)
(.seq (.reg [iA 4 (.mov (.k (boolV false))) [0, 1, 10]])
(.ret))
(.skip)))
(.seq (.seq (.reg [iA 5 (.mov (.k (intV 0))) [4, 10]])
(.block 0 (.loop [0, 1, 5] c_ref33_Same_L0)))
(.seq (.reg [iA 4 (.mov (.k (boolV true))) [0, 1, 5]])
(.ret)))),
 [.tmp 4]⟩
def o_ref33_Same : List (Nat × List Nat) := [(6, [0, 1, 2, 3, 4, 5, 6, 7, 8])]
theorem c_ref33_Same_ok : cFun Tryz.prog o_ref33_Same 41 = some c_ref33_Same.erase := by kernel_rfl

/- ref34_numbers -/
def c_ref34_numbers : AFun := ⟨.seq (.reg [iA 4 (.mov (.k (intV 0))) [4]])
(.seq (.block 0 (.seq (.reg [iM 6 0 [],
 iM 7 1 [],
 iA 8 (.bin .lss (.t 6) (.t 7)) [6, 7],
 iM 5 8 [8]])
(.cond (.t 5)
(.seq (.reg [iA 4 (.mov (.k (intV (-1)))) [0, 1, 5]])
(.ret))
(.seq (.reg [iM 10 0 [0, 5],
 iM 11 1 [1],
 iA 12 (.bin .gtr (.t 10) (.t 11)) [10, 11],
 iM 9 12 [12]])
(.cond (.t 9)
(.seq (.reg [iA 4 (.mov (.k (intV 1))) [9]])
(.ret))
(.skip))))))
(.seq (.reg [iA 4 (.mov (.k (intV 0))) [9, 0, 1]])
(.ret))),
 [.tmp 4]⟩
def o_ref34_numbers : List (Nat × List Nat) := []
theorem c_ref34_numbers_ok : cFun Tryz.prog o_ref34_numbers 42 = some c_ref34_numbers.erase := by kernel_rfl

/- syntax_Query -/
def c_syntax_Query_L0 : ACode := (.seq (.reg [iA 20 (.bin .lss (.t 19) (.t 18)) []])
(.seq (.cond (.t 20)
(.skip)
(.exit 1))
(.seq (.block 2 (.seq (.reg [iA 21 (.ia 13 (.t 17) (.t 19)) [20],
 iA 22 (.ld true 13 (.t 21)) [21],
 iA 4 (.alloc [(.d (.lit (.int .i64 0))), (.d (.lit (.int .i64 0))), (.d (.lit (.string ⟨#[]⟩))), (.d (.lit (.int .i64 0))), (.d (.lit (.int .i64 0))), (.d (.lit (.string ⟨#[]⟩))), .nil, .nil, .nil, .nil, .nil, (.d (.lit (.int .i64 0))), (.d (.lit (.string ⟨#[]⟩)))]) [],
 iE (.st 13 (.t 4) (.t 22)) [22]])
(.seq (.reg [iA 23 (.ld true 13 (.t 4)) [4],
 iA 24 (.call 27 [(.t 23)]) [23],
 iM 5 24 [24]])
(.seq (.reg [iM 25 5 [],
 iA 26 (.bin .neq (.t 25) (.k (intV 0))) [25]])
(.cond (.t 26)
(.seq (.reg [iM 27 5 [17, 18, 19, 5, 26],
 iM 2 27 [27]])
(.ret))
(.skip))))))
(.reg [iA 28 (.bin .add (.t 19) (.k (intV 1))) [2, 19, 5, 26, 20],
 iM 19 28 [28]]))))
def c_syntax_Query : AFun := ⟨.seq (.reg [iA 1 (.bx (.t 0)) [0],
 iA 2 (.mov (.k (intV 0))) [2]])
(.seq (.block 0 (.seq (.reg [iA 7 (.fa 0 (.t 1)) [],
 iA 8 (.ld false 1 (.t 7)) [7],
 iA 9 (.call 54 [(.t 8)]) [8],
 iA 10 (.bnot (.t 9)) [9],
 iM 6 10 [10]])
(.cond (.t 6)
(.seq (.reg [iA 2 (.mov (.k (intV 3))) [1, 6]])
(.ret))
(.seq (.reg [iA 12 (.fa 1 (.t 1)) [6],
 iA 13 (.ld false 1 (.t 12)) [12],
 iA 14 (.len (.t 13)) [13],
 iA 15 (.bin .gtr (.t 14) (.k (intV 16))) [14],
 iM 11 15 [15]])
(.cond (.t 11)
(.seq (.reg [iA 2 (.mov (.k (intV 7))) [1, 11]])
(.ret))
(.skip))))))
(.seq (.seq (.reg [iA 16 (.fa 1 (.t 1)) [2, 1, 11],
 iA 17 (.ld false 1 (.t 16)) [16],
 iA 18 (.len (.t 17)) [],
 iA 19 (.mov (.k (intV 0))) []])
(.block 1 (.loop [17, 18, 19] c_syntax_Query_L0)))
(.seq (.reg [iA 2 (.mov (.k (intV 0))) [17, 18, 19]])
(.ret)))),
 [.tmp 2]⟩
def o_syntax_Query : List (Nat × List Nat) := []
theorem c_syntax_Query_ok : cFun Tryz.prog o_syntax_Query 43 = some c_syntax_Query.erase := by kernel_rfl

/- intern_letter -/
def c_intern_letter : AFun := ⟨.seq (.reg [iA 2 (.mov (.k (boolV false))) [2]])
(.seq (.reg [iM 3 0 [],
 iA 4 (.bin .geq (.t 3) (.k (.w (.c (.d (.lit (.int .u8 97))))))) [3],
 iG 5 4 [4],
 iN 6 5 0 [],
 iB 7 5 (.bin .leq (.t 6) (.k (.w (.c (.d (.lit (.int .u8 122))))))) [6],
 iA 8 (.pick (.t 5) (.t 7) (.k (boolV false))) [5, 7, 6],
 iG 9 8 [8],
 iC 10 9 (.mov (.t 0)) [],
 iC 11 9 (.bin .geq (.t 10) (.k (.w (.c (.d (.lit (.int .u8 65))))))) [10],
 ⟨(some 12), (some (9, false)), true, .mov (.t 11), [11]⟩,
 iN 13 12 0 [],
 iB 14 12 (.bin .leq (.t 13) (.k (.w (.c (.d (.lit (.int .u8 90))))))) [13],
 iC 15 9 (.pick (.t 12) (.t 14) (.k (boolV false))) [12, 14, 13],
 iA 16 (.pick (.t 9) (.k (boolV true)) (.t 15)) [9, 15, 12, 14, 13, 11, 10],
 iG 17 16 [16],
 iC 18 17 (.mov (.t 0)) [],
 iC 19 17 (.bin .geq (.t 18) (.k (.w (.c (.d (.lit (.int .u8 48))))))) [18],
 ⟨(some 20), (some (17, false)), true, .mov (.t 19), [19]⟩,
 iN 21 20 0 [],
 iB 22 20 (.bin .leq (.t 21) (.k (.w (.c (.d (.lit (.int .u8 57))))))) [21],
 iC 23 17 (.pick (.t 20) (.t 22) (.k (boolV false))) [20, 22, 21],
 iA 24 (.pick (.t 17) (.k (boolV true)) (.t 23)) [17, 23, 20, 22, 21, 19, 18],
 iG 25 24 [24],
 iC 26 25 (.mov (.t 0)) [0],
 iC 27 25 (.call 86 [(.k (.w (.c (.d (.lit (.string ⟨#[95, 46, 58, 47, 60, 62, 36, 42, 126, 45]⟩)))))), (.t 26)]) [26],
 iC 28 25 (.bin .geq (.t 27) (.k (intV 0))) [27],
 iA 29 (.pick (.t 25) (.k (boolV true)) (.t 28)) [25, 28, 27, 26, 0],
 iM 2 29 [29]])
(.ret)),
 [.tmp 2]⟩
def o_intern_letter : List (Nat × List Nat) := []
theorem c_intern_letter_ok : cFun Tryz.prog o_intern_letter 44 = some c_intern_letter.erase := by kernel_rfl

/- slices_IndexFunc_Column -/
def c_slices_IndexFunc_Column_L0 : ACode := (.seq (.reg [iA 9 (.bin .lss (.t 8) (.t 7)) []])
(.seq (.cond (.t 9)
(.skip)
(.exit 0))
(.seq (.block 1 (.seq (.reg [iM 10 8 [9],
 iM 5 10 [10]])
(.seq (.reg [iM 11 1 [],
 iM 12 0 [],
 iM 13 5 [],
 iA 14 (.ia 2 (.t 12) (.t 13)) [12, 13],
 iA 15 (.ld true 2 (.t 14)) [14],
 iA 16 (.calv (.t 11) [(.t 15)]) [11, 15]])
(.cond (.t 16)
(.seq (.reg [iM 17 5 [0, 1, 7, 8, 5, 16],
 iM 4 17 [17]])
(.ret))
(.skip)))))
(.reg [iA 18 (.bin .add (.t 8) (.k (intV 1))) [4, 8, 5, 16, 9],
 iM 8 18 [18]]))))
def c_slices_IndexFunc_Column : AFun := ⟨.seq (.reg [iA 4 (.mov (.k (intV 0))) [4]])
(.seq (.seq (.reg [iM 6 0 [],
 iA 7 (.len (.t 6)) [6],
 iA 8 (.mov (.k (intV 0))) []])
(.block 0 (.loop [0, 1, 7, 8] c_slices_IndexFunc_Column_L0)))
(.seq (.reg [iA 4 (.mov (.k (intV (-1)))) [0, 1, 7, 8]])
(.ret))),
 [.tmp 4]⟩
def o_slices_IndexFunc_Column : List (Nat × List Nat) := []
theorem c_slices_IndexFunc_Column_ok : cFun Tryz.prog o_slices_IndexFunc_Column 45 = some c_slices_IndexFunc_Column.erase := by kernel_rfl

/- table_Col_1 -/
def c_table_Col_1 : AFun := ⟨.seq (.reg [iA 2 (.bx (.t 0)) [0],
 iA 3 (.mov (.k (boolV false))) [3]])
(.seq (.reg [iA 4 (.fa 0 (.t 2)) [2],
 iA 5 (.ld false 1 (.t 4)) [4],
 iA 6 (.ld false 1 (.t 1)) [1],
 iA 7 (.bin .eql (.t 5) (.t 6)) [5, 6],
 iM 3 7 [7]])
(.ret)),
 [.tmp 3]⟩
def o_table_Col_1 : List (Nat × List Nat) := []
theorem c_table_Col_1_ok : cFun Tryz.prog o_table_Col_1 46 = some c_table_Col_1.erase := by kernel_rfl

/- num_In -/
def c_num_In : AFun := ⟨.seq (.reg [iA 2 (.mov (.k (boolV false))) [2]])
(.seq (.reg [iM 3 0 [],
 iA 4 (.bin .geq (.t 3) (.k (intV (-1000000000000000)))) [3],
 iG 5 4 [4],
 iN 6 5 0 [0],
 iB 7 5 (.bin .leq (.t 6) (.k (intV 1000000000000000))) [6],
 iA 8 (.pick (.t 5) (.t 7) (.k (boolV false))) [5, 7, 6, 0],
 iM 2 8 [8]])
(.ret)),
 [.tmp 2]⟩
def o_num_In : List (Nat × List Nat) := []
theorem c_num_In_ok : cFun Tryz.prog o_num_In 47 = some c_num_In.erase := by kernel_rfl

/- syntax_uses -/
def c_syntax_uses : AFun := ⟨.seq (.reg [iA 1 (.bx (.t 0)) [0],
 iA 2 (.mov (.k (boolV false))) [2]])
(.seq (.reg [iA 4 (.clof 87 [(.t 1)]) [],
 iM 3 4 [4]])
(.seq (.block 0 (.seq (.reg [iA 6 (.fa 0 (.t 1)) [],
 iA 7 (.ld false 1 (.t 6)) [6],
 iA 8 (.bin .lss (.t 7) (.k (intV 1))) [7],
 iG 9 8 [8],
 iC 10 9 (.fa 0 (.t 1)) [],
 iC 11 9 (.ld false 1 (.t 10)) [10],
 iC 12 9 (.bin .gtr (.t 11) (.k (intV 9))) [11],
 iA 13 (.pick (.t 9) (.k (boolV true)) (.t 12)) [9, 12, 11, 10],
 iM 5 13 [13]])
(.cond (.t 5)
(.seq (.reg [iA 2 (.mov (.k (boolV false))) [1, 3, 5]])
(.ret))
(.seq (.seq (.reg [iM 15 3 [5],
 iA 16 (.lits 1 [(.k (intV 1))]) [],
 iA 17 (.calv (.t 15) [(.t 16)]) [15, 16],
 iA 18 (.bnot (.t 17)) [17],
 iG 19 18 [18],
 iB 20 19 (.fa 1 (.t 1)) [],
 iB 21 19 (.ld true 6 (.t 20)) [20],
 iB 22 19 (.call 89 [(.t 21)]) [21],
 iB 23 19 (.bnot (.t 22)) [22],
 iA 24 (.pick (.t 19) (.t 23) (.k (boolV false))) [19, 23, 22, 21, 20],
 iM 14 24 [24]])
(.cond (.t 14)
(.skip)
(.seq (.reg [iM 25 3 [14],
 iA 26 (.lits 1 [(.k (intV 2))]) [],
 iA 27 (.calv (.t 25) [(.t 26)]) [25, 26],
 iA 28 (.bnot (.t 27)) [27],
 iG 29 28 [28],
 iB 30 29 (.fa 7 (.t 1)) [],
 iB 31 29 (.ld false 1 (.t 30)) [30],
 iB 32 29 (.len (.t 31)) [31],
 iB 33 29 (.bin .gtr (.t 32) (.k (intV 0))) [32],
 iA 34 (.pick (.t 29) (.t 33) (.k (boolV false))) [29, 33, 32, 31, 30],
 iM 14 34 [34]])
(.cond (.t 14)
(.skip)
(.seq (.reg [iM 35 3 [14],
 iA 36 (.lits 1 [(.k (intV 3))]) [],
 iA 37 (.calv (.t 35) [(.t 36)]) [35, 36],
 iA 38 (.bnot (.t 37)) [37],
 iG 39 38 [38],
 iB 40 39 (.fa 9 (.t 1)) [],
 iB 41 39 (.ld false 1 (.t 40)) [40],
 iB 42 39 (.len (.t 41)) [41],
 iB 43 39 (.bin .gtr (.t 42) (.k (intV 0))) [42],
 iA 44 (.pick (.t 39) (.t 43) (.k (boolV false))) [39, 43, 42, 41, 40],
 iM 14 44 [44]])
(.cond (.t 14)
(.skip)
(.seq (.reg [iM 45 3 [14],
 iA 46 (.lits 1 [(.k (intV 4))]) [],
 iA 47 (.calv (.t 45) [(.t 46)]) [45, 46],
 iA 48 (.bnot (.t 47)) [47],
 iG 49 48 [48],
 iB 50 49 (.fa 10 (.t 1)) [],
 iB 51 49 (.ld false 1 (.t 50)) [50],
 iB 52 49 (.len (.t 51)) [51],
 iB 53 49 (.bin .gtr (.t 52) (.k (intV 0))) [52],
 iA 54 (.pick (.t 49) (.t 53) (.k (boolV false))) [49, 53, 52, 51, 50],
 iM 14 54 [54]])
(.cond (.t 14)
(.skip)
(.reg [iM 55 3 [14],
 iA 56 (.lits 1 [(.k (intV 5))]) [],
 iA 57 (.calv (.t 55) [(.t 56)]) [55, 56],
 iA 58 (.bnot (.t 57)) [57],
 iG 59 58 [58],
 iB 60 59 (.fa 11 (.t 1)) [],
 iB 61 59 (.ld false 1 (.t 60)) [60],
 iB 62 59 (.bin .neq (.t 61) (.k (intV 0))) [61],
 iA 63 (.pick (.t 59) (.t 62) (.k (boolV false))) [59, 62, 61, 60],
 iM 14 63 [63]])))))))))
(.cond (.t 14)
(.seq (.reg [iA 2 (.mov (.k (boolV false))) [1, 3, 14]])
(.ret))
(.seq (.reg [iM 65 3 [14],
 iA 66 (.lits 1 [(.k (intV 6)), (.k (intV 7)), (.k (intV 8))]) [],
 iA 67 (.calv (.t 65) [(.t 66)]) [65, 66],
 iA 68 (.bnot (.t 67)) [67],
 iG 69 68 [68],
 iB 70 69 (.fa 12 (.t 1)) [],
 iB 71 69 (.ld false 1 (.t 70)) [70],
 iB 72 69 (.bin .neq (.t 71) (.k (.w (.c (.d (.lit (.string ⟨#[]⟩))))))) [71],
 iA 73 (.pick (.t 69) (.t 72) (.k (boolV false))) [69, 72, 71, 70],
 iM 64 73 [73]])
(.cond (.t 64)
(.seq (.reg [iA 2 (.mov (.k (boolV false))) [1, 3, 64]])
(.ret))
(.skip))))))))
(.seq (.reg [iM 74 3 [2, 3, 64],
 iA 75 (.lits 1 [(.k (intV 3)), (.k (intV 6)), (.k (intV 7)), (.k (intV 8)), (.k (intV 9))]) [],
 iA 76 (.calv (.t 74) [(.t 75)]) [74, 75],
 iG 77 76 [76],
 iC 78 77 (.fa 8 (.t 1)) [1],
 iC 79 77 (.ld false 1 (.t 78)) [78],
 iC 80 77 (.len (.t 79)) [79],
 iC 81 77 (.bin .eql (.t 80) (.k (intV 0))) [80],
 iA 82 (.pick (.t 77) (.k (boolV true)) (.t 81)) [77, 81, 80, 79, 78, 1],
 iM 2 82 [82]])
(.ret)))),
 [.tmp 2]⟩
def o_syntax_uses : List (Nat × List Nat) := [(1000001, [0])]
theorem c_syntax_uses_ok : cFun Tryz.prog o_syntax_uses 48 = some c_syntax_uses.erase := by kernel_rfl

/- syntax_Expr -/
def c_syntax_Expr : AFun := ⟨.seq (.reg [iA 1 (.bx (.t 0)) [0],
 iA 2 (.mov (.k (intV 0))) [2]])
(.seq (.reg [iA 6 (.ld true 6 (.t 1)) [],
 iA 7 (.call 90 [(.t 6), (.k (intV 0))]) [6],
 iM 5 7 [7],
 iA 8 (.ext (.t 5) 0) [],
 iA 9 (.ext (.t 5) 1) [5],
 iM 3 8 [8],
 iM 4 9 [9]])
(.seq (.block 0 (.seq (.reg [iM 11 3 [3],
 iA 12 (.bin .gtr (.t 11) (.k (intV 200))) [11],
 iM 10 12 [12]])
(.cond (.t 10)
(.seq (.reg [iA 2 (.mov (.k (intV 7))) [1, 4, 10]])
(.ret))
(.seq (.reg [iM 14 4 [4, 10],
 iA 15 (.bin .gtr (.t 14) (.k (intV 16))) [14],
 iM 13 15 [15]])
(.cond (.t 13)
(.seq (.reg [iA 2 (.mov (.k (intV 20))) [1, 13]])
(.ret))
(.skip))))))
(.seq (.reg [iA 16 (.ld true 6 (.t 1)) [2, 1, 13, 3, 4],
 iA 17 (.call 91 [(.t 16)]) [16],
 iM 2 17 [17]])
(.ret)))),
 [.tmp 2]⟩
def o_syntax_Expr : List (Nat × List Nat) := []
theorem c_syntax_Expr_ok : cFun Tryz.prog o_syntax_Expr 49 = some c_syntax_Expr.erase := by kernel_rfl

/- syntax_size -/
def c_syntax_size : AFun := ⟨.seq (.reg [iA 4 (.mov (.k (intV 0))) [4]])
(.seq (.block 0 (.seq (.reg [iM 6 0 [],
 iM 7 1 [1],
 iA 8 (.bin .lss (.t 6) (.t 7)) [6, 7],
 iM 5 8 [8]])
(.cond (.t 5)
(.seq (.reg [iA 4 (.mov (.k (intV 8))) [0, 5]])
(.ret))
(.seq (.reg [iM 10 0 [0, 5],
 iA 11 (.bin .gtr (.t 10) (.k (intV 16))) [10],
 iM 9 11 [11]])
(.cond (.t 9)
(.seq (.reg [iA 4 (.mov (.k (intV 7))) [9]])
(.ret))
(.skip))))))
(.seq (.reg [iA 4 (.mov (.k (intV 0))) [9, 0, 1]])
(.ret))),
 [.tmp 4]⟩
def o_syntax_size : List (Nat × List Nat) := []
theorem c_syntax_size_ok : cFun Tryz.prog o_syntax_size 50 = some c_syntax_size.erase := by kernel_rfl

/- syntax_items -/
def c_syntax_items_L0 : ACode := (.seq (.reg [iA 11 (.bin .lss (.t 10) (.t 9)) []])
(.seq (.cond (.t 11)
(.skip)
(.exit 0))
(.seq (.block 1 (.seq (.reg [iA 12 (.ia 7 (.t 8) (.t 10)) [11],
 iA 13 (.ld true 7 (.t 12)) [12],
 iA 5 (.alloc [(.d (.lit (.int .i64 0))), (.d (.lit (.string ⟨#[]⟩))), (.d (.lit (.int .i64 0))), (.d (.lit (.int .i64 0))), (.d (.lit (.string ⟨#[]⟩))), .nil, (.d (.lit (.string ⟨#[]⟩)))]) [],
 iE (.st 7 (.t 5) (.t 13)) [13]])
(.seq (.seq (.reg [iA 14 (.fa 0 (.t 5)) [],
 iA 15 (.ld true 6 (.t 14)) [14],
 iA 16 (.call 49 [(.t 15)]) [15],
 iM 6 16 [16]])
(.seq (.reg [iM 17 6 [],
 iA 18 (.bin .neq (.t 17) (.k (intV 0))) [17]])
(.cond (.t 18)
(.seq (.reg [iM 19 6 [3, 8, 9, 10, 5, 6, 18],
 iM 2 19 [19]])
(.ret))
(.skip))))
(.seq (.reg [iA 20 (.fa 6 (.t 5)) [2, 5, 6, 18],
 iA 21 (.ld false 1 (.t 20)) [20],
 iA 22 (.callh 92 [(.t 3), (.t 21)]) [21],
 iM 7 22 [22]])
(.seq (.reg [iM 23 7 [],
 iA 24 (.bin .neq (.t 23) (.k (intV 0))) [23]])
(.cond (.t 24)
(.seq (.reg [iM 25 7 [3, 8, 9, 10, 7, 24],
 iM 2 25 [25]])
(.ret))
(.skip)))))))
(.reg [iA 26 (.bin .add (.t 10) (.k (intV 1))) [2, 10, 7, 24, 11],
 iM 10 26 [26]]))))
def c_syntax_items : AFun := ⟨.seq (.reg [iA 2 (.mov (.k (intV 0))) [2]])
(.seq (.reg [iA 3 (.alloc [.nil]) []])
(.seq (.seq (.reg [iM 8 0 [0],
 iA 9 (.len (.t 8)) [],
 iA 10 (.mov (.k (intV 0))) []])
(.block 0 (.loop [3, 8, 9, 10] c_syntax_items_L0)))
(.seq (.reg [iA 2 (.mov (.k (intV 0))) [3, 8, 9, 10]])
(.ret)))),
 [.tmp 2]⟩
def o_syntax_items : List (Nat × List Nat) := [(1000008, [2])]
theorem c_syntax_items_ok : cFun Tryz.prog o_syntax_items 51 = some c_syntax_items.erase := by kernel_rfl

/- syntax_group -/
def c_syntax_group_L0 : ACode := (.seq (.reg [iA 39 (.bin .lss (.t 38) (.t 37)) []])
(.seq (.cond (.t 39)
(.skip)
(.exit 1))
(.seq (.block 2 (.seq (.reg [iA 40 (.ia 3 (.t 36) (.t 38)) [39],
 iA 41 (.ld true 3 (.t 40)) [40],
 iA 6 (.alloc [(.d (.lit (.string ⟨#[]⟩))), (.d (.lit (.string ⟨#[]⟩))), (.d (.lit (.string ⟨#[]⟩)))]) [],
 iE (.st 3 (.t 6) (.t 41)) [41]])
(.seq (.reg [iA 42 (.fa 0 (.t 6)) [],
 iA 43 (.ld false 1 (.t 42)) [42],
 iA 44 (.bin .eql (.t 43) (.k (.w (.c (.d (.lit (.string ⟨#[99, 111, 117, 110, 116]⟩))))))) [43],
 iM 7 44 [44]])
(.seq (.seq (.reg [iM 45 7 [],
 iA 46 (.bnot (.t 45)) [45],
 iG 47 46 [46],
 iB 48 47 (.lits 1 [(.k (.w (.c (.d (.lit (.string ⟨#[115, 117, 109]⟩)))))), (.k (.w (.c (.d (.lit (.string ⟨#[109, 105, 110]⟩)))))), (.k (.w (.c (.d (.lit (.string ⟨#[109, 97, 120]⟩)))))), (.k (.w (.c (.d (.lit (.string ⟨#[102, 105, 114, 115, 116]⟩))))))]) [],
 iB 49 47 (.fa 0 (.t 6)) [],
 iB 50 47 (.ld false 1 (.t 49)) [49],
 iB 51 47 (.call 60 [(.t 48), (.t 50)]) [48, 50],
 iB 52 47 (.bnot (.t 51)) [51],
 iA 53 (.pick (.t 47) (.t 52) (.k (boolV false))) [47, 52, 51, 48, 50, 49],
 iG 54 53 [53],
 iC 55 54 (.mov (.t 7)) [7],
 iC 56 54 (.fa 1 (.t 6)) [],
 iC 57 54 (.ld false 1 (.t 56)) [56],
 iC 58 54 (.bin .neq (.t 57) (.k (.w (.c (.d (.lit (.string ⟨#[]⟩))))))) [57],
 iC 59 54 (.beq false (.t 55) (.t 58)) [55, 58],
 iA 60 (.pick (.t 54) (.k (boolV true)) (.t 59)) [54, 59, 55, 58, 57, 56, 7]])
(.cond (.t 60)
(.seq (.reg [iA 2 (.mov (.k (intV 5))) [3, 36, 37, 38, 6, 60]])
(.ret))
(.skip)))
(.seq (.seq (.reg [iA 61 (.fa 1 (.t 6)) [2, 60],
 iA 62 (.ld false 1 (.t 61)) [61],
 iA 63 (.bin .neq (.t 62) (.k (.w (.c (.d (.lit (.string ⟨#[]⟩))))))) [62],
 iG 64 63 [63],
 iB 65 64 (.fa 1 (.t 6)) [],
 iB 66 64 (.ld false 1 (.t 65)) [65],
 iB 67 64 (.call 54 [(.t 66)]) [66],
 iB 68 64 (.bnot (.t 67)) [67],
 iA 69 (.pick (.t 64) (.t 68) (.k (boolV false))) [64, 68, 67, 66, 65]])
(.cond (.t 69)
(.seq (.reg [iA 2 (.mov (.k (intV 3))) [3, 36, 37, 38, 6, 69]])
(.ret))
(.skip)))
(.seq (.reg [iA 70 (.fa 2 (.t 6)) [2, 6, 69],
 iA 71 (.ld false 1 (.t 70)) [70],
 iA 72 (.callh 92 [(.t 3), (.t 71)]) [71],
 iM 8 72 [72]])
(.seq (.reg [iM 73 8 [],
 iA 74 (.bin .neq (.t 73) (.k (intV 0))) [73]])
(.cond (.t 74)
(.seq (.reg [iM 75 8 [3, 36, 37, 38, 8, 74],
 iM 2 75 [75]])
(.ret))
(.skip)))))))))
(.reg [iA 76 (.bin .add (.t 38) (.k (intV 1))) [2, 38, 8, 74, 39],
 iM 38 76 [76]]))))
def c_syntax_group : AFun := ⟨.seq (.reg [iA 1 (.bx (.t 0)) [0],
 iA 2 (.mov (.k (intV 0))) [2]])
(.seq (.block 0 (.seq (.reg [iA 10 (.fa 8 (.t 1)) [],
 iA 11 (.ld false 1 (.t 10)) [10],
 iA 12 (.len (.t 11)) [11],
 iA 13 (.fa 9 (.t 1)) [],
 iA 14 (.ld false 1 (.t 13)) [13],
 iA 15 (.len (.t 14)) [14],
 iA 16 (.bin .add (.t 12) (.t 15)) [12, 15],
 iA 17 (.bin .eql (.t 16) (.k (intV 0))) [16],
 iM 9 17 [17]])
(.cond (.t 9)
(.seq (.reg [iA 2 (.mov (.k (intV 8))) [1, 9]])
(.ret))
(.seq (.reg [iA 19 (.fa 8 (.t 1)) [9],
 iA 20 (.ld false 1 (.t 19)) [19],
 iA 21 (.len (.t 20)) [20],
 iA 22 (.bin .gtr (.t 21) (.k (intV 16))) [21],
 iG 23 22 [22],
 iC 24 23 (.fa 9 (.t 1)) [],
 iC 25 23 (.ld false 1 (.t 24)) [24],
 iC 26 23 (.len (.t 25)) [25],
 iC 27 23 (.bin .gtr (.t 26) (.k (intV 16))) [26],
 iA 28 (.pick (.t 23) (.k (boolV true)) (.t 27)) [23, 27, 26, 25, 24],
 iM 18 28 [28]])
(.cond (.t 18)
(.seq (.reg [iA 2 (.mov (.k (intV 7))) [1, 18]])
(.ret))
(.skip))))))
(.seq (.reg [iA 3 (.alloc [.nil]) [2, 18]])
(.seq (.seq (.reg [iA 29 (.fa 8 (.t 1)) [],
 iA 30 (.ld false 1 (.t 29)) [29],
 iA 31 (.callh 93 [(.t 3), (.t 30)]) [30],
 iM 4 31 [31]])
(.seq (.reg [iM 32 4 [],
 iA 33 (.bin .neq (.t 32) (.k (intV 0))) [32]])
(.cond (.t 33)
(.seq (.reg [iM 34 4 [1, 3, 4, 33],
 iM 2 34 [34]])
(.ret))
(.skip))))
(.seq (.seq (.reg [iA 35 (.fa 9 (.t 1)) [2, 1, 4, 33],
 iA 36 (.ld false 1 (.t 35)) [35],
 iA 37 (.len (.t 36)) [],
 iA 38 (.mov (.k (intV 0))) []])
(.block 1 (.loop [3, 36, 37, 38] c_syntax_group_L0)))
(.seq (.reg [iA 2 (.mov (.k (intV 0))) [3, 36, 37, 38]])
(.ret)))))),
 [.tmp 2]⟩
def o_syntax_group : List (Nat × List Nat) := [(1000006, [2]), (1000017, [2])]
theorem c_syntax_group_ok : cFun Tryz.prog o_syntax_group 52 = some c_syntax_group.erase := by kernel_rfl

/- syntax_columns -/
def c_syntax_columns : AFun := ⟨.seq (.reg [iA 4 (.mov (.k (intV 0))) [4]])
(.seq (.seq (.reg [iM 7 0 [],
 iA 8 (.len (.t 7)) [7],
 iM 9 1 [1],
 iA 10 (.call 50 [(.t 8), (.t 9)]) [8, 9],
 iM 5 10 [10]])
(.seq (.reg [iM 11 5 [],
 iA 12 (.bin .neq (.t 11) (.k (intV 0))) [11]])
(.cond (.t 12)
(.seq (.reg [iM 13 5 [0, 5, 12],
 iM 4 13 [13]])
(.ret))
(.skip))))
(.seq (.reg [iA 6 (.alloc [.nil]) [4, 5, 12]])
(.seq (.reg [iM 14 0 [0],
 iA 15 (.callh 93 [(.t 6), (.t 14)]) [6, 14],
 iM 4 15 [15]])
(.ret)))),
 [.tmp 4]⟩
def o_syntax_columns : List (Nat × List Nat) := [(1000005, [1])]
theorem c_syntax_columns_ok : cFun Tryz.prog o_syntax_columns 53 = some c_syntax_columns.erase := by kernel_rfl

/- syntax_identifier -/
def c_syntax_identifier_L0 : ACode := (.seq (.reg [iA 25 (.bin .lss (.t 24) (.t 23)) []])
(.seq (.cond (.t 25)
(.skip)
(.exit 0))
(.seq (.block 1 (.seq (.reg [iM 26 24 [25],
 iM 3 26 [26]])
(.seq (.reg [iM 27 0 [],
 iM 28 3 [3],
 iA 29 (.six (.t 27) (.t 28)) [27, 28],
 iM 4 29 [29]])
(.seq (.reg [iM 30 4 [],
 iA 31 (.bin .lss (.t 30) (.k (.w (.c (.d (.lit (.int .u8 97))))))) [30],
 iG 32 31 [31],
 iC 33 32 (.mov (.t 4)) [],
 iC 34 32 (.bin .gtr (.t 33) (.k (.w (.c (.d (.lit (.int .u8 122))))))) [33],
 iA 35 (.pick (.t 32) (.k (boolV true)) (.t 34)) [32, 34, 33],
 iG 36 35 [35],
 iN 37 36 4 [],
 iB 38 36 (.bin .lss (.t 37) (.k (.w (.c (.d (.lit (.int .u8 48))))))) [37],
 ⟨(some 39), (some (36, true)), true, .mov (.t 38), [38]⟩,
 iC 40 39 (.mov (.t 4)) [],
 iC 41 39 (.bin .gtr (.t 40) (.k (.w (.c (.d (.lit (.int .u8 57))))))) [40],
 iB 42 36 (.pick (.t 39) (.k (boolV true)) (.t 41)) [39, 41, 40],
 iA 43 (.pick (.t 36) (.t 42) (.k (boolV false))) [36, 42, 39, 41, 40, 38, 37],
 iG 44 43 [43],
 iN 45 44 4 [4],
 iB 46 44 (.bin .neq (.t 45) (.k (.w (.c (.d (.lit (.int .u8 95))))))) [45],
 iA 47 (.pick (.t 44) (.t 46) (.k (boolV false))) [44, 46, 45, 4]])
(.cond (.t 47)
(.seq (.reg [iA 2 (.mov (.k (boolV false))) [0, 23, 24, 47]])
(.ret))
(.skip))))))
(.reg [iA 48 (.bin .add (.t 24) (.k (intV 1))) [2, 24, 47, 25],
 iM 24 48 [48]]))))
def c_syntax_identifier : AFun := ⟨.seq (.reg [iA 2 (.mov (.k (boolV false))) [2]])
(.seq (.seq (.reg [iM 5 0 [],
 iA 6 (.bin .eql (.t 5) (.k (.w (.c (.d (.lit (.string ⟨#[]⟩))))))) [5],
 iG 7 6 [6],
 iC 8 7 (.mov (.t 0)) [],
 iC 9 7 (.slen (.t 8)) [8],
 iC 10 7 (.bin .gtr (.t 9) (.k (intV 40))) [9],
 iA 11 (.pick (.t 7) (.k (boolV true)) (.t 10)) [7, 10, 9, 8],
 iG 12 11 [11],
 iC 13 12 (.mov (.t 0)) [],
 iC 14 12 (.six (.t 13) (.k (intV 0))) [13],
 iC 15 12 (.bin .lss (.t 14) (.k (.w (.c (.d (.lit (.int .u8 97))))))) [14],
 iA 16 (.pick (.t 12) (.k (boolV true)) (.t 15)) [12, 15, 14, 13],
 iG 17 16 [16],
 iC 18 17 (.mov (.t 0)) [],
 iC 19 17 (.six (.t 18) (.k (intV 0))) [18],
 iC 20 17 (.bin .gtr (.t 19) (.k (.w (.c (.d (.lit (.int .u8 122))))))) [19],
 iA 21 (.pick (.t 17) (.k (boolV true)) (.t 20)) [17, 20, 19, 18]])
(.cond (.t 21)
(.seq (.reg [iA 2 (.mov (.k (boolV false))) [0, 21]])
(.ret))
(.skip)))
(.seq (.seq (.reg [iM 22 0 [2, 21],
 iA 23 (.slen (.t 22)) [22],
 iA 24 (.mov (.k (intV 0))) []])
(.block 0 (.loop [0, 23, 24] c_syntax_identifier_L0)))
(.seq (.reg [iA 49 (.lits 1 [(.k (.w (.c (.d (.lit (.string ⟨#[97, 110, 100]⟩)))))), (.k (.w (.c (.d (.lit (.string ⟨#[111, 114]⟩)))))), (.k (.w (.c (.d (.lit (.string ⟨#[110, 111, 116]⟩)))))), (.k (.w (.c (.d (.lit (.string ⟨#[110, 117, 108, 108]⟩)))))), (.k (.w (.c (.d (.lit (.string ⟨#[116, 114, 117, 101]⟩)))))), (.k (.w (.c (.d (.lit (.string ⟨#[102, 97, 108, 115, 101]⟩))))))]) [23, 24],
 iM 50 0 [0],
 iA 51 (.call 60 [(.t 49), (.t 50)]) [49, 50],
 iA 52 (.bnot (.t 51)) [51],
 iM 2 52 [52]])
(.ret)))),
 [.tmp 2]⟩
def o_syntax_identifier : List (Nat × List Nat) := []
theorem c_syntax_identifier_ok : cFun Tryz.prog o_syntax_identifier 54 = some c_syntax_identifier.erase := by kernel_rfl

/- typing_when -/
def c_typing_when : AFun := ⟨.seq (.reg [iA 4 (.mov (.k (intV 0))) [4],
 iA 5 (.mov (.k (intV 0))) [5]])
(.seq (.seq (.reg [iM 6 0 [0],
 iA 7 (.bnot (.t 6)) [6]])
(.cond (.t 7)
(.seq (.reg [iA 4 (.mov (.k (intV 0))) [1, 7],
 iA 5 (.mov (.k (intV 14))) []])
(.ret))
(.skip)))
(.seq (.reg [iM 8 1 [4, 5, 1, 7],
 iM 4 8 [8],
 iA 5 (.mov (.k (intV 0))) []])
(.ret))),
 [.tmp 4, .tmp 5]⟩
def o_typing_when : List (Nat × List Nat) := []
theorem c_typing_when_ok : cFun Tryz.prog o_typing_when 55 = some c_typing_when.erase := by kernel_rfl

/- typing_all -/
def c_typing_all : AFun := ⟨.seq (.reg [iA 3 (.bx (.t 1)) [1],
 iA 4 (.mov (.k (boolV false))) [4]])
(.seq (.reg [iM 5 0 [0],
 iA 6 (.clof 95 [(.t 3)]) [3],
 iA 7 (.call 94 [(.t 5), (.t 6)]) [5, 6],
 iA 8 (.bnot (.t 7)) [7],
 iM 4 8 [8]])
(.ret)),
 [.tmp 4]⟩
def o_typing_all : List (Nat × List Nat) := [(1000001, [1])]
theorem c_typing_all_ok : cFun Tryz.prog o_typing_all 56 = some c_typing_all.erase := by kernel_rfl

/- typing_call -/
def c_typing_call : AFun := ⟨.seq (.reg [iA 4 (.mov (.k (intV 0))) [4],
 iA 5 (.mov (.k (intV 0))) [5]])
(.seq (.seq (.reg [iM 6 0 [0]])
(.block 0 (.seq (.seq (.reg [iA 8 (.bin .eql (.t 6) (.k (.w (.c (.d (.lit (.string ⟨#[109, 105, 110]⟩))))))) [],
 iM 7 8 [8]])
(.cond (.t 7)
(.skip)
(.reg [iA 9 (.bin .eql (.t 6) (.k (.w (.c (.d (.lit (.string ⟨#[109, 97, 120]⟩))))))) [7],
 iM 7 9 [9]])))
(.cond (.t 7)
(.seq (.reg [iM 10 1 [6, 7],
 iM 16 1 [],
 iA 17 (.ia 1 (.t 16) (.k (intV 0))) [16],
 iA 18 (.ld false 1 (.t 17)) [17],
 iM 19 1 [],
 iA 20 (.ia 1 (.t 19) (.k (intV 1))) [19],
 iA 21 (.ld false 1 (.t 20)) [20],
 iA 22 (.mm true (.t 18) (.t 21)) [18, 21],
 iA 11 (.call 56 [(.t 10), (.k (intV 2))]) [10],
 iG 12 11 [11],
 iC 13 12 (.mov (.t 1)) [1],
 iC 14 12 (.call 56 [(.t 13), (.k (intV 3))]) [13],
 iA 15 (.pick (.t 12) (.k (boolV true)) (.t 14)) [12, 14, 13, 1],
 iA 23 (.call 55 [(.t 15), (.t 22)]) [22, 15],
 iA 24 (.ext (.t 23) 0) [],
 iA 25 (.ext (.t 23) 1) [23],
 iM 4 24 [24],
 iM 5 25 [25]])
(.ret))
(.seq (.reg [iA 27 (.bin .eql (.t 6) (.k (.w (.c (.d (.lit (.string ⟨#[97, 98, 115]⟩))))))) [7],
 iM 26 27 [27]])
(.cond (.t 26)
(.seq (.reg [iM 28 1 [1, 6, 26],
 iA 29 (.call 56 [(.t 28), (.k (intV 2))]) [28],
 iA 30 (.call 55 [(.t 29), (.k (intV 2))]) [29],
 iA 31 (.ext (.t 30) 0) [],
 iA 32 (.ext (.t 30) 1) [30],
 iM 4 31 [31],
 iM 5 32 [32]])
(.ret))
(.seq (.reg [iA 34 (.bin .eql (.t 6) (.k (.w (.c (.d (.lit (.string ⟨#[108, 101, 110]⟩))))))) [6, 26],
 iM 33 34 [34]])
(.cond (.t 33)
(.seq (.reg [iM 35 1 [1, 33],
 iA 36 (.call 56 [(.t 35), (.k (intV 3))]) [35],
 iA 37 (.call 55 [(.t 36), (.k (intV 2))]) [36],
 iA 38 (.ext (.t 37) 0) [],
 iA 39 (.ext (.t 37) 1) [37],
 iM 4 38 [38],
 iM 5 39 [39]])
(.ret))
(.skip)))))))))
(.seq (.reg [iM 40 1 [4, 5, 1, 33, 6],
 iA 41 (.call 56 [(.t 40), (.k (intV 3))]) [40],
 iA 42 (.call 55 [(.t 41), (.k (intV 1))]) [41],
 iA 43 (.ext (.t 42) 0) [],
 iA 44 (.ext (.t 42) 1) [42],
 iM 4 43 [43],
 iM 5 44 [44]])
(.ret))),
 [.tmp 4, .tmp 5]⟩
def o_typing_call : List (Nat × List Nat) := [(4, [0, 6, 7, 8, 9, 10, 11, 12, 1, 2, 3, 4, 5, 13, 14, 15, 16, 17])]
theorem c_typing_call_ok : cFun Tryz.prog o_typing_call 57 = some c_typing_call.erase := by kernel_rfl

/- typing_take -/
def c_typing_take_L0 : ACode := (.seq (.reg [iA 13 (.bin .lss (.t 12) (.t 11)) []])
(.seq (.cond (.t 13)
(.skip)
(.exit 0))
(.seq (.block 1 (.seq (.reg [iA 14 (.ia 1 (.t 10) (.t 12)) [13],
 iA 15 (.ld false 1 (.t 14)) [14],
 iM 8 15 [15]])
(.seq (.reg [iM 16 0 [],
 iM 17 8 [8],
 iA 18 (.call 32 [(.t 16), (.t 17)]) [16, 17],
 iM 9 18 [18]])
(.seq (.seq (.reg [iM 19 9 [],
 iA 20 (.bin .lss (.t 19) (.k (intV 0))) [19]])
(.cond (.t 20)
(.seq (.reg [iA 4 (.mov (.k (.w (.c .nil)))) [0, 6, 10, 11, 12, 9, 20],
 iA 5 (.mov (.k (intV 16))) []])
(.ret))
(.skip)))
(.reg [iM 21 6 [4, 5, 6, 20],
 iM 22 0 [],
 iM 23 9 [9],
 iA 24 (.ia 2 (.t 22) (.t 23)) [22, 23],
 iA 25 (.ld true 2 (.t 24)) [24],
 iA 26 (.lits 2 [(.t 25)]) [25],
 iA 27 (.app 2 24 (.t 21) (.t 26)) [21, 26],
 iM 6 27 [27]])))))
(.reg [iA 28 (.bin .add (.t 12) (.k (intV 1))) [12, 13],
 iM 12 28 [28]]))))
def c_typing_take : AFun := ⟨.seq (.reg [iA 4 (.mov (.k (.w (.c .nil)))) [4],
 iA 5 (.mov (.k (intV 0))) [5]])
(.seq (.reg [iA 6 (.mov (.k (.w (.c .nil)))) []])
(.seq (.seq (.reg [iM 10 1 [1],
 iA 11 (.len (.t 10)) [],
 iA 12 (.mov (.k (intV 0))) []])
(.block 0 (.loop [0, 6, 10, 11, 12] c_typing_take_L0)))
(.seq (.reg [iM 29 6 [0, 10, 11, 6, 12],
 iM 4 29 [29],
 iA 5 (.mov (.k (intV 0))) []])
(.ret)))),
 [.tmp 4, .tmp 5]⟩
def o_typing_take : List (Nat × List Nat) := []
theorem c_typing_take_ok : cFun Tryz.prog o_typing_take 58 = some c_typing_take.erase := by kernel_rfl

/- typing_column_1 -/
def c_typing_column_1 : AFun := ⟨.seq (.reg [iA 2 (.bx (.t 0)) [0],
 iA 3 (.mov (.k (boolV false))) [3]])
(.seq (.reg [iA 4 (.fa 0 (.t 2)) [2],
 iA 5 (.ld false 1 (.t 4)) [4],
 iA 6 (.ld false 1 (.t 1)) [1],
 iA 7 (.bin .eql (.t 5) (.t 6)) [5, 6],
 iM 3 7 [7]])
(.ret)),
 [.tmp 3]⟩
def o_typing_column_1 : List (Nat × List Nat) := []
theorem c_typing_column_1_ok : cFun Tryz.prog o_typing_column_1 59 = some c_typing_column_1.erase := by kernel_rfl

/- slices_Contains_string -/
def c_slices_Contains_string : AFun := ⟨.seq (.reg [iA 4 (.mov (.k (boolV false))) [4]])
(.seq (.reg [iM 5 0 [0],
 iM 6 1 [1],
 iA 7 (.call 96 [(.t 5), (.t 6)]) [5, 6],
 iA 8 (.bin .geq (.t 7) (.k (intV 0))) [7],
 iM 4 8 [8]])
(.ret)),
 [.tmp 4]⟩
def o_slices_Contains_string : List (Nat × List Nat) := []
theorem c_slices_Contains_string_ok : cFun Tryz.prog o_slices_Contains_string 60 = some c_slices_Contains_string.erase := by kernel_rfl

/- slices_ContainsFunc_string -/
def c_slices_ContainsFunc_string : AFun := ⟨.seq (.reg [iA 4 (.mov (.k (boolV false))) [4]])
(.seq (.reg [iM 5 0 [0],
 iM 6 1 [1],
 iA 7 (.call 97 [(.t 5), (.t 6)]) [5, 6],
 iA 8 (.bin .geq (.t 7) (.k (intV 0))) [7],
 iM 4 8 [8]])
(.ret)),
 [.tmp 4]⟩
def o_slices_ContainsFunc_string : List (Nat × List Nat) := []
theorem c_slices_ContainsFunc_string_ok : cFun Tryz.prog o_slices_ContainsFunc_string 62 = some c_slices_ContainsFunc_string.erase := by kernel_rfl

/- table_Order -/
def c_table_Order : AFun := ⟨.seq (.reg [iA 2 (.bx (.t 0)) [0],
 iA 3 (.bx (.t 1)) [1],
 iA 4 (.mov (.k (intV 0))) [4]])
(.seq (.block 0 (.seq (.reg [iA 6 (.fa 0 (.t 2)) [],
 iA 7 (.ld false 1 (.t 6)) [6],
 iA 8 (.fa 0 (.t 3)) [],
 iA 9 (.ld false 1 (.t 8)) [8],
 iA 10 (.bin .neq (.t 7) (.t 9)) [7, 9],
 iM 5 10 [10]])
(.cond (.t 5)
(.seq (.reg [iA 11 (.fa 0 (.t 2)) [2, 5],
 iA 12 (.ld false 1 (.t 11)) [11],
 iA 13 (.fa 0 (.t 3)) [3],
 iA 14 (.ld false 1 (.t 13)) [13],
 iA 15 (.call 100 [(.t 12), (.t 14)]) [12, 14],
 iM 4 15 [15]])
(.ret))
(.seq (.reg [iA 17 (.fa 0 (.t 2)) [5],
 iA 18 (.ld false 1 (.t 17)) [17],
 iA 19 (.bin .eql (.t 18) (.k (intV 3))) [18],
 iM 16 19 [19]])
(.cond (.t 16)
(.seq (.reg [iA 20 (.fa 2 (.t 2)) [2, 16],
 iA 21 (.ld false 1 (.t 20)) [20],
 iA 22 (.fa 2 (.t 3)) [3],
 iA 23 (.ld false 1 (.t 22)) [22],
 iA 24 (.call 101 [(.t 21), (.t 23)]) [21, 23],
 iM 4 24 [24]])
(.ret))
(.seq (.reg [iA 26 (.fa 0 (.t 2)) [16],
 iA 27 (.ld false 1 (.t 26)) [26],
 iA 28 (.bin .eql (.t 27) (.k (intV 1))) [27],
 iG 29 28 [28],
 iC 30 29 (.fa 0 (.t 2)) [],
 iC 31 29 (.ld false 1 (.t 30)) [30],
 iC 32 29 (.bin .eql (.t 31) (.k (intV 2))) [31],
 iA 33 (.pick (.t 29) (.k (boolV true)) (.t 32)) [29, 32, 31, 30],
 iM 25 33 [33]])
(.cond (.t 25)
(.seq (.reg [iA 34 (.fa 1 (.t 2)) [2, 25],
 iA 35 (.ld false 1 (.t 34)) [34],
 iA 36 (.fa 1 (.t 3)) [3],
 iA 37 (.ld false 1 (.t 36)) [36],
 iA 38 (.call 99 [(.t 35), (.t 37)]) [35, 37],
 iM 4 38 [38]])
(.ret))
(.skip))))))))
(.seq (.reg [iA 4 (.mov (.k (intV 0))) [2, 3, 25]])
(.ret))),
 [.tmp 4]⟩
def o_table_Order : List (Nat × List Nat) := []
theorem c_table_Order_ok : cFun Tryz.prog o_table_Order 70 = some c_table_Order.erase := by kernel_rfl

/- slices_Clone_Value -/
def c_slices_Clone_Value : AFun := ⟨.seq (.reg [iA 2 (.mov (.k (.w (.c .nil)))) [2]])
(.seq (.seq (.reg [iM 3 0 [],
 iA 4 (.isn false (.t 3)) [3]])
(.cond (.t 4)
(.seq (.reg [iA 2 (.mov (.k (.w (.c .nil)))) [0, 4]])
(.ret))
(.skip)))
(.seq (.reg [iA 5 (.lits 3 []) [2, 4],
 iM 6 0 [0],
 iA 7 (.app 3 32 (.t 5) (.t 6)) [5, 6],
 iM 2 7 [7]])
(.ret))),
 [.tmp 2]⟩
def o_slices_Clone_Value : List (Nat × List Nat) := []
theorem c_slices_Clone_Value_ok : cFun Tryz.prog o_slices_Clone_Value 78 = some c_slices_Clone_Value.erase := by kernel_rfl

/- slices_Equal_Value -/
def c_slices_Equal_Value_L0 : ACode := (.seq (.reg [iA 14 (.bin .lss (.t 13) (.t 12)) []])
(.seq (.cond (.t 14)
(.skip)
(.exit 0))
(.seq (.block 1 (.seq (.reg [iM 15 13 [14],
 iM 5 15 [15]])
(.seq (.reg [iM 16 0 [],
 iM 17 5 [],
 iA 18 (.ia 3 (.t 16) (.t 17)) [16, 17],
 iA 19 (.ld true 3 (.t 18)) [18],
 iM 20 1 [],
 iM 21 5 [5],
 iA 22 (.ia 3 (.t 20) (.t 21)) [20, 21],
 iA 23 (.ld true 3 (.t 22)) [22],
 iA 24 (.eqa true [0, 0, 1] (.t 19) (.t 23)) [19, 23]])
(.cond (.t 24)
(.seq (.reg [iA 4 (.mov (.k (boolV false))) [0, 1, 12, 13, 24]])
(.ret))
(.skip)))))
(.reg [iA 25 (.bin .add (.t 13) (.k (intV 1))) [4, 13, 24, 14],
 iM 13 25 [25]]))))
def c_slices_Equal_Value : AFun := ⟨.seq (.reg [iA 4 (.mov (.k (boolV false))) [4]])
(.seq (.seq (.reg [iM 6 0 [],
 iA 7 (.len (.t 6)) [6],
 iM 8 1 [],
 iA 9 (.len (.t 8)) [8],
 iA 10 (.bin .neq (.t 7) (.t 9)) [7, 9]])
(.cond (.t 10)
(.seq (.reg [iA 4 (.mov (.k (boolV false))) [0, 1, 10]])
(.ret))
(.skip)))
(.seq (.seq (.reg [iM 11 0 [4, 10],
 iA 12 (.len (.t 11)) [11],
 iA 13 (.mov (.k (intV 0))) []])
(.block 0 (.loop [0, 1, 12, 13] c_slices_Equal_Value_L0)))
(.seq (.reg [iA 4 (.mov (.k (boolV true))) [0, 1, 12, 13]])
(.ret)))),
 [.tmp 4]⟩
def o_slices_Equal_Value : List (Nat × List Nat) := [(6, [0, 1, 2, 3, 4, 5, 6, 7, 8])]
theorem c_slices_Equal_Value_ok : cFun Tryz.prog o_slices_Equal_Value 81 = some c_slices_Equal_Value.erase := by kernel_rfl

/- eval_Cond -/
def c_eval_Cond : AFun := ⟨.seq (.reg [iA 5 (.bx (.t 2)) [2],
 iA 6 (.mov (.k (boolV false))) [6]])
(.seq (.reg [iM 7 0 [0],
 iM 8 1 [1],
 iA 9 (.ld true 6 (.t 5)) [5],
 iA 10 (.call 83 [(.t 7), (.t 8), (.t 9)]) [7, 8, 9],
 iA 11 (.call 106 [(.k (boolV true))]) [],
 iA 12 (.eqa false [0, 0, 1] (.t 10) (.t 11)) [10, 11],
 iM 6 12 [12]])
(.ret)),
 [.tmp 6]⟩
def o_eval_Cond : List (Nat × List Nat) := []
theorem c_eval_Cond_ok : cFun Tryz.prog o_eval_Cond 82 = some c_eval_Cond.erase := by kernel_rfl

/- eval_Expr -/
def c_eval_Expr : AFun := ⟨.seq (.reg [iA 5 (.bx (.t 2)) [2],
 iA 6 (.alloc [(.d (.lit (.int .i64 0))), (.d (.lit (.int .i64 0))), (.d (.lit (.string ⟨#[]⟩)))]) []])
(.seq (.seq (.reg [iM 10 0 [],
 iA 11 (.ld true 6 (.t 5)) [],
 iA 12 (.call 107 [(.t 10), (.t 11)]) [10, 11],
 iM 9 12 [12],
 iA 13 (.ext (.t 9) 0) [],
 iA 14 (.ext (.t 9) 1) [9],
 iM 7 13 [13, 7],
 iM 8 14 [14]])
(.seq (.reg [iM 15 8 [8],
 iA 16 (.bin .neq (.t 15) (.k (intV 0))) [15],
 iG 17 16 [16],
 iC 18 17 (.mov (.t 0)) [],
 iC 19 17 (.mov (.t 1)) [],
 iC 20 17 (.call 108 [(.t 18), (.t 19)]) [18, 19],
 iC 21 17 (.bnot (.t 20)) [20],
 iA 22 (.pick (.t 17) (.k (boolV true)) (.t 21)) [17, 21, 20, 18, 19]])
(.cond (.t 22)
(.seq (.reg [iA 23 (.build [(.d (.lit (.int .i64 0))), (.d (.lit (.int .i64 0))), (.d (.lit (.string ⟨#[]⟩)))] []) [0, 1, 5, 22],
 iE (.st 3 (.t 6) (.t 23)) [23]])
(.ret))
(.skip))))
(.seq (.reg [iM 24 0 [0, 22],
 iM 25 1 [1],
 iA 26 (.ld true 6 (.t 5)) [5],
 iA 27 (.call 109 [(.t 24), (.t 25), (.t 26)]) [24, 25, 26],
 iE (.st 3 (.t 6) (.t 27)) [27]])
(.ret))),
 [.cell 6 true 3]⟩
def o_eval_Expr : List (Nat × List Nat) := []
theorem c_eval_Expr_ok : cFun Tryz.prog o_eval_Expr 83 = some c_eval_Expr.erase := by kernel_rfl

/- naive_grouped -/
def c_naive_grouped_L0 : ACode := (.seq (.reg [iA 55 (.bin .lss (.t 54) (.t 53)) []])
(.seq (.cond (.t 55)
(.skip)
(.exit 4))
(.seq (.block 5 (.seq (.reg [iM 56 54 [55],
 iA 57 (.ia 1 (.t 52) (.t 54)) [],
 iA 58 (.ld false 1 (.t 57)) [57],
 iM 13 56 [56],
 iM 14 58 [58]])
(.reg [iM 59 11 [],
 iM 60 13 [13],
 iM 61 14 [14],
 iM 62 12 [],
 iA 63 (.ia 3 (.t 61) (.t 62)) [61, 62],
 iA 64 (.ld true 3 (.t 63)) [63],
 iA 65 (.ia 3 (.t 59) (.t 60)) [59, 60],
 iE (.st 3 (.t 65) (.t 64)) [64, 65]])))
(.reg [iA 66 (.bin .add (.t 54) (.k (intV 1))) [54, 55],
 iM 54 66 [66]]))))
def c_naive_grouped_L1 : ACode := (.seq (.reg [iA 33 (.bin .lss (.t 32) (.t 31)) []])
(.seq (.cond (.t 33)
(.skip)
(.exit 2))
(.seq (.block 3 (.seq (.reg [iA 34 (.ia 3 (.t 30) (.t 32)) [33],
 iA 35 (.ld true 3 (.t 34)) [34],
 iA 10 (.alloc [(.d (.lit (.string ⟨#[]⟩))), (.d (.lit (.string ⟨#[]⟩))), (.d (.lit (.string ⟨#[]⟩)))]) [],
 iE (.st 3 (.t 10) (.t 35)) [35]])
(.seq (.reg [iA 36 (.fa 1 (.t 7)) [],
 iA 37 (.ld false 1 (.t 36)) [36],
 iA 38 (.len (.t 37)) [37],
 iA 39 (.mk 3 32 [(.lit (.int .i64 0)), (.lit (.int .i64 0)), (.lit (.string ⟨#[]⟩))] (.t 38) (.t 38)) [38],
 iM 11 39 [39]])
(.seq (.seq (.reg [iA 40 (.ld true 2 (.t 2)) [],
 iA 41 (.fa 1 (.t 10)) [],
 iA 42 (.ld false 1 (.t 41)) [41],
 iA 43 (.call 25 [(.t 40), (.t 42)]) [40, 42],
 iM 12 43 [43]])
(.seq (.reg [iM 44 12 [],
 iA 45 (.bin .geq (.t 44) (.k (intV 0))) [44],
 iG 46 45 [45],
 iB 47 46 (.fa 0 (.t 10)) [],
 iB 48 46 (.ld false 1 (.t 47)) [47],
 iB 49 46 (.bin .neq (.t 48) (.k (.w (.c (.d (.lit (.string ⟨#[99, 111, 117, 110, 116]⟩))))))) [48],
 iA 50 (.pick (.t 46) (.t 49) (.k (boolV false))) [46, 49, 48, 47]])
(.cond (.t 50)
(.seq (.reg [iA 51 (.fa 1 (.t 7)) [50],
 iA 52 (.ld false 1 (.t 51)) [51],
 iA 53 (.len (.t 52)) [],
 iA 54 (.mov (.k (intV 0))) []])
(.block 4 (.loop [2, 3, 5, 7, 8, 10, 11, 12, 20, 21, 22, 30, 31, 32, 52, 53, 54] c_naive_grouped_L0)))
(.skip))))
(.reg [iM 67 8 [8, 12, 52, 53, 54, 50],
 iA 68 (.fa 0 (.t 10)) [10],
 iA 69 (.ld false 1 (.t 68)) [68],
 iM 70 11 [11],
 iA 71 (.call 112 [(.t 69), (.t 70)]) [69, 70],
 iA 72 (.lits 3 [(.t 71)]) [71],
 iA 73 (.app 3 32 (.t 67) (.t 72)) [67, 72],
 iM 8 73 [73]])))))
(.reg [iA 74 (.bin .add (.t 32) (.k (intV 1))) [32, 33],
 iM 32 74 [74]]))))
def c_naive_grouped_L2 : ACode := (.seq (.reg [iA 23 (.bin .lss (.t 22) (.t 21)) []])
(.seq (.cond (.t 23)
(.skip)
(.exit 0))
(.seq (.block 1 (.seq (.reg [iA 24 (.ia 2 (.t 20) (.t 22)) [23],
 iA 25 (.ld true 2 (.t 24)) [24],
 iA 7 (.alloc [.nil, .nil]) [],
 iE (.st 2 (.t 7) (.t 25)) [25]])
(.seq (.reg [iA 26 (.fa 0 (.t 7)) [],
 iA 27 (.ld false 1 (.t 26)) [26],
 iA 28 (.call 78 [(.t 27)]) [27],
 iM 8 28 [28]])
(.seq (.seq (.reg [iA 29 (.fa 9 (.t 3)) [],
 iA 30 (.ld false 1 (.t 29)) [29],
 iA 31 (.len (.t 30)) [],
 iA 32 (.mov (.k (intV 0))) []])
(.block 2 (.loop [2, 3, 5, 7, 8, 20, 21, 22, 30, 31, 32] c_naive_grouped_L1)))
(.reg [iM 75 5 [5, 7, 30, 31, 32],
 iM 76 8 [8],
 iA 77 (.lits 1 [(.t 76)]) [76],
 iA 78 (.app 1 24 (.t 75) (.t 77)) [75, 77],
 iM 5 78 [78]])))))
(.reg [iA 79 (.bin .add (.t 22) (.k (intV 1))) [22, 23],
 iM 22 79 [79]]))))
def c_naive_grouped : AFun := ⟨.seq (.reg [iA 2 (.bx (.t 0)) [0],
 iA 3 (.bx (.t 1)) [1],
 iA 4 (.mov (.k (.w (.c .nil)))) [4]])
(.seq (.reg [iA 5 (.mov (.k (.w (.c .nil)))) []])
(.seq (.seq (.reg [iA 15 (.ld true 2 (.t 2)) [],
 iA 16 (.ld true 2 (.t 2)) [],
 iA 17 (.fa 8 (.t 3)) [],
 iA 18 (.ld false 1 (.t 17)) [17],
 iA 22 (.mov (.k (intV 0))) [],
 iA 19 (.call 111 [(.t 16), (.t 18)]) [16, 18],
 iA 20 (.call 110 [(.t 15), (.t 19)]) [15, 19],
 iA 21 (.len (.t 20)) []])
(.block 0 (.loop [2, 3, 5, 20, 21, 22] c_naive_grouped_L2)))
(.seq (.reg [iM 80 5 [2, 3, 20, 21, 5, 22],
 iM 4 80 [80]])
(.ret)))),
 [.tmp 4]⟩
def o_naive_grouped : List (Nat × List Nat) := [(2, [0, 1, 2, 3, 7, 4, 5, 6])]
theorem c_naive_grouped_ok : cFun Tryz.prog o_naive_grouped 84 = some c_naive_grouped.erase := by kernel_rfl

/- naive_joined -/
def c_naive_joined_L0 : ACode := (.seq (.reg [iA 29 (.bin .lss (.t 28) (.t 27)) []])
(.seq (.cond (.t 29)
(.skip)
(.exit 0))
(.seq (.block 1 (.seq (.reg [iM 30 28 [29],
 iA 31 (.ia 2 (.t 26) (.t 28)) [],
 iA 32 (.ld true 2 (.t 31)) [31],
 iA 12 (.alloc [(.d (.lit (.string ⟨#[]⟩))), (.d (.lit (.int .i64 0)))]) [],
 iM 11 30 [30],
 iE (.st 2 (.t 12) (.t 32)) [32]])
(.seq (.reg [iM 33 2 [],
 iA 34 (.fa 0 (.t 12)) [12],
 iA 35 (.ld false 1 (.t 34)) [34],
 iA 36 (.call 60 [(.t 33), (.t 35)]) [33, 35],
 iA 37 (.bnot (.t 36)) [36]])
(.cond (.t 37)
(.reg [iM 38 10 [10, 37],
 iM 39 11 [11],
 iA 40 (.lits 1 [(.t 39)]) [39],
 iA 41 (.app 1 8 (.t 38) (.t 40)) [38, 40],
 iM 10 41 [41]])
(.skip)))))
(.reg [iA 42 (.bin .add (.t 28) (.k (intV 1))) [28, 11, 37, 29],
 iM 28 42 [42]]))))
def c_naive_joined_L1 : ACode := (.seq (.reg [iA 60 (.bin .lss (.t 59) (.t 58)) []])
(.seq (.cond (.t 60)
(.skip)
(.exit 4))
(.seq (.block 5 (.seq (.reg [iA 61 (.ia 1 (.t 57) (.t 59)) [60],
 iA 62 (.ld false 1 (.t 61)) [61],
 iM 18 62 [62]])
(.seq (.seq (.reg [iM 63 16 [],
 iM 64 18 [],
 iM 65 9 [],
 iA 66 (.call 113 [(.t 64), (.t 65)]) [64, 65],
 iA 67 (.call 81 [(.t 63), (.t 66)]) [63, 66],
 iA 68 (.bnot (.t 67)) [67]])
(.cond (.t 68)
(.exit 5)
(.skip)))
(.seq (.seq (.reg [iM 69 13 [68],
 iA 70 (.len (.t 69)) [69],
 iA 71 (.bin .eql (.t 70) (.k (intV 20000))) [70]])
(.cond (.t 71)
(.seq (.reg [iA 6 (.mov (.k (.w (.c .nil)))) [4, 8, 9, 10, 13, 15, 16, 44, 45, 46, 57, 58, 59, 18, 71],
 iA 7 (.mov (.k (boolV false))) []])
(.ret))
(.skip)))
(.reg [iM 72 13 [6, 7, 13, 71],
 iM 73 15 [],
 iM 74 18 [18],
 iM 75 10 [],
 iA 76 (.call 113 [(.t 74), (.t 75)]) [74, 75],
 iA 77 (.lits 1 [(.t 73), (.t 76)]) [73, 76],
 iA 78 (.call 114 [(.t 77)]) [77],
 iA 79 (.lits 1 [(.t 78)]) [78],
 iA 80 (.app 1 24 (.t 72) (.t 79)) [72, 79],
 iM 13 80 [80]])))))
(.reg [iA 81 (.bin .add (.t 59) (.k (intV 1))) [59, 60],
 iM 59 81 [81]]))))
def c_naive_joined_L2 : ACode := (.seq (.reg [iA 47 (.bin .lss (.t 46) (.t 45)) []])
(.seq (.cond (.t 47)
(.skip)
(.exit 2))
(.seq (.block 3 (.seq (.reg [iA 48 (.ia 1 (.t 44) (.t 46)) [47],
 iA 49 (.ld false 1 (.t 48)) [48],
 iM 15 49 [49]])
(.seq (.reg [iM 50 15 [],
 iM 51 8 [],
 iA 52 (.call 113 [(.t 50), (.t 51)]) [50, 51],
 iM 16 52 [52]])
(.seq (.seq (.reg [iM 53 16 [],
 iA 54 (.build [(.d (.lit (.int .i64 0))), (.d (.lit (.int .i64 0))), (.d (.lit (.string ⟨#[]⟩)))] []) [],
 iA 55 (.call 102 [(.t 53), (.t 54)]) [53, 54]])
(.cond (.t 55)
(.exit 3)
(.skip)))
(.seq (.reg [iA 56 (.fa 1 (.t 4)) [55],
 iA 57 (.ld false 1 (.t 56)) [56],
 iA 58 (.len (.t 57)) [],
 iA 59 (.mov (.k (intV 0))) []])
(.block 4 (.loop [4, 8, 9, 10, 13, 15, 16, 44, 45, 46, 57, 58, 59] c_naive_joined_L1)))))))
(.reg [iA 82 (.bin .add (.t 46) (.k (intV 1))) [15, 16, 46, 57, 58, 59, 47],
 iM 46 82 [82]]))))
def c_naive_joined : AFun := ⟨.seq (.reg [iA 3 (.bx (.t 0)) [0],
 iA 4 (.bx (.t 1)) [1],
 iA 6 (.mov (.k (.w (.c .nil)))) [6],
 iA 7 (.mov (.k (boolV false))) [7]])
(.seq (.reg [iA 19 (.ld true 2 (.t 3)) [],
 iM 20 2 [],
 iA 22 (.ld true 2 (.t 4)) [],
 iM 23 2 [],
 iA 21 (.call 111 [(.t 19), (.t 20)]) [19, 20],
 iA 24 (.call 111 [(.t 22), (.t 23)]) [22, 23],
 iM 8 21 [21],
 iM 9 24 [24]])
(.seq (.reg [iA 10 (.mov (.k (.w (.c .nil)))) []])
(.seq (.seq (.reg [iA 25 (.fa 0 (.t 4)) [],
 iA 26 (.ld false 1 (.t 25)) [25],
 iA 27 (.len (.t 26)) [],
 iA 28 (.mov (.k (intV 0))) []])
(.block 0 (.loop [2, 3, 4, 8, 9, 10, 26, 27, 28] c_naive_joined_L0)))
(.seq (.reg [iA 13 (.mov (.k (.w (.c .nil)))) [2, 26, 27, 28]])
(.seq (.seq (.reg [iA 43 (.fa 1 (.t 3)) [3],
 iA 44 (.ld false 1 (.t 43)) [43],
 iA 45 (.len (.t 44)) [],
 iA 46 (.mov (.k (intV 0))) []])
(.block 2 (.loop [4, 8, 9, 10, 13, 44, 45, 46] c_naive_joined_L2)))
(.seq (.reg [iM 83 13 [4, 8, 9, 10, 44, 45, 13, 46],
 iM 6 83 [83],
 iA 7 (.mov (.k (boolV true))) []])
(.ret))))))),
 [.tmp 6, .tmp 7]⟩
def o_naive_joined : List (Nat × List Nat) := [(1, [0, 1, 3, 4, 2, 5, 6, 7])]
theorem c_naive_joined_ok : cFun Tryz.prog o_naive_joined 85 = some c_naive_joined.erase := by kernel_rfl

/- strings_IndexByte -/
def c_strings_IndexByte : AFun := ⟨.seq (.reg [iA 4 (.mov (.k (intV 0))) [4]])
(.seq (.reg [iM 5 0 [0],
 iM 6 1 [1],
 iA 7 (.call 115 [(.t 5), (.t 6)]) [5, 6],
 iM 4 7 [7]])
(.ret)),
 [.tmp 4]⟩
def o_strings_IndexByte : List (Nat × List Nat) := []
theorem c_strings_IndexByte_ok : cFun Tryz.prog o_strings_IndexByte 86 = some c_strings_IndexByte.erase := by kernel_rfl

/- syntax_uses_1 -/
def c_syntax_uses_1 : AFun := ⟨.seq (.reg [iA 3 (.mov (.k (boolV false))) [3]])
(.seq (.reg [iM 4 0 [0],
 iA 5 (.fa 0 (.t 1)) [1],
 iA 6 (.ld false 1 (.t 5)) [5],
 iA 7 (.call 88 [(.t 4), (.t 6)]) [4, 6],
 iM 3 7 [7]])
(.ret)),
 [.tmp 3]⟩
def o_syntax_uses_1 : List (Nat × List Nat) := []
theorem c_syntax_uses_1_ok : cFun Tryz.prog o_syntax_uses_1 87 = some c_syntax_uses_1.erase := by kernel_rfl

/- slices_Contains_StepOp -/
def c_slices_Contains_StepOp : AFun := ⟨.seq (.reg [iA 4 (.mov (.k (boolV false))) [4]])
(.seq (.reg [iM 5 0 [0],
 iM 6 1 [1],
 iA 7 (.call 116 [(.t 5), (.t 6)]) [5, 6],
 iA 8 (.bin .geq (.t 7) (.k (intV 0))) [7],
 iM 4 8 [8]])
(.ret)),
 [.tmp 4]⟩
def o_slices_Contains_StepOp : List (Nat × List Nat) := []
theorem c_slices_Contains_StepOp_ok : cFun Tryz.prog o_slices_Contains_StepOp 88 = some c_slices_Contains_StepOp.erase := by kernel_rfl

/- syntax_zero -/
def c_syntax_zero : AFun := ⟨.seq (.reg [iA 1 (.bx (.t 0)) [0],
 iA 2 (.mov (.k (boolV false))) [2]])
(.seq (.reg [iA 3 (.fa 0 (.t 1)) [],
 iA 4 (.ld false 1 (.t 3)) [3],
 iA 5 (.bin .eql (.t 4) (.k (intV 0))) [4],
 iG 6 5 [5],
 iB 7 6 (.fa 1 (.t 1)) [],
 iB 8 6 (.ld false 1 (.t 7)) [7],
 iB 9 6 (.bin .eql (.t 8) (.k (.w (.c (.d (.lit (.string ⟨#[]⟩))))))) [8],
 iA 10 (.pick (.t 6) (.t 9) (.k (boolV false))) [6, 9, 8, 7],
 iG 11 10 [10],
 iB 12 11 (.fa 2 (.t 1)) [],
 iB 13 11 (.ld true 3 (.t 12)) [12],
 iB 14 11 (.build [(.d (.lit (.int .i64 0))), (.d (.lit (.int .i64 0))), (.d (.lit (.string ⟨#[]⟩)))] []) [],
 iB 15 11 (.eqa false [0, 0, 1] (.t 13) (.t 14)) [13, 14],
 iA 16 (.pick (.t 11) (.t 15) (.k (boolV false))) [11, 15, 13, 14, 12],
 iG 17 16 [16],
 iB 18 17 (.fa 5 (.t 1)) [1],
 iB 19 17 (.ld false 1 (.t 18)) [18],
 iB 20 17 (.len (.t 19)) [19],
 iB 21 17 (.bin .eql (.t 20) (.k (intV 0))) [20],
 iA 22 (.pick (.t 17) (.t 21) (.k (boolV false))) [17, 21, 20, 19, 18, 1],
 iM 2 22 [22]])
(.ret)),
 [.tmp 2]⟩
def o_syntax_zero : List (Nat × List Nat) := []
theorem c_syntax_zero_ok : cFun Tryz.prog o_syntax_zero 89 = some c_syntax_zero.erase := by kernel_rfl

/- syntax_measure -/
def c_syntax_measure_L0 : ACode := (.seq (.reg [iA 16 (.bin .lss (.t 15) (.t 14)) []])
(.seq (.cond (.t 16)
(.skip)
(.exit 0))
(.seq (.block 1 (.seq (.reg [iA 17 (.ia 6 (.t 13) (.t 15)) [16],
 iA 18 (.ld true 6 (.t 17)) [17],
 iA 8 (.alloc [(.d (.lit (.int .i64 0))), (.d (.lit (.string ⟨#[]⟩))), (.d (.lit (.int .i64 0))), (.d (.lit (.int .i64 0))), (.d (.lit (.string ⟨#[]⟩))), .nil]) [],
 iE (.st 6 (.t 8) (.t 18)) [18]])
(.seq (.seq (.reg [iM 19 1 [],
 iA 20 (.bin .gtr (.t 19) (.k (intV 200))) [19]])
(.cond (.t 20)
(.exit 0)
(.skip)))
(.seq (.reg [iA 9 (.mov (.k (intV 0))) [20, 9]])
(.seq (.reg [iA 22 (.ld true 6 (.t 8)) [8],
 iM 23 1 [1],
 iA 24 (.call 90 [(.t 22), (.t 23)]) [22, 23],
 iM 21 24 [24],
 iA 25 (.ext (.t 21) 0) [],
 iA 26 (.ext (.t 21) 1) [21],
 iM 1 25 [25],
 iM 9 26 [26]])
(.reg [iM 27 6 [6],
 iM 28 9 [9],
 iA 29 (.mm true (.t 27) (.t 28)) [27, 28],
 iM 6 29 [29]]))))))
(.reg [iA 30 (.bin .add (.t 15) (.k (intV 1))) [15, 16],
 iM 15 30 [30]]))))
def c_syntax_measure : AFun := ⟨.seq (.reg [iA 2 (.bx (.t 0)) [0],
 iA 4 (.mov (.k (intV 0))) [4],
 iA 5 (.mov (.k (intV 0))) [5]])
(.seq (.reg [iM 10 1 [1],
 iA 11 (.bin .add (.t 10) (.k (intV 1))) [10],
 iM 1 11 [11]])
(.seq (.reg [iA 6 (.mov (.k (intV 0))) []])
(.seq (.seq (.reg [iA 12 (.fa 5 (.t 2)) [2],
 iA 13 (.ld false 1 (.t 12)) [12],
 iA 14 (.len (.t 13)) [],
 iA 15 (.mov (.k (intV 0))) []])
(.block 0 (.loop [1, 6, 13, 14, 15] c_syntax_measure_L0)))
(.seq (.reg [iM 31 1 [13, 14, 1, 15],
 iM 32 6 [6],
 iA 33 (.bin .add (.t 32) (.k (intV 1))) [32],
 iM 4 31 [31],
 iM 5 33 [33]])
(.ret))))),
 [.tmp 4, .tmp 5]⟩
def o_syntax_measure : List (Nat × List Nat) := []
theorem c_syntax_measure_ok : cFun Tryz.prog o_syntax_measure 90 = some c_syntax_measure.erase := by kernel_rfl

/- syntax_nodes -/
def c_syntax_nodes_L0 : ACode := (.seq (.reg [iA 16 (.bin .lss (.t 15) (.t 14)) []])
(.seq (.cond (.t 16)
(.skip)
(.exit 0))
(.seq (.block 1 (.seq (.reg [iA 17 (.ia 6 (.t 13) (.t 15)) [16],
 iA 18 (.ld true 6 (.t 17)) [17],
 iA 5 (.alloc [(.d (.lit (.int .i64 0))), (.d (.lit (.string ⟨#[]⟩))), (.d (.lit (.int .i64 0))), (.d (.lit (.int .i64 0))), (.d (.lit (.string ⟨#[]⟩))), .nil]) [],
 iE (.st 6 (.t 5) (.t 18)) [18]])
(.seq (.reg [iA 19 (.ld true 6 (.t 5)) [5],
 iA 20 (.call 91 [(.t 19)]) [19],
 iM 6 20 [20]])
(.seq (.reg [iM 21 6 [],
 iA 22 (.bin .neq (.t 21) (.k (intV 0))) [21]])
(.cond (.t 22)
(.seq (.reg [iM 23 6 [13, 14, 15, 6, 22],
 iM 2 23 [23]])
(.ret))
(.skip))))))
(.reg [iA 24 (.bin .add (.t 15) (.k (intV 1))) [2, 15, 6, 22, 16],
 iM 15 24 [24]]))))
def c_syntax_nodes : AFun := ⟨.seq (.reg [iA 1 (.bx (.t 0)) [0],
 iA 2 (.mov (.k (intV 0))) [2]])
(.seq (.seq (.reg [iA 7 (.ld true 6 (.t 1)) [],
 iA 8 (.call 117 [(.t 7)]) [7],
 iM 3 8 [8]])
(.seq (.reg [iM 9 3 [],
 iA 10 (.bin .neq (.t 9) (.k (intV 0))) [9]])
(.cond (.t 10)
(.seq (.reg [iM 11 3 [1, 3, 10],
 iM 2 11 [11]])
(.ret))
(.skip))))
(.seq (.seq (.reg [iA 12 (.fa 5 (.t 1)) [2, 1, 3, 10],
 iA 13 (.ld false 1 (.t 12)) [12],
 iA 14 (.len (.t 13)) [],
 iA 15 (.mov (.k (intV 0))) []])
(.block 0 (.loop [13, 14, 15] c_syntax_nodes_L0)))
(.seq (.reg [iA 2 (.mov (.k (intV 0))) [13, 14, 15]])
(.ret)))),
 [.tmp 2]⟩
def o_syntax_nodes : List (Nat × List Nat) := []
theorem c_syntax_nodes_ok : cFun Tryz.prog o_syntax_nodes 91 = some c_syntax_nodes.erase := by kernel_rfl

/- syntax_list_add -/
def c_syntax_list_add : AFun := ⟨.seq (.reg [iA 4 (.mov (.k (intV 0))) [4]])
(.seq (.seq (.reg [iM 5 1 [],
 iA 6 (.call 54 [(.t 5)]) [5],
 iA 7 (.bnot (.t 6)) [6]])
(.cond (.t 7)
(.seq (.reg [iA 4 (.mov (.k (intV 3))) [0, 1, 7]])
(.ret))
(.skip)))
(.seq (.seq (.reg [iM 8 0 [4, 7],
 iA 9 (.nc (.t 8)) [8],
 iA 10 (.fa 0 (.t 9)) [9],
 iA 11 (.ld false 1 (.t 10)) [10],
 iM 12 1 [],
 iA 13 (.call 60 [(.t 11), (.t 12)]) [11, 12]])
(.cond (.t 13)
(.seq (.reg [iA 4 (.mov (.k (intV 4))) [0, 1, 13]])
(.ret))
(.skip)))
(.seq (.reg [iM 14 0 [4, 13],
 iM 15 0 [0],
 iA 16 (.nc (.t 15)) [15],
 iA 17 (.fa 0 (.t 16)) [16],
 iA 18 (.ld false 1 (.t 17)) [17],
 iM 19 1 [1],
 iA 20 (.lits 1 [(.t 19)]) [19],
 iA 21 (.app 1 16 (.t 18) (.t 20)) [18, 20],
 iA 22 (.nc (.t 14)) [14],
 iA 23 (.fa 0 (.t 22)) [22],
 iE (.st 1 (.t 23) (.t 21)) [21, 23]])
(.seq (.reg [iA 4 (.mov (.k (intV 0))) []])
(.ret))))),
 [.tmp 4]⟩
def o_syntax_list_add : List (Nat × List Nat) := []
theorem c_syntax_list_add_ok : cFun Tryz.prog o_syntax_list_add 92 = some c_syntax_list_add.erase := by kernel_rfl

/- syntax_list_all -/
def c_syntax_list_all_L0 : ACode := (.seq (.reg [iA 11 (.bin .lss (.t 10) (.t 9)) []])
(.seq (.cond (.t 11)
(.skip)
(.exit 0))
(.seq (.block 1 (.seq (.reg [iA 12 (.ia 1 (.t 8) (.t 10)) [11],
 iA 13 (.ld false 1 (.t 12)) [12],
 iM 6 13 [13]])
(.seq (.reg [iM 14 0 [],
 iM 15 6 [6],
 iA 16 (.callh 92 [(.t 14), (.t 15)]) [14, 15],
 iM 7 16 [16]])
(.seq (.reg [iM 17 7 [],
 iA 18 (.bin .neq (.t 17) (.k (intV 0))) [17]])
(.cond (.t 18)
(.seq (.reg [iM 19 7 [0, 8, 9, 10, 7, 18],
 iM 4 19 [19]])
(.ret))
(.skip))))))
(.reg [iA 20 (.bin .add (.t 10) (.k (intV 1))) [4, 10, 7, 18, 11],
 iM 10 20 [20]]))))
def c_syntax_list_all : AFun := ⟨.seq (.reg [iA 4 (.mov (.k (intV 0))) [4]])
(.seq (.seq (.reg [iM 8 1 [1],
 iA 9 (.len (.t 8)) [],
 iA 10 (.mov (.k (intV 0))) []])
(.block 0 (.loop [0, 8, 9, 10] c_syntax_list_all_L0)))
(.seq (.reg [iA 4 (.mov (.k (intV 0))) [0, 8, 9, 10]])
(.ret))),
 [.tmp 4]⟩
def o_syntax_list_all : List (Nat × List Nat) := [(1000004, [2])]
theorem c_syntax_list_all_ok : cFun Tryz.prog o_syntax_list_all 93 = some c_syntax_list_all.erase := by kernel_rfl

/- slices_ContainsFunc_ValueKind -/
def c_slices_ContainsFunc_ValueKind : AFun := ⟨.seq (.reg [iA 4 (.mov (.k (boolV false))) [4]])
(.seq (.reg [iM 5 0 [0],
 iM 6 1 [1],
 iA 7 (.call 118 [(.t 5), (.t 6)]) [5, 6],
 iA 8 (.bin .geq (.t 7) (.k (intV 0))) [7],
 iM 4 8 [8]])
(.ret)),
 [.tmp 4]⟩
def o_slices_ContainsFunc_ValueKind : List (Nat × List Nat) := []
theorem c_slices_ContainsFunc_ValueKind_ok : cFun Tryz.prog o_slices_ContainsFunc_ValueKind 94 = some c_slices_ContainsFunc_ValueKind.erase := by kernel_rfl

/- typing_all_1 -/
def c_typing_all_1 : AFun := ⟨.seq (.reg [iA 3 (.mov (.k (boolV false))) [3]])
(.seq (.reg [iM 4 0 [0],
 iA 5 (.ld false 1 (.t 1)) [1],
 iA 6 (.call 29 [(.t 4), (.t 5)]) [4, 5],
 iA 7 (.bnot (.t 6)) [6],
 iM 3 7 [7]])
(.ret)),
 [.tmp 3]⟩
def o_typing_all_1 : List (Nat × List Nat) := []
theorem c_typing_all_1_ok : cFun Tryz.prog o_typing_all_1 95 = some c_typing_all_1.erase := by kernel_rfl

/- slices_Index_string -/
def c_slices_Index_string_L0 : ACode := (.seq (.reg [iA 9 (.bin .lss (.t 8) (.t 7)) []])
(.seq (.cond (.t 9)
(.skip)
(.exit 0))
(.seq (.block 1 (.seq (.reg [iM 10 8 [9],
 iM 5 10 [10]])
(.seq (.reg [iM 11 1 [],
 iM 12 0 [],
 iM 13 5 [],
 iA 14 (.ia 1 (.t 12) (.t 13)) [12, 13],
 iA 15 (.ld false 1 (.t 14)) [14],
 iA 16 (.bin .eql (.t 11) (.t 15)) [11, 15]])
(.cond (.t 16)
(.seq (.reg [iM 17 5 [0, 1, 7, 8, 5, 16],
 iM 4 17 [17]])
(.ret))
(.skip)))))
(.reg [iA 18 (.bin .add (.t 8) (.k (intV 1))) [4, 8, 5, 16, 9],
 iM 8 18 [18]]))))
def c_slices_Index_string : AFun := ⟨.seq (.reg [iA 4 (.mov (.k (intV 0))) [4]])
(.seq (.seq (.reg [iM 6 0 [],
 iA 7 (.len (.t 6)) [6],
 iA 8 (.mov (.k (intV 0))) []])
(.block 0 (.loop [0, 1, 7, 8] c_slices_Index_string_L0)))
(.seq (.reg [iA 4 (.mov (.k (intV (-1)))) [0, 1, 7, 8]])
(.ret))),
 [.tmp 4]⟩
def o_slices_Index_string : List (Nat × List Nat) := []
theorem c_slices_Index_string_ok : cFun Tryz.prog o_slices_Index_string 96 = some c_slices_Index_string.erase := by kernel_rfl

/- slices_IndexFunc_string -/
def c_slices_IndexFunc_string_L0 : ACode := (.seq (.reg [iA 9 (.bin .lss (.t 8) (.t 7)) []])
(.seq (.cond (.t 9)
(.skip)
(.exit 0))
(.seq (.block 1 (.seq (.reg [iM 10 8 [9],
 iM 5 10 [10]])
(.seq (.reg [iM 11 1 [],
 iM 12 0 [],
 iM 13 5 [],
 iA 14 (.ia 1 (.t 12) (.t 13)) [12, 13],
 iA 15 (.ld false 1 (.t 14)) [14],
 iA 16 (.calv (.t 11) [(.t 15)]) [11, 15]])
(.cond (.t 16)
(.seq (.reg [iM 17 5 [0, 1, 7, 8, 5, 16],
 iM 4 17 [17]])
(.ret))
(.skip)))))
(.reg [iA 18 (.bin .add (.t 8) (.k (intV 1))) [4, 8, 5, 16, 9],
 iM 8 18 [18]]))))
def c_slices_IndexFunc_string : AFun := ⟨.seq (.reg [iA 4 (.mov (.k (intV 0))) [4]])
(.seq (.seq (.reg [iM 6 0 [],
 iA 7 (.len (.t 6)) [6],
 iA 8 (.mov (.k (intV 0))) []])
(.block 0 (.loop [0, 1, 7, 8] c_slices_IndexFunc_string_L0)))
(.seq (.reg [iA 4 (.mov (.k (intV (-1)))) [0, 1, 7, 8]])
(.ret))),
 [.tmp 4]⟩
def o_slices_IndexFunc_string : List (Nat × List Nat) := []
theorem c_slices_IndexFunc_string_ok : cFun Tryz.prog o_slices_IndexFunc_string 97 = some c_slices_IndexFunc_string.erase := by kernel_rfl

/- cmp_Compare_int -/
def c_cmp_Compare_int : AFun := ⟨.seq (.reg [iA 4 (.mov (.k (intV 0))) [4]])
(.seq (.reg [iM 7 0 [],
 iA 8 (.call 121 [(.t 7)]) [7],
 iM 5 8 [8]])
(.seq (.reg [iM 9 1 [],
 iA 10 (.call 121 [(.t 9)]) [9],
 iM 6 10 [10]])
(.seq (.seq (.reg [iM 11 5 [5]])
(.cond (.t 11)
(.seq (.seq (.reg [iM 12 6 [0, 1, 6, 11]])
(.cond (.t 12)
(.seq (.reg [iA 4 (.mov (.k (intV 0))) [12]])
(.ret))
(.skip)))
(.seq (.reg [iA 4 (.mov (.k (intV (-1)))) [12]])
(.ret)))
(.skip)))
(.seq (.seq (.reg [iM 13 6 [4, 6, 11]])
(.cond (.t 13)
(.seq (.reg [iA 4 (.mov (.k (intV 1))) [0, 1, 13]])
(.ret))
(.skip)))
(.seq (.seq (.reg [iM 14 0 [4, 13],
 iM 15 1 [],
 iA 16 (.bin .lss (.t 14) (.t 15)) [14, 15]])
(.cond (.t 16)
(.seq (.reg [iA 4 (.mov (.k (intV (-1)))) [0, 1, 16]])
(.ret))
(.skip)))
(.seq (.seq (.reg [iM 17 0 [4, 0, 16],
 iM 18 1 [1],
 iA 19 (.bin .gtr (.t 17) (.t 18)) [17, 18]])
(.cond (.t 19)
(.seq (.reg [iA 4 (.mov (.k (intV 1))) [19]])
(.ret))
(.skip)))
(.seq (.reg [iA 4 (.mov (.k (intV 0))) [19]])
(.ret)))))))),
 [.tmp 4]⟩
def o_cmp_Compare_int : List (Nat × List Nat) := []
theorem c_cmp_Compare_int_ok : cFun Tryz.prog o_cmp_Compare_int 99 = some c_cmp_Compare_int.erase := by kernel_rfl

/- cmp_Compare_ValueKind -/
def c_cmp_Compare_ValueKind : AFun := ⟨.seq (.reg [iA 4 (.mov (.k (intV 0))) [4]])
(.seq (.reg [iM 7 0 [],
 iA 8 (.call 122 [(.t 7)]) [7],
 iM 5 8 [8]])
(.seq (.reg [iM 9 1 [],
 iA 10 (.call 122 [(.t 9)]) [9],
 iM 6 10 [10]])
(.seq (.seq (.reg [iM 11 5 [5]])
(.cond (.t 11)
(.seq (.seq (.reg [iM 12 6 [0, 1, 6, 11]])
(.cond (.t 12)
(.seq (.reg [iA 4 (.mov (.k (intV 0))) [12]])
(.ret))
(.skip)))
(.seq (.reg [iA 4 (.mov (.k (intV (-1)))) [12]])
(.ret)))
(.skip)))
(.seq (.seq (.reg [iM 13 6 [4, 6, 11]])
(.cond (.t 13)
(.seq (.reg [iA 4 (.mov (.k (intV 1))) [0, 1, 13]])
(.ret))
(.skip)))
(.seq (.seq (.reg [iM 14 0 [4, 13],
 iM 15 1 [],
 iA 16 (.bin .lss (.t 14) (.t 15)) [14, 15]])
(.cond (.t 16)
(.seq (.reg [iA 4 (.mov (.k (intV (-1)))) [0, 1, 16]])
(.ret))
(.skip)))
(.seq (.seq (.reg [iM 17 0 [4, 0, 16],
 iM 18 1 [1],
 iA 19 (.bin .gtr (.t 17) (.t 18)) [17, 18]])
(.cond (.t 19)
(.seq (.reg [iA 4 (.mov (.k (intV 1))) [19]])
(.ret))
(.skip)))
(.seq (.reg [iA 4 (.mov (.k (intV 0))) [19]])
(.ret)))))))),
 [.tmp 4]⟩
def o_cmp_Compare_ValueKind : List (Nat × List Nat) := []
theorem c_cmp_Compare_ValueKind_ok : cFun Tryz.prog o_cmp_Compare_ValueKind 100 = some c_cmp_Compare_ValueKind.erase := by kernel_rfl

/- cmp_Compare_string -/
def c_cmp_Compare_string : AFun := ⟨.seq (.reg [iA 4 (.mov (.k (intV 0))) [4]])
(.seq (.reg [iM 7 0 [],
 iA 8 (.call 123 [(.t 7)]) [7],
 iM 5 8 [8]])
(.seq (.reg [iM 9 1 [],
 iA 10 (.call 123 [(.t 9)]) [9],
 iM 6 10 [10]])
(.seq (.seq (.reg [iM 11 5 [5]])
(.cond (.t 11)
(.seq (.seq (.reg [iM 12 6 [0, 1, 6, 11]])
(.cond (.t 12)
(.seq (.reg [iA 4 (.mov (.k (intV 0))) [12]])
(.ret))
(.skip)))
(.seq (.reg [iA 4 (.mov (.k (intV (-1)))) [12]])
(.ret)))
(.skip)))
(.seq (.seq (.reg [iM 13 6 [4, 6, 11]])
(.cond (.t 13)
(.seq (.reg [iA 4 (.mov (.k (intV 1))) [0, 1, 13]])
(.ret))
(.skip)))
(.seq (.seq (.reg [iM 14 0 [4, 13],
 iM 15 1 [],
 iA 16 (.bin .lss (.t 14) (.t 15)) [14, 15]])
(.cond (.t 16)
(.seq (.reg [iA 4 (.mov (.k (intV (-1)))) [0, 1, 16]])
(.ret))
(.skip)))
(.seq (.seq (.reg [iM 17 0 [4, 0, 16],
 iM 18 1 [1],
 iA 19 (.bin .gtr (.t 17) (.t 18)) [17, 18]])
(.cond (.t 19)
(.seq (.reg [iA 4 (.mov (.k (intV 1))) [19]])
(.ret))
(.skip)))
(.seq (.reg [iA 4 (.mov (.k (intV 0))) [19]])
(.ret)))))))),
 [.tmp 4]⟩
def o_cmp_Compare_string : List (Nat × List Nat) := []
theorem c_cmp_Compare_string_ok : cFun Tryz.prog o_cmp_Compare_string 101 = some c_cmp_Compare_string.erase := by kernel_rfl

/- slices_Contains_Value -/
def c_slices_Contains_Value : AFun := ⟨.seq (.reg [iA 3 (.bx (.t 1)) [1],
 iA 4 (.mov (.k (boolV false))) [4]])
(.seq (.reg [iM 5 0 [0],
 iA 6 (.ld true 3 (.t 3)) [3],
 iA 7 (.call 124 [(.t 5), (.t 6)]) [5, 6],
 iA 8 (.bin .geq (.t 7) (.k (intV 0))) [7],
 iM 4 8 [8]])
(.ret)),
 [.tmp 4]⟩
def o_slices_Contains_Value : List (Nat × List Nat) := []
theorem c_slices_Contains_Value_ok : cFun Tryz.prog o_slices_Contains_Value 102 = some c_slices_Contains_Value.erase := by kernel_rfl

/- slices_CompareFunc_Value -/
def c_slices_CompareFunc_Value_L0 : ACode := (.seq (.reg [iA 14 (.bin .lss (.t 13) (.t 12)) []])
(.seq (.cond (.t 14)
(.skip)
(.exit 0))
(.seq (.block 1 (.seq (.reg [iM 15 13 [14],
 iA 16 (.ia 3 (.t 11) (.t 13)) [],
 iA 17 (.ld true 3 (.t 16)) [16],
 iA 8 (.alloc [(.d (.lit (.int .i64 0))), (.d (.lit (.int .i64 0))), (.d (.lit (.string ⟨#[]⟩)))]) [],
 iM 7 15 [15],
 iE (.st 3 (.t 8) (.t 17)) [17]])
(.seq (.seq (.reg [iM 18 7 [],
 iM 19 1 [],
 iA 20 (.len (.t 19)) [19],
 iA 21 (.bin .geq (.t 18) (.t 20)) [18, 20]])
(.cond (.t 21)
(.seq (.reg [iA 6 (.mov (.k (intV 1))) [0, 1, 2, 11, 12, 13, 8, 7, 21]])
(.ret))
(.skip)))
(.seq (.reg [iM 22 1 [6, 21],
 iM 23 7 [7],
 iA 24 (.ia 3 (.t 22) (.t 23)) [22, 23],
 iA 25 (.ld true 3 (.t 24)) [24],
 iA 9 (.alloc [(.d (.lit (.int .i64 0))), (.d (.lit (.int .i64 0))), (.d (.lit (.string ⟨#[]⟩)))]) [],
 iE (.st 3 (.t 9) (.t 25)) [25]])
(.seq (.reg [iM 26 2 [],
 iA 27 (.ld true 3 (.t 8)) [8],
 iA 28 (.ld true 3 (.t 9)) [9],
 iA 29 (.calv (.t 26) [(.t 27), (.t 28)]) [26, 27, 28],
 iM 10 29 [29]])
(.seq (.reg [iM 30 10 [],
 iA 31 (.bin .neq (.t 30) (.k (intV 0))) [30]])
(.cond (.t 31)
(.seq (.reg [iM 32 10 [0, 1, 2, 11, 12, 13, 10, 31],
 iM 6 32 [32]])
(.ret))
(.skip))))))))
(.reg [iA 33 (.bin .add (.t 13) (.k (intV 1))) [6, 13, 10, 31, 14],
 iM 13 33 [33]]))))
def c_slices_CompareFunc_Value : AFun := ⟨.seq (.reg [iA 6 (.mov (.k (intV 0))) [6]])
(.seq (.seq (.reg [iM 11 0 [],
 iA 12 (.len (.t 11)) [],
 iA 13 (.mov (.k (intV 0))) []])
(.block 0 (.loop [0, 1, 2, 11, 12, 13] c_slices_CompareFunc_Value_L0)))
(.seq (.seq (.reg [iM 34 0 [0, 2, 11, 12, 13],
 iA 35 (.len (.t 34)) [34],
 iM 36 1 [1],
 iA 37 (.len (.t 36)) [36],
 iA 38 (.bin .lss (.t 35) (.t 37)) [35, 37]])
(.cond (.t 38)
(.seq (.reg [iA 6 (.mov (.k (intV (-1)))) [38]])
(.ret))
(.skip)))
(.seq (.reg [iA 6 (.mov (.k (intV 0))) [38]])
(.ret)))),
 [.tmp 6]⟩
def o_slices_CompareFunc_Value : List (Nat × List Nat) := []
theorem c_slices_CompareFunc_Value_ok : cFun Tryz.prog o_slices_CompareFunc_Value 105 = some c_slices_CompareFunc_Value.erase := by kernel_rfl

/- eval_truth -/
def c_eval_truth : AFun := ⟨.seq (.reg [iA 2 (.alloc [(.d (.lit (.int .i64 0))), (.d (.lit (.int .i64 0))), (.d (.lit (.string ⟨#[]⟩)))]) []])
(.seq (.seq (.reg [iM 3 0 [0]])
(.cond (.t 3)
(.seq (.reg [iA 4 (.build [(.d (.lit (.int .i64 0))), (.d (.lit (.int .i64 0))), (.d (.lit (.string ⟨#[]⟩)))] [(0, 1, (.k (intV 1))), (1, 1, (.k (intV 1)))]) [3],
 iE (.st 3 (.t 2) (.t 4)) [4]])
(.ret))
(.skip)))
(.seq (.reg [iA 5 (.build [(.d (.lit (.int .i64 0))), (.d (.lit (.int .i64 0))), (.d (.lit (.string ⟨#[]⟩)))] [(0, 1, (.k (intV 1)))]) [3],
 iE (.st 3 (.t 2) (.t 5)) [5]])
(.ret))),
 [.cell 2 true 3]⟩
def o_eval_truth : List (Nat × List Nat) := []
theorem c_eval_truth_ok : cFun Tryz.prog o_eval_truth 106 = some c_eval_truth.erase := by kernel_rfl

/- typing_Expr -/
def c_typing_Expr : AFun := ⟨.seq (.reg [iA 3 (.bx (.t 1)) [1],
 iA 4 (.mov (.k (intV 0))) [4],
 iA 5 (.mov (.k (intV 0))) [5]])
(.seq (.seq (.reg [iA 7 (.ld true 6 (.t 3)) [],
 iA 8 (.call 49 [(.t 7)]) [7],
 iM 6 8 [8]])
(.seq (.reg [iM 9 6 [],
 iA 10 (.bin .neq (.t 9) (.k (intV 0))) [9]])
(.cond (.t 10)
(.seq (.reg [iM 11 6 [0, 3, 6, 10],
 iA 4 (.mov (.k (intV 0))) [],
 iM 5 11 [11]])
(.ret))
(.skip))))
(.seq (.reg [iM 12 0 [4, 5, 0, 6, 10],
 iA 13 (.ld true 6 (.t 3)) [3],
 iA 14 (.call 28 [(.t 12), (.t 13)]) [12, 13],
 iA 15 (.ext (.t 14) 0) [],
 iA 16 (.ext (.t 14) 1) [14],
 iM 4 15 [15],
 iM 5 16 [16]])
(.ret))),
 [.tmp 4, .tmp 5]⟩
def o_typing_Expr : List (Nat × List Nat) := []
theorem c_typing_Expr_ok : cFun Tryz.prog o_typing_Expr 107 = some c_typing_Expr.erase := by kernel_rfl

/- eval_fits -/
def c_eval_fits_L0 : ACode := (.seq (.reg [iA 15 (.bin .lss (.t 14) (.t 13)) []])
(.seq (.cond (.t 15)
(.skip)
(.exit 0))
(.seq (.block 1 (.seq (.reg [iM 16 14 [15],
 iA 17 (.ia 3 (.t 12) (.t 14)) [],
 iA 18 (.ld true 3 (.t 17)) [17],
 iA 6 (.alloc [(.d (.lit (.int .i64 0))), (.d (.lit (.int .i64 0))), (.d (.lit (.string ⟨#[]⟩)))]) [],
 iM 5 16 [16],
 iE (.st 3 (.t 6) (.t 18)) [18]])
(.seq (.reg [iM 19 0 [],
 iM 20 5 [5],
 iA 21 (.ia 2 (.t 19) (.t 20)) [19, 20],
 iA 22 (.fa 1 (.t 21)) [21],
 iA 23 (.ld false 1 (.t 22)) [22],
 iA 24 (.ld true 3 (.t 6)) [6],
 iA 25 (.call 26 [(.t 23), (.t 24)]) [23, 24],
 iA 26 (.bin .neq (.t 25) (.k (intV 0))) [25]])
(.cond (.t 26)
(.seq (.reg [iA 4 (.mov (.k (boolV false))) [0, 12, 13, 14, 26]])
(.ret))
(.skip)))))
(.reg [iA 27 (.bin .add (.t 14) (.k (intV 1))) [4, 14, 26, 15],
 iM 14 27 [27]]))))
def c_eval_fits : AFun := ⟨.seq (.reg [iA 4 (.mov (.k (boolV false))) [4]])
(.seq (.seq (.reg [iM 7 0 [],
 iA 8 (.len (.t 7)) [7],
 iM 9 1 [],
 iA 10 (.len (.t 9)) [9],
 iA 11 (.bin .neq (.t 8) (.t 10)) [8, 10]])
(.cond (.t 11)
(.seq (.reg [iA 4 (.mov (.k (boolV false))) [0, 1, 11]])
(.ret))
(.skip)))
(.seq (.seq (.reg [iM 12 1 [4, 1, 11],
 iA 13 (.len (.t 12)) [],
 iA 14 (.mov (.k (intV 0))) []])
(.block 0 (.loop [0, 12, 13, 14] c_eval_fits_L0)))
(.seq (.reg [iA 4 (.mov (.k (boolV true))) [0, 12, 13, 14]])
(.ret)))),
 [.tmp 4]⟩
def o_eval_fits : List (Nat × List Nat) := [(6, [0, 1, 2, 3, 4, 5, 6, 7])]
theorem c_eval_fits_ok : cFun Tryz.prog o_eval_fits 108 = some c_eval_fits.erase := by kernel_rfl

/- eval_value -/
def c_eval_value_L0 : ACode := (.seq (.reg [iA 30 (.bin .lss (.t 29) (.t 28)) []])
(.seq (.cond (.t 30)
(.skip)
(.exit 1))
(.seq (.block 2 (.seq (.reg [iA 31 (.ia 6 (.t 27) (.t 29)) [30],
 iA 32 (.ld true 6 (.t 31)) [31],
 iA 10 (.alloc [(.d (.lit (.int .i64 0))), (.d (.lit (.string ⟨#[]⟩))), (.d (.lit (.int .i64 0))), (.d (.lit (.int .i64 0))), (.d (.lit (.string ⟨#[]⟩))), .nil]) [],
 iE (.st 6 (.t 10) (.t 32)) [32]])
(.seq (.reg [iM 33 0 [],
 iM 34 1 [],
 iA 35 (.ld true 6 (.t 10)) [10],
 iA 36 (.call 109 [(.t 33), (.t 34), (.t 35)]) [33, 34, 35],
 iA 11 (.alloc [(.d (.lit (.int .i64 0))), (.d (.lit (.int .i64 0))), (.d (.lit (.string ⟨#[]⟩)))]) [],
 iE (.st 3 (.t 11) (.t 36)) [36]])
(.seq (.reg [iM 37 8 [8],
 iG 38 37 [37],
 iC 39 38 (.fa 0 (.t 11)) [],
 iC 40 38 (.ld false 1 (.t 39)) [39],
 iC 41 38 (.bin .eql (.t 40) (.k (intV 0))) [40],
 iA 42 (.pick (.t 38) (.k (boolV true)) (.t 41)) [38, 41, 40, 39],
 iM 8 42 [42]])
(.reg [iM 43 7 [7],
 iA 44 (.ld true 3 (.t 11)) [11],
 iA 45 (.lits 3 [(.t 44)]) [44],
 iA 46 (.app 3 32 (.t 43) (.t 45)) [43, 45],
 iM 7 46 [46]])))))
(.reg [iA 47 (.bin .add (.t 29) (.k (intV 1))) [29, 30],
 iM 29 47 [47]]))))
def c_eval_value : AFun := ⟨.seq (.reg [iA 5 (.bx (.t 2)) [2],
 iA 6 (.alloc [(.d (.lit (.int .i64 0))), (.d (.lit (.int .i64 0))), (.d (.lit (.string ⟨#[]⟩)))]) []])
(.seq (.seq (.reg [iA 12 (.fa 0 (.t 5)) [],
 iA 13 (.ld false 1 (.t 12)) [12]])
(.block 0 (.seq (.reg [iA 15 (.bin .eql (.t 13) (.k (intV 1))) [],
 iM 14 15 [15]])
(.cond (.t 14)
(.seq (.reg [iA 16 (.fa 2 (.t 5)) [0, 1, 5, 13, 14],
 iA 17 (.ld true 3 (.t 16)) [16],
 iE (.st 3 (.t 6) (.t 17)) [17]])
(.ret))
(.seq (.reg [iA 19 (.bin .eql (.t 13) (.k (intV 2))) [13, 14],
 iM 18 19 [19]])
(.cond (.t 18)
(.seq (.reg [iM 20 1 [1, 18],
 iM 21 0 [0],
 iA 22 (.clof 127 [(.t 5)]) [5],
 iA 23 (.call 45 [(.t 21), (.t 22)]) [21, 22],
 iA 24 (.ia 3 (.t 20) (.t 23)) [20, 23],
 iA 25 (.ld true 3 (.t 24)) [24],
 iE (.st 3 (.t 6) (.t 25)) [25]])
(.ret))
(.skip)))))))
(.seq (.reg [iA 7 (.mov (.k (.w (.c .nil)))) [18, 13]])
(.seq (.reg [iA 8 (.mov (.k (boolV false))) []])
(.seq (.seq (.reg [iA 26 (.fa 5 (.t 5)) [],
 iA 27 (.ld false 1 (.t 26)) [26],
 iA 28 (.len (.t 27)) [],
 iA 29 (.mov (.k (intV 0))) []])
(.block 1 (.loop [0, 1, 5, 6, 7, 8, 27, 28, 29] c_eval_value_L0)))
(.seq (.block 3 (.seq (.reg [iA 49 (.fa 0 (.t 5)) [0, 1, 27, 28, 29],
 iA 50 (.ld false 1 (.t 49)) [49],
 iA 51 (.bin .eql (.t 50) (.k (intV 14))) [50],
 iM 48 51 [51]])
(.cond (.t 48)
(.seq (.reg [iM 52 7 [5, 8, 48],
 iA 53 (.ia 3 (.t 52) (.k (intV 0))) [52],
 iA 54 (.ld true 3 (.t 53)) [53],
 iM 55 7 [7],
 iA 56 (.ia 3 (.t 55) (.k (intV 1))) [55],
 iA 57 (.ld true 3 (.t 56)) [56],
 iA 58 (.call 128 [(.t 54), (.t 57)]) [54, 57],
 iE (.st 3 (.t 6) (.t 58)) [58]])
(.ret))
(.seq (.reg [iA 60 (.fa 0 (.t 5)) [48],
 iA 61 (.ld false 1 (.t 60)) [60],
 iA 62 (.bin .eql (.t 61) (.k (intV 15))) [61],
 iM 59 62 [62]])
(.cond (.t 59)
(.seq (.reg [iM 63 7 [5, 8, 59],
 iA 64 (.ia 3 (.t 63) (.k (intV 0))) [63],
 iA 65 (.ld true 3 (.t 64)) [64],
 iM 67 7 [7],
 iA 68 (.ia 3 (.t 67) (.k (intV 1))) [67],
 iA 69 (.ld true 3 (.t 68)) [68],
 iA 66 (.call 129 [(.t 65)]) [65],
 iA 70 (.call 129 [(.t 69)]) [69],
 iA 71 (.call 128 [(.t 66), (.t 70)]) [66, 70],
 iA 72 (.call 129 [(.t 71)]) [71],
 iE (.st 3 (.t 6) (.t 72)) [72]])
(.ret))
(.seq (.reg [iM 74 8 [8, 59],
 iM 73 74 [74]])
(.cond (.t 73)
(.seq (.reg [iA 75 (.build [(.d (.lit (.int .i64 0))), (.d (.lit (.int .i64 0))), (.d (.lit (.string ⟨#[]⟩)))] []) [5, 7, 73],
 iE (.st 3 (.t 6) (.t 75)) [75]])
(.ret))
(.skip))))))))
(.seq (.reg [iA 76 (.ld true 6 (.t 5)) [5, 73, 0, 1, 27, 28, 8, 29],
 iM 77 7 [7],
 iA 78 (.call 130 [(.t 76), (.t 77)]) [76, 77],
 iE (.st 3 (.t 6) (.t 78)) [78]])
(.ret))))))),
 [.cell 6 true 3]⟩
def o_eval_value : List (Nat × List Nat) := [(1000005, [2]), (16, [0, 1, 2, 3, 4, 5, 6, 7]), (18, [0, 1, 2, 4, 5, 6, 3, 7, 8, 9, 10])]
theorem c_eval_value_ok : cFun Tryz.prog o_eval_value 109 = some c_eval_value.erase := by kernel_rfl

/- naive_groups -/
def c_naive_groups_L0 : ACode := (.seq (.reg [iA 22 (.bin .lss (.t 21) (.t 20)) []])
(.seq (.cond (.t 22)
(.skip)
(.exit 0))
(.seq (.block 1 (.seq (.reg [iA 23 (.ia 1 (.t 19) (.t 21)) [22],
 iA 24 (.ld false 1 (.t 23)) [23],
 iM 7 24 [24]])
(.seq (.reg [iM 25 7 [],
 iM 26 1 [],
 iA 27 (.call 113 [(.t 25), (.t 26)]) [25, 26],
 iM 8 27 [27]])
(.seq (.reg [iM 29 5 [],
 iM 30 8 [],
 iA 31 (.call 131 [(.t 29), (.t 30), (.k (.w (.c (.clo 132 []))))]) [29, 30],
 iM 28 31 [31],
 iA 32 (.ext (.t 28) 0) [],
 iA 33 (.ext (.t 28) 1) [28],
 iM 9 32 [32],
 iM 10 33 [33]])
(.seq (.seq (.reg [iM 34 10 [10],
 iA 35 (.bnot (.t 34)) [34]])
(.cond (.t 35)
(.reg [iM 36 5 [5, 35],
 iM 37 9 [],
 iM 38 8 [8],
 iA 39 (.build [.nil, .nil] [(0, 1, (.t 38))]) [38],
 iA 40 (.lits 2 [(.t 39)]) [39],
 iA 41 (.call 133 [(.t 36), (.t 37), (.t 40)]) [36, 37, 40],
 iM 5 41 [41]])
(.skip)))
(.reg [iM 42 5 [8, 35],
 iM 43 9 [],
 iM 44 5 [],
 iM 45 9 [9],
 iA 46 (.ia 2 (.t 44) (.t 45)) [44, 45],
 iA 47 (.fa 1 (.t 46)) [46],
 iA 48 (.ld false 1 (.t 47)) [47],
 iM 49 7 [7],
 iA 50 (.lits 1 [(.t 49)]) [49],
 iA 51 (.app 1 24 (.t 48) (.t 50)) [48, 50],
 iA 52 (.ia 2 (.t 42) (.t 43)) [42, 43],
 iA 53 (.fa 1 (.t 52)) [52],
 iE (.st 1 (.t 53) (.t 51)) [51, 53]]))))))
(.reg [iA 54 (.bin .add (.t 21) (.k (intV 1))) [21, 22],
 iM 21 54 [54]]))))
def c_naive_groups : AFun := ⟨.seq (.reg [iA 2 (.bx (.t 0)) [0],
 iA 4 (.mov (.k (.w (.c .nil)))) [4]])
(.seq (.seq (.reg [iM 11 1 [],
 iA 12 (.len (.t 11)) [11],
 iA 13 (.bin .eql (.t 12) (.k (intV 0))) [12]])
(.cond (.t 13)
(.seq (.reg [iA 14 (.fa 1 (.t 2)) [1, 2, 13],
 iA 15 (.ld false 1 (.t 14)) [14],
 iA 16 (.build [.nil, .nil] [(1, 1, (.t 15))]) [15],
 iA 17 (.lits 2 [(.t 16)]) [16],
 iM 4 17 [17]])
(.ret))
(.skip)))
(.seq (.reg [iA 5 (.mov (.k (.w (.c .nil)))) [4, 13]])
(.seq (.seq (.reg [iA 18 (.fa 1 (.t 2)) [2],
 iA 19 (.ld false 1 (.t 18)) [18],
 iA 20 (.len (.t 19)) [],
 iA 21 (.mov (.k (intV 0))) []])
(.block 0 (.loop [1, 5, 19, 20, 21] c_naive_groups_L0)))
(.seq (.reg [iM 55 5 [1, 19, 20, 5, 21],
 iM 4 55 [55]])
(.ret))))),
 [.tmp 4]⟩
def o_naive_groups : List (Nat × List Nat) := []
theorem c_naive_groups_ok : cFun Tryz.prog o_naive_groups 110 = some c_naive_groups.erase := by kernel_rfl

/- naive_places -/
def c_naive_places_L0 : ACode := (.seq (.reg [iA 11 (.bin .lss (.t 10) (.t 9)) []])
(.seq (.cond (.t 11)
(.skip)
(.exit 0))
(.seq (.block 1 (.seq (.reg [iA 12 (.ia 1 (.t 8) (.t 10)) [11],
 iA 13 (.ld false 1 (.t 12)) [12],
 iM 7 13 [13]])
(.reg [iM 14 5 [5],
 iA 15 (.ld true 2 (.t 2)) [],
 iM 16 7 [7],
 iA 17 (.call 25 [(.t 15), (.t 16)]) [15, 16],
 iA 18 (.lits 1 [(.t 17)]) [17],
 iA 19 (.app 1 8 (.t 14) (.t 18)) [14, 18],
 iM 5 19 [19]])))
(.reg [iA 20 (.bin .add (.t 10) (.k (intV 1))) [10, 11],
 iM 10 20 [20]]))))
def c_naive_places : AFun := ⟨.seq (.reg [iA 2 (.bx (.t 0)) [0],
 iA 4 (.mov (.k (.w (.c .nil)))) [4]])
(.seq (.reg [iA 5 (.mov (.k (.w (.c .nil)))) []])
(.seq (.seq (.reg [iM 8 1 [1],
 iA 9 (.len (.t 8)) [],
 iA 10 (.mov (.k (intV 0))) []])
(.block 0 (.loop [2, 5, 8, 9, 10] c_naive_places_L0)))
(.seq (.reg [iM 21 5 [2, 8, 9, 5, 10],
 iM 4 21 [21]])
(.ret)))),
 [.tmp 4]⟩
def o_naive_places : List (Nat × List Nat) := []
theorem c_naive_places_ok : cFun Tryz.prog o_naive_places 111 = some c_naive_places.erase := by kernel_rfl

/- eval_Agg -/
def c_eval_Agg_L0 : ACode := (.seq (.reg [iA 11 (.bin .lss (.t 10) (.t 9)) []])
(.seq (.cond (.t 11)
(.skip)
(.exit 0))
(.seq (.block 1 (.seq (.reg [iA 12 (.ia 3 (.t 8) (.t 10)) [11],
 iA 13 (.ld true 3 (.t 12)) [12],
 iA 7 (.alloc [(.d (.lit (.int .i64 0))), (.d (.lit (.int .i64 0))), (.d (.lit (.string ⟨#[]⟩)))]) [],
 iE (.st 3 (.t 7) (.t 13)) [13]])
(.seq (.reg [iA 14 (.fa 0 (.t 7)) [],
 iA 15 (.ld false 1 (.t 14)) [14],
 iA 16 (.bin .neq (.t 15) (.k (intV 0))) [15]])
(.cond (.t 16)
(.reg [iM 17 5 [5, 16],
 iA 18 (.ld true 3 (.t 7)) [7],
 iA 19 (.lits 3 [(.t 18)]) [18],
 iA 20 (.app 3 32 (.t 17) (.t 19)) [17, 19],
 iM 5 20 [20]])
(.skip)))))
(.reg [iA 21 (.bin .add (.t 10) (.k (intV 1))) [10, 7, 16, 11],
 iM 10 21 [21]]))))
def c_eval_Agg : AFun := ⟨.seq (.reg [iA 4 (.alloc [(.d (.lit (.int .i64 0))), (.d (.lit (.int .i64 0))), (.d (.lit (.string ⟨#[]⟩)))]) []])
(.seq (.reg [iA 5 (.mov (.k (.w (.c .nil)))) []])
(.seq (.seq (.reg [iM 8 1 [],
 iA 9 (.len (.t 8)) [],
 iA 10 (.mov (.k (intV 0))) []])
(.block 0 (.loop [0, 1, 4, 5, 8, 9, 10] c_eval_Agg_L0)))
(.seq (.block 2 (.seq (.reg [iM 23 0 [8, 9, 10],
 iA 24 (.bin .eql (.t 23) (.k (.w (.c (.d (.lit (.string ⟨#[99, 111, 117, 110, 116]⟩))))))) [23],
 iM 22 24 [24]])
(.cond (.t 22)
(.seq (.reg [iM 25 1 [0, 1, 5, 22],
 iA 26 (.len (.t 25)) [25],
 iA 27 (.call 134 [(.t 26), (.k (boolV true))]) [26],
 iE (.st 3 (.t 4) (.t 27)) [27]])
(.ret))
(.seq (.reg [iM 29 0 [22],
 iA 30 (.bin .eql (.t 29) (.k (.w (.c (.d (.lit (.string ⟨#[115, 117, 109]⟩))))))) [29],
 iM 28 30 [30]])
(.cond (.t 28)
(.seq (.reg [iM 31 5 [0, 1, 5, 28],
 iA 32 (.call 135 [(.t 31)]) [31],
 iE (.st 3 (.t 4) (.t 32)) [32]])
(.ret))
(.seq (.reg [iM 34 0 [28],
 iA 35 (.bin .eql (.t 34) (.k (.w (.c (.d (.lit (.string ⟨#[102, 105, 114, 115, 116]⟩))))))) [34],
 iG 36 35 [35],
 iN 37 36 1 [],
 iB 38 36 (.len (.t 37)) [37],
 iB 39 36 (.bin .gtr (.t 38) (.k (intV 0))) [38],
 iA 40 (.pick (.t 36) (.t 39) (.k (boolV false))) [36, 39, 38, 37],
 iM 33 40 [40]])
(.cond (.t 33)
(.seq (.reg [iM 41 1 [0, 1, 5, 33],
 iA 42 (.ia 3 (.t 41) (.k (intV 0))) [41],
 iA 43 (.ld true 3 (.t 42)) [42],
 iE (.st 3 (.t 4) (.t 43)) [43]])
(.ret))
(.seq (.reg [iM 45 0 [1, 33],
 iA 46 (.bin .eql (.t 45) (.k (.w (.c (.d (.lit (.string ⟨#[109, 105, 110]⟩))))))) [45],
 iG 47 46 [46],
 iN 48 47 5 [],
 iB 49 47 (.len (.t 48)) [48],
 iB 50 47 (.bin .gtr (.t 49) (.k (intV 0))) [49],
 iA 51 (.pick (.t 47) (.t 50) (.k (boolV false))) [47, 50, 49, 48],
 iM 44 51 [51]])
(.cond (.t 44)
(.seq (.reg [iM 52 5 [0, 5, 44],
 iA 53 (.call 136 [(.t 52), (.k (.w (.c (.clo 70 []))))]) [52],
 iE (.st 3 (.t 4) (.t 53)) [53]])
(.ret))
(.seq (.reg [iM 55 0 [0, 44],
 iA 56 (.bin .eql (.t 55) (.k (.w (.c (.d (.lit (.string ⟨#[109, 97, 120]⟩))))))) [55],
 iG 57 56 [56],
 iN 58 57 5 [],
 iB 59 57 (.len (.t 58)) [58],
 iB 60 57 (.bin .gtr (.t 59) (.k (intV 0))) [59],
 iA 61 (.pick (.t 57) (.t 60) (.k (boolV false))) [57, 60, 59, 58],
 iM 54 61 [61]])
(.cond (.t 54)
(.seq (.reg [iM 62 5 [5, 54],
 iA 63 (.call 137 [(.t 62), (.k (.w (.c (.clo 70 []))))]) [62],
 iE (.st 3 (.t 4) (.t 63)) [63]])
(.ret))
(.skip))))))))))))
(.seq (.reg [iA 64 (.build [(.d (.lit (.int .i64 0))), (.d (.lit (.int .i64 0))), (.d (.lit (.string ⟨#[]⟩)))] []) [5, 54, 0, 1, 8, 9, 10],
 iE (.st 3 (.t 4) (.t 64)) [64]])
(.ret))))),
 [.cell 4 true 3]⟩
def o_eval_Agg : List (Nat × List Nat) := []
theorem c_eval_Agg_ok : cFun Tryz.prog o_eval_Agg 112 = some c_eval_Agg.erase := by kernel_rfl

/- naive_pick -/
def c_naive_pick_L0 : ACode := (.seq (.reg [iA 11 (.bin .lss (.t 10) (.t 9)) []])
(.seq (.cond (.t 11)
(.skip)
(.exit 0))
(.seq (.block 1 (.seq (.reg [iA 12 (.ia 1 (.t 8) (.t 10)) [11],
 iA 13 (.ld false 1 (.t 12)) [12],
 iM 7 13 [13]])
(.reg [iM 14 5 [5],
 iM 15 0 [],
 iM 16 7 [7],
 iA 17 (.ia 3 (.t 15) (.t 16)) [15, 16],
 iA 18 (.ld true 3 (.t 17)) [17],
 iA 19 (.lits 3 [(.t 18)]) [18],
 iA 20 (.app 3 32 (.t 14) (.t 19)) [14, 19],
 iM 5 20 [20]])))
(.reg [iA 21 (.bin .add (.t 10) (.k (intV 1))) [10, 11],
 iM 10 21 [21]]))))
def c_naive_pick : AFun := ⟨.seq (.reg [iA 4 (.mov (.k (.w (.c .nil)))) [4]])
(.seq (.reg [iA 5 (.mov (.k (.w (.c .nil)))) []])
(.seq (.seq (.reg [iM 8 1 [1],
 iA 9 (.len (.t 8)) [],
 iA 10 (.mov (.k (intV 0))) []])
(.block 0 (.loop [0, 5, 8, 9, 10] c_naive_pick_L0)))
(.seq (.reg [iM 22 5 [0, 8, 9, 5, 10],
 iM 4 22 [22]])
(.ret)))),
 [.tmp 4]⟩
def o_naive_pick : List (Nat × List Nat) := []
theorem c_naive_pick_ok : cFun Tryz.prog o_naive_pick 113 = some c_naive_pick.erase := by kernel_rfl

/- slices_Concat_Value -/
def c_slices_Concat_Value_L0 : ACode := (.seq (.reg [iA 12 (.bin .lss (.t 11) (.t 10)) []])
(.seq (.cond (.t 12)
(.skip)
(.exit 0))
(.seq (.block 1 (.seq (.reg [iA 13 (.ia 1 (.t 9) (.t 11)) [12],
 iA 14 (.ld false 1 (.t 13)) [13],
 iM 5 14 [14]])
(.seq (.reg [iM 15 3 [3],
 iM 16 5 [5],
 iA 17 (.len (.t 16)) [16],
 iA 18 (.bin .add (.t 15) (.t 17)) [15, 17],
 iM 3 18 [18]])
(.seq (.reg [iM 19 3 [],
 iA 20 (.bin .lss (.t 19) (.k (intV 0))) [19]])
(.cond (.t 20)
(.reg [iA 21 (.stop) [20, 21],
 iE (.stop) []])
(.skip))))))
(.reg [iA 22 (.bin .add (.t 11) (.k (intV 1))) [11, 20, 12],
 iM 11 22 [22]]))))
def c_slices_Concat_Value_L1 : ACode := (.seq (.reg [iA 28 (.bin .lss (.t 27) (.t 26)) []])
(.seq (.cond (.t 28)
(.skip)
(.exit 2))
(.seq (.block 3 (.seq (.reg [iA 29 (.ia 1 (.t 25) (.t 27)) [28],
 iA 30 (.ld false 1 (.t 29)) [29],
 iM 8 30 [30]])
(.reg [iM 31 6 [6],
 iM 32 8 [8],
 iA 33 (.app 3 32 (.t 31) (.t 32)) [31, 32],
 iM 6 33 [33]])))
(.reg [iA 34 (.bin .add (.t 27) (.k (intV 1))) [27, 28],
 iM 27 34 [34]]))))
def c_slices_Concat_Value : AFun := ⟨.seq (.reg [iA 2 (.mov (.k (.w (.c .nil)))) [2]])
(.seq (.reg [iA 3 (.mov (.k (intV 0))) []])
(.seq (.seq (.reg [iM 9 0 [],
 iA 10 (.len (.t 9)) [],
 iA 11 (.mov (.k (intV 0))) []])
(.block 0 (.loop [0, 3, 9, 10, 11] c_slices_Concat_Value_L0)))
(.seq (.reg [iM 23 3 [9, 10, 3, 11],
 iA 24 (.callh 138 [(.k (.w (.c .nil))), (.t 23)]) [23],
 iM 6 24 [24]])
(.seq (.seq (.reg [iM 25 0 [0],
 iA 26 (.len (.t 25)) [],
 iA 27 (.mov (.k (intV 0))) []])
(.block 2 (.loop [6, 25, 26, 27] c_slices_Concat_Value_L1)))
(.seq (.reg [iM 35 6 [25, 26, 6, 27],
 iM 2 35 [35]])
(.ret)))))),
 [.tmp 2]⟩
def o_slices_Concat_Value : List (Nat × List Nat) := [(1000009, [1])]
theorem c_slices_Concat_Value_ok : cFun Tryz.prog o_slices_Concat_Value 114 = some c_slices_Concat_Value.erase := by kernel_rfl

/- slices_Index_StepOp -/
def c_slices_Index_StepOp_L0 : ACode := (.seq (.reg [iA 9 (.bin .lss (.t 8) (.t 7)) []])
(.seq (.cond (.t 9)
(.skip)
(.exit 0))
(.seq (.block 1 (.seq (.reg [iM 10 8 [9],
 iM 5 10 [10]])
(.seq (.reg [iM 11 1 [],
 iM 12 0 [],
 iM 13 5 [],
 iA 14 (.ia 1 (.t 12) (.t 13)) [12, 13],
 iA 15 (.ld false 1 (.t 14)) [14],
 iA 16 (.bin .eql (.t 11) (.t 15)) [11, 15]])
(.cond (.t 16)
(.seq (.reg [iM 17 5 [0, 1, 7, 8, 5, 16],
 iM 4 17 [17]])
(.ret))
(.skip)))))
(.reg [iA 18 (.bin .add (.t 8) (.k (intV 1))) [4, 8, 5, 16, 9],
 iM 8 18 [18]]))))
def c_slices_Index_StepOp : AFun := ⟨.seq (.reg [iA 4 (.mov (.k (intV 0))) [4]])
(.seq (.seq (.reg [iM 6 0 [],
 iA 7 (.len (.t 6)) [6],
 iA 8 (.mov (.k (intV 0))) []])
(.block 0 (.loop [0, 1, 7, 8] c_slices_Index_StepOp_L0)))
(.seq (.reg [iA 4 (.mov (.k (intV (-1)))) [0, 1, 7, 8]])
(.ret))),
 [.tmp 4]⟩
def o_slices_Index_StepOp : List (Nat × List Nat) := []
theorem c_slices_Index_StepOp_ok : cFun Tryz.prog o_slices_Index_StepOp 116 = some c_slices_Index_StepOp.erase := by kernel_rfl

/- syntax_node -/
def c_syntax_node : AFun := ⟨.seq (.reg [iA 1 (.bx (.t 0)) [0],
 iA 2 (.mov (.k (intV 0))) [2]])
(.seq (.reg [iA 3 (.mov (.k (intV 2))) [],
 iA 4 (.mov (.k (boolV false))) [],
 iA 5 (.mov (.k (boolV false))) []])
(.seq (.block 0 (.seq (.reg [iA 7 (.fa 0 (.t 1)) [],
 iA 8 (.ld false 1 (.t 7)) [7],
 iA 9 (.bin .eql (.t 8) (.k (intV 1))) [8],
 iM 6 9 [9]])
(.cond (.t 6)
(.reg [iA 3 (.mov (.k (intV 0))) [5, 6],
 iA 5 (.mov (.k (boolV true))) []])
(.seq (.reg [iA 11 (.fa 0 (.t 1)) [6],
 iA 12 (.ld false 1 (.t 11)) [11],
 iA 13 (.bin .eql (.t 12) (.k (intV 2))) [12],
 iM 10 13 [13]])
(.cond (.t 10)
(.reg [iA 3 (.mov (.k (intV 0))) [4, 10],
 iA 4 (.mov (.k (boolV true))) []])
(.seq (.reg [iA 15 (.fa 0 (.t 1)) [10],
 iA 16 (.ld false 1 (.t 15)) [15],
 iA 17 (.bin .eql (.t 16) (.k (intV 3))) [16],
 iG 18 17 [17],
 iC 19 18 (.fa 0 (.t 1)) [],
 iC 20 18 (.ld false 1 (.t 19)) [19],
 iC 21 18 (.bin .eql (.t 20) (.k (intV 4))) [20],
 iA 22 (.pick (.t 18) (.k (boolV true)) (.t 21)) [18, 21, 20, 19],
 iM 14 22 [22]])
(.cond (.t 14)
(.reg [iA 3 (.mov (.k (intV 1))) [14]])
(.seq (.reg [iA 24 (.fa 0 (.t 1)) [14],
 iA 25 (.ld false 1 (.t 24)) [24],
 iA 26 (.bin .eql (.t 25) (.k (intV 16))) [25],
 iM 23 26 [26]])
(.cond (.t 23)
(.reg [iA 27 (.fa 5 (.t 1)) [3, 4, 23],
 iA 28 (.ld false 1 (.t 27)) [27],
 iA 29 (.len (.t 28)) [28],
 iM 3 29 [29],
 iA 4 (.mov (.k (boolV true))) []])
(.seq (.reg [iA 31 (.fa 0 (.t 1)) [23],
 iA 32 (.ld false 1 (.t 31)) [31],
 iA 33 (.bin .lss (.t 32) (.k (intV 5))) [32],
 iG 34 33 [33],
 iC 35 34 (.fa 0 (.t 1)) [],
 iC 36 34 (.ld false 1 (.t 35)) [35],
 iC 37 34 (.bin .gtr (.t 36) (.k (intV 15))) [36],
 iA 38 (.pick (.t 34) (.k (boolV true)) (.t 37)) [34, 37, 36, 35],
 iM 30 38 [38]])
(.cond (.t 30)
(.seq (.reg [iA 2 (.mov (.k (intV 1))) [1, 3, 4, 5, 30]])
(.ret))
(.skip))))))))))))
(.seq (.block 1 (.seq (.seq (.reg [iA 40 (.fa 5 (.t 1)) [2, 30],
 iA 41 (.ld false 1 (.t 40)) [40],
 iA 42 (.len (.t 41)) [41],
 iM 43 3 [],
 iA 44 (.bin .neq (.t 42) (.t 43)) [42, 43],
 iM 39 44 [44]])
(.cond (.t 39)
(.skip)
(.seq (.reg [iA 45 (.fa 1 (.t 1)) [39],
 iA 46 (.ld false 1 (.t 45)) [45],
 iA 47 (.bin .neq (.t 46) (.k (.w (.c (.d (.lit (.string ⟨#[]⟩))))))) [46],
 iG 48 47 [47],
 iN 49 48 4 [],
 iB 50 48 (.bnot (.t 49)) [49],
 iA 51 (.pick (.t 48) (.t 50) (.k (boolV false))) [48, 50, 49],
 iM 39 51 [51]])
(.cond (.t 39)
(.skip)
(.reg [iA 52 (.fa 2 (.t 1)) [39],
 iA 53 (.ld true 3 (.t 52)) [52],
 iA 54 (.build [(.d (.lit (.int .i64 0))), (.d (.lit (.int .i64 0))), (.d (.lit (.string ⟨#[]⟩)))] []) [],
 iA 55 (.eqa true [0, 0, 1] (.t 53) (.t 54)) [53, 54],
 iG 56 55 [55],
 iN 57 56 5 [],
 iB 58 56 (.bnot (.t 57)) [57],
 iA 59 (.pick (.t 56) (.t 58) (.k (boolV false))) [56, 58, 57],
 iM 39 59 [59]])))))
(.cond (.t 39)
(.seq (.reg [iA 2 (.mov (.k (intV 1))) [1, 3, 4, 5, 39]])
(.ret))
(.seq (.reg [iM 61 5 [5, 39],
 iM 60 61 [61]])
(.cond (.t 60)
(.seq (.reg [iA 62 (.fa 2 (.t 1)) [1, 3, 4, 60],
 iA 63 (.ld true 3 (.t 62)) [62],
 iA 64 (.call 140 [(.t 63)]) [63],
 iM 2 64 [64]])
(.ret))
(.seq (.reg [iM 66 4 [4, 60],
 iG 67 66 [66],
 iB 68 67 (.fa 1 (.t 1)) [],
 iB 69 67 (.ld false 1 (.t 68)) [68],
 iB 70 67 (.call 54 [(.t 69)]) [69],
 iB 71 67 (.bnot (.t 70)) [70],
 iA 72 (.pick (.t 67) (.t 71) (.k (boolV false))) [67, 71, 70, 69, 68],
 iM 65 72 [72]])
(.cond (.t 65)
(.seq (.reg [iA 2 (.mov (.k (intV 3))) [1, 3, 65]])
(.ret))
(.seq (.reg [iA 74 (.fa 0 (.t 1)) [65],
 iA 75 (.ld false 1 (.t 74)) [74],
 iA 76 (.bin .eql (.t 75) (.k (intV 16))) [75],
 iG 77 76 [76],
 iB 78 77 (.fa 1 (.t 1)) [],
 iB 79 77 (.ld false 1 (.t 78)) [78],
 iB 80 77 (.call 141 [(.t 79)]) [79],
 iB 81 77 (.bin .eql (.t 80) (.k (intV 0))) [80],
 iA 82 (.pick (.t 77) (.t 81) (.k (boolV false))) [77, 81, 80, 79, 78],
 iM 73 82 [82]])
(.cond (.t 73)
(.seq (.reg [iA 2 (.mov (.k (intV 5))) [1, 3, 73]])
(.ret))
(.seq (.reg [iA 84 (.fa 0 (.t 1)) [73],
 iA 85 (.ld false 1 (.t 84)) [84],
 iA 86 (.bin .eql (.t 85) (.k (intV 16))) [85],
 iG 87 86 [86],
 iB 88 87 (.fa 1 (.t 1)) [1],
 iB 89 87 (.ld false 1 (.t 88)) [88],
 iB 90 87 (.call 141 [(.t 89)]) [89],
 iN 91 87 3 [3],
 iB 92 87 (.bin .neq (.t 90) (.t 91)) [90, 91],
 iA 93 (.pick (.t 87) (.t 92) (.k (boolV false))) [87, 92, 90, 91, 3, 89, 88, 1],
 iM 83 93 [93]])
(.cond (.t 83)
(.seq (.reg [iA 2 (.mov (.k (intV 1))) [83]])
(.ret))
(.skip))))))))))))
(.seq (.reg [iA 2 (.mov (.k (intV 0))) [83, 1, 3, 4, 5, 30]])
(.ret))))),
 [.tmp 2]⟩
def o_syntax_node : List (Nat × List Nat) := []
theorem c_syntax_node_ok : cFun Tryz.prog o_syntax_node 117 = some c_syntax_node.erase := by kernel_rfl

/- slices_IndexFunc_ValueKind -/
def c_slices_IndexFunc_ValueKind_L0 : ACode := (.seq (.reg [iA 9 (.bin .lss (.t 8) (.t 7)) []])
(.seq (.cond (.t 9)
(.skip)
(.exit 0))
(.seq (.block 1 (.seq (.reg [iM 10 8 [9],
 iM 5 10 [10]])
(.seq (.reg [iM 11 1 [],
 iM 12 0 [],
 iM 13 5 [],
 iA 14 (.ia 1 (.t 12) (.t 13)) [12, 13],
 iA 15 (.ld false 1 (.t 14)) [14],
 iA 16 (.calv (.t 11) [(.t 15)]) [11, 15]])
(.cond (.t 16)
(.seq (.reg [iM 17 5 [0, 1, 7, 8, 5, 16],
 iM 4 17 [17]])
(.ret))
(.skip)))))
(.reg [iA 18 (.bin .add (.t 8) (.k (intV 1))) [4, 8, 5, 16, 9],
 iM 8 18 [18]]))))
def c_slices_IndexFunc_ValueKind : AFun := ⟨.seq (.reg [iA 4 (.mov (.k (intV 0))) [4]])
(.seq (.seq (.reg [iM 6 0 [],
 iA 7 (.len (.t 6)) [6],
 iA 8 (.mov (.k (intV 0))) []])
(.block 0 (.loop [0, 1, 7, 8] c_slices_IndexFunc_ValueKind_L0)))
(.seq (.reg [iA 4 (.mov (.k (intV (-1)))) [0, 1, 7, 8]])
(.ret))),
 [.tmp 4]⟩
def o_slices_IndexFunc_ValueKind : List (Nat × List Nat) := []
theorem c_slices_IndexFunc_ValueKind_ok : cFun Tryz.prog o_slices_IndexFunc_ValueKind 118 = some c_slices_IndexFunc_ValueKind.erase := by kernel_rfl

/- cmp_isNaN_int -/
def c_cmp_isNaN_int : AFun := ⟨.seq (.reg [iA 2 (.mov (.k (boolV false))) [2]])
(.seq (.reg [iM 3 0 [],
 iM 4 0 [0],
 iA 5 (.bin .neq (.t 3) (.t 4)) [3, 4],
 iM 2 5 [5]])
(.ret)),
 [.tmp 2]⟩
def o_cmp_isNaN_int : List (Nat × List Nat) := []
theorem c_cmp_isNaN_int_ok : cFun Tryz.prog o_cmp_isNaN_int 121 = some c_cmp_isNaN_int.erase := by kernel_rfl

/- cmp_isNaN_ValueKind -/
def c_cmp_isNaN_ValueKind : AFun := ⟨.seq (.reg [iA 2 (.mov (.k (boolV false))) [2]])
(.seq (.reg [iM 3 0 [],
 iM 4 0 [0],
 iA 5 (.bin .neq (.t 3) (.t 4)) [3, 4],
 iM 2 5 [5]])
(.ret)),
 [.tmp 2]⟩
def o_cmp_isNaN_ValueKind : List (Nat × List Nat) := []
theorem c_cmp_isNaN_ValueKind_ok : cFun Tryz.prog o_cmp_isNaN_ValueKind 122 = some c_cmp_isNaN_ValueKind.erase := by kernel_rfl

/- cmp_isNaN_string -/
def c_cmp_isNaN_string : AFun := ⟨.seq (.reg [iA 2 (.mov (.k (boolV false))) [2]])
(.seq (.reg [iM 3 0 [],
 iM 4 0 [0],
 iA 5 (.bin .neq (.t 3) (.t 4)) [3, 4],
 iM 2 5 [5]])
(.ret)),
 [.tmp 2]⟩
def o_cmp_isNaN_string : List (Nat × List Nat) := []
theorem c_cmp_isNaN_string_ok : cFun Tryz.prog o_cmp_isNaN_string 123 = some c_cmp_isNaN_string.erase := by kernel_rfl

/- slices_Index_Value -/
def c_slices_Index_Value_L0 : ACode := (.seq (.reg [iA 9 (.bin .lss (.t 8) (.t 7)) []])
(.seq (.cond (.t 9)
(.skip)
(.exit 0))
(.seq (.block 1 (.seq (.reg [iM 10 8 [9],
 iM 5 10 [10]])
(.seq (.reg [iA 11 (.ld true 3 (.t 3)) [],
 iM 12 0 [],
 iM 13 5 [],
 iA 14 (.ia 3 (.t 12) (.t 13)) [12, 13],
 iA 15 (.ld true 3 (.t 14)) [14],
 iA 16 (.eqa false [0, 0, 1] (.t 11) (.t 15)) [11, 15]])
(.cond (.t 16)
(.seq (.reg [iM 17 5 [0, 3, 7, 8, 5, 16],
 iM 4 17 [17]])
(.ret))
(.skip)))))
(.reg [iA 18 (.bin .add (.t 8) (.k (intV 1))) [4, 8, 5, 16, 9],
 iM 8 18 [18]]))))
def c_slices_Index_Value : AFun := ⟨.seq (.reg [iA 3 (.bx (.t 1)) [1],
 iA 4 (.mov (.k (intV 0))) [4]])
(.seq (.seq (.reg [iM 6 0 [],
 iA 7 (.len (.t 6)) [6],
 iA 8 (.mov (.k (intV 0))) []])
(.block 0 (.loop [0, 3, 7, 8] c_slices_Index_Value_L0)))
(.seq (.reg [iA 4 (.mov (.k (intV (-1)))) [0, 3, 7, 8]])
(.ret))),
 [.tmp 4]⟩
def o_slices_Index_Value : List (Nat × List Nat) := [(4, [0, 1, 2, 3, 4, 5])]
theorem c_slices_Index_Value_ok : cFun Tryz.prog o_slices_Index_Value 124 = some c_slices_Index_Value.erase := by kernel_rfl

end Go.Proofs.YtekkjilpdohieaaGreat

namespace Go.Proofs.YtekkjilpdohieaaGreat
open Go Go.AM
/- eval_value_1 -/
def c_eval_value_1 : AFun := ⟨.seq (.reg [iA 2 (.bx (.t 0)) [0],
 iA 3 (.mov (.k (boolV false))) [3]])
(.seq (.reg [iA 4 (.fa 0 (.t 2)) [2],
 iA 5 (.ld false 1 (.t 4)) [4],
 iA 6 (.fa 1 (.t 1)) [1],
 iA 7 (.ld false 1 (.t 6)) [6],
 iA 8 (.bin .eql (.t 5) (.t 7)) [5, 7],
 iM 3 8 [8]])
(.ret)),
 [.tmp 3]⟩
def o_eval_value_1 : List (Nat × List Nat) := []
theorem c_eval_value_1_ok : cFun Tryz.prog o_eval_value_1 127 = some c_eval_value_1.erase := by kernel_rfl

/- eval_both -/
def c_eval_both : AFun := ⟨.seq (.reg [iA 2 (.bx (.t 0)) [0],
 iA 3 (.bx (.t 1)) [1],
 iA 4 (.alloc [(.d (.lit (.int .i64 0))), (.d (.lit (.int .i64 0))), (.d (.lit (.string ⟨#[]⟩)))]) []])
(.seq (.block 0 (.seq (.reg [iA 6 (.ld true 3 (.t 2)) [],
 iA 7 (.call 106 [(.k (boolV false))]) [],
 iA 8 (.eqa false [0, 0, 1] (.t 6) (.t 7)) [6, 7],
 iG 9 8 [8],
 iC 10 9 (.ld true 3 (.t 3)) [],
 iC 11 9 (.call 106 [(.k (boolV false))]) [],
 iC 12 9 (.eqa false [0, 0, 1] (.t 10) (.t 11)) [10, 11],
 iA 13 (.pick (.t 9) (.k (boolV true)) (.t 12)) [9, 12, 10, 11],
 iM 5 13 [13]])
(.cond (.t 5)
(.seq (.reg [iA 14 (.call 106 [(.k (boolV false))]) [2, 3, 5],
 iE (.st 3 (.t 4) (.t 14)) [14]])
(.ret))
(.seq (.reg [iA 16 (.fa 0 (.t 2)) [2, 5],
 iA 17 (.ld false 1 (.t 16)) [16],
 iA 18 (.bin .eql (.t 17) (.k (intV 0))) [17],
 iG 19 18 [18],
 iC 20 19 (.fa 0 (.t 3)) [3],
 iC 21 19 (.ld false 1 (.t 20)) [20],
 iC 22 19 (.bin .eql (.t 21) (.k (intV 0))) [21],
 iA 23 (.pick (.t 19) (.k (boolV true)) (.t 22)) [19, 22, 21, 20, 3],
 iM 15 23 [23]])
(.cond (.t 15)
(.seq (.reg [iA 24 (.build [(.d (.lit (.int .i64 0))), (.d (.lit (.int .i64 0))), (.d (.lit (.string ⟨#[]⟩)))] []) [15],
 iE (.st 3 (.t 4) (.t 24)) [24]])
(.ret))
(.skip))))))
(.seq (.reg [iA 25 (.call 106 [(.k (boolV true))]) [15, 2, 3],
 iE (.st 3 (.t 4) (.t 25)) [25]])
(.ret))),
 [.cell 4 true 3]⟩
def o_eval_both : List (Nat × List Nat) := [(1, [0, 1, 2, 3, 4, 5, 6, 7, 8])]
theorem c_eval_both_ok : cFun Tryz.prog o_eval_both 128 = some c_eval_both.erase := by kernel_rfl

/- eval_not -/
def c_eval_not : AFun := ⟨.seq (.reg [iA 1 (.bx (.t 0)) [0],
 iA 2 (.alloc [(.d (.lit (.int .i64 0))), (.d (.lit (.int .i64 0))), (.d (.lit (.string ⟨#[]⟩)))]) []])
(.seq (.seq (.reg [iA 3 (.fa 0 (.t 1)) [],
 iA 4 (.ld false 1 (.t 3)) [3],
 iA 5 (.bin .eql (.t 4) (.k (intV 0))) [4]])
(.cond (.t 5)
(.seq (.reg [iA 6 (.ld true 3 (.t 1)) [1, 5],
 iE (.st 3 (.t 2) (.t 6)) [6]])
(.ret))
(.skip)))
(.seq (.reg [iA 7 (.fa 1 (.t 1)) [1, 5],
 iA 8 (.ld false 1 (.t 7)) [7],
 iA 9 (.bin .eql (.t 8) (.k (intV 0))) [8],
 iA 10 (.call 106 [(.t 9)]) [9],
 iE (.st 3 (.t 2) (.t 10)) [10]])
(.ret))),
 [.cell 2 true 3]⟩
def o_eval_not : List (Nat × List Nat) := []
theorem c_eval_not_ok : cFun Tryz.prog o_eval_not 129 = some c_eval_not.erase := by kernel_rfl

/- eval_operation -/
def c_eval_operation : AFun := ⟨.seq (.reg [iA 2 (.bx (.t 0)) [0],
 iA 4 (.alloc [(.d (.lit (.int .i64 0))), (.d (.lit (.int .i64 0))), (.d (.lit (.string ⟨#[]⟩)))]) []])
(.seq (.seq (.reg [iA 6 (.fa 0 (.t 2)) [],
 iA 7 (.ld false 1 (.t 6)) [6]])
(.block 0 (.seq (.reg [iA 9 (.bin .eql (.t 7) (.k (intV 3))) [],
 iM 8 9 [9]])
(.cond (.t 8)
(.seq (.reg [iM 10 1 [1, 2, 7, 8],
 iA 11 (.ia 3 (.t 10) (.k (intV 0))) [10],
 iA 12 (.ld true 3 (.t 11)) [11],
 iA 13 (.call 129 [(.t 12)]) [12],
 iE (.st 3 (.t 4) (.t 13)) [13]])
(.ret))
(.seq (.reg [iA 15 (.bin .eql (.t 7) (.k (intV 4))) [8],
 iM 14 15 [15]])
(.cond (.t 14)
(.seq (.reg [iM 16 1 [1, 2, 7, 14],
 iA 17 (.ia 3 (.t 16) (.k (intV 0))) [16],
 iA 18 (.fa 1 (.t 17)) [17],
 iA 19 (.ld false 1 (.t 18)) [18],
 iA 20 (.ineg (.t 19)) [19],
 iA 21 (.call 134 [(.t 20), (.k (boolV true))]) [20],
 iE (.st 3 (.t 4) (.t 21)) [21]])
(.ret))
(.seq (.reg [iA 23 (.bin .eql (.t 7) (.k (intV 5))) [14],
 iM 22 23 [23]])
(.cond (.t 22)
(.seq (.reg [iM 24 1 [2, 7, 22],
 iA 25 (.ia 3 (.t 24) (.k (intV 0))) [24],
 iA 26 (.fa 1 (.t 25)) [25],
 iA 27 (.ld false 1 (.t 26)) [26],
 iM 28 1 [1],
 iA 29 (.ia 3 (.t 28) (.k (intV 1))) [28],
 iA 30 (.fa 1 (.t 29)) [29],
 iA 31 (.ld false 1 (.t 30)) [30],
 iA 32 (.call 144 [(.t 27), (.t 31)]) [27, 31],
 iA 33 (.ext (.t 32) 0) [],
 iA 34 (.ext (.t 32) 1) [32],
 iA 35 (.call 134 [(.t 33), (.t 34)]) [33, 34],
 iE (.st 3 (.t 4) (.t 35)) [35]])
(.ret))
(.seq (.reg [iA 37 (.bin .eql (.t 7) (.k (intV 6))) [22],
 iM 36 37 [37]])
(.cond (.t 36)
(.seq (.reg [iM 38 1 [2, 7, 36],
 iA 39 (.ia 3 (.t 38) (.k (intV 0))) [38],
 iA 40 (.fa 1 (.t 39)) [39],
 iA 41 (.ld false 1 (.t 40)) [40],
 iM 42 1 [1],
 iA 43 (.ia 3 (.t 42) (.k (intV 1))) [42],
 iA 44 (.fa 1 (.t 43)) [43],
 iA 45 (.ld false 1 (.t 44)) [44],
 iA 46 (.ineg (.t 45)) [45],
 iA 47 (.call 144 [(.t 41), (.t 46)]) [41, 46],
 iA 48 (.ext (.t 47) 0) [],
 iA 49 (.ext (.t 47) 1) [47],
 iA 50 (.call 134 [(.t 48), (.t 49)]) [48, 49],
 iE (.st 3 (.t 4) (.t 50)) [50]])
(.ret))
(.seq (.reg [iA 52 (.bin .eql (.t 7) (.k (intV 7))) [36],
 iM 51 52 [52]])
(.cond (.t 51)
(.seq (.reg [iM 53 1 [2, 7, 51],
 iA 54 (.ia 3 (.t 53) (.k (intV 0))) [53],
 iA 55 (.fa 1 (.t 54)) [54],
 iA 56 (.ld false 1 (.t 55)) [55],
 iM 57 1 [1],
 iA 58 (.ia 3 (.t 57) (.k (intV 1))) [57],
 iA 59 (.fa 1 (.t 58)) [58],
 iA 60 (.ld false 1 (.t 59)) [59],
 iA 61 (.call 145 [(.t 56), (.t 60)]) [56, 60],
 iA 62 (.ext (.t 61) 0) [],
 iA 63 (.ext (.t 61) 1) [61],
 iA 64 (.call 134 [(.t 62), (.t 63)]) [62, 63],
 iE (.st 3 (.t 4) (.t 64)) [64]])
(.ret))
(.seq (.seq (.reg [iA 66 (.bin .eql (.t 7) (.k (intV 8))) [51],
 iM 65 66 [66]])
(.cond (.t 65)
(.skip)
(.reg [iA 67 (.bin .eql (.t 7) (.k (intV 9))) [65],
 iM 65 67 [67]])))
(.cond (.t 65)
(.seq (.reg [iM 68 1 [7, 65],
 iA 69 (.ia 3 (.t 68) (.k (intV 0))) [68],
 iA 70 (.fa 1 (.t 69)) [69],
 iA 71 (.ld false 1 (.t 70)) [70],
 iM 72 1 [1],
 iA 73 (.ia 3 (.t 72) (.k (intV 1))) [72],
 iA 74 (.fa 1 (.t 73)) [73],
 iA 75 (.ld false 1 (.t 74)) [74],
 iA 76 (.fa 0 (.t 2)) [2],
 iA 77 (.ld false 1 (.t 76)) [76],
 iA 78 (.bin .eql (.t 77) (.k (intV 9))) [77],
 iA 79 (.call 146 [(.t 71), (.t 75), (.t 78)]) [71, 75, 78],
 iE (.st 3 (.t 4) (.t 79)) [79]])
(.ret))
(.seq (.reg [iA 81 (.bin .eql (.t 7) (.k (intV 16))) [7, 65],
 iM 80 81 [81]])
(.cond (.t 80)
(.seq (.reg [iA 82 (.fa 1 (.t 2)) [2, 80],
 iA 83 (.ld false 1 (.t 82)) [82],
 iM 84 1 [1],
 iA 85 (.call 147 [(.t 83), (.t 84)]) [83, 84],
 iE (.st 3 (.t 4) (.t 85)) [85]])
(.ret))
(.skip)))))))))))))))))
(.seq (.reg [iM 86 1 [80, 7],
 iA 87 (.ia 3 (.t 86) (.k (intV 0))) [86],
 iA 88 (.ld true 3 (.t 87)) [87],
 iM 89 1 [1],
 iA 90 (.ia 3 (.t 89) (.k (intV 1))) [89],
 iA 91 (.ld true 3 (.t 90)) [90],
 iA 92 (.call 70 [(.t 88), (.t 91)]) [88, 91],
 iM 5 92 [92]])
(.seq (.reg [iA 93 (.fa 0 (.t 2)) [],
 iA 94 (.ld false 1 (.t 93)) [93],
 iA 95 (.bin .eql (.t 94) (.k (intV 10))) [94],
 iG 96 95 [95],
 iN 97 96 5 [],
 iB 98 96 (.bin .eql (.t 97) (.k (intV 0))) [97],
 iA 99 (.pick (.t 96) (.t 98) (.k (boolV false))) [96, 98, 97],
 iG 100 99 [99],
 iC 101 100 (.fa 0 (.t 2)) [],
 iC 102 100 (.ld false 1 (.t 101)) [101],
 iC 103 100 (.bin .eql (.t 102) (.k (intV 11))) [102],
 ⟨(some 104), (some (100, false)), true, .mov (.t 103), [103]⟩,
 iN 105 104 5 [],
 iB 106 104 (.bin .neq (.t 105) (.k (intV 0))) [105],
 iC 107 100 (.pick (.t 104) (.t 106) (.k (boolV false))) [104, 106, 105],
 iA 108 (.pick (.t 100) (.k (boolV true)) (.t 107)) [100, 107, 104, 106, 105, 103, 102, 101],
 iG 109 108 [108],
 iC 110 109 (.fa 0 (.t 2)) [],
 iC 111 109 (.ld false 1 (.t 110)) [110],
 iC 112 109 (.bin .eql (.t 111) (.k (intV 12))) [111],
 ⟨(some 113), (some (109, false)), true, .mov (.t 112), [112]⟩,
 iN 114 113 5 [],
 iB 115 113 (.bin .lss (.t 114) (.k (intV 0))) [114],
 iC 116 109 (.pick (.t 113) (.t 115) (.k (boolV false))) [113, 115, 114],
 iA 117 (.pick (.t 109) (.k (boolV true)) (.t 116)) [109, 116, 113, 115, 114, 112, 111, 110],
 iG 118 117 [117],
 iC 119 118 (.fa 0 (.t 2)) [2],
 iC 120 118 (.ld false 1 (.t 119)) [119],
 iC 121 118 (.bin .eql (.t 120) (.k (intV 13))) [120],
 ⟨(some 122), (some (118, false)), true, .mov (.t 121), [121]⟩,
 iN 123 122 5 [5],
 iB 124 122 (.bin .leq (.t 123) (.k (intV 0))) [123],
 iC 125 118 (.pick (.t 122) (.t 124) (.k (boolV false))) [122, 124, 123, 5],
 iA 126 (.pick (.t 118) (.k (boolV true)) (.t 125)) [118, 125, 122, 124, 123, 5, 121, 120, 119, 2],
 iA 127 (.call 106 [(.t 126)]) [126],
 iE (.st 3 (.t 4) (.t 127)) [127]])
(.ret)))),
 [.cell 4 true 3]⟩
def o_eval_operation : List (Nat × List Nat) := [(7, [0, 1, 2, 3, 4, 5, 6, 7, 8, 9, 10, 11, 12]), (9, [0, 1, 2, 3, 4, 5, 6, 7, 8, 9, 10, 11, 12, 13]), (11, [0, 1, 2, 3, 4, 5, 6, 7, 8, 9, 10, 11, 12]), (14, [0, 1, 2, 3, 4, 5, 6, 7, 8, 9, 10, 11, 12]), (17, [0, 1, 2, 3, 4, 5, 6, 7])]
theorem c_eval_operation_ok : cFun Tryz.prog o_eval_operation 130 = some c_eval_operation.erase := by kernel_rfl

/- slices_BinarySearchFunc_LValue -/
def c_slices_BinarySearchFunc_LValue_L0 : ACode := (.seq (.seq (.reg [iM 15 9 [],
 iM 16 10 [],
 iA 17 (.bin .lss (.t 15) (.t 16)) [15, 16]])
(.cond (.t 17)
(.skip)
(.exit 0)))
(.block 1 (.seq (.reg [iM 18 9 [17],
 iM 19 10 [],
 iA 20 (.bin .add (.t 18) (.t 19)) [18, 19],
 iA 21 (.conv .u64 (.t 20)) [20],
 iA 22 (.shf false (.t 21) (.k (.w (.c (.d (.lit (.int .u64 1))))))) [21],
 iA 23 (.conv .i64 (.t 22)) [22],
 iM 11 23 [23]])
(.seq (.reg [iM 24 2 [],
 iM 25 0 [],
 iM 26 11 [],
 iA 27 (.ia 2 (.t 25) (.t 26)) [25, 26],
 iA 28 (.ld true 2 (.t 27)) [27],
 iM 29 1 [],
 iA 30 (.calv (.t 24) [(.t 28), (.t 29)]) [24, 28, 29],
 iA 31 (.bin .lss (.t 30) (.k (intV 0))) [30]])
(.cond (.t 31)
(.reg [iM 32 11 [9, 11, 31],
 iA 33 (.bin .add (.t 32) (.k (intV 1))) [32],
 iM 9 33 [33]])
(.reg [iM 34 11 [10, 11, 31],
 iM 10 34 [34]]))))))
def c_slices_BinarySearchFunc_LValue : AFun := ⟨.seq (.reg [iA 6 (.mov (.k (intV 0))) [6],
 iA 7 (.mov (.k (boolV false))) [7]])
(.seq (.reg [iM 12 0 [],
 iA 13 (.len (.t 12)) [12],
 iM 8 13 [13]])
(.seq (.reg [iM 14 8 [],
 iA 9 (.mov (.k (intV 0))) [],
 iM 10 14 [14]])
(.seq (.block 0 (.loop [0, 1, 2, 8, 9, 10] c_slices_BinarySearchFunc_LValue_L0))
(.seq (.reg [iM 35 9 [10, 17],
 iM 36 9 [],
 iM 37 8 [8],
 iA 38 (.bin .lss (.t 36) (.t 37)) [36, 37],
 iG 39 38 [38],
 iN 40 39 2 [2],
 iN 41 39 0 [0],
 iN 42 39 9 [9],
 iB 43 39 (.ia 2 (.t 41) (.t 42)) [41, 42],
 iB 44 39 (.ld true 2 (.t 43)) [43],
 iN 45 39 1 [1],
 iB 46 39 (.calv (.t 40) [(.t 44), (.t 45)]) [40, 44, 45],
 iB 47 39 (.bin .eql (.t 46) (.k (intV 0))) [46],
 iA 48 (.pick (.t 39) (.t 47) (.k (boolV false))) [39, 47, 46, 40, 44, 45, 1, 43, 41, 42, 9, 0, 2],
 iM 6 35 [35],
 iM 7 48 [48]])
(.ret))))),
 [.tmp 6, .tmp 7]⟩
def o_slices_BinarySearchFunc_LValue : List (Nat × List Nat) := []
theorem c_slices_BinarySearchFunc_LValue_ok : cFun Tryz.prog o_slices_BinarySearchFunc_LValue 131 = some c_slices_BinarySearchFunc_LValue.erase := by kernel_rfl

/- naive_groups_1 -/
def c_naive_groups_1 : AFun := ⟨.seq (.reg [iA 2 (.bx (.t 0)) [0],
 iA 4 (.mov (.k (intV 0))) [4]])
(.seq (.reg [iA 5 (.fa 0 (.t 2)) [2],
 iA 6 (.ld false 1 (.t 5)) [5],
 iM 7 1 [1],
 iA 8 (.call 105 [(.t 6), (.t 7), (.k (.w (.c (.clo 70 []))))]) [6, 7],
 iM 4 8 [8]])
(.ret)),
 [.tmp 4]⟩
def o_naive_groups_1 : List (Nat × List Nat) := []
theorem c_naive_groups_1_ok : cFun Tryz.prog o_naive_groups_1 132 = some c_naive_groups_1.erase := by kernel_rfl

/- eval_number -/
def c_eval_number : AFun := ⟨.seq (.reg [iA 4 (.alloc [(.d (.lit (.int .i64 0))), (.d (.lit (.int .i64 0))), (.d (.lit (.string ⟨#[]⟩)))]) []])
(.seq (.seq (.reg [iM 5 1 [1],
 iA 6 (.bnot (.t 5)) [5]])
(.cond (.t 6)
(.seq (.reg [iA 7 (.build [(.d (.lit (.int .i64 0))), (.d (.lit (.int .i64 0))), (.d (.lit (.string ⟨#[]⟩)))] []) [0, 6],
 iE (.st 3 (.t 4) (.t 7)) [7]])
(.ret))
(.skip)))
(.seq (.reg [iM 8 0 [0, 6],
 iA 9 (.build [(.d (.lit (.int .i64 0))), (.d (.lit (.int .i64 0))), (.d (.lit (.string ⟨#[]⟩)))] [(0, 1, (.k (intV 2))), (1, 1, (.t 8))]) [8],
 iE (.st 3 (.t 4) (.t 9)) [9]])
(.ret))),
 [.cell 4 true 3]⟩
def o_eval_number : List (Nat × List Nat) := []
theorem c_eval_number_ok : cFun Tryz.prog o_eval_number 134 = some c_eval_number.erase := by kernel_rfl

/- eval_sum -/
def c_eval_sum_L0 : ACode := (.seq (.reg [iA 11 (.bin .lss (.t 10) (.t 9)) []])
(.seq (.cond (.t 11)
(.skip)
(.exit 0))
(.seq (.block 1 (.seq (.reg [iA 12 (.ia 3 (.t 8) (.t 10)) [11],
 iA 13 (.ld true 3 (.t 12)) [12],
 iA 6 (.alloc [(.d (.lit (.int .i64 0))), (.d (.lit (.int .i64 0))), (.d (.lit (.string ⟨#[]⟩)))]) [],
 iE (.st 3 (.t 6) (.t 13)) [13]])
(.seq (.seq (.reg [iA 14 (.fa 0 (.t 6)) [],
 iA 15 (.ld false 1 (.t 14)) [14],
 iA 16 (.bin .neq (.t 15) (.k (intV 2))) [15]])
(.cond (.t 16)
(.seq (.reg [iA 17 (.build [(.d (.lit (.int .i64 0))), (.d (.lit (.int .i64 0))), (.d (.lit (.string ⟨#[]⟩)))] []) [3, 4, 8, 9, 10, 6, 16],
 iE (.st 3 (.t 2) (.t 17)) [17]])
(.ret))
(.skip)))
(.seq (.reg [iM 18 3 [3, 16],
 iA 19 (.fa 1 (.t 6)) [],
 iA 20 (.ld false 1 (.t 19)) [19],
 iA 21 (.shf false (.t 20) (.k (.w (.c (.d (.lit (.int .u64 32))))))) [20],
 iA 22 (.bin .add (.t 18) (.t 21)) [18, 21],
 iM 3 22 [22]])
(.reg [iM 23 4 [4],
 iA 24 (.fa 1 (.t 6)) [6],
 iA 25 (.ld false 1 (.t 24)) [24],
 iA 26 (.bin .and (.t 25) (.k (intV 4294967295))) [25],
 iA 27 (.bin .add (.t 23) (.t 26)) [23, 26],
 iM 4 27 [27]])))))
(.reg [iA 28 (.bin .add (.t 10) (.k (intV 1))) [10, 11],
 iM 10 28 [28]]))))
def c_eval_sum : AFun := ⟨.seq (.reg [iA 2 (.alloc [(.d (.lit (.int .i64 0))), (.d (.lit (.int .i64 0))), (.d (.lit (.string ⟨#[]⟩)))]) []])
(.seq (.reg [iA 3 (.mov (.k (intV 0))) [],
 iA 4 (.mov (.k (intV 0))) []])
(.seq (.seq (.reg [iM 8 0 [0],
 iA 9 (.len (.t 8)) [],
 iA 10 (.mov (.k (intV 0))) []])
(.block 0 (.loop [2, 3, 4, 8, 9, 10] c_eval_sum_L0)))
(.seq (.reg [iM 29 3 [8, 9, 3, 10],
 iM 30 4 [],
 iA 31 (.shf false (.t 30) (.k (.w (.c (.d (.lit (.int .u64 32))))))) [30],
 iA 32 (.bin .add (.t 29) (.t 31)) [29, 31],
 iM 3 32 [32]])
(.seq (.reg [iM 33 4 [4],
 iA 34 (.bin .and (.t 33) (.k (intV 4294967295))) [33],
 iM 4 34 [34]])
(.seq (.seq (.reg [iM 35 3 [],
 iA 36 (.bin .gtr (.t 35) (.k (intV 1048576))) [35],
 iG 37 36 [36],
 iC 38 37 (.mov (.t 3)) [],
 iC 39 37 (.bin .lss (.t 38) (.k (intV (-1048576)))) [38],
 iA 40 (.pick (.t 37) (.k (boolV true)) (.t 39)) [37, 39, 38]])
(.cond (.t 40)
(.seq (.reg [iA 41 (.build [(.d (.lit (.int .i64 0))), (.d (.lit (.int .i64 0))), (.d (.lit (.string ⟨#[]⟩)))] []) [3, 4, 40],
 iE (.st 3 (.t 2) (.t 41)) [41]])
(.ret))
(.skip)))
(.seq (.reg [iM 42 3 [3, 40],
 iA 43 (.shf true (.t 42) (.k (.w (.c (.d (.lit (.int .u64 32))))))) [42],
 iM 44 4 [4],
 iA 45 (.bin .add (.t 43) (.t 44)) [43, 44],
 iM 7 45 [45]])
(.seq (.reg [iM 46 7 [],
 iM 47 7 [7],
 iA 48 (.call 47 [(.t 47)]) [47],
 iA 49 (.call 134 [(.t 46), (.t 48)]) [46, 48],
 iE (.st 3 (.t 2) (.t 49)) [49]])
(.ret)))))))),
 [.cell 2 true 3]⟩
def o_eval_sum : List (Nat × List Nat) := []
theorem c_eval_sum_ok : cFun Tryz.prog o_eval_sum 135 = some c_eval_sum.erase := by kernel_rfl

/- slices_MinFunc_Value -/
def c_slices_MinFunc_Value_L0 : ACode := (.seq (.seq (.reg [iM 14 6 [],
 iM 15 0 [],
 iA 16 (.len (.t 15)) [15],
 iA 17 (.bin .lss (.t 14) (.t 16)) [14, 16]])
(.cond (.t 17)
(.skip)
(.exit 0)))
(.seq (.block 1 (.seq (.reg [iM 20 1 [17],
 iM 21 0 [],
 iM 22 6 [],
 iA 23 (.ia 3 (.t 21) (.t 22)) [21, 22],
 iA 24 (.ld true 3 (.t 23)) [23],
 iA 25 (.ld true 3 (.t 5)) [],
 iA 26 (.calv (.t 20) [(.t 24), (.t 25)]) [20, 24, 25],
 iA 27 (.bin .lss (.t 26) (.k (intV 0))) [26]])
(.cond (.t 27)
(.reg [iM 28 0 [27],
 iM 29 6 [],
 iA 30 (.ia 3 (.t 28) (.t 29)) [28, 29],
 iA 31 (.ld true 3 (.t 30)) [30],
 iE (.st 3 (.t 5) (.t 31)) [31]])
(.skip))))
(.reg [iM 18 6 [6, 27, 17],
 iA 19 (.bin .add (.t 18) (.k (intV 1))) [18],
 iM 6 19 [19]])))
def c_slices_MinFunc_Value : AFun := ⟨.seq (.reg [iA 4 (.alloc [(.d (.lit (.int .i64 0))), (.d (.lit (.int .i64 0))), (.d (.lit (.string ⟨#[]⟩)))]) []])
(.seq (.seq (.reg [iM 7 0 [],
 iA 8 (.len (.t 7)) [7],
 iA 9 (.bin .lss (.t 8) (.k (intV 1))) [8]])
(.cond (.t 9)
(.reg [iA 10 (.stop) [9, 10],
 iE (.stop) []])
(.skip)))
(.seq (.reg [iM 11 0 [9],
 iA 12 (.ia 3 (.t 11) (.k (intV 0))) [11],
 iA 13 (.ld true 3 (.t 12)) [12],
 iA 5 (.alloc [(.d (.lit (.int .i64 0))), (.d (.lit (.int .i64 0))), (.d (.lit (.string ⟨#[]⟩)))]) [],
 iE (.st 3 (.t 5) (.t 13)) [13]])
(.seq (.seq (.reg [iA 6 (.mov (.k (intV 1))) []])
(.block 0 (.loop [0, 1, 4, 5, 6] c_slices_MinFunc_Value_L0)))
(.seq (.reg [iA 32 (.ld true 3 (.t 5)) [0, 1, 5, 6],
 iE (.st 3 (.t 4) (.t 32)) [32]])
(.ret))))),
 [.cell 4 true 3]⟩
def o_slices_MinFunc_Value : List (Nat × List Nat) := [(7, [0, 1, 2, 3, 4, 5, 6, 7])]
theorem c_slices_MinFunc_Value_ok : cFun Tryz.prog o_slices_MinFunc_Value 136 = some c_slices_MinFunc_Value.erase := by kernel_rfl

/- slices_MaxFunc_Value -/
def c_slices_MaxFunc_Value_L0 : ACode := (.seq (.seq (.reg [iM 14 6 [],
 iM 15 0 [],
 iA 16 (.len (.t 15)) [15],
 iA 17 (.bin .lss (.t 14) (.t 16)) [14, 16]])
(.cond (.t 17)
(.skip)
(.exit 0)))
(.seq (.block 1 (.seq (.reg [iM 20 1 [17],
 iM 21 0 [],
 iM 22 6 [],
 iA 23 (.ia 3 (.t 21) (.t 22)) [21, 22],
 iA 24 (.ld true 3 (.t 23)) [23],
 iA 25 (.ld true 3 (.t 5)) [],
 iA 26 (.calv (.t 20) [(.t 24), (.t 25)]) [20, 24, 25],
 iA 27 (.bin .gtr (.t 26) (.k (intV 0))) [26]])
(.cond (.t 27)
(.reg [iM 28 0 [27],
 iM 29 6 [],
 iA 30 (.ia 3 (.t 28) (.t 29)) [28, 29],
 iA 31 (.ld true 3 (.t 30)) [30],
 iE (.st 3 (.t 5) (.t 31)) [31]])
(.skip))))
(.reg [iM 18 6 [6, 27, 17],
 iA 19 (.bin .add (.t 18) (.k (intV 1))) [18],
 iM 6 19 [19]])))
def c_slices_MaxFunc_Value : AFun := ⟨.seq (.reg [iA 4 (.alloc [(.d (.lit (.int .i64 0))), (.d (.lit (.int .i64 0))), (.d (.lit (.string ⟨#[]⟩)))]) []])
(.seq (.seq (.reg [iM 7 0 [],
 iA 8 (.len (.t 7)) [7],
 iA 9 (.bin .lss (.t 8) (.k (intV 1))) [8]])
(.cond (.t 9)
(.reg [iA 10 (.stop) [9, 10],
 iE (.stop) []])
(.skip)))
(.seq (.reg [iM 11 0 [9],
 iA 12 (.ia 3 (.t 11) (.k (intV 0))) [11],
 iA 13 (.ld true 3 (.t 12)) [12],
 iA 5 (.alloc [(.d (.lit (.int .i64 0))), (.d (.lit (.int .i64 0))), (.d (.lit (.string ⟨#[]⟩)))]) [],
 iE (.st 3 (.t 5) (.t 13)) [13]])
(.seq (.seq (.reg [iA 6 (.mov (.k (intV 1))) []])
(.block 0 (.loop [0, 1, 4, 5, 6] c_slices_MaxFunc_Value_L0)))
(.seq (.reg [iA 32 (.ld true 3 (.t 5)) [0, 1, 5, 6],
 iE (.st 3 (.t 4) (.t 32)) [32]])
(.ret))))),
 [.cell 4 true 3]⟩
def o_slices_MaxFunc_Value : List (Nat × List Nat) := [(7, [0, 1, 2, 3, 4, 5, 6, 7])]
theorem c_slices_MaxFunc_Value_ok : cFun Tryz.prog o_slices_MaxFunc_Value 137 = some c_slices_MaxFunc_Value.erase := by kernel_rfl

/- slices_Grow_Value -/
def c_slices_Grow_Value : AFun := ⟨.seq (.reg [iA 4 (.mov (.k (.w (.c .nil)))) [4]])
(.seq (.seq (.reg [iM 5 1 [],
 iA 6 (.bin .lss (.t 5) (.k (intV 0))) [5]])
(.cond (.t 6)
(.reg [iA 7 (.stop) [6, 7],
 iE (.stop) []])
(.skip)))
(.seq (.seq (.reg [iM 8 1 [1, 6],
 iM 9 0 [],
 iA 10 (.cap (.t 9)) [9],
 iM 11 0 [],
 iA 12 (.len (.t 11)) [11],
 iA 13 (.bin .sub (.t 10) (.t 12)) [10, 12],
 iA 14 (.bin .sub (.t 8) (.t 13)) [8, 13],
 iM 1 14 [14]])
(.seq (.reg [iM 15 1 [],
 iA 16 (.bin .gtr (.t 15) (.k (intV 0))) [15]])
(.cond (.t 16)
(.reg [iM 17 0 [16],
 iM 18 0 [],
 iA 19 (.cap (.t 18)) [18],
 iA 20 (.sli 3 (.t 17) none (some (.t 19))) [17, 19],
 iM 21 1 [1],
 iA 22 (.appz 3 32 [(.lit (.int .i64 0)), (.lit (.int .i64 0)), (.lit (.string ⟨#[]⟩))] (.t 20) (.t 21)) [20, 21],
 iM 23 0 [0],
 iA 24 (.len (.t 23)) [23],
 iA 25 (.sli 3 (.t 22) none (some (.t 24))) [22, 24],
 iM 0 25 [25]])
(.skip))))
(.seq (.reg [iM 26 0 [0, 1, 16],
 iM 4 26 [26]])
(.ret)))),
 [.tmp 4]⟩
def o_slices_Grow_Value : List (Nat × List Nat) := []
theorem c_slices_Grow_Value_ok : cFun Tryz.prog o_slices_Grow_Value 138 = some c_slices_Grow_Value.erase := by kernel_rfl

/- syntax_constant -/
def c_syntax_constant_L0 : ACode := (.seq (.reg [iA 17 (.bin .lss (.t 16) (.t 15)) []])
(.seq (.cond (.t 17)
(.skip)
(.exit 0))
(.seq (.block 1 (.seq (.reg [iM 18 16 [17],
 iM 4 18 [18]])
(.seq (.reg [iA 19 (.fa 2 (.t 1)) [],
 iA 20 (.ld false 1 (.t 19)) [19],
 iM 21 4 [4],
 iA 22 (.six (.t 20) (.t 21)) [20, 21],
 iM 5 22 [22]])
(.seq (.reg [iM 23 5 [],
 iA 24 (.bin .lss (.t 23) (.k (.w (.c (.d (.lit (.int .u8 32))))))) [23],
 iG 25 24 [24],
 iC 26 25 (.mov (.t 5)) [],
 iC 27 25 (.bin .gtr (.t 26) (.k (.w (.c (.d (.lit (.int .u8 126))))))) [26],
 iA 28 (.pick (.t 25) (.k (boolV true)) (.t 27)) [25, 27, 26],
 iG 29 28 [28],
 iC 30 29 (.mov (.t 5)) [5],
 iC 31 29 (.bin .eql (.t 30) (.k (.w (.c (.d (.lit (.int .u8 34))))))) [30],
 iA 32 (.pick (.t 29) (.k (boolV true)) (.t 31)) [29, 31, 30, 5]])
(.cond (.t 32)
(.seq (.reg [iA 2 (.mov (.k (intV 10))) [1, 15, 16, 32]])
(.ret))
(.skip))))))
(.reg [iA 33 (.bin .add (.t 16) (.k (intV 1))) [2, 16, 32, 17],
 iM 16 33 [33]]))))
def c_syntax_constant : AFun := ⟨.seq (.reg [iA 1 (.bx (.t 0)) [0],
 iA 2 (.mov (.k (intV 0))) [2]])
(.seq (.seq (.reg [iA 6 (.fa 0 (.t 1)) [],
 iA 7 (.ld false 1 (.t 6)) [6],
 iA 8 (.ld true 3 (.t 1)) [],
 iA 9 (.call 26 [(.t 7), (.t 8)]) [7, 8],
 iM 3 9 [9]])
(.seq (.reg [iM 10 3 [],
 iA 11 (.bin .neq (.t 10) (.k (intV 0))) [10]])
(.cond (.t 11)
(.seq (.reg [iM 12 3 [1, 3, 11],
 iM 2 12 [12]])
(.ret))
(.skip))))
(.seq (.seq (.reg [iA 13 (.fa 2 (.t 1)) [2, 3, 11],
 iA 14 (.ld false 1 (.t 13)) [13],
 iA 15 (.slen (.t 14)) [14],
 iA 16 (.mov (.k (intV 0))) []])
(.block 0 (.loop [1, 15, 16] c_syntax_constant_L0)))
(.seq (.reg [iA 2 (.mov (.k (intV 0))) [1, 15, 16]])
(.ret)))),
 [.tmp 2]⟩
def o_syntax_constant : List (Nat × List Nat) := []
theorem c_syntax_constant_ok : cFun Tryz.prog o_syntax_constant 140 = some c_syntax_constant.erase := by kernel_rfl

/- syntax_arity -/
def c_syntax_arity : AFun := ⟨.seq (.reg [iA 2 (.mov (.k (intV 0))) [2]])
(.seq (.seq (.reg [iM 3 0 [0]])
(.block 0 (.seq (.seq (.reg [iA 5 (.bin .eql (.t 3) (.k (.w (.c (.d (.lit (.string ⟨#[109, 105, 110]⟩))))))) [],
 iM 4 5 [5]])
(.cond (.t 4)
(.skip)
(.seq (.reg [iA 6 (.bin .eql (.t 3) (.k (.w (.c (.d (.lit (.string ⟨#[109, 97, 120]⟩))))))) [4],
 iM 4 6 [6]])
(.cond (.t 4)
(.skip)
(.seq (.reg [iA 7 (.bin .eql (.t 3) (.k (.w (.c (.d (.lit (.string ⟨#[104, 97, 115]⟩))))))) [4],
 iM 4 7 [7]])
(.cond (.t 4)
(.skip)
(.reg [iA 8 (.bin .eql (.t 3) (.k (.w (.c (.d (.lit (.string ⟨#[115, 116, 97, 114, 116, 115]⟩))))))) [4],
 iM 4 8 [8]])))))))
(.cond (.t 4)
(.seq (.reg [iA 2 (.mov (.k (intV 2))) [3, 4]])
(.ret))
(.seq (.seq (.reg [iA 10 (.bin .eql (.t 3) (.k (.w (.c (.d (.lit (.string ⟨#[97, 98, 115]⟩))))))) [4],
 iM 9 10 [10]])
(.cond (.t 9)
(.skip)
(.reg [iA 11 (.bin .eql (.t 3) (.k (.w (.c (.d (.lit (.string ⟨#[108, 101, 110]⟩))))))) [3, 9],
 iM 9 11 [11]])))
(.cond (.t 9)
(.seq (.reg [iA 2 (.mov (.k (intV 1))) [3, 9]])
(.ret))
(.skip)))))))
(.seq (.reg [iA 2 (.mov (.k (intV 0))) [3, 9]])
(.ret))),
 [.tmp 2]⟩
def o_syntax_arity : List (Nat × List Nat) := []
theorem c_syntax_arity_ok : cFun Tryz.prog o_syntax_arity 141 = some c_syntax_arity.erase := by kernel_rfl

/- num_Add -/
def c_num_Add : AFun := ⟨.seq (.reg [iA 4 (.mov (.k (intV 0))) [4],
 iA 5 (.mov (.k (boolV false))) [5]])
(.seq (.seq (.reg [iM 6 0 [],
 iA 7 (.call 47 [(.t 6)]) [6],
 iA 8 (.bnot (.t 7)) [7],
 iG 9 8 [8],
 iC 10 9 (.mov (.t 1)) [],
 iC 11 9 (.call 47 [(.t 10)]) [10],
 iC 12 9 (.bnot (.t 11)) [11],
 iA 13 (.pick (.t 9) (.k (boolV true)) (.t 12)) [9, 12, 11, 10]])
(.cond (.t 13)
(.seq (.reg [iA 4 (.mov (.k (intV 0))) [0, 1, 13],
 iA 5 (.mov (.k (boolV false))) []])
(.ret))
(.skip)))
(.seq (.reg [iM 14 0 [4, 5, 0, 13],
 iM 15 1 [1],
 iA 16 (.bin .add (.t 14) (.t 15)) [14, 15],
 iA 17 (.call 152 [(.t 16), (.k (boolV true))]) [16],
 iA 18 (.ext (.t 17) 0) [],
 iA 19 (.ext (.t 17) 1) [17],
 iM 4 18 [18],
 iM 5 19 [19]])
(.ret))),
 [.tmp 4, .tmp 5]⟩
def o_num_Add : List (Nat × List Nat) := []
theorem c_num_Add_ok : cFun Tryz.prog o_num_Add 144 = some c_num_Add.erase := by kernel_rfl

/- num_Mul -/
def c_num_Mul : AFun := ⟨.seq (.reg [iA 4 (.mov (.k (intV 0))) [4],
 iA 5 (.mov (.k (boolV false))) [5]])
(.seq (.reg [iM 6 0 [0],
 iM 7 1 [1],
 iA 8 (.call 153 [(.t 6), (.t 7), (.k (intV 1))]) [6, 7],
 iA 9 (.ext (.t 8) 0) [],
 iA 10 (.ext (.t 8) 1) [8],
 iM 4 9 [9],
 iM 5 10 [10]])
(.ret)),
 [.tmp 4, .tmp 5]⟩
def o_num_Mul : List (Nat × List Nat) := []
theorem c_num_Mul_ok : cFun Tryz.prog o_num_Mul 145 = some c_num_Mul.erase := by kernel_rfl

/- eval_divided -/
def c_eval_divided : AFun := ⟨.seq (.reg [iA 6 (.alloc [(.d (.lit (.int .i64 0))), (.d (.lit (.int .i64 0))), (.d (.lit (.string ⟨#[]⟩)))]) []])
(.seq (.block 0 (.seq (.reg [iM 8 1 [],
 iA 9 (.bin .eql (.t 8) (.k (intV 0))) [8],
 iM 7 9 [9]])
(.cond (.t 7)
(.seq (.reg [iA 10 (.build [(.d (.lit (.int .i64 0))), (.d (.lit (.int .i64 0))), (.d (.lit (.string ⟨#[]⟩)))] []) [0, 1, 2, 7],
 iE (.st 3 (.t 6) (.t 10)) [10]])
(.ret))
(.seq (.reg [iM 12 2 [2, 7],
 iM 11 12 [12]])
(.cond (.t 11)
(.seq (.reg [iM 13 0 [0, 11],
 iM 14 1 [1],
 iA 15 (.bin .rem (.t 13) (.t 14)) [13, 14],
 iA 16 (.call 134 [(.t 15), (.k (boolV true))]) [15],
 iE (.st 3 (.t 6) (.t 16)) [16]])
(.ret))
(.skip))))))
(.seq (.reg [iM 17 0 [0, 11, 2],
 iM 18 1 [1],
 iA 19 (.bin .quo (.t 17) (.t 18)) [17, 18],
 iA 20 (.call 134 [(.t 19), (.k (boolV true))]) [19],
 iE (.st 3 (.t 6) (.t 20)) [20]])
(.ret))),
 [.cell 6 true 3]⟩
def o_eval_divided : List (Nat × List Nat) := []
theorem c_eval_divided_ok : cFun Tryz.prog o_eval_divided 146 = some c_eval_divided.erase := by kernel_rfl

/- eval_call -/
def c_eval_call : AFun := ⟨.seq (.reg [iA 4 (.alloc [(.d (.lit (.int .i64 0))), (.d (.lit (.int .i64 0))), (.d (.lit (.string ⟨#[]⟩)))]) []])
(.seq (.seq (.reg [iM 5 0 []])
(.block 0 (.seq (.reg [iA 7 (.bin .eql (.t 5) (.k (.w (.c (.d (.lit (.string ⟨#[97, 98, 115]⟩))))))) [],
 iM 6 7 [7]])
(.cond (.t 6)
(.seq (.reg [iM 8 1 [0, 5, 6],
 iA 9 (.ia 3 (.t 8) (.k (intV 0))) [8],
 iA 10 (.fa 1 (.t 9)) [9],
 iA 11 (.ld false 1 (.t 10)) [10],
 iM 12 1 [1],
 iA 13 (.ia 3 (.t 12) (.k (intV 0))) [12],
 iA 14 (.fa 1 (.t 13)) [13],
 iA 15 (.ld false 1 (.t 14)) [14],
 iA 16 (.ineg (.t 15)) [15],
 iA 17 (.mm true (.t 11) (.t 16)) [11, 16],
 iA 18 (.call 134 [(.t 17), (.k (boolV true))]) [17],
 iE (.st 3 (.t 4) (.t 18)) [18]])
(.ret))
(.seq (.reg [iA 20 (.bin .eql (.t 5) (.k (.w (.c (.d (.lit (.string ⟨#[108, 101, 110]⟩))))))) [6],
 iM 19 20 [20]])
(.cond (.t 19)
(.seq (.reg [iM 21 1 [0, 1, 5, 19],
 iA 22 (.ia 3 (.t 21) (.k (intV 0))) [21],
 iA 23 (.fa 2 (.t 22)) [22],
 iA 24 (.ld false 1 (.t 23)) [23],
 iA 25 (.slen (.t 24)) [24],
 iA 26 (.call 134 [(.t 25), (.k (boolV true))]) [25],
 iE (.st 3 (.t 4) (.t 26)) [26]])
(.ret))
(.seq (.reg [iA 28 (.bin .eql (.t 5) (.k (.w (.c (.d (.lit (.string ⟨#[104, 97, 115]⟩))))))) [19],
 iM 27 28 [28]])
(.cond (.t 27)
(.seq (.reg [iM 29 1 [0, 5, 27],
 iA 30 (.ia 3 (.t 29) (.k (intV 0))) [29],
 iA 31 (.fa 2 (.t 30)) [30],
 iA 32 (.ld false 1 (.t 31)) [31],
 iM 33 1 [1],
 iA 34 (.ia 3 (.t 33) (.k (intV 1))) [33],
 iA 35 (.fa 2 (.t 34)) [34],
 iA 36 (.ld false 1 (.t 35)) [35],
 iA 37 (.call 154 [(.t 32), (.t 36)]) [32, 36],
 iA 38 (.call 106 [(.t 37)]) [37],
 iE (.st 3 (.t 4) (.t 38)) [38]])
(.ret))
(.seq (.reg [iA 40 (.bin .eql (.t 5) (.k (.w (.c (.d (.lit (.string ⟨#[115, 116, 97, 114, 116, 115]⟩))))))) [5, 27],
 iM 39 40 [40]])
(.cond (.t 39)
(.seq (.reg [iM 41 1 [0, 39],
 iA 42 (.ia 3 (.t 41) (.k (intV 0))) [41],
 iA 43 (.fa 2 (.t 42)) [42],
 iA 44 (.ld false 1 (.t 43)) [43],
 iM 45 1 [1],
 iA 46 (.ia 3 (.t 45) (.k (intV 1))) [45],
 iA 47 (.fa 2 (.t 46)) [46],
 iA 48 (.ld false 1 (.t 47)) [47],
 iA 49 (.call 155 [(.t 44), (.t 48)]) [44, 48],
 iA 50 (.call 106 [(.t 49)]) [49],
 iE (.st 3 (.t 4) (.t 50)) [50]])
(.ret))
(.skip)))))))))))
(.seq (.seq (.reg [iM 51 1 [39, 5],
 iA 52 (.ia 3 (.t 51) (.k (intV 1))) [51],
 iA 53 (.ld true 3 (.t 52)) [52],
 iM 54 1 [],
 iA 55 (.ia 3 (.t 54) (.k (intV 0))) [54],
 iA 56 (.ld true 3 (.t 55)) [55],
 iM 59 0 [0],
 iA 60 (.bin .eql (.t 59) (.k (.w (.c (.d (.lit (.string ⟨#[109, 105, 110]⟩))))))) [59],
 iA 57 (.call 70 [(.t 53), (.t 56)]) [53, 56],
 iA 58 (.bin .lss (.t 57) (.k (intV 0))) [57],
 iA 61 (.beq false (.t 58) (.t 60)) [60, 58]])
(.cond (.t 61)
(.seq (.reg [iM 62 1 [1, 61],
 iA 63 (.ia 3 (.t 62) (.k (intV 1))) [62],
 iA 64 (.ld true 3 (.t 63)) [63],
 iE (.st 3 (.t 4) (.t 64)) [64]])
(.ret))
(.skip)))
(.seq (.reg [iM 65 1 [1, 61],
 iA 66 (.ia 3 (.t 65) (.k (intV 0))) [65],
 iA 67 (.ld true 3 (.t 66)) [66],
 iE (.st 3 (.t 4) (.t 67)) [67]])
(.ret)))),
 [.cell 4 true 3]⟩
def o_eval_call : List (Nat × List Nat) := [(3, [0, 1, 2, 3, 4, 5, 6, 7, 8, 9, 10, 11]), (7, [0, 1, 2, 3, 4, 5, 6, 7, 8, 9, 10]), (9, [0, 1, 2, 3, 4, 5, 6, 7, 8, 9, 10]), (10, [0, 1, 2, 3, 4, 5, 8, 9, 6, 7, 10])]
theorem c_eval_call_ok : cFun Tryz.prog o_eval_call 147 = some c_eval_call.erase := by kernel_rfl

/- num_within -/
def c_num_within : AFun := ⟨.seq (.reg [iA 4 (.mov (.k (intV 0))) [4],
 iA 5 (.mov (.k (boolV false))) [5]])
(.seq (.seq (.reg [iM 6 1 [1],
 iA 7 (.bnot (.t 6)) [6],
 iG 8 7 [7],
 iC 9 8 (.mov (.t 0)) [],
 iC 10 8 (.call 47 [(.t 9)]) [9],
 iC 11 8 (.bnot (.t 10)) [10],
 iA 12 (.pick (.t 8) (.k (boolV true)) (.t 11)) [8, 11, 10, 9]])
(.cond (.t 12)
(.seq (.reg [iA 4 (.mov (.k (intV 0))) [0, 12],
 iA 5 (.mov (.k (boolV false))) []])
(.ret))
(.skip)))
(.seq (.reg [iM 13 0 [4, 5, 0, 12],
 iM 4 13 [13],
 iA 5 (.mov (.k (boolV true))) []])
(.ret))),
 [.tmp 4, .tmp 5]⟩
def o_num_within : List (Nat × List Nat) := []
theorem c_num_within_ok : cFun Tryz.prog o_num_within 152 = some c_num_within.erase := by kernel_rfl

/- num_Floor -/
def c_num_Floor : AFun := ⟨.seq (.reg [iA 6 (.mov (.k (intV 0))) [6],
 iA 7 (.mov (.k (boolV false))) [7]])
(.seq (.reg [iM 14 0 [0],
 iM 15 1 [1],
 iM 16 2 [2],
 iA 17 (.call 157 [(.t 14), (.t 15), (.t 16)]) [14, 15, 16],
 iM 13 17 [17],
 iA 18 (.ext (.t 13) 0) [],
 iA 19 (.ext (.t 13) 1) [],
 iA 20 (.ext (.t 13) 2) [],
 iA 21 (.ext (.t 13) 3) [13],
 iM 8 18 [18],
 iM 9 19 [19],
 iM 10 20 [20],
 iM 11 21 [21]])
(.seq (.reg [iM 22 8 [8],
 iA 23 (.conv .i64 (.t 22)) [22],
 iM 12 23 [23]])
(.seq (.seq (.reg [iM 24 10 [10]])
(.cond (.t 24)
(.seq (.reg [iM 25 12 [12, 24],
 iA 26 (.ineg (.t 25)) [25],
 iM 12 26 [26]])
(.seq (.reg [iM 27 9 [9],
 iA 28 (.bin .gtr (.t 27) (.k (.w (.c (.d (.lit (.int .u64 0))))))) [27]])
(.cond (.t 28)
(.reg [iM 29 12 [12, 28],
 iA 30 (.bin .sub (.t 29) (.k (intV 1))) [29],
 iM 12 30 [30]])
(.skip))))
(.skip)))
(.seq (.reg [iM 31 12 [12, 28, 9, 24],
 iM 32 11 [11],
 iA 33 (.call 152 [(.t 31), (.t 32)]) [31, 32],
 iA 34 (.ext (.t 33) 0) [],
 iA 35 (.ext (.t 33) 1) [33],
 iM 6 34 [34],
 iM 7 35 [35]])
(.ret))))),
 [.tmp 6, .tmp 7]⟩
def o_num_Floor : List (Nat × List Nat) := []
theorem c_num_Floor_ok : cFun Tryz.prog o_num_Floor 153 = some c_num_Floor.erase := by kernel_rfl

/- strings_HasPrefix -/
def c_strings_HasPrefix : AFun := ⟨.seq (.reg [iA 4 (.mov (.k (boolV false))) [4]])
(.seq (.reg [iM 5 0 [0],
 iM 6 1 [1],
 iA 7 (.call 159 [(.t 5), (.t 6)]) [5, 6],
 iM 4 7 [7]])
(.ret)),
 [.tmp 4]⟩
def o_strings_HasPrefix : List (Nat × List Nat) := []
theorem c_strings_HasPrefix_ok : cFun Tryz.prog o_strings_HasPrefix 155 = some c_strings_HasPrefix.erase := by kernel_rfl

/- num_quotient -/
def c_num_quotient : AFun := ⟨.seq (.reg [iA 6 (.mov (.k (.w (.c (.d (.lit (.int .u64 0))))))) [6],
 iA 7 (.mov (.k (.w (.c (.d (.lit (.int .u64 0))))))) [7],
 iA 8 (.mov (.k (boolV false))) [8],
 iA 9 (.mov (.k (boolV false))) [9]])
(.seq (.seq (.reg [iM 16 0 [],
 iA 17 (.call 47 [(.t 16)]) [16],
 iA 18 (.bnot (.t 17)) [17],
 iG 19 18 [18],
 iC 20 19 (.mov (.t 1)) [],
 iC 21 19 (.call 47 [(.t 20)]) [20],
 iC 22 19 (.bnot (.t 21)) [21],
 iA 23 (.pick (.t 19) (.k (boolV true)) (.t 22)) [19, 22, 21, 20],
 iG 24 23 [23],
 iC 25 24 (.mov (.t 2)) [],
 iC 26 24 (.bin .lss (.t 25) (.k (intV 1))) [25],
 iA 27 (.pick (.t 24) (.k (boolV true)) (.t 26)) [24, 26, 25],
 iG 28 27 [27],
 iC 29 28 (.mov (.t 2)) [],
 iC 30 28 (.call 47 [(.t 29)]) [29],
 iC 31 28 (.bnot (.t 30)) [30],
 iA 32 (.pick (.t 28) (.k (boolV true)) (.t 31)) [28, 31, 30, 29]])
(.cond (.t 32)
(.seq (.reg [iA 6 (.mov (.k (.w (.c (.d (.lit (.int .u64 0))))))) [0, 1, 2, 32],
 iA 7 (.mov (.k (.w (.c (.d (.lit (.int .u64 0))))))) [],
 iA 8 (.mov (.k (boolV false))) [],
 iA 9 (.mov (.k (boolV false))) []])
(.ret))
(.skip)))
(.seq (.reg [iM 34 0 [6, 7, 8, 9, 0, 32],
 iA 35 (.call 161 [(.t 34)]) [34],
 iM 33 35 [35],
 iA 36 (.ext (.t 33) 0) [],
 iA 37 (.ext (.t 33) 1) [33],
 iM 10 36 [36],
 iM 11 37 [37]])
(.seq (.reg [iM 39 1 [1],
 iA 40 (.call 161 [(.t 39)]) [39],
 iM 38 40 [40],
 iA 41 (.ext (.t 38) 0) [],
 iA 42 (.ext (.t 38) 1) [38],
 iM 12 41 [41],
 iM 13 42 [42]])
(.seq (.reg [iM 44 10 [10],
 iM 45 12 [12],
 iA 46 (.call 162 [(.t 44), (.t 45)]) [44, 45],
 iM 43 46 [46],
 iA 47 (.ext (.t 43) 0) [],
 iA 48 (.ext (.t 43) 1) [43],
 iM 14 47 [47],
 iM 15 48 [48]])
(.seq (.seq (.reg [iM 49 14 [],
 iM 50 2 [],
 iA 51 (.conv .u64 (.t 50)) [50],
 iA 52 (.bin .geq (.t 49) (.t 51)) [49, 51]])
(.cond (.t 52)
(.seq (.reg [iA 6 (.mov (.k (.w (.c (.d (.lit (.int .u64 0))))))) [2, 11, 13, 14, 15, 52],
 iA 7 (.mov (.k (.w (.c (.d (.lit (.int .u64 0))))))) [],
 iA 8 (.mov (.k (boolV false))) [],
 iA 9 (.mov (.k (boolV false))) []])
(.ret))
(.skip)))
(.seq (.reg [iM 54 14 [6, 7, 8, 9, 14, 52],
 iM 55 15 [15],
 iM 56 2 [2],
 iA 57 (.conv .u64 (.t 56)) [56],
 iA 58 (.call 163 [(.t 54), (.t 55), (.t 57)]) [54, 55, 57],
 iM 53 58 [58],
 iA 59 (.ext (.t 53) 0) [],
 iA 60 (.ext (.t 53) 1) [53],
 iM 6 59 [59],
 iM 7 60 [60]])
(.seq (.reg [iM 61 6 [],
 iM 62 7 [7],
 iM 63 11 [11],
 iM 64 13 [13],
 iA 65 (.beq true (.t 63) (.t 64)) [63, 64],
 iM 66 6 [6],
 iA 67 (.bin .leq (.t 66) (.k (.w (.c (.d (.lit (.int .u64 1000000000000000))))))) [66],
 iM 6 61 [61],
 iM 7 62 [62],
 iM 8 65 [65],
 iM 9 67 [67]])
(.ret)))))))),
 [.tmp 6, .tmp 7, .tmp 8, .tmp 9]⟩
def o_num_quotient : List (Nat × List Nat) := []
theorem c_num_quotient_ok : cFun Tryz.prog o_num_quotient 157 = some c_num_quotient.erase := by kernel_rfl

/- internal_stringslite_HasPrefix -/
def c_internal_stringslite_HasPrefix : AFun := ⟨.seq (.reg [iA 4 (.mov (.k (boolV false))) [4]])
(.seq (.reg [iM 5 0 [],
 iA 6 (.slen (.t 5)) [5],
 iM 7 1 [],
 iA 8 (.slen (.t 7)) [7],
 iA 9 (.bin .geq (.t 6) (.t 8)) [6, 8],
 iG 10 9 [9],
 iN 11 10 0 [0],
 iN 12 10 1 [],
 iB 13 10 (.slen (.t 12)) [12],
 iB 14 10 (.sls (.t 11) none (some (.t 13))) [11, 13],
 iN 15 10 1 [1],
 iB 16 10 (.bin .eql (.t 14) (.t 15)) [14, 15],
 iA 17 (.pick (.t 10) (.t 16) (.k (boolV false))) [10, 16, 14, 15, 1, 11, 13, 12, 0],
 iM 4 17 [17]])
(.ret)),
 [.tmp 4]⟩
def o_internal_stringslite_HasPrefix : List (Nat × List Nat) := []
theorem c_internal_stringslite_HasPrefix_ok : cFun Tryz.prog o_internal_stringslite_HasPrefix 159 = some c_internal_stringslite_HasPrefix.erase := by kernel_rfl

/- num_magnitude -/
def c_num_magnitude : AFun := ⟨.seq (.reg [iA 2 (.mov (.k (.w (.c (.d (.lit (.int .u64 0))))))) [2],
 iA 3 (.mov (.k (boolV false))) [3]])
(.seq (.seq (.reg [iM 4 0 [],
 iA 5 (.bin .lss (.t 4) (.k (intV 0))) [4]])
(.cond (.t 5)
(.seq (.reg [iM 6 0 [0, 5],
 iA 7 (.ineg (.t 6)) [6],
 iA 8 (.conv .u64 (.t 7)) [7],
 iM 2 8 [8],
 iA 3 (.mov (.k (boolV true))) []])
(.ret))
(.skip)))
(.seq (.reg [iM 9 0 [2, 3, 0, 5],
 iA 10 (.conv .u64 (.t 9)) [9],
 iM 2 10 [10],
 iA 3 (.mov (.k (boolV false))) []])
(.ret))),
 [.tmp 2, .tmp 3]⟩
def o_num_magnitude : List (Nat × List Nat) := []
theorem c_num_magnitude_ok : cFun Tryz.prog o_num_magnitude 161 = some c_num_magnitude.erase := by kernel_rfl

/- math_bits_Mul64 -/
def c_math_bits_Mul64 : AFun := ⟨.seq (.reg [iA 4 (.mov (.k (.w (.c (.d (.lit (.int .u64 0))))))) [4],
 iA 5 (.mov (.k (.w (.c (.d (.lit (.int .u64 0))))))) [5]])
(.seq (.reg [iM 14 0 [],
 iA 15 (.bin .and (.t 14) (.k (.w (.c (.d (.lit (.int .u64 4294967295))))))) [14],
 iM 6 15 [15]])
(.seq (.reg [iM 16 0 [],
 iA 17 (.shf false (.t 16) (.k (.w (.c (.d (.lit (.int .u64 32))))))) [16],
 iM 7 17 [17]])
(.seq (.reg [iM 18 1 [],
 iA 19 (.bin .and (.t 18) (.k (.w (.c (.d (.lit (.int .u64 4294967295))))))) [18],
 iM 8 19 [19]])
(.seq (.reg [iM 20 1 [],
 iA 21 (.shf false (.t 20) (.k (.w (.c (.d (.lit (.int .u64 32))))))) [20],
 iM 9 21 [21]])
(.seq (.reg [iM 22 6 [],
 iM 23 8 [],
 iA 24 (.bin .mul (.t 22) (.t 23)) [22, 23],
 iM 10 24 [24]])
(.seq (.reg [iM 25 7 [],
 iM 26 8 [8],
 iA 27 (.bin .mul (.t 25) (.t 26)) [25, 26],
 iM 28 10 [10],
 iA 29 (.shf false (.t 28) (.k (.w (.c (.d (.lit (.int .u64 32))))))) [28],
 iA 30 (.bin .add (.t 27) (.t 29)) [27, 29],
 iM 11 30 [30]])
(.seq (.reg [iM 31 11 [],
 iA 32 (.bin .and (.t 31) (.k (.w (.c (.d (.lit (.int .u64 4294967295))))))) [31],
 iM 12 32 [32]])
(.seq (.reg [iM 33 11 [11],
 iA 34 (.shf false (.t 33) (.k (.w (.c (.d (.lit (.int .u64 32))))))) [33],
 iM 13 34 [34]])
(.seq (.reg [iM 35 12 [12],
 iM 36 6 [6],
 iM 37 9 [],
 iA 38 (.bin .mul (.t 36) (.t 37)) [36, 37],
 iA 39 (.bin .add (.t 35) (.t 38)) [35, 38],
 iM 12 39 [39]])
(.seq (.reg [iM 40 7 [7],
 iM 41 9 [9],
 iA 42 (.bin .mul (.t 40) (.t 41)) [40, 41],
 iM 43 13 [13],
 iA 44 (.bin .add (.t 42) (.t 43)) [42, 43],
 iM 45 12 [12],
 iA 46 (.shf false (.t 45) (.k (.w (.c (.d (.lit (.int .u64 32))))))) [45],
 iA 47 (.bin .add (.t 44) (.t 46)) [44, 46],
 iM 4 47 [47]])
(.seq (.reg [iM 48 0 [0],
 iM 49 1 [1],
 iA 50 (.bin .mul (.t 48) (.t 49)) [48, 49],
 iM 5 50 [50]])
(.ret)))))))))))),
 [.tmp 4, .tmp 5]⟩
def o_math_bits_Mul64 : List (Nat × List Nat) := []
theorem c_math_bits_Mul64_ok : cFun Tryz.prog o_math_bits_Mul64 162 = some c_math_bits_Mul64.erase := by kernel_rfl

/- math_bits_Div64 -/
def c_math_bits_Div64_L0 : ACode := (.seq (.seq (.reg [iM 67 15 [],
 iA 68 (.bin .geq (.t 67) (.k (.w (.c (.d (.lit (.int .u64 4294967296))))))) [67],
 iG 69 68 [68],
 iC 70 69 (.mov (.t 15)) [],
 iC 71 69 (.mov (.t 10)) [],
 iC 72 69 (.bin .mul (.t 70) (.t 71)) [70, 71],
 iC 73 69 (.mov (.t 16)) [],
 iC 74 69 (.bin .mul (.k (.w (.c (.d (.lit (.int .u64 4294967296)))))) (.t 73)) [73],
 iC 75 69 (.mov (.t 13)) [],
 iC 76 69 (.bin .add (.t 74) (.t 75)) [74, 75],
 iC 77 69 (.bin .gtr (.t 72) (.t 76)) [72, 76],
 iA 78 (.pick (.t 69) (.k (boolV true)) (.t 77)) [69, 77, 72, 76, 74, 75, 73, 70, 71]])
(.cond (.t 78)
(.skip)
(.exit 0)))
(.block 1 (.seq (.reg [iM 79 15 [15, 78],
 iA 80 (.bin .sub (.t 79) (.k (.w (.c (.d (.lit (.int .u64 1))))))) [79],
 iM 15 80 [80]])
(.seq (.reg [iM 81 16 [16],
 iM 82 9 [],
 iA 83 (.bin .add (.t 81) (.t 82)) [81, 82],
 iM 16 83 [83]])
(.seq (.reg [iM 84 16 [],
 iA 85 (.bin .geq (.t 84) (.k (.w (.c (.d (.lit (.int .u64 4294967296))))))) [84]])
(.cond (.t 85)
(.exit 0)
(.skip)))))))
def c_math_bits_Div64_L1 : ACode := (.seq (.seq (.reg [iM 102 18 [],
 iA 103 (.bin .geq (.t 102) (.k (.w (.c (.d (.lit (.int .u64 4294967296))))))) [102],
 iG 104 103 [103],
 iC 105 104 (.mov (.t 18)) [],
 iC 106 104 (.mov (.t 10)) [],
 iC 107 104 (.bin .mul (.t 105) (.t 106)) [105, 106],
 iC 108 104 (.mov (.t 16)) [],
 iC 109 104 (.bin .mul (.k (.w (.c (.d (.lit (.int .u64 4294967296)))))) (.t 108)) [108],
 iC 110 104 (.mov (.t 14)) [],
 iC 111 104 (.bin .add (.t 109) (.t 110)) [109, 110],
 iC 112 104 (.bin .gtr (.t 107) (.t 111)) [107, 111],
 iA 113 (.pick (.t 104) (.k (boolV true)) (.t 112)) [104, 112, 107, 111, 109, 110, 108, 105, 106]])
(.cond (.t 113)
(.skip)
(.exit 2)))
(.block 3 (.seq (.reg [iM 114 18 [18, 113],
 iA 115 (.bin .sub (.t 114) (.k (.w (.c (.d (.lit (.int .u64 1))))))) [114],
 iM 18 115 [115]])
(.seq (.reg [iM 116 16 [16],
 iM 117 9 [],
 iA 118 (.bin .add (.t 116) (.t 117)) [116, 117],
 iM 16 118 [118]])
(.seq (.reg [iM 119 16 [],
 iA 120 (.bin .geq (.t 119) (.k (.w (.c (.d (.lit (.int .u64 4294967296))))))) [119]])
(.cond (.t 120)
(.exit 2)
(.skip)))))))
def c_math_bits_Div64 : AFun := ⟨.seq (.reg [iA 6 (.mov (.k (.w (.c (.d (.lit (.int .u64 0))))))) [6],
 iA 7 (.mov (.k (.w (.c (.d (.lit (.int .u64 0))))))) [7]])
(.seq (.seq (.reg [iM 19 2 [],
 iA 20 (.bin .eql (.t 19) (.k (.w (.c (.d (.lit (.int .u64 0))))))) [19]])
(.cond (.t 20)
(.reg [iA 21 (.ld false 1 (.k (.w (.c .dead)))) [20, 21],
 iE (.stop) []])
(.skip)))
(.seq (.seq (.reg [iM 22 2 [20],
 iM 23 0 [],
 iA 24 (.bin .leq (.t 22) (.t 23)) [22, 23]])
(.cond (.t 24)
(.reg [iA 25 (.ld false 1 (.k (.w (.c .dead)))) [24, 25],
 iE (.stop) []])
(.skip)))
(.seq (.seq (.reg [iM 26 0 [24],
 iA 27 (.bin .eql (.t 26) (.k (.w (.c (.d (.lit (.int .u64 0))))))) [26]])
(.cond (.t 27)
(.seq (.reg [iM 28 1 [0, 27],
 iM 29 2 [],
 iA 30 (.bin .quo (.t 28) (.t 29)) [28, 29],
 iM 31 1 [1],
 iM 32 2 [2],
 iA 33 (.bin .rem (.t 31) (.t 32)) [31, 32],
 iM 6 30 [30],
 iM 7 33 [33]])
(.ret))
(.skip)))
(.seq (.reg [iM 34 2 [6, 7, 27],
 iA 35 (.call 165 [(.t 34)]) [34],
 iA 36 (.conv .u64 (.t 35)) [35],
 iM 8 36 [36]])
(.seq (.reg [iM 37 2 [2],
 iM 38 8 [],
 iA 39 (.shf true (.t 37) (.t 38)) [37, 38],
 iM 2 39 [39]])
(.seq (.reg [iM 40 2 [],
 iA 41 (.shf false (.t 40) (.k (.w (.c (.d (.lit (.int .u64 32))))))) [40],
 iM 9 41 [41]])
(.seq (.reg [iM 42 2 [],
 iA 43 (.bin .and (.t 42) (.k (.w (.c (.d (.lit (.int .u64 4294967295))))))) [42],
 iM 10 43 [43]])
(.seq (.reg [iM 44 0 [0],
 iM 45 8 [],
 iA 46 (.shf true (.t 44) (.t 45)) [44, 45],
 iM 47 1 [],
 iM 48 8 [],
 iA 49 (.bin .sub (.k (.w (.c (.d (.lit (.int .u64 64)))))) (.t 48)) [48],
 iA 50 (.shf false (.t 47) (.t 49)) [47, 49],
 iA 51 (.bin .or (.t 46) (.t 50)) [46, 50],
 iM 11 51 [51]])
(.seq (.reg [iM 52 1 [1],
 iM 53 8 [],
 iA 54 (.shf true (.t 52) (.t 53)) [52, 53],
 iM 12 54 [54]])
(.seq (.reg [iM 55 12 [],
 iA 56 (.shf false (.t 55) (.k (.w (.c (.d (.lit (.int .u64 32))))))) [55],
 iM 13 56 [56]])
(.seq (.reg [iM 57 12 [12],
 iA 58 (.bin .and (.t 57) (.k (.w (.c (.d (.lit (.int .u64 4294967295))))))) [57],
 iM 14 58 [58]])
(.seq (.reg [iM 59 11 [],
 iM 60 9 [],
 iA 61 (.bin .quo (.t 59) (.t 60)) [59, 60],
 iM 15 61 [61]])
(.seq (.reg [iM 62 11 [],
 iM 63 15 [],
 iM 64 9 [],
 iA 65 (.bin .mul (.t 63) (.t 64)) [63, 64],
 iA 66 (.bin .sub (.t 62) (.t 65)) [62, 65],
 iM 16 66 [66]])
(.seq (.block 0 (.loop [2, 8, 9, 10, 11, 13, 14, 15, 16] c_math_bits_Div64_L0))
(.seq (.reg [iM 86 11 [11, 16, 85, 78],
 iA 87 (.bin .mul (.t 86) (.k (.w (.c (.d (.lit (.int .u64 4294967296))))))) [86],
 iM 88 13 [13],
 iA 89 (.bin .add (.t 87) (.t 88)) [87, 88],
 iM 90 15 [],
 iM 91 2 [],
 iA 92 (.bin .mul (.t 90) (.t 91)) [90, 91],
 iA 93 (.bin .sub (.t 89) (.t 92)) [89, 92],
 iM 17 93 [93]])
(.seq (.reg [iM 94 17 [],
 iM 95 9 [],
 iA 96 (.bin .quo (.t 94) (.t 95)) [94, 95],
 iM 18 96 [96]])
(.seq (.reg [iM 97 17 [],
 iM 98 18 [],
 iM 99 9 [],
 iA 100 (.bin .mul (.t 98) (.t 99)) [98, 99],
 iA 101 (.bin .sub (.t 97) (.t 100)) [97, 100],
 iM 16 101 [101]])
(.seq (.block 2 (.loop [2, 8, 9, 10, 14, 15, 16, 17, 18] c_math_bits_Div64_L1))
(.seq (.reg [iM 121 15 [9, 10, 15, 16, 120, 113],
 iA 122 (.bin .mul (.t 121) (.k (.w (.c (.d (.lit (.int .u64 4294967296))))))) [121],
 iM 123 18 [],
 iA 124 (.bin .add (.t 122) (.t 123)) [122, 123],
 iM 125 17 [17],
 iA 126 (.bin .mul (.t 125) (.k (.w (.c (.d (.lit (.int .u64 4294967296))))))) [125],
 iM 127 14 [14],
 iA 128 (.bin .add (.t 126) (.t 127)) [126, 127],
 iM 129 18 [18],
 iM 130 2 [2],
 iA 131 (.bin .mul (.t 129) (.t 130)) [129, 130],
 iA 132 (.bin .sub (.t 128) (.t 131)) [128, 131],
 iM 133 8 [8],
 iA 134 (.shf false (.t 132) (.t 133)) [132, 133],
 iM 6 124 [124],
 iM 7 134 [134]])
(.ret)))))))))))))))))))),
 [.tmp 6, .tmp 7]⟩
def o_math_bits_Div64 : List (Nat × List Nat) := [(6, [0, 1, 2, 3, 4, 5, 6, 7])]
theorem c_math_bits_Div64_ok : cFun Tryz.prog o_math_bits_Div64 163 = some c_math_bits_Div64.erase := by kernel_rfl

end Go.Proofs.YtekkjilpdohieaaGreat

namespace Go.AM

theorem beqS_iff (x y : ByteArray) : beqS x y = true ↔ x = y := by
  unfold beqS
  rw [ByteArray.toList_eq, ByteArray.toList_eq]
  constructor
  · intro h
    have h := eq_of_beq h
    cases x; cases y
    simpa using h
  · rintro rfl; exact beq_self_eq_true _
theorem beqS_self (x : ByteArray) : beqS x x = true := (beqS_iff x x).2 rfl
theorem beqS_false (x y : ByteArray) : beqS x y = false ↔ x ≠ y := by
  cases h : beqS x y
  · exact ⟨fun _ e => (by rw [(beqS_iff x y).2 e] at h; cases h), fun _ => rfl⟩
  · exact ⟨fun e => (by cases e), fun e => absurd ((beqS_iff x y).1 h) e⟩
theorem beqS_comm (x y : ByteArray) : beqS x y = beqS y x := by
  cases h : beqS y x
  · exact (beqS_false x y).2 fun e => (beqS_false y x).1 h e.symm
  · rw [(beqS_iff y x).1 h]; exact beqS_self _

/-- Lists of bytes in order. -/
theorem bytesLess_cons (x y : UInt8) (xs ys : List UInt8) : Op.bytesLess (x :: xs) (y :: ys) = true ↔ x < y ∨ (x = y ∧ Op.bytesLess xs ys = true) := by
  simp [Op.bytesLess]
theorem bytesLess_irrefl : ∀ (l : List UInt8), Op.bytesLess l l = false
  | [] => rfl
  | x :: r => by
    have := bytesLess_irrefl r
    simp [Op.bytesLess, this]
theorem bytesLess_trans : ∀ (a b c : List UInt8), Op.bytesLess a b = true → Op.bytesLess b c = true → Op.bytesLess a c = true
  | _, _, [], _, h => by simp [Op.bytesLess] at h
  | _, [], _ :: _, h, _ => by simp [Op.bytesLess] at h
  | [], _ :: _, _ :: _, _, _ => rfl
  | x :: xs, y :: ys, z :: zs, h1, h2 => by
    rw [bytesLess_cons] at h1 h2 ⊢
    rcases h1 with h1 | ⟨rfl, h1⟩
    · rcases h2 with h2 | ⟨rfl, h2⟩
      · exact .inl (UInt8.lt_trans h1 h2)
      · exact .inl h1
    · rcases h2 with h2 | ⟨rfl, h2⟩
      · exact .inl h2
      · exact .inr ⟨rfl, bytesLess_trans xs ys zs h1 h2⟩
theorem bytesLess_tri : ∀ (a b : List UInt8), Op.bytesLess a b = false → Op.bytesLess b a = false → a = b
  | [], [], _, _ => rfl
  | [], y :: ys, h, _ => by simp [Op.bytesLess] at h
  | x :: xs, [], _, h => by simp [Op.bytesLess] at h
  | x :: xs, y :: ys, h1, h2 => by
    have g1 : ¬ (x < y ∨ (x = y ∧ Op.bytesLess xs ys = true)) := fun h => by rw [(bytesLess_cons x y xs ys).2 h] at h1; cases h1
    have g2 : ¬ (y < x ∨ (y = x ∧ Op.bytesLess ys xs = true)) := fun h => by rw [(bytesLess_cons y x ys xs).2 h] at h2; cases h2
    have hxy : x = y := by
      rcases UInt8.lt_or_lt_of_ne (a := x) (b := y) |> fun f => Decidable.em (x = y) with h | h
      · exact h
      · rcases UInt8.lt_or_lt_of_ne h with h | h
        · exact absurd (.inl h) g1
        · exact absurd (.inl h) g2
    subst hxy
    rw [bytesLess_tri xs ys ?_ ?_]
    · cases h : Op.bytesLess xs ys
      · rfl
      · exact absurd (.inr ⟨rfl, h⟩) g1
    · cases h : Op.bytesLess ys xs
      · rfl
      · exact absurd (.inr ⟨rfl, h⟩) g2
theorem ltS_irrefl (x : ByteArray) : ltS x x = false := bytesLess_irrefl _
theorem ltS_trans {x y z : ByteArray} (h1 : ltS x y = true) (h2 : ltS y z = true) : ltS x z = true := bytesLess_trans _ _ _ h1 h2
theorem ltS_tri {x y : ByteArray} (h1 : ltS x y = false) (h2 : ltS y x = false) : x = y := by
  have h := bytesLess_tri _ _ h1 h2
  exact (beqS_iff x y).1 (by unfold beqS; rw [h]; exact beq_self_eq_true _)
theorem ltS_asymm {x y : ByteArray} (h : ltS x y = true) : ltS y x = false := by
  cases g : ltS y x
  · rfl
  · have := ltS_trans h g
    rw [ltS_irrefl] at this; cases this
end Go.AM

namespace Go.Proofs
set_option maxHeartbeats 1000000 in
set_option maxRecDepth 100000 in
/-- The index of a byte in a string, or -1. -/
theorem Tryz.stringslite_IndexByte (s : ByteArray) (c : Int) (w : World) :
    Calls Tryz.prog 115 #[.string s, .int .u8 c] w fun e w' => e = .returned (.int .i64 (Lib.indexByte s.data.toList c.toNat.toUInt8)) ∧ w' = w := by
  go_enter Tryz.func115, Tryz.ntmps115
  go_wp2
  rw [run_callFunc_extern Tryz.func139 (by kernel_rfl) (by kernel_rfl) (by kernel_rfl) (e := Extern.BytealgIndexByte.indexByte) (by kernel_rfl), Lib.run_indexByteString]
  simp only [Result.andThen]
  rw [Oper.upon_value]
  go_wp2
  go_ret
  exact ⟨rfl, rfl⟩
end Go.Proofs
namespace Go.Proofs.YtekkjilpdohieaaGreat
open Go Go.AM

def int (n : Int) : C := .d (.lit (.int .i64 n))
def str (b : ByteArray) : C := .d (.lit (.string b))
def bool (n : Bool) : C := .d (.lit (.bool n))
def rI (n : Int) : Res := ⟨.w (.c (int n)), []⟩
def rB (n : Bool) : Res := ⟨.w (.c (bool n)), []⟩

/-- A function without effect that gives one value: its contract. -/
theorem sat_pure {P : Program} {k : Nat} {args : List W} {x : Value} (hk : callable P k = true) (hx : x.oneCell' = true)
    (h : ∀ (w : World) (A : Nat → Prop) (vals : List Value), WRs (fun _ => ⟨none, 0⟩) w A args vals → Calls P k vals.toArray w fun e w' => e = .returned x ∧ w' = w) :
    Sat P k args (fun r => r = ⟨.w (.c (.d (.lit x))), []⟩) := by
  refine ⟨hk, fun w A vals hA hw => (h w A vals hw).mono ?_⟩
  rintro e w' ⟨rfl, rfl⟩
  refine ⟨x, _, rfl, rfl, ⟨Nat.le_refl _, fun _ => ⟨none, 0⟩, ?_, ?_, ?_, ?_, ?_, ?_⟩, Grows.refl _ _⟩
  · simp only [VR, WR, CR, RD]; exact ⟨trivial, hx⟩
  · intro p y hp; cases hp
  · intro p q y z b hp; cases hp
  · intro p y b hp; cases hp
  · intro p y hp; cases hp
  · intro p y hp; cases hp

theorem wrs_lit1 {ι : Nat → Gh} {w : World} {A : Nat → Prop} {vals : List Value} {x : Value} (h : WRs ι w A [.c (.d (.lit x))] vals) : vals = [x] := by
  match vals, h with
  | [v], h => simp only [WRs, WR, CR, RD] at h; rw [h.1.1]
theorem wrs_lit2 {ι : Nat → Gh} {w : World} {A : Nat → Prop} {vals : List Value} {x y : Value} (h : WRs ι w A [.c (.d (.lit x)), .c (.d (.lit y))] vals) : vals = [x, y] := by
  match vals, h with
  | [v, u], h => simp only [WRs, WR, CR, RD] at h; rw [h.1.1, h.2.1.1]

def byteAt (s : ByteArray) (c : Int) : Int := Lib.indexByte s.data.toList c.toNat.toUInt8
theorem sat_sl_IndexByte (s : ByteArray) (c : Int) : Sat Pg k_internal_stringslite_IndexByte [.c (str s), .c (.d (.lit (.int .u8 c)))] (fun r => r = rI (byteAt s c)) := by
  refine sat_pure (by kernel_rfl) rfl fun w A vals h => ?_
  rw [wrs_lit2 h]
  exact Tryz.stringslite_IndexByte s c w

attribute [local irreducible] Sat
set_option maxRecDepth 100000
def T0 : Tab Pg := ⟨fun _ _ => none, fun _ _ _ h => by cases h⟩

theorem sat_IndexByte (s : ByteArray) (c : Int) : Sat Pg k_strings_IndexByte [.c (str s), .c (.d (.lit (.int .u8 c)))] (fun r => r = rI (byteAt s c)) := by
  refine Sat_of T0 c_strings_IndexByte_ok (by kernel_rfl) ?_
  refine Sat.mono (sat_sl_IndexByte s c) ?_
  rintro _ rfl
  rfl

structure Val where
  k : Int
  n : Int
  s : ByteArray
def Val.ds (v : Val) : List D := [.lit (.int .i64 v.k), .lit (.int .i64 v.n), .lit (.string v.s)]
def Val.w (v : Val) : W := .agg [int v.k, int v.n, str v.s]

def inB (n : Int) : Bool := decide (n ≥ -1000000000000000) && decide (n ≤ 1000000000000000)
theorem sat_num_In (n : Int) : Sat Pg k_num_In [.c (int n)] (fun r => r = rB (inB n)) := by
  refine Sat_of T0 c_num_In_ok (by kernel_rfl) ?_
  conv => whnf
  rfl

theorem ne_self' (n : Int) : (n != n) = false := by simp
theorem beqS_self (b : ByteArray) : beqS b b = true := by unfold beqS; simp
theorem sat_isNaN_int (n : Int) : Sat Pg k_cmp_isNaN_int [.c (int n)] (fun r => r = rB false) := by
  refine Sat_of T0 c_cmp_isNaN_int_ok (by kernel_rfl) ?_
  conv => whnf
  exact congrArg rB (ne_self' n)
theorem sat_isNaN_ValueKind (n : Int) : Sat Pg k_cmp_isNaN_ValueKind [.c (int n)] (fun r => r = rB false) := by
  refine Sat_of T0 c_cmp_isNaN_ValueKind_ok (by kernel_rfl) ?_
  conv => whnf
  exact congrArg rB (ne_self' n)
theorem sat_isNaN_string (b : ByteArray) : Sat Pg k_cmp_isNaN_string [.c (str b)] (fun r => r = rB false) := by
  refine Sat_of T0 c_cmp_isNaN_string_ok (by kernel_rfl) ?_
  conv => whnf
  exact congrArg rB (show (!beqS b b) = false by rw [beqS_self]; rfl)

def T1f (k : FuncId) (l : List W) : Option W :=
  match l with
  | [.c (.d (.lit (.int .i64 n)))] => bif Nat.beq k k_num_In then some (.c (bool (inB n))) else bif Nat.beq k k_cmp_isNaN_int || Nat.beq k k_cmp_isNaN_ValueKind then some (.c (bool false)) else none
  | [.c (.d (.lit (.string _)))] => bif Nat.beq k k_cmp_isNaN_string then some (.c (bool false)) else none
  | [.c (.d (.lit (.string s))), .c (.d (.lit (.int .u8 c)))] => bif Nat.beq k k_strings_IndexByte then some (.c (int (byteAt s c))) else none
  | _ => none
theorem bif_some {c : Bool} {w z : W} {y : Option W} (h : (bif c then some w else y) = some z) : (c = true ∧ z = w) ∨ (c = false ∧ y = some z) := by
  cases c
  · exact .inr ⟨rfl, h⟩
  · cases h; exact .inl ⟨rfl, rfl⟩
theorem T1ok (k : FuncId) (l : List W) (w : W) (h : T1f k l = some w) : Sat Pg k l (fun r => r = ⟨.w w, []⟩) := by
  unfold T1f at h
  split at h
  · rcases bif_some h with ⟨h1, rfl⟩ | ⟨_, h⟩
    · rw [Nat.eq_of_beq_eq_true h1]; exact sat_num_In _
    · rcases bif_some h with ⟨h1, rfl⟩ | ⟨_, h⟩
      · rw [Bool.or_eq_true] at h1
        rcases h1 with h1 | h1
        · rw [Nat.eq_of_beq_eq_true h1]; exact sat_isNaN_int _
        · rw [Nat.eq_of_beq_eq_true h1]; exact sat_isNaN_ValueKind _
      · cases h
  · rcases bif_some h with ⟨h1, rfl⟩ | ⟨_, h⟩
    · rw [Nat.eq_of_beq_eq_true h1]; exact sat_isNaN_string _
    · cases h
  · rcases bif_some h with ⟨h1, rfl⟩ | ⟨_, h⟩
    · rw [Nat.eq_of_beq_eq_true h1]; exact sat_IndexByte _ _
    · cases h
  · cases h
def T1 : Tab Pg := ⟨T1f, T1ok⟩

def cmpI (a b : Int) : Int := bif decide (a < b) then -1 else bif decide (a > b) then 1 else 0
def cmpS (a b : ByteArray) : Int := bif ltS a b then -1 else bif beqS a b then 0 else 1

theorem sat_Compare_int (a b : Int) : Sat Pg k_cmp_Compare_int [.c (int a), .c (int b)] (fun r => r = rI (cmpI a b)) := by
  unfold cmpI
  refine Sat_of T1 c_cmp_Compare_int_ok (by kernel_rfl) ?_
  repeat' (conv => whnf
           refine cond_i (fun h => ?_) (fun h => ?_))
  all_goals refine congrArg rI ?_
  all_goals simp only [*, cond_true, cond_false]
theorem sat_Compare_ValueKind (a b : Int) : Sat Pg k_cmp_Compare_ValueKind [.c (int a), .c (int b)] (fun r => r = rI (cmpI a b)) := by
  unfold cmpI
  refine Sat_of T1 c_cmp_Compare_ValueKind_ok (by kernel_rfl) ?_
  repeat' (conv => whnf
           refine cond_i (fun h => ?_) (fun h => ?_))
  all_goals refine congrArg rI ?_
  all_goals simp only [*, cond_true, cond_false]
theorem sat_Compare_string (a b : ByteArray) : Sat Pg k_cmp_Compare_string [.c (str a), .c (str b)] (fun r => r = rI (cmpS a b)) := by
  unfold cmpS
  refine Sat_of T1 c_cmp_Compare_string_ok (by kernel_rfl) ?_
  repeat' (conv => whnf
           refine cond_i (fun h => ?_) (fun h => ?_))
  all_goals refine congrArg rI ?_
  · rw [h]; rfl
  · cases h1 : ltS a b <;> cases h2 : beqS a b <;> simp_all
  · cases h1 : ltS a b <;> cases h2 : beqS a b <;> simp_all

def signs : ByteArray := ⟨#[95, 46, 58, 47, 60, 62, 36, 42, 126, 45]⟩
def letterB (c : Int) : Bool := (decide (c ≥ 97) && decide (c ≤ 122)) || (decide (c ≥ 65) && decide (c ≤ 90)) || (decide (c ≥ 48) && decide (c ≤ 57)) || decide (byteAt signs c ≥ 0)
theorem sat_letter (c : Int) : Sat Pg k_intern_letter [.c (.d (.lit (.int .u8 c)))] (fun r => r = rB (letterB c)) := by
  refine Sat_of T1 c_intern_letter_ok (by kernel_rfl) ?_
  conv => whnf
  rfl

def valErr (k : Int) (v : Val) : Int :=
  bif v.k != 0 && (v.k != k || !(k == 1 || k == 2 || k == 3)) then 14 else
  bif (v.k == 1 && v.n != 0 && v.n != 1) then 2 else bif (v.k == 2 && !inB v.n) then 2 else
  bif v.k == 3 && decide ((v.s.size : Int) > 200) then 7 else
  bif v.k != 3 && !beqS v.s ⟨#[]⟩ then 1 else bif (v.k == 0 || v.k == 3) && v.n != 0 then 1 else 0

theorem sat_column_Value (k : Int) (v : Val) : Sat Pg k_column_Value [.c (int k), v.w] (fun r => r = rI (valErr k v)) := by
  obtain ⟨a, n, s⟩ := v
  unfold valErr
  refine Sat_of T1 c_column_Value_ok (by kernel_rfl) ?_
  repeat' (conv => whnf
           refine cond_i (fun h => ?_) (fun h => ?_))
  all_goals refine congrArg rI ?_
  all_goals first | (simp only [*, cond_true, cond_false]; done) | simp_all only [Bool.false_eq_true]

end Go.Proofs.YtekkjilpdohieaaGreat

namespace Go.Proofs.YtekkjilpdohieaaGreat
open Go Go.AM
attribute [local irreducible] Sat LoopP
set_option maxRecDepth 100000

def T2f (k : FuncId) (l : List W) : Option W :=
  match l with
  | [.c (.d (.lit (.int .u8 c)))] => bif Nat.beq k k_intern_letter then some (.c (bool (letterB c))) else none
  | [.c (.d (.lit (.int .i64 m))), .c (.d (.lit (.int .i64 n)))] => bif Nat.beq k k_cmp_Compare_int || Nat.beq k k_cmp_Compare_ValueKind then some (.c (int (cmpI m n))) else none
  | [.c (.d (.lit (.string m))), .c (.d (.lit (.string n)))] => bif Nat.beq k k_cmp_Compare_string then some (.c (int (cmpS m n))) else none
  | [.c (.d (.lit (.int .i64 t))), .agg [.d (.lit (.int .i64 k1)), .d (.lit (.int .i64 n)), .d (.lit (.string s))]] => bif Nat.beq k k_column_Value then some (.c (int (valErr t ⟨k1, n, s⟩))) else none
  | _ => T1f k l
theorem T2ok (k : FuncId) (l : List W) (w : W) (h : T2f k l = some w) : Sat Pg k l (fun r => r = ⟨.w w, []⟩) := by
  unfold T2f at h
  split at h
  · rcases bif_some h with ⟨h1, rfl⟩ | ⟨_, h⟩
    · rw [Nat.eq_of_beq_eq_true h1]; exact sat_letter _
    · cases h
  · rcases bif_some h with ⟨h1, rfl⟩ | ⟨_, h⟩
    · rw [Bool.or_eq_true] at h1
      rcases h1 with h1 | h1
      · rw [Nat.eq_of_beq_eq_true h1]; exact sat_Compare_int _ _
      · rw [Nat.eq_of_beq_eq_true h1]; exact sat_Compare_ValueKind _ _
    · cases h
  · rcases bif_some h with ⟨h1, rfl⟩ | ⟨_, h⟩
    · rw [Nat.eq_of_beq_eq_true h1]; exact sat_Compare_string _ _
    · cases h
  · rcases bif_some h with ⟨h1, rfl⟩ | ⟨_, h⟩
    · rw [Nat.eq_of_beq_eq_true h1]; exact sat_column_Value _ ⟨_, _, _⟩
    · cases h
  · exact T1ok k l w h
def T2 : Tab Pg := ⟨T2f, T2ok⟩

def ordV (a b : Val) : Int := bif a.k != b.k then cmpI a.k b.k else bif a.k == 3 then cmpS a.s b.s else bif a.k == 1 || a.k == 2 then cmpI a.n b.n else 0
theorem sat_table_Order (a b : Val) : Sat Pg k_table_Order [a.w, b.w] (fun r => r = rI (ordV a b)) := by
  obtain ⟨a1, a2, a3⟩ := a
  obtain ⟨b1, b2, b3⟩ := b
  unfold ordV
  refine Sat_of T2 c_table_Order_ok (by kernel_rfl) ?_
  repeat' (conv => whnf
           refine cond_i (fun h => ?_) (fun h => ?_))
  all_goals refine congrArg rI ?_
  all_goals first | (simp only [*, cond_true, cond_false]; done) | simp_all only [Bool.false_eq_true]

/-- The bytes of a string from i on. -/
def namL : List UInt8 → Int
  | [] => 0
  | c :: r => bif !letterB c.toNat then 3 else namL r
def namErr (s : ByteArray) : Int := bif beqS s ⟨#[]⟩ || decide ((s.size : Int) > 40) then 3 else namL s.data.toList

theorem drop_cons {α : Type} {l : List α} {i : Nat} (h : i < l.length) : l.drop i = l[i] :: l.drop (i + 1) := List.drop_eq_getElem_cons h
theorem size_list (s : ByteArray) : s.data.toList.length = s.size := by simp
theorem size_le (s : ByteArray) (h : (s.size : Int) ≤ 40) : s.size ≤ 9223372036854775807 := by omega

theorem sat_intern_Name (s : ByteArray) : Sat Pg k_intern_Name [.c (str s)] (fun r => r = rI (namErr s)) := by
  unfold namErr
  refine Sat_of T2 c_intern_Name_ok (by kernel_rfl) ?_
  conv => whnf
  refine cond_i (fun h => ?_) (fun h => ?_)
  · rw [h]; rfl
  · rw [h]
    simp only [Bool.or_eq_false_iff, decide_eq_false_iff_not] at h
    conv => whnf
    refine loopI (P := Pg) (f := T2.f) (body := c_intern_Name_L0) s.size (fun i => ⟨[(0, .w (.c (str s))), (12, intV s.size), (13, intV i)], []⟩) (fun i => namL s.data.toList = namL (s.data.toList.drop i)) ⟨rfl, normW_of ?_⟩ ?_
    · conv => whnf
      rfl
    · intro i hi hR
      conv => whnf
      refine cond_i (fun h1 => ?_) (fun h1 => ?_)
      · have hlt : i < s.size := by have := of_decide_eq_true h1; omega
        have hlt' : i < s.data.toList.length := by rw [size_list]; exact hlt
        rw [drop_cons hlt'] at hR
        conv => whnf
        refine ⟨⟨by omega, by omega⟩, ?_⟩
        have hb : s.data.toList.getD ((i : Int)).toNat 0 = s.data.toList[i] := by simp [List.getD, List.getElem?_eq_getElem hlt']
        rw [hb]
        generalize s.data.toList[i] = b at hR
        conv => whnf
        refine cond_i (fun h2 => ?_) (fun h2 => ?_)
        · conv => whnf
          simp only [namL, h2, cond_true] at hR
          exact congrArg rI hR.symm
        · conv => whnf
          simp only [namL, h2, cond_false] at hR
          refine ⟨hlt, hR, normW_of ?_⟩
          conv => whnf
          rw [wrapS hlt (by omega)]
          rfl
      · have hge : s.size ≤ i := by have := of_decide_eq_false h1; omega
        rw [List.drop_eq_nil_of_le (by rw [size_list]; exact hge)] at hR
        conv => whnf
        exact congrArg rI hR.symm
end Go.Proofs.YtekkjilpdohieaaGreat

namespace Go.Proofs.YtekkjilpdohieaaGreat
open Go Go.AM
attribute [local irreducible] Sat LoopP
set_option maxRecDepth 100000

def rowD (r : List Val) : List (List D) := r.map Val.ds
def rowC (r : List Val) : W := .c (.d (.sl (rowD r)))
theorem rowD_len (r : List Val) : (rowD r).length = r.length := by simp [rowD]
theorem rowD_get {r : List Val} {i : Nat} (h : i < r.length) : (rowD r)[((i : Int)).toNat]? = some (r[i]).ds := by simp [rowD, List.getElem?_eq_getElem h]

/-- Lists compared by the first elements that differ. -/
def cmpL {α : Type} (c : α → α → Int) : List α → List α → Int
  | [], [] => 0
  | [], _ :: _ => -1
  | _ :: _, [] => 1
  | x :: xs, y :: ys => bif c x y != 0 then c x y else cmpL c xs ys

theorem cmpL_end {α : Type} (c : α → α → Int) {a b : List α} {i : Nat} (h : a.length ≤ i) : cmpL c (a.drop i) (b.drop i) = bif decide (((b.length : Int)) > i) then -1 else 0 := by
  rw [List.drop_eq_nil_of_le h]
  by_cases hb : i < b.length
  · rw [drop_cons hb]
    have : decide (((b.length : Int)) > i) = true := decide_eq_true (by omega)
    rw [this]; rfl
  · rw [List.drop_eq_nil_of_le (by omega)]
    have : decide (((b.length : Int)) > i) = false := decide_eq_false (by omega)
    rw [this]; rfl

theorem sat_CompareFunc (g : FuncId) (c : Val → Val → Int) (hc : ∀ x y, Sat Pg g [x.w, y.w] (fun r => r = rI (c x y))) (a b : List Val) :
    Sat Pg k_slices_CompareFunc_Value [rowC a, rowC b, .c (.d (.fn g []))] (fun r => r = rI (cmpL c a b)) := by
  refine sat_len 0 (by kernel_rfl) rfl fun hlen => ?_
  rw [rowD_len] at hlen
  refine Sat_of T2 c_slices_CompareFunc_Value_ok (by kernel_rfl) ?_
  conv => whnf
  refine loopI (P := Pg) (f := T2.f) (body := c_slices_CompareFunc_Value_L0) a.length (fun i => ⟨[(0, .w (rowC a)), (1, .w (rowC b)), (2, .w (.c (.d (.fn g [])))), (11, .w (rowC a)), (12, intV (rowD a).length), (13, intV i)], []⟩)
    (fun i => i ≤ b.length ∧ cmpL c a b = cmpL c (a.drop i) (b.drop i)) ⟨⟨Nat.zero_le _, rfl⟩, normW_of ?_⟩ ?_
  · conv => whnf
    rfl
  · intro i hi hR
    obtain ⟨hib, hR⟩ := hR
    conv => whnf
    refine cond_i (fun h1 => ?_) (fun h1 => ?_)
    · have hlt : i < a.length := by have := of_decide_eq_true h1; rw [rowD_len] at this; omega
      conv => whnf
      refine ⟨by omega, _, rowD_get hlt, rfl, ?_⟩
      conv => whnf
      refine cond_i (fun h2 => ?_) (fun h2 => ?_)
      · have hge : b.length ≤ i := by have := of_decide_eq_true h2; rw [rowD_len] at this; omega
        rw [drop_cons hlt, List.drop_eq_nil_of_le hge] at hR
        conv => whnf
        exact congrArg rI hR.symm
      · have hlb : i < b.length := by have := of_decide_eq_false h2; rw [rowD_len] at this; omega
        conv => whnf
        refine ⟨by omega, _, rowD_get hlb, rfl, ?_⟩
        conv => whnf
        refine Sat.mono (hc a[i] b[i]) ?_
        rintro _ rfl
        rw [drop_cons hlt, drop_cons hlb] at hR
        conv => whnf
        refine cond_i (fun h3 => ?_) (fun h3 => ?_)
        · simp only [cmpL, h3, cond_true] at hR
          conv => whnf
          exact congrArg rI hR.symm
        · simp only [cmpL, h3, cond_false] at hR
          conv => whnf
          refine ⟨hlt, ⟨hlb, hR⟩, normW_of ?_⟩
          conv => whnf
          rw [wrapS hlt hlen]
          rfl
    · have hge : a.length ≤ i := by have := of_decide_eq_false h1; rw [rowD_len] at this; omega
      have hia : i = a.length := by omega
      rw [cmpL_end c hge] at hR
      subst hia
      conv => whnf
      refine cond_i (fun h2 => ?_) (fun h2 => ?_)
      · have : decide (((b.length : Int)) > a.length) = true := decide_eq_true (by have := of_decide_eq_true h2; rw [rowD_len, rowD_len] at this; omega)
        rw [this] at hR
        conv => whnf
        exact congrArg rI hR.symm
      · have : decide (((b.length : Int)) > a.length) = false := decide_eq_false (by have := of_decide_eq_false h2; rw [rowD_len, rowD_len] at this; omega)
        rw [this] at hR
        conv => whnf
        exact congrArg rI hR.symm

def ordR (a b : List Val) : Int := cmpL ordV a b
structure Col where
  name : ByteArray
  t : Int
def Col.ds (c : Col) : List D := [.lit (.string c.name), .lit (.int .i64 c.t)]
def Col.w (c : Col) : W := .agg [str c.name, int c.t]
def colD (r : List Col) : List (List D) := r.map Col.ds
theorem colD_len (r : List Col) : (colD r).length = r.length := by simp [colD]
theorem colD_get {r : List Col} {i : Nat} (h : i < r.length) : (colD r)[((i : Int)).toNat]? = some (r[i]).ds := by simp [colD, List.getElem?_eq_getElem h]

/-- The first place at which p holds, counted from i on. -/
def findI {α : Type} (p : α → Bool) : Int → List α → Int
  | _, [] => -1
  | i, x :: r => bif p x then i else findI p (i + 1) r

theorem sat_IndexFunc_Column (g : FuncId) (cap : List D) (p : Col → Bool) (hp : ∀ x : Col, Sat Pg g [x.w, .c (.fp cap)] (fun r => r = rB (p x))) (l : List Col) :
    Sat Pg k_slices_IndexFunc_Column [.c (.d (.sl (colD l))), .c (.d (.fn g [cap]))] (fun r => r = rI (findI p 0 l)) := by
  refine sat_len 0 (by kernel_rfl) rfl fun hlen => ?_
  rw [colD_len] at hlen
  refine Sat_of T2 c_slices_IndexFunc_Column_ok (by kernel_rfl) ?_
  conv => whnf
  refine loopI (P := Pg) (f := T2.f) (body := c_slices_IndexFunc_Column_L0) l.length (fun i => ⟨[(0, .w (.c (.d (.sl (colD l))))), (1, .w (.c (.d (.fn g [cap])))), (7, intV (colD l).length), (8, intV i)], []⟩)
    (fun i => findI p 0 l = findI p i (l.drop i)) ⟨rfl, normW_of ?_⟩ ?_
  · conv => whnf
    rfl
  · intro i hi hR
    conv => whnf
    refine cond_i (fun h1 => ?_) (fun h1 => ?_)
    · have hlt : i < l.length := by have := of_decide_eq_true h1; rw [colD_len] at this; omega
      conv => whnf
      refine ⟨by omega, _, colD_get hlt, rfl, ?_⟩
      conv => whnf
      refine Sat.mono (hp l[i]) ?_
      rintro _ rfl
      rw [drop_cons hlt] at hR
      conv => whnf
      refine cond_i (fun h3 => ?_) (fun h3 => ?_)
      · simp only [findI, h3, cond_true] at hR
        conv => whnf
        exact congrArg rI hR.symm
      · simp only [findI, h3, cond_false] at hR
        conv => whnf
        refine ⟨hlt, hR, normW_of ?_⟩
        conv => whnf
        rw [wrapS hlt hlen]
        rfl
    · have hge : l.length ≤ i := by have := of_decide_eq_false h1; rw [colD_len] at this; omega
      rw [List.drop_eq_nil_of_le hge] at hR
      conv => whnf
      exact congrArg rI hR.symm

theorem sat_table_Col_1 (x : Col) (name : ByteArray) : Sat Pg k_table_Col_1 [x.w, .c (.fp [.lit (.string name)])] (fun r => r = rB (beqS x.name name)) := by
  obtain ⟨a, b⟩ := x
  refine Sat_of T2 c_table_Col_1_ok (by kernel_rfl) ?_
  conv => whnf
  rfl
def colAt (l : List Col) (name : ByteArray) : Int := findI (fun x => beqS x.name name) 0 l
theorem sat_table_Col (l : List Col) (rows : C) (name : ByteArray) (hr : ∃ d, rows = .d d) : Sat Pg k_table_Col [.agg [.d (.sl (colD l)), rows], .c (str name)] (fun r => r = rI (colAt l name)) := by
  obtain ⟨d, rfl⟩ := hr
  refine Sat_of T2 c_table_Col_ok (by kernel_rfl) ?_
  conv => whnf
  refine Sat.mono (sat_IndexFunc_Column k_table_Col_1 [.lit (.string name)] (fun x => beqS x.name name) (fun x => sat_table_Col_1 x name) l) ?_
  rintro _ rfl
  rfl
end Go.Proofs.YtekkjilpdohieaaGreat

namespace Go.Proofs.YtekkjilpdohieaaGreat
open Go Go.AM
attribute [local irreducible] Sat LoopP
set_option maxRecDepth 100000

def T3f (k : FuncId) (l : List W) : Option W :=
  match l with
  | [.c (.d (.lit (.string s)))] => bif Nat.beq k k_intern_Name then some (.c (int (namErr s))) else T2f k l
  | [.agg [.d (.lit (.int .i64 k1)), .d (.lit (.int .i64 n1)), .d (.lit (.string s1))], .agg [.d (.lit (.int .i64 k2)), .d (.lit (.int .i64 n2)), .d (.lit (.string s2))]] =>
    bif Nat.beq k k_table_Order then some (.c (int (ordV ⟨k1, n1, s1⟩ ⟨k2, n2, s2⟩))) else none
  | _ => T2f k l
theorem T3ok (k : FuncId) (l : List W) (w : W) (h : T3f k l = some w) : Sat Pg k l (fun r => r = ⟨.w w, []⟩) := by
  unfold T3f at h
  split at h
  · rcases bif_some h with ⟨h1, rfl⟩ | ⟨_, h⟩
    · rw [Nat.eq_of_beq_eq_true h1]; exact sat_intern_Name _
    · exact T2ok k _ w h
  · rcases bif_some h with ⟨h1, rfl⟩ | ⟨_, h⟩
    · rw [Nat.eq_of_beq_eq_true h1]; exact sat_table_Order ⟨_, _, _⟩ ⟨_, _, _⟩
    · cases h
  · exact T2ok k l w h
def T3 : Tab Pg := ⟨T3f, T3ok⟩

def valuesL : List Col → List Val → Int
  | c :: cs, v :: vs => bif valErr c.t v != 0 then valErr c.t v else valuesL cs vs
  | _, _ => 0
def valuesErr (cols : List Col) (row : List Val) : Int := bif ((row.length : Int)) != cols.length then 10 else valuesL cols row

theorem valuesL_nil (cols : List Col) : valuesL cols [] = 0 := by cases cols <;> rfl

structure Tbl where
  cols : List Col
  rows : List (List Val)
def rowsD (l : List (List Val)) : List (List D) := l.map fun r => [D.sl (rowD r)]
def Tbl.w (t : Tbl) : W := .agg [.d (.sl (colD t.cols)), .d (.sl (rowsD t.rows))]
def Tbl.ds (t : Tbl) : List D := [.sl (colD t.cols), .sl (rowsD t.rows)]
theorem rowsD_len (r : List (List Val)) : (rowsD r).length = r.length := by simp [rowsD]
theorem rowsD_get {r : List (List Val)} {i : Nat} (h : i < r.length) : (rowsD r)[((i : Int)).toNat]? = some [D.sl (rowD r[i])] := by simp [rowsD, List.getElem?_eq_getElem h]

def colsL (all : List Col) : Nat → List Col → Int
  | _, [] => 0
  | i, c :: r => bif namErr c.name != 0 then namErr c.name else bif decide (colAt (all.take i) c.name ≥ 0) then 4 else bif c.t != 1 && c.t != 2 && c.t != 3 then 14 else colsL all (i + 1) r
def rowsL (cols : List Col) : List (List Val) → Int
  | [] => 0
  | r :: rs => bif ((r.length : Int)) != cols.length then 10 else bif valuesL cols r != 0 then valuesL cols r else rowsL cols rs
def tblErr (t : Tbl) : Int :=
  bif decide ((t.cols.length : Int) > 32) || decide ((t.rows.length : Int) > 20000) then 7 else bif colsL t.cols 0 t.cols != 0 then colsL t.cols 0 t.cols else rowsL t.cols t.rows

theorem colD_take (l : List Col) (i : Nat) : (colD l).take i = colD (l.take i) := by simp [colD, List.map_take]
theorem colD_sz (l : List Col) : ∀ y ∈ colD l, y.length = 2 := by
  intro y hy
  simp only [colD, List.mem_map] at hy
  obtain ⟨x, _, rfl⟩ := hy
  rfl

set_option maxHeartbeats 1000000 in
theorem sat_table_Check (t : Tbl) : Sat Pg k_table_Check [t.w] (fun r => r = rI (tblErr t)) := by
  obtain ⟨cols, rows⟩ := t
  unfold tblErr
  refine sat_bnd (by kernel_rfl) fun hb => ?_
  have hb := hb _ (List.mem_singleton.2 rfl)
  refine Sat_of T3 c_table_Check_ok (by kernel_rfl) ?_
  conv => whnf
  rw [rowsD_len, colD_len]
  refine cond_i (fun h => ?_) (fun h => ?_)
  · rw [h]; rfl
  · rw [h]
    simp only [Bool.or_eq_false_iff, decide_eq_false_iff_not] at h
    simp only [cond_false]
    conv => whnf
    refine loopI (P := Pg) (f := T3.f) (body := c_table_Check_L0) cols.length (fun i => ⟨[(1, cV (.ptr 1 0)), (22, .w (.c (.d (.sl (colD cols))))), (23, intV (colD cols).length), (24, intV i)], [(1, .box [.d (.sl (colD cols)), .d (.sl (rowsD rows))])]⟩)
      (fun i => colsL cols 0 cols = colsL cols i (cols.drop i)) ⟨rfl, normW_of ?_⟩ ?_
    · conv => whnf
      rfl
    · intro i hi hR
      conv => whnf
      refine cond_i (fun h1 => ?_) (fun h1 => ?_)
      · have hlt : i < cols.length := by have := of_decide_eq_true h1; rw [colD_len] at this; omega
        rw [drop_cons hlt] at hR
        conv => whnf
        refine ⟨by omega, _, colD_get hlt, rfl, ?_⟩
        conv => whnf
        refine cond_i (fun h3 => ?_) (fun h3 => ?_)
        · have h3 : (namErr cols[i].name != 0) = true := h3
          simp only [colsL, h3, cond_true] at hR
          conv => whnf
          rw [hR, h3]
          rfl
        · have h3 : (namErr cols[i].name != 0) = false := h3
          simp only [colsL, h3, cond_false] at hR
          conv => whnf
          refine ⟨by simp only [orI]; omega, by simp only [orI]; rw [colD_len]; omega, ?_⟩
          have ht : (colD cols).take (orI (some ((i : Int))) ((colD cols).length : Int)).toNat = colD (cols.take i) := by simp only [orI, Int.toNat_natCast]; exact colD_take cols i
          rw [ht]
          conv => whnf
          refine Sat.mono (sat_table_Col (cols.take i) (.d (.sl [])) cols[i].name ⟨_, rfl⟩) ?_
          rintro _ rfl
          conv => whnf
          refine cond_i (fun h4 => ?_) (fun h4 => ?_)
          · have h4 : decide (colAt (cols.take i) cols[i].name ≥ 0) = true := h4
            simp only [h4, cond_true] at hR
            conv => whnf
            rw [hR]
            rfl
          · have h4 : decide (colAt (cols.take i) cols[i].name ≥ 0) = false := h4
            simp only [h4, cond_false] at hR
            conv => whnf
            refine cond_i (fun h5 => ?_) (fun h5 => ?_)
            · have h5 : (cols[i].t != 1 && cols[i].t != 2 && cols[i].t != 3) = true := h5
              simp only [h5, cond_true] at hR
              conv => whnf
              rw [hR]
              rfl
            · have h5 : (cols[i].t != 1 && cols[i].t != 2 && cols[i].t != 3) = false := h5
              simp only [h5, cond_false] at hR
              conv => whnf
              refine ⟨hlt, hR, normW_of ?_⟩
              conv => whnf
              rw [wrapS hlt (by omega)]
              rfl
      · have hge : cols.length ≤ i := by have := of_decide_eq_false h1; rw [colD_len] at this; omega
        rw [List.drop_eq_nil_of_le hge] at hR
        have hc0 : (colsL cols 0 cols != 0) = false := by rw [hR]; rfl
        rw [hc0]
        simp only [cond_false]
        conv => whnf
        refine loopI (P := Pg) (f := T3.f) (body := c_table_Check_L2) rows.length (fun i => ⟨[(1, cV (.ptr 1 0)), (59, .w (.c (.d (.sl (rowsD rows))))), (60, intV (rowsD rows).length), (61, intV i)], [(1, .box [.d (.sl (colD cols)), .d (.sl (rowsD rows))])]⟩)
          (fun i => rowsL cols rows = rowsL cols (rows.drop i)) ⟨rfl, normW_of ?_⟩ ?_
        · conv => whnf
          rfl
        · clear hR hge h1 hi i
          intro i hi hR
          conv => whnf
          refine cond_i (fun h1 => ?_) (fun h1 => ?_)
          · have hlt : i < rows.length := by have := of_decide_eq_true h1; rw [rowsD_len] at this; omega
            rw [drop_cons hlt] at hR
            have hrl : (rows[i]).length ≤ 9223372036854775807 := by
              have := hb (.d (.sl (rowsD rows))) (by simp [Tbl.w])
              simp only [bndC, bnd] at this
              have := bnds_iff.1 this.2 [D.sl (rowD rows[i])] (by simp only [rowsD, List.mem_map]; exact ⟨rows[i], List.getElem_mem _, rfl⟩)
              simp only [bndc, bnd] at this
              have := this.1.1
              rwa [rowD_len] at this
            conv => whnf
            refine ⟨by omega, _, rowsD_get hlt, rfl, ?_⟩
            generalize rows[i] = row at hR hrl
            conv => whnf
            rw [rowD_len, colD_len]
            refine cond_i (fun h3 => ?_) (fun h3 => ?_)
            · simp only [rowsL, h3, cond_true] at hR
              conv => whnf
              exact congrArg rI hR.symm
            · simp only [rowsL, h3, cond_false] at hR
              have hl : row.length = cols.length := by simp only [bne_eq_false_iff_eq] at h3; omega
              conv => whnf
              refine loopI (P := Pg) (f := T3.f) (body := c_table_Check_L1) row.length (fun j => ⟨[(1, cV (.ptr 1 0)), (59, .w (.c (.d (.sl (rowsD rows))))), (60, intV (rowsD rows).length), (61, intV i), (71, .w (rowC row)), (72, intV (rowD row).length), (73, intV j)], [(1, .box [.d (.sl (colD cols)), .d (.sl (rowsD rows))])]⟩)
                (fun j => valuesL cols row = valuesL (cols.drop j) (row.drop j)) ⟨rfl, normW_of ?_⟩ ?_
              · conv => whnf
                rfl
              · intro j hj hV
                conv => whnf
                refine cond_i (fun h4 => ?_) (fun h4 => ?_)
                · have hlj : j < row.length := by have := of_decide_eq_true h4; rw [rowD_len] at this; omega
                  have hlc : j < cols.length := by omega
                  rw [drop_cons hlj, drop_cons hlc] at hV
                  conv => whnf
                  refine ⟨by omega, _, rowD_get hlj, rfl, ?_⟩
                  conv => whnf
                  refine ⟨by omega, _, colD_get hlc, rfl, ?_⟩
                  conv => whnf
                  refine cond_i (fun h5 => ?_) (fun h5 => ?_)
                  · have h5 : (valErr cols[j].t row[j] != 0) = true := h5
                    simp only [valuesL, h5, cond_true] at hV
                    rw [hV, h5] at hR
                    conv => whnf
                    exact congrArg rI hR.symm
                  · have h5 : (valErr cols[j].t row[j] != 0) = false := h5
                    simp only [valuesL, h5, cond_false] at hV
                    conv => whnf
                    refine ⟨hlj, hV, normW_of ?_⟩
                    conv => whnf
                    rw [wrapS hlj hrl]
                    rfl
                · have hge : row.length ≤ j := by have := of_decide_eq_false h4; rw [rowD_len] at this; omega
                  rw [List.drop_eq_nil_of_le hge, valuesL_nil] at hV
                  rw [hV] at hR
                  conv => whnf
                  refine ⟨hlt, hR, normW_of ?_⟩
                  conv => whnf
                  rw [wrapS hlt (by omega)]
                  rfl
          · have hge : rows.length ≤ i := by have := of_decide_eq_false h1; rw [rowsD_len] at this; omega
            rw [List.drop_eq_nil_of_le hge] at hR
            conv => whnf
            exact congrArg rI hR.symm
end Go.Proofs.YtekkjilpdohieaaGreat
