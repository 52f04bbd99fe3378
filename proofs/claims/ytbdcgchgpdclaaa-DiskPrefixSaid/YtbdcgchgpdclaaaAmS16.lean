/- Soundness of the abstract machine: regions that draw their order, in one order. -/
import Derived.Test.YtbdcgchgpdclaaaAmS15
namespace Go.AM

theorem anyL_iff {α : Type} {f : α → Bool} : ∀ {l : List α}, anyL f l = true ↔ ∃ x ∈ l, f x = true
  | [] => by simp [anyL]
  | x :: r => by
    simp only [anyL, List.mem_cons]
    cases h : f x
    · rw [cond_false, anyL_iff]
      constructor
      · rintro ⟨y, h1, h2⟩; exact ⟨y, .inr h1, h2⟩
      · rintro ⟨y, rfl | h1, h2⟩
        · rw [h] at h2; cases h2
        · exact ⟨y, h1, h2⟩
    · rw [cond_true]
      exact ⟨fun _ => ⟨x, .inl rfl, h⟩, fun _ => rfl⟩
theorem allL_iff {α : Type} {f : α → Bool} : ∀ {l : List α}, allL f l = true ↔ ∀ x ∈ l, f x = true
  | [] => by simp [allL]
  | x :: r => by
    simp only [allL, List.mem_cons]
    cases h : f x
    · rw [cond_false]
      exact ⟨fun h' => (by cases h'), fun h' => (by have h2 := h' x (.inl rfl); rw [h] at h2; cases h2)⟩
    · rw [cond_true, allL_iff]
      constructor
      · rintro h' y (rfl | hy)
        · exact h
        · exact h' y hy
      · exact fun h' y hy => h' y (.inr hy)

theorem isin_false0 {n : Nat} {l : List Nat} : isin n l = false ↔ n ∉ l := by
  rw [← isin_iff]; cases isin n l <;> simp
theorem isin_cons_ne {j i : Nat} {r : List Nat} (h : j ≠ i) : isin j (i :: r) = isin j r := by
  cases hb : isin j r with
  | true => exact (isin_iff _ _).2 (List.mem_cons_of_mem _ ((isin_iff _ _).1 hb))
  | false => exact isin_false0.2 (fun h' => (List.mem_cons.1 h').elim h (isin_false0.1 hb))

theorem isin_false {n : Nat} {l : List Nat} : isin n l = false ↔ n ∉ l := by
  rw [← isin_iff]; cases isin n l <;> simp

section
variable {P : Program} {hs : List Nat} {ops : Array Oper}

theorem cls_quiet0 {o : Oper} {x : AOp} (hx : cOp P o.op o.type = some x) (h : cls P o = 1 ∨ cls P o = 2) : x.quiet = true ∧ (cls P o = 1 → x.reads = false) := by
  unfold cls at h ⊢
  rw [hx] at h ⊢
  simp only at h ⊢
  cases hq : x.quiet with
  | true =>
    refine ⟨rfl, fun h1 => ?_⟩
    cases hr : x.reads with
    | false => rfl
    | true => rw [hr] at h1; cases h1
  | false =>
    rw [hq] at h
    cases hc : isCall x <;> rw [hc] at h
    · cases ha : isAllocOf o x <;> rw [ha] at h <;> rcases h with h | h <;> cases h
    · rcases h with h | h <;> cases h

theorem cls_call0 {o : Oper} {x : AOp} (hx : cOp P o.op o.type = some x) (h : cls P o = 3) : isCall x = true := by
  unfold cls at h
  rw [hx] at h
  simp only at h
  cases hq : x.quiet <;> rw [hq] at h
  · cases hc : isCall x
    · rw [hc] at h
      cases ha : isAllocOf o x <;> rw [ha] at h <;> cases h
    · rfl
  · cases hr : x.reads <;> rw [hr] at h <;> cases h

theorem cls_alloc0 {o : Oper} (h : cls P o = 4) : ∃ cs d, cOp P o.op o.type = some (.alloc cs) ∧ solid cs = true ∧ o.guard = none ∧ o.dst = some d := by
  unfold cls at h
  cases hx : cOp P o.op o.type with
  | none => rw [hx] at h; cases h
  | some x =>
    rw [hx] at h
    simp only at h
    cases hq : x.quiet <;> rw [hq] at h
    · cases hc : isCall x <;> rw [hc] at h
      · cases ha : isAllocOf o x <;> rw [ha] at h
        · cases h
        · unfold isAllocOf at ha
          split at ha
          · rename_i cs
            simp only [Bool.and_eq_true, Bool.not_eq_true'] at ha
            obtain ⟨⟨h1, h2⟩, h3⟩ := ha
            obtain ⟨d, hd⟩ := isSome_spec h3
            refine ⟨cs, d, rfl, h1, ?_, hd⟩
            cases hg : o.guard with
            | none => rfl
            | some g => rw [hg] at h2; cases h2
          · cases ha
      · cases h
    · cases hr : x.reads <;> rw [hr] at h <;> cases h

theorem cls_le0 (o : Oper) : cls P o ≤ 4 := by
  unfold cls
  split
  · rename_i x _
    cases x.quiet
    · cases isCall x
      · cases isAllocOf o x <;> exact Nat.le_of_ble_eq_true rfl
      · exact Nat.le_of_ble_eq_true rfl
    · cases x.reads <;> exact Nat.le_of_ble_eq_true rfl
  · exact Nat.le_of_ble_eq_true rfl

/-! The class of the operation with a number. -/
theorem clsAt_cases {i : Nat} {o : Oper} (ho : ops[i]? = some o) : (isin i hs = true ∧ clsAt P hs ops i = 0) ∨ (isin i hs = false ∧ clsAt P hs ops i = cls P o) := by
  unfold clsAt
  cases isin i hs
  · exact .inr ⟨rfl, by simp [ho]⟩
  · exact .inl ⟨rfl, rfl⟩
theorem cls_quiet {i : Nat} {o : Oper} (ho : ops[i]? = some o) {x : AOp} (hx : cOpM P (isin i hs) o.op o.type = some x) (h : clsAt P hs ops i = 1 ∨ clsAt P hs ops i = 2) :
    cOp P o.op o.type = some x ∧ x.quiet = true ∧ (clsAt P hs ops i = 1 → x.reads = false) := by
  rcases clsAt_cases (P := P) (hs := hs) ho with ⟨_, h1⟩ | ⟨h1, h2⟩
  · rw [h1] at h; rcases h with h | h <;> cases h
  · rw [h1] at hx
    rw [h2] at h ⊢
    exact ⟨hx, cls_quiet0 hx h⟩
theorem cls_call {i : Nat} {o : Oper} (ho : ops[i]? = some o) {x : AOp} (hx : cOpM P (isin i hs) o.op o.type = some x) (h : clsAt P hs ops i = 3) : cOp P o.op o.type = some x ∧ isCall x = true := by
  rcases clsAt_cases (P := P) (hs := hs) ho with ⟨_, h1⟩ | ⟨h1, h2⟩
  · rw [h1] at h; cases h
  · rw [h1] at hx
    rw [h2] at h
    exact ⟨hx, cls_call0 hx h⟩
theorem cls_alloc {i : Nat} {o : Oper} (ho : ops[i]? = some o) (h : clsAt P hs ops i = 4) : ∃ cs d, cOp P o.op o.type = some (.alloc cs) ∧ solid cs = true ∧ o.guard = none ∧ o.dst = some d := by
  rcases clsAt_cases (P := P) (hs := hs) ho with ⟨_, h1⟩ | ⟨_, h2⟩
  · rw [h1] at h; cases h
  · rw [h2] at h; exact cls_alloc0 h
theorem cls_le {i : Nat} {o : Oper} (ho : ops[i]? = some o) : clsAt P hs ops i ≤ 4 := by
  rcases clsAt_cases (P := P) (hs := hs) ho with ⟨_, h1⟩ | ⟨_, h2⟩
  · rw [h1]; exact Nat.zero_le _
  · rw [h2]; exact cls_le0 o

/-! The compact operations of an order. -/
theorem cOps_cons {N : Nat} {gs : List Nat} {i : Nat} {l : List Nat} {xs : List AI} (hx : cOps P N hs ops.toList gs (i :: l) = some (xs.map AI.erase)) :
    ∃ o x g drop rest, xs = .mk o.dst g (isin i gs) x drop :: rest ∧ ops[i]? = some o ∧ (∀ k, o.dst = some k → k < N) ∧ cOpM P (isin i hs) o.op o.type = some x ∧ cGuard ops.toList o.guard = some g ∧
      cOps P N hs ops.toList gs l = some (rest.map AI.erase) := by
  simp only [cOps] at hx
  split at hx
  case h_2 => cases hx
  rename_i o ho
  have ho' : ops[i]? = some o := by rw [← Array.getElem?_toList]; exact ho
  cases hd : dstOk N o.dst with
  | false => rw [hd] at hx; cases hx
  | true =>
    rw [hd] at hx
    simp only [cond_true] at hx
    split at hx
    case h_2 => cases hx
    rename_i x g ys hx1 hg hys
    cases xs with
    | nil => simp at hx
    | cons y rest =>
      cases y with
      | mk d1 g1 isG1 op1 drop =>
        simp only [Option.some.injEq, List.map_cons, AI.erase, List.cons.injEq, AI.mk.injEq, and_true] at hx
        obtain ⟨⟨rfl, rfl, rfl, rfl⟩, rfl⟩ := hx
        exact ⟨o, _, _, drop, rest, rfl, ho', dst_ok hd, hx1, hg, hys⟩

theorem cOps_mem {N : Nat} {gs : List Nat} : ∀ {l : List Nat} {xs : List AI}, cOps P N hs ops.toList gs l = some (xs.map AI.erase) → ∀ i ∈ l, ∃ o x, ops[i]? = some o ∧ cOpM P (isin i hs) o.op o.type = some x
  | [], _, _, i, hi => by cases hi
  | j :: l, xs, h, i, hi => by
    obtain ⟨o, x, g, drop, rest, rfl, h1, h2, h3, h4, h5⟩ := cOps_cons h
    rcases List.mem_cons.1 hi with rfl | hi
    · exact ⟨o, x, h1, h3⟩
    · exact cOps_mem h5 i hi

/-! Which operations have come up. -/
def Lst (ops : Array Oper) (listed : Array Bool) (rest : List Nat) (hid : Nat → Bool) : Prop :=
  listed.size = ops.size ∧ ∀ j, j < ops.size → listed[j]? = some (!isin j rest || hid j)

theorem Lst.step {listed : Array Bool} {i : Nat} {r : List Nat} {hid : Nat → Bool} (h : Lst ops listed (i :: r) hid) (hi : i ∉ r) : Lst ops (listed.setIfInBounds i true) r hid := by
  refine ⟨by simp [h.1], fun j hj => ?_⟩
  rw [Array.getElem?_setIfInBounds]
  split
  · rename_i e
    subst e
    rw [if_pos (by rw [h.1]; exact hj), isin_false.2 hi]; rfl
  · rename_i hne
    rw [h.2 j hj]
    rw [isin_cons_ne (Ne.symm hne)]

theorem Lst.hide {listed : Array Bool} {k : Nat} {rest : List Nat} (h : Lst ops listed rest (fun _ => false)) : Lst ops (listed.setIfInBounds k true) rest (fun j => Nat.beq j k) := by
  refine ⟨by simp [h.1], fun j hj => ?_⟩
  rw [Array.getElem?_setIfInBounds]
  split
  · rename_i e
    subst e
    rw [if_pos (by rw [h.1]; exact hj)]; simp
  · rename_i hne
    rw [h.2 j hj]
    dsimp only
    rw [beq_false (Ne.symm hne)]

theorem Lst.show {listed : Array Bool} {k : Nat} {r : List Nat} (h : Lst ops listed (k :: r) (fun j => Nat.beq j k)) (hk : k ∉ r) : Lst ops listed r (fun _ => false) := by
  refine ⟨h.1, fun j hj => ?_⟩
  rw [h.2 j hj]
  by_cases he : j = k
  · subst he
    rw [isin_false.2 hk]; simp
  · dsimp only
    rw [beq_false he, isin_cons_ne he]

theorem Lst.ready_in {listed : Array Bool} {rest : List Nat} {hid : Nat → Bool} (h : Lst ops listed rest hid) {j : Nat} (hj : j ∈ Region.ready .any ops listed) : j ∈ rest ∧ hid j = false := by
  obtain ⟨h0, o, ho, _⟩ := mem_ready.1 hj
  have hlt : j < ops.size := (Array.getElem?_eq_some_iff.1 ho).1
  have := h.2 j hlt
  rw [Array.getD_eq_getD_getElem?, this] at h0
  simp only [Option.getD_some, Bool.or_eq_false_iff, Bool.not_eq_false'] at h0
  exact ⟨(isin_iff _ _).1 h0.1, h0.2⟩

theorem Lst.unlisted {listed : Array Bool} {rest : List Nat} {hid : Nat → Bool} (h : Lst ops listed rest hid) {j : Nat} (hj : listed.getD j false = true) (hr : j ∈ rest) : hid j = true := by
  rw [Array.getD_eq_getD_getElem?] at hj
  cases hl : listed[j]? with
  | none => rw [hl] at hj; cases hj
  | some b =>
    have hlt : j < ops.size := by rw [← h.1]; exact (Array.getElem?_eq_some_iff.1 hl).1
    rw [h.2 j hlt, (isin_iff _ _).2 hr] at hj
    simpa using hj

theorem ready_waits {listed : Array Bool} {j : Nat} (hj : j ∈ Region.ready .any ops listed) {f : Nat → Bool} (hw : waitsFor ops j f = true) : ∃ n, f n = true ∧ listed.getD n false = true := by
  obtain ⟨_, o, ho, hall⟩ := mem_ready.1 hj
  unfold waitsFor at hw
  rw [ho] at hw
  obtain ⟨e, he, h1⟩ := anyL_iff.1 hw
  rw [Bool.and_eq_true] at h1
  exact ⟨e.on, h1.2, hall e (Array.mem_toList_iff.1 he) h1.1⟩

theorem deps_sub (i : Nat) : ∀ (r T : List Nat), ∀ j ∈ depsL P hs ops i r T, j ∈ T ∨ (j ∈ r ∧ clsAt P hs ops j ≠ 4)
  | [], _, _, hj => .inl hj
  | m :: r, T, j, hj => by
    simp only [depsL] at hj
    rcases deps_sub i r _ j hj with h | h
    · cases hb : (!Nat.beq (clsAt P hs ops m) 4 && waitsFor ops m (fun n => Nat.beq n i || isin n T)) with
      | false => rw [hb] at h; exact .inl h
      | true =>
        rw [hb] at h
        rw [Bool.and_eq_true] at hb
        rcases List.mem_cons.1 h with rfl | h
        · exact .inr ⟨List.mem_cons_self, fun e => by rw [e] at hb; cases hb.1⟩
        · exact .inl h
    · exact .inr ⟨List.mem_cons_of_mem _ h.1, h.2⟩

theorem deps_mono (i : Nat) : ∀ (r T : List Nat), ∀ j ∈ T, j ∈ depsL P hs ops i r T
  | [], _, _, hj => hj
  | m :: r, T, j, hj => by
    simp only [depsL]
    refine deps_mono i r _ j ?_
    cases (!Nat.beq (clsAt P hs ops m) 4 && waitsFor ops m (fun n => Nat.beq n i || isin n T))
    · exact hj
    · exact List.mem_cons_of_mem _ hj

theorem deps_waits (i : Nat) : ∀ (r T : List Nat), (∀ j ∈ T, ∃ f : Nat → Bool, waitsFor ops j f = true ∧ ∀ n, f n = true → n = i ∨ n ∈ T) → ∀ j ∈ depsL P hs ops i r T, ∃ f : Nat → Bool, waitsFor ops j f = true ∧ ∀ n, f n = true → n = i ∨ n ∈ depsL P hs ops i r T
  | [], _, h, j, hj => h j hj
  | m :: r, T, h, j, hj => by
    simp only [depsL] at hj ⊢
    cases hb : (!Nat.beq (clsAt P hs ops m) 4 && waitsFor ops m (fun n => Nat.beq n i || isin n T)) with
    | false => rw [hb] at hj; exact deps_waits i r T h j hj
    | true =>
      rw [hb] at hj
      refine deps_waits i r (m :: T) ?_ j hj
      intro k hk
      rcases List.mem_cons.1 hk with rfl | hk
      · rw [Bool.and_eq_true] at hb
        refine ⟨_, hb.2, fun n hn => ?_⟩
        rw [Bool.or_eq_true] at hn
        exact hn.imp Nat.eq_of_beq_eq_true fun h => List.mem_cons_of_mem _ ((isin_iff _ _).1 h)
      · obtain ⟨f, h1, h2⟩ := h k hk
        exact ⟨f, h1, fun n hn => (h2 n hn).imp id (List.mem_cons_of_mem _)⟩

theorem waits_edge {j : Nat} {oj : Oper} (hoj : ops[j]? = some oj) {f : Nat → Bool} (h : waitsFor ops j f = true) : ∃ e ∈ oj.after, Region.binds .any e = true ∧ f e.on = true := by
  unfold waitsFor at h
  rw [hoj] at h
  obtain ⟨e, he, h1⟩ := anyL_iff.1 h
  rw [Bool.and_eq_true] at h1
  exact ⟨e, Array.mem_toList_iff.1 he, h1.1, h1.2⟩

theorem deps_edge (i : Nat) (r : List Nat) : ∀ j ∈ depsL P hs ops i r [], ∀ oj, ops[j]? = some oj → ∃ e ∈ oj.after, Region.binds .any e = true ∧ (e.on = i ∨ e.on ∈ depsL P hs ops i r []) := by
  intro j hj oj hoj
  obtain ⟨f, h1, h2⟩ := deps_waits i r [] (fun _ h => by cases h) j hj
  obtain ⟨e, he, hb, h3⟩ := waits_edge hoj h1
  exact ⟨e, he, hb, h2 _ h3⟩

/-! What the check of an order says. -/
structure Front (P : Program) (hs : List Nat) (ops : Array Oper) (o : Oper) (i : Nat) (r : List Nat) : Prop where
  nin : i ∉ r
  pre : ∀ e ∈ o.after, Region.binds .any e = true → e.on < ops.size ∧ e.on ∉ i :: r
  sep : ∀ j ∈ r, clsAt P hs ops j = 4 → ∀ d, dstOf ops j = some d → d ∉ o.looksAt ops ∧ o.dst ≠ some d
  quiet : (clsAt P hs ops i = 1 ∨ clsAt P hs ops i = 2) → ∀ j ∈ r, j ∈ depsL P hs ops i r [] ∨ ∀ oj, ops[j]? = some oj → Apart ops o oj ∧ (clsAt P hs ops i = 1 ∨ 1 ≤ clsAt P hs ops j)
  heavy : ¬ (clsAt P hs ops i = 1 ∨ clsAt P hs ops i = 2) → ∀ j ∈ r, clsAt P hs ops j = 4 ∨ waitsFor ops j (fun n => isin n (i :: r) && (Nat.beq n i || !Nat.beq (clsAt P hs ops n) 4)) = true

theorem sepB_spec {d : Tmp} {o : Oper} (h : sepB ops (some d) o = true) : d ∉ o.looksAt ops ∧ o.dst ≠ some d := by
  simp only [sepB, Bool.and_eq_true, Bool.not_eq_true'] at h
  refine ⟨isin_false.1 h.1, fun he => ?_⟩
  rw [he] at h
  simp only [beq_self, Bool.not_true] at h
  cases h.2

theorem apartB_spec {x y : Oper} (h : apartB ops x y = true) : Apart ops x y := by
  unfold apartB at h
  rw [Bool.and_eq_true] at h
  refine ⟨fun d hd => ?_, fun d hd => ?_, fun d hd => ?_⟩
  · rw [hd] at h; exact (sepB_spec h.1).1
  · rw [hd] at h; exact (sepB_spec h.1).2
  · rw [hd] at h
    simpa using isin_false.1 (by simpa using h.2)

theorem front_spec {i : Nat} {r : List Nat} {o : Oper} (ho : ops[i]? = some o) (h : front P hs ops i r = true) : Front P hs ops o i r := by
  unfold front at h
  rw [ho] at h
  simp only [Bool.and_eq_true, Bool.not_eq_true'] at h
  obtain ⟨⟨⟨h1, h2⟩, h3⟩, h4⟩ := h
  refine ⟨isin_false.1 h1, fun e he hb => ?_, fun j hj hc d hd => ?_, fun hq j hj => ?_, fun hq j hj => ?_⟩
  · have := allL_iff.1 h2 e (Array.mem_toList_iff.2 he)
    rw [hb] at this
    simp only [Bool.not_true, Bool.false_or, Bool.and_eq_true, Bool.not_eq_true'] at this
    exact ⟨Nat.le_of_ble_eq_true this.1, isin_false.1 this.2⟩
  · have := allL_iff.1 h3 j hj
    rw [hc, beq_self, hd] at this
    exact sepB_spec (by simpa using this)
  · have hb : (Nat.beq (clsAt P hs ops i) 1 || Nat.beq (clsAt P hs ops i) 2) = true := by
      rcases hq with hq | hq <;> rw [hq] <;> rfl
    rw [hb, cond_true] at h4
    have := allL_iff.1 h4 j hj
    rw [Bool.or_eq_true] at this
    refine this.imp (isin_iff _ _).1 fun h5 oj hoj => ?_
    unfold apartAt at h5
    rw [hoj] at h5
    simp only [Bool.and_eq_true, Bool.or_eq_true] at h5
    exact ⟨apartB_spec h5.1, h5.2.imp Nat.eq_of_beq_eq_true fun h => Nat.le_of_ble_eq_true h⟩
  · have hb : (Nat.beq (clsAt P hs ops i) 1 || Nat.beq (clsAt P hs ops i) 2) = false := by
      have h1 : clsAt P hs ops i ≠ 1 := fun e => hq (.inl e)
      have h2 : clsAt P hs ops i ≠ 2 := fun e => hq (.inr e)
      rw [beq_false h1, beq_false h2]; rfl
    rw [hb, cond_false] at h4
    have := allL_iff.1 h4 j hj
    rw [Bool.or_eq_true] at this
    exact this.imp Nat.eq_of_beq_eq_true id

theorem front_some {i : Nat} {r : List Nat} (h : front P hs ops i r = true) : ∃ o, ops[i]? = some o := by
  unfold front at h
  cases ho : ops[i]? with
  | none => rw [ho] at h; cases h
  | some o => exact ⟨o, rfl⟩

theorem okOrd_cons {i : Nat} {r : List Nat} (h : okOrd P hs ops (i :: r) = true) : front P hs ops i r = true ∧ okOrd P hs ops r = true := by
  simp only [okOrd] at h
  cases hf : front P hs ops i r <;> rw [hf] at h
  · cases h
  · exact ⟨rfl, h⟩

theorem few_spec : ∀ {l : List Nat}, fewAllocs P hs ops l = true → ∀ j k, j ∈ l → k ∈ l → clsAt P hs ops j = 4 → clsAt P hs ops k = 4 → j = k
  | [], _, j, k, hj, _, _, _ => by cases hj
  | i :: r, h, j, k, hj, hk, cj, ck => by
    simp only [fewAllocs] at h
    cases hi : Nat.beq (clsAt P hs ops i) 4 with
    | true =>
      rw [hi, cond_true] at h
      have none : ∀ m ∈ r, clsAt P hs ops m ≠ 4 := fun m hm hc => by
        have := allL_iff.1 h m hm
        rw [hc] at this; cases this
      rcases List.mem_cons.1 hj with rfl | hj
      · rcases List.mem_cons.1 hk with rfl | hk
        · rfl
        · exact absurd ck (none _ hk)
      · exact absurd cj (none _ hj)
    | false =>
      rw [hi, cond_false] at h
      have hne : clsAt P hs ops i ≠ 4 := fun hc => by rw [hc] at hi; cases hi
      rcases List.mem_cons.1 hj with rfl | hj
      · exact absurd cj hne
      · rcases List.mem_cons.1 hk with rfl | hk
        · exact absurd ck hne
        · exact few_spec h j k hj hk cj ck
end

end Go.AM
