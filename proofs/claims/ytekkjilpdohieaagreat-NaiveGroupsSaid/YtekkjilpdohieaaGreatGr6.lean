/- Merged from the texts: AmM6 -/
import Derived.Test.YtekkjilpdohieaaGreatGr5
set_option linter.unusedSimpArgs false
set_option linter.unusedVariables false
namespace Go.AM

def avalK (f : FuncId → List W → Option W) (op : AOp) (s : S) (fail : Prop) (K : List Prop → V → Prop) : Prop :=
  match aval f op s with
  | some (ps, v) => forceV v fun v => K ps v
  | none => fail

def spanK (d : Nat) : List Nat → List AI → (List AI → List AI → Prop) → Prop
  | _, [], K => K [] []
  | U, .mk dst g isG op drop :: r, K => match g with
    | some (e, w) => bif Nat.beq e d || isin e U then spanK d (match dst with | some x => x :: U | none => U) r fun a b => K (.mk dst (some (e, w)) isG op drop :: a) b
      else K [] (.mk dst (some (e, w)) isG op drop :: r)
    | none => K [] (.mk dst none isG op drop :: r)

mutual
def mevK (f : FuncId → List W → Option W) : Nat → Nat → Bool → List AI → S → Prop → (List Prop → S → Prop) → Prop
  | 0, _, _, _, _, fail, _ => fail
  | n + 1, d, want, ops, s, fail, K => match ops with
    | [] => K [] s
    | .mk dst g isG op drop :: r => bif guardEq g (some (d, want)) && isLitB (s.tmp d) want && isSome dst then
        avalK f op s fail fun ps v => bif isG then force (s.put dst v) fun s1 => scK f n (some (d, want)) dst drop r s1 fail fun ps2 s2 r2 => mevK f n d want r2 s2 fail fun ps3 s3 => K (ps ++ (ps2 ++ ps3)) s3
          else force ((s.put dst v).drop drop) fun s2 => mevK f n d want r s2 fail fun ps3 s3 => K (ps ++ ([] ++ ps3)) s3
      else fail
def scK (f : FuncId → List W → Option W) : Nat → Option (Nat × Bool) → Option Nat → List Nat → List AI → S → Prop → (List Prop → S → List AI → Prop) → Prop
  | 0, _, _, _, _, _, fail, _ => fail
  | n + 1, gd, dst, dr, ops, s, fail, K => match dst with
    | none => fail
    | some d => match litBool (s.tmp d) with
      | none => fail
      | some b => spanK d [] ops fun blk rest => match blk, rest with
        | .mk dst1 (some (e, w)) isG1 op1 drop1 :: blk', .mk (some dp) g2 false (.pick (.t c) x y) drop :: r2 =>
          bif Nat.beq c d && guardEq g2 gd && guardOut drop gd && guardOk (s.drop dr) gd && failB d w [] (.mk dst1 (some (e, w)) isG1 op1 drop1 :: blk') && withinB drop (.mk dst1 (some (e, w)) isG1 op1 drop1 :: blk') && isin d drop && !isin d dr && sortedB s.sl then
            force ((s.put (some d) (boolV w)).drop dr) fun s1 => mevK f n d w (.mk dst1 (some (e, w)) isG1 op1 drop1 :: blk') s1 fail fun ps sb => match litBool (sb.o (bif w then x else y)), (bif w then y else x) with
              | some bi, .k v => match litBool v with
                | some bo => bif isLitB (sb.tmp d) w then force (((s.drop dr).put (some dp) (scV w b bi bo)).drop drop) fun s2 => K (implL (bif w then b else !b) ps) s2 r2 else fail
                | none => fail
              | _, _ => fail
          else fail
        | _, _ => fail
end

theorem spanK_eq (d : Nat) : ∀ (U : List Nat) (ops : List AI) (K : List AI → List AI → Prop), spanK d U ops K = K (spanB d U ops).1 (spanB d U ops).2
  | _, [], K => rfl
  | U, .mk dst g isG op drop :: r, K => by
    unfold spanK spanB
    cases g with
    | none => rfl
    | some x =>
      obtain ⟨e, w⟩ := x
      simp only
      cases hc : (Nat.beq e d || isin e U)
      · rfl
      · simp only [cond_true]
        rw [spanK_eq d _ r]
        cases dst <;> rfl

theorem avalK_of {f : FuncId → List W → Option W} {op : AOp} {s : S} {fail : Prop} {K : List Prop → V → Prop} (h : avalK f op s fail K) : fail ∨ ∃ ps v, aval f op s = some (ps, v) ∧ K ps v := by
  unfold avalK at h
  split at h
  · rename_i ps v hv
    rw [forceV_eq] at h
    exact .inr ⟨ps, v, hv, h⟩
  · exact .inl h

def MKOk (f : FuncId → List W → Option W) (n : Nat) : Prop := ∀ d want ops s fail (K : List Prop → S → Prop), mevK f n d want ops s fail K → fail ∨ ∃ ps s', mevB f n d want ops s = some (ps, s') ∧ K ps s'
def SKOk (f : FuncId → List W → Option W) (n : Nat) : Prop := ∀ gd dst dr ops s fail (K : List Prop → S → List AI → Prop), scK f n gd dst dr ops s fail K → fail ∨ ∃ ps s' r2, scB f n gd dst dr ops s = some (ps, s', r2) ∧ K ps s' r2

theorem mk_step {f : FuncId → List W → Option W} {n : Nat} (hm : MKOk f n) (hs : SKOk f n) : MKOk f (n + 1) := by
  intro d want ops s fail K h
  unfold mevK at h
  unfold mevB
  cases ops with
  | nil => exact .inr ⟨[], s, rfl, h⟩
  | cons i r =>
    obtain ⟨dst, g, isG, op, drop⟩ := i
    simp only at h ⊢
    cases hc : (guardEq g (some (d, want)) && isLitB (s.tmp d) want && isSome dst) <;> rw [hc] at h
    · exact .inl h
    simp only [cond_true] at h ⊢
    rcases avalK_of h with h | ⟨ps, v, ha, h⟩
    · exact .inl h
    rw [ha]
    simp only
    cases isG with
    | true =>
      simp only [cond_true, force_eq] at h ⊢
      rcases hs _ _ _ _ _ _ _ h with h | ⟨p2, s2, r2, h2, h⟩
      · exact .inl h
      rw [h2]
      simp only
      rcases hm _ _ _ _ _ _ h with h | ⟨p3, s3, h3, h⟩
      · exact .inl h
      rw [h3]
      exact .inr ⟨_, _, rfl, h⟩
    | false =>
      simp only [cond_false, force_eq] at h ⊢
      rcases hm _ _ _ _ _ _ h with h | ⟨p3, s3, h3, h⟩
      · exact .inl h
      rw [h3]
      exact .inr ⟨_, _, rfl, h⟩

theorem sk_step {f : FuncId → List W → Option W} {n : Nat} (hm : MKOk f n) : SKOk f (n + 1) := by
  intro gd dst dr ops s fail K h
  unfold scK at h
  unfold scB
  cases dst with
  | none => exact .inl h
  | some d =>
  simp only at h ⊢
  cases hb : litBool (s.tmp d) with
  | none => rw [hb] at h; exact .inl h
  | some b =>
  rw [hb] at h
  simp only [spanK_eq] at h ⊢
  generalize spanB d [] ops = q at *
  obtain ⟨blk, rest⟩ := q
  simp only at h ⊢
  split at h
  · rename_i dst1 e w isG1 op1 drop1 blk' dp g2 c x y drop r2
    simp only
    generalize (Nat.beq c d && guardEq g2 gd && guardOut drop gd && guardOk (s.drop dr) gd && failB d w [] (AI.mk dst1 (some (e, w)) isG1 op1 drop1 :: blk') && withinB drop (AI.mk dst1 (some (e, w)) isG1 op1 drop1 :: blk') && isin d drop && !isin d dr && sortedB s.sl) = cc at h ⊢
    cases cc
    · exact .inl h
    simp only [cond_true, force_eq] at h ⊢
    rcases hm _ _ _ _ _ _ h with h | ⟨ps, sb, h3, h⟩
    · exact .inl h
    rw [h3]
    simp only at h ⊢
    split at h
    · rename_i bi v h4 h5
      rw [h4, h5]
      simp only
      split at h
      · rename_i bo h6
        rw [h6]
        simp only
        cases h7 : isLitB (sb.tmp d) w <;> rw [h7] at h
        · exact .inl h
        · exact .inr ⟨_, _, _, rfl, h⟩
      · exact .inl h
    · exact .inl h
  · exact .inl h

theorem mk_sk (f : FuncId → List W → Option W) : ∀ n, MKOk f n ∧ SKOk f n
  | 0 => ⟨(by intro d want ops s fail K h; unfold mevK at h; exact .inl h), (by intro gd dst dr ops s fail K h; unfold scK at h; exact .inl h)⟩
  | n + 1 => ⟨mk_step (mk_sk f n).1 (mk_sk f n).2, sk_step (mk_sk f n).1⟩

theorem cond_mono' {b : Bool} {A B A' B' : Prop} (h1 : A → A') (h2 : B → B') : cond b A B → cond b A' B' := by cases b; exact h2; exact h1
theorem avalK_mono {f : FuncId → List W → Option W} {op : AOp} {s : S} {fail fail' : Prop} {K K' : List Prop → V → Prop} (hf : fail → fail') (hk : ∀ ps v, K ps v → K' ps v) (h : avalK f op s fail K) : avalK f op s fail' K' := by
  unfold avalK at h ⊢
  split at h
  · rw [forceV_eq] at h ⊢; exact hk _ _ h
  · exact hf h

def MMono (f : FuncId → List W → Option W) (n : Nat) : Prop := ∀ d want ops s (fail fail' : Prop) (K K' : List Prop → S → Prop), (fail → fail') → (∀ ps s, K ps s → K' ps s) → mevK f n d want ops s fail K → mevK f n d want ops s fail' K'
def SMono (f : FuncId → List W → Option W) (n : Nat) : Prop := ∀ gd dst dr ops s (fail fail' : Prop) (K K' : List Prop → S → List AI → Prop), (fail → fail') → (∀ ps s r, K ps s r → K' ps s r) → scK f n gd dst dr ops s fail K → scK f n gd dst dr ops s fail' K'

theorem mm_step {f : FuncId → List W → Option W} {n : Nat} (hm : MMono f n) (hs : SMono f n) : MMono f (n + 1) := by
  intro d want ops s fail fail' K K' hf hk h
  unfold mevK at h ⊢
  cases ops with
  | nil => exact hk _ _ h
  | cons i r =>
    obtain ⟨dst, g, isG, op, drop⟩ := i
    simp only at h ⊢
    refine cond_mono' (fun h => avalK_mono hf (fun ps v h => ?_) h) hf h
    cases isG with
    | true =>
      simp only [cond_true, force_eq] at h ⊢
      exact hs _ _ _ _ _ _ _ _ _ hf (fun _ _ _ h => hm _ _ _ _ _ _ _ _ hf (fun _ _ => hk _ _) h) h
    | false =>
      simp only [cond_false, force_eq] at h ⊢
      exact hm _ _ _ _ _ _ _ _ hf (fun _ _ => hk _ _) h

theorem sm_step {f : FuncId → List W → Option W} {n : Nat} (hm : MMono f n) : SMono f (n + 1) := by
  intro gd dst dr ops s fail fail' K K' hf hk h
  unfold scK at h ⊢
  cases dst with
  | none => exact hf h
  | some d =>
  simp only at h ⊢
  cases hb : litBool (s.tmp d) with
  | none => rw [hb] at h; exact hf h
  | some b =>
  rw [hb] at h
  simp only [spanK_eq] at h ⊢
  generalize spanB d [] ops = q at *
  obtain ⟨blk, rest⟩ := q
  simp only at h ⊢
  split at h
  · refine cond_mono' (fun h => ?_) hf h
    simp only [force_eq] at h ⊢
    refine hm _ _ _ _ _ _ _ _ hf (fun ps sb h => ?_) h
    split at h
    · split at h
      · exact cond_mono' (hk _ _ _) hf h
      · exact hf h
    · exact hf h
  · exact hf h

theorem mono_all (f : FuncId → List W → Option W) : ∀ n, MMono f n ∧ SMono f n
  | 0 => ⟨(by intro d want ops s fail fail' K K' hf hk h; unfold mevK at h ⊢; exact hf h), (by intro gd dst dr ops s fail fail' K K' hf hk h; unfold scK at h ⊢; exact hf h)⟩
  | n + 1 => ⟨mm_step (mono_all f n).1 (mono_all f n).2, sm_step (mono_all f n).1⟩
theorem scK_mono {f : FuncId → List W → Option W} {n : Nat} {gd : Option (Nat × Bool)} {dst : Option Nat} {dr : List Nat} {ops : List AI} {s : S} {fail fail' : Prop} {K K' : List Prop → S → List AI → Prop} (hf : fail → fail') (hk : ∀ ps s r, K ps s r → K' ps s r)
    (h : scK f n gd dst dr ops s fail K) : scK f n gd dst dr ops s fail' K' := (mono_all f n).2 _ _ _ _ _ _ _ _ _ hf hk h
end Go.AM
