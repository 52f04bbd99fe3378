/- Merged from the texts: AmM4 -/
import Derived.Test.YtekkjilpdohieaaGreatGr4
set_option linter.unusedSimpArgs false
set_option linter.unusedVariables false
namespace Go.AM

theorem guardEq_eq {a b : Option (Nat × Bool)} (h : guardEq a b = true) : a = b := by
  cases a with
  | none => cases b with
    | none => rfl
    | some x => cases h
  | some x => cases b with
    | none => cases h
    | some y =>
      obtain ⟨x1, x2⟩ := x
      obtain ⟨y1, y2⟩ := y
      simp only [guardEq] at h
      cases h1 : Nat.beq x1 y1 <;> rw [h1] at h
      · cases h
      · have := Nat.eq_of_beq_eq_true h1
        subst this
        have : x2 = y2 := eq_of_beq h
        rw [this]

/-- An operation whose guard holds is carried out. -/
theorem awpOps_step {P : Program} {dst : Option Nat} {g : Option (Nat × Bool)} {isG : Bool} {op : AOp} {drop : List Nat} {r : List AI} {s : S} {K : S → Prop} (hg : guardOk s g = true)
    (h : aop P dst op s fun s1 => split isG dst s1 fun s2 => awpOps P r (s2.drop drop) K) : awpOps P (.mk dst g isG op drop :: r) s K := by
  unfold awpOps
  simp only [force_eq]
  cases g with
  | none => exact h
  | some x =>
    obtain ⟨d, w⟩ := x
    have := isLitB_eq hg
    simp only [this, boolV, cV]
    cases w <;> exact h

theorem awpOps_step' {P : Program} {dst : Option Nat} {g : Option (Nat × Bool)} {op : AOp} {drop : List Nat} {r : List AI} {s : S} {K : S → Prop} (hg : guardOk s g = true)
    (h : aop P dst op s fun s1 => awpOps P r (s1.drop drop) K) : awpOps P (.mk dst g false op drop :: r) s K := awpOps_step hg h

def MevOk (P : Program) (T : Tab P) (n : Nat) : Prop := ∀ d want ops s ps s', mevB T.f n d want ops s = some (ps, s') →
  (∀ l, withinB l ops = true → Same l s s') ∧ ∀ rest K, andL ps True → awpOps P rest s' K → awpOps P (ops ++ rest) s K
def ScOk (P : Program) (T : Tab P) (n : Nat) : Prop := ∀ gd dst dr ops s ps s' r2, scB T.f n gd dst dr ops s = some (ps, s', r2) →
  (∀ l d, dst = some d → withinB l ops = true → isin d l = true → allL (fun k => isin k l) dr = true → Same l s s') ∧ (∃ pre, ops = pre ++ r2) ∧
    ∀ rest K, andL ps True → awpOps P (r2 ++ rest) s' K → split true dst s fun s2 => awpOps P (ops ++ rest) (s2.drop dr) K

theorem mev_step {P : Program} {T : Tab P} {n : Nat} (hm : MevOk P T n) (hs : ScOk P T n) : MevOk P T (n + 1) := by
  intro d want ops s ps s' h
  unfold mevB at h
  cases ops with
  | nil => cases h; exact ⟨fun l _ => Same.refl l _, fun rest K _ hk => hk⟩
  | cons i r =>
    obtain ⟨dst, g, isG, op, drop⟩ := i
    simp only at h
    cases hc : (guardEq g (some (d, want)) && isLitB (s.tmp d) want && isSome dst) <;> rw [hc] at h
    · cases h
    simp only [cond_true] at h
    rw [Bool.and_eq_true, Bool.and_eq_true] at hc
    obtain ⟨⟨hg, hd⟩, hdst⟩ := hc
    have hg := guardEq_eq hg
    subst hg
    cases dst with
    | none => cases hdst
    | some x =>
    cases ha : aval T.f op s with
    | none => rw [ha] at h; cases h
    | some y =>
      obtain ⟨p1, v⟩ := y
      rw [ha] at h
      simp only at h
      cases isG with
      | false =>
        simp only [cond_false] at h
        cases h3 : mevB T.f n d want r ((s.put (some x) v).drop drop) with
        | none => rw [h3] at h; cases h
        | some z =>
          obtain ⟨p3, s3⟩ := z
          rw [h3] at h
          cases h
          obtain ⟨a, b⟩ := hm _ _ _ _ _ _ h3
          refine ⟨fun l hl => ?_, fun rest K hp hk => ?_⟩
          · obtain ⟨y, e, h1, h2, h4⟩ := withinB_cons hl
            cases e
            exact ((Same.put h1 v).trans (Same.drop h2)).trans (a l h4)
          · obtain ⟨hp1, hp2⟩ := andL_app hp
            refine awpOps_step' (g := some (d, want)) hd ?_
            exact aval_ok ha hp1 (b rest K hp2 hk) rfl
      | true =>
        simp only [cond_true] at h
        cases h2 : scB T.f n (some (d, want)) (some x) drop r (s.put (some x) v) with
        | none => rw [h2] at h; cases h
        | some z =>
          obtain ⟨p2, s2, r2⟩ := z
          rw [h2] at h
          simp only at h
          cases h3 : mevB T.f n d want r2 s2 with
          | none => rw [h3] at h; cases h
          | some z =>
            obtain ⟨p3, s3⟩ := z
            rw [h3] at h
            cases h
            obtain ⟨a, b⟩ := hm _ _ _ _ _ _ h3
            obtain ⟨c, ⟨pre, rfl⟩, e⟩ := hs _ _ _ _ _ _ _ _ h2
            refine ⟨fun l hl => ?_, fun rest K hp hk => ?_⟩
            · obtain ⟨y, e1, h4, h5, h6⟩ := withinB_cons hl
              cases e1
              exact ((Same.put h4 v).trans (c l x rfl h6 h4 h5)).trans (a l (withinB_app h6).2)
            · obtain ⟨hp1, hp2⟩ := andL_app hp
              obtain ⟨hp2, hp3⟩ := andL_app hp2
              refine awpOps_step (g := some (d, want)) hd ?_
              refine aval_ok ha hp1 ?_ rfl
              exact e rest K hp2 (b rest K hp3 hk)

theorem sc_step {P : Program} {T : Tab P} {n : Nat} (hm : MevOk P T n) : ScOk P T (n + 1) := by
  intro gd dst dr ops s ps s' r2 h
  unfold scB at h
  cases dst with
  | none => cases h
  | some d =>
  simp only at h
  cases hb : litBool (s.tmp d) with
  | none => rw [hb] at h; cases h
  | some b =>
  rw [hb] at h
  simp only at h
  split at h
  · rename_i dst1 e w isG1 op1 drop1 blk' dp g2 c x y drop r2' hsp
    have hops := spanB_app _ _ _ _ _ hsp
    generalize hblk : AI.mk dst1 (some (e, w)) isG1 op1 drop1 :: blk' = blk at *
    subst hops
    cases hc : (Nat.beq c d && guardEq g2 gd && guardOut drop gd && guardOk (s.drop dr) gd && failB d w [] blk && withinB drop blk && isin d drop && !isin d dr && sortedB s.sl) <;> rw [hc] at h
    · cases h
    simp only [cond_true] at h
    simp only [Bool.and_eq_true, Bool.not_eq_true'] at hc
    obtain ⟨⟨⟨⟨⟨⟨⟨⟨h1, h2⟩, h3⟩, h4⟩, h5⟩, h6⟩, h7⟩, h8⟩, h9⟩ := hc
    have h1 := Nat.eq_of_beq_eq_true h1
    subst h1
    have h2 := guardEq_eq h2
    subst h2
    cases hmv : mevB T.f n c w blk ((s.put (some c) (boolV w)).drop dr) with
    | none => rw [hmv] at h; cases h
    | some z =>
    obtain ⟨p1, sb⟩ := z
    rw [hmv] at h
    simp only at h
    split at h
    · rename_i bi v hin hout
      split at h
      · rename_i bo hbo
        cases hl : isLitB (sb.tmp c) w <;> rw [hl] at h
        · cases h
        cases h
        have hbo := litBool_eq hbo
        subst hbo
        rw [scV_eq]
        obtain ⟨ma, mb⟩ := hm _ _ _ _ _ _ hmv
        have hsame := ma drop h6
        have hbv := litBool_eq hb
        have hinv := litBool_eq hin
        -- the guard holds behind the block
        have hguard : ∀ t : S, (∀ k, isin k drop = false → aget t.sl k = aget (s.drop dr).sl k) → guardOk t g2 = true := by
          intro t ht
          cases g2 with
          | none => rfl
          | some z =>
            obtain ⟨e2, w2⟩ := z
            have ho : isin e2 drop = false := by
              simp only [guardOut] at h3
              cases hx : isin e2 drop
              · rfl
              · rw [hx] at h3; cases h3
            show isLitB (t.tmp e2) w2 = true
            rw [S.tmp_of (ht e2 ho)]
            exact h4
        have hput : ∀ (u : V) (k : Nat), isin k drop = false → aget ((s.put (some c) u).drop dr).sl k = aget (s.drop dr).sl k := by
          intro u k hk
          rw [S.drop_get, S.drop_get, S.put_get]
          intro e; cases e; rw [h7] at hk; cases hk
        have hfin : ∀ (t : S) (u : V), t.pl = s.pl → sortedB t.sl = true → (∀ k, isin k drop = false → aget t.sl k = aget (s.drop dr).sl k) →
            (t.put (some dp) u).drop drop = ((s.drop dr).put (some dp) u).drop drop := by
          intro t u hpl hso ht
          refine S.ext' hpl (S.drop_sorted (S.put_sorted hso _ _) _) (S.drop_sorted (S.put_sorted (S.drop_sorted h9 _) _ _) _) fun k => ?_
          rw [S.drop_get, S.drop_get]
          split
          · rename_i hk
            by_cases e : dp = k
            · subst e; rw [S.put_same, S.put_same]
            · rw [S.put_get _ _ _ _ (fun h => by cases h; exact e rfl), S.put_get _ _ _ _ (fun h => by cases h; exact e rfl)]
              exact ht k hk
          · rfl
        refine ⟨fun l d' hd' hl1 hl2 hl3 => ?_, ⟨blk ++ [.mk (some dp) g2 false (.pick (.t c) x y) drop], by simp⟩, fun rest K hp hk => ?_⟩
        · obtain ⟨_, hw⟩ := withinB_app hl1
          obtain ⟨d2, e2, hd2, hdr2, _⟩ := withinB_cons hw
          cases e2
          exact ((Same.drop hl3).trans (Same.put hd2 _)).trans (Same.drop hdr2)
        · show split true (some c) s _
          unfold split
          simp only [cond_true, hb]
          have happ : blk ++ AI.mk (some dp) g2 false (.pick (.t c) x y) drop :: r2 ++ rest = blk ++ AI.mk (some dp) g2 false (.pick (.t c) x y) drop :: (r2 ++ rest) := by simp
          rw [happ]
          -- the guard holds
          have hpass : b = w → awpOps P (blk ++ AI.mk (some dp) g2 false (.pick (.t c) x y) drop :: (r2 ++ rest)) ((s.put (some c) (boolV w)).drop dr) K := by
            rintro rfl
            refine mb _ K ?_ ?_
            · cases p1 with
              | nil => trivial
              | cons q qs =>
                simp only [implL, andL, and_true] at hp
                exact hp (by cases b <;> rfl)
            · have hget : ∀ k, isin k drop = false → aget sb.sl k = aget (s.drop dr).sl k := fun k hk => (hsame.get k hk).trans (hput _ k hk)
              refine awpOps_step' (hguard sb hget) ?_
              simp only [aop]
              have hcb : sb.o (.t c) = boolV b := isLitB_eq hl
              rw [hcb]
              have hlb : litBool (boolV b) = some b := rfl
              rw [hlb]
              have hso : sortedB sb.sl = true := hsame.sorted (S.drop_sorted (S.put_sorted h9 _ _) _)
              have hpl : sb.pl = s.pl := hsame.pl
              cases b
              · simp only [cond_false] at hinv hk ⊢
                rw [hinv, hfin sb _ hpl hso hget]
                exact hk
              · simp only [cond_true] at hinv hk ⊢
                rw [hinv, hfin sb _ hpl hso hget]
                exact hk
          have hfail : b = !w → awpOps P (blk ++ AI.mk (some dp) g2 false (.pick (.t c) x y) drop :: (r2 ++ rest)) ((s.put (some c) (boolV (!w))).drop dr) K := by
            rintro rfl
            have hq : ((s.put (some c) (boolV (!w))).drop dr).tmp c = boolV (!w) := by
              unfold S.tmp
              rw [S.drop_get, if_pos h8, S.put_same]
            have hfo := fails_ok (P := P) (K := K) (rest := AI.mk (some dp) g2 false (.pick (.t c) x y) drop :: (r2 ++ rest)) h5 hq (by intro e he; cases he)
            refine hfo.2 ?_
            have hfs := fails_same (s := (s.put (some c) (boolV (!w))).drop dr) h6
            have hget : ∀ k, isin k drop = false → aget (fails blk ((s.put (some c) (boolV (!w))).drop dr)).sl k = aget (s.drop dr).sl k := fun k hk => (hfs.get k hk).trans (hput _ k hk)
            refine awpOps_step' (hguard _ hget) ?_
            simp only [aop]
            have hcb : (fails blk ((s.put (some c) (boolV (!w))).drop dr)).o (.t c) = boolV (!w) := hfo.1
            rw [hcb]
            have hlb : litBool (boolV (!w)) = some (!w) := rfl
            rw [hlb]
            have hso : sortedB (fails blk ((s.put (some c) (boolV (!w))).drop dr)).sl = true := hfs.sorted (S.drop_sorted (S.put_sorted h9 _ _) _)
            have hpl : (fails blk ((s.put (some c) (boolV (!w))).drop dr)).pl = s.pl := hfs.pl
            cases w
            · simp only [cond_false, Bool.not_false, cond_true] at hout hk hget hso hpl ⊢
              subst hout
              show awpOps P _ (((fails blk _).put (some dp) (boolV bo)).drop drop) K
              rw [hfin _ _ hpl hso hget]
              exact hk
            · simp only [cond_false, Bool.not_true, cond_true] at hout hk hget hso hpl ⊢
              subst hout
              show awpOps P _ (((fails blk _).put (some dp) (boolV bo)).drop drop) K
              rw [hfin _ _ hpl hso hget]
              exact hk
          cases b <;> cases w
          · exact hpass rfl
          · exact hfail rfl
          · exact hfail rfl
          · exact hpass rfl
      · cases h
    · cases h
  · cases h

theorem mev_sc (P : Program) (T : Tab P) : ∀ n, MevOk P T n ∧ ScOk P T n
  | 0 => ⟨(by intro d want ops s ps s' h; unfold mevB at h; cases h), (by intro gd dst dr ops s ps s' r2 h; unfold scB at h; cases h)⟩
  | n + 1 => ⟨mev_step (mev_sc P T n).1 (mev_sc P T n).2, sc_step (mev_sc P T n).1⟩
end Go.AM
