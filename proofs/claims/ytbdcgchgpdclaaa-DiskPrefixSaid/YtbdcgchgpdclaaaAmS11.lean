/- Soundness of the abstract machine, 11: results; a function's contract. -/
import Derived.Test.YtbdcgchgpdclaaaAmS14
namespace Go.AM

section
variable {P : Program} {F : Fr} {N : Nat} {ι : Nat → Gh} {s : S} {a : Act} {w : World}

/-! Packing. -/
theorem addAll_prefix {pl : List (Nat × Pl)} : ∀ (l U : List Nat), ∃ r, addAll pl U l = U ++ r
  | [], U => ⟨[], by simp [addAll]⟩
  | p :: r, U => by
    have step : ∃ r', (bif isin p U then addAll pl U r else addAll pl (U ++ [p]) r) = U ++ r' := by
      cases isin p U
      · obtain ⟨r', h⟩ := addAll_prefix (pl := pl) r (U ++ [p])
        exact ⟨p :: r', by simp only [cond_false, h, List.append_assoc, List.singleton_append]⟩
      · exact addAll_prefix r U
    unfold addAll
    split
    · exact step
    · exact step
    · exact addAll_prefix r U
theorem reach_prefix {pl : List (Nat × Pl)} : ∀ (n i : Nat) (U : List Nat), ∃ r, reach pl n i U = U ++ r
  | 0, _, U => ⟨[], by simp [reach]⟩
  | n + 1, i, U => by
    unfold reach
    split
    · split
      · rename_i cs _
        obtain ⟨r1, h1⟩ := addAll_prefix (pl := pl) (refsCs cs) U
        obtain ⟨r2, h2⟩ := reach_prefix (pl := pl) n (i + 1) (addAll pl U (refsCs cs))
        exact ⟨r1 ++ r2, by rw [h2, h1, List.append_assoc]⟩
      · exact reach_prefix n (i + 1) U
    · exact ⟨[], by simp⟩
theorem reached_prefix {pl : List (Nat × Pl)} (U l : List Nat) : ∃ r, reached pl U l = U ++ r := by
  obtain ⟨r1, h1⟩ := addAll_prefix (pl := pl) l U
  obtain ⟨r2, h2⟩ := reach_prefix (pl := pl) 40 0 (addAll pl U l)
  exact ⟨r1 ++ r2, by unfold reached; rw [h2, h1, List.append_assoc]⟩

theorem packV_sound (hr : Rel F N ι s a w) {U0 : List Nat} {ι0 : Nat → Gh} (h0 : ∀ i p x, U0[i]? = some p → aget s.pl p = some x → ι p = ι0 i) {x : V} {v : Value} (h : VR ι w (F.ok ι s.pl w) x v) : ResH F ι0 U0.length w (packV s.pl U0 x) v := by
  let U := reached s.pl U0 x.refs
  obtain ⟨ur, hU⟩ : ∃ r, U = U0 ++ r := reached_prefix U0 x.refs
  let ι' : Nat → Gh := fun k => ι (U.getD k 0)
  have hι : ∀ k p, U[k]? = some p → ι' k = ι p := fun k p hp => by simp only [ι', List.getD, hp, Option.getD_some]
  let plr := zipPl (upFrom 0 (pkPls s.pl U 0 U).length) (pkPls s.pl U 0 U)
  have hz : ∀ q y, aget plr q = some y → ∃ p, U[q]? = some p ∧ y = pkPl s.pl U q p ∧ y.isGone = false := fun q y hy => by
    obtain ⟨q', g1, g2, g3⟩ := zip_get _ _ _ _ hy
    rw [upFrom_get] at g1
    split at g1
    · cases g1
      rw [Nat.zero_add]
      rw [pkPls_get, Nat.zero_add] at g2
      cases hp : U[q']? with
      | none => rw [hp] at g2; cases g2
      | some p => rw [hp] at g2; simp at g2; exact ⟨p, rfl, g2.symm, g3⟩
    · cases g1
  have hkk : Keeps w w (F.ok ι s.pl w) (F.ok ι s.pl w) := fun b hb => ⟨hb, rfl⟩
  have hkeep : Keeps w w (F.ok ι s.pl w) (F.ok ι' plr w) := fun b hb => ⟨⟨hb.1, hb.2.1, fun ⟨q, y, h1, h2, h3⟩ => by
    obtain ⟨p, e1, e2, e3⟩ := hz q y h1
    subst e2
    obtain ⟨_, ⟨z, e4, e5⟩, _, _⟩ := pkPl_spec hr hkk hι e1 e3
    rw [hι q p e1] at h3
    exact hb.2.2 ⟨p, z, e4, e5, h3⟩⟩, rfl⟩
  have hz2 : ∀ q y, aget plr q = some y → ∃ p z, U[q]? = some p ∧ idx p U = some q ∧ aget s.pl p = some z ∧ z.live = true ∧ PR ι' w (F.ok ι' plr w) q y ∧ y.live = true := fun q y hy => by
    obtain ⟨p, e1, e2, e3⟩ := hz q y hy
    subst e2
    obtain ⟨g1, ⟨z, g2, g3⟩, g4, g5⟩ := pkPl_spec hr hkeep hι e1 e3
    exact ⟨p, z, e1, g1, g2, g3, g4, g5⟩
  refine ⟨?_, ι', VR_pk hr hkeep hι h, ?_, ?_, ?_, ?_, ?_⟩
  · show U0.length ≤ (pkPls s.pl U 0 U).length
    rw [pkPls_len, hU, List.length_append]; omega
  · intro q y hy
    obtain ⟨p, z, _, _, _, _, g, _⟩ := hz2 q y hy
    exact g
  · intro q q' y y' b hy hy' hqq hb hb'
    obtain ⟨p, z, e1, e2, e3, e4, _, _⟩ := hz2 q y hy
    obtain ⟨p', z', e5, e6, e7, e8, _, _⟩ := hz2 q' y' hy'
    rw [hι q p e1] at hb
    rw [hι q' p' e5] at hb'
    refine hr.inj p p' z z' b e3 e7 (fun e => hqq ?_) e4 hb hb'
    subst e
    rw [e2] at e6; cases e6; rfl
  · intro q y b hy hb
    obtain ⟨p, z, e1, e2, e3, e4, _, _⟩ := hz2 q y hy
    rw [hι q p e1] at hb
    exact (hr.mine b ⟨p, z, e3, e4, hb⟩).1
  · intro q y hy
    obtain ⟨p, z, _, _, _, _, _, g⟩ := hz2 q y hy
    exact g
  · intro q y hq hy
    obtain ⟨p, z, e1, e2, e3, e4, _, _⟩ := hz2 q y hy
    rw [hι q p e1]
    refine h0 q p z ?_ e3
    rw [hU, List.getElem?_append_left hq] at e1
    exact e1

/-! Results. -/
def resV (tmps : Array Value) : ResultVar → Sem Value
  | .tmp t => pure (tmps.getD t undef)
  | .cell x t => do loadVar t (← asAddr (tmps.getD x undef))

theorem results_eq (fn : Func) (tmps : Array Value) : results fn tmps = (do
    let vs ← fn.results.mapM (resV tmps)
    pure (if h : vs.size = 1 then vs[0] else .tuple vs)) := by
  unfold results
  congr 2

theorem retWs_sound (hr : Rel F N ι s a w) : ∀ {rs : List ResultVar} {xs : List ARes}, cRes P rs = some xs → ∀ {ws : List W}, retWs s xs = some ws →
    ∃ vs : List Value, (rs.mapM (resV a.tmps)).run P w = .ok vs w ∧ WRs ι w (F.ok ι s.pl w) ws vs
  | [], xs, hx, ws, h => by
    cases hx
    cases h
    exact ⟨[], by simp, trivial⟩
  | .tmp t :: rs, xs, hx, ws, h => by
    simp only [cRes, Option.map_eq_some_iff] at hx
    obtain ⟨ys, h1, rfl⟩ := hx
    simp only [retWs] at h
    split at h
    · rename_i u l hu hl
      cases h
      obtain ⟨vs, h2, h3⟩ := retWs_sound hr h1 hl
      simp only [retW] at hu
      split at hu
      · rename_i u' hu'
        cases hu
        have hv := VR_tmp hr t
        rw [hu'] at hv
        refine ⟨a.tmps.getD t undef :: vs, ?_, hv, h3⟩
        rw [List.mapM_cons]
        simp only [resV, Sem.run_bind, Sem.run_pure, Result.andThen_ok, h2]
      · cases hu
    · cases h
  | .cell x t :: rs, xs, hx, ws, h => by
    simp only [cRes] at hx
    split at hx
    · rename_i g ys hg h1
      cases hx
      simp only [retWs] at h
      split at h
      · rename_i u l hu hl
        cases h
        obtain ⟨vs, h2, h3⟩ := retWs_sound hr h1 hl
        simp only [retW] at hu
        split at hu
        · rename_i p off hp
          split at hu
          · rename_i cs hcs
            have hv := CR_o hr (.tmp x)
            have hv : CR ι w (F.ok ι s.pl w) (cOf (s.tmp x)) (a.tmps.getD x undef) := hv
            rw [hp] at hv
            obtain ⟨b, e1, e2⟩ := hv
            obtain ⟨b', cur, e3, e4, e5⟩ := hr.places p _ hcs
            rw [e1] at e3; cases e3
            obtain ⟨v, hv, hw⟩ := load_cells (b := b) (off := off) hg (CRs.drop off e5) (fun j v hv => by
              rw [e4.cell]; rw [List.getElem?_drop] at hv; simpa using hv) hu
            refine ⟨v :: vs, ?_, hw, h3⟩
            rw [List.mapM_cons]
            simp only [resV, e2, asAddr, Sem.run_bind, Sem.run_pure, Result.andThen_ok, hv w (Ext.refl w), h2]
          · rename_i ds hcs
            have hv := CR_o hr (.tmp x)
            have hv : CR ι w (F.ok ι s.pl w) (cOf (s.tmp x)) (a.tmps.getD x undef) := hv
            rw [hp] at hv
            obtain ⟨b, e1, e2⟩ := hv
            obtain ⟨b', e3, e4, e5⟩ := hr.places p _ hcs
            rw [e1] at e3; cases e3
            have e5 := RDc.drop off e5
            rw [Nat.zero_add] at e5
            obtain ⟨us, h4, h5⟩ := RDc.vals (ι := ι) e5
            obtain ⟨v, hv, hw⟩ := load_cells (b := b) (off := off) hg h4 h5 hu
            refine ⟨v :: vs, ?_, hw, h3⟩
            rw [List.mapM_cons]
            simp only [resV, e2, asAddr, Sem.run_bind, Sem.run_pure, Result.andThen_ok, hv w (Ext.refl w), h2]
          · cases hu
        · cases hu
      · cases h
    · cases hx

theorem results_sound (hr : Rel F N ι s a w) {fn : Func} {xs : List ARes} (hx : cRes P fn.results.toList = some xs) {v : V} (h : retV s xs = some v) :
    ∃ x, (results fn a.tmps).run P w = .ok x w ∧ VR ι w (F.ok ι s.pl w) v x := by
  unfold retV at h
  have key : ∀ ws, retWs s xs = some ws → ∃ vs : List Value, WRs ι w (F.ok ι s.pl w) ws vs ∧ (results fn a.tmps).run P w = .ok (if h : vs.toArray.size = 1 then vs.toArray[0] else .tuple vs.toArray) w := by
    intro ws hws
    obtain ⟨vs, h1, h2⟩ := retWs_sound hr hx hws
    refine ⟨vs, h2, ?_⟩
    rw [results_eq, ← Array.toArray_toList (xs := fn.results), List.mapM_toArray]
    simp only [Sem.run_bind, map_eq_pure_bind, h1, Sem.run_pure, Result.andThen_ok]
  split at h
  · rename_i u hu
    obtain ⟨vs, h1, h2⟩ := key _ hu
    cases h
    cases vs with
    | nil => exact h1.elim
    | cons v vs => cases vs with
      | nil => exact ⟨v, by simpa using h2, h1.1⟩
      | cons _ _ => exact h1.2.elim
  · rename_i ws hne hws
    obtain ⟨vs, h1, h2⟩ := key _ hws
    cases h
    refine ⟨.tuple vs.toArray, ?_, vs, rfl, h1⟩
    rw [h2]
    rw [dif_neg]
    intro hs
    cases vs with
    | nil => simp at hs
    | cons v vs => cases vs with
      | nil => cases ws with
        | nil => exact h1.elim
        | cons u us => cases us with
          | nil => exact hne _ rfl
          | cons _ _ => exact h1.2.elim
      | cons _ _ => simp at hs
  · cases h

theorem initSl_get : ∀ (l : List W) (i k : Nat) (v : V), aget (initSl i l) k = some v → ∃ x, v = .w x ∧ i ≤ k ∧ l[k - i]? = some x := by
  intro l
  induction l with
  | nil => intro i k v h; cases h
  | cons x r ih =>
    intro i k v h
    simp only [initSl, aget_cons] at h
    split at h
    · rename_i e
      subst e
      cases h
      exact ⟨x, rfl, Nat.le_refl _, by simp⟩
    · rename_i hne
      obtain ⟨y, h1, h2, h3⟩ := ih (i + 1) k v h
      exact ⟨y, h1, by omega, by rw [show k - i = (k - (i + 1)) + 1 by omega]; simpa using h3⟩

theorem WRs.get {ok : Nat → Prop} : ∀ {cs : List W} {vs : List Value} {i : Nat} {c : W}, WRs ι w ok cs vs → cs[i]? = some c → ∃ v, vs[i]? = some v ∧ WR ι w ok c v
  | [], _, i, _, _, h => by simp at h
  | _ :: _, [], _, _, h, _ => h.elim
  | c :: cs, v :: vs, 0, _, h, hc => by simp at hc; subst hc; exact ⟨v, rfl, h.1⟩
  | c :: cs, v :: vs, i + 1, _, h, hc => by simpa using WRs.get h.2 (by simpa using hc)
end

theorem numbered_get (hs : List Pl) (n p : Nat) : aget (numbered n hs) p = if n ≤ p then hs[p - n]? else none := aget_numbered hs n p

/-- **A function's contract, from what the machine computes.** -/
theorem SatH_of_awpFHat {n0 : Nat} (hn1 : 100000 ≤ n0) (hn2 : n0 + 1000 ≤ 600000) {P : Program} {ords : List (Nat × List Nat)} {k : Nat} {A : AFun} (hc : cFun P ords k = some A.erase) (hb : callable P k = true) {args : List W} {hs : List Pl} (hsl : hs.length ≤ 1000) {Q : Res → Prop} (h : awpFHat n0 P A args hs Q) : SatH P k args hs Q := by
  refine ⟨hb, fun w ok ι0 vals hok hhb hhp hinj hargs => ?_⟩
  unfold cFun at hc
  split at hc
  case h_2 => cases hc
  rename_i fn hf
  split at hc
  case h_2 => cases hc
  rename_i c hbody
  split at hc
  case h_2 => cases hc
  rename_i x r hx hr
  cases hN : Nat.ble fn.ntmps 5000 with
  | false => rw [hN] at hc; cases hc
  | true =>
  rw [hN] at hc
  have hN := Nat.le_of_ble_eq_true hN
  simp only [cond_true, AFun.erase, Option.some.injEq, AFun.mk.injEq] at hc
  obtain ⟨rfl, rfl⟩ := hc
  unfold awpFHat at h
  rw [force_eq] at h
  let ls : List (Option Nat) := (hnames n0 hs).map some
  have hls : ∀ q p, nthO ls q = some p → q < hs.length ∧ p = n0 + q := by
    have gen : ∀ (n i q p : Nat), nthO ((upFrom i n).map some) q = some p → q < n ∧ p = i + q := by
      intro n
      induction n with
      | zero => intro i q p h; simp [upFrom, nthO] at h
      | succ n ih =>
        intro i q p h
        cases q with
        | zero => simp only [upFrom, List.map_cons, nthO, Option.some.injEq] at h; omega
        | succ q =>
          simp only [upFrom, List.map_cons, nthO] at h
          have := ih (i + 1) q p h
          omega
    exact gen hs.length n0
  let ιc : Nat → Gh := fun p => if n0 ≤ p then ι0 (p - n0) else ⟨none, 0⟩
  have hιc : ∀ q p, nthO ls q = some p → ιc p = ι0 q := fun q p hq => by
    obtain ⟨_, rfl⟩ := hls q p hq
    simp only [ιc, if_pos (by omega : n0 ≤ n0 + q)]
    congr 1; omega
  let F : Fr := ⟨w, ok, Handed ι0 hs, fun p => if n0 ≤ p ∧ p < n0 + hs.length then some (ι0 (p - n0)) else none⟩
  let pl0 := numbered n0 (hs.map (Pl.ren ls))
  have hpl0 : ∀ p y, aget pl0 p = some y → ∃ q x, p = n0 + q ∧ hs[q]? = some x ∧ y = x.ren ls ∧ ιc p = ι0 q := fun p y hy => by
    have hy : aget (numbered n0 (hs.map (Pl.ren ls))) p = some y := hy
    rw [aget_numbered] at hy
    split at hy
    · rename_i hle
      rw [List.getElem?_map] at hy
      cases hq : hs[p - n0]? with
      | none => rw [hq] at hy; cases hy
      | some x =>
        rw [hq] at hy; simp at hy; subst hy
        exact ⟨p - n0, x, by omega, hq, rfl, by simp only [ιc, if_pos hle]⟩
    · cases hy
  have hkeep : Keeps w w ok (F.ok ιc pl0 w) := fun b hb => ⟨⟨.inl hb, (hok b hb).1, fun ⟨p, y, h1, h2, h3⟩ => by
    obtain ⟨q, x, rfl, e1, rfl, e2⟩ := hpl0 p y h1
    rw [e2] at h3
    exact (hok b hb).2 ⟨q, x, e1, h3⟩⟩, rfl⟩
  have hrel : Rel F fn.ntmps ιc ⟨initSl 0 (args.map (W.ren ls)), pl0⟩ { tmps := vals.toArray ++ Array.replicate (fn.ntmps - vals.toArray.size) undef, defers := [] } w := by
    refine ⟨by simp; omega, fun i v hv => ?_, fun p y hy => ?_, fun p q y z b hy hz hpq hl hb => ?_, fun b ⟨p, y, h1, h2, h3⟩ => ?_, rfl, Grows.refl _ _, fun b hb => ⟨(hok b hb).1, (hok b hb).2⟩, fun b hb => hhb b hb, hN, fun p g hg => ?_, fun p y g hy hg => ?_⟩
    · obtain ⟨x, rfl, _, h1⟩ := initSl_get (args.map (W.ren ls)) 0 i v hv
      obtain ⟨y, h2, h3⟩ := WRs.get (WRs_ren hkeep hιc hargs) h1
      simp only [Nat.sub_zero] at h2
      have hlt : i < vals.length := (List.getElem?_eq_some_iff.1 h2).1
      exact ⟨y, by simpa [Array.getElem?_append, hlt] using h2, h3⟩
    · obtain ⟨q, x, rfl, e1, rfl, e2⟩ := hpl0 p y hy
      exact PR_ren hkeep hιc e2 (hhp q x e1).1
    · obtain ⟨q1, x1, rfl, e1, rfl, e2⟩ := hpl0 p y hy
      obtain ⟨q2, x2, rfl, e3, rfl, e4⟩ := hpl0 q z hz
      rw [e2] at hb
      rw [e4]
      exact hinj q1 q2 x1 x2 b e1 e3 (fun e => hpq (by rw [e])) hb
    · obtain ⟨q, x, rfl, e1, rfl, e2⟩ := hpl0 p y h1
      rw [e2] at h3
      exact ⟨.inl ⟨q, x, e1, h3⟩, hhb b ⟨q, x, e1, h3⟩⟩
    · simp only [F] at hg
      split at hg
      · rename_i hp; omega
      · cases hg
    · obtain ⟨q, x, rfl, e1, rfl, e2⟩ := hpl0 p y hy
      simp only [F] at hg
      split at hg
      · cases hg; rw [e2]; congr 1; omega
      · cases hg
  refine calls_of_wp hf hbody (wp_mono (awp_sound A.code c hx _ _ _ _ _ hrel h) ?_)
  have fin : ∀ ι s a' w', Rel F fn.ntmps ι s a' w' → retQ A.res (hnames n0 hs) Q s → a'.defers = [] ∧ ∃ v, (results fn a'.tmps).run P w' = .ok v w' ∧ ∃ v' r, Ending.returned v = .returned v' ∧ Q r ∧ ResH ⟨w, ok, Handed ι0 hs, fun _ => none⟩ ι0 hs.length w' r v' ∧ Grows (Handed ι0 hs) w w' := by
    intro ι s a' w' hr1 hq
    unfold retQ at hq
    split at hq
    · rename_i v hv
      obtain ⟨x, h1, h2⟩ := results_sound hr1 hr hv
      have hp := packV_sound hr1 (U0 := hnames n0 hs) (ι0 := ι0) (fun i p y hi hy => by
        have hi : (upFrom n0 hs.length)[i]? = some p := hi
        rw [upFrom_get] at hi
        split at hi
        · rename_i hlt
          cases hi
          refine hr1.hkeep _ y _ hy ?_
          simp only [F]
          rw [if_pos ⟨by omega, by omega⟩]
          congr 2; omega
        · cases hi) h2
      have hlen : (hnames n0 hs).length = hs.length := upFrom_len _ _
      rw [hlen] at hp
      exact ⟨hr1.defers, x, h1, x, _, rfl, hq, hp, hr1.grows⟩
    · exact hq.elim
  intro e a' w' he
  cases e with
  | normal => obtain ⟨ι, s, hr1, hq⟩ := he; exact fin ι s a' w' hr1 hq
  | ret => obtain ⟨ι, s, hr1, hq⟩ := he; exact fin ι s a' w' hr1 hq
  | exit i => obtain ⟨_, _, _, hq⟩ := he; exact hq.elim
  | _ => exact he.elim

theorem SatH_of_awpFH {P : Program} {ords : List (Nat × List Nat)} {k : Nat} {A : AFun} (hc : cFun P ords k = some A.erase) (hb : callable P k = true) {args : List W} {hs : List Pl} (hsl : hs.length ≤ 1000) {Q : Res → Prop} (h : awpFH P A args hs Q) : SatH P k args hs Q :=
  SatH_of_awpFHat (n0 := 100000) (Nat.le_refl _) (Nat.le_of_ble_eq_true rfl) hc hb hsl h

theorem ren_none : ∀ (c : C), c.refs = [] → c.ren [] = c ∨ c.ren [] = .dead := by
  intro c h
  cases c with
  | clo f caps => cases caps with
    | nil => exact .inl rfl
    | cons _ _ => exact .inr rfl
  | ptr _ _ => cases h
  | eptr _ _ _ _ => cases h
  | own _ _ _ => cases h
  | _ => exact .inl rfl

theorem Sat_of_awpF {P : Program} {ords : List (Nat × List Nat)} {k : Nat} {A : AFun} (hc : cFun P ords k = some A.erase) (hb : callable P k = true) {args : List W} {Q : Res → Prop} (h : awpF P A args Q) : Sat P k args Q := by
  refine ⟨hb, fun w ok vals hok hargs => ?_⟩
  unfold cFun at hc
  split at hc
  case h_2 => cases hc
  rename_i fn hf
  split at hc
  case h_2 => cases hc
  rename_i c hbody
  split at hc
  case h_2 => cases hc
  rename_i x r hx hr
  cases hN : Nat.ble fn.ntmps 5000 with
  | false => rw [hN] at hc; cases hc
  | true =>
  rw [hN] at hc
  have hN := Nat.le_of_ble_eq_true hN
  simp only [cond_true, AFun.erase, Option.some.injEq, AFun.mk.injEq] at hc
  obtain ⟨rfl, rfl⟩ := hc
  unfold awpF at h
  rw [force_eq] at h
  let F : Fr := ⟨w, ok, fun _ => False, fun _ => none⟩
  have hrel : Rel F fn.ntmps (fun _ => ⟨none, 0⟩) ⟨initSl 0 args, []⟩ { tmps := vals.toArray ++ Array.replicate (fn.ntmps - vals.toArray.size) undef, defers := [] } w := by
    refine ⟨by simp; omega, fun i v hv => ?_, fun p x hx => (by cases hx), fun p q x y b hx => (by cases hx), fun b ⟨p, x, hx, _⟩ => (by cases hx), rfl, Grows.refl _ _, fun b hb => ⟨hok b hb, fun h => h⟩, fun b hb => hb.elim, hN, fun p g hg => (by cases hg), fun p x g hx => (by cases hx)⟩
    obtain ⟨x, rfl, _, h1⟩ := initSl_get args 0 i v hv
    obtain ⟨y, h2, h3⟩ := WRs.get hargs h1
    simp only [Nat.sub_zero] at h2
    have hlt : i < vals.length := (List.getElem?_eq_some_iff.1 h2).1
    refine ⟨y, by simpa [Array.getElem?_append, hlt] using h2, ?_⟩
    exact WR.keep (fun b hb => ⟨⟨.inl hb, hok b hb, fun ⟨p, x, hx, _⟩ => by cases hx⟩, rfl⟩) (Shapes.refl w) x y h3
  refine calls_of_wp hf hbody (wp_mono (awp_sound A.code c hx _ _ _ _ _ hrel h) ?_)
  have fin : ∀ ι s a' w', Rel F fn.ntmps ι s a' w' → retQ A.res [] Q s → a'.defers = [] ∧ ∃ v, (results fn a'.tmps).run P w' = .ok v w' ∧ ∃ v' r, Ending.returned v = .returned v' ∧ Q r ∧ ResR F w' r v' ∧ Grows (fun _ => False) w w' := by
    intro ι s a' w' hr1 hq
    unfold retQ at hq
    split at hq
    · rename_i v hv
      obtain ⟨x, h1, h2⟩ := results_sound hr1 hr hv
      exact ⟨hr1.defers, x, h1, x, _, rfl, hq, packV_sound hr1 (U0 := []) (fun i p y hi => by simp at hi) h2, hr1.grows⟩
    · exact hq.elim
  intro e a' w' he
  cases e with
  | normal => obtain ⟨ι, s, hr1, hq⟩ := he; exact fin ι s a' w' hr1 hq
  | ret => obtain ⟨ι, s, hr1, hq⟩ := he; exact fin ι s a' w' hr1 hq
  | exit i => obtain ⟨_, _, _, hq⟩ := he; exact hq.elim
  | _ => exact he.elim

end Go.AM
