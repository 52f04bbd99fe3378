/- The boundary: a law's statement, from its contract on the abstract machine. -/
import Derived.Test.YtbdcgchgpdclaaaAmB4
import Derived.Carry
import Derived.Below
import Derived.ChangeSame
import Derived.WalkKit
import Derived.ProofKit
import Derived.OpenShut
import Derived.JoinedOf
namespace Go.AM
open Go.RowKit Go.WideShapes Go.ChangeShapes

section
variable {H : Type} {enc : TypeId × Value → H} {P : Program}

def isAggTy (P : Program) (t : TypeId) : Bool := match P.underlying t with | some (.struct _) => true | some (.array _ _) => true | _ => false

/-- An argument of this type, as the machine has it. -/
def Arg (P : Program) (n : Nat) (t : TypeId) (x : W) : Prop := ∃ ds, Ty P n t ds ∧ (isAggTy P t = true → x = .agg (ds.map .d)) ∧ (isAggTy P t = false → ∃ d, ds = [d] ∧ x = .c (.d d))

theorem cells_of_ok {W : World} {b0 : Nat} {t : TypeId} {v : Value} (hval : Value.okWide P W .any b0 t v) (ha : isAggTy P t = false) : v.cells = #[v] := by
  unfold Value.okWide at hval
  unfold isAggTy at ha
  split at hval
  · rename_i h; rw [h] at ha; cases ha
  · rename_i h; rw [h] at ha; cases ha
  · cases v with
    | agg cs =>
      unfold Cell.okWide at hval
      unfold Cell.ok at hval
      (repeat' split at hval) <;> first | exact hval.elim | (rename_i h _; cases h) | skip
      all_goals simp_all
    | _ => rfl

theorem agg_of_ok {W : World} {b0 : Nat} {t : TypeId} {v : Value} (hval : Value.okWide P W .any b0 t v) (ha : isAggTy P t = true) : ∃ cs, v = .agg cs := by
  unfold Value.okWide at hval
  unfold isAggTy at ha
  split at hval
  · exact ⟨_, hval.choose_spec.1⟩
  · exact ⟨_, hval.choose_spec.1⟩
  · rename_i h1 h2
    split at ha
    · rename_i h; exact absurd h (h1 _)
    · rename_i h; exact absurd h (h2 _ _)
    · cases ha

theorem readArg {W : World} {b0 : Nat} {n : Nat} {t : TypeId} {v : Value} {d : DataW H} {p : List MemPlace} {ι : Nat → Gh} (hp : plainTy P n t = true) (hval : Value.okWide P W .any b0 t v)
    (h : DataW.Trod enc P W 0 (fun _ => true) true t v d p) : ∃ x, Arg P n t x ∧ WR ι W (Okw W) x v := by
  obtain ⟨fuel, hf⟩ := h
  obtain ⟨ds, hty, hcs⟩ := readD (ι := ι) n t hp fuel _ _ hf
  cases ha : isAggTy P t with
  | true =>
    obtain ⟨cs, rfl⟩ := agg_of_ok hval ha
    refine ⟨.agg (ds.map .d), ⟨ds, hty, fun _ => rfl, fun h => (by rw [ha] at h; cases h)⟩, cs.toList, by simp, ?_⟩
    simpa [Value.cells] using hcs
  | false =>
    rw [cells_of_ok hval ha] at hcs
    match ds, hcs with
    | [d], hcs => exact ⟨.c (.d d), ⟨[d], hty, fun h => (by rw [ha] at h; cases h), fun _ => ⟨d, rfl, rfl⟩⟩, hcs.1⟩
    | [], hcs => exact hcs.elim
    | _ :: _ :: _, hcs => exact hcs.2.elim

theorem readArgs {W : World} {b0 : Nat} {n : Nat} {ι : Nat → Gh} : ∀ (ts : List TypeId) (vs : List Value) (ds : List (DataW H)) (p : List MemPlace), (∀ t ∈ ts, plainTy P n t = true) →
    (∀ (j : Nat) t v, ts[j]? = some t → vs[j]? = some v → Value.okWide P W .any b0 t v) → DataW.TrodAll enc P W 0 (fun _ => true) true ts vs ds p →
    ∃ xs, All2 (Arg P n) ts xs ∧ WRs ι W (Okw W) xs vs ∧ ds.length = ts.length
  | [], vs, ds, p, _, _, h => by
    obtain ⟨rfl, rfl, rfl⟩ := trodAll_nil h
    exact ⟨[], trivial, trivial, rfl⟩
  | t :: ts, vs, ds, p, hp, hval, h => by
    obtain ⟨v, vs1, d, ds1, a, b, rfl, rfl, rfl, h1, h2⟩ := trodAll_cons h
    obtain ⟨x, hx1, hx2⟩ := readArg (ι := ι) (hp t List.mem_cons_self) (hval 0 t v rfl rfl) h1
    obtain ⟨xs, hxs1, hxs2, hl⟩ := readArgs (ι := ι) ts vs1 ds1 b (fun t ht => hp t (List.mem_cons_of_mem _ ht)) (fun j t v hj hv => hval (j + 1) t v hj hv) h2
    exact ⟨x :: xs, ⟨hx1, hxs1⟩, ⟨hx2, hxs2⟩, by simp [hl]⟩

theorem argsStay {W W' : World} (hl : laidOutB P = true) (hb : Below W.heap.size W W') (sp : Nat → Bool) : ∀ (ts : List TypeId) (vs : List Value) (ds : List (DataW H)) (p : List MemPlace), (∀ t ∈ ts, P.readableRec t = true ∧ t < P.types.size) →
    (∀ x ∈ p, sp x.block = true) → (∀ x ∈ p, x.block < W.heap.size) → DataW.TrodAll enc P W 0 (fun _ => true) true ts vs ds p → DataW.TrodAll enc P W' 0 sp true ts vs ds p
  | [], vs, ds, p, _, _, _, h => by
    obtain ⟨rfl, rfl, rfl⟩ := trodAll_nil h
    exact rfl
  | t :: ts, vs, ds, p, ht, hsp, hlt, h => by
    obtain ⟨v, vs1, d, ds1, a, b, rfl, rfl, rfl, h1, h2⟩ := trodAll_cons h
    exact ⟨a, b, WideElems.Trod_stays hl (ht t List.mem_cons_self).1 (ht t List.mem_cons_self).2 h1 (fun x hx => hb.same (hlt x (List.mem_append_left _ hx))) (fun x hx => hsp x (List.mem_append_left _ hx)),
      argsStay hl hb sp ts vs1 ds1 b (fun t h => ht t (List.mem_cons_of_mem _ h)) (fun x hx => hsp x (List.mem_append_right _ hx)) (fun x hx => hlt x (List.mem_append_right _ hx)) h2, rfl⟩

theorem post_of_below {f : Func} {s : ChangeSpec} {apart fresh handsOn again : Bool} {W W' : World} {args : Array Value} {v : Value} {ds gs : List (DataW H)} {before pa pv : List MemPlace}
    (hW : DataW.Whole enc P f.params.toList s.vars apart W args.toList ds gs before)
    (hres : ∀ (b : Nat) (sp : Nat → Bool) (hd : Bool), DataW.TrodAll enc P W' b sp hd f.resultTypes.toList (v.resultList f.resultTypes.size) (s.fn H (ds ++ gs)).results [])
    (hargs : ∀ sp : Nat → Bool, (∀ p ∈ before, sp p.block = true) → DataW.TrodAll enc P W' 0 sp true f.params.toList args.toList (s.fn H (ds ++ gs)).args pa)
    (hvars : ∀ sp : Nat → Bool, (∀ p ∈ before, sp p.block = true) → DataW.TrodVars enc P W' sp s.vars (s.fn H (ds ++ gs)).vars pv)
    (hps : before = pa ++ pv) (hb : Below W.heap.size W W')
    (hok : ∀ (j : Nat) (t : TypeId) (r : Value), f.resultTypes[j]? = some t → (v.resultList f.resultTypes.size)[j]? = some r → Value.okWide P W' .any 0 t r) :
    s.post enc P f apart fresh handsOn again W args v W' := by
  have hlt : ∀ p ∈ before, p.block < W.heap.size := fun p hp => hW.lt p hp
  have hold : ∀ p ∈ before, (fun b => decide (b < W.heap.size)) p.block = true := fun p hp => by simpa using hlt p hp
  refine ⟨ds, gs, before, [], pa, pv, hW, hres _ _ _, hargs _ hold, hvars _ hold, World.keptBut_mono (fun p hp => ⟨hp, ?_⟩) (hb.frame (· ∈ before)), fun _ => ?_⟩
  · rw [hps, List.mem_append] at hp
    exact Or.inr hp
  · obtain ⟨_, _, _, _, _, hz, hn⟩ := hW
    refine ⟨hok, _, _, ([] ++ pa) ++ pv, ⟨[] ++ pa, pv, trodAll_append (hargs _ (fun _ _ => rfl)) (hres _ _ _), hvars _ (fun _ _ => rfl), rfl, ?_, ?_⟩, ?_⟩
    · intro b off hp
      have hin : MemPlace.cell b off ∈ before := by rw [hps]; simpa using hp
      rw [hb.frozen (hlt _ hin)]
      exact hz b off hin
    · intro ha
      have := hn ha
      rw [hps] at this
      simpa using this
    · intro p hp _
      rw [hps]
      simpa using hp

def trueRes : Res := ⟨.w (.c (.d (.lit (.bool true)))), []⟩

/-- What is asked of a law's parameters. -/
def lawTys (P : Program) (n : Nat) (ts : List TypeId) : Bool := ts.all fun t => plainTy P n t && P.readableRec t && decide (t < P.types.size)

theorem law_step {f : FuncId} {fn : Func} {s : ChangeSpec} {n : Nat} {tb : TypeId} (hl : laidOutB P = true) (htys : lawTys P n fn.params.toList = true) (hvars : s.vars = []) (hres : fn.resultTypes = #[tb]) (hb : P.underlying tb = some .bool)
    (hspec : ∀ (H : Type) (ds : List (DataW H)), ds.length = fn.params.toList.length → (s.fn H ds).results = [.lit (.bool true)] ∧ (s.fn H ds).args = ds ∧ (s.fn H ds).vars = [])
    (hsat : ∀ xs, All2 (Arg P n) fn.params.toList xs → Sat P f xs (fun r => r = trueRes)) {apart fresh handsOn again : Bool}
    (W : World) (base : Nat) (args : Array Value) (ds gs : List (DataW H)) (before : List MemPlace)
    (hval : ∀ (j : Nat) t v, fn.params[j]? = some t → args[j]? = some v → Value.okWide P W .any base t v)
    (hW : DataW.Whole enc P fn.params.toList s.vars apart W args.toList ds gs before) :
    Calls P f args W fun e W' => ∃ v, e = .returned v ∧ s.post enc P fn apart fresh handsOn again W args v W' := by
  have hW' := hW
  obtain ⟨p, q, hA, hV, rfl, hfz, hnd⟩ := hW
  rw [hvars] at hV
  obtain ⟨rfl, rfl⟩ := trodVars_none hV
  simp only [lawTys, List.all_eq_true, Bool.and_eq_true, decide_eq_true_eq] at htys
  obtain ⟨xs, h1, h2, h3⟩ := readArgs (ι := fun _ => ⟨none, 0⟩) fn.params.toList args.toList ds p (fun t ht => (htys t ht).1.1) (fun j t v hj hv => hval j t v (by simpa using hj) (by simpa using hv)) hA
  have hc := (hsat xs h1).2 W (Okw W) args.toList (fun b h => h) h2
  rw [Array.toArray_toList] at hc
  refine hc.mono fun e W' ⟨v, r, he, hr, hres', hg⟩ => ⟨v, he, ?_⟩
  subst hr
  obtain ⟨_, ι, hv, _⟩ := hres'
  have hv : v = .bool true := by
    simp only [VR, WR, CR, RD, trueRes] at hv
    exact hv.1
  subst hv
  obtain ⟨s1, s2, s3⟩ := hspec H (ds ++ []) (by simpa using h3)
  have hbel : Below W.heap.size W W' := ⟨hg.os, hg.tape, hg.output, hg.size, fun k hk => hg.block k hk fun h => h⟩
  refine post_of_below (pa := p) (pv := []) hW' ?_ ?_ ?_ (by simp) hbel ?_
  · intro b sp hd
    rw [s1, hres]
    exact trodAll_cons_mk (shut_bool hb _) trodAll_mk0
  · intro sp hsp
    rw [s2, List.append_nil]
    exact argsStay hl hbel sp _ _ _ _ (fun t ht => ⟨(htys t ht).1.2, (htys t ht).2⟩) (fun x hx => hsp x (by simpa using hx)) (fun x hx => hW'.lt x (by simpa using hx)) hA
  · intro sp _
    rw [s3, hvars]
    rfl
  · exact ok_one hres rfl (okWide_bool_mk hb _)
end

end Go.AM
