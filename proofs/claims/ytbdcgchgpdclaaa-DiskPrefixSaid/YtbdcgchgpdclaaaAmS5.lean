/- Soundness of the abstract machine, 5: operations that make memory or write it. -/
import Derived.Test.YtbdcgchgpdclaaaAmS4
namespace Go.AM

def upd (ι : Nat → Gh) (p : Nat) (g : Gh) : Nat → Gh := fun q => if q = p then g else ι q

theorem upd_same (ι : Nat → Gh) (p : Nat) (g : Gh) : upd ι p g p = g := by simp [upd]
theorem upd_other (ι : Nat → Gh) {p q : Nat} (g : Gh) (h : q ≠ p) : upd ι p g q = ι q := by simp [upd, h]

theorem isin_one {p q : Nat} (h : isin q [p] = false) : q ≠ p := by
  intro e; subst e; simp [isin] at h
theorem isin_two {p d q : Nat} (h : isin q [p, d] = false) : q ≠ p ∧ q ≠ d := by
  refine ⟨fun e => ?_, fun e => ?_⟩
  · subst e; simp [isin] at h
  · subst e
    unfold isin at h
    cases hb : Nat.beq p q <;> rw [hb] at h
    · simp [isin] at h
    · cases h

theorem aget_one {α : Type} {d p : Nat} {x y : α} (h : aget [(d, x)] p = some y) : p = d ∧ y = x := by
  rw [aget_cons] at h
  split at h
  · cases h; exact ⟨by omega, rfl⟩
  · cases h

section
variable {P : Program} {F : Fr} {N : Nat} {ι : Nat → Gh} {s : S} {a : Act} {w : World} {o : Oper} {K : S → Prop}

theorem redo_keeps (_hr : Rel F N ι s a w) (kills : List Nat) (new : List (Nat × Pl)) (ι' : Nat → Gh) (w' : World)
    (hι : ∀ p, isin p kills = false → ι' p = ι p)
    (hsame : ∀ b, b < w.heap.size → (∀ q y, isin q kills = true → aget s.pl q = some y → y.live = true → (ι q).b ≠ some b) → w'.heap[b]? = w.heap[b]?)
    (hsize : w.heap.size ≤ w'.heap.size)
    (hfresh : ∀ p x b, aget new p = some x → (ι' p).b = some b → b < w'.heap.size ∧ (w.heap.size ≤ b ∨ ∃ q y, isin q kills = true ∧ aget s.pl q = some y ∧ y.live = true ∧ (ι q).b = some b)) :
    Keeps w w' (F.ok ι s.pl w) (F.ok ι' (s.redo kills new).pl w') := by
  intro b hb
  obtain ⟨h1, h2, h3⟩ := hb
  refine ⟨⟨h1, Nat.lt_of_lt_of_le h2 hsize, ?_⟩, hsame b h2 (fun q y _ hy hl hq => h3 ⟨q, y, hy, hl, hq⟩)⟩
  rintro ⟨p, x, hx, hl, hpb⟩
  rw [S.redo_pl] at hx
  cases hn : aget new p with
  | some y =>
    rcases (hfresh p y b hn hpb).2 with h | ⟨q, z, _, h4, h5, h6⟩
    · omega
    · exact h3 ⟨q, z, h4, h5, h6⟩
  | none =>
    simp only [hn] at hx
    split at hx
    · rename_i hk
      cases hp : aget s.pl p with
      | none => rw [hp] at hx; cases hx
      | some y =>
        rw [hp] at hx; simp at hx; subst hx
        exact h3 ⟨p, y, hp, by rw [← Pl.live_kill y kills]; exact hl, by rw [← hι p hk]; exact hpb⟩
    · cases hx

/-- A world with one block more. -/
structure NewRow (w w' : World) (cur : Array Value) (t : TypeId) (mk : Nat × Nat) : Prop where
  heap : w'.heap = w.heap.push (.cells cur t mk)
  os : w'.os = w.os
  tape : w'.tape = w.tape
  output : w'.output = w.output

theorem NewRow.old {w w' : World} {cur : Array Value} {t : TypeId} {mk : Nat × Nat} (h : NewRow w w' cur t mk) {b : Nat} (hb : b < w.heap.size) : w'.heap[b]? = w.heap[b]? := by
  rw [h.heap, Array.getElem?_push, if_neg (by omega)]
theorem NewRow.new {w w' : World} {cur : Array Value} {t : TypeId} {mk : Nat × Nat} (h : NewRow w w' cur t mk) : w'.heap[w.heap.size]? = some (.cells cur t mk) := by
  rw [h.heap]; simp
theorem NewRow.size {w w' : World} {cur : Array Value} {t : TypeId} {mk : Nat × Nat} (h : NewRow w w' cur t mk) : w'.heap.size = w.heap.size + 1 := by
  rw [h.heap]; simp
theorem NewRow.shapes {w w' : World} {cur : Array Value} {t : TypeId} {mk : Nat × Nat} (h : NewRow w w' cur t mk) : Shapes w w' := by
  intro b ty m hb
  have hlt : b < w.heap.size := by
    rcases Nat.lt_or_ge b w.heap.size with h' | h'
    · exact h'
    · simp [World.shape?, Array.getElem?_eq_none h'] at hb
  simp only [World.shape?, h.old hlt] at hb ⊢
  exact hb
theorem NewRow.cell {w w' : World} {cur : Array Value} {t : TypeId} {mk : Nat × Nat} (h : NewRow w w' cur t mk) (j : Nat) : w'.cell? ⟨w.heap.size, j, none⟩ = cur[j]? := cell_of_row w' _ j cur t mk h.new
theorem NewRow.alloc (w : World) (cur : Array Value) (t : TypeId) : NewRow w (w.alloc (.cells cur t)) cur t (0, 0) := ⟨rfl, rfl, rfl, rfl⟩
theorem NewRow.draw (w : World) (cur : Array Value) (t : TypeId) (mk : Nat × Nat) : NewRow w (w.drew.alloc (.cells cur t mk)) cur t mk := ⟨rfl, rfl, rfl, rfl⟩

theorem newRow_keeps (hr : Rel F N ι s a w) {w' : World} {cur : Array Value} {t : TypeId} {mk : Nat × Nat} (hw : NewRow w w' cur t mk) (d : Nat) (x : Pl) (kills : List Nat) (hk : isin d kills = true) (n : Nat) :
    Keeps w w' (F.ok ι s.pl w) (F.ok (upd ι d ⟨some w.heap.size, n⟩) (s.redo kills [(d, x)]).pl w') := by
  refine redo_keeps hr kills [(d, x)] _ w' (fun p hp => upd_other ι _ ?_) (fun b hb _ => hw.old hb) (by rw [hw.size]; omega) ?_
  · intro e; subst e; rw [hk] at hp; cases hp
  · intro p y b hp hb
    obtain ⟨rfl, rfl⟩ := aget_one hp
    rw [upd_same] at hb; cases hb
    exact ⟨by rw [hw.size]; omega, .inl (Nat.le_refl _)⟩

theorem Rel.newRow (hr : Rel F N ι s a w) {w' : World} {cur : Array Value} {t : TypeId} {mk : Nat × Nat} (hw : NewRow w w' cur t mk) (d : Nat) (x : Pl) (kills : List Nat) (hk : isin d kills = true) (n : Nat) (hfd : F.h d = none)
    (hx : PR (upd ι d ⟨some w.heap.size, n⟩) w' (F.ok (upd ι d ⟨some w.heap.size, n⟩) (s.redo kills [(d, x)]).pl w') d x) : Rel F N (upd ι d ⟨some w.heap.size, n⟩) (s.redo kills [(d, x)]) a w' := by
  refine hr.redo kills [(d, x)] _ w' (fun p hp => upd_other ι _ ?_) (fun b hb _ => hw.old hb) hw.shapes hw.os hw.tape hw.output (by rw [hw.size]; omega) ?_ ?_ ?_ (fun p y hp => by obtain ⟨rfl, _⟩ := aget_one hp; exact hfd)
  · intro e; subst e; rw [hk] at hp; cases hp
  · intro p y hp
    obtain ⟨rfl, rfl⟩ := aget_one hp
    exact hx
  · intro p y b hp hb
    obtain ⟨rfl, rfl⟩ := aget_one hp
    rw [upd_same] at hb; cases hb
    exact ⟨by rw [hw.size]; omega, .inl (Nat.le_refl _)⟩
  · intro p q y z b hp hq hpq
    obtain ⟨rfl, rfl⟩ := aget_one hp
    obtain ⟨rfl, rfl⟩ := aget_one hq
    exact absurd rfl hpq

theorem WR_cells {ok : Nat → Prop} {x : W} {v : Value} (h : WR ι w ok x v) (hs : solid x.cells = true) : CRs ι w ok x.cells v.cells.toList := by
  cases x with
  | c c =>
    have hd : c.isDead = false := by
      unfold W.cells solid at hs
      cases hd : c.isDead <;> rw [hd] at hs <;> first | rfl | cases hs
    have h1 := CR.one h hd
    have hv : v.cells.toList = [v] := by cases v <;> first | rfl | cases h1
    rw [hv]
    exact ⟨h, trivial⟩
  | agg cs =>
    obtain ⟨vs, rfl, h⟩ := h
    simpa [W.cells, Value.cells] using h

theorem CRs_kill_new (hr : Rel F N ι s a w) {w' : World} {cur : Array Value} {t : TypeId} {mk : Nat × Nat} (hw : NewRow w w' cur t mk) (d : Nat) (x : Pl) (n : Nat) {cs : List C} {vs : List Value} (h : CRs ι w (F.ok ι s.pl w) cs vs) :
    CRs (upd ι d ⟨some w.heap.size, n⟩) w' (F.ok (upd ι d ⟨some w.heap.size, n⟩) (s.redo [d] [(d, x)]).pl w') (cs.map (C.kill [d])) vs :=
  CRs.kill (newRow_keeps hr hw d x [d] (by simp [isin]) n) hw.shapes (fun _ hp => upd_other ι _ (isin_one hp)) cs vs h

theorem dst_eq {d : Nat} {o : Oper} (h : o.dst = some d) (v : Value) : a.put o.dst v = a.put (some d) v := by rw [h]

/-- The frame with a new box. -/
theorem sound_box (hr : Rel F N ι s a w) {d : Nat} (hdst : o.dst = some d) (hd : d < N) {cs : List C} {v : Value} {t : TypeId} (hcs : CRs ι w (F.ok ι s.pl w) cs v.cells.toList)
    (hrun : (execOp a.eval o).run P w = .ok (.value (.pointer (some ⟨w.heap.size, 0, none⟩))) (w.alloc (.cells v.cells t)))
    (h : K ((s.place d (.box (cs.map (C.kill [d])))).put (some d) (cV (.ptr d 0)))) : Fine P F N o a w K := by
  have hw := NewRow.alloc w v.cells t
  have hrel := hr.newRow hw d (.box (cs.map (C.kill [d]))) [d] (by simp [isin]) 0 (hr.h_slot hd) ⟨w.heap.size, v.cells, by rw [upd_same], ⟨t, hw.new⟩, CRs_kill_new hr hw d _ 0 hcs⟩
  refine Fine.of_value (ι' := upd ι d ⟨some w.heap.size, 0⟩) hrun ?_ h
  rw [hdst]
  exact hrel.put (some d) (fun k hk => by cases hk; exact hd) _ _ ⟨w.heap.size, by rw [upd_same], rfl⟩

theorem kill_const : ∀ (vs : List Value) (l : List Nat), (vs.map ofCell).map (C.kill l) = vs.map ofCell
  | [], _ => rfl
  | v :: vs, l => by
    simp only [List.map_cons, kill_const vs l]
    congr 1
    unfold ofCell
    split <;> rfl

theorem ofValue_cells {v : Value} (h : solid (ofValue v).cells = true) : (ofValue v).cells = v.cells.toList.map ofCell := by
  unfold ofValue at h ⊢
  split
  · rfl
  · rename_i hne
    simp only [W.cells] at h ⊢
    cases v <;> first | rfl | (exact absurd rfl (hne _)) | (simp [ofCell, solid, C.isDead] at h)

theorem sound_alloc (hr : Rel F N ι s a w) (hd : ∀ k, o.dst = some k → k < N) {t : TypeId} (ho : o.op = .alloc t) (h : aop P o.dst (.alloc (tzero P t).cells) s K) : Fine P F N o a w K := by
  simp only [aop] at h
  split at h
  · rename_i d hdst
    cases hs : solid (tzero P t).cells with
    | false => rw [hs] at h; exact h.elim
    | true =>
      rw [hs] at h
      simp only [cond_true] at h
      unfold tzero at hs h
      cases hi : P.info? t with
      | none => simp only [hi] at hs; cases hs
      | some i =>
        simp only [hi] at hs h
        cases hz : i.zero with
        | none => simp only [hz] at hs; cases hs
        | some v =>
          simp only [hz] at hs h
          rw [ofValue_cells hs] at h
          rw [← kill_const v.cells.toList [d]] at h
          refine sound_box hr hdst (hd d hdst) (t := t) (CRs_ofCell ι w _ v.cells.toList) ?_ h
          simp [execOp, ho, Instr.alloc, zeroValue, typeInfo, hi, hz, newVar, newRow]
  · exact h.elim

theorem sound_bx (hr : Rel F N ι s a w) (hd : ∀ k, o.dst = some k → k < N) {t : TypeId} {x : Operand} (ho : o.op = .box t x) (h : aop P o.dst (.bx (cO x)) s K) : Fine P F N o a w K := by
  simp only [aop] at h
  split at h
  · rename_i d y hdst hy
    cases hs : solid y.cells with
    | false => rw [hs] at h; exact h.elim
    | true =>
      rw [hs] at h
      simp only [cond_true] at h
      have hx := VR_o hr x
      rw [hy] at hx
      refine sound_box hr hdst (hd d hdst) (v := a.eval x) (t := t) (WR_cells hx hs) ?_ h
      simp [execOp, ho, Instr.box, newVar, newRow]
  · exact h.elim

/-! Stores. -/
theorem Shapes.setRow (w : World) (g : Nat) {old cs : Array Value} {t : TypeId} {fr : Nat × Nat} (hg : w.heap[g]? = some (.cells old t fr)) (hs : cs.size = old.size) : Shapes w (w.setRow g cs) := by
  intro b ty m hb
  by_cases hbg : b = g
  · subst hbg
    simp only [World.shape?, hg] at hb
    simp only [World.shape?, setRow_heap w b old cs t fr hg]
    cases hb
    rw [hs]
  · simp only [World.shape?, setRow_other w g b cs hbg]
    exact hb

/-- One place's contents change, in its own block. -/
theorem Rel.write (hr : Rel F N ι s a w) (p : Nat) (x y : Pl) (hp : aget s.pl p = some x) (hx : x.live = true) (hy : y.live = true) {b : Nat} (hb : (ι p).b = some b) {old cur : Array Value} {t : TypeId} (hg : w.heap[b]? = some (.cells old t (0, 0))) (hs : cur.size = old.size)
    (hpr : PR ι (w.setRow b cur) (F.ok ι (aput p y s.pl) (w.setRow b cur)) p y) : Rel F N ι (s.withPl (aput p y s.pl)) a (w.setRow b cur) := by
  have hownEq : ∀ c, Owns ι (aput p y s.pl) c ↔ Owns ι s.pl c := by
    intro c
    constructor
    · rintro ⟨q, z, h1, h2, h3⟩
      rw [aget_aput] at h1
      split at h1
      · rename_i e; subst e; exact ⟨p, x, hp, hx, h3⟩
      · exact ⟨q, z, h1, h2, h3⟩
    · rintro ⟨q, z, h1, h2, h3⟩
      by_cases e : p = q
      · subst e; exact ⟨p, y, by rw [aget_aput, if_pos rfl], hy, h3⟩
      · exact ⟨q, z, by rw [aget_aput, if_neg e]; exact h1, h2, h3⟩
  have hown : Owns ι s.pl b := ⟨p, x, hp, hx, hb⟩
  have hkeep : Keeps w (w.setRow b cur) (F.ok ι s.pl w) (F.ok ι (aput p y s.pl) (w.setRow b cur)) := by
    intro c hc
    have hcb : c ≠ b := fun e => by subst e; exact hc.2.2 hown
    exact ⟨⟨hc.1, by simpa using hc.2.1, fun ho => hc.2.2 ((hownEq c).1 ho)⟩, setRow_other w b c cur hcb⟩
  have hsh := Shapes.setRow w b hg hs
  refine ⟨hr.room, fun k v hv => ?_, fun q z hz => ?_, fun q r z u c hz hu hqr hl hqc => ?_, fun c hc => ?_, hr.defers, ?_, hr.foreign, hr.handed, hr.few, hr.hdom, fun q z g hz hg => ?_⟩
  rotate_left 5
  · have hz' : aget (aput p y s.pl) q = some z := hz
    rw [aget_aput] at hz'
    split at hz'
    · rename_i e; subst e; exact hr.hkeep p x g hp hg
    · exact hr.hkeep q z g hz' hg
  · obtain ⟨v', e1, e2⟩ := hr.slots k v hv
    exact ⟨v', e1, VR.keep hkeep hsh v v' e2⟩
  · have hz' : aget (aput p y s.pl) q = some z := hz
    rw [aget_aput] at hz'
    split at hz'
    · rename_i e; subst e; cases hz'; exact hpr
    · rename_i hpq
      have h := hr.places q z hz'
      have hne : ∀ c, (ι q).b = some c → c ≠ b := fun c hc e => by subst e; exact hr.inj p q x z c hp hz' hpq hx hb hc
      cases z with
      | box cs => obtain ⟨c, cur', e1, ⟨t', e2⟩, e3⟩ := h; exact ⟨c, cur', e1, ⟨t', by rw [setRow_other w b c cur (hne c e1)]; exact e2⟩, CRs.keep hkeep hsh _ _ e3⟩
      | arr sz els fz =>
        obtain ⟨h0, hn, h | ⟨c, e1, e2, e3, e4⟩⟩ := h
        · exact ⟨h0, hn, .inl h⟩
        · refine ⟨h0, hn, .inr ⟨c, e1, RDs.keep' hkeep c sz els 0 (fun j _ _ => cell_of_heap (setRow_other w b c cur (hne c e1)) j) e2, fun hf => (hkeep c (e3 hf)).1, fun hf => ?_⟩⟩
          obtain ⟨cur', ⟨t', e5⟩, e6⟩ := e4 hf
          exact ⟨cur', ⟨t', by rw [setRow_other w b c cur (hne c e1)]; exact e5⟩, e6⟩
      | fbox ds => obtain ⟨c, e1, e2, e3⟩ := h; exact ⟨c, e1, (hkeep c e2).1, RDc.keep hkeep c e2 _ _ e3⟩
      | gone => exact h.elim
  · have hz' : aget (aput p y s.pl) q = some z := hz
    have hu' : aget (aput p y s.pl) r = some u := hu
    rw [aget_aput] at hz' hu'
    have h1 : ∃ z', aget s.pl q = some z' ∧ z'.live = true := by
      split at hz'
      · rename_i e; subst e; exact ⟨x, hp, hx⟩
      · exact ⟨z, hz', hl⟩
    have h2 : ∃ u', aget s.pl r = some u' := by
      split at hu'
      · rename_i e; subst e; exact ⟨x, hp⟩
      · exact ⟨u, hu'⟩
    obtain ⟨z', h1, h1'⟩ := h1
    obtain ⟨u', h2⟩ := h2
    exact hr.inj q r z' u' c h1 h2 hqr h1' hqc
  · have := hr.mine c ((hownEq c).1 hc)
    exact ⟨this.1, by simpa using this.2⟩
  · refine ⟨hr.grows.os, hr.grows.tape, hr.grows.output, by simpa using hr.grows.size, fun c hc hm => ?_, fun c t m h => hsh c t m (hr.grows.shapes c t m h)⟩
    have hcb : c ≠ b := by
      intro e; subst e
      rcases (hr.mine c hown).1 with h | h
      · exact hm h
      · omega
    rw [setRow_other w b c cur hcb]
    exact hr.grows.block c hc hm

theorem write_keeps (_hr : Rel F N ι s a w) (p : Nat) (x y : Pl) (hp : aget s.pl p = some x) (hx : x.live = true) {b : Nat} (hb : (ι p).b = some b) (cur : Array Value) :
    Keeps w (w.setRow b cur) (F.ok ι s.pl w) (F.ok ι (aput p y s.pl) (w.setRow b cur)) := by
  intro c hc
  have hcb : c ≠ b := fun e => by subst e; exact hc.2.2 ⟨p, x, hp, hx, hb⟩
  refine ⟨⟨hc.1, by simpa using hc.2.1, ?_⟩, setRow_other w b c cur hcb⟩
  rintro ⟨q, z, h1, h2, h3⟩
  rw [aget_aput] at h1
  split at h1
  · rename_i e; subst e; exact hc.2.2 ⟨p, x, hp, hx, h3⟩
  · exact hc.2.2 ⟨q, z, h1, h2, h3⟩

theorem run_storeVar {t : TypeId} {i : TypeInfo} (hi : P.info? t = some i) {b off : Nat} {old : Array Value} {ty : TypeId} (hg : w.heap[b]? = some (.cells old ty (0, 0))) {v : Value} (hl : v.cells.toList.length = tsz P t) (hfit : off + v.cells.toList.length ≤ old.size)
    (h1 : ∀ u ∈ v.cells.toList, u.oneCell' = true) : (storeVar t ⟨b, off, none⟩ v).run P w = .ok () (w.setRow b (old.toList.take off ++ v.cells.toList ++ old.toList.drop (off + v.cells.toList.length)).toArray) := by
  have h := run_storeCells_at P b off ty v.cells.toList 0 old w hg (by simpa using hfit) h1
  simp only [Nat.add_zero] at h
  have hne : v.cells.size = tsz P t := by simpa using hl
  simp [storeVar, run_sizeOf hi, hne, h]

theorem CRs_solid_of_ones {ok : Nat → Prop} : ∀ {ds : List D} {vs : List Value}, CRs ι w ok (ds.map .d) vs → ∀ v ∈ vs, v.oneCell' = true
  | [], [], _, _, hv => by cases hv
  | [], _ :: _, h, _, _ => h.elim
  | _ :: _, [], h, _, _ => h.elim
  | d :: ds, v :: vs, h, u, hu => by
    rcases List.mem_cons.1 hu with rfl | hu
    · exact CR.one h.1 rfl
    · exact CRs_solid_of_ones h.2 u hu

theorem put_none (a : Act) (v : Value) : a.put none v = a := rfl

theorem solid_of_toDs {pl1 : List (Nat × Pl)} : ∀ {cs : List C} {pl : List (Nat × Pl)} {ds : List D}, toDs pl cs = some (ds, pl1) → solid cs = true := by
  intro cs
  induction cs with
  | nil => intros; rfl
  | cons c cs ih =>
    intro pl ds h
    simp only [toDs] at h
    split at h
    · rename_i y pl2 h1
      split at h
      · rename_i ys pl3 h2
        have e : pl3 = pl1 := by cases h; rfl
        subst e
        unfold solid
        have hd : c.isDead = false := by cases c <;> first | rfl | cases h1
        rw [hd]
        exact ih h2
      · cases h
    · cases h

theorem RDs_mk {ok : Nat → Prop} {b sz : Nat} : ∀ {els : List (List D)} {off : Nat} {vs : List Value}, (∀ e ∈ els, e.length = sz) → CRs ι w ok (els.flatten.map .d) vs → (∀ j v, vs[j]? = some v → w.cell? ⟨b, off + j, none⟩ = some v) → RDs w ok b sz off els
  | [], _, _, _, _, _ => by simp only [RDs]
  | e :: r, off, vs, hl, hc, hcell => by
    simp only [RDs]
    simp only [List.flatten_cons, List.map_append] at hc
    have he : e.length = sz := hl e (by simp)
    have hspl : ∀ (e : List D) (rest : List C) (vs : List Value) (off : Nat), CRs ι w ok (e.map .d ++ rest) vs → (∀ j v, vs[j]? = some v → w.cell? ⟨b, off + j, none⟩ = some v) → RDc w ok b off e ∧ CRs ι w ok rest (vs.drop e.length) := by
      intro e
      induction e with
      | nil => intro rest vs off h _; exact ⟨by simp only [RDc], by simpa using h⟩
      | cons d e ih =>
        intro rest vs off h hcl
        cases vs with
        | nil => exact h.elim
        | cons v vs =>
          obtain ⟨h1, h2⟩ := ih rest vs (off + 1) h.2 (fun j u hu => by have := hcl (j + 1) u (by simpa using hu); rwa [show off + (j + 1) = off + 1 + j by omega] at this)
          refine ⟨?_, by simpa using h2⟩
          simp only [RDc]
          exact ⟨⟨v, by simpa using hcl 0 v rfl, h.1⟩, h1⟩
    obtain ⟨h1, h2⟩ := hspl e _ vs off hc hcell
    refine ⟨he, h1, RDs_mk (fun x hx => hl x (by simp [hx])) h2 (fun j v hv => ?_)⟩
    rw [List.getElem?_drop] at hv
    have := hcell _ v hv
    rw [he] at this
    rwa [show off + sz + j = off + (sz + j) by omega]

theorem RDs.vals {ok : Nat → Prop} {b sz : Nat} : ∀ {els : List (List D)} {off : Nat}, RDs w ok b sz off els → ∃ vs, CRs ι w ok (els.flatten.map .d) vs ∧ vs.length = els.length * sz ∧ ∀ j v, vs[j]? = some v → w.cell? ⟨b, off + j, none⟩ = some v
  | [], off, _ => ⟨[], trivial, by simp, fun j v h => by simp at h⟩
  | e :: r, off, h => by
    simp only [RDs] at h
    obtain ⟨h1, h2, h3⟩ := h
    obtain ⟨vs1, e1, e2⟩ := RDc.vals (ι := ι) h2
    obtain ⟨vs2, g1, g2, g3⟩ := RDs.vals h3
    have hlen : vs1.length = sz := by rw [← e1.length]; simpa using h1
    refine ⟨vs1 ++ vs2, by simp only [List.flatten_cons, List.map_append]; exact CRs.append e1 g1, by simp only [List.length_append, List.length_cons, hlen, g2, Nat.add_mul]; omega, fun j v hv => ?_⟩
    rw [List.getElem?_append] at hv
    split at hv
    · exact e2 j v hv
    · rename_i hge
      have := g3 _ v hv
      rw [hlen] at this hge
      rwa [show off + sz + (j - sz) = off + j by omega] at this

theorem CRs_vals_cells {ok : Nat → Prop} : ∀ {ds : List D} {vs : List Value}, CRs ι w ok (ds.map .d) vs → ds.length = vs.length := fun h => by simpa using h.length

theorem sound_st (hr : Rel F N ι s a w) {t : TypeId} {x y : Operand} (ho : o.op = .store t x y) {i : TypeInfo} (hi : P.info? t = some i)
    (h : aop P o.dst (.st (tsz P t) (cO x) (cO y)) s K) : Fine P F N o a w K := by
  simp only [aop] at h
  split at h
  case h_2 => exact h.elim
  rename_i hdst
  have hx := CR_o hr x
  have hy := WR_o hr y
  generalize s.oc (cO x) = cx at *
  generalize s.ow (cO y) = wy at *
  unfold aSt at h
  cases hl : Nat.beq wy.cells.length (tsz P t) with
  | false => rw [hl] at h; exact h.elim
  | true =>
    rw [hl] at h
    simp only [cond_true] at h
    have hl := Nat.eq_of_beq_eq_true hl
    split at h
    · rename_i p off
      split at h
      · rename_i cs hp
        cases hs : solid wy.cells && Nat.ble (off + wy.cells.length) cs.length with
        | false => rw [hs] at h; exact h.elim
        | true =>
          rw [hs] at h
          simp only [cond_true] at h
          rw [Bool.and_eq_true] at hs
          have hfit := Nat.le_of_ble_eq_true hs.2
          obtain ⟨b, h1, h2⟩ := hx
          obtain ⟨b', old, e1, ⟨ty, e2⟩, e3⟩ := hr.places p _ hp
          rw [h1] at e1; cases e1
          have hcs := WR_cells hy hs.1
          have hlen : (a.eval y).cells.toList.length = wy.cells.length := hcs.length.symm
          have hol : cs.length = old.size := by simpa using e3.length
          have hrun := run_storeVar (P := P) hi (b := b) (off := off) e2 (v := a.eval y) (by rw [hlen, hl]) (by rw [hlen]; omega) (CRs.ones hcs hs.1)
          obtain ⟨cur, hcur⟩ : ∃ cur : Array Value, cur = (old.toList.take off ++ (a.eval y).cells.toList ++ old.toList.drop (off + (a.eval y).cells.toList.length)).toArray := ⟨_, rfl⟩
          rw [← hcur] at hrun
          have hsz : cur.size = old.size := by
            rw [hcur]; simp only [List.size_toArray, List.length_append, List.length_take, List.length_drop, Array.length_toList, hlen]; omega
          have hk := write_keeps hr p (.box cs) (.box (splice cs off wy.cells)) hp rfl h1 cur
          have hsh := Shapes.setRow w b e2 hsz
          have hall := CRs.append (CRs.append (CRs.take off e3) hcs) (CRs.drop (off + wy.cells.length) e3)
          have hct : cur.toList = old.toList.take off ++ (a.eval y).cells.toList ++ old.toList.drop (off + wy.cells.length) := by rw [hcur, hlen]
          rw [← hct] at hall
          have hrel := hr.write p (.box cs) (.box (splice cs off wy.cells)) hp rfl rfl h1 e2 hsz ⟨b, cur, h1, ⟨ty, setRow_heap w b old cur ty (0, 0) e2⟩, CRs.keep hk hsh _ _ hall⟩
          refine Fine.of_skip (ι' := ι) (w' := w.setRow b cur) (by simp only [execOp, ho, h2, Instr.storeAt, Instr.sureAddr, Sem.run_bind, Sem.run_pure, Result.andThen_ok, hrun]) ?_ h
          rw [hdst]
          exact hrel
      · exact h.elim
    · rename_i p z i' k
      split at h
      · rename_i ds pl1 hds
        split at h
        · rename_i z1 els hp
          cases hz : Nat.beq z z1 with
          | false => rw [hz] at h; exact h.elim
          | true =>
            rw [hz] at h
            have hz := Nat.eq_of_beq_eq_true hz; subst hz
            simp only [cond_true] at h
            obtain ⟨e, he, hfit, h⟩ := h
            have hcs := WR_cells hy (solid_of_toDs hds)
            obtain ⟨hr1, hk1, hd1⟩ := toDs_sound hr hcs hds
            have hlen : (a.eval y).cells.toList.length = wy.cells.length := hcs.length.symm
            have hdl : ds.length = wy.cells.length := by rw [← hlen]; simpa using hd1.length
            obtain ⟨b, h1, h2⟩ := hx
            obtain ⟨hz0, hn, hpl | ⟨b', e1, e2, _, e4⟩⟩ := hr1.places p _ hp
            · rw [hpl.2] at he; simp at he
            · rw [h1] at e1; cases e1
              obtain ⟨old, ⟨ty, hg⟩, hroom⟩ := e4 rfl
              have hiel : i' < els.length := (List.getElem?_eq_some_iff.1 he).1
              have hez : e.length = z := RDs.len e2 e (List.mem_of_getElem? he)
              have hbnd : i' * z + k + ds.length ≤ old.size := by
                have : (i' + 1) * z ≤ els.length * z := Nat.mul_le_mul_right _ hiel
                rw [Nat.add_mul, Nat.one_mul] at this
                omega
              have hrun := run_storeVar (P := P) hi (b := b) (off := i' * z + k) hg (v := a.eval y) (by rw [hlen, hl]) (by rw [hlen, ← hdl]; exact hbnd) (CRs_solid_of_ones hd1)
              have hsz : (old.toList.take (i' * z + k) ++ (a.eval y).cells.toList ++ old.toList.drop (i' * z + k + (a.eval y).cells.toList.length)).toArray.size = old.size := by
                simp only [List.size_toArray, List.length_append, List.length_take, List.length_drop, Array.length_toList, hlen]; omega
              have hk := write_keeps hr1 p (.arr z els false) (.arr z (els.set i' (splice e k ds)) false) hp rfl h1 (old.toList.take (i' * z + k) ++ (a.eval y).cells.toList ++ old.toList.drop (i' * z + k + (a.eval y).cells.toList.length)).toArray
              have hsh := Shapes.setRow w b hg hsz
              obtain ⟨vs, g1, g2, g3⟩ := RDs.vals (ι := ι) e2
              have hspl : (els.set i' (splice e k ds)).flatten = splice els.flatten (i' * z + k) ds := by
                have hall := RDs.len e2
                have : ∀ (els : List (List D)) (i' : Nat), (∀ x ∈ els, x.length = z) → els[i']? = some e → (els.set i' (splice e k ds)).flatten = splice els.flatten (i' * z + k) ds := by
                  intro els
                  induction els with
                  | nil => intro i' _ h; simp at h
                  | cons x r ih =>
                    intro i' hall he
                    have hx : x.length = z := hall x (by simp)
                    cases i' with
                    | zero =>
                      simp at he; subst he
                      simp only [List.set_cons_zero, List.flatten_cons, splice, Nat.zero_mul, Nat.zero_add]
                      rw [List.take_append_of_le_length (by omega), List.drop_append_of_le_length (by omega)]
                      simp [List.append_assoc]
                    | succ i' =>
                      simp at he
                      simp only [List.set_cons_succ, List.flatten_cons]
                      rw [ih i' (fun y hy => hall y (by simp [hy])) he]
                      simp only [splice]
                      rw [show (i' + 1) * z + k = x.length + (i' * z + k) by rw [hx, Nat.add_mul]; omega, List.take_length_add_append, show x.length + (i' * z + k) + ds.length = x.length + (i' * z + k + ds.length) by omega, List.drop_length_add_append]
                      simp [List.append_assoc]
                exact this els i' hall he
              have hvl : vs.length = els.length * z := g2
              have hrel := hr1.write p (.arr z els false) (.arr z (els.set i' (splice e k ds)) false) hp rfl rfl h1 hg hsz ⟨hz0, by simpa using hn, .inr ⟨b, h1, by
                refine RDs_mk (ι := ι) (vs := splice vs (i' * z + k) (a.eval y).cells.toList) ?_ ?_ ?_
                · intro q hq
                  rcases List.mem_or_eq_of_mem_set hq with hq | rfl
                  · exact RDs.len e2 q hq
                  · simp only [splice, List.length_append, List.length_take, List.length_drop]; omega
                · rw [hspl]
                  simp only [splice, List.map_append, List.map_take, List.map_drop]
                  refine CRs.keep hk hsh _ _ ?_
                  rw [hlen, ← hdl]
                  exact CRs.append (CRs.append (CRs.take _ g1) hd1) (CRs.drop _ g1)
                · intro j v hv
                  rw [Nat.zero_add, cell_setRow_same w b _ old _ ty (0, 0) hg]
                  simp only [splice] at hv
                  have hold : ∀ j v, vs[j]? = some v → old.toList[j]? = some v := fun j v hv => by
                    have := g3 j v hv
                    rw [Nat.zero_add, cell_of_row w b j old ty (0, 0) hg] at this
                    rw [Array.getElem?_toList]; exact this
                  have hjl : j < vs.length := by
                    have := (List.getElem?_eq_some_iff.1 hv).1
                    simp only [List.length_append, List.length_take, List.length_drop, hlen] at this
                    have : (i' + 1) * z ≤ els.length * z := Nat.mul_le_mul_right _ hiel
                    rw [Nat.add_mul, Nat.one_mul] at this
                    omega
                  have hle : vs.length ≤ old.toList.length := by simpa [hvl] using hroom
                  simp only [List.getElem?_toArray]
                  rw [List.getElem?_append, List.getElem?_append] at hv ⊢
                  have t1 : (vs.take (i' * z + k)).length = i' * z + k := by
                    rw [List.length_take]
                    have : (i' + 1) * z ≤ els.length * z := Nat.mul_le_mul_right _ hiel
                    rw [Nat.add_mul, Nat.one_mul] at this
                    omega
                  have t2 : (old.toList.take (i' * z + k)).length = i' * z + k := by
                    rw [List.length_take, Array.length_toList]; omega
                  simp only [List.length_append, t1, t2] at hv ⊢
                  split at hv
                  · rename_i c1
                    rw [if_pos c1]
                    split at hv
                    · rename_i c2
                      rw [if_pos c2]
                      rw [List.getElem?_take] at hv ⊢
                      rw [if_pos c2] at hv ⊢
                      exact hold j v hv
                    · rename_i c2
                      rw [if_neg c2]
                      exact hv
                  · rename_i c1
                    rw [if_neg c1]
                    rw [List.getElem?_drop] at hv ⊢
                    exact hold _ v hv, (fun hf => by cases hf), (fun _ => ⟨_, ⟨ty, setRow_heap w b old _ ty (0, 0) hg⟩, by rw [hsz]; simpa using hroom⟩)⟩⟩
              refine Fine.of_skip (ι' := ι) (w' := w.setRow b (old.toList.take (i' * z + k) ++ (a.eval y).cells.toList ++ old.toList.drop (i' * z + k + (a.eval y).cells.toList.length)).toArray) (hr := ?_) (hk := h) (h := ?_)
              · simp only [execOp, ho, h2, Instr.storeAt, Instr.sureAddr, Sem.run_bind, Sem.run_pure, Result.andThen_ok, hrun]
              · rw [hdst]; exact hrel
        · exact h.elim
      · exact h.elim
    · exact h.elim

end

end Go.AM
