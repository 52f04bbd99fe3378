/- Soundness of the abstract machine, 8: append. -/
import Derived.Test.YtbdcgchgpdclaaaAmS7
namespace Go.AM

section
variable {P : Program} {F : Fr} {N : Nat} {ι : Nat → Gh} {s : S} {a : Act} {w : World} {o : Oper} {K : S → Prop}

/-- What is appended: n elements, their cells. -/
structure Src (P : Program) (w : World) (size n : Nat) (y : Value) (news : List Value) : Prop where
  len : ∀ w', (Builtin.lenOf y).run P w' = .ok n w'
  cells : ∀ w', w'.heap = w.heap → (Builtin.firstCells size n y).run P w' = .ok news.toArray w'

def srcType (P : Program) (u : TypeId) : Prop := P.underlying u = some .string ∨ ∃ e, P.underlying u = some (.slice e)

theorem run_append_nil0 {t u ty e : TypeId} {i : TypeInfo} (ht : P.underlying t = some (.slice e)) (hu : srcType P u) (hi : P.info? e = some i) {y : Value} {news : List Value} (hs : Src P w i.size 0 y news) :
    (Builtin.append_ #[t, u] ty #[.slice none 0 0, y]).run P w = .ok (.slice none 0 0) w := by
  have h1 := hs.len w
  have h2 := hs.cells w rfl
  rcases hu with hu | ⟨e', hu⟩ <;> simp [Builtin.append_, run_underlying ht, run_underlying hu, sizeOf, typeInfo, hi, h1, h2]

theorem run_append_fits {t u ty e : TypeId} {i : TypeInfo} (ht : P.underlying t = some (.slice e)) (hu : srcType P u) (hi : P.info? e = some i) {y : Value} {n : Nat} {news : List Value} (hs : Src P w i.size n y news)
    {g sLen sCap : Nat} {cur : Array Value} {te : TypeId} (hg : w.heap[g]? = some (.cells cur te (0, 0))) (h1 : ∀ v ∈ news, v.oneCell' = true) (hroom : sLen + n ≤ sCap) (hfit : sLen * i.size + news.length ≤ cur.size) :
    (Builtin.append_ #[t, u] ty #[.slice (some ⟨g, 0, none⟩) sLen sCap, y]).run P w =
      .ok (.slice (some ⟨g, 0, none⟩) (sLen + n) sCap) (w.setRow g (cur.toList.take (sLen * i.size) ++ news ++ cur.toList.drop (sLen * i.size + news.length)).toArray) := by
  have e1 := hs.len w
  have e2 := hs.cells w rfl
  have hst := run_storeCells_at P g (sLen * i.size) te news 0 cur w hg (by simpa using hfit) h1
  simp only [Nat.add_zero] at hst
  have hadd : (⟨g, 0, none⟩ : Addr).add (sLen * i.size) = ⟨g, sLen * i.size, none⟩ := by rw [addr_add, Nat.zero_add]
  rcases hu with hu | ⟨e', hu⟩ <;> simp [Builtin.append_, run_underlying ht, run_underlying hu, sizeOf, typeInfo, hi, e1, e2, hroom, hadd, hst]

theorem run_append_new {t u ty e : TypeId} {i : TypeInfo} {z : Value} (ht : P.underlying t = some (.slice e)) (hu : srcType P u) (hi : P.info? e = some i) (hz : i.zero = some z) {y : Value} {n : Nat} {news : List Value} (hs : Src P w i.size n y news)
    {ad : Option Addr} {sLen sCap : Nat} {olds : List Value} (ho : ∀ w', w'.heap = w.heap → (Builtin.firstCells i.size sLen (.slice ad sLen sCap)).run P w' = .ok olds.toArray w') (hg : sCap < sLen + n) (h63 : ((sLen + n : Nat) : Int) ≤ 9223372036854775807)
    (hbytes : (sLen + n) * i.bytes ≤ 140737488355328) :
    (Builtin.append_ #[t, u] ty #[.slice ad sLen sCap, y]).run P w =
      .ok (.slice (some ⟨w.heap.size, 0, none⟩) (sLen + n) (grownCap w (sLen + n) sCap e))
        (w.drew.alloc (.cells (olds ++ news ++ (Builtin.zeroCells z.cells (grownCap w (sLen + n) sCap e - (sLen + n))).toList).toArray e)) := by
  have e1 := hs.len w
  have e2 := hs.cells w.drew rfl
  have e3 := ho w.drew rfl
  have hn : ¬ (sLen + n ≤ sCap) := by omega
  have h63' : ¬ (9223372036854775807 < ((sLen : Int) + (n : Int))) := by omega
  have hfit := growslice_fits hg hbytes
  have h48' : ¬ (281474976710656 < Builtin.nextslicecap (sLen + n) sCap * i.bytes) := by omega
  have fin : (olds.toArray ++ (news.toArray ++ Builtin.zeroCells z.cells (grownCap w (sLen + n) sCap e - (sLen + n)))) = (olds ++ (news ++ (Builtin.zeroCells z.cells (grownCap w (sLen + n) sCap e - (sLen + n))).toList)).toArray := by
    apply Array.ext'
    simp
  rcases hu with hu | ⟨e', hu⟩ <;>
  · simp [Builtin.append_, run_underlying ht, run_underlying hu, sizeOf, typeInfo, zeroValue, hi, hz, e1, hn, h63', h48', Question.forced, e2, e3, newRow]
    simp only [grownCap] at fin ⊢
    rw [← fin]
    exact ⟨trivial, rfl⟩

theorem flatten_length {α : Type} {sz : Nat} : ∀ (l : List (List α)), (∀ y ∈ l, y.length = sz) → l.flatten.length = l.length * sz
  | [], _ => by simp
  | x :: r, h => by
    simp only [List.flatten_cons, List.length_append, List.length_cons, h x (by simp), flatten_length r (fun y hy => h y (by simp [hy])), Nat.add_mul]
    omega

/-- The source, out of what is known of it. -/
theorem src_els (hr : Rel F N ι s a w) {c : C} {v : Value} (hc : CR ι w (F.ok ι s.pl w) c v) {l : List (List D)} (h : readEls s.pl c = some l) {size : Nat} (hl : ∀ y ∈ l, y.length = size) :
    ∃ news, Src P w size l.length v news ∧ news.length = l.length * size ∧ CRs ι w (F.ok ι s.pl w) (l.flatten.map .d) news := by
  obtain ⟨ad, cap, rfl, hdata⟩ := readEls_spec hr hc h
  have hlen : ∀ w', (Builtin.lenOf (.slice ad l.length cap)).run P w' = .ok l.length w' := fun w' => by simp [Builtin.lenOf]
  rcases hdata with rfl | ⟨b, q, sz, rfl, hdata⟩
  · refine ⟨[], ⟨hlen, fun w' _ => ?_⟩, by simp, trivial⟩
    cases ad with
    | none => simp [Builtin.firstCells]
    | some ad => simp [Builtin.firstCells, loadCells, loadCellsFrom]
  · obtain ⟨vs, g1, g2, g3⟩ := RDs.vals (ι := ι) hdata
    have hvl : vs.length = l.length * size := by
      have := g1.length
      simp only [List.length_map] at this
      rw [← this, flatten_length l hl]
    refine ⟨vs, ⟨hlen, fun w' hw' => ?_⟩, hvl, g1⟩
    exact run_firstCells_some (P := P) w' size l.length ⟨b, q, none⟩ l.length cap vs hvl (fun j u hu => by
      rw [addr_add]
      have := g3 j u hu
      simpa [World.cell?, hw'] using this)

theorem src_string (w : World) (ι : Nat → Gh) (ok : Nat → Prop) (b : ByteArray) : ∃ news, Src P w 1 (encBytes b).length (.string b) news ∧ news.length = (encBytes b).length * 1 ∧ CRs ι w ok ((encBytes b).flatten.map .d) news := by
  have hl : (encBytes b).length = b.size := by simp [encBytes]
  refine ⟨b.data.toList.map fun (x : UInt8) => Value.int .u8 x.toNat, ⟨fun w' => by simp [Builtin.lenOf, hl], fun w' _ => ?_⟩, by simp [encBytes], by rw [encBytes_flat]; exact CRs_bytes_mk _⟩
  rw [hl]
  have hx : (b.extract 0 b.size).data = b.data := by
    have : b.extract 0 b.size = b := ByteArray.extract_zero_size
    rw [this]
  simp only [Builtin.firstCells, hx, Sem.run_pure]
  congr 1
  apply Array.toList_inj.1
  simp

theorem CRs_news_ones {ok : Nat → Prop} {ds : List D} {vs : List Value} (h : CRs ι w ok (ds.map .d) vs) : ∀ v ∈ vs, v.oneCell' = true := CRs_solid_of_ones h

theorem size_ne_of_pos {e : TypeId} {sz : Nat} (hsz : tsz P e = sz) (hpos : 0 < sz) : ∃ i, P.info? e = some i ∧ i.size = sz := by
  cases hi : P.info? e with
  | none => simp [tsz, hi] at hsz; omega
  | some i => exact ⟨i, rfl, by simpa [tsz, hi] using hsz⟩

theorem zero_size {z : Value} {i : TypeInfo} (_ : i.zero = some z) (n : Nat) : (Builtin.zeroCells z.cells n).toList.length = n * z.cells.size := by simp [Builtin.zeroCells]

/-- The whole of append; 'zc': the zero value fills its size. -/
theorem sound_app_core (hr : Rel F N ι s a w) (hd : ∀ k, o.dst = some k → k < N) {d : Nat} (hdst : o.dst = some d) {t u e : TypeId} {i : TypeInfo} {z : Value} (ht : P.underlying t = some (.slice e)) (hu : srcType P u) (hi : P.info? e = some i) (hz : i.zero = some z)
    (hzc : z.cells.size = i.size) (hpos : 0 < i.size) {x : C} {xv y : Value} (hx : CR ι w (F.ok ι s.pl w) x xv)
    (hrun : ∀ v w', (Builtin.append_ #[t, u] o.type #[xv, y]).run P w = .ok v w' → (execOp a.eval o).run P w = .ok (.value v) w')
    {l : List (List D)} (hl : (∀ q ∈ l, q.length = i.size) → ∃ news, Src P w i.size l.length y news ∧ news.length = l.length * i.size ∧ CRs ι w (F.ok ι s.pl w) (l.flatten.map .d) news)
    (h : aApp d i.size i.bytes x (some l) s K) : Fine P F N o a w K := by
  unfold aApp at h
  simp only [] at h
  -- the new block, out of the old elements and the new ones
  have grow : ∀ (kills : List Nat) (hk : isin d kills = true) (ad : Option Addr) (sLen sCap : Nat) (olds : List Value) (els : List (List D)), els.length = sLen → (∀ q ∈ els, q.length = i.size) → (∀ q ∈ l, q.length = i.size) → xv = .slice ad sLen sCap →
      olds.length = sLen * i.size → CRs ι w (F.ok ι s.pl w) (els.flatten.map .d) olds → (∀ w', w'.heap = w.heap → (Builtin.firstCells i.size sLen (.slice ad sLen sCap)).run P w' = .ok olds.toArray w') →
      sCap < sLen + l.length → sLen + l.length ≤ 9223372036854775807 → (sLen + l.length) * i.bytes ≤ 140737488355328 →
      K ((s.redo kills [(d, .arr i.size (els ++ l) false)]).put (some d) (cV (.own d i.size (sLen + l.length)))) → Fine P F N o a w K := by
    intro kills hk ad sLen sCap olds els hel hes hls hxv hol hoc hof hcap h63 hby hK
    obtain ⟨news, hsrc, hnl, hnc⟩ := hl hls
    subst hxv
    have hap := run_append_new (ty := o.type) ht hu hi hz hsrc hof hcap (by omega) hby
    obtain ⟨cur, hcur⟩ : ∃ cur : Array Value, cur = (olds ++ news ++ (Builtin.zeroCells z.cells (grownCap w (sLen + l.length) sCap e - (sLen + l.length))).toList).toArray := ⟨_, rfl⟩
    rw [← hcur] at hap
    have hw := NewRow.draw w cur e (0, 0)
    have hge := grownCap_ge w (sLen + l.length) sCap e
    have hle := grownCap_le_maxLen w (sLen + l.length) sCap e (by simp only [maxLen]; omega)
    have hcs : cur.size = grownCap w (sLen + l.length) sCap e * i.size := by
      rw [hcur]
      simp only [List.size_toArray, List.length_append, hol, hnl, zero_size hz, hzc, ← Nat.add_mul]
      congr 1; omega
    have hrel := hr.newRow hw d (.arr i.size (els ++ l) false) kills hk (sLen + l.length) (hr.h_slot (hd _ (by assumption))) ⟨hpos, by rw [upd_same]; simp [hel], .inr ⟨w.heap.size, by rw [upd_same], by
      refine RDs_mk (ι := ι) (vs := olds ++ news) (fun q hq => ?_) ?_ ?_
      · rcases List.mem_append.1 hq with hq | hq
        · exact hes q hq
        · exact hls q hq
      · simp only [List.flatten_append, List.map_append]
        exact CRs.keep (newRow_keeps hr hw d _ kills hk _) hw.shapes _ _ (CRs.append hoc hnc)
      · intro j v hv
        rw [Nat.zero_add, hw.cell, hcur]
        have hj := (List.getElem?_eq_some_iff.1 hv).1
        rw [List.getElem?_toArray, List.getElem?_append_left hj]
        exact hv, (fun hf => by cases hf), (fun _ => ⟨cur, ⟨e, hw.new⟩, by
        rw [hcs]; simp only [List.length_append, hel]; exact Nat.mul_le_mul_right _ hge⟩)⟩⟩
    refine Fine.of_value (ι' := upd ι d ⟨some w.heap.size, sLen + l.length⟩) (hrun _ _ hap) ?_ hK
    rw [hdst]
    refine hrel.put (some d) (fun k hk => by cases hk; exact hd d hdst) _ _ ?_
    exact .inr ⟨w.heap.size, _, e, by rw [upd_same], by rw [upd_same]; exact Nat.le_refl _, rfl, hge, hle, by rw [hw.shape, hcs]⟩
  -- nothing is appended to nil
  have none0 : ∀ (kills : List Nat) (hk : isin d kills = true), l = [] → xv = .slice none 0 0 → K ((s.redo kills [(d, .arr i.size [] false)]).put (some d) (cV (.own d i.size 0))) → Fine P F N o a w K := by
    intro kills hk hl0 hxv hK
    subst hl0 hxv
    obtain ⟨news, hsrc, _, _⟩ := hl (fun q hq => by cases hq)
    have hap := run_append_nil0 (ty := o.type) ht hu hi hsrc
    have hrel : Rel F N (upd ι d ⟨none, 0⟩) (s.redo kills [(d, .arr i.size [] false)]) a w := by
      refine hr.redo kills [(d, .arr i.size [] false)] _ w (fun p hp => upd_other ι _ (fun e => by subst e; rw [hk] at hp; cases hp)) (fun _ _ _ => rfl) (Shapes.refl w) rfl rfl rfl (Nat.le_refl _) ?_ ?_ ?_ (fun p x hp => by obtain ⟨rfl, _⟩ := aget_one hp; exact hr.h_slot (hd _ (by assumption)))
      · intro p q hp
        obtain ⟨rfl, rfl⟩ := aget_one hp
        exact ⟨hpos, by rw [upd_same]; rfl, .inl ⟨by rw [upd_same], rfl⟩⟩
      · intro p q b hp hb
        obtain ⟨rfl, rfl⟩ := aget_one hp
        rw [upd_same] at hb; cases hb
      · intro p q r y b hp hq hpq
        obtain ⟨rfl, rfl⟩ := aget_one hp
        obtain ⟨rfl, rfl⟩ := aget_one hq
        exact absurd rfl hpq
    refine Fine.of_value (ι' := upd ι d ⟨none, 0⟩) (hrun _ _ hap) ?_ hK
    rw [hdst]
    exact hrel.put (some d) (fun k hk => by cases hk; exact hd d hdst) _ _ (.inl ⟨by rw [upd_same], rfl, rfl⟩)
  split at h
  · obtain ⟨g1, g2, g3, h⟩ := h
    simp only [CR] at hx
    by_cases hl0 : l = []
    · subst hl0; exact none0 [d] (by simp [isin]) rfl hx h
    · have hpl : 0 < l.length := List.length_pos_iff.2 hl0
      refine grow [d] (by simp [isin]) none 0 0 [] [] rfl (fun q hq => by cases hq) g1 hx (by simp) trivial (fun w' _ => by simp [Builtin.firstCells]) (by omega) (by omega) (by simpa [fits] using g2) ?_
      simpa [S.place] using h
  · rename_i p zz n
    split at h
    · rename_i z1 els hp
      cases hzz : Nat.beq zz z1 && Nat.beq zz i.size with
      | false => rw [hzz] at h; exact h.elim
      | true =>
        rw [hzz] at h
        rw [Bool.and_eq_true] at hzz
        have hz1 := Nat.eq_of_beq_eq_true hzz.1
        have hz2 := Nat.eq_of_beq_eq_true hzz.2
        simp only [cond_true] at h
        obtain ⟨g1, g2, g3, h⟩ := h
        obtain ⟨k1, k2 | ⟨b, cap, ty, f1, f3, f4, f5, f6, f7⟩⟩ := own_data hr hp hz1 hx
        · obtain ⟨k2, k3, k4, k5⟩ := k2
          subst k2 k5
          simp only [List.take_nil, List.nil_append, Nat.zero_add] at h
          have hkk : isin d [p, d] = true := by
            unfold isin; cases Nat.beq p d <;> simp [isin]
          by_cases hl0 : l = []
          · subst hl0; exact none0 [p, d] hkk rfl k3 h
          · have hpl : 0 < l.length := List.length_pos_iff.2 hl0
            refine grow [p, d] hkk none 0 0 [] [] rfl (fun q hq => by cases hq) g1 k3 (by simp) trivial (fun w' _ => by simp [Builtin.firstCells]) (by omega) (by omega) (by simpa [fits] using g2) ?_
            simpa using h
        · have hkk : isin d [p, d] = true := by
            unfold isin; cases Nat.beq p d <;> simp [isin]
          have hzi : z1 = i.size := by rw [← hz1, hz2]
          subst hzi
          have hes : ∀ q ∈ els.take n, q.length = i.size := fun q hq => RDs.len f7 q (List.mem_of_mem_take hq)
          have htl : (els.take n).length = n := by rw [List.length_take, Nat.min_eq_left k1]
          obtain ⟨olds, o1, o2, o3⟩ := RDs.vals (ι := ι) (RDs.take n f7)
          rw [htl] at o2
          by_cases hroom : n + l.length ≤ cap
          · -- in place
            obtain ⟨news, hsrc, hnl, hnc⟩ := hl g1
            obtain ⟨_, _, hpl | ⟨b', e1, _, _, e4⟩⟩ := hr.places p _ hp
            · rw [f1] at hpl; cases hpl.1
            · rw [f1] at e1; cases e1
              obtain ⟨cur, ⟨te, hg⟩, _⟩ := e4 rfl
              have hcs : cur.size = cap * i.size := by
                simp only [World.shape?, hg, Option.some.injEq, Prod.mk.injEq] at f6
                exact f6.2
              have hfit : n * i.size + news.length ≤ cur.size := by rw [hnl, hcs, ← Nat.add_mul]; exact Nat.mul_le_mul_right _ hroom
              have hap := run_append_fits (ty := o.type) ht hu hi hsrc hg (CRs_news_ones hnc) hroom hfit
              obtain ⟨cur', hcur'⟩ : ∃ cur' : Array Value, cur' = (cur.toList.take (n * i.size) ++ news ++ cur.toList.drop (n * i.size + news.length)).toArray := ⟨_, rfl⟩
              rw [← hcur'] at hap
              rw [← f3] at hap
              have hcs' : cur'.size = cur.size := by
                rw [hcur']; simp only [List.size_toArray, List.length_append, List.length_take, List.length_drop, Array.length_toList]; omega
              have holds : olds = cur.toList.take (n * i.size) := by
                apply List.ext_getElem?
                intro j
                by_cases hj : j < olds.length
                · have h1 := o3 j olds[j] (List.getElem?_eq_getElem hj)
                  rw [Nat.zero_add, cell_of_row w b j cur te (0, 0) hg] at h1
                  rw [List.getElem?_eq_getElem hj, List.getElem?_take, if_pos (by omega), Array.getElem?_toList, h1]
                · rw [List.getElem?_eq_none (by omega), List.getElem?_eq_none (by rw [List.length_take, Array.length_toList]; omega)]
              have hwlt : b < w.heap.size := (Array.getElem?_eq_some_iff.1 hg).1
              have hι : ∀ q, isin q [p, d] = false → upd ι d ⟨some b, n + l.length⟩ q = ι q := fun q hq => upd_other ι _ (isin_two hq).2
              have hsame : ∀ c, c < w.heap.size → (∀ q y, isin q [p, d] = true → aget s.pl q = some y → y.live = true → (ι q).b ≠ some c) → (w.setRow b cur').heap[c]? = w.heap[c]? := fun c _ hc => by
                have hcb : c ≠ b := fun e => by subst e; exact hc p _ (by unfold isin; simp) hp rfl f1
                exact setRow_other w b c cur' hcb
              have hsz : w.heap.size ≤ (w.setRow b cur').heap.size := by simp
              have hfresh : ∀ q x c, aget [(d, Pl.arr i.size (els.take n ++ l) false)] q = some x → (upd ι d ⟨some b, n + l.length⟩ q).b = some c → c < (w.setRow b cur').heap.size ∧ (w.heap.size ≤ c ∨ ∃ r y, isin r [p, d] = true ∧ aget s.pl r = some y ∧ y.live = true ∧ (ι r).b = some c) := by
                intro q x c hq hc
                obtain ⟨rfl, rfl⟩ := aget_one hq
                rw [upd_same] at hc; cases hc
                exact ⟨by simpa using hwlt, .inr ⟨p, _, by unfold isin; simp, hp, rfl, f1⟩⟩
              have hkeep := redo_keeps hr [p, d] [(d, .arr i.size (els.take n ++ l) false)] (upd ι d ⟨some b, n + l.length⟩) (w.setRow b cur') hι hsame hsz hfresh
              have hsh := Shapes.setRow w b hg hcs'
              have hrel := hr.redo [p, d] [(d, .arr i.size (els.take n ++ l) false)] (upd ι d ⟨some b, n + l.length⟩) (w.setRow b cur') hι hsame hsh rfl rfl rfl hsz (by
                intro q x hq
                obtain ⟨rfl, rfl⟩ := aget_one hq
                refine ⟨hpos, by rw [upd_same]; simp [htl], .inr ⟨b, by rw [upd_same], ?_, (fun hf => by cases hf), (fun _ => ⟨cur', ⟨te, setRow_heap w b cur cur' te (0, 0) hg⟩, by
                  rw [hcs', hcs]; simp only [List.length_append, htl]; exact Nat.mul_le_mul_right _ hroom⟩)⟩⟩
                refine RDs_mk (ι := ι) (vs := olds ++ news) (fun r hr' => ?_) ?_ ?_
                · rcases List.mem_append.1 hr' with hr' | hr'
                  · exact hes r hr'
                  · exact g1 r hr'
                · simp only [List.flatten_append, List.map_append]
                  exact CRs.keep hkeep hsh _ _ (CRs.append o1 hnc)
                · intro j v hv
                  rw [Nat.zero_add, cell_setRow_same w b j cur cur' te (0, 0) hg, hcur']
                  have hj := (List.getElem?_eq_some_iff.1 hv).1
                  rw [List.getElem?_toArray, ← holds, List.getElem?_append_left hj]
                  exact hv) hfresh (by
                intro q r x y c hq hr' hqr
                obtain ⟨rfl, rfl⟩ := aget_one hq
                obtain ⟨rfl, rfl⟩ := aget_one hr'
                exact absurd rfl hqr) (fun q x hq => by obtain ⟨rfl, _⟩ := aget_one hq; exact hr.h_slot (hd _ (by assumption)))
              refine Fine.of_value (ι' := upd ι d ⟨some b, n + l.length⟩) (hrun _ _ hap) ?_ h
              rw [hdst]
              refine hrel.put (some d) (fun k hk => by cases hk; exact hd d hdst) _ _ ?_
              exact .inr ⟨b, cap, te, by rw [upd_same], by rw [upd_same]; exact Nat.le_refl _, rfl, hroom, f5, by simp only [World.shape?, setRow_heap w b cur cur' te (0, 0) hg, hcs', hcs]⟩
          · refine grow [p, d] hkk (some ⟨b, 0, none⟩) n cap olds (els.take n) htl hes g1 f3 o2 o1 (fun w' hw' => ?_) (by omega) (by omega) g2 h
            exact run_firstCells_some (P := P) w' i.size n ⟨b, 0, none⟩ n cap olds o2 (fun j v hv => by
              rw [addr_add]
              have := o3 j v hv
              simpa [World.cell?, hw'] using this)
    · exact h.elim
  · exact h.elim

theorem zeroFits_spec {e : TypeId} (h : zeroFits P e = true) : ∃ i z, P.info? e = some i ∧ i.zero = some z ∧ z.cells.size = i.size := by
  unfold zeroFits at h
  cases hi : P.info? e with
  | none => rw [hi] at h; cases h
  | some i =>
    simp only [hi] at h
    cases hz : i.zero with
    | none => simp only [hz] at h; cases h
    | some z => simp only [hz] at h; exact ⟨i, z, rfl, hz, Nat.eq_of_beq_eq_true h⟩

theorem sound_app (hr : Rel F N ι s a w) (hd : ∀ k, o.dst = some k → k < N) {args : Array Operand} {ts : Array TypeId} {x y : Operand} {t u e e' : TypeId} (ho : o.op = .call { callee := .builtin .append, args := args, argTypes := ts })
    (hargs : args.toList = [x, y]) (hts : ts.toList = [t, u]) (ht : telem P t = some e) (hu : P.underlying u = some (.slice e')) (hpos : Nat.blt 0 (tsz P e) = true) (hzero : zeroFits P e = true)
    (h : aop P o.dst (.app (tsz P e) (tbytes P e) (cO x) (cO y)) s K) : Fine P F N o a w K := by
  simp only [aop] at h
  have ha : args = #[x, y] := Array.toList_inj.1 (by simpa using hargs)
  have hta : ts = #[t, u] := Array.toList_inj.1 (by simpa using hts)
  obtain ⟨i, z, hi, hz, hzc⟩ := zeroFits_spec hzero
  have hsz : tsz P e = i.size := by simp [tsz, hi]
  have hby : tbytes P e = i.bytes := by simp [tbytes, hi]
  have hpos : 0 < i.size := by rw [← hsz]; exact Nat.le_of_ble_eq_true hpos
  split at h
  · rename_i d hdst
    cases hl : readEls s.pl (s.oc (cO y)) with
    | none => rw [hl] at h; unfold aApp at h; exact h.elim
    | some l =>
      rw [hl, hsz, hby] at h
      refine sound_app_core hr hd hdst (telem_spec ht) (.inr ⟨e', hu⟩) hi hz hzc hpos (CR_o hr x) (y := a.eval y) ?_ (fun hall => src_els hr (CR_o hr y) hl hall) h
      intro v w' hv
      simp only [execOp, ho, resolve, Sem.run_bind, Sem.run_pure, Result.andThen_ok, invoke, builtin, ha, hta]
      simp [hv]
  · exact h.elim

theorem sound_apps (hr : Rel F N ι s a w) (hd : ∀ k, o.dst = some k → k < N) {args : Array Operand} {ts : Array TypeId} {x y : Operand} {t u e : TypeId} (ho : o.op = .call { callee := .builtin .append, args := args, argTypes := ts })
    (hargs : args.toList = [x, y]) (hts : ts.toList = [t, u]) (ht : telem P t = some e) (hu : P.underlying u = some .string) (hone : (Nat.beq (tsz P e) 1 && Nat.beq (tbytes P e) 1) = true) (hzero : zeroFits P e = true)
    (h : aop P o.dst (.apps (cO x) (cO y)) s K) : Fine P F N o a w K := by
  simp only [aop] at h
  have ha : args = #[x, y] := Array.toList_inj.1 (by simpa using hargs)
  have hta : ts = #[t, u] := Array.toList_inj.1 (by simpa using hts)
  obtain ⟨i, z, hi, hz, hzc⟩ := zeroFits_spec hzero
  rw [Bool.and_eq_true] at hone
  have hsz : i.size = 1 := by rw [← Nat.eq_of_beq_eq_true hone.1]; simp [tsz, hi]
  have hby : i.bytes = 1 := by rw [← Nat.eq_of_beq_eq_true hone.2]; simp [tbytes, hi]
  split at h
  · rename_i d b hdst hy
    have hyv := CR_o hr y
    rw [hy] at hyv
    have hye := CR_lit hyv
    refine sound_app_core hr hd hdst (telem_spec ht) (.inl hu) hi hz hzc (by omega) (CR_o hr x) (y := a.eval y) ?_ (l := encBytes b) ?_ (by rw [hsz, hby]; exact h)
    · intro v w' hv
      simp only [execOp, ho, resolve, Sem.run_bind, Sem.run_pure, Result.andThen_ok, invoke, builtin, ha, hta]
      simp [hv]
    · intro _
      rw [hye, hsz]
      exact src_string w ι _ b
  · exact h.elim
end

end Go.AM
