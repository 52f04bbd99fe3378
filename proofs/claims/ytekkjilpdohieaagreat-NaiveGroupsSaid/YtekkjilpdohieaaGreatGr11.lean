/- Merged from the texts: Ng4 Ng2 -/
import Derived.Shelf.RegionOpenPlain
import Derived.Lib.JoinLaws
import Derived.Lib.AppendZerosOnto
import Derived.Lib.Overlaps
import Derived.Laws.Externs
import Derived.Laws.IdiomCopy
import Derived.Laws.NewBlocks
import Derived.Test.YtekkjilpdohieaaGreatGr10
set_option linter.unusedSimpArgs false
set_option linter.unusedVariables false
namespace Go.Proofs.YtekkjilpdohieaaGreat
open Go Go.AM
attribute [local irreducible] Sat SatH LoopP beqS
set_option maxRecDepth 100000
set_option maxHeartbeats 2000000

theorem fewTbl_rows {t : Tbl} (h : fewTbl t = true) : t.rows.length ≤ 40 := by
  unfold fewTbl at h
  cases h1 : (!fewCols t.cols || decide ((t.rows.length : Int) > 40))
  · simp only [Bool.or_eq_false_iff, decide_eq_false_iff_not] at h1
    omega
  · rw [h1] at h; cases h
def cntRow (g : Gr) : List Val := g.key ++ [xn g.rows.length]
theorem cntRow_take {g : Gr} {n : Nat} (h : g.key.length = n) : (rowD (cntRow g)).take n = rowD g.key := by
  have e : rowD (cntRow g) = rowD g.key ++ rowD [xn g.rows.length] := by simp [rowD, cntRow]
  have hl : (rowD g.key).length = n := by rw [rowD_len, h]
  rw [e, ← hl, List.take_left]
theorem cntRow_get {g : Gr} {n : Nat} (h : g.key.length = n) : (rowD (cntRow g))[((n : Int)).toNat]? = some (xn g.rows.length).ds := by
  have e : rowD (cntRow g) = rowD g.key ++ rowD [xn g.rows.length] := by simp [rowD, cntRow]
  have hl : (rowD g.key).length = n := by rw [rowD_len, h]
  rw [e, Int.toNat_natCast, List.getElem?_append_right (by omega), hl, Nat.sub_self]
  rfl
theorem sumG_snoc {G : List Gr} {i : Nat} (h : i < G.length) : sumG (G.take (i + 1)) = sumG (G.take i) + G[i].rows.length := by
  rw [take_snoc h, sum_app]
  simp [sumG]
theorem sumG_le (G : List Gr) (i : Nat) : sumG (G.take i) ≤ sumG G := by
  have e := sum_app (G.take i) (G.drop i)
  rw [List.take_append_drop] at e
  omega
def ngS (t : Tbl) (cols : List ByteArray) (n : Int) (c2 : List Col) (G : List Gr) (i : Nat) (s : Nat) : S :=
  ⟨[(2, intV n), (3, cV (.ptr 3 0)), (7, cV (.ptr 7 0)), (9, intV s), (10, intV cols.length), (11, intV i)], [(3, .box [.d (.sl (colD t.cols)), .d (.sl (rowsD t.rows))]), (7, .box [.d (.sl (colD c2)), .d (.sl (rowsD (G.map cntRow)))])]⟩
theorem sat_ngroups (hI : ∀ n p, p ≤ n → n ≤ 1000 → InsOK n p) (t : Tbl) (cols : List ByteArray) (n : Int) : Sat Pg k_law42_NaiveGroups [t.w, .c (.d (.sl (strsD cols))), .c (int n)] (fun r => r = rB true) := by
  have haw := sat_awake
  have hft := sat_FewTable t
  have hfl := @fewTbl_rows t
  have hstep := gc_step t cols
  have hlim := fun h => lim_step t (mmI true 0 (mmI false n 50)) h
  have hm1 := mmI_f n 50
  have hm2 := mmI_t 0 (mmI false n 50)
  generalize hmm : mmI true 0 (mmI false n 50) = m at *
  have hm0 : 0 ≤ m ∧ m ≤ 50 := by omega
  have hlim := fun h => hlim h hm0.1 hm0.2
  have hmin := mmI_f m t.rows.length
  have hSame := sat_ref34_Same ⟨t.cols, t.rows.take (mmI false m t.rows.length).toNat⟩ ⟨t.cols, t.rows.take (mmI false m t.rows.length).toNat⟩
  rw [sameT_refl] at hSame
  generalize fewTbl t = f at *
  cases f with
  | false =>
    obtain ⟨tc, tr⟩ := t
    refine Sat_of T8 c_law42_NaiveGroups_ok (by kernel_rfl) ?_
    conv => whnf
    refine Sat.mono (haw) ?_
    rintro _ rfl
    conv => whnf
    refine Sat.mono (hft) ?_
    rintro _ rfl
    conv => whnf
    refine Sat.mono (haw) ?_
    rintro _ rfl
    conv => whnf
    rfl
  | true =>
    have hfl := hfl rfl
    cases hc : decide ((cols.length : Int) > 10) with
    | true =>
      obtain ⟨tc, tr⟩ := t
      refine Sat_of T8 c_law42_NaiveGroups_ok (by kernel_rfl) ?_
      conv => whnf
      refine Sat.mono (haw) ?_
      rintro _ rfl
      conv => whnf
      refine Sat.mono (hft) ?_
      rintro _ rfl
      conv => whnf
      rw [strsD_len, hc]
      conv => whnf
      refine Sat.mono (haw) ?_
      rintro _ rfl
      conv => whnf
      rfl
    | false =>
      have hcl : cols.length ≤ 10 := by have := of_decide_eq_false hc; omega
      rcases hstep hfl hcl hI with ⟨k, hk, hst⟩ | ⟨ht, G, hG, hst⟩
      · have ek : (k != 0) = true := by simpa using hk
        obtain ⟨tc, tr⟩ := t
        refine Sat_of T8 c_law42_NaiveGroups_ok (by kernel_rfl) ?_
        conv => whnf
        refine Sat.mono (haw) ?_
        rintro _ rfl
        conv => whnf
        refine Sat.mono (hft) ?_
        rintro _ rfl
        conv => whnf
        rw [strsD_len, hc]
        conv => whnf
        refine Sat.mono (hst) ?_
        rintro _ rfl
        conv => whnf
        rw [ek]
        conv => whnf
        rfl
      · have hlim := hlim ht
        have hst : Sat Pg k_naive_Step [.c (.d (.sl (nmdD []))), t.w, (gcS cols).w] (fun r => r = rTE ⟨takeC t.cols cols ++ [⟨sCR, 2⟩], G.map cntRow⟩ 0) := hst
        generalize takeC t.cols cols ++ [⟨sCR, 2⟩] = c2 at *
        have hGl : G.length ≤ 41 := by have := hG.few; omega
        obtain ⟨tc, tr⟩ := t
        refine Sat_of T8 c_law42_NaiveGroups_ok (by kernel_rfl) ?_
        conv => whnf
        refine Sat.mono (haw) ?_
        rintro _ rfl
        conv => whnf
        refine Sat.mono (hft) ?_
        rintro _ rfl
        conv => whnf
        rw [strsD_len, hc]
        conv => whnf
        refine Sat.mono (hst) ?_
        rintro _ rfl
        conv => whnf
        rw [strsD_len]
        refine loopI (P := Pg) (f := T8.f) (body := c_law42_NaiveGroups_L0) G.length (fun i => ngS ⟨tc, tr⟩ cols n c2 G i (sumG (G.take i))) (fun _ => True) ⟨trivial, normW_of ?_⟩ ?_
        · conv => whnf
          rfl
        · intro i hi _
          have hsn := fun h : i < G.length => sumG_snoc h
          have hsl := sumG_le G i
          have hsl1 := sumG_le G (i + 1)
          have hsum := hG.sum
          have hend : i = G.length → sumG (G.take i) = tr.length := fun h => by rw [h, List.take_length, hsum]
          show mwpR Pg T8.f c_law42_NaiveGroups_L0 _ (ngS ⟨tc, tr⟩ cols n c2 G i (sumG (G.take i)))
          generalize sumG (G.take i) = s at *
          simp only at hsum hfl
          have hRl : (rowsD (G.map cntRow)).length = G.length := by rw [rowsD_len, List.length_map]
          unfold ngS
          conv => whnf
          rw [hRl]
          refine cond_i (fun h1 => ?_) (fun h1 => ?_)
          · have hlt : i < G.length := by have := of_decide_eq_true h1; omega
            have hsn := hsn hlt
            have hkey := hG.key _ (List.getElem_mem hlt)
            have hrow : (rowsD (G.map cntRow))[((i : Int)).toNat]? = some [D.sl (rowD (cntRow G[i]))] := by
              have := rowsD_get (r := G.map cntRow) (i := i) (by rw [List.length_map]; exact hlt)
              rw [List.getElem_map] at this
              exact this
            have hprev : ∀ h : 0 < i, (rowsD (G.map cntRow))[(((i : Int) - 1)).toNat]? = some [D.sl (rowD (cntRow (G[i - 1]'(by omega))))] := fun h => by
              have := rowsD_get (r := G.map cntRow) (i := i - 1) (by rw [List.length_map]; omega)
              rw [List.getElem_map] at this
              rw [show ((i : Int) - 1).toNat = ((i - 1 : Nat) : Int).toNat by omega]
              exact this
            have hcmp := fun h : 0 < i => sat_ref42_Compare (G[i - 1]'(by omega)).key G[i].key
            have hord := fun h : 0 < i => sort_at hG.srt (show i - 1 < i by omega) hlt
            have hpk := fun h : 0 < i => hG.key _ (List.getElem_mem (show i - 1 < G.length by omega))
            have hcell := cntRow_get hkey
            have htk := cntRow_take hkey
            have hln : ((rowD (cntRow G[i])).length : Int) = (cols.length : Int) + 1 := by
              rw [rowD_len]; unfold cntRow; rw [List.length_append, hkey]; simp
            have wi := wrapS hlt (by omega)
            have hw1 : IntKind.i64.wrap ((cols.length : Int) + 1) = (cols.length : Int) + 1 := wrapI (by omega) (by omega)
            clear hend hG hSame
            generalize hgi : G[i] = g at *
            conv => whnf
            refine ⟨by omega, _, hrow, rfl, ?_⟩
            conv => whnf
            conv => whnf
            rw [hln, hw1, bne_self_eq_false]
            conv => whnf
            refine ⟨by omega, _, hrow, rfl, ?_⟩
            conv => whnf
            conv => whnf
            refine ⟨by omega, _, hcell, rfl, ?_⟩
            conv => whnf
            refine ⟨by omega, _, hrow, rfl, ?_⟩
            conv => whnf
            conv => whnf
            refine ⟨by omega, _, hcell, rfl, ?_⟩
            conv => whnf
            have hws : IntKind.i64.wrap ((s : Int) + (xn g.rows.length).n) = ((s + g.rows.length : Nat) : Int) := by
              show IntKind.i64.wrap ((s : Int) + (g.rows.length : Int)) = _
              rw [wrapI (by omega) (by omega)]; omega
            refine cond_i (fun h2 => ?_) (fun h2 => ?_)
            · have h2 : decide ((i : Int) > 0) = true := h2
              have hi0 : 0 < i := by have := of_decide_eq_true h2; omega
              have hprev := hprev hi0
              have hcmp := hcmp hi0
              have hord := hord hi0
              have hpk := hpk hi0
              have hw2 : IntKind.i64.wrap ((i : Int) - 1) = (i : Int) - 1 := wrapI (by omega) (by omega)
              have htk2 := cntRow_take hpk
              generalize G[i - 1]'(by omega) = g0 at *
              have hln2 : ((rowD (cntRow g0)).length : Int) = (cols.length : Int) + 1 := by
                rw [rowD_len]; unfold cntRow; rw [List.length_append, hpk]; simp
              have hcmp2 : Sat Pg k_ref42_Compare [.c (.d (.sl ((rowD (cntRow g0)).take cols.length))), .c (.d (.sl ((rowD (cntRow g)).take cols.length)))] (fun r => r = rI (ordR g0.key g.key)) := by
                rw [htk2, htk]; exact hcmp
              have hge : decide (ordR g0.key g.key ≥ 0) = false := decide_eq_false (by have : ordR g0.key g.key < 0 := hord; omega)
              generalize ordR g0.key g.key = c at *
              conv => whnf
              rw [hw2]
              refine ⟨by omega, _, hprev, rfl, ?_⟩
              conv => whnf
              conv => whnf
              refine ⟨by show (0 : Int) ≤ (cols.length : Int); omega, by show (cols.length : Int) ≤ ((rowD (cntRow g0)).length : Int); omega, ?_⟩
              conv => whnf
              refine ⟨by omega, _, hrow, rfl, ?_⟩
              conv => whnf
              conv => whnf
              refine ⟨by show (0 : Int) ≤ (cols.length : Int); omega, by show (cols.length : Int) ≤ ((rowD (cntRow g)).length : Int); omega, ?_⟩
              conv => whnf
              refine Sat.mono (hcmp2) ?_
              rintro _ rfl
              conv => whnf
              rw [hge]
              conv => whnf
              refine ⟨hlt, trivial, normW_of ?_⟩
              conv => whnf
              rw [wi, hws, hsn]
              rfl
            · have h2 : decide ((i : Int) > 0) = false := h2
              conv => whnf
              refine ⟨hlt, trivial, normW_of ?_⟩
              conv => whnf
              rw [wi, hws, hsn]
              rfl
          · have hge : i = G.length := by have := of_decide_eq_false h1; omega
            have hs := hend hge
            have hlim := hlim
            rw [← hmm] at hlim
            simp only at hmin
            have hmin2 : ((tr.take (mmI false m tr.length).toNat).length : Int) = mmI false m tr.length := by rw [List.length_take]; omega
            have htk : rowsD (tr.take (mmI false m tr.length).toNat) = (rowsD tr).take (mmI false m tr.length).toNat := by simp [rowsD, List.map_take]
            subst hs
            clear hG
            conv => whnf
            refine Sat.mono (hlim) ?_
            rintro _ rfl
            conv => whnf
            rw [hmm] at hlim ⊢
            have e5 : ((0 : Int) != 0 || ((rowsD (tr.take (mmI false m tr.length).toNat)).length : Int) != mmI false m (rowsD tr).length) = false := by
              rw [rowsD_len, rowsD_len, hmin2]; simp
            refine cond_i (fun h5 => ?_) (fun h5 => ?_)
            · have h5 : ((0 : Int) != 0 || ((rowsD (tr.take (mmI false m tr.length).toNat)).length : Int) != mmI false m (rowsD tr).length) = true := h5
              rw [e5] at h5; cases h5
            · conv => whnf
              rw [rowsD_len, beq_self_eq_true]
              have hSame : Sat Pg k_ref34_Same [Tbl.w ⟨tc, tr.take (mmI false m tr.length).toNat⟩, Tbl.w ⟨tc, tr.take (mmI false m tr.length).toNat⟩] (fun r => r = rB true) := hSame
              generalize tr.take (mmI false m tr.length).toNat = L at *
              have e6 : (rowsD tr).take (((rowsD L).length : Int)).toNat = rowsD L := by
                rw [rowsD_len, hmin2]; exact htk.symm
              have hS2 : Sat Pg k_ref34_Same [Tbl.w ⟨tc, L⟩, .agg [.d (.sl (colD tc)), .d (.sl ((rowsD tr).take (((rowsD L).length : Int)).toNat))]] (fun r => r = rB true) := by rw [e6]; exact hSame
              have hle : ((rowsD L).length : Int) ≤ ((rowsD tr).length : Int) := by rw [rowsD_len, rowsD_len, hmin2]; omega
              clear e6 hSame hlim e5
              conv => whnf
              refine ⟨by show (0 : Int) ≤ ((rowsD L).length : Int); omega, hle, ?_⟩
              conv => whnf
              refine Sat.mono (hS2) ?_
              rintro _ rfl
              conv => whnf
              rfl
end Go.Proofs.YtekkjilpdohieaaGreat

set_option linter.unusedVariables false
namespace Go.Proofs.YtekkjilpdohieaaGreat
open Go Go.Proofs Go.RowKit Go.Lib

section
variable {P : Program}
/-- A copy whose run is known by an equation. -/
theorem wpList_copy_eq (w : World) {ops : Array Oper} {rest : List Oper} {o : Oper} {a : Act} {Q : Exit → Act → World → Prop} (hgd : o.guard = none) (d s : Operand) (t t' : TypeId)
    (ho : o.op = .call { callee := .builtin .copy, args := #[d, s], argTypes := #[t, t'] }) (v u : Value) (hd : a.eval d = v) (hs : a.eval s = u) {v' : Value} {w' : World}
    (hr : (Builtin.copy_ #[t, t'] o.type #[v, u]).run P w = .ok v' w') (h : wpList P ops Q rest (a.put o.dst v') w') : wpList P ops Q (o :: rest) a w :=
  wpList_plain hgd fun K hK => by
    unfold Oper.wp execOp
    simp only [ho, resolve, invoke, builtin, Sem.run_bind, Sem.run_pure, Result.andThen_ok, List.map_toArray, List.map_cons, List.map_nil, hd, hs, hr]
    exact hK _ _ h
theorem step_copy_eq {ops : Array Oper} {o : Oper} {a : Act} {w : World} {K : Act → World → Prop} {Q : Exit → Act → World → Prop} {E : Prop}
    (hg : o.guard = none) (d x : Operand) (dT sT : TypeId) (hop : o.op = Op.call { callee := Callee.builtin Builtin.copy, args := #[d, x], argTypes := #[dT, sT] })
    (v u : Value) (hd : a.eval d = v) (hx : a.eval x = u) {v' : Value} {w' : World} (hr : (Builtin.copy_ #[dT, sT] o.type #[v, u]).run P w = .ok v' w') (hK : K (a.put o.dst v') w') :
    if Region.wanted o (yielded ops a.tmps) = true then Oper.wp P o a w K Q else E := by
  have hw : Region.wanted o (yielded ops a.tmps) = true := by simp [Region.wanted, hg]
  rw [if_pos hw]
  unfold Oper.wp
  simp [execOp, hop, resolve, invoke, builtin, hd, hx, hr, Result.andThen]
  exact hK
end
/-- Cells written one after the other into a row. -/
theorem setCells_row (g : Nat) (t : TypeId) : ∀ (vs : List Value) (o : Nat) (w : World) (cur : Array Value), w.heap[g]? = some (.cells cur t (0, 0)) → o + vs.length ≤ cur.size →
    (∃ cur', (w.setCells g o vs).heap[g]? = some (.cells cur' t (0, 0)) ∧ cur'.size = cur.size ∧ cur'.toList = cur.toList.take o ++ vs ++ cur.toList.drop (o + vs.length)) ∧ w.grownBy (w.setCells g o vs) (some g) ∧ (w.setCells g o vs).drawn = w.drawn
  | [], o, w, cur, h, _ => ⟨⟨cur, h, rfl, by simp⟩, ⟨rfl, rfl, rfl, Nat.le_refl _, fun _ _ _ => rfl⟩, rfl⟩
  | v :: r, o, w, cur, h, hl => by
    simp only [List.length_cons] at hl
    have h1 := heap_setCell_same w g o cur t v h
    obtain ⟨⟨cur', h2, h3, h4⟩, h5, h6⟩ := setCells_row g t r (o + 1) (w.setCell ⟨g, o, none⟩ v) (cur.setIfInBounds o v) h1 (by simp; omega)
    refine ⟨⟨cur', h2, by rw [h3]; simp, ?_⟩, ?_, h6⟩
    · rw [h4, Array.toList_setIfInBounds]
      have hol : o < cur.toList.length := by simp; omega
      rw [List.set_eq_take_append_cons_drop, if_pos hol]
      have hlt : (cur.toList.take o).length = o := by rw [List.length_take]; omega
      rw [List.take_append, hlt, show o + 1 - o = 1 by omega, List.take_of_length_le (by omega)]
      rw [List.drop_append, hlt, List.drop_eq_nil_of_le (by omega : (cur.toList.take o).length ≤ o + 1 + r.length)]
      rw [show o + 1 + r.length - o = r.length + 1 by omega]
      simp only [List.take_succ_cons, List.take_zero, List.drop_succ_cons, List.nil_append, List.drop_drop, List.append_assoc, List.cons_append, List.length_cons]
      rw [show o + 1 + r.length = o + (r.length + 1) by omega]
    · exact ⟨h5.os, h5.tape, h5.output, Nat.le_trans (by simp) h5.size, fun k hk hne => (h5.block k (by simpa using hk) hne).trans (heap_setCell_other w ⟨g, o, none⟩ k v (fun e => hne (by rw [e])))⟩

theorem own_block {w : World} {base g n cap : Nat} {xs : List Value} (hown : w.ownsRow base tG 2 (.slice (some ⟨g, 0, none⟩) n cap) n xs) : ∃ cur, w.heap[g]? = some (.cells cur tG (0, 0)) ∧ n ≤ cap ∧ cap ≤ maxLen ∧ cur.size = cap * 2 ∧ cur.toList.take (n * 2) = xs ∧ base ≤ g := by
  rcases hown.2 with ⟨h', _⟩ | ⟨g', cap', cur, h', hb, hg, hnc, hcm, hcs, htake⟩
  · simp at h'
  · simp only [Value.slice.injEq, Option.some.injEq, Addr.mk.injEq, and_true, true_and] at h'
    obtain ⟨⟨rfl, _⟩, rfl⟩ := h'
    exact ⟨cur, hg, hnc, hcm, hcs, htake, hb⟩
/-- A copy of elements of two cells. -/
theorem run_copy_two {P : Program} (w : World) (dT sT ty elem : TypeId) (b o dLen dCap : Nat) (a : Addr) (sLen sCap : Nat) (cs : List Value)
    (hu : P.underlying dT = some (.slice elem)) (hs : (P.info? elem).map (·.size) = some 2) (hn : cs.length = Nat.min sLen dLen * 2)
    (hsrc : ∀ j v, cs[j]? = some v → w.cell? (a.add j) = some v) (hc : ∀ j, j < cs.length → (w.cell? ⟨b, o + j, none⟩).isSome = true) (hf : ∀ j, j < cs.length → w.frozen? ⟨b, o + j, none⟩ = false) (h1 : ∀ v ∈ cs, v.oneCell' = true) :
    (Builtin.copy_ #[dT, sT] ty #[.slice (some ⟨b, o, none⟩) dLen dCap, .slice (some a) sLen sCap]).run P w = .ok (goInt (Nat.min sLen dLen)) (w.setCells b o cs) := by
  have hl := run_loadCells_list (P := P) w a cs hsrc
  have hst := run_storeCells_cells (P := P) b o cs 0 w (by simpa using hc) (by simpa using hf) h1
  cases hq : P.info? elem with
  | none => simp [hq] at hs
  | some i =>
    have hi : i.size = 2 := by simpa [hq] using hs
    simp [Builtin.copy_, run_underlying hu, Builtin.lenOf, Builtin.firstCells, sizeOf, typeInfo, hq, hi, ← hn, hl, hst]
theorem isSome_setCells2 (b : Nat) (vs : List Value) (o : Nat) (w : World) (h : ∀ j, j < vs.length → (w.cell? ⟨b, o + j, none⟩).isSome = true) (k : Nat) (hk : (w.cell? ⟨b, k, none⟩).isSome = true) : ((w.setCells b o vs).cell? ⟨b, k, none⟩).isSome = true := by
  by_cases hin : o ≤ k ∧ k < o + vs.length
  · have := World.cell?_setCells_in b vs o w h (k - o) (by omega)
    rw [show o + (k - o) = k by omega] at this
    rw [this]; rfl
  · rw [World.cell?_setCells_out b vs o w ⟨b, k, none⟩ (fun _ _ => by show k < o ∨ o + vs.length ≤ k; omega)]
    exact hk
/-- What the two writes of an insertion leave. -/
theorem ins_list (L : List Value) (xs : List Value) (n i : Nat) (k r : Value) (hx : L.take (n * 2) = xs) (hl : (n + 1) * 2 ≤ L.length) (hi : i < n) :
    let L1 := L.take ((i + 1) * 2) ++ xs.drop (i * 2) ++ L.drop ((i + 1) * 2 + (xs.drop (i * 2)).length)
    (L1.take (i * 2) ++ [k, r] ++ L1.drop (i * 2 + 2)).take ((n + 1) * 2) = xs.take (2 * i) ++ [k, r] ++ xs.drop (2 * i) := by
  intro L1
  have hxl : xs.length = n * 2 := by rw [← hx, List.length_take]; omega
  have hd : (xs.drop (i * 2)).length = n * 2 - i * 2 := by rw [List.length_drop, hxl]
  have h1 : L1.take (i * 2) = xs.take (i * 2) := by
    show (L.take ((i + 1) * 2) ++ xs.drop (i * 2) ++ L.drop ((i + 1) * 2 + (xs.drop (i * 2)).length)).take (i * 2) = _
    rw [List.append_assoc, List.take_append_of_le_length (by rw [List.length_take]; omega), List.take_take, ← hx, List.take_take]
    congr 1; omega
  have h2 : L1.drop (i * 2 + 2) = xs.drop (i * 2) ++ L.drop ((i + 1) * 2 + (xs.drop (i * 2)).length) := by
    show (L.take ((i + 1) * 2) ++ xs.drop (i * 2) ++ L.drop ((i + 1) * 2 + (xs.drop (i * 2)).length)).drop (i * 2 + 2) = _
    have hlt : (L.take ((i + 1) * 2)).length = i * 2 + 2 := by rw [List.length_take]; omega
    rw [List.append_assoc, ← hlt, List.drop_left]
  rw [h1, h2, show 2 * i = i * 2 by omega]
  have hlen : (xs.take (i * 2) ++ [k, r] ++ xs.drop (i * 2)).length = (n + 1) * 2 := by
    simp only [List.length_append, List.length_cons, List.length_nil, hd, List.length_take, hxl]; omega
  rw [← List.append_assoc, ← hlen, List.take_left]

set_option maxRecDepth 100000 in
set_option maxHeartbeats 4000000 in
theorem insert_shift (w : World) (base g n cap i : Nat) (xs : List Value) (hown : w.ownsRow base tG 2 (.slice (some ⟨g, 0, none⟩) n cap) n xs) (hn : n ≤ 1000000) (hi : i < n) (hroom : n + 1 ≤ cap)
    (vb : Nat) (k r : Value) (hv : w.heap[vb]? = some (.cells #[k, r] tG (0, 0))) (hvb : vb ≠ g) (h2 : k.oneCell' = true) (h3 : r.oneCell' = true) (hxs1 : ∀ v ∈ xs, v.oneCell' = true) :
    Calls Tryz.prog 133 #[.slice (some ⟨g, 0, none⟩) n cap, .int .i64 i, .slice (some ⟨vb, 0, none⟩) 1 1] w fun e w' => e = .returned (.slice (some ⟨g, 0, none⟩) (n + 1) cap) ∧ w' = (w.drew.setCells g ((i + 1) * 2) (xs.drop (i * 2))).setCells g (i * 2) [k, r] := by
  obtain ⟨cur, hg, hnc, hcm, hcs, htake, hbg⟩ := own_block hown
  have hz2 : ¬ ((i : Int) = (n : Int)) := by omega
  have hxl : xs.length = n * 2 := hown.1
  have hsz : (Tryz.prog.info? tG).map (·.size) = some 2 := by
    obtain ⟨i0, hi0, h0, h1, h2⟩ := info_parts infoG
    rw [hi0]; simp [h1]
  have hov : (callFunc 148 #[.slice (some ⟨vb, 0, none⟩) 1 1, .slice (some ⟨g, (i + 1) * 2, none⟩) (n - i) (cap - (i + 1))]).run Tryz.prog w = .ok (.value (.bool false)) w := by
    rw [run_callFunc_extern Tryz.func148 (by kernel_rfl) (by kernel_rfl) (by kernel_rfl) (e := Extern.SlicesOverlaps.overlaps #[163, 163] #[4]) (by kernel_rfl),
      Lib.run_overlaps_apart w 163 4 tG Tryz.underlying163 2 Tryz.sizeOf167 ⟨vb, 0, none⟩ ⟨g, (i + 1) * 2, none⟩ 1 1 (n - i) (cap - (i + 1)) hvb tG tG 2 (cap * 2) (by simp [World.shape?, hv]) (by simp [World.shape?, hg, hcs]) (by omega) (by simp [World.frozen?, hv]) (by simp [World.frozen?, hv])]
    rfl
  have hsp : ∀ j, j < cap * 2 → (w.cell? ⟨g, j, none⟩).isSome = true := fun j hj => by
    simp only [World.cell?, hg]
    rw [Array.getElem?_eq_getElem (by omega)]; rfl
  have hfz : ∀ j, w.frozen? ⟨g, j, none⟩ = false := fun j => hown.frozenAt j
  have hcs0 : ∀ j v, xs[j]? = some v → w.cell? ⟨g, j, none⟩ = some v := fun j v h => by
    have hlt := (List.getElem?_eq_some_iff.1 h).1
    rw [hown.cellAt j (by omega)]; exact h
  have hdl : (xs.drop (i * 2)).length = (n - i) * 2 := by rw [List.length_drop, hxl, Nat.sub_mul]
  have hcp1 : ∀ ty dc sc, (Builtin.copy_ #[163, 163] ty #[.slice (some ⟨g, (i + 1) * 2, none⟩) (n - i) dc, .slice (some ⟨g, i * 2, none⟩) (n + 1 - i) sc]).run Tryz.prog w.drew = .ok (goInt (Nat.min (n + 1 - i) (n - i))) (w.drew.setCells g ((i + 1) * 2) (xs.drop (i * 2))) := fun ty dc sc =>
    run_copy_two w.drew _ _ ty tG g ((i + 1) * 2) (n - i) dc ⟨g, i * 2, none⟩ (n + 1 - i) sc (xs.drop (i * 2)) Tryz.underlying163 hsz (by rw [hdl]; show _ = Nat.min _ _ * 2; simp only [Nat.min_def]; split <;> omega)
      (fun j v hj => by rw [Addr.add_lit]; exact hcs0 (i * 2 + j) v (by rwa [List.getElem?_drop] at hj))
      (fun j hj => hsp _ (by rw [hdl] at hj; have : n - i + i = n := (by omega); omega)) (fun j hj => hfz _) (fun v hv => hxs1 v (List.mem_of_mem_drop hv))
  obtain ⟨W1, hW1⟩ : ∃ W1, W1 = w.drew.setCells g ((i + 1) * 2) (xs.drop (i * 2)) := ⟨_, rfl⟩
  have hsp1 : ∀ k, k < cap * 2 → (W1.cell? ⟨g, k, none⟩).isSome = true := fun k hk => by
    rw [hW1]
    exact isSome_setCells2 g _ ((i + 1) * 2) w.drew (fun j hj => hsp _ (by rw [hdl] at hj; have : n - i + i = n := (by omega); omega)) _ (hsp k hk)
  have hcp2 : ∀ (W : World), (∀ x, W.cell? x = W1.cell? x) → (∀ x, W.frozen? x = W1.frozen? x) → ∀ ty dc, (Builtin.copy_ #[163, 163] ty #[.slice (some ⟨g, i * 2, none⟩) (n + 1 - i) dc, .slice (some ⟨vb, 0, none⟩) 1 1]).run Tryz.prog W = .ok (goInt (Nat.min 1 (n + 1 - i))) (W.setCells g (i * 2) [k, r]) := fun W hWc hWf ty dc =>
    run_copy_two W _ _ ty tG g (i * 2) (n + 1 - i) dc ⟨vb, 0, none⟩ 1 1 [k, r] Tryz.underlying163 hsz (by show 2 = Nat.min _ _ * 2; simp only [Nat.min_def]; split <;> omega)
      (fun j v hj => by
        rw [Addr.add_lit, hWc, hW1, World.cell?_setCells_out g _ _ _ _ (fun h _ => absurd h hvb)]
        match j, hj with
        | 0, hj => exact (congrArg some (Option.some.inj hj)) ▸ (show w.cell? ⟨vb, 0, none⟩ = some k by simp [World.cell?, hv])
        | 1, hj => exact (congrArg some (Option.some.inj hj)) ▸ (show w.cell? ⟨vb, 1, none⟩ = some r by simp [World.cell?, hv])
        | (j + 2), hj => cases hj)
      (fun j hj => by rw [hWc]; exact hsp1 _ (by have : j < 2 := hj; omega)) (fun j hj => by rw [hWf, hW1, World.frozen?_setCells]; exact hfz _) (one_two h2 h3)
  rw [← hW1] at hcp1
  have hw1 : IntKind.i64.wrap ((i : Int) + 1) = (i : Int) + 1 := by rw [IntKind.wrap_i64]; omega
  have hb1 : (0 : Int) ≤ (i : Int) + 1 := by omega
  have hin : i ≤ n := by omega
  have htn : ((i : Int) + 1).toNat = i + 1 := by omega
  have hb2 : ¬ (cap = i + 1) := by omega
  have hb3 : (i : Int) ≤ (n : Int) + 1 := by omega
  have hb4 : ¬ (cap = i) := by omega
  have mixed : Tryz.prog.follows .mixedOrders = true := by kernel_rfl
  go_enter Tryz.func133, Tryz.ntmps133
  go_wp2_with (simp only [hov])
  go_region_law_o (refine step_copy_eq rfl _ _ 163 163 rfl _ _ (by simp [Act.eval, Act.put]) (by simp [Act.eval, Act.put]) (hcp1 _ _ _) ?_)
  go_wp2_with (at_builtin; refine wpList_copy_eq _ rfl _ _ 163 163 rfl _ _ rfl rfl (hcp2 _ (fun _ => rfl) (fun _ => rfl) _ _) ?_)
  go_ret
  first | exact ⟨rfl, rfl⟩ | exact ⟨rfl, by rw [hW1]⟩

def zG : Value := .agg #[.slice none 0 0, .slice none 0 0]
def rowNew (xs : List Value) (n i G : Nat) : Array Value := (xs.take (i * 2)).toArray ++ Builtin.zeroCells zG.cells (n + 1 - i) ++ Builtin.zeroCells zG.cells (G - (n + 1))
theorem zeroCells_size (k : Nat) : (Builtin.zeroCells zG.cells k).size = 2 * k := by
  simp [Builtin.zeroCells, Value.cells, zG]; omega

set_option maxRecDepth 100000 in
set_option maxHeartbeats 4000000 in
theorem insert_grow (w : World) (base g n cap i : Nat) (xs : List Value) (hown : w.ownsRow base tG 2 (.slice (some ⟨g, 0, none⟩) n cap) n xs) (hn : n ≤ 1000000) (hi : i < n) (hroom : cap < n + 1)
    (vb : Nat) (k r : Value) (hv : w.heap[vb]? = some (.cells #[k, r] tG (0, 0))) (h2 : k.oneCell' = true) (h3 : r.oneCell' = true) (hxs1 : ∀ v ∈ xs, v.oneCell' = true) :
    Calls Tryz.prog 133 #[.slice (some ⟨g, 0, none⟩) n cap, .int .i64 i, .slice (some ⟨vb, 0, none⟩) 1 1] w fun e w' => e = .returned (.slice (some ⟨w.heap.size, 0, none⟩) (n + 1) (grownCap w (n + 1) cap tG)) ∧
      w' = (((w.alloc (.cells (rowNew xs n i (grownCap w (n + 1) cap tG)) tG)).drew.setCells w.heap.size (i * 2) [k, r]).drew).setCells w.heap.size ((i + 1) * 2) (xs.drop (i * 2)) := by
  obtain ⟨cur, hg, hnc, hcm, hcs, htake, hbg⟩ := own_block hown
  obtain ⟨i0, hi0, hz0, hzs, hzb⟩ := info_parts infoG
  have hz2 : ¬ ((i : Int) = (n : Int)) := by omega
  have hz3 : (cap : Int) < (n : Int) + 1 := by omega
  have hxl : xs.length = n * 2 := hown.1
  have hsz : (Tryz.prog.info? tG).map (·.size) = some 2 := by rw [hi0]; simp [hzs]
  have hbw : g < w.heap.size := (Array.getElem?_eq_some_iff.1 hg).1
  have hvw : vb < w.heap.size := (Array.getElem?_eq_some_iff.1 hv).1
  have hkk : (n : Int) + 1 - (i : Int) = ((n + 1 - i : Nat) : Int) := by omega
  have hik : i + (n + 1 - i) = n + 1 := by omega
  have hcs0 : ∀ j v, xs[j]? = some v → w.cell? ⟨g, j, none⟩ = some v := fun j v h => by
    have hlt := (List.getElem?_eq_some_iff.1 h).1
    rw [hown.cellAt j (by omega)]; exact h
  have hold : (Builtin.firstCells i0.size i (.slice (some ⟨g, 0, none⟩) i cap)).run Tryz.prog w.drew = .ok (xs.take (i * 2)).toArray w.drew := by
    rw [hzs]
    exact run_firstCells_some w.drew 2 i ⟨g, 0, none⟩ i cap (xs.take (i * 2)) (by rw [List.length_take]; omega) (fun j v hj => by
      rw [Addr.add_lit, Nat.zero_add]
      rw [List.getElem?_take] at hj
      split at hj
      · exact hcs0 j v hj
      · cases hj)
  have hrz : ∀ ty, (Builtin.append_ #[163, 3] ty #[.slice (some ⟨g, 0, none⟩) i cap, .int .i64 ((n : Int) + 1 - (i : Int))]).run Tryz.prog w =
      .ok (.slice (some ⟨w.heap.size, 0, none⟩) (n + 1) (grownCap w (n + 1) cap tG)) (w.drew.alloc (.cells (rowNew xs n i (grownCap w (n + 1) cap tG)) tG)) := fun ty => by
    have h := Lib.run_append_grow_zeros w 163 3 ty tG i0 _ .i64 .i64 Tryz.underlying163 Tryz.underlying3 hi0 hz0 (some ⟨g, 0, none⟩) i cap (xs.take (i * 2)) hold (n + 1 - i) (by omega) (by omega) (by omega) (by omega) (by rw [hzb]; omega) (by rw [hzb, hik]; exact growslice_fits hroom (by omega))
    rw [hik] at h
    rw [hkk]
    exact h
  obtain ⟨G, hG⟩ : ∃ G, G = grownCap w (n + 1) cap tG := ⟨_, rfl⟩
  obtain ⟨ROW, hROW⟩ : ∃ ROW : Array Value, ROW = rowNew xs n i G := ⟨_, rfl⟩
  rw [← hG] at hrz ⊢
  rw [← hROW] at hrz ⊢
  have hGn : n + 1 ≤ G := by rw [hG]; exact grownCap_ge w _ _ _
  have hRl : (n + 1) * 2 ≤ ROW.size := by
    rw [hROW]
    unfold rowNew
    rw [Array.size_append, Array.size_append, zeroCells_size, zeroCells_size, List.size_toArray, List.length_take]
    omega
  obtain ⟨W1, hW1⟩ : ∃ W1, W1 = w.drew.alloc (.cells ROW tG) := ⟨_, rfl⟩
  rw [← hW1] at hrz
  have hN : ∀ j, j < (n + 1) * 2 → (W1.cell? ⟨w.heap.size, j, none⟩).isSome = true := fun j hj => by
    rw [hW1, World.cell?_alloc_at (w := w.drew) ROW _ w.heap.size j rfl, Array.getElem?_eq_getElem (by omega)]; rfl
  have hNf : ∀ j, W1.frozen? ⟨w.heap.size, j, none⟩ = false := fun j => by rw [hW1]; exact World.frozen?_alloc_at (w := w.drew) ROW _ w.heap.size j rfl
  have hOb : ∀ j v, w.cell? ⟨g, j, none⟩ = some v → W1.cell? ⟨g, j, none⟩ = some v := fun j v h => by rw [hW1, World.cell?_alloc_past (w := w.drew) _ g j hbw]; exact h
  have hOv : ∀ j v, w.cell? ⟨vb, j, none⟩ = some v → W1.cell? ⟨vb, j, none⟩ = some v := fun j v h => by rw [hW1, World.cell?_alloc_past (w := w.drew) _ vb j hvw]; exact h
  have hcpA : ∀ (W : World), (∀ x, W.cell? x = W1.cell? x) → (∀ x, W.frozen? x = W1.frozen? x) → ∀ ty dc, (Builtin.copy_ #[163, 163] ty #[.slice (some ⟨w.heap.size, i * 2, none⟩) (n + 1 - i) dc, .slice (some ⟨vb, 0, none⟩) 1 1]).run Tryz.prog W = .ok (goInt (Nat.min 1 (n + 1 - i))) (W.setCells w.heap.size (i * 2) [k, r]) := fun W hWc hWf ty dc =>
    run_copy_two W _ _ ty tG w.heap.size (i * 2) (n + 1 - i) dc ⟨vb, 0, none⟩ 1 1 [k, r] Tryz.underlying163 hsz (by show 2 = Nat.min _ _ * 2; simp only [Nat.min_def]; split <;> omega)
      (fun j v hj => by
        rw [Addr.add_lit, hWc]
        match j, hj with
        | 0, hj => exact hOv _ _ ((congrArg some (Option.some.inj hj)) ▸ (show w.cell? ⟨vb, 0, none⟩ = some k by simp [World.cell?, hv]))
        | 1, hj => exact hOv _ _ ((congrArg some (Option.some.inj hj)) ▸ (show w.cell? ⟨vb, 1, none⟩ = some r by simp [World.cell?, hv]))
        | (j + 2), hj => cases hj)
      (fun j hj => by rw [hWc]; exact hN _ (by have : j < 2 := hj; omega)) (fun j hj => by rw [hWf]; exact hNf _) (one_two h2 h3)
  have hG63 : G ≤ 9223372036854775807 := by
    have := grownCap_le_maxLen w (n + 1) cap tG (by unfold maxLen; omega)
    rw [← hG] at this
    unfold maxLen at this
    omega
  have hGi : ¬ (G = i) := by omega
  have hGim : ¬ (G = i + 1) := by omega
  have hci : ¬ (cap = i) := by omega
  have hbN : g ≠ w.heap.size := by omega
  have hdl : (xs.drop (i * 2)).length = (n - i) * 2 := by rw [List.length_drop, hxl, Nat.sub_mul]
  have hcpB : ∀ (W : World), (∀ x, W.cell? x = (W1.setCells w.heap.size (i * 2) [k, r]).cell? x) → (∀ x, W.frozen? x = (W1.setCells w.heap.size (i * 2) [k, r]).frozen? x) → ∀ ty dc sc, (Builtin.copy_ #[163, 163] ty #[.slice (some ⟨w.heap.size, (i + 1) * 2, none⟩) (n - i) dc, .slice (some ⟨g, i * 2, none⟩) (n - i) sc]).run Tryz.prog W = .ok (goInt (Nat.min (n - i) (n - i))) (W.setCells w.heap.size ((i + 1) * 2) (xs.drop (i * 2))) := fun W hWc hWf ty dc sc =>
    run_copy_two W _ _ ty tG w.heap.size ((i + 1) * 2) (n - i) dc ⟨g, i * 2, none⟩ (n - i) sc (xs.drop (i * 2)) Tryz.underlying163 hsz (by rw [hdl]; show _ = Nat.min _ _ * 2; simp only [Nat.min_def]; split <;> omega)
      (fun j v hj => by
        rw [Addr.add_lit, hWc, World.cell?_setCells_out _ _ _ _ _ (fun h _ => absurd h hbN)]
        exact hOb _ v (hcs0 (i * 2 + j) v (by rwa [List.getElem?_drop] at hj)))
      (fun j hj => by rw [hWc]; exact isSome_setCells2 _ _ _ _ (fun t ht => hN _ (by have : t < 2 := ht; omega)) _ (hN _ (by rw [hdl] at hj; have : n - i + i = n := (by omega); omega)))
      (fun j hj => by rw [hWf, World.frozen?_setCells]; exact hNf _) (fun v hv => hxs1 v (List.mem_of_mem_drop hv))
  subst hW1
  have hE1 : ∀ x, ((w.alloc (.cells ROW tG)).drew).cell? x = (w.drew.alloc (.cells ROW tG)).cell? x := fun x => rfl
  have hE2 : ∀ x, ((w.alloc (.cells ROW tG)).drew).frozen? x = (w.drew.alloc (.cells ROW tG)).frozen? x := fun x => rfl
  have hF1 : ∀ x, (((w.alloc (.cells ROW tG)).drew.setCells w.heap.size (i * 2) [k, r]).drew).cell? x = ((w.drew.alloc (.cells ROW tG)).setCells w.heap.size (i * 2) [k, r]).cell? x := fun x => rfl
  have hF2 : ∀ x, (((w.alloc (.cells ROW tG)).drew.setCells w.heap.size (i * 2) [k, r]).drew).frozen? x = ((w.drew.alloc (.cells ROW tG)).setCells w.heap.size (i * 2) [k, r]).frozen? x := fun x => rfl
  have hw1 : IntKind.i64.wrap ((i : Int) + 1) = (i : Int) + 1 := by rw [IntKind.wrap_i64]; omega
  have hb1 : (0 : Int) ≤ (i : Int) + 1 := by omega
  have hin : i ≤ n := by omega
  have htn : ((i : Int) + 1).toNat = i + 1 := by omega
  have hb3 : (i : Int) ≤ (n : Int) := by omega
  clear hkk hik hold hROW hG hRl
  have mixed : Tryz.prog.follows .mixedOrders = true := by kernel_rfl
  go_enter Tryz.func133, Tryz.ntmps133
  go_wp2_with (first
    | (at_builtin; refine Lib.wpList_append_run _ rfl _ _ _ _ rfl _ _ rfl rfl _ _ (hrz _) ?_)
    | (at_builtin; refine wpList_copy_eq _ rfl _ _ 163 163 rfl _ _ rfl rfl (hcpA _ hE1 hE2 _ _) ?_)
    | (at_builtin; refine wpList_copy_eq _ rfl _ _ 163 163 rfl _ _ rfl rfl (hcpB _ (fun _ => rfl) (fun _ => rfl) _ _ _) ?_))
  go_region_law_o (refine step_copy_eq rfl _ _ 163 163 rfl (.slice (some ⟨w.heap.size, (i + 1) * 2, none⟩) (n - i) (G - (i + 1))) (.slice (some ⟨g, i * 2, none⟩) (n - i) (cap - i)) (by simp [Act.eval, Act.put]) (by simp [Act.eval, Act.put]) (hcpB _ hF1 hF2 3 (G - (i + 1)) (cap - i)) ?_)
  go_wp2
  go_ret
  exact ⟨rfl, rfl⟩

theorem ins_list2 (L : List Value) (xs : List Value) (n i G : Nat) (k r : Value) (hL : L = (xs.take (i * 2)) ++ (Builtin.zeroCells zG.cells (n + 1 - i)).toList ++ (Builtin.zeroCells zG.cells (G - (n + 1))).toList) (hxl : xs.length = n * 2) (hi : i < n) (hG : n + 1 ≤ G) :
    let L1 := L.take (i * 2) ++ [k, r] ++ L.drop (i * 2 + 2)
    (L1.take ((i + 1) * 2) ++ xs.drop (i * 2) ++ L1.drop ((i + 1) * 2 + (xs.drop (i * 2)).length)).take ((n + 1) * 2) = xs.take (2 * i) ++ [k, r] ++ xs.drop (2 * i) := by
  intro L1
  have hd : (xs.drop (i * 2)).length = n * 2 - i * 2 := by rw [List.length_drop, hxl]
  have ht : (xs.take (i * 2)).length = i * 2 := by rw [List.length_take]; omega
  have h0 : L.take (i * 2) = xs.take (i * 2) := by
    rw [hL, List.append_assoc, List.take_append_of_le_length (by omega), List.take_of_length_le (by omega)]
  have h1 : L1.take ((i + 1) * 2) = xs.take (i * 2) ++ [k, r] := by
    show (L.take (i * 2) ++ [k, r] ++ L.drop (i * 2 + 2)).take ((i + 1) * 2) = _
    rw [h0]
    have : (xs.take (i * 2) ++ [k, r]).length = (i + 1) * 2 := by rw [List.length_append, ht]; simp; omega
    rw [← this, List.take_left]
  rw [h1, show 2 * i = i * 2 by omega]
  have : (xs.take (i * 2) ++ [k, r] ++ xs.drop (i * 2)).length = (n + 1) * 2 := by rw [List.length_append, List.length_append, ht, hd]; simp; omega
  rw [← this, List.take_left]
theorem grown_via {w w1 w2 : World} {g : Option Nat} (h1 : w.grownBy w1 g) {b : Nat} (h2 : w1.grownBy w2 (some b)) (hb : w.heap.size ≤ b ∨ some b = g) : w.grownBy w2 g :=
  ⟨h2.os.trans h1.os, h2.tape.trans h1.tape, h2.output.trans h1.output, Nat.le_trans h1.size h2.size, fun k hk hne => (h2.block k (Nat.lt_of_lt_of_le hk h1.size) (fun e => by
    rcases hb with hb | hb
    · have := Option.some.inj e; omega
    · exact hne (e.trans hb))).trans (h1.block k hk hne)⟩
theorem ins_any : ∀ n p, p ≤ n → n ≤ 1000 → InsOK n p := by
  intro n p hp hn
  by_cases hpn : p = n
  · subst hpn; exact ins_end (by omega)
  intro w base v xs hown hb h1 vb k r hv hvb hk hr
  have hi : p < n := by omega
  have hxl : xs.length = n * 2 := hown.1
  have hown0 := hown
  rcases hown.2 with ⟨_, h0⟩ | ⟨g, cap, cur, rfl, hbg, hg, hnc, hcm, hcs, htake⟩
  · omega
  have hd : (xs.drop (p * 2)).length = n * 2 - p * 2 := by rw [List.length_drop, hxl]
  have hXl : (xs.take (2 * p) ++ [k, r] ++ xs.drop (2 * p)).length = (n + 1) * 2 := by
    simp only [List.length_append, List.length_take, List.length_drop, List.length_cons, List.length_nil, hxl]; omega
  have hgb : vb ≠ g := fun e => hvb (by rw [e]; rfl)
  have hgw : g < w.heap.size := (Array.getElem?_eq_some_iff.1 hg).1
  by_cases hroom : n + 1 ≤ cap
  · refine (insert_shift w base g n cap p xs hown (by omega) hi hroom vb k r hv hgb hk hr h1).mono ?_
    rintro e w' ⟨rfl, rfl⟩
    obtain ⟨⟨c1, a1, a2, a3⟩, a4, a5⟩ := setCells_row g tG (xs.drop (p * 2)) ((p + 1) * 2) w.drew cur hg (by omega)
    obtain ⟨⟨c2, b1, b2, b3⟩, b4, b5⟩ := setCells_row g tG [k, r] (p * 2) _ c1 a1 (by simp; omega)
    have h0 : w.grownBy w.drew (some g) := ⟨rfl, rfl, rfl, Nat.le_refl _, fun _ _ _ => rfl⟩
    refine ⟨_, rfl, ⟨hXl, .inr ⟨g, cap, c2, rfl, hbg, b1, hroom, hcm, by rw [b2, a2, hcs], ?_⟩⟩, grown_via (grown_via h0 a4 (.inr rfl)) b4 (.inr rfl), ?_, fun b hb' => .inl hb'⟩
    · rw [b3, a3]
      exact ins_list cur.toList xs n p k r htake (by simp; omega) hi
    · rw [b5, a5]; exact Nat.le_succ _
  · have hroom : cap < n + 1 := by omega
    have hGn : n + 1 ≤ grownCap w (n + 1) cap tG := grownCap_ge w _ _ _
    have hGm : grownCap w (n + 1) cap tG ≤ maxLen := grownCap_le_maxLen w (n + 1) cap tG (by unfold maxLen; omega)
    refine (insert_grow w base g n cap p xs hown (by omega) hi hroom vb k r hv hk hr h1).mono ?_
    rintro e w' ⟨rfl, rfl⟩
    generalize grownCap w (n + 1) cap tG = G at *
    have hRs : (rowNew xs n p G).size = G * 2 := by
      unfold rowNew
      rw [Array.size_append, Array.size_append, zeroCells_size, zeroCells_size, List.size_toArray, List.length_take]
      omega
    have hRl : (rowNew xs n p G).toList = xs.take (p * 2) ++ (Builtin.zeroCells zG.cells (n + 1 - p)).toList ++ (Builtin.zeroCells zG.cells (G - (n + 1))).toList := by simp [rowNew]
    generalize rowNew xs n p G = R at *
    have hgR : (w.alloc (.cells R tG)).drew.heap[w.heap.size]? = some (.cells R tG (0, 0)) := heap_alloc_new w _
    obtain ⟨⟨c1, a1, a2, a3⟩, a4, a5⟩ := setCells_row w.heap.size tG [k, r] (p * 2) _ R hgR (by simp; omega)
    have a1' : ((w.alloc (.cells R tG)).drew.setCells w.heap.size (p * 2) [k, r]).drew.heap[w.heap.size]? = some (.cells c1 tG (0, 0)) := a1
    obtain ⟨⟨c2, b1, b2, b3⟩, b4, b5⟩ := setCells_row w.heap.size tG (xs.drop (p * 2)) ((p + 1) * 2) _ c1 a1' (by omega)
    have h0 : w.grownBy (w.alloc (.cells R tG)).drew (some g) := by
      have h := World.grownBy_alloc w (.cells R tG) (some g)
      exact ⟨h.os, h.tape, h.output, h.size, h.block⟩
    have h00 := grown_via h0 a4 (.inl (Nat.le_refl _))
    have h01 : w.grownBy ((w.alloc (.cells R tG)).drew.setCells w.heap.size (p * 2) [k, r]).drew (some g) := ⟨h00.os, h00.tape, h00.output, h00.size, h00.block⟩
    refine ⟨_, rfl, ⟨hXl, .inr ⟨w.heap.size, G, c2, rfl, hb, b1, hGn, hGm, by rw [b2, a2, hRs], ?_⟩⟩, grown_via h01 b4 (.inl (Nat.le_refl _)), ?_, fun b hb' => .inr ?_⟩
    · rw [b3, a3]
      exact ins_list2 R.toList xs n p G k r hRl hxl hi hGn
    · rw [b5]
      show w.drawn ≤ ((w.alloc (.cells R tG)).drew.setCells w.heap.size (p * 2) [k, r]).drawn + 1
      rw [a5]
      show w.drawn ≤ w.drawn + 1 + 1
      omega
    · cases hb'; exact Nat.le_refl _
end Go.Proofs.YtekkjilpdohieaaGreat
