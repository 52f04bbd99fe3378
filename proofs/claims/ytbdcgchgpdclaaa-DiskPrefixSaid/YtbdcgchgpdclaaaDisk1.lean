/- The disk: what its functions compute. -/
import Derived.Test.YtbdcgchgpdclaaaCode
namespace Go.Proofs.Ytbdcgchgpdclaaa
open Go Go.AM
attribute [local irreducible] Sat
set_option maxRecDepth 100000

def enc (b : List UInt8) : List (List D) := b.map fun x => [D.lit (.int .u8 x.toNat)]
theorem enc_length (b : List UInt8) : (enc b).length = b.length := by simp [enc]
theorem enc_one (b : List UInt8) : ∀ y ∈ enc b, y.length = 1 := by
  intro y hy
  simp only [enc, List.mem_map] at hy
  obtain ⟨x, _, rfl⟩ := hy
  rfl

def int (n : Int) : C := .d (.lit (.int .i64 n))
def bool (n : Bool) : C := .d (.lit (.bool n))

structure Dk where
  size : Int
  data : List UInt8
  dur : Int
  left : Int
  down : Bool

def Dk.c (m : Dk) (x : C) : W := .agg [int m.size, x, int m.dur, int m.left, bool m.down]
def Dk.w (m : Dk) : W := m.c (.d (.sl (enc m.data)))
def zeroDk : Dk := ⟨0, [], 0, 0, false⟩
def one (n : Int) : Res := ⟨.w (.c (int n)), []⟩

def Dk.bad (m : Dk) : Bool := m.size < 1 || m.size > 1048576 || (m.data.length : Int) > m.size || m.dur < 0 || m.dur > m.data.length || m.left < -1 || m.left > 1048576
def Dk.check (m : Dk) : Int := bif m.bad then 2 else 0

theorem sat_check (m : Dk) : Sat Try.prog 15 [m.w] (fun r => r = one m.check) := by
  refine Sat_of_awpF F15_ok (by kernel_rfl) ?_
  obtain ⟨s, b, u, l, dn⟩ := m
  simp only [Dk.w, Dk.c, Dk.check, Dk.bad]
  rw [← enc_length b]
  generalize enc b = e
  repeat' refine cond_i (fun h => ?_) (fun h => ?_)
  all_goals refine congrArg one ?_
  all_goals simp only [*, Bool.or_true, Bool.true_or, Bool.or_false, cond_true, cond_false]

/-- A copy of bytes: new memory, or nil where there is nothing. -/
theorem sat_clone (b : List UInt8) (hb : b.length ≤ 1048576) : Sat Try.prog 27 [.c (.d (.sl (enc b)))] (fun r => (b = [] ∧ r = ⟨.w (.c .nil), []⟩) ∨ r = ⟨.w (.c (.own 0 1 b.length)), [.arr 1 (enc b) false]⟩) := by
  refine Sat_of_awpF F27_ok (by kernel_rfl) ?_
  refine ⟨fun h => ?_, ?_⟩
  · refine .inl ⟨?_, rfl⟩
    cases b with
    | nil => rfl
    | cons x r => cases h
  · refine ⟨enc_one b, ?_, ?_, .inr ?_⟩
    · unfold fits; rw [enc_length]; simp; omega
    · rw [enc_length]; simp; omega
    · show (⟨.w (.c (.own 0 1 (0 + (enc b).length))), [.arr 1 ([] ++ enc b) false]⟩ : Res) = _
      rw [enc_length, Nat.zero_add, List.nil_append]

def res2 (x : Dk × Int) : Res := ⟨.tup [x.1.w, .c (int x.2)], []⟩
def res2c (m : Dk) (c : C) (e : Int) (pl : List Pl) : Res := ⟨.tup [m.c c, .c (int e)], pl⟩
def DQ (X : Res) (r : Res) : Prop := r.v.plain = true ∧ r.asData = X
theorem sat_dq {P : Program} {k : Nat} {args : List W} {X : Res} (h : Sat P k args (DQ X)) : Sat P k args (fun r => r = X) := h.data fun _ h => h

theorem bad_len {m : Dk} (h : m.bad = false) : m.data.length ≤ 1048576 ∧ 1 ≤ m.size ∧ m.size ≤ 1048576 ∧ (m.data.length : Int) ≤ m.size ∧ 0 ≤ m.dur ∧ m.dur ≤ m.data.length ∧ -1 ≤ m.left ∧ m.left ≤ 1048576 := by
  simp only [Dk.bad, Bool.or_eq_false_iff, decide_eq_false_iff_not] at h
  omega

theorem sat_up (m : Dk) : Sat Try.prog 28 [m.w] (fun r => (m.bad = true ∧ r = res2c zeroDk .nil 2 []) ∨ (m.bad = false ∧ m.down = true ∧ r = res2 (m, 19)) ∨
    (m.bad = false ∧ m.down = false ∧ ((m.data = [] ∧ r = res2c m .nil 0 []) ∨ r = res2c m (.own 0 1 m.data.length) 0 [.arr 1 (enc m.data) false]))) := by
  refine Sat_of_awpF F28_ok (by kernel_rfl) ?_
  refine Sat.mono (sat_check m) ?_
  intro r hr
  simp only [Dk.check] at hr
  cases hb : m.bad <;> rw [hb] at hr <;> simp only [cond_true, cond_false] at hr <;> subst hr
  · obtain ⟨hl, _⟩ := bad_len hb
    obtain ⟨s, b, u, l, dn⟩ := m
    cases dn
    case true => exact .inr (.inl ⟨rfl, rfl, rfl⟩)
    case false =>
      refine Sat.mono (sat_clone b hl) ?_
      rintro r (⟨hn, rfl⟩ | rfl)
      · exact .inr (.inr ⟨rfl, rfl, .inl ⟨hn, rfl⟩⟩)
      · exact .inr (.inr ⟨rfl, rfl, .inr rfl⟩)
  · exact .inl ⟨rfl, rfl⟩

theorem wrap64 {n : Int} (h1 : -9223372036854775808 ≤ n) (h2 : n < 9223372036854775808) : IntKind.i64.wrap n = n := by
  rw [IntKind.wrap_i64]; omega

theorem enc_take (b : List UInt8) (k : Nat) : (enc b).take k = enc (b.take k) := by simp [enc, List.map_take]
theorem enc_append (a b : List UInt8) : enc a ++ enc b = enc (a ++ b) := by simp [enc]
theorem enc_app (a b : List UInt8) : ((enc a).take a.length ++ enc b).take (a.length + (enc b).length) = enc (a ++ b) := by
  rw [enc_take, List.take_length, enc_append, enc_take, enc_length, ← List.length_append, List.take_length]
theorem enc_all (b : List UInt8) : (enc b).take (enc b).length = enc b := List.take_length
theorem fits_one {n : Nat} (h : n ≤ 4294967296) : fits n 1 := by unfold fits; omega

def dup (m : Dk) : Dk × Int := bif m.bad then (zeroDk, 2) else bif m.down then (m, 19) else (m, 0)
def dappend (m : Dk) (b : List UInt8) : Dk × Int :=
  bif m.bad then (zeroDk, 2) else bif m.down then (m, 19) else
  bif m.data.length + b.length > m.size then (zeroDk, 6) else
  bif m.left ≥ 0 && m.left < b.length then (⟨m.size, m.data ++ b.take m.left.toNat, m.dur, 0, true⟩, 19) else
  (⟨m.size, m.data ++ b, m.dur, bif m.left ≥ 0 then m.left - b.length else m.left, false⟩, 0)

theorem sat_append (m : Dk) (b : List UInt8) (hb : b.length ≤ 1048576) : Sat Try.prog 18 [m.w, .c (.d (.sl (enc b)))] (fun r => r = res2 (dappend m b)) := by
  refine sat_dq (Sat_of_awpF F18_ok (by kernel_rfl) ?_)
  obtain ⟨s, d, u, l, dn⟩ := m
  refine Sat.mono (sat_up _) ?_
  rintro r (⟨h1, rfl⟩ | ⟨h1, h2, rfl⟩ | ⟨h1, h2, h3⟩)
  · refine ⟨rfl, ?_⟩
    simp only [dappend, h1, cond_true]
    rfl
  · cases h2
    refine ⟨rfl, ?_⟩
    simp only [dappend, h1, cond_true, cond_false]
    rfl
  · cases h2
    simp only [dappend, h1, cond_false]
    have hl := (bad_len h1).1
    simp only at hl
    have hw : IntKind.i64.wrap (d.length + b.length) = d.length + b.length := wrap64 (by omega) (by omega)
    have hll : l ≤ 1048576 := (bad_len h1).2.2.2.2.2.2.2
    rcases h3 with ⟨h3, rfl⟩ | rfl
    · have h3 : d = [] := h3
      subst h3
      conv => whnf
      refine cond_i (fun h => ?_) (fun h => ?_)
      · have h : decide ((([] : List UInt8).length : Int) + b.length > s) = true := by rw [enc_length] at h; rw [← hw]; exact h
        simp only [h, cond_true]
        exact ⟨rfl, rfl⟩
      · have h : decide ((([] : List UInt8).length : Int) + b.length > s) = false := by rw [enc_length] at h; rw [← hw]; exact h
        simp only [h, cond_false]
        conv => whnf
        refine cond_i (fun h2 => ?_) (fun h2 => ?_)
        · conv => whnf
          refine cond_i (fun h3 => ?_) (fun h3 => ?_)
          · rw [enc_length] at h3
            simp only [h2, h3, Bool.and_true, cond_true]
            have g2 := of_decide_eq_true h2
            have g3 := of_decide_eq_true h3
            refine ⟨g2, by rw [enc_length]; exact Int.le_of_lt g3, ?_⟩
            have ht : (enc b).take (orI (some l) ↑(enc b).length).toNat = enc (b.take l.toNat) := enc_take b l.toNat
            have hlt : (b.take l.toNat).length ≤ 1048576 := Nat.le_trans (List.length_take_le' _ _) hb
            rw [ht]
            refine ⟨enc_one _, fits_one ?_, ?_, rfl, ?_⟩
            · rw [enc_length]; omega
            · rw [enc_length]; omega
            · refine Eq.trans (b := res2c ⟨s, [], u, 0, true⟩ (.d (.sl ((enc (b.take l.toNat)).take (enc (b.take l.toNat)).length))) 19 []) rfl ?_
              rw [enc_all]; rfl
          · rw [enc_length] at h3
            simp only [h2, h3, Bool.and_false, cond_false, cond_true]
            refine ⟨enc_one _, fits_one ?_, ?_, ?_⟩
            · rw [enc_length]; omega
            · rw [enc_length]; omega
            · conv => whnf
              refine cond_i (fun _ => ?_) (fun h4 => by rw [h2] at h4; cases h4)
              refine ⟨rfl, ?_⟩
              have hw2 : IntKind.i64.wrap (l - ↑(enc b).length) = l - b.length := by rw [enc_length]; exact wrap64 (by have := of_decide_eq_true h2; omega) (by omega)
              refine Eq.trans (b := res2c ⟨s, [], u, IntKind.i64.wrap (l - ↑(enc b).length), false⟩ (.d (.sl ((enc b).take (enc b).length))) 0 []) rfl ?_
              rw [enc_all, hw2]; rfl
        · simp only [h2, Bool.false_and, cond_false]
          refine ⟨enc_one _, fits_one ?_, ?_, ?_⟩
          · rw [enc_length]; omega
          · rw [enc_length]; omega
          · conv => whnf
            refine cond_i (fun h4 => by rw [h2] at h4; cases h4) (fun _ => ?_)
            refine ⟨rfl, ?_⟩
            refine Eq.trans (b := res2c ⟨s, [], u, l, false⟩ (.d (.sl ((enc b).take (enc b).length))) 0 []) rfl ?_
            rw [enc_all]; rfl
    · conv => whnf
      refine cond_i (fun h => ?_) (fun h => ?_)
      · have h : decide (((d : List UInt8).length : Int) + b.length > s) = true := by rw [enc_length] at h; rw [← hw]; exact h
        simp only [h, cond_true]
        exact ⟨rfl, rfl⟩
      · have h : decide (((d : List UInt8).length : Int) + b.length > s) = false := by rw [enc_length] at h; rw [← hw]; exact h
        simp only [h, cond_false]
        conv => whnf
        refine cond_i (fun h2 => ?_) (fun h2 => ?_)
        · conv => whnf
          refine cond_i (fun h3 => ?_) (fun h3 => ?_)
          · rw [enc_length] at h3
            simp only [h2, h3, Bool.and_true, cond_true]
            have g2 := of_decide_eq_true h2
            have g3 := of_decide_eq_true h3
            refine ⟨g2, by rw [enc_length]; exact Int.le_of_lt g3, ?_⟩
            have ht : (enc b).take (orI (some l) ↑(enc b).length).toNat = enc (b.take l.toNat) := enc_take b l.toNat
            have hlt : (b.take l.toNat).length ≤ 1048576 := Nat.le_trans (List.length_take_le' _ _) hb
            rw [ht]
            refine ⟨enc_one _, fits_one ?_, ?_, rfl, ?_⟩
            · rw [enc_length]; omega
            · rw [enc_length]; omega
            · refine Eq.trans (b := res2c ⟨s, [], u, 0, true⟩ (.d (.sl (((enc d).take d.length ++ enc (b.take l.toNat)).take (d.length + (enc (b.take l.toNat)).length)))) 19 []) rfl ?_
              rw [enc_app]; rfl
          · rw [enc_length] at h3
            simp only [h2, h3, Bool.and_false, cond_false, cond_true]
            refine ⟨enc_one _, fits_one ?_, ?_, ?_⟩
            · rw [enc_length]; omega
            · rw [enc_length]; omega
            · conv => whnf
              refine cond_i (fun _ => ?_) (fun h4 => by rw [h2] at h4; cases h4)
              refine ⟨rfl, ?_⟩
              have hw2 : IntKind.i64.wrap (l - ↑(enc b).length) = l - b.length := by rw [enc_length]; exact wrap64 (by have := of_decide_eq_true h2; omega) (by omega)
              refine Eq.trans (b := res2c ⟨s, [], u, IntKind.i64.wrap (l - ↑(enc b).length), false⟩ (.d (.sl (((enc d).take d.length ++ enc b).take (d.length + (enc b).length)))) 0 []) rfl ?_
              rw [enc_app, hw2]; rfl
        · simp only [h2, Bool.false_and, cond_false]
          refine ⟨enc_one _, fits_one ?_, ?_, ?_⟩
          · rw [enc_length]; omega
          · rw [enc_length]; omega
          · conv => whnf
            refine cond_i (fun h4 => by rw [h2] at h4; cases h4) (fun _ => ?_)
            refine ⟨rfl, ?_⟩
            refine Eq.trans (b := res2c ⟨s, [], u, l, false⟩ (.d (.sl (((enc d).take d.length ++ enc b).take (d.length + (enc b).length)))) 0 []) rfl ?_
            rw [enc_app]; rfl
end Go.Proofs.Ytbdcgchgpdclaaa
