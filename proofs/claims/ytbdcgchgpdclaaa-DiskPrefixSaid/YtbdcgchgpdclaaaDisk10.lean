/- What the arguments read as. -/
import Derived.Test.YtbdcgchgpdclaaaDisk9
import Derived.Test.YtbdcgchgpdclaaaAmB5
namespace Go.Proofs.Ytbdcgchgpdclaaa
open Go Go.AM
set_option maxRecDepth 100000

theorem u3 : Try.prog.underlying 3 = some (.int .i64) := by kernel_rfl
theorem u4 : Try.prog.underlying 4 = some .bool := by kernel_rfl
theorem u5 : Try.prog.underlying 5 = some (.int .u8) := by kernel_rfl
theorem u22 : Try.prog.underlying 22 = some (.slice 34) := by kernel_rfl
theorem u25 : Try.prog.underlying 25 = some (.slice 5) := by kernel_rfl
theorem u27 : Try.prog.underlying 27 = some (.struct #[{ name := "Size", type := 3, offset := 0, embedded := false, tag := "", pkgPath := "", byteOffset := 0 }, { name := "Data", type := 25, offset := 1, embedded := false, tag := "", pkgPath := "", byteOffset := 8 }, { name := "Durable", type := 3, offset := 2, embedded := false, tag := "", pkgPath := "", byteOffset := 32 }, { name := "Left", type := 3, offset := 3, embedded := false, tag := "", pkgPath := "", byteOffset := 40 }, { name := "Down", type := 4, offset := 4, embedded := false, tag := "", pkgPath := "", byteOffset := 48 }]) := by kernel_rfl
theorem u34 : Try.prog.underlying 34 = some (.struct #[{ name := "Kind", type := 3, offset := 0, embedded := false, tag := "", pkgPath := "", byteOffset := 0 }, { name := "N", type := 3, offset := 1, embedded := false, tag := "", pkgPath := "", byteOffset := 8 }, { name := "Data", type := 25, offset := 2, embedded := false, tag := "", pkgPath := "", byteOffset := 16 }]) := by kernel_rfl

theorem ty_int {y : List D} {n : Nat} (h : Ty Try.prog (n + 1) 3 y) : ∃ x : Int, y = [.lit (.int .i64 x)] := by
  simp only [Ty, u3] at h
  obtain ⟨m, h, _⟩ := h
  exact ⟨m, h⟩
theorem ty_bool {y : List D} {n : Nat} (h : Ty Try.prog (n + 1) 4 y) : ∃ x : Bool, y = [.lit (.bool x)] := by
  simp only [Ty, u4] at h
  exact h
theorem ty_byte {y : List D} {n : Nat} (h : Ty Try.prog (n + 1) 5 y) : ∃ x : UInt8, y = [D.lit (.int .u8 x.toNat)] := by
  simp only [Ty, u5] at h
  obtain ⟨m, rfl, hw⟩ := h
  have h2 : 0 ≤ m ∧ m ≤ 255 := by
    simp only [Lit.wf, Bool.and_eq_true, decide_eq_true_eq] at hw
    exact ⟨hw.1, hw.2⟩
  refine ⟨UInt8.ofNat m.toNat, ?_⟩
  have : ((UInt8.ofNat m.toNat).toNat : Int) = m := by
    rw [UInt8.toNat_ofNat_of_lt' (by show m.toNat < 256; omega)]; omega
  rw [this]
theorem ty_bytes {y : List D} {n : Nat} (h : Ty Try.prog (n + 2) 25 y) : ∃ b : List UInt8, y = [.sl (enc b)] := by
  rw [Ty] at h
  simp only [u25] at h
  obtain ⟨els, rfl, hle, h⟩ := h
  clear hle
  have : ∃ b : List UInt8, els = enc b := by
    induction els with
    | nil => exact ⟨[], rfl⟩
    | cons e r ih =>
      obtain ⟨b, hb⟩ := ih fun y hy => h y (List.mem_cons_of_mem _ hy)
      obtain ⟨x, hx⟩ := ty_byte (h e List.mem_cons_self)
      exact ⟨x :: b, by rw [hx, hb]; rfl⟩
  obtain ⟨b, rfl⟩ := this
  exact ⟨b, rfl⟩
theorem all2_nil {α β : Type} {R : α → β → Prop} {xs : List β} (h : All2 R [] xs) : xs = [] := by cases xs with | nil => rfl | cons _ _ => exact h.elim
theorem all2_cons {α β : Type} {R : α → β → Prop} {a : α} {l : List α} {xs : List β} (h : All2 R (a :: l) xs) : ∃ x r, xs = x :: r ∧ R a x ∧ All2 R l r := by
  cases xs with | nil => exact h.elim | cons x r => exact ⟨x, r, rfl, h.1, h.2⟩
theorem ty_dk {n : Nat} {ds : List D} (h : Ty Try.prog (n + 3) 27 ds) : ∃ m : Dk, W.agg (ds.map .d) = m.w := by
  rw [Ty] at h
  simp only [u27] at h
  obtain ⟨dss, rfl, h⟩ := h
  obtain ⟨d0, _, rfl, h0, h⟩ := all2_cons h
  obtain ⟨d1, _, rfl, h1, h⟩ := all2_cons h
  obtain ⟨d2, _, rfl, h2, h⟩ := all2_cons h
  obtain ⟨d3, _, rfl, h3, h⟩ := all2_cons h
  obtain ⟨d4, _, rfl, h4, h⟩ := all2_cons h
  cases all2_nil h
  · obtain ⟨s, rfl⟩ := ty_int h0
    obtain ⟨b, rfl⟩ := ty_bytes h1
    obtain ⟨u, rfl⟩ := ty_int h2
    obtain ⟨l, rfl⟩ := ty_int h3
    obtain ⟨dn, rfl⟩ := ty_bool h4
    exact ⟨⟨s, b, u, l, dn⟩, rfl⟩

theorem ty_op {n : Nat} {ds : List D} (h : Ty Try.prog (n + 3) 34 ds) : ∃ o : Opn, ds = o.d := by
  rw [Ty] at h
  simp only [u34] at h
  obtain ⟨dss, rfl, h⟩ := h
  obtain ⟨d0, _, rfl, h0, h⟩ := all2_cons h
  obtain ⟨d1, _, rfl, h1, h⟩ := all2_cons h
  obtain ⟨d2, _, rfl, h2, h⟩ := all2_cons h
  cases all2_nil h
  · obtain ⟨s, rfl⟩ := ty_int h0
    obtain ⟨u, rfl⟩ := ty_int h1
    obtain ⟨b, rfl⟩ := ty_bytes h2
    exact ⟨⟨s, u, b⟩, rfl⟩

theorem ty_ops {n : Nat} {ds : List D} (h : Ty Try.prog (n + 4) 22 ds) : ∃ os : List Opn, ds = [.sl (os.map Opn.d)] ∧ os.length ≤ maxLen := by
  rw [Ty] at h
  simp only [u22] at h
  obtain ⟨els, rfl, hle, h⟩ := h
  have : ∃ os : List Opn, els = os.map Opn.d := by
    clear hle
    induction els with
    | nil => exact ⟨[], rfl⟩
    | cons e r ih =>
      obtain ⟨os, hos⟩ := ih fun y hy => h y (List.mem_cons_of_mem _ hy)
      obtain ⟨o, ho⟩ := ty_op (h e List.mem_cons_self)
      exact ⟨o :: os, by rw [hos, ho]; rfl⟩
  obtain ⟨os, rfl⟩ := this
  exact ⟨os, rfl, by simpa using hle⟩

theorem arg_int {n : Nat} {x : W} (h : Arg Try.prog (n + 1) 3 x) : ∃ k : Int, x = .c (int k) := by
  obtain ⟨ds, h1, _, h3⟩ := h
  obtain ⟨k, rfl⟩ := ty_int h1
  obtain ⟨d, hd, rfl⟩ := h3 (by unfold isAggTy; rw [u3])
  cases hd
  exact ⟨k, rfl⟩
theorem arg_bytes {n : Nat} {x : W} (h : Arg Try.prog (n + 2) 25 x) : ∃ b : List UInt8, x = .c (.d (.sl (enc b))) := by
  obtain ⟨ds, h1, _, h3⟩ := h
  obtain ⟨k, rfl⟩ := ty_bytes h1
  obtain ⟨d, hd, rfl⟩ := h3 (by unfold isAggTy; rw [u25])
  cases hd
  exact ⟨k, rfl⟩
theorem arg_ops {n : Nat} {x : W} (h : Arg Try.prog (n + 4) 22 x) : ∃ os : List Opn, x = .c (opsC os) ∧ os.length ≤ maxLen := by
  obtain ⟨ds, h1, _, h3⟩ := h
  obtain ⟨os, rfl, hl⟩ := ty_ops h1
  obtain ⟨d, hd, rfl⟩ := h3 (by unfold isAggTy; rw [u22])
  cases hd
  exact ⟨os, rfl, hl⟩
theorem arg_dk {n : Nat} {x : W} (h : Arg Try.prog (n + 3) 27 x) : ∃ m : Dk, x = m.w := by
  obtain ⟨ds, h1, h2, _⟩ := h
  obtain ⟨m, hm⟩ := ty_dk h1
  exact ⟨m, (h2 (by unfold isAggTy; rw [u27])).trans hm⟩
theorem arg_op {n : Nat} {x : W} (h : Arg Try.prog (n + 3) 34 x) : ∃ o : Opn, x = o.w := by
  obtain ⟨ds, h1, h2, _⟩ := h
  obtain ⟨o, rfl⟩ := ty_op h1
  exact ⟨o, h2 (by unfold isAggTy; rw [u34])⟩

theorem own : ownKnob Try.prog.godebug = none := by kernel_rfl
theorem laidOut : laidOutB Try.prog = true := by kernel_rfl
end Go.Proofs.Ytbdcgchgpdclaaa
