/- The disk: what its functions compute, the smaller ones. -/
import Derived.Test.YtbdcgchgpdclaaaDisk1
namespace Go.Proofs.Ytbdcgchgpdclaaa
open Go Go.AM
attribute [local irreducible] Sat
set_option maxRecDepth 100000

theorem sat_rcheck (m : Dk) : Sat Try.prog 16 [m.w] (fun r => r = one m.check) := by
  refine Sat_of_awpF F16_ok (by kernel_rfl) ?_
  obtain ⟨s, b, u, l, dn⟩ := m
  simp only [Dk.w, Dk.c, Dk.check, Dk.bad]
  rw [← enc_length b]
  generalize enc b = e
  repeat' refine cond_i (fun h => ?_) (fun h => ?_)
  all_goals refine congrArg one ?_
  all_goals simp only [*, Bool.or_true, Bool.true_or, Bool.or_false, cond_true, cond_false]

def dnew (n : Int) : Dk × Int := bif n < 1 || n > 1048576 then (zeroDk, 2) else (⟨n, [], 0, -1, false⟩, 0)

theorem sat_new (n : Int) : Sat Try.prog 10 [.c (int n)] (fun r => r = res2 (dnew n)) := by
  refine sat_dq (Sat_of_awpF F10_ok (by kernel_rfl) ?_)
  unfold dnew
  conv => whnf
  refine cond_i (fun h => ?_) (fun h => ?_)
  · simp only [h, Bool.true_or, cond_true]
    exact ⟨rfl, rfl⟩
  · conv => whnf
    refine cond_i (fun h2 => ?_) (fun h2 => ?_)
    · simp only [h2, Bool.or_true, cond_true]
      exact ⟨rfl, rfl⟩
    · simp only [h, h2, Bool.or_false, cond_false]
      exact ⟨rfl, rfl⟩

theorem sat_rnew (n : Int) : Sat Try.prog 11 [.c (int n)] (fun r => r = res2 (dnew n)) := by
  refine sat_dq (Sat_of_awpF F11_ok (by kernel_rfl) ?_)
  unfold dnew
  conv => whnf
  refine cond_i (fun h => ?_) (fun h => ?_)
  · simp only [h, Bool.true_or, cond_true]
    exact ⟨rfl, rfl⟩
  · conv => whnf
    refine cond_i (fun h2 => ?_) (fun h2 => ?_)
    · simp only [h2, Bool.or_true, cond_true]
      exact ⟨rfl, rfl⟩
    · simp only [h, h2, Bool.or_false, cond_false]
      exact ⟨rfl, rfl⟩

theorem sat_ready (m : Dk) : Sat Try.prog 29 [m.w] (fun r => r = res2 (dup m)) := by
  refine sat_dq (Sat_of_awpF F29_ok (by kernel_rfl) ?_)
  refine Sat.mono (sat_rcheck m) ?_
  intro r hr
  simp only [Dk.check] at hr
  unfold dup
  cases hb : m.bad <;> rw [hb] at hr <;> simp only [cond_true, cond_false] at hr ⊢ <;> subst hr
  · obtain ⟨s, b, u, l, dn⟩ := m
    cases dn
    · exact ⟨rfl, rfl⟩
    · exact ⟨rfl, rfl⟩
  · exact ⟨rfl, rfl⟩

def dsync (m : Dk) : Dk × Int :=
  bif m.bad then (zeroDk, 2) else bif m.down then (m, 19) else
  bif m.left == 0 then (⟨m.size, m.data, m.dur, m.left, true⟩, 19) else (⟨m.size, m.data, m.data.length, m.left, false⟩, 0)
def darm (m : Dk) (n : Int) : Dk × Int :=
  bif m.bad then (zeroDk, 2) else bif m.down then (m, 19) else
  bif n < 0 || n > 1048576 then (zeroDk, 2) else (⟨m.size, m.data, m.dur, n, false⟩, 0)

theorem enc_full (d : List UInt8) : (enc d).take d.length = enc d := by rw [enc_take, List.take_length]

theorem sat_sync (m : Dk) : Sat Try.prog 19 [m.w] (fun r => r = res2 (dsync m)) := by
  refine sat_dq (Sat_of_awpF F19_ok (by kernel_rfl) ?_)
  obtain ⟨s, d, u, l, dn⟩ := m
  refine Sat.mono (sat_up _) ?_
  rintro r (⟨h1, rfl⟩ | ⟨h1, h2, rfl⟩ | ⟨h1, h2, h3⟩)
  · refine ⟨rfl, ?_⟩
    simp only [dsync, h1, cond_true]
    rfl
  · cases h2
    refine ⟨rfl, ?_⟩
    simp only [dsync, h1, cond_true, cond_false]
    rfl
  · cases h2
    simp only [dsync, h1, cond_false]
    rcases h3 with ⟨h3, rfl⟩ | rfl
    · have h3 : d = [] := h3
      subst h3
      conv => whnf
      refine cond_i (fun h => ?_) (fun h => ?_)
      · simp only [h, cond_true]
        exact ⟨rfl, rfl⟩
      · simp only [h, cond_false]
        exact ⟨rfl, rfl⟩
    · conv => whnf
      refine cond_i (fun h => ?_) (fun h => ?_)
      · simp only [h, cond_true]
        refine ⟨rfl, ?_⟩
        refine Eq.trans (b := res2c ⟨s, [], u, l, true⟩ (.d (.sl ((enc d).take d.length))) 19 []) rfl ?_
        rw [enc_full]; rfl
      · simp only [h, cond_false]
        refine ⟨rfl, ?_⟩
        refine Eq.trans (b := res2c ⟨s, [], d.length, l, false⟩ (.d (.sl ((enc d).take d.length))) 0 []) rfl ?_
        rw [enc_full]; rfl

theorem sat_arm (m : Dk) (n : Int) : Sat Try.prog 20 [m.w, .c (int n)] (fun r => r = res2 (darm m n)) := by
  refine sat_dq (Sat_of_awpF F20_ok (by kernel_rfl) ?_)
  obtain ⟨s, d, u, l, dn⟩ := m
  refine Sat.mono (sat_up _) ?_
  rintro r (⟨h1, rfl⟩ | ⟨h1, h2, rfl⟩ | ⟨h1, h2, h3⟩)
  · refine ⟨rfl, ?_⟩
    simp only [darm, h1, cond_true]
    rfl
  · cases h2
    refine ⟨rfl, ?_⟩
    simp only [darm, h1, cond_true, cond_false]
    rfl
  · cases h2
    simp only [darm, h1, cond_false]
    rcases h3 with ⟨h3, rfl⟩ | rfl
    · have h3 : d = [] := h3
      subst h3
      conv => whnf
      refine cond_i (fun h => ?_) (fun h => ?_)
      · simp only [h, Bool.true_or, cond_true]
        exact ⟨rfl, rfl⟩
      · conv => whnf
        refine cond_i (fun h2 => ?_) (fun h2 => ?_)
        · simp only [h2, Bool.or_true, cond_true]
          exact ⟨rfl, rfl⟩
        · simp only [h, h2, Bool.or_false, cond_false]
          exact ⟨rfl, rfl⟩
    · conv => whnf
      refine cond_i (fun h => ?_) (fun h => ?_)
      · simp only [h, Bool.true_or, cond_true]
        exact ⟨rfl, rfl⟩
      · conv => whnf
        refine cond_i (fun h2 => ?_) (fun h2 => ?_)
        · simp only [h2, Bool.or_true, cond_true]
          exact ⟨rfl, rfl⟩
        · simp only [h, h2, Bool.or_false, cond_false]
          refine ⟨rfl, ?_⟩
          refine Eq.trans (b := res2c ⟨s, [], u, n, false⟩ (.d (.sl ((enc d).take d.length))) 0 []) rfl ?_
          rw [enc_full]; rfl

theorem sat_rsync (m : Dk) : Sat Try.prog 22 [m.w] (fun r => r = res2 (dsync m)) := by
  refine sat_dq (Sat_of_awpF F22_ok (by kernel_rfl) ?_)
  obtain ⟨s, d, u, l, dn⟩ := m
  refine Sat.mono (sat_ready _) ?_
  intro r hr
  simp only [dup] at hr
  unfold dsync
  cases hb : Dk.bad ⟨s, d, u, l, dn⟩ <;> rw [hb] at hr <;> simp only [cond_true, cond_false] at hr ⊢
  · cases dn <;> simp only [cond_true, cond_false] at hr ⊢ <;> subst hr
    · conv => whnf
      refine cond_i (fun h => ?_) (fun h => ?_)
      · simp only [h, cond_true]
        exact ⟨rfl, rfl⟩
      · simp only [h, cond_false]
        refine ⟨rfl, ?_⟩
        rw [← enc_length d]; rfl
    · exact ⟨rfl, rfl⟩
  · subst hr; exact ⟨rfl, rfl⟩

theorem sat_rarm (m : Dk) (n : Int) : Sat Try.prog 24 [m.w, .c (int n)] (fun r => r = res2 (darm m n)) := by
  refine sat_dq (Sat_of_awpF F24_ok (by kernel_rfl) ?_)
  obtain ⟨s, d, u, l, dn⟩ := m
  refine Sat.mono (sat_ready _) ?_
  intro r hr
  simp only [dup] at hr
  unfold darm
  cases hb : Dk.bad ⟨s, d, u, l, dn⟩ <;> rw [hb] at hr <;> simp only [cond_true, cond_false] at hr ⊢
  · cases dn <;> simp only [cond_true, cond_false] at hr ⊢ <;> subst hr
    · conv => whnf
      refine cond_i (fun h => ?_) (fun h => ?_)
      · simp only [h, Bool.true_or, cond_true]
        exact ⟨rfl, rfl⟩
      · conv => whnf
        refine cond_i (fun h2 => ?_) (fun h2 => ?_)
        · simp only [h2, Bool.or_true, cond_true]
          exact ⟨rfl, rfl⟩
        · simp only [h, h2, Bool.or_false, cond_false]
          exact ⟨rfl, rfl⟩
    · exact ⟨rfl, rfl⟩
  · subst hr; exact ⟨rfl, rfl⟩
end Go.Proofs.Ytbdcgchgpdclaaa
