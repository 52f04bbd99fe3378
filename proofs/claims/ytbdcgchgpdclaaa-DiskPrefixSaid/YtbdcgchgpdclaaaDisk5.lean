/- The laws' own helpers. -/
import Derived.Test.YtbdcgchgpdclaaaDisk4
namespace Go.Proofs.Ytbdcgchgpdclaaa
open Go Go.AM
attribute [local irreducible] Sat
set_option maxRecDepth 100000

def bytes (d : List UInt8) : ByteArray := ⟨d.toArray⟩
theorem enc_bytes (d : List UInt8) : enc d = encBytes (bytes d) := rfl

structure Opn where
  kind : Int
  n : Int
  data : List UInt8
def Opn.w (o : Opn) : W := .agg [int o.kind, int o.n, .d (.sl (enc o.data))]

def dact (m : Dk) (o : Opn) : Dk × Int :=
  bif o.kind == 3 || o.kind == 4 then dsync m else bif o.kind == 5 then dtrunc m o.n else bif o.kind == 6 then darm m o.n else bif o.kind == 7 then (dcrash m o.n, 0) else dappend m o.data

theorem res2_eta (x : Dk × Int) : res2 x = res2 (x.1, x.2) := rfl

theorem sat_act (m : Dk) (o : Opn) (hb : o.data.length ≤ 1048576) : Sat Try.prog 13 [m.w, o.w] (fun r => r = res2 (dact m o)) := by
  refine sat_dq (Sat_of_awpF F13_ok (by kernel_rfl) ?_)
  obtain ⟨k, n, b⟩ := o
  simp only at hb
  unfold dact
  conv => whnf
  refine cond_i (fun h => ?_) (fun h => ?_)
  · simp only [h, Bool.true_or, cond_true]
    refine Sat.mono (sat_sync m) ?_
    rintro r rfl
    exact ⟨rfl, rfl⟩
  · conv => whnf
    refine cond_i (fun h2 => ?_) (fun h2 => ?_)
    · simp only [h2, Bool.or_true, cond_true]
      refine Sat.mono (sat_sync m) ?_
      rintro r rfl
      exact ⟨rfl, rfl⟩
    · simp only [h, h2, Bool.or_false, cond_false]
      conv => whnf
      refine cond_i (fun h3 => ?_) (fun h3 => ?_)
      · simp only [h3, cond_true]
        refine Sat.mono (sat_trunc m n) ?_
        rintro r rfl
        exact ⟨rfl, rfl⟩
      · simp only [h3, cond_false]
        conv => whnf
        refine cond_i (fun h4 => ?_) (fun h4 => ?_)
        · simp only [h4, cond_true]
          refine Sat.mono (sat_arm m n) ?_
          rintro r rfl
          exact ⟨rfl, rfl⟩
        · simp only [h4, cond_false]
          conv => whnf
          refine cond_i (fun h5 => ?_) (fun h5 => ?_)
          · simp only [h5, cond_true]
            refine Sat.mono (sat_crash m n) ?_
            rintro r rfl
            exact ⟨rfl, rfl⟩
          · simp only [h5, cond_false]
            refine Sat.mono (sat_append m b hb) ?_
            rintro r rfl
            exact ⟨rfl, rfl⟩

theorem sat_expected (m : Dk) (o : Opn) (hb : o.data.length ≤ 1048576) : Sat Try.prog 14 [m.w, o.w] (fun r => r = res2 (dact m o)) := by
  refine sat_dq (Sat_of_awpF F14_ok (by kernel_rfl) ?_)
  obtain ⟨k, n, b⟩ := o
  simp only at hb
  unfold dact
  conv => whnf
  refine cond_i (fun h => ?_) (fun h => ?_)
  · simp only [h, Bool.true_or, cond_true]
    refine Sat.mono (sat_rsync m) ?_
    rintro r rfl
    exact ⟨rfl, rfl⟩
  · conv => whnf
    refine cond_i (fun h2 => ?_) (fun h2 => ?_)
    · simp only [h2, Bool.or_true, cond_true]
      refine Sat.mono (sat_rsync m) ?_
      rintro r rfl
      exact ⟨rfl, rfl⟩
    · simp only [h, h2, Bool.or_false, cond_false]
      conv => whnf
      refine cond_i (fun h3 => ?_) (fun h3 => ?_)
      · simp only [h3, cond_true]
        refine Sat.mono (sat_rtrunc m n) ?_
        rintro r rfl
        exact ⟨rfl, rfl⟩
      · simp only [h3, cond_false]
        conv => whnf
        refine cond_i (fun h4 => ?_) (fun h4 => ?_)
        · simp only [h4, cond_true]
          refine Sat.mono (sat_rarm m n) ?_
          rintro r rfl
          exact ⟨rfl, rfl⟩
        · simp only [h4, cond_false]
          conv => whnf
          refine cond_i (fun h5 => ?_) (fun h5 => ?_)
          · simp only [h5, cond_true]
            refine Sat.mono (sat_rcrash m n) ?_
            rintro r rfl
            exact ⟨rfl, rfl⟩
          · simp only [h5, cond_false]
            refine Sat.mono (sat_rappend m b hb) ?_
            rintro r rfl
            exact ⟨rfl, rfl⟩
end Go.Proofs.Ytbdcgchgpdclaaa
