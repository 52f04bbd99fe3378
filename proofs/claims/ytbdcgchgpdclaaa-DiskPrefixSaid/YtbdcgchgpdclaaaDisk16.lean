/- DiskPrefix, on the machine. -/
import Derived.Test.YtbdcgchgpdclaaaDisk12
import Derived.Test.YtbdcgchgpdclaaaDisk15
namespace Go.Proofs.Ytbdcgchgpdclaaa
open Go Go.AM
attribute [local irreducible] Sat
set_option maxRecDepth 100000

def str (b : List UInt8) : C := .d (.lit (.string (bytes b)))
theorem bytes_app (a b : List UInt8) : bytes a ++ bytes b = bytes (a ++ b) := by
  apply ByteArray.ext
  simp [bytes]
theorem bytes_size (a : List UInt8) : (bytes a).size = a.length := by simp [bytes, ByteArray.size]
theorem bytes_extract (a : List UInt8) (n : Nat) : (bytes a).extract 0 n = bytes (a.take n) := by
  apply ByteArray.ext
  simp [bytes]

/-- The state at the head of the loop. -/
def PS (os : List Opn) (k : Int) (m : Dk) (w : List UInt8) (du i : Int) : S :=
  ⟨[(0, .w (.c (opsC os))), (1, .w (.c (int k))), (5, cV (.ptr 5 0)), (7, cV (str w)), (8, intV du), (9, intV i)], [(5, .box m.cells)]⟩

set_option maxHeartbeats 4000000 in
theorem sat_prefix (os : List Opn) (k : Int) : Sat Try.prog 5 [.c (opsC os), .c (int k)] (fun r => r = oneB true) := by
  refine Sat_of_awpF F5_ok (by kernel_rfl) ?_
  refine Sat.mono sat_awake ?_
  rintro _ rfl
  refine Sat.mono (sat_few os) ?_
  rintro _ rfl
  cases hf : few os
  · refine Sat.mono sat_awake ?_
    rintro _ rfl
    rfl
  · obtain ⟨hl, hall⟩ := few_len hf
    refine Sat.mono (sat_new 500) ?_
    rw [show dnew 500 = (⟨500, [], 0, -1, false⟩, 0) from rfl]
    rintro _ rfl
    refine ⟨fun s => ∃ (i : Nat) (m : Dk) (du : Int), s = PS os k m m.data du i ∧ i ≤ os.length ∧ Pre m du,
        fun s => match litInt (s.tmp 9) with | some i => (os.length - i.toNat) | none => 0, ?_, ?_⟩
    · conv => whnf
      refine ⟨0, ⟨500, [], 0, -1, false⟩, 0, rfl, Nat.zero_le _, ⟨?_, by simp, by simp⟩⟩
      unfold Good; simp
    · rintro _ ⟨i, ⟨s, d, u, l, dn⟩, du, rfl, hi, hp⟩
      conv => whnf
      refine cond_i (fun h1 => ?_) (fun h1 => ?_)
      · have h1 : (i : Int) < ((os.map Opn.d).length : Int) := of_decide_eq_true h1
        rw [List.length_map] at h1
        have hlt : i < os.length := by omega
        obtain ⟨⟨kk, n, x⟩, ho⟩ : ∃ o, os[i]? = some o := ⟨os[i], List.getElem?_eq_getElem hlt⟩
        have hod := hall _ (List.mem_of_getElem? ho)
        have hstep : ∀ (m' : Dk) (du' : Int), Pre m' du' → (∃ (j : Nat) (m1 : Dk) (du1 : Int), PS os k m' m'.data du' (IntKind.i64.wrap ((i : Int) + 1)) = PS os k m1 m1.data du1 j ∧ j ≤ os.length ∧ Pre m1 du1) ∧
            os.length - (IntKind.i64.wrap ((i : Int) + 1)).toNat < os.length - ((i : Int)).toNat := by
          intro m' du' hp'
          have hw : IntKind.i64.wrap ((i : Int) + 1) = ((i + 1 : Nat) : Int) := by rw [wrap64 (by omega) (by omega)]; omega
          exact ⟨⟨i + 1, m', du', by rw [hw], by omega, hp'⟩, by rw [hw]; omega⟩
        refine ⟨by omega, Opn.d ⟨kk, n, x⟩, ?_, rfl, ?_⟩
        · rw [Int.toNat_natCast, List.getElem?_map, ho]; rfl
        · refine Sat.mono (sat_act ⟨s, d, u, l, dn⟩ ⟨kk, n, x⟩ hod) ?_
          rintro _ rfl
          by_cases hd : dn = true ∧ kk ≠ 7
          · obtain ⟨hdn, hk7⟩ := hd
            rw [down_act ((good_iff _).2 hp.1) hdn (by simpa using hk7)]
            subst hdn
            have hlen : d.length ≤ d.length := Nat.le_refl _
            have htk : d.take d.length = d := List.take_length
            have hdu : du ≤ d.length := by have := hp.1; unfold Good at this; have := hp.2; simp only at *; omega
            conv => whnf
            refine cond_i (fun hA => ?_) (fun hA => ?_)
            · conv => whnf
              refine cond_i (fun h => absurd (of_decide_eq_true h) ?_) (fun _ => ?_)
              · show ¬ ((enc (d)).length : Int) > ((bytes (d)).size : Int)
                rw [enc_length, bytes_size]; omega
              refine ⟨bytes (d), enc_bytes (d), ?_⟩
              refine ⟨?_, ?_, ?_, ?_⟩
              · show (0 : Int) ≤ 0
                omega
              · show (0 : Int) ≤ ((enc (d)).length : Int)
                omega
              · show ((enc (d)).length : Int) ≤ ((bytes (d)).size : Int)
                rw [enc_length, bytes_size]; omega
              conv => whnf
              refine cond_i (fun h => absurd h ?_) (fun _ => ?_)
              · show ¬ (!((bytes (d)).toList == ((bytes (d)).extract 0 (((enc (d)).length : Int)).toNat).toList)) = true
                rw [Int.toNat_natCast, enc_length, bytes_extract, bytes_eq, htk]
                simp
              conv => whnf
              refine cond_i (fun h => absurd (of_decide_eq_true h) ?_) (fun _ => ?_)
              · show ¬ ((enc (d)).length : Int) < du
                rw [enc_length]; omega
              conv => whnf
              refine cond_i (fun h => ?_) (fun _ => ?_)
              · exact absurd (eq_of_beq h) hk7
              refine ⟨bytes d, enc_bytes d, ?_⟩
              conv => whnf
              refine cond_i (fun h => ?_) (fun _ => ?_)
              · exact absurd (eq_of_beq h) hk7
              conv => whnf
              exact hstep ⟨s, d, u, l, true⟩ du hp
            · conv => whnf
              refine cond_i (fun hB => ?_) (fun hB => ?_)
              · conv => whnf
                refine cond_i (fun h => absurd (of_decide_eq_true h) ?_) (fun _ => ?_)
                · show ¬ ((enc (d)).length : Int) > ((bytes (d)).size : Int)
                  rw [enc_length, bytes_size]; omega
                refine ⟨bytes (d), enc_bytes (d), ?_⟩
                refine ⟨?_, ?_, ?_, ?_⟩
                · show (0 : Int) ≤ 0
                  omega
                · show (0 : Int) ≤ ((enc (d)).length : Int)
                  omega
                · show ((enc (d)).length : Int) ≤ ((bytes (d)).size : Int)
                  rw [enc_length, bytes_size]; omega
                conv => whnf
                refine cond_i (fun h => absurd h ?_) (fun _ => ?_)
                · show ¬ (!((bytes (d)).toList == ((bytes (d)).extract 0 (((enc (d)).length : Int)).toNat).toList)) = true
                  rw [Int.toNat_natCast, enc_length, bytes_extract, bytes_eq, htk]
                  simp
                conv => whnf
                refine cond_i (fun h => absurd (of_decide_eq_true h) ?_) (fun _ => ?_)
                · show ¬ ((enc (d)).length : Int) < du
                  rw [enc_length]; omega
                conv => whnf
                refine cond_i (fun h => ?_) (fun _ => ?_)
                · exact absurd (eq_of_beq h) hk7
                refine ⟨bytes d, enc_bytes d, ?_⟩
                conv => whnf
                refine cond_i (fun h => ?_) (fun _ => ?_)
                · exact absurd (eq_of_beq h) hk7
                conv => whnf
                exact hstep ⟨s, d, u, l, true⟩ du hp
              · conv => whnf
                refine cond_i (fun h => absurd (of_decide_eq_true h) ?_) (fun _ => ?_)
                · show ¬ ((enc (d)).length : Int) > ((bytes (d)).size : Int)
                  rw [enc_length, bytes_size]; omega
                refine ⟨bytes (d), enc_bytes (d), ?_⟩
                refine ⟨?_, ?_, ?_, ?_⟩
                · show (0 : Int) ≤ 0
                  omega
                · show (0 : Int) ≤ ((enc (d)).length : Int)
                  omega
                · show ((enc (d)).length : Int) ≤ ((bytes (d)).size : Int)
                  rw [enc_length, bytes_size]; omega
                conv => whnf
                refine cond_i (fun h => absurd h ?_) (fun _ => ?_)
                · show ¬ (!((bytes (d)).toList == ((bytes (d)).extract 0 (((enc (d)).length : Int)).toNat).toList)) = true
                  rw [Int.toNat_natCast, enc_length, bytes_extract, bytes_eq, htk]
                  simp
                conv => whnf
                refine cond_i (fun h => absurd (of_decide_eq_true h) ?_) (fun _ => ?_)
                · show ¬ ((enc (d)).length : Int) < du
                  rw [enc_length]; omega
                conv => whnf
                refine cond_i (fun h => ?_) (fun _ => ?_)
                · exact absurd (eq_of_beq h) hk7
                refine ⟨bytes d, enc_bytes d, ?_⟩
                conv => whnf
                refine cond_i (fun h => ?_) (fun _ => ?_)
                · exact absurd (eq_of_beq h) hk7
                conv => whnf
                exact hstep ⟨s, d, u, l, true⟩ du hp
          · by_cases h3 : kk = 3
            · subst h3
              have hdn : dn = false := by simpa using hd
              have hs := pre_sync hp (show (Dk.mk s d u l dn).down = false from hdn)
              rw [show dact ⟨s, d, u, l, dn⟩ ⟨3, n, x⟩ = dsync ⟨s, d, u, l, dn⟩ from rfl]
              generalize dsync ⟨s, d, u, l, dn⟩ = Y at hs
              obtain ⟨m', e⟩ := Y
              obtain ⟨s', d', u', l', dn'⟩ := m'
              simp only at hs
              subst hdn
              rcases hs with ⟨rfl, hp', rfl, rfl⟩ | ⟨rfl, hp', rfl, rfl⟩
              · have hlen : d'.length ≤ d'.length := Nat.le_refl _
                have htk : d'.take d'.length = d' := List.take_length
                conv => whnf
                refine cond_i (fun h => absurd (of_decide_eq_true h) ?_) (fun _ => ?_)
                · show ¬ ((enc (d')).length : Int) > ((bytes (d')).size : Int)
                  rw [enc_length, bytes_size]; omega
                refine ⟨bytes (d'), enc_bytes (d'), ?_⟩
                refine ⟨?_, ?_, ?_, ?_⟩
                · show (0 : Int) ≤ 0
                  omega
                · show (0 : Int) ≤ ((enc (d')).length : Int)
                  omega
                · show ((enc (d')).length : Int) ≤ ((bytes (d')).size : Int)
                  rw [enc_length, bytes_size]; omega
                conv => whnf
                refine cond_i (fun h => absurd h ?_) (fun _ => ?_)
                · show ¬ (!((bytes (d')).toList == ((bytes (d')).extract 0 (((enc (d')).length : Int)).toNat).toList)) = true
                  rw [Int.toNat_natCast, enc_length, bytes_extract, bytes_eq, htk]
                  simp
                conv => whnf
                refine cond_i (fun h => absurd (of_decide_eq_true h) ?_) (fun _ => ?_)
                · show ¬ ((enc (d')).length : Int) < ((bytes d').size : Int)
                  rw [enc_length, bytes_size]; omega
                conv => whnf
                exact hstep _ _ hp'
              · have hlen : d'.length ≤ d'.length := Nat.le_refl _
                have htk : d'.take d'.length = d' := List.take_length
                have hdu : du ≤ d'.length := by have := hp'.1; unfold Good at this; have := hp'.2; simp only at *; omega
                conv => whnf
                refine cond_i (fun h => absurd (of_decide_eq_true h) ?_) (fun _ => ?_)
                · show ¬ ((enc (d')).length : Int) > ((bytes (d')).size : Int)
                  rw [enc_length, bytes_size]; omega
                refine ⟨bytes (d'), enc_bytes (d'), ?_⟩
                refine ⟨?_, ?_, ?_, ?_⟩
                · show (0 : Int) ≤ 0
                  omega
                · show (0 : Int) ≤ ((enc (d')).length : Int)
                  omega
                · show ((enc (d')).length : Int) ≤ ((bytes (d')).size : Int)
                  rw [enc_length, bytes_size]; omega
                conv => whnf
                refine cond_i (fun h => absurd h ?_) (fun _ => ?_)
                · show ¬ (!((bytes (d')).toList == ((bytes (d')).extract 0 (((enc (d')).length : Int)).toNat).toList)) = true
                  rw [Int.toNat_natCast, enc_length, bytes_extract, bytes_eq, htk]
                  simp
                conv => whnf
                refine cond_i (fun h => absurd (of_decide_eq_true h) ?_) (fun _ => ?_)
                · show ¬ ((enc (d')).length : Int) < du
                  rw [enc_length]; omega
                refine ⟨bytes d', enc_bytes d', ?_⟩
                conv => whnf
                exact hstep ⟨s', d', u', l', true⟩ du hp'
            · by_cases h4 : kk = 4
              · subst h4
                have hdn : dn = false := by simpa using hd
                have hs := pre_sync hp (show (Dk.mk s d u l dn).down = false from hdn)
                rw [show dact ⟨s, d, u, l, dn⟩ ⟨4, n, x⟩ = dsync ⟨s, d, u, l, dn⟩ from rfl]
                generalize dsync ⟨s, d, u, l, dn⟩ = Y at hs
                obtain ⟨m', e⟩ := Y
                obtain ⟨s', d', u', l', dn'⟩ := m'
                simp only at hs
                subst hdn
                rcases hs with ⟨rfl, hp', rfl, rfl⟩ | ⟨rfl, hp', rfl, rfl⟩
                · have hlen : d'.length ≤ d'.length := Nat.le_refl _
                  have htk : d'.take d'.length = d' := List.take_length
                  conv => whnf
                  refine cond_i (fun h => absurd (of_decide_eq_true h) ?_) (fun _ => ?_)
                  · show ¬ ((enc (d')).length : Int) > ((bytes (d')).size : Int)
                    rw [enc_length, bytes_size]; omega
                  refine ⟨bytes (d'), enc_bytes (d'), ?_⟩
                  refine ⟨?_, ?_, ?_, ?_⟩
                  · show (0 : Int) ≤ 0
                    omega
                  · show (0 : Int) ≤ ((enc (d')).length : Int)
                    omega
                  · show ((enc (d')).length : Int) ≤ ((bytes (d')).size : Int)
                    rw [enc_length, bytes_size]; omega
                  conv => whnf
                  refine cond_i (fun h => absurd h ?_) (fun _ => ?_)
                  · show ¬ (!((bytes (d')).toList == ((bytes (d')).extract 0 (((enc (d')).length : Int)).toNat).toList)) = true
                    rw [Int.toNat_natCast, enc_length, bytes_extract, bytes_eq, htk]
                    simp
                  conv => whnf
                  refine cond_i (fun h => absurd (of_decide_eq_true h) ?_) (fun _ => ?_)
                  · show ¬ ((enc (d')).length : Int) < ((bytes d').size : Int)
                    rw [enc_length, bytes_size]; omega
                  conv => whnf
                  exact hstep _ _ hp'
                · have hlen : d'.length ≤ d'.length := Nat.le_refl _
                  have htk : d'.take d'.length = d' := List.take_length
                  have hdu : du ≤ d'.length := by have := hp'.1; unfold Good at this; have := hp'.2; simp only at *; omega
                  conv => whnf
                  refine cond_i (fun h => absurd (of_decide_eq_true h) ?_) (fun _ => ?_)
                  · show ¬ ((enc (d')).length : Int) > ((bytes (d')).size : Int)
                    rw [enc_length, bytes_size]; omega
                  refine ⟨bytes (d'), enc_bytes (d'), ?_⟩
                  refine ⟨?_, ?_, ?_, ?_⟩
                  · show (0 : Int) ≤ 0
                    omega
                  · show (0 : Int) ≤ ((enc (d')).length : Int)
                    omega
                  · show ((enc (d')).length : Int) ≤ ((bytes (d')).size : Int)
                    rw [enc_length, bytes_size]; omega
                  conv => whnf
                  refine cond_i (fun h => absurd h ?_) (fun _ => ?_)
                  · show ¬ (!((bytes (d')).toList == ((bytes (d')).extract 0 (((enc (d')).length : Int)).toNat).toList)) = true
                    rw [Int.toNat_natCast, enc_length, bytes_extract, bytes_eq, htk]
                    simp
                  conv => whnf
                  refine cond_i (fun h => absurd (of_decide_eq_true h) ?_) (fun _ => ?_)
                  · show ¬ ((enc (d')).length : Int) < du
                    rw [enc_length]; omega
                  refine ⟨bytes d', enc_bytes d', ?_⟩
                  conv => whnf
                  exact hstep ⟨s', d', u', l', true⟩ du hp'
              · by_cases h5 : kk = 5
                · subst h5
                  have hdn : dn = false := by
                    cases hm : dn
                    · rfl
                    · exact absurd ⟨hm, by omega⟩ hd
                  have hs := pre_trunc (n := n) hp (show (Dk.mk s d u l dn).down = false from hdn)
                  rw [show dact ⟨s, d, u, l, dn⟩ ⟨5, n, x⟩ = dtrunc ⟨s, d, u, l, dn⟩ n from rfl]
                  generalize dtrunc ⟨s, d, u, l, dn⟩ n = Y at hs
                  obtain ⟨m', e⟩ := Y
                  obtain ⟨s', d', u', l', dn'⟩ := m'
                  simp only at hs
                  subst hdn
                  rcases hs with ⟨rfl, hn1, hn2, hp', rfl, rfl⟩ | ⟨hf1, hf2⟩
                  · obtain ⟨q, rfl⟩ := Int.eq_ofNat_of_zero_le hn1
                    rw [Int.toNat_natCast] at hp'
                    have hlen : (d.take q).length ≤ (d.take q).length := Nat.le_refl _
                    have htk : (d.take q).take (d.take q).length = d.take q := List.take_length
                    have hdu : mmI false du q ≤ (d.take q).length := by have := hp'.1; unfold Good at this; have := hp'.2; simp only at *; omega
                    conv => whnf
                    refine cond_i (fun h => absurd (of_decide_eq_true h) ?_) (fun _ => ?_)
                    · show ¬ (q : Int) > ((bytes d).size : Int)
                      rw [bytes_size]; omega
                    refine ⟨?_, ?_, ?_, ?_⟩
                    · show (0 : Int) ≤ 0
                      omega
                    · exact hn1
                    · show (q : Int) ≤ ((bytes d).size : Int)
                      rw [bytes_size]; exact hn2
                    rw [show (bytes d).extract (orI none 0).toNat (orI (some (q : Int)) ((bytes d).size : Int)).toNat = bytes (d.take q) from bytes_extract d q]
                    conv => whnf
                    refine cond_i (fun h => absurd (of_decide_eq_true h) ?_) (fun _ => ?_)
                    · show ¬ ((enc (d.take q)).length : Int) > ((bytes (d.take q)).size : Int)
                      rw [enc_length, bytes_size]; omega
                    refine ⟨bytes (d.take q), enc_bytes (d.take q), ?_⟩
                    refine ⟨?_, ?_, ?_, ?_⟩
                    · show (0 : Int) ≤ 0
                      omega
                    · show (0 : Int) ≤ ((enc (d.take q)).length : Int)
                      omega
                    · show ((enc (d.take q)).length : Int) ≤ ((bytes (d.take q)).size : Int)
                      rw [enc_length, bytes_size]; omega
                    conv => whnf
                    refine cond_i (fun h => absurd h ?_) (fun _ => ?_)
                    · show ¬ (!((bytes (d.take q)).toList == ((bytes (d.take q)).extract 0 (((enc (d.take q)).length : Int)).toNat).toList)) = true
                      rw [Int.toNat_natCast, enc_length, bytes_extract, bytes_eq, htk]
                      simp
                    conv => whnf
                    refine cond_i (fun h => absurd (of_decide_eq_true h) ?_) (fun _ => ?_)
                    · show ¬ ((enc (d.take q)).length : Int) < mmI false du q
                      rw [enc_length]; omega
                    conv => whnf
                    exact hstep ⟨s', d.take q, u', l', false⟩ (mmI false du q) hp'
                  · conv => whnf
                    refine cond_i (fun h => ?_) (fun h => ?_)
                    · conv => whnf
                      refine cond_i (fun h => ?_) (fun h => ?_)
                      · conv => whnf
                        exact hstep ⟨s, d, u, l, false⟩ du hp
                      · exact absurd (by simpa using h) hf2
                    · exact absurd (by simpa using h) hf1
                · by_cases h6 : kk = 6
                  · subst h6
                    have hdn : dn = false := by
                      cases hm : dn
                      · rfl
                      · exact absurd ⟨hm, by omega⟩ hd
                    have hs := pre_arm (n := n) hp (show (Dk.mk s d u l dn).down = false from hdn)
                    rw [show dact ⟨s, d, u, l, dn⟩ ⟨6, n, x⟩ = darm ⟨s, d, u, l, dn⟩ n from rfl]
                    generalize darm ⟨s, d, u, l, dn⟩ n = Y at hs
                    obtain ⟨m', e⟩ := Y
                    obtain ⟨s', d', u', l', dn'⟩ := m'
                    simp only at hs
                    subst hdn
                    rcases hs with ⟨rfl, hp', rfl, rfl⟩ | ⟨hf1, hf2⟩
                    · have hlen : d'.length ≤ d'.length := Nat.le_refl _
                      have htk : d'.take d'.length = d' := List.take_length
                      have hdu : du ≤ d'.length := by have := hp'.1; unfold Good at this; have := hp'.2; simp only at *; omega
                      conv => whnf
                      refine cond_i (fun h => absurd (of_decide_eq_true h) ?_) (fun _ => ?_)
                      · show ¬ ((enc (d')).length : Int) > ((bytes (d')).size : Int)
                        rw [enc_length, bytes_size]; omega
                      refine ⟨bytes (d'), enc_bytes (d'), ?_⟩
                      refine ⟨?_, ?_, ?_, ?_⟩
                      · show (0 : Int) ≤ 0
                        omega
                      · show (0 : Int) ≤ ((enc (d')).length : Int)
                        omega
                      · show ((enc (d')).length : Int) ≤ ((bytes (d')).size : Int)
                        rw [enc_length, bytes_size]; omega
                      conv => whnf
                      refine cond_i (fun h => absurd h ?_) (fun _ => ?_)
                      · show ¬ (!((bytes (d')).toList == ((bytes (d')).extract 0 (((enc (d')).length : Int)).toNat).toList)) = true
                        rw [Int.toNat_natCast, enc_length, bytes_extract, bytes_eq, htk]
                        simp
                      conv => whnf
                      refine cond_i (fun h => absurd (of_decide_eq_true h) ?_) (fun _ => ?_)
                      · show ¬ ((enc (d')).length : Int) < du
                        rw [enc_length]; omega
                      conv => whnf
                      exact hstep ⟨s', d', u', l', false⟩ du hp'
                    · conv => whnf
                      refine cond_i (fun h => ?_) (fun h => ?_)
                      · conv => whnf
                        refine cond_i (fun h => ?_) (fun h => ?_)
                        · conv => whnf
                          exact hstep ⟨s, d, u, l, false⟩ du hp
                        · exact absurd (by simpa using h) hf2
                      · exact absurd (by simpa using h) hf1
                  · by_cases h7 : kk = 7
                    · subst h7
                      have hs := pre_crash (k := n) hp
                      rw [show dact ⟨s, d, u, l, dn⟩ ⟨7, n, x⟩ = (dcrash ⟨s, d, u, l, dn⟩ n, 0) from rfl]
                      generalize dcrash ⟨s, d, u, l, dn⟩ n = m' at hs
                      obtain ⟨s', d', u', l', dn'⟩ := m'
                      simp only at hs
                      obtain ⟨hp', rfl, rfl, rfl, hlen, htk', hdu⟩ := hs
                      have htk : d.take d'.length = d' := htk'.symm
                      conv => whnf
                      refine cond_i (fun h => absurd (of_decide_eq_true h) ?_) (fun _ => ?_)
                      · show ¬ ((enc (d')).length : Int) > ((bytes (d)).size : Int)
                        rw [enc_length, bytes_size]; omega
                      refine ⟨bytes (d'), enc_bytes (d'), ?_⟩
                      refine ⟨?_, ?_, ?_, ?_⟩
                      · show (0 : Int) ≤ 0
                        omega
                      · show (0 : Int) ≤ ((enc (d')).length : Int)
                        omega
                      · show ((enc (d')).length : Int) ≤ ((bytes (d)).size : Int)
                        rw [enc_length, bytes_size]; omega
                      conv => whnf
                      refine cond_i (fun h => absurd h ?_) (fun _ => ?_)
                      · show ¬ (!((bytes (d')).toList == ((bytes (d)).extract 0 (((enc (d')).length : Int)).toNat).toList)) = true
                        rw [Int.toNat_natCast, enc_length, bytes_extract, bytes_eq, htk]
                        simp
                      conv => whnf
                      refine cond_i (fun h => absurd (of_decide_eq_true h) ?_) (fun _ => ?_)
                      · show ¬ ((enc (d')).length : Int) < du
                        rw [enc_length]; omega
                      refine ⟨bytes d', enc_bytes d', ?_⟩
                      conv => whnf
                      rw [enc_length]
                      exact hstep ⟨s', d', d'.length, -1, false⟩ d'.length hp'
                    · have hact : dact ⟨s, d, u, l, dn⟩ ⟨kk, n, x⟩ = dappend ⟨s, d, u, l, dn⟩ x := by
                        unfold dact
                        simp only [beq_false_of_ne h3, beq_false_of_ne h4, beq_false_of_ne h5, beq_false_of_ne h6, beq_false_of_ne h7, Bool.or_false, cond_false]
                      by_cases hk : kk < 3
                      · have hdn : dn = false := by
                          cases hm : dn
                          · rfl
                          · exact absurd ⟨hm, by omega⟩ hd
                        rw [hact]
                        have hs := pre_append (x := x) hp (show (Dk.mk s d u l dn).down = false from hdn)
                        generalize dappend ⟨s, d, u, l, dn⟩ x = Y at hs
                        obtain ⟨m', e⟩ := Y
                        obtain ⟨s', d', u', l', dn'⟩ := m'
                        simp only at hs
                        subst hdn
                        rcases hs with ⟨rfl, hp', rfl, rfl⟩ | ⟨rfl, hp', rfl, q, rfl⟩ | ⟨hf1, hf2⟩
                        · have hlen : (d ++ x).length ≤ (d ++ x).length := Nat.le_refl _
                          have htk : (d ++ x).take (d ++ x).length = d ++ x := List.take_length
                          have hdu : du ≤ (d ++ x).length := by have := hp'.1; unfold Good at this; have := hp'.2; simp only at *; omega
                          conv => whnf
                          refine cond_i (fun _ => ?_) (fun h => absurd hk (of_decide_eq_false h))
                          refine ⟨bytes x, enc_bytes x, ?_⟩
                          refine ⟨?_, ?_⟩
                          · show (bytes d).size + (bytes x).size ≤ 9223372036854775807
                            rw [bytes_size, bytes_size]
                            have := hp.1
                            unfold Good at this
                            simp only at this hod
                            omega
                          rw [show bytes (Dk.data ⟨s, d, u, l, false⟩) ++ bytes x = bytes (d ++ x) from bytes_app d x]
                          conv => whnf
                          refine cond_i (fun h => absurd (eq_of_beq h) h3) (fun _ => ?_)
                          conv => whnf
                          refine cond_i (fun h => absurd (eq_of_beq h) h4) (fun _ => ?_)
                          conv => whnf
                          refine cond_i (fun h => absurd (eq_of_beq h) h5) (fun _ => ?_)
                          conv => whnf
                          refine cond_i (fun h => absurd (of_decide_eq_true h) ?_) (fun _ => ?_)
                          · show ¬ ((enc (d ++ x)).length : Int) > ((bytes (d ++ x)).size : Int)
                            rw [enc_length, bytes_size]; omega
                          refine ⟨bytes (d ++ x), enc_bytes (d ++ x), ?_⟩
                          refine ⟨?_, ?_, ?_, ?_⟩
                          · show (0 : Int) ≤ 0
                            omega
                          · show (0 : Int) ≤ ((enc (d ++ x)).length : Int)
                            omega
                          · show ((enc (d ++ x)).length : Int) ≤ ((bytes (d ++ x)).size : Int)
                            rw [enc_length, bytes_size]; omega
                          conv => whnf
                          refine cond_i (fun h => absurd h ?_) (fun _ => ?_)
                          · show ¬ (!((bytes (d ++ x)).toList == ((bytes (d ++ x)).extract 0 (((enc (d ++ x)).length : Int)).toNat).toList)) = true
                            rw [Int.toNat_natCast, enc_length, bytes_extract, bytes_eq, htk]
                            simp
                          conv => whnf
                          refine cond_i (fun h => absurd (of_decide_eq_true h) ?_) (fun _ => ?_)
                          · show ¬ ((enc (d ++ x)).length : Int) < du
                            rw [enc_length]; omega
                          conv => whnf
                          refine cond_i (fun h => ?_) (fun _ => ?_)
                          · exact absurd (eq_of_beq h) h7
                          conv => whnf
                          refine cond_i (fun h => ?_) (fun _ => ?_)
                          · exact absurd (eq_of_beq h) h7
                          conv => whnf
                          exact hstep ⟨s', d ++ x, u', l', false⟩ du hp'
                        · have hlen : (d ++ x.take q).length ≤ (d ++ x).length := by simp only [List.length_append, List.length_take]; omega
                          have htk : (d ++ x).take (d ++ x.take q).length = d ++ x.take q := by
                            simp only [List.length_append, List.length_take, List.take_append, List.take_of_length_le (Nat.le_add_right _ _), Nat.add_sub_cancel_left]
                            congr 1
                            rw [Nat.min_def]
                            split
                            · rfl
                            · rw [List.take_length, List.take_of_length_le (by omega)]
                          have hdu : du ≤ (d ++ x.take q).length := by have := hp'.1; unfold Good at this; have := hp'.2; simp only at *; omega
                          conv => whnf
                          refine cond_i (fun _ => ?_) (fun h => absurd hk (of_decide_eq_false h))
                          refine ⟨bytes x, enc_bytes x, ?_⟩
                          refine ⟨?_, ?_⟩
                          · show (bytes d).size + (bytes x).size ≤ 9223372036854775807
                            rw [bytes_size, bytes_size]
                            have := hp.1
                            unfold Good at this
                            simp only at this hod
                            omega
                          rw [show bytes (Dk.data ⟨s, d, u, l, false⟩) ++ bytes x = bytes (d ++ x) from bytes_app d x]
                          conv => whnf
                          refine cond_i (fun h => absurd (of_decide_eq_true h) ?_) (fun _ => ?_)
                          · show ¬ ((enc (d ++ x.take q)).length : Int) > ((bytes (d ++ x)).size : Int)
                            rw [enc_length, bytes_size]; omega
                          refine ⟨bytes (d ++ x.take q), enc_bytes (d ++ x.take q), ?_⟩
                          refine ⟨?_, ?_, ?_, ?_⟩
                          · show (0 : Int) ≤ 0
                            omega
                          · show (0 : Int) ≤ ((enc (d ++ x.take q)).length : Int)
                            omega
                          · show ((enc (d ++ x.take q)).length : Int) ≤ ((bytes (d ++ x)).size : Int)
                            rw [enc_length, bytes_size]; omega
                          conv => whnf
                          refine cond_i (fun h => absurd h ?_) (fun _ => ?_)
                          · show ¬ (!((bytes (d ++ x.take q)).toList == ((bytes (d ++ x)).extract 0 (((enc (d ++ x.take q)).length : Int)).toNat).toList)) = true
                            rw [Int.toNat_natCast, enc_length, bytes_extract, bytes_eq, htk]
                            simp
                          conv => whnf
                          refine cond_i (fun h => absurd (of_decide_eq_true h) ?_) (fun _ => ?_)
                          · show ¬ ((enc (d ++ x.take q)).length : Int) < du
                            rw [enc_length]; omega
                          conv => whnf
                          refine cond_i (fun h => ?_) (fun _ => ?_)
                          · exact absurd (eq_of_beq h) h7
                          refine ⟨bytes (d ++ x.take q), enc_bytes (d ++ x.take q), ?_⟩
                          conv => whnf
                          refine cond_i (fun h => ?_) (fun _ => ?_)
                          · exact absurd (eq_of_beq h) h7
                          conv => whnf
                          exact hstep ⟨s', d ++ x.take q, u', l', true⟩ du hp'
                        · conv => whnf
                          refine cond_i (fun h => ?_) (fun h => ?_)
                          · conv => whnf
                            refine cond_i (fun h => ?_) (fun h => ?_)
                            · conv => whnf
                              exact hstep ⟨s, d, u, l, false⟩ du hp
                            · exact absurd (by simpa using h) hf2
                          · exact absurd (by simpa using h) hf1
                      · have hk : kk > 7 := by omega
                        · have hdn : dn = false := by
                            cases hm : dn
                            · rfl
                            · exact absurd ⟨hm, by omega⟩ hd
                          rw [hact]
                          have hs := pre_append (x := x) hp (show (Dk.mk s d u l dn).down = false from hdn)
                          generalize dappend ⟨s, d, u, l, dn⟩ x = Y at hs
                          obtain ⟨m', e⟩ := Y
                          obtain ⟨s', d', u', l', dn'⟩ := m'
                          simp only at hs
                          subst hdn
                          rcases hs with ⟨rfl, hp', rfl, rfl⟩ | ⟨rfl, hp', rfl, q, rfl⟩ | ⟨hf1, hf2⟩
                          · have hlen : (d ++ x).length ≤ (d ++ x).length := Nat.le_refl _
                            have htk : (d ++ x).take (d ++ x).length = d ++ x := List.take_length
                            have hdu : du ≤ (d ++ x).length := by have := hp'.1; unfold Good at this; have := hp'.2; simp only at *; omega
                            conv => whnf
                            refine cond_i (fun h => absurd (of_decide_eq_true h) (by omega)) (fun _ => ?_)
                            conv => whnf
                            refine cond_i (fun _ => ?_) (fun h => absurd hk (of_decide_eq_false h))
                            refine ⟨bytes x, enc_bytes x, ?_⟩
                            refine ⟨?_, ?_⟩
                            · show (bytes d).size + (bytes x).size ≤ 9223372036854775807
                              rw [bytes_size, bytes_size]
                              have := hp.1
                              unfold Good at this
                              simp only at this hod
                              omega
                            rw [show bytes (Dk.data ⟨s, d, u, l, false⟩) ++ bytes x = bytes (d ++ x) from bytes_app d x]
                            conv => whnf
                            refine cond_i (fun h => absurd (eq_of_beq h) h3) (fun _ => ?_)
                            conv => whnf
                            refine cond_i (fun h => absurd (eq_of_beq h) h4) (fun _ => ?_)
                            conv => whnf
                            refine cond_i (fun h => absurd (eq_of_beq h) h5) (fun _ => ?_)
                            conv => whnf
                            refine cond_i (fun h => absurd (of_decide_eq_true h) ?_) (fun _ => ?_)
                            · show ¬ ((enc (d ++ x)).length : Int) > ((bytes (d ++ x)).size : Int)
                              rw [enc_length, bytes_size]; omega
                            refine ⟨bytes (d ++ x), enc_bytes (d ++ x), ?_⟩
                            refine ⟨?_, ?_, ?_, ?_⟩
                            · show (0 : Int) ≤ 0
                              omega
                            · show (0 : Int) ≤ ((enc (d ++ x)).length : Int)
                              omega
                            · show ((enc (d ++ x)).length : Int) ≤ ((bytes (d ++ x)).size : Int)
                              rw [enc_length, bytes_size]; omega
                            conv => whnf
                            refine cond_i (fun h => absurd h ?_) (fun _ => ?_)
                            · show ¬ (!((bytes (d ++ x)).toList == ((bytes (d ++ x)).extract 0 (((enc (d ++ x)).length : Int)).toNat).toList)) = true
                              rw [Int.toNat_natCast, enc_length, bytes_extract, bytes_eq, htk]
                              simp
                            conv => whnf
                            refine cond_i (fun h => absurd (of_decide_eq_true h) ?_) (fun _ => ?_)
                            · show ¬ ((enc (d ++ x)).length : Int) < du
                              rw [enc_length]; omega
                            conv => whnf
                            refine cond_i (fun h => ?_) (fun _ => ?_)
                            · exact absurd (eq_of_beq h) h7
                            conv => whnf
                            refine cond_i (fun h => ?_) (fun _ => ?_)
                            · exact absurd (eq_of_beq h) h7
                            conv => whnf
                            exact hstep ⟨s', d ++ x, u', l', false⟩ du hp'
                          · have hlen : (d ++ x.take q).length ≤ (d ++ x).length := by simp only [List.length_append, List.length_take]; omega
                            have htk : (d ++ x).take (d ++ x.take q).length = d ++ x.take q := by
                              simp only [List.length_append, List.length_take, List.take_append, List.take_of_length_le (Nat.le_add_right _ _), Nat.add_sub_cancel_left]
                              congr 1
                              rw [Nat.min_def]
                              split
                              · rfl
                              · rw [List.take_length, List.take_of_length_le (by omega)]
                            have hdu : du ≤ (d ++ x.take q).length := by have := hp'.1; unfold Good at this; have := hp'.2; simp only at *; omega
                            conv => whnf
                            refine cond_i (fun h => absurd (of_decide_eq_true h) (by omega)) (fun _ => ?_)
                            conv => whnf
                            refine cond_i (fun _ => ?_) (fun h => absurd hk (of_decide_eq_false h))
                            refine ⟨bytes x, enc_bytes x, ?_⟩
                            refine ⟨?_, ?_⟩
                            · show (bytes d).size + (bytes x).size ≤ 9223372036854775807
                              rw [bytes_size, bytes_size]
                              have := hp.1
                              unfold Good at this
                              simp only at this hod
                              omega
                            rw [show bytes (Dk.data ⟨s, d, u, l, false⟩) ++ bytes x = bytes (d ++ x) from bytes_app d x]
                            conv => whnf
                            refine cond_i (fun h => absurd (of_decide_eq_true h) ?_) (fun _ => ?_)
                            · show ¬ ((enc (d ++ x.take q)).length : Int) > ((bytes (d ++ x)).size : Int)
                              rw [enc_length, bytes_size]; omega
                            refine ⟨bytes (d ++ x.take q), enc_bytes (d ++ x.take q), ?_⟩
                            refine ⟨?_, ?_, ?_, ?_⟩
                            · show (0 : Int) ≤ 0
                              omega
                            · show (0 : Int) ≤ ((enc (d ++ x.take q)).length : Int)
                              omega
                            · show ((enc (d ++ x.take q)).length : Int) ≤ ((bytes (d ++ x)).size : Int)
                              rw [enc_length, bytes_size]; omega
                            conv => whnf
                            refine cond_i (fun h => absurd h ?_) (fun _ => ?_)
                            · show ¬ (!((bytes (d ++ x.take q)).toList == ((bytes (d ++ x)).extract 0 (((enc (d ++ x.take q)).length : Int)).toNat).toList)) = true
                              rw [Int.toNat_natCast, enc_length, bytes_extract, bytes_eq, htk]
                              simp
                            conv => whnf
                            refine cond_i (fun h => absurd (of_decide_eq_true h) ?_) (fun _ => ?_)
                            · show ¬ ((enc (d ++ x.take q)).length : Int) < du
                              rw [enc_length]; omega
                            conv => whnf
                            refine cond_i (fun h => ?_) (fun _ => ?_)
                            · exact absurd (eq_of_beq h) h7
                            refine ⟨bytes (d ++ x.take q), enc_bytes (d ++ x.take q), ?_⟩
                            conv => whnf
                            refine cond_i (fun h => ?_) (fun _ => ?_)
                            · exact absurd (eq_of_beq h) h7
                            conv => whnf
                            exact hstep ⟨s', d ++ x.take q, u', l', true⟩ du hp'
                          · conv => whnf
                            refine cond_i (fun h => ?_) (fun h => ?_)
                            · conv => whnf
                              refine cond_i (fun h => ?_) (fun h => ?_)
                              · conv => whnf
                                exact hstep ⟨s, d, u, l, false⟩ du hp
                              · exact absurd (by simpa using h) hf2
                            · exact absurd (by simpa using h) hf1
      · refine Sat.mono (sat_crash ⟨s, d, u, l, dn⟩ k) ?_
        have hs := pre_crash (k := k) hp
        rintro _ rfl
        generalize dcrash ⟨s, d, u, l, dn⟩ k = c at hs
        obtain ⟨s', d', u', l', dn'⟩ := c
        simp only at hs
        obtain ⟨hp', rfl, rfl, rfl, hlen, htk, hdu⟩ := hs
        conv => whnf
        refine cond_i (fun _ => ?_) (fun h => absurd ?_ (of_decide_eq_false h))
        · refine ⟨bytes d', enc_bytes d', ?_⟩
          refine ⟨?_, ?_, ?_⟩
          · show (0 : Int) ≤ ((enc d').length : Int)
            omega
          · show ((enc d').length : Int) ≤ ((enc d).length : Int)
            rw [enc_length, enc_length]; omega
          · have ht' : (enc d).take (((enc d').length : Int)).toNat = enc d' := by
              rw [Int.toNat_natCast, enc_length, enc_take, ← htk]
            refine ⟨bytes d', ht'.trans (enc_bytes d'), ?_⟩
            conv => whnf
            refine cond_i (fun _ => ?_) (fun h => absurd ?_ (Bool.eq_false_iff.1 h))
            · conv => whnf
              refine cond_i (fun _ => ?_) (fun h => absurd ?_ (of_decide_eq_false h))
              · conv => whnf
                refine cond_i (fun _ => rfl) (fun h => absurd ?_ (Bool.eq_false_iff.1 h))
                show ((d'.length : Int) == ((enc d').length : Int)) = true
                rw [enc_length]; exact beq_self_eq_true _
              · show ((enc d').length : Int) ≥ du
                rw [enc_length]; exact hdu
            · show ((bytes d').toList == (bytes d').toList) = true
              exact beq_self_eq_true _
        · show ((enc d').length : Int) ≤ ((enc d).length : Int)
          rw [enc_length, enc_length]; omega
end Go.Proofs.Ytbdcgchgpdclaaa
