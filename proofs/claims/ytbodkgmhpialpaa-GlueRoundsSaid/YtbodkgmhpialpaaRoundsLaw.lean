/- Plain laws of the shares 'M.share': turned round, whole, never falling. No program and no memory occur here. Conditions: as each lemma states. -/
import Derived.Test.YtbodkgmhpialpaaShare
namespace Go.Proofs.Ytbodkgmhpialpaa.M

theorem rnd_eq (p d : Nat) (hd : 0 < d) : rnd p d = (2 * p + d) / (2 * d) := by
  have h1 := Nat.div_add_mod p d
  have h2 := Nat.mod_lt p hd
  unfold rnd
  generalize p / d = q at *
  generalize p % d = r at *
  split
  · symm
    apply Nat.div_eq_of_lt_le
    · rw [Nat.add_mul, Nat.mul_comm q, Nat.mul_assoc]; omega
    · rw [Nat.add_mul, Nat.add_mul, Nat.mul_comm q, Nat.mul_assoc]; omega
  · symm
    apply Nat.div_eq_of_lt_le
    · rw [Nat.mul_comm q, Nat.mul_assoc]; omega
    · rw [Nat.add_mul, Nat.mul_comm q, Nat.mul_assoc]; omega
theorem rnd_mono {p p' d : Nat} (hd : 0 < d) (h : p ≤ p') : rnd p d ≤ rnd p' d := by
  rw [rnd_eq p d hd, rnd_eq p' d hd]
  exact Nat.div_le_div_right (by omega)
theorem rnd_whole (a d : Nat) (hd : 0 < d) : rnd (a * d) d = a := by
  unfold rnd
  rw [Nat.mul_mod_left, Nat.mul_div_cancel _ hd, if_neg (by omega)]
theorem rnd_zero (d : Nat) (hd : 0 < d) : rnd 0 d = 0 := by
  have := rnd_whole 0 d hd
  rwa [Nat.zero_mul] at this

/-- What holds where a share is answered. -/
theorem share_ok {s n d : Int} (h : (share s n d).2 = 0) :
    1 ≤ d ∧ near s = true ∧ near n = true ∧ near d = true ∧ rnd (n.natAbs * s.natAbs) d.toNat ≤ 70368744177664 ∧ share s n d = (sgn s n (rnd (n.natAbs * s.natAbs) d.toNat), 0) := by
  unfold share at h ⊢
  split at h
  · exact absurd h (by decide)
  · rename_i h0
    rw [if_neg h0]
    split at h
    · rename_i h1
      rw [if_pos h1]
      simp only [not_or, Bool.not_eq_false] at h0
      exact ⟨by omega, h0.2.1, h0.2.2.1, h0.2.2.2, h1, rfl⟩
    · exact absurd h (by decide)
theorem share_intro {s n d : Int} (h0 : 1 ≤ d) (h1 : near s = true) (h2 : near n = true) (h3 : near d = true) (h4 : rnd (n.natAbs * s.natAbs) d.toNat ≤ 70368744177664) :
    share s n d = (sgn s n (rnd (n.natAbs * s.natAbs) d.toNat), 0) := by
  unfold share
  rw [if_neg (by simp only [h1, h2, h3]; simp; omega), if_pos h4]
theorem share_err {s n d : Int} (h : (share s n d).2 ≠ 0) : (share s n d).1 = 0 := by
  unfold share at h ⊢
  split
  · rfl
  · split
    · rename_i h0 h1
      rw [if_neg h0, if_pos h1] at h
      exact absurd rfl h
    · rfl
theorem share_small {s n d : Int} (h : (share s n d).2 = 0) : -70368744177664 ≤ (share s n d).1 ∧ (share s n d).1 ≤ 70368744177664 := by
  obtain ⟨_, _, _, _, h4, h5⟩ := share_ok h
  rw [h5]
  generalize rnd (n.natAbs * s.natAbs) d.toNat = q at *
  unfold sgn
  split <;> simp <;> omega
theorem share_neg {s n d : Int} (h : (share s n d).2 = 0) : share (-s) n d = (-(share s n d).1, 0) := by
  obtain ⟨h0, h1, h2, h3, h4, h5⟩ := share_ok h
  obtain ⟨s1, s2⟩ := (near_iff s).1 h1
  have e : (-s).natAbs = s.natAbs := by omega
  rw [h5, share_intro h0 ((near_iff (-s)).2 (by omega)) h2 h3 (by rw [e]; exact h4), e]
  by_cases hz : s = 0
  · subst hz
    have : rnd (n.natAbs * (0 : Int).natAbs) d.toNat = 0 := by rw [show (0 : Int).natAbs = 0 from rfl, Nat.mul_zero]; exact rnd_zero _ (by omega)
    rw [this]
    unfold sgn
    split <;> split <;> simp
  · have hs : decide (-s < 0) = !decide (s < 0) := by
      by_cases h : s < 0
      · simp [h]; omega
      · simp [h]; omega
    unfold sgn
    rw [hs]
    generalize rnd (n.natAbs * s.natAbs) d.toNat = q
    cases decide (n < 0) <;> cases decide (s < 0) <;> simp
theorem share_whole {s n d : Int} (h : (share s n d).2 = 0) : share d n d = (n, 0) := by
  obtain ⟨h0, h1, h2, h3, _, _⟩ := share_ok h
  obtain ⟨n1, n2⟩ := (near_iff n).1 h2
  have e : rnd (n.natAbs * d.natAbs) d.toNat = n.natAbs := by rw [show d.toNat = d.natAbs from by omega]; exact rnd_whole _ _ (by omega)
  rw [share_intro h0 h3 h2 h3 (by rw [e]; omega), e]
  have hd : decide (d < 0) = false := by simp; omega
  unfold sgn
  rw [hd]
  by_cases hn : n < 0
  · rw [if_pos (by simp [hn])]
    rw [show -(n.natAbs : Int) = n from by omega]
  · rw [if_neg (by simp [hn])]
    rw [show (n.natAbs : Int) = n from by omega]
theorem share_mono {s t n d : Int} (h : (share s n d).2 = 0) (k : (share t n d).2 = 0) (hn : 0 ≤ n) (hst : s ≤ t) : (share s n d).1 ≤ (share t n d).1 := by
  obtain ⟨h0, _, _, _, _, h5⟩ := share_ok h
  obtain ⟨_, _, _, _, _, k5⟩ := share_ok k
  rw [h5, k5]
  have hd : 0 < d.toNat := by omega
  have hn' : decide (n < 0) = false := by simp; omega
  unfold sgn
  rw [hn']
  by_cases hs : s < 0
  · by_cases ht : t < 0
    · have := rnd_mono hd (Nat.mul_le_mul_left n.natAbs (show t.natAbs ≤ s.natAbs by omega))
      simp [hs, ht]; omega
    · simp [hs, ht]
  · have ht : ¬ t < 0 := by omega
    have := rnd_mono hd (Nat.mul_le_mul_left n.natAbs (show s.natAbs ≤ t.natAbs by omega))
    simp [hs, ht]; omega
end Go.Proofs.Ytbodkgmhpialpaa.M
