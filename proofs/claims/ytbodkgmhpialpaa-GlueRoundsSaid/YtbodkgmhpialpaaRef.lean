/- What the document's Share answers: the same pair 'M.share' as glue.Share, for all numbers; the memory stays as it was. Conditions: none beyond that the numbers are of 64 bits. -/
import Derived.Test.YtbodkgmhpialpaaShare
namespace Go.Proofs.Ytbodkgmhpialpaa
open Go.RowKit
/-- A bit of a number, as the code asks it. -/
theorem bit_test (b k : Nat) (hb : b ≤ 70368744177664) (v : Bool) (h : decide (b / 2 ^ k % 2 = 1) = v) : (bits .and .i64 ((b : Int) / 2 ^ k) 1 == 1) = v := by
  have h1 : ((b : Int) / 2 ^ k) = ((b / 2 ^ k : Nat) : Int) := by push_cast; rfl
  have h2 : b / 2 ^ k ≤ 70368744177664 := Nat.le_trans (Nat.div_le_self _ _) hb
  rw [h1, ← h]
  generalize b / 2 ^ k = c at *
  have h3 := bits_mask .i64 47 (by decide) (fun n h0 h1 => by rw [IntKind.wrap_i64]; omega) 1 (by decide) (c : Int) (by omega) (by omega)
  have h4 : bits .and .i64 (c : Int) 1 = (c : Int) % 2 := h3
  rw [h4]
  rw [Bool.eq_iff_iff]
  simp
  omega
def signOf (s n : Int) : Int := if decide (n < 0) != decide (s < 0) then -1 else 1
theorem M.high_of {b a d m q r : Nat} (h : M.Upto b a d m q r) (hq : 70368744177664 < q) (hd : 0 < d) : 70368744177664 < M.rnd (a * b) d := by
  have h1 : q ≤ a * b / d := by rw [Nat.le_div_iff_mul_le hd, Nat.mul_comm a]; exact h.quot
  unfold M.rnd
  split <;> omega
theorem sign_wrap {s n σ : Int} (h : Hid (σ = signOf s n)) (x : Nat) (hx : x ≤ 70368744177664) : wrap64 (σ * (x : Int)) = σ * (x : Int) := by
  have h1 := h.out
  unfold signOf at h1
  split at h1 <;> subst h1 <;> unfold wrap64 <;> omega
theorem sign_wrap1 {s n σ : Int} (h : Hid (σ = signOf s n)) (x : Nat) (hx : x + 1 ≤ 70368744177664) : wrap64 (σ * ((x : Int) + 1)) = σ * ((x + 1 : Nat) : Int) := by
  have := sign_wrap h (x + 1) hx
  rw [show ((x + 1 : Nat) : Int) = (x : Int) + 1 from by omega] at this ⊢
  exact this
theorem ret_wrap {x y : Int} (h : x = y) : Ending.returned (.tuple #[.int .i64 x, .int .i64 0]) = Ending.returned (.tuple #[.int .i64 y, .int .i64 0]) := by rw [h]
/-- What Share's bounds say. -/
def InBounds (s n : Int) (D : Nat) : Prop := decide ((D : Int) < 1) = false ∧ M.near s = true ∧ M.near n = true ∧ M.near (D : Int) = true
theorem share_eq {s n : Int} {D a b : Nat} (h : InBounds s n D) (ha : Hid (a = n.natAbs)) (hb : Hid (b = s.natAbs)) :
    M.share s n (D : Int) = if M.rnd (a * b) D ≤ 70368744177664 then (M.sgn s n (M.rnd (a * b) D), 0) else (0, 20) := by
  obtain ⟨h0, h1, h2, h3⟩ := h
  have h0' : ¬ (D : Int) < 1 := of_decide_eq_false h0
  unfold M.share
  rw [if_neg (by simp only [h1, h2, h3]; simp; omega), Int.toNat_natCast, ← ha.out, ← hb.out]
theorem share_high {s n : Int} {D a b : Nat} (h : InBounds s n D) (ha : Hid (a = n.natAbs)) (hb : Hid (b = s.natAbs)) (hr : 70368744177664 < M.rnd (a * b) D) : M.share s n (D : Int) = (0, 20) := by
  rw [share_eq h ha hb, if_neg (by omega)]
theorem share_low {s n σ : Int} {D a b : Nat} (h : InBounds s n D) (ha : Hid (a = n.natAbs)) (hb : Hid (b = s.natAbs)) (hσ : Hid (σ = signOf s n)) (hr : M.rnd (a * b) D ≤ 70368744177664) :
    M.share s n (D : Int) = (σ * (M.rnd (a * b) D : Int), 0) := by
  rw [share_eq h ha hb, if_pos hr, hσ.out]
  unfold M.sgn signOf
  split <;> simp
set_option maxRecDepth 100000 in
set_option maxHeartbeats 2000000 in
theorem refShare_core (s n d : Int) (w : World) (hd : decide (d < 1) = false) (h1 : M.near s = true) (h2 : M.near n = true) (h3 : M.near d = true) :
    Calls Try.prog 6 #[.int .i64 s, .int .i64 n, .int .i64 d] w fun e w' => ShareSaid s n d e ∧ w = w' := by
  have hd1 : 1 ≤ d := by simpa using hd
  obtain ⟨s1, s2⟩ := (M.near_iff s).1 h1
  obtain ⟨n1, n2⟩ := (M.near_iff n).1 h2
  obtain ⟨d1, d2⟩ := (M.near_iff d).1 h3
  obtain ⟨D, rfl⟩ : ∃ D : Nat, d = (D : Int) := ⟨d.toNat, by omega⟩
  obtain ⟨a, ha⟩ : ∃ a : Nat, Hid (a = n.natAbs) := ⟨_, Lib.hid rfl⟩
  obtain ⟨b, hb⟩ : ∃ b : Nat, Hid (b = s.natAbs) := ⟨_, Lib.hid rfl⟩
  obtain ⟨σ, hσ⟩ : ∃ σ : Int, Hid (σ = signOf s n) := ⟨_, Lib.hid rfl⟩
  go_enter Try.func6, Try.ntmps6
  go_upto_if 30 with (go_at_call 11; refine (within_any _ _).mono ?_; rintro e w' ⟨rfl, rfl⟩)
  go_cut [0, 8] from 12 (fun v0 v8 wc => w = wc ∧ v0 = .int .i64 (b : Int) ∧ v8 = .int .i64 (if s < 0 then -1 else 1))
  case first =>
    by_cases hs : s < 0
    · have e1 : -s = (b : Int) := by rw [hb.out]; omega
      have hsb : decide (s < 0) = true := decide_eq_true hs
      go_wp2
      go_meet
      case rel => exact ⟨rfl, rfl, by rw [if_pos hs]⟩
    · have e1 : s = (b : Int) := by rw [hb.out]; omega
      have hsb : decide (s < 0) = false := decide_eq_false hs
      have E1 := Lib.hid e1
      clear e1
      go_wp2
      go_meet
      case rel => exact ⟨rfl, by rw [← E1.out], by rw [if_neg (by omega)]⟩
  case rest =>
    obtain ⟨rfl, rfl, rfl⟩ := hcut
    go_upto_if 36 with fail
    go_cut [1, 8] from 12 (fun v1 v8 wc => w = wc ∧ v1 = .int .i64 (a : Int) ∧ v8 = .int .i64 σ)
    case first =>
      by_cases hs : n < 0
      · have e1 : -n = (a : Int) := by rw [ha.out]; omega
        have hsb : decide (n < 0) = true := decide_eq_true hs
        cases hsc : decide (s < 0) <;> (
          have e2 := Lib.hid (show (if s < 0 then (-1 : Int) else 1) = if decide (s < 0) then -1 else 1 from by simp)
          have e3 := Lib.hid (show signOf s n = if true != decide (s < 0) then -1 else 1 from by unfold signOf; rw [hsb])
          rw [e2.out, hsc]
          go_wp2
          go_meet
          case rel => exact ⟨rfl, rfl, by rw [hσ.out, e3.out, hsc]; rfl⟩)
      · have e1 : n = (a : Int) := by rw [ha.out]; omega
        have hsb : decide (n < 0) = false := decide_eq_false hs
        have E1 := Lib.hid e1
        clear e1
        cases hsc : decide (s < 0) <;> (
          have e2 := Lib.hid (show (if s < 0 then (-1 : Int) else 1) = if decide (s < 0) then -1 else 1 from by simp)
          have e3 := Lib.hid (show signOf s n = if false != decide (s < 0) then -1 else 1 from by unfold signOf; rw [hsb])
          rw [e2.out, hsc]
          go_wp2
          go_meet
          case rel => exact ⟨rfl, by rw [← E1.out], by rw [hσ.out, e3.out, hsc]; rfl⟩)
    case rest =>
      obtain ⟨rfl, rfl, rfl⟩ := hcut
      have hab : a ≤ 70368744177664 := by rw [ha.out]; omega
      have hbb : b ≤ 70368744177664 := by rw [hb.out]; omega
      have hDb : D ≤ 70368744177664 := by omega
      have hD0 : 0 < D := by omega
      have HF := Lib.hid (And.intro hd (And.intro h1 (And.intro h2 h3)))
      clear hd h1 h2 h3 s1 s2 n1 n2 d1 d2 hd1
      have hDi : ((D : Int) == 0) = false := by simp; omega
      go_wp2_with fail
      go_loop [9, 10, 11] (fun v9 v10 v11 => ∃ (m q r : Nat) (t : Int), v9 = .int .i64 (q : Int) ∧ v10 = .int .i64 (r : Int) ∧ v11 = .int .i64 t ∧ Hid (t = (m : Int) - 1) ∧ m ≤ 47 ∧ q ≤ 70368744177664 ∧ M.Upto b a D m q r) (fun _ _ v11 => (intOf v11 + 1).toNat)
      case atStart => exact ⟨47, 0, 0, 46, rfl, rfl, rfl, Lib.hid rfl, by omega, by omega, M.Upto.start b a D hbb hD0⟩
      case round =>
        obtain ⟨m, q, r, t, rfl, rfl, rfl, ht, hm, hq, hU⟩ := hrel
        rename w = w => hww
        clear hww
        have hr := hU.2
        have HU := Lib.hid hU
        clear hU
        rcases m with _ | k
        · obtain rfl : t = -1 := ht.out
          have hk0 : decide (0 ≤ (-1 : Int)) = false := by decide
          have hrb : r ≤ 70368744177664 := by omega
          obtain ⟨e1, e2⟩ := HU.out.last
          by_cases hup : D ≤ 2 * r
          · have hupb : decide ((D : Int) ≤ 2 * (r : Int)) = true := by simp; omega
            have hrnd := Lib.hid (show M.rnd (a * b) D = q + 1 from by unfold M.rnd; rw [← e1, ← e2, if_pos hup])
            clear e1 e2 hup
            by_cases hbig : 70368744177664 < q + 1
            · have hbg : decide (70368744177664 < (q : Int) + 1) = true := by simp; omega
              have Hbig := Lib.hid hbig
              clear hbig
              go_wp2
              go_ret2
              exact ⟨by unfold ShareSaid; rw [share_high HF.out ha hb (by rw [hrnd.out]; exact Hbig.out)]; rfl, rfl⟩
            · have hbg : decide (70368744177664 < (q : Int) + 1) = false := by simp; omega
              have Hbig := Lib.hid hbig
              clear hbig
              have hS := Lib.hid (share_low HF.out ha hb hσ (by rw [hrnd.out]; have := Hbig.out; omega))
              rw [hrnd.out] at hS
              go_wp2
              go_ret2
              exact ⟨by unfold ShareSaid; rw [hS.out]; exact ret_wrap (sign_wrap1 hσ q (by have := Hbig.out; omega)), rfl⟩
          · have hupb : decide ((D : Int) ≤ 2 * (r : Int)) = false := by simp; omega
            have hrnd := Lib.hid (show M.rnd (a * b) D = q from by unfold M.rnd; rw [← e1, ← e2, if_neg hup])
            clear e1 e2 hup
            have hbg : decide (70368744177664 < (q : Int)) = false := by simp; omega
            have hS := Lib.hid (share_low HF.out ha hb hσ (by rw [hrnd.out]; exact hq))
            rw [hrnd.out] at hS
            go_wp2
            go_ret2
            exact ⟨by unfold ShareSaid; rw [hS.out]; exact ret_wrap (sign_wrap hσ _ (by omega)), rfl⟩
        · obtain rfl : t = (k : Int) := by have := ht.out; omega
          have hk0 : decide (0 ≤ (k : Int)) = true := by simp
          cases hbit : decide (b / 2 ^ k % 2 = 1)
          · have hbt := bit_test b k hbb _ hbit
            have hbit' := hbit
            clear hbit
            have hbit := Lib.hid hbit'
            clear hbit'
            obtain ⟨x, hx⟩ : ∃ x : Nat, Hid (x = 2 * r) := ⟨_, Lib.hid rfl⟩
            obtain ⟨y, hy⟩ : ∃ y : Nat, Hid (y = x / D) := ⟨_, Lib.hid rfl⟩
            obtain ⟨z, hz⟩ : ∃ z : Nat, Hid (z = x % D) := ⟨_, Lib.hid rfl⟩
            obtain ⟨q2, hq2⟩ : ∃ q2 : Nat, Hid (q2 = 2 * q + y) := ⟨_, Lib.hid rfl⟩
            have hU2 : Hid (M.Upto b a D k q2 z) := Lib.hid (by rw [hq2.out, hy.out, hz.out, hx.out]; exact HU.out.bit0 hD0 (by have := of_decide_eq_false hbit.out; omega))
            have hxb : x ≤ 300000000000000 := by have := hx.out; omega
            have hyb : y ≤ x := by rw [hy.out]; exact Nat.div_le_self _ _
            have f1 : 2 * (r : Int) = (x : Int) := by have := hx.out; omega
            have f2 : (x : Int) / (D : Int) = (y : Int) := by rw [hy.out]; exact (Int.natCast_ediv _ _).symm
            have f3 : (x : Int) % (D : Int) = (z : Int) := by rw [hz.out]; exact (Int.natCast_emod _ _).symm
            have f4 : 2 * (q : Int) + (y : Int) = (q2 : Int) := by have := hq2.out; omega
            have hq2b : q2 ≤ 600000000000000 := by have := hq2.out; omega
            by_cases hbig : 70368744177664 < q2
            · have hbg : decide (70368744177664 < (q2 : Int)) = true := by simp; omega
              have Hbig := Lib.hid hbig
              clear hbig
              go_wp2
              go_ret2
              exact ⟨by unfold ShareSaid; rw [share_high HF.out ha hb (M.high_of hU2.out Hbig.out hD0)]; rfl, rfl⟩
            · have hbg : decide (70368744177664 < (q2 : Int)) = false := by simp; omega
              have Hbig := Lib.hid hbig
              clear hbig
              go_wp2
              go_round
              case rel => exact ⟨k, q2, z, (k : Int) - 1, rfl, by rw [f3], rfl, Lib.hid rfl, by omega, by have := Hbig.out; omega, hU2.out⟩
              case measure => simp [intOf]
          · have hbt := bit_test b k hbb _ hbit
            have hbit' := hbit
            clear hbit
            have hbit := Lib.hid hbit'
            clear hbit'
            obtain ⟨x, hx⟩ : ∃ x : Nat, Hid (x = 2 * r + a) := ⟨_, Lib.hid rfl⟩
            obtain ⟨y, hy⟩ : ∃ y : Nat, Hid (y = x / D) := ⟨_, Lib.hid rfl⟩
            obtain ⟨z, hz⟩ : ∃ z : Nat, Hid (z = x % D) := ⟨_, Lib.hid rfl⟩
            obtain ⟨q2, hq2⟩ : ∃ q2 : Nat, Hid (q2 = 2 * q + y) := ⟨_, Lib.hid rfl⟩
            have hU2 : Hid (M.Upto b a D k q2 z) := Lib.hid (by rw [hq2.out, hy.out, hz.out, hx.out]; exact HU.out.bit1 hD0 (of_decide_eq_true hbit.out))
            have hxb : x ≤ 300000000000000 := by have := hx.out; omega
            have hyb : y ≤ x := by rw [hy.out]; exact Nat.div_le_self _ _
            have f1 : 2 * (r : Int) + (a : Int) = (x : Int) := by have := hx.out; omega
            have f2 : (x : Int) / (D : Int) = (y : Int) := by rw [hy.out]; exact (Int.natCast_ediv _ _).symm
            have f3 : (x : Int) % (D : Int) = (z : Int) := by rw [hz.out]; exact (Int.natCast_emod _ _).symm
            have f4 : 2 * (q : Int) + (y : Int) = (q2 : Int) := by have := hq2.out; omega
            have hq2b : q2 ≤ 600000000000000 := by have := hq2.out; omega
            by_cases hbig : 70368744177664 < q2
            · have hbg : decide (70368744177664 < (q2 : Int)) = true := by simp; omega
              have Hbig := Lib.hid hbig
              clear hbig
              go_wp2
              go_ret2
              exact ⟨by unfold ShareSaid; rw [share_high HF.out ha hb (M.high_of hU2.out Hbig.out hD0)]; rfl, rfl⟩
            · have hbg : decide (70368744177664 < (q2 : Int)) = false := by simp; omega
              have Hbig := Lib.hid hbig
              clear hbig
              go_wp2
              go_round
              case rel => exact ⟨k, q2, z, (k : Int) - 1, rfl, by rw [f3], rfl, Lib.hid rfl, by omega, by have := Hbig.out; omega, hU2.out⟩
              case measure => simp [intOf]

theorem refShare_any (s n d : Int) (w : World) :
    Calls Try.prog 6 #[.int .i64 s, .int .i64 n, .int .i64 d] w fun e w' => ShareSaid s n d e ∧ w = w' := by
  by_cases hd : d < 1
  · have hb : decide (d < 1) = true := decide_eq_true hd
    have hr := Lib.hid (show M.share s n d = (0, 11) from by unfold M.share; rw [if_pos (.inl hd)])
    clear hd
    go_enter Try.func6, Try.ntmps6
    go_wp2_with fail
    go_ret2
    exact ⟨by unfold ShareSaid; rw [hr.out]; rfl, rfl⟩
  have hb : decide (d < 1) = false := decide_eq_false hd
  cases h1 : M.near s
  · have hr := Lib.hid (show M.share s n d = (0, 11) from by unfold M.share; rw [if_pos (.inr (.inl h1))])
    clear hd
    go_enter Try.func6, Try.ntmps6
    go_wp2_with (go_at_call 11; refine (within_any _ _).mono ?_; rintro e w' ⟨rfl, rfl⟩)
    go_ret2
    exact ⟨by unfold ShareSaid; rw [hr.out]; rfl, rfl⟩
  cases h2 : M.near n
  · have hr := Lib.hid (show M.share s n d = (0, 11) from by unfold M.share; rw [if_pos (.inr (.inr (.inl h2)))])
    clear hd
    go_enter Try.func6, Try.ntmps6
    go_wp2_with (go_at_call 11; refine (within_any _ _).mono ?_; rintro e w' ⟨rfl, rfl⟩)
    go_ret2
    exact ⟨by unfold ShareSaid; rw [hr.out]; rfl, rfl⟩
  cases h3 : M.near d
  · have hr := Lib.hid (show M.share s n d = (0, 11) from by unfold M.share; rw [if_pos (.inr (.inr (.inr h3)))])
    clear hd
    go_enter Try.func6, Try.ntmps6
    go_wp2_with (go_at_call 11; refine (within_any _ _).mono ?_; rintro e w' ⟨rfl, rfl⟩)
    go_ret2
    exact ⟨by unfold ShareSaid; rw [hr.out]; rfl, rfl⟩
  exact refShare_core s n d w hb h1 h2 h3
end Go.Proofs.Ytbodkgmhpialpaa
