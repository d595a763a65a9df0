/- What glue.Share and the document's Share answer: the same pair, 'M.share', for all numbers; nothing in memory is changed. Conditions: none beyond that the numbers are of 64 bits. -/
import Derived.Test.YtbodkgmhpialpaaDiv
namespace Go.Proofs.Ytbodkgmhpialpaa
open Go.RowKit

namespace M
/-- p / d, rounded, halves up. -/
def rnd (p d : Nat) : Nat := if d ≤ 2 * (p % d) then p / d + 1 else p / d
def near (x : Int) : Bool := decide (-70368744177664 ≤ x) && decide (x ≤ 70368744177664)
theorem near_iff (x : Int) : near x = true ↔ -70368744177664 ≤ x ∧ x ≤ 70368744177664 := by unfold near; simp
end M

theorem near_any (x : Int) (w : World) : Calls Try.prog 9 #[.int .i64 x] w fun e w' => e = .returned (.bool (M.near x)) ∧ w = w' := by
  by_cases h : -70368744177664 ≤ x
  · have hb : decide (-70368744177664 ≤ x) = true := decide_eq_true h
    clear h
    go_enter Try.func9, Try.ntmps9
    go_wp2
    go_ret
    exact ⟨by simp [M.near, hb], rfl⟩
  · have hb : decide (-70368744177664 ≤ x) = false := decide_eq_false h
    clear h
    go_enter Try.func9, Try.ntmps9
    go_wp2
    go_ret
    exact ⟨by simp [M.near, hb], rfl⟩
theorem within_any (x : Int) (w : World) : Calls Try.prog 11 #[.int .i64 x] w fun e w' => e = .returned (.bool (M.near x)) ∧ w = w' := by
  by_cases h : -70368744177664 ≤ x
  · have hb : decide (-70368744177664 ≤ x) = true := decide_eq_true h
    clear h
    go_enter Try.func11, Try.ntmps11
    go_wp2
    go_ret
    exact ⟨by simp [M.near, hb], rfl⟩
  · have hb : decide (-70368744177664 ≤ x) = false := decide_eq_false h
    clear h
    go_enter Try.func11, Try.ntmps11
    go_wp2
    go_ret
    exact ⟨by simp [M.near, hb], rfl⟩
theorem num_any (x : Int) (w : World) : Calls Try.prog 7 #[.int .i64 x] w fun e w' => e = .returned (.int .i64 x) ∧ w = w' := by
  go_enter Try.func7, Try.ntmps7
  go_wp2
  go_ret
  exact ⟨rfl, rfl⟩

/-- What round answers. -/
def RoundSaid (p d : Nat) (e : Ending) : Prop :=
  (M.rnd p d ≤ 70368744177664 → e = .returned (.tuple #[.int .i64 (M.rnd p d : Int), .bool true])) ∧
  (70368744177664 < M.rnd p d → ∃ v : Int, e = .returned (.tuple #[.int .i64 v, .bool false]))
set_option maxHeartbeats 1000000 in
theorem round_any (n s d : Nat) (hn : n ≤ 70368744177664) (hs : s ≤ 70368744177664) (hd : d ≤ 70368744177664) (hd0 : 0 < d) (w : World) :
    Calls Try.prog 10 #[.int .i64 n, .int .i64 s, .int .i64 d] w fun e w' => RoundSaid (n * s) d e ∧ ∃ k, w' = w.drewN k := by
  obtain ⟨hi, hhi⟩ : ∃ x : Nat, Hid (x = n * s / 18446744073709551616) := ⟨_, Lib.hid rfl⟩
  obtain ⟨lo, hlo⟩ : ∃ x : Nat, Hid (x = n * s % 18446744073709551616) := ⟨_, Lib.hid rfl⟩
  obtain ⟨q, hq⟩ : ∃ x : Nat, Hid (x = n * s / d) := ⟨_, Lib.hid rfl⟩
  obtain ⟨r, hr⟩ : ∃ x : Nat, Hid (x = n * s % d) := ⟨_, Lib.hid rfl⟩
  have hP : hi * 18446744073709551616 + lo = n * s := by rw [hhi.out, hlo.out]; exact Nat.div_add_mod' _ _
  have hrd : r < d := by rw [hr.out]; exact Nat.mod_lt _ hd0
  have hlo1 : lo < 18446744073709551616 := by rw [hlo.out]; exact Nat.mod_lt _ (by omega)
  have hrnd : Hid (M.rnd (n * s) d = if d ≤ 2 * r then q + 1 else q) := Lib.hid (by rw [hr.out, hq.out]; rfl)
  have w1 : IntKind.u64.wrap (n : Int) = (n : Int) := M.w64 _ (by omega)
  have w2 : IntKind.u64.wrap (s : Int) = (s : Int) := M.w64 _ (by omega)
  have w3 : IntKind.u64.wrap (d : Int) = (d : Int) := M.w64 _ (by omega)
  have c14 : ∀ w, Calls Try.prog 14 #[.int .u64 (n : Int), .int .u64 (s : Int)] w fun e w' => e = .returned (.tuple #[.int .u64 (hi : Int), .int .u64 (lo : Int)]) ∧ w = w' := by
    intro w
    refine (Try.bits_Mul64 n s (by omega) (by omega) w).mono fun e w' h => ⟨?_, h.2.symm⟩
    rw [h.1, ← hhi.out, ← hlo.out]
  have C14 := Lib.hid c14
  clear c14
  by_cases h1 : d ≤ hi
  · have hb : decide (d ≤ hi) = true := decide_eq_true h1
    have hbig : 70368744177664 < M.rnd (n * s) d := by
      have : 18446744073709551616 ≤ q := by
        rw [hq.out, Nat.le_div_iff_mul_le hd0, ← hP]
        have : 18446744073709551616 * d ≤ 18446744073709551616 * hi := Nat.mul_le_mul_left _ h1
        omega
      rw [hrnd.out]; split <;> omega
    clear h1 hP hrd hlo1
    have Hbig := Lib.hid hbig
    clear hbig
    go_enter Try.func10, Try.ntmps10
    go_wp2_with (go_at_call 14; refine (C14.out _).mono ?_; rintro e w' ⟨rfl, rfl⟩)
    go_ret2
    exact ⟨⟨fun h => absurd h (by have := Hbig.out; omega), fun _ => ⟨_, rfl⟩⟩, 0, rfl⟩
  · have hb : decide (d ≤ hi) = false := decide_eq_false h1
    have c15 : ∀ w, Calls Try.prog 15 #[.int .u64 (hi : Int), .int .u64 (lo : Int), .int .u64 (d : Int)] w fun e w' => e = .returned (.tuple #[.int .u64 (q : Int), .int .u64 (r : Int)]) ∧ ∃ k, w' = w.drewN k := by
      intro w
      refine (div64_any hi lo d hlo1 hd (by omega) w).mono fun e w' h => ⟨?_, h.2⟩
      rw [h.1, hP, ← hq.out, ← hr.out]
    have C15 := Lib.hid c15
    clear c15 hP hlo1 h1
    by_cases h2 : 70368744177664 < q
    · have hb2 : decide (70368744177664 < (q : Int)) = true := by simp; omega
      have hbig := Lib.hid (show 70368744177664 < M.rnd (n * s) d from by rw [hrnd.out]; split <;> omega)
      clear h2 hrd
      go_enter Try.func10, Try.ntmps10
      go_wp2_with (first | (go_at_call 14; refine (C14.out _).mono ?_; rintro e w' ⟨rfl, rfl⟩) | (go_at_call 15; refine (C15.out _).mono ?_; rintro e w' ⟨rfl, ⟨k, rfl⟩⟩))
      go_ret2
      exact ⟨⟨fun h => absurd h (by have := hbig.out; omega), fun _ => ⟨_, rfl⟩⟩, k, rfl⟩
    · have hb2 : decide (70368744177664 < (q : Int)) = false := by simp; omega
      obtain ⟨t, ht⟩ : ∃ t : Nat, Hid (t = d - r) := ⟨_, Lib.hid rfl⟩
      have w4 : IntKind.u64.wrap ((d : Int) - (r : Int)) = (t : Int) := by rw [show (d : Int) - (r : Int) = (t : Int) from by have := ht.out; omega]; exact M.w64 _ (by have := ht.out; omega)
      by_cases h3 : t ≤ r
      · have hb3 : decide (t ≤ r) = true := decide_eq_true h3
        obtain ⟨q1, hq1⟩ : ∃ t : Nat, Hid (t = q + 1) := ⟨_, Lib.hid rfl⟩
        have w5 : IntKind.u64.wrap ((q : Int) + 1) = (q1 : Int) := by rw [show (q : Int) + 1 = (q1 : Int) from by have := hq1.out; omega]; exact M.w64 _ (by have := hq1.out; omega)
        have w6 : IntKind.i64.wrap (q1 : Int) = (q1 : Int) := by have := hq1.out; unfold IntKind.wrap; simp [IntKind.bits, IntKind.signed]; omega
        have hR := Lib.hid (show M.rnd (n * s) d = q1 from by rw [hrnd.out, if_pos (by have := ht.out; omega)]; exact hq1.out.symm)
        by_cases h4 : q1 ≤ 70368744177664
        · have hb4 : decide ((q1 : Int) ≤ 70368744177664) = true := by simp; omega
          have H4 := Lib.hid h4
          clear h2 hrd h3 h4
          go_enter Try.func10, Try.ntmps10
          go_wp2_with (first | (go_at_call 14; refine (C14.out _).mono ?_; rintro e w' ⟨rfl, rfl⟩) | (go_at_call 15; refine (C15.out _).mono ?_; rintro e w' ⟨rfl, ⟨k, rfl⟩⟩))
          go_ret2
          exact ⟨⟨fun _ => by rw [hR.out]; rfl, fun h => absurd h (by have := H4.out; rw [hR.out]; omega)⟩, k, rfl⟩
        · have hb4 : decide ((q1 : Int) ≤ 70368744177664) = false := by simp; omega
          have H4 := Lib.hid h4
          clear h2 hrd h3 h4
          go_enter Try.func10, Try.ntmps10
          go_wp2_with (first | (go_at_call 14; refine (C14.out _).mono ?_; rintro e w' ⟨rfl, rfl⟩) | (go_at_call 15; refine (C15.out _).mono ?_; rintro e w' ⟨rfl, ⟨k, rfl⟩⟩))
          go_ret2
          exact ⟨⟨fun h => absurd h (by have := H4.out; rw [hR.out]; omega), fun _ => ⟨_, rfl⟩⟩, k, rfl⟩
      · have hb3 : decide (t ≤ r) = false := decide_eq_false h3
        have w6 : IntKind.i64.wrap (q : Int) = (q : Int) := by unfold IntKind.wrap; simp [IntKind.bits, IntKind.signed]; omega
        have hR := Lib.hid (show M.rnd (n * s) d = q from by rw [hrnd.out, if_neg (by have := ht.out; omega)])
        have hb4 : decide ((q : Int) ≤ 70368744177664) = true := by simp; omega
        have H4 := Lib.hid h2
        clear h2 hrd h3
        go_enter Try.func10, Try.ntmps10
        go_wp2_with (first | (go_at_call 14; refine (C14.out _).mono ?_; rintro e w' ⟨rfl, rfl⟩) | (go_at_call 15; refine (C15.out _).mono ?_; rintro e w' ⟨rfl, ⟨k, rfl⟩⟩))
        go_ret2
        exact ⟨⟨fun _ => by rw [hR.out]; rfl, fun h => absurd h (by have := H4.out; rw [hR.out]; omega)⟩, k, rfl⟩

namespace M
def sgn (s n : Int) (q : Nat) : Int := if decide (n < 0) != decide (s < 0) then -(q : Int) else q
def share (s n d : Int) : Int × Int :=
  if d < 1 ∨ near s = false ∨ near n = false ∨ near d = false then (0, 11)
  else if rnd (n.natAbs * s.natAbs) d.toNat ≤ 70368744177664 then (sgn s n (rnd (n.natAbs * s.natAbs) d.toNat), 0) else (0, 20)
end M
def ShareSaid (s n d : Int) (e : Ending) : Prop := e = .returned (.tuple #[.int .i64 (M.share s n d).1, .int .i64 (M.share s n d).2])
theorem share_any (s n d : Int) (w : World) :
    Calls Try.prog 5 #[.int .i64 s, .int .i64 n, .int .i64 d] w fun e w' => ShareSaid s n d e ∧ ∃ k, w' = w.drewN k := by
  by_cases hd : d < 1
  · have hb : decide (d < 1) = true := decide_eq_true hd
    have hr := Lib.hid (show M.share s n d = (0, 11) from by unfold M.share; rw [if_pos (.inl hd)])
    clear hd
    go_enter Try.func5, Try.ntmps5
    go_wp2_with fail
    go_ret2
    exact ⟨by unfold ShareSaid; rw [hr.out]; rfl, 0, rfl⟩
  have hb : decide (d < 1) = false := decide_eq_false hd
  cases h1 : M.near s
  · have hr := Lib.hid (show M.share s n d = (0, 11) from by unfold M.share; rw [if_pos (.inr (.inl h1))])
    clear hd
    go_enter Try.func5, Try.ntmps5
    go_wp2_with (go_at_call 9; refine (near_any _ _).mono ?_; rintro e w' ⟨rfl, rfl⟩)
    go_ret2
    exact ⟨by unfold ShareSaid; rw [hr.out]; rfl, 0, rfl⟩
  cases h2 : M.near n
  · have hr := Lib.hid (show M.share s n d = (0, 11) from by unfold M.share; rw [if_pos (.inr (.inr (.inl h2)))])
    clear hd
    go_enter Try.func5, Try.ntmps5
    go_wp2_with (go_at_call 9; refine (near_any _ _).mono ?_; rintro e w' ⟨rfl, rfl⟩)
    go_ret2
    exact ⟨by unfold ShareSaid; rw [hr.out]; rfl, 0, rfl⟩
  cases h3 : M.near d
  · have hr := Lib.hid (show M.share s n d = (0, 11) from by unfold M.share; rw [if_pos (.inr (.inr (.inr h3)))])
    clear hd
    go_enter Try.func5, Try.ntmps5
    go_wp2_with (go_at_call 9; refine (near_any _ _).mono ?_; rintro e w' ⟨rfl, rfl⟩)
    go_ret2
    exact ⟨by unfold ShareSaid; rw [hr.out]; rfl, 0, rfl⟩
  obtain ⟨s1, s2⟩ := (M.near_iff s).1 h1
  obtain ⟨n1, n2⟩ := (M.near_iff n).1 h2
  obtain ⟨d1, d2⟩ := (M.near_iff d).1 h3
  obtain ⟨D, rfl⟩ : ∃ D : Nat, d = (D : Int) := ⟨d.toNat, by omega⟩
  obtain ⟨R, hR⟩ : ∃ R : Nat, Hid (R = M.rnd (n.natAbs * s.natAbs) D) := ⟨_, Lib.hid rfl⟩
  have hsh : M.share s n (D : Int) = if R ≤ 70368744177664 then (M.sgn s n R, 0) else (0, 20) := by
    unfold M.share
    rw [if_neg (by simp only [h1, h2, h3]; simp; omega), Int.toNat_natCast, ← hR.out]
  obtain ⟨a, ha⟩ : ∃ a : Nat, Hid (a = n.natAbs) := ⟨_, Lib.hid rfl⟩
  obtain ⟨b, hb'⟩ : ∃ b : Nat, Hid (b = s.natAbs) := ⟨_, Lib.hid rfl⟩
  have m1 : max n (-n) = (a : Int) := by rw [ha.out]; omega
  have m2 : max s (-s) = (b : Int) := by rw [hb'.out]; omega
  have c10 := fun w => round_any n.natAbs s.natAbs D (by omega) (by omega) (by omega) (by omega) w
  unfold RoundSaid at c10
  rw [← hR.out, ← ha.out, ← hb'.out] at c10
  by_cases hle : R ≤ 70368744177664
  · have C10 : Hid (∀ w, Calls Try.prog 10 #[.int .i64 (a : Int), .int .i64 (b : Int), .int .i64 (D : Int)] w fun e w' => e = .returned (.tuple #[.int .i64 (R : Int), .bool true]) ∧ ∃ k, w' = w.drewN k) :=
      Lib.hid (fun w => (c10 w).mono fun e w' h => ⟨h.1.1 hle, h.2⟩)
    clear c10 hR
    rw [if_pos hle] at hsh
    cases hn : decide (n < 0) <;> cases hs : decide (s < 0) <;> (
      have hsh' := Lib.hid (show M.share s n (D : Int) = (M.sgn s n R, 0) from hsh)
      have hsg := Lib.hid (show M.sgn s n R = if decide (n < 0) != decide (s < 0) then -(R : Int) else R from rfl)
      clear hsh
      go_enter Try.func5, Try.ntmps5
      go_wp2_with (first | (go_at_call 9; refine (near_any _ _).mono ?_; rintro e w' ⟨rfl, rfl⟩) | (go_at_call 10; refine (C10.out _).mono ?_; rintro e w' ⟨rfl, ⟨k, rfl⟩⟩))
      go_ret2
      exact ⟨by unfold ShareSaid; rw [hsh'.out, hsg.out, hn, hs]; rfl, k, rfl⟩)
  · have C10 : Hid (∀ w, Calls Try.prog 10 #[.int .i64 (a : Int), .int .i64 (b : Int), .int .i64 (D : Int)] w fun e w' => (∃ v : Int, e = .returned (.tuple #[.int .i64 v, .bool false])) ∧ ∃ k, w' = w.drewN k) :=
      Lib.hid (fun w => (c10 w).mono fun e w' h => ⟨h.1.2 (by omega), h.2⟩)
    clear c10 hR
    rw [if_neg hle] at hsh
    have hsh' := Lib.hid hsh
    clear hsh
    go_enter Try.func5, Try.ntmps5
    go_wp2_with (first | (go_at_call 9; refine (near_any _ _).mono ?_; rintro e w' ⟨rfl, rfl⟩) | (go_at_call 10; refine (C10.out _).mono ?_; rintro e w' ⟨⟨v, rfl⟩, ⟨k, rfl⟩⟩))
    go_ret2
    exact ⟨by unfold ShareSaid; rw [hsh'.out]; rfl, k, rfl⟩
end Go.Proofs.Ytbodkgmhpialpaa
