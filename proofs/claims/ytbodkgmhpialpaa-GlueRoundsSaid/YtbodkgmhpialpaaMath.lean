/- Plain arithmetic for math/bits.Div64 and for glue's Share: no program and no memory occur here. Conditions: as each lemma states. -/
import Derived.Lib.BitFns
import Derived.Laws.Bits64
import Derived.Laws.Bits64b
namespace Go.Proofs.Ytbodkgmhpialpaa.M

/-! ### one digit of a long division, base 2^32 -/
theorem digit_le {U Y d a b q r : Nat} (hY : Y = a * 4294967296 + b) (hq : q * a + r = U) (hc : q * b ≤ 4294967296 * r + d) : q * Y ≤ U * 4294967296 + d := by
  subst hY hq
  rw [Nat.mul_add, ← Nat.mul_assoc, Nat.add_mul]
  omega
theorem digit_gt {U Y d a b q r : Nat} (hY : Y = a * 4294967296 + b) (hq : q * a + r = U) (hc : 4294967296 * r + d < q * b) : U * 4294967296 + d < q * Y := by
  subst hY hq
  rw [Nat.mul_add, ← Nat.mul_assoc, Nat.add_mul]
  omega
theorem digit_big {U Y d q : Nat} (hU : U < Y) (hd : d < 4294967296) (hq : 4294967296 ≤ q) : U * 4294967296 + d < q * Y := by
  have h1 : (U + 1) * 4294967296 ≤ Y * 4294967296 := Nat.mul_le_mul_right _ hU
  have h2 : 4294967296 * Y ≤ q * Y := Nat.mul_le_mul_right _ hq
  omega
theorem digit_stop {U Y d a b q r : Nat} (hY : Y = a * 4294967296 + b) (hb : b < 4294967296) (hU : U < Y) (hq : q * a + r = U) (hr : 4294967296 ≤ r) : q * Y ≤ U * 4294967296 + d := by
  have hlt : q < 4294967296 := by
    refine Nat.lt_of_not_le fun h => ?_
    have : 4294967296 * a ≤ q * a := Nat.mul_le_mul_right _ h
    omega
  have h1 : q * b ≤ 4294967296 * 4294967296 := Nat.mul_le_mul (Nat.le_of_lt hlt) (Nat.le_of_lt hb)
  exact digit_le hY hq (by omega)
theorem digit_eq {N Y q : Nat} (h1 : q * Y ≤ N) (h2 : N < (q + 1) * Y) : q = N / Y := (Nat.div_eq_of_lt_le h1 h2).symm

/-- What holds at the head of the loop that lowers a guessed digit. -/
structure Head (U Y d a b q r : Nat) : Prop where
  sum : q * a + r = U
  rest : r < 4294967296
  top : U * 4294967296 + d < (q + 1) * Y

theorem Head.start {U Y d a b : Nat} (hY : Y = a * 4294967296 + b) (ha : 2147483648 ≤ a) (ha' : a < 4294967296) (hd : d < 4294967296) : Head U Y d a b (U / a) (U % a) := by
  have hr : U % a < a := Nat.mod_lt _ (by omega)
  have hs : U / a * a + U % a = U := Nat.div_add_mod' U a
  refine ⟨hs, by omega, ?_⟩
  have h1 : U + 1 ≤ (U / a + 1) * a := by rw [Nat.add_mul]; omega
  have h2 : (U + 1) * 4294967296 ≤ (U / a + 1) * a * 4294967296 := Nat.mul_le_mul_right _ h1
  have h3 : (U / a + 1) * Y = (U / a + 1) * a * 4294967296 + (U / a + 1) * b := by rw [hY, Nat.mul_add, Nat.mul_assoc]
  omega

/-- The test of the loop. -/
def high (d b q r : Nat) : Prop := 4294967296 ≤ q ∨ 4294967296 * r + d < q * b

theorem Head.above {U Y d a b q r : Nat} (h : Head U Y d a b q r) (hY : Y = a * 4294967296 + b) (hU : U < Y) (hd : d < 4294967296) (ht : high d b q r) : U * 4294967296 + d < q * Y := by
  rcases ht with ht | ht
  · exact digit_big hU hd ht
  · exact digit_gt hY h.sum ht
theorem Head.pos {U Y d a b q r : Nat} (h : Head U Y d a b q r) (hY : Y = a * 4294967296 + b) (hU : U < Y) (hd : d < 4294967296) (ht : high d b q r) : 1 ≤ q := by
  have := h.above hY hU hd ht
  rcases Nat.eq_zero_or_pos q with h0 | h0
  · subst h0; simp at this
  · exact h0
theorem Head.next_sum {U Y d a b q r : Nat} (h : Head U Y d a b q r) (h1 : 1 ≤ q) : (q - 1) * a + (r + a) = U := by
  obtain ⟨k, rfl⟩ : ∃ k, q = k + 1 := ⟨q - 1, by omega⟩
  have := h.sum
  rw [Nat.add_mul] at this
  simp only [Nat.add_sub_cancel]
  omega
theorem Head.next {U Y d a b q r : Nat} (h : Head U Y d a b q r) (hY : Y = a * 4294967296 + b) (hU : U < Y) (hd : d < 4294967296) (ht : high d b q r) (hr : r + a < 4294967296) : Head U Y d a b (q - 1) (r + a) := by
  have h1 := h.pos hY hU hd ht
  refine ⟨h.next_sum h1, hr, ?_⟩
  rw [show q - 1 + 1 = q from by omega]
  exact h.above hY hU hd ht
theorem Head.brk {U Y d a b q r : Nat} (h : Head U Y d a b q r) (hY : Y = a * 4294967296 + b) (hb : b < 4294967296) (hU : U < Y) (hd : d < 4294967296) (ht : high d b q r) (hr : 4294967296 ≤ r + a) : q - 1 = (U * 4294967296 + d) / Y := by
  have h1 := h.pos hY hU hd ht
  refine digit_eq (digit_stop hY hb hU (h.next_sum h1) hr) ?_
  rw [show q - 1 + 1 = q from by omega]
  exact h.above hY hU hd ht
theorem Head.done {U Y d a b q r : Nat} (h : Head U Y d a b q r) (hY : Y = a * 4294967296 + b) (ht : ¬ high d b q r) : q = (U * 4294967296 + d) / Y := by
  unfold high at ht
  exact digit_eq (digit_le hY h.sum (by omega)) h.top

/-! ### the whole of it -/
theorem two_digits (n d0 Y : Nat) (hY : 0 < Y) :
    (n * 4294967296 + d0) / Y = n / Y * 4294967296 + (n % Y * 4294967296 + d0) / Y ∧ (n * 4294967296 + d0) % Y = (n % Y * 4294967296 + d0) % Y := by
  have e : n * 4294967296 + d0 = (n % Y * 4294967296 + d0) + Y * (n / Y * 4294967296) := by
    have h1 : Y * (n / Y) + n % Y = n := Nat.div_add_mod n Y
    have h2 : (Y * (n / Y) + n % Y) * 4294967296 = n * 4294967296 := by rw [h1]
    rw [Nat.add_mul, Nat.mul_assoc] at h2
    omega
  refine ⟨?_, ?_⟩
  · rw [e, Nat.add_mul_div_left _ _ hY]; omega
  · rw [e, Nat.add_mul_mod_self_left]

theorem bitLen_spec : ∀ (f x : Nat), x ≠ 0 → x < 2 ^ f → x < 2 ^ Lib.bitLenAux f x ∧ 2 ^ Lib.bitLenAux f x ≤ 2 * x ∧ Lib.bitLenAux f x ≤ f
  | 0, x, h0, h => by simp at h; omega
  | f + 1, x, h0, h => by
    simp only [Lib.bitLenAux, if_neg h0]
    by_cases hx : x / 2 = 0
    · have hz : Lib.bitLenAux f (x / 2) = 0 := by rw [hx]; cases f <;> simp [Lib.bitLenAux]
      rw [hz]; simp; omega
    · obtain ⟨h1, h2, h3⟩ := bitLen_spec f (x / 2) hx (by rw [Nat.pow_succ] at h; omega)
      rw [Nat.add_comm 1, Nat.pow_succ]
      omega

/-- How far y is shifted to the left: its top bit comes to stand at 2^63. -/
theorem shift_of (y : Nat) (h0 : 0 < y) (h : y ≤ 70368744177664) : ∃ s : Nat, 64 - (Lib.bitLen y : Int) = (s : Int) ∧ 17 ≤ s ∧ s ≤ 63 ∧ 9223372036854775808 ≤ y * 2 ^ s ∧ y * 2 ^ s < 18446744073709551616 := by
  obtain ⟨h1, h2, h3⟩ := bitLen_spec 64 y (by omega) (by omega)
  have h4 : Lib.bitLen y ≤ 47 := Lib.bitLen_le y 47 (by omega) (by omega)
  change y < 2 ^ Lib.bitLen y at h1
  change 2 ^ Lib.bitLen y ≤ 2 * y at h2
  generalize Lib.bitLen y = L at *
  have hL : L ≠ 0 := by rintro rfl; simp at h1; omega
  refine ⟨64 - L, by omega, by omega, by omega, ?_, ?_⟩
  · have h5 : 2 ^ L * 2 ^ (64 - L) ≤ 2 * y * 2 ^ (64 - L) := Nat.mul_le_mul_right _ h2
    rw [← Nat.pow_add, show L + (64 - L) = 64 from by omega, Nat.mul_assoc] at h5
    omega
  · have h5 : y * 2 ^ (64 - L) < 2 ^ L * 2 ^ (64 - L) := Nat.mul_lt_mul_of_pos_right h1 (Nat.two_pow_pos _)
    rw [← Nat.pow_add, show L + (64 - L) = 64 from by omega] at h5
    omega

/-- The dividend, shifted likewise: its upper word and its lower one. -/
theorem shifted (hi lo y s : Nat) (hl : lo < 18446744073709551616) (h1 : hi < y) (hs1 : s ≤ 63) :
    hi * 2 ^ s + lo / 2 ^ (64 - s) < y * 2 ^ s ∧ hi * 2 ^ s + lo / 2 ^ (64 - s) = (hi * 2 ^ s) ||| (lo / 2 ^ (64 - s)) ∧
    (hi * 2 ^ s + lo / 2 ^ (64 - s)) * 18446744073709551616 + lo * 2 ^ s % 18446744073709551616 = (hi * 18446744073709551616 + lo) * 2 ^ s := by
  have e : 2 ^ (64 - s) * 2 ^ s = 18446744073709551616 := by rw [← Nat.pow_add, show 64 - s + s = 64 from by omega]
  have hp : 0 < 2 ^ (64 - s) := Nat.two_pow_pos _
  have hq : lo / 2 ^ (64 - s) < 2 ^ s := by rw [Nat.div_lt_iff_lt_mul hp, Nat.mul_comm, e]; exact hl
  refine ⟨?_, ?_, ?_⟩
  · have : (hi + 1) * 2 ^ s ≤ y * 2 ^ s := Nat.mul_le_mul_right _ h1
    rw [Nat.add_mul] at this
    omega
  · rw [Nat.mul_comm hi]; exact Nat.two_pow_add_eq_or_of_lt hq hi
  · have h2 : lo * 2 ^ s = lo / 2 ^ (64 - s) * 18446744073709551616 + lo % 2 ^ (64 - s) * 2 ^ s := by
      have h3 : lo = lo / 2 ^ (64 - s) * 2 ^ (64 - s) + lo % 2 ^ (64 - s) := (Nat.div_add_mod' _ _).symm
      have h4 : lo * 2 ^ s = (lo / 2 ^ (64 - s) * 2 ^ (64 - s) + lo % 2 ^ (64 - s)) * 2 ^ s := by rw [← h3]
      rw [h4, Nat.add_mul, Nat.mul_assoc, e]
    have h5 : lo % 2 ^ (64 - s) * 2 ^ s < 18446744073709551616 := by
      rw [← e]; exact Nat.mul_lt_mul_of_pos_right (Nat.mod_lt _ hp) (Nat.two_pow_pos _)
    have h6 : lo * 2 ^ s % 18446744073709551616 = lo % 2 ^ (64 - s) * 2 ^ s := by omega
    rw [h6, Nat.add_mul (hi * 18446744073709551616), h2, Nat.add_mul (hi * 2 ^ s), Nat.mul_right_comm hi]
    omega

theorem back (N y p : Nat) (hp : 0 < p) : N * p / (y * p) = N / y ∧ N * p % (y * p) / p = N % y := by
  refine ⟨Nat.mul_div_mul_right _ _ hp, ?_⟩
  rw [Nat.mul_mod_mul_right, Nat.mul_div_cancel _ hp]

theorem final (N y P n d0 Y q V q2 : Nat) (hY : Y = y * P) (hP : 0 < P) (hY0 : 0 < Y) (hN : n * 4294967296 + d0 = N * P) (hq : q = n / Y) (hV : V = n % Y)
    (hq2 : q2 = (V * 4294967296 + d0) / Y) : N / y = q * 4294967296 + q2 ∧ N % y = (V * 4294967296 + d0) % Y / P := by
  obtain ⟨t1, t2⟩ := two_digits n d0 Y hY0
  obtain ⟨b1, b2⟩ := back N y P hP
  rw [← hV, hN] at t1 t2
  rw [← hq, ← hq2] at t1
  rw [hY] at t1 t2
  exact ⟨by rw [← b1, t1], by rw [← b2, t2, hY]⟩
theorem digit_lt {U Y d : Nat} (hU : U < Y) (hd : d < 4294967296) : (U * 4294967296 + d) / Y < 4294967296 := by
  refine Nat.div_lt_of_lt_mul ?_
  have h1 : (U + 1) * 4294967296 ≤ Y * 4294967296 := Nat.mul_le_mul_right _ hU
  omega

/-! ### a product divided, bit by bit -/
/-- After the bits from m on: the quotient and the rest so far. -/
def Upto (b a d m q r : Nat) : Prop := q * d + r = b / 2 ^ m * a ∧ r < d
theorem Upto.start (b a d : Nat) (hb : b ≤ 70368744177664) (hd : 0 < d) : Upto b a d 47 0 0 := by
  have : b / 2 ^ 47 = 0 := Nat.div_eq_of_lt (by omega)
  unfold Upto; rw [this]; simp; exact hd
theorem half_bit (b k : Nat) : b / 2 ^ k = 2 * (b / 2 ^ (k + 1)) + b / 2 ^ k % 2 := by
  have : b / 2 ^ (k + 1) = b / 2 ^ k / 2 := by rw [Nat.pow_succ, Nat.div_div_eq_div_mul]
  rw [this]; omega
theorem half_mul (a b k : Nat) : b / 2 ^ k * a = 2 * (b / 2 ^ (k + 1) * a) + b / 2 ^ k % 2 * a := by
  conv => lhs; rw [half_bit b k]
  rw [Nat.add_mul, Nat.mul_assoc]
theorem Upto.bit1 {b a d k q r : Nat} (h : Upto b a d (k + 1) q r) (hd : 0 < d) (h1 : b / 2 ^ k % 2 = 1) : Upto b a d k (2 * q + (2 * r + a) / d) ((2 * r + a) % d) := by
  refine ⟨?_, Nat.mod_lt _ hd⟩
  rw [half_mul, h1, ← h.1, Nat.add_mul, Nat.mul_assoc]
  have := Nat.div_add_mod' (2 * r + a) d
  omega
theorem Upto.bit0 {b a d k q r : Nat} (h : Upto b a d (k + 1) q r) (hd : 0 < d) (h1 : b / 2 ^ k % 2 = 0) : Upto b a d k (2 * q + 2 * r / d) (2 * r % d) := by
  refine ⟨?_, Nat.mod_lt _ hd⟩
  rw [half_mul, h1, ← h.1, Nat.add_mul, Nat.mul_assoc]
  have := Nat.div_add_mod' (2 * r) d
  omega
theorem Upto.quot {b a d m q r : Nat} (h : Upto b a d m q r) : q * d ≤ b * a := by
  have h1 : b / 2 ^ m * a ≤ b * a := Nat.mul_le_mul_right _ (Nat.div_le_self _ _)
  have := h.1
  omega
theorem Upto.last {b a d q r : Nat} (h : Upto b a d 0 q r) : q = a * b / d ∧ r = a * b % d := by
  obtain ⟨h1, h2⟩ := h
  rw [Nat.pow_zero, Nat.div_one, Nat.mul_comm b] at h1
  rw [← h1, Nat.mul_comm q]
  refine ⟨?_, ?_⟩
  · rw [Nat.mul_add_div (by omega), Nat.div_eq_of_lt h2]; omega
  · rw [Nat.mul_add_mod, Nat.mod_eq_of_lt h2]

/-! ### words of 64 bits -/
theorem w64 (n : Nat) (h : n < 18446744073709551616) : IntKind.u64.wrap (n : Int) = (n : Int) := by rw [IntKind.wrap_u64]; omega
theorem w64_mul (a b : Nat) (h : a * b < 18446744073709551616) : IntKind.u64.wrap ((a : Int) * (b : Int)) = ((a * b : Nat) : Int) := by
  rw [← Int.natCast_mul]; exact w64 _ h
theorem w64_base (r : Nat) (h : r < 4294967296) : IntKind.u64.wrap (4294967296 * (r : Int)) = ((4294967296 * r : Nat) : Int) := by rw [IntKind.wrap_u64]; omega
theorem w64_add (a b : Nat) (h : a + b < 18446744073709551616) : IntKind.u64.wrap ((a : Int) + (b : Int)) = ((a + b : Nat) : Int) := by
  rw [← Int.natCast_add]; exact w64 _ h
theorem w64_pred (a : Nat) (h1 : 1 ≤ a) (h : a < 18446744073709551616) : IntKind.u64.wrap ((a : Int) - 1) = ((a - 1 : Nat) : Int) := by rw [IntKind.wrap_u64]; omega
theorem w64_div (a b : Nat) (h : a < 18446744073709551616) : IntKind.u64.wrap ((a : Int) / (b : Int)) = ((a / b : Nat) : Int) := by
  rw [← Int.natCast_ediv]; exact w64 _ (Nat.lt_of_le_of_lt (Nat.div_le_self _ _) h)
theorem w64_rem (u a q : Nat) (h : u < 18446744073709551616) (hq : q * a ≤ u) : IntKind.u64.wrap ((u : Int) - ((q * a : Nat) : Int)) = ((u - q * a : Nat) : Int) := by
  rw [IntKind.wrap_u64]; generalize q * a = n at *; omega
theorem w64_two (q r n : Nat) (h : n = q * 4294967296 + r) (hn : n < 18446744073709551616) : IntKind.u64.wrap (IntKind.u64.wrap ((q : Int) * 4294967296) + (r : Int)) = (n : Int) := by
  simp only [IntKind.wrap_u64]; omega
/-- (u B + d) - q y, in words that wrap: what it is below 2^64. -/
theorem w64_digit (u d p r : Nat) (h : u * 4294967296 + d = p + r) (hr : r < 18446744073709551616) :
    IntKind.u64.wrap (IntKind.u64.wrap (IntKind.u64.wrap ((u : Int) * 4294967296) + (d : Int)) - IntKind.u64.wrap (p : Int)) = (r : Int) := by
  simp only [IntKind.wrap_u64]; omega
end Go.Proofs.Ytbodkgmhpialpaa.M
