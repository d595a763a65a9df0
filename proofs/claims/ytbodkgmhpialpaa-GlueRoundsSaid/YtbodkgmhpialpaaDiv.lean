/- What math/bits.Div64 answers: for words hi, lo and a divisor y from 1 to 2^46 above hi, the quotient and the rest of hi * 2^64 + lo by y; nothing in memory is changed. Conditions: hi below y, y at most 2^46, lo below 2^64. -/
import Derived.Test.YtbodkgmhpialpaaShelf
import Derived.Test.YtbodkgmhpialpaaMath
import Derived.WalkKit
import Derived.ProofKit
import Derived.BigQuiet
import Derived.Deep.QuietTactic
import Derived.Deep.DeepCutAuto
import Derived.Deep.CutBlock
import Derived.Lib.Hide
import Derived.WalkSpells
namespace Go.Proofs.Ytbodkgmhpialpaa
open Go.RowKit

set_option maxHeartbeats 1000000 in
theorem div64_zero (lo y : Nat) (hl : lo < 18446744073709551616) (h0 : 0 < y) (w : World) :
    Calls Try.prog 15 #[.int .u64 0, .int .u64 lo, .int .u64 y] w fun e w' => e = .returned (.tuple #[.int .u64 ((lo / y : Nat) : Int), .int .u64 ((lo % y : Nat) : Int)]) ∧ ∃ n, w' = w.drewN n := by
  have hy0 : ((y : Int) == 0) = false := by simp; omega
  have hy1 : decide ((y : Int) ≤ 0) = false := by simp; omega
  obtain ⟨q, hq⟩ : ∃ q : Nat, Hid (q = lo / y) := ⟨_, Lib.hid rfl⟩
  obtain ⟨r, hr⟩ : ∃ r : Nat, Hid (r = lo % y) := ⟨_, Lib.hid rfl⟩
  rw [← hq.out, ← hr.out]
  have W1 : IntKind.u64.wrap ((lo : Int) / (y : Int)) = (q : Int) := by rw [hq.out]; exact M.w64_div lo y hl
  have W2 : (lo : Int) % (y : Int) = (r : Int) := by rw [hr.out]; exact (Int.natCast_emod lo y).symm
  clear hl
  go_enter Try.func15, Try.ntmps15
  go_wp2_with (fail)
  go_quiet (fail)
  go_wp2
  go_ret2
  exact ⟨by rw [← W2]; rfl, nq, rfl⟩

def DivAt (hi lo y s : Nat) (Y a b U d1 d0 : Nat) : Prop :=
  Y = a * 4294967296 + b ∧ b < 4294967296 ∧ a < 4294967296 ∧ 2147483648 ≤ a ∧ U < Y ∧ d1 < 4294967296 ∧ d0 < 4294967296 ∧ Y = y * 2 ^ s ∧ Y < 18446744073709551616 ∧
    (U * 4294967296 + d1) * 4294967296 + d0 = (hi * 18446744073709551616 + lo) * 2 ^ s

/-- The shifted words, as the code spells them. -/
theorem divAt (hi lo y s : Nat) (hl : lo < 18446744073709551616) (h1 : hi < y) (hs1 : s ≤ 63) (hY0 : 9223372036854775808 ≤ y * 2 ^ s) (hY1 : y * 2 ^ s < 18446744073709551616) :
    ∃ Y a b U d1 d0 : Nat, IntKind.u64.wrap ((y : Int) * 2 ^ s) = (Y : Int) ∧ (Y : Int) / 4294967296 = (a : Int) ∧ bits .and .u64 (Y : Int) 4294967295 = (b : Int) ∧
      bits .or .u64 (IntKind.u64.wrap ((hi : Int) * 2 ^ s)) ((lo : Int) / 2 ^ (64 - s)) = (U : Int) ∧ IntKind.u64.wrap ((lo : Int) * 2 ^ s) / 4294967296 = (d1 : Int) ∧
      bits .and .u64 (IntKind.u64.wrap ((lo : Int) * 2 ^ s)) 4294967295 = (d0 : Int) ∧ DivAt hi lo y s Y a b U d1 d0 := by
  obtain ⟨g1, g2, g3⟩ := M.shifted hi lo y s hl h1 hs1
  have mask : ∀ n : Nat, n < 18446744073709551616 → bits .and .u64 (n : Int) 4294967295 = ((n % 4294967296 : Nat) : Int) := by
    intro n hn
    have h := bits_and_u64_nat n 4294967295 hn (by omega)
    rw [show n &&& 4294967295 = n % 4294967296 from Nat.and_two_pow_sub_one_eq_mod n 32] at h
    exact h
  have shl : ∀ n : Nat, IntKind.u64.wrap ((n : Int) * 2 ^ s) = ((n * 2 ^ s % 18446744073709551616 : Nat) : Int) := by
    intro n
    rw [IntKind.wrap_u64, show ((n : Int) * 2 ^ s) = ((n * 2 ^ s : Nat) : Int) by push_cast; rfl]
    omega
  have hH : hi * 2 ^ s < 18446744073709551616 := Nat.lt_of_le_of_lt (Nat.le_add_right _ _) (Nat.lt_trans g1 hY1)
  have hq : lo / 2 ^ (64 - s) < 18446744073709551616 := Nat.lt_of_le_of_lt (Nat.div_le_self _ _) hl
  refine ⟨y * 2 ^ s, y * 2 ^ s / 4294967296, y * 2 ^ s % 4294967296, hi * 2 ^ s + lo / 2 ^ (64 - s), lo * 2 ^ s % 18446744073709551616 / 4294967296, lo * 2 ^ s % 18446744073709551616 % 4294967296, ?_, ?_, ?_, ?_, ?_, ?_, ?_⟩
  · rw [shl, Nat.mod_eq_of_lt hY1]
  · omega
  · exact mask _ hY1
  · rw [shl, Nat.mod_eq_of_lt hH, g2, show ((lo : Int) / 2 ^ (64 - s)) = ((lo / 2 ^ (64 - s) : Nat) : Int) by push_cast; rfl]
    exact bits_or_u64_nat _ _ hH hq
  · rw [shl]; omega
  · rw [shl]; exact mask _ (Nat.mod_lt _ (by omega))
  · clear mask shl hq hH g2 hl hs1 h1
    unfold DivAt
    rw [← g3]
    generalize hYY : y * 2 ^ s = Y at *
    generalize hi * 2 ^ s + lo / 2 ^ (64 - s) = U at *
    generalize lo * 2 ^ s = V at *
    clear g3
    refine ⟨by omega, by omega, by omega, by omega, g1, by omega, by omega, rfl, hY1, by omega⟩
set_option maxRecDepth 100000 in
set_option maxHeartbeats 4000000 in
theorem div64_gen (hi lo y s : Nat) (hh : 0 < hi) (hl : lo < 18446744073709551616) (h1 : hi < y) (hs1 : s ≤ 63) (hs0 : 17 ≤ s) (w : World)
    (hY0 : 9223372036854775808 ≤ y * 2 ^ s) (hY1 : y * 2 ^ s < 18446744073709551616)
    (c18 : Calls Try.prog 18 #[.int .u64 y] w fun e w' => e = .returned (.int .i64 (s : Int)) ∧ w = w') :
    Calls Try.prog 15 #[.int .u64 hi, .int .u64 lo, .int .u64 y] w fun e w' => e = .returned (.tuple #[.int .u64 (((hi * 18446744073709551616 + lo) / y : Nat) : Int), .int .u64 (((hi * 18446744073709551616 + lo) % y : Nat) : Int)]) ∧ w' = w := by
  have hy0 : ((y : Int) == 0) = false := by simp; omega
  have hy1 : decide ((y : Int) ≤ (hi : Int)) = false := by simp; omega
  have hy2 : ((hi : Int) == 0) = false := by simp; omega
  have hs : 0 ≤ (s : Int) := by omega
  obtain ⟨Y, a, b, U, d1, d0, e1, e2, e3, e4, e5, e6, hD⟩ := divAt hi lo y s hl h1 hs1 hY0 hY1
  obtain ⟨hY, hb, ha, ha1, hU, hd1, hd0, hYs, hYlt, hN⟩ := hD
  obtain ⟨Q, hQ⟩ : ∃ Q : Nat, Hid (Q = (hi * 18446744073709551616 + lo) / y) := ⟨_, Lib.hid rfl⟩
  obtain ⟨R, hR⟩ : ∃ R : Nat, Hid (R = (hi * 18446744073709551616 + lo) % y) := ⟨_, Lib.hid rfl⟩
  rw [← hQ.out, ← hR.out]
  have C18 := Lib.hid c18
  have hN' := Lib.hid hN
  have hYs' := Lib.hid hYs
  have hY' := Lib.hid hY
  have hYlt' := Lib.hid hYlt
  clear c18 hY0 hY1 hl hN hYs hY hYlt
  go_enter Try.func15, Try.ntmps15
  go_upto_region 14 with (go_at_call 18; refine C18.out.mono ?_; rintro e w' ⟨rfl, rfl⟩)
  go_cut [2, 9, 10, 11, 13, 14] from 19 (fun v2 v9 v10 v11 v13 v14 wc => w = wc ∧ v2 = .int .u64 (Y : Int) ∧ v9 = .int .u64 (a : Int) ∧ v10 = .int .u64 (b : Int) ∧ v11 = .int .u64 (U : Int) ∧ v13 = .int .u64 (d1 : Int) ∧ v14 = .int .u64 (d0 : Int))
  case first =>
    go_wp2
    go_meet
    case rel => exact ⟨rfl, rfl, rfl, rfl, rfl, rfl, rfl⟩
  case rest =>
    clear e1 e2 e3 e4 e5 e6 C18
    obtain ⟨rfl, rfl, rfl, rfl, rfl, rfl, rfl⟩ := hcut
    have ha0 : ((a : Int) == 0) = false := by simp; omega
    obtain ⟨qa, hqa⟩ : ∃ qa : Nat, Hid (qa = U / a) := ⟨_, Lib.hid rfl⟩
    obtain ⟨ma, hma⟩ : ∃ ma : Nat, Hid (ma = qa * a) := ⟨_, Lib.hid rfl⟩
    obtain ⟨ra, hra⟩ : ∃ ra : Nat, Hid (ra = U % a) := ⟨_, Lib.hid rfl⟩
    have hma1 : ma + ra = U := by rw [hma.out, hqa.out, hra.out]; exact Nat.div_add_mod' U a
    have hqal : qa ≤ U := by rw [hqa.out]; exact Nat.div_le_self _ _
    have v1 : IntKind.u64.wrap ((U : Int) / (a : Int)) = (qa : Int) := by rw [hqa.out]; exact M.w64_div _ _ (by have := hYlt'.out; omega)
    have v2 : IntKind.u64.wrap ((qa : Int) * (a : Int)) = (ma : Int) := by rw [hma.out]; exact M.w64_mul _ _ (by rw [← hma.out]; have := hYlt'.out; omega)
    have v3 : IntKind.u64.wrap ((U : Int) - (ma : Int)) = (ra : Int) := by rw [show (U : Int) - (ma : Int) = (ra : Int) from by omega]; exact M.w64 _ (by have := hYlt'.out; omega)
    have hma1' := Lib.hid hma1
    have hqal' := Lib.hid hqal
    clear hma1 hqal
    have hra1 : ra < 4294967296 := by have h := Nat.mod_lt U (show a > 0 by omega); rw [← hra.out] at h; omega
    have hst := Lib.hid (show M.Head U Y d1 a b qa ra from by rw [hqa.out, hra.out]; exact M.Head.start hY'.out ha1 ha hd1)
    go_upto_block 0 with (fail)
    go_cut [15, 16] (fun v15 v16 wc => ∃ q r : Nat, w = wc ∧ v15 = .int .u64 (q : Int) ∧ v16 = .int .u64 (r : Int) ∧ q = (U * 4294967296 + d1) / Y)
    case first =>
      go_wp2_with (fail)
      clear v1 v2 v3 hra1
      go_loop [15, 16] (fun v15 v16 => ∃ q r : Nat, v15 = .int .u64 (q : Int) ∧ v16 = .int .u64 (r : Int) ∧ M.Head U Y d1 a b q r ∧ q ≤ U) (fun v15 _ => (intOf v15).toNat)
      case atStart => exact ⟨qa, ra, rfl, rfl, hst.out, hqal'.out⟩
      case round =>
        obtain ⟨q, r, rfl, rfl, hH, hqU⟩ := hrel
        have hr := hH.rest
        rename w = w => hww
        clear hww
        obtain ⟨r2, hr2⟩ : ∃ r2 : Nat, Hid (r2 = r + a) := ⟨_, Lib.hid rfl⟩
        obtain ⟨q1, hq1⟩ : ∃ q1 : Nat, Hid (q1 = q - 1) := ⟨_, Lib.hid rfl⟩
        obtain ⟨p, hp⟩ : ∃ p : Nat, Hid (p = q * b) := ⟨_, Lib.hid rfl⟩
        obtain ⟨x, hx⟩ : ∃ x : Nat, Hid (x = 4294967296 * r) := ⟨_, Lib.hid rfl⟩
        obtain ⟨z, hz⟩ : ∃ z : Nat, Hid (z = x + d1) := ⟨_, Lib.hid rfl⟩
        have hxb := hx.out
        have hzb := hz.out
        have w2 : IntKind.u64.wrap ((r : Int) + (a : Int)) = (r2 : Int) := by rw [hr2.out]; exact M.w64_add _ _ (by omega)
        have w4 : IntKind.u64.wrap (4294967296 * (r : Int)) = (x : Int) := by rw [hxb]; exact M.w64_base _ hr
        have w5 : IntKind.u64.wrap ((x : Int) + (d1 : Int)) = (z : Int) := by rw [hzb]; exact M.w64_add _ _ (by omega)
        clear hxb hzb
        have HH := Lib.hid (And.intro hH (And.intro hr (And.intro hb (And.intro hU (And.intro hd1 hqU)))))
        by_cases hq : 4294967296 ≤ q
        · have ht := Lib.hid (show M.high d1 b q r from .inl hq)
          have hqi : decide (4294967296 ≤ (q : Int)) = true := by simp; omega
          have w1 : IntKind.u64.wrap ((q : Int) - 1) = (q1 : Int) := by rw [hq1.out]; exact M.w64_pred _ (by omega) (by have := hYlt'.out; have := hU; omega)
          by_cases hr3 : 4294967296 ≤ r2
          · have hri : decide (4294967296 ≤ (r2 : Int)) = true := by simp; omega
            have Hr3 := Lib.hid hr3
            clear hq hH hqU hr3 hr hb ha ha1 hU hd1 hh h1 hs1 hs0
            go_wp2
            go_meet
            case rel => exact ⟨q1, r2, rfl, rfl, rfl, by rw [hq1.out]; exact HH.out.1.brk hY'.out HH.out.2.2.1 HH.out.2.2.2.1 HH.out.2.2.2.2.1 ht.out (by have := Hr3.out; rw [hr2.out] at this; exact this)⟩
          · have hri : decide (4294967296 ≤ (r2 : Int)) = false := by simp; omega
            have Hr3 := Lib.hid hr3
            clear hq hH hqU hr3 hr hb ha ha1 hU hd1 hh h1 hs1 hs0
            go_wp2
            go_round
            case rel => exact ⟨q1, r2, rfl, rfl, by rw [hq1.out, hr2.out]; exact HH.out.1.next hY'.out HH.out.2.2.2.1 HH.out.2.2.2.2.1 ht.out (by have := Hr3.out; rw [hr2.out] at this; omega), by have := hq1.out; have := HH.out.2.2.2.2.2; omega⟩
            case measure => have := hq1.out; have := HH.out.1.pos hY'.out HH.out.2.2.2.1 HH.out.2.2.2.2.1 ht.out; simp [intOf]; omega
        · have hqi : decide (4294967296 ≤ (q : Int)) = false := by simp; omega
          have hpb : p ≤ 4294967295 * 4294967295 := by rw [hp.out]; exact Nat.mul_le_mul (by omega) (by omega)
          have w3 : IntKind.u64.wrap ((q : Int) * (b : Int)) = (p : Int) := by rw [hp.out]; exact M.w64_mul _ _ (by rw [← hp.out]; omega)
          by_cases hz2 : z < p
          · have ht := Lib.hid (show M.high d1 b q r from .inr (by have h1 := hz.out; have h2 := hx.out; have h3 := hp.out; omega))
            have hzi : decide (z < p) = true := by simp; omega
            have w1 : IntKind.u64.wrap ((q : Int) - 1) = (q1 : Int) := by rw [hq1.out]; exact M.w64_pred _ (hH.pos hY'.out hU hd1 ht.out) (by omega)
            by_cases hr3 : 4294967296 ≤ r2
            · have hri : decide (4294967296 ≤ (r2 : Int)) = true := by simp; omega
              have Hr3 := Lib.hid hr3
              clear hq hH hqU hr3 hr hb ha ha1 hU hd1 hh h1 hs1 hs0 hpb hz2
              go_wp2
              go_meet
              case rel => exact ⟨q1, r2, rfl, rfl, rfl, by rw [hq1.out]; exact HH.out.1.brk hY'.out HH.out.2.2.1 HH.out.2.2.2.1 HH.out.2.2.2.2.1 ht.out (by have := Hr3.out; rw [hr2.out] at this; exact this)⟩
            · have hri : decide (4294967296 ≤ (r2 : Int)) = false := by simp; omega
              have Hr3 := Lib.hid hr3
              clear hq hH hqU hr3 hr hb ha ha1 hU hd1 hh h1 hs1 hs0 hpb hz2
              go_wp2
              go_round
              case rel => exact ⟨q1, r2, rfl, rfl, by rw [hq1.out, hr2.out]; exact HH.out.1.next hY'.out HH.out.2.2.2.1 HH.out.2.2.2.2.1 ht.out (by have := Hr3.out; rw [hr2.out] at this; omega), by have := hq1.out; have := HH.out.2.2.2.2.2; omega⟩
              case measure => have := hq1.out; have := HH.out.1.pos hY'.out HH.out.2.2.2.1 HH.out.2.2.2.2.1 ht.out; simp [intOf]; omega
          · have ht := Lib.hid (show ¬ M.high d1 b q r from by have h1 := hz.out; have h2 := hx.out; have h3 := hp.out; unfold M.high; omega)
            have hzi : decide (z < p) = false := by simp; omega
            clear hq hH hqU hr hb ha ha1 hU hd1 hh h1 hs1 hs0 hpb hz2
            go_wp2
            go_meet
            case rel => exact ⟨q, r, rfl, rfl, rfl, HH.out.1.done hY'.out ht.out⟩
    case rest =>
      clear v1 v2 v3 hma1' hqal' hst hra1
      obtain ⟨q, r, rfl, rfl, rfl, hq⟩ := hcut
      obtain ⟨V, hV0⟩ : ∃ V : Nat, Hid (V = (U * 4294967296 + d1) % Y) := ⟨_, Lib.hid rfl⟩
      obtain ⟨m, hm⟩ : ∃ m : Nat, Hid (m = q * Y) := ⟨_, Lib.hid rfl⟩
      have hV : V < Y := by rw [hV0.out]; exact Nat.mod_lt _ (by omega)
      have hmV : U * 4294967296 + d1 = m + V := by rw [hm.out, hV0.out, hq]; exact (Nat.div_add_mod' _ _).symm
      have hm64 : m < 340282366920938463463374607431768211456 := by have := hYlt'.out; omega
      have hq' := Lib.hid hq
      have g1 : IntKind.u64.wrap ((q : Int) * (Y : Int)) = IntKind.u64.wrap (m : Int) := by rw [hm.out, Int.natCast_mul]
      have g2 : IntKind.u64.wrap (IntKind.u64.wrap (IntKind.u64.wrap ((U : Int) * 4294967296) + (d1 : Int)) - IntKind.u64.wrap (m : Int)) = (V : Int) := M.w64_digit _ _ _ _ hmV (by have := hYlt'.out; omega)
      have hmV' := Lib.hid hmV
      clear hmV hq hm64
      go_upto_region 22 with (fail)
      clear g1 g2
      obtain ⟨qb, hqb⟩ : ∃ qb : Nat, Hid (qb = V / a) := ⟨_, Lib.hid rfl⟩
      obtain ⟨mb, hmb⟩ : ∃ mb : Nat, Hid (mb = qb * a) := ⟨_, Lib.hid rfl⟩
      obtain ⟨rb, hrb⟩ : ∃ rb : Nat, Hid (rb = V % a) := ⟨_, Lib.hid rfl⟩
      have hmb1 : mb + rb = V := by rw [hmb.out, hqb.out, hrb.out]; exact Nat.div_add_mod' V a
      have hqbl : qb ≤ V := by rw [hqb.out]; exact Nat.div_le_self _ _
      have v1 : IntKind.u64.wrap ((V : Int) / (a : Int)) = (qb : Int) := by rw [hqb.out]; exact M.w64_div _ _ (by have := hYlt'.out; omega)
      have v2 : IntKind.u64.wrap ((qb : Int) * (a : Int)) = (mb : Int) := by rw [hmb.out]; exact M.w64_mul _ _ (by rw [← hmb.out]; have := hYlt'.out; omega)
      have v3 : IntKind.u64.wrap ((V : Int) - (mb : Int)) = (rb : Int) := by rw [show (V : Int) - (mb : Int) = (rb : Int) from by omega]; exact M.w64 _ (by have := hYlt'.out; omega)
      have hqbl' := Lib.hid hqbl
      clear hmb1 hqbl
      have hrb1 : rb < 4294967296 := by have h := Nat.mod_lt V (show a > 0 by omega); rw [← hrb.out] at h; omega
      have hst := Lib.hid (show M.Head V Y d0 a b qb rb from by rw [hqb.out, hrb.out]; exact M.Head.start hY'.out ha1 ha hd0)
      go_upto_block 2 with (fail)
      go_cut [18, 16] (fun v18 v16 wc => ∃ q2 r2 : Nat, w = wc ∧ v18 = .int .u64 (q2 : Int) ∧ v16 = .int .u64 (r2 : Int) ∧ q2 = (V * 4294967296 + d0) / Y)
      case first =>
        go_wp2_with (fail)
        clear v1 v2 v3 hrb1
        go_loop [18, 16] (fun v18 v16 => ∃ q r : Nat, v18 = .int .u64 (q : Int) ∧ v16 = .int .u64 (r : Int) ∧ M.Head V Y d0 a b q r ∧ q ≤ V) (fun v18 _ => (intOf v18).toNat)
        case atStart => exact ⟨qb, rb, rfl, rfl, hst.out, hqbl'.out⟩
        case round =>
          have hU := hV
          obtain ⟨q, r, rfl, rfl, hH, hqU⟩ := hrel
          have hr := hH.rest
          rename w = w => hww
          clear hww
          obtain ⟨r2, hr2⟩ : ∃ r2 : Nat, Hid (r2 = r + a) := ⟨_, Lib.hid rfl⟩
          obtain ⟨q1, hq1⟩ : ∃ q1 : Nat, Hid (q1 = q - 1) := ⟨_, Lib.hid rfl⟩
          obtain ⟨p, hp⟩ : ∃ p : Nat, Hid (p = q * b) := ⟨_, Lib.hid rfl⟩
          obtain ⟨x, hx⟩ : ∃ x : Nat, Hid (x = 4294967296 * r) := ⟨_, Lib.hid rfl⟩
          obtain ⟨z, hz⟩ : ∃ z : Nat, Hid (z = x + d0) := ⟨_, Lib.hid rfl⟩
          have hxb := hx.out
          have hzb := hz.out
          have w2 : IntKind.u64.wrap ((r : Int) + (a : Int)) = (r2 : Int) := by rw [hr2.out]; exact M.w64_add _ _ (by omega)
          have w4 : IntKind.u64.wrap (4294967296 * (r : Int)) = (x : Int) := by rw [hxb]; exact M.w64_base _ hr
          have w5 : IntKind.u64.wrap ((x : Int) + (d0 : Int)) = (z : Int) := by rw [hzb]; exact M.w64_add _ _ (by omega)
          clear hxb hzb
          have HH := Lib.hid (And.intro hH (And.intro hr (And.intro hb (And.intro hV (And.intro hd0 hqU)))))
          by_cases hq : 4294967296 ≤ q
          · have ht := Lib.hid (show M.high d0 b q r from .inl hq)
            have hqi : decide (4294967296 ≤ (q : Int)) = true := by simp; omega
            have w1 : IntKind.u64.wrap ((q : Int) - 1) = (q1 : Int) := by rw [hq1.out]; exact M.w64_pred _ (by omega) (by have := hYlt'.out; have := hV; omega)
            by_cases hr3 : 4294967296 ≤ r2
            · have hri : decide (4294967296 ≤ (r2 : Int)) = true := by simp; omega
              have Hr3 := Lib.hid hr3
              clear hq hH hqU hr3 hr hb ha ha1 hV hd0 hh h1 hs1 hs0
              go_wp2
              go_meet
              case rel => exact ⟨q1, r2, rfl, rfl, rfl, by rw [hq1.out]; exact HH.out.1.brk hY'.out HH.out.2.2.1 HH.out.2.2.2.1 HH.out.2.2.2.2.1 ht.out (by have := Hr3.out; rw [hr2.out] at this; exact this)⟩
            · have hri : decide (4294967296 ≤ (r2 : Int)) = false := by simp; omega
              have Hr3 := Lib.hid hr3
              clear hq hH hqU hr3 hr hb ha ha1 hV hd0 hh h1 hs1 hs0
              go_wp2
              go_round
              case rel => exact ⟨q1, r2, rfl, rfl, by rw [hq1.out, hr2.out]; exact HH.out.1.next hY'.out HH.out.2.2.2.1 HH.out.2.2.2.2.1 ht.out (by have := Hr3.out; rw [hr2.out] at this; omega), by have := hq1.out; have := HH.out.2.2.2.2.2; omega⟩
              case measure => have := hq1.out; have := HH.out.1.pos hY'.out HH.out.2.2.2.1 HH.out.2.2.2.2.1 ht.out; simp [intOf]; omega
          · have hqi : decide (4294967296 ≤ (q : Int)) = false := by simp; omega
            have hpb : p ≤ 4294967295 * 4294967295 := by rw [hp.out]; exact Nat.mul_le_mul (by omega) (by omega)
            have w3 : IntKind.u64.wrap ((q : Int) * (b : Int)) = (p : Int) := by rw [hp.out]; exact M.w64_mul _ _ (by rw [← hp.out]; omega)
            by_cases hz2 : z < p
            · have ht := Lib.hid (show M.high d0 b q r from .inr (by have h1 := hz.out; have h2 := hx.out; have h3 := hp.out; omega))
              have hzi : decide (z < p) = true := by simp; omega
              have w1 : IntKind.u64.wrap ((q : Int) - 1) = (q1 : Int) := by rw [hq1.out]; exact M.w64_pred _ (hH.pos hY'.out hV hd0 ht.out) (by omega)
              by_cases hr3 : 4294967296 ≤ r2
              · have hri : decide (4294967296 ≤ (r2 : Int)) = true := by simp; omega
                have Hr3 := Lib.hid hr3
                clear hq hH hqU hr3 hr hb ha ha1 hV hd0 hh h1 hs1 hs0 hpb hz2
                go_wp2
                go_meet
                case rel => exact ⟨q1, r2, rfl, rfl, rfl, by rw [hq1.out]; exact HH.out.1.brk hY'.out HH.out.2.2.1 HH.out.2.2.2.1 HH.out.2.2.2.2.1 ht.out (by have := Hr3.out; rw [hr2.out] at this; exact this)⟩
              · have hri : decide (4294967296 ≤ (r2 : Int)) = false := by simp; omega
                have Hr3 := Lib.hid hr3
                clear hq hH hqU hr3 hr hb ha ha1 hV hd0 hh h1 hs1 hs0 hpb hz2
                go_wp2
                go_round
                case rel => exact ⟨q1, r2, rfl, rfl, by rw [hq1.out, hr2.out]; exact HH.out.1.next hY'.out HH.out.2.2.2.1 HH.out.2.2.2.2.1 ht.out (by have := Hr3.out; rw [hr2.out] at this; omega), by have := hq1.out; have := HH.out.2.2.2.2.2; omega⟩
                case measure => have := hq1.out; have := HH.out.1.pos hY'.out HH.out.2.2.2.1 HH.out.2.2.2.2.1 ht.out; simp [intOf]; omega
            · have ht := Lib.hid (show ¬ M.high d0 b q r from by have h1 := hz.out; have h2 := hx.out; have h3 := hp.out; unfold M.high; omega)
              have hzi : decide (z < p) = false := by simp; omega
              clear hq hH hqU hr hb ha ha1 hV hd0 hh h1 hs1 hs0 hpb hz2
              go_wp2
              go_meet
              case rel => exact ⟨q, r, rfl, rfl, rfl, HH.out.1.done hY'.out ht.out⟩
      case rest =>
        clear v1 v2 v3 hqbl' hst hrb1
        obtain ⟨q2, r2, rfl, rfl, rfl, hq2⟩ := hcut
        obtain ⟨T, hT⟩ : ∃ T : Nat, Hid (T = (V * 4294967296 + d0) % Y) := ⟨_, Lib.hid rfl⟩
        obtain ⟨m2, hm2⟩ : ∃ m2 : Nat, Hid (m2 = q2 * Y) := ⟨_, Lib.hid rfl⟩
        have hTY : T < Y := by rw [hT.out]; exact Nat.mod_lt _ (by omega)
        have hm2V : V * 4294967296 + d0 = m2 + T := by rw [hm2.out, hT.out, hq2]; exact (Nat.div_add_mod' _ _).symm
        have hfin := M.final (hi * 18446744073709551616 + lo) y (2 ^ s) (U * 4294967296 + d1) d0 Y q V q2 hYs'.out (Nat.two_pow_pos s) (by omega) hN'.out hq'.out hV0.out hq2
        rw [← hQ.out, ← hR.out, ← hT.out] at hfin
        obtain ⟨f1, f2⟩ := hfin
        have hqlt : q < 4294967296 := by rw [hq'.out]; exact M.digit_lt hU hd1
        have hq2lt : q2 < 4294967296 := by rw [hq2]; exact M.digit_lt hV hd0
        have f3 : (T : Int) / 2 ^ s = (R : Int) := by rw [f2, Int.natCast_ediv]; push_cast; rfl
        have g0 : IntKind.u64.wrap (IntKind.u64.wrap ((q : Int) * 4294967296) + (q2 : Int)) = (Q : Int) := M.w64_two _ _ _ f1 (by omega)
        have g1 : IntKind.u64.wrap ((q2 : Int) * (Y : Int)) = IntKind.u64.wrap (m2 : Int) := by rw [hm2.out, Int.natCast_mul]
        have g2 : IntKind.u64.wrap (IntKind.u64.wrap (IntKind.u64.wrap ((V : Int) * 4294967296) + (d0 : Int)) - IntKind.u64.wrap (m2 : Int)) = (T : Int) := M.w64_digit _ _ _ _ hm2V (by have := hYlt'.out; omega)
        clear f1 f2 hm2V hq2 hqlt hq2lt
        go_wp2
        go_ret2
        exact ⟨rfl, rfl⟩

/-- Div64, whole: the quotient and the rest. -/
theorem div64_any (hi lo y : Nat) (hl : lo < 18446744073709551616) (hy : y ≤ 70368744177664) (h1 : hi < y) (w : World) :
    Calls Try.prog 15 #[.int .u64 hi, .int .u64 lo, .int .u64 y] w fun e w' => e = .returned (.tuple #[.int .u64 (((hi * 18446744073709551616 + lo) / y : Nat) : Int), .int .u64 (((hi * 18446744073709551616 + lo) % y : Nat) : Int)]) ∧ ∃ n, w' = w.drewN n := by
  rcases Nat.eq_zero_or_pos hi with rfl | hh
  · rw [show 0 * 18446744073709551616 + lo = lo from by omega]
    exact div64_zero lo y hl h1 w
  · obtain ⟨s, e, hs0, hs1, hY0, hY1⟩ := M.shift_of y (by omega) hy
    refine (div64_gen hi lo y s hh hl h1 hs1 hs0 w hY0 hY1 ?_).mono fun e w' h => ⟨h.1, 0, h.2⟩
    refine (Try.bits_LeadingZeros64 (y : Int) w (by omega) (by omega)).mono fun e' w' h => ⟨?_, h.2.symm⟩
    rw [h.1, Int.toNat_natCast, e]
end Go.Proofs.Ytbodkgmhpialpaa
