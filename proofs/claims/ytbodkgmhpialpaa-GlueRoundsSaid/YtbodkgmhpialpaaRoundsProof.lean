/- For all whole numbers of 64 bits sum, more, n and d the law GlueRounds answers true: a share turned round is turned round, the share of the whole is whole, shares never fall, and the law's own example holds; the arguments read afterwards as before. Conditions: none. -/
import Derived.Test.YtbodkgmhpialpaaRows
import Derived.Test.YtbodkgmhpialpaaLiveC
import Derived.Test.YtbodkgmhpialpaaRoundsLaw
import Derived.WalkKit
import Derived.ProofKit
import Derived.OpenShut
import Derived.ShutString
namespace Go.Proofs.Ytbodkgmhpialpaa.glueRounds
open Go.ChangeShapes Go.WideShapes Go.ChangeAt Go.RowKit
open Go.ChangeMaps (open_string shut_string)
set_option linter.unusedVariables false      -- a walk need not use every 'w<i>' (that an integer argument fits its kind)

theorem own : ownKnob Try.prog.godebug = none := by kernel_rfl

/-! ### the walk: the Go text returns true; of what was in memory nothing changes -/
/-- Share's contract with its answer under names. -/
def Shares (s n d a e : Int) : Prop := ∀ w, Calls Try.prog 5 #[.int .i64 s, .int .i64 n, .int .i64 d] w fun e' w' => e' = .returned (.tuple #[.int .i64 a, .int .i64 e]) ∧ ∃ k, w' = w.drewN k
theorem shares {s n d a e : Int} (h : M.share s n d = (a, e)) : Shares s n d a e := by
  intro w
  refine (share_any s n d w).mono fun e' w' hh => ⟨?_, hh.2⟩
  have := hh.1
  unfold ShareSaid at this
  rw [h] at this
  exact this

set_option maxHeartbeats 4000000 in
theorem walk (a0 : Int) (a1 : Int) (a2 : Int) (a3 : Int) (w : World) :
    Calls Try.prog 4 #[.int .i64 a0, .int .i64 a1, .int .i64 a2, .int .i64 a3] w fun e w' => e = .returned (.bool true) ∧ Below w.heap.size w w' := by
  obtain ⟨A, E, hAE⟩ : ∃ A E : Int, M.share a0 a2 a3 = (A, E) := ⟨_, _, rfl⟩
  have C0 := Lib.hid (shares hAE)
  by_cases hE : E = 0
  · subst hE
    have h2 : (M.share a0 a2 a3).2 = 0 := by rw [hAE]
    obtain ⟨_, ns, _, _, _, _⟩ := M.share_ok h2
    obtain ⟨s1, s2⟩ := (M.near_iff a0).1 ns
    obtain ⟨b1, b2⟩ := M.share_small h2
    have hN := M.share_neg h2
    have hW := M.share_whole h2
    rw [hAE] at b1 b2 hN
    have C1 := Lib.hid (shares hN)
    have C2 := Lib.hid (shares hW)
    obtain ⟨H, I, hHI⟩ : ∃ H I : Int, M.share a1 a2 a3 = (H, I) := ⟨_, _, rfl⟩
    have C3 := Lib.hid (shares hHI)
    by_cases hI : I = 0
    · subst hI
      have k2 : (M.share a1 a2 a3).2 = 0 := by rw [hHI]
      by_cases hn : a2 < 0
      · have hnb : decide (a2 < 0) = true := decide_eq_true hn
        clear ns hN hW hHI hAE h2 k2 hn
        go_enter Try.func4, Try.ntmps4
        go_wp2_with (first | (go_at_call 7; refine (num_any _ _).mono ?_; rintro e w' ⟨rfl, rfl⟩) | (go_at_call 8; refine (live_ok _).mono ?_; rintro e w' ⟨rfl, hb⟩; have HB := Lib.hid hb; clear hb))
        refine (C0.out _).mono ?_
        rintro e w' ⟨rfl, k0, rfl⟩
        go_wp2_with (first | (go_at_call 7; refine (num_any _ _).mono ?_; rintro e w' ⟨rfl, rfl⟩) | (go_at_call 8; refine (live_ok _).mono ?_; rintro e w' ⟨rfl, hb⟩; have HB := Lib.hid hb; clear hb))
        refine (C1.out _).mono ?_
        rintro e w' ⟨rfl, k1, rfl⟩
        go_wp2_with (first | (go_at_call 7; refine (num_any _ _).mono ?_; rintro e w' ⟨rfl, rfl⟩) | (go_at_call 8; refine (live_ok _).mono ?_; rintro e w' ⟨rfl, hb⟩; have HB := Lib.hid hb; clear hb))
        refine (C2.out _).mono ?_
        rintro e w' ⟨rfl, k2, rfl⟩
        go_wp2_with (first | (go_at_call 7; refine (num_any _ _).mono ?_; rintro e w' ⟨rfl, rfl⟩) | (go_at_call 8; refine (live_ok _).mono ?_; rintro e w' ⟨rfl, hb⟩; have HB := Lib.hid hb; clear hb))
        refine (C3.out _).mono ?_
        rintro e w' ⟨rfl, k3, rfl⟩
        go_wp2_with (first | (go_at_call 7; refine (num_any _ _).mono ?_; rintro e w' ⟨rfl, rfl⟩) | (go_at_call 8; refine (live_ok _).mono ?_; rintro e w' ⟨rfl, hb⟩; have HB := Lib.hid hb; clear hb))
        go_ret
        exact ⟨rfl, HB.out.os, HB.out.tape, HB.out.output, HB.out.size, HB.out.block⟩
      · have hnb : decide (a2 < 0) = false := decide_eq_false hn
        have m1 : a0 ≤ a1 → A ≤ H := fun hle => by have := M.share_mono h2 k2 (by omega) hle; rw [hAE, hHI] at this; exact this
        have m2 : a1 ≤ a0 → H ≤ A := fun hle => by have := M.share_mono k2 h2 (by omega) hle; rw [hAE, hHI] at this; exact this
        clear ns hN hW hHI hAE h2 k2 hn
        by_cases lt1 : a1 < a0
        · have t1 : decide (a1 < a0) = true := decide_eq_true lt1
          have t2 : decide (a0 < a1) = false := by simp; omega
          have t3 : decide (H ≤ A) = true := decide_eq_true (m2 (by omega))
          clear m1 m2 lt1
          go_enter Try.func4, Try.ntmps4
          go_wp2_with (first | (go_at_call 7; refine (num_any _ _).mono ?_; rintro e w' ⟨rfl, rfl⟩) | (go_at_call 8; refine (live_ok _).mono ?_; rintro e w' ⟨rfl, hb⟩; have HB := Lib.hid hb; clear hb))
          refine (C0.out _).mono ?_
          rintro e w' ⟨rfl, k0, rfl⟩
          go_wp2_with (first | (go_at_call 7; refine (num_any _ _).mono ?_; rintro e w' ⟨rfl, rfl⟩) | (go_at_call 8; refine (live_ok _).mono ?_; rintro e w' ⟨rfl, hb⟩; have HB := Lib.hid hb; clear hb))
          refine (C1.out _).mono ?_
          rintro e w' ⟨rfl, k1, rfl⟩
          go_wp2_with (first | (go_at_call 7; refine (num_any _ _).mono ?_; rintro e w' ⟨rfl, rfl⟩) | (go_at_call 8; refine (live_ok _).mono ?_; rintro e w' ⟨rfl, hb⟩; have HB := Lib.hid hb; clear hb))
          refine (C2.out _).mono ?_
          rintro e w' ⟨rfl, k2, rfl⟩
          go_wp2_with (first | (go_at_call 7; refine (num_any _ _).mono ?_; rintro e w' ⟨rfl, rfl⟩) | (go_at_call 8; refine (live_ok _).mono ?_; rintro e w' ⟨rfl, hb⟩; have HB := Lib.hid hb; clear hb))
          refine (C3.out _).mono ?_
          rintro e w' ⟨rfl, k3, rfl⟩
          go_wp2_with (first | (go_at_call 7; refine (num_any _ _).mono ?_; rintro e w' ⟨rfl, rfl⟩) | (go_at_call 8; refine (live_ok _).mono ?_; rintro e w' ⟨rfl, hb⟩; have HB := Lib.hid hb; clear hb))
          go_ret
          exact ⟨rfl, HB.out.os, HB.out.tape, HB.out.output, HB.out.size, HB.out.block⟩
        · have t1 : decide (a1 < a0) = false := by simp; omega
          have t3 : decide (A ≤ H) = true := decide_eq_true (m1 (by omega))
          by_cases lt2 : a0 < a1
          · have t2 : decide (a0 < a1) = true := decide_eq_true lt2
            clear m1 m2 lt1 lt2
            go_enter Try.func4, Try.ntmps4
            go_wp2_with (first | (go_at_call 7; refine (num_any _ _).mono ?_; rintro e w' ⟨rfl, rfl⟩) | (go_at_call 8; refine (live_ok _).mono ?_; rintro e w' ⟨rfl, hb⟩; have HB := Lib.hid hb; clear hb))
            refine (C0.out _).mono ?_
            rintro e w' ⟨rfl, k0, rfl⟩
            go_wp2_with (first | (go_at_call 7; refine (num_any _ _).mono ?_; rintro e w' ⟨rfl, rfl⟩) | (go_at_call 8; refine (live_ok _).mono ?_; rintro e w' ⟨rfl, hb⟩; have HB := Lib.hid hb; clear hb))
            refine (C1.out _).mono ?_
            rintro e w' ⟨rfl, k1, rfl⟩
            go_wp2_with (first | (go_at_call 7; refine (num_any _ _).mono ?_; rintro e w' ⟨rfl, rfl⟩) | (go_at_call 8; refine (live_ok _).mono ?_; rintro e w' ⟨rfl, hb⟩; have HB := Lib.hid hb; clear hb))
            refine (C2.out _).mono ?_
            rintro e w' ⟨rfl, k2, rfl⟩
            go_wp2_with (first | (go_at_call 7; refine (num_any _ _).mono ?_; rintro e w' ⟨rfl, rfl⟩) | (go_at_call 8; refine (live_ok _).mono ?_; rintro e w' ⟨rfl, hb⟩; have HB := Lib.hid hb; clear hb))
            refine (C3.out _).mono ?_
            rintro e w' ⟨rfl, k3, rfl⟩
            go_wp2_with (first | (go_at_call 7; refine (num_any _ _).mono ?_; rintro e w' ⟨rfl, rfl⟩) | (go_at_call 8; refine (live_ok _).mono ?_; rintro e w' ⟨rfl, hb⟩; have HB := Lib.hid hb; clear hb))
            go_ret
            exact ⟨rfl, HB.out.os, HB.out.tape, HB.out.output, HB.out.size, HB.out.block⟩
          · have t2 : decide (a0 < a1) = false := by simp; omega
            have t4 : decide (H ≤ A) = true := decide_eq_true (m2 (by omega))
            clear m1 m2 lt1 lt2
            go_enter Try.func4, Try.ntmps4
            go_wp2_with (first | (go_at_call 7; refine (num_any _ _).mono ?_; rintro e w' ⟨rfl, rfl⟩) | (go_at_call 8; refine (live_ok _).mono ?_; rintro e w' ⟨rfl, hb⟩; have HB := Lib.hid hb; clear hb))
            refine (C0.out _).mono ?_
            rintro e w' ⟨rfl, k0, rfl⟩
            go_wp2_with (first | (go_at_call 7; refine (num_any _ _).mono ?_; rintro e w' ⟨rfl, rfl⟩) | (go_at_call 8; refine (live_ok _).mono ?_; rintro e w' ⟨rfl, hb⟩; have HB := Lib.hid hb; clear hb))
            refine (C1.out _).mono ?_
            rintro e w' ⟨rfl, k1, rfl⟩
            go_wp2_with (first | (go_at_call 7; refine (num_any _ _).mono ?_; rintro e w' ⟨rfl, rfl⟩) | (go_at_call 8; refine (live_ok _).mono ?_; rintro e w' ⟨rfl, hb⟩; have HB := Lib.hid hb; clear hb))
            refine (C2.out _).mono ?_
            rintro e w' ⟨rfl, k2, rfl⟩
            go_wp2_with (first | (go_at_call 7; refine (num_any _ _).mono ?_; rintro e w' ⟨rfl, rfl⟩) | (go_at_call 8; refine (live_ok _).mono ?_; rintro e w' ⟨rfl, hb⟩; have HB := Lib.hid hb; clear hb))
            refine (C3.out _).mono ?_
            rintro e w' ⟨rfl, k3, rfl⟩
            go_wp2_with (first | (go_at_call 7; refine (num_any _ _).mono ?_; rintro e w' ⟨rfl, rfl⟩) | (go_at_call 8; refine (live_ok _).mono ?_; rintro e w' ⟨rfl, hb⟩; have HB := Lib.hid hb; clear hb))
            go_ret
            exact ⟨rfl, HB.out.os, HB.out.tape, HB.out.output, HB.out.size, HB.out.block⟩
    · have hI1 : (I == 0) = false := by simpa using hI
      have hI2 : (I != 0) = true := by simpa using hI
      clear ns hN hW hHI hAE h2 hI
      go_enter Try.func4, Try.ntmps4
      go_wp2_with (first | (go_at_call 7; refine (num_any _ _).mono ?_; rintro e w' ⟨rfl, rfl⟩) | (go_at_call 8; refine (live_ok _).mono ?_; rintro e w' ⟨rfl, hb⟩; have HB := Lib.hid hb; clear hb))
      refine (C0.out _).mono ?_
      rintro e w' ⟨rfl, k0, rfl⟩
      go_wp2_with (first | (go_at_call 7; refine (num_any _ _).mono ?_; rintro e w' ⟨rfl, rfl⟩) | (go_at_call 8; refine (live_ok _).mono ?_; rintro e w' ⟨rfl, hb⟩; have HB := Lib.hid hb; clear hb))
      refine (C1.out _).mono ?_
      rintro e w' ⟨rfl, k1, rfl⟩
      go_wp2_with (first | (go_at_call 7; refine (num_any _ _).mono ?_; rintro e w' ⟨rfl, rfl⟩) | (go_at_call 8; refine (live_ok _).mono ?_; rintro e w' ⟨rfl, hb⟩; have HB := Lib.hid hb; clear hb))
      refine (C2.out _).mono ?_
      rintro e w' ⟨rfl, k2, rfl⟩
      go_wp2_with (first | (go_at_call 7; refine (num_any _ _).mono ?_; rintro e w' ⟨rfl, rfl⟩) | (go_at_call 8; refine (live_ok _).mono ?_; rintro e w' ⟨rfl, hb⟩; have HB := Lib.hid hb; clear hb))
      refine (C3.out _).mono ?_
      rintro e w' ⟨rfl, k3, rfl⟩
      go_wp2_with (first | (go_at_call 7; refine (num_any _ _).mono ?_; rintro e w' ⟨rfl, rfl⟩) | (go_at_call 8; refine (live_ok _).mono ?_; rintro e w' ⟨rfl, hb⟩; have HB := Lib.hid hb; clear hb))
      go_ret
      exact ⟨rfl, HB.out.os, HB.out.tape, HB.out.output, HB.out.size, HB.out.block⟩
  · have h0 : A = 0 := by have := M.share_err (s := a0) (n := a2) (d := a3) (by rw [hAE]; exact hE); rw [hAE] at this; exact this
    subst h0
    have hE1 : (E == 0) = false := by simpa using hE
    have hE2 : (E != 0) = true := by simpa using hE
    clear hE hAE
    go_enter Try.func4, Try.ntmps4
    go_wp2_with (first | (go_at_call 7; refine (num_any _ _).mono ?_; rintro e w' ⟨rfl, rfl⟩) | (go_at_call 8; refine (live_ok _).mono ?_; rintro e w' ⟨rfl, hb⟩; have HB := Lib.hid hb; clear hb))
    refine (C0.out _).mono ?_
    rintro e w' ⟨rfl, k, rfl⟩
    go_wp2_with (first | (go_at_call 7; refine (num_any _ _).mono ?_; rintro e w' ⟨rfl, rfl⟩) | (go_at_call 8; refine (live_ok _).mono ?_; rintro e w' ⟨rfl, hb⟩; have HB := Lib.hid hb; clear hb))
    go_ret
    exact ⟨rfl, HB.out.os, HB.out.tape, HB.out.output, HB.out.size, HB.out.block⟩

/-! ### THE ROW's STEP: WRITTEN OUT: LEAVE IT -/
set_option maxRecDepth 100000 in
theorem lifted (os : Os) (started : os.Started) (H : Type) (enc : TypeId × Value → H) :
    ReturnsInHanded {} Try.checked os 4 .any (Rows.glueRoundsSpec.pre6 enc Try.prog Try.f4 Rows.glueRoundsRow.domain false) (Rows.glueRoundsSpec.post enc Try.prog Try.f4 false true false false) := by
  refine returnsInHanded_of_change (C := Try.checked) own started (by kernel_rfl) Try.func4
    (ChangeSpec.witness6 (enc := enc) (C := Try.checked) false ⟨#[], #[.int .i64 0, .int .i64 0, .int .i64 0, .int .i64 0], []⟩ 8 (by kernel_rfl) (by kernel_rfl) (by kernel_rfl) (by kernel_rfl)) ?_
  intro W base args ds gs before hval0 hW hcnd _
  have hval : ∀ (j : Nat) t v, Try.f4.params[j]? = some t → args[j]? = some v → Value.okWide Try.prog W .any base t v := hval0
  have hW' := hW
  obtain ⟨p, q, hA0, hV, rfl, hfz, hnd⟩ := hW
  have hA : DataW.TrodAll enc Try.prog W 0 (fun _ => true) true Try.f4.params.toList args.toList ds p := hA0
  rw [Try.params4] at hA hval
  obtain ⟨v0, vs0, d0, ds0, p0, q0, hargs, rfl, rfl, h0, r0⟩ := trodAll_cons hA
  obtain ⟨v1, vs1, d1, ds1, p1, q1, rfl, rfl, rfl, h1, r1⟩ := trodAll_cons r0
  obtain ⟨v2, vs2, d2, ds2, p2, q2, rfl, rfl, rfl, h2, r2⟩ := trodAll_cons r1
  obtain ⟨v3, vs3, d3, ds3, p3, q3, rfl, rfl, rfl, h3, r3⟩ := trodAll_cons r2
  obtain ⟨rfl, rfl, rfl⟩ := trodAll_nil r3
  obtain rfl : args = #[v0, v1, v2, v3] := by cases args; simp_all
  obtain ⟨rfl, rfl⟩ := trodVars_none hV
  obtain ⟨a0, rfl, rfl, rfl, w0⟩ := open_int Try.underlying3 (hval 0 3 v0 rfl rfl) h0
  obtain ⟨a1, rfl, rfl, rfl, w1⟩ := open_int Try.underlying3 (hval 1 3 v1 rfl rfl) h1
  obtain ⟨a2, rfl, rfl, rfl, w2⟩ := open_int Try.underlying3 (hval 2 3 v2 rfl rfl) h2
  obtain ⟨a3, rfl, rfl, rfl, w3⟩ := open_int Try.underlying3 (hval 3 3 v3 rfl rfl) h3
  clear hA0 hval0
  simp only [List.append_nil] at hW'
  refine (walk a0 a1 a2 a3 W).mono fun e W' ⟨he, bel⟩ => ?_
  subst he
  exact ⟨_, rfl, _, _, _, [], [], [], hW', trodAll_mk1 (shut_bool Try.underlying4 _), (trodAll_cons_mk (shut_int Try.underlying3 w0) (trodAll_cons_mk (shut_int Try.underlying3 w1) (trodAll_cons_mk (shut_int Try.underlying3 w2) (trodAll_cons_mk (shut_int Try.underlying3 w3) trodAll_mk0)))), rfl, bel.frame _, fun h => by cases h⟩

theorem over : Rows.glueRoundsRow.holds Try.pinned (OpenSpec.ofChange Rows.glueRoundsSpec) :=
  OpenClaim.holds_of_wide 4 Try.f4 rfl rfl rfl rfl rfl rfl rfl ⟨rfl, rfl, rfl, rfl, rfl⟩ rfl rfl rfl rfl rfl (by kernel_rfl) Try.func4 (by kernel_rfl)
    (of_decide_eq_true (by kernel_rfl)) (by unfold Func.isWrapper; first | (rw [if_pos (by decide +kernel)]; kernel_rfl) | (rw [if_neg (by decide +kernel)]; exact ⟨rfl, rfl⟩))
    (fun os started H enc _ => lifted os started H enc)

/-- The statement. -/
theorem proved : Rows.GlueRoundsSaid :=
  over
#print axioms proved
end Go.Proofs.Ytbodkgmhpialpaa.glueRounds
