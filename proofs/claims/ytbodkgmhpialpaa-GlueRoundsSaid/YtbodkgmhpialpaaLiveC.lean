/- The law's own example (live) answers true, whatever the memory; nothing that was there changes. Conditions: none. -/
import Derived.Test.YtbodkgmhpialpaaLiveB
namespace Go.Proofs.Ytbodkgmhpialpaa
open Go.RowKit
set_option maxHeartbeats 4000000 in
theorem ints_ok (p q : Nat) (ca cb : Nat) (w : World) (p0 : w.cell? ⟨p, 0, none⟩ = some (.int .i64 2)) (p1 : w.cell? ⟨p, 1, none⟩ = some (.int .i64 1)) (p2 : w.cell? ⟨p, 2, none⟩ = some (.int .i64 2))
    (q0 : w.cell? ⟨q, 0, none⟩ = some (.int .i64 2)) (q1 : w.cell? ⟨q, 1, none⟩ = some (.int .i64 1)) (q2 : w.cell? ⟨q, 2, none⟩ = some (.int .i64 2)) :
    Calls Try.prog 13 #[.slice (some ⟨p, 0, none⟩) 3 ca, .slice (some ⟨q, 0, none⟩) 3 cb] w fun e w' => e = .returned (.bool true) ∧ ∃ n, w' = w.drewN n := by
  have HC := Lib.hid (And.intro p0 (And.intro p1 (And.intro p2 (And.intro q0 (And.intro q1 q2)))))
  clear p0 p1 p2 q0 q1 q2
  go_enter Try.func13, Try.ntmps13
  go_wp2_with fail
  go_loopw [5] (fun v5 wr => ∃ k : Nat, k ≤ 3 ∧ v5 = .int .i64 (k : Int) ∧ ∃ n, wr = w.drewN n) (fun v5 _ => 3 - (intOf v5).toNat)
  case atStart => exact ⟨0, by omega, rfl, 0, rfl⟩
  case round =>
    obtain ⟨k, hk, rfl, n, rfl⟩ := hrel
    obtain ⟨p0, p1, p2, q0, q1, q2⟩ := HC.out
    rcases (show k = 0 ∨ k = 1 ∨ k = 2 ∨ k = 3 by omega) with rfl | rfl | rfl | rfl
    · go_wp2
      go_quiet (fail)
      go_wp2
      go_roundw
      case rel => exact ⟨1, by omega, rfl, _, rfl⟩
      case measure => simp [intOf]
    · go_wp2
      go_quiet (fail)
      go_wp2
      go_roundw
      case rel => exact ⟨2, by omega, rfl, _, rfl⟩
      case measure => simp [intOf]
    · go_wp2
      go_quiet (fail)
      go_wp2
      go_roundw
      case rel => exact ⟨3, by omega, rfl, _, rfl⟩
      case measure => simp [intOf]
    · go_wp2
      go_ret
      exact ⟨rfl, n, rfl⟩

theorem three_at (w : World) (o : Obj) : Three ((w.alloc o).alloc (.cells three 36)) (w.heap.size + 1) := by
  have h := (MapKept.heap_alloc (w.alloc o) (.cells three 36)).1
  rw [show (w.alloc o).heap.size = w.heap.size + 1 from by simp] at h
  exact h
def two : Array Value := #[.int .i64 2, .int .i64 1, .int .i64 2]
theorem two_new (w : World) (o : Nat) (v : Value) (hv : two[o]? = some v) : (w.alloc (.cells two 3)).cell? ⟨w.heap.size, o, none⟩ = some v := by
  have h := (MapKept.heap_alloc w (.cells two 3)).1
  unfold World.cell?
  rw [h]
  simpa using hv
theorem two_old (w : World) (g o : Nat) (v : Value) (hg : g < w.heap.size) (hv : w.cell? ⟨g, o, none⟩ = some v) : (w.alloc (.cells two 3)).cell? ⟨g, o, none⟩ = some v :=
  (World.cell?_of_block (w := w) (a := ⟨g, o, none⟩) (Below.heap_alloc _ _ _ hg)).trans hv
set_option maxHeartbeats 4000000 in
theorem live_ok (w : World) : Calls Try.prog 8 #[] w fun e w' => e = .returned (.bool true) ∧ Below w.heap.size w w' := by
  go_enter Try.func8, Try.ntmps8
  go_wp2_with fail
  refine (sizes_ok (w.heap.size + 1) _ (three_at _ _)).mono ?_
  rintro e w1 ⟨v, rfl, hown, hb⟩
  obtain ⟨o1, ⟨_, o3⟩ | ⟨g, cap, cur, rfl, o5, o6, o7, o8, o9, o10⟩⟩ := hown
  · exact absurd o3 (by decide)
  have HO : w1.ownsRow 0 3 1 (.slice (some ⟨g, 0, none⟩) 3 cap) 3 (outs 3) := ⟨rfl, .inr ⟨g, cap, cur, rfl, by omega, o6, o7, o8, o9, o10⟩⟩
  have hg := (HO.lt g rfl).2
  have p0 : w1.cell? ⟨g, 0, none⟩ = some (.int .i64 2) := HO.cellAt 0 (by omega)
  have p1 : w1.cell? ⟨g, 1, none⟩ = some (.int .i64 1) := HO.cellAt 1 (by omega)
  have p2 : w1.cell? ⟨g, 2, none⟩ = some (.int .i64 2) := HO.cellAt 2 (by omega)
  have hb' : Below w.heap.size w w1 := (((Below.refl _ _).alloc (Nat.le_refl _) _).alloc (by simp) _).trans (hb.mono (by simp; omega))
  have hbs := hb'.size
  have HB := Lib.hid hb'
  clear hb hb' o1 o5 o6 o7 o8 o9 o10 HO
  go_wp2_with (first
    | (go_at_call 7; refine (num_any _ _).mono ?_; rintro e w' ⟨rfl, rfl⟩)
    | (go_at_call 13; refine (ints_ok g w1.heap.size cap 3 _ (two_old _ _ _ _ hg p0) (two_old _ _ _ _ hg p1) (two_old _ _ _ _ hg p2) (two_new _ 0 _ rfl) (two_new _ 1 _ rfl) (two_new _ 2 _ rfl)).mono ?_; rintro e w' ⟨rfl, n, rfl⟩))
  go_ret
  refine ⟨rfl, ?_⟩
  have := HB.out.alloc (by omega) (.cells #[.int .i64 2, .int .i64 1, .int .i64 2] 3)
  exact ⟨this.os, this.tape, this.output, this.size, this.block⟩
end Go.Proofs.Ytbodkgmhpialpaa
