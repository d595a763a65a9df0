/- The parts of the law's own example (live): glue.Check, glue.row and the closure of glue.Sizes at three pieces of glue of 0 plus 1. Conditions: as each lemma states. -/
import Derived.Test.YtbodkgmhpialpaaRef
import Derived.Deep.Draws
import Derived.OwnWalk
import Derived.Laws.AppendOwn
import Derived.Deep.OwnRows
import Derived.LoopTactic
import Derived.LoopN
namespace Go.Proofs.Ytbodkgmhpialpaa
open Go.RowKit
theorem dimen_ok (x : Int) (h1 : -1073741823 ≤ x) (h2 : x ≤ 1073741823) (w : World) : Calls Try.prog 21 #[.int .i64 x] w fun e w' => e = .returned (.bool true) ∧ w = w' := by
  have hb1 : decide (-1073741823 ≤ x) = true := decide_eq_true h1
  have hb2 : decide (x ≤ 1073741823) = true := decide_eq_true h2
  go_enter Try.func21, Try.ntmps21
  go_wp2
  go_ret
  exact ⟨rfl, rfl⟩
set_option maxHeartbeats 2000000 in
theorem check_ok (w : World) : Calls Try.prog 19 #[.agg #[.int .i64 0, .int .i64 1, .int .i64 0, .int .i64 0, .int .i64 0]] w fun e w' => e = .returned (.int .i64 0) ∧ Below w.heap.size w w' := by
  have i0 : ∀ w, (Instr.index 52 (.agg #[.int .i64 0, .int .i64 1, .int .i64 0]) (.int .i64 0)).run Try.prog w = .ok (.int .i64 0) w := fun _ => by kernel_rfl
  have i1 : ∀ w, (Instr.index 52 (.agg #[.int .i64 0, .int .i64 1, .int .i64 0]) (.int .i64 1)).run Try.prog w = .ok (.int .i64 1) w := fun _ => by kernel_rfl
  have i2 : ∀ w, (Instr.index 52 (.agg #[.int .i64 0, .int .i64 1, .int .i64 0]) (.int .i64 2)).run Try.prog w = .ok (.int .i64 0) w := fun _ => by kernel_rfl
  have j0 : ∀ w, (Instr.index 53 (.agg #[.int .i64 0, .int .i64 0]) (.int .i64 0)).run Try.prog w = .ok (.int .i64 0) w := fun _ => by kernel_rfl
  have j1 : ∀ w, (Instr.index 53 (.agg #[.int .i64 0, .int .i64 0]) (.int .i64 1)).run Try.prog w = .ok (.int .i64 0) w := fun _ => by kernel_rfl
  go_enter Try.func19, Try.ntmps19
  go_wp2_with fail
  refine wp_loop_rounds 4 ?_
  rw [rounds_succ]; go_wp2_with (go_at_call 21; refine (dimen_ok _ (by omega) (by omega) _).mono ?_; rintro e w' ⟨rfl, rfl⟩)
  rw [rounds_succ]; go_wp2_with (go_at_call 21; refine (dimen_ok _ (by omega) (by omega) _).mono ?_; rintro e w' ⟨rfl, rfl⟩)
  rw [rounds_succ]; go_wp2_with (go_at_call 21; refine (dimen_ok _ (by omega) (by omega) _).mono ?_; rintro e w' ⟨rfl, rfl⟩)
  rw [rounds_succ]; go_wp2_with (go_at_call 21; refine (dimen_ok _ (by omega) (by omega) _).mono ?_; rintro e w' ⟨rfl, rfl⟩)
  refine wp_loop_rounds 3 ?_
  rw [rounds_succ]; go_wp2
  rw [rounds_succ]; go_wp2
  rw [rounds_succ]; go_wp2
  go_ret
  exact ⟨rfl, (Below.refl _ _).alloc (Nat.le_refl _) _⟩

theorem bcell {W w1 : World} (hb : Below W.heap.size W w1) : (∀ b o, b < W.heap.size → w1.cell? ⟨b, o, none⟩ = W.cell? ⟨b, o, none⟩) ∧ (∀ b o, b < W.heap.size → w1.frozen? ⟨b, o, none⟩ = W.frozen? ⟨b, o, none⟩) :=
  ⟨fun b o h => hb.cell (p := ⟨b, o, none⟩) h, fun b o h => hb.frozen (p := ⟨b, o, none⟩) h⟩

/-- Block B holds three pieces of glue, 0 plus 1 each. -/
def three : Array Value := #[.int .i64 0, .int .i64 1, .int .i64 0, .int .i64 0, .int .i64 0, .int .i64 0, .int .i64 1, .int .i64 0, .int .i64 0, .int .i64 0, .int .i64 0, .int .i64 1, .int .i64 0, .int .i64 0, .int .i64 0]
def Three (w : World) (B : Nat) : Prop := w.heap[B]? = some (.cells three 36)
theorem Three.lt {w : World} {B : Nat} (h : Three w B) : B < w.heap.size := (Array.getElem?_eq_some_iff.1 (show w.heap[B]? = some _ from h)).1
theorem Three.cell {w : World} {B : Nat} (h : Three w B) (o : Nat) (v : Value) (hv : three[o]? = some v) : w.cell? ⟨B, o, none⟩ = some v := by
  have h' : w.heap[B]? = some (.cells three 36) := h
  simp [World.cell?, h', hv]
theorem Three.below {w w' : World} {B N : Nat} (h : Three w B) (hb : Below N w w') (hN : B < N) : Three w' B := (hb.block B hN).trans h
set_option maxHeartbeats 4000000 in
theorem row_ok (B : Nat) (w : World) (h : Three w B) : Calls Try.prog 16 #[.slice (some ⟨B, 0, none⟩) 3 3] w fun e w' => e = .returned (.int .i64 0) ∧ Below w.heap.size w w' := by
  have hB := h.lt
  have H := Lib.hid h
  clear h
  go_enter Try.func16, Try.ntmps16
  go_wp2_with fail
  go_loopw [10] (fun v10 wr => ∃ k : Nat, k ≤ 3 ∧ v10 = .int .i64 (k : Int) ∧ Hid (Three wr B) ∧ Below w.heap.size w wr) (fun v10 _ => 3 - (intOf v10).toNat)
  case atStart => exact ⟨0, by omega, rfl, H, Below.refl _ _⟩
  case round =>
    obtain ⟨k, hk, rfl, hT, hb⟩ := hrel
    have hbs := hb.size
    have HB := Lib.hid hb
    clear hb
    rcases (show k = 0 ∨ k = 1 ∨ k = 2 ∨ k = 3 by omega) with rfl | rfl | rfl | rfl
    · have c0 : wr.cell? ⟨B, 0, none⟩ = some (.int .i64 0) := hT.out.cell 0 _ rfl
      have c1 : wr.cell? ⟨B, 1, none⟩ = some (.int .i64 1) := hT.out.cell 1 _ rfl
      have c2 : wr.cell? ⟨B, 2, none⟩ = some (.int .i64 0) := hT.out.cell 2 _ rfl
      have c3 : wr.cell? ⟨B, 3, none⟩ = some (.int .i64 0) := hT.out.cell 3 _ rfl
      have c4 : wr.cell? ⟨B, 4, none⟩ = some (.int .i64 0) := hT.out.cell 4 _ rfl
      go_wp2_with (go_at_call 19; refine (check_ok _).mono ?_; rintro e w1 ⟨rfl, hb1⟩; have HB1 := Lib.hid hb1; clear hb1)
      go_roundw
      case rel => exact ⟨1, by omega, rfl, Lib.hid (hT.out.below (((Below.refl wr.heap.size wr).alloc (Nat.le_refl _) _).trans (HB1.out.mono (by simp))) (by omega)), HB.out.trans ((((Below.refl wr.heap.size wr).alloc (Nat.le_refl _) _).trans (HB1.out.mono (by simp))).mono (by omega))⟩
      case measure => simp [intOf]
    · have c0 : wr.cell? ⟨B, 5, none⟩ = some (.int .i64 0) := hT.out.cell 5 _ rfl
      have c1 : wr.cell? ⟨B, 6, none⟩ = some (.int .i64 1) := hT.out.cell 6 _ rfl
      have c2 : wr.cell? ⟨B, 7, none⟩ = some (.int .i64 0) := hT.out.cell 7 _ rfl
      have c3 : wr.cell? ⟨B, 8, none⟩ = some (.int .i64 0) := hT.out.cell 8 _ rfl
      have c4 : wr.cell? ⟨B, 9, none⟩ = some (.int .i64 0) := hT.out.cell 9 _ rfl
      go_wp2_with (go_at_call 19; refine (check_ok _).mono ?_; rintro e w1 ⟨rfl, hb1⟩; have HB1 := Lib.hid hb1; clear hb1)
      go_roundw
      case rel => exact ⟨2, by omega, rfl, Lib.hid (hT.out.below (((Below.refl wr.heap.size wr).alloc (Nat.le_refl _) _).trans (HB1.out.mono (by simp))) (by omega)), HB.out.trans ((((Below.refl wr.heap.size wr).alloc (Nat.le_refl _) _).trans (HB1.out.mono (by simp))).mono (by omega))⟩
      case measure => simp [intOf]
    · have c0 : wr.cell? ⟨B, 10, none⟩ = some (.int .i64 0) := hT.out.cell 10 _ rfl
      have c1 : wr.cell? ⟨B, 11, none⟩ = some (.int .i64 1) := hT.out.cell 11 _ rfl
      have c2 : wr.cell? ⟨B, 12, none⟩ = some (.int .i64 0) := hT.out.cell 12 _ rfl
      have c3 : wr.cell? ⟨B, 13, none⟩ = some (.int .i64 0) := hT.out.cell 13 _ rfl
      have c4 : wr.cell? ⟨B, 14, none⟩ = some (.int .i64 0) := hT.out.cell 14 _ rfl
      go_wp2_with (go_at_call 19; refine (check_ok _).mono ?_; rintro e w1 ⟨rfl, hb1⟩; have HB1 := Lib.hid hb1; clear hb1)
      go_roundw
      case rel => exact ⟨3, by omega, rfl, Lib.hid (hT.out.below (((Below.refl wr.heap.size wr).alloc (Nat.le_refl _) _).trans (HB1.out.mono (by simp))) (by omega)), HB.out.trans ((((Below.refl wr.heap.size wr).alloc (Nat.le_refl _) _).trans (HB1.out.mono (by simp))).mono (by omega))⟩
      case measure => simp [intOf]
    · go_wp2
      go_ret
      exact ⟨rfl, HB.out⟩

/-- What stands in memory while Sizes runs over the three pieces: the captured sum and last, num and den, the sizes so far. -/
structure SzAt (w0 : World) (B h g : Nat) (s l : Int) (xs : List Value) (v : Value) (wr : World) : Prop where
  three : Three wr B
  num : wr.heap[h]? = some (.cells #[.int .i64 5] 3)
  den : wr.heap[h + 1]? = some (.cells #[.int .i64 3] 3)
  sum : wr.heap[g]? = some (.cells #[.int .i64 s] 3)
  last : wr.heap[g + 1]? = some (.cells #[.int .i64 l] 3)
  own : wr.ownsRow (g + 2) 3 1 v xs.length xs
  below : Below w0.heap.size w0 wr
  le : g + 2 ≤ wr.heap.size
  hB : B < g
  hh : h + 1 < g
  h0 : w0.heap.size ≤ g

theorem one_cell {w : World} {b : Nat} {v : Value} (h : w.heap[b]? = some (.cells #[v] 3)) : w.cell? ⟨b, 0, none⟩ = some v := by simp [World.cell?, h]
theorem one_free {w : World} {b : Nat} {v : Value} (h : w.heap[b]? = some (.cells #[v] 3)) : w.frozen? ⟨b, 0, none⟩ = false := by simp [World.frozen?, h]
theorem one_set {w : World} {b : Nat} {v u : Value} (h : w.heap[b]? = some (.cells #[v] 3)) : (w.setCell ⟨b, 0, none⟩ u).heap[b]? = some (.cells #[u] 3) := by
  simp [World.setCell, Array.getElem?_modify, h]

theorem SzAt.alloc {w0 : World} {B h g : Nat} {s l : Int} {xs : List Value} {v : Value} {wr : World} (H : SzAt w0 B h g s l xs v wr) (o : Obj) : SzAt w0 B h g s l xs v (wr.alloc o) := by
  have hle := H.le
  have hB := H.hB
  have hh := H.hh
  refine ⟨?_, ?_, ?_, ?_, ?_, H.own.alloc o, H.below.alloc (by have := H.below.size; omega) o, by simp; omega, H.hB, H.hh, H.h0⟩
  · exact (Below.heap_alloc _ _ _ (by omega)).trans H.three
  · exact (Below.heap_alloc _ _ _ (by omega)).trans H.num
  · exact (Below.heap_alloc _ _ _ (by omega)).trans H.den
  · exact (Below.heap_alloc _ _ _ (by omega)).trans H.sum
  · exact (Below.heap_alloc _ _ _ (by omega)).trans H.last

theorem SzAt.set {w0 : World} {B h g : Nat} {s l : Int} {xs : List Value} {v : Value} {wr : World} (H : SzAt w0 B h g s l xs v wr) (s' l' : Int) (n : Nat) :
    SzAt w0 B h g s' l' xs v (((wr.setCell ⟨g, 0, none⟩ (.int .i64 s')).setCell ⟨g + 1, 0, none⟩ (.int .i64 l')).drewN n) := by
  have hB := H.hB
  have hh := H.hh
  have hm : ∀ k, k ≠ g → k ≠ g + 1 → ((wr.setCell ⟨g, 0, none⟩ (.int .i64 s')).setCell ⟨g + 1, 0, none⟩ (.int .i64 l')).heap[k]? = wr.heap[k]? := fun k h1 h2 =>
    (Below.heap_setCell _ _ _ _ h2).trans (Below.heap_setCell _ _ _ _ h1)
  refine ⟨(hm B (by omega) (by omega)).trans H.three, (hm h (by omega) (by omega)).trans H.num, (hm (h + 1) (by omega) (by omega)).trans H.den, ?_, ?_,
    ownsRow_setCell_below (ownsRow_setCell_below H.own (by simp) _) (by simp) _, ?_, ?_, H.hB, H.hh, H.h0⟩
  · exact (Below.heap_setCell _ _ _ _ (by simp)).trans (one_set H.sum)
  · exact one_set ((Below.heap_setCell _ _ _ _ (by simp)).trans H.last)
  · have := (H.below.setCell (p := ⟨g, 0, none⟩) H.h0 (.int .i64 s')).setCell (p := ⟨g + 1, 0, none⟩) (by have := H.h0; simp; omega) (.int .i64 l')
    exact ⟨this.os, this.tape, this.output, this.size, this.block⟩
  · have := H.le
    show g + 2 ≤ ((wr.setCell ⟨g, 0, none⟩ (.int .i64 s')).setCell ⟨g + 1, 0, none⟩ (.int .i64 l')).heap.size
    simp [World.setCell]; omega

theorem SzAt.append {w0 : World} {B h g : Nat} {s l : Int} {xs ys : List Value} {v v' : Value} {wr w' : World} (H : SzAt w0 B h g s l xs v wr) (hy : w'.ownsRow (g + 2) 3 1 v' ys.length ys) (hg : wr.grownBy w' v.ownBlock) :
    SzAt w0 B h g s l ys v' w' := by
  have hle := H.le
  have hB := H.hB
  have hh := H.hh
  have h0 := H.h0
  have hlt : ∀ k, v.ownBlock = some k → g + 2 ≤ k := fun k hk => (H.own.lt k hk).1
  have hm : ∀ k, k < g + 2 → w'.heap[k]? = wr.heap[k]? := fun k hk => hg.block k (by omega) (fun e => by have := hlt k e.symm; omega)
  exact ⟨(hm B (by omega)).trans H.three, (hm h (by omega)).trans H.num, (hm (h + 1) (by omega)).trans H.den, (hm g (by omega)).trans H.sum, (hm (g + 1) (by omega)).trans H.last, hy,
    H.below.grown hg (by have := H.below.size; omega) (fun k hk => by have := hlt k hk; omega), by have := hg.size; omega, H.hB, H.hh, H.h0⟩

/-- The closure of Sizes: the sum grows, the share of it is taken, the last one is kept. -/
theorem more_ok (h g : Nat) (hg : h + 1 < g) (s l v : Int) (w : World) (hs0 : 0 ≤ s) (hs1 : s ≤ 100) (hl0 : 0 ≤ l) (hl1 : l ≤ 100) (hv0 : 0 ≤ v) (hv1 : v ≤ 100) (hv : M.share (s + 1) 5 3 = (v, 0))
    (c0 : w.cell? ⟨h, 0, none⟩ = some (.int .i64 5)) (c1 : w.cell? ⟨h + 1, 0, none⟩ = some (.int .i64 3)) (c2 : w.cell? ⟨g, 0, none⟩ = some (.int .i64 s)) (c3 : w.cell? ⟨g + 1, 0, none⟩ = some (.int .i64 l))
    (f2 : w.frozen? ⟨g, 0, none⟩ = false) (f3 : w.frozen? ⟨g + 1, 0, none⟩ = false) :
    Calls Try.prog 17 #[.int .i64 1, .pointer (some ⟨g, 0, none⟩), .pointer (some ⟨h, 0, none⟩), .pointer (some ⟨h + 1, 0, none⟩), .pointer (some ⟨g + 1, 0, none⟩)] w fun e w' =>
      e = .returned (.tuple #[.int .i64 (v - l), .int .i64 0]) ∧ ∃ k, w' = ((w.setCell ⟨g, 0, none⟩ (.int .i64 (s + 1))).setCell ⟨g + 1, 0, none⟩ (.int .i64 v)).drewN k := by
  have n1 : g ≠ h := by omega
  have n2 : g ≠ h + 1 := by omega
  have n3 : h ≠ g := by omega
  have n4 : h + 1 ≠ g := by omega
  have c5 : ∀ w, Calls Try.prog 5 #[.int .i64 (s + 1), .int .i64 5, .int .i64 3] w fun e w' => e = .returned (.tuple #[.int .i64 v, .int .i64 0]) ∧ ∃ k, w' = w.drewN k := by
    intro w
    refine (share_any (s + 1) 5 3 w).mono fun e w' h => ⟨?_, h.2⟩
    have := h.1
    unfold ShareSaid at this
    rw [hv] at this
    exact this
  have C5 := Lib.hid c5
  clear c5 hv
  go_enter Try.func17, Try.ntmps17
  go_wp2_with (go_at_call 5; refine (C5.out _).mono ?_; rintro e w' ⟨rfl, k, rfl⟩)
  go_ret2
  exact ⟨rfl, k, rfl⟩

theorem more_at {w0 : World} {B h g : Nat} {s l : Int} {xs : List Value} {u : Value} {w : World} (H : SzAt w0 B h g s l xs u w) (v : Int) (hs0 : 0 ≤ s) (hs1 : s ≤ 100) (hl0 : 0 ≤ l) (hl1 : l ≤ 100) (hv0 : 0 ≤ v) (hv1 : v ≤ 100) (hv : M.share (s + 1) 5 3 = (v, 0)) :
    Calls Try.prog 17 #[.int .i64 1, .pointer (some ⟨g, 0, none⟩), .pointer (some ⟨h, 0, none⟩), .pointer (some ⟨h + 1, 0, none⟩), .pointer (some ⟨g + 1, 0, none⟩)] w fun e w' =>
      e = .returned (.tuple #[.int .i64 (v - l), .int .i64 0]) ∧ SzAt w0 B h g (s + 1) v xs u w' :=
  (more_ok h g H.hh s l v w hs0 hs1 hl0 hl1 hv0 hv1 hv (one_cell H.num) (one_cell H.den) (one_cell H.sum) (one_cell H.last) (one_free H.sum) (one_free H.last)).mono fun e w' ⟨he, k, hw⟩ => ⟨he, by rw [hw]; exact H.set _ _ _⟩
end Go.Proofs.Ytbodkgmhpialpaa
