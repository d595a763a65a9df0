/- What glue.Sizes answers at three pieces of glue of 0 plus 1, five thirds of it each: 2, 1 and 2, in memory of its own. Conditions: the three pieces lie in one block. -/
import Derived.Test.YtbodkgmhpialpaaLiveA
import Derived.WalkSmall
namespace Go.Proofs.Ytbodkgmhpialpaa
open Go.RowKit
theorem info3 : (Try.prog.info? 3).map (fun i => (i.zero, i.size, i.bytes)) = some (some (.int .i64 0), 1, 8) := by kernel_rfl
theorem near5 : M.near 5 = true := by decide
theorem near3 : M.near 3 = true := by decide
def outs (k : Nat) : List Value := ([.int .i64 2, .int .i64 1, .int .i64 2] : List Value).take k
def vs : Nat → Int
  | 0 => 0
  | 1 => 2
  | 2 => 3
  | _ => 5
set_option maxRecDepth 100000 in
set_option maxHeartbeats 8000000 in
theorem sizes_ok (B : Nat) (w : World) (h : Three w B) : Calls Try.prog 12 #[.slice (some ⟨B, 0, none⟩) 3 3, .int .i64 1, .int .i64 0, .int .i64 5, .int .i64 3] w fun e w' =>
    ∃ v, e = .returned (.tuple #[v, .int .i64 0]) ∧ w'.ownsRow w.heap.size 3 1 v 3 (outs 3) ∧ Below w.heap.size w w' := by
  obtain ⟨i0, hi, hz0, hz1, hz2⟩ := info_parts info3
  have hB := h.lt
  have H := Lib.hid h
  have N5 := near5
  have N3 := near3
  clear h
  go_enter Try.func12, Try.ntmps12
  go_wp2_with fail
  refine (row_ok B _ ((Below.heap_alloc _ _ _ (by simp; omega)).trans ((Below.heap_alloc _ _ _ hB).trans H.out))).mono ?_
  rintro e w1 ⟨rfl, hb1⟩
  have hsz : w.heap.size + 2 ≤ w1.heap.size := by have := hb1.size; simp at this; omega
  have q1 : w1.heap[w.heap.size]? = some (.cells #[.int .i64 5] 3) := (hb1.block _ (by simp; omega)).trans ((Below.heap_alloc _ _ _ (by simp)).trans (MapKept.heap_alloc w _).1)
  have q2 : w1.heap[w.heap.size + 1]? = some (.cells #[.int .i64 3] 3) := (hb1.block _ (by simp)).trans (by simpa using (MapKept.heap_alloc (w.alloc (.cells #[.int .i64 5] 3)) (.cells #[.int .i64 3] 3)).1)
  have hbw : Below w.heap.size w w1 := (((Below.refl _ _).alloc (Nat.le_refl _) _).alloc (by simp) _).trans (hb1.mono (by simp; omega))
  have T1 : Three w1 B := H.out.below hbw hB
  have cA := one_cell q1
  have cB := one_cell q2
  have HQ := Lib.hid (And.intro q1 (And.intro q2 (And.intro hbw T1)))
  clear q1 q2 hbw T1 hb1 H
  go_wp2_with (go_at_call 9; refine (near_any _ _).mono ?_; rintro e w' ⟨rfl, rfl⟩)
  have hsz' := Lib.hid hsz
  clear hsz cA cB N5 N3
  go_loopw [16, 62] (fun v16 v62 wr => ∃ k : Nat, k ≤ 3 ∧ v62 = .int .i64 (k : Int) ∧ Hid (SzAt w B w.heap.size w1.heap.size (k : Int) (vs k) (outs k) v16 wr)) (fun _ v62 _ => 3 - (intOf v62).toNat)
  case atStart =>
    obtain ⟨q1, q2, hbw, T1⟩ := HQ.out
    have hs := hsz'.out
    refine ⟨0, by omega, rfl, Lib.hid ?_⟩
    refine ⟨(Below.heap_alloc _ _ _ (by simp; omega)).trans ((Below.heap_alloc _ _ _ (by omega)).trans T1), (Below.heap_alloc _ _ _ (by simp; omega)).trans ((Below.heap_alloc _ _ _ (by omega)).trans q1),
      (Below.heap_alloc _ _ _ (by simp; omega)).trans ((Below.heap_alloc _ _ _ (by omega)).trans q2), (Below.heap_alloc _ _ _ (by simp)).trans (MapKept.heap_alloc w1 _).1, ?_, World.ownsRow_nil _ _ _ _,
      (hbw.alloc (by omega) _).alloc (by simp; omega) _, by simp, by omega, by omega, by omega⟩
    simpa [vs] using (MapKept.heap_alloc (w1.alloc (.cells #[.int .i64 0] 3)) (.cells #[.int .i64 0] 3)).1
  case round =>
    obtain ⟨k, hk, rfl, hT⟩ := hrel
    rcases (show k = 0 ∨ k = 1 ∨ k = 2 ∨ k = 3 by omega) with rfl | rfl | rfl | rfl
    · have hS : SzAt w B w.heap.size w1.heap.size 0 0 [] _ wr := hT.out
      have c0 : wr.cell? ⟨B, 0, none⟩ = some (.int .i64 0) := hS.three.cell 0 _ rfl
      have c1 : wr.cell? ⟨B, 1, none⟩ = some (.int .i64 1) := hS.three.cell 1 _ rfl
      have c2 : wr.cell? ⟨B, 2, none⟩ = some (.int .i64 0) := hS.three.cell 2 _ rfl
      have c3 : wr.cell? ⟨B, 3, none⟩ = some (.int .i64 0) := hS.three.cell 3 _ rfl
      have c4 : wr.cell? ⟨B, 4, none⟩ = some (.int .i64 0) := hS.three.cell 4 _ rfl
      have HS := Lib.hid hS
      have hle := hS.le
      clear hS hT
      go_wp2_with (first
        | (go_at_call 17; refine (more_at (HS.out.alloc _) 2 (by omega) (by omega) (by omega) (by omega) (by omega) (by omega) (by decide)).mono ?_; rintro e w2 ⟨rfl, hS2⟩; have hle2 := hS2.le; have HS2 := Lib.hid hS2; clear hS2)
        | (at_builtin; refine wpList_append_own _ rfl _ _ 37 rfl (w1.heap.size + 2) 3 i0 (.int .i64 0) 1 8 Try.underlying37 hi hz0 hz1 hz2 rfl (by decide) _ _ _ rfl (HS2.out.own.alloc _) ⟨w2.heap.size, 0, none⟩ 1 1 [.int .i64 2] rfl rfl ?c10 ?c20 ?c30 ?c40 ?c50 ?_))
      case c10 =>
        intro j u hj
        match j, hj with
        | 0, hj => simp at hj; subst hj; simp [Addr.add]
      case c20 => intro u hu; simp at hu; subst hu; rfl
      case c30 => simp [maxLen]
      case c40 => simp
      case c50 => simp; omega
      · intro v' w3 hown' hgrow _
        have HS3 := Lib.hid (HS2.out.alloc _ |>.append hown' hgrow)
        clear hown' hgrow
        go_wp2
        go_roundw
        case rel => exact ⟨1, by omega, rfl, Lib.hid HS3.out⟩
        case measure => simp [intOf]
    · have hS : SzAt w B w.heap.size w1.heap.size 1 2 [.int .i64 2] _ wr := hT.out
      have c0 : wr.cell? ⟨B, 5, none⟩ = some (.int .i64 0) := hS.three.cell 5 _ rfl
      have c1 : wr.cell? ⟨B, 6, none⟩ = some (.int .i64 1) := hS.three.cell 6 _ rfl
      have c2 : wr.cell? ⟨B, 7, none⟩ = some (.int .i64 0) := hS.three.cell 7 _ rfl
      have c3 : wr.cell? ⟨B, 8, none⟩ = some (.int .i64 0) := hS.three.cell 8 _ rfl
      have c4 : wr.cell? ⟨B, 9, none⟩ = some (.int .i64 0) := hS.three.cell 9 _ rfl
      have HS := Lib.hid hS
      have hle := hS.le
      clear hS hT
      go_wp2_with (first
        | (go_at_call 17; refine (more_at (HS.out.alloc _) 3 (by omega) (by omega) (by omega) (by omega) (by omega) (by omega) (by decide)).mono ?_; rintro e w2 ⟨rfl, hS2⟩; have hle2 := hS2.le; have HS2 := Lib.hid hS2; clear hS2)
        | (at_builtin; refine wpList_append_own _ rfl _ _ 37 rfl (w1.heap.size + 2) 3 i0 (.int .i64 0) 1 8 Try.underlying37 hi hz0 hz1 hz2 rfl (by decide) _ _ _ rfl (HS2.out.own.alloc _) ⟨w2.heap.size, 0, none⟩ 1 1 [.int .i64 1] rfl rfl ?c11 ?c21 ?c31 ?c41 ?c51 ?_))
      case c11 =>
        intro j u hj
        match j, hj with
        | 0, hj => simp at hj; subst hj; simp [Addr.add]
      case c21 => intro u hu; simp at hu; subst hu; rfl
      case c31 => simp [maxLen]
      case c41 => simp
      case c51 => simp; omega
      · intro v' w3 hown' hgrow _
        have HS3 := Lib.hid (HS2.out.alloc _ |>.append hown' hgrow)
        clear hown' hgrow
        go_wp2
        go_roundw
        case rel => exact ⟨2, by omega, rfl, Lib.hid HS3.out⟩
        case measure => simp [intOf]
    · have hS : SzAt w B w.heap.size w1.heap.size 2 3 [.int .i64 2, .int .i64 1] _ wr := hT.out
      have c0 : wr.cell? ⟨B, 10, none⟩ = some (.int .i64 0) := hS.three.cell 10 _ rfl
      have c1 : wr.cell? ⟨B, 11, none⟩ = some (.int .i64 1) := hS.three.cell 11 _ rfl
      have c2 : wr.cell? ⟨B, 12, none⟩ = some (.int .i64 0) := hS.three.cell 12 _ rfl
      have c3 : wr.cell? ⟨B, 13, none⟩ = some (.int .i64 0) := hS.three.cell 13 _ rfl
      have c4 : wr.cell? ⟨B, 14, none⟩ = some (.int .i64 0) := hS.three.cell 14 _ rfl
      have HS := Lib.hid hS
      have hle := hS.le
      clear hS hT
      go_wp2_with (first
        | (go_at_call 17; refine (more_at (HS.out.alloc _) 5 (by omega) (by omega) (by omega) (by omega) (by omega) (by omega) (by decide)).mono ?_; rintro e w2 ⟨rfl, hS2⟩; have hle2 := hS2.le; have HS2 := Lib.hid hS2; clear hS2)
        | (at_builtin; refine wpList_append_own _ rfl _ _ 37 rfl (w1.heap.size + 2) 3 i0 (.int .i64 0) 1 8 Try.underlying37 hi hz0 hz1 hz2 rfl (by decide) _ _ _ rfl (HS2.out.own.alloc _) ⟨w2.heap.size, 0, none⟩ 1 1 [.int .i64 2] rfl rfl ?c12 ?c22 ?c32 ?c42 ?c52 ?_))
      case c12 =>
        intro j u hj
        match j, hj with
        | 0, hj => simp at hj; subst hj; simp [Addr.add]
      case c22 => intro u hu; simp at hu; subst hu; rfl
      case c32 => simp [maxLen]
      case c42 => simp
      case c52 => simp; omega
      · intro v' w3 hown' hgrow _
        have HS3 := Lib.hid (HS2.out.alloc _ |>.append hown' hgrow)
        clear hown' hgrow
        go_wp2
        go_roundw
        case rel => exact ⟨3, by omega, rfl, Lib.hid HS3.out⟩
        case measure => simp [intOf]
    · have hS : SzAt w B w.heap.size w1.heap.size 3 5 (outs 3) _ wr := hT.out
      have HS := Lib.hid hS
      clear hS hT
      go_wp2
      go_ret2
      refine ⟨_, rfl, ?_, HS.out.below⟩
      obtain ⟨o1, o2⟩ := HS.out.own
      refine ⟨o1, ?_⟩
      rcases o2 with ⟨_, o3⟩ | ⟨gg, cap, cur, o4, o5, o6⟩
      · exact absurd o3 (by decide)
      · exact .inr ⟨gg, cap, cur, o4, by have := HS.out.h0; omega, o6⟩
end Go.Proofs.Ytbodkgmhpialpaa
