/- WALKS: the operators of a formula's value (formula.operators$1..$12, but the test of order). -/
import Derived.Test.YtchoelgkcnnnkaaGreatDoorFnD
import Derived.Test.YtchoelgkcnnnkaaGreatDoorFnB
import Derived.RangeFuncBox
set_option linter.all false
namespace Go.Proofs.YtchoelgkcnnnkaaGreatDoor
open Go.RowKit

/-- A value that an operator may meet. -/
def Small (a : Tm) : Prop := (-1000000000000 ≤ a.n ∧ a.n ≤ 1000000000000) ∧ a.s.size ≤ 400
theorem below3 (w : World) (o1 o2 o3 : Obj) : Below w.heap.size w (((w.alloc o1).alloc o2).alloc o3) :=
  ((below1 w o1).alloc (by simp) o2).alloc (by simp; omega) o3
theorem set3 {w : World} {n : Nat} {x0 x1 x2 : Value} (h0 : w.cell? ⟨n, 0, none⟩ = some x0) (h1 : w.cell? ⟨n, 1, none⟩ = some x1) (h2 : w.cell? ⟨n, 2, none⟩ = some x2) (v0 v1 v2 : Value) :
    (((w.setCell ⟨n, 0, none⟩ v0).setCell ⟨n, 1, none⟩ v1).setCell ⟨n, 2, none⟩ v2).cell? ⟨n, 0, none⟩ = some v0 ∧ (((w.setCell ⟨n, 0, none⟩ v0).setCell ⟨n, 1, none⟩ v1).setCell ⟨n, 2, none⟩ v2).cell? ⟨n, 1, none⟩ = some v1 ∧ (((w.setCell ⟨n, 0, none⟩ v0).setCell ⟨n, 1, none⟩ v1).setCell ⟨n, 2, none⟩ v2).cell? ⟨n, 2, none⟩ = some v2 := by
  have o10 : (⟨n, 1, none⟩ : Addr) ≠ ⟨n, 0, none⟩ := by simp
  have o20 : (⟨n, 2, none⟩ : Addr) ≠ ⟨n, 0, none⟩ := by simp
  have o21 : (⟨n, 2, none⟩ : Addr) ≠ ⟨n, 1, none⟩ := by simp
  refine ⟨?_, ?_, ?_⟩
  · rw [World.cell?_setCell_other _ _ _ _ o20, World.cell?_setCell_other _ _ _ _ o10]; exact World.cell?_setCell_same _ _ _ h0
  · rw [World.cell?_setCell_other _ _ _ _ o21]; refine World.cell?_setCell_same _ _ _ (u := x1) ?_; rw [World.cell?_setCell_other _ _ _ _ o10.symm]; exact h1
  · refine World.cell?_setCell_same _ _ _ (u := x2) ?_; rw [World.cell?_setCell_other _ _ _ _ o21.symm, World.cell?_setCell_other _ _ _ _ o20.symm]; exact h2
theorem num_agg (n : Int) : (numV n).agg = .agg #[.int .i64 1, .int .i64 n, .string ⟨#[]⟩] := rfl
theorem truth_agg (b : Bool) : (truthV b).agg = .agg #[.int .i64 2, .int .i64 (if b then 1 else 0), .string ⟨#[]⟩] := by cases b <;> rfl
theorem truth_t : (truthV true).agg = .agg #[.int .i64 2, .int .i64 1, .string ⟨#[]⟩] := rfl
theorem truth_f : (truthV false).agg = .agg #[.int .i64 2, .int .i64 0, .string ⟨#[]⟩] := rfl
set_option maxRecDepth 100000 in
set_option maxHeartbeats 1000000 in
theorem opNeg (a b : Tm) (w : World) (ha : Small a) (hb : Small b) :
    Calls Tryz.prog 100 #[a.agg, b.agg] w fun e w' => e = .returned (numV (-a.n)).agg ∧ Below w.heap.size w w' := by
  obtain ⟨ak, an, sa⟩ := a
  obtain ⟨bk, bn, sb⟩ := b
  obtain ⟨⟨a0, a1⟩, a2⟩ := ha
  obtain ⟨⟨b0, b1⟩, b2⟩ := hb
  unfold Tm.agg
  dsimp only at *
  go_enter Tryz.func100, Tryz.ntmps100
  go_wp2_with fail
  refine (numberF_any _ _).mono ?_
  rintro e w' ⟨rfl, hb⟩
  have hbb := (below3 w _ _ _).trans (hb.mono (by simp; omega))
  have HB := Lib.hid hbb
  obtain ⟨hc, hf⟩ := bcell hb
  rw [num_agg]
  obtain ⟨d0, d1, d2⟩ : w'.cell? ⟨w.heap.size + 1 + 1, 0, none⟩ = some (.int .i64 0) ∧ w'.cell? ⟨w.heap.size + 1 + 1, 1, none⟩ = some (.int .i64 0) ∧ w'.cell? ⟨w.heap.size + 1 + 1, 2, none⟩ = some (.string ⟨#[]⟩) := by
    refine ⟨?_, ?_, ?_⟩ <;> (rw [hc _ _ (by simp)]; simp [go_sem])
  clear hb hbb
  go_wp2
  obtain ⟨e0, e1, e2⟩ := set3 d0 d1 d2 (.int .i64 1) (.int .i64 (-an)) (.string ⟨#[]⟩)
  exact bodyPost_ret (v := (numV (-an)).agg) (by simp [results, Tryz.results100, go_sem, Tm.agg, numV, truthV, e0, e1, e2]) rfl ⟨rfl, by first | exact HB.out | exact ((HB.out.setCell (p := ⟨w.heap.size + 1 + 1, 0, none⟩) (by simp; omega) _).setCell (p := ⟨w.heap.size + 1 + 1, 1, none⟩) (by simp; omega) _).setCell (p := ⟨w.heap.size + 1 + 1, 2, none⟩) (by simp; omega) _⟩

set_option maxRecDepth 100000 in
set_option maxHeartbeats 1000000 in
theorem opLen (a b : Tm) (w : World) (ha : Small a) (hb : Small b) :
    Calls Tryz.prog 104 #[a.agg, b.agg] w fun e w' => e = .returned (numV ((a.s.size : Int))).agg ∧ Below w.heap.size w w' := by
  obtain ⟨ak, an, sa⟩ := a
  obtain ⟨bk, bn, sb⟩ := b
  obtain ⟨⟨a0, a1⟩, a2⟩ := ha
  obtain ⟨⟨b0, b1⟩, b2⟩ := hb
  unfold Tm.agg
  dsimp only at *
  go_enter Tryz.func104, Tryz.ntmps104
  go_wp2_with fail
  refine (numberF_any _ _).mono ?_
  rintro e w' ⟨rfl, hb⟩
  have hbb := (below3 w _ _ _).trans (hb.mono (by simp; omega))
  have HB := Lib.hid hbb
  obtain ⟨hc, hf⟩ := bcell hb
  rw [num_agg]
  obtain ⟨d0, d1, d2⟩ : w'.cell? ⟨w.heap.size + 1 + 1, 0, none⟩ = some (.int .i64 0) ∧ w'.cell? ⟨w.heap.size + 1 + 1, 1, none⟩ = some (.int .i64 0) ∧ w'.cell? ⟨w.heap.size + 1 + 1, 2, none⟩ = some (.string ⟨#[]⟩) := by
    refine ⟨?_, ?_, ?_⟩ <;> (rw [hc _ _ (by simp)]; simp [go_sem])
  clear hb hbb
  go_wp2
  obtain ⟨e0, e1, e2⟩ := set3 d0 d1 d2 (.int .i64 1) (.int .i64 ((sa.size : Int))) (.string ⟨#[]⟩)
  exact bodyPost_ret (v := (numV ((sa.size : Int))).agg) (by simp [results, Tryz.results104, go_sem, Tm.agg, numV, truthV, e0, e1, e2]) rfl ⟨rfl, by first | exact HB.out | exact ((HB.out.setCell (p := ⟨w.heap.size + 1 + 1, 0, none⟩) (by simp; omega) _).setCell (p := ⟨w.heap.size + 1 + 1, 1, none⟩) (by simp; omega) _).setCell (p := ⟨w.heap.size + 1 + 1, 2, none⟩) (by simp; omega) _⟩

set_option maxRecDepth 100000 in
set_option maxHeartbeats 1000000 in
theorem opSub (a b : Tm) (w : World) (ha : Small a) (hb : Small b) :
    Calls Tryz.prog 106 #[a.agg, b.agg] w fun e w' => e = .returned (numV (a.n - b.n)).agg ∧ Below w.heap.size w w' := by
  obtain ⟨ak, an, sa⟩ := a
  obtain ⟨bk, bn, sb⟩ := b
  obtain ⟨⟨a0, a1⟩, a2⟩ := ha
  obtain ⟨⟨b0, b1⟩, b2⟩ := hb
  unfold Tm.agg
  dsimp only at *
  go_enter Tryz.func106, Tryz.ntmps106
  go_wp2_with fail
  refine (numberF_any _ _).mono ?_
  rintro e w' ⟨rfl, hb⟩
  have hbb := (below3 w _ _ _).trans (hb.mono (by simp; omega))
  have HB := Lib.hid hbb
  obtain ⟨hc, hf⟩ := bcell hb
  rw [num_agg]
  obtain ⟨d0, d1, d2⟩ : w'.cell? ⟨w.heap.size + 1 + 1, 0, none⟩ = some (.int .i64 0) ∧ w'.cell? ⟨w.heap.size + 1 + 1, 1, none⟩ = some (.int .i64 0) ∧ w'.cell? ⟨w.heap.size + 1 + 1, 2, none⟩ = some (.string ⟨#[]⟩) := by
    refine ⟨?_, ?_, ?_⟩ <;> (rw [hc _ _ (by simp)]; simp [go_sem])
  clear hb hbb
  go_wp2
  obtain ⟨e0, e1, e2⟩ := set3 d0 d1 d2 (.int .i64 1) (.int .i64 (an - bn)) (.string ⟨#[]⟩)
  exact bodyPost_ret (v := (numV (an - bn)).agg) (by simp [results, Tryz.results106, go_sem, Tm.agg, numV, truthV, e0, e1, e2]) rfl ⟨rfl, by first | exact HB.out | exact ((HB.out.setCell (p := ⟨w.heap.size + 1 + 1, 0, none⟩) (by simp; omega) _).setCell (p := ⟨w.heap.size + 1 + 1, 1, none⟩) (by simp; omega) _).setCell (p := ⟨w.heap.size + 1 + 1, 2, none⟩) (by simp; omega) _⟩

set_option maxRecDepth 100000 in
set_option maxHeartbeats 1000000 in
theorem opNot (a b : Tm) (w : World) (ha : Small a) (hb : Small b) :
    Calls Tryz.prog 102 #[a.agg, b.agg] w fun e w' => e = .returned (truthV (decide (a.n = 0))).agg ∧ Below w.heap.size w w' := by
  obtain ⟨ak, an, sa⟩ := a
  obtain ⟨bk, bn, sb⟩ := b
  obtain ⟨⟨a0, a1⟩, a2⟩ := ha
  obtain ⟨⟨b0, b1⟩, b2⟩ := hb
  unfold Tm.agg
  dsimp only at *
  by_cases h : an = 0
  ·
    have e : (an == 0) = true := by first | simpa using h | (simp; omega)
    have ht : decide (an = 0) = true := by first | simpa using h | (simp; omega)
    rw [ht]
    go_enter Tryz.func102, Tryz.ntmps102
    go_wp2_with fail
    refine (truthF_any true _).mono ?_
    rintro e w' ⟨rfl, hb⟩
    have hbb := (below3 w _ _ _).trans (hb.mono (by simp; omega))
    have HB := Lib.hid hbb
    obtain ⟨hc, hf⟩ := bcell hb
    rw [truth_t]
    obtain ⟨d0, d1, d2⟩ : w'.cell? ⟨w.heap.size + 1 + 1, 0, none⟩ = some (.int .i64 0) ∧ w'.cell? ⟨w.heap.size + 1 + 1, 1, none⟩ = some (.int .i64 0) ∧ w'.cell? ⟨w.heap.size + 1 + 1, 2, none⟩ = some (.string ⟨#[]⟩) := by
      refine ⟨?_, ?_, ?_⟩ <;> (rw [hc _ _ (by simp)]; simp [go_sem])
    clear hb hbb
    go_wp2
    obtain ⟨e0, e1, e2⟩ := set3 d0 d1 d2 (.int .i64 2) (.int .i64 1) (.string ⟨#[]⟩)
    exact bodyPost_ret (v := (truthV true).agg) (by simp [results, Tryz.results102, go_sem, Tm.agg, numV, truthV, e0, e1, e2]) rfl ⟨rfl, by first | exact HB.out | exact ((HB.out.setCell (p := ⟨w.heap.size + 1 + 1, 0, none⟩) (by simp; omega) _).setCell (p := ⟨w.heap.size + 1 + 1, 1, none⟩) (by simp; omega) _).setCell (p := ⟨w.heap.size + 1 + 1, 2, none⟩) (by simp; omega) _⟩
  ·
    have e : (an == 0) = false := by first | simpa using h | (simp; omega)
    have ht : decide (an = 0) = false := by first | simpa using h | (simp; omega)
    rw [ht]
    go_enter Tryz.func102, Tryz.ntmps102
    go_wp2_with fail
    refine (truthF_any false _).mono ?_
    rintro e w' ⟨rfl, hb⟩
    have hbb := (below3 w _ _ _).trans (hb.mono (by simp; omega))
    have HB := Lib.hid hbb
    obtain ⟨hc, hf⟩ := bcell hb
    rw [truth_f]
    obtain ⟨d0, d1, d2⟩ : w'.cell? ⟨w.heap.size + 1 + 1, 0, none⟩ = some (.int .i64 0) ∧ w'.cell? ⟨w.heap.size + 1 + 1, 1, none⟩ = some (.int .i64 0) ∧ w'.cell? ⟨w.heap.size + 1 + 1, 2, none⟩ = some (.string ⟨#[]⟩) := by
      refine ⟨?_, ?_, ?_⟩ <;> (rw [hc _ _ (by simp)]; simp [go_sem])
    clear hb hbb
    go_wp2
    obtain ⟨e0, e1, e2⟩ := set3 d0 d1 d2 (.int .i64 2) (.int .i64 0) (.string ⟨#[]⟩)
    exact bodyPost_ret (v := (truthV false).agg) (by simp [results, Tryz.results102, go_sem, Tm.agg, numV, truthV, e0, e1, e2]) rfl ⟨rfl, by first | exact HB.out | exact ((HB.out.setCell (p := ⟨w.heap.size + 1 + 1, 0, none⟩) (by simp; omega) _).setCell (p := ⟨w.heap.size + 1 + 1, 1, none⟩) (by simp; omega) _).setCell (p := ⟨w.heap.size + 1 + 1, 2, none⟩) (by simp; omega) _⟩

set_option maxRecDepth 100000 in
set_option maxHeartbeats 1000000 in
theorem opAnd (a b : Tm) (w : World) (ha : Small a) (hb : Small b) :
    Calls Tryz.prog 117 #[a.agg, b.agg] w fun e w' => e = .returned (truthV (decide (a.n + b.n = 2))).agg ∧ Below w.heap.size w w' := by
  obtain ⟨ak, an, sa⟩ := a
  obtain ⟨bk, bn, sb⟩ := b
  obtain ⟨⟨a0, a1⟩, a2⟩ := ha
  obtain ⟨⟨b0, b1⟩, b2⟩ := hb
  unfold Tm.agg
  dsimp only at *
  by_cases h : an + bn = 2
  ·
    have e : (an + bn == 2) = true := by first | simpa using h | (simp; omega)
    have ht : decide (an + bn = 2) = true := by first | simpa using h | (simp; omega)
    rw [ht]
    go_enter Tryz.func117, Tryz.ntmps117
    go_wp2_with fail
    refine (truthF_any true _).mono ?_
    rintro e w' ⟨rfl, hb⟩
    have hbb := (below3 w _ _ _).trans (hb.mono (by simp; omega))
    have HB := Lib.hid hbb
    obtain ⟨hc, hf⟩ := bcell hb
    rw [truth_t]
    obtain ⟨d0, d1, d2⟩ : w'.cell? ⟨w.heap.size + 1 + 1, 0, none⟩ = some (.int .i64 0) ∧ w'.cell? ⟨w.heap.size + 1 + 1, 1, none⟩ = some (.int .i64 0) ∧ w'.cell? ⟨w.heap.size + 1 + 1, 2, none⟩ = some (.string ⟨#[]⟩) := by
      refine ⟨?_, ?_, ?_⟩ <;> (rw [hc _ _ (by simp)]; simp [go_sem])
    clear hb hbb
    go_wp2
    obtain ⟨e0, e1, e2⟩ := set3 d0 d1 d2 (.int .i64 2) (.int .i64 1) (.string ⟨#[]⟩)
    exact bodyPost_ret (v := (truthV true).agg) (by simp [results, Tryz.results117, go_sem, Tm.agg, numV, truthV, e0, e1, e2]) rfl ⟨rfl, by first | exact HB.out | exact ((HB.out.setCell (p := ⟨w.heap.size + 1 + 1, 0, none⟩) (by simp; omega) _).setCell (p := ⟨w.heap.size + 1 + 1, 1, none⟩) (by simp; omega) _).setCell (p := ⟨w.heap.size + 1 + 1, 2, none⟩) (by simp; omega) _⟩
  ·
    have e : (an + bn == 2) = false := by first | simpa using h | (simp; omega)
    have ht : decide (an + bn = 2) = false := by first | simpa using h | (simp; omega)
    rw [ht]
    go_enter Tryz.func117, Tryz.ntmps117
    go_wp2_with fail
    refine (truthF_any false _).mono ?_
    rintro e w' ⟨rfl, hb⟩
    have hbb := (below3 w _ _ _).trans (hb.mono (by simp; omega))
    have HB := Lib.hid hbb
    obtain ⟨hc, hf⟩ := bcell hb
    rw [truth_f]
    obtain ⟨d0, d1, d2⟩ : w'.cell? ⟨w.heap.size + 1 + 1, 0, none⟩ = some (.int .i64 0) ∧ w'.cell? ⟨w.heap.size + 1 + 1, 1, none⟩ = some (.int .i64 0) ∧ w'.cell? ⟨w.heap.size + 1 + 1, 2, none⟩ = some (.string ⟨#[]⟩) := by
      refine ⟨?_, ?_, ?_⟩ <;> (rw [hc _ _ (by simp)]; simp [go_sem])
    clear hb hbb
    go_wp2
    obtain ⟨e0, e1, e2⟩ := set3 d0 d1 d2 (.int .i64 2) (.int .i64 0) (.string ⟨#[]⟩)
    exact bodyPost_ret (v := (truthV false).agg) (by simp [results, Tryz.results117, go_sem, Tm.agg, numV, truthV, e0, e1, e2]) rfl ⟨rfl, by first | exact HB.out | exact ((HB.out.setCell (p := ⟨w.heap.size + 1 + 1, 0, none⟩) (by simp; omega) _).setCell (p := ⟨w.heap.size + 1 + 1, 1, none⟩) (by simp; omega) _).setCell (p := ⟨w.heap.size + 1 + 1, 2, none⟩) (by simp; omega) _⟩

set_option maxRecDepth 100000 in
set_option maxHeartbeats 1000000 in
theorem opOr (a b : Tm) (w : World) (ha : Small a) (hb : Small b) :
    Calls Tryz.prog 118 #[a.agg, b.agg] w fun e w' => e = .returned (truthV (decide (a.n + b.n > 0))).agg ∧ Below w.heap.size w w' := by
  obtain ⟨ak, an, sa⟩ := a
  obtain ⟨bk, bn, sb⟩ := b
  obtain ⟨⟨a0, a1⟩, a2⟩ := ha
  obtain ⟨⟨b0, b1⟩, b2⟩ := hb
  unfold Tm.agg
  dsimp only at *
  by_cases h : an + bn > 0
  ·
    have e : (decide (an + bn > 0)) = true := by first | simpa using h | (simp; omega)
    have ht : decide (an + bn > 0) = true := by first | simpa using h | (simp; omega)
    rw [ht]
    go_enter Tryz.func118, Tryz.ntmps118
    go_wp2_with fail
    refine (truthF_any true _).mono ?_
    rintro e w' ⟨rfl, hb⟩
    have hbb := (below3 w _ _ _).trans (hb.mono (by simp; omega))
    have HB := Lib.hid hbb
    obtain ⟨hc, hf⟩ := bcell hb
    rw [truth_t]
    obtain ⟨d0, d1, d2⟩ : w'.cell? ⟨w.heap.size + 1 + 1, 0, none⟩ = some (.int .i64 0) ∧ w'.cell? ⟨w.heap.size + 1 + 1, 1, none⟩ = some (.int .i64 0) ∧ w'.cell? ⟨w.heap.size + 1 + 1, 2, none⟩ = some (.string ⟨#[]⟩) := by
      refine ⟨?_, ?_, ?_⟩ <;> (rw [hc _ _ (by simp)]; simp [go_sem])
    clear hb hbb
    go_wp2
    obtain ⟨e0, e1, e2⟩ := set3 d0 d1 d2 (.int .i64 2) (.int .i64 1) (.string ⟨#[]⟩)
    exact bodyPost_ret (v := (truthV true).agg) (by simp [results, Tryz.results118, go_sem, Tm.agg, numV, truthV, e0, e1, e2]) rfl ⟨rfl, by first | exact HB.out | exact ((HB.out.setCell (p := ⟨w.heap.size + 1 + 1, 0, none⟩) (by simp; omega) _).setCell (p := ⟨w.heap.size + 1 + 1, 1, none⟩) (by simp; omega) _).setCell (p := ⟨w.heap.size + 1 + 1, 2, none⟩) (by simp; omega) _⟩
  ·
    have e : (decide (an + bn > 0)) = false := by first | simpa using h | (simp; omega)
    have ht : decide (an + bn > 0) = false := by first | simpa using h | (simp; omega)
    rw [ht]
    go_enter Tryz.func118, Tryz.ntmps118
    go_wp2_with fail
    refine (truthF_any false _).mono ?_
    rintro e w' ⟨rfl, hb⟩
    have hbb := (below3 w _ _ _).trans (hb.mono (by simp; omega))
    have HB := Lib.hid hbb
    obtain ⟨hc, hf⟩ := bcell hb
    rw [truth_f]
    obtain ⟨d0, d1, d2⟩ : w'.cell? ⟨w.heap.size + 1 + 1, 0, none⟩ = some (.int .i64 0) ∧ w'.cell? ⟨w.heap.size + 1 + 1, 1, none⟩ = some (.int .i64 0) ∧ w'.cell? ⟨w.heap.size + 1 + 1, 2, none⟩ = some (.string ⟨#[]⟩) := by
      refine ⟨?_, ?_, ?_⟩ <;> (rw [hc _ _ (by simp)]; simp [go_sem])
    clear hb hbb
    go_wp2
    obtain ⟨e0, e1, e2⟩ := set3 d0 d1 d2 (.int .i64 2) (.int .i64 0) (.string ⟨#[]⟩)
    exact bodyPost_ret (v := (truthV false).agg) (by simp [results, Tryz.results118, go_sem, Tm.agg, numV, truthV, e0, e1, e2]) rfl ⟨rfl, by first | exact HB.out | exact ((HB.out.setCell (p := ⟨w.heap.size + 1 + 1, 0, none⟩) (by simp; omega) _).setCell (p := ⟨w.heap.size + 1 + 1, 1, none⟩) (by simp; omega) _).setCell (p := ⟨w.heap.size + 1 + 1, 2, none⟩) (by simp; omega) _⟩

end Go.Proofs.YtchoelgkcnnnkaaGreatDoor
