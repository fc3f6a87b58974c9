/- WALKS: the operators of a formula's value: add, multiply, divide, equal. -/
import Derived.Test.YtchoelgkcnnnkaaGreatDoorOps
set_option linter.all false
namespace Go.Proofs.YtchoelgkcnnnkaaGreatDoor
open Go.RowKit
set_option maxRecDepth 100000 in
set_option maxHeartbeats 1000000 in
theorem opAdd (a b : Tm) (w : World) (ha : Small a) (hb : Small b) :
    Calls Tryz.prog 105 #[a.agg, b.agg] w fun e w' => e = .returned (Tm.agg ⟨a.k, a.n + b.n, a.s ++ b.s⟩) ∧ Below w.heap.size w w' := by
  obtain ⟨ak, an, sa⟩ := a
  obtain ⟨bk, bn, sb⟩ := b
  obtain ⟨⟨a0, a1⟩, a2⟩ := ha
  obtain ⟨⟨b0, b1⟩, b2⟩ := hb
  unfold Tm.agg
  dsimp only at *
  go_enter Tryz.func105, Tryz.ntmps105
  go_wp2
  exact bodyPost_ret (v := .agg #[.int .i64 ak, .int .i64 (an + bn), .string (sa ++ sb)]) (by simp [results, Tryz.results105, go_sem, Tm.agg]) rfl ⟨rfl, below3 _ _ _ _⟩

set_option maxRecDepth 100000 in
set_option maxHeartbeats 1000000 in
theorem opEq (a b : Tm) (r : Bool) (w : World) (ha : Small a) (hb : Small b) (HR : Hid (r = ((a.k == b.k) && ((a.n == b.n) && (a.s.toList == b.s.toList))))) :
    Calls Tryz.prog 112 #[a.agg, b.agg] w fun e w' => e = .returned (truthV r).agg ∧ Below w.heap.size w w' := by
  obtain ⟨ak, an, sa⟩ := a
  obtain ⟨bk, bn, sb⟩ := b
  obtain ⟨⟨a0, a1⟩, a2⟩ := ha
  obtain ⟨⟨b0, b1⟩, b2⟩ := hb
  unfold Tm.agg
  dsimp only at *
  by_cases h1 : ak = bk
  · subst h1
    by_cases h2 : an = bn
    · subst h2
      by_cases h3 : sa.toList = sb.toList
      · go_enter Tryz.func112, Tryz.ntmps112
        go_wp2_with fail
        refine (truthF_any true _).mono ?_
        rintro e w' ⟨rfl, hb⟩
        have hbb := (below3 w _ _ _).trans (hb.mono (by simp; omega))
        have HB := Lib.hid hbb
        obtain ⟨hc, hf⟩ := bcell hb
        rw [truth_t]
        obtain ⟨d0, d1, d2⟩ : w'.cell? ⟨w.heap.size + 1 + 1, 0, none⟩ = some (.int .i64 0) ∧ w'.cell? ⟨w.heap.size + 1 + 1, 1, none⟩ = some (.int .i64 0) ∧ w'.cell? ⟨w.heap.size + 1 + 1, 2, none⟩ = some (.string ⟨#[]⟩) := by
          refine ⟨?_, ?_, ?_⟩ <;> (rw [hc _ _ (by simp)]; simp [go_sem])
        clear hb hbb
        go_wp2
        obtain ⟨e0, e1, e2⟩ := set3 d0 d1 d2 (.int .i64 2) (.int .i64 1) (.string ⟨#[]⟩)
        have hr : r = true := by rw [HR.out]; simp [*]
        subst hr
        exact bodyPost_ret (v := (truthV true).agg) (by simp [results, Tryz.results112, go_sem, Tm.agg, truthV, e0, e1, e2]) rfl ⟨rfl, ((HB.out.setCell (p := ⟨w.heap.size + 1 + 1, 0, none⟩) (by simp; omega) _).setCell (p := ⟨w.heap.size + 1 + 1, 1, none⟩) (by simp; omega) _).setCell (p := ⟨w.heap.size + 1 + 1, 2, none⟩) (by simp; omega) _⟩
      · go_enter Tryz.func112, Tryz.ntmps112
        go_wp2_with fail
        refine (truthF_any false _).mono ?_
        rintro e w' ⟨rfl, hb⟩
        have hbb := (below3 w _ _ _).trans (hb.mono (by simp; omega))
        have HB := Lib.hid hbb
        obtain ⟨hc, hf⟩ := bcell hb
        rw [truth_f]
        obtain ⟨d0, d1, d2⟩ : w'.cell? ⟨w.heap.size + 1 + 1, 0, none⟩ = some (.int .i64 0) ∧ w'.cell? ⟨w.heap.size + 1 + 1, 1, none⟩ = some (.int .i64 0) ∧ w'.cell? ⟨w.heap.size + 1 + 1, 2, none⟩ = some (.string ⟨#[]⟩) := by
          refine ⟨?_, ?_, ?_⟩ <;> (rw [hc _ _ (by simp)]; simp [go_sem])
        clear hb hbb
        go_wp2
        obtain ⟨e0, e1, e2⟩ := set3 d0 d1 d2 (.int .i64 2) (.int .i64 0) (.string ⟨#[]⟩)
        have hr : r = false := by rw [HR.out]; simp [*]
        subst hr
        exact bodyPost_ret (v := (truthV false).agg) (by simp [results, Tryz.results112, go_sem, Tm.agg, truthV, e0, e1, e2]) rfl ⟨rfl, ((HB.out.setCell (p := ⟨w.heap.size + 1 + 1, 0, none⟩) (by simp; omega) _).setCell (p := ⟨w.heap.size + 1 + 1, 1, none⟩) (by simp; omega) _).setCell (p := ⟨w.heap.size + 1 + 1, 2, none⟩) (by simp; omega) _⟩
    · go_enter Tryz.func112, Tryz.ntmps112
      go_wp2_with fail
      refine (truthF_any false _).mono ?_
      rintro e w' ⟨rfl, hb⟩
      have hbb := (below3 w _ _ _).trans (hb.mono (by simp; omega))
      have HB := Lib.hid hbb
      obtain ⟨hc, hf⟩ := bcell hb
      rw [truth_f]
      obtain ⟨d0, d1, d2⟩ : w'.cell? ⟨w.heap.size + 1 + 1, 0, none⟩ = some (.int .i64 0) ∧ w'.cell? ⟨w.heap.size + 1 + 1, 1, none⟩ = some (.int .i64 0) ∧ w'.cell? ⟨w.heap.size + 1 + 1, 2, none⟩ = some (.string ⟨#[]⟩) := by
        refine ⟨?_, ?_, ?_⟩ <;> (rw [hc _ _ (by simp)]; simp [go_sem])
      clear hb hbb
      go_wp2
      obtain ⟨e0, e1, e2⟩ := set3 d0 d1 d2 (.int .i64 2) (.int .i64 0) (.string ⟨#[]⟩)
      have hr : r = false := by rw [HR.out]; simp [*]
      subst hr
      exact bodyPost_ret (v := (truthV false).agg) (by simp [results, Tryz.results112, go_sem, Tm.agg, truthV, e0, e1, e2]) rfl ⟨rfl, ((HB.out.setCell (p := ⟨w.heap.size + 1 + 1, 0, none⟩) (by simp; omega) _).setCell (p := ⟨w.heap.size + 1 + 1, 1, none⟩) (by simp; omega) _).setCell (p := ⟨w.heap.size + 1 + 1, 2, none⟩) (by simp; omega) _⟩
  · go_enter Tryz.func112, Tryz.ntmps112
    go_wp2_with fail
    refine (truthF_any false _).mono ?_
    rintro e w' ⟨rfl, hb⟩
    have hbb := (below3 w _ _ _).trans (hb.mono (by simp; omega))
    have HB := Lib.hid hbb
    obtain ⟨hc, hf⟩ := bcell hb
    rw [truth_f]
    obtain ⟨d0, d1, d2⟩ : w'.cell? ⟨w.heap.size + 1 + 1, 0, none⟩ = some (.int .i64 0) ∧ w'.cell? ⟨w.heap.size + 1 + 1, 1, none⟩ = some (.int .i64 0) ∧ w'.cell? ⟨w.heap.size + 1 + 1, 2, none⟩ = some (.string ⟨#[]⟩) := by
      refine ⟨?_, ?_, ?_⟩ <;> (rw [hc _ _ (by simp)]; simp [go_sem])
    clear hb hbb
    go_wp2
    obtain ⟨e0, e1, e2⟩ := set3 d0 d1 d2 (.int .i64 2) (.int .i64 0) (.string ⟨#[]⟩)
    have hr : r = false := by rw [HR.out]; simp [*]
    subst hr
    exact bodyPost_ret (v := (truthV false).agg) (by simp [results, Tryz.results112, go_sem, Tm.agg, truthV, e0, e1, e2]) rfl ⟨rfl, ((HB.out.setCell (p := ⟨w.heap.size + 1 + 1, 0, none⟩) (by simp; omega) _).setCell (p := ⟨w.heap.size + 1 + 1, 1, none⟩) (by simp; omega) _).setCell (p := ⟨w.heap.size + 1 + 1, 2, none⟩) (by simp; omega) _⟩

set_option maxRecDepth 100000 in
set_option maxHeartbeats 1000000 in
theorem opDiv (a b : Tm) (w : World) (ha : Small a) (hb : Small b) (h0 : b.n ≠ 0) :
    Calls Tryz.prog 109 #[a.agg, b.agg] w fun e w' => e = .returned (numV (Pl.flq a.n b.n)).agg ∧ Below w.heap.size w w' := by
  obtain ⟨ak, an, sa⟩ := a
  obtain ⟨bk, bn, sb⟩ := b
  obtain ⟨⟨a0, a1⟩, a2⟩ := ha
  obtain ⟨⟨b0, b1⟩, b2⟩ := hb
  unfold Tm.agg
  dsimp only at *
  go_enter Tryz.func109, Tryz.ntmps109
  go_wp2_with fail
  refine (floor_any _ _ _ (by omega) (by omega) h0 (by omega) (by omega)).mono ?_
  rintro e w0 ⟨rfl, q, rfl⟩
  go_wp2_with fail
  refine (numberF_any _ _).mono ?_
  rintro e w' ⟨rfl, hb⟩
  have hbb := (below_drewN' (below3 w _ _ _) q).trans (hb.mono (by simp; omega))
  have HB := Lib.hid hbb
  obtain ⟨hc, hf⟩ := bcell hb
  rw [num_agg]
  obtain ⟨d0, d1, d2⟩ : w'.cell? ⟨w.heap.size + 1 + 1, 0, none⟩ = some (.int .i64 0) ∧ w'.cell? ⟨w.heap.size + 1 + 1, 1, none⟩ = some (.int .i64 0) ∧ w'.cell? ⟨w.heap.size + 1 + 1, 2, none⟩ = some (.string ⟨#[]⟩) := by
    refine ⟨?_, ?_, ?_⟩ <;> (rw [hc _ _ (by simp)]; simp [go_sem])
  clear hb hbb
  go_wp2
  obtain ⟨e0, e1, e2⟩ := set3 d0 d1 d2 (.int .i64 1) (.int .i64 (Pl.flq an bn)) (.string ⟨#[]⟩)
  exact bodyPost_ret (v := (numV (Pl.flq an bn)).agg) (by simp [results, Tryz.results109, go_sem, Tm.agg, numV, e0, e1, e2]) rfl ⟨rfl, ((HB.out.setCell (p := ⟨w.heap.size + 1 + 1, 0, none⟩) (by simp; omega) _).setCell (p := ⟨w.heap.size + 1 + 1, 1, none⟩) (by simp; omega) _).setCell (p := ⟨w.heap.size + 1 + 1, 2, none⟩) (by simp; omega) _⟩

set_option maxRecDepth 100000 in
set_option maxHeartbeats 1000000 in
theorem opDivZ (a b : Tm) (w : World) (h0 : b.n = 0) :
    Calls Tryz.prog 109 #[a.agg, b.agg] w fun e w' => e = .panicked noneP ∧ Below w.heap.size w w' := by
  obtain ⟨ak, an, sa⟩ := a
  obtain ⟨bk, bn, sb⟩ := b
  unfold Tm.agg
  dsimp only at *
  subst h0
  go_enter Tryz.func109, Tryz.ntmps109
  go_wp2_with fail
  refine (floor_zero _ _).mono ?_
  rintro e w0 ⟨rfl, rfl⟩
  go_wp2
  exact ⟨rfl, rfl, below3 _ _ _ _⟩

set_option maxRecDepth 100000 in
set_option maxHeartbeats 1000000 in
theorem opMod (a b : Tm) (w : World) (ha : Small a) (hb : Small b) (h0 : b.n ≠ 0) :
    Calls Tryz.prog 111 #[a.agg, b.agg] w fun e w' => e = .returned (numV (Pl.flr a.n b.n)).agg ∧ Below w.heap.size w w' := by
  obtain ⟨ak, an, sa⟩ := a
  obtain ⟨bk, bn, sb⟩ := b
  obtain ⟨⟨a0, a1⟩, a2⟩ := ha
  obtain ⟨⟨b0, b1⟩, b2⟩ := hb
  unfold Tm.agg
  dsimp only at *
  go_enter Tryz.func111, Tryz.ntmps111
  go_wp2_with fail
  refine (floor_any _ _ _ (by omega) (by omega) h0 (by omega) (by omega)).mono ?_
  rintro e w0 ⟨rfl, q, rfl⟩
  go_wp2_with fail
  refine (numberF_any _ _).mono ?_
  rintro e w' ⟨rfl, hb⟩
  have hbb := (below_drewN' (below3 w _ _ _) q).trans (hb.mono (by simp; omega))
  have HB := Lib.hid hbb
  obtain ⟨hc, hf⟩ := bcell hb
  rw [num_agg]
  obtain ⟨d0, d1, d2⟩ : w'.cell? ⟨w.heap.size + 1 + 1, 0, none⟩ = some (.int .i64 0) ∧ w'.cell? ⟨w.heap.size + 1 + 1, 1, none⟩ = some (.int .i64 0) ∧ w'.cell? ⟨w.heap.size + 1 + 1, 2, none⟩ = some (.string ⟨#[]⟩) := by
    refine ⟨?_, ?_, ?_⟩ <;> (rw [hc _ _ (by simp)]; simp [go_sem])
  clear hb hbb
  go_wp2
  obtain ⟨e0, e1, e2⟩ := set3 d0 d1 d2 (.int .i64 1) (.int .i64 (Pl.flr an bn)) (.string ⟨#[]⟩)
  exact bodyPost_ret (v := (numV (Pl.flr an bn)).agg) (by simp [results, Tryz.results111, go_sem, Tm.agg, numV, e0, e1, e2]) rfl ⟨rfl, ((HB.out.setCell (p := ⟨w.heap.size + 1 + 1, 0, none⟩) (by simp; omega) _).setCell (p := ⟨w.heap.size + 1 + 1, 1, none⟩) (by simp; omega) _).setCell (p := ⟨w.heap.size + 1 + 1, 2, none⟩) (by simp; omega) _⟩

set_option maxRecDepth 100000 in
set_option maxHeartbeats 1000000 in
theorem opModZ (a b : Tm) (w : World) (h0 : b.n = 0) :
    Calls Tryz.prog 111 #[a.agg, b.agg] w fun e w' => e = .panicked noneP ∧ Below w.heap.size w w' := by
  obtain ⟨ak, an, sa⟩ := a
  obtain ⟨bk, bn, sb⟩ := b
  unfold Tm.agg
  dsimp only at *
  subst h0
  go_enter Tryz.func111, Tryz.ntmps111
  go_wp2_with fail
  refine (floor_zero _ _).mono ?_
  rintro e w0 ⟨rfl, rfl⟩
  go_wp2
  exact ⟨rfl, rfl, below3 _ _ _ _⟩

set_option maxRecDepth 100000 in
set_option maxHeartbeats 1000000 in
theorem opMul (a b : Tm) (w : World) (ha : Small a) (hb : Small b) (h0 : (a.n * b.n).natAbs ≤ 1000000000000 ∨ a.n * b.n = -9223372036854775808) :
    Calls Tryz.prog 107 #[a.agg, b.agg] w fun e w' => e = .returned (numV (a.n * b.n)).agg ∧ Below w.heap.size w w' := by
  obtain ⟨ak, an, sa⟩ := a
  obtain ⟨bk, bn, sb⟩ := b
  obtain ⟨⟨a0, a1⟩, a2⟩ := ha
  obtain ⟨⟨b0, b1⟩, b2⟩ := hb
  unfold Tm.agg
  dsimp only at *
  go_enter Tryz.func107, Tryz.ntmps107
  go_wp2_with fail
  refine (times_any _ _ _ (by omega) (by omega) (by omega) (by omega)).mono ?_
  rintro e w0 ⟨he, rfl⟩
  rw [if_pos h0] at he
  subst he
  clear h0
  go_wp2_with fail
  refine (numberF_any _ _).mono ?_
  rintro e w' ⟨rfl, hb⟩
  have hbb := (below3 w _ _ _).trans (hb.mono (by simp; omega))
  have HB := Lib.hid hbb
  obtain ⟨hc, hf⟩ := bcell hb
  rw [num_agg]
  obtain ⟨d0, d1, d2⟩ : w'.cell? ⟨w.heap.size + 1 + 1, 0, none⟩ = some (.int .i64 0) ∧ w'.cell? ⟨w.heap.size + 1 + 1, 1, none⟩ = some (.int .i64 0) ∧ w'.cell? ⟨w.heap.size + 1 + 1, 2, none⟩ = some (.string ⟨#[]⟩) := by
    refine ⟨?_, ?_, ?_⟩ <;> (rw [hc _ _ (by simp)]; simp [go_sem])
  clear hb hbb
  go_wp2
  obtain ⟨e0, e1, e2⟩ := set3 d0 d1 d2 (.int .i64 1) (.int .i64 (an * bn)) (.string ⟨#[]⟩)
  exact bodyPost_ret (v := (numV (an * bn)).agg) (by simp [results, Tryz.results107, go_sem, Tm.agg, numV, e0, e1, e2]) rfl ⟨rfl, ((HB.out.setCell (p := ⟨w.heap.size + 1 + 1, 0, none⟩) (by simp; omega) _).setCell (p := ⟨w.heap.size + 1 + 1, 1, none⟩) (by simp; omega) _).setCell (p := ⟨w.heap.size + 1 + 1, 2, none⟩) (by simp; omega) _⟩

set_option maxRecDepth 100000 in
set_option maxHeartbeats 1000000 in
theorem opMulZ (a b : Tm) (w : World) (ha : Small a) (hb : Small b) (h0 : ¬ ((a.n * b.n).natAbs ≤ 1000000000000 ∨ a.n * b.n = -9223372036854775808)) :
    Calls Tryz.prog 107 #[a.agg, b.agg] w fun e w' => e = .panicked noneP ∧ Below w.heap.size w w' := by
  obtain ⟨ak, an, sa⟩ := a
  obtain ⟨bk, bn, sb⟩ := b
  obtain ⟨⟨a0, a1⟩, a2⟩ := ha
  obtain ⟨⟨b0, b1⟩, b2⟩ := hb
  unfold Tm.agg
  dsimp only at *
  go_enter Tryz.func107, Tryz.ntmps107
  go_wp2_with fail
  refine (times_any _ _ _ (by omega) (by omega) (by omega) (by omega)).mono ?_
  rintro e w0 ⟨he, rfl⟩
  rw [if_neg h0] at he
  subst he
  clear h0
  go_wp2
  exact ⟨rfl, rfl, below3 _ _ _ _⟩
end Go.Proofs.YtchoelgkcnnnkaaGreatDoor
