/- WALKS: a leaf of a formula that integers determine. · PLAIN FACTS: a leaf that integers determine is a formula of its type. · PLAIN FACTS: the formulas that integers determine: which kinds and types are chosen, and what comes of it. · WALK: the formulas that integers determine: where no integers are left, or a leaf is chosen. -/
import Derived.Test.YtchoelgkcnnnkaaGreatDoorFnD
import Derived.Test.YtchoelgkcnnnkaaGreatDoorOps
import Derived.Test.YtchoelgkcnnnkaaGreatDoorPlH
import Derived.LoopN
import Derived.Test.YtchoelgkcnnnkaaGreatDoorTypeD
import Derived.Test.YtchoelgkcnnnkaaGreatDoorTmMem
import Derived.BigQuiet
set_option linter.all false
namespace Go.Proofs.YtchoelgkcnnnkaaGreatDoor
open Go.RowKit
namespace Pl
def leafLetter (t : Int) : UInt8 := if t = 1 then 110 else if t = 2 then 116 else 115
def nameTail (k : Int) : List UInt8 := if k = 0 then [] else if k = 1 then [49] else [50]
def shortText (k : Int) : ByteArray := if k = 0 then ⟨#[]⟩ else if k = 1 then ⟨#[97]⟩ else if k = 2 then ⟨#[98]⟩ else if k = 3 then ⟨#[97, 98]⟩ else ⟨#[120, 32, 121]⟩
/-- What leaf gives. -/
def leafTm (t x0 x1 : Int) : Tm :=
  if pickOf x0 2 = 0 then ⟨4, 0, ⟨(leafLetter t :: nameTail (pickOf x1 3)).toArray⟩⟩
  else if t = 1 then ⟨1, pickOf x1 10, ⟨#[]⟩⟩ else if t = 2 then ⟨2, pickOf x1 2, ⟨#[]⟩⟩
  else ⟨3, 0, shortText (pickOf x1 5)⟩
end Pl
theorem cat2 (a b : UInt8) : (⟨#[a]⟩ : ByteArray) ++ ⟨#[b]⟩ = ⟨#[a, b]⟩ := rfl
/-- A byte made a text. -/
theorem one_byte (W : World) (n : Int) (c : UInt8) (h : n = c.toNat) :
    (convert 40 9 (.slice (some ⟨W.heap.size, 0, none⟩) 1 1)).run Tryz.prog (W.alloc (.cells #[.int .u8 n] 5)) = .ok (.string ⟨#[c]⟩) (W.alloc (.cells #[.int .u8 n] 5)) := by
  subst h
  have hc : ∀ j (hj : j < [c].length), (W.alloc (.cells #[.int .u8 c.toNat] 5)).cell? ((⟨W.heap.size, 0, none⟩ : Addr).add j) = some (.int .u8 ([c][j].toNat : Int)) := by
    intro j hj
    obtain rfl : j = 0 := by simp at hj; omega
    show (W.alloc (.cells #[.int .u8 c.toNat] 5)).cell? ⟨W.heap.size, 0, none⟩ = _
    rw [Lib.cell_of_heap (MapKept.heap_alloc W _).1]
    rfl
  exact run_convert_bytes_back (P := Tryz.prog) _ 40 9 5 ⟨W.heap.size, 0, none⟩ 1 [c] Tryz.underlying40 Tryz.underlying5 Tryz.underlying9 hc
set_option maxRecDepth 100000 in
set_option maxHeartbeats 1000000 in
theorem digits1 (w : World) : Calls Tryz.prog 70 #[.int .i64 1] w fun e w' => e = .returned (.string ⟨#[49]⟩) ∧ Below w.heap.size w w' := by
  have h := one_byte w 49 49 rfl
  go_enter Tryz.func70, Tryz.ntmps70
  go_wp2_with fail
  refine wp_loop_rounds 1 ?_
  rw [rounds_succ]
  go_wp2_with fail
  go_ret
  exact ⟨rfl, below1 _ _⟩
set_option maxRecDepth 100000 in
set_option maxHeartbeats 1000000 in
theorem digits2 (w : World) : Calls Tryz.prog 70 #[.int .i64 2] w fun e w' => e = .returned (.string ⟨#[50]⟩) ∧ Below w.heap.size w w' := by
  have h := one_byte w 50 50 rfl
  go_enter Tryz.func70, Tryz.ntmps70
  go_wp2_with fail
  refine wp_loop_rounds 1 ?_
  rw [rounds_succ]
  go_wp2_with fail
  go_ret
  exact ⟨rfl, below1 _ _⟩
set_option maxRecDepth 100000 in
set_option maxHeartbeats 2000000 in
theorem leaf_name0 (t x0 x1 : Int) (w : World) (h0 : -9223372036854775808 ≤ x0 ∧ x0 ≤ 9223372036854775807) (h1 : -9223372036854775808 ≤ x1 ∧ x1 ≤ 9223372036854775807) (ht : t = 1 ∨ t = 2 ∨ t = 3)
   (hp : Pl.pickOf x0 2 = 0) (hq : Pl.pickOf x1 3 = 0) : Calls Tryz.prog 67 #[.int .i64 t, .agg #[.int .i64 x0, .int .i64 x1]] w fun e w' => e = .returned (Pl.leafTm t x0 x1).agg ∧ Below w.heap.size w w' := by
  obtain ⟨b0, b1⟩ := h0
  obtain ⟨b2, b3⟩ := h1
  have hr : Hid (Pl.leafTm t x0 x1 = ⟨4, 0, ⟨#[Pl.leafLetter t]⟩⟩) := Lib.hid (by simp [Pl.leafTm, hp, hq, Pl.nameTail])
  rcases ht with rfl | rfl | rfl
  all_goals
    go_enter Tryz.func67, Tryz.ntmps67
    go_wp2_with (first | (go_at_call 39; refine (pickR_any _ _ _ (by assumption) (by assumption) (by decide) (by decide)).mono ?_; rintro e w' ⟨rfl, rfl⟩))
    rw [hr.out]
    exact bodyPost_ret (v := Tm.agg ⟨4, 0, ⟨#[Pl.leafLetter _]⟩⟩) (by simp [results, Tryz.results67, go_sem, Tm.agg, Pl.leafLetter]) rfl ⟨rfl, below3 _ _ _ _⟩
set_option maxRecDepth 100000 in
set_option maxHeartbeats 2000000 in
theorem leaf_name1 (t x0 x1 : Int) (w : World) (h0 : -9223372036854775808 ≤ x0 ∧ x0 ≤ 9223372036854775807) (h1 : -9223372036854775808 ≤ x1 ∧ x1 ≤ 9223372036854775807) (ht : t = 1 ∨ t = 2 ∨ t = 3)
   (hp : Pl.pickOf x0 2 = 0) (hq : Pl.pickOf x1 3 = 1) : Calls Tryz.prog 67 #[.int .i64 t, .agg #[.int .i64 x0, .int .i64 x1]] w fun e w' => e = .returned (Pl.leafTm t x0 x1).agg ∧ Below w.heap.size w w' := by
  obtain ⟨b0, b1⟩ := h0
  obtain ⟨b2, b3⟩ := h1
  have hr : Hid (Pl.leafTm t x0 x1 = ⟨4, 0, ⟨#[Pl.leafLetter t, 49]⟩⟩) := Lib.hid (by simp [Pl.leafTm, hp, hq, Pl.nameTail])
  rcases ht with rfl | rfl | rfl
  · go_enter Tryz.func67, Tryz.ntmps67
    go_wp2_with (first | (go_at_call 39; refine (pickR_any _ _ _ (by assumption) (by assumption) (by decide) (by decide)).mono ?_; rintro e w' ⟨rfl, rfl⟩) | (go_at_call 70; refine (digits1 _).mono ?_; rintro e w2 ⟨rfl, hb2⟩; obtain ⟨hc, hf⟩ := bcell hb2; have HB := Lib.hid ((below3 w _ _ _).trans (hb2.mono (by simp; omega))); obtain ⟨d0, d1, d2⟩ : w2.cell? ⟨w.heap.size + 1, 0, none⟩ = some (.int .i64 0) ∧ w2.cell? ⟨w.heap.size + 1, 1, none⟩ = some (.int .i64 0) ∧ w2.cell? ⟨w.heap.size + 1, 2, none⟩ = some (.string ⟨#[]⟩) := by (refine ⟨?_, ?_, ?_⟩ <;> (rw [hc _ _ (by simp)]; simp [go_sem]))))
    rw [hr.out]
    obtain ⟨e0, e1, e2⟩ := set3 d0 d1 d2 (.int .i64 4) (.int .i64 0) (.string ⟨#[110, 49]⟩)
    exact bodyPost_ret (v := Tm.agg ⟨4, 0, ⟨#[Pl.leafLetter _, 49]⟩⟩) (by simp [results, Tryz.results67, go_sem, Tm.agg, Pl.leafLetter, e0, e1, e2, cat2]) rfl ⟨rfl, ((HB.out.setCell (p := ⟨w.heap.size + 1, 0, none⟩) (by simp) _).setCell (p := ⟨w.heap.size + 1, 1, none⟩) (by simp) _).setCell (p := ⟨w.heap.size + 1, 2, none⟩) (by simp) _⟩
  · go_enter Tryz.func67, Tryz.ntmps67
    go_wp2_with (first | (go_at_call 39; refine (pickR_any _ _ _ (by assumption) (by assumption) (by decide) (by decide)).mono ?_; rintro e w' ⟨rfl, rfl⟩) | (go_at_call 70; refine (digits1 _).mono ?_; rintro e w2 ⟨rfl, hb2⟩; obtain ⟨hc, hf⟩ := bcell hb2; have HB := Lib.hid ((below3 w _ _ _).trans (hb2.mono (by simp; omega))); obtain ⟨d0, d1, d2⟩ : w2.cell? ⟨w.heap.size + 1, 0, none⟩ = some (.int .i64 0) ∧ w2.cell? ⟨w.heap.size + 1, 1, none⟩ = some (.int .i64 0) ∧ w2.cell? ⟨w.heap.size + 1, 2, none⟩ = some (.string ⟨#[]⟩) := by (refine ⟨?_, ?_, ?_⟩ <;> (rw [hc _ _ (by simp)]; simp [go_sem]))))
    rw [hr.out]
    obtain ⟨e0, e1, e2⟩ := set3 d0 d1 d2 (.int .i64 4) (.int .i64 0) (.string ⟨#[116, 49]⟩)
    exact bodyPost_ret (v := Tm.agg ⟨4, 0, ⟨#[Pl.leafLetter _, 49]⟩⟩) (by simp [results, Tryz.results67, go_sem, Tm.agg, Pl.leafLetter, e0, e1, e2, cat2]) rfl ⟨rfl, ((HB.out.setCell (p := ⟨w.heap.size + 1, 0, none⟩) (by simp) _).setCell (p := ⟨w.heap.size + 1, 1, none⟩) (by simp) _).setCell (p := ⟨w.heap.size + 1, 2, none⟩) (by simp) _⟩
  · go_enter Tryz.func67, Tryz.ntmps67
    go_wp2_with (first | (go_at_call 39; refine (pickR_any _ _ _ (by assumption) (by assumption) (by decide) (by decide)).mono ?_; rintro e w' ⟨rfl, rfl⟩) | (go_at_call 70; refine (digits1 _).mono ?_; rintro e w2 ⟨rfl, hb2⟩; obtain ⟨hc, hf⟩ := bcell hb2; have HB := Lib.hid ((below3 w _ _ _).trans (hb2.mono (by simp; omega))); obtain ⟨d0, d1, d2⟩ : w2.cell? ⟨w.heap.size + 1, 0, none⟩ = some (.int .i64 0) ∧ w2.cell? ⟨w.heap.size + 1, 1, none⟩ = some (.int .i64 0) ∧ w2.cell? ⟨w.heap.size + 1, 2, none⟩ = some (.string ⟨#[]⟩) := by (refine ⟨?_, ?_, ?_⟩ <;> (rw [hc _ _ (by simp)]; simp [go_sem]))))
    rw [hr.out]
    obtain ⟨e0, e1, e2⟩ := set3 d0 d1 d2 (.int .i64 4) (.int .i64 0) (.string ⟨#[115, 49]⟩)
    exact bodyPost_ret (v := Tm.agg ⟨4, 0, ⟨#[Pl.leafLetter _, 49]⟩⟩) (by simp [results, Tryz.results67, go_sem, Tm.agg, Pl.leafLetter, e0, e1, e2, cat2]) rfl ⟨rfl, ((HB.out.setCell (p := ⟨w.heap.size + 1, 0, none⟩) (by simp) _).setCell (p := ⟨w.heap.size + 1, 1, none⟩) (by simp) _).setCell (p := ⟨w.heap.size + 1, 2, none⟩) (by simp) _⟩
set_option maxRecDepth 100000 in
set_option maxHeartbeats 2000000 in
theorem leaf_name2 (t x0 x1 : Int) (w : World) (h0 : -9223372036854775808 ≤ x0 ∧ x0 ≤ 9223372036854775807) (h1 : -9223372036854775808 ≤ x1 ∧ x1 ≤ 9223372036854775807) (ht : t = 1 ∨ t = 2 ∨ t = 3)
   (hp : Pl.pickOf x0 2 = 0) (hq : Pl.pickOf x1 3 = 2) : Calls Tryz.prog 67 #[.int .i64 t, .agg #[.int .i64 x0, .int .i64 x1]] w fun e w' => e = .returned (Pl.leafTm t x0 x1).agg ∧ Below w.heap.size w w' := by
  obtain ⟨b0, b1⟩ := h0
  obtain ⟨b2, b3⟩ := h1
  have hr : Hid (Pl.leafTm t x0 x1 = ⟨4, 0, ⟨#[Pl.leafLetter t, 50]⟩⟩) := Lib.hid (by simp [Pl.leafTm, hp, hq, Pl.nameTail])
  rcases ht with rfl | rfl | rfl
  · go_enter Tryz.func67, Tryz.ntmps67
    go_wp2_with (first | (go_at_call 39; refine (pickR_any _ _ _ (by assumption) (by assumption) (by decide) (by decide)).mono ?_; rintro e w' ⟨rfl, rfl⟩) | (go_at_call 70; refine (digits2 _).mono ?_; rintro e w2 ⟨rfl, hb2⟩; obtain ⟨hc, hf⟩ := bcell hb2; have HB := Lib.hid ((below3 w _ _ _).trans (hb2.mono (by simp; omega))); obtain ⟨d0, d1, d2⟩ : w2.cell? ⟨w.heap.size + 1, 0, none⟩ = some (.int .i64 0) ∧ w2.cell? ⟨w.heap.size + 1, 1, none⟩ = some (.int .i64 0) ∧ w2.cell? ⟨w.heap.size + 1, 2, none⟩ = some (.string ⟨#[]⟩) := by (refine ⟨?_, ?_, ?_⟩ <;> (rw [hc _ _ (by simp)]; simp [go_sem]))))
    rw [hr.out]
    obtain ⟨e0, e1, e2⟩ := set3 d0 d1 d2 (.int .i64 4) (.int .i64 0) (.string ⟨#[110, 50]⟩)
    exact bodyPost_ret (v := Tm.agg ⟨4, 0, ⟨#[Pl.leafLetter _, 50]⟩⟩) (by simp [results, Tryz.results67, go_sem, Tm.agg, Pl.leafLetter, e0, e1, e2, cat2]) rfl ⟨rfl, ((HB.out.setCell (p := ⟨w.heap.size + 1, 0, none⟩) (by simp) _).setCell (p := ⟨w.heap.size + 1, 1, none⟩) (by simp) _).setCell (p := ⟨w.heap.size + 1, 2, none⟩) (by simp) _⟩
  · go_enter Tryz.func67, Tryz.ntmps67
    go_wp2_with (first | (go_at_call 39; refine (pickR_any _ _ _ (by assumption) (by assumption) (by decide) (by decide)).mono ?_; rintro e w' ⟨rfl, rfl⟩) | (go_at_call 70; refine (digits2 _).mono ?_; rintro e w2 ⟨rfl, hb2⟩; obtain ⟨hc, hf⟩ := bcell hb2; have HB := Lib.hid ((below3 w _ _ _).trans (hb2.mono (by simp; omega))); obtain ⟨d0, d1, d2⟩ : w2.cell? ⟨w.heap.size + 1, 0, none⟩ = some (.int .i64 0) ∧ w2.cell? ⟨w.heap.size + 1, 1, none⟩ = some (.int .i64 0) ∧ w2.cell? ⟨w.heap.size + 1, 2, none⟩ = some (.string ⟨#[]⟩) := by (refine ⟨?_, ?_, ?_⟩ <;> (rw [hc _ _ (by simp)]; simp [go_sem]))))
    rw [hr.out]
    obtain ⟨e0, e1, e2⟩ := set3 d0 d1 d2 (.int .i64 4) (.int .i64 0) (.string ⟨#[116, 50]⟩)
    exact bodyPost_ret (v := Tm.agg ⟨4, 0, ⟨#[Pl.leafLetter _, 50]⟩⟩) (by simp [results, Tryz.results67, go_sem, Tm.agg, Pl.leafLetter, e0, e1, e2, cat2]) rfl ⟨rfl, ((HB.out.setCell (p := ⟨w.heap.size + 1, 0, none⟩) (by simp) _).setCell (p := ⟨w.heap.size + 1, 1, none⟩) (by simp) _).setCell (p := ⟨w.heap.size + 1, 2, none⟩) (by simp) _⟩
  · go_enter Tryz.func67, Tryz.ntmps67
    go_wp2_with (first | (go_at_call 39; refine (pickR_any _ _ _ (by assumption) (by assumption) (by decide) (by decide)).mono ?_; rintro e w' ⟨rfl, rfl⟩) | (go_at_call 70; refine (digits2 _).mono ?_; rintro e w2 ⟨rfl, hb2⟩; obtain ⟨hc, hf⟩ := bcell hb2; have HB := Lib.hid ((below3 w _ _ _).trans (hb2.mono (by simp; omega))); obtain ⟨d0, d1, d2⟩ : w2.cell? ⟨w.heap.size + 1, 0, none⟩ = some (.int .i64 0) ∧ w2.cell? ⟨w.heap.size + 1, 1, none⟩ = some (.int .i64 0) ∧ w2.cell? ⟨w.heap.size + 1, 2, none⟩ = some (.string ⟨#[]⟩) := by (refine ⟨?_, ?_, ?_⟩ <;> (rw [hc _ _ (by simp)]; simp [go_sem]))))
    rw [hr.out]
    obtain ⟨e0, e1, e2⟩ := set3 d0 d1 d2 (.int .i64 4) (.int .i64 0) (.string ⟨#[115, 50]⟩)
    exact bodyPost_ret (v := Tm.agg ⟨4, 0, ⟨#[Pl.leafLetter _, 50]⟩⟩) (by simp [results, Tryz.results67, go_sem, Tm.agg, Pl.leafLetter, e0, e1, e2, cat2]) rfl ⟨rfl, ((HB.out.setCell (p := ⟨w.heap.size + 1, 0, none⟩) (by simp) _).setCell (p := ⟨w.heap.size + 1, 1, none⟩) (by simp) _).setCell (p := ⟨w.heap.size + 1, 2, none⟩) (by simp) _⟩
set_option maxRecDepth 100000 in
set_option maxHeartbeats 2000000 in
theorem leaf_lit1 (t x0 x1 : Int) (w : World) (h0 : -9223372036854775808 ≤ x0 ∧ x0 ≤ 9223372036854775807) (h1 : -9223372036854775808 ≤ x1 ∧ x1 ≤ 9223372036854775807) (ht : t = 1)
   (hp : Pl.pickOf x0 2 ≠ 0) : Calls Tryz.prog 67 #[.int .i64 t, .agg #[.int .i64 x0, .int .i64 x1]] w fun e w' => e = .returned (Pl.leafTm t x0 x1).agg ∧ Below w.heap.size w w' := by
  obtain ⟨b0, b1⟩ := h0
  obtain ⟨b2, b3⟩ := h1
  have hr : Hid (Pl.leafTm t x0 x1 = ⟨1, Pl.pickOf x1 10, ⟨#[]⟩⟩) := Lib.hid (by simp [Pl.leafTm, hp, ht])
  subst ht
  all_goals
    go_enter Tryz.func67, Tryz.ntmps67
    go_wp2_with (first | (go_at_call 39; refine (pickR_any _ _ _ (by assumption) (by assumption) (by decide) (by decide)).mono ?_; rintro e w' ⟨rfl, rfl⟩))
    rw [hr.out]
    exact bodyPost_ret (v := Tm.agg ⟨1, Pl.pickOf x1 10, ⟨#[]⟩⟩) (by simp [results, Tryz.results67, go_sem, Tm.agg]) rfl ⟨rfl, (below1 _ _).trans ((below1 _ _).mono (by simp))⟩
set_option maxRecDepth 100000 in
set_option maxHeartbeats 2000000 in
theorem leaf_lit2 (t x0 x1 : Int) (w : World) (h0 : -9223372036854775808 ≤ x0 ∧ x0 ≤ 9223372036854775807) (h1 : -9223372036854775808 ≤ x1 ∧ x1 ≤ 9223372036854775807) (ht : t = 2)
   (hp : Pl.pickOf x0 2 ≠ 0) : Calls Tryz.prog 67 #[.int .i64 t, .agg #[.int .i64 x0, .int .i64 x1]] w fun e w' => e = .returned (Pl.leafTm t x0 x1).agg ∧ Below w.heap.size w w' := by
  obtain ⟨b0, b1⟩ := h0
  obtain ⟨b2, b3⟩ := h1
  have hr : Hid (Pl.leafTm t x0 x1 = ⟨2, Pl.pickOf x1 2, ⟨#[]⟩⟩) := Lib.hid (by simp [Pl.leafTm, hp, ht])
  subst ht
  all_goals
    go_enter Tryz.func67, Tryz.ntmps67
    go_wp2_with (first | (go_at_call 39; refine (pickR_any _ _ _ (by assumption) (by assumption) (by decide) (by decide)).mono ?_; rintro e w' ⟨rfl, rfl⟩))
    rw [hr.out]
    exact bodyPost_ret (v := Tm.agg ⟨2, Pl.pickOf x1 2, ⟨#[]⟩⟩) (by simp [results, Tryz.results67, go_sem, Tm.agg]) rfl ⟨rfl, (below1 _ _).trans ((below1 _ _).mono (by simp))⟩
set_option maxRecDepth 100000 in
set_option maxHeartbeats 2000000 in
theorem leaf_lit3 (t x0 x1 : Int) (w : World) (h0 : -9223372036854775808 ≤ x0 ∧ x0 ≤ 9223372036854775807) (h1 : -9223372036854775808 ≤ x1 ∧ x1 ≤ 9223372036854775807) (ht : t = 3)
   (hp : Pl.pickOf x0 2 ≠ 0) (k : Int) (hq : Pl.pickOf x1 5 = k) (hk : k = 0 ∨ k = 1 ∨ k = 2 ∨ k = 3 ∨ k = 4) : Calls Tryz.prog 67 #[.int .i64 t, .agg #[.int .i64 x0, .int .i64 x1]] w fun e w' => e = .returned (Pl.leafTm t x0 x1).agg ∧ Below w.heap.size w w' := by
  obtain ⟨b0, b1⟩ := h0
  obtain ⟨b2, b3⟩ := h1
  have hr : Hid (Pl.leafTm t x0 x1 = ⟨3, 0, Pl.shortText k⟩) := Lib.hid (by simp [Pl.leafTm, hp, ht, hq])
  subst ht
  rcases hk with rfl | rfl | rfl | rfl | rfl
  all_goals
    go_enter Tryz.func67, Tryz.ntmps67
    go_wp2_with (first | (go_at_call 39; refine (pickR_any _ _ _ (by assumption) (by assumption) (by decide) (by decide)).mono ?_; rintro e w' ⟨rfl, rfl⟩))
    rw [hr.out]
    exact bodyPost_ret (v := Tm.agg ⟨3, 0, Pl.shortText _⟩) (by simp [results, Tryz.results67, go_sem, Tm.agg, Pl.shortText]) rfl ⟨rfl, below3 _ _ _ _⟩
/-- What leaf gives. -/
theorem leaf_any (t x0 x1 : Int) (w : World) (h0 : -9223372036854775808 ≤ x0 ∧ x0 ≤ 9223372036854775807) (h1 : -9223372036854775808 ≤ x1 ∧ x1 ≤ 9223372036854775807) (ht : t = 1 ∨ t = 2 ∨ t = 3) :
    Calls Tryz.prog 67 #[.int .i64 t, .agg #[.int .i64 x0, .int .i64 x1]] w fun e w' => e = .returned (Pl.leafTm t x0 x1).agg ∧ Below w.heap.size w w' := by
  have r3 := Pl.pickOf_range x1 3 (by decide)
  have r5 := Pl.pickOf_range x1 5 (by decide)
  by_cases hp : Pl.pickOf x0 2 = 0
  · rcases (by omega : Pl.pickOf x1 3 = 0 ∨ Pl.pickOf x1 3 = 1 ∨ Pl.pickOf x1 3 = 2) with hq | hq | hq
    · exact leaf_name0 t x0 x1 w h0 h1 ht hp hq
    · exact leaf_name1 t x0 x1 w h0 h1 ht hp hq
    · exact leaf_name2 t x0 x1 w h0 h1 ht hp hq
  · rcases ht with h | h | h
    · exact leaf_lit1 t x0 x1 w h0 h1 h hp
    · exact leaf_lit2 t x0 x1 w h0 h1 h hp
    · exact leaf_lit3 t x0 x1 w h0 h1 h hp _ rfl (by omega)
end Go.Proofs.YtchoelgkcnnnkaaGreatDoor
namespace Go.Proofs.YtchoelgkcnnnkaaGreatDoor
open Go.RowKit
namespace Pl
theorem leafTm_formed (t x0 x1 : Int) (ht : t = 1 ∨ t = 2 ∨ t = 3) : formed (leafTm t x0 x1) = true ∧ operandsOf (leafTm t x0 x1).k = 0 ∧ ty (.lf (leafTm t x0 x1)) = t ∧ (leafTm t x0 x1).s.size ≤ 3 := by
  have r3 := pickOf_range x1 3 (by decide)
  have r5 := pickOf_range x1 5 (by decide)
  have r10 := pickOf_range x1 10 (by decide)
  have r2 := pickOf_range x1 2 (by decide)
  unfold leafTm
  by_cases hp : pickOf x0 2 = 0
  · rw [if_pos hp]
    rcases (by omega : pickOf x1 3 = 0 ∨ pickOf x1 3 = 1 ∨ pickOf x1 3 = 2) with hq | hq | hq <;> rw [hq] <;> rcases ht with rfl | rfl | rfl <;> exact ⟨by decide +kernel, by decide, by decide +kernel, by decide⟩
  · rw [if_neg hp]
    rcases ht with rfl | rfl | rfl
    · rw [if_pos rfl]
      refine ⟨?_, rfl, rfl, by show 0 ≤ 3; decide⟩
      simp only [formed, if_true, decide_eq_true r10.1, decide_eq_true (show pickOf x1 10 ≤ 1000000000000 by omega), Bool.true_and]
      decide +kernel
    · rw [if_neg (by decide), if_pos rfl]
      refine ⟨?_, rfl, rfl, by show 0 ≤ 3; decide⟩
      have h : pickOf x1 2 = 0 ∨ pickOf x1 2 = 1 := by omega
      rcases h with h | h <;> rw [h] <;> decide +kernel
    · rw [if_neg (by decide), if_neg (by decide)]
      rcases (by omega : pickOf x1 5 = 0 ∨ pickOf x1 5 = 1 ∨ pickOf x1 5 = 2 ∨ pickOf x1 5 = 3 ∨ pickOf x1 5 = 4) with h | h | h | h | h <;> rw [h] <;> exact ⟨by decide +kernel, by decide, by decide +kernel, by decide⟩
theorem leafTm_wf (t x0 x1 : Int) (ht : t = 1 ∨ t = 2 ∨ t = 3) : (Fm.lf (leafTm t x0 x1)).wf := ⟨(leafTm_formed t x0 x1 ht).1, (leafTm_formed t x0 x1 ht).2.1⟩
end Pl
end Go.Proofs.YtchoelgkcnnnkaaGreatDoor
namespace Go.Proofs.YtchoelgkcnnnkaaGreatDoor
open Go.RowKit
namespace Pl
/-- The kind of a term with operands that is chosen for a type. -/
def kind9 (t k : Int) : Int :=
  if t = 1 then (if k = 0 then 5 else if k = 1 then 8 else if k = 2 then 9 else if k = 3 then 10 else if k = 4 then 11 else if k = 5 then 12 else if k = 6 then 7 else 17)
  else if t = 2 then (if k = 0 then 6 else if k = 1 then 15 else if k = 2 then 16 else if k < 6 then 13 else if k < 8 then 14 else 17)
  else if k < 6 then 8 else 17
/-- The types of its operands. -/
def types9 (t k : Int) : List Int :=
  if t = 1 then (if k = 0 then [1] else if k < 6 then [1, 1] else if k = 6 then [3] else [2, 1, 1])
  else if t = 2 then (if k = 0 then [2] else if k < 4 then [2, 2] else if k = 4 then [1, 1] else if k = 5 then [3, 3] else if k = 6 then [1, 1] else if k = 7 then [3, 3] else [2, 2, 2])
  else if k < 6 then [3, 3] else [2, 3, 3]
def node (kd : Int) : List Fm → Fm
  | [a] => .un (mk0 kd) a
  | [a, b] => .bi (mk0 kd) a b
  | [a, b, c] => .tr (mk0 kd) a b c
  | _ => .lf (mk0 kd)
structure Grown (t : Int) (deep used : Nat) (f : Fm) : Prop where
  wf : f.wf
  ty : ty f = t
  depth : f.depth ≤ deep
  len : f.flat.length ≤ 1 + 3 * used
  small : ∀ u ∈ f.flat, u.s.size ≤ 3
structure GrownL (tys : List Int) (deep used : Nat) (fs : List Fm) : Prop where
  wf : ∀ f ∈ fs, f.wf
  ty : fs.map ty = tys
  depth : ∀ f ∈ fs, f.depth ≤ deep
  len : (flats fs).length ≤ fs.length + 3 * used
  small : ∀ u ∈ flats fs, u.s.size ≤ 3
theorem GrownL.nil (deep : Nat) : GrownL [] deep 0 [] := ⟨by simp, rfl, by simp, by simp [flats], by simp [flats]⟩
theorem flats_snoc (fs : List Fm) (f : Fm) : flats (fs ++ [f]) = flats fs ++ f.flat := by simp [flats]
theorem GrownL.snoc {tys : List Int} {deep used u2 : Nat} {fs : List Fm} {t : Int} {f : Fm} (h : GrownL tys deep used fs) (k : Grown t deep u2 f) : GrownL (tys ++ [t]) deep (used + u2) (fs ++ [f]) := by
  refine ⟨fun g hg => ?_, by rw [List.map_append, h.ty]; simp [k.ty], fun g hg => ?_, ?_, fun u hu => ?_⟩
  · rcases List.mem_append.1 hg with hg | hg
    · exact h.wf g hg
    · rw [List.mem_singleton.1 hg]; exact k.wf
  · rcases List.mem_append.1 hg with hg | hg
    · exact h.depth g hg
    · rw [List.mem_singleton.1 hg]; exact k.depth
  · rw [flats_snoc, List.length_append, List.length_append]
    have := h.len
    have := k.len
    simp only [List.length_singleton]
    omega
  · rw [flats_snoc] at hu
    rcases List.mem_append.1 hu with hu | hu
    · exact h.small u hu
    · exact k.small u hu
theorem Grown.leaf (t x0 x1 : Int) (deep used : Nat) (ht : t = 1 ∨ t = 2 ∨ t = 3) (hd : 1 ≤ deep) : Grown t deep used (.lf (leafTm t x0 x1)) := by
  obtain ⟨h1, h2, h3, h4⟩ := leafTm_formed t x0 x1 ht
  exact ⟨⟨h1, h2⟩, h3, hd, by simp [Fm.flat], fun u hu => by rw [List.mem_singleton.1 hu]; exact h4⟩
theorem mk0_small (kd : Int) : (mk0 kd).s.size ≤ 3 := Nat.zero_le _
theorem grown_un {kd ta t : Int} (hk : formed (mk0 kd) = true ∧ operandsOf kd = 1) (ht : typedOf (mk0 kd) [ta] = t) (h0 : ta ≠ 0) {deep used : Nat} {fs : List Fm} (h : GrownL [ta] deep used fs) :
    Grown t (deep + 1) (used + 1) (node kd fs) ∧ (node kd fs).flat = mk0 kd :: flats fs := by
  match fs, h with
  | [a], h =>
    have e := h.ty
    simp only [List.map_cons, List.map_nil, List.cons.injEq, and_true] at e
    have hd := h.depth a (by simp)
    have hw := h.wf a (by simp)
    have hf : flats [a] = a.flat := by simp [flats]
    have hl := h.len
    have hs := h.small
    rw [hf] at hl hs ⊢
    refine ⟨⟨⟨hk.1, hk.2, hw⟩, ?_, ?_, ?_, ?_⟩, rfl⟩
    · show (if ty a = 0 then 0 else typedOf (mk0 kd) [ty a]) = t
      rw [e, if_neg h0, ht]
    · show a.depth + 1 ≤ _; omega
    · show (mk0 kd :: a.flat).length ≤ _
      simp only [List.length_cons, List.length_nil] at hl ⊢; omega
    · intro u hu
      rcases List.mem_cons.1 hu with rfl | hu
      · exact mk0_small kd
      · exact hs u hu
  | [], h => have e := h.ty; simp at e
  | _ :: _ :: _, h => have e := h.ty; simp at e
theorem grown_bi {kd ta tb t : Int} (hk : formed (mk0 kd) = true ∧ operandsOf kd = 2) (ht : typedOf (mk0 kd) [ta, tb] = t) (h0 : ta ≠ 0) (h1 : tb ≠ 0) {deep used : Nat} {fs : List Fm} (h : GrownL [ta, tb] deep used fs) :
    Grown t (deep + 1) (used + 1) (node kd fs) ∧ (node kd fs).flat = mk0 kd :: flats fs := by
  match fs, h with
  | [a, b], h =>
    have e := h.ty
    simp only [List.map_cons, List.map_nil, List.cons.injEq, and_true] at e
    have hd := h.depth a (by simp)
    have hw := h.wf a (by simp)
    have hd2 := h.depth b (by simp)
    have hw2 := h.wf b (by simp)
    have hf : flats [a, b] = a.flat ++ b.flat := by simp [flats]
    have hl := h.len
    have hs := h.small
    rw [hf] at hl hs ⊢
    refine ⟨⟨⟨hk.1, hk.2, hw, hw2⟩, ?_, ?_, ?_, ?_⟩, rfl⟩
    · show (if ty a = 0 ∨ ty b = 0 then 0 else typedOf (mk0 kd) [ty a, ty b]) = t
      rw [e.1, e.2, if_neg (by simp [h0, h1]), ht]
    · show max a.depth b.depth + 1 ≤ _; omega
    · show (mk0 kd :: (a.flat ++ b.flat)).length ≤ _
      simp only [List.length_cons, List.length_nil] at hl ⊢; omega
    · intro u hu
      rcases List.mem_cons.1 hu with rfl | hu
      · exact mk0_small kd
      · exact hs u hu
  | [], h => have e := h.ty; simp at e
  | [_], h => have e := h.ty; simp at e
  | _ :: _ :: _ :: _, h => have e := h.ty; simp at e
theorem grown_tr {kd ta tb tc t : Int} (hk : formed (mk0 kd) = true ∧ operandsOf kd = 3) (ht : typedOf (mk0 kd) [ta, tb, tc] = t) (h0 : ta ≠ 0) (h1 : tb ≠ 0) (h2 : tc ≠ 0) {deep used : Nat} {fs : List Fm} (h : GrownL [ta, tb, tc] deep used fs) :
    Grown t (deep + 1) (used + 1) (node kd fs) ∧ (node kd fs).flat = mk0 kd :: flats fs := by
  match fs, h with
  | [a, b, c], h =>
    have e := h.ty
    simp only [List.map_cons, List.map_nil, List.cons.injEq, and_true] at e
    have hd := h.depth a (by simp)
    have hw := h.wf a (by simp)
    have hd2 := h.depth b (by simp)
    have hw2 := h.wf b (by simp)
    have hd3 := h.depth c (by simp)
    have hw3 := h.wf c (by simp)
    have hf : flats [a, b, c] = a.flat ++ (b.flat ++ c.flat) := by simp [flats]
    have hl := h.len
    have hs := h.small
    rw [hf] at hl hs ⊢
    refine ⟨⟨⟨hk.1, hk.2, hw, hw2, hw3⟩, ?_, ?_, ?_, ?_⟩, rfl⟩
    · show (if ty a = 0 ∨ ty b = 0 ∨ ty c = 0 then 0 else typedOf (mk0 kd) [ty a, ty b, ty c]) = t
      rw [e.1, e.2.1, e.2.2, if_neg (by simp [h0, h1, h2]), ht]
    · show max a.depth (max b.depth c.depth) + 1 ≤ _; omega
    · show (mk0 kd :: (a.flat ++ (b.flat ++ c.flat))).length ≤ _
      simp only [List.length_cons, List.length_nil] at hl ⊢; omega
    · intro u hu
      rcases List.mem_cons.1 hu with rfl | hu
      · exact mk0_small kd
      · exact hs u hu
  | [], h => have e := h.ty; simp at e
  | [_], h => have e := h.ty; simp at e
  | [_, _], h => have e := h.ty; simp at e
  | _ :: _ :: _ :: _ :: _, h => have e := h.ty; simp at e
theorem grown_node (t k : Int) (ht : t = 1 ∨ t = 2 ∨ t = 3) (hk : 0 ≤ k ∧ k < 9) {deep used : Nat} {fs : List Fm} (h : GrownL (types9 t k) deep used fs) :
    Grown t (deep + 1) (used + 1) (node (kind9 t k) fs) ∧ (node (kind9 t k) fs).flat = mk0 (kind9 t k) :: flats fs := by
  have hk' : k = 0 ∨ k = 1 ∨ k = 2 ∨ k = 3 ∨ k = 4 ∨ k = 5 ∨ k = 6 ∨ k = 7 ∨ k = 8 := by omega
  rcases ht with rfl | rfl | rfl <;> rcases hk' with rfl | rfl | rfl | rfl | rfl | rfl | rfl | rfl | rfl
  all_goals first
    | exact grown_un ⟨by decide +kernel, by decide⟩ (by decide +kernel) (by decide) h
    | exact grown_bi ⟨by decide +kernel, by decide⟩ (by decide +kernel) (by decide) (by decide) h
    | exact grown_tr ⟨by decide +kernel, by decide⟩ (by decide +kernel) (by decide) (by decide) (by decide) h
theorem types9_range (t k : Int) (ht : t = 1 ∨ t = 2 ∨ t = 3) : ∀ x ∈ types9 t k, x = 1 ∨ x = 2 ∨ x = 3 := by
  unfold types9
  rcases ht with rfl | rfl | rfl <;> (repeat' split) <;> simp
theorem types9_len (t k : Int) : (types9 t k).length ≤ 3 := by
  unfold types9
  (repeat' split) <;> simp
end Pl
end Go.Proofs.YtchoelgkcnnnkaaGreatDoor
namespace Go.Proofs.YtchoelgkcnnnkaaGreatDoor
open Go.RowKit
/-- A slice of pairs of integers that reads as a list. -/
def PairsIn (w : World) (v : Value) (xs : List (Int × Int)) : Prop :=
  ∃ a c, v = .slice a xs.length c ∧ xs.length ≤ c ∧ (∀ p ∈ xs, (-9223372036854775808 ≤ p.1 ∧ p.1 ≤ 9223372036854775807) ∧ (-9223372036854775808 ≤ p.2 ∧ p.2 ≤ 9223372036854775807)) ∧
    (xs ≠ [] → ∃ b off, a = some ⟨b, off, none⟩ ∧ b < w.heap.size ∧ ∀ i p, xs[i]? = some p → w.cell? ⟨b, off + i * 2, none⟩ = some (.int .i64 p.1) ∧ w.cell? ⟨b, off + i * 2 + 1, none⟩ = some (.int .i64 p.2))
theorem PairsIn.below {w w' : World} {v : Value} {xs : List (Int × Int)} (h : PairsIn w v xs) (hb : Below w.heap.size w w') : PairsIn w' v xs := by
  obtain ⟨a, c, h1, h2, h3, h4⟩ := h
  refine ⟨a, c, h1, h2, h3, fun hn => ?_⟩
  obtain ⟨b, off, h5, h6, h7⟩ := h4 hn
  refine ⟨b, off, h5, Nat.lt_of_lt_of_le h6 hb.size, fun i p hp => ?_⟩
  obtain ⟨e1, e2⟩ := h7 i p hp
  exact ⟨(hb.cell (p := ⟨b, _, none⟩) h6).trans e1, (hb.cell (p := ⟨b, _, none⟩) h6).trans e2⟩
def GrowPost (t : Int) (deep at' n : Nat) (w : World) (e : Ending) (w' : World) : Prop :=
  ∃ (f : Fm) (next : Nat) (v : Value), e = .returned (.tuple #[v, .int .i64 (next : Int)]) ∧ at' ≤ next ∧ next ≤ max at' n ∧ Pl.Grown t deep (next - at') f ∧ TermsIn w' v f.flat ∧ Below w.heap.size w w'
theorem leaf_some (t x0 x1 : Int) (w : World) (h0 : -9223372036854775808 ≤ x0 ∧ x0 ≤ 9223372036854775807) (h1 : -9223372036854775808 ≤ x1 ∧ x1 ≤ 9223372036854775807) (ht : t = 1 ∨ t = 2 ∨ t = 3) :
    Calls Tryz.prog 67 #[.int .i64 t, .agg #[.int .i64 x0, .int .i64 x1]] w fun e w' => ∃ k n s, e = .returned (.agg #[.int .i64 k, .int .i64 n, .string s]) ∧ (∀ deep used, 1 ≤ deep → Pl.Grown t deep used (.lf ⟨k, n, s⟩)) ∧ Below w.heap.size w w' :=
  (leaf_any t x0 x1 w h0 h1 ht).mono fun _ _ ⟨he, hb⟩ => ⟨_, _, _, he, fun deep used hd => Pl.Grown.leaf t x0 x1 deep used ht hd, hb⟩
theorem grown_lf_small {t : Int} {deep used : Nat} {u : Tm} (h : Pl.Grown t deep used (.lf u)) : ∀ t ∈ [u], t.s.size ≤ 9223372036854775807 := fun t ht => Nat.le_trans (h.small t ht) (by decide)
set_option maxRecDepth 100000 in
set_option maxHeartbeats 2000000 in
theorem grow_end (t : Int) (ht : t = 1 ∨ t = 2 ∨ t = 3) (v : Value) (xs : List (Int × Int)) (at' deep : Nat) (w : World) (hx : PairsIn w v xs) (hd : 1 ≤ deep) (hd2 : deep ≤ 6) (hat : xs.length ≤ at') (hle : at' ≤ 100) :
    Calls Tryz.prog 38 #[.int .i64 t, v, .int .i64 at', .int .i64 deep] w (GrowPost t deep at' xs.length w) := by
  obtain ⟨a, c, rfl, hc, _, _⟩ := hx
  have HT := Lib.hid ht
  clear ht
  go_enter Tryz.func38, Tryz.ntmps38
  go_wp2_with fail
  refine (leaf_some t 1 0 _ (by decide) (by decide) HT.out).mono ?_
  rintro e w1 ⟨k, n, s, rfl, hg, hb⟩
  have HG := Lib.hid (hg deep 0 hd)
  have HB := Lib.hid hb
  clear hg hb
  go_wp2_with fail
  go_ret2
  exact ⟨.lf ⟨k, n, s⟩, at', _, rfl, Nat.le_refl _, Nat.le_max_left _ _, by rw [Nat.sub_self]; exact HG.out, terms_new rfl rfl (grown_lf_small HG.out), HB.out.alloc HB.out.size _⟩
set_option maxRecDepth 100000 in
set_option maxHeartbeats 2000000 in
theorem grow_leaf (t : Int) (ht : t = 1 ∨ t = 2 ∨ t = 3) (v : Value) (xs : List (Int × Int)) (at' deep : Nat) (w : World) (hx : PairsIn w v xs) (hd : 1 ≤ deep) (hd2 : deep ≤ 6) (hat : at' < xs.length) (hle : at' ≤ 100) (y : Int × Int) (hy : xs[at']? = some y) (hleaf : deep = 1 ∨ (1 < deep ∧ Pl.pickOf y.1 4 = 0)) :
    Calls Tryz.prog 38 #[.int .i64 t, v, .int .i64 at', .int .i64 deep] w (GrowPost t deep at' xs.length w) := by
  obtain ⟨a, c, rfl, hc, hbd, hcell⟩ := hx
  obtain ⟨b, off, rfl, hb, hcell⟩ := hcell (by intro e; rw [e] at hy; simp at hy)
  obtain ⟨c0, c1⟩ := hcell at' y hy
  obtain ⟨⟨b0, b1⟩, ⟨b2, b3⟩⟩ := hbd y (List.mem_of_getElem? hy)
  obtain ⟨y0, y1⟩ := y
  dsimp only at *
  have HT := Lib.hid ht
  clear ht hcell hbd hy
  have q4 : -9223372036854775808 ≤ y0.tdiv 4 ∧ y0.tdiv 4 ≤ 9223372036854775807 := by
    have h : (y0.tdiv 4).natAbs = y0.natAbs / 4 := Int.natAbs_tdiv y0 4
    generalize y0.tdiv 4 = q at h ⊢
    omega
  have HQ := Lib.hid q4
  clear q4
  rcases hleaf with rfl | ⟨h1, h2⟩
  · go_enter Tryz.func38, Tryz.ntmps38
    go_wp2_with fail
    refine (leaf_some t _ y1 _ HQ.out ⟨b2, b3⟩ HT.out).mono ?_
    rintro e w1 ⟨k, n, s, rfl, hg, hb1⟩
    have HG := Lib.hid (hg 1 1 hd)
    have HB := Lib.hid ((below1 w _).trans (hb1.mono (by simp)))
    clear hg hb1
    go_wp2_with fail
    go_ret2
    exact ⟨.lf ⟨k, n, s⟩, at' + 1, _, rfl, Nat.le_succ _, by omega, by rw [show at' + 1 - at' = 1 by omega]; exact HG.out, terms_new rfl rfl (grown_lf_small HG.out), HB.out.alloc HB.out.size _⟩
  · have HP := Lib.hid h2
    clear h2
    go_enter Tryz.func38, Tryz.ntmps38
    go_wp2_with fail
    refine (pickR_any y0 4 _ (by assumption) (by assumption) (by decide) (by decide)).mono ?_
    rintro e w' ⟨rfl, rfl⟩
    rw [HP.out]
    go_wp2_with fail
    refine (leaf_some t _ y1 _ HQ.out ⟨b2, b3⟩ HT.out).mono ?_
    rintro e w1 ⟨k, n, s, rfl, hg, hb1⟩
    have HG := Lib.hid (hg deep 1 hd)
    have HB := Lib.hid ((below1 w _).trans (hb1.mono (by simp)))
    clear hg hb1
    go_wp2_with fail
    go_ret2
    exact ⟨.lf ⟨k, n, s⟩, at' + 1, _, rfl, Nat.le_succ _, by omega, by rw [show at' + 1 - at' = 1 by omega]; exact HG.out, terms_new rfl rfl (grown_lf_small HG.out), HB.out.alloc HB.out.size _⟩
end Go.Proofs.YtchoelgkcnnnkaaGreatDoor
