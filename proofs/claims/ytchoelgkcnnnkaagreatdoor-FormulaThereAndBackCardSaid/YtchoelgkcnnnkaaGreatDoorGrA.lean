/- WALKS: a leaf of a formula that integers determine. -/
import Derived.Test.YtchoelgkcnnnkaaGreatDoorFnD
import Derived.Test.YtchoelgkcnnnkaaGreatDoorOps
import Derived.Test.YtchoelgkcnnnkaaGreatDoorPlH
import Derived.LoopN
set_option linter.all false
namespace Go.Proofs.YtchoelgkcnnnkaaGreatDoor
open Go.RowKit
namespace Pl
def leafLetter (t : Int) : UInt8 := if t = 1 then 110 else if t = 2 then 116 else 115
def nameTail (k : Int) : List UInt8 := if k = 0 then [] else if k = 1 then [49] else [50]
def shortText (k : Int) : ByteArray := if k = 0 then ⟨#[]⟩ else if k = 1 then ⟨#[97]⟩ else if k = 2 then ⟨#[98]⟩ else if k = 3 then ⟨#[97, 98]⟩ else ⟨#[120, 32, 121]⟩
/-- What leaf gives. -/
def leafTm (t x0 x1 : Int) : Tm :=
  if pickOf x0 2 = 0 then ⟨4, 0, ⟨(leafLetter t :: nameTail (pickOf x1 3)).toArray⟩⟩
  else if t = 1 then ⟨1, pickOf x1 10, ⟨#[]⟩⟩ else if t = 2 then ⟨2, pickOf x1 2, ⟨#[]⟩⟩
  else ⟨3, 0, shortText (pickOf x1 5)⟩
end Pl
theorem cat2 (a b : UInt8) : (⟨#[a]⟩ : ByteArray) ++ ⟨#[b]⟩ = ⟨#[a, b]⟩ := rfl
/-- A byte made a text. -/
theorem one_byte (W : World) (n : Int) (c : UInt8) (h : n = c.toNat) :
    (convert 40 9 (.slice (some ⟨W.heap.size, 0, none⟩) 1 1)).run Tryz.prog (W.alloc (.cells #[.int .u8 n] 5)) = .ok (.string ⟨#[c]⟩) (W.alloc (.cells #[.int .u8 n] 5)) := by
  subst h
  have hc : ∀ j (hj : j < [c].length), (W.alloc (.cells #[.int .u8 c.toNat] 5)).cell? ((⟨W.heap.size, 0, none⟩ : Addr).add j) = some (.int .u8 ([c][j].toNat : Int)) := by
    intro j hj
    obtain rfl : j = 0 := by simp at hj; omega
    show (W.alloc (.cells #[.int .u8 c.toNat] 5)).cell? ⟨W.heap.size, 0, none⟩ = _
    rw [Lib.cell_of_heap (MapKept.heap_alloc W _).1]
    rfl
  exact run_convert_bytes_back (P := Tryz.prog) _ 40 9 5 ⟨W.heap.size, 0, none⟩ 1 [c] Tryz.underlying40 Tryz.underlying5 Tryz.underlying9 hc
set_option maxRecDepth 100000 in
set_option maxHeartbeats 1000000 in
theorem digits1 (w : World) : Calls Tryz.prog 70 #[.int .i64 1] w fun e w' => e = .returned (.string ⟨#[49]⟩) ∧ Below w.heap.size w w' := by
  have h := one_byte w 49 49 rfl
  go_enter Tryz.func70, Tryz.ntmps70
  go_wp2_with fail
  refine wp_loop_rounds 1 ?_
  rw [rounds_succ]
  go_wp2_with fail
  go_ret
  exact ⟨rfl, below1 _ _⟩
set_option maxRecDepth 100000 in
set_option maxHeartbeats 1000000 in
theorem digits2 (w : World) : Calls Tryz.prog 70 #[.int .i64 2] w fun e w' => e = .returned (.string ⟨#[50]⟩) ∧ Below w.heap.size w w' := by
  have h := one_byte w 50 50 rfl
  go_enter Tryz.func70, Tryz.ntmps70
  go_wp2_with fail
  refine wp_loop_rounds 1 ?_
  rw [rounds_succ]
  go_wp2_with fail
  go_ret
  exact ⟨rfl, below1 _ _⟩
set_option maxRecDepth 100000 in
set_option maxHeartbeats 2000000 in
theorem leaf_name0 (t x0 x1 : Int) (w : World) (h0 : -9223372036854775808 ≤ x0 ∧ x0 ≤ 9223372036854775807) (h1 : -9223372036854775808 ≤ x1 ∧ x1 ≤ 9223372036854775807) (ht : t = 1 ∨ t = 2 ∨ t = 3)
   (hp : Pl.pickOf x0 2 = 0) (hq : Pl.pickOf x1 3 = 0) : Calls Tryz.prog 67 #[.int .i64 t, .agg #[.int .i64 x0, .int .i64 x1]] w fun e w' => e = .returned (Pl.leafTm t x0 x1).agg ∧ Below w.heap.size w w' := by
  obtain ⟨b0, b1⟩ := h0
  obtain ⟨b2, b3⟩ := h1
  have hr : Hid (Pl.leafTm t x0 x1 = ⟨4, 0, ⟨#[Pl.leafLetter t]⟩⟩) := Lib.hid (by simp [Pl.leafTm, hp, hq, Pl.nameTail])
  rcases ht with rfl | rfl | rfl
  all_goals
    go_enter Tryz.func67, Tryz.ntmps67
    go_wp2_with (first | (go_at_call 39; refine (pickR_any _ _ _ (by assumption) (by assumption) (by decide) (by decide)).mono ?_; rintro e w' ⟨rfl, rfl⟩))
    rw [hr.out]
    exact bodyPost_ret (v := Tm.agg ⟨4, 0, ⟨#[Pl.leafLetter _]⟩⟩) (by simp [results, Tryz.results67, go_sem, Tm.agg, Pl.leafLetter]) rfl ⟨rfl, below3 _ _ _ _⟩
set_option maxRecDepth 100000 in
set_option maxHeartbeats 2000000 in
theorem leaf_name1 (t x0 x1 : Int) (w : World) (h0 : -9223372036854775808 ≤ x0 ∧ x0 ≤ 9223372036854775807) (h1 : -9223372036854775808 ≤ x1 ∧ x1 ≤ 9223372036854775807) (ht : t = 1 ∨ t = 2 ∨ t = 3)
   (hp : Pl.pickOf x0 2 = 0) (hq : Pl.pickOf x1 3 = 1) : Calls Tryz.prog 67 #[.int .i64 t, .agg #[.int .i64 x0, .int .i64 x1]] w fun e w' => e = .returned (Pl.leafTm t x0 x1).agg ∧ Below w.heap.size w w' := by
  obtain ⟨b0, b1⟩ := h0
  obtain ⟨b2, b3⟩ := h1
  have hr : Hid (Pl.leafTm t x0 x1 = ⟨4, 0, ⟨#[Pl.leafLetter t, 49]⟩⟩) := Lib.hid (by simp [Pl.leafTm, hp, hq, Pl.nameTail])
  rcases ht with rfl | rfl | rfl
  · go_enter Tryz.func67, Tryz.ntmps67
    go_wp2_with (first | (go_at_call 39; refine (pickR_any _ _ _ (by assumption) (by assumption) (by decide) (by decide)).mono ?_; rintro e w' ⟨rfl, rfl⟩) | (go_at_call 70; refine (digits1 _).mono ?_; rintro e w2 ⟨rfl, hb2⟩; obtain ⟨hc, hf⟩ := bcell hb2; have HB := Lib.hid ((below3 w _ _ _).trans (hb2.mono (by simp; omega))); obtain ⟨d0, d1, d2⟩ : w2.cell? ⟨w.heap.size + 1, 0, none⟩ = some (.int .i64 0) ∧ w2.cell? ⟨w.heap.size + 1, 1, none⟩ = some (.int .i64 0) ∧ w2.cell? ⟨w.heap.size + 1, 2, none⟩ = some (.string ⟨#[]⟩) := by (refine ⟨?_, ?_, ?_⟩ <;> (rw [hc _ _ (by simp)]; simp [go_sem]))))
    rw [hr.out]
    obtain ⟨e0, e1, e2⟩ := set3 d0 d1 d2 (.int .i64 4) (.int .i64 0) (.string ⟨#[110, 49]⟩)
    exact bodyPost_ret (v := Tm.agg ⟨4, 0, ⟨#[Pl.leafLetter _, 49]⟩⟩) (by simp [results, Tryz.results67, go_sem, Tm.agg, Pl.leafLetter, e0, e1, e2, cat2]) rfl ⟨rfl, ((HB.out.setCell (p := ⟨w.heap.size + 1, 0, none⟩) (by simp) _).setCell (p := ⟨w.heap.size + 1, 1, none⟩) (by simp) _).setCell (p := ⟨w.heap.size + 1, 2, none⟩) (by simp) _⟩
  · go_enter Tryz.func67, Tryz.ntmps67
    go_wp2_with (first | (go_at_call 39; refine (pickR_any _ _ _ (by assumption) (by assumption) (by decide) (by decide)).mono ?_; rintro e w' ⟨rfl, rfl⟩) | (go_at_call 70; refine (digits1 _).mono ?_; rintro e w2 ⟨rfl, hb2⟩; obtain ⟨hc, hf⟩ := bcell hb2; have HB := Lib.hid ((below3 w _ _ _).trans (hb2.mono (by simp; omega))); obtain ⟨d0, d1, d2⟩ : w2.cell? ⟨w.heap.size + 1, 0, none⟩ = some (.int .i64 0) ∧ w2.cell? ⟨w.heap.size + 1, 1, none⟩ = some (.int .i64 0) ∧ w2.cell? ⟨w.heap.size + 1, 2, none⟩ = some (.string ⟨#[]⟩) := by (refine ⟨?_, ?_, ?_⟩ <;> (rw [hc _ _ (by simp)]; simp [go_sem]))))
    rw [hr.out]
    obtain ⟨e0, e1, e2⟩ := set3 d0 d1 d2 (.int .i64 4) (.int .i64 0) (.string ⟨#[116, 49]⟩)
    exact bodyPost_ret (v := Tm.agg ⟨4, 0, ⟨#[Pl.leafLetter _, 49]⟩⟩) (by simp [results, Tryz.results67, go_sem, Tm.agg, Pl.leafLetter, e0, e1, e2, cat2]) rfl ⟨rfl, ((HB.out.setCell (p := ⟨w.heap.size + 1, 0, none⟩) (by simp) _).setCell (p := ⟨w.heap.size + 1, 1, none⟩) (by simp) _).setCell (p := ⟨w.heap.size + 1, 2, none⟩) (by simp) _⟩
  · go_enter Tryz.func67, Tryz.ntmps67
    go_wp2_with (first | (go_at_call 39; refine (pickR_any _ _ _ (by assumption) (by assumption) (by decide) (by decide)).mono ?_; rintro e w' ⟨rfl, rfl⟩) | (go_at_call 70; refine (digits1 _).mono ?_; rintro e w2 ⟨rfl, hb2⟩; obtain ⟨hc, hf⟩ := bcell hb2; have HB := Lib.hid ((below3 w _ _ _).trans (hb2.mono (by simp; omega))); obtain ⟨d0, d1, d2⟩ : w2.cell? ⟨w.heap.size + 1, 0, none⟩ = some (.int .i64 0) ∧ w2.cell? ⟨w.heap.size + 1, 1, none⟩ = some (.int .i64 0) ∧ w2.cell? ⟨w.heap.size + 1, 2, none⟩ = some (.string ⟨#[]⟩) := by (refine ⟨?_, ?_, ?_⟩ <;> (rw [hc _ _ (by simp)]; simp [go_sem]))))
    rw [hr.out]
    obtain ⟨e0, e1, e2⟩ := set3 d0 d1 d2 (.int .i64 4) (.int .i64 0) (.string ⟨#[115, 49]⟩)
    exact bodyPost_ret (v := Tm.agg ⟨4, 0, ⟨#[Pl.leafLetter _, 49]⟩⟩) (by simp [results, Tryz.results67, go_sem, Tm.agg, Pl.leafLetter, e0, e1, e2, cat2]) rfl ⟨rfl, ((HB.out.setCell (p := ⟨w.heap.size + 1, 0, none⟩) (by simp) _).setCell (p := ⟨w.heap.size + 1, 1, none⟩) (by simp) _).setCell (p := ⟨w.heap.size + 1, 2, none⟩) (by simp) _⟩
set_option maxRecDepth 100000 in
set_option maxHeartbeats 2000000 in
theorem leaf_name2 (t x0 x1 : Int) (w : World) (h0 : -9223372036854775808 ≤ x0 ∧ x0 ≤ 9223372036854775807) (h1 : -9223372036854775808 ≤ x1 ∧ x1 ≤ 9223372036854775807) (ht : t = 1 ∨ t = 2 ∨ t = 3)
   (hp : Pl.pickOf x0 2 = 0) (hq : Pl.pickOf x1 3 = 2) : Calls Tryz.prog 67 #[.int .i64 t, .agg #[.int .i64 x0, .int .i64 x1]] w fun e w' => e = .returned (Pl.leafTm t x0 x1).agg ∧ Below w.heap.size w w' := by
  obtain ⟨b0, b1⟩ := h0
  obtain ⟨b2, b3⟩ := h1
  have hr : Hid (Pl.leafTm t x0 x1 = ⟨4, 0, ⟨#[Pl.leafLetter t, 50]⟩⟩) := Lib.hid (by simp [Pl.leafTm, hp, hq, Pl.nameTail])
  rcases ht with rfl | rfl | rfl
  · go_enter Tryz.func67, Tryz.ntmps67
    go_wp2_with (first | (go_at_call 39; refine (pickR_any _ _ _ (by assumption) (by assumption) (by decide) (by decide)).mono ?_; rintro e w' ⟨rfl, rfl⟩) | (go_at_call 70; refine (digits2 _).mono ?_; rintro e w2 ⟨rfl, hb2⟩; obtain ⟨hc, hf⟩ := bcell hb2; have HB := Lib.hid ((below3 w _ _ _).trans (hb2.mono (by simp; omega))); obtain ⟨d0, d1, d2⟩ : w2.cell? ⟨w.heap.size + 1, 0, none⟩ = some (.int .i64 0) ∧ w2.cell? ⟨w.heap.size + 1, 1, none⟩ = some (.int .i64 0) ∧ w2.cell? ⟨w.heap.size + 1, 2, none⟩ = some (.string ⟨#[]⟩) := by (refine ⟨?_, ?_, ?_⟩ <;> (rw [hc _ _ (by simp)]; simp [go_sem]))))
    rw [hr.out]
    obtain ⟨e0, e1, e2⟩ := set3 d0 d1 d2 (.int .i64 4) (.int .i64 0) (.string ⟨#[110, 50]⟩)
    exact bodyPost_ret (v := Tm.agg ⟨4, 0, ⟨#[Pl.leafLetter _, 50]⟩⟩) (by simp [results, Tryz.results67, go_sem, Tm.agg, Pl.leafLetter, e0, e1, e2, cat2]) rfl ⟨rfl, ((HB.out.setCell (p := ⟨w.heap.size + 1, 0, none⟩) (by simp) _).setCell (p := ⟨w.heap.size + 1, 1, none⟩) (by simp) _).setCell (p := ⟨w.heap.size + 1, 2, none⟩) (by simp) _⟩
  · go_enter Tryz.func67, Tryz.ntmps67
    go_wp2_with (first | (go_at_call 39; refine (pickR_any _ _ _ (by assumption) (by assumption) (by decide) (by decide)).mono ?_; rintro e w' ⟨rfl, rfl⟩) | (go_at_call 70; refine (digits2 _).mono ?_; rintro e w2 ⟨rfl, hb2⟩; obtain ⟨hc, hf⟩ := bcell hb2; have HB := Lib.hid ((below3 w _ _ _).trans (hb2.mono (by simp; omega))); obtain ⟨d0, d1, d2⟩ : w2.cell? ⟨w.heap.size + 1, 0, none⟩ = some (.int .i64 0) ∧ w2.cell? ⟨w.heap.size + 1, 1, none⟩ = some (.int .i64 0) ∧ w2.cell? ⟨w.heap.size + 1, 2, none⟩ = some (.string ⟨#[]⟩) := by (refine ⟨?_, ?_, ?_⟩ <;> (rw [hc _ _ (by simp)]; simp [go_sem]))))
    rw [hr.out]
    obtain ⟨e0, e1, e2⟩ := set3 d0 d1 d2 (.int .i64 4) (.int .i64 0) (.string ⟨#[116, 50]⟩)
    exact bodyPost_ret (v := Tm.agg ⟨4, 0, ⟨#[Pl.leafLetter _, 50]⟩⟩) (by simp [results, Tryz.results67, go_sem, Tm.agg, Pl.leafLetter, e0, e1, e2, cat2]) rfl ⟨rfl, ((HB.out.setCell (p := ⟨w.heap.size + 1, 0, none⟩) (by simp) _).setCell (p := ⟨w.heap.size + 1, 1, none⟩) (by simp) _).setCell (p := ⟨w.heap.size + 1, 2, none⟩) (by simp) _⟩
  · go_enter Tryz.func67, Tryz.ntmps67
    go_wp2_with (first | (go_at_call 39; refine (pickR_any _ _ _ (by assumption) (by assumption) (by decide) (by decide)).mono ?_; rintro e w' ⟨rfl, rfl⟩) | (go_at_call 70; refine (digits2 _).mono ?_; rintro e w2 ⟨rfl, hb2⟩; obtain ⟨hc, hf⟩ := bcell hb2; have HB := Lib.hid ((below3 w _ _ _).trans (hb2.mono (by simp; omega))); obtain ⟨d0, d1, d2⟩ : w2.cell? ⟨w.heap.size + 1, 0, none⟩ = some (.int .i64 0) ∧ w2.cell? ⟨w.heap.size + 1, 1, none⟩ = some (.int .i64 0) ∧ w2.cell? ⟨w.heap.size + 1, 2, none⟩ = some (.string ⟨#[]⟩) := by (refine ⟨?_, ?_, ?_⟩ <;> (rw [hc _ _ (by simp)]; simp [go_sem]))))
    rw [hr.out]
    obtain ⟨e0, e1, e2⟩ := set3 d0 d1 d2 (.int .i64 4) (.int .i64 0) (.string ⟨#[115, 50]⟩)
    exact bodyPost_ret (v := Tm.agg ⟨4, 0, ⟨#[Pl.leafLetter _, 50]⟩⟩) (by simp [results, Tryz.results67, go_sem, Tm.agg, Pl.leafLetter, e0, e1, e2, cat2]) rfl ⟨rfl, ((HB.out.setCell (p := ⟨w.heap.size + 1, 0, none⟩) (by simp) _).setCell (p := ⟨w.heap.size + 1, 1, none⟩) (by simp) _).setCell (p := ⟨w.heap.size + 1, 2, none⟩) (by simp) _⟩
set_option maxRecDepth 100000 in
set_option maxHeartbeats 2000000 in
theorem leaf_lit1 (t x0 x1 : Int) (w : World) (h0 : -9223372036854775808 ≤ x0 ∧ x0 ≤ 9223372036854775807) (h1 : -9223372036854775808 ≤ x1 ∧ x1 ≤ 9223372036854775807) (ht : t = 1)
   (hp : Pl.pickOf x0 2 ≠ 0) : Calls Tryz.prog 67 #[.int .i64 t, .agg #[.int .i64 x0, .int .i64 x1]] w fun e w' => e = .returned (Pl.leafTm t x0 x1).agg ∧ Below w.heap.size w w' := by
  obtain ⟨b0, b1⟩ := h0
  obtain ⟨b2, b3⟩ := h1
  have hr : Hid (Pl.leafTm t x0 x1 = ⟨1, Pl.pickOf x1 10, ⟨#[]⟩⟩) := Lib.hid (by simp [Pl.leafTm, hp, ht])
  subst ht
  all_goals
    go_enter Tryz.func67, Tryz.ntmps67
    go_wp2_with (first | (go_at_call 39; refine (pickR_any _ _ _ (by assumption) (by assumption) (by decide) (by decide)).mono ?_; rintro e w' ⟨rfl, rfl⟩))
    rw [hr.out]
    exact bodyPost_ret (v := Tm.agg ⟨1, Pl.pickOf x1 10, ⟨#[]⟩⟩) (by simp [results, Tryz.results67, go_sem, Tm.agg]) rfl ⟨rfl, (below1 _ _).trans ((below1 _ _).mono (by simp))⟩
set_option maxRecDepth 100000 in
set_option maxHeartbeats 2000000 in
theorem leaf_lit2 (t x0 x1 : Int) (w : World) (h0 : -9223372036854775808 ≤ x0 ∧ x0 ≤ 9223372036854775807) (h1 : -9223372036854775808 ≤ x1 ∧ x1 ≤ 9223372036854775807) (ht : t = 2)
   (hp : Pl.pickOf x0 2 ≠ 0) : Calls Tryz.prog 67 #[.int .i64 t, .agg #[.int .i64 x0, .int .i64 x1]] w fun e w' => e = .returned (Pl.leafTm t x0 x1).agg ∧ Below w.heap.size w w' := by
  obtain ⟨b0, b1⟩ := h0
  obtain ⟨b2, b3⟩ := h1
  have hr : Hid (Pl.leafTm t x0 x1 = ⟨2, Pl.pickOf x1 2, ⟨#[]⟩⟩) := Lib.hid (by simp [Pl.leafTm, hp, ht])
  subst ht
  all_goals
    go_enter Tryz.func67, Tryz.ntmps67
    go_wp2_with (first | (go_at_call 39; refine (pickR_any _ _ _ (by assumption) (by assumption) (by decide) (by decide)).mono ?_; rintro e w' ⟨rfl, rfl⟩))
    rw [hr.out]
    exact bodyPost_ret (v := Tm.agg ⟨2, Pl.pickOf x1 2, ⟨#[]⟩⟩) (by simp [results, Tryz.results67, go_sem, Tm.agg]) rfl ⟨rfl, (below1 _ _).trans ((below1 _ _).mono (by simp))⟩
set_option maxRecDepth 100000 in
set_option maxHeartbeats 2000000 in
theorem leaf_lit3 (t x0 x1 : Int) (w : World) (h0 : -9223372036854775808 ≤ x0 ∧ x0 ≤ 9223372036854775807) (h1 : -9223372036854775808 ≤ x1 ∧ x1 ≤ 9223372036854775807) (ht : t = 3)
   (hp : Pl.pickOf x0 2 ≠ 0) (k : Int) (hq : Pl.pickOf x1 5 = k) (hk : k = 0 ∨ k = 1 ∨ k = 2 ∨ k = 3 ∨ k = 4) : Calls Tryz.prog 67 #[.int .i64 t, .agg #[.int .i64 x0, .int .i64 x1]] w fun e w' => e = .returned (Pl.leafTm t x0 x1).agg ∧ Below w.heap.size w w' := by
  obtain ⟨b0, b1⟩ := h0
  obtain ⟨b2, b3⟩ := h1
  have hr : Hid (Pl.leafTm t x0 x1 = ⟨3, 0, Pl.shortText k⟩) := Lib.hid (by simp [Pl.leafTm, hp, ht, hq])
  subst ht
  rcases hk with rfl | rfl | rfl | rfl | rfl
  all_goals
    go_enter Tryz.func67, Tryz.ntmps67
    go_wp2_with (first | (go_at_call 39; refine (pickR_any _ _ _ (by assumption) (by assumption) (by decide) (by decide)).mono ?_; rintro e w' ⟨rfl, rfl⟩))
    rw [hr.out]
    exact bodyPost_ret (v := Tm.agg ⟨3, 0, Pl.shortText _⟩) (by simp [results, Tryz.results67, go_sem, Tm.agg, Pl.shortText]) rfl ⟨rfl, below3 _ _ _ _⟩
/-- What leaf gives. -/
theorem leaf_any (t x0 x1 : Int) (w : World) (h0 : -9223372036854775808 ≤ x0 ∧ x0 ≤ 9223372036854775807) (h1 : -9223372036854775808 ≤ x1 ∧ x1 ≤ 9223372036854775807) (ht : t = 1 ∨ t = 2 ∨ t = 3) :
    Calls Tryz.prog 67 #[.int .i64 t, .agg #[.int .i64 x0, .int .i64 x1]] w fun e w' => e = .returned (Pl.leafTm t x0 x1).agg ∧ Below w.heap.size w w' := by
  have r3 := Pl.pickOf_range x1 3 (by decide)
  have r5 := Pl.pickOf_range x1 5 (by decide)
  by_cases hp : Pl.pickOf x0 2 = 0
  · rcases (by omega : Pl.pickOf x1 3 = 0 ∨ Pl.pickOf x1 3 = 1 ∨ Pl.pickOf x1 3 = 2) with hq | hq | hq
    · exact leaf_name0 t x0 x1 w h0 h1 ht hp hq
    · exact leaf_name1 t x0 x1 w h0 h1 ht hp hq
    · exact leaf_name2 t x0 x1 w h0 h1 ht hp hq
  · rcases ht with h | h | h
    · exact leaf_lit1 t x0 x1 w h0 h1 h hp
    · exact leaf_lit2 t x0 x1 w h0 h1 h hp
    · exact leaf_lit3 t x0 x1 w h0 h1 h hp _ rfl (by omega)
end Go.Proofs.YtchoelgkcnnnkaaGreatDoor
