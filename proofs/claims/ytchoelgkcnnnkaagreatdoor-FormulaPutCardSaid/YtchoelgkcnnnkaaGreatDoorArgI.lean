/- ROWS: an argument that is a slice of integers: opened for a walk. -/
import Derived.Test.YtchoelgkcnnnkaaGreatDoorArgs
import Derived.Test.YtchoelgkcnnnkaaGreatDoorInA
set_option linter.all false
namespace Go.Proofs.YtchoelgkcnnnkaaGreatDoor
open Go.ChangeShapes Go.WideShapes Go.ChangeAt Go.RowKit Go.Deep
set_option maxRecDepth 100000 in
/-- A slice of integers that came in. -/
theorem open_intsin {H : Type} {enc : TypeId × Value → H} {W : World} {v : Value} {d : DataW H} {p : List MemPlace} {r : Reach} {b0 : Nat} (hv : Value.okWide Tryz.prog W r b0 46 v) (h : DataW.Trod enc Tryz.prog W 0 (fun _ => true) true 46 v d p) :
    ∃ ys, IntsArg W v ys ∧ ys.length ≤ 9223372036854775807 := by
  obtain ⟨a, len, cap, rfl⟩ := okWide_slice Tryz.underlying46 hv
  obtain ⟨fuel, hf⟩ := h
  have hc1 : Tryz.prog.cellsOf 3 = 1 := by kernel_rfl
  rcases open_ints Tryz.underlying46 Tryz.underlying3 hc1 hf with ⟨h0, _⟩ | ⟨a', len', cap', zs, hcs, hb, hl, hm, hz, hx, hcell, hwf⟩
  · have h0' : Value.slice a len cap = .slice none 0 0 := by simpa [Value.cells] using h0
    rw [h0']
    exact ⟨[], ⟨none, 0, rfl, Nat.le_refl _, by simp, by simp⟩, by decide⟩
  · have h0' : Value.slice a len cap = .slice (some a') len' cap' := by simpa [Value.cells] using hcs
    rw [h0']
    simp only [if_true] at hz
    have hlt : (zs.take len').length = len' := by rw [List.length_take]; omega
    refine ⟨zs.take len', ⟨some a', cap', by rw [hlt], by rw [hlt]; exact hl, fun y hy => bounds_i64 (hwf y (List.mem_of_mem_take hy)), fun hne => ?_⟩, by rw [hlt]; exact Nat.le_trans hl (Nat.le_trans hm (by decide))⟩
    have hpos : 0 < zs.length := by
      rcases Nat.eq_zero_or_pos len' with e | e
      · subst e; simp at hne
      · omega
    have hc0 := hcell 0 hpos
    obtain ⟨bb, oo, sp⟩ := a'
    have hsp : sp = none := by
      simp only [Addr.add, if_true, World.cell?] at hc0
      split at hc0
      · cases sp with
        | none => rfl
        | some _ => simp at hc0
      · cases hc0
    subst hsp
    have hblt : bb < W.heap.size := by
      have := hc0
      simp only [Addr.add, if_true] at this
      exact lt_of_cell this
    refine ⟨bb, oo, rfl, hblt, fun i y hy => ?_⟩
    rw [List.getElem?_take] at hy
    split at hy
    · have hi := (List.getElem?_eq_some_iff.1 hy).1
      have k0 := hcell i hi
      rw [add_plain] at k0
      rw [k0]
      simp [hy]
    · cases hy
end Go.Proofs.YtchoelgkcnnnkaaGreatDoor
