/- WALKS: cmp.Or, cmp.Compare of strings, the test of order. · WALK: the test of order ($10, function 113): its region draws its order. -/
import Derived.Test.YtchoelgkcnnnkaaGreatDoorOps
import Derived.BigQuiet
import Derived.StillTailTactics
set_option linter.all false
namespace Go.Proofs.YtchoelgkcnnnkaaGreatDoor
open Go.RowKit
namespace Pl
def cmpB (x y : ByteArray) : Int := if Op.bytesLess x.toList y.toList = true then -1 else if (!x.toList == y.toList) = true then 1 else 0
def lessB (a b : Tm) : Bool := decide ((if Lib.compareInt a.n b.n ≠ 0 then Lib.compareInt a.n b.n else cmpB a.s b.s) < 0)
end Pl
set_option maxRecDepth 100000 in
set_option maxHeartbeats 1000000 in
theorem isNaNs_any (x : ByteArray) (w : World) : Calls Tryz.prog 138 #[.string x] w fun e w' => e = .returned (.bool false) ∧ w' = w := by
  have h : (x.toList == x.toList) = true := by simp
  go_enter Tryz.func138, Tryz.ntmps138
  go_wp2
  go_ret
  exact ⟨ret_bool (by simp), rfl⟩

set_option maxRecDepth 100000 in
set_option maxHeartbeats 1000000 in
theorem cmpS_any (x y : ByteArray) (w : World) : Calls Tryz.prog 116 #[.string x, .string y] w fun e w' => e = .returned (.int .i64 (Pl.cmpB x y)) ∧ w' = w := by
  go_enter Tryz.func116, Tryz.ntmps116
  go_wp2_with (go_at_call 138; refine (isNaNs_any _ _).mono ?_; rintro e w' ⟨rfl, rfl⟩)
  all_goals (go_ret; refine ⟨ret_int ?_, rfl⟩; unfold Pl.cmpB; simp_all)

set_option maxRecDepth 100000 in
set_option maxHeartbeats 1000000 in
theorem or_two (g : Nat) (x y r : Int) (w : World) (h0 : w.cell? ⟨g, 0, none⟩ = some (.int .i64 x)) (h1 : w.cell? ⟨g, 1, none⟩ = some (.int .i64 y)) (HR : Hid (r = if x ≠ 0 then x else y)) :
    Calls Tryz.prog 114 #[.slice (some ⟨g, 0, none⟩) 2 2] w fun e w' => e = .returned (.int .i64 r) ∧ w' = w := by
  by_cases hx : x = 0
  · have e0 : (x == 0) = true := by simpa using hx
    subst hx
    by_cases hy : y = 0
    · have e1 : (y == 0) = true := by simpa using hy
      subst hy
      go_enter Tryz.func114, Tryz.ntmps114
      go_wp2
      refine wp_loop_rounds 3 ?_
      rw [rounds_succ]; go_wp2
      rw [rounds_succ]; go_wp2
      rw [rounds_succ]; go_wp2
      go_ret
      exact ⟨ret_int (by rw [HR.out]; simp), rfl⟩
    · have e1 : (y == 0) = false := by simpa using hy
      go_enter Tryz.func114, Tryz.ntmps114
      go_wp2
      refine wp_loop_rounds 3 ?_
      rw [rounds_succ]; go_wp2
      rw [rounds_succ]; go_wp2
      go_ret
      exact ⟨ret_int (by rw [HR.out]; simp), rfl⟩
  · have e0 : (x == 0) = false := by simpa using hx
    go_enter Tryz.func114, Tryz.ntmps114
    go_wp2
    refine wp_loop_rounds 3 ?_
    rw [rounds_succ]; go_wp2
    go_ret
    exact ⟨ret_int (by rw [HR.out]; simp [hx]), rfl⟩
end Go.Proofs.YtchoelgkcnnnkaaGreatDoor
namespace Go.Proofs.YtchoelgkcnnnkaaGreatDoor
open Go.RowKit
theorem fresh4 (w : World) (o1 o2 o4 : Obj) (cs : Array Value) (t : TypeId) : let W := ((((w.alloc o1).alloc o2).alloc (.cells cs t)).alloc o4).drew
    W.heap[w.heap.size + 1 + 1]? = some (.cells cs t (0, 0)) := by
  intro W
  show ((((w.heap.push o1).push o2).push (.cells cs t)).push o4)[w.heap.size + 1 + 1]? = _
  rw [Array.getElem?_push, if_neg (by simp), Array.getElem?_push, if_pos (by simp)]
theorem fresh3 (w : World) (a b c a' b' c' : Value) (o : Obj) (t : TypeId) : let W := (((w.alloc (.cells #[a, b, c] t)).alloc (.cells #[a', b', c'] t)).alloc o)
    W.cell? ⟨w.heap.size, 1, none⟩ = some b ∧ W.cell? ⟨w.heap.size, 2, none⟩ = some c ∧ W.cell? ⟨w.heap.size + 1, 1, none⟩ = some b' ∧ W.cell? ⟨w.heap.size + 1, 2, none⟩ = some c' ∧ W.heap[w.heap.size + 1 + 1]? = some o ∧ W.heap.size = w.heap.size + 1 + 1 + 1 := by
  intro W
  have h0 : W.heap[w.heap.size]? = some (.cells #[a, b, c] t (0, 0)) := by
    show (((w.heap.push _).push _).push _)[w.heap.size]? = _
    rw [Array.getElem?_push, if_neg (by simp; omega), Array.getElem?_push, if_neg (by simp), Array.getElem?_push, if_pos rfl]
  have h1 : W.heap[w.heap.size + 1]? = some (.cells #[a', b', c'] t (0, 0)) := by
    show (((w.heap.push _).push _).push _)[w.heap.size + 1]? = _
    rw [Array.getElem?_push, if_neg (by simp), Array.getElem?_push, if_pos (by simp)]
  refine ⟨?_, ?_, ?_, ?_, ?_, ?_⟩
  · rw [Lib.cell_of_heap h0]; rfl
  · rw [Lib.cell_of_heap h0]; rfl
  · rw [Lib.cell_of_heap h1]; rfl
  · rw [Lib.cell_of_heap h1]; rfl
  · show (((w.heap.push _).push _).push _)[w.heap.size + 1 + 1]? = _
    rw [Array.getElem?_push, if_pos (by simp)]
  · show (((w.heap.push _).push _).push _).size = _
    simp
theorem truthF_keep (v : Bool) (W : World) (n : Nat) (c0 c1 c2 : Value) (t : TypeId) (h : W.heap[n]? = some (.cells #[c0, c1, c2] t (0, 0))) :
    Calls Tryz.prog 103 #[.bool v] W fun e w' => e = .returned (truthV v).agg ∧ w'.cell? ⟨n, 0, none⟩ = some c0 ∧ w'.cell? ⟨n, 1, none⟩ = some c1 ∧ w'.cell? ⟨n, 2, none⟩ = some c2 ∧ w'.frozen? ⟨n, 0, none⟩ = false ∧ w'.frozen? ⟨n, 1, none⟩ = false ∧ w'.frozen? ⟨n, 2, none⟩ = false ∧ Hid (Below W.heap.size W w') := by
  refine (truthF_any v W).mono ?_
  rintro e w' ⟨rfl, hb⟩
  have hn : n < W.heap.size := (Array.getElem?_eq_some_iff.1 h).1
  have h' : w'.heap[n]? = some (.cells #[c0, c1, c2] t (0, 0)) := by rw [hb.block n hn]; exact h
  refine ⟨rfl, ?_, ?_, ?_, ?_, ?_, ?_, Lib.hid hb⟩
  · rw [Lib.cell_of_heap h']; rfl
  · rw [Lib.cell_of_heap h']; rfl
  · rw [Lib.cell_of_heap h']; rfl
  · exact Lib.frozen_of_heap h' 0
  · exact Lib.frozen_of_heap h' 1
  · exact Lib.frozen_of_heap h' 2
set_option maxRecDepth 100000 in
set_option maxHeartbeats 1000000 in
theorem opLess_true (a b : Tm) (w : World) (ha : Small a) (hb : Small b) (r0 : Int) (HR0 : Hid (r0 = (if Lib.compareInt a.n b.n ≠ 0 then Lib.compareInt a.n b.n else Pl.cmpB a.s b.s))) (hd : decide (r0 < 0) = true) :
    Calls Tryz.prog 113 #[a.agg, b.agg] w fun e w' => e = .returned (truthV true).agg ∧ Below w.heap.size w w' := by
  obtain ⟨ak, an, sa⟩ := a
  obtain ⟨bk, bn, sb⟩ := b
  obtain ⟨⟨a0, a1⟩, a2⟩ := ha
  obtain ⟨⟨b0, b1⟩, b2⟩ := hb
  unfold Tm.agg
  dsimp only at *
  go_enter Tryz.func113, Tryz.ntmps113
  go_wp2_with fail
  have hF := fresh3 w (.int .i64 ak) (.int .i64 an) (.string sa) (.int .i64 bk) (.int .i64 bn) (.string sb) (.cells #[.int .i64 0, .int .i64 0, .string ⟨#[]⟩] 48) 48
  have hW := below3 w (.cells #[.int .i64 ak, .int .i64 an, .string sa] 48) (.cells #[.int .i64 bk, .int .i64 bn, .string sb] 48) (.cells #[.int .i64 0, .int .i64 0, .string ⟨#[]⟩] 48)
  dsimp only at hF
  generalize (((w.alloc (.cells #[.int .i64 ak, .int .i64 an, .string sa] 48)).alloc (.cells #[.int .i64 bk, .int .i64 bn, .string sb] 48)).alloc (.cells #[.int .i64 0, .int .i64 0, .string ⟨#[]⟩] 48)) = W at hF hW ⊢
  obtain ⟨q1, q2, q3, q4, q5, q6⟩ := hF
  have HQ5 := Lib.hid q5
  have HW := Lib.hid hW
  have HQ6 := Lib.hid q6
  clear q5 hW q6
  go_still_tail 10, (by kernel_rfl)
  still_call (Tryz.cmp_Compare_int _ _ _)
  repeat still_step
  still_call (cmpS_any _ _ _)
  refine wpStill_nil ?_
  change wpList _ _ _ _ _ W.drew
  go_wp2_with fail
  refine (or_two _ _ _ r0 _ (by simp [go_sem]) (by simp [go_sem]) HR0).mono ?_
  rintro e w' ⟨rfl, rfl⟩
  go_wp2_with fail
  refine (truthF_keep true _ (w.heap.size + 1 + 1) (.int .i64 0) (.int .i64 0) (.string ⟨#[]⟩) 48 ?_).mono ?_
  · have h6 := HQ6.out
    exact (Lib.alloc_old W.drew _ (w.heap.size + 1 + 1) (by show w.heap.size + 1 + 1 < W.heap.size; omega)).trans HQ5.out
  rintro e w' ⟨rfl, d0, d1, d2, g0, g1, g2, HB⟩
  rw [truth_t]
  go_wp2
  obtain ⟨e0, e1, e2⟩ := set3 d0 d1 d2 (.int .i64 2) (.int .i64 1) (.string ⟨#[]⟩)
  have h6 := HQ6.out
  have hB0 : Below w.heap.size w w' := (HW.out.trans ((below_drewN' (Below.refl _ _) 1).trans ((below1 W.drew _).mono (by show w.heap.size ≤ W.heap.size; omega)))).trans (HB.out.mono (by show w.heap.size ≤ (W.drew.alloc _).heap.size; simp; omega))
  exact bodyPost_ret (v := (truthV true).agg) (by simp [results, Tryz.results113, go_sem, Tm.agg, truthV, e0, e1, e2]) rfl ⟨rfl, ((hB0.setCell (p := ⟨w.heap.size + 1 + 1, 0, none⟩) (by simp; omega) _).setCell (p := ⟨w.heap.size + 1 + 1, 1, none⟩) (by simp; omega) _).setCell (p := ⟨w.heap.size + 1 + 1, 2, none⟩) (by simp; omega) _⟩
set_option maxRecDepth 100000 in
set_option maxHeartbeats 1000000 in
theorem opLess_false (a b : Tm) (w : World) (ha : Small a) (hb : Small b) (r0 : Int) (HR0 : Hid (r0 = (if Lib.compareInt a.n b.n ≠ 0 then Lib.compareInt a.n b.n else Pl.cmpB a.s b.s))) (hd : decide (r0 < 0) = false) :
    Calls Tryz.prog 113 #[a.agg, b.agg] w fun e w' => e = .returned (truthV false).agg ∧ Below w.heap.size w w' := by
  obtain ⟨ak, an, sa⟩ := a
  obtain ⟨bk, bn, sb⟩ := b
  obtain ⟨⟨a0, a1⟩, a2⟩ := ha
  obtain ⟨⟨b0, b1⟩, b2⟩ := hb
  unfold Tm.agg
  dsimp only at *
  go_enter Tryz.func113, Tryz.ntmps113
  go_wp2_with fail
  have hF := fresh3 w (.int .i64 ak) (.int .i64 an) (.string sa) (.int .i64 bk) (.int .i64 bn) (.string sb) (.cells #[.int .i64 0, .int .i64 0, .string ⟨#[]⟩] 48) 48
  have hW := below3 w (.cells #[.int .i64 ak, .int .i64 an, .string sa] 48) (.cells #[.int .i64 bk, .int .i64 bn, .string sb] 48) (.cells #[.int .i64 0, .int .i64 0, .string ⟨#[]⟩] 48)
  dsimp only at hF
  generalize (((w.alloc (.cells #[.int .i64 ak, .int .i64 an, .string sa] 48)).alloc (.cells #[.int .i64 bk, .int .i64 bn, .string sb] 48)).alloc (.cells #[.int .i64 0, .int .i64 0, .string ⟨#[]⟩] 48)) = W at hF hW ⊢
  obtain ⟨q1, q2, q3, q4, q5, q6⟩ := hF
  have HQ5 := Lib.hid q5
  have HW := Lib.hid hW
  have HQ6 := Lib.hid q6
  clear q5 hW q6
  go_still_tail 10, (by kernel_rfl)
  still_call (Tryz.cmp_Compare_int _ _ _)
  repeat still_step
  still_call (cmpS_any _ _ _)
  refine wpStill_nil ?_
  change wpList _ _ _ _ _ W.drew
  go_wp2_with fail
  refine (or_two _ _ _ r0 _ (by simp [go_sem]) (by simp [go_sem]) HR0).mono ?_
  rintro e w' ⟨rfl, rfl⟩
  go_wp2_with fail
  refine (truthF_keep false _ (w.heap.size + 1 + 1) (.int .i64 0) (.int .i64 0) (.string ⟨#[]⟩) 48 ?_).mono ?_
  · have h6 := HQ6.out
    exact (Lib.alloc_old W.drew _ (w.heap.size + 1 + 1) (by show w.heap.size + 1 + 1 < W.heap.size; omega)).trans HQ5.out
  rintro e w' ⟨rfl, d0, d1, d2, g0, g1, g2, HB⟩
  rw [truth_f]
  go_wp2
  obtain ⟨e0, e1, e2⟩ := set3 d0 d1 d2 (.int .i64 2) (.int .i64 0) (.string ⟨#[]⟩)
  have h6 := HQ6.out
  have hB0 : Below w.heap.size w w' := (HW.out.trans ((below_drewN' (Below.refl _ _) 1).trans ((below1 W.drew _).mono (by show w.heap.size ≤ W.heap.size; omega)))).trans (HB.out.mono (by show w.heap.size ≤ (W.drew.alloc _).heap.size; simp; omega))
  exact bodyPost_ret (v := (truthV false).agg) (by simp [results, Tryz.results113, go_sem, Tm.agg, truthV, e0, e1, e2]) rfl ⟨rfl, ((hB0.setCell (p := ⟨w.heap.size + 1 + 1, 0, none⟩) (by simp; omega) _).setCell (p := ⟨w.heap.size + 1 + 1, 1, none⟩) (by simp; omega) _).setCell (p := ⟨w.heap.size + 1 + 1, 2, none⟩) (by simp; omega) _⟩
end Go.Proofs.YtchoelgkcnnnkaaGreatDoor
