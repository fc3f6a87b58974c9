/- WALKS of the reference: the value of an operator of one or two operands (apply). -/
import Derived.Test.YtchoelgkcnnnkaaGreatDoorRvP
import Derived.Test.YtchoelgkcnnnkaaGreatDoorInA
import Derived.Test.YtchoelgkcnnnkaaGreatDoorRefE
import Derived.StillTailTactics
import Derived.Deep.RegionHeld3
set_option linter.all false
namespace Go.Proofs.YtchoelgkcnnnkaaGreatDoor
open Go.RowKit
theorem truth2 (b : Bool) (w : World) : Calls Tryz.prog 61 #[.bool b] w fun e w' => e = .returned (.agg #[.int .i64 2, .int .i64 (if b then 1 else 0), .string ⟨#[]⟩]) ∧ Below w.heap.size w w' := by
  refine (truthR_any b w).mono ?_
  rintro e w' ⟨rfl, hb⟩
  exact ⟨by cases b <;> rfl, hb⟩
theorem kept_box {w w' : World} {B : Nat} {cs : Array Value} {T : TypeId} (h : w.heap[B]? = some (.cells cs T (0, 0))) (hb : Below w.heap.size w w') : w'.heap[B]? = some (.cells cs T (0, 0)) := by
  rw [hb.block B (Array.getElem?_eq_some_iff.1 h).1]; exact h
theorem put_other {w : World} {b g : Nat} {o : Obj} (h : w.heap[b]? = some o) (hne : b ≠ g) (u0 u1 u2 : Value) : (((w.setCell ⟨g, 0, none⟩ u0).setCell ⟨g, 1, none⟩ u1).setCell ⟨g, 2, none⟩ u2).heap[b]? = some o := by
  rw [Below.heap_setCell _ _ _ _ hne, Below.heap_setCell _ _ _ _ hne, Below.heap_setCell _ _ _ _ hne]; exact h
theorem put_same {w : World} {g : Nat} {a b c : Value} {T : TypeId} (h : w.heap[g]? = some (.cells #[a, b, c] T (0, 0))) (u0 u1 u2 : Value) : (((w.setCell ⟨g, 0, none⟩ u0).setCell ⟨g, 1, none⟩ u1).setCell ⟨g, 2, none⟩ u2).heap[g]? = some (.cells #[u0, u1, u2] T (0, 0)) :=
  Joins.block_setCell (Joins.block_setCell (Joins.block_setCell h u0) u1) u2
theorem put_below {B : Nat} {w0 w : World} {g : Nat} (h : Below B w0 w) (hg : B ≤ g) (u1 u2 u3 : Value) : Below B w0 (((w.setCell ⟨g, 0, none⟩ u1).setCell ⟨g, 1, none⟩ u2).setCell ⟨g, 2, none⟩ u3) :=
  ((h.setCell (p := ⟨g, 0, none⟩) hg _).setCell (p := ⟨g, 1, none⟩) hg _).setCell (p := ⟨g, 2, none⟩) hg _
theorem truth3 (b : Bool) (u : Int) (w : World) (hu : Hid (u = if b then 1 else 0)) : Calls Tryz.prog 61 #[.bool b] w fun e w' => e = .returned (.agg #[.int .i64 2, .int .i64 u, .string ⟨#[]⟩]) ∧ Below w.heap.size w w' := by
  rw [hu.out]; exact truth2 b w
def ApPost (V : Tm) (w : World) (e : Ending) (w' : World) : Prop := e = .returned (.tuple #[V.agg, .bool (Pl.validV V)]) ∧ Below w.heap.size w w'

set_option maxRecDepth 100000 in
set_option maxHeartbeats 4000000 in
theorem apply5 (xk xn : Int) (xs : ByteArray) (yk yn : Int) (ys : ByteArray) (w : World) (hx : Pl.Mid 60 ⟨xk, xn, xs⟩) (hy : Pl.Mid 60 ⟨yk, yn, ys⟩) : Calls Tryz.prog 119 #[.int .i64 5, .agg #[.int .i64 xk, .int .i64 xn, .string xs], .agg #[.int .i64 yk, .int .i64 yn, .string ys]] w (ApPost ⟨1, -xn, ⟨#[]⟩⟩ w) := by
  obtain ⟨⟨x0, x1⟩, x2⟩ := hx
  obtain ⟨⟨y0, y1⟩, y2⟩ := hy
  dsimp only at x0 x1 x2 y0 y1 y2
  obtain ⟨r, hr⟩ : ∃ r, r = Pl.validV ⟨1, -xn, ⟨#[]⟩⟩ := ⟨_, rfl⟩
  have HR := Lib.hid hr
  have H5 := world5 w (.cells #[.int .i64 xk, .int .i64 xn, .string xs] 48) (.cells #[.int .i64 yk, .int .i64 yn, .string ys] 48) (.cells #[.int .i64 0, .int .i64 0, .string ⟨#[]⟩] 48) (.cells #[.int .i64 0, .int .i64 0, .string ⟨#[]⟩] 48) _ rfl
  unfold ApPost Tm.agg
  rw [← hr]
  clear hr
  go_enter Tryz.func119, Tryz.ntmps119
  go_wp2_with fail
  generalize (((w.alloc (.cells #[.int .i64 xk, .int .i64 xn, .string xs] 48)).alloc (.cells #[.int .i64 yk, .int .i64 yn, .string ys] 48)).alloc (.cells #[.int .i64 0, .int .i64 0, .string ⟨#[]⟩] 48)).alloc (.cells #[.int .i64 0, .int .i64 0, .string ⟨#[]⟩] 48) = W at H5 ⊢
  obtain ⟨hs, hx', hy', hz', hv', hB⟩ := H5
  have HB := Lib.hid hB
  have HS := Lib.hid hs
  refine (count_is (-xn) _).mono ?_
  rintro e w1 ⟨rfl, hb⟩
  have HB1 := Lib.hid (HB.out.trans (hb.mono HB.out.size))
  have HV1 := Lib.hid (kept_box hv' hb)
  have HZ1 := Lib.hid (kept_box hz' hb)
  obtain ⟨v0, v1, v2⟩ := box_cells HV1.out
  have g0 := Lib.frozen_of_heap HV1.out 0
  have g1 := Lib.frozen_of_heap HV1.out 1
  have g2 := Lib.frozen_of_heap HV1.out 2
  clear hb hB hs hx' hy' hz' hv'
  go_wp2_with fail
  have HV2 := Lib.hid (put_same HV1.out (.int .i64 1) (.int .i64 (-xn)) (.string ⟨#[]⟩))
  have HZ2 := Lib.hid (put_other (g := w.heap.size + 1 + 1 + 1) HZ1.out (by omega) (.int .i64 1) (.int .i64 (-xn)) (.string ⟨#[]⟩))
  have HB2 := Lib.hid (put_below (g := w.heap.size + 1 + 1 + 1) HB1.out (by omega) (.int .i64 1) (.int .i64 (-xn)) (.string ⟨#[]⟩))
  generalize (((w1.setCell ⟨w.heap.size + 1 + 1 + 1, 0, none⟩ (.int .i64 1)).setCell ⟨w.heap.size + 1 + 1 + 1, 1, none⟩ (.int .i64 (-xn))).setCell ⟨w.heap.size + 1 + 1 + 1, 2, none⟩ (.string ⟨#[]⟩)) = W2 at HV2 HZ2 HB2 ⊢
  obtain ⟨d0, d1, d2⟩ := box_cells HV2.out
  have h32 : w.heap.size + 1 + 1 + 1 ≠ w.heap.size + 1 + 1 := by omega
  clear v0 v1 v2 g0 g1 g2
  go_region_held3 (fun w' => w'.cell? ⟨w.heap.size + 1 + 1 + 1, 0, none⟩ = some (.int .i64 1) ∧ w'.cell? ⟨w.heap.size + 1 + 1 + 1, 1, none⟩ = some (.int .i64 (-xn)) ∧ w'.cell? ⟨w.heap.size + 1 + 1 + 1, 2, none⟩ = some (.string ⟨#[]⟩)) (first | exact ⟨d0, d1, d2⟩ | exact ⟨e0, e1, e2⟩ | exact box_cells (put_other HE3.out h32 _ _ _)) (first | (go_at_call 31; refine (validValueR_any ⟨1, -xn, ⟨#[]⟩⟩ _).mono ?_; rintro e w3 ⟨rfl, hb3⟩; rw [← HR.out]; have HB3 := Lib.hid (HB2.out.drew.trans (hb3.mono HB2.out.size)); have HE3 := Lib.hid (kept_box (show W2.drew.heap[w.heap.size + 1 + 1 + 1]? = _ from HV2.out) hb3); obtain ⟨e0, e1, e2⟩ := box_cells HE3.out; have HZ3 := Lib.hid (kept_box (show W2.drew.heap[w.heap.size + 1 + 1]? = _ from HZ2.out) hb3); obtain ⟨z0, z1, z2⟩ := box_cells HZ3.out; have q0 := Lib.frozen_of_heap HZ3.out 0; have q1 := Lib.frozen_of_heap HZ3.out 1; have q2 := Lib.frozen_of_heap HZ3.out 2; clear hb3))
  all_goals
    go_wp2_with fail
    obtain ⟨o0, o1, o2⟩ := set3 z0 z1 z2 (.int .i64 1) (.int .i64 (-xn)) (.string ⟨#[]⟩)
    exact bodyPost_ret (v := .tuple #[.agg #[.int .i64 1, .int .i64 (-xn), .string ⟨#[]⟩], .bool r]) (by simp [results, Tryz.results119, go_sem, o0, o1, o2]) rfl ⟨rfl, put_below HB3.out (by omega) _ _ _⟩

set_option maxRecDepth 100000 in
set_option maxHeartbeats 4000000 in
theorem apply6 (xk xn : Int) (xs : ByteArray) (yk yn : Int) (ys : ByteArray) (w : World) (hx : Pl.Mid 60 ⟨xk, xn, xs⟩) (hy : Pl.Mid 60 ⟨yk, yn, ys⟩) (b : Bool) (u : Int) (hb0 : (xn == 0) = b) (hu : Hid (u = if b then 1 else 0)) : Calls Tryz.prog 119 #[.int .i64 6, .agg #[.int .i64 xk, .int .i64 xn, .string xs], .agg #[.int .i64 yk, .int .i64 yn, .string ys]] w (ApPost ⟨2, u, ⟨#[]⟩⟩ w) := by
  obtain ⟨⟨x0, x1⟩, x2⟩ := hx
  obtain ⟨⟨y0, y1⟩, y2⟩ := hy
  dsimp only at x0 x1 x2 y0 y1 y2
  obtain ⟨r, hr⟩ : ∃ r, r = Pl.validV ⟨2, u, ⟨#[]⟩⟩ := ⟨_, rfl⟩
  have HR := Lib.hid hr
  have H5 := world5 w (.cells #[.int .i64 xk, .int .i64 xn, .string xs] 48) (.cells #[.int .i64 yk, .int .i64 yn, .string ys] 48) (.cells #[.int .i64 0, .int .i64 0, .string ⟨#[]⟩] 48) (.cells #[.int .i64 0, .int .i64 0, .string ⟨#[]⟩] 48) _ rfl
  unfold ApPost Tm.agg
  rw [← hr]
  clear hr
  go_enter Tryz.func119, Tryz.ntmps119
  go_wp2_with fail
  generalize (((w.alloc (.cells #[.int .i64 xk, .int .i64 xn, .string xs] 48)).alloc (.cells #[.int .i64 yk, .int .i64 yn, .string ys] 48)).alloc (.cells #[.int .i64 0, .int .i64 0, .string ⟨#[]⟩] 48)).alloc (.cells #[.int .i64 0, .int .i64 0, .string ⟨#[]⟩] 48) = W at H5 ⊢
  obtain ⟨hs, hx', hy', hz', hv', hB⟩ := H5
  have HB := Lib.hid hB
  have HS := Lib.hid hs
  refine (truth3 b u _ hu).mono ?_
  rintro e w1 ⟨rfl, hb⟩
  have HB1 := Lib.hid (HB.out.trans (hb.mono HB.out.size))
  have HV1 := Lib.hid (kept_box hv' hb)
  have HZ1 := Lib.hid (kept_box hz' hb)
  obtain ⟨v0, v1, v2⟩ := box_cells HV1.out
  have g0 := Lib.frozen_of_heap HV1.out 0
  have g1 := Lib.frozen_of_heap HV1.out 1
  have g2 := Lib.frozen_of_heap HV1.out 2
  clear hb hB hs hx' hy' hz' hv'
  go_wp2_with fail
  have HV2 := Lib.hid (put_same HV1.out (.int .i64 2) (.int .i64 (u)) (.string ⟨#[]⟩))
  have HZ2 := Lib.hid (put_other (g := w.heap.size + 1 + 1 + 1) HZ1.out (by omega) (.int .i64 2) (.int .i64 (u)) (.string ⟨#[]⟩))
  have HB2 := Lib.hid (put_below (g := w.heap.size + 1 + 1 + 1) HB1.out (by omega) (.int .i64 2) (.int .i64 (u)) (.string ⟨#[]⟩))
  generalize (((w1.setCell ⟨w.heap.size + 1 + 1 + 1, 0, none⟩ (.int .i64 2)).setCell ⟨w.heap.size + 1 + 1 + 1, 1, none⟩ (.int .i64 (u))).setCell ⟨w.heap.size + 1 + 1 + 1, 2, none⟩ (.string ⟨#[]⟩)) = W2 at HV2 HZ2 HB2 ⊢
  obtain ⟨d0, d1, d2⟩ := box_cells HV2.out
  have h32 : w.heap.size + 1 + 1 + 1 ≠ w.heap.size + 1 + 1 := by omega
  clear v0 v1 v2 g0 g1 g2
  go_region_held3 (fun w' => w'.cell? ⟨w.heap.size + 1 + 1 + 1, 0, none⟩ = some (.int .i64 2) ∧ w'.cell? ⟨w.heap.size + 1 + 1 + 1, 1, none⟩ = some (.int .i64 (u)) ∧ w'.cell? ⟨w.heap.size + 1 + 1 + 1, 2, none⟩ = some (.string ⟨#[]⟩)) (first | exact ⟨d0, d1, d2⟩ | exact ⟨e0, e1, e2⟩ | exact box_cells (put_other HE3.out h32 _ _ _)) (first | (go_at_call 31; refine (validValueR_any ⟨2, u, ⟨#[]⟩⟩ _).mono ?_; rintro e w3 ⟨rfl, hb3⟩; rw [← HR.out]; have HB3 := Lib.hid (HB2.out.drew.trans (hb3.mono HB2.out.size)); have HE3 := Lib.hid (kept_box (show W2.drew.heap[w.heap.size + 1 + 1 + 1]? = _ from HV2.out) hb3); obtain ⟨e0, e1, e2⟩ := box_cells HE3.out; have HZ3 := Lib.hid (kept_box (show W2.drew.heap[w.heap.size + 1 + 1]? = _ from HZ2.out) hb3); obtain ⟨z0, z1, z2⟩ := box_cells HZ3.out; have q0 := Lib.frozen_of_heap HZ3.out 0; have q1 := Lib.frozen_of_heap HZ3.out 1; have q2 := Lib.frozen_of_heap HZ3.out 2; clear hb3))
  all_goals
    go_wp2_with fail
    obtain ⟨o0, o1, o2⟩ := set3 z0 z1 z2 (.int .i64 2) (.int .i64 (u)) (.string ⟨#[]⟩)
    exact bodyPost_ret (v := .tuple #[.agg #[.int .i64 2, .int .i64 (u), .string ⟨#[]⟩], .bool r]) (by simp [results, Tryz.results119, go_sem, o0, o1, o2]) rfl ⟨rfl, put_below HB3.out (by omega) _ _ _⟩

set_option maxRecDepth 100000 in
set_option maxHeartbeats 4000000 in
theorem apply7 (xk xn : Int) (xs : ByteArray) (yk yn : Int) (ys : ByteArray) (w : World) (hx : Pl.Mid 60 ⟨xk, xn, xs⟩) (hy : Pl.Mid 60 ⟨yk, yn, ys⟩) : Calls Tryz.prog 119 #[.int .i64 7, .agg #[.int .i64 xk, .int .i64 xn, .string xs], .agg #[.int .i64 yk, .int .i64 yn, .string ys]] w (ApPost ⟨1, xs.size, ⟨#[]⟩⟩ w) := by
  obtain ⟨⟨x0, x1⟩, x2⟩ := hx
  obtain ⟨⟨y0, y1⟩, y2⟩ := hy
  dsimp only at x0 x1 x2 y0 y1 y2
  obtain ⟨r, hr⟩ : ∃ r, r = Pl.validV ⟨1, xs.size, ⟨#[]⟩⟩ := ⟨_, rfl⟩
  have HR := Lib.hid hr
  have H5 := world5 w (.cells #[.int .i64 xk, .int .i64 xn, .string xs] 48) (.cells #[.int .i64 yk, .int .i64 yn, .string ys] 48) (.cells #[.int .i64 0, .int .i64 0, .string ⟨#[]⟩] 48) (.cells #[.int .i64 0, .int .i64 0, .string ⟨#[]⟩] 48) _ rfl
  unfold ApPost Tm.agg
  rw [← hr]
  clear hr
  go_enter Tryz.func119, Tryz.ntmps119
  go_wp2_with fail
  generalize (((w.alloc (.cells #[.int .i64 xk, .int .i64 xn, .string xs] 48)).alloc (.cells #[.int .i64 yk, .int .i64 yn, .string ys] 48)).alloc (.cells #[.int .i64 0, .int .i64 0, .string ⟨#[]⟩] 48)).alloc (.cells #[.int .i64 0, .int .i64 0, .string ⟨#[]⟩] 48) = W at H5 ⊢
  obtain ⟨hs, hx', hy', hz', hv', hB⟩ := H5
  have HB := Lib.hid hB
  have HS := Lib.hid hs
  refine (count_is (xs.size : Int) _).mono ?_
  rintro e w1 ⟨rfl, hb⟩
  have HB1 := Lib.hid (HB.out.trans (hb.mono HB.out.size))
  have HV1 := Lib.hid (kept_box hv' hb)
  have HZ1 := Lib.hid (kept_box hz' hb)
  obtain ⟨v0, v1, v2⟩ := box_cells HV1.out
  have g0 := Lib.frozen_of_heap HV1.out 0
  have g1 := Lib.frozen_of_heap HV1.out 1
  have g2 := Lib.frozen_of_heap HV1.out 2
  clear hb hB hs hx' hy' hz' hv'
  go_wp2_with fail
  have HV2 := Lib.hid (put_same HV1.out (.int .i64 1) (.int .i64 (xs.size)) (.string ⟨#[]⟩))
  have HZ2 := Lib.hid (put_other (g := w.heap.size + 1 + 1 + 1) HZ1.out (by omega) (.int .i64 1) (.int .i64 (xs.size)) (.string ⟨#[]⟩))
  have HB2 := Lib.hid (put_below (g := w.heap.size + 1 + 1 + 1) HB1.out (by omega) (.int .i64 1) (.int .i64 (xs.size)) (.string ⟨#[]⟩))
  generalize (((w1.setCell ⟨w.heap.size + 1 + 1 + 1, 0, none⟩ (.int .i64 1)).setCell ⟨w.heap.size + 1 + 1 + 1, 1, none⟩ (.int .i64 (xs.size))).setCell ⟨w.heap.size + 1 + 1 + 1, 2, none⟩ (.string ⟨#[]⟩)) = W2 at HV2 HZ2 HB2 ⊢
  obtain ⟨d0, d1, d2⟩ := box_cells HV2.out
  have h32 : w.heap.size + 1 + 1 + 1 ≠ w.heap.size + 1 + 1 := by omega
  clear v0 v1 v2 g0 g1 g2
  go_region_held3 (fun w' => w'.cell? ⟨w.heap.size + 1 + 1 + 1, 0, none⟩ = some (.int .i64 1) ∧ w'.cell? ⟨w.heap.size + 1 + 1 + 1, 1, none⟩ = some (.int .i64 (xs.size)) ∧ w'.cell? ⟨w.heap.size + 1 + 1 + 1, 2, none⟩ = some (.string ⟨#[]⟩)) (first | exact ⟨d0, d1, d2⟩ | exact ⟨e0, e1, e2⟩ | exact box_cells (put_other HE3.out h32 _ _ _)) (first | (go_at_call 31; refine (validValueR_any ⟨1, xs.size, ⟨#[]⟩⟩ _).mono ?_; rintro e w3 ⟨rfl, hb3⟩; rw [← HR.out]; have HB3 := Lib.hid (HB2.out.drew.trans (hb3.mono HB2.out.size)); have HE3 := Lib.hid (kept_box (show W2.drew.heap[w.heap.size + 1 + 1 + 1]? = _ from HV2.out) hb3); obtain ⟨e0, e1, e2⟩ := box_cells HE3.out; have HZ3 := Lib.hid (kept_box (show W2.drew.heap[w.heap.size + 1 + 1]? = _ from HZ2.out) hb3); obtain ⟨z0, z1, z2⟩ := box_cells HZ3.out; have q0 := Lib.frozen_of_heap HZ3.out 0; have q1 := Lib.frozen_of_heap HZ3.out 1; have q2 := Lib.frozen_of_heap HZ3.out 2; clear hb3))
  all_goals
    go_wp2_with fail
    obtain ⟨o0, o1, o2⟩ := set3 z0 z1 z2 (.int .i64 1) (.int .i64 (xs.size)) (.string ⟨#[]⟩)
    exact bodyPost_ret (v := .tuple #[.agg #[.int .i64 1, .int .i64 (xs.size), .string ⟨#[]⟩], .bool r]) (by simp [results, Tryz.results119, go_sem, o0, o1, o2]) rfl ⟨rfl, put_below HB3.out (by omega) _ _ _⟩

set_option maxRecDepth 100000 in
set_option maxHeartbeats 4000000 in
theorem apply9 (xk xn : Int) (xs : ByteArray) (yk yn : Int) (ys : ByteArray) (w : World) (hx : Pl.Mid 60 ⟨xk, xn, xs⟩) (hy : Pl.Mid 60 ⟨yk, yn, ys⟩) : Calls Tryz.prog 119 #[.int .i64 9, .agg #[.int .i64 xk, .int .i64 xn, .string xs], .agg #[.int .i64 yk, .int .i64 yn, .string ys]] w (ApPost ⟨1, xn - yn, ⟨#[]⟩⟩ w) := by
  obtain ⟨⟨x0, x1⟩, x2⟩ := hx
  obtain ⟨⟨y0, y1⟩, y2⟩ := hy
  dsimp only at x0 x1 x2 y0 y1 y2
  obtain ⟨r, hr⟩ : ∃ r, r = Pl.validV ⟨1, xn - yn, ⟨#[]⟩⟩ := ⟨_, rfl⟩
  have HR := Lib.hid hr
  have H5 := world5 w (.cells #[.int .i64 xk, .int .i64 xn, .string xs] 48) (.cells #[.int .i64 yk, .int .i64 yn, .string ys] 48) (.cells #[.int .i64 0, .int .i64 0, .string ⟨#[]⟩] 48) (.cells #[.int .i64 0, .int .i64 0, .string ⟨#[]⟩] 48) _ rfl
  unfold ApPost Tm.agg
  rw [← hr]
  clear hr
  go_enter Tryz.func119, Tryz.ntmps119
  go_wp2_with fail
  generalize (((w.alloc (.cells #[.int .i64 xk, .int .i64 xn, .string xs] 48)).alloc (.cells #[.int .i64 yk, .int .i64 yn, .string ys] 48)).alloc (.cells #[.int .i64 0, .int .i64 0, .string ⟨#[]⟩] 48)).alloc (.cells #[.int .i64 0, .int .i64 0, .string ⟨#[]⟩] 48) = W at H5 ⊢
  obtain ⟨hs, hx', hy', hz', hv', hB⟩ := H5
  have HB := Lib.hid hB
  have HS := Lib.hid hs
  refine (count_is (xn - yn) _).mono ?_
  rintro e w1 ⟨rfl, hb⟩
  have HB1 := Lib.hid (HB.out.trans (hb.mono HB.out.size))
  have HV1 := Lib.hid (kept_box hv' hb)
  have HZ1 := Lib.hid (kept_box hz' hb)
  obtain ⟨v0, v1, v2⟩ := box_cells HV1.out
  have g0 := Lib.frozen_of_heap HV1.out 0
  have g1 := Lib.frozen_of_heap HV1.out 1
  have g2 := Lib.frozen_of_heap HV1.out 2
  clear hb hB hs hx' hy' hz' hv'
  go_wp2_with fail
  have HV2 := Lib.hid (put_same HV1.out (.int .i64 1) (.int .i64 (xn - yn)) (.string ⟨#[]⟩))
  have HZ2 := Lib.hid (put_other (g := w.heap.size + 1 + 1 + 1) HZ1.out (by omega) (.int .i64 1) (.int .i64 (xn - yn)) (.string ⟨#[]⟩))
  have HB2 := Lib.hid (put_below (g := w.heap.size + 1 + 1 + 1) HB1.out (by omega) (.int .i64 1) (.int .i64 (xn - yn)) (.string ⟨#[]⟩))
  generalize (((w1.setCell ⟨w.heap.size + 1 + 1 + 1, 0, none⟩ (.int .i64 1)).setCell ⟨w.heap.size + 1 + 1 + 1, 1, none⟩ (.int .i64 (xn - yn))).setCell ⟨w.heap.size + 1 + 1 + 1, 2, none⟩ (.string ⟨#[]⟩)) = W2 at HV2 HZ2 HB2 ⊢
  obtain ⟨d0, d1, d2⟩ := box_cells HV2.out
  have h32 : w.heap.size + 1 + 1 + 1 ≠ w.heap.size + 1 + 1 := by omega
  clear v0 v1 v2 g0 g1 g2
  go_region_held3 (fun w' => w'.cell? ⟨w.heap.size + 1 + 1 + 1, 0, none⟩ = some (.int .i64 1) ∧ w'.cell? ⟨w.heap.size + 1 + 1 + 1, 1, none⟩ = some (.int .i64 (xn - yn)) ∧ w'.cell? ⟨w.heap.size + 1 + 1 + 1, 2, none⟩ = some (.string ⟨#[]⟩)) (first | exact ⟨d0, d1, d2⟩ | exact ⟨e0, e1, e2⟩ | exact box_cells (put_other HE3.out h32 _ _ _)) (first | (go_at_call 31; refine (validValueR_any ⟨1, xn - yn, ⟨#[]⟩⟩ _).mono ?_; rintro e w3 ⟨rfl, hb3⟩; rw [← HR.out]; have HB3 := Lib.hid (HB2.out.drew.trans (hb3.mono HB2.out.size)); have HE3 := Lib.hid (kept_box (show W2.drew.heap[w.heap.size + 1 + 1 + 1]? = _ from HV2.out) hb3); obtain ⟨e0, e1, e2⟩ := box_cells HE3.out; have HZ3 := Lib.hid (kept_box (show W2.drew.heap[w.heap.size + 1 + 1]? = _ from HZ2.out) hb3); obtain ⟨z0, z1, z2⟩ := box_cells HZ3.out; have q0 := Lib.frozen_of_heap HZ3.out 0; have q1 := Lib.frozen_of_heap HZ3.out 1; have q2 := Lib.frozen_of_heap HZ3.out 2; clear hb3))
  all_goals
    go_wp2_with fail
    obtain ⟨o0, o1, o2⟩ := set3 z0 z1 z2 (.int .i64 1) (.int .i64 (xn - yn)) (.string ⟨#[]⟩)
    exact bodyPost_ret (v := .tuple #[.agg #[.int .i64 1, .int .i64 (xn - yn), .string ⟨#[]⟩], .bool r]) (by simp [results, Tryz.results119, go_sem, o0, o1, o2]) rfl ⟨rfl, put_below HB3.out (by omega) _ _ _⟩

set_option maxRecDepth 100000 in
set_option maxHeartbeats 4000000 in
theorem apply10 (xk xn : Int) (xs : ByteArray) (yk yn : Int) (ys : ByteArray) (w : World) (hx : Pl.Mid 60 ⟨xk, xn, xs⟩) (hy : Pl.Mid 60 ⟨yk, yn, ys⟩) (z : Int) (hz : Hid (z = Pl.prodR xn yn)) : Calls Tryz.prog 119 #[.int .i64 10, .agg #[.int .i64 xk, .int .i64 xn, .string xs], .agg #[.int .i64 yk, .int .i64 yn, .string ys]] w (ApPost ⟨1, z, ⟨#[]⟩⟩ w) := by
  obtain ⟨⟨x0, x1⟩, x2⟩ := hx
  obtain ⟨⟨y0, y1⟩, y2⟩ := hy
  dsimp only at x0 x1 x2 y0 y1 y2
  obtain ⟨r, hr⟩ : ∃ r, r = Pl.validV ⟨1, z, ⟨#[]⟩⟩ := ⟨_, rfl⟩
  have HR := Lib.hid hr
  have H5 := world5 w (.cells #[.int .i64 xk, .int .i64 xn, .string xs] 48) (.cells #[.int .i64 yk, .int .i64 yn, .string ys] 48) (.cells #[.int .i64 0, .int .i64 0, .string ⟨#[]⟩] 48) (.cells #[.int .i64 0, .int .i64 0, .string ⟨#[]⟩] 48) _ rfl
  unfold ApPost Tm.agg
  rw [← hr]
  clear hr
  go_enter Tryz.func119, Tryz.ntmps119
  go_wp2_with fail
  generalize (((w.alloc (.cells #[.int .i64 xk, .int .i64 xn, .string xs] 48)).alloc (.cells #[.int .i64 yk, .int .i64 yn, .string ys] 48)).alloc (.cells #[.int .i64 0, .int .i64 0, .string ⟨#[]⟩] 48)).alloc (.cells #[.int .i64 0, .int .i64 0, .string ⟨#[]⟩] 48) = W at H5 ⊢
  obtain ⟨hs, hx', hy', hz', hv', hB⟩ := H5
  have HB := Lib.hid hB
  have HS := Lib.hid hs
  refine (product_any xn yn _ (by omega) (by omega) (by omega) (by omega)).mono ?_
  rintro e w0 ⟨rfl, rfl⟩
  rw [← hz.out]
  go_wp2_with fail
  refine (count_is z _).mono ?_
  rintro e w1 ⟨rfl, hb⟩
  have HB1 := Lib.hid (HB.out.trans (hb.mono HB.out.size))
  have HV1 := Lib.hid (kept_box hv' hb)
  have HZ1 := Lib.hid (kept_box hz' hb)
  obtain ⟨v0, v1, v2⟩ := box_cells HV1.out
  have g0 := Lib.frozen_of_heap HV1.out 0
  have g1 := Lib.frozen_of_heap HV1.out 1
  have g2 := Lib.frozen_of_heap HV1.out 2
  clear hb hB hs hx' hy' hz' hv'
  go_wp2_with fail
  have HV2 := Lib.hid (put_same HV1.out (.int .i64 1) (.int .i64 (z)) (.string ⟨#[]⟩))
  have HZ2 := Lib.hid (put_other (g := w.heap.size + 1 + 1 + 1) HZ1.out (by omega) (.int .i64 1) (.int .i64 (z)) (.string ⟨#[]⟩))
  have HB2 := Lib.hid (put_below (g := w.heap.size + 1 + 1 + 1) HB1.out (by omega) (.int .i64 1) (.int .i64 (z)) (.string ⟨#[]⟩))
  generalize (((w1.setCell ⟨w.heap.size + 1 + 1 + 1, 0, none⟩ (.int .i64 1)).setCell ⟨w.heap.size + 1 + 1 + 1, 1, none⟩ (.int .i64 (z))).setCell ⟨w.heap.size + 1 + 1 + 1, 2, none⟩ (.string ⟨#[]⟩)) = W2 at HV2 HZ2 HB2 ⊢
  obtain ⟨d0, d1, d2⟩ := box_cells HV2.out
  have h32 : w.heap.size + 1 + 1 + 1 ≠ w.heap.size + 1 + 1 := by omega
  clear v0 v1 v2 g0 g1 g2
  go_region_held3 (fun w' => w'.cell? ⟨w.heap.size + 1 + 1 + 1, 0, none⟩ = some (.int .i64 1) ∧ w'.cell? ⟨w.heap.size + 1 + 1 + 1, 1, none⟩ = some (.int .i64 (z)) ∧ w'.cell? ⟨w.heap.size + 1 + 1 + 1, 2, none⟩ = some (.string ⟨#[]⟩)) (first | exact ⟨d0, d1, d2⟩ | exact ⟨e0, e1, e2⟩ | exact box_cells (put_other HE3.out h32 _ _ _)) (first | (go_at_call 31; refine (validValueR_any ⟨1, z, ⟨#[]⟩⟩ _).mono ?_; rintro e w3 ⟨rfl, hb3⟩; rw [← HR.out]; have HB3 := Lib.hid (HB2.out.drew.trans (hb3.mono HB2.out.size)); have HE3 := Lib.hid (kept_box (show W2.drew.heap[w.heap.size + 1 + 1 + 1]? = _ from HV2.out) hb3); obtain ⟨e0, e1, e2⟩ := box_cells HE3.out; have HZ3 := Lib.hid (kept_box (show W2.drew.heap[w.heap.size + 1 + 1]? = _ from HZ2.out) hb3); obtain ⟨z0, z1, z2⟩ := box_cells HZ3.out; have q0 := Lib.frozen_of_heap HZ3.out 0; have q1 := Lib.frozen_of_heap HZ3.out 1; have q2 := Lib.frozen_of_heap HZ3.out 2; clear hb3))
  all_goals
    go_wp2_with fail
    obtain ⟨o0, o1, o2⟩ := set3 z0 z1 z2 (.int .i64 1) (.int .i64 (z)) (.string ⟨#[]⟩)
    exact bodyPost_ret (v := .tuple #[.agg #[.int .i64 1, .int .i64 (z), .string ⟨#[]⟩], .bool r]) (by simp [results, Tryz.results119, go_sem, o0, o1, o2]) rfl ⟨rfl, put_below HB3.out (by omega) _ _ _⟩

set_option maxRecDepth 100000 in
set_option maxHeartbeats 4000000 in
theorem apply11 (xk xn : Int) (xs : ByteArray) (yk yn : Int) (ys : ByteArray) (w : World) (hx : Pl.Mid 60 ⟨xk, xn, xs⟩) (hy : Pl.Mid 60 ⟨yk, yn, ys⟩) (z : Int) (hz : Hid (z = Pl.flq xn yn)) (h0 : (yn == 0) = false) : Calls Tryz.prog 119 #[.int .i64 11, .agg #[.int .i64 xk, .int .i64 xn, .string xs], .agg #[.int .i64 yk, .int .i64 yn, .string ys]] w (ApPost ⟨1, z, ⟨#[]⟩⟩ w) := by
  obtain ⟨⟨x0, x1⟩, x2⟩ := hx
  obtain ⟨⟨y0, y1⟩, y2⟩ := hy
  dsimp only at x0 x1 x2 y0 y1 y2
  obtain ⟨r, hr⟩ : ∃ r, r = Pl.validV ⟨1, z, ⟨#[]⟩⟩ := ⟨_, rfl⟩
  have HR := Lib.hid hr
  have H5 := world5 w (.cells #[.int .i64 xk, .int .i64 xn, .string xs] 48) (.cells #[.int .i64 yk, .int .i64 yn, .string ys] 48) (.cells #[.int .i64 0, .int .i64 0, .string ⟨#[]⟩] 48) (.cells #[.int .i64 0, .int .i64 0, .string ⟨#[]⟩] 48) _ rfl
  unfold ApPost Tm.agg
  rw [← hr]
  clear hr
  have hne : yn ≠ 0 := by simpa using h0
  go_enter Tryz.func119, Tryz.ntmps119
  go_wp2_with fail
  generalize (((w.alloc (.cells #[.int .i64 xk, .int .i64 xn, .string xs] 48)).alloc (.cells #[.int .i64 yk, .int .i64 yn, .string ys] 48)).alloc (.cells #[.int .i64 0, .int .i64 0, .string ⟨#[]⟩] 48)).alloc (.cells #[.int .i64 0, .int .i64 0, .string ⟨#[]⟩] 48) = W at H5 ⊢
  obtain ⟨hs, hx', hy', hz', hv', hB⟩ := H5
  have HB := Lib.hid hB
  have HS := Lib.hid hs
  refine (divided_any xn yn _ (by omega) (by omega) hne (by omega) (by omega)).mono ?_
  rintro e w0 ⟨rfl, rfl⟩
  rw [← hz.out]
  go_wp2_with fail
  refine (count_is z _).mono ?_
  rintro e w1 ⟨rfl, hb⟩
  have HB1 := Lib.hid (HB.out.trans (hb.mono HB.out.size))
  have HV1 := Lib.hid (kept_box hv' hb)
  have HZ1 := Lib.hid (kept_box hz' hb)
  obtain ⟨v0, v1, v2⟩ := box_cells HV1.out
  have g0 := Lib.frozen_of_heap HV1.out 0
  have g1 := Lib.frozen_of_heap HV1.out 1
  have g2 := Lib.frozen_of_heap HV1.out 2
  clear hb hB hs hx' hy' hz' hv'
  go_wp2_with fail
  have HV2 := Lib.hid (put_same HV1.out (.int .i64 1) (.int .i64 (z)) (.string ⟨#[]⟩))
  have HZ2 := Lib.hid (put_other (g := w.heap.size + 1 + 1 + 1) HZ1.out (by omega) (.int .i64 1) (.int .i64 (z)) (.string ⟨#[]⟩))
  have HB2 := Lib.hid (put_below (g := w.heap.size + 1 + 1 + 1) HB1.out (by omega) (.int .i64 1) (.int .i64 (z)) (.string ⟨#[]⟩))
  generalize (((w1.setCell ⟨w.heap.size + 1 + 1 + 1, 0, none⟩ (.int .i64 1)).setCell ⟨w.heap.size + 1 + 1 + 1, 1, none⟩ (.int .i64 (z))).setCell ⟨w.heap.size + 1 + 1 + 1, 2, none⟩ (.string ⟨#[]⟩)) = W2 at HV2 HZ2 HB2 ⊢
  obtain ⟨d0, d1, d2⟩ := box_cells HV2.out
  have h32 : w.heap.size + 1 + 1 + 1 ≠ w.heap.size + 1 + 1 := by omega
  clear v0 v1 v2 g0 g1 g2
  go_region_held3 (fun w' => w'.cell? ⟨w.heap.size + 1 + 1 + 1, 0, none⟩ = some (.int .i64 1) ∧ w'.cell? ⟨w.heap.size + 1 + 1 + 1, 1, none⟩ = some (.int .i64 (z)) ∧ w'.cell? ⟨w.heap.size + 1 + 1 + 1, 2, none⟩ = some (.string ⟨#[]⟩)) (first | exact ⟨d0, d1, d2⟩ | exact ⟨e0, e1, e2⟩ | exact box_cells (put_other HE3.out h32 _ _ _)) (first | (go_at_call 31; refine (validValueR_any ⟨1, z, ⟨#[]⟩⟩ _).mono ?_; rintro e w3 ⟨rfl, hb3⟩; rw [← HR.out]; have HB3 := Lib.hid (HB2.out.drew.trans (hb3.mono HB2.out.size)); have HE3 := Lib.hid (kept_box (show W2.drew.heap[w.heap.size + 1 + 1 + 1]? = _ from HV2.out) hb3); obtain ⟨e0, e1, e2⟩ := box_cells HE3.out; have HZ3 := Lib.hid (kept_box (show W2.drew.heap[w.heap.size + 1 + 1]? = _ from HZ2.out) hb3); obtain ⟨z0, z1, z2⟩ := box_cells HZ3.out; have q0 := Lib.frozen_of_heap HZ3.out 0; have q1 := Lib.frozen_of_heap HZ3.out 1; have q2 := Lib.frozen_of_heap HZ3.out 2; clear hb3))
  all_goals
    go_wp2_with fail
    obtain ⟨o0, o1, o2⟩ := set3 z0 z1 z2 (.int .i64 1) (.int .i64 (z)) (.string ⟨#[]⟩)
    exact bodyPost_ret (v := .tuple #[.agg #[.int .i64 1, .int .i64 (z), .string ⟨#[]⟩], .bool r]) (by simp [results, Tryz.results119, go_sem, o0, o1, o2]) rfl ⟨rfl, put_below HB3.out (by omega) _ _ _⟩

set_option maxRecDepth 100000 in
set_option maxHeartbeats 4000000 in
theorem apply13t (xk xn : Int) (xs : ByteArray) (yk yn : Int) (ys : ByteArray) (w : World) (hx : Pl.Mid 60 ⟨xk, xn, xs⟩) (hy : Pl.Mid 60 ⟨yk, yn, ys⟩) (u : Int) (hk : xk = yk) (hn : xn = yn) (hs0 : xs = ys) (hu : Hid (u = if true then 1 else 0)) : Calls Tryz.prog 119 #[.int .i64 13, .agg #[.int .i64 xk, .int .i64 xn, .string xs], .agg #[.int .i64 yk, .int .i64 yn, .string ys]] w (ApPost ⟨2, u, ⟨#[]⟩⟩ w) := by
  obtain ⟨⟨x0, x1⟩, x2⟩ := hx
  obtain ⟨⟨y0, y1⟩, y2⟩ := hy
  dsimp only at x0 x1 x2 y0 y1 y2
  obtain ⟨r, hr⟩ : ∃ r, r = Pl.validV ⟨2, u, ⟨#[]⟩⟩ := ⟨_, rfl⟩
  have HR := Lib.hid hr
  have H5 := world5 w (.cells #[.int .i64 xk, .int .i64 xn, .string xs] 48) (.cells #[.int .i64 yk, .int .i64 yn, .string ys] 48) (.cells #[.int .i64 0, .int .i64 0, .string ⟨#[]⟩] 48) (.cells #[.int .i64 0, .int .i64 0, .string ⟨#[]⟩] 48) _ rfl
  unfold ApPost Tm.agg
  rw [← hr]
  clear hr
  subst hk hn hs0
  go_enter Tryz.func119, Tryz.ntmps119
  go_wp2_with fail
  generalize (((w.alloc (.cells #[.int .i64 xk, .int .i64 xn, .string xs] 48)).alloc (.cells #[.int .i64 xk, .int .i64 xn, .string xs] 48)).alloc (.cells #[.int .i64 0, .int .i64 0, .string ⟨#[]⟩] 48)).alloc (.cells #[.int .i64 0, .int .i64 0, .string ⟨#[]⟩] 48) = W at H5 ⊢
  obtain ⟨hs, hx', hy', hz', hv', hB⟩ := H5
  have HB := Lib.hid hB
  have HS := Lib.hid hs
  refine (truth3 true u _ hu).mono ?_
  rintro e w1 ⟨rfl, hb⟩
  have HB1 := Lib.hid (HB.out.trans (hb.mono HB.out.size))
  have HV1 := Lib.hid (kept_box hv' hb)
  have HZ1 := Lib.hid (kept_box hz' hb)
  obtain ⟨v0, v1, v2⟩ := box_cells HV1.out
  have g0 := Lib.frozen_of_heap HV1.out 0
  have g1 := Lib.frozen_of_heap HV1.out 1
  have g2 := Lib.frozen_of_heap HV1.out 2
  clear hb hB hs hx' hy' hz' hv'
  go_wp2_with fail
  have HV2 := Lib.hid (put_same HV1.out (.int .i64 2) (.int .i64 (u)) (.string ⟨#[]⟩))
  have HZ2 := Lib.hid (put_other (g := w.heap.size + 1 + 1 + 1) HZ1.out (by omega) (.int .i64 2) (.int .i64 (u)) (.string ⟨#[]⟩))
  have HB2 := Lib.hid (put_below (g := w.heap.size + 1 + 1 + 1) HB1.out (by omega) (.int .i64 2) (.int .i64 (u)) (.string ⟨#[]⟩))
  generalize (((w1.setCell ⟨w.heap.size + 1 + 1 + 1, 0, none⟩ (.int .i64 2)).setCell ⟨w.heap.size + 1 + 1 + 1, 1, none⟩ (.int .i64 (u))).setCell ⟨w.heap.size + 1 + 1 + 1, 2, none⟩ (.string ⟨#[]⟩)) = W2 at HV2 HZ2 HB2 ⊢
  obtain ⟨d0, d1, d2⟩ := box_cells HV2.out
  have h32 : w.heap.size + 1 + 1 + 1 ≠ w.heap.size + 1 + 1 := by omega
  clear v0 v1 v2 g0 g1 g2
  go_region_held3 (fun w' => w'.cell? ⟨w.heap.size + 1 + 1 + 1, 0, none⟩ = some (.int .i64 2) ∧ w'.cell? ⟨w.heap.size + 1 + 1 + 1, 1, none⟩ = some (.int .i64 (u)) ∧ w'.cell? ⟨w.heap.size + 1 + 1 + 1, 2, none⟩ = some (.string ⟨#[]⟩)) (first | exact ⟨d0, d1, d2⟩ | exact ⟨e0, e1, e2⟩ | exact box_cells (put_other HE3.out h32 _ _ _)) (first | (go_at_call 31; refine (validValueR_any ⟨2, u, ⟨#[]⟩⟩ _).mono ?_; rintro e w3 ⟨rfl, hb3⟩; rw [← HR.out]; have HB3 := Lib.hid (HB2.out.drew.trans (hb3.mono HB2.out.size)); have HE3 := Lib.hid (kept_box (show W2.drew.heap[w.heap.size + 1 + 1 + 1]? = _ from HV2.out) hb3); obtain ⟨e0, e1, e2⟩ := box_cells HE3.out; have HZ3 := Lib.hid (kept_box (show W2.drew.heap[w.heap.size + 1 + 1]? = _ from HZ2.out) hb3); obtain ⟨z0, z1, z2⟩ := box_cells HZ3.out; have q0 := Lib.frozen_of_heap HZ3.out 0; have q1 := Lib.frozen_of_heap HZ3.out 1; have q2 := Lib.frozen_of_heap HZ3.out 2; clear hb3))
  all_goals
    go_wp2_with fail
    obtain ⟨o0, o1, o2⟩ := set3 z0 z1 z2 (.int .i64 2) (.int .i64 (u)) (.string ⟨#[]⟩)
    exact bodyPost_ret (v := .tuple #[.agg #[.int .i64 2, .int .i64 (u), .string ⟨#[]⟩], .bool r]) (by simp [results, Tryz.results119, go_sem, o0, o1, o2]) rfl ⟨rfl, put_below HB3.out (by omega) _ _ _⟩

set_option maxRecDepth 100000 in
set_option maxHeartbeats 4000000 in
theorem apply13k (xk xn : Int) (xs : ByteArray) (yk yn : Int) (ys : ByteArray) (w : World) (hx : Pl.Mid 60 ⟨xk, xn, xs⟩) (hy : Pl.Mid 60 ⟨yk, yn, ys⟩) (u : Int) (hk : (xk == yk) = false) (hu : Hid (u = if false then 1 else 0)) : Calls Tryz.prog 119 #[.int .i64 13, .agg #[.int .i64 xk, .int .i64 xn, .string xs], .agg #[.int .i64 yk, .int .i64 yn, .string ys]] w (ApPost ⟨2, u, ⟨#[]⟩⟩ w) := by
  obtain ⟨⟨x0, x1⟩, x2⟩ := hx
  obtain ⟨⟨y0, y1⟩, y2⟩ := hy
  dsimp only at x0 x1 x2 y0 y1 y2
  obtain ⟨r, hr⟩ : ∃ r, r = Pl.validV ⟨2, u, ⟨#[]⟩⟩ := ⟨_, rfl⟩
  have HR := Lib.hid hr
  have H5 := world5 w (.cells #[.int .i64 xk, .int .i64 xn, .string xs] 48) (.cells #[.int .i64 yk, .int .i64 yn, .string ys] 48) (.cells #[.int .i64 0, .int .i64 0, .string ⟨#[]⟩] 48) (.cells #[.int .i64 0, .int .i64 0, .string ⟨#[]⟩] 48) _ rfl
  unfold ApPost Tm.agg
  rw [← hr]
  clear hr
  go_enter Tryz.func119, Tryz.ntmps119
  go_wp2_with fail
  generalize (((w.alloc (.cells #[.int .i64 xk, .int .i64 xn, .string xs] 48)).alloc (.cells #[.int .i64 yk, .int .i64 yn, .string ys] 48)).alloc (.cells #[.int .i64 0, .int .i64 0, .string ⟨#[]⟩] 48)).alloc (.cells #[.int .i64 0, .int .i64 0, .string ⟨#[]⟩] 48) = W at H5 ⊢
  obtain ⟨hs, hx', hy', hz', hv', hB⟩ := H5
  have HB := Lib.hid hB
  have HS := Lib.hid hs
  refine (truth3 false u _ hu).mono ?_
  rintro e w1 ⟨rfl, hb⟩
  have HB1 := Lib.hid (HB.out.trans (hb.mono HB.out.size))
  have HV1 := Lib.hid (kept_box hv' hb)
  have HZ1 := Lib.hid (kept_box hz' hb)
  obtain ⟨v0, v1, v2⟩ := box_cells HV1.out
  have g0 := Lib.frozen_of_heap HV1.out 0
  have g1 := Lib.frozen_of_heap HV1.out 1
  have g2 := Lib.frozen_of_heap HV1.out 2
  clear hb hB hs hx' hy' hz' hv'
  go_wp2_with fail
  have HV2 := Lib.hid (put_same HV1.out (.int .i64 2) (.int .i64 (u)) (.string ⟨#[]⟩))
  have HZ2 := Lib.hid (put_other (g := w.heap.size + 1 + 1 + 1) HZ1.out (by omega) (.int .i64 2) (.int .i64 (u)) (.string ⟨#[]⟩))
  have HB2 := Lib.hid (put_below (g := w.heap.size + 1 + 1 + 1) HB1.out (by omega) (.int .i64 2) (.int .i64 (u)) (.string ⟨#[]⟩))
  generalize (((w1.setCell ⟨w.heap.size + 1 + 1 + 1, 0, none⟩ (.int .i64 2)).setCell ⟨w.heap.size + 1 + 1 + 1, 1, none⟩ (.int .i64 (u))).setCell ⟨w.heap.size + 1 + 1 + 1, 2, none⟩ (.string ⟨#[]⟩)) = W2 at HV2 HZ2 HB2 ⊢
  obtain ⟨d0, d1, d2⟩ := box_cells HV2.out
  have h32 : w.heap.size + 1 + 1 + 1 ≠ w.heap.size + 1 + 1 := by omega
  clear v0 v1 v2 g0 g1 g2
  go_region_held3 (fun w' => w'.cell? ⟨w.heap.size + 1 + 1 + 1, 0, none⟩ = some (.int .i64 2) ∧ w'.cell? ⟨w.heap.size + 1 + 1 + 1, 1, none⟩ = some (.int .i64 (u)) ∧ w'.cell? ⟨w.heap.size + 1 + 1 + 1, 2, none⟩ = some (.string ⟨#[]⟩)) (first | exact ⟨d0, d1, d2⟩ | exact ⟨e0, e1, e2⟩ | exact box_cells (put_other HE3.out h32 _ _ _)) (first | (go_at_call 31; refine (validValueR_any ⟨2, u, ⟨#[]⟩⟩ _).mono ?_; rintro e w3 ⟨rfl, hb3⟩; rw [← HR.out]; have HB3 := Lib.hid (HB2.out.drew.trans (hb3.mono HB2.out.size)); have HE3 := Lib.hid (kept_box (show W2.drew.heap[w.heap.size + 1 + 1 + 1]? = _ from HV2.out) hb3); obtain ⟨e0, e1, e2⟩ := box_cells HE3.out; have HZ3 := Lib.hid (kept_box (show W2.drew.heap[w.heap.size + 1 + 1]? = _ from HZ2.out) hb3); obtain ⟨z0, z1, z2⟩ := box_cells HZ3.out; have q0 := Lib.frozen_of_heap HZ3.out 0; have q1 := Lib.frozen_of_heap HZ3.out 1; have q2 := Lib.frozen_of_heap HZ3.out 2; clear hb3))
  all_goals
    go_wp2_with fail
    obtain ⟨o0, o1, o2⟩ := set3 z0 z1 z2 (.int .i64 2) (.int .i64 (u)) (.string ⟨#[]⟩)
    exact bodyPost_ret (v := .tuple #[.agg #[.int .i64 2, .int .i64 (u), .string ⟨#[]⟩], .bool r]) (by simp [results, Tryz.results119, go_sem, o0, o1, o2]) rfl ⟨rfl, put_below HB3.out (by omega) _ _ _⟩

set_option maxRecDepth 100000 in
set_option maxHeartbeats 4000000 in
theorem apply13n (xk xn : Int) (xs : ByteArray) (yk yn : Int) (ys : ByteArray) (w : World) (hx : Pl.Mid 60 ⟨xk, xn, xs⟩) (hy : Pl.Mid 60 ⟨yk, yn, ys⟩) (u : Int) (hk : xk = yk) (hn : (xn == yn) = false) (hu : Hid (u = if false then 1 else 0)) : Calls Tryz.prog 119 #[.int .i64 13, .agg #[.int .i64 xk, .int .i64 xn, .string xs], .agg #[.int .i64 yk, .int .i64 yn, .string ys]] w (ApPost ⟨2, u, ⟨#[]⟩⟩ w) := by
  obtain ⟨⟨x0, x1⟩, x2⟩ := hx
  obtain ⟨⟨y0, y1⟩, y2⟩ := hy
  dsimp only at x0 x1 x2 y0 y1 y2
  obtain ⟨r, hr⟩ : ∃ r, r = Pl.validV ⟨2, u, ⟨#[]⟩⟩ := ⟨_, rfl⟩
  have HR := Lib.hid hr
  have H5 := world5 w (.cells #[.int .i64 xk, .int .i64 xn, .string xs] 48) (.cells #[.int .i64 yk, .int .i64 yn, .string ys] 48) (.cells #[.int .i64 0, .int .i64 0, .string ⟨#[]⟩] 48) (.cells #[.int .i64 0, .int .i64 0, .string ⟨#[]⟩] 48) _ rfl
  unfold ApPost Tm.agg
  rw [← hr]
  clear hr
  subst hk
  go_enter Tryz.func119, Tryz.ntmps119
  go_wp2_with fail
  generalize (((w.alloc (.cells #[.int .i64 xk, .int .i64 xn, .string xs] 48)).alloc (.cells #[.int .i64 xk, .int .i64 yn, .string ys] 48)).alloc (.cells #[.int .i64 0, .int .i64 0, .string ⟨#[]⟩] 48)).alloc (.cells #[.int .i64 0, .int .i64 0, .string ⟨#[]⟩] 48) = W at H5 ⊢
  obtain ⟨hs, hx', hy', hz', hv', hB⟩ := H5
  have HB := Lib.hid hB
  have HS := Lib.hid hs
  refine (truth3 false u _ hu).mono ?_
  rintro e w1 ⟨rfl, hb⟩
  have HB1 := Lib.hid (HB.out.trans (hb.mono HB.out.size))
  have HV1 := Lib.hid (kept_box hv' hb)
  have HZ1 := Lib.hid (kept_box hz' hb)
  obtain ⟨v0, v1, v2⟩ := box_cells HV1.out
  have g0 := Lib.frozen_of_heap HV1.out 0
  have g1 := Lib.frozen_of_heap HV1.out 1
  have g2 := Lib.frozen_of_heap HV1.out 2
  clear hb hB hs hx' hy' hz' hv'
  go_wp2_with fail
  have HV2 := Lib.hid (put_same HV1.out (.int .i64 2) (.int .i64 (u)) (.string ⟨#[]⟩))
  have HZ2 := Lib.hid (put_other (g := w.heap.size + 1 + 1 + 1) HZ1.out (by omega) (.int .i64 2) (.int .i64 (u)) (.string ⟨#[]⟩))
  have HB2 := Lib.hid (put_below (g := w.heap.size + 1 + 1 + 1) HB1.out (by omega) (.int .i64 2) (.int .i64 (u)) (.string ⟨#[]⟩))
  generalize (((w1.setCell ⟨w.heap.size + 1 + 1 + 1, 0, none⟩ (.int .i64 2)).setCell ⟨w.heap.size + 1 + 1 + 1, 1, none⟩ (.int .i64 (u))).setCell ⟨w.heap.size + 1 + 1 + 1, 2, none⟩ (.string ⟨#[]⟩)) = W2 at HV2 HZ2 HB2 ⊢
  obtain ⟨d0, d1, d2⟩ := box_cells HV2.out
  have h32 : w.heap.size + 1 + 1 + 1 ≠ w.heap.size + 1 + 1 := by omega
  clear v0 v1 v2 g0 g1 g2
  go_region_held3 (fun w' => w'.cell? ⟨w.heap.size + 1 + 1 + 1, 0, none⟩ = some (.int .i64 2) ∧ w'.cell? ⟨w.heap.size + 1 + 1 + 1, 1, none⟩ = some (.int .i64 (u)) ∧ w'.cell? ⟨w.heap.size + 1 + 1 + 1, 2, none⟩ = some (.string ⟨#[]⟩)) (first | exact ⟨d0, d1, d2⟩ | exact ⟨e0, e1, e2⟩ | exact box_cells (put_other HE3.out h32 _ _ _)) (first | (go_at_call 31; refine (validValueR_any ⟨2, u, ⟨#[]⟩⟩ _).mono ?_; rintro e w3 ⟨rfl, hb3⟩; rw [← HR.out]; have HB3 := Lib.hid (HB2.out.drew.trans (hb3.mono HB2.out.size)); have HE3 := Lib.hid (kept_box (show W2.drew.heap[w.heap.size + 1 + 1 + 1]? = _ from HV2.out) hb3); obtain ⟨e0, e1, e2⟩ := box_cells HE3.out; have HZ3 := Lib.hid (kept_box (show W2.drew.heap[w.heap.size + 1 + 1]? = _ from HZ2.out) hb3); obtain ⟨z0, z1, z2⟩ := box_cells HZ3.out; have q0 := Lib.frozen_of_heap HZ3.out 0; have q1 := Lib.frozen_of_heap HZ3.out 1; have q2 := Lib.frozen_of_heap HZ3.out 2; clear hb3))
  all_goals
    go_wp2_with fail
    obtain ⟨o0, o1, o2⟩ := set3 z0 z1 z2 (.int .i64 2) (.int .i64 (u)) (.string ⟨#[]⟩)
    exact bodyPost_ret (v := .tuple #[.agg #[.int .i64 2, .int .i64 (u), .string ⟨#[]⟩], .bool r]) (by simp [results, Tryz.results119, go_sem, o0, o1, o2]) rfl ⟨rfl, put_below HB3.out (by omega) _ _ _⟩

set_option maxRecDepth 100000 in
set_option maxHeartbeats 4000000 in
theorem apply13s (xk xn : Int) (xs : ByteArray) (yk yn : Int) (ys : ByteArray) (w : World) (hx : Pl.Mid 60 ⟨xk, xn, xs⟩) (hy : Pl.Mid 60 ⟨yk, yn, ys⟩) (u : Int) (hk : xk = yk) (hn : xn = yn) (hs0 : (xs.toList == ys.toList) = false) (hu : Hid (u = if false then 1 else 0)) : Calls Tryz.prog 119 #[.int .i64 13, .agg #[.int .i64 xk, .int .i64 xn, .string xs], .agg #[.int .i64 yk, .int .i64 yn, .string ys]] w (ApPost ⟨2, u, ⟨#[]⟩⟩ w) := by
  obtain ⟨⟨x0, x1⟩, x2⟩ := hx
  obtain ⟨⟨y0, y1⟩, y2⟩ := hy
  dsimp only at x0 x1 x2 y0 y1 y2
  obtain ⟨r, hr⟩ : ∃ r, r = Pl.validV ⟨2, u, ⟨#[]⟩⟩ := ⟨_, rfl⟩
  have HR := Lib.hid hr
  have H5 := world5 w (.cells #[.int .i64 xk, .int .i64 xn, .string xs] 48) (.cells #[.int .i64 yk, .int .i64 yn, .string ys] 48) (.cells #[.int .i64 0, .int .i64 0, .string ⟨#[]⟩] 48) (.cells #[.int .i64 0, .int .i64 0, .string ⟨#[]⟩] 48) _ rfl
  unfold ApPost Tm.agg
  rw [← hr]
  clear hr
  subst hk hn
  go_enter Tryz.func119, Tryz.ntmps119
  go_wp2_with fail
  generalize (((w.alloc (.cells #[.int .i64 xk, .int .i64 xn, .string xs] 48)).alloc (.cells #[.int .i64 xk, .int .i64 xn, .string ys] 48)).alloc (.cells #[.int .i64 0, .int .i64 0, .string ⟨#[]⟩] 48)).alloc (.cells #[.int .i64 0, .int .i64 0, .string ⟨#[]⟩] 48) = W at H5 ⊢
  obtain ⟨hs, hx', hy', hz', hv', hB⟩ := H5
  have HB := Lib.hid hB
  have HS := Lib.hid hs
  refine (truth3 false u _ hu).mono ?_
  rintro e w1 ⟨rfl, hb⟩
  have HB1 := Lib.hid (HB.out.trans (hb.mono HB.out.size))
  have HV1 := Lib.hid (kept_box hv' hb)
  have HZ1 := Lib.hid (kept_box hz' hb)
  obtain ⟨v0, v1, v2⟩ := box_cells HV1.out
  have g0 := Lib.frozen_of_heap HV1.out 0
  have g1 := Lib.frozen_of_heap HV1.out 1
  have g2 := Lib.frozen_of_heap HV1.out 2
  clear hb hB hs hx' hy' hz' hv'
  go_wp2_with fail
  have HV2 := Lib.hid (put_same HV1.out (.int .i64 2) (.int .i64 (u)) (.string ⟨#[]⟩))
  have HZ2 := Lib.hid (put_other (g := w.heap.size + 1 + 1 + 1) HZ1.out (by omega) (.int .i64 2) (.int .i64 (u)) (.string ⟨#[]⟩))
  have HB2 := Lib.hid (put_below (g := w.heap.size + 1 + 1 + 1) HB1.out (by omega) (.int .i64 2) (.int .i64 (u)) (.string ⟨#[]⟩))
  generalize (((w1.setCell ⟨w.heap.size + 1 + 1 + 1, 0, none⟩ (.int .i64 2)).setCell ⟨w.heap.size + 1 + 1 + 1, 1, none⟩ (.int .i64 (u))).setCell ⟨w.heap.size + 1 + 1 + 1, 2, none⟩ (.string ⟨#[]⟩)) = W2 at HV2 HZ2 HB2 ⊢
  obtain ⟨d0, d1, d2⟩ := box_cells HV2.out
  have h32 : w.heap.size + 1 + 1 + 1 ≠ w.heap.size + 1 + 1 := by omega
  clear v0 v1 v2 g0 g1 g2
  go_region_held3 (fun w' => w'.cell? ⟨w.heap.size + 1 + 1 + 1, 0, none⟩ = some (.int .i64 2) ∧ w'.cell? ⟨w.heap.size + 1 + 1 + 1, 1, none⟩ = some (.int .i64 (u)) ∧ w'.cell? ⟨w.heap.size + 1 + 1 + 1, 2, none⟩ = some (.string ⟨#[]⟩)) (first | exact ⟨d0, d1, d2⟩ | exact ⟨e0, e1, e2⟩ | exact box_cells (put_other HE3.out h32 _ _ _)) (first | (go_at_call 31; refine (validValueR_any ⟨2, u, ⟨#[]⟩⟩ _).mono ?_; rintro e w3 ⟨rfl, hb3⟩; rw [← HR.out]; have HB3 := Lib.hid (HB2.out.drew.trans (hb3.mono HB2.out.size)); have HE3 := Lib.hid (kept_box (show W2.drew.heap[w.heap.size + 1 + 1 + 1]? = _ from HV2.out) hb3); obtain ⟨e0, e1, e2⟩ := box_cells HE3.out; have HZ3 := Lib.hid (kept_box (show W2.drew.heap[w.heap.size + 1 + 1]? = _ from HZ2.out) hb3); obtain ⟨z0, z1, z2⟩ := box_cells HZ3.out; have q0 := Lib.frozen_of_heap HZ3.out 0; have q1 := Lib.frozen_of_heap HZ3.out 1; have q2 := Lib.frozen_of_heap HZ3.out 2; clear hb3))
  all_goals
    go_wp2_with fail
    obtain ⟨o0, o1, o2⟩ := set3 z0 z1 z2 (.int .i64 2) (.int .i64 (u)) (.string ⟨#[]⟩)
    exact bodyPost_ret (v := .tuple #[.agg #[.int .i64 2, .int .i64 (u), .string ⟨#[]⟩], .bool r]) (by simp [results, Tryz.results119, go_sem, o0, o1, o2]) rfl ⟨rfl, put_below HB3.out (by omega) _ _ _⟩

set_option maxRecDepth 100000 in
set_option maxHeartbeats 4000000 in
theorem apply8 (xk xn : Int) (xs : ByteArray) (yk yn : Int) (ys : ByteArray) (w : World) (hx : Pl.Mid 60 ⟨xk, xn, xs⟩) (hy : Pl.Mid 60 ⟨yk, yn, ys⟩) : Calls Tryz.prog 119 #[.int .i64 8, .agg #[.int .i64 xk, .int .i64 xn, .string xs], .agg #[.int .i64 yk, .int .i64 yn, .string ys]] w (ApPost ⟨xk, xn + yn, (xs ++ ys)⟩ w) := by
  obtain ⟨⟨x0, x1⟩, x2⟩ := hx
  obtain ⟨⟨y0, y1⟩, y2⟩ := hy
  dsimp only at x0 x1 x2 y0 y1 y2
  obtain ⟨r, hr⟩ : ∃ r, r = Pl.validV ⟨xk, xn + yn, (xs ++ ys)⟩ := ⟨_, rfl⟩
  have HR := Lib.hid hr
  have H5 := world5 w (.cells #[.int .i64 xk, .int .i64 xn, .string xs] 48) (.cells #[.int .i64 yk, .int .i64 yn, .string ys] 48) (.cells #[.int .i64 0, .int .i64 0, .string ⟨#[]⟩] 48) (.cells #[.int .i64 0, .int .i64 0, .string ⟨#[]⟩] 48) _ rfl
  unfold ApPost Tm.agg
  rw [← hr]
  clear hr
  have hsz : (xs ++ ys).size = xs.size + ys.size := ByteArray.size_append
  have H8 := world5 w (.cells #[.int .i64 xk, .int .i64 xn, .string xs] 48) (.cells #[.int .i64 yk, .int .i64 yn, .string ys] 48) (.cells #[.int .i64 0, .int .i64 0, .string ⟨#[]⟩] 48) (.cells #[.int .i64 xk, .int .i64 (xn + yn), .string (xs ++ ys)] 48) _ rfl
  clear H5
  go_enter Tryz.func119, Tryz.ntmps119
  go_wp2_with fail
  generalize (((w.alloc (.cells #[.int .i64 xk, .int .i64 xn, .string xs] 48)).alloc (.cells #[.int .i64 yk, .int .i64 yn, .string ys] 48)).alloc (.cells #[.int .i64 0, .int .i64 0, .string ⟨#[]⟩] 48)).alloc (.cells #[.int .i64 xk, .int .i64 (xn + yn), .string (xs ++ ys)] 48) = W2 at H8 ⊢
  obtain ⟨hs, hx', hy', hz', hv', hB⟩ := H8
  have HB2 := Lib.hid hB
  have HV2 := Lib.hid hv'
  have HZ2 := Lib.hid hz'
  clear hB hs hx' hy' hz' hv'
  obtain ⟨d0, d1, d2⟩ := box_cells HV2.out
  have h32 : w.heap.size + 1 + 1 + 1 ≠ w.heap.size + 1 + 1 := by omega
  go_region_held3 (fun w' => w'.cell? ⟨w.heap.size + 1 + 1 + 1, 0, none⟩ = some (.int .i64 xk) ∧ w'.cell? ⟨w.heap.size + 1 + 1 + 1, 1, none⟩ = some (.int .i64 (xn + yn)) ∧ w'.cell? ⟨w.heap.size + 1 + 1 + 1, 2, none⟩ = some (.string (xs ++ ys))) (first | exact ⟨d0, d1, d2⟩ | exact ⟨e0, e1, e2⟩ | exact box_cells (put_other HE3.out h32 _ _ _)) (first | (go_at_call 31; refine (validValueR_any ⟨xk, xn + yn, (xs ++ ys)⟩ _).mono ?_; rintro e w3 ⟨rfl, hb3⟩; rw [← HR.out]; have HB3 := Lib.hid (HB2.out.drew.trans (hb3.mono HB2.out.size)); have HE3 := Lib.hid (kept_box (show W2.drew.heap[w.heap.size + 1 + 1 + 1]? = _ from HV2.out) hb3); obtain ⟨e0, e1, e2⟩ := box_cells HE3.out; have HZ3 := Lib.hid (kept_box (show W2.drew.heap[w.heap.size + 1 + 1]? = _ from HZ2.out) hb3); obtain ⟨z0, z1, z2⟩ := box_cells HZ3.out; have q0 := Lib.frozen_of_heap HZ3.out 0; have q1 := Lib.frozen_of_heap HZ3.out 1; have q2 := Lib.frozen_of_heap HZ3.out 2; clear hb3))
  all_goals
    go_wp2_with fail
    obtain ⟨o0, o1, o2⟩ := set3 z0 z1 z2 (.int .i64 xk) (.int .i64 (xn + yn)) (.string (xs ++ ys))
    exact bodyPost_ret (v := .tuple #[.agg #[.int .i64 xk, .int .i64 (xn + yn), .string (xs ++ ys)], .bool r]) (by simp [results, Tryz.results119, go_sem, o0, o1, o2]) rfl ⟨rfl, put_below HB3.out (by omega) _ _ _⟩

set_option maxRecDepth 100000 in
set_option maxHeartbeats 4000000 in
theorem apply11z (xk xn : Int) (xs : ByteArray) (yk yn : Int) (ys : ByteArray) (w : World) (hx : Pl.Mid 60 ⟨xk, xn, xs⟩) (hy : Pl.Mid 60 ⟨yk, yn, ys⟩) (h0 : (yn == 0) = true) : Calls Tryz.prog 119 #[.int .i64 11, .agg #[.int .i64 xk, .int .i64 xn, .string xs], .agg #[.int .i64 yk, .int .i64 yn, .string ys]] w (ApPost ⟨0, 0, ⟨#[]⟩⟩ w) := by
  obtain ⟨⟨x0, x1⟩, x2⟩ := hx
  obtain ⟨⟨y0, y1⟩, y2⟩ := hy
  dsimp only at x0 x1 x2 y0 y1 y2
  obtain ⟨r, hr⟩ : ∃ r, r = Pl.validV ⟨0, 0, ⟨#[]⟩⟩ := ⟨_, rfl⟩
  have HR := Lib.hid hr
  have H5 := world5 w (.cells #[.int .i64 xk, .int .i64 xn, .string xs] 48) (.cells #[.int .i64 yk, .int .i64 yn, .string ys] 48) (.cells #[.int .i64 0, .int .i64 0, .string ⟨#[]⟩] 48) (.cells #[.int .i64 0, .int .i64 0, .string ⟨#[]⟩] 48) _ rfl
  unfold ApPost Tm.agg
  rw [← hr]
  clear hr
  go_enter Tryz.func119, Tryz.ntmps119
  go_wp2_with fail
  obtain ⟨hs, hx', hy', hz', hv', hB⟩ := H5
  exact bodyPost_ret (v := .tuple #[.agg #[.int .i64 0, .int .i64 0, .string ⟨#[]⟩], .bool false]) (by simp [results, Tryz.results119, go_sem]) rfl ⟨by rw [HR.out]; rfl, hB⟩

set_option maxRecDepth 100000 in
set_option maxHeartbeats 4000000 in
theorem apply12z (xk xn : Int) (xs : ByteArray) (yk yn : Int) (ys : ByteArray) (w : World) (hx : Pl.Mid 60 ⟨xk, xn, xs⟩) (hy : Pl.Mid 60 ⟨yk, yn, ys⟩) (h0 : (yn == 0) = true) : Calls Tryz.prog 119 #[.int .i64 12, .agg #[.int .i64 xk, .int .i64 xn, .string xs], .agg #[.int .i64 yk, .int .i64 yn, .string ys]] w (ApPost ⟨0, 0, ⟨#[]⟩⟩ w) := by
  obtain ⟨⟨x0, x1⟩, x2⟩ := hx
  obtain ⟨⟨y0, y1⟩, y2⟩ := hy
  dsimp only at x0 x1 x2 y0 y1 y2
  obtain ⟨r, hr⟩ : ∃ r, r = Pl.validV ⟨0, 0, ⟨#[]⟩⟩ := ⟨_, rfl⟩
  have HR := Lib.hid hr
  have H5 := world5 w (.cells #[.int .i64 xk, .int .i64 xn, .string xs] 48) (.cells #[.int .i64 yk, .int .i64 yn, .string ys] 48) (.cells #[.int .i64 0, .int .i64 0, .string ⟨#[]⟩] 48) (.cells #[.int .i64 0, .int .i64 0, .string ⟨#[]⟩] 48) _ rfl
  unfold ApPost Tm.agg
  rw [← hr]
  clear hr
  go_enter Tryz.func119, Tryz.ntmps119
  go_wp2_with fail
  obtain ⟨hs, hx', hy', hz', hv', hB⟩ := H5
  exact bodyPost_ret (v := .tuple #[.agg #[.int .i64 0, .int .i64 0, .string ⟨#[]⟩], .bool false]) (by simp [results, Tryz.results119, go_sem]) rfl ⟨by rw [HR.out]; rfl, hB⟩

set_option maxRecDepth 100000 in
set_option maxHeartbeats 4000000 in
theorem apply12 (xk xn : Int) (xs : ByteArray) (yk yn : Int) (ys : ByteArray) (w : World) (hx : Pl.Mid 60 ⟨xk, xn, xs⟩) (hy : Pl.Mid 60 ⟨yk, yn, ys⟩) (z : Int) (hz : Hid (z = Pl.flr xn yn)) (h0 : (yn == 0) = false) : Calls Tryz.prog 119 #[.int .i64 12, .agg #[.int .i64 xk, .int .i64 xn, .string xs], .agg #[.int .i64 yk, .int .i64 yn, .string ys]] w (ApPost ⟨1, z, ⟨#[]⟩⟩ w) := by
  obtain ⟨⟨x0, x1⟩, x2⟩ := hx
  obtain ⟨⟨y0, y1⟩, y2⟩ := hy
  dsimp only at x0 x1 x2 y0 y1 y2
  obtain ⟨r, hr⟩ : ∃ r, r = Pl.validV ⟨1, z, ⟨#[]⟩⟩ := ⟨_, rfl⟩
  have HR := Lib.hid hr
  have H5 := world5 w (.cells #[.int .i64 xk, .int .i64 xn, .string xs] 48) (.cells #[.int .i64 yk, .int .i64 yn, .string ys] 48) (.cells #[.int .i64 0, .int .i64 0, .string ⟨#[]⟩] 48) (.cells #[.int .i64 0, .int .i64 0, .string ⟨#[]⟩] 48) _ rfl
  unfold ApPost Tm.agg
  rw [← hr]
  clear hr
  have hne : yn ≠ 0 := by simpa using h0
  obtain ⟨q, hq⟩ : ∃ q, q = Pl.flq xn yn := ⟨_, rfl⟩
  obtain ⟨P, hP⟩ : ∃ P, P = yn * q := ⟨_, rfl⟩
  have hz2 : z = xn - P := by rw [hz.out, hP, hq]; rfl
  have hza := Pl.flr_abs xn yn hne
  rw [← hz.out] at hza
  have hw1 : IntKind.i64.wrap (yn * q) = P := by rw [← hP, IntKind.wrap_i64]; omega
  have hw2 : IntKind.i64.wrap (xn - P) = z := by rw [IntKind.wrap_i64]; omega
  have HQ := Lib.hid hq
  have HD : Hid (∀ w3 : World, Calls Tryz.prog 140 #[.int .i64 xn, .int .i64 yn] w3 fun e w' => e = .returned (.int .i64 q) ∧ w' = w3) := Lib.hid (by
    intro w3
    refine (divided_any xn yn w3 (by omega) (by omega) hne (by omega) (by omega)).mono ?_
    rintro e w' ⟨rfl, rfl⟩
    rw [← HQ.out]
    exact ⟨rfl, rfl⟩)
  clear hq hP hz2 hza hne
  go_enter Tryz.func119, Tryz.ntmps119
  go_wp2_with fail
  generalize (((w.alloc (.cells #[.int .i64 xk, .int .i64 xn, .string xs] 48)).alloc (.cells #[.int .i64 yk, .int .i64 yn, .string ys] 48)).alloc (.cells #[.int .i64 0, .int .i64 0, .string ⟨#[]⟩] 48)).alloc (.cells #[.int .i64 0, .int .i64 0, .string ⟨#[]⟩] 48) = W at H5 ⊢
  obtain ⟨hs, hx', hy', hz', hv', hB⟩ := H5
  have HB := Lib.hid hB
  have HS := Lib.hid hs
  obtain ⟨a0, a1, a2⟩ := box_cells hx'
  obtain ⟨c0, c1, c2⟩ := box_cells hy'
  go_still_tail 11, (by kernel_rfl)
  repeat (first | still_call (HD.out _) | still_step)
  refine wpStill_nil ?_
  change wpList _ _ _ _ _ W.drew
  go_wp2_with fail
  replace hv' : W.drew.heap[w.heap.size + 1 + 1 + 1]? = _ := hv'
  replace hz' : W.drew.heap[w.heap.size + 1 + 1]? = _ := hz'
  replace HB : Hid (Below w.heap.size w W.drew) := Lib.hid HB.out.drew
  refine (count_is z _).mono ?_
  rintro e w1 ⟨rfl, hb⟩
  have HB1 := Lib.hid (HB.out.trans (hb.mono HB.out.size))
  have HV1 := Lib.hid (kept_box hv' hb)
  have HZ1 := Lib.hid (kept_box hz' hb)
  obtain ⟨v0, v1, v2⟩ := box_cells HV1.out
  have g0 := Lib.frozen_of_heap HV1.out 0
  have g1 := Lib.frozen_of_heap HV1.out 1
  have g2 := Lib.frozen_of_heap HV1.out 2
  clear hb hB hs hx' hy' hz' hv'
  go_wp2_with fail
  have HV2 := Lib.hid (put_same HV1.out (.int .i64 1) (.int .i64 (z)) (.string ⟨#[]⟩))
  have HZ2 := Lib.hid (put_other (g := w.heap.size + 1 + 1 + 1) HZ1.out (by omega) (.int .i64 1) (.int .i64 (z)) (.string ⟨#[]⟩))
  have HB2 := Lib.hid (put_below (g := w.heap.size + 1 + 1 + 1) HB1.out (by omega) (.int .i64 1) (.int .i64 (z)) (.string ⟨#[]⟩))
  generalize (((w1.setCell ⟨w.heap.size + 1 + 1 + 1, 0, none⟩ (.int .i64 1)).setCell ⟨w.heap.size + 1 + 1 + 1, 1, none⟩ (.int .i64 (z))).setCell ⟨w.heap.size + 1 + 1 + 1, 2, none⟩ (.string ⟨#[]⟩)) = W2 at HV2 HZ2 HB2 ⊢
  obtain ⟨d0, d1, d2⟩ := box_cells HV2.out
  have h32 : w.heap.size + 1 + 1 + 1 ≠ w.heap.size + 1 + 1 := by omega
  clear v0 v1 v2 g0 g1 g2
  go_region_held3 (fun w' => w'.cell? ⟨w.heap.size + 1 + 1 + 1, 0, none⟩ = some (.int .i64 1) ∧ w'.cell? ⟨w.heap.size + 1 + 1 + 1, 1, none⟩ = some (.int .i64 (z)) ∧ w'.cell? ⟨w.heap.size + 1 + 1 + 1, 2, none⟩ = some (.string ⟨#[]⟩)) (first | exact ⟨d0, d1, d2⟩ | exact ⟨e0, e1, e2⟩ | exact box_cells (put_other HE3.out h32 _ _ _)) (first | (go_at_call 31; refine (validValueR_any ⟨1, z, ⟨#[]⟩⟩ _).mono ?_; rintro e w3 ⟨rfl, hb3⟩; rw [← HR.out]; have HB3 := Lib.hid (HB2.out.drew.trans (hb3.mono HB2.out.size)); have HE3 := Lib.hid (kept_box (show W2.drew.heap[w.heap.size + 1 + 1 + 1]? = _ from HV2.out) hb3); obtain ⟨e0, e1, e2⟩ := box_cells HE3.out; have HZ3 := Lib.hid (kept_box (show W2.drew.heap[w.heap.size + 1 + 1]? = _ from HZ2.out) hb3); obtain ⟨z0, z1, z2⟩ := box_cells HZ3.out; have q0 := Lib.frozen_of_heap HZ3.out 0; have q1 := Lib.frozen_of_heap HZ3.out 1; have q2 := Lib.frozen_of_heap HZ3.out 2; clear hb3))
  all_goals
    go_wp2_with fail
    obtain ⟨o0, o1, o2⟩ := set3 z0 z1 z2 (.int .i64 1) (.int .i64 (z)) (.string ⟨#[]⟩)
    exact bodyPost_ret (v := .tuple #[.agg #[.int .i64 1, .int .i64 (z), .string ⟨#[]⟩], .bool r]) (by simp [results, Tryz.results119, go_sem, o0, o1, o2]) rfl ⟨rfl, put_below HB3.out (by omega) _ _ _⟩

set_option maxRecDepth 100000 in
set_option maxHeartbeats 4000000 in
theorem apply14a (xk xn : Int) (xs : ByteArray) (yk yn : Int) (ys : ByteArray) (w : World) (hx : Pl.Mid 60 ⟨xk, xn, xs⟩) (hy : Pl.Mid 60 ⟨yk, yn, ys⟩) (h1 : xn < yn) (u : Int) (hu : Hid (u = if true then 1 else 0)) : Calls Tryz.prog 119 #[.int .i64 14, .agg #[.int .i64 xk, .int .i64 xn, .string xs], .agg #[.int .i64 yk, .int .i64 yn, .string ys]] w (ApPost ⟨2, u, ⟨#[]⟩⟩ w) := by
  obtain ⟨⟨x0, x1⟩, x2⟩ := hx
  obtain ⟨⟨y0, y1⟩, y2⟩ := hy
  dsimp only at x0 x1 x2 y0 y1 y2
  obtain ⟨r, hr⟩ : ∃ r, r = Pl.validV ⟨2, u, ⟨#[]⟩⟩ := ⟨_, rfl⟩
  have HR := Lib.hid hr
  have H5 := world5 w (.cells #[.int .i64 xk, .int .i64 xn, .string xs] 48) (.cells #[.int .i64 yk, .int .i64 yn, .string ys] 48) (.cells #[.int .i64 0, .int .i64 0, .string ⟨#[]⟩] 48) (.cells #[.int .i64 0, .int .i64 0, .string ⟨#[]⟩] 48) _ rfl
  unfold ApPost Tm.agg
  rw [← hr]
  clear hr
  go_enter Tryz.func119, Tryz.ntmps119
  go_wp2_with fail
  generalize (((w.alloc (.cells #[.int .i64 xk, .int .i64 xn, .string xs] 48)).alloc (.cells #[.int .i64 yk, .int .i64 yn, .string ys] 48)).alloc (.cells #[.int .i64 0, .int .i64 0, .string ⟨#[]⟩] 48)).alloc (.cells #[.int .i64 0, .int .i64 0, .string ⟨#[]⟩] 48) = W at H5 ⊢
  obtain ⟨hs, hx', hy', hz', hv', hB⟩ := H5
  have HB := Lib.hid hB
  have HS := Lib.hid hs
  refine (truth3 true u _ hu).mono ?_
  rintro e w1 ⟨rfl, hb⟩
  have HB1 := Lib.hid (HB.out.trans (hb.mono HB.out.size))
  have HV1 := Lib.hid (kept_box hv' hb)
  have HZ1 := Lib.hid (kept_box hz' hb)
  obtain ⟨v0, v1, v2⟩ := box_cells HV1.out
  have g0 := Lib.frozen_of_heap HV1.out 0
  have g1 := Lib.frozen_of_heap HV1.out 1
  have g2 := Lib.frozen_of_heap HV1.out 2
  clear hb hB hs hx' hy' hz' hv'
  go_wp2_with fail
  have HV2 := Lib.hid (put_same HV1.out (.int .i64 2) (.int .i64 (u)) (.string ⟨#[]⟩))
  have HZ2 := Lib.hid (put_other (g := w.heap.size + 1 + 1 + 1) HZ1.out (by omega) (.int .i64 2) (.int .i64 (u)) (.string ⟨#[]⟩))
  have HB2 := Lib.hid (put_below (g := w.heap.size + 1 + 1 + 1) HB1.out (by omega) (.int .i64 2) (.int .i64 (u)) (.string ⟨#[]⟩))
  generalize (((w1.setCell ⟨w.heap.size + 1 + 1 + 1, 0, none⟩ (.int .i64 2)).setCell ⟨w.heap.size + 1 + 1 + 1, 1, none⟩ (.int .i64 (u))).setCell ⟨w.heap.size + 1 + 1 + 1, 2, none⟩ (.string ⟨#[]⟩)) = W2 at HV2 HZ2 HB2 ⊢
  obtain ⟨d0, d1, d2⟩ := box_cells HV2.out
  have h32 : w.heap.size + 1 + 1 + 1 ≠ w.heap.size + 1 + 1 := by omega
  clear v0 v1 v2 g0 g1 g2
  go_region_held3 (fun w' => w'.cell? ⟨w.heap.size + 1 + 1 + 1, 0, none⟩ = some (.int .i64 2) ∧ w'.cell? ⟨w.heap.size + 1 + 1 + 1, 1, none⟩ = some (.int .i64 (u)) ∧ w'.cell? ⟨w.heap.size + 1 + 1 + 1, 2, none⟩ = some (.string ⟨#[]⟩)) (first | exact ⟨d0, d1, d2⟩ | exact ⟨e0, e1, e2⟩ | exact box_cells (put_other HE3.out h32 _ _ _)) (first | (go_at_call 31; refine (validValueR_any ⟨2, u, ⟨#[]⟩⟩ _).mono ?_; rintro e w3 ⟨rfl, hb3⟩; rw [← HR.out]; have HB3 := Lib.hid (HB2.out.drew.trans (hb3.mono HB2.out.size)); have HE3 := Lib.hid (kept_box (show W2.drew.heap[w.heap.size + 1 + 1 + 1]? = _ from HV2.out) hb3); obtain ⟨e0, e1, e2⟩ := box_cells HE3.out; have HZ3 := Lib.hid (kept_box (show W2.drew.heap[w.heap.size + 1 + 1]? = _ from HZ2.out) hb3); obtain ⟨z0, z1, z2⟩ := box_cells HZ3.out; have q0 := Lib.frozen_of_heap HZ3.out 0; have q1 := Lib.frozen_of_heap HZ3.out 1; have q2 := Lib.frozen_of_heap HZ3.out 2; clear hb3))
  all_goals
    go_wp2_with fail
    obtain ⟨o0, o1, o2⟩ := set3 z0 z1 z2 (.int .i64 2) (.int .i64 (u)) (.string ⟨#[]⟩)
    exact bodyPost_ret (v := .tuple #[.agg #[.int .i64 2, .int .i64 (u), .string ⟨#[]⟩], .bool r]) (by simp [results, Tryz.results119, go_sem, o0, o1, o2]) rfl ⟨rfl, put_below HB3.out (by omega) _ _ _⟩

set_option maxRecDepth 100000 in
set_option maxHeartbeats 4000000 in
theorem apply14b (xk xn : Int) (xs : ByteArray) (yk yn : Int) (ys : ByteArray) (w : World) (hx : Pl.Mid 60 ⟨xk, xn, xs⟩) (hy : Pl.Mid 60 ⟨yk, yn, ys⟩) (b : Bool) (h1 : ¬ xn < yn) (h2 : Op.bytesLess xs.toList ys.toList = b) (u : Int) (hu : Hid (u = if b then 1 else 0)) : Calls Tryz.prog 119 #[.int .i64 14, .agg #[.int .i64 xk, .int .i64 xn, .string xs], .agg #[.int .i64 yk, .int .i64 yn, .string ys]] w (ApPost ⟨2, u, ⟨#[]⟩⟩ w) := by
  obtain ⟨⟨x0, x1⟩, x2⟩ := hx
  obtain ⟨⟨y0, y1⟩, y2⟩ := hy
  dsimp only at x0 x1 x2 y0 y1 y2
  obtain ⟨r, hr⟩ : ∃ r, r = Pl.validV ⟨2, u, ⟨#[]⟩⟩ := ⟨_, rfl⟩
  have HR := Lib.hid hr
  have H5 := world5 w (.cells #[.int .i64 xk, .int .i64 xn, .string xs] 48) (.cells #[.int .i64 yk, .int .i64 yn, .string ys] 48) (.cells #[.int .i64 0, .int .i64 0, .string ⟨#[]⟩] 48) (.cells #[.int .i64 0, .int .i64 0, .string ⟨#[]⟩] 48) _ rfl
  unfold ApPost Tm.agg
  rw [← hr]
  clear hr
  go_enter Tryz.func119, Tryz.ntmps119
  go_wp2_with fail
  generalize (((w.alloc (.cells #[.int .i64 xk, .int .i64 xn, .string xs] 48)).alloc (.cells #[.int .i64 yk, .int .i64 yn, .string ys] 48)).alloc (.cells #[.int .i64 0, .int .i64 0, .string ⟨#[]⟩] 48)).alloc (.cells #[.int .i64 0, .int .i64 0, .string ⟨#[]⟩] 48) = W at H5 ⊢
  obtain ⟨hs, hx', hy', hz', hv', hB⟩ := H5
  have HB := Lib.hid hB
  have HS := Lib.hid hs
  refine (truth3 b u _ hu).mono ?_
  rintro e w1 ⟨rfl, hb⟩
  have HB1 := Lib.hid (HB.out.trans (hb.mono HB.out.size))
  have HV1 := Lib.hid (kept_box hv' hb)
  have HZ1 := Lib.hid (kept_box hz' hb)
  obtain ⟨v0, v1, v2⟩ := box_cells HV1.out
  have g0 := Lib.frozen_of_heap HV1.out 0
  have g1 := Lib.frozen_of_heap HV1.out 1
  have g2 := Lib.frozen_of_heap HV1.out 2
  clear hb hB hs hx' hy' hz' hv'
  go_wp2_with fail
  have HV2 := Lib.hid (put_same HV1.out (.int .i64 2) (.int .i64 (u)) (.string ⟨#[]⟩))
  have HZ2 := Lib.hid (put_other (g := w.heap.size + 1 + 1 + 1) HZ1.out (by omega) (.int .i64 2) (.int .i64 (u)) (.string ⟨#[]⟩))
  have HB2 := Lib.hid (put_below (g := w.heap.size + 1 + 1 + 1) HB1.out (by omega) (.int .i64 2) (.int .i64 (u)) (.string ⟨#[]⟩))
  generalize (((w1.setCell ⟨w.heap.size + 1 + 1 + 1, 0, none⟩ (.int .i64 2)).setCell ⟨w.heap.size + 1 + 1 + 1, 1, none⟩ (.int .i64 (u))).setCell ⟨w.heap.size + 1 + 1 + 1, 2, none⟩ (.string ⟨#[]⟩)) = W2 at HV2 HZ2 HB2 ⊢
  obtain ⟨d0, d1, d2⟩ := box_cells HV2.out
  have h32 : w.heap.size + 1 + 1 + 1 ≠ w.heap.size + 1 + 1 := by omega
  clear v0 v1 v2 g0 g1 g2
  go_region_held3 (fun w' => w'.cell? ⟨w.heap.size + 1 + 1 + 1, 0, none⟩ = some (.int .i64 2) ∧ w'.cell? ⟨w.heap.size + 1 + 1 + 1, 1, none⟩ = some (.int .i64 (u)) ∧ w'.cell? ⟨w.heap.size + 1 + 1 + 1, 2, none⟩ = some (.string ⟨#[]⟩)) (first | exact ⟨d0, d1, d2⟩ | exact ⟨e0, e1, e2⟩ | exact box_cells (put_other HE3.out h32 _ _ _)) (first | (go_at_call 31; refine (validValueR_any ⟨2, u, ⟨#[]⟩⟩ _).mono ?_; rintro e w3 ⟨rfl, hb3⟩; rw [← HR.out]; have HB3 := Lib.hid (HB2.out.drew.trans (hb3.mono HB2.out.size)); have HE3 := Lib.hid (kept_box (show W2.drew.heap[w.heap.size + 1 + 1 + 1]? = _ from HV2.out) hb3); obtain ⟨e0, e1, e2⟩ := box_cells HE3.out; have HZ3 := Lib.hid (kept_box (show W2.drew.heap[w.heap.size + 1 + 1]? = _ from HZ2.out) hb3); obtain ⟨z0, z1, z2⟩ := box_cells HZ3.out; have q0 := Lib.frozen_of_heap HZ3.out 0; have q1 := Lib.frozen_of_heap HZ3.out 1; have q2 := Lib.frozen_of_heap HZ3.out 2; clear hb3))
  all_goals
    go_wp2_with fail
    obtain ⟨o0, o1, o2⟩ := set3 z0 z1 z2 (.int .i64 2) (.int .i64 (u)) (.string ⟨#[]⟩)
    exact bodyPost_ret (v := .tuple #[.agg #[.int .i64 2, .int .i64 (u), .string ⟨#[]⟩], .bool r]) (by simp [results, Tryz.results119, go_sem, o0, o1, o2]) rfl ⟨rfl, put_below HB3.out (by omega) _ _ _⟩

set_option maxRecDepth 100000 in
set_option maxHeartbeats 4000000 in
theorem apply15a (xk xn : Int) (xs : ByteArray) (yk yn : Int) (ys : ByteArray) (w : World) (hx : Pl.Mid 60 ⟨xk, xn, xs⟩) (hy : Pl.Mid 60 ⟨yk, yn, ys⟩) (h1 : (xn == 1) = false) (u : Int) (hu : Hid (u = if false then 1 else 0)) : Calls Tryz.prog 119 #[.int .i64 15, .agg #[.int .i64 xk, .int .i64 xn, .string xs], .agg #[.int .i64 yk, .int .i64 yn, .string ys]] w (ApPost ⟨2, u, ⟨#[]⟩⟩ w) := by
  obtain ⟨⟨x0, x1⟩, x2⟩ := hx
  obtain ⟨⟨y0, y1⟩, y2⟩ := hy
  dsimp only at x0 x1 x2 y0 y1 y2
  obtain ⟨r, hr⟩ : ∃ r, r = Pl.validV ⟨2, u, ⟨#[]⟩⟩ := ⟨_, rfl⟩
  have HR := Lib.hid hr
  have H5 := world5 w (.cells #[.int .i64 xk, .int .i64 xn, .string xs] 48) (.cells #[.int .i64 yk, .int .i64 yn, .string ys] 48) (.cells #[.int .i64 0, .int .i64 0, .string ⟨#[]⟩] 48) (.cells #[.int .i64 0, .int .i64 0, .string ⟨#[]⟩] 48) _ rfl
  unfold ApPost Tm.agg
  rw [← hr]
  clear hr
  go_enter Tryz.func119, Tryz.ntmps119
  go_wp2_with fail
  generalize (((w.alloc (.cells #[.int .i64 xk, .int .i64 xn, .string xs] 48)).alloc (.cells #[.int .i64 yk, .int .i64 yn, .string ys] 48)).alloc (.cells #[.int .i64 0, .int .i64 0, .string ⟨#[]⟩] 48)).alloc (.cells #[.int .i64 0, .int .i64 0, .string ⟨#[]⟩] 48) = W at H5 ⊢
  obtain ⟨hs, hx', hy', hz', hv', hB⟩ := H5
  have HB := Lib.hid hB
  have HS := Lib.hid hs
  refine (truth3 false u _ hu).mono ?_
  rintro e w1 ⟨rfl, hb⟩
  have HB1 := Lib.hid (HB.out.trans (hb.mono HB.out.size))
  have HV1 := Lib.hid (kept_box hv' hb)
  have HZ1 := Lib.hid (kept_box hz' hb)
  obtain ⟨v0, v1, v2⟩ := box_cells HV1.out
  have g0 := Lib.frozen_of_heap HV1.out 0
  have g1 := Lib.frozen_of_heap HV1.out 1
  have g2 := Lib.frozen_of_heap HV1.out 2
  clear hb hB hs hx' hy' hz' hv'
  go_wp2_with fail
  have HV2 := Lib.hid (put_same HV1.out (.int .i64 2) (.int .i64 (u)) (.string ⟨#[]⟩))
  have HZ2 := Lib.hid (put_other (g := w.heap.size + 1 + 1 + 1) HZ1.out (by omega) (.int .i64 2) (.int .i64 (u)) (.string ⟨#[]⟩))
  have HB2 := Lib.hid (put_below (g := w.heap.size + 1 + 1 + 1) HB1.out (by omega) (.int .i64 2) (.int .i64 (u)) (.string ⟨#[]⟩))
  generalize (((w1.setCell ⟨w.heap.size + 1 + 1 + 1, 0, none⟩ (.int .i64 2)).setCell ⟨w.heap.size + 1 + 1 + 1, 1, none⟩ (.int .i64 (u))).setCell ⟨w.heap.size + 1 + 1 + 1, 2, none⟩ (.string ⟨#[]⟩)) = W2 at HV2 HZ2 HB2 ⊢
  obtain ⟨d0, d1, d2⟩ := box_cells HV2.out
  have h32 : w.heap.size + 1 + 1 + 1 ≠ w.heap.size + 1 + 1 := by omega
  clear v0 v1 v2 g0 g1 g2
  go_region_held3 (fun w' => w'.cell? ⟨w.heap.size + 1 + 1 + 1, 0, none⟩ = some (.int .i64 2) ∧ w'.cell? ⟨w.heap.size + 1 + 1 + 1, 1, none⟩ = some (.int .i64 (u)) ∧ w'.cell? ⟨w.heap.size + 1 + 1 + 1, 2, none⟩ = some (.string ⟨#[]⟩)) (first | exact ⟨d0, d1, d2⟩ | exact ⟨e0, e1, e2⟩ | exact box_cells (put_other HE3.out h32 _ _ _)) (first | (go_at_call 31; refine (validValueR_any ⟨2, u, ⟨#[]⟩⟩ _).mono ?_; rintro e w3 ⟨rfl, hb3⟩; rw [← HR.out]; have HB3 := Lib.hid (HB2.out.drew.trans (hb3.mono HB2.out.size)); have HE3 := Lib.hid (kept_box (show W2.drew.heap[w.heap.size + 1 + 1 + 1]? = _ from HV2.out) hb3); obtain ⟨e0, e1, e2⟩ := box_cells HE3.out; have HZ3 := Lib.hid (kept_box (show W2.drew.heap[w.heap.size + 1 + 1]? = _ from HZ2.out) hb3); obtain ⟨z0, z1, z2⟩ := box_cells HZ3.out; have q0 := Lib.frozen_of_heap HZ3.out 0; have q1 := Lib.frozen_of_heap HZ3.out 1; have q2 := Lib.frozen_of_heap HZ3.out 2; clear hb3))
  all_goals
    go_wp2_with fail
    obtain ⟨o0, o1, o2⟩ := set3 z0 z1 z2 (.int .i64 2) (.int .i64 (u)) (.string ⟨#[]⟩)
    exact bodyPost_ret (v := .tuple #[.agg #[.int .i64 2, .int .i64 (u), .string ⟨#[]⟩], .bool r]) (by simp [results, Tryz.results119, go_sem, o0, o1, o2]) rfl ⟨rfl, put_below HB3.out (by omega) _ _ _⟩

set_option maxRecDepth 100000 in
set_option maxHeartbeats 4000000 in
theorem apply15b (xk xn : Int) (xs : ByteArray) (yk yn : Int) (ys : ByteArray) (w : World) (hx : Pl.Mid 60 ⟨xk, xn, xs⟩) (hy : Pl.Mid 60 ⟨yk, yn, ys⟩) (b : Bool) (h1 : (xn == 1) = true) (h2 : (yn == 1) = b) (u : Int) (hu : Hid (u = if b then 1 else 0)) : Calls Tryz.prog 119 #[.int .i64 15, .agg #[.int .i64 xk, .int .i64 xn, .string xs], .agg #[.int .i64 yk, .int .i64 yn, .string ys]] w (ApPost ⟨2, u, ⟨#[]⟩⟩ w) := by
  obtain ⟨⟨x0, x1⟩, x2⟩ := hx
  obtain ⟨⟨y0, y1⟩, y2⟩ := hy
  dsimp only at x0 x1 x2 y0 y1 y2
  obtain ⟨r, hr⟩ : ∃ r, r = Pl.validV ⟨2, u, ⟨#[]⟩⟩ := ⟨_, rfl⟩
  have HR := Lib.hid hr
  have H5 := world5 w (.cells #[.int .i64 xk, .int .i64 xn, .string xs] 48) (.cells #[.int .i64 yk, .int .i64 yn, .string ys] 48) (.cells #[.int .i64 0, .int .i64 0, .string ⟨#[]⟩] 48) (.cells #[.int .i64 0, .int .i64 0, .string ⟨#[]⟩] 48) _ rfl
  unfold ApPost Tm.agg
  rw [← hr]
  clear hr
  go_enter Tryz.func119, Tryz.ntmps119
  go_wp2_with fail
  generalize (((w.alloc (.cells #[.int .i64 xk, .int .i64 xn, .string xs] 48)).alloc (.cells #[.int .i64 yk, .int .i64 yn, .string ys] 48)).alloc (.cells #[.int .i64 0, .int .i64 0, .string ⟨#[]⟩] 48)).alloc (.cells #[.int .i64 0, .int .i64 0, .string ⟨#[]⟩] 48) = W at H5 ⊢
  obtain ⟨hs, hx', hy', hz', hv', hB⟩ := H5
  have HB := Lib.hid hB
  have HS := Lib.hid hs
  refine (truth3 b u _ hu).mono ?_
  rintro e w1 ⟨rfl, hb⟩
  have HB1 := Lib.hid (HB.out.trans (hb.mono HB.out.size))
  have HV1 := Lib.hid (kept_box hv' hb)
  have HZ1 := Lib.hid (kept_box hz' hb)
  obtain ⟨v0, v1, v2⟩ := box_cells HV1.out
  have g0 := Lib.frozen_of_heap HV1.out 0
  have g1 := Lib.frozen_of_heap HV1.out 1
  have g2 := Lib.frozen_of_heap HV1.out 2
  clear hb hB hs hx' hy' hz' hv'
  go_wp2_with fail
  have HV2 := Lib.hid (put_same HV1.out (.int .i64 2) (.int .i64 (u)) (.string ⟨#[]⟩))
  have HZ2 := Lib.hid (put_other (g := w.heap.size + 1 + 1 + 1) HZ1.out (by omega) (.int .i64 2) (.int .i64 (u)) (.string ⟨#[]⟩))
  have HB2 := Lib.hid (put_below (g := w.heap.size + 1 + 1 + 1) HB1.out (by omega) (.int .i64 2) (.int .i64 (u)) (.string ⟨#[]⟩))
  generalize (((w1.setCell ⟨w.heap.size + 1 + 1 + 1, 0, none⟩ (.int .i64 2)).setCell ⟨w.heap.size + 1 + 1 + 1, 1, none⟩ (.int .i64 (u))).setCell ⟨w.heap.size + 1 + 1 + 1, 2, none⟩ (.string ⟨#[]⟩)) = W2 at HV2 HZ2 HB2 ⊢
  obtain ⟨d0, d1, d2⟩ := box_cells HV2.out
  have h32 : w.heap.size + 1 + 1 + 1 ≠ w.heap.size + 1 + 1 := by omega
  clear v0 v1 v2 g0 g1 g2
  go_region_held3 (fun w' => w'.cell? ⟨w.heap.size + 1 + 1 + 1, 0, none⟩ = some (.int .i64 2) ∧ w'.cell? ⟨w.heap.size + 1 + 1 + 1, 1, none⟩ = some (.int .i64 (u)) ∧ w'.cell? ⟨w.heap.size + 1 + 1 + 1, 2, none⟩ = some (.string ⟨#[]⟩)) (first | exact ⟨d0, d1, d2⟩ | exact ⟨e0, e1, e2⟩ | exact box_cells (put_other HE3.out h32 _ _ _)) (first | (go_at_call 31; refine (validValueR_any ⟨2, u, ⟨#[]⟩⟩ _).mono ?_; rintro e w3 ⟨rfl, hb3⟩; rw [← HR.out]; have HB3 := Lib.hid (HB2.out.drew.trans (hb3.mono HB2.out.size)); have HE3 := Lib.hid (kept_box (show W2.drew.heap[w.heap.size + 1 + 1 + 1]? = _ from HV2.out) hb3); obtain ⟨e0, e1, e2⟩ := box_cells HE3.out; have HZ3 := Lib.hid (kept_box (show W2.drew.heap[w.heap.size + 1 + 1]? = _ from HZ2.out) hb3); obtain ⟨z0, z1, z2⟩ := box_cells HZ3.out; have q0 := Lib.frozen_of_heap HZ3.out 0; have q1 := Lib.frozen_of_heap HZ3.out 1; have q2 := Lib.frozen_of_heap HZ3.out 2; clear hb3))
  all_goals
    go_wp2_with fail
    obtain ⟨o0, o1, o2⟩ := set3 z0 z1 z2 (.int .i64 2) (.int .i64 (u)) (.string ⟨#[]⟩)
    exact bodyPost_ret (v := .tuple #[.agg #[.int .i64 2, .int .i64 (u), .string ⟨#[]⟩], .bool r]) (by simp [results, Tryz.results119, go_sem, o0, o1, o2]) rfl ⟨rfl, put_below HB3.out (by omega) _ _ _⟩

set_option maxRecDepth 100000 in
set_option maxHeartbeats 4000000 in
theorem apply16a (xk xn : Int) (xs : ByteArray) (yk yn : Int) (ys : ByteArray) (w : World) (hx : Pl.Mid 60 ⟨xk, xn, xs⟩) (hy : Pl.Mid 60 ⟨yk, yn, ys⟩) (h1 : (xn == 1) = true) (u : Int) (hu : Hid (u = if true then 1 else 0)) : Calls Tryz.prog 119 #[.int .i64 16, .agg #[.int .i64 xk, .int .i64 xn, .string xs], .agg #[.int .i64 yk, .int .i64 yn, .string ys]] w (ApPost ⟨2, u, ⟨#[]⟩⟩ w) := by
  obtain ⟨⟨x0, x1⟩, x2⟩ := hx
  obtain ⟨⟨y0, y1⟩, y2⟩ := hy
  dsimp only at x0 x1 x2 y0 y1 y2
  obtain ⟨r, hr⟩ : ∃ r, r = Pl.validV ⟨2, u, ⟨#[]⟩⟩ := ⟨_, rfl⟩
  have HR := Lib.hid hr
  have H5 := world5 w (.cells #[.int .i64 xk, .int .i64 xn, .string xs] 48) (.cells #[.int .i64 yk, .int .i64 yn, .string ys] 48) (.cells #[.int .i64 0, .int .i64 0, .string ⟨#[]⟩] 48) (.cells #[.int .i64 0, .int .i64 0, .string ⟨#[]⟩] 48) _ rfl
  unfold ApPost Tm.agg
  rw [← hr]
  clear hr
  go_enter Tryz.func119, Tryz.ntmps119
  go_wp2_with fail
  generalize (((w.alloc (.cells #[.int .i64 xk, .int .i64 xn, .string xs] 48)).alloc (.cells #[.int .i64 yk, .int .i64 yn, .string ys] 48)).alloc (.cells #[.int .i64 0, .int .i64 0, .string ⟨#[]⟩] 48)).alloc (.cells #[.int .i64 0, .int .i64 0, .string ⟨#[]⟩] 48) = W at H5 ⊢
  obtain ⟨hs, hx', hy', hz', hv', hB⟩ := H5
  have HB := Lib.hid hB
  have HS := Lib.hid hs
  refine (truth3 true u _ hu).mono ?_
  rintro e w1 ⟨rfl, hb⟩
  have HB1 := Lib.hid (HB.out.trans (hb.mono HB.out.size))
  have HV1 := Lib.hid (kept_box hv' hb)
  have HZ1 := Lib.hid (kept_box hz' hb)
  obtain ⟨v0, v1, v2⟩ := box_cells HV1.out
  have g0 := Lib.frozen_of_heap HV1.out 0
  have g1 := Lib.frozen_of_heap HV1.out 1
  have g2 := Lib.frozen_of_heap HV1.out 2
  clear hb hB hs hx' hy' hz' hv'
  go_wp2_with fail
  have HV2 := Lib.hid (put_same HV1.out (.int .i64 2) (.int .i64 (u)) (.string ⟨#[]⟩))
  have HZ2 := Lib.hid (put_other (g := w.heap.size + 1 + 1 + 1) HZ1.out (by omega) (.int .i64 2) (.int .i64 (u)) (.string ⟨#[]⟩))
  have HB2 := Lib.hid (put_below (g := w.heap.size + 1 + 1 + 1) HB1.out (by omega) (.int .i64 2) (.int .i64 (u)) (.string ⟨#[]⟩))
  generalize (((w1.setCell ⟨w.heap.size + 1 + 1 + 1, 0, none⟩ (.int .i64 2)).setCell ⟨w.heap.size + 1 + 1 + 1, 1, none⟩ (.int .i64 (u))).setCell ⟨w.heap.size + 1 + 1 + 1, 2, none⟩ (.string ⟨#[]⟩)) = W2 at HV2 HZ2 HB2 ⊢
  obtain ⟨d0, d1, d2⟩ := box_cells HV2.out
  have h32 : w.heap.size + 1 + 1 + 1 ≠ w.heap.size + 1 + 1 := by omega
  clear v0 v1 v2 g0 g1 g2
  go_region_held3 (fun w' => w'.cell? ⟨w.heap.size + 1 + 1 + 1, 0, none⟩ = some (.int .i64 2) ∧ w'.cell? ⟨w.heap.size + 1 + 1 + 1, 1, none⟩ = some (.int .i64 (u)) ∧ w'.cell? ⟨w.heap.size + 1 + 1 + 1, 2, none⟩ = some (.string ⟨#[]⟩)) (first | exact ⟨d0, d1, d2⟩ | exact ⟨e0, e1, e2⟩ | exact box_cells (put_other HE3.out h32 _ _ _)) (first | (go_at_call 31; refine (validValueR_any ⟨2, u, ⟨#[]⟩⟩ _).mono ?_; rintro e w3 ⟨rfl, hb3⟩; rw [← HR.out]; have HB3 := Lib.hid (HB2.out.drew.trans (hb3.mono HB2.out.size)); have HE3 := Lib.hid (kept_box (show W2.drew.heap[w.heap.size + 1 + 1 + 1]? = _ from HV2.out) hb3); obtain ⟨e0, e1, e2⟩ := box_cells HE3.out; have HZ3 := Lib.hid (kept_box (show W2.drew.heap[w.heap.size + 1 + 1]? = _ from HZ2.out) hb3); obtain ⟨z0, z1, z2⟩ := box_cells HZ3.out; have q0 := Lib.frozen_of_heap HZ3.out 0; have q1 := Lib.frozen_of_heap HZ3.out 1; have q2 := Lib.frozen_of_heap HZ3.out 2; clear hb3))
  all_goals
    go_wp2_with fail
    obtain ⟨o0, o1, o2⟩ := set3 z0 z1 z2 (.int .i64 2) (.int .i64 (u)) (.string ⟨#[]⟩)
    exact bodyPost_ret (v := .tuple #[.agg #[.int .i64 2, .int .i64 (u), .string ⟨#[]⟩], .bool r]) (by simp [results, Tryz.results119, go_sem, o0, o1, o2]) rfl ⟨rfl, put_below HB3.out (by omega) _ _ _⟩

set_option maxRecDepth 100000 in
set_option maxHeartbeats 4000000 in
theorem apply16b (xk xn : Int) (xs : ByteArray) (yk yn : Int) (ys : ByteArray) (w : World) (hx : Pl.Mid 60 ⟨xk, xn, xs⟩) (hy : Pl.Mid 60 ⟨yk, yn, ys⟩) (b : Bool) (h1 : (xn == 1) = false) (h2 : (yn == 1) = b) (u : Int) (hu : Hid (u = if b then 1 else 0)) : Calls Tryz.prog 119 #[.int .i64 16, .agg #[.int .i64 xk, .int .i64 xn, .string xs], .agg #[.int .i64 yk, .int .i64 yn, .string ys]] w (ApPost ⟨2, u, ⟨#[]⟩⟩ w) := by
  obtain ⟨⟨x0, x1⟩, x2⟩ := hx
  obtain ⟨⟨y0, y1⟩, y2⟩ := hy
  dsimp only at x0 x1 x2 y0 y1 y2
  obtain ⟨r, hr⟩ : ∃ r, r = Pl.validV ⟨2, u, ⟨#[]⟩⟩ := ⟨_, rfl⟩
  have HR := Lib.hid hr
  have H5 := world5 w (.cells #[.int .i64 xk, .int .i64 xn, .string xs] 48) (.cells #[.int .i64 yk, .int .i64 yn, .string ys] 48) (.cells #[.int .i64 0, .int .i64 0, .string ⟨#[]⟩] 48) (.cells #[.int .i64 0, .int .i64 0, .string ⟨#[]⟩] 48) _ rfl
  unfold ApPost Tm.agg
  rw [← hr]
  clear hr
  go_enter Tryz.func119, Tryz.ntmps119
  go_wp2_with fail
  generalize (((w.alloc (.cells #[.int .i64 xk, .int .i64 xn, .string xs] 48)).alloc (.cells #[.int .i64 yk, .int .i64 yn, .string ys] 48)).alloc (.cells #[.int .i64 0, .int .i64 0, .string ⟨#[]⟩] 48)).alloc (.cells #[.int .i64 0, .int .i64 0, .string ⟨#[]⟩] 48) = W at H5 ⊢
  obtain ⟨hs, hx', hy', hz', hv', hB⟩ := H5
  have HB := Lib.hid hB
  have HS := Lib.hid hs
  refine (truth3 b u _ hu).mono ?_
  rintro e w1 ⟨rfl, hb⟩
  have HB1 := Lib.hid (HB.out.trans (hb.mono HB.out.size))
  have HV1 := Lib.hid (kept_box hv' hb)
  have HZ1 := Lib.hid (kept_box hz' hb)
  obtain ⟨v0, v1, v2⟩ := box_cells HV1.out
  have g0 := Lib.frozen_of_heap HV1.out 0
  have g1 := Lib.frozen_of_heap HV1.out 1
  have g2 := Lib.frozen_of_heap HV1.out 2
  clear hb hB hs hx' hy' hz' hv'
  go_wp2_with fail
  have HV2 := Lib.hid (put_same HV1.out (.int .i64 2) (.int .i64 (u)) (.string ⟨#[]⟩))
  have HZ2 := Lib.hid (put_other (g := w.heap.size + 1 + 1 + 1) HZ1.out (by omega) (.int .i64 2) (.int .i64 (u)) (.string ⟨#[]⟩))
  have HB2 := Lib.hid (put_below (g := w.heap.size + 1 + 1 + 1) HB1.out (by omega) (.int .i64 2) (.int .i64 (u)) (.string ⟨#[]⟩))
  generalize (((w1.setCell ⟨w.heap.size + 1 + 1 + 1, 0, none⟩ (.int .i64 2)).setCell ⟨w.heap.size + 1 + 1 + 1, 1, none⟩ (.int .i64 (u))).setCell ⟨w.heap.size + 1 + 1 + 1, 2, none⟩ (.string ⟨#[]⟩)) = W2 at HV2 HZ2 HB2 ⊢
  obtain ⟨d0, d1, d2⟩ := box_cells HV2.out
  have h32 : w.heap.size + 1 + 1 + 1 ≠ w.heap.size + 1 + 1 := by omega
  clear v0 v1 v2 g0 g1 g2
  go_region_held3 (fun w' => w'.cell? ⟨w.heap.size + 1 + 1 + 1, 0, none⟩ = some (.int .i64 2) ∧ w'.cell? ⟨w.heap.size + 1 + 1 + 1, 1, none⟩ = some (.int .i64 (u)) ∧ w'.cell? ⟨w.heap.size + 1 + 1 + 1, 2, none⟩ = some (.string ⟨#[]⟩)) (first | exact ⟨d0, d1, d2⟩ | exact ⟨e0, e1, e2⟩ | exact box_cells (put_other HE3.out h32 _ _ _)) (first | (go_at_call 31; refine (validValueR_any ⟨2, u, ⟨#[]⟩⟩ _).mono ?_; rintro e w3 ⟨rfl, hb3⟩; rw [← HR.out]; have HB3 := Lib.hid (HB2.out.drew.trans (hb3.mono HB2.out.size)); have HE3 := Lib.hid (kept_box (show W2.drew.heap[w.heap.size + 1 + 1 + 1]? = _ from HV2.out) hb3); obtain ⟨e0, e1, e2⟩ := box_cells HE3.out; have HZ3 := Lib.hid (kept_box (show W2.drew.heap[w.heap.size + 1 + 1]? = _ from HZ2.out) hb3); obtain ⟨z0, z1, z2⟩ := box_cells HZ3.out; have q0 := Lib.frozen_of_heap HZ3.out 0; have q1 := Lib.frozen_of_heap HZ3.out 1; have q2 := Lib.frozen_of_heap HZ3.out 2; clear hb3))
  all_goals
    go_wp2_with fail
    obtain ⟨o0, o1, o2⟩ := set3 z0 z1 z2 (.int .i64 2) (.int .i64 (u)) (.string ⟨#[]⟩)
    exact bodyPost_ret (v := .tuple #[.agg #[.int .i64 2, .int .i64 (u), .string ⟨#[]⟩], .bool r]) (by simp [results, Tryz.results119, go_sem, o0, o1, o2]) rfl ⟨rfl, put_below HB3.out (by omega) _ _ _⟩

theorem truth_tm {b c : Bool} (h : b = c) : truthV b = ⟨2, if c then 1 else 0, ⟨#[]⟩⟩ := by
  subst h; cases b <;> rfl
theorem truth_to {b c : Bool} {w : World} {e : Ending} {w' : World} (h : b = c) (hp : ApPost ⟨2, if c then 1 else 0, ⟨#[]⟩⟩ w e w') : ApPost (truthV b) w e w' := by rw [truth_tm h]; exact hp
/-- apply of the reference, at operands that are not too great. -/
theorem apply_all (k : Int) (hk : 5 ≤ k ∧ k ≤ 16) (x y : Tm) (w : World) (hx : Pl.Mid 60 x) (hy : Pl.Mid 60 y) : Calls Tryz.prog 119 #[.int .i64 k, x.agg, y.agg] w (ApPost (Pl.apR k x y) w) := by
  obtain ⟨xk, xn, xs⟩ := x
  obtain ⟨yk, yn, ys⟩ := y
  have hks : k = 5 ∨ k = 6 ∨ k = 7 ∨ k = 8 ∨ k = 9 ∨ k = 10 ∨ k = 11 ∨ k = 12 ∨ k = 13 ∨ k = 14 ∨ k = 15 ∨ k = 16 := by omega
  rcases hks with rfl | rfl | rfl | rfl | rfl | rfl | rfl | rfl | rfl | rfl | rfl | rfl
  · exact apply5 xk xn xs yk yn ys w hx hy
  · exact (apply6 xk xn xs yk yn ys w hx hy (xn == 0) _ rfl (Lib.hid rfl)).mono fun e w' h => truth_to (b := decide (xn = 0)) rfl h
  · exact apply7 xk xn xs yk yn ys w hx hy
  · exact apply8 xk xn xs yk yn ys w hx hy
  · exact apply9 xk xn xs yk yn ys w hx hy
  · exact apply10 xk xn xs yk yn ys w hx hy _ (Lib.hid rfl)
  · show Calls _ _ _ _ (ApPost (if yn = 0 then Pl.zeroV else numV (Pl.flq xn yn)) w)
    by_cases h0 : yn = 0
    · rw [if_pos h0]
      exact apply11z xk xn xs yk yn ys w hx hy (by simpa using h0)
    · rw [if_neg h0]
      exact apply11 xk xn xs yk yn ys w hx hy _ (Lib.hid rfl) (by simpa using h0)
  · show Calls _ _ _ _ (ApPost (if yn = 0 then Pl.zeroV else numV (Pl.flr xn yn)) w)
    by_cases h0 : yn = 0
    · rw [if_pos h0]
      exact apply12z xk xn xs yk yn ys w hx hy (by simpa using h0)
    · rw [if_neg h0]
      exact apply12 xk xn xs yk yn ys w hx hy _ (Lib.hid rfl) (by simpa using h0)
  · show Calls _ _ _ _ (ApPost (truthV ((xk == yk) && ((xn == yn) && (xs.toList == ys.toList)))) w)
    by_cases h1 : xk = yk
    · by_cases h2 : xn = yn
      · by_cases h3 : xs = ys
        · refine (apply13t xk xn xs yk yn ys w hx hy _ h1 h2 h3 (Lib.hid rfl)).mono fun e w' h => truth_to (c := true) ?_ h
          subst h1 h2 h3; simp
        · have h4 : (xs.toList == ys.toList) = false := Pl.toList_ne h3
          refine (apply13s xk xn xs yk yn ys w hx hy _ h1 h2 h4 (Lib.hid rfl)).mono fun e w' h => truth_to (c := false) ?_ h
          rw [h4]; simp
      · have h4 : (xn == yn) = false := by simpa using h2
        refine (apply13n xk xn xs yk yn ys w hx hy _ h1 h4 (Lib.hid rfl)).mono fun e w' h => truth_to (c := false) ?_ h
        rw [h4]; simp
    · have h4 : (xk == yk) = false := by simpa using h1
      refine (apply13k xk xn xs yk yn ys w hx hy _ h4 (Lib.hid rfl)).mono fun e w' h => truth_to (c := false) ?_ h
      rw [h4]; simp
  · show Calls _ _ _ _ (ApPost (truthV (decide (xn < yn) || Op.bytesLess xs.toList ys.toList)) w)
    by_cases h1 : xn < yn
    · refine (apply14a xk xn xs yk yn ys w hx hy h1 _ (Lib.hid rfl)).mono fun e w' h => truth_to (c := true) ?_ h
      simp [h1]
    · refine (apply14b xk xn xs yk yn ys w hx hy _ h1 rfl _ (Lib.hid rfl)).mono fun e w' h => truth_to ?_ h
      simp [h1]
  · show Calls _ _ _ _ (ApPost (truthV (decide (xn = 1) && decide (yn = 1))) w)
    by_cases h1 : xn = 1
    · refine (apply15b xk xn xs yk yn ys w hx hy (yn == 1) (by simpa using h1) rfl _ (Lib.hid rfl)).mono fun e w' h => truth_to ?_ h
      rw [decide_eq_true h1]; rfl
    · refine (apply15a xk xn xs yk yn ys w hx hy (by simpa using h1) _ (Lib.hid rfl)).mono fun e w' h => truth_to ?_ h
      rw [decide_eq_false h1]; rfl
  · show Calls _ _ _ _ (ApPost (truthV (decide (xn = 1) || decide (yn = 1))) w)
    by_cases h1 : xn = 1
    · refine (apply16a xk xn xs yk yn ys w hx hy (by simpa using h1) _ (Lib.hid rfl)).mono fun e w' h => truth_to ?_ h
      rw [decide_eq_true h1]; rfl
    · refine (apply16b xk xn xs yk yn ys w hx hy (yn == 1) (by simpa using h1) rfl _ (Lib.hid rfl)).mono fun e w' h => truth_to ?_ h
      rw [decide_eq_false h1]; rfl
end Go.Proofs.YtchoelgkcnnnkaaGreatDoor
