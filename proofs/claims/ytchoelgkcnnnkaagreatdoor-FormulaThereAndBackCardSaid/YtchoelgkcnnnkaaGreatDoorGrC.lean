/- WALK: the formulas that integers determine: where no integers are left, or a leaf is chosen. -/
import Derived.Test.YtchoelgkcnnnkaaGreatDoorGrP
import Derived.Test.YtchoelgkcnnnkaaGreatDoorTmMem
import Derived.BigQuiet
set_option linter.all false
namespace Go.Proofs.YtchoelgkcnnnkaaGreatDoor
open Go.RowKit
/-- A slice of pairs of integers that reads as a list. -/
def PairsIn (w : World) (v : Value) (xs : List (Int × Int)) : Prop :=
  ∃ a c, v = .slice a xs.length c ∧ xs.length ≤ c ∧ (∀ p ∈ xs, (-9223372036854775808 ≤ p.1 ∧ p.1 ≤ 9223372036854775807) ∧ (-9223372036854775808 ≤ p.2 ∧ p.2 ≤ 9223372036854775807)) ∧
    (xs ≠ [] → ∃ b off, a = some ⟨b, off, none⟩ ∧ b < w.heap.size ∧ ∀ i p, xs[i]? = some p → w.cell? ⟨b, off + i * 2, none⟩ = some (.int .i64 p.1) ∧ w.cell? ⟨b, off + i * 2 + 1, none⟩ = some (.int .i64 p.2))
theorem PairsIn.below {w w' : World} {v : Value} {xs : List (Int × Int)} (h : PairsIn w v xs) (hb : Below w.heap.size w w') : PairsIn w' v xs := by
  obtain ⟨a, c, h1, h2, h3, h4⟩ := h
  refine ⟨a, c, h1, h2, h3, fun hn => ?_⟩
  obtain ⟨b, off, h5, h6, h7⟩ := h4 hn
  refine ⟨b, off, h5, Nat.lt_of_lt_of_le h6 hb.size, fun i p hp => ?_⟩
  obtain ⟨e1, e2⟩ := h7 i p hp
  exact ⟨(hb.cell (p := ⟨b, _, none⟩) h6).trans e1, (hb.cell (p := ⟨b, _, none⟩) h6).trans e2⟩
def GrowPost (t : Int) (deep at' n : Nat) (w : World) (e : Ending) (w' : World) : Prop :=
  ∃ (f : Fm) (next : Nat) (v : Value), e = .returned (.tuple #[v, .int .i64 (next : Int)]) ∧ at' ≤ next ∧ next ≤ max at' n ∧ Pl.Grown t deep (next - at') f ∧ TermsIn w' v f.flat ∧ Below w.heap.size w w'
theorem leaf_some (t x0 x1 : Int) (w : World) (h0 : -9223372036854775808 ≤ x0 ∧ x0 ≤ 9223372036854775807) (h1 : -9223372036854775808 ≤ x1 ∧ x1 ≤ 9223372036854775807) (ht : t = 1 ∨ t = 2 ∨ t = 3) :
    Calls Tryz.prog 67 #[.int .i64 t, .agg #[.int .i64 x0, .int .i64 x1]] w fun e w' => ∃ k n s, e = .returned (.agg #[.int .i64 k, .int .i64 n, .string s]) ∧ (∀ deep used, 1 ≤ deep → Pl.Grown t deep used (.lf ⟨k, n, s⟩)) ∧ Below w.heap.size w w' :=
  (leaf_any t x0 x1 w h0 h1 ht).mono fun _ _ ⟨he, hb⟩ => ⟨_, _, _, he, fun deep used hd => Pl.Grown.leaf t x0 x1 deep used ht hd, hb⟩
theorem grown_lf_small {t : Int} {deep used : Nat} {u : Tm} (h : Pl.Grown t deep used (.lf u)) : ∀ t ∈ [u], t.s.size ≤ 140737488355328 := fun t ht => Nat.le_trans (h.small t ht) (by decide)
set_option maxRecDepth 100000 in
set_option maxHeartbeats 2000000 in
theorem grow_end (t : Int) (ht : t = 1 ∨ t = 2 ∨ t = 3) (v : Value) (xs : List (Int × Int)) (at' deep : Nat) (w : World) (hx : PairsIn w v xs) (hd : 1 ≤ deep) (hd2 : deep ≤ 6) (hat : xs.length ≤ at') (hle : at' ≤ 100) :
    Calls Tryz.prog 38 #[.int .i64 t, v, .int .i64 at', .int .i64 deep] w (GrowPost t deep at' xs.length w) := by
  obtain ⟨a, c, rfl, hc, _, _⟩ := hx
  have HT := Lib.hid ht
  clear ht
  go_enter Tryz.func38, Tryz.ntmps38
  go_wp2_with fail
  refine (leaf_some t 1 0 _ (by decide) (by decide) HT.out).mono ?_
  rintro e w1 ⟨k, n, s, rfl, hg, hb⟩
  have HG := Lib.hid (hg deep 0 hd)
  have HB := Lib.hid hb
  clear hg hb
  go_wp2_with fail
  go_ret2
  exact ⟨.lf ⟨k, n, s⟩, at', _, rfl, Nat.le_refl _, Nat.le_max_left _ _, by rw [Nat.sub_self]; exact HG.out, terms_new rfl rfl (grown_lf_small HG.out), HB.out.alloc HB.out.size _⟩
set_option maxRecDepth 100000 in
set_option maxHeartbeats 2000000 in
theorem grow_leaf (t : Int) (ht : t = 1 ∨ t = 2 ∨ t = 3) (v : Value) (xs : List (Int × Int)) (at' deep : Nat) (w : World) (hx : PairsIn w v xs) (hd : 1 ≤ deep) (hd2 : deep ≤ 6) (hat : at' < xs.length) (hle : at' ≤ 100) (y : Int × Int) (hy : xs[at']? = some y) (hleaf : deep = 1 ∨ (1 < deep ∧ Pl.pickOf y.1 4 = 0)) :
    Calls Tryz.prog 38 #[.int .i64 t, v, .int .i64 at', .int .i64 deep] w (GrowPost t deep at' xs.length w) := by
  obtain ⟨a, c, rfl, hc, hbd, hcell⟩ := hx
  obtain ⟨b, off, rfl, hb, hcell⟩ := hcell (by intro e; rw [e] at hy; simp at hy)
  obtain ⟨c0, c1⟩ := hcell at' y hy
  obtain ⟨⟨b0, b1⟩, ⟨b2, b3⟩⟩ := hbd y (List.mem_of_getElem? hy)
  obtain ⟨y0, y1⟩ := y
  dsimp only at *
  have HT := Lib.hid ht
  clear ht hcell hbd hy
  have q4 : -9223372036854775808 ≤ y0.tdiv 4 ∧ y0.tdiv 4 ≤ 9223372036854775807 := by
    have h : (y0.tdiv 4).natAbs = y0.natAbs / 4 := Int.natAbs_tdiv y0 4
    generalize y0.tdiv 4 = q at h ⊢
    omega
  have HQ := Lib.hid q4
  clear q4
  rcases hleaf with rfl | ⟨h1, h2⟩
  · go_enter Tryz.func38, Tryz.ntmps38
    go_wp2_with fail
    refine (leaf_some t _ y1 _ HQ.out ⟨b2, b3⟩ HT.out).mono ?_
    rintro e w1 ⟨k, n, s, rfl, hg, hb1⟩
    have HG := Lib.hid (hg 1 1 hd)
    have HB := Lib.hid ((below1 w _).trans (hb1.mono (by simp)))
    clear hg hb1
    go_wp2_with fail
    go_ret2
    exact ⟨.lf ⟨k, n, s⟩, at' + 1, _, rfl, Nat.le_succ _, by omega, by rw [show at' + 1 - at' = 1 by omega]; exact HG.out, terms_new rfl rfl (grown_lf_small HG.out), HB.out.alloc HB.out.size _⟩
  · have HP := Lib.hid h2
    clear h2
    go_enter Tryz.func38, Tryz.ntmps38
    go_wp2_with fail
    refine (pickR_any y0 4 _ (by assumption) (by assumption) (by decide) (by decide)).mono ?_
    rintro e w' ⟨rfl, rfl⟩
    rw [HP.out]
    go_wp2_with fail
    refine (leaf_some t _ y1 _ HQ.out ⟨b2, b3⟩ HT.out).mono ?_
    rintro e w1 ⟨k, n, s, rfl, hg, hb1⟩
    have HG := Lib.hid (hg deep 1 hd)
    have HB := Lib.hid ((below1 w _).trans (hb1.mono (by simp)))
    clear hg hb1
    go_wp2_with fail
    go_ret2
    exact ⟨.lf ⟨k, n, s⟩, at' + 1, _, rfl, Nat.le_succ _, by omega, by rw [show at' + 1 - at' = 1 by omega]; exact HG.out, terms_new rfl rfl (grown_lf_small HG.out), HB.out.alloc HB.out.size _⟩
end Go.Proofs.YtchoelgkcnnnkaaGreatDoor
