/- CONTRACTS: the formulas that integers determine: grow at any depth, and Formula. -/
import Derived.Test.YtchoelgkcnnnkaaGreatDoorGrD
import Derived.StillTailTactics
import Derived.RegionTactic
set_option linter.all false
namespace Go.Proofs.YtchoelgkcnnnkaaGreatDoor
open Go.RowKit
theorem grow_all : ∀ deep : Nat, 1 ≤ deep → deep ≤ 6 → GrowAt deep
  | 0, h, _ => absurd h (by decide)
  | deep + 1, h, h6 => by
    intro t v xs at' z w ht hx hle hl hz
    by_cases hat : xs.length ≤ at'
    · subst hz
      exact grow_end t ht v xs at' (deep + 1) w hx h h6 hat (by omega)
    · have hat' : at' < xs.length := by omega
      have hy : xs[at']? = some xs[at'] := List.getElem?_eq_getElem hat'
      by_cases hd : deep = 0
      · subst hd
        subst hz
        exact grow_leaf t ht v xs at' 1 w hx h h6 hat' (by omega) _ hy (.inl rfl)
      · by_cases hp : Pl.pickOf (xs[at']).1 4 = 0
        · subst hz
          exact grow_leaf t ht v xs at' (deep + 1) w hx h h6 hat' (by omega) _ hy (.inr ⟨by omega, hp⟩)
        · exact grow_node_at deep (by omega) (by omega) (grow_all deep (by omega) (by omega)) t ht v xs at' z w hx hle hl (by omega) hat' _ hy hp
def FormulaPost (t : Int) (w : World) (e : Ending) (w' : World) : Prop :=
  ∃ (f : Fm) (v : Value), e = .returned v ∧ Pl.Grown t 6 12 f ∧ TermsIn w' v f.flat ∧ Below w.heap.size w w'
theorem Pl.Grown.more {t : Int} {d u u' : Nat} {f : Fm} (h : Pl.Grown t d u f) (hu : u ≤ u') : Pl.Grown t d u' f := ⟨h.wf, h.ty, h.depth, by have := h.len; omega, h.small⟩
theorem pairs_take {w : World} {b off n c m : Nat} {xs : List (Int × Int)} (h : PairsIn w (.slice (some ⟨b, off, none⟩) n c) xs) (hm : m ≤ n) : PairsIn w (.slice (some ⟨b, off, none⟩) m c) (xs.take m) := by
  obtain ⟨a, c', h1, h2, h3, h4⟩ := h
  simp only [Value.slice.injEq] at h1
  obtain ⟨rfl, rfl, rfl⟩ := h1
  refine ⟨_, _, by rw [List.length_take, Nat.min_eq_left hm], by rw [List.length_take]; omega, fun p hp => h3 p (List.mem_of_mem_take hp), fun hne => ?_⟩
  obtain ⟨b', o, h5, h6, h7⟩ := h4 (by intro e; rw [e] at hne; simp at hne)
  refine ⟨b', o, h5, h6, fun i p hp => h7 i p ?_⟩
  rw [List.getElem?_take] at hp
  split at hp
  · exact hp
  · cases hp
set_option maxRecDepth 100000 in
set_option maxHeartbeats 2000000 in
theorem formula_some (t : Int) (b off n c m : Nat) (xs : List (Int × Int)) (w : World) (ht : -9223372036854775808 ≤ t ∧ t ≤ 9223372036854775807) (hx : PairsIn w (.slice (some ⟨b, off, none⟩) n c) xs) (hn : n = xs.length) (hl : n ≤ 9223372036854775807) (hnc : n ≤ c) (hm : m = min n 12) :
    Calls Tryz.prog 11 #[.int .i64 t, .slice (some ⟨b, off, none⟩) n c] w (FormulaPost (1 + Pl.pickOf t 3) w) := by
  have HX := Lib.hid (pairs_take hx (show m ≤ n by omega))
  have hm1 : ((m : Nat) : Int) = min (n : Int) 12 := by omega
  have hm2 : m ≤ n := by omega
  have HN := Lib.hid hn
  have HM := Lib.hid hm
  obtain ⟨t0, t1⟩ := ht
  have p3 := Pl.pickOf_range t 3 (by decide)
  obtain ⟨P, hP⟩ : ∃ P, P = Pl.pickOf t 3 := ⟨_, rfl⟩
  rw [← hP] at p3 ⊢
  have HP := Lib.hid hP
  have HM1 := Lib.hid hm1
  have hw1 : IntKind.i64.wrap (1 + P) = 1 + P := by rw [IntKind.wrap_i64]; omega
  clear hP hn hm hx hm1
  go_enter Tryz.func11, Tryz.ntmps11
  go_wp2_with fail
  have hmm : min (n : Int) 12 = (m : Int) := HM1.out.symm
  have HPP := Lib.hid (show P = Pl.pickOf t 3 from HP.out)
  go_region_with (first | (go_at_call 39; refine (pickR_any _ _ _ (by assumption) (by assumption) (by decide) (by decide)).mono ?_; rintro e w' ⟨he, rfl⟩; rw [← HPP.out] at he; subst he) | (go_at_call 38; refine (grow_all 6 (by decide) (by decide) (1 + P) _ (xs.take m) 0 6 _ (by omega) (HX.out.below (below_drewN' (Below.refl _ _) 1)) (by decide) (by rw [List.length_take]; have := HM.out; omega) rfl).mono ?_; rintro e w' ⟨f, nx, v, rfl, h1, h2, hg, hT, hb⟩; have HGG := Lib.hid hg; have HTT := Lib.hid hT; have HBB := Lib.hid hb; clear hg hT hb))
  all_goals
    go_wp2
    go_ret
    exact ⟨f, _, rfl, HGG.out.more (by have h1 := h2; rw [List.length_take] at h1; have := HM.out; omega), HTT.out, (below_drewN' (Below.refl _ _) 1).trans HBB.out⟩
set_option maxRecDepth 100000 in
set_option maxHeartbeats 2000000 in
theorem formula_none (t : Int) (a : Option Addr) (c : Nat) (w : World) (ht : -9223372036854775808 ≤ t ∧ t ≤ 9223372036854775807) :
    Calls Tryz.prog 11 #[.int .i64 t, .slice a 0 c] w (FormulaPost (1 + Pl.pickOf t 3) w) := by
  obtain ⟨t0, t1⟩ := ht
  have p3 := Pl.pickOf_range t 3 (by decide)
  obtain ⟨P, hP⟩ : ∃ P, P = Pl.pickOf t 3 := ⟨_, rfl⟩
  rw [← hP] at p3 ⊢
  have HP := Lib.hid hP
  have hw1 : IntKind.i64.wrap (1 + P) = 1 + P := by rw [IntKind.wrap_i64]; omega
  clear hP
  go_enter Tryz.func11, Tryz.ntmps11
  go_wp2_with fail
  have HPP := Lib.hid (show P = Pl.pickOf t 3 from HP.out)
  go_region_with (first | (go_at_call 39; refine (pickR_any _ _ _ (by assumption) (by assumption) (by decide) (by decide)).mono ?_; rintro e w' ⟨he, rfl⟩; rw [← HPP.out] at he; subst he) | (go_at_call 38; refine (grow_all 6 (by decide) (by decide) (1 + P) _ [] 0 6 _ (by omega) ⟨_, _, rfl, Nat.zero_le _, by simp, by simp⟩ (by decide) (by decide) rfl).mono ?_; rintro e w' ⟨f, nx, v, rfl, h1, h2, hg, hT, hb⟩; have HGG := Lib.hid hg; have HTT := Lib.hid hT; have HBB := Lib.hid hb; clear hg hT hb))
  all_goals
    go_wp2
    go_ret
    exact ⟨f, _, rfl, HGG.out.more (by have h1 := h2; simp at h1; omega), HTT.out, (below_drewN' (Below.refl _ _) 1).trans HBB.out⟩
/-- What Formula gives. -/
theorem formula_any (t : Int) (v : Value) (xs : List (Int × Int)) (w : World) (ht : -9223372036854775808 ≤ t ∧ t ≤ 9223372036854775807) (hx : PairsIn w v xs) (hl : xs.length ≤ 9223372036854775807) :
    Calls Tryz.prog 11 #[.int .i64 t, v] w (FormulaPost (1 + Pl.pickOf t 3) w) := by
  have hx' := hx
  obtain ⟨a, c, rfl, hc, _, hcell⟩ := hx'
  match xs, hx, hcell with
  | [], _, _ => exact formula_none t a c w ht
  | p :: r, hx, hcell =>
    obtain ⟨b, off, rfl, _⟩ := hcell (by simp)
    exact formula_some t b off _ c _ (p :: r) w ht hx rfl hl hc rfl
end Go.Proofs.YtchoelgkcnnnkaaGreatDoor
