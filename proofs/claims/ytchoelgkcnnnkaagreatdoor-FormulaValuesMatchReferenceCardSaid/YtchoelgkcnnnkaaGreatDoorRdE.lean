/- WALKS: the reader's name. · WALKS: the reader's name with one digit. -/
import Derived.Test.YtchoelgkcnnnkaaGreatDoorRdC
import Derived.StillTailTactics
set_option linter.all false
namespace Go.Proofs.YtchoelgkcnnnkaaGreatDoor
open Go.RowKit
theorem OwnTms.below' {W w1 : World} {B : Nat} {v : Value} {ts : List Tm} (h : OwnTms W B v ts) (hb : Below W.heap.size W w1) : OwnTms w1.drew B v ts :=
  World.ownsRow.kept (w' := w1) h (row := none) ⟨hb.os, hb.tape, hb.output, hb.size, fun j hj _ => hb.block j hj⟩ (by cases hv : v.ownBlock <;> simp)
set_option maxRecDepth 100000 in
set_option maxHeartbeats 1000000 in
theorem name0 (R B : Nat) (s : ByteArray) (p : Nat) (v : Value) (ts : List Tm) (w : World) (H : RdAt w R s p v) (hO : OwnTms w B v ts) (hB : B ≤ w.heap.size) (hR : R < B) (hl : ts.length ≤ 1000000000) (hp : p < s.size) (h1 : Hid (false = Pl.digAt 49 s (p + 1))) :
    Calls Tryz.prog 85 #[.pointer (some ⟨R, 0, none⟩)] w fun e w' => e = .returned (.tuple #[]) ∧ (∃ v', RdAt w' R s (p + 1) v' ∧ OwnTms w' B v' (ts ++ [⟨4, 0, s.extract p (p + 1)⟩])) ∧ KeptR R w w' := by
  obtain ⟨c0, c1, c2, f1, f2⟩ := H.cells
  have hs := H.size
  have HH := Lib.hid H
  have HO := Lib.hid hO
  have HM := Lib.hid (rd_move' H (p + 1) ((p : Int) + 1) (by simp))
  clear H hO
  go_enter Tryz.func85, Tryz.ntmps85
  go_wp2_with fail
  refine (isDigit_any R s (p + 1) v 49 false _ HM.out h1).mono ?_
  rintro e w1 ⟨rfl, hb⟩
  have H1 := Lib.hid (HM.out.below hb)
  have Hb := Lib.hid hb
  clear hb
  obtain ⟨x, hx⟩ : ∃ x, x = p + 1 := ⟨_, rfl⟩
  have d0 := H1.out.cells.1
  have d1 := H1.out.cells.2.1
  rw [← hx] at d1
  have x1 : (p : Int) ≤ x := by omega
  have x2 : (x : Int) ≤ s.size := by omega
  have x3 : p ≤ x := by omega
  have x4 : x ≤ s.size := by omega
  have HX := Lib.hid hx
  clear hx
  go_wp2_with fail
  go_still_tail 12, (by kernel_rfl)
  change wpList _ _ _ _ _ w1.drew
  have H2 : Hid (RdAt w1.drew R s x v) := Lib.hid ⟨by have := H1.out.h; rw [← HX.out] at this; exact this, hs⟩
  have HO1 : Hid (OwnTms (w.setCell ⟨R, 1, none⟩ (.int .i64 ((p : Int) + 1))) B v ts) := Lib.hid (own_set HO.out hR 1)
  have HO2 : Hid (OwnTms w1.drew B v ts) := Lib.hid (HO1.out.below' Hb.out)
  have Hs := Lib.hid Hb.out.size
  go_wp2_with fail
  refine (put_any R B s x v ts ⟨4, 0, s.extract p x⟩ _ H2.out HO2.out (by have := Hs.out; simp at this ⊢; omega) hR hl).mono ?_
  rintro e w2 ⟨rfl, hq, hb2⟩
  have HQ := Lib.hid hq
  have HB2 := Lib.hid hb2
  clear hq hb2
  go_wp2
  go_end0
  refine ⟨rfl, ?_, ?_⟩
  · have := HQ.out; rw [HX.out] at this; exact this
  · exact (kept_of_grown (grown_trans' (grown_trans' (grownBy_set2 w R 1 _) (grown_of_below Hb.out _)) (grown_drewN' w1 1 _)) (by omega)).trans HB2.out
end Go.Proofs.YtchoelgkcnnnkaaGreatDoor
namespace Go.Proofs.YtchoelgkcnnnkaaGreatDoor
open Go.RowKit
set_option maxRecDepth 100000 in
set_option maxHeartbeats 1000000 in
theorem name1 (R B : Nat) (s : ByteArray) (p : Nat) (v : Value) (ts : List Tm) (w : World) (H : RdAt w R s p v) (hO : OwnTms w B v ts) (hB : B ≤ w.heap.size) (hR : R < B) (hl : ts.length ≤ 1000000000) (hp : p + 2 ≤ s.size) (h1 : Hid (true = Pl.digAt 49 s (p + 1))) (h2 : Hid (false = Pl.digAt 48 s (p + 2))) :
    Calls Tryz.prog 85 #[.pointer (some ⟨R, 0, none⟩)] w fun e w' => e = .returned (.tuple #[]) ∧ (∃ v', RdAt w' R s (p + 2) v' ∧ OwnTms w' B v' (ts ++ [⟨4, 0, s.extract p (p + 2)⟩])) ∧ KeptR R w w' := by
  obtain ⟨c0, c1, c2, f1, f2⟩ := H.cells
  have hs := H.size
  have HH := Lib.hid H
  have HO := Lib.hid hO
  have HM := Lib.hid (rd_move' H (p + 1) ((p : Int) + 1) (by simp))
  clear H hO
  go_enter Tryz.func85, Tryz.ntmps85
  go_wp2_with fail
  refine (isDigit_any R s (p + 1) v 49 true _ HM.out h1).mono ?_
  rintro e wa ⟨rfl, hb⟩
  have H1a := Lib.hid (HM.out.below hb)
  have Hba := Lib.hid hb
  clear hb
  obtain ⟨da0, da1, da2, ga1, ga2⟩ := H1a.out.cells
  have HMa := Lib.hid (rd_move' H1a.out (p + 2) ((p : Int) + 1 + 1) (by simp; omega))
  go_wp2_with fail
  refine (isDigit_any R s (p + 2) v 48 false _ HMa.out h2).mono ?_
  rintro e wb ⟨rfl, hb⟩
  have H1 := Lib.hid (HMa.out.below hb)
  have Hb := Lib.hid hb
  clear hb
  obtain ⟨x, hx⟩ : ∃ x, x = p + 2 := ⟨_, rfl⟩
  have d0 := H1.out.cells.1
  have d1 := H1.out.cells.2.1
  rw [← hx] at d1
  have x1 : (p : Int) ≤ x := by omega
  have x2 : (x : Int) ≤ s.size := by omega
  have x3 : p ≤ x := by omega
  have x4 : x ≤ s.size := by omega
  have HX := Lib.hid hx
  clear hx
  go_wp2_with fail
  go_still_tail 12, (by kernel_rfl)
  change wpList _ _ _ _ _ wb.drew
  have H2 : Hid (RdAt wb.drew R s x v) := Lib.hid ⟨by have := H1.out.h; rw [← HX.out] at this; exact this, hs⟩
  have HO1 : Hid (OwnTms (w.setCell ⟨R, 1, none⟩ (.int .i64 ((p : Int) + 1))) B v ts) := Lib.hid (own_set HO.out hR 1)
  have HO1a : Hid (OwnTms wa.drew B v ts) := Lib.hid (HO1.out.below' Hba.out)
  have HO1b : Hid (OwnTms (wa.setCell ⟨R, 1, none⟩ (.int .i64 ((p : Int) + 1 + 1))) B v ts) := Lib.hid (own_set (W := wa) HO1a.out hR 1)
  have HO2 : Hid (OwnTms wb.drew B v ts) := Lib.hid (HO1b.out.below' Hb.out)
  have Hs := Lib.hid Hb.out.size
  have Hsa := Lib.hid Hba.out.size
  go_wp2_with fail
  refine (put_any R B s x v ts ⟨4, 0, s.extract p x⟩ _ H2.out HO2.out (by have := Hs.out; have := Hsa.out; simp at *; omega) hR hl).mono ?_
  rintro e w2 ⟨rfl, hq, hb2⟩
  have HQ := Lib.hid hq
  have HB2 := Lib.hid hb2
  clear hq hb2
  go_wp2
  go_end0
  refine ⟨rfl, ?_, ?_⟩
  · have := HQ.out; rw [HX.out] at this; exact this
  · exact (kept_of_grown (grown_trans' (grown_trans' (grown_trans' (grownBy_set2 w R 1 _) (grown_of_below Hba.out _)) (grown_trans' (grownBy_set2 wa R 1 _) (grown_of_below Hb.out _))) (grown_drewN' wb 1 _)) (by omega)).trans HB2.out
end Go.Proofs.YtchoelgkcnnnkaaGreatDoor
