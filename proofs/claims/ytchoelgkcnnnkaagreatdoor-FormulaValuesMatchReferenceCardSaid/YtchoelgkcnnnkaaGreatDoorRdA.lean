/- WALKS: the reader's small methods: peek, fail, isDigit. -/
import Derived.Test.YtchoelgkcnnnkaaGreatDoorDepths
import Derived.Test.YtchoelgkcnnnkaaGreatDoorPlH
import Derived.BigQuiet
set_option linter.all false
namespace Go.Proofs.YtchoelgkcnnnkaaGreatDoor
open Go.RowKit

/-- A reader in block R: its text, its place, its terms. -/
structure RdAt (w : World) (R : Nat) (s : ByteArray) (p : Nat) (v : Value) : Prop where
  h : w.heap[R]? = some (.cells #[.string s, .int .i64 p, v] 93 (0, 0))
  size : s.size ≤ 140737488355328
theorem RdAt.cells {w : World} {R : Nat} {s : ByteArray} {p : Nat} {v : Value} (h : RdAt w R s p v) :
    w.cell? ⟨R, 0, none⟩ = some (.string s) ∧ w.cell? ⟨R, 1, none⟩ = some (.int .i64 p) ∧ w.cell? ⟨R, 2, none⟩ = some v ∧ w.frozen? ⟨R, 1, none⟩ = false ∧ w.frozen? ⟨R, 2, none⟩ = false := by
  refine ⟨?_, ?_, ?_, Lib.frozen_of_heap h.h 1, Lib.frozen_of_heap h.h 2⟩ <;> (rw [Lib.cell_of_heap h.h]; rfl)
namespace Pl
end Pl
set_option maxRecDepth 100000 in
set_option maxHeartbeats 1000000 in
theorem peek_any (R : Nat) (s : ByteArray) (p : Nat) (v : Value) (r : UInt8) (w : World) (H : RdAt w R s p v) (HR : Hid (r = Pl.peekB s p)) :
    Calls Tryz.prog 78 #[.pointer (some ⟨R, 0, none⟩)] w fun e w' => e = .returned (.int .u8 r.toNat) ∧ Below w.heap.size w w' := by
  obtain ⟨c0, c1, _, _, _⟩ := H.cells
  have hs := H.size
  clear H
  by_cases hp : p < s.size
  · have hp' : decide ((p : Int) ≥ s.size) = false := by simp; omega
    go_enter Tryz.func78, Tryz.ntmps78
    go_wp2_with fail
    go_quiet (fail)
    go_wp2_with fail
    go_quiet (fail)
    go_wp2_with fail
    go_ret
    refine ⟨ret_int ?_, below_drewN' (below_drewN' (Below.refl _ _) _) _⟩
    rw [HR.out]; simp [Pl.peekB, hp]
  · go_enter Tryz.func78, Tryz.ntmps78
    go_wp2_with fail
    go_quiet (fail)
    go_wp2_with fail
    go_ret
    refine ⟨ret_int ?_, below_drewN' (Below.refl _ _) _⟩
    rw [HR.out]; simp [Pl.peekB, hp]
set_option maxRecDepth 100000 in
set_option maxHeartbeats 1000000 in
theorem fail_any (R : Nat) (s : ByteArray) (p : Nat) (v : Value) (w : World) (H : RdAt w R s p v) :
    Calls Tryz.prog 80 #[.pointer (some ⟨R, 0, none⟩)] w fun e w' => e = .panicked [{ v := .iface 94 (.int .i64 p), recovered := false }] ∧ w' = w := by
  obtain ⟨c0, c1, _, _, _⟩ := H.cells
  have hs := H.size
  clear H
  go_enter Tryz.func80, Tryz.ntmps80
  go_wp2_with fail
  exact ⟨rfl, rfl, rfl⟩
theorem RdAt.below {w w' : World} {R : Nat} {s : ByteArray} {p : Nat} {v : Value} (h : RdAt w R s p v) (hb : Below w.heap.size w w') : RdAt w' R s p v :=
  ⟨by rw [hb.block R (Array.getElem?_eq_some_iff.1 h.h).1]; exact h.h, h.size⟩
set_option maxRecDepth 100000 in
set_option maxHeartbeats 1000000 in
/-- r.isDigit(c): is the byte at the place one of c..'9'? -/
theorem isDigit_any (R : Nat) (s : ByteArray) (p : Nat) (v : Value) (c : Int) (r : Bool) (w : World) (H : RdAt w R s p v) (HR : Hid (r = (decide (c ≤ (Pl.peekB s p).toNat) && decide (((Pl.peekB s p).toNat : Int) ≤ 57)))) :
    Calls Tryz.prog 81 #[.pointer (some ⟨R, 0, none⟩), .int .u8 c] w fun e w' => e = .returned (.bool r) ∧ Below w.heap.size w w' := by
  obtain ⟨x, hx⟩ : ∃ x, x = Pl.peekB s p := ⟨_, rfl⟩
  rw [← hx] at HR
  have HX := Lib.hid hx
  clear hx
  have HH := Lib.hid H
  clear H
  by_cases h1 : c ≤ x.toNat
  · go_enter Tryz.func81, Tryz.ntmps81
    go_wp2_with fail
    refine (peek_any R s p v x _ HH.out HX).mono ?_
    rintro e w1 ⟨rfl, b1⟩
    go_wp2_with fail
    refine (peek_any R s p v x _ (HH.out.below b1) HX).mono ?_
    rintro e w2 ⟨rfl, b2⟩
    have B := Lib.hid (b1.trans (b2.mono b1.size))
    clear b1 b2
    go_wp2_with fail
    go_ret
    refine ⟨ret_bool ?_, B.out⟩
    rw [HR.out]; simp [h1]
  · go_enter Tryz.func81, Tryz.ntmps81
    go_wp2_with fail
    refine (peek_any R s p v x _ HH.out HX).mono ?_
    rintro e w1 ⟨rfl, b1⟩
    go_wp2_with fail
    go_ret
    refine ⟨ret_bool ?_, b1⟩
    rw [HR.out]; simp; omega
end Go.Proofs.YtchoelgkcnnnkaaGreatDoor
