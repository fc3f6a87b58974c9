/- WALKS: the reader's formula, first part: its short cases. Printed by genfm.py. -/
import Derived.Test.YtchoelgkcnnnkaaGreatDoorRdI
set_option linter.all false
namespace Go.Proofs.YtchoelgkcnnnkaaGreatDoor
open Go.RowKit
/-- A reading of a formula, by fuel. -/
def FmAt (R B : Nat) (s : ByteArray) (n : Nat) : Prop := ∀ (p : Nat) (v : Value) (ts : List Tm) (w : World), RdAt w R s p v → OwnTms w B v ts → B ≤ w.heap.size → Glob w → p ≤ s.size → s.size < p + n → ts.length + (s.size - p) ≤ 1000000000 →
  Calls Tryz.prog 56 #[.pointer (some ⟨R, 0, none⟩)] w (RdPost R B s ts (Pl.rd s n p) w)
set_option maxRecDepth 100000 in
set_option maxHeartbeats 2000000 in
theorem fm_eof (R B : Nat) (s : ByteArray) (p : Nat) (v : Value) (ts : List Tm) (w : World) (H : RdAt w R s p v) (hO : OwnTms w B v ts) (hB : B ≤ w.heap.size) (hR : R < B) (hl : ts.length + (s.size - p) ≤ 1000000000) (hp : s.size ≤ p) (hp2 : p ≤ s.size) (hc : Hid ((0 : Int) = ((Pl.peekB s p).toNat : Int))) :
    Calls Tryz.prog 56 #[.pointer (some ⟨R, 0, none⟩)] w (RdPost R B s ts (.bad p) w) := by
  obtain ⟨c0, c1, _, _, _⟩ := H.cells
  have hs := H.size
  have HRl := (Array.getElem?_eq_some_iff.1 H.h).1
  have HH := Lib.hid H
  have HO := Lib.hid hO
  have uu := And.intro hB (And.intro hR hl)
  clear uu
  have HNO : Hid (false = (decide ((Pl.peekB s p).toNat = 110) && decide ((Pl.peekB s (p + 1)).toNat = 111))) := Lib.hid (by have := hc.out; rw [decide_eq_false (by omega)]; rfl)
  have e1 : decide (s.size ≤ p) = true := by simp; omega
  have e2 : (p : Int) ≤ s.size := by omega
  have hmin : min (p : Int) (s.size : Int) = (p : Int) := by omega
  clear H hO
  go_enter Tryz.func56, Tryz.ntmps56
  go_wp2_with fail
  refine (peek_is R s p v 0 _ HH.out hc).mono ?_
  rintro e w1 ⟨rfl, b1⟩
  have H1 := Lib.hid (HH.out.below b1)
  have B1 := Lib.hid b1
  clear b1
  obtain ⟨d0, d1, _, _, _⟩ := H1.out.cells
  go_wp2_with fail
  go_quiet ((go_at_call 79; exact Calls.quiet_of_same (hasNo s p false _ HNO)))
  go_wp2_with fail
  clear hmin
  go_quiet (fail)
  have H2 : Hid (∀ n, RdAt (w1.drewN n) R s p v) := Lib.hid fun n => ⟨H1.out.h, hs⟩
  have G1 : Hid (∀ n, w.grownBy (w1.drewN n) (some R)) := Lib.hid fun n => grown_trans' (grown_of_below B1.out _) (grown_drewN' w1 _ _)
  go_wp2_with fail
  refine (fail_any R s p v _ (H2.out _)).mono ?_
  rintro e w2 ⟨rfl, rfl⟩
  go_wp2
  exact ⟨rfl, rfl, below_of_grown (G1.out _) (Nat.le_of_lt HRl)⟩
set_option maxRecDepth 100000 in
set_option maxHeartbeats 2000000 in
theorem fm_digit (R B : Nat) (s : ByteArray) (p : Nat) (v : Value) (ts : List Tm) (w : World) (H : RdAt w R s p v) (hO : OwnTms w B v ts) (hB : B ≤ w.heap.size) (hR : R < B) (hl : ts.length + (s.size - p) ≤ 1000000000) (hp : p < s.size) (k : Int) (hc : Hid (k = ((Pl.peekB s p).toNat : Int))) (hd : Hid (Pl.digAt 48 s p = true)) (hG : Glob w) (h8 : 8 ≤ R) (E : Nat) (HE : Hid (E = Pl.numEndOf s p)) :
    Calls Tryz.prog 56 #[.pointer (some ⟨R, 0, none⟩)] w (RdPost R B s ts (.ok (.lf ⟨1, Pl.numVal (s.extract p E).data.toList, ⟨#[]⟩⟩) E) w) := by
  obtain ⟨c0, c1, _, _, _⟩ := H.cells
  have hs := H.size
  have HRl := (Array.getElem?_eq_some_iff.1 H.h).1
  have HH := Lib.hid H
  have HO := Lib.hid hO
  have uu := And.intro hB (And.intro hR hl)
  clear uu
  have HD : Hid (true = Pl.digAt 48 s p) := Lib.hid hd.out.symm
  have HG := Lib.hid hG
  clear hG
  have HNO : Hid (false = (decide ((Pl.peekB s p).toNat = 110) && decide ((Pl.peekB s (p + 1)).toNat = 111))) := Lib.hid (by have := Pl.digAt_digs hd.out; rw [decide_eq_false (by omega)]; rfl)
  have e1 : decide (s.size ≤ p) = false := by simp; omega
  have e2 : (p : Int) ≤ s.size := by omega
  have hmin : min (p : Int) (s.size : Int) = (p : Int) := by omega
  clear H hO
  go_enter Tryz.func56, Tryz.ntmps56
  go_wp2_with fail
  refine (peek_is R s p v k _ HH.out hc).mono ?_
  rintro e w1 ⟨rfl, b1⟩
  have H1 := Lib.hid (HH.out.below b1)
  have B1 := Lib.hid b1
  clear b1
  obtain ⟨d0, d1, _, _, _⟩ := H1.out.cells
  go_wp2_with fail
  go_quiet ((go_at_call 79; exact Calls.quiet_of_same (hasNo s p false _ HNO)))
  go_wp2_with fail
  clear hmin
  go_quiet (fail)
  have H2 : Hid (∀ n, RdAt (w1.drewN n) R s p v) := Lib.hid fun n => ⟨H1.out.h, hs⟩
  have G1 : Hid (∀ n, w.grownBy (w1.drewN n) (some R)) := Lib.hid fun n => grown_trans' (grown_of_below B1.out _) (grown_drewN' w1 _ _)
  go_wp2_with fail
  refine (isDigit_any R s p v 48 true _ (H2.out _) HD).mono ?_
  rintro e w2 ⟨rfl, b2⟩
  have H3 := Lib.hid ((H2.out _).below b2)
  obtain ⟨f0, f1, _, g1, g2⟩ := H3.out.cells
  have G2 : Hid (w.grownBy w2 (some R)) := Lib.hid (grown_trans' (G1.out _) (grown_of_below b2 _))
  have O3 := Lib.hid (own_grown HO.out hR G2.out)
  have K3 := Lib.hid (kept_of_grown G2.out (Nat.le_of_lt HRl))
  clear b2
  go_wp2_with fail
  refine (number_walk R B s p E v ts _ H3.out O3.out (by have := K3.out.1.size; omega) hR (by omega) hd (HG.out.below K3.out.1 h8) h8 HE).mono ?_
  rintro e w3 ⟨rfl, hq, k3⟩
  have HQ := Lib.hid hq
  have K4 := Lib.hid k3
  clear hq k3
  go_wp2
  go_end0
  exact ⟨rfl, HQ.out, K3.out.trans K4.out⟩
set_option maxRecDepth 100000 in
set_option maxHeartbeats 2000000 in
theorem fm_yes (R B : Nat) (s : ByteArray) (p : Nat) (v : Value) (ts : List Tm) (w : World) (H : RdAt w R s p v) (hO : OwnTms w B v ts) (hB : B ≤ w.heap.size) (hR : R < B) (hl : ts.length + (s.size - p) ≤ 1000000000) (hp : p < s.size) (hc : Hid ((121 : Int) = ((Pl.peekB s p).toNat : Int))) (hw : Hid (Pl.wantFail s [121, 101, 115] p = none)) :
    Calls Tryz.prog 56 #[.pointer (some ⟨R, 0, none⟩)] w (RdPost R B s ts (.ok (.lf ⟨2, 1, ⟨#[]⟩⟩) (p + 3)) w) := by
  obtain ⟨c0, c1, _, _, _⟩ := H.cells
  have hs := H.size
  have HRl := (Array.getElem?_eq_some_iff.1 H.h).1
  have HH := Lib.hid H
  have HO := Lib.hid hO
  have uu := And.intro hB (And.intro hR hl)
  clear uu
  have HD : Hid (false = Pl.digAt 48 s p) := Lib.hid (by have := hc.out; unfold Pl.digAt; rw [decide_eq_false (p := ((Pl.peekB s p).toNat : Int) ≤ 57) (by omega), Bool.and_false])
  have HNO : Hid (false = (decide ((Pl.peekB s p).toNat = 110) && decide ((Pl.peekB s (p + 1)).toNat = 111))) := Lib.hid (by have := hc.out; rw [decide_eq_false (by omega)]; rfl)
  have e1 : decide (s.size ≤ p) = false := by simp; omega
  have e2 : (p : Int) ≤ s.size := by omega
  have hmin : min (p : Int) (s.size : Int) = (p : Int) := by omega
  clear H hO
  go_enter Tryz.func56, Tryz.ntmps56
  go_wp2_with fail
  refine (peek_is R s p v 121 _ HH.out hc).mono ?_
  rintro e w1 ⟨rfl, b1⟩
  have H1 := Lib.hid (HH.out.below b1)
  have B1 := Lib.hid b1
  clear b1
  obtain ⟨d0, d1, _, _, _⟩ := H1.out.cells
  go_wp2_with fail
  go_quiet ((go_at_call 79; exact Calls.quiet_of_same (hasNo s p false _ HNO)))
  go_wp2_with fail
  clear hmin
  go_quiet (fail)
  have H2 : Hid (∀ n, RdAt (w1.drewN n) R s p v) := Lib.hid fun n => ⟨H1.out.h, hs⟩
  have G1 : Hid (∀ n, w.grownBy (w1.drewN n) (some R)) := Lib.hid fun n => grown_trans' (grown_of_below B1.out _) (grown_drewN' w1 _ _)
  go_wp2_with fail
  refine (isDigit_any R s p v 48 false _ (H2.out _) HD).mono ?_
  rintro e w2 ⟨rfl, b2⟩
  have H3 := Lib.hid ((H2.out _).below b2)
  obtain ⟨f0, f1, _, g1, g2⟩ := H3.out.cells
  have G2 : Hid (w.grownBy w2 (some R)) := Lib.hid (grown_trans' (G1.out _) (grown_of_below b2 _))
  have O3 := Lib.hid (own_grown HO.out hR G2.out)
  have K3 := Lib.hid (kept_of_grown G2.out (Nat.le_of_lt HRl))
  clear b2
  have hb := Pl.wantFail_none hw.out (Nat.le_of_lt hp)
  simp at hb
  go_wp2_with fail
  refine (want_there R s ⟨#[121, 101, 115]⟩ p v _ H3.out (by decide) hw).mono ?_
  rintro e w3 ⟨rfl, h4, hg4⟩
  have H4 := Lib.hid h4
  have O4 := Lib.hid (own_grown O3.out hR hg4)
  have K4 := Lib.hid (K3.out.trans (kept_of_grown hg4 (by have := K3.out.1.size; omega)))
  clear h4 hg4
  go_wp2_with fail
  refine (put_any R B s (p + 3) v (ts) ⟨2, 1, ⟨#[]⟩⟩ _ H4.out O4.out (by have := K4.out.1.size; omega) hR (by omega)).mono ?_
  rintro e w5 ⟨rfl, ⟨v5, h5, o5⟩, k5⟩
  have H5 := Lib.hid h5
  have O5 := Lib.hid o5
  have KP5 := Lib.hid k5
  clear h5 o5 k5
  go_wp2
  go_end0
  exact ⟨rfl, ⟨v5, H5.out, O5.out⟩, K4.out.trans KP5.out⟩
set_option maxRecDepth 100000 in
set_option maxHeartbeats 2000000 in
theorem fm_yes_bad (R B : Nat) (s : ByteArray) (p : Nat) (v : Value) (ts : List Tm) (w : World) (H : RdAt w R s p v) (hO : OwnTms w B v ts) (hB : B ≤ w.heap.size) (hR : R < B) (hl : ts.length + (s.size - p) ≤ 1000000000) (hp : p < s.size) (hc : Hid ((121 : Int) = ((Pl.peekB s p).toNat : Int))) (q : Nat) (hw : Hid (Pl.wantFail s [121, 101, 115] p = some q)) :
    Calls Tryz.prog 56 #[.pointer (some ⟨R, 0, none⟩)] w (RdPost R B s ts (.bad q) w) := by
  obtain ⟨c0, c1, _, _, _⟩ := H.cells
  have hs := H.size
  have HRl := (Array.getElem?_eq_some_iff.1 H.h).1
  have HH := Lib.hid H
  have HO := Lib.hid hO
  have uu := And.intro hB (And.intro hR hl)
  clear uu
  have HD : Hid (false = Pl.digAt 48 s p) := Lib.hid (by have := hc.out; unfold Pl.digAt; rw [decide_eq_false (p := ((Pl.peekB s p).toNat : Int) ≤ 57) (by omega), Bool.and_false])
  have HNO : Hid (false = (decide ((Pl.peekB s p).toNat = 110) && decide ((Pl.peekB s (p + 1)).toNat = 111))) := Lib.hid (by have := hc.out; rw [decide_eq_false (by omega)]; rfl)
  have e1 : decide (s.size ≤ p) = false := by simp; omega
  have e2 : (p : Int) ≤ s.size := by omega
  have hmin : min (p : Int) (s.size : Int) = (p : Int) := by omega
  clear H hO
  go_enter Tryz.func56, Tryz.ntmps56
  go_wp2_with fail
  refine (peek_is R s p v 121 _ HH.out hc).mono ?_
  rintro e w1 ⟨rfl, b1⟩
  have H1 := Lib.hid (HH.out.below b1)
  have B1 := Lib.hid b1
  clear b1
  obtain ⟨d0, d1, _, _, _⟩ := H1.out.cells
  go_wp2_with fail
  go_quiet ((go_at_call 79; exact Calls.quiet_of_same (hasNo s p false _ HNO)))
  go_wp2_with fail
  clear hmin
  go_quiet (fail)
  have H2 : Hid (∀ n, RdAt (w1.drewN n) R s p v) := Lib.hid fun n => ⟨H1.out.h, hs⟩
  have G1 : Hid (∀ n, w.grownBy (w1.drewN n) (some R)) := Lib.hid fun n => grown_trans' (grown_of_below B1.out _) (grown_drewN' w1 _ _)
  go_wp2_with fail
  refine (isDigit_any R s p v 48 false _ (H2.out _) HD).mono ?_
  rintro e w2 ⟨rfl, b2⟩
  have H3 := Lib.hid ((H2.out _).below b2)
  obtain ⟨f0, f1, _, g1, g2⟩ := H3.out.cells
  have G2 : Hid (w.grownBy w2 (some R)) := Lib.hid (grown_trans' (G1.out _) (grown_of_below b2 _))
  have O3 := Lib.hid (own_grown HO.out hR G2.out)
  have K3 := Lib.hid (kept_of_grown G2.out (Nat.le_of_lt HRl))
  clear b2
  go_wp2_with fail
  refine (want_not R s ⟨#[121, 101, 115]⟩ p q v _ H3.out (by decide) hw).mono ?_
  rintro e w3 ⟨rfl, b3⟩
  have B3 := Lib.hid b3
  clear b3
  go_wp2
  exact ⟨rfl, rfl, K3.out.1.trans B3.out⟩
set_option maxRecDepth 100000 in
set_option maxHeartbeats 2000000 in
theorem fm_no (R B : Nat) (s : ByteArray) (p : Nat) (v : Value) (ts : List Tm) (w : World) (H : RdAt w R s p v) (hO : OwnTms w B v ts) (hB : B ≤ w.heap.size) (hR : R < B) (hl : ts.length + (s.size - p) ≤ 1000000000) (hp : p < s.size) (hc : Hid ((110 : Int) = ((Pl.peekB s p).toNat : Int))) (h1 : Hid ((Pl.peekB s (p + 1)).toNat = 111)) :
    Calls Tryz.prog 56 #[.pointer (some ⟨R, 0, none⟩)] w (RdPost R B s ts (.ok (.lf ⟨2, 0, ⟨#[]⟩⟩) (p + 2)) w) := by
  obtain ⟨c0, c1, _, _, _⟩ := H.cells
  have hs := H.size
  have HRl := (Array.getElem?_eq_some_iff.1 H.h).1
  have HH := Lib.hid H
  have HO := Lib.hid hO
  have uu := And.intro hB (And.intro hR hl)
  clear uu
  have HD : Hid (false = Pl.digAt 48 s p) := Lib.hid (by have := hc.out; unfold Pl.digAt; rw [decide_eq_false (p := ((Pl.peekB s p).toNat : Int) ≤ 57) (by omega), Bool.and_false])
  have HNO : Hid (true = (decide ((Pl.peekB s p).toNat = 110) && decide ((Pl.peekB s (p + 1)).toNat = 111))) := Lib.hid (by have := hc.out; rw [decide_eq_true (by omega), decide_eq_true h1.out]; rfl)
  have e1 : decide (s.size ≤ p) = false := by simp; omega
  have e2 : (p : Int) ≤ s.size := by omega
  have hmin : min (p : Int) (s.size : Int) = (p : Int) := by omega
  clear H hO
  go_enter Tryz.func56, Tryz.ntmps56
  go_wp2_with fail
  refine (peek_is R s p v 110 _ HH.out hc).mono ?_
  rintro e w1 ⟨rfl, b1⟩
  have H1 := Lib.hid (HH.out.below b1)
  have B1 := Lib.hid b1
  clear b1
  obtain ⟨d0, d1, _, _, _⟩ := H1.out.cells
  go_wp2_with fail
  go_quiet ((go_at_call 79; exact Calls.quiet_of_same (hasNo s p true _ HNO)))
  go_wp2_with fail
  clear hmin
  go_quiet (fail)
  have H2 : Hid (∀ n, RdAt (w1.drewN n) R s p v) := Lib.hid fun n => ⟨H1.out.h, hs⟩
  have G1 : Hid (∀ n, w.grownBy (w1.drewN n) (some R)) := Lib.hid fun n => grown_trans' (grown_of_below B1.out _) (grown_drewN' w1 _ _)
  go_wp2_with fail
  refine (isDigit_any R s p v 48 false _ (H2.out _) HD).mono ?_
  rintro e w2 ⟨rfl, b2⟩
  have H3 := Lib.hid ((H2.out _).below b2)
  obtain ⟨f0, f1, _, g1, g2⟩ := H3.out.cells
  have G2 : Hid (w.grownBy w2 (some R)) := Lib.hid (grown_trans' (G1.out _) (grown_of_below b2 _))
  have O3 := Lib.hid (own_grown HO.out hR G2.out)
  have K3 := Lib.hid (kept_of_grown G2.out (Nat.le_of_lt HRl))
  clear b2
  have hb := Pl.peek_lt' h1.out (by omega)
  have hw : Hid (Pl.wantFail s [110, 111] p = none) := Lib.hid (by
    have := hc.out
    have h1' := h1.out
    unfold Pl.wantFail
    rw [if_pos ⟨hp, UInt8.toNat_inj.1 (show (Pl.peekB s p).toNat = 110 by omega)⟩]
    unfold Pl.wantFail
    rw [if_pos ⟨hb, UInt8.toNat_inj.1 (show (Pl.peekB s (p + 1)).toNat = 111 from h1')⟩]
    rfl)
  go_wp2_with fail
  refine (want_there R s ⟨#[110, 111]⟩ p v _ H3.out (by decide) hw).mono ?_
  rintro e w3 ⟨rfl, h4, hg4⟩
  have H4 := Lib.hid h4
  have O4 := Lib.hid (own_grown O3.out hR hg4)
  have K4 := Lib.hid (K3.out.trans (kept_of_grown hg4 (by have := K3.out.1.size; omega)))
  clear h4 hg4
  go_wp2_with fail
  refine (put_any R B s (p + 2) v (ts) ⟨2, 0, ⟨#[]⟩⟩ _ H4.out O4.out (by have := K4.out.1.size; omega) hR (by omega)).mono ?_
  rintro e w5 ⟨rfl, ⟨v5, h5, o5⟩, k5⟩
  have H5 := Lib.hid h5
  have O5 := Lib.hid o5
  have KP5 := Lib.hid k5
  clear h5 o5 k5
  go_wp2
  go_end0
  exact ⟨rfl, ⟨v5, H5.out, O5.out⟩, K4.out.trans KP5.out⟩
set_option maxRecDepth 100000 in
set_option maxHeartbeats 2000000 in
theorem fm_name110 (R B : Nat) (s : ByteArray) (p : Nat) (v : Value) (ts : List Tm) (w : World) (H : RdAt w R s p v) (hO : OwnTms w B v ts) (hB : B ≤ w.heap.size) (hR : R < B) (hl : ts.length + (s.size - p) ≤ 1000000000) (hp : p < s.size) (hc : Hid ((110 : Int) = ((Pl.peekB s p).toNat : Int))) (h1 : Hid (decide ((Pl.peekB s (p + 1)).toNat = 111) = false)) (E : Nat) (HE : Hid (E = Pl.nameEnd s p)) :
    Calls Tryz.prog 56 #[.pointer (some ⟨R, 0, none⟩)] w (RdPost R B s ts (.ok (.lf ⟨4, 0, s.extract p E⟩) E) w) := by
  obtain ⟨c0, c1, _, _, _⟩ := H.cells
  have hs := H.size
  have HRl := (Array.getElem?_eq_some_iff.1 H.h).1
  have HH := Lib.hid H
  have HO := Lib.hid hO
  have uu := And.intro hB (And.intro hR hl)
  clear uu
  have HD : Hid (false = Pl.digAt 48 s p) := Lib.hid (by have := hc.out; unfold Pl.digAt; rw [decide_eq_false (p := ((Pl.peekB s p).toNat : Int) ≤ 57) (by omega), Bool.and_false])
  have HNO : Hid (false = (decide ((Pl.peekB s p).toNat = 110) && decide ((Pl.peekB s (p + 1)).toNat = 111))) := Lib.hid (by rw [h1.out, Bool.and_false])
  have e1 : decide (s.size ≤ p) = false := by simp; omega
  have e2 : (p : Int) ≤ s.size := by omega
  have hmin : min (p : Int) (s.size : Int) = (p : Int) := by omega
  clear H hO
  go_enter Tryz.func56, Tryz.ntmps56
  go_wp2_with fail
  refine (peek_is R s p v 110 _ HH.out hc).mono ?_
  rintro e w1 ⟨rfl, b1⟩
  have H1 := Lib.hid (HH.out.below b1)
  have B1 := Lib.hid b1
  clear b1
  obtain ⟨d0, d1, _, _, _⟩ := H1.out.cells
  go_wp2_with fail
  go_quiet ((go_at_call 79; exact Calls.quiet_of_same (hasNo s p false _ HNO)))
  go_wp2_with fail
  clear hmin
  go_quiet (fail)
  have H2 : Hid (∀ n, RdAt (w1.drewN n) R s p v) := Lib.hid fun n => ⟨H1.out.h, hs⟩
  have G1 : Hid (∀ n, w.grownBy (w1.drewN n) (some R)) := Lib.hid fun n => grown_trans' (grown_of_below B1.out _) (grown_drewN' w1 _ _)
  go_wp2_with fail
  refine (isDigit_any R s p v 48 false _ (H2.out _) HD).mono ?_
  rintro e w2 ⟨rfl, b2⟩
  have H3 := Lib.hid ((H2.out _).below b2)
  obtain ⟨f0, f1, _, g1, g2⟩ := H3.out.cells
  have G2 : Hid (w.grownBy w2 (some R)) := Lib.hid (grown_trans' (G1.out _) (grown_of_below b2 _))
  have O3 := Lib.hid (own_grown HO.out hR G2.out)
  have K3 := Lib.hid (kept_of_grown G2.out (Nat.le_of_lt HRl))
  clear b2
  go_wp2_with fail
  refine (name_walk R B s p E v ts _ H3.out O3.out (by have := K3.out.1.size; omega) hR (by omega) hp HE).mono ?_
  rintro e w3 ⟨rfl, hq, k3⟩
  have HQ := Lib.hid hq
  have K4 := Lib.hid k3
  clear hq k3
  go_wp2
  go_end0
  exact ⟨rfl, HQ.out, K3.out.trans K4.out⟩
set_option maxRecDepth 100000 in
set_option maxHeartbeats 2000000 in
theorem fm_name116 (R B : Nat) (s : ByteArray) (p : Nat) (v : Value) (ts : List Tm) (w : World) (H : RdAt w R s p v) (hO : OwnTms w B v ts) (hB : B ≤ w.heap.size) (hR : R < B) (hl : ts.length + (s.size - p) ≤ 1000000000) (hp : p < s.size) (hc : Hid ((116 : Int) = ((Pl.peekB s p).toNat : Int))) (E : Nat) (HE : Hid (E = Pl.nameEnd s p)) :
    Calls Tryz.prog 56 #[.pointer (some ⟨R, 0, none⟩)] w (RdPost R B s ts (.ok (.lf ⟨4, 0, s.extract p E⟩) E) w) := by
  obtain ⟨c0, c1, _, _, _⟩ := H.cells
  have hs := H.size
  have HRl := (Array.getElem?_eq_some_iff.1 H.h).1
  have HH := Lib.hid H
  have HO := Lib.hid hO
  have uu := And.intro hB (And.intro hR hl)
  clear uu
  have HD : Hid (false = Pl.digAt 48 s p) := Lib.hid (by have := hc.out; unfold Pl.digAt; rw [decide_eq_false (p := ((Pl.peekB s p).toNat : Int) ≤ 57) (by omega), Bool.and_false])
  have HNO : Hid (false = (decide ((Pl.peekB s p).toNat = 110) && decide ((Pl.peekB s (p + 1)).toNat = 111))) := Lib.hid (by have := hc.out; rw [decide_eq_false (by omega)]; rfl)
  have e1 : decide (s.size ≤ p) = false := by simp; omega
  have e2 : (p : Int) ≤ s.size := by omega
  have hmin : min (p : Int) (s.size : Int) = (p : Int) := by omega
  clear H hO
  go_enter Tryz.func56, Tryz.ntmps56
  go_wp2_with fail
  refine (peek_is R s p v 116 _ HH.out hc).mono ?_
  rintro e w1 ⟨rfl, b1⟩
  have H1 := Lib.hid (HH.out.below b1)
  have B1 := Lib.hid b1
  clear b1
  obtain ⟨d0, d1, _, _, _⟩ := H1.out.cells
  go_wp2_with fail
  go_quiet ((go_at_call 79; exact Calls.quiet_of_same (hasNo s p false _ HNO)))
  go_wp2_with fail
  clear hmin
  go_quiet (fail)
  have H2 : Hid (∀ n, RdAt (w1.drewN n) R s p v) := Lib.hid fun n => ⟨H1.out.h, hs⟩
  have G1 : Hid (∀ n, w.grownBy (w1.drewN n) (some R)) := Lib.hid fun n => grown_trans' (grown_of_below B1.out _) (grown_drewN' w1 _ _)
  go_wp2_with fail
  refine (isDigit_any R s p v 48 false _ (H2.out _) HD).mono ?_
  rintro e w2 ⟨rfl, b2⟩
  have H3 := Lib.hid ((H2.out _).below b2)
  obtain ⟨f0, f1, _, g1, g2⟩ := H3.out.cells
  have G2 : Hid (w.grownBy w2 (some R)) := Lib.hid (grown_trans' (G1.out _) (grown_of_below b2 _))
  have O3 := Lib.hid (own_grown HO.out hR G2.out)
  have K3 := Lib.hid (kept_of_grown G2.out (Nat.le_of_lt HRl))
  clear b2
  go_wp2_with fail
  refine (name_walk R B s p E v ts _ H3.out O3.out (by have := K3.out.1.size; omega) hR (by omega) hp HE).mono ?_
  rintro e w3 ⟨rfl, hq, k3⟩
  have HQ := Lib.hid hq
  have K4 := Lib.hid k3
  clear hq k3
  go_wp2
  go_end0
  exact ⟨rfl, HQ.out, K3.out.trans K4.out⟩
set_option maxRecDepth 100000 in
set_option maxHeartbeats 2000000 in
theorem fm_name115 (R B : Nat) (s : ByteArray) (p : Nat) (v : Value) (ts : List Tm) (w : World) (H : RdAt w R s p v) (hO : OwnTms w B v ts) (hB : B ≤ w.heap.size) (hR : R < B) (hl : ts.length + (s.size - p) ≤ 1000000000) (hp : p < s.size) (hc : Hid ((115 : Int) = ((Pl.peekB s p).toNat : Int))) (E : Nat) (HE : Hid (E = Pl.nameEnd s p)) :
    Calls Tryz.prog 56 #[.pointer (some ⟨R, 0, none⟩)] w (RdPost R B s ts (.ok (.lf ⟨4, 0, s.extract p E⟩) E) w) := by
  obtain ⟨c0, c1, _, _, _⟩ := H.cells
  have hs := H.size
  have HRl := (Array.getElem?_eq_some_iff.1 H.h).1
  have HH := Lib.hid H
  have HO := Lib.hid hO
  have uu := And.intro hB (And.intro hR hl)
  clear uu
  have HD : Hid (false = Pl.digAt 48 s p) := Lib.hid (by have := hc.out; unfold Pl.digAt; rw [decide_eq_false (p := ((Pl.peekB s p).toNat : Int) ≤ 57) (by omega), Bool.and_false])
  have HNO : Hid (false = (decide ((Pl.peekB s p).toNat = 110) && decide ((Pl.peekB s (p + 1)).toNat = 111))) := Lib.hid (by have := hc.out; rw [decide_eq_false (by omega)]; rfl)
  have e1 : decide (s.size ≤ p) = false := by simp; omega
  have e2 : (p : Int) ≤ s.size := by omega
  have hmin : min (p : Int) (s.size : Int) = (p : Int) := by omega
  clear H hO
  go_enter Tryz.func56, Tryz.ntmps56
  go_wp2_with fail
  refine (peek_is R s p v 115 _ HH.out hc).mono ?_
  rintro e w1 ⟨rfl, b1⟩
  have H1 := Lib.hid (HH.out.below b1)
  have B1 := Lib.hid b1
  clear b1
  obtain ⟨d0, d1, _, _, _⟩ := H1.out.cells
  go_wp2_with fail
  go_quiet ((go_at_call 79; exact Calls.quiet_of_same (hasNo s p false _ HNO)))
  go_wp2_with fail
  clear hmin
  go_quiet (fail)
  have H2 : Hid (∀ n, RdAt (w1.drewN n) R s p v) := Lib.hid fun n => ⟨H1.out.h, hs⟩
  have G1 : Hid (∀ n, w.grownBy (w1.drewN n) (some R)) := Lib.hid fun n => grown_trans' (grown_of_below B1.out _) (grown_drewN' w1 _ _)
  go_wp2_with fail
  refine (isDigit_any R s p v 48 false _ (H2.out _) HD).mono ?_
  rintro e w2 ⟨rfl, b2⟩
  have H3 := Lib.hid ((H2.out _).below b2)
  obtain ⟨f0, f1, _, g1, g2⟩ := H3.out.cells
  have G2 : Hid (w.grownBy w2 (some R)) := Lib.hid (grown_trans' (G1.out _) (grown_of_below b2 _))
  have O3 := Lib.hid (own_grown HO.out hR G2.out)
  have K3 := Lib.hid (kept_of_grown G2.out (Nat.le_of_lt HRl))
  clear b2
  go_wp2_with fail
  refine (name_walk R B s p E v ts _ H3.out O3.out (by have := K3.out.1.size; omega) hR (by omega) hp HE).mono ?_
  rintro e w3 ⟨rfl, hq, k3⟩
  have HQ := Lib.hid hq
  have K4 := Lib.hid k3
  clear hq k3
  go_wp2
  go_end0
  exact ⟨rfl, HQ.out, K3.out.trans K4.out⟩
set_option maxRecDepth 100000 in
set_option maxHeartbeats 2000000 in
theorem fm_text (R B : Nat) (s : ByteArray) (p : Nat) (v : Value) (ts : List Tm) (w : World) (H : RdAt w R s p v) (hO : OwnTms w B v ts) (hB : B ≤ w.heap.size) (hR : R < B) (hl : ts.length + (s.size - p) ≤ 1000000000) (hp : p < s.size) (hc : Hid ((39 : Int) = ((Pl.peekB s p).toNat : Int))) (E : Nat) (HE : Hid (E = Pl.textEnd s s.size (p + 1))) (HW : Hid (Pl.wantFail s [39] E = none)) :
    Calls Tryz.prog 56 #[.pointer (some ⟨R, 0, none⟩)] w (RdPost R B s ts (.ok (.lf ⟨3, 0, s.extract (p + 1) E⟩) (E + 1)) w) := by
  obtain ⟨c0, c1, _, _, _⟩ := H.cells
  have hs := H.size
  have HRl := (Array.getElem?_eq_some_iff.1 H.h).1
  have HH := Lib.hid H
  have HO := Lib.hid hO
  have uu := And.intro hB (And.intro hR hl)
  clear uu
  have HD : Hid (false = Pl.digAt 48 s p) := Lib.hid (by have := hc.out; unfold Pl.digAt; rw [decide_eq_false (by omega)]; rfl)
  have HNO : Hid (false = (decide ((Pl.peekB s p).toNat = 110) && decide ((Pl.peekB s (p + 1)).toNat = 111))) := Lib.hid (by have := hc.out; rw [decide_eq_false (by omega)]; rfl)
  have e1 : decide (s.size ≤ p) = false := by simp; omega
  have e2 : (p : Int) ≤ s.size := by omega
  have hmin : min (p : Int) (s.size : Int) = (p : Int) := by omega
  clear H hO
  go_enter Tryz.func56, Tryz.ntmps56
  go_wp2_with fail
  refine (peek_is R s p v 39 _ HH.out hc).mono ?_
  rintro e w1 ⟨rfl, b1⟩
  have H1 := Lib.hid (HH.out.below b1)
  have B1 := Lib.hid b1
  clear b1
  obtain ⟨d0, d1, _, _, _⟩ := H1.out.cells
  go_wp2_with fail
  go_quiet ((go_at_call 79; exact Calls.quiet_of_same (hasNo s p false _ HNO)))
  go_wp2_with fail
  clear hmin
  go_quiet (fail)
  have H2 : Hid (∀ n, RdAt (w1.drewN n) R s p v) := Lib.hid fun n => ⟨H1.out.h, hs⟩
  have G1 : Hid (∀ n, w.grownBy (w1.drewN n) (some R)) := Lib.hid fun n => grown_trans' (grown_of_below B1.out _) (grown_drewN' w1 _ _)
  go_wp2_with fail
  refine (isDigit_any R s p v 48 false _ (H2.out _) HD).mono ?_
  rintro e w2 ⟨rfl, b2⟩
  have H3 := Lib.hid ((H2.out _).below b2)
  obtain ⟨f0, f1, _, g1, g2⟩ := H3.out.cells
  have G2 : Hid (w.grownBy w2 (some R)) := Lib.hid (grown_trans' (G1.out _) (grown_of_below b2 _))
  have O3 := Lib.hid (own_grown HO.out hR G2.out)
  have K3 := Lib.hid (kept_of_grown G2.out (Nat.le_of_lt HRl))
  clear b2
  go_wp2_with fail
  refine (text_ok R B s p E v ts _ H3.out O3.out (by have := K3.out.1.size; omega) hR (by omega) hp HE HW).mono ?_
  rintro e w3 ⟨rfl, hq, k3⟩
  have HQ := Lib.hid hq
  have K4 := Lib.hid k3
  clear hq k3
  go_wp2
  go_end0
  exact ⟨rfl, HQ.out, K3.out.trans K4.out⟩
set_option maxRecDepth 100000 in
set_option maxHeartbeats 2000000 in
theorem fm_text_bad (R B : Nat) (s : ByteArray) (p : Nat) (v : Value) (ts : List Tm) (w : World) (H : RdAt w R s p v) (hO : OwnTms w B v ts) (hB : B ≤ w.heap.size) (hR : R < B) (hl : ts.length + (s.size - p) ≤ 1000000000) (hp : p < s.size) (hc : Hid ((39 : Int) = ((Pl.peekB s p).toNat : Int))) (E q : Nat) (HE : Hid (E = Pl.textEnd s s.size (p + 1))) (HW : Hid (Pl.wantFail s [39] E = some q)) :
    Calls Tryz.prog 56 #[.pointer (some ⟨R, 0, none⟩)] w (RdPost R B s ts (.bad q) w) := by
  obtain ⟨c0, c1, _, _, _⟩ := H.cells
  have hs := H.size
  have HRl := (Array.getElem?_eq_some_iff.1 H.h).1
  have HH := Lib.hid H
  have HO := Lib.hid hO
  have uu := And.intro hB (And.intro hR hl)
  clear uu
  have HD : Hid (false = Pl.digAt 48 s p) := Lib.hid (by have := hc.out; unfold Pl.digAt; rw [decide_eq_false (by omega)]; rfl)
  have HNO : Hid (false = (decide ((Pl.peekB s p).toNat = 110) && decide ((Pl.peekB s (p + 1)).toNat = 111))) := Lib.hid (by have := hc.out; rw [decide_eq_false (by omega)]; rfl)
  have e1 : decide (s.size ≤ p) = false := by simp; omega
  have e2 : (p : Int) ≤ s.size := by omega
  have hmin : min (p : Int) (s.size : Int) = (p : Int) := by omega
  clear H hO
  go_enter Tryz.func56, Tryz.ntmps56
  go_wp2_with fail
  refine (peek_is R s p v 39 _ HH.out hc).mono ?_
  rintro e w1 ⟨rfl, b1⟩
  have H1 := Lib.hid (HH.out.below b1)
  have B1 := Lib.hid b1
  clear b1
  obtain ⟨d0, d1, _, _, _⟩ := H1.out.cells
  go_wp2_with fail
  go_quiet ((go_at_call 79; exact Calls.quiet_of_same (hasNo s p false _ HNO)))
  go_wp2_with fail
  clear hmin
  go_quiet (fail)
  have H2 : Hid (∀ n, RdAt (w1.drewN n) R s p v) := Lib.hid fun n => ⟨H1.out.h, hs⟩
  have G1 : Hid (∀ n, w.grownBy (w1.drewN n) (some R)) := Lib.hid fun n => grown_trans' (grown_of_below B1.out _) (grown_drewN' w1 _ _)
  go_wp2_with fail
  refine (isDigit_any R s p v 48 false _ (H2.out _) HD).mono ?_
  rintro e w2 ⟨rfl, b2⟩
  have H3 := Lib.hid ((H2.out _).below b2)
  obtain ⟨f0, f1, _, g1, g2⟩ := H3.out.cells
  have G2 : Hid (w.grownBy w2 (some R)) := Lib.hid (grown_trans' (G1.out _) (grown_of_below b2 _))
  have O3 := Lib.hid (own_grown HO.out hR G2.out)
  have K3 := Lib.hid (kept_of_grown G2.out (Nat.le_of_lt HRl))
  clear b2
  go_wp2_with fail
  refine (text_bad R s p E q v _ H3.out hp HE HW).mono ?_
  rintro e w3 ⟨rfl, b3⟩
  have B3 := Lib.hid b3
  clear b3
  go_wp2
  exact ⟨rfl, rfl, K3.out.1.trans B3.out⟩
set_option maxRecDepth 100000 in
set_option maxHeartbeats 2000000 in
theorem fm_else (R B : Nat) (s : ByteArray) (p : Nat) (v : Value) (ts : List Tm) (w : World) (H : RdAt w R s p v) (hO : OwnTms w B v ts) (hB : B ≤ w.heap.size) (hR : R < B) (hl : ts.length + (s.size - p) ≤ 1000000000) (hp : p < s.size) (k : Int) (hc : Hid (k = ((Pl.peekB s p).toNat : Int))) (hd : Hid (Pl.digAt 48 s p = false)) (t121 : (k == 121) = false) (t110 : (k == 110) = false) (t116 : (k == 116) = false) (t115 : (k == 115) = false) (t39 : (k == 39) = false) (t40 : (k == 40) = false) (t63 : (k == 63) = false) (hi : Hid (-1 = Lib.indexByte [45, 33, 35] k.toNat.toUInt8)) :
    Calls Tryz.prog 56 #[.pointer (some ⟨R, 0, none⟩)] w (RdPost R B s ts (.bad p) w) := by
  obtain ⟨c0, c1, _, _, _⟩ := H.cells
  have hs := H.size
  have HRl := (Array.getElem?_eq_some_iff.1 H.h).1
  have HH := Lib.hid H
  have HO := Lib.hid hO
  have uu := And.intro hB (And.intro hR hl)
  clear uu
  have HD : Hid (false = Pl.digAt 48 s p) := Lib.hid hd.out.symm
  have HNO : Hid (false = (decide ((Pl.peekB s p).toNat = 110) && decide ((Pl.peekB s (p + 1)).toNat = 111))) := Lib.hid (by have h := hc.out; have h2 := t110; simp at h2; rw [decide_eq_false (by omega)]; rfl)
  have e1 : decide (s.size ≤ p) = false := by simp; omega
  have e2 : (p : Int) ≤ s.size := by omega
  have hmin : min (p : Int) (s.size : Int) = (p : Int) := by omega
  clear H hO
  go_enter Tryz.func56, Tryz.ntmps56
  go_wp2_with fail
  refine (peek_is R s p v k _ HH.out hc).mono ?_
  rintro e w1 ⟨rfl, b1⟩
  have H1 := Lib.hid (HH.out.below b1)
  have B1 := Lib.hid b1
  clear b1
  obtain ⟨d0, d1, _, _, _⟩ := H1.out.cells
  go_wp2_with fail
  go_quiet ((go_at_call 79; exact Calls.quiet_of_same (hasNo s p false _ HNO)))
  go_wp2_with fail
  clear hmin
  go_quiet (fail)
  have H2 : Hid (∀ n, RdAt (w1.drewN n) R s p v) := Lib.hid fun n => ⟨H1.out.h, hs⟩
  have G1 : Hid (∀ n, w.grownBy (w1.drewN n) (some R)) := Lib.hid fun n => grown_trans' (grown_of_below B1.out _) (grown_drewN' w1 _ _)
  go_wp2_with fail
  refine (isDigit_any R s p v 48 false _ (H2.out _) HD).mono ?_
  rintro e w2 ⟨rfl, b2⟩
  have H3 := Lib.hid ((H2.out _).below b2)
  obtain ⟨f0, f1, _, g1, g2⟩ := H3.out.cells
  have G2 : Hid (w.grownBy w2 (some R)) := Lib.hid (grown_trans' (G1.out _) (grown_of_below b2 _))
  have O3 := Lib.hid (own_grown HO.out hR G2.out)
  have K3 := Lib.hid (kept_of_grown G2.out (Nat.le_of_lt HRl))
  clear b2
  go_wp2_with (go_at_call 87; refine (single_is k (-1) _ hi).mono ?_; rintro e w3 ⟨rfl, rfl⟩)
  refine (fail_any R s p v _ H3.out).mono ?_
  rintro e w3 ⟨rfl, rfl⟩
  go_wp2
  exact ⟨rfl, rfl, K3.out.1⟩
set_option maxRecDepth 100000 in
set_option maxHeartbeats 2000000 in
theorem fm_un5 (R B : Nat) (s : ByteArray) (p : Nat) (v : Value) (ts : List Tm) (w : World) (H : RdAt w R s p v) (hO : OwnTms w B v ts) (hB : B ≤ w.heap.size) (hR : R < B) (hl : ts.length + (s.size - p) ≤ 1000000000) (hp : p < s.size) (hc : Hid ((45 : Int) = ((Pl.peekB s p).toNat : Int))) (n : Nat) (hG : Glob w) (h8 : 8 ≤ R) (hn : s.size < p + 1 + n) (ih : FmAt R B s n) :
    Calls Tryz.prog 56 #[.pointer (some ⟨R, 0, none⟩)] w (RdPost R B s ts ((Pl.rd s n (p + 1)).then fun a q => .ok (.un (Pl.mk0 5) a) q) w) := by
  obtain ⟨c0, c1, _, _, _⟩ := H.cells
  have hs := H.size
  have HRl := (Array.getElem?_eq_some_iff.1 H.h).1
  have HH := Lib.hid H
  have HO := Lib.hid hO
  have uu := And.intro hB (And.intro hR hl)
  clear uu
  have HD : Hid (false = Pl.digAt 48 s p) := Lib.hid (by have := hc.out; unfold Pl.digAt; rw [decide_eq_false (by omega)]; rfl)
  have HG := Lib.hid hG
  have IH := Lib.hid ih
  clear hG ih
  have HNO : Hid (false = (decide ((Pl.peekB s p).toNat = 110) && decide ((Pl.peekB s (p + 1)).toNat = 111))) := Lib.hid (by have := hc.out; rw [decide_eq_false (by omega)]; rfl)
  have e1 : decide (s.size ≤ p) = false := by simp; omega
  have e2 : (p : Int) ≤ s.size := by omega
  have hmin : min (p : Int) (s.size : Int) = (p : Int) := by omega
  clear H hO
  go_enter Tryz.func56, Tryz.ntmps56
  go_wp2_with fail
  refine (peek_is R s p v 45 _ HH.out hc).mono ?_
  rintro e w1 ⟨rfl, b1⟩
  have H1 := Lib.hid (HH.out.below b1)
  have B1 := Lib.hid b1
  clear b1
  obtain ⟨d0, d1, _, _, _⟩ := H1.out.cells
  go_wp2_with fail
  go_quiet ((go_at_call 79; exact Calls.quiet_of_same (hasNo s p false _ HNO)))
  go_wp2_with fail
  clear hmin
  go_quiet (fail)
  have H2 : Hid (∀ n, RdAt (w1.drewN n) R s p v) := Lib.hid fun n => ⟨H1.out.h, hs⟩
  have G1 : Hid (∀ n, w.grownBy (w1.drewN n) (some R)) := Lib.hid fun n => grown_trans' (grown_of_below B1.out _) (grown_drewN' w1 _ _)
  go_wp2_with fail
  refine (isDigit_any R s p v 48 false _ (H2.out _) HD).mono ?_
  rintro e w2 ⟨rfl, b2⟩
  have H3 := Lib.hid ((H2.out _).below b2)
  obtain ⟨f0, f1, _, g1, g2⟩ := H3.out.cells
  have G2 : Hid (w.grownBy w2 (some R)) := Lib.hid (grown_trans' (G1.out _) (grown_of_below b2 _))
  have O3 := Lib.hid (own_grown HO.out hR G2.out)
  have K3 := Lib.hid (kept_of_grown G2.out (Nat.le_of_lt HRl))
  clear b2
  go_wp2_with (go_at_call 87; refine (single_is 45 0 _ (Lib.hid rfl)).mono ?_; rintro e w3 ⟨rfl, rfl⟩)
  have H4 := Lib.hid (rd_move' H3.out (p + 1) ((p : Int) + 1) (by omega))
  have O4 := Lib.hid (show OwnTms (w2.setCell ⟨R, 1, none⟩ (.int .i64 ((p : Int) + 1))) B v ts from own_set O3.out hR 1)
  have K4 := Lib.hid (K3.out.trans (kept_of_grown (grownBy_set2 w2 R 1 (.int .i64 ((p : Int) + 1))) (by have := K3.out.1.size; omega)))
  refine (put_any R B s (p + 1) v (ts) ⟨5, 0, ⟨#[]⟩⟩ _ H4.out O4.out (by have := K4.out.1.size; omega) hR (by omega)).mono ?_
  rintro e w5 ⟨rfl, ⟨v5, h5, o5⟩, k5⟩
  have H5 := Lib.hid h5
  have O5 := Lib.hid o5
  have KP5 := Lib.hid k5
  clear h5 o5 k5
  have K5 := Lib.hid (K4.out.trans KP5.out)
  go_wp2_with fail
  refine (IH.out (p + 1) v5 _ _ H5.out O5.out (by have := K5.out.1.size; omega) (HG.out.below K5.out.1 h8) (by omega) (by omega) (by simp; omega)).mono ?_
  intro e w6 h6
  rcases h6.split with ⟨a, q, v6, hr, rfl, h6', o6, k6⟩ | ⟨q, hr, rfl, b6⟩
  · have HR := Lib.hid hr
    have H6 := Lib.hid h6'
    have O6 := Lib.hid o6
    have K6 := Lib.hid k6
    clear hr h6' o6 k6 h6
    go_wp2
    go_end0
    rw [HR.out]
    exact ⟨rfl, ⟨v6, H6.out, by have := O6.out; simpa [Fm.flat, Pl.mk0] using this⟩, K5.out.trans K6.out⟩
  · have HR := Lib.hid hr
    have B6 := Lib.hid b6
    clear hr b6 h6
    go_wp2
    rw [HR.out]
    exact ⟨rfl, rfl, K5.out.1.trans B6.out⟩
set_option maxRecDepth 100000 in
set_option maxHeartbeats 2000000 in
theorem fm_un6 (R B : Nat) (s : ByteArray) (p : Nat) (v : Value) (ts : List Tm) (w : World) (H : RdAt w R s p v) (hO : OwnTms w B v ts) (hB : B ≤ w.heap.size) (hR : R < B) (hl : ts.length + (s.size - p) ≤ 1000000000) (hp : p < s.size) (hc : Hid ((33 : Int) = ((Pl.peekB s p).toNat : Int))) (n : Nat) (hG : Glob w) (h8 : 8 ≤ R) (hn : s.size < p + 1 + n) (ih : FmAt R B s n) :
    Calls Tryz.prog 56 #[.pointer (some ⟨R, 0, none⟩)] w (RdPost R B s ts ((Pl.rd s n (p + 1)).then fun a q => .ok (.un (Pl.mk0 6) a) q) w) := by
  obtain ⟨c0, c1, _, _, _⟩ := H.cells
  have hs := H.size
  have HRl := (Array.getElem?_eq_some_iff.1 H.h).1
  have HH := Lib.hid H
  have HO := Lib.hid hO
  have uu := And.intro hB (And.intro hR hl)
  clear uu
  have HD : Hid (false = Pl.digAt 48 s p) := Lib.hid (by have := hc.out; unfold Pl.digAt; rw [decide_eq_false (by omega)]; rfl)
  have HG := Lib.hid hG
  have IH := Lib.hid ih
  clear hG ih
  have HNO : Hid (false = (decide ((Pl.peekB s p).toNat = 110) && decide ((Pl.peekB s (p + 1)).toNat = 111))) := Lib.hid (by have := hc.out; rw [decide_eq_false (by omega)]; rfl)
  have e1 : decide (s.size ≤ p) = false := by simp; omega
  have e2 : (p : Int) ≤ s.size := by omega
  have hmin : min (p : Int) (s.size : Int) = (p : Int) := by omega
  clear H hO
  go_enter Tryz.func56, Tryz.ntmps56
  go_wp2_with fail
  refine (peek_is R s p v 33 _ HH.out hc).mono ?_
  rintro e w1 ⟨rfl, b1⟩
  have H1 := Lib.hid (HH.out.below b1)
  have B1 := Lib.hid b1
  clear b1
  obtain ⟨d0, d1, _, _, _⟩ := H1.out.cells
  go_wp2_with fail
  go_quiet ((go_at_call 79; exact Calls.quiet_of_same (hasNo s p false _ HNO)))
  go_wp2_with fail
  clear hmin
  go_quiet (fail)
  have H2 : Hid (∀ n, RdAt (w1.drewN n) R s p v) := Lib.hid fun n => ⟨H1.out.h, hs⟩
  have G1 : Hid (∀ n, w.grownBy (w1.drewN n) (some R)) := Lib.hid fun n => grown_trans' (grown_of_below B1.out _) (grown_drewN' w1 _ _)
  go_wp2_with fail
  refine (isDigit_any R s p v 48 false _ (H2.out _) HD).mono ?_
  rintro e w2 ⟨rfl, b2⟩
  have H3 := Lib.hid ((H2.out _).below b2)
  obtain ⟨f0, f1, _, g1, g2⟩ := H3.out.cells
  have G2 : Hid (w.grownBy w2 (some R)) := Lib.hid (grown_trans' (G1.out _) (grown_of_below b2 _))
  have O3 := Lib.hid (own_grown HO.out hR G2.out)
  have K3 := Lib.hid (kept_of_grown G2.out (Nat.le_of_lt HRl))
  clear b2
  go_wp2_with (go_at_call 87; refine (single_is 33 1 _ (Lib.hid rfl)).mono ?_; rintro e w3 ⟨rfl, rfl⟩)
  have H4 := Lib.hid (rd_move' H3.out (p + 1) ((p : Int) + 1) (by omega))
  have O4 := Lib.hid (show OwnTms (w2.setCell ⟨R, 1, none⟩ (.int .i64 ((p : Int) + 1))) B v ts from own_set O3.out hR 1)
  have K4 := Lib.hid (K3.out.trans (kept_of_grown (grownBy_set2 w2 R 1 (.int .i64 ((p : Int) + 1))) (by have := K3.out.1.size; omega)))
  refine (put_any R B s (p + 1) v (ts) ⟨6, 0, ⟨#[]⟩⟩ _ H4.out O4.out (by have := K4.out.1.size; omega) hR (by omega)).mono ?_
  rintro e w5 ⟨rfl, ⟨v5, h5, o5⟩, k5⟩
  have H5 := Lib.hid h5
  have O5 := Lib.hid o5
  have KP5 := Lib.hid k5
  clear h5 o5 k5
  have K5 := Lib.hid (K4.out.trans KP5.out)
  go_wp2_with fail
  refine (IH.out (p + 1) v5 _ _ H5.out O5.out (by have := K5.out.1.size; omega) (HG.out.below K5.out.1 h8) (by omega) (by omega) (by simp; omega)).mono ?_
  intro e w6 h6
  rcases h6.split with ⟨a, q, v6, hr, rfl, h6', o6, k6⟩ | ⟨q, hr, rfl, b6⟩
  · have HR := Lib.hid hr
    have H6 := Lib.hid h6'
    have O6 := Lib.hid o6
    have K6 := Lib.hid k6
    clear hr h6' o6 k6 h6
    go_wp2
    go_end0
    rw [HR.out]
    exact ⟨rfl, ⟨v6, H6.out, by have := O6.out; simpa [Fm.flat, Pl.mk0] using this⟩, K5.out.trans K6.out⟩
  · have HR := Lib.hid hr
    have B6 := Lib.hid b6
    clear hr b6 h6
    go_wp2
    rw [HR.out]
    exact ⟨rfl, rfl, K5.out.1.trans B6.out⟩
set_option maxRecDepth 100000 in
set_option maxHeartbeats 2000000 in
theorem fm_un7 (R B : Nat) (s : ByteArray) (p : Nat) (v : Value) (ts : List Tm) (w : World) (H : RdAt w R s p v) (hO : OwnTms w B v ts) (hB : B ≤ w.heap.size) (hR : R < B) (hl : ts.length + (s.size - p) ≤ 1000000000) (hp : p < s.size) (hc : Hid ((35 : Int) = ((Pl.peekB s p).toNat : Int))) (n : Nat) (hG : Glob w) (h8 : 8 ≤ R) (hn : s.size < p + 1 + n) (ih : FmAt R B s n) :
    Calls Tryz.prog 56 #[.pointer (some ⟨R, 0, none⟩)] w (RdPost R B s ts ((Pl.rd s n (p + 1)).then fun a q => .ok (.un (Pl.mk0 7) a) q) w) := by
  obtain ⟨c0, c1, _, _, _⟩ := H.cells
  have hs := H.size
  have HRl := (Array.getElem?_eq_some_iff.1 H.h).1
  have HH := Lib.hid H
  have HO := Lib.hid hO
  have uu := And.intro hB (And.intro hR hl)
  clear uu
  have HD : Hid (false = Pl.digAt 48 s p) := Lib.hid (by have := hc.out; unfold Pl.digAt; rw [decide_eq_false (by omega)]; rfl)
  have HG := Lib.hid hG
  have IH := Lib.hid ih
  clear hG ih
  have HNO : Hid (false = (decide ((Pl.peekB s p).toNat = 110) && decide ((Pl.peekB s (p + 1)).toNat = 111))) := Lib.hid (by have := hc.out; rw [decide_eq_false (by omega)]; rfl)
  have e1 : decide (s.size ≤ p) = false := by simp; omega
  have e2 : (p : Int) ≤ s.size := by omega
  have hmin : min (p : Int) (s.size : Int) = (p : Int) := by omega
  clear H hO
  go_enter Tryz.func56, Tryz.ntmps56
  go_wp2_with fail
  refine (peek_is R s p v 35 _ HH.out hc).mono ?_
  rintro e w1 ⟨rfl, b1⟩
  have H1 := Lib.hid (HH.out.below b1)
  have B1 := Lib.hid b1
  clear b1
  obtain ⟨d0, d1, _, _, _⟩ := H1.out.cells
  go_wp2_with fail
  go_quiet ((go_at_call 79; exact Calls.quiet_of_same (hasNo s p false _ HNO)))
  go_wp2_with fail
  clear hmin
  go_quiet (fail)
  have H2 : Hid (∀ n, RdAt (w1.drewN n) R s p v) := Lib.hid fun n => ⟨H1.out.h, hs⟩
  have G1 : Hid (∀ n, w.grownBy (w1.drewN n) (some R)) := Lib.hid fun n => grown_trans' (grown_of_below B1.out _) (grown_drewN' w1 _ _)
  go_wp2_with fail
  refine (isDigit_any R s p v 48 false _ (H2.out _) HD).mono ?_
  rintro e w2 ⟨rfl, b2⟩
  have H3 := Lib.hid ((H2.out _).below b2)
  obtain ⟨f0, f1, _, g1, g2⟩ := H3.out.cells
  have G2 : Hid (w.grownBy w2 (some R)) := Lib.hid (grown_trans' (G1.out _) (grown_of_below b2 _))
  have O3 := Lib.hid (own_grown HO.out hR G2.out)
  have K3 := Lib.hid (kept_of_grown G2.out (Nat.le_of_lt HRl))
  clear b2
  go_wp2_with (go_at_call 87; refine (single_is 35 2 _ (Lib.hid rfl)).mono ?_; rintro e w3 ⟨rfl, rfl⟩)
  have H4 := Lib.hid (rd_move' H3.out (p + 1) ((p : Int) + 1) (by omega))
  have O4 := Lib.hid (show OwnTms (w2.setCell ⟨R, 1, none⟩ (.int .i64 ((p : Int) + 1))) B v ts from own_set O3.out hR 1)
  have K4 := Lib.hid (K3.out.trans (kept_of_grown (grownBy_set2 w2 R 1 (.int .i64 ((p : Int) + 1))) (by have := K3.out.1.size; omega)))
  refine (put_any R B s (p + 1) v (ts) ⟨7, 0, ⟨#[]⟩⟩ _ H4.out O4.out (by have := K4.out.1.size; omega) hR (by omega)).mono ?_
  rintro e w5 ⟨rfl, ⟨v5, h5, o5⟩, k5⟩
  have H5 := Lib.hid h5
  have O5 := Lib.hid o5
  have KP5 := Lib.hid k5
  clear h5 o5 k5
  have K5 := Lib.hid (K4.out.trans KP5.out)
  go_wp2_with fail
  refine (IH.out (p + 1) v5 _ _ H5.out O5.out (by have := K5.out.1.size; omega) (HG.out.below K5.out.1 h8) (by omega) (by omega) (by simp; omega)).mono ?_
  intro e w6 h6
  rcases h6.split with ⟨a, q, v6, hr, rfl, h6', o6, k6⟩ | ⟨q, hr, rfl, b6⟩
  · have HR := Lib.hid hr
    have H6 := Lib.hid h6'
    have O6 := Lib.hid o6
    have K6 := Lib.hid k6
    clear hr h6' o6 k6 h6
    go_wp2
    go_end0
    rw [HR.out]
    exact ⟨rfl, ⟨v6, H6.out, by have := O6.out; simpa [Fm.flat, Pl.mk0] using this⟩, K5.out.trans K6.out⟩
  · have HR := Lib.hid hr
    have B6 := Lib.hid b6
    clear hr b6 h6
    go_wp2
    rw [HR.out]
    exact ⟨rfl, rfl, K5.out.1.trans B6.out⟩
end Go.Proofs.YtchoelgkcnnnkaaGreatDoor
