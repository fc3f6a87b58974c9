/- WALK: formula.Type. -/
import Derived.Test.YtchoelgkcnnnkaaGreatDoorTypeD
import Derived.BigQuiet
set_option linter.all false
namespace Go.Proofs.YtchoelgkcnnnkaaGreatDoor
open Go.RowKit
theorem grown_below {B b : Nat} {a w : World} (h : a.grownBy w (some b)) (hb : B ≤ b) (ha : B ≤ a.heap.size) : Below B a w :=
  ⟨h.os, h.tape, h.output, h.size, fun j hj => h.block j (by omega) (by simp; omega)⟩
theorem t1_all (q fb wb d off c : Nat) (ts : List Tm) (hl : ts.length ≤ 60) : ∀ f : Fm, T1 q fb wb d off c ts f
  | .lf t => t1_leaf q fb wb d off c ts hl t
  | .un t a => t1_un q fb wb d off c ts hl t a (t1_all q fb wb d off c ts hl a)
  | .bi t a b => t1_bi q fb wb d off c ts hl t a b (t1_all q fb wb d off c ts hl a) (t1_all q fb wb d off c ts hl b)
  | .tr t a b e => t1_tr q fb wb d off c ts hl t a b e (t1_all q fb wb d off c ts hl a) (t1_all q fb wb d off c ts hl b) (t1_all q fb wb d off c ts hl e)

set_option maxRecDepth 100000 in
set_option maxHeartbeats 1000000 in
/-- formula.Type at what is no formula. -/
theorem type_bad (v : Value) (ts : List Tm) (w : World) (hT : TermsIn w v ts) (hl : ts.length ≤ 9223372036854775807) (HV : Hid (false = Pl.validB ts)) :
    Calls Tryz.prog 17 #[v] w fun e w' => e = .returned (.tuple #[.int .i64 0, .int .i64 0, .int .i64 150]) ∧ Below w.heap.size w w' := by
  have hT' := hT
  obtain ⟨a, c, rfl, hc, _, _⟩ := hT'
  go_enter Tryz.func17, Tryz.ntmps17
  go_wp2_with (go_at_call 20; go_loud (refine (valid_any _ ts false _ (hT.below (below1 _ _)) hl HV).mono ?_); rintro e w' ⟨rfl, hb⟩; obtain ⟨hc, hf⟩ := bcell hb)
  exact bodyPost_ret (v := .tuple #[.int .i64 0, .int .i64 0, .int .i64 150]) (by simp [results, Tryz.results17, go_sem]) rfl ⟨rfl, (below1 _ _).trans (hb.mono (by simp))⟩

set_option maxRecDepth 100000 in
set_option maxHeartbeats 1000000 in
/-- formula.Type at a formula. -/
theorem type_ok (v : Value) (f : Fm) (w : World) (hT : TermsIn w v f.flat) (hwf : f.wf) (hl : f.flat.length ≤ 60) (hd : f.depth ≤ 12) :
    Calls Tryz.prog 17 #[v] w fun e w' => e = .returned (.tuple #[.int .i64 (Pl.ty f), .int .i64 (Pl.wrongAt f 0 (-1)), .int .i64 0]) ∧ Below w.heap.size w w' := by
  have HV : Hid (true = Pl.validB f.flat) := Lib.hid ((Pl.validB_iff f.flat).2 ⟨hl, f, hwf, hd, rfl⟩).symm
  have hT' := hT
  obtain ⟨a, c, rfl, hc, _, hr⟩ := hT'
  obtain ⟨d, off, rfl, hrow⟩ := hr f.flat_ne
  have HP := Lib.hid (t1_all w.heap.size)
  have hd0 := hrow.lt f.flat_ne
  have HR := Lib.hid hrow
  have HF := Lib.hid hwf
  clear hrow hwf hr
  go_enter Tryz.func17, Tryz.ntmps17
  go_wp2_with (go_at_call 20; go_loud (refine (valid_any _ f.flat true _ (hT.below (below1 _ _)) (by omega) HV).mono ?_); rintro e w' ⟨rfl, hb⟩; obtain ⟨hcc, hcf⟩ := bcell hb)
  have hs := hb.size
  have hs1 : w.heap.size + 1 ≤ w'.heap.size := by simpa using hs
  have hq : w'.cell? ⟨w.heap.size, 0, none⟩ = some (.slice (some ⟨d, off, none⟩) f.flat.length c) := by
    rw [hcc _ _ (by simp)]; simp [go_sem]
  have hB1 : Below w.heap.size w w' := (below1 _ _).trans (hb.mono (by simp))
  refine (HP.out (w'.heap.size + 1) w'.heap.size d off c f.flat hl f [] [] 0 (-1) _ HF.out (by simp) rfl ?_ (by omega) (by omega)).mono ?_
  · refine ⟨?_, hc, ?_, ?_, by omega, by omega, by omega, ?_, ?_⟩
    · exact ((below1 _ _).cell (p := ⟨w.heap.size, 0, none⟩) (show w.heap.size < _ by simp; omega)).trans (((below1 _ _).cell (p := ⟨w.heap.size, 0, none⟩) (show w.heap.size < _ by omega)).trans hq)
    · exact ((HR.out.below hB1 hd0).below (below1 _ _) (by omega)).below (below1 _ _) (by simp; omega)
    · simp; omega
    · simp [go_sem]
    · show ((w'.heap.push _).push _)[w'.heap.size]? = _
      simp [Array.getElem?_push]
  rintro e w9 ⟨rfl, h9, k9⟩
  obtain ⟨cw, fw⟩ := cells_wb h9.hw
  have hfin : Below w.heap.size w w9 := by
    have g := grown_below (B := w.heap.size) k9 (by omega) (by simp; omega)
    exact hB1.trans ((((below1 w' _).mono (by omega)).trans ((below1 _ _).mono (by simp; omega))).trans g)
  go_wp2_with fail
  go_quiet (fail)
  go_wp2
  exact bodyPost_ret (v := .tuple #[.int .i64 (Pl.ty f), .int .i64 (Pl.wrongAt f 0 (-1)), .int .i64 0]) (by simp [results, Tryz.results17, go_sem]) rfl ⟨rfl, hfin.trans (below_drewN' (Below.refl _ _) _)⟩
end Go.Proofs.YtchoelgkcnnnkaaGreatDoor
