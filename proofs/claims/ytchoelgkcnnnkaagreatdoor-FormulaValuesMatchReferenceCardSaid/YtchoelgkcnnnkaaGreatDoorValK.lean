/- WALK: formula.Value, where it refuses. -/
import Derived.Test.YtchoelgkcnnnkaaGreatDoorRvD
set_option linter.all false
namespace Go.Proofs.YtchoelgkcnnnkaaGreatDoor
open Go.RowKit
theorem fin28 {w wn : World} {n : Nat} {e : Int} (hA : wn.heap[n + 1]? = some (.cells #[.int .i64 0, .int .i64 0, .string ⟨#[]⟩] 48 (0, 0))) (hB : wn.heap[n + 1 + 1]? = some (.cells #[.bool false] 4 (0, 0))) (hC : wn.heap[n + 1 + 1 + 1]? = some (.cells #[.int .i64 e] 30 (0, 0))) (hb : Below w.heap.size w wn) (hn : w.heap.size ≤ n) :
    ∀ W : World, W = (((((wn.setCell ⟨n + 1, 0, none⟩ (.int .i64 0)).setCell ⟨n + 1, 1, none⟩ (.int .i64 0)).setCell ⟨n + 1, 2, none⟩ (.string ⟨#[]⟩)).setCell ⟨n + 1 + 1, 0, none⟩ (.bool false)).setCell ⟨n + 1 + 1 + 1, 0, none⟩ (.int .i64 150)) →
      W.cell? ⟨n + 1, 0, none⟩ = some (.int .i64 0) ∧ W.cell? ⟨n + 1, 1, none⟩ = some (.int .i64 0) ∧ W.cell? ⟨n + 1, 2, none⟩ = some (.string ⟨#[]⟩) ∧ W.cell? ⟨n + 1 + 1, 0, none⟩ = some (.bool false) ∧ W.cell? ⟨n + 1 + 1 + 1, 0, none⟩ = some (.int .i64 150) ∧ Below w.heap.size w W := by
  rintro W rfl
  have a1 := put_same hA (.int .i64 0) (.int .i64 0) (.string ⟨#[]⟩)
  have b1 := put_other (g := n + 1) hB (by omega) (.int .i64 0) (.int .i64 0) (.string ⟨#[]⟩)
  have c1 := put_other (g := n + 1) hC (by omega) (.int .i64 0) (.int .i64 0) (.string ⟨#[]⟩)
  have hb1 := put_below (g := n + 1) hb (by omega) (.int .i64 0) (.int .i64 0) (.string ⟨#[]⟩)
  generalize ((wn.setCell ⟨n + 1, 0, none⟩ (.int .i64 0)).setCell ⟨n + 1, 1, none⟩ (.int .i64 0)).setCell ⟨n + 1, 2, none⟩ (.string ⟨#[]⟩) = W1 at a1 b1 c1 hb1 ⊢
  have b2 := Joins.block_setCell (i := 0) b1 (.bool false)
  have a2 := (Below.heap_setCell W1 ⟨n + 1 + 1, 0, none⟩ (.bool false) (n + 1) (by simp)).trans a1
  have c2 := (Below.heap_setCell W1 ⟨n + 1 + 1, 0, none⟩ (.bool false) (n + 1 + 1 + 1) (by simp)).trans c1
  have hb2 := hb1.setCell (p := ⟨n + 1 + 1, 0, none⟩) (show w.heap.size ≤ n + 1 + 1 by omega) (.bool false)
  generalize W1.setCell ⟨n + 1 + 1, 0, none⟩ (.bool false) = W2 at a2 b2 c2 hb2 ⊢
  have c3 := Joins.block_setCell (i := 0) c2 (.int .i64 150)
  have a3 := (Below.heap_setCell W2 ⟨n + 1 + 1 + 1, 0, none⟩ (.int .i64 150) (n + 1) (by show n + 1 ≠ n + 1 + 1 + 1; omega)).trans a2
  have b3 := (Below.heap_setCell W2 ⟨n + 1 + 1 + 1, 0, none⟩ (.int .i64 150) (n + 1 + 1) (by simp)).trans b2
  have hb3 := hb2.setCell (p := ⟨n + 1 + 1 + 1, 0, none⟩) (show w.heap.size ≤ n + 1 + 1 + 1 by omega) (.int .i64 150)
  obtain ⟨r0, r1, r2⟩ := box_cells a3
  refine ⟨r0, r1, r2, ?_, ?_, hb3⟩
  · rw [Lib.cell_of_heap b3]; rfl
  · rw [Lib.cell_of_heap c3]; rfl
set_option maxRecDepth 100000 in
set_option maxHeartbeats 8000000 in
theorem value_inv (ts : List Tm) (da : Option Addr) (c : Nat) (ua : Option Addr) (un uc : Nat) (w : World) (hT : TermsIn w (.slice da ts.length c) ts) (hl : ts.length ≤ 9223372036854775807) (HV : Hid (false = Pl.validB ts)) :
    Calls Tryz.prog 28 #[.slice da ts.length c, .slice ua un uc] w (NoPost w) := by
  have HT := Lib.hid hT
  go_enter_defers Tryz.func28, Tryz.ntmps28
  go_wp2_with fail
  have W5 := world5 w (.cells #[.slice da ts.length c] 25) (.cells #[.int .i64 0, .int .i64 0, .string ⟨#[]⟩] 48) (.cells #[.bool false] 4) (.cells #[.int .i64 0] 30) _ rfl
  generalize ((((w.alloc (.cells #[.slice da ts.length c] 25)).alloc (.cells #[.int .i64 0, .int .i64 0, .string ⟨#[]⟩] 48)).alloc (.cells #[.bool false] 4)).alloc (.cells #[.int .i64 0] 30)) = w0 at W5 ⊢
  obtain ⟨hs0, q0, a0, b0, c0, hb0⟩ := W5
  have HB0 := Lib.hid hb0
  refine (type_bad _ ts _ (HT.out.below hb0) hl HV).mono ?_
  rintro e w1 ⟨rfl, hb1⟩
  have V1 := Lib.hid ((⟨q0, a0, b0, c0, hb0⟩ : VB w w0 _).keep hb1)
  obtain ⟨e1, e2, e3⟩ := V1.out.cells
  clear q0 a0 b0 c0 hb0 hb1
  have B2 := Lib.hid (V1.out.bel.setCell (p := ⟨w.heap.size + 1 + 1 + 1, 0, none⟩) (by show w.heap.size ≤ w.heap.size + 1 + 1 + 1; omega) (.int .i64 150))
  have A2 := Lib.hid ((Below.heap_setCell w1 ⟨w.heap.size + 1 + 1 + 1, 0, none⟩ (.int .i64 150) (w.heap.size + 1) (by show w.heap.size + 1 ≠ w.heap.size + 1 + 1 + 1; omega)).trans V1.out.a)
  have C2 := Lib.hid (Joins.block_setCell (i := 0) V1.out.c (.int .i64 150))
  have BB2 := Lib.hid ((Below.heap_setCell w1 ⟨w.heap.size + 1 + 1 + 1, 0, none⟩ (.int .i64 150) (w.heap.size + 1 + 1) (by simp)).trans V1.out.b)
  go_wp2_with fail
  refine (names_bad _ ts _ (HT.out.below B2.out) hl HV).mono ?_
  rintro e w3 ⟨rfl, hb3⟩
  have A3 := Lib.hid (kept_box A2.out hb3)
  have C3 := Lib.hid (kept_box C2.out hb3)
  have BB3 := Lib.hid (kept_box BB2.out hb3)
  have B3 := Lib.hid (B2.out.trans (hb3.mono B2.out.size))
  obtain ⟨a0, a1, a2⟩ := box_cells A3.out
  have af0 := Lib.frozen_of_heap A3.out 0
  have af1 := Lib.frozen_of_heap A3.out 1
  have af2 := Lib.frozen_of_heap A3.out 2
  have bf0 := Lib.frozen_of_heap BB3.out 0
  have cf0 := Lib.frozen_of_heap C3.out 0
  have b0 : w3.cell? ⟨w.heap.size + 1 + 1, 0, none⟩ = some (.bool false) := by rw [Lib.cell_of_heap BB3.out]; rfl
  have c0 : w3.cell? ⟨w.heap.size + 1 + 1 + 1, 0, none⟩ = some (.int .i64 150) := by rw [Lib.cell_of_heap C3.out]; rfl
  clear hb3 e1 e2 e3
  go_wp2_with fail
  obtain ⟨r0, r1, r2, r3, r4, hB⟩ := fin28 A3.out BB3.out C3.out B3.out (Nat.le_refl _) _ rfl
  simp [bodyPostD, Leaves, settle, results, Tryz.results28, go_sem, r0, r1, r2, r3, r4]
  exact ⟨rfl, hB⟩
set_option maxRecDepth 100000 in
set_option maxHeartbeats 8000000 in
theorem value_ty (f : Fm) (d off c : Nat) (w : World) (hcap : f.flat.length ≤ c) (hrow : RowIn w d off f.flat) (hwf : f.wf) (hl : f.flat.length ≤ 60) (hd : f.depth ≤ 12) (ua : Option Addr) (un uc : Nat) (hty : Pl.ty f = 0) :
    Calls Tryz.prog 28 #[.slice (some ⟨d, off, none⟩) f.flat.length c, .slice ua un uc] w (NoPost w) := by
  have HV : Hid (true = Pl.validB f.flat) := Lib.hid ((Pl.validB_iff f.flat).2 ⟨hl, f, hwf, hd, rfl⟩).symm
  have hd0 := hrow.lt f.flat_ne
  have HR := Lib.hid hrow
  have HW := Lib.hid hwf
  have HFN := Lib.hid f.flat_ne
  obtain ⟨tf, htf⟩ : ∃ tf, tf = Pl.ty f := ⟨_, rfl⟩
  rw [← htf] at hty
  have HTF := Lib.hid htf
  subst hty
  obtain ⟨ns, hns⟩ : ∃ ns, ns = Pl.namesOf f.flat := ⟨_, rfl⟩
  have HNS := Lib.hid hns
  clear hrow hwf htf hns
  go_enter_defers Tryz.func28, Tryz.ntmps28
  go_wp2_with fail
  have W5 := world5 w (.cells #[.slice (some ⟨d, off, none⟩) f.flat.length c] 25) (.cells #[.int .i64 0, .int .i64 0, .string ⟨#[]⟩] 48) (.cells #[.bool false] 4) (.cells #[.int .i64 0] 30) _ rfl
  generalize ((((w.alloc (.cells #[.slice (some ⟨d, off, none⟩) f.flat.length c] 25)).alloc (.cells #[.int .i64 0, .int .i64 0, .string ⟨#[]⟩] 48)).alloc (.cells #[.bool false] 4)).alloc (.cells #[.int .i64 0] 30)) = w0 at W5 ⊢
  obtain ⟨hs0, q0, a0, b0, c0, hb0⟩ := W5
  have hT0 : TermsIn w0 (.slice (some ⟨d, off, none⟩) f.flat.length c) f.flat := ⟨_, _, rfl, hcap, fun _ _ => rfl, fun _ => ⟨_, _, rfl, HR.out.below hb0 hd0⟩⟩
  refine (type_ok _ f _ hT0 HW.out hl hd).mono ?_
  rintro e w1 ⟨rfl, hb1⟩
  rw [← HTF.out]
  have V1 := Lib.hid ((⟨q0, a0, b0, c0, hb0⟩ : VB w w0 _).keep hb1)
  clear q0 a0 b0 c0 hb0 hb1 hT0
  obtain ⟨e1, e2, e3⟩ := V1.out.cells
  have V1' := Lib.hid V1.out.again
  have HT1 := Lib.hid (HR.out.below V1'.out.bel hd0)
  go_wp2_with fail
  refine (names_ok f.flat d off c _ hcap HT1.out hl HFN.out HV).mono ?_
  rintro e w3 ⟨vn, rfl, hst, hb3⟩
  rw [← HNS.out] at hst
  have V3 := Lib.hid (V1'.out.keep hb3)
  obtain ⟨na, nc, rfl, hnc, hng⟩ := names_shape hst
  clear hst hb3 hng e1 e2 e3
  obtain ⟨a0, a1, a2⟩ := box_cells V3.out.a
  have af0 := Lib.frozen_of_heap V3.out.a 0
  have af1 := Lib.frozen_of_heap V3.out.a 1
  have af2 := Lib.frozen_of_heap V3.out.a 2
  have bf0 := Lib.frozen_of_heap V3.out.b 0
  have cf0 := Lib.frozen_of_heap V3.out.c 0
  have b0 : w3.cell? ⟨w.heap.size + 1 + 1, 0, none⟩ = some (.bool false) := by rw [Lib.cell_of_heap V3.out.b]; rfl
  have c0 : w3.cell? ⟨w.heap.size + 1 + 1 + 1, 0, none⟩ = some (.int .i64 0) := by rw [Lib.cell_of_heap V3.out.c]; rfl
  go_wp2_with fail
  obtain ⟨r0, r1, r2, r3, r4, hB⟩ := fin28 V3.out.a V3.out.b V3.out.c V3.out.bel (Nat.le_refl _) _ rfl
  simp [bodyPostD, Leaves, settle, results, Tryz.results28, go_sem, r0, r1, r2, r3, r4]
  exact ⟨rfl, hB⟩
set_option maxRecDepth 100000 in
set_option maxHeartbeats 8000000 in
theorem value_len (f : Fm) (d off c : Nat) (w : World) (hcap : f.flat.length ≤ c) (hrow : RowIn w d off f.flat) (hwf : f.wf) (hl : f.flat.length ≤ 60) (hd : f.depth ≤ 12) (ua : Option Addr) (un uc : Nat) (hty : Pl.ty f ≠ 0) (hne : un ≠ (Pl.namesOf f.flat).length) :
    Calls Tryz.prog 28 #[.slice (some ⟨d, off, none⟩) f.flat.length c, .slice ua un uc] w (NoPost w) := by
  have HV : Hid (true = Pl.validB f.flat) := Lib.hid ((Pl.validB_iff f.flat).2 ⟨hl, f, hwf, hd, rfl⟩).symm
  have hd0 := hrow.lt f.flat_ne
  have HR := Lib.hid hrow
  have HW := Lib.hid hwf
  have HFN := Lib.hid f.flat_ne
  obtain ⟨tf, htf⟩ : ∃ tf, tf = Pl.ty f := ⟨_, rfl⟩
  rw [← htf] at hty
  have HTF := Lib.hid htf
  have hty1 : (tf == 0) = false := by simpa using hty
  obtain ⟨ns, hns⟩ : ∃ ns, ns = Pl.namesOf f.flat := ⟨_, rfl⟩
  have HNS := Lib.hid hns
  have hln : ((un : Int) != (ns.length : Int)) = true := by rw [bne_iff_ne]; intro e; apply hne; rw [← hns]; omega
  clear hrow hwf htf hns
  go_enter_defers Tryz.func28, Tryz.ntmps28
  go_wp2_with fail
  have W5 := world5 w (.cells #[.slice (some ⟨d, off, none⟩) f.flat.length c] 25) (.cells #[.int .i64 0, .int .i64 0, .string ⟨#[]⟩] 48) (.cells #[.bool false] 4) (.cells #[.int .i64 0] 30) _ rfl
  generalize ((((w.alloc (.cells #[.slice (some ⟨d, off, none⟩) f.flat.length c] 25)).alloc (.cells #[.int .i64 0, .int .i64 0, .string ⟨#[]⟩] 48)).alloc (.cells #[.bool false] 4)).alloc (.cells #[.int .i64 0] 30)) = w0 at W5 ⊢
  obtain ⟨hs0, q0, a0, b0, c0, hb0⟩ := W5
  have hT0 : TermsIn w0 (.slice (some ⟨d, off, none⟩) f.flat.length c) f.flat := ⟨_, _, rfl, hcap, fun _ _ => rfl, fun _ => ⟨_, _, rfl, HR.out.below hb0 hd0⟩⟩
  refine (type_ok _ f _ hT0 HW.out hl hd).mono ?_
  rintro e w1 ⟨rfl, hb1⟩
  rw [← HTF.out]
  have V1 := Lib.hid ((⟨q0, a0, b0, c0, hb0⟩ : VB w w0 _).keep hb1)
  clear q0 a0 b0 c0 hb0 hb1 hT0
  obtain ⟨e1, e2, e3⟩ := V1.out.cells
  have V1' := Lib.hid V1.out.again
  have HT1 := Lib.hid (HR.out.below V1'.out.bel hd0)
  go_wp2_with fail
  refine (names_ok f.flat d off c _ hcap HT1.out hl HFN.out HV).mono ?_
  rintro e w3 ⟨vn, rfl, hst, hb3⟩
  rw [← HNS.out] at hst
  have V3 := Lib.hid (V1'.out.keep hb3)
  obtain ⟨na, nc, rfl, hnc, hng⟩ := names_shape hst
  clear hst hb3 hng e1 e2 e3 hty hne
  obtain ⟨a0, a1, a2⟩ := box_cells V3.out.a
  have af0 := Lib.frozen_of_heap V3.out.a 0
  have af1 := Lib.frozen_of_heap V3.out.a 1
  have af2 := Lib.frozen_of_heap V3.out.a 2
  have bf0 := Lib.frozen_of_heap V3.out.b 0
  have cf0 := Lib.frozen_of_heap V3.out.c 0
  have b0 : w3.cell? ⟨w.heap.size + 1 + 1, 0, none⟩ = some (.bool false) := by rw [Lib.cell_of_heap V3.out.b]; rfl
  have c0 : w3.cell? ⟨w.heap.size + 1 + 1 + 1, 0, none⟩ = some (.int .i64 0) := by rw [Lib.cell_of_heap V3.out.c]; rfl
  go_wp2_with fail
  obtain ⟨r0, r1, r2, r3, r4, hB⟩ := fin28 V3.out.a V3.out.b V3.out.c V3.out.bel (Nat.le_refl _) _ rfl
  simp [bodyPostD, Leaves, settle, results, Tryz.results28, go_sem, r0, r1, r2, r3, r4]
  exact ⟨rfl, hB⟩
set_option maxRecDepth 100000 in
set_option maxHeartbeats 8000000 in
theorem value_val (f : Fm) (d off c : Nat) (w : World) (hcap : f.flat.length ≤ c) (hrow : RowIn w d off f.flat) (hwf : f.wf) (hl : f.flat.length ≤ 60) (hd : f.depth ≤ 12) (u : Value) (vs : List Tm) (hU : TermsIn w u vs) (hty : Pl.ty f ≠ 0) (hlen : vs.length = (Pl.namesOf f.flat).length) (j0 : Nat) (hj0 : j0 < vs.length)
    (hok : ∀ (i : Nat) n x, i < j0 → (Pl.namesOf f.flat)[i]? = some n → vs[i]? = some x → Pl.validV x = true ∧ x.k = Pl.typeOf n.data.toList)
    (hbad : ∀ n x, (Pl.namesOf f.flat)[j0]? = some n → vs[j0]? = some x → Pl.validV x = false ∨ x.k ≠ Pl.typeOf n.data.toList) :
    Calls Tryz.prog 28 #[.slice (some ⟨d, off, none⟩) f.flat.length c, u] w (NoPost w) := by
  have hmf : ∀ (fn : Fn) (first cap : Array Value) (w : World), (Instr.makeFunc fn first cap).run Tryz.prog w = .ok (.func fn first cap) w := fun _ _ _ _ => rfl
  have hmm := @run_makeMap Tryz.prog
  obtain ⟨ua, uc, rfl, huc, _, hur⟩ := hU
  have HU := Lib.hid hur
  have hnl := Pl.namesOf_len f.flat
  have hv60 : vs.length ≤ 60 := by omega
  clear hur
  have HV : Hid (true = Pl.validB f.flat) := Lib.hid ((Pl.validB_iff f.flat).2 ⟨hl, f, hwf, hd, rfl⟩).symm
  have hd0 := hrow.lt f.flat_ne
  have HR := Lib.hid hrow
  have HW := Lib.hid hwf
  have HFN := Lib.hid f.flat_ne
  obtain ⟨tf, htf⟩ : ∃ tf, tf = Pl.ty f := ⟨_, rfl⟩
  rw [← htf] at hty
  have HTF := Lib.hid htf
  have hty1 : (tf == 0) = false := by simpa using hty
  obtain ⟨ns, hns⟩ : ∃ ns, ns = Pl.namesOf f.flat := ⟨_, rfl⟩
  have HNS := Lib.hid hns
  rw [← hns] at hlen hok hbad hnl
  have HLN := Lib.hid hlen
  have HOK := Lib.hid hok
  have HBD := Lib.hid hbad
  clear hlen hok hbad
  clear hrow hwf htf hns
  go_enter_defers Tryz.func28, Tryz.ntmps28
  go_wp2_with fail
  have W5 := world5 w (.cells #[.slice (some ⟨d, off, none⟩) f.flat.length c] 25) (.cells #[.int .i64 0, .int .i64 0, .string ⟨#[]⟩] 48) (.cells #[.bool false] 4) (.cells #[.int .i64 0] 30) _ rfl
  generalize ((((w.alloc (.cells #[.slice (some ⟨d, off, none⟩) f.flat.length c] 25)).alloc (.cells #[.int .i64 0, .int .i64 0, .string ⟨#[]⟩] 48)).alloc (.cells #[.bool false] 4)).alloc (.cells #[.int .i64 0] 30)) = w0 at W5 ⊢
  obtain ⟨hs0, q0, a0, b0, c0, hb0⟩ := W5
  have hT0 : TermsIn w0 (.slice (some ⟨d, off, none⟩) f.flat.length c) f.flat := ⟨_, _, rfl, hcap, fun _ _ => rfl, fun _ => ⟨_, _, rfl, HR.out.below hb0 hd0⟩⟩
  refine (type_ok _ f _ hT0 HW.out hl hd).mono ?_
  rintro e w1 ⟨rfl, hb1⟩
  rw [← HTF.out]
  have V1 := Lib.hid ((⟨q0, a0, b0, c0, hb0⟩ : VB w w0 _).keep hb1)
  clear q0 a0 b0 c0 hb0 hb1 hT0
  obtain ⟨e1, e2, e3⟩ := V1.out.cells
  have V1' := Lib.hid V1.out.again
  have HT1 := Lib.hid (HR.out.below V1'.out.bel hd0)
  go_wp2_with fail
  refine (names_ok f.flat d off c _ hcap HT1.out hl HFN.out HV).mono ?_
  rintro e w2 ⟨vn, rfl, hst, hb2⟩
  rw [← HNS.out] at hst
  have V2 := Lib.hid (V1'.out.keep hb2)
  obtain ⟨na, nc, rfl, hnc, hng⟩ := names_shape hst
  have HNG := Lib.hid hng
  clear hst hb2 hng e1 e2 e3
  obtain ⟨e1, e2, e3⟩ := V2.out.cells
  have hln : (vs.length == ns.length) = true := by simpa using HLN.out
  have hln2 : ((vs.length : Int) != (ns.length : Int)) = false := by have := HLN.out; simp; omega
  go_wp2_with fail
  have M3 : Hid (((w2.alloc (.map #[] 0)).alloc (.cells #[.map (some w2.heap.size)] 101)).heap[w2.heap.size]? = some (.map #[] 0)) := Lib.hid (by
    show ((w2.heap.push _).push _)[w2.heap.size]? = _
    rw [Array.getElem?_push, if_neg (by simp), Array.getElem?_push, if_pos rfl])
  have MB3 : Hid (((w2.alloc (.map #[] 0)).alloc (.cells #[.map (some w2.heap.size)] 101)).heap[w2.heap.size + 1]? = some (.cells #[.map (some w2.heap.size)] 101 (0, 0))) := Lib.hid (by
    show ((w2.heap.push _).push _)[w2.heap.size + 1]? = _
    rw [Array.getElem?_push, if_pos (by simp)])
  have hb3 := below2 w2 (.map #[] 0) (.cells #[.map (some w2.heap.size)] 101)
  have V3 := Lib.hid (V2.out.keep hb3)
  have hsz3 : w2.heap.size + 1 + 1 ≤ ((w2.alloc (.map #[] 0)).alloc (.cells #[.map (some w2.heap.size)] 101)).heap.size := by
    show _ ≤ ((w2.heap.push _).push _).size
    simp
  have HN3 : Hid (ns ≠ [] → ∃ g, na = some ⟨g, 0, none⟩ ∧ g < w2.heap.size ∧ ∀ (j : Nat) (x : ByteArray), ns[j]? = some x → ((w2.alloc (.map #[] 0)).alloc (.cells #[.map (some w2.heap.size)] 101)).cell? ⟨g, j, none⟩ = some (.string x)) := Lib.hid (by
    intro hne
    obtain ⟨g, h1, h2, h3⟩ := HNG.out hne
    exact ⟨g, h1, h2, fun j x hx => (hb3.cell (p := ⟨g, j, none⟩) h2).trans (h3 j x hx)⟩)
  have hm2 : w.heap.size + 1 + 1 + 1 < w2.heap.size := V2.out.lt
  clear e1 e2 e3 hb3 hln hln2
  generalize ((w2.alloc (.map #[] 0)).alloc (.cells #[.map (some w2.heap.size)] 101)) = w3 at M3 MB3 V3 hsz3 HN3 ⊢
  obtain ⟨m, hmm2⟩ : ∃ m, m = w2.heap.size := ⟨_, rfl⟩
  rw [← hmm2] at M3 MB3 hsz3 HN3 hm2 ⊢
  clear hmm2
  go_loopw [45] (fun i wr => ∃ k : Nat, k ≤ j0 ∧ i = .int .i64 k ∧ wr.heap[m]? = some (.map (ents 0 (ns.take k) (vs.take k)).toArray k) ∧ w3.grownBy wr (some m)) (fun i _ => j0 - (intOf i).toNat)
  case atStart => exact ⟨0, Nat.zero_le _, rfl, by simpa [ents] using M3.out, World.grownBy.refl _ _⟩
  case round =>
    obtain ⟨k, hk, rfl, hmk, hg⟩ := hrel
    have VR := Lib.hid (V3.out.grown hg hm2)
    have HG := Lib.hid hg
    have HMK := Lib.hid hmk
    have hmb : wr.heap[m + 1]? = some (.cells #[.map (some m)] 101 (0, 0)) := (hg.block _ (by omega) (by simp)).trans MB3.out
    have HMB := Lib.hid hmb
    have mbc : wr.cell? ⟨m + 1, 0, none⟩ = some (.map (some m)) := by rw [Lib.cell_of_heap hmb]; rfl
    have hsr := hg.size
    clear hmk hg hmb
    have hkv : k < vs.length := by omega
    have hkl : k < ns.length := by have := HLN.out; omega
    obtain ⟨n, hn⟩ : ∃ n, ns[k]? = some n := ⟨ns[k], by simp⟩
    obtain ⟨x, hx⟩ : ∃ x, vs[k]? = some x := ⟨vs[k], by simp⟩
    obtain ⟨g, rfl, hgl, hgc⟩ := HN3.out (by intro h; rw [h] at hkl; simp at hkl)
    obtain ⟨ub, uoff, rfl, hurow⟩ := HU.out (by intro h; rw [h] at hkv; simp at hkv)
    have hgcell := HG.out.cell (hgc k n hn) (by simp; omega)
    obtain ⟨x0, x1, x2, _⟩ := (hurow.below VR.out.bel (hurow.lt (by intro h; rw [h] at hkv; simp at hkv))) k x hx
    have hns9 : n.size ≤ 9223372036854775807 := names_small HR.out (by rw [← HNS.out]; exact hn)
    have HOX : Hid (k < j0 → Pl.validV x = true ∧ x.k = Pl.typeOf n.data.toList) := Lib.hid fun h => HOK.out k n x h hn hx
    have HBX : Hid (k = j0 → Pl.validV x = false ∨ x.k ≠ Pl.typeOf n.data.toList) := Lib.hid fun h => by subst h; exact HBD.out n x hn hx
    have HP := Lib.hid (ents_push hn hx)
    have HNM := Lib.hid (not_mem_take (by rw [HNS.out]; exact Pl.namesOf_nodup _) hn)
    obtain ⟨xk, xn, xs⟩ := x
    dsimp only at HOX HBX x0 x1 x2
    clear hgc hurow hn hx
    have hubl := lt_of_cell x0
    by_cases hkj : k < j0
    · obtain ⟨hvx, hxk⟩ := HOX.out hkj
      have HVX : Hid (true = Pl.validV ⟨xk, xn, xs⟩) := Lib.hid hvx.symm
      have HTY : Hid (xk = Pl.typeOf n.data.toList) := Lib.hid hxk
      clear hvx hxk
      go_wp2_with fail
      go_region_held3 (fun w' => w'.cell? ⟨ub, uoff + k * 3, none⟩ = some (.int .i64 xk) ∧ w'.cell? ⟨ub, uoff + k * 3 + 1, none⟩ = some (.int .i64 xn) ∧ w'.cell? ⟨ub, uoff + k * 3 + 2, none⟩ = some (.string xs)) (first | exact ⟨x0, x1, x2⟩ | exact ⟨y0, y1, y2⟩ | exact ⟨z0, z1, z2⟩) (first | (go_at_call 30; refine (validValue_is ⟨xk, xn, xs⟩ true _ HVX).mono ?_; rintro e wa ⟨rfl, hba⟩; have HBA := Lib.hid hba; obtain ⟨y0, y1, y2⟩ : wa.cell? ⟨ub, uoff + k * 3, none⟩ = some (.int .i64 xk) ∧ wa.cell? ⟨ub, uoff + k * 3 + 1, none⟩ = some (.int .i64 xn) ∧ wa.cell? ⟨ub, uoff + k * 3 + 2, none⟩ = some (.string xs) := ⟨(hba.cell (p := ⟨ub, uoff + k * 3, none⟩) hubl).trans x0, (hba.cell (p := ⟨ub, uoff + k * 3 + 1, none⟩) hubl).trans x1, (hba.cell (p := ⟨ub, uoff + k * 3 + 2, none⟩) hubl).trans x2⟩; clear hba) | (go_at_call 25; refine (typeOf_is n xk _ hns9 HTY).mono ?_; rintro e wb ⟨rfl, hbb⟩; have HBB := Lib.hid hbb; have hubl2 := lt_of_cell y0; obtain ⟨z0, z1, z2⟩ : wb.cell? ⟨ub, uoff + k * 3, none⟩ = some (.int .i64 xk) ∧ wb.cell? ⟨ub, uoff + k * 3 + 1, none⟩ = some (.int .i64 xn) ∧ wb.cell? ⟨ub, uoff + k * 3 + 2, none⟩ = some (.string xs) := ⟨(hbb.cell (p := ⟨ub, uoff + k * 3, none⟩) hubl2).trans y0, (hbb.cell (p := ⟨ub, uoff + k * 3 + 1, none⟩) hubl2).trans y1, (hbb.cell (p := ⟨ub, uoff + k * 3 + 2, none⟩) hubl2).trans y2⟩; clear hbb))
      have hgb := grown_trans' (grown_trans' (grown_drewN' wr 1 (some m)) (grown_of_below HBA.out (some m))) (grown_of_below HBB.out (some m))
      have hmb2 : wb.heap[m]? = some (.map (ents 0 (ns.take k) (vs.take k)).toArray k) := by
        have h1 : wr.drew.heap[m]? = some (.map (ents 0 (ns.take k) (vs.take k)).toArray k) := HMK.out
        have h2 := (HBA.out.block m (Array.getElem?_eq_some_iff.1 h1).1).trans h1
        exact (HBB.out.block m (Array.getElem?_eq_some_iff.1 h2).1).trans h2
      have hmbc := hgb.cell mbc (by simp)
      have hmlt := (Array.getElem?_eq_some_iff.1 hmb2).1
      have hput : (Instr.mapUpdate 101 (.map (some m)) (.string n) (.agg #[.int .i64 xk, .int .i64 xn, .string xs])).run Tryz.prog wb.drew = .ok () (setMap wb.drew m ((ents 0 (ns.take k) (vs.take k)).toArray.push ⟨.string n, .agg #[.int .i64 xk, .int .i64 xn, .string xs], k⟩) (k + 1)) :=
        run_put (w := wb.drew) Tryz.underlying101 Tryz.underlying9 (show MapKept.IsKey .string (.string n) by simp [MapKept.IsKey]) hmb2 (ents_none 0 0 _ _ _ HNM.out)
      have HGB := Lib.hid hgb
      have HML := Lib.hid hmlt
      clear hgb hmb2 hmlt x0 x1 x2 y0 y1 y2 hubl hubl2 mbc hgcell
      go_wp2_with fail
      go_still_tail 6, (by kernel_rfl)
      change wpList _ _ _ _ _ wb.drew
      go_wp2
      go_roundw
      case rel => exact ⟨k + 1, by omega, by go_num, by rw [← HP.out, List.push_toArray]; exact setMap_at (w := wb.drew) HML.out (ents 0 (ns.take k) (vs.take k) ++ ([⟨.string n, .agg #[.int .i64 xk, .int .i64 xn, .string xs], k⟩] : List MapEntry)).toArray (k + 1), grown_trans' (grown_trans' HG.out HGB.out) (grown_trans' (grown_drewN' wb 1 _) (setMap_grown wb.drew m _ _))⟩
      case measure => simp [intOf]; omega
    · obtain rfl : k = j0 := by omega
      have hb := HBX.out rfl
      have VD : Hid (VB w wr.drew _) := Lib.hid ⟨VR.out.q, VR.out.a, VR.out.b, VR.out.c, VR.out.bel.drew⟩
      cases hv : Pl.validV ⟨xk, xn, xs⟩ with
      | false =>
        have HVX : Hid (false = Pl.validV ⟨xk, xn, xs⟩) := Lib.hid hv.symm
        clear hv hb
        go_wp2_with fail
        refine wp_region_noPanic ?_
        refine wp_region_held_drew (S := fun w' => w'.cell? ⟨ub, uoff + k * 3, none⟩ = some (.int .i64 xk) ∧ w'.cell? ⟨ub, uoff + k * 3 + 1, none⟩ = some (.int .i64 xn) ∧ w'.cell? ⟨ub, uoff + k * 3 + 2, none⟩ = some (.string xs)) (by kernel_rfl) ⟨x0, x1, x2⟩ (fun hHeld => ?_)
        refine wpAnyH_take (i := 0) (v := ?v0) rfl (by kernel_rfl) (by kernel_rfl) (by kernel_rfl) (fun _ _ _ h => h) (Or.inl ⟨by rfl, ?h0⟩) (by assumption) ?r0
        case h0 => (intro w hSw; (try dsimp only at hSw); go_simp; try (with_reducible rfl))
        try simp only [List.getElem_toArray, List.getElem_cons_succ, List.getElem_cons_zero, Act.put, List.setIfInBounds_toArray, List.set_cons_zero, List.set_cons_succ]
        refine wpAnyH_take (i := 1) (v := ?v1) rfl (by kernel_rfl) (by kernel_rfl) (by kernel_rfl) (fun _ _ _ h => h) (Or.inl ⟨by rfl, ?h1⟩) (by assumption) ?r1
        case h1 => (intro w hSw; (try dsimp only at hSw); go_simp; try (with_reducible rfl))
        try simp only [List.getElem_toArray, List.getElem_cons_succ, List.getElem_cons_zero, Act.put, List.setIfInBounds_toArray, List.set_cons_zero, List.set_cons_succ]
        refine wpAnyH_take (i := 2) (v := ?v2) rfl (by kernel_rfl) (by kernel_rfl) (by kernel_rfl) (fun _ _ _ h => h) (Or.inl ⟨by rfl, ?h2⟩) (by assumption) ?r2
        case h2 => (intro w hSw; (try dsimp only at hSw); go_simp; try (with_reducible rfl))
        try simp only [List.getElem_toArray, List.getElem_cons_succ, List.getElem_cons_zero, Act.put, List.setIfInBounds_toArray, List.set_cons_zero, List.set_cons_succ]
        refine wpAnyH_take (i := 3) (v := ?v3) rfl (by kernel_rfl) (by kernel_rfl) (by kernel_rfl) (fun _ _ _ h => h) (Or.inl ⟨by rfl, ?h3⟩) (by assumption) ?r3
        case h3 => (intro w hSw; (try dsimp only at hSw); go_simp; try (with_reducible rfl))
        try simp only [List.getElem_toArray, List.getElem_cons_succ, List.getElem_cons_zero, Act.put, List.setIfInBounds_toArray, List.set_cons_zero, List.set_cons_succ]
        refine wpAnyH_ready (rs := [4]) (by kernel_rfl) (by simp) ?_
        refine AllReadyH.cons (o := _) rfl (fun K hK => ?_) AllReadyH.nil
        go_simp
        go_at_call 30
        refine (validValue_is ⟨xk, xn, xs⟩ false _ HVX).mono ?_
        rintro e wa ⟨rfl, hba⟩
        have HBA := Lib.hid hba
        obtain ⟨y0, y1, y2⟩ : wa.cell? ⟨ub, uoff + k * 3, none⟩ = some (.int .i64 xk) ∧ wa.cell? ⟨ub, uoff + k * 3 + 1, none⟩ = some (.int .i64 xn) ∧ wa.cell? ⟨ub, uoff + k * 3 + 2, none⟩ = some (.string xs) := ⟨(hba.cell (p := ⟨ub, uoff + k * 3, none⟩) hubl).trans x0, (hba.cell (p := ⟨ub, uoff + k * 3 + 1, none⟩) hubl).trans x1, (hba.cell (p := ⟨ub, uoff + k * 3 + 2, none⟩) hubl).trans x2⟩
        clear hba
        refine hK.out _ _ ⟨y0, y1, y2⟩ (fun hHeld2 => ?_)
        clear hK K
        try simp only [List.getElem_toArray, List.getElem_cons_succ, List.getElem_cons_zero, Act.put, List.setIfInBounds_toArray, List.set_cons_zero, List.set_cons_succ]
        refine wpAnyH_take (i := 5) (v := ?v5) rfl (by kernel_rfl) (by kernel_rfl) (by kernel_rfl) (fun _ _ _ h => h) (Or.inl ⟨by rfl, ?h5⟩) (by assumption) ?r5
        case h5 => (intro w hSw; (try dsimp only at hSw); go_simp; try (with_reducible rfl))
        try simp only [List.getElem_toArray, List.getElem_cons_succ, List.getElem_cons_zero, Act.put, List.setIfInBounds_toArray, List.set_cons_zero, List.set_cons_succ]
        refine wpAnyH_take (i := 6) (v := ?v6) rfl (by kernel_rfl) (by kernel_rfl) (by kernel_rfl) (fun _ _ _ h => h) (Or.inl ⟨by rfl, ?h6⟩) (by assumption) ?r6
        case h6 => (intro w hSw; (try dsimp only at hSw); go_simp; try (with_reducible rfl))
        try simp only [List.getElem_toArray, List.getElem_cons_succ, List.getElem_cons_zero, Act.put, List.setIfInBounds_toArray, List.set_cons_zero, List.set_cons_succ]
        refine wpAnyH_take (i := 7) (v := undef) rfl (by kernel_rfl) (by kernel_rfl) (by kernel_rfl) (fun _ _ _ h => h) (Or.inr ⟨by rfl, rfl⟩) (by assumption) ?_
        try simp only [List.getElem_toArray, List.getElem_cons_succ, List.getElem_cons_zero, Act.put, List.setIfInBounds_toArray, List.set_cons_zero, List.set_cons_succ]
        refine wpAnyH_take (i := 8) (v := undef) rfl (by kernel_rfl) (by kernel_rfl) (by kernel_rfl) (fun _ _ _ h => h) (Or.inr ⟨by rfl, rfl⟩) (by assumption) ?_
        try simp only [List.getElem_toArray, List.getElem_cons_succ, List.getElem_cons_zero, Act.put, List.setIfInBounds_toArray, List.set_cons_zero, List.set_cons_succ]
        refine wpAnyH_take (i := 9) (v := undef) rfl (by kernel_rfl) (by kernel_rfl) (by kernel_rfl) (fun _ _ _ h => h) (Or.inr ⟨by rfl, rfl⟩) (by assumption) ?_
        try simp only [List.getElem_toArray, List.getElem_cons_succ, List.getElem_cons_zero, Act.put, List.setIfInBounds_toArray, List.set_cons_zero, List.set_cons_succ]
        refine wpAnyH_take (i := 10) (v := undef) rfl (by kernel_rfl) (by kernel_rfl) (by kernel_rfl) (fun _ _ _ h => h) (Or.inr ⟨by rfl, rfl⟩) (by assumption) ?_
        try simp only [List.getElem_toArray, List.getElem_cons_succ, List.getElem_cons_zero, Act.put, List.setIfInBounds_toArray, List.set_cons_zero, List.set_cons_succ]
        refine wpAnyH_take (i := 11) (v := undef) rfl (by kernel_rfl) (by kernel_rfl) (by kernel_rfl) (fun _ _ _ h => h) (Or.inr ⟨by rfl, rfl⟩) (by assumption) ?_
        try simp only [List.getElem_toArray, List.getElem_cons_succ, List.getElem_cons_zero, Act.put, List.setIfInBounds_toArray, List.set_cons_zero, List.set_cons_succ]
        refine wpAnyH_take (i := 12) (v := undef) rfl (by kernel_rfl) (by kernel_rfl) (by kernel_rfl) (fun _ _ _ h => h) (Or.inr ⟨by rfl, rfl⟩) (by assumption) ?_
        try simp only [List.getElem_toArray, List.getElem_cons_succ, List.getElem_cons_zero, Act.put, List.setIfInBounds_toArray, List.set_cons_zero, List.set_cons_succ]
        refine wpAnyH_take (i := 13) (v := undef) rfl (by kernel_rfl) (by kernel_rfl) (by kernel_rfl) (fun _ _ _ h => h) (Or.inr ⟨by rfl, rfl⟩) (by assumption) ?_
        try simp only [List.getElem_toArray, List.getElem_cons_succ, List.getElem_cons_zero, Act.put, List.setIfInBounds_toArray, List.set_cons_zero, List.set_cons_succ]
        refine wpAnyH_take (i := 14) (v := undef) rfl (by kernel_rfl) (by kernel_rfl) (by kernel_rfl) (fun _ _ _ h => h) (Or.inr ⟨by rfl, rfl⟩) (by assumption) ?_
        try simp only [List.getElem_toArray, List.getElem_cons_succ, List.getElem_cons_zero, Act.put, List.setIfInBounds_toArray, List.set_cons_zero, List.set_cons_succ]
        refine wpAnyH_take (i := 15) (v := ?v15) rfl (by kernel_rfl) (by kernel_rfl) (by kernel_rfl) (fun _ _ _ h => h) (Or.inl ⟨by rfl, ?h15⟩) (by assumption) ?r15
        case h15 => (intro w hSw; (try dsimp only at hSw); go_simp; try (with_reducible rfl))
        try simp only [List.getElem_toArray, List.getElem_cons_succ, List.getElem_cons_zero, Act.put, List.setIfInBounds_toArray, List.set_cons_zero, List.set_cons_succ]
        refine wpAnyH_done (by kernel_rfl) ?_ _
        refine NoPanic.normal ?_
        have V4 := Lib.hid (VD.out.keep HBA.out)
        obtain ⟨a0, a1, a2⟩ := box_cells V4.out.a
        have af0 := Lib.frozen_of_heap V4.out.a 0
        have af1 := Lib.frozen_of_heap V4.out.a 1
        have af2 := Lib.frozen_of_heap V4.out.a 2
        have bf0 := Lib.frozen_of_heap V4.out.b 0
        have cf0 := Lib.frozen_of_heap V4.out.c 0
        have b0 : wa.cell? ⟨w.heap.size + 1 + 1, 0, none⟩ = some (.bool false) := by rw [Lib.cell_of_heap V4.out.b]; rfl
        have c0 : wa.cell? ⟨w.heap.size + 1 + 1 + 1, 0, none⟩ = some (.int .i64 0) := by rw [Lib.cell_of_heap V4.out.c]; rfl
        go_wp2_with fail
        obtain ⟨r0, r1, r2, r3, r4, hB⟩ := fin28 V4.out.a V4.out.b V4.out.c V4.out.bel (Nat.le_refl _) _ rfl
        simp [bodyPostD, Leaves, settle, results, Tryz.results28, go_sem, r0, r1, r2, r3, r4]
        exact ⟨rfl, hB⟩
      | true =>
        have HVX : Hid (true = Pl.validV ⟨xk, xn, xs⟩) := Lib.hid hv.symm
        obtain ⟨ty, hty⟩ : ∃ ty, ty = Pl.typeOf n.data.toList := ⟨_, rfl⟩
        have HTY := Lib.hid hty
        have hne : (xk != ty) = true := by
          rw [bne_iff_ne]
          rcases hb with h | h
          · rw [hv] at h; cases h
          · rw [hty]; exact h
        clear hv hb hty
        go_wp2_with fail
        go_region_held3 (fun w' => w'.cell? ⟨ub, uoff + k * 3, none⟩ = some (.int .i64 xk) ∧ w'.cell? ⟨ub, uoff + k * 3 + 1, none⟩ = some (.int .i64 xn) ∧ w'.cell? ⟨ub, uoff + k * 3 + 2, none⟩ = some (.string xs)) (first | exact ⟨x0, x1, x2⟩ | exact ⟨y0, y1, y2⟩ | exact ⟨z0, z1, z2⟩) (first | (go_at_call 30; refine (validValue_is ⟨xk, xn, xs⟩ true _ HVX).mono ?_; rintro e wa ⟨rfl, hba⟩; have HBA := Lib.hid hba; obtain ⟨y0, y1, y2⟩ : wa.cell? ⟨ub, uoff + k * 3, none⟩ = some (.int .i64 xk) ∧ wa.cell? ⟨ub, uoff + k * 3 + 1, none⟩ = some (.int .i64 xn) ∧ wa.cell? ⟨ub, uoff + k * 3 + 2, none⟩ = some (.string xs) := ⟨(hba.cell (p := ⟨ub, uoff + k * 3, none⟩) hubl).trans x0, (hba.cell (p := ⟨ub, uoff + k * 3 + 1, none⟩) hubl).trans x1, (hba.cell (p := ⟨ub, uoff + k * 3 + 2, none⟩) hubl).trans x2⟩; clear hba) | (go_at_call 25; refine (typeOf_is n ty _ hns9 HTY).mono ?_; rintro e wb ⟨rfl, hbb⟩; have HBB := Lib.hid hbb; have hubl2 := lt_of_cell y0; obtain ⟨z0, z1, z2⟩ : wb.cell? ⟨ub, uoff + k * 3, none⟩ = some (.int .i64 xk) ∧ wb.cell? ⟨ub, uoff + k * 3 + 1, none⟩ = some (.int .i64 xn) ∧ wb.cell? ⟨ub, uoff + k * 3 + 2, none⟩ = some (.string xs) := ⟨(hbb.cell (p := ⟨ub, uoff + k * 3, none⟩) hubl2).trans y0, (hbb.cell (p := ⟨ub, uoff + k * 3 + 1, none⟩) hubl2).trans y1, (hbb.cell (p := ⟨ub, uoff + k * 3 + 2, none⟩) hubl2).trans y2⟩; clear hbb))
        have V4 := Lib.hid ((VD.out.keep HBA.out).keep HBB.out)
        obtain ⟨a0, a1, a2⟩ := box_cells V4.out.a
        have af0 := Lib.frozen_of_heap V4.out.a 0
        have af1 := Lib.frozen_of_heap V4.out.a 1
        have af2 := Lib.frozen_of_heap V4.out.a 2
        have bf0 := Lib.frozen_of_heap V4.out.b 0
        have cf0 := Lib.frozen_of_heap V4.out.c 0
        have b0 : wb.cell? ⟨w.heap.size + 1 + 1, 0, none⟩ = some (.bool false) := by rw [Lib.cell_of_heap V4.out.b]; rfl
        have c0 : wb.cell? ⟨w.heap.size + 1 + 1 + 1, 0, none⟩ = some (.int .i64 0) := by rw [Lib.cell_of_heap V4.out.c]; rfl
        go_wp2_with fail
        obtain ⟨r0, r1, r2, r3, r4, hB⟩ := fin28 V4.out.a V4.out.b V4.out.c V4.out.bel (Nat.le_refl _) _ rfl
        simp [bodyPostD, Leaves, settle, results, Tryz.results28, go_sem, r0, r1, r2, r3, r4]
        exact ⟨rfl, hB⟩
end Go.Proofs.YtchoelgkcnnnkaaGreatDoor
