/- WALK: formula.Print's closure at terms with operands. · WALK: formula.Print's closure at terms with two operands. · WALK: formula.Print's closure at terms with two operands. · WALK: formula.Print's closure at terms with two operands. · WALK: formula.Print's closure at a choice; then at every formula. · WALK: formula.Print. -/
import Derived.Test.YtchoelgkcnnnkaaGreatDoorPrintA
set_option linter.all false
namespace Go.Proofs.YtchoelgkcnnnkaaGreatDoor
open Go.RowKit
set_option maxRecDepth 100000 in
set_option maxHeartbeats 1000000 in
theorem p1_un5 (q b p d off c : Nat) (ts : List Tm) (hl : ts.length ≤ 60) (t : Tm) (f : Fm) (ht : t.k = 5) (ih : P1 q b p d off c ts f) : P1 q b p d off c ts (.un t f) := by
  intro pre post i l w hwf hts hi h hlen
  have hget := mid_get (t := t) (post := f.flat ++ post) (by simpa [Fm.flat] using hts)
  have hlt : pre.length < ts.length := (List.getElem?_eq_some_iff.1 hget).1
  obtain ⟨m0, m1, m2, m3⟩ := h.row pre.length t hget
  have hv := h.hv
  have hcap := h.cap
  have hfc := h.cellf
  obtain ⟨k, n, s⟩ := t
  simp only at *
  subst ht hi
  have HL := Lib.hid hlen
  have H := Lib.hid h
  have HT := Lib.hid hts
  have HW := Lib.hid hwf
  clear h hlen hwf hts m3 hget
  have hlen2 : l.length + 1 + (Pl.text f).length ≤ 140737488355328 := by have := HL.out; simp [Pl.text] at this; omega
  go_enter Tryz.func40, Tryz.ntmps40
  go_wp2_with fail
  refine (ps_wb 45 _ rfl (H.out.below (below1 _ _)) (by omega)).mono ?_
  rintro e w1 ⟨rfl, h1, k1⟩
  have hf1 := h1.cellf
  go_wp2_with fail
  refine (ih (pre ++ [⟨5, n, s⟩]) post _ _ _ HW.out.2.2 (by rw [HT.out]; simp [Fm.flat]) (by simp) h1 (by simp; omega)).mono ?_
  rintro e w9 ⟨rfl, h9, k9⟩
  go_wp2_with fail
  go_ret
  refine ⟨ret_int (by simp [Fm.flat]; omega), ?_, ((KeptB.below (below1 _ _) (Nat.le_of_lt H.out.hb.lt)).trans k1).trans k9⟩
  have : Pl.text (.un ⟨5, n, s⟩ f) = [45] ++ Pl.text f := by simp [Pl.text, Pl.opByte]
  rw [this, ← List.append_assoc]; exact h9

set_option maxRecDepth 100000 in
set_option maxHeartbeats 1000000 in
theorem p1_un6 (q b p d off c : Nat) (ts : List Tm) (hl : ts.length ≤ 60) (t : Tm) (f : Fm) (ht : t.k = 6) (ih : P1 q b p d off c ts f) : P1 q b p d off c ts (.un t f) := by
  intro pre post i l w hwf hts hi h hlen
  have hget := mid_get (t := t) (post := f.flat ++ post) (by simpa [Fm.flat] using hts)
  have hlt : pre.length < ts.length := (List.getElem?_eq_some_iff.1 hget).1
  obtain ⟨m0, m1, m2, m3⟩ := h.row pre.length t hget
  have hv := h.hv
  have hcap := h.cap
  have hfc := h.cellf
  obtain ⟨k, n, s⟩ := t
  simp only at *
  subst ht hi
  have HL := Lib.hid hlen
  have H := Lib.hid h
  have HT := Lib.hid hts
  have HW := Lib.hid hwf
  clear h hlen hwf hts m3 hget
  have hlen2 : l.length + 1 + (Pl.text f).length ≤ 140737488355328 := by have := HL.out; simp [Pl.text] at this; omega
  go_enter Tryz.func40, Tryz.ntmps40
  go_wp2_with fail
  refine (ps_wb 33 _ rfl (H.out.below (below1 _ _)) (by omega)).mono ?_
  rintro e w1 ⟨rfl, h1, k1⟩
  have hf1 := h1.cellf
  go_wp2_with fail
  refine (ih (pre ++ [⟨6, n, s⟩]) post _ _ _ HW.out.2.2 (by rw [HT.out]; simp [Fm.flat]) (by simp) h1 (by simp; omega)).mono ?_
  rintro e w9 ⟨rfl, h9, k9⟩
  go_wp2_with fail
  go_ret
  refine ⟨ret_int (by simp [Fm.flat]; omega), ?_, ((KeptB.below (below1 _ _) (Nat.le_of_lt H.out.hb.lt)).trans k1).trans k9⟩
  have : Pl.text (.un ⟨6, n, s⟩ f) = [33] ++ Pl.text f := by simp [Pl.text, Pl.opByte]
  rw [this, ← List.append_assoc]; exact h9

set_option maxRecDepth 100000 in
set_option maxHeartbeats 1000000 in
theorem p1_un7 (q b p d off c : Nat) (ts : List Tm) (hl : ts.length ≤ 60) (t : Tm) (f : Fm) (ht : t.k = 7) (ih : P1 q b p d off c ts f) : P1 q b p d off c ts (.un t f) := by
  intro pre post i l w hwf hts hi h hlen
  have hget := mid_get (t := t) (post := f.flat ++ post) (by simpa [Fm.flat] using hts)
  have hlt : pre.length < ts.length := (List.getElem?_eq_some_iff.1 hget).1
  obtain ⟨m0, m1, m2, m3⟩ := h.row pre.length t hget
  have hv := h.hv
  have hcap := h.cap
  have hfc := h.cellf
  obtain ⟨k, n, s⟩ := t
  simp only at *
  subst ht hi
  have HL := Lib.hid hlen
  have H := Lib.hid h
  have HT := Lib.hid hts
  have HW := Lib.hid hwf
  clear h hlen hwf hts m3 hget
  have hlen2 : l.length + 1 + (Pl.text f).length ≤ 140737488355328 := by have := HL.out; simp [Pl.text] at this; omega
  go_enter Tryz.func40, Tryz.ntmps40
  go_wp2_with fail
  refine (ps_wb 35 _ rfl (H.out.below (below1 _ _)) (by omega)).mono ?_
  rintro e w1 ⟨rfl, h1, k1⟩
  have hf1 := h1.cellf
  go_wp2_with fail
  refine (ih (pre ++ [⟨7, n, s⟩]) post _ _ _ HW.out.2.2 (by rw [HT.out]; simp [Fm.flat]) (by simp) h1 (by simp; omega)).mono ?_
  rintro e w9 ⟨rfl, h9, k9⟩
  go_wp2_with fail
  go_ret
  refine ⟨ret_int (by simp [Fm.flat]; omega), ?_, ((KeptB.below (below1 _ _) (Nat.le_of_lt H.out.hb.lt)).trans k1).trans k9⟩
  have : Pl.text (.un ⟨7, n, s⟩ f) = [35] ++ Pl.text f := by simp [Pl.text, Pl.opByte]
  rw [this, ← List.append_assoc]; exact h9

end Go.Proofs.YtchoelgkcnnnkaaGreatDoor
namespace Go.Proofs.YtchoelgkcnnnkaaGreatDoor
open Go.RowKit
set_option maxRecDepth 100000 in
set_option maxHeartbeats 1000000 in
theorem p1_bi8 (q b p d off c : Nat) (ts : List Tm) (hl : ts.length ≤ 60) (t : Tm) (f g : Fm) (ht : t.k = 8) (ihf : P1 q b p d off c ts f) (ihg : P1 q b p d off c ts g) : P1 q b p d off c ts (.bi t f g) := by
  intro pre post i l w hwf hts hi h hlen
  have hget := mid_get (t := t) (post := f.flat ++ (g.flat ++ post)) (by simpa [Fm.flat] using hts)
  have hlt : pre.length < ts.length := (List.getElem?_eq_some_iff.1 hget).1
  obtain ⟨m0, m1, m2, m3⟩ := h.row pre.length t hget
  have hv := h.hv
  have hcap := h.cap
  obtain ⟨k, n, s⟩ := t
  simp only at *
  subst ht hi
  have HL := Lib.hid hlen
  have H := Lib.hid h
  have HT := Lib.hid hts
  have HW := Lib.hid hwf
  have hlb := h.hb.lt
  have hfl : (f.flat.length : Int) + g.flat.length < 60 := by have := congrArg List.length hts; simp [Fm.flat] at this; omega
  have hfl2 : (pre.length : Int) + 1 + f.flat.length + g.flat.length ≤ 60 := by have := congrArg List.length hts; simp [Fm.flat] at this; omega
  clear h hlen hwf hts m3 hget
  have hlen2 : l.length + 3 + (Pl.text f).length + (Pl.text g).length ≤ 140737488355328 := by have := HL.out; simp [Pl.text] at this; omega
  have T0 := TBox.new w ⟨8, n, s⟩
  go_enter Tryz.func40, Tryz.ntmps40
  go_wp2_with fail
  refine (ps_wb 40 _ rfl (H.out.below (below1 _ _)) (by omega)).mono ?_
  rintro e w1 ⟨rfl, h1, k1⟩
  have T1 := T0.kept k1 (by omega)
  have hf1 := h1.cellf
  go_wp2_with fail
  refine (ihf (pre ++ [⟨8, n, s⟩]) (g.flat ++ post) _ _ _ HW.out.2.2.1 (by rw [HT.out]; simp [Fm.flat]) (by simp) h1 (by simp; omega)).mono ?_
  rintro e w2 ⟨rfl, h2, k2⟩
  have T2 := T1.kept k2 (by omega)
  obtain ⟨c0, c1, c2⟩ := T2.cells
  go_wp2_with fail
  refine (ps_wb 43 _ rfl h2 (by simp; omega)).mono ?_
  rintro e w3 ⟨rfl, h3, k3⟩
  have hf3 := h3.cellf
  go_wp2_with fail
  refine (ihg (pre ++ [⟨8, n, s⟩] ++ f.flat) post _ _ _ HW.out.2.2.2 (by rw [HT.out]; simp [Fm.flat]) (by simp; omega) h3 (by simp; omega)).mono ?_
  rintro e w4 ⟨rfl, h4, k4⟩
  go_wp2_with fail
  refine (ps_wb 41 _ rfl h4 (by simp; omega)).mono ?_
  rintro e w9 ⟨rfl, h9, k9⟩
  go_wp2_with fail
  go_ret
  refine ⟨ret_int (by simp [Fm.flat]; omega), ?_, ((((((KeptB.below (below1 _ _) (Nat.le_of_lt H.out.hb.lt)).trans k1).trans k2).trans k3).trans k4).trans k9)⟩
  have : l ++ Pl.text (.bi ⟨8, n, s⟩ f g) = l ++ [40] ++ Pl.text f ++ [43] ++ Pl.text g ++ [41] := by simp [Pl.text, Pl.opByte]
  rw [this]; exact h9

set_option maxRecDepth 100000 in
set_option maxHeartbeats 1000000 in
theorem p1_bi9 (q b p d off c : Nat) (ts : List Tm) (hl : ts.length ≤ 60) (t : Tm) (f g : Fm) (ht : t.k = 9) (ihf : P1 q b p d off c ts f) (ihg : P1 q b p d off c ts g) : P1 q b p d off c ts (.bi t f g) := by
  intro pre post i l w hwf hts hi h hlen
  have hget := mid_get (t := t) (post := f.flat ++ (g.flat ++ post)) (by simpa [Fm.flat] using hts)
  have hlt : pre.length < ts.length := (List.getElem?_eq_some_iff.1 hget).1
  obtain ⟨m0, m1, m2, m3⟩ := h.row pre.length t hget
  have hv := h.hv
  have hcap := h.cap
  obtain ⟨k, n, s⟩ := t
  simp only at *
  subst ht hi
  have HL := Lib.hid hlen
  have H := Lib.hid h
  have HT := Lib.hid hts
  have HW := Lib.hid hwf
  have hlb := h.hb.lt
  have hfl : (f.flat.length : Int) + g.flat.length < 60 := by have := congrArg List.length hts; simp [Fm.flat] at this; omega
  have hfl2 : (pre.length : Int) + 1 + f.flat.length + g.flat.length ≤ 60 := by have := congrArg List.length hts; simp [Fm.flat] at this; omega
  clear h hlen hwf hts m3 hget
  have hlen2 : l.length + 3 + (Pl.text f).length + (Pl.text g).length ≤ 140737488355328 := by have := HL.out; simp [Pl.text] at this; omega
  have T0 := TBox.new w ⟨9, n, s⟩
  go_enter Tryz.func40, Tryz.ntmps40
  go_wp2_with fail
  refine (ps_wb 40 _ rfl (H.out.below (below1 _ _)) (by omega)).mono ?_
  rintro e w1 ⟨rfl, h1, k1⟩
  have T1 := T0.kept k1 (by omega)
  have hf1 := h1.cellf
  go_wp2_with fail
  refine (ihf (pre ++ [⟨9, n, s⟩]) (g.flat ++ post) _ _ _ HW.out.2.2.1 (by rw [HT.out]; simp [Fm.flat]) (by simp) h1 (by simp; omega)).mono ?_
  rintro e w2 ⟨rfl, h2, k2⟩
  have T2 := T1.kept k2 (by omega)
  obtain ⟨c0, c1, c2⟩ := T2.cells
  go_wp2_with fail
  refine (ps_wb 45 _ rfl h2 (by simp; omega)).mono ?_
  rintro e w3 ⟨rfl, h3, k3⟩
  have hf3 := h3.cellf
  go_wp2_with fail
  refine (ihg (pre ++ [⟨9, n, s⟩] ++ f.flat) post _ _ _ HW.out.2.2.2 (by rw [HT.out]; simp [Fm.flat]) (by simp; omega) h3 (by simp; omega)).mono ?_
  rintro e w4 ⟨rfl, h4, k4⟩
  go_wp2_with fail
  refine (ps_wb 41 _ rfl h4 (by simp; omega)).mono ?_
  rintro e w9 ⟨rfl, h9, k9⟩
  go_wp2_with fail
  go_ret
  refine ⟨ret_int (by simp [Fm.flat]; omega), ?_, ((((((KeptB.below (below1 _ _) (Nat.le_of_lt H.out.hb.lt)).trans k1).trans k2).trans k3).trans k4).trans k9)⟩
  have : l ++ Pl.text (.bi ⟨9, n, s⟩ f g) = l ++ [40] ++ Pl.text f ++ [45] ++ Pl.text g ++ [41] := by simp [Pl.text, Pl.opByte]
  rw [this]; exact h9

set_option maxRecDepth 100000 in
set_option maxHeartbeats 1000000 in
theorem p1_bi10 (q b p d off c : Nat) (ts : List Tm) (hl : ts.length ≤ 60) (t : Tm) (f g : Fm) (ht : t.k = 10) (ihf : P1 q b p d off c ts f) (ihg : P1 q b p d off c ts g) : P1 q b p d off c ts (.bi t f g) := by
  intro pre post i l w hwf hts hi h hlen
  have hget := mid_get (t := t) (post := f.flat ++ (g.flat ++ post)) (by simpa [Fm.flat] using hts)
  have hlt : pre.length < ts.length := (List.getElem?_eq_some_iff.1 hget).1
  obtain ⟨m0, m1, m2, m3⟩ := h.row pre.length t hget
  have hv := h.hv
  have hcap := h.cap
  obtain ⟨k, n, s⟩ := t
  simp only at *
  subst ht hi
  have HL := Lib.hid hlen
  have H := Lib.hid h
  have HT := Lib.hid hts
  have HW := Lib.hid hwf
  have hlb := h.hb.lt
  have hfl : (f.flat.length : Int) + g.flat.length < 60 := by have := congrArg List.length hts; simp [Fm.flat] at this; omega
  have hfl2 : (pre.length : Int) + 1 + f.flat.length + g.flat.length ≤ 60 := by have := congrArg List.length hts; simp [Fm.flat] at this; omega
  clear h hlen hwf hts m3 hget
  have hlen2 : l.length + 3 + (Pl.text f).length + (Pl.text g).length ≤ 140737488355328 := by have := HL.out; simp [Pl.text] at this; omega
  have T0 := TBox.new w ⟨10, n, s⟩
  go_enter Tryz.func40, Tryz.ntmps40
  go_wp2_with fail
  refine (ps_wb 40 _ rfl (H.out.below (below1 _ _)) (by omega)).mono ?_
  rintro e w1 ⟨rfl, h1, k1⟩
  have T1 := T0.kept k1 (by omega)
  have hf1 := h1.cellf
  go_wp2_with fail
  refine (ihf (pre ++ [⟨10, n, s⟩]) (g.flat ++ post) _ _ _ HW.out.2.2.1 (by rw [HT.out]; simp [Fm.flat]) (by simp) h1 (by simp; omega)).mono ?_
  rintro e w2 ⟨rfl, h2, k2⟩
  have T2 := T1.kept k2 (by omega)
  obtain ⟨c0, c1, c2⟩ := T2.cells
  go_wp2_with fail
  refine (ps_wb 42 _ rfl h2 (by simp; omega)).mono ?_
  rintro e w3 ⟨rfl, h3, k3⟩
  have hf3 := h3.cellf
  go_wp2_with fail
  refine (ihg (pre ++ [⟨10, n, s⟩] ++ f.flat) post _ _ _ HW.out.2.2.2 (by rw [HT.out]; simp [Fm.flat]) (by simp; omega) h3 (by simp; omega)).mono ?_
  rintro e w4 ⟨rfl, h4, k4⟩
  go_wp2_with fail
  refine (ps_wb 41 _ rfl h4 (by simp; omega)).mono ?_
  rintro e w9 ⟨rfl, h9, k9⟩
  go_wp2_with fail
  go_ret
  refine ⟨ret_int (by simp [Fm.flat]; omega), ?_, ((((((KeptB.below (below1 _ _) (Nat.le_of_lt H.out.hb.lt)).trans k1).trans k2).trans k3).trans k4).trans k9)⟩
  have : l ++ Pl.text (.bi ⟨10, n, s⟩ f g) = l ++ [40] ++ Pl.text f ++ [42] ++ Pl.text g ++ [41] := by simp [Pl.text, Pl.opByte]
  rw [this]; exact h9

end Go.Proofs.YtchoelgkcnnnkaaGreatDoor
namespace Go.Proofs.YtchoelgkcnnnkaaGreatDoor
open Go.RowKit
set_option maxRecDepth 100000 in
set_option maxHeartbeats 1000000 in
theorem p1_bi11 (q b p d off c : Nat) (ts : List Tm) (hl : ts.length ≤ 60) (t : Tm) (f g : Fm) (ht : t.k = 11) (ihf : P1 q b p d off c ts f) (ihg : P1 q b p d off c ts g) : P1 q b p d off c ts (.bi t f g) := by
  intro pre post i l w hwf hts hi h hlen
  have hget := mid_get (t := t) (post := f.flat ++ (g.flat ++ post)) (by simpa [Fm.flat] using hts)
  have hlt : pre.length < ts.length := (List.getElem?_eq_some_iff.1 hget).1
  obtain ⟨m0, m1, m2, m3⟩ := h.row pre.length t hget
  have hv := h.hv
  have hcap := h.cap
  obtain ⟨k, n, s⟩ := t
  simp only at *
  subst ht hi
  have HL := Lib.hid hlen
  have H := Lib.hid h
  have HT := Lib.hid hts
  have HW := Lib.hid hwf
  have hlb := h.hb.lt
  have hfl : (f.flat.length : Int) + g.flat.length < 60 := by have := congrArg List.length hts; simp [Fm.flat] at this; omega
  have hfl2 : (pre.length : Int) + 1 + f.flat.length + g.flat.length ≤ 60 := by have := congrArg List.length hts; simp [Fm.flat] at this; omega
  clear h hlen hwf hts m3 hget
  have hlen2 : l.length + 3 + (Pl.text f).length + (Pl.text g).length ≤ 140737488355328 := by have := HL.out; simp [Pl.text] at this; omega
  have T0 := TBox.new w ⟨11, n, s⟩
  go_enter Tryz.func40, Tryz.ntmps40
  go_wp2_with fail
  refine (ps_wb 40 _ rfl (H.out.below (below1 _ _)) (by omega)).mono ?_
  rintro e w1 ⟨rfl, h1, k1⟩
  have T1 := T0.kept k1 (by omega)
  have hf1 := h1.cellf
  go_wp2_with fail
  refine (ihf (pre ++ [⟨11, n, s⟩]) (g.flat ++ post) _ _ _ HW.out.2.2.1 (by rw [HT.out]; simp [Fm.flat]) (by simp) h1 (by simp; omega)).mono ?_
  rintro e w2 ⟨rfl, h2, k2⟩
  have T2 := T1.kept k2 (by omega)
  obtain ⟨c0, c1, c2⟩ := T2.cells
  go_wp2_with fail
  refine (ps_wb 47 _ rfl h2 (by simp; omega)).mono ?_
  rintro e w3 ⟨rfl, h3, k3⟩
  have hf3 := h3.cellf
  go_wp2_with fail
  refine (ihg (pre ++ [⟨11, n, s⟩] ++ f.flat) post _ _ _ HW.out.2.2.2 (by rw [HT.out]; simp [Fm.flat]) (by simp; omega) h3 (by simp; omega)).mono ?_
  rintro e w4 ⟨rfl, h4, k4⟩
  go_wp2_with fail
  refine (ps_wb 41 _ rfl h4 (by simp; omega)).mono ?_
  rintro e w9 ⟨rfl, h9, k9⟩
  go_wp2_with fail
  go_ret
  refine ⟨ret_int (by simp [Fm.flat]; omega), ?_, ((((((KeptB.below (below1 _ _) (Nat.le_of_lt H.out.hb.lt)).trans k1).trans k2).trans k3).trans k4).trans k9)⟩
  have : l ++ Pl.text (.bi ⟨11, n, s⟩ f g) = l ++ [40] ++ Pl.text f ++ [47] ++ Pl.text g ++ [41] := by simp [Pl.text, Pl.opByte]
  rw [this]; exact h9

set_option maxRecDepth 100000 in
set_option maxHeartbeats 1000000 in
theorem p1_bi12 (q b p d off c : Nat) (ts : List Tm) (hl : ts.length ≤ 60) (t : Tm) (f g : Fm) (ht : t.k = 12) (ihf : P1 q b p d off c ts f) (ihg : P1 q b p d off c ts g) : P1 q b p d off c ts (.bi t f g) := by
  intro pre post i l w hwf hts hi h hlen
  have hget := mid_get (t := t) (post := f.flat ++ (g.flat ++ post)) (by simpa [Fm.flat] using hts)
  have hlt : pre.length < ts.length := (List.getElem?_eq_some_iff.1 hget).1
  obtain ⟨m0, m1, m2, m3⟩ := h.row pre.length t hget
  have hv := h.hv
  have hcap := h.cap
  obtain ⟨k, n, s⟩ := t
  simp only at *
  subst ht hi
  have HL := Lib.hid hlen
  have H := Lib.hid h
  have HT := Lib.hid hts
  have HW := Lib.hid hwf
  have hlb := h.hb.lt
  have hfl : (f.flat.length : Int) + g.flat.length < 60 := by have := congrArg List.length hts; simp [Fm.flat] at this; omega
  have hfl2 : (pre.length : Int) + 1 + f.flat.length + g.flat.length ≤ 60 := by have := congrArg List.length hts; simp [Fm.flat] at this; omega
  clear h hlen hwf hts m3 hget
  have hlen2 : l.length + 3 + (Pl.text f).length + (Pl.text g).length ≤ 140737488355328 := by have := HL.out; simp [Pl.text] at this; omega
  have T0 := TBox.new w ⟨12, n, s⟩
  go_enter Tryz.func40, Tryz.ntmps40
  go_wp2_with fail
  refine (ps_wb 40 _ rfl (H.out.below (below1 _ _)) (by omega)).mono ?_
  rintro e w1 ⟨rfl, h1, k1⟩
  have T1 := T0.kept k1 (by omega)
  have hf1 := h1.cellf
  go_wp2_with fail
  refine (ihf (pre ++ [⟨12, n, s⟩]) (g.flat ++ post) _ _ _ HW.out.2.2.1 (by rw [HT.out]; simp [Fm.flat]) (by simp) h1 (by simp; omega)).mono ?_
  rintro e w2 ⟨rfl, h2, k2⟩
  have T2 := T1.kept k2 (by omega)
  obtain ⟨c0, c1, c2⟩ := T2.cells
  go_wp2_with fail
  refine (ps_wb 37 _ rfl h2 (by simp; omega)).mono ?_
  rintro e w3 ⟨rfl, h3, k3⟩
  have hf3 := h3.cellf
  go_wp2_with fail
  refine (ihg (pre ++ [⟨12, n, s⟩] ++ f.flat) post _ _ _ HW.out.2.2.2 (by rw [HT.out]; simp [Fm.flat]) (by simp; omega) h3 (by simp; omega)).mono ?_
  rintro e w4 ⟨rfl, h4, k4⟩
  go_wp2_with fail
  refine (ps_wb 41 _ rfl h4 (by simp; omega)).mono ?_
  rintro e w9 ⟨rfl, h9, k9⟩
  go_wp2_with fail
  go_ret
  refine ⟨ret_int (by simp [Fm.flat]; omega), ?_, ((((((KeptB.below (below1 _ _) (Nat.le_of_lt H.out.hb.lt)).trans k1).trans k2).trans k3).trans k4).trans k9)⟩
  have : l ++ Pl.text (.bi ⟨12, n, s⟩ f g) = l ++ [40] ++ Pl.text f ++ [37] ++ Pl.text g ++ [41] := by simp [Pl.text, Pl.opByte]
  rw [this]; exact h9

set_option maxRecDepth 100000 in
set_option maxHeartbeats 1000000 in
theorem p1_bi13 (q b p d off c : Nat) (ts : List Tm) (hl : ts.length ≤ 60) (t : Tm) (f g : Fm) (ht : t.k = 13) (ihf : P1 q b p d off c ts f) (ihg : P1 q b p d off c ts g) : P1 q b p d off c ts (.bi t f g) := by
  intro pre post i l w hwf hts hi h hlen
  have hget := mid_get (t := t) (post := f.flat ++ (g.flat ++ post)) (by simpa [Fm.flat] using hts)
  have hlt : pre.length < ts.length := (List.getElem?_eq_some_iff.1 hget).1
  obtain ⟨m0, m1, m2, m3⟩ := h.row pre.length t hget
  have hv := h.hv
  have hcap := h.cap
  obtain ⟨k, n, s⟩ := t
  simp only at *
  subst ht hi
  have HL := Lib.hid hlen
  have H := Lib.hid h
  have HT := Lib.hid hts
  have HW := Lib.hid hwf
  have hlb := h.hb.lt
  have hfl : (f.flat.length : Int) + g.flat.length < 60 := by have := congrArg List.length hts; simp [Fm.flat] at this; omega
  have hfl2 : (pre.length : Int) + 1 + f.flat.length + g.flat.length ≤ 60 := by have := congrArg List.length hts; simp [Fm.flat] at this; omega
  clear h hlen hwf hts m3 hget
  have hlen2 : l.length + 3 + (Pl.text f).length + (Pl.text g).length ≤ 140737488355328 := by have := HL.out; simp [Pl.text] at this; omega
  have T0 := TBox.new w ⟨13, n, s⟩
  go_enter Tryz.func40, Tryz.ntmps40
  go_wp2_with fail
  refine (ps_wb 40 _ rfl (H.out.below (below1 _ _)) (by omega)).mono ?_
  rintro e w1 ⟨rfl, h1, k1⟩
  have T1 := T0.kept k1 (by omega)
  have hf1 := h1.cellf
  go_wp2_with fail
  refine (ihf (pre ++ [⟨13, n, s⟩]) (g.flat ++ post) _ _ _ HW.out.2.2.1 (by rw [HT.out]; simp [Fm.flat]) (by simp) h1 (by simp; omega)).mono ?_
  rintro e w2 ⟨rfl, h2, k2⟩
  have T2 := T1.kept k2 (by omega)
  obtain ⟨c0, c1, c2⟩ := T2.cells
  go_wp2_with fail
  refine (ps_wb 61 _ rfl h2 (by simp; omega)).mono ?_
  rintro e w3 ⟨rfl, h3, k3⟩
  have hf3 := h3.cellf
  go_wp2_with fail
  refine (ihg (pre ++ [⟨13, n, s⟩] ++ f.flat) post _ _ _ HW.out.2.2.2 (by rw [HT.out]; simp [Fm.flat]) (by simp; omega) h3 (by simp; omega)).mono ?_
  rintro e w4 ⟨rfl, h4, k4⟩
  go_wp2_with fail
  refine (ps_wb 41 _ rfl h4 (by simp; omega)).mono ?_
  rintro e w9 ⟨rfl, h9, k9⟩
  go_wp2_with fail
  go_ret
  refine ⟨ret_int (by simp [Fm.flat]; omega), ?_, ((((((KeptB.below (below1 _ _) (Nat.le_of_lt H.out.hb.lt)).trans k1).trans k2).trans k3).trans k4).trans k9)⟩
  have : l ++ Pl.text (.bi ⟨13, n, s⟩ f g) = l ++ [40] ++ Pl.text f ++ [61] ++ Pl.text g ++ [41] := by simp [Pl.text, Pl.opByte]
  rw [this]; exact h9

end Go.Proofs.YtchoelgkcnnnkaaGreatDoor
namespace Go.Proofs.YtchoelgkcnnnkaaGreatDoor
open Go.RowKit
set_option maxRecDepth 100000 in
set_option maxHeartbeats 1000000 in
theorem p1_bi14 (q b p d off c : Nat) (ts : List Tm) (hl : ts.length ≤ 60) (t : Tm) (f g : Fm) (ht : t.k = 14) (ihf : P1 q b p d off c ts f) (ihg : P1 q b p d off c ts g) : P1 q b p d off c ts (.bi t f g) := by
  intro pre post i l w hwf hts hi h hlen
  have hget := mid_get (t := t) (post := f.flat ++ (g.flat ++ post)) (by simpa [Fm.flat] using hts)
  have hlt : pre.length < ts.length := (List.getElem?_eq_some_iff.1 hget).1
  obtain ⟨m0, m1, m2, m3⟩ := h.row pre.length t hget
  have hv := h.hv
  have hcap := h.cap
  obtain ⟨k, n, s⟩ := t
  simp only at *
  subst ht hi
  have HL := Lib.hid hlen
  have H := Lib.hid h
  have HT := Lib.hid hts
  have HW := Lib.hid hwf
  have hlb := h.hb.lt
  have hfl : (f.flat.length : Int) + g.flat.length < 60 := by have := congrArg List.length hts; simp [Fm.flat] at this; omega
  have hfl2 : (pre.length : Int) + 1 + f.flat.length + g.flat.length ≤ 60 := by have := congrArg List.length hts; simp [Fm.flat] at this; omega
  clear h hlen hwf hts m3 hget
  have hlen2 : l.length + 3 + (Pl.text f).length + (Pl.text g).length ≤ 140737488355328 := by have := HL.out; simp [Pl.text] at this; omega
  have T0 := TBox.new w ⟨14, n, s⟩
  go_enter Tryz.func40, Tryz.ntmps40
  go_wp2_with fail
  refine (ps_wb 40 _ rfl (H.out.below (below1 _ _)) (by omega)).mono ?_
  rintro e w1 ⟨rfl, h1, k1⟩
  have T1 := T0.kept k1 (by omega)
  have hf1 := h1.cellf
  go_wp2_with fail
  refine (ihf (pre ++ [⟨14, n, s⟩]) (g.flat ++ post) _ _ _ HW.out.2.2.1 (by rw [HT.out]; simp [Fm.flat]) (by simp) h1 (by simp; omega)).mono ?_
  rintro e w2 ⟨rfl, h2, k2⟩
  have T2 := T1.kept k2 (by omega)
  obtain ⟨c0, c1, c2⟩ := T2.cells
  go_wp2_with fail
  refine (ps_wb 60 _ rfl h2 (by simp; omega)).mono ?_
  rintro e w3 ⟨rfl, h3, k3⟩
  have hf3 := h3.cellf
  go_wp2_with fail
  refine (ihg (pre ++ [⟨14, n, s⟩] ++ f.flat) post _ _ _ HW.out.2.2.2 (by rw [HT.out]; simp [Fm.flat]) (by simp; omega) h3 (by simp; omega)).mono ?_
  rintro e w4 ⟨rfl, h4, k4⟩
  go_wp2_with fail
  refine (ps_wb 41 _ rfl h4 (by simp; omega)).mono ?_
  rintro e w9 ⟨rfl, h9, k9⟩
  go_wp2_with fail
  go_ret
  refine ⟨ret_int (by simp [Fm.flat]; omega), ?_, ((((((KeptB.below (below1 _ _) (Nat.le_of_lt H.out.hb.lt)).trans k1).trans k2).trans k3).trans k4).trans k9)⟩
  have : l ++ Pl.text (.bi ⟨14, n, s⟩ f g) = l ++ [40] ++ Pl.text f ++ [60] ++ Pl.text g ++ [41] := by simp [Pl.text, Pl.opByte]
  rw [this]; exact h9

set_option maxRecDepth 100000 in
set_option maxHeartbeats 1000000 in
theorem p1_bi15 (q b p d off c : Nat) (ts : List Tm) (hl : ts.length ≤ 60) (t : Tm) (f g : Fm) (ht : t.k = 15) (ihf : P1 q b p d off c ts f) (ihg : P1 q b p d off c ts g) : P1 q b p d off c ts (.bi t f g) := by
  intro pre post i l w hwf hts hi h hlen
  have hget := mid_get (t := t) (post := f.flat ++ (g.flat ++ post)) (by simpa [Fm.flat] using hts)
  have hlt : pre.length < ts.length := (List.getElem?_eq_some_iff.1 hget).1
  obtain ⟨m0, m1, m2, m3⟩ := h.row pre.length t hget
  have hv := h.hv
  have hcap := h.cap
  obtain ⟨k, n, s⟩ := t
  simp only at *
  subst ht hi
  have HL := Lib.hid hlen
  have H := Lib.hid h
  have HT := Lib.hid hts
  have HW := Lib.hid hwf
  have hlb := h.hb.lt
  have hfl : (f.flat.length : Int) + g.flat.length < 60 := by have := congrArg List.length hts; simp [Fm.flat] at this; omega
  have hfl2 : (pre.length : Int) + 1 + f.flat.length + g.flat.length ≤ 60 := by have := congrArg List.length hts; simp [Fm.flat] at this; omega
  clear h hlen hwf hts m3 hget
  have hlen2 : l.length + 3 + (Pl.text f).length + (Pl.text g).length ≤ 140737488355328 := by have := HL.out; simp [Pl.text] at this; omega
  have T0 := TBox.new w ⟨15, n, s⟩
  go_enter Tryz.func40, Tryz.ntmps40
  go_wp2_with fail
  refine (ps_wb 40 _ rfl (H.out.below (below1 _ _)) (by omega)).mono ?_
  rintro e w1 ⟨rfl, h1, k1⟩
  have T1 := T0.kept k1 (by omega)
  have hf1 := h1.cellf
  go_wp2_with fail
  refine (ihf (pre ++ [⟨15, n, s⟩]) (g.flat ++ post) _ _ _ HW.out.2.2.1 (by rw [HT.out]; simp [Fm.flat]) (by simp) h1 (by simp; omega)).mono ?_
  rintro e w2 ⟨rfl, h2, k2⟩
  have T2 := T1.kept k2 (by omega)
  obtain ⟨c0, c1, c2⟩ := T2.cells
  go_wp2_with fail
  refine (ps_wb 38 _ rfl h2 (by simp; omega)).mono ?_
  rintro e w3 ⟨rfl, h3, k3⟩
  have hf3 := h3.cellf
  go_wp2_with fail
  refine (ihg (pre ++ [⟨15, n, s⟩] ++ f.flat) post _ _ _ HW.out.2.2.2 (by rw [HT.out]; simp [Fm.flat]) (by simp; omega) h3 (by simp; omega)).mono ?_
  rintro e w4 ⟨rfl, h4, k4⟩
  go_wp2_with fail
  refine (ps_wb 41 _ rfl h4 (by simp; omega)).mono ?_
  rintro e w9 ⟨rfl, h9, k9⟩
  go_wp2_with fail
  go_ret
  refine ⟨ret_int (by simp [Fm.flat]; omega), ?_, ((((((KeptB.below (below1 _ _) (Nat.le_of_lt H.out.hb.lt)).trans k1).trans k2).trans k3).trans k4).trans k9)⟩
  have : l ++ Pl.text (.bi ⟨15, n, s⟩ f g) = l ++ [40] ++ Pl.text f ++ [38] ++ Pl.text g ++ [41] := by simp [Pl.text, Pl.opByte]
  rw [this]; exact h9

set_option maxRecDepth 100000 in
set_option maxHeartbeats 1000000 in
theorem p1_bi16 (q b p d off c : Nat) (ts : List Tm) (hl : ts.length ≤ 60) (t : Tm) (f g : Fm) (ht : t.k = 16) (ihf : P1 q b p d off c ts f) (ihg : P1 q b p d off c ts g) : P1 q b p d off c ts (.bi t f g) := by
  intro pre post i l w hwf hts hi h hlen
  have hget := mid_get (t := t) (post := f.flat ++ (g.flat ++ post)) (by simpa [Fm.flat] using hts)
  have hlt : pre.length < ts.length := (List.getElem?_eq_some_iff.1 hget).1
  obtain ⟨m0, m1, m2, m3⟩ := h.row pre.length t hget
  have hv := h.hv
  have hcap := h.cap
  obtain ⟨k, n, s⟩ := t
  simp only at *
  subst ht hi
  have HL := Lib.hid hlen
  have H := Lib.hid h
  have HT := Lib.hid hts
  have HW := Lib.hid hwf
  have hlb := h.hb.lt
  have hfl : (f.flat.length : Int) + g.flat.length < 60 := by have := congrArg List.length hts; simp [Fm.flat] at this; omega
  have hfl2 : (pre.length : Int) + 1 + f.flat.length + g.flat.length ≤ 60 := by have := congrArg List.length hts; simp [Fm.flat] at this; omega
  clear h hlen hwf hts m3 hget
  have hlen2 : l.length + 3 + (Pl.text f).length + (Pl.text g).length ≤ 140737488355328 := by have := HL.out; simp [Pl.text] at this; omega
  have T0 := TBox.new w ⟨16, n, s⟩
  go_enter Tryz.func40, Tryz.ntmps40
  go_wp2_with fail
  refine (ps_wb 40 _ rfl (H.out.below (below1 _ _)) (by omega)).mono ?_
  rintro e w1 ⟨rfl, h1, k1⟩
  have T1 := T0.kept k1 (by omega)
  have hf1 := h1.cellf
  go_wp2_with fail
  refine (ihf (pre ++ [⟨16, n, s⟩]) (g.flat ++ post) _ _ _ HW.out.2.2.1 (by rw [HT.out]; simp [Fm.flat]) (by simp) h1 (by simp; omega)).mono ?_
  rintro e w2 ⟨rfl, h2, k2⟩
  have T2 := T1.kept k2 (by omega)
  obtain ⟨c0, c1, c2⟩ := T2.cells
  go_wp2_with fail
  refine (ps_wb 124 _ rfl h2 (by simp; omega)).mono ?_
  rintro e w3 ⟨rfl, h3, k3⟩
  have hf3 := h3.cellf
  go_wp2_with fail
  refine (ihg (pre ++ [⟨16, n, s⟩] ++ f.flat) post _ _ _ HW.out.2.2.2 (by rw [HT.out]; simp [Fm.flat]) (by simp; omega) h3 (by simp; omega)).mono ?_
  rintro e w4 ⟨rfl, h4, k4⟩
  go_wp2_with fail
  refine (ps_wb 41 _ rfl h4 (by simp; omega)).mono ?_
  rintro e w9 ⟨rfl, h9, k9⟩
  go_wp2_with fail
  go_ret
  refine ⟨ret_int (by simp [Fm.flat]; omega), ?_, ((((((KeptB.below (below1 _ _) (Nat.le_of_lt H.out.hb.lt)).trans k1).trans k2).trans k3).trans k4).trans k9)⟩
  have : l ++ Pl.text (.bi ⟨16, n, s⟩ f g) = l ++ [40] ++ Pl.text f ++ [124] ++ Pl.text g ++ [41] := by simp [Pl.text, Pl.opByte]
  rw [this]; exact h9

end Go.Proofs.YtchoelgkcnnnkaaGreatDoor
namespace Go.Proofs.YtchoelgkcnnnkaaGreatDoor
open Go.RowKit
set_option maxRecDepth 100000 in
set_option maxHeartbeats 1000000 in
theorem p1_tr (q b p d off c : Nat) (ts : List Tm) (hl : ts.length ≤ 60) (t : Tm) (f g r : Fm) (ht : t.k = 17) (ihf : P1 q b p d off c ts f) (ihg : P1 q b p d off c ts g) (ihr : P1 q b p d off c ts r) : P1 q b p d off c ts (.tr t f g r) := by
  intro pre post i l w hwf hts hi h hlen
  have hget := mid_get (t := t) (post := f.flat ++ (g.flat ++ (r.flat ++ post))) (by simpa [Fm.flat] using hts)
  have hlt : pre.length < ts.length := (List.getElem?_eq_some_iff.1 hget).1
  obtain ⟨m0, m1, m2, m3⟩ := h.row pre.length t hget
  have hv := h.hv
  have hcap := h.cap
  obtain ⟨k, n, s⟩ := t
  simp only at *
  subst ht hi
  have HL := Lib.hid hlen
  have H := Lib.hid h
  have HT := Lib.hid hts
  have HW := Lib.hid hwf
  have hlb := h.hb.lt
  have hfl2 : (pre.length : Int) + 1 + f.flat.length + g.flat.length + r.flat.length ≤ 60 := by have := congrArg List.length hts; simp [Fm.flat] at this; omega
  clear h hlen hwf hts m3 hget
  have hlen2 : l.length + 5 + (Pl.text f).length + (Pl.text g).length + (Pl.text r).length ≤ 140737488355328 := by have := HL.out; simp [Pl.text] at this; omega
  go_enter Tryz.func40, Tryz.ntmps40
  go_wp2_with fail
  refine (ps_ws [63, 40] _ rfl (H.out.below (below1 _ _)) (by simp; omega)).mono ?_
  rintro e w1 ⟨rfl, h1, k1⟩
  have hf1 := h1.cellf
  go_wp2_with fail
  refine (ihf (pre ++ [⟨17, n, s⟩]) (g.flat ++ (r.flat ++ post)) _ _ _ HW.out.2.2.1 (by rw [HT.out]; simp [Fm.flat]) (by simp) h1 (by simp; omega)).mono ?_
  rintro e w2 ⟨rfl, h2, k2⟩
  go_wp2_with fail
  refine wp_loop_rounds 3 ?_
  rw [rounds_succ]
  go_wp2_with fail
  refine (ps_wb 44 _ rfl h2 (by simp; omega)).mono ?_
  rintro e w3 ⟨rfl, h3, k3⟩
  have hf3 := h3.cellf
  go_wp2_with fail
  refine (ihg (pre ++ [⟨17, n, s⟩] ++ f.flat) (r.flat ++ post) _ _ _ HW.out.2.2.2.1 (by rw [HT.out]; simp [Fm.flat]) (by simp; omega) h3 (by simp; omega)).mono ?_
  rintro e w4 ⟨rfl, h4, k4⟩
  go_wp2_with fail
  rw [rounds_succ]
  go_wp2_with fail
  refine (ps_wb 44 _ rfl h4 (by simp; omega)).mono ?_
  rintro e w5 ⟨rfl, h5, k5⟩
  have hf5 := h5.cellf
  go_wp2_with fail
  refine (ihr (pre ++ [⟨17, n, s⟩] ++ f.flat ++ g.flat) post _ _ _ HW.out.2.2.2.2 (by rw [HT.out]; simp [Fm.flat]) (by simp; omega) h5 (by simp; omega)).mono ?_
  rintro e w6 ⟨rfl, h6, k6⟩
  go_wp2_with fail
  rw [rounds_succ]
  go_wp2_with fail
  refine (ps_wb 41 _ rfl h6 (by simp; omega)).mono ?_
  rintro e w9 ⟨rfl, h9, k9⟩
  go_wp2_with fail
  go_ret
  refine ⟨ret_int (by simp [Fm.flat]; omega), ?_, ((((((((KeptB.below (below1 _ _) (Nat.le_of_lt H.out.hb.lt)).trans k1).trans k2).trans k3).trans k4).trans k5).trans k6).trans k9)⟩
  have : l ++ Pl.text (.tr ⟨17, n, s⟩ f g r) = l ++ [63, 40] ++ Pl.text f ++ [44] ++ Pl.text g ++ [44] ++ Pl.text r ++ [41] := by simp [Pl.text]
  rw [this]; exact h9
end Go.Proofs.YtchoelgkcnnnkaaGreatDoor
namespace Go.Proofs.YtchoelgkcnnnkaaGreatDoor
open Go.RowKit

theorem k_cases (k : Int) : (Pl.operandsOf k = 0 → k = 1 ∨ k = 2 ∨ k = 3 ∨ k = 4) ∧ (Pl.operandsOf k = 1 → k = 5 ∨ k = 6 ∨ k = 7) ∧
    (Pl.operandsOf k = 2 → k = 8 ∨ k = 9 ∨ k = 10 ∨ k = 11 ∨ k = 12 ∨ k = 13 ∨ k = 14 ∨ k = 15 ∨ k = 16) ∧ (Pl.operandsOf k = 3 → k = 17) := by
  unfold Pl.operandsOf
  refine ⟨fun h => ?_, fun h => ?_, fun h => ?_, fun h => ?_⟩ <;> (split at h; omega; split at h <;> (try split at h) <;> (try split at h) <;> omega)

theorem p1_all (q b p d off c : Nat) (ts : List Tm) (hl : ts.length ≤ 60) : ∀ f : Fm, f.wf → P1 q b p d off c ts f
  | .lf t, h => by
    rcases (k_cases t.k).1 h.2 with hk | hk | hk | hk
    · exact p1_leaf1 q b p d off c ts hl t hk
    · have hn : t.n = 0 ∨ t.n = 1 := by
        have := h.1
        simp [Pl.formed, hk] at this
        exact this.1
      rcases hn with hn | hn
      · exact p1_leaf20 q b p d off c ts hl t hk hn
      · exact p1_leaf21 q b p d off c ts hl t hk hn
    · exact p1_leaf3 q b p d off c ts hl t hk
    · exact p1_leaf4 q b p d off c ts hl t hk
  | .un t a, h => by
    have ih := p1_all q b p d off c ts hl a h.2.2
    rcases (k_cases t.k).2.1 h.2.1 with hk | hk | hk
    · exact p1_un5 q b p d off c ts hl t a hk ih
    · exact p1_un6 q b p d off c ts hl t a hk ih
    · exact p1_un7 q b p d off c ts hl t a hk ih
  | .bi t a e, h => by
    have ih := p1_all q b p d off c ts hl a h.2.2.1
    have ih2 := p1_all q b p d off c ts hl e h.2.2.2
    rcases (k_cases t.k).2.2.1 h.2.1 with hk | hk | hk | hk | hk | hk | hk | hk | hk
    · exact p1_bi8 q b p d off c ts hl t a e hk ih ih2
    · exact p1_bi9 q b p d off c ts hl t a e hk ih ih2
    · exact p1_bi10 q b p d off c ts hl t a e hk ih ih2
    · exact p1_bi11 q b p d off c ts hl t a e hk ih ih2
    · exact p1_bi12 q b p d off c ts hl t a e hk ih ih2
    · exact p1_bi13 q b p d off c ts hl t a e hk ih ih2
    · exact p1_bi14 q b p d off c ts hl t a e hk ih ih2
    · exact p1_bi15 q b p d off c ts hl t a e hk ih ih2
    · exact p1_bi16 q b p d off c ts hl t a e hk ih ih2
  | .tr t a e g, h => p1_tr q b p d off c ts hl t a e g ((k_cases t.k).2.2.2 h.2.1) (p1_all q b p d off c ts hl a h.2.2.1) (p1_all q b p d off c ts hl e h.2.2.2.1) (p1_all q b p d off c ts hl g h.2.2.2.2)

set_option maxRecDepth 100000 in
set_option maxHeartbeats 1000000 in
/-- formula.Print at what is no formula. -/
theorem print_bad (v : Value) (ts : List Tm) (w : World) (hT : TermsIn w v ts) (hl : ts.length ≤ 9223372036854775807) (HV : Hid (false = Pl.validB ts)) :
    Calls Tryz.prog 13 #[v] w fun e w' => e = .returned (.tuple #[.string (mkS []), .int .i64 150]) ∧ Below w.heap.size w w' := by
  have hT' := hT
  obtain ⟨a, c, rfl, hc, _, _⟩ := hT'
  go_enter Tryz.func13, Tryz.ntmps13
  go_wp2_with (go_at_call 20; go_loud (refine (valid_any _ ts false _ (hT.below (below1 _ _)) hl HV).mono ?_); rintro e w' ⟨rfl, hb⟩; obtain ⟨hc, hf⟩ := bcell hb)
  go_ret2
  exact ⟨rfl, (below1 _ _).trans (hb.mono (by simp))⟩

set_option maxRecDepth 100000 in
set_option maxHeartbeats 1000000 in
/-- formula.Print at a formula. -/
theorem print_ok (v : Value) (f : Fm) (w : World) (hT : TermsIn w v f.flat) (hG : Glob w) (hwf : f.wf) (hl : f.flat.length ≤ 60) (hd : f.depth ≤ 12) :
    Calls Tryz.prog 13 #[v] w fun e w' => e = .returned (.tuple #[.string (mkS (Pl.text f)), .int .i64 0]) ∧ Below w.heap.size w w' := by
  have HV : Hid (true = Pl.validB f.flat) := Lib.hid ((Pl.validB_iff f.flat).2 ⟨hl, f, hwf, hd, rfl⟩).symm
  have hT' := hT
  obtain ⟨a, c, rfl, hc, _, hr⟩ := hT'
  obtain ⟨d, off, rfl, hrow⟩ := hr f.flat_ne
  have HP := Lib.hid (p1_all w.heap.size)
  have htl := Pl.text_len f hwf
  have hd0 := hrow.lt f.flat_ne
  have HR := Lib.hid hrow
  have HF := Lib.hid hwf
  clear hrow hwf hr
  go_enter Tryz.func13, Tryz.ntmps13
  go_wp2_with (go_at_call 20; go_loud (refine (valid_any _ f.flat true _ (hT.below (below1 _ _)) (by omega) HV).mono ?_); rintro e w' ⟨rfl, hb⟩; obtain ⟨hcc, hcf⟩ := bcell hb)
  have hs := hb.size
  have hs1 : w.heap.size + 1 ≤ w'.heap.size := by simpa using hs
  have hq : w'.cell? ⟨w.heap.size, 0, none⟩ = some (.slice (some ⟨d, off, none⟩) f.flat.length c) := by
    rw [hcc _ _ (by simp)]; simp [go_sem]
  have hB1 : Below w.heap.size w w' := (below1 _ _).trans (hb.mono (by simp))
  refine (HP.out w'.heap.size (w'.heap.size + 1) d off c f.flat hl f HF.out [] [] 0 [] _ HF.out (by simp) rfl ?_ (by simp; omega)).mono ?_
  · refine ⟨?_, hc, ?_, by omega, by omega, by omega, ?_, ?_, ?_, ?_⟩
    · have : w'.cell? ⟨w.heap.size, 0, none⟩ = _ := hq
      exact ((below1 _ _).cell (p := ⟨w.heap.size, 0, none⟩) (show w.heap.size < _ by simp; omega)).trans (((below1 _ _).cell (p := ⟨w.heap.size, 0, none⟩) (show w.heap.size < _ by omega)).trans hq)
    · exact ((HR.out.below hB1 hd0).below (below1 _ _) (by omega)).below (below1 _ _) (by simp; omega)
    · have := hG.size; omega
    · show ((w'.heap.push _).push _)[w'.heap.size + 1]? = _
      rw [Array.getElem?_push, if_pos (by simp)]
    · refine .inl ⟨Nat.le_refl _, .slice none 0 0, ?_, World.ownsRowF_nil _ _ _ _, by simp [Value.ownBlock]⟩
      show ((w'.heap.push _).push _)[w'.heap.size]? = _
      simp [Array.getElem?_push]
    · exact ((hG.below hB1 hG.size).below (below1 _ _) (by have := hG.size; omega)).below (below1 _ _) (by have := hG.size; simp; omega)
  rintro e w9 ⟨rfl, h9, k9⟩
  go_wp2_with fail
  refine (builderString_any _ _ _ h9.hb).mono ?_
  rintro e w10 ⟨rfl, k10⟩
  go_wp2_with fail
  go_ret2
  refine ⟨by simp, ?_⟩
  have hA : Below w.heap.size w' ((w'.alloc (.cells #[.pointer none, .slice none 0 0] 72)).alloc (.cells #[.func (.func 40) #[] #[.pointer (some ⟨w.heap.size, 0, none⟩), .pointer (some ⟨w'.heap.size, 0, none⟩), .pointer (some ⟨w'.heap.size + 1, 0, none⟩)]] 58)) :=
    ((Below.refl _ _).alloc (by omega) _).alloc (by simp; omega) _
  exact ((hB1.trans hA).trans (k9.1.mono (by omega))).trans (k10.1.mono (by omega))
end Go.Proofs.YtchoelgkcnnnkaaGreatDoor
