/- WALK: formula.Print's closure. -/
import Derived.Test.YtchoelgkcnnnkaaGreatDoorGlob
import Derived.Test.YtchoelgkcnnnkaaGreatDoorDepths
import Derived.Laws.EntriesVeiled
import Derived.Lib.AppendIntMem
set_option linter.all false
namespace Go.Proofs.YtchoelgkcnnnkaaGreatDoor
open Go.RowKit

/-- What stands while a formula is printed: its terms, the box of its slice in q, the builder in b, the box of the closure in p. -/
structure PS (w : World) (q b p d off c : Nat) (ts : List Tm) (l : List UInt8) : Prop where
  hv : w.cell? ⟨q, 0, none⟩ = some (.slice (some ⟨d, off, none⟩) ts.length c)
  cap : ts.length ≤ c
  row : RowIn w d off ts
  db : d < b
  qb : q < b
  bp : b < p
  b8 : 8 ≤ b
  hf : w.heap[p]? = some (.cells #[.func (.func 40) #[] #[.pointer (some ⟨q, 0, none⟩), .pointer (some ⟨b, 0, none⟩), .pointer (some ⟨p, 0, none⟩)]] 58 (0, 0))
  hb : HoldsB w b l
  g : Glob w
theorem PS.kept {w w' : World} {q b p d off c : Nat} {ts : List Tm} {l l' : List UInt8} (h : PS w q b p d off c ts l) (k : KeptB b w w') (hb : HoldsB w' b l') : PS w' q b p d off c ts l' :=
  { h with
    hv := (k.1.cell (p := ⟨q, 0, none⟩) h.qb).trans h.hv
    row := h.row.below k.1 h.db
    hf := k.block h.hf (by decide) (Nat.ne_of_gt h.bp)
    hb := hb
    g := h.g.below k.1 h.b8 }
theorem PS.below {w w' : World} {q b p d off c : Nat} {ts : List Tm} {l : List UInt8} (h : PS w q b p d off c ts l) (k : Below w.heap.size w w') : PS w' q b p d off c ts l :=
  h.kept (.below k (Nat.le_of_lt h.hb.lt)) (h.hb.below k)
theorem PS.cellf {w : World} {q b p d off c : Nat} {ts : List Tm} {l : List UInt8} (h : PS w q b p d off c ts l) : w.cell? ⟨p, 0, none⟩ = some (.func (.func 40) #[] #[.pointer (some ⟨q, 0, none⟩), .pointer (some ⟨b, 0, none⟩), .pointer (some ⟨p, 0, none⟩)]) := by
  rw [Lib.cell_of_heap h.hf]; rfl

theorem ps_itoa (n : Int) (h0 : -9223372036854775808 ≤ n) (h1 : n ≤ 9223372036854775807) {w : World} {q b p d off c : Nat} {ts : List Tm} {l : List UInt8} (h : PS w q b p d off c ts l) :
    Calls Tryz.prog 42 #[.int .i64 n] w fun e w' => e = .returned (.string (mkS (Lib.itoa n))) ∧ PS w' q b p d off c ts l ∧ KeptB b w w' := by
  refine (Tryz.strconv_Itoa n h0 h1 w h.g.tab).mono ?_
  rintro e w' ⟨rfl, k, os, rfl⟩
  have hb := Lib.below_grow w.heap.size w (Nat.le_refl _) k os
  exact ⟨rfl, h.below hb, .below hb (Nat.le_of_lt h.hb.lt)⟩
theorem ps_ws (m : List UInt8) (s : ByteArray) (hs : s = mkS m) {w : World} {q b p d off c : Nat} {ts : List Tm} {l : List UInt8} (h : PS w q b p d off c ts l) (hlen : l.length + m.length ≤ 140737488355328) :
    Calls Tryz.prog 41 #[.pointer (some ⟨b, 0, none⟩), .string s] w fun e w' => e = .returned (.tuple #[.int .i64 s.size, .nilIface]) ∧ PS w' q b p d off c ts (l ++ m) ∧ KeptB b w w' := by
  refine (writeString_any b l m s hs w h.hb hlen).mono ?_
  rintro e w' ⟨rfl, hb, hk⟩
  exact ⟨rfl, h.kept hk hb, hk⟩
theorem ps_wb (x : UInt8) (n : Int) (hx : n = x.toNat) {w : World} {q b p d off c : Nat} {ts : List Tm} {l : List UInt8} (h : PS w q b p d off c ts l) (hlen : l.length + 1 ≤ 140737488355328) :
    Calls Tryz.prog 43 #[.pointer (some ⟨b, 0, none⟩), .int .u8 n] w fun e w' => e = .returned .nilIface ∧ PS w' q b p d off c ts (l ++ [x]) ∧ KeptB b w w' := by
  refine (writeByte_any b l n x hx w h.hb hlen).mono ?_
  rintro e w' ⟨rfl, hb, hk⟩
  exact ⟨rfl, h.kept hk hb, hk⟩

/-- What the closure does at a formula. -/
def P1 (q b p d off c : Nat) (ts : List Tm) (f : Fm) : Prop :=
  ∀ (pre post : List Tm) (i : Int) (l : List UInt8) (w : World), f.wf → ts = pre ++ (f.flat ++ post) → i = (pre.length : Int) → PS w q b p d off c ts l → l.length + (Pl.text f).length ≤ 140737488355328 →
    Calls Tryz.prog 40 #[.int .i64 i, .pointer (some ⟨q, 0, none⟩), .pointer (some ⟨b, 0, none⟩), .pointer (some ⟨p, 0, none⟩)] w fun e w' =>
      e = .returned (.int .i64 (i + f.flat.length)) ∧ PS w' q b p d off c ts (l ++ Pl.text f) ∧ KeptB b w w'

theorem mid_get {ts pre post : List Tm} {t : Tm} (h : ts = pre ++ (t :: post)) : ts[pre.length]? = some t := by rw [h]; simp

/-- The box of a term. -/
def TBox (w : World) (tb : Nat) (t : Tm) : Prop := w.heap[tb]? = some (.cells #[.int .i64 t.k, .int .i64 t.n, .string t.s] 24 (0, 0))
theorem TBox.new (w : World) (t : Tm) : TBox (w.alloc (.cells #[.int .i64 t.k, .int .i64 t.n, .string t.s] 24)) w.heap.size t := by
  show (w.heap.push _)[w.heap.size]? = _
  simp
theorem TBox.kept {w w' : World} {tb b : Nat} {t : Tm} (h : TBox w tb t) (k : KeptB b w w') (hb : tb ≠ b) : TBox w' tb t := k.block h (by decide) hb
theorem TBox.cells {w : World} {tb : Nat} {t : Tm} (h : TBox w tb t) : w.cell? ⟨tb, 0, none⟩ = some (.int .i64 t.k) ∧ w.cell? ⟨tb, 1, none⟩ = some (.int .i64 t.n) ∧ w.cell? ⟨tb, 2, none⟩ = some (.string t.s) := by
  refine ⟨?_, ?_, ?_⟩ <;> (rw [Lib.cell_of_heap h]; rfl)

set_option maxRecDepth 100000 in
set_option maxHeartbeats 1000000 in
theorem p1_leaf1 (q b p d off c : Nat) (ts : List Tm) (hl : ts.length ≤ 60) (t : Tm) (ht : t.k = 1) : P1 q b p d off c ts (.lf t) := by
  intro pre post i l w hwf hts hi h hlen
  have hget := mid_get (by simpa [Fm.flat] using hts)
  have hlt : pre.length < ts.length := (List.getElem?_eq_some_iff.1 hget).1
  obtain ⟨m0, m1, m2, m3⟩ := h.row pre.length t hget
  have hv := h.hv
  have hcap := h.cap
  have hr : 0 ≤ t.n ∧ t.n ≤ 1000000000000 := by
    have := hwf.1
    simp [Pl.formed, ht] at this
    exact ⟨this.1.1, this.1.2⟩
  have htx : Pl.text (.lf t) = Lib.itoa t.n := by simp [Pl.text, Pl.leafText, ht]
  rw [htx] at hlen ⊢
  obtain ⟨k, n, s⟩ := t
  simp only at *
  subst ht hi
  have HL := Lib.hid hlen
  have H := Lib.hid h
  clear h hlen hwf hts htx m3 hget
  go_enter Tryz.func40, Tryz.ntmps40
  go_wp2_with fail
  refine (ps_itoa n (by omega) (by omega) (H.out.below (below1 _ _))).mono ?_
  rintro e w1 ⟨rfl, h1, k1⟩
  go_wp2_with fail
  refine (ps_ws (Lib.itoa n) _ rfl h1 HL.out).mono ?_
  rintro e w9 ⟨rfl, h9, k9⟩
  go_wp2_with fail
  go_ret
  exact ⟨ret_int (by simp [Fm.flat]), h9, ((KeptB.below (below1 _ _) (Nat.le_of_lt H.out.hb.lt)).trans k1).trans k9⟩

set_option maxRecDepth 100000 in
set_option maxHeartbeats 1000000 in
theorem p1_leaf20 (q b p d off c : Nat) (ts : List Tm) (hl : ts.length ≤ 60) (t : Tm) (ht : t.k = 2) (hn : t.n = 0) : P1 q b p d off c ts (.lf t) := by
  intro pre post i l w hwf hts hi h hlen
  have hget := mid_get (by simpa [Fm.flat] using hts)
  have hlt : pre.length < ts.length := (List.getElem?_eq_some_iff.1 hget).1
  obtain ⟨m0, m1, m2, m3⟩ := h.row pre.length t hget
  have hv := h.hv
  have hcap := h.cap
  have htx : Pl.text (.lf t) = [110, 111] := by simp [Pl.text, Pl.leafText, ht, hn]
  rw [htx] at hlen ⊢
  obtain ⟨k, n, s⟩ := t
  simp only at *
  subst ht hn hi
  have HL := Lib.hid hlen
  have H := Lib.hid h
  clear h hlen hwf hts htx m3 hget
  go_enter Tryz.func40, Tryz.ntmps40
  go_wp2_with fail
  refine (ps_ws [110, 111] _ rfl ((H.out.below (below1 _ _)).below (below1 _ _)) HL.out).mono ?_
  rintro e w9 ⟨rfl, h9, k9⟩
  go_wp2_with fail
  go_ret
  exact ⟨ret_int (by simp [Fm.flat]), h9, ((KeptB.below (below1 _ _) (Nat.le_of_lt H.out.hb.lt)).trans (KeptB.below (below1 _ _) (Nat.le_of_lt (H.out.below (below1 _ _)).hb.lt))).trans k9⟩

set_option maxRecDepth 100000 in
set_option maxHeartbeats 1000000 in
theorem p1_leaf21 (q b p d off c : Nat) (ts : List Tm) (hl : ts.length ≤ 60) (t : Tm) (ht : t.k = 2) (hn : t.n = 1) : P1 q b p d off c ts (.lf t) := by
  intro pre post i l w hwf hts hi h hlen
  have hget := mid_get (by simpa [Fm.flat] using hts)
  have hlt : pre.length < ts.length := (List.getElem?_eq_some_iff.1 hget).1
  obtain ⟨m0, m1, m2, m3⟩ := h.row pre.length t hget
  have hv := h.hv
  have hcap := h.cap
  have htx : Pl.text (.lf t) = [121, 101, 115] := by simp [Pl.text, Pl.leafText, ht, hn]
  rw [htx] at hlen ⊢
  obtain ⟨k, n, s⟩ := t
  simp only at *
  subst ht hn hi
  have HL := Lib.hid hlen
  have H := Lib.hid h
  clear h hlen hwf hts htx m3 hget
  go_enter Tryz.func40, Tryz.ntmps40
  go_wp2_with fail
  refine (ps_ws [121, 101, 115] _ rfl ((H.out.below (below1 _ _)).below (below1 _ _)) HL.out).mono ?_
  rintro e w9 ⟨rfl, h9, k9⟩
  go_wp2_with fail
  go_ret
  exact ⟨ret_int (by simp [Fm.flat]), h9, ((KeptB.below (below1 _ _) (Nat.le_of_lt H.out.hb.lt)).trans (KeptB.below (below1 _ _) (Nat.le_of_lt (H.out.below (below1 _ _)).hb.lt))).trans k9⟩

set_option maxRecDepth 100000 in
set_option maxHeartbeats 1000000 in
theorem p1_leaf3 (q b p d off c : Nat) (ts : List Tm) (hl : ts.length ≤ 60) (t : Tm) (ht : t.k = 3) : P1 q b p d off c ts (.lf t) := by
  intro pre post i l w hwf hts hi h hlen
  have hget := mid_get (by simpa [Fm.flat] using hts)
  have hlt : pre.length < ts.length := (List.getElem?_eq_some_iff.1 hget).1
  obtain ⟨m0, m1, m2, m3⟩ := h.row pre.length t hget
  have hv := h.hv
  have hcap := h.cap
  have hr : t.s.size ≤ 40 := by
    have := hwf.1
    simp [Pl.formed, ht] at this
    omega
  have htx : Pl.text (.lf t) = 39 :: (t.s.data.toList ++ [39]) := by simp [Pl.text, Pl.leafText, ht]
  rw [htx] at hlen ⊢
  obtain ⟨k, n, s⟩ := t
  simp only at *
  subst ht hi
  have HL := Lib.hid hlen
  have H := Lib.hid h
  clear h hlen hwf hts htx m3 hget
  go_enter Tryz.func40, Tryz.ntmps40
  go_wp2_with fail
  refine (ps_ws (39 :: (s.data.toList ++ [39])) _ ?_ (H.out.below (below1 _ _)) HL.out).mono ?_
  · exact bytes_ext (by simp [mkS])
  rintro e w9 ⟨rfl, h9, k9⟩
  go_wp2_with fail
  go_ret
  exact ⟨ret_int (by simp [Fm.flat]), h9, (KeptB.below (below1 _ _) (Nat.le_of_lt H.out.hb.lt)).trans k9⟩

set_option maxRecDepth 100000 in
set_option maxHeartbeats 1000000 in
theorem p1_leaf4 (q b p d off c : Nat) (ts : List Tm) (hl : ts.length ≤ 60) (t : Tm) (ht : t.k = 4) : P1 q b p d off c ts (.lf t) := by
  intro pre post i l w hwf hts hi h hlen
  have hget := mid_get (by simpa [Fm.flat] using hts)
  have hlt : pre.length < ts.length := (List.getElem?_eq_some_iff.1 hget).1
  obtain ⟨m0, m1, m2, m3⟩ := h.row pre.length t hget
  have hv := h.hv
  have hcap := h.cap
  have htx : Pl.text (.lf t) = t.s.data.toList := by simp [Pl.text, Pl.leafText, ht]
  rw [htx] at hlen ⊢
  obtain ⟨k, n, s⟩ := t
  simp only at *
  subst ht hi
  have HL := Lib.hid hlen
  have H := Lib.hid h
  clear h hlen hwf hts htx m3 hget
  go_enter Tryz.func40, Tryz.ntmps40
  go_wp2_with fail
  refine (ps_ws s.data.toList s (eq_mkS s) (H.out.below (below1 _ _)) HL.out).mono ?_
  rintro e w9 ⟨rfl, h9, k9⟩
  go_wp2_with fail
  go_ret
  exact ⟨ret_int (by simp [Fm.flat]), h9, (KeptB.below (below1 _ _) (Nat.le_of_lt H.out.hb.lt)).trans k9⟩

end Go.Proofs.YtchoelgkcnnnkaaGreatDoor
