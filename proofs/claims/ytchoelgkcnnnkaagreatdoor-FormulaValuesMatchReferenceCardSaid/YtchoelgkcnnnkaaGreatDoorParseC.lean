/- WALK: formula.Parse. -/
import Derived.Test.YtchoelgkcnnnkaaGreatDoorParseB
import Derived.BigRegion
set_option linter.all false
namespace Go.Proofs.YtchoelgkcnnnkaaGreatDoor
open Go.RowKit
theorem world4 (w : World) (o1 o2 o3 : Obj) (s : ByteArray) (hs : s.size ≤ 140737488355328) : ∀ W : World, W = (((w.alloc o1).alloc o2).alloc o3).alloc (.cells #[.string s, .int .i64 0, .slice none 0 0] 93) →
    RdAt W (w.heap.size + 1 + 1 + 1) s 0 (.slice none 0 0) ∧ OwnTms W (w.heap.size + 1 + 1 + 1 + 1) (.slice none 0 0) [] ∧ W.heap.size = w.heap.size + 1 + 1 + 1 + 1 ∧ W.heap[w.heap.size]? = some o1 ∧ W.heap[w.heap.size + 1]? = some o2 ∧ W.heap[w.heap.size + 1 + 1]? = some o3 ∧ Below w.heap.size w W := by
  rintro W rfl
  refine ⟨⟨?_, hs⟩, World.ownsRow_nil _ _ _ _, ?_, ?_, ?_, ?_, ?_⟩
  · show ((((w.heap.push _).push _).push _).push _)[w.heap.size + 1 + 1 + 1]? = _
    rw [Array.getElem?_push, if_pos (by simp)]; rfl
  · show ((((w.heap.push _).push _).push _).push _).size = _
    simp
  · show ((((w.heap.push _).push _).push _).push _)[w.heap.size]? = _
    rw [Array.getElem?_push, if_neg (by simp <;> omega), Array.getElem?_push, if_neg (by simp <;> omega), Array.getElem?_push, if_neg (by simp), Array.getElem?_push, if_pos rfl]
  · show ((((w.heap.push _).push _).push _).push _)[w.heap.size + 1]? = _
    rw [Array.getElem?_push, if_neg (by simp <;> omega), Array.getElem?_push, if_neg (by simp), Array.getElem?_push, if_pos (by simp)]
  · show ((((w.heap.push _).push _).push _).push _)[w.heap.size + 1 + 1]? = _
    rw [Array.getElem?_push, if_neg (by simp), Array.getElem?_push, if_pos (by simp)]
  · exact (((Below.refl _ _).alloc (Nat.le_refl _) _).alloc (by simp) _ |>.alloc (by simp <;> omega) _).alloc (by simp <;> omega) _
set_option maxRecDepth 100000 in
set_option maxHeartbeats 1000000 in
theorem parse_bad (s : ByteArray) (hs : s.size ≤ 100000000) (n : Nat) (hn : s.size < n) (w : World) (hG : Glob w) (q : Nat) (hr : Hid (Pl.rd s n 0 = .bad q)) :
    Calls Tryz.prog 22 #[.string s] w fun e w' => e = .returned (.tuple #[.slice none 0 0, .int .i64 q, .int .i64 150]) ∧ Below w.heap.size w w' := by
  have hmf : ∀ (fn : Fn) (first cap : Array Value) (w : World), (Instr.makeFunc fn first cap).run Tryz.prog w = .ok (.func fn first cap) w := fun _ _ _ _ => rfl
  have HG := Lib.hid hG
  have h8 := hG.size
  clear hG
  go_enter_defers Tryz.func22, Tryz.ntmps22
  go_wp2_with fail
  have W4 := world4 w (.cells #[.slice none 0 0] 25) (.cells #[.int .i64 0] 3) (.cells #[.int .i64 0] 30) s (by omega) _ rfl
  generalize ((((w.alloc (.cells #[.slice none 0 0] 25)).alloc (.cells #[.int .i64 0] 3)).alloc (.cells #[.int .i64 0] 30)).alloc (.cells #[.string s, .int .i64 0, .slice none 0 0] 93)) = W at W4 ⊢
  obtain ⟨hR, hO, hsz, b0, b1, b2, hb⟩ := W4
  have HB := Lib.hid hb
  refine (fm_all (w.heap.size + 1 + 1 + 1) (w.heap.size + 1 + 1 + 1 + 1) s (by omega) (by omega) n 0 _ [] W hR hO (by omega) (HG.out.below hb h8) (Nat.zero_le _) (by omega) (by simp; omega)).mono ?_
  intro e w6 h6
  rcases h6.split with ⟨f, q2, v6, hr2, _⟩ | ⟨q2, hr2, rfl, b6⟩
  · rw [hr.out] at hr2; cases hr2
  rw [hr.out] at hr2
  cases hr2
  have e0 : w6.heap[w.heap.size]? = some (.cells #[.slice none 0 0] 25 (0, 0)) := (b6.block _ (by omega)).trans b0
  have e1 : w6.heap[w.heap.size + 1]? = some (.cells #[.int .i64 0] 3 (0, 0)) := (b6.block _ (by omega)).trans b1
  have e2 : w6.heap[w.heap.size + 1 + 1]? = some (.cells #[.int .i64 0] 30 (0, 0)) := (b6.block _ (by omega)).trans b2
  have c0 : w6.cell? ⟨w.heap.size, 0, none⟩ = some (.slice none 0 0) := by rw [Lib.cell_of_heap e0]; rfl
  have c1 : w6.cell? ⟨w.heap.size + 1, 0, none⟩ = some (.int .i64 0) := by rw [Lib.cell_of_heap e1]; rfl
  have c2 : w6.cell? ⟨w.heap.size + 1 + 1, 0, none⟩ = some (.int .i64 0) := by rw [Lib.cell_of_heap e2]; rfl
  have f0 := Lib.frozen_of_heap e0 0
  have f1 := Lib.frozen_of_heap e1 0
  have f2 := Lib.frozen_of_heap e2 0
  have B6 := Lib.hid (hb.trans (b6.mono (show w.heap.size ≤ w.heap.size + 1 + 1 + 1 by omega)))
  clear e0 e1 e2 b0 b1 b2 b6 h6 hR hO hb
  go_wp2
  refine leaves_cons (f := 55) (args := #[.pointer (some ⟨w.heap.size, 0, none⟩), .pointer (some ⟨w.heap.size + 1, 0, none⟩), .pointer (some ⟨w.heap.size + 1 + 1, 0, none⟩)]) (by simp) (by simp [go_sem]) ?_
  refine (catch_bad w.heap.size (w.heap.size + 1) (w.heap.size + 1 + 1) q (.slice none 0 0) 0 0 _ c0 c1 c2 f0 f1 f2 (by omega) (by omega) (by omega)).mono ?_
  rintro e u' w9 ⟨rfl, rfl, rfl⟩
  simp [Leaves, settle, results, Tryz.results22, go_sem, c0, c1, c2]
  exact ((B6.out.setCell (p := ⟨w.heap.size, 0, none⟩) (Nat.le_refl _) _).setCell (p := ⟨w.heap.size + 1, 0, none⟩) (Nat.le_succ _) _).setCell (p := ⟨w.heap.size + 1 + 1, 0, none⟩) (by simp <;> omega) _
set_option maxRecDepth 100000 in
set_option maxHeartbeats 1000000 in
theorem parse_part (s : ByteArray) (hs : s.size ≤ 100000000) (n : Nat) (hn : s.size < n) (w : World) (hG : Glob w) (f : Fm) (q : Nat) (hq : q < s.size) (hr : Hid (Pl.rd s n 0 = .ok f q)) :
    Calls Tryz.prog 22 #[.string s] w fun e w' => e = .returned (.tuple #[.slice none 0 0, .int .i64 q, .int .i64 150]) ∧ Below w.heap.size w w' := by
  have hmf : ∀ (fn : Fn) (first cap : Array Value) (w : World), (Instr.makeFunc fn first cap).run Tryz.prog w = .ok (.func fn first cap) w := fun _ _ _ _ => rfl
  have HG := Lib.hid hG
  have h8 := hG.size
  clear hG
  go_enter_defers Tryz.func22, Tryz.ntmps22
  go_wp2_with fail
  have W4 := world4 w (.cells #[.slice none 0 0] 25) (.cells #[.int .i64 0] 3) (.cells #[.int .i64 0] 30) s (by omega) _ rfl
  generalize ((((w.alloc (.cells #[.slice none 0 0] 25)).alloc (.cells #[.int .i64 0] 3)).alloc (.cells #[.int .i64 0] 30)).alloc (.cells #[.string s, .int .i64 0, .slice none 0 0] 93)) = W at W4 ⊢
  obtain ⟨hR, hO, hsz, b0, b1, b2, hb⟩ := W4
  have HB := Lib.hid hb
  refine (fm_all (w.heap.size + 1 + 1 + 1) (w.heap.size + 1 + 1 + 1 + 1) s (by omega) (by omega) n 0 _ [] W hR hO (by omega) (HG.out.below hb h8) (Nat.zero_le _) (by omega) (by simp; omega)).mono ?_
  intro e w6 h6
  rw [hr.out] at h6
  obtain ⟨rfl, ⟨v6, h6', o6⟩, k6⟩ := h6
  have b6 := k6.1
  have hbd := Pl.rd_bounds s n 0 (Nat.zero_le _)
  rw [hr.out] at hbd
  obtain ⟨bd1, bd2, bd3⟩ := hbd
  have hft := Pl.rd_fits s n 0
  rw [hr.out] at hft
  have hft2 : ∀ t ∈ f.flat, t.s.size ≤ 9223372036854775807 := fun t ht => Nat.le_trans (hft t ht) (by omega)
  have hT := own_terms (by simpa using o6) hft2
  have e0 : w6.heap[w.heap.size]? = some (.cells #[.slice none 0 0] 25 (0, 0)) := (b6.block _ (by omega)).trans b0
  have e1 : w6.heap[w.heap.size + 1]? = some (.cells #[.int .i64 0] 3 (0, 0)) := (b6.block _ (by omega)).trans b1
  have e2 : w6.heap[w.heap.size + 1 + 1]? = some (.cells #[.int .i64 0] 30 (0, 0)) := (b6.block _ (by omega)).trans b2
  have c0 : w6.cell? ⟨w.heap.size, 0, none⟩ = some (.slice none 0 0) := by rw [Lib.cell_of_heap e0]; rfl
  have c1 : w6.cell? ⟨w.heap.size + 1, 0, none⟩ = some (.int .i64 0) := by rw [Lib.cell_of_heap e1]; rfl
  have c2 : w6.cell? ⟨w.heap.size + 1 + 1, 0, none⟩ = some (.int .i64 0) := by rw [Lib.cell_of_heap e2]; rfl
  have f0 := Lib.frozen_of_heap e0 0
  have f1 := Lib.frozen_of_heap e1 0
  have f2 := Lib.frozen_of_heap e2 0
  have B6 := Lib.hid (hb.trans (b6.mono (show w.heap.size ≤ w.heap.size + 1 + 1 + 1 by omega)))
  have H6 := Lib.hid h6'
  have HT := Lib.hid hT
  obtain ⟨d0, d1, d2, _, _⟩ := h6'.cells
  clear e0 e1 e2 b0 b1 b2 b6 hR hO hb k6 o6 hft hft2 h6' hT
  go_wp2_with fail
  go_region
  go_wp2
  refine leaves_cons (f := 55) (args := #[.pointer (some ⟨w.heap.size, 0, none⟩), .pointer (some ⟨w.heap.size + 1, 0, none⟩), .pointer (some ⟨w.heap.size + 1 + 1, 0, none⟩)]) (by simp) (by simp [go_sem]) ?_
  refine (catch_idle w.heap.size (w.heap.size + 1) (w.heap.size + 1 + 1) _).mono ?_
  rintro e u' w9 ⟨rfl, rfl, rfl⟩
  simp [Leaves, settle, results, Tryz.results22, go_sem, c0, c1, c2]
  exact (((B6.out.setCell (p := ⟨w.heap.size, 0, none⟩) (Nat.le_refl _) _).setCell (p := ⟨w.heap.size + 1, 0, none⟩) (Nat.le_succ _) _).setCell (p := ⟨w.heap.size + 1 + 1, 0, none⟩) (by simp <;> omega) _).trans (below_drewN' (Below.refl _ _) 1)
set_option maxRecDepth 100000 in
set_option maxHeartbeats 1000000 in
theorem parse_inv (s : ByteArray) (hs : s.size ≤ 100000000) (n : Nat) (hn : s.size < n) (w : World) (hG : Glob w) (f : Fm) (q : Nat) (hq : s.size ≤ q) (HV : Hid (false = Pl.validB f.flat)) (hr : Hid (Pl.rd s n 0 = .ok f q)) :
    Calls Tryz.prog 22 #[.string s] w fun e w' => e = .returned (.tuple #[.slice none 0 0, .int .i64 q, .int .i64 150]) ∧ Below w.heap.size w w' := by
  have hmf : ∀ (fn : Fn) (first cap : Array Value) (w : World), (Instr.makeFunc fn first cap).run Tryz.prog w = .ok (.func fn first cap) w := fun _ _ _ _ => rfl
  have HG := Lib.hid hG
  have h8 := hG.size
  clear hG
  go_enter_defers Tryz.func22, Tryz.ntmps22
  go_wp2_with fail
  have W4 := world4 w (.cells #[.slice none 0 0] 25) (.cells #[.int .i64 0] 3) (.cells #[.int .i64 0] 30) s (by omega) _ rfl
  generalize ((((w.alloc (.cells #[.slice none 0 0] 25)).alloc (.cells #[.int .i64 0] 3)).alloc (.cells #[.int .i64 0] 30)).alloc (.cells #[.string s, .int .i64 0, .slice none 0 0] 93)) = W at W4 ⊢
  obtain ⟨hR, hO, hsz, b0, b1, b2, hb⟩ := W4
  have HB := Lib.hid hb
  refine (fm_all (w.heap.size + 1 + 1 + 1) (w.heap.size + 1 + 1 + 1 + 1) s (by omega) (by omega) n 0 _ [] W hR hO (by omega) (HG.out.below hb h8) (Nat.zero_le _) (by omega) (by simp; omega)).mono ?_
  intro e w6 h6
  rw [hr.out] at h6
  obtain ⟨rfl, ⟨v6, h6', o6⟩, k6⟩ := h6
  have b6 := k6.1
  have hbd := Pl.rd_bounds s n 0 (Nat.zero_le _)
  rw [hr.out] at hbd
  obtain ⟨bd1, bd2, bd3⟩ := hbd
  have hft := Pl.rd_fits s n 0
  rw [hr.out] at hft
  have hft2 : ∀ t ∈ f.flat, t.s.size ≤ 9223372036854775807 := fun t ht => Nat.le_trans (hft t ht) (by omega)
  have hT := own_terms (by simpa using o6) hft2
  have e0 : w6.heap[w.heap.size]? = some (.cells #[.slice none 0 0] 25 (0, 0)) := (b6.block _ (by omega)).trans b0
  have e1 : w6.heap[w.heap.size + 1]? = some (.cells #[.int .i64 0] 3 (0, 0)) := (b6.block _ (by omega)).trans b1
  have e2 : w6.heap[w.heap.size + 1 + 1]? = some (.cells #[.int .i64 0] 30 (0, 0)) := (b6.block _ (by omega)).trans b2
  have c0 : w6.cell? ⟨w.heap.size, 0, none⟩ = some (.slice none 0 0) := by rw [Lib.cell_of_heap e0]; rfl
  have c1 : w6.cell? ⟨w.heap.size + 1, 0, none⟩ = some (.int .i64 0) := by rw [Lib.cell_of_heap e1]; rfl
  have c2 : w6.cell? ⟨w.heap.size + 1 + 1, 0, none⟩ = some (.int .i64 0) := by rw [Lib.cell_of_heap e2]; rfl
  have f0 := Lib.frozen_of_heap e0 0
  have f1 := Lib.frozen_of_heap e1 0
  have f2 := Lib.frozen_of_heap e2 0
  have B6 := Lib.hid (hb.trans (b6.mono (show w.heap.size ≤ w.heap.size + 1 + 1 + 1 by omega)))
  have H6 := Lib.hid h6'
  have HT := Lib.hid hT
  obtain ⟨d0, d1, d2, _, _⟩ := h6'.cells
  clear e0 e1 e2 b0 b1 b2 b6 hR hO hb k6 o6 hft hft2 h6' hT
  have e9 : decide (q < s.size) = false := by simp; omega
  have e9' : decide ((q : Int) < s.size) = false := by simp; omega
  go_wp2_with fail
  refine (valid_any v6 f.flat false _ HT.out (by omega) HV).mono ?_
  rintro e w7 ⟨rfl, hb7⟩
  obtain ⟨hc, hf⟩ := bcell hb7
  have g0 := (hc w.heap.size 0 (lt_of_cell c0)).trans c0
  have g1 := (hc (w.heap.size + 1) 0 (lt_of_cell c1)).trans c1
  have g2 := (hc (w.heap.size + 1 + 1) 0 (lt_of_cell c2)).trans c2
  have g3 := (hc (w.heap.size + 1 + 1 + 1) 1 (lt_of_cell d1)).trans d1
  have k0 := (hf w.heap.size 0 (lt_of_cell c0)).trans f0
  have k1 := (hf (w.heap.size + 1) 0 (lt_of_cell c1)).trans f1
  have k2 := (hf (w.heap.size + 1 + 1) 0 (lt_of_cell c2)).trans f2
  have B7 := Lib.hid (B6.out.trans (hb7.mono B6.out.size))
  clear hb7 hc hf
  go_wp2_with fail
  go_region
  go_wp2
  refine leaves_cons (f := 55) (args := #[.pointer (some ⟨w.heap.size, 0, none⟩), .pointer (some ⟨w.heap.size + 1, 0, none⟩), .pointer (some ⟨w.heap.size + 1 + 1, 0, none⟩)]) (by simp) (by simp [go_sem]) ?_
  refine (catch_idle w.heap.size (w.heap.size + 1) (w.heap.size + 1 + 1) _).mono ?_
  rintro e u' w9 ⟨rfl, rfl, rfl⟩
  simp [Leaves, settle, results, Tryz.results22, go_sem, g0, g1, g2]
  exact (((B7.out.setCell (p := ⟨w.heap.size, 0, none⟩) (Nat.le_refl _) _).setCell (p := ⟨w.heap.size + 1, 0, none⟩) (Nat.le_succ _) _).setCell (p := ⟨w.heap.size + 1 + 1, 0, none⟩) (by simp <;> omega) _).trans (below_drewN' (Below.refl _ _) 1)
set_option maxRecDepth 100000 in
set_option maxHeartbeats 1000000 in
theorem parse_ok (s : ByteArray) (hs : s.size ≤ 100000000) (n : Nat) (hn : s.size < n) (w : World) (hG : Glob w) (f : Fm) (q : Nat) (hq : s.size ≤ q) (HV : Hid (true = Pl.validB f.flat)) (hr : Hid (Pl.rd s n 0 = .ok f q)) :
    Calls Tryz.prog 22 #[.string s] w fun e w' => ∃ v, e = .returned (.tuple #[v, .int .i64 q, .int .i64 0]) ∧ TermsIn w' v f.flat ∧ Below w.heap.size w w' := by
  have hmf : ∀ (fn : Fn) (first cap : Array Value) (w : World), (Instr.makeFunc fn first cap).run Tryz.prog w = .ok (.func fn first cap) w := fun _ _ _ _ => rfl
  have HG := Lib.hid hG
  have h8 := hG.size
  clear hG
  go_enter_defers Tryz.func22, Tryz.ntmps22
  go_wp2_with fail
  have W4 := world4 w (.cells #[.slice none 0 0] 25) (.cells #[.int .i64 0] 3) (.cells #[.int .i64 0] 30) s (by omega) _ rfl
  generalize ((((w.alloc (.cells #[.slice none 0 0] 25)).alloc (.cells #[.int .i64 0] 3)).alloc (.cells #[.int .i64 0] 30)).alloc (.cells #[.string s, .int .i64 0, .slice none 0 0] 93)) = W at W4 ⊢
  obtain ⟨hR, hO, hsz, b0, b1, b2, hb⟩ := W4
  have HB := Lib.hid hb
  refine (fm_all (w.heap.size + 1 + 1 + 1) (w.heap.size + 1 + 1 + 1 + 1) s (by omega) (by omega) n 0 _ [] W hR hO (by omega) (HG.out.below hb h8) (Nat.zero_le _) (by omega) (by simp; omega)).mono ?_
  intro e w6 h6
  rw [hr.out] at h6
  obtain ⟨rfl, ⟨v6, h6', o6⟩, k6⟩ := h6
  have b6 := k6.1
  have hbd := Pl.rd_bounds s n 0 (Nat.zero_le _)
  rw [hr.out] at hbd
  obtain ⟨bd1, bd2, bd3⟩ := hbd
  have hft := Pl.rd_fits s n 0
  rw [hr.out] at hft
  have hft2 : ∀ t ∈ f.flat, t.s.size ≤ 9223372036854775807 := fun t ht => Nat.le_trans (hft t ht) (by omega)
  have O6 := Lib.hid (show OwnTms w6 (w.heap.size + 1 + 1 + 1 + 1) v6 f.flat by simpa using o6)
  have hT := own_terms (by simpa using o6) hft2
  have e0 : w6.heap[w.heap.size]? = some (.cells #[.slice none 0 0] 25 (0, 0)) := (b6.block _ (by omega)).trans b0
  have e1 : w6.heap[w.heap.size + 1]? = some (.cells #[.int .i64 0] 3 (0, 0)) := (b6.block _ (by omega)).trans b1
  have e2 : w6.heap[w.heap.size + 1 + 1]? = some (.cells #[.int .i64 0] 30 (0, 0)) := (b6.block _ (by omega)).trans b2
  have c0 : w6.cell? ⟨w.heap.size, 0, none⟩ = some (.slice none 0 0) := by rw [Lib.cell_of_heap e0]; rfl
  have c1 : w6.cell? ⟨w.heap.size + 1, 0, none⟩ = some (.int .i64 0) := by rw [Lib.cell_of_heap e1]; rfl
  have c2 : w6.cell? ⟨w.heap.size + 1 + 1, 0, none⟩ = some (.int .i64 0) := by rw [Lib.cell_of_heap e2]; rfl
  have f0 := Lib.frozen_of_heap e0 0
  have f1 := Lib.frozen_of_heap e1 0
  have f2 := Lib.frozen_of_heap e2 0
  have B6 := Lib.hid (hb.trans (b6.mono (show w.heap.size ≤ w.heap.size + 1 + 1 + 1 by omega)))
  have H6 := Lib.hid h6'
  have HT := Lib.hid hT
  have HF2 := Lib.hid hft2
  obtain ⟨sa, sc, hv6, _⟩ := hT
  subst hv6
  obtain ⟨d0, d1, d2, _, _⟩ := h6'.cells
  clear e0 e1 e2 b0 b1 b2 b6 hR hO hb k6 o6 hft hft2 h6'
  have e9 : decide (q < s.size) = false := by simp; omega
  have e9' : decide ((q : Int) < s.size) = false := by simp; omega
  go_wp2_with fail
  refine (valid_any _ f.flat true _ HT.out (by omega) HV).mono ?_
  rintro e w7 ⟨rfl, hb7⟩
  obtain ⟨hc, hf⟩ := bcell hb7
  have g0 := (hc w.heap.size 0 (lt_of_cell c0)).trans c0
  have g1 := (hc (w.heap.size + 1) 0 (lt_of_cell c1)).trans c1
  have g2 := (hc (w.heap.size + 1 + 1) 0 (lt_of_cell c2)).trans c2
  have g3 := (hc (w.heap.size + 1 + 1 + 1) 1 (lt_of_cell d1)).trans d1
  have g4 := (hc (w.heap.size + 1 + 1 + 1) 2 (lt_of_cell d2)).trans d2
  have HT7 := Lib.hid (HT.out.below hb7)
  have O7 := Lib.hid (own_grown (R := w.heap.size) O6.out (by omega) (grown_of_below hb7 _))
  have k0 := (hf w.heap.size 0 (lt_of_cell c0)).trans f0
  have k1 := (hf (w.heap.size + 1) 0 (lt_of_cell c1)).trans f1
  have k2 := (hf (w.heap.size + 1 + 1) 0 (lt_of_cell c2)).trans f2
  have B7 := Lib.hid (B6.out.trans (hb7.mono B6.out.size))
  clear hb7 hc hf
  go_wp2_with fail
  go_region
  go_wp2
  refine leaves_cons (f := 55) (args := #[.pointer (some ⟨w.heap.size, 0, none⟩), .pointer (some ⟨w.heap.size + 1, 0, none⟩), .pointer (some ⟨w.heap.size + 1 + 1, 0, none⟩)]) (by simp) (by simp [go_sem]) ?_
  refine (catch_idle w.heap.size (w.heap.size + 1) (w.heap.size + 1 + 1) _).mono ?_
  rintro e u' w9 ⟨rfl, rfl, rfl⟩
  simp [Leaves, settle, results, Tryz.results22, go_sem, g0, g1, g2]
  refine ⟨?_, (((B7.out.setCell (p := ⟨w.heap.size, 0, none⟩) (Nat.le_refl _) _).setCell (p := ⟨w.heap.size + 1, 0, none⟩) (Nat.le_succ _) _).setCell (p := ⟨w.heap.size + 1 + 1, 0, none⟩) (by simp <;> omega) _).trans (below_drewN' (Below.refl _ _) 1)⟩
  exact own_terms (w := ((w7.setCell ⟨w.heap.size, 0, none⟩ _).setCell ⟨w.heap.size + 1, 0, none⟩ _).setCell ⟨w.heap.size + 1 + 1, 0, none⟩ _) (own_set (own_set (own_set O7.out (by omega) 0) (by omega) 0) (by omega) 0) HF2.out
end Go.Proofs.YtchoelgkcnnnkaaGreatDoor
