/- WALK: formula.Value's closure that finds a value, whole. Printed by genvb.py. · WALK: what formula.Value defers. · LAWS: the names of a formula are apart and are all there; the map from names to values. · WALK: formula.Value. -/
import Derived.Test.YtchoelgkcnnnkaaGreatDoorValC
import Derived.Test.YtchoelgkcnnnkaaGreatDoorValD
import Derived.Test.YtchoelgkcnnnkaaGreatDoorValE
import Derived.Test.YtchoelgkcnnnkaaGreatDoorValF
import Derived.Test.YtchoelgkcnnnkaaGreatDoorPrintH
import Derived.Test.YtchoelgkcnnnkaaGreatDoorTypeE
import Derived.Deep.RegionHeld3
set_option linter.all false
namespace Go.Proofs.YtchoelgkcnnnkaaGreatDoor
open Go.RowKit
theorem fd_all (q mb sb fb ob m o d off c : Nat) (ts : List Tm) (es : Array MapEntry) (clk : Nat) (env : ByteArray → Tm) (hl : ts.length ≤ 60) : ∀ f : Fm, f.wf → Fd q mb sb fb ob m o d off c ts es clk env f
  | .lf t, h => by
    rcases (k_cases t.k).1 h.2 with hk | hk | hk | hk
    · exact fd_leaf1 q mb sb fb ob m o d off c ts es clk env hl t hk
    · exact fd_leaf2 q mb sb fb ob m o d off c ts es clk env hl t hk
    · exact fd_leaf3 q mb sb fb ob m o d off c ts es clk env hl t hk
    · exact fd_leaf4 q mb sb fb ob m o d off c ts es clk env hl t hk
  | .un t a, h => by
    have ia := fd_all q mb sb fb ob m o d off c ts es clk env hl a h.2.2
    rcases (k_cases t.k).2.1 h.2.1 with hk | hk | hk
    · exact fd_un5 q mb sb fb ob m o d off c ts es clk env hl t a hk ia
    · exact fd_un6 q mb sb fb ob m o d off c ts es clk env hl t a hk ia
    · exact fd_un7 q mb sb fb ob m o d off c ts es clk env hl t a hk ia
  | .bi t a b, h => by
    have ia := fd_all q mb sb fb ob m o d off c ts es clk env hl a h.2.2.1
    have ib := fd_all q mb sb fb ob m o d off c ts es clk env hl b h.2.2.2
    rcases (k_cases t.k).2.2.1 h.2.1 with hk | hk | hk | hk | hk | hk | hk | hk | hk
    · exact fd_bi8 q mb sb fb ob m o d off c ts es clk env hl t a b hk ia ib
    · exact fd_bi9 q mb sb fb ob m o d off c ts es clk env hl t a b hk ia ib
    · exact fd_bi10 q mb sb fb ob m o d off c ts es clk env hl t a b hk ia ib
    · exact fd_bi11 q mb sb fb ob m o d off c ts es clk env hl t a b hk ia ib
    · exact fd_bi12 q mb sb fb ob m o d off c ts es clk env hl t a b hk ia ib
    · exact fd_bi13 q mb sb fb ob m o d off c ts es clk env hl t a b hk ia ib
    · exact fd_bi14 q mb sb fb ob m o d off c ts es clk env hl t a b hk ia ib
    · exact fd_bi15 q mb sb fb ob m o d off c ts es clk env hl t a b hk ia ib
    · exact fd_bi16 q mb sb fb ob m o d off c ts es clk env hl t a b hk ia ib
  | .tr t a b g, h => fd_tr q mb sb fb ob m o d off c ts es clk env hl t a b g ((k_cases t.k).2.2.2 h.2.1) (fd_all q mb sb fb ob m o d off c ts es clk env hl a h.2.2.1) (fd_all q mb sb fb ob m o d off c ts es clk env hl b h.2.2.2.1) (fd_all q mb sb fb ob m o d off c ts es clk env hl g h.2.2.2.2)
end Go.Proofs.YtchoelgkcnnnkaaGreatDoor
namespace Go.Proofs.YtchoelgkcnnnkaaGreatDoor
open Go.RowKit
theorem ta103 (w : World) : (Instr.typeAssert (.iface 103 (.agg #[])) 20 103 true).run Tryz.prog w = .ok (.tuple #[.agg #[], .bool true]) w := by kernel_rfl
set_option maxRecDepth 100000 in
set_option maxHeartbeats 1000000 in
theorem vcatch_bad (a b c : Nat) (x0 x1 x2 : Value) (z : Int) (y1 : Bool) (w : World) (h0 : w.cell? ⟨a, 0, none⟩ = some x0) (h1 : w.cell? ⟨a, 1, none⟩ = some x1) (h2 : w.cell? ⟨a, 2, none⟩ = some x2) (h3 : w.cell? ⟨b, 0, none⟩ = some (.bool y1)) (h4 : w.cell? ⟨c, 0, none⟩ = some (.int .i64 z))
    (f0 : w.frozen? ⟨a, 0, none⟩ = false) (f1 : w.frozen? ⟨a, 1, none⟩ = false) (f2 : w.frozen? ⟨a, 2, none⟩ = false) (f3 : w.frozen? ⟨b, 0, none⟩ = false) (f4 : w.frozen? ⟨c, 0, none⟩ = false) (ha : a < w.heap.size) (hb : b < w.heap.size) (hc : c < w.heap.size) (hab : a ≠ b) (hac : a ≠ c) (hbc : b ≠ c) :
    CallsD Tryz.prog 62 #[.pointer (some ⟨a, 0, none⟩), .pointer (some ⟨b, 0, none⟩), .pointer (some ⟨c, 0, none⟩)] (.panicking ({ v := .iface 103 (.agg #[]), recovered := false } :: [])) w fun e u' w' =>
      e = .returned (.tuple #[]) ∧ u' = .panicking ({ v := .iface 103 (.agg #[]), recovered := true } :: []) ∧ w' = (((((w.setCell ⟨a, 0, none⟩ (.int .i64 0)).setCell ⟨a, 1, none⟩ (.int .i64 0)).setCell ⟨a, 2, none⟩ (.string ⟨#[]⟩)).setCell ⟨b, 0, none⟩ (.bool false)).setCell ⟨c, 0, none⟩ (.int .i64 0)).alloc (.cells #[] 103) := by
  have hta := ta103 w
  refine callsD_of_wpS Tryz.func62 rfl fun c₀ cs hu => ?_
  apply wpS_seq
  apply wpS_region
  simp [wpOpsS, go_sem, recoverD, hu, Tryz.ntmps62, Exit.thenS]
  refine wpS_of_wp ?_
  obtain ⟨c1, hc1⟩ : ∃ c1 : Frame, c1 = ({ fn := c₀.fn, tmps := c₀.tmps, todo := c₀.todo, defers := c₀.defers, mode := FrameMode.panicking [{ v := Value.iface 103 (.agg #[]), recovered := true }], kind := c₀.kind, roundOf := c₀.roundOf } : Frame) := ⟨_, rfl⟩
  rw [← hc1]
  have HC1 := Lib.hid hc1
  clear hc1
  have ht : (#[Value.pointer (some ⟨a, 0, none⟩), Value.pointer (some ⟨b, 0, none⟩), Value.pointer (some ⟨c, 0, none⟩)] ++ ((Array.replicate 15 undef).setIfInBounds 3 (Value.iface 103 (.agg #[]))).setIfInBounds 0 (Value.iface 103 (.agg #[]))) = #[Value.pointer (some ⟨a, 0, none⟩), Value.pointer (some ⟨b, 0, none⟩), Value.pointer (some ⟨c, 0, none⟩), Value.iface 103 (.agg #[]), undef, undef, Value.iface 103 (.agg #[]), undef, undef, undef, undef, undef, undef, undef, undef, undef, undef, undef] := by rfl
  rw [ht]
  clear ht
  go_wp2
  exact ⟨rfl, _, by rw [HC1.out], _, by simp [results, Tryz.results62, go_sem], rfl, rfl, rfl⟩
set_option maxRecDepth 100000 in
set_option maxHeartbeats 1000000 in
theorem vcatch_idle (a b c : Nat) (w : World) :
    CallsD Tryz.prog 62 #[.pointer (some ⟨a, 0, none⟩), .pointer (some ⟨b, 0, none⟩), .pointer (some ⟨c, 0, none⟩)] .returning w fun e u' w' => e = .returned (.tuple #[]) ∧ u' = .returning ∧ w' = w := by
  refine callsD_of_wpS Tryz.func62 rfl fun c₀ cs hu => ?_
  apply wpS_seq
  apply wpS_region
  simp [wpOpsS, go_sem, recoverD, hu, Tryz.ntmps62, Exit.thenS]
  refine wpS_of_wp ?_
  have ht : (#[Value.pointer (some ⟨a, 0, none⟩), Value.pointer (some ⟨b, 0, none⟩), Value.pointer (some ⟨c, 0, none⟩)] ++ ((Array.replicate 15 undef).setIfInBounds 3 Value.nilIface).setIfInBounds 0 Value.nilIface) = #[Value.pointer (some ⟨a, 0, none⟩), Value.pointer (some ⟨b, 0, none⟩), Value.pointer (some ⟨c, 0, none⟩), Value.nilIface, undef, undef, Value.nilIface, undef, undef, undef, undef, undef, undef, undef, undef, undef, undef, undef] := by rfl
  rw [ht]
  clear ht
  have HU := Lib.hid hu
  clear hu
  go_wp2
  exact ⟨rfl, _, by have := HU.out; cases c₀; simp_all, _, by simp [results, Tryz.results62, go_sem], rfl, rfl, rfl⟩
end Go.Proofs.YtchoelgkcnnnkaaGreatDoor
namespace Go.Proofs.YtchoelgkcnnnkaaGreatDoor
open Go.RowKit
namespace Pl
theorem contains_iff (l : List ByteArray) (s : ByteArray) : Lib.containsS l s = true ↔ s ∈ l := by
  rw [Lib.containsS, decide_eq_true_eq, Lib.idxOfS_nonneg_iff]
theorem step_nodup {acc : List ByteArray} {t : Tm} (h : acc.Nodup) : (nameStep acc t).Nodup := by
  unfold nameStep
  split
  · rename_i hc
    rw [List.nodup_append]
    refine ⟨h, by simp, ?_⟩
    intro a ha b hb
    simp at hb
    subst hb
    intro e
    subst e
    have := (contains_iff acc t.s).2 ha
    rw [hc.2] at this
    cases this
  · exact h
theorem foldl_nodup (ts : List Tm) : ∀ acc : List ByteArray, acc.Nodup → (ts.foldl nameStep acc).Nodup := by
  induction ts with
  | nil => intro acc h; exact h
  | cons t r ih => intro acc h; exact ih _ (step_nodup h)
theorem namesOf_nodup (ts : List Tm) : (namesOf ts).Nodup := foldl_nodup ts [] List.nodup_nil
theorem step_mono {acc : List ByteArray} {t : Tm} {s : ByteArray} (h : s ∈ acc) : s ∈ nameStep acc t := by
  unfold nameStep
  split
  · exact List.mem_append_left _ h
  · exact h
theorem foldl_mono (ts : List Tm) : ∀ (acc : List ByteArray) (s : ByteArray), s ∈ acc → s ∈ ts.foldl nameStep acc := by
  induction ts with
  | nil => intro acc s h; exact h
  | cons t r ih => intro acc s h; exact ih _ s (step_mono h)
theorem step_mem {acc : List ByteArray} {t : Tm} (h : t.k = 4) : t.s ∈ nameStep acc t := by
  unfold nameStep
  by_cases hc : Lib.containsS acc t.s = false
  · rw [if_pos ⟨h, hc⟩]; simp
  · rw [if_neg (fun x => hc x.2)]
    exact (contains_iff _ _).1 (by simpa using hc)
theorem foldl_mem (ts : List Tm) : ∀ (acc : List ByteArray) (t : Tm), t ∈ ts → t.k = 4 → t.s ∈ ts.foldl nameStep acc := by
  induction ts with
  | nil => intro acc t h; simp at h
  | cons u r ih =>
    intro acc t h h4
    rcases List.mem_cons.1 h with rfl | h
    · exact foldl_mono r _ _ (step_mem h4)
    · exact ih _ t h h4
theorem namesOf_mem {ts : List Tm} {t : Tm} (h : t ∈ ts) (h4 : t.k = 4) : t.s ∈ namesOf ts := foldl_mem ts [] t h h4
theorem step_size {acc : List ByteArray} {t : Tm} {n : ByteArray} (h : n ∈ nameStep acc t) : n ∈ acc ∨ n = t.s := by
  unfold nameStep at h
  split at h
  · simpa using h
  · exact .inl h
theorem foldl_from (ts : List Tm) : ∀ (acc : List ByteArray) (n : ByteArray), n ∈ ts.foldl nameStep acc → n ∈ acc ∨ ∃ t ∈ ts, n = t.s := by
  induction ts with
  | nil => intro acc n h; exact .inl h
  | cons u r ih =>
    intro acc n h
    rcases ih _ n h with h | ⟨t, ht, rfl⟩
    · rcases step_size h with h | rfl
      · exact .inl h
      · exact .inr ⟨u, by simp, rfl⟩
    · exact .inr ⟨t, by simp [ht], rfl⟩
theorem namesOf_from {ts : List Tm} {n : ByteArray} (h : n ∈ namesOf ts) : ∃ t ∈ ts, n = t.s := by
  rcases foldl_from ts [] n h with h | h
  · simp at h
  · exact h
/-- The value of a name. -/
def envOf : List ByteArray → List Tm → ByteArray → Tm
  | n :: ns, v :: vs, s => if n = s then v else envOf ns vs s
  | _, _, _ => zeroV
end Pl
theorem beq_ne {a b : ByteArray} (h : a ≠ b) : (a == b) = false := by
  cases e : (a == b) with
  | false => rfl
  | true => exact absurd ((MapKept.bytes_beq a b).1 e) h
def ents : Nat → List ByteArray → List Tm → List MapEntry
  | c, n :: ns, v :: vs => ⟨.string n, v.agg, c⟩ :: ents (c + 1) ns vs
  | _, _, _ => []
theorem ents_snoc : ∀ (c : Nat) (ns : List ByteArray) (vs : List Tm) (n : ByteArray) (v : Tm), ns.length = vs.length → ents c (ns ++ [n]) (vs ++ [v]) = ents c ns vs ++ [⟨.string n, v.agg, c + ns.length⟩]
  | c, [], [], n, v, _ => rfl
  | c, m :: ns, u :: vs, n, v, h => by
    have := ents_snoc (c + 1) ns vs n v (by simpa using h)
    simp only [List.cons_append, ents, this, List.length_cons]
    rw [show c + 1 + ns.length = c + (ns.length + 1) by omega]
theorem ents_none : ∀ (c i : Nat) (ns : List ByteArray) (vs : List Tm) (s : ByteArray), s ∉ ns → Instr.findNow .string (.string s) (ents c ns vs) i = some none
  | c, i, [], vs, s, _ => by cases vs <;> rfl
  | c, i, m :: ns, [], s, _ => rfl
  | c, i, m :: ns, u :: vs, s, h => by
    simp only [List.mem_cons, not_or] at h
    have ih := ents_none (c + 1) (i + 1) ns vs s h.2
    have e : (s == m) = false := beq_ne h.1
    simp only [ents, Instr.findNow, Instr.sameNow, e]
    exact ih
theorem ents_some : ∀ (c i : Nat) (ns : List ByteArray) (vs : List Tm) (s : ByteArray), ns.length = vs.length → s ∈ ns → ∃ j, Instr.findNow .string (.string s) (ents c ns vs) i = some (some (j, (Pl.envOf ns vs s).agg))
  | c, i, [], vs, s, _, h => by simp at h
  | c, i, m :: ns, [], s, hl, h => by simp at hl
  | c, i, m :: ns, u :: vs, s, hl, h => by
    by_cases e : m = s
    · subst e
      refine ⟨i, ?_⟩
      have e2 : (m == m) = true := (MapKept.bytes_beq m m).2 rfl
      simp only [ents, Instr.findNow, Instr.sameNow, e2, Pl.envOf, if_true]
    · have h' : s ∈ ns := by
        rcases List.mem_cons.1 h with h | h
        · exact absurd h.symm e
        · exact h
      obtain ⟨j, ih⟩ := ents_some (c + 1) (i + 1) ns vs s (by simpa using hl) h'
      refine ⟨j, ?_⟩
      have e2 : (s == m) = false := beq_ne fun x => e x.symm
      simp only [ents, Instr.findNow, Instr.sameNow, e2, Pl.envOf, if_neg e]
      exact ih
theorem envOf_get : ∀ (ns : List ByteArray) (vs : List Tm) (s : ByteArray), ns.length = vs.length → s ∈ ns → ∃ i : Nat, ns[i]? = some s ∧ vs[i]? = some (Pl.envOf ns vs s)
  | [], vs, s, _, h => by simp at h
  | m :: ns, [], s, hl, h => by simp at hl
  | m :: ns, u :: vs, s, hl, h => by
    by_cases e : m = s
    · exact ⟨0, by simp [e], by simp [Pl.envOf, e]⟩
    · have h' : s ∈ ns := by
        rcases List.mem_cons.1 h with h | h
        · exact absurd h.symm e
        · exact h
      obtain ⟨i, h1, h2⟩ := envOf_get ns vs s (by simpa using hl) h'
      exact ⟨i + 1, by simpa using h1, by simpa [Pl.envOf, e] using h2⟩
end Go.Proofs.YtchoelgkcnnnkaaGreatDoor
set_option linter.all false
namespace Go.Proofs.YtchoelgkcnnnkaaGreatDoor
open Go.RowKit
def ValPost (o : Option Tm) (w : World) (e : Ending) (w' : World) : Prop :=
  (match o with | some r => e = .returned (.tuple #[r.agg, .bool true, .int .i64 0]) | none => e = .returned (.tuple #[Pl.zeroV.agg, .bool false, .int .i64 0])) ∧ Below w.heap.size w w'
/-- The slice of names, in plain words. -/
theorem names_shape {w : World} {B : Nat} {v : Value} {ns : List ByteArray} (h : StrsAt w B v ns) : ∃ a c, v = .slice a ns.length c ∧ ns.length ≤ c ∧ (ns ≠ [] → ∃ g, a = some ⟨g, 0, none⟩ ∧ g < w.heap.size ∧ ∀ j x, ns[j]? = some x → w.cell? ⟨g, j, none⟩ = some (.string x)) := by
  rcases owns_shape1 h with ⟨h1, h2⟩ | ⟨g, cap, h1, h2, _, _, h5, h6⟩
  · exact ⟨none, 0, by rw [h1, h2], by omega, fun hn => absurd (List.length_eq_zero_iff.1 h2) hn⟩
  · exact ⟨_, cap, h1, h2, fun _ => ⟨g, rfl, h5, fun j x hx => h6 j _ (by simp [hx])⟩⟩
theorem world5 (w : World) (o1 o2 o3 o4 : Obj) : ∀ W : World, W = (((w.alloc o1).alloc o2).alloc o3).alloc o4 →
    W.heap.size = w.heap.size + 1 + 1 + 1 + 1 ∧ W.heap[w.heap.size]? = some o1 ∧ W.heap[w.heap.size + 1]? = some o2 ∧ W.heap[w.heap.size + 1 + 1]? = some o3 ∧ W.heap[w.heap.size + 1 + 1 + 1]? = some o4 ∧ Below w.heap.size w W := by
  rintro W rfl
  refine ⟨?_, ?_, ?_, ?_, ?_, ?_⟩
  · show ((((w.heap.push _).push _).push _).push _).size = _
    simp
  · show ((((w.heap.push _).push _).push _).push _)[w.heap.size]? = _
    rw [Array.getElem?_push, if_neg (by simp <;> omega), Array.getElem?_push, if_neg (by simp <;> omega), Array.getElem?_push, if_neg (by simp), Array.getElem?_push, if_pos rfl]
  · show ((((w.heap.push _).push _).push _).push _)[w.heap.size + 1]? = _
    rw [Array.getElem?_push, if_neg (by simp <;> omega), Array.getElem?_push, if_neg (by simp), Array.getElem?_push, if_pos (by simp)]
  · show ((((w.heap.push _).push _).push _).push _)[w.heap.size + 1 + 1]? = _
    rw [Array.getElem?_push, if_neg (by simp), Array.getElem?_push, if_pos (by simp)]
  · show ((((w.heap.push _).push _).push _).push _)[w.heap.size + 1 + 1 + 1]? = _
    rw [Array.getElem?_push, if_pos (by simp)]
  · exact (((Below.refl _ _).alloc (Nat.le_refl _) _).alloc (by simp) _ |>.alloc (by simp <;> omega) _).alloc (by simp <;> omega) _
/-- The boxes that formula.Value lays first. -/
structure VB (w w' : World) (sl : Value) : Prop where
  q : w'.heap[w.heap.size]? = some (.cells #[sl] 25 (0, 0))
  a : w'.heap[w.heap.size + 1]? = some (.cells #[.int .i64 0, .int .i64 0, .string ⟨#[]⟩] 48 (0, 0))
  b : w'.heap[w.heap.size + 1 + 1]? = some (.cells #[.bool false] 4 (0, 0))
  c : w'.heap[w.heap.size + 1 + 1 + 1]? = some (.cells #[.int .i64 0] 30 (0, 0))
  bel : Below w.heap.size w w'
theorem VB.lt {w w' : World} {sl : Value} (h : VB w w' sl) : w.heap.size + 1 + 1 + 1 < w'.heap.size := (Array.getElem?_eq_some_iff.1 h.c).1
theorem VB.keep {w w' w2 : World} {sl : Value} (h : VB w w' sl) (hb : Below w'.heap.size w' w2) : VB w w2 sl := by
  have hl := h.lt
  exact ⟨(hb.block _ (by omega)).trans h.q, (hb.block _ (by omega)).trans h.a, (hb.block _ (by omega)).trans h.b, (hb.block _ (by omega)).trans h.c, h.bel.trans (hb.mono h.bel.size)⟩
theorem VB.grown {w w' w2 : World} {sl : Value} {m : Nat} (h : VB w w' sl) (hg : w'.grownBy w2 (some m)) (hm : w.heap.size + 1 + 1 + 1 < m) : VB w w2 sl := by
  have hl := h.lt
  exact ⟨(hg.block _ (by omega) (by simp; omega)).trans h.q, (hg.block _ (by omega) (by simp; omega)).trans h.a, (hg.block _ (by omega) (by simp; omega)).trans h.b, (hg.block _ (by omega) (by simp; omega)).trans h.c, h.bel.trans ⟨hg.os, hg.tape, hg.output, hg.size, fun k hk => hg.block k (by omega) (by simp; omega)⟩⟩
theorem VB.cells {w w' : World} {sl : Value} (h : VB w w' sl) : w'.cell? ⟨w.heap.size, 0, none⟩ = some sl ∧ w'.cell? ⟨w.heap.size + 1 + 1 + 1, 0, none⟩ = some (.int .i64 0) ∧ w'.frozen? ⟨w.heap.size + 1 + 1 + 1, 0, none⟩ = false := by
  refine ⟨?_, ?_, Lib.frozen_of_heap h.c 0⟩
  · rw [Lib.cell_of_heap h.q]; rfl
  · rw [Lib.cell_of_heap h.c]; rfl
theorem VB.again {w w' : World} {sl : Value} (h : VB w w' sl) : VB w (w'.setCell ⟨w.heap.size + 1 + 1 + 1, 0, none⟩ (.int .i64 0)) sl := by
  refine ⟨?_, ?_, ?_, ?_, h.bel.setCell (p := ⟨w.heap.size + 1 + 1 + 1, 0, none⟩) (by simp; omega) _⟩
  · rw [Below.heap_setCell _ _ _ _ (fun e => by simp at e; omega)]; exact h.q
  · rw [Below.heap_setCell _ _ _ _ (fun e => by simp at e)]; exact h.a
  · rw [Below.heap_setCell _ _ _ _ (fun e => by simp at e)]; exact h.b
  · simp [World.setCell, Array.getElem?_modify, h.c]
theorem typeOf_is (s : ByteArray) (r : Int) (w : World) (hs : s.size ≤ 9223372036854775807) (h : Hid (r = Pl.typeOf s.data.toList)) :
    Calls Tryz.prog 25 #[.string s] w fun e w' => e = .returned (.int .i64 r) ∧ Below w.heap.size w w' :=
  (typeOf_any s w hs).mono fun _ _ ⟨h1, h2⟩ => ⟨by rw [h1, h.out], h2⟩
theorem vcatch_bad2 (a : Nat) (x0 x1 x2 : Value) (z : Int) (y1 : Bool) (w : World) (h0 : w.cell? ⟨a, 0, none⟩ = some x0) (h1 : w.cell? ⟨a, 1, none⟩ = some x1) (h2 : w.cell? ⟨a, 2, none⟩ = some x2) (h3 : w.cell? ⟨a + 1, 0, none⟩ = some (.bool y1)) (h4 : w.cell? ⟨a + 1 + 1, 0, none⟩ = some (.int .i64 z))
    (f0 : w.frozen? ⟨a, 0, none⟩ = false) (f1 : w.frozen? ⟨a, 1, none⟩ = false) (f2 : w.frozen? ⟨a, 2, none⟩ = false) (f3 : w.frozen? ⟨a + 1, 0, none⟩ = false) (f4 : w.frozen? ⟨a + 1 + 1, 0, none⟩ = false) (hc : a + 1 + 1 < w.heap.size) :
    CallsD Tryz.prog 62 #[.pointer (some ⟨a, 0, none⟩), .pointer (some ⟨a + 1, 0, none⟩), .pointer (some ⟨a + 1 + 1, 0, none⟩)] (.panicking ({ v := .iface 103 (.agg #[]), recovered := false } :: [])) w fun e u' w' =>
      e = .returned (.tuple #[]) ∧ u' = .panicking ({ v := .iface 103 (.agg #[]), recovered := true } :: []) ∧ w'.cell? ⟨a, 0, none⟩ = some (.int .i64 0) ∧ w'.cell? ⟨a, 1, none⟩ = some (.int .i64 0) ∧ w'.cell? ⟨a, 2, none⟩ = some (.string ⟨#[]⟩) ∧ w'.cell? ⟨a + 1, 0, none⟩ = some (.bool false) ∧ w'.cell? ⟨a + 1 + 1, 0, none⟩ = some (.int .i64 0) ∧ Hid (Below a w w') := by
  refine (vcatch_bad a (a + 1) (a + 1 + 1) x0 x1 x2 z y1 w h0 h1 h2 h3 h4 f0 f1 f2 f3 f4 (by omega) (by omega) hc (by omega) (by omega) (by omega)).mono ?_
  rintro e u' w' ⟨rfl, rfl, rfl⟩
  refine ⟨rfl, rfl, ?_, ?_, ?_, ?_, ?_, Lib.hid ?_⟩
  · exact ((below1 _ _).cell (p := ⟨a, 0, none⟩) (by simp; omega)).trans (by simp [go_sem, h0])
  · exact ((below1 _ _).cell (p := ⟨a, 1, none⟩) (by simp; omega)).trans (by simp [go_sem, h1])
  · exact ((below1 _ _).cell (p := ⟨a, 2, none⟩) (by simp; omega)).trans (by simp [go_sem, h2])
  · exact ((below1 _ _).cell (p := ⟨a + 1, 0, none⟩) (by simp; omega)).trans (by simp [go_sem, h3])
  · exact ((below1 _ _).cell (p := ⟨a + 1 + 1, 0, none⟩) (by simp; omega)).trans (by simp [go_sem, h4])
  · exact ((((((Below.refl a w).setCell (p := ⟨a, 0, none⟩) (Nat.le_refl _) _).setCell (p := ⟨a, 1, none⟩) (Nat.le_refl _) _).setCell (p := ⟨a, 2, none⟩) (Nat.le_refl _) _).setCell (p := ⟨a + 1, 0, none⟩) (by simp) _).setCell (p := ⟨a + 1 + 1, 0, none⟩) (by simp; omega) _).alloc (by simp; omega) _
theorem take_snoc' {α : Type} {l : List α} {k : Nat} {x : α} (h : l[k]? = some x) : l.take (k + 1) = l.take k ++ [x] := by rw [List.take_add_one, h]; rfl
theorem ents_push {ns : List ByteArray} {vs : List Tm} {k : Nat} {n : ByteArray} {x : Tm} (hn : ns[k]? = some n) (hx : vs[k]? = some x) : (ents 0 (ns.take k) (vs.take k)).toArray.push ⟨.string n, x.agg, k⟩ = (ents 0 (ns.take (k + 1)) (vs.take (k + 1))).toArray := by
  have h1 := (List.getElem?_eq_some_iff.1 hn).1
  have h2 := (List.getElem?_eq_some_iff.1 hx).1
  rw [take_snoc' hn, take_snoc' hx, ents_snoc 0 _ _ _ _ (by simp; omega)]
  simp
  omega
theorem not_mem_take {ns : List ByteArray} (hd : ns.Nodup) {k : Nat} {n : ByteArray} (hn : ns[k]? = some n) : n ∉ ns.take k := by
  intro hm
  obtain ⟨i, hi, e⟩ := List.mem_iff_getElem.1 hm
  simp at hi
  have h1 := (List.getElem?_eq_some_iff.1 hn)
  obtain ⟨h1, h2⟩ := h1
  have e2 : ns[i]'(by omega) = ns[k] := by rw [h2, ← e]; simp
  exact (List.pairwise_iff_getElem.1 hd) i k (by omega) h1 (by omega) e2
theorem setMap_grown (w : World) (m : Nat) (es : Array MapEntry) (c : Nat) : w.grownBy (setMap w m es c) (some m) :=
  ⟨rfl, rfl, rfl, by simp [setMap], fun k hk hne => by
    show (w.heap.setIfInBounds m _)[k]? = _
    rw [Array.getElem?_setIfInBounds_ne (fun e => hne (by rw [e]))]⟩
theorem setMap_at {w : World} {m : Nat} (h : m < w.heap.size) (es : Array MapEntry) (c : Nat) : (setMap w m es c).heap[m]? = some (.map es c) := by
  show (w.heap.setIfInBounds m _)[m]? = _
  simp [h]
set_option maxRecDepth 100000 in
set_option maxHeartbeats 4000000 in
theorem value_ok (u : Value) (f : Fm) (vs : List Tm) (d off c : Nat) (w : World) (hcap : f.flat.length ≤ c) (hrow : RowIn w d off f.flat) (hU : TermsIn w u vs) (hwf : f.wf) (hl : f.flat.length ≤ 60) (hd : f.depth ≤ 12) (hty : Pl.ty f ≠ 0)
    (hlen : vs.length = (Pl.namesOf f.flat).length) (hok : ∀ (i : Nat) n x, (Pl.namesOf f.flat)[i]? = some n → vs[i]? = some x → Pl.validV x = true ∧ x.k = Pl.typeOf n.data.toList) :
    Calls Tryz.prog 28 #[.slice (some ⟨d, off, none⟩) f.flat.length c, u] w (ValPost (Pl.val (Pl.envOf (Pl.namesOf f.flat) vs) f) w) := by
  have hmf : ∀ (fn : Fn) (first cap : Array Value) (w : World), (Instr.makeFunc fn first cap).run Tryz.prog w = .ok (.func fn first cap) w := fun _ _ _ _ => rfl
  have hmm := @run_makeMap Tryz.prog
  obtain ⟨ua, uc, rfl, huc, _, hur⟩ := hU
  have HV : Hid (true = Pl.validB f.flat) := Lib.hid ((Pl.validB_iff f.flat).2 ⟨hl, f, hwf, hd, rfl⟩).symm
  have hd0 := hrow.lt f.flat_ne
  have HR := Lib.hid hrow
  have HU := Lib.hid hur
  have HW := Lib.hid hwf
  have HLN := Lib.hid hlen
  have HOK := Lib.hid hok
  obtain ⟨tf, htf⟩ : ∃ tf, tf = Pl.ty f := ⟨_, rfl⟩
  rw [← htf] at hty
  have hty1 : (tf == 0) = false := by simpa using hty
  have HTF := Lib.hid htf
  have hnl := Pl.namesOf_len f.flat
  have hv60 : vs.length ≤ 60 := by omega
  clear hrow hur hwf hlen hok htf hty
  go_enter_defers Tryz.func28, Tryz.ntmps28
  go_wp2_with fail
  have W5 := world5 w (.cells #[.slice (some ⟨d, off, none⟩) f.flat.length c] 25) (.cells #[.int .i64 0, .int .i64 0, .string ⟨#[]⟩] 48) (.cells #[.bool false] 4) (.cells #[.int .i64 0] 30) _ rfl
  generalize ((((w.alloc (.cells #[.slice (some ⟨d, off, none⟩) f.flat.length c] 25)).alloc (.cells #[.int .i64 0, .int .i64 0, .string ⟨#[]⟩] 48)).alloc (.cells #[.bool false] 4)).alloc (.cells #[.int .i64 0] 30)) = w0 at W5 ⊢
  obtain ⟨hs0, q0, a0, b0, c0, hb0⟩ := W5
  have HB0 := Lib.hid hb0
  have hT0 : TermsIn w0 (.slice (some ⟨d, off, none⟩) f.flat.length c) f.flat := ⟨_, _, rfl, hcap, by rintro p ⟨⟩; rfl, fun _ => ⟨_, _, rfl, HR.out.below hb0 hd0⟩⟩
  refine (type_ok _ f _ hT0 HW.out hl hd).mono ?_
  rintro e w1 ⟨rfl, hb1⟩
  rw [← HTF.out]
  have V1 := Lib.hid ((⟨q0, a0, b0, c0, hb0⟩ : VB w w0 _).keep hb1)
  clear q0 a0 b0 c0 hb0 hb1 hT0
  obtain ⟨e1, e2, e3⟩ := V1.out.cells
  have V1' := Lib.hid V1.out.again
  have HT1 := Lib.hid (HR.out.below V1'.out.bel hd0)
  go_wp2_with fail
  refine (names_ok f.flat d off c _ hcap HT1.out hl f.flat_ne HV).mono ?_
  rintro e w2 ⟨vn, rfl, hst, hb2⟩
  have V2 := Lib.hid (V1'.out.keep hb2)
  obtain ⟨na, nc, rfl, hnc, hng⟩ := names_shape hst
  obtain ⟨ns, hns⟩ : ∃ ns, ns = Pl.namesOf f.flat := ⟨_, rfl⟩
  rw [← hns] at hnc hng hnl HLN HOK ⊢
  have HNS := Lib.hid hns
  have HNG := Lib.hid hng
  clear hst hb2 hng hns e1 e2 e3
  obtain ⟨e1, e2, e3⟩ := V2.out.cells
  have hln : (vs.length == ns.length) = true := by simpa using HLN.out
  have hln2 : ((vs.length : Int) != (ns.length : Int)) = false := by have := HLN.out; simp; omega
  go_wp2_with fail
  have M3 : Hid (((w2.alloc (.map #[] 0)).alloc (.cells #[.map (some w2.heap.size)] 101)).heap[w2.heap.size]? = some (.map #[] 0)) := Lib.hid (by
    show ((w2.heap.push _).push _)[w2.heap.size]? = _
    rw [Array.getElem?_push, if_neg (by simp), Array.getElem?_push, if_pos rfl])
  have MB3 : Hid (((w2.alloc (.map #[] 0)).alloc (.cells #[.map (some w2.heap.size)] 101)).heap[w2.heap.size + 1]? = some (.cells #[.map (some w2.heap.size)] 101 (0, 0))) := Lib.hid (by
    show ((w2.heap.push _).push _)[w2.heap.size + 1]? = _
    rw [Array.getElem?_push, if_pos (by simp)])
  have hb3 := below2 w2 (.map #[] 0) (.cells #[.map (some w2.heap.size)] 101)
  have V3 := Lib.hid (V2.out.keep hb3)
  have hsz3 : w2.heap.size + 1 + 1 ≤ ((w2.alloc (.map #[] 0)).alloc (.cells #[.map (some w2.heap.size)] 101)).heap.size := by
    show _ ≤ ((w2.heap.push _).push _).size
    simp
  have HN3 : Hid (ns ≠ [] → ∃ g, na = some ⟨g, 0, none⟩ ∧ g < w2.heap.size ∧ ∀ (j : Nat) (x : ByteArray), ns[j]? = some x → ((w2.alloc (.map #[] 0)).alloc (.cells #[.map (some w2.heap.size)] 101)).cell? ⟨g, j, none⟩ = some (.string x)) := Lib.hid (by
    intro hne
    obtain ⟨g, h1, h2, h3⟩ := HNG.out hne
    exact ⟨g, h1, h2, fun j x hx => (hb3.cell (p := ⟨g, j, none⟩) h2).trans (h3 j x hx)⟩)
  have hm2 : w.heap.size + 1 + 1 + 1 < w2.heap.size := V2.out.lt
  clear e1 e2 e3 hb3 hln hln2
  generalize ((w2.alloc (.map #[] 0)).alloc (.cells #[.map (some w2.heap.size)] 101)) = w3 at M3 MB3 V3 hsz3 HN3 ⊢
  obtain ⟨m, hmm2⟩ : ∃ m, m = w2.heap.size := ⟨_, rfl⟩
  rw [← hmm2] at M3 MB3 hsz3 HN3 hm2 ⊢
  clear hmm2
  go_loopw [45] (fun i wr => ∃ k : Nat, k ≤ ns.length ∧ i = .int .i64 k ∧ wr.heap[m]? = some (.map (ents 0 (ns.take k) (vs.take k)).toArray k) ∧ w3.grownBy wr (some m)) (fun i _ => ns.length - (intOf i).toNat)
  case atStart => exact ⟨0, Nat.zero_le _, rfl, by simpa [ents] using M3.out, World.grownBy.refl _ _⟩
  case round =>
    obtain ⟨k, hk, rfl, hmk, hg⟩ := hrel
    have VR := Lib.hid (V3.out.grown hg hm2)
    have HG := Lib.hid hg
    have HMK := Lib.hid hmk
    have hmb : wr.heap[m + 1]? = some (.cells #[.map (some m)] 101 (0, 0)) := (hg.block _ (by omega) (by simp)).trans MB3.out
    have HMB := Lib.hid hmb
    have mbc : wr.cell? ⟨m + 1, 0, none⟩ = some (.map (some m)) := by rw [Lib.cell_of_heap hmb]; rfl
    have hsr := hg.size
    clear hmk hg hmb
    by_cases hkl : k < ns.length
    · obtain ⟨n, hn⟩ : ∃ n, ns[k]? = some n := ⟨ns[k], by simp⟩
      have hkv : k < vs.length := by rw [HLN.out]; exact hkl
      obtain ⟨x, hx⟩ : ∃ x, vs[k]? = some x := ⟨vs[k], by simp⟩
      obtain ⟨g, rfl, hgl, hgc⟩ := HN3.out (by intro h; rw [h] at hkl; simp at hkl)
      obtain ⟨ub, uoff, rfl, hurow⟩ := HU.out (by intro h; rw [h] at hkv; simp at hkv)
      have hgcell := HG.out.cell (hgc k n hn) (by simp; omega)
      obtain ⟨x0, x1, x2, _⟩ := (hurow.below VR.out.bel (hurow.lt (by intro h; rw [h] at hkv; simp at hkv))) k x hx
      obtain ⟨hvx, hxk⟩ := HOK.out k n x hn hx
      have hns9 : n.size ≤ 9223372036854775807 := by
        obtain ⟨t, ht, rfl⟩ := Pl.namesOf_from (ts := f.flat) (n := n) (by rw [← HNS.out]; exact List.mem_of_getElem? hn)
        obtain ⟨j, hj, rfl⟩ := List.mem_iff_getElem.1 ht
        have := (HR.out j f.flat[j] (by simp)).2.2.2
        omega
      have HP := Lib.hid (ents_push hn hx)
      have HNM := Lib.hid (not_mem_take (by rw [HNS.out]; exact Pl.namesOf_nodup _) hn)
      obtain ⟨xk, xn, xs⟩ := x
      simp only at hxk x0 x1 x2
      have HVX : Hid (true = Pl.validV ⟨xk, xn, xs⟩) := Lib.hid hvx.symm
      have HTY : Hid (xk = Pl.typeOf n.data.toList) := Lib.hid hxk
      clear hgc hurow hvx hxk hn hx
      have hubl := lt_of_cell x0
      go_wp2_with fail
      go_region_held3 (fun w' => w'.cell? ⟨ub, uoff + k * 3, none⟩ = some (.int .i64 xk) ∧ w'.cell? ⟨ub, uoff + k * 3 + 1, none⟩ = some (.int .i64 xn) ∧ w'.cell? ⟨ub, uoff + k * 3 + 2, none⟩ = some (.string xs)) (first | exact ⟨x0, x1, x2⟩ | exact ⟨y0, y1, y2⟩ | exact ⟨z0, z1, z2⟩) (first | (go_at_call 30; refine (validValue_is ⟨xk, xn, xs⟩ true _ HVX).mono ?_; rintro e wa ⟨rfl, hba⟩; have HBA := Lib.hid hba; obtain ⟨y0, y1, y2⟩ : wa.cell? ⟨ub, uoff + k * 3, none⟩ = some (.int .i64 xk) ∧ wa.cell? ⟨ub, uoff + k * 3 + 1, none⟩ = some (.int .i64 xn) ∧ wa.cell? ⟨ub, uoff + k * 3 + 2, none⟩ = some (.string xs) := ⟨(hba.cell (p := ⟨ub, uoff + k * 3, none⟩) hubl).trans x0, (hba.cell (p := ⟨ub, uoff + k * 3 + 1, none⟩) hubl).trans x1, (hba.cell (p := ⟨ub, uoff + k * 3 + 2, none⟩) hubl).trans x2⟩; clear hba) | (go_at_call 25; refine (typeOf_is n xk _ hns9 HTY).mono ?_; rintro e wb ⟨rfl, hbb⟩; have HBB := Lib.hid hbb; have hubl2 := lt_of_cell y0; obtain ⟨z0, z1, z2⟩ : wb.cell? ⟨ub, uoff + k * 3, none⟩ = some (.int .i64 xk) ∧ wb.cell? ⟨ub, uoff + k * 3 + 1, none⟩ = some (.int .i64 xn) ∧ wb.cell? ⟨ub, uoff + k * 3 + 2, none⟩ = some (.string xs) := ⟨(hbb.cell (p := ⟨ub, uoff + k * 3, none⟩) hubl2).trans y0, (hbb.cell (p := ⟨ub, uoff + k * 3 + 1, none⟩) hubl2).trans y1, (hbb.cell (p := ⟨ub, uoff + k * 3 + 2, none⟩) hubl2).trans y2⟩; clear hbb))
      have hgb := grown_trans' (grown_trans' (grown_drewN' wr 1 (some m)) (grown_of_below HBA.out (some m))) (grown_of_below HBB.out (some m))
      have hmb2 : wb.heap[m]? = some (.map (ents 0 (ns.take k) (vs.take k)).toArray k) := by
        have h1 : wr.drew.heap[m]? = some (.map (ents 0 (ns.take k) (vs.take k)).toArray k) := HMK.out
        have h2 := (HBA.out.block m (Array.getElem?_eq_some_iff.1 h1).1).trans h1
        exact (HBB.out.block m (Array.getElem?_eq_some_iff.1 h2).1).trans h2
      have hmbc := hgb.cell mbc (by simp)
      have hmlt := (Array.getElem?_eq_some_iff.1 hmb2).1
      have hput : (Instr.mapUpdate 101 (.map (some m)) (.string n) (.agg #[.int .i64 xk, .int .i64 xn, .string xs])).run Tryz.prog wb.drew = .ok () (setMap wb.drew m ((ents 0 (ns.take k) (vs.take k)).toArray.push ⟨.string n, .agg #[.int .i64 xk, .int .i64 xn, .string xs], k⟩) (k + 1)) :=
        run_put (w := wb.drew) Tryz.underlying101 Tryz.underlying9 (show MapKept.IsKey .string (.string n) by simp [MapKept.IsKey]) hmb2 (ents_none 0 0 _ _ _ HNM.out)
      have HGB := Lib.hid hgb
      have HML := Lib.hid hmlt
      clear hgb hmb2 hmlt x0 x1 x2 y0 y1 y2 hubl hubl2 mbc hgcell
      go_wp2_with fail
      go_still_tail 6, (by kernel_rfl)
      change wpList _ _ _ _ _ wb.drew
      go_wp2
      go_roundw
      case rel => exact ⟨k + 1, by omega, by go_num, by rw [← HP.out, List.push_toArray]; exact setMap_at (w := wb.drew) HML.out (ents 0 (ns.take k) (vs.take k) ++ ([⟨.string n, .agg #[.int .i64 xk, .int .i64 xn, .string xs], k⟩] : List MapEntry)).toArray (k + 1), grown_trans' (grown_trans' HG.out HGB.out) (grown_trans' (grown_drewN' wb 1 _) (setMap_grown wb.drew m _ _))⟩
      case measure => simp [intOf]; omega
    · obtain rfl : k = ns.length := by omega
      rw [List.take_length, show vs.take ns.length = vs by rw [← HLN.out, List.take_length]] at HMK
      go_wp2_with fail
      refine (operators_all _).mono ?_
      rintro e w' ⟨rfl, rfl⟩
      go_wp2_with fail
      have W6 := world5 wr (.map ops12.toArray 12) (.cells #[.map (some wr.heap.size)] 105) (.cells #[.func (.func 64) #[] #[.pointer (some ⟨w.heap.size, 0, none⟩), .pointer (some ⟨wr.heap.size + 1 + 1, 0, none⟩)]] 58) (.cells #[.func (.func 65) #[] #[.pointer (some ⟨w.heap.size, 0, none⟩), .pointer (some ⟨m + 1, 0, none⟩), .pointer (some ⟨wr.heap.size + 1 + 1, 0, none⟩), .pointer (some ⟨wr.heap.size + 1 + 1 + 1, 0, none⟩), .pointer (some ⟨wr.heap.size + 1, 0, none⟩)]] 62) _ rfl
      generalize ((((wr.alloc (.map ops12.toArray 12)).alloc (.cells #[.map (some wr.heap.size)] 105)).alloc (.cells #[.func (.func 64) #[] #[.pointer (some ⟨w.heap.size, 0, none⟩), .pointer (some ⟨wr.heap.size + 1 + 1, 0, none⟩)]] 58)).alloc (.cells #[.func (.func 65) #[] #[.pointer (some ⟨w.heap.size, 0, none⟩), .pointer (some ⟨m + 1, 0, none⟩), .pointer (some ⟨wr.heap.size + 1 + 1, 0, none⟩), .pointer (some ⟨wr.heap.size + 1 + 1 + 1, 0, none⟩), .pointer (some ⟨wr.heap.size + 1, 0, none⟩)]] 62)) = w6 at W6 ⊢
      obtain ⟨hs6, o6, ob6, sb6, fb6, hb6⟩ := W6
      have V6 := VR.out.keep hb6
      have hmr := (Array.getElem?_eq_some_iff.1 HMK.out).1
      have hmbr := (Array.getElem?_eq_some_iff.1 HMB.out).1
      have vf : VF w6 w.heap.size (m + 1) (wr.heap.size + 1 + 1) (wr.heap.size + 1 + 1 + 1) (wr.heap.size + 1) m wr.heap.size d off c f.flat (ents 0 ns vs).toArray ns.length :=
        ⟨⟨V6.cells.1, hcap, HR.out.below V6.bel hd0, by rw [Lib.cell_of_heap sb6]; rfl⟩, by rw [Lib.cell_of_heap ((hb6.block _ hmbr).trans HMB.out)]; rfl, (hb6.block _ hmr).trans HMK.out, by rw [Lib.cell_of_heap fb6]; rfl, by rw [Lib.cell_of_heap ob6]; rfl, o6⟩
      have henv : Pl.EnvOk (Pl.envOf ns vs) f := fun t ht h4 => by
        obtain ⟨i, h1, h2⟩ := envOf_get ns vs t.s HLN.out.symm (by rw [HNS.out]; exact Pl.namesOf_mem ht h4)
        exact (HOK.out i _ _ h1 h2).1
      have hemap : EnvMap (ents 0 ns vs).toArray (Pl.envOf ns vs) f := fun t ht h4 => ents_some 0 0 ns vs t.s HLN.out.symm (by rw [HNS.out]; exact Pl.namesOf_mem ht h4)
      refine (fd_all w.heap.size (m + 1) (wr.heap.size + 1 + 1) (wr.heap.size + 1 + 1 + 1) (wr.heap.size + 1) m wr.heap.size d off c f.flat (ents 0 ns vs).toArray ns.length (Pl.envOf ns vs) hl f HW.out [] [] 0 _ HW.out (by simp) rfl henv hemap vf).mono ?_
      rintro e w7 ⟨hr7, hb7⟩
      have V7 := V6.keep hb7
      have B7 := Lib.hid V7.bel
      have ba7 : Box3 w7 (w.heap.size + 1) (.int .i64 0) (.int .i64 0) (.string ⟨#[]⟩) 48 := V7.a
      obtain ⟨a0, a1, a2, af0, af1, af2⟩ := ba7.cells
      have b0 : w7.cell? ⟨w.heap.size + 1 + 1, 0, none⟩ = some (.bool false) := by rw [Lib.cell_of_heap V7.b]; rfl
      have c0 := V7.cells.2.1
      have bf0 := Lib.frozen_of_heap V7.b 0
      have cf0 := V7.cells.2.2
      have hlt7 := V7.lt
      clear hs6 o6 ob6 sb6 fb6 hb6 V6 vf henv hemap hb7 V7 ba7 hmr hmbr mbc
      obtain ⟨vo, hvo⟩ : ∃ vo, vo = Pl.val (Pl.envOf ns vs) f := ⟨_, rfl⟩
      rw [← hvo] at hr7
      have HVO := Lib.hid hvo
      clear hvo
      cases vo with
      | none =>
        obtain rfl : e = .panicked noneP := hr7
        unfold noneP
        go_wp2
        refine leaves_cons (f := 62) (args := #[.pointer (some ⟨w.heap.size + 1, 0, none⟩), .pointer (some ⟨w.heap.size + 1 + 1, 0, none⟩), .pointer (some ⟨w.heap.size + 1 + 1 + 1, 0, none⟩)]) (by simp) (by simp [go_sem]) ?_
        refine (vcatch_bad2 (w.heap.size + 1) _ _ _ _ _ _ a0 a1 a2 b0 c0 af0 af1 af2 bf0 cf0 hlt7).mono ?_
        rintro e u' w9 ⟨rfl, rfl, z0, z1, z2, z3, z4, HB9⟩
        simp [Leaves, settle, results, Tryz.results28, go_sem, z0, z1, z2, z3, z4]
        rw [← HNS.out, ← HVO.out]
        exact ⟨rfl, B7.out.trans (HB9.out.mono (Nat.le_succ _))⟩
      | some r =>
        obtain rfl : e = .returned r.agg := hr7
        obtain ⟨rk, rn, rs⟩ := r
        unfold Tm.agg
        go_wp2
        refine leaves_cons (f := 62) (args := #[.pointer (some ⟨w.heap.size + 1, 0, none⟩), .pointer (some ⟨w.heap.size + 1 + 1, 0, none⟩), .pointer (some ⟨w.heap.size + 1 + 1 + 1, 0, none⟩)]) (by simp) (by simp [go_sem]) ?_
        refine (vcatch_idle (w.heap.size + 1) (w.heap.size + 1 + 1) (w.heap.size + 1 + 1 + 1) _).mono ?_
        rintro e u' w9 ⟨rfl, rfl, rfl⟩
        simp [Leaves, settle, results, Tryz.results28, go_sem, a0, a1, a2, b0, c0]
        rw [← HNS.out, ← HVO.out]
        exact ⟨rfl, ((((B7.out.setCell (p := ⟨w.heap.size + 1, 0, none⟩) (Nat.le_succ _) _).setCell (p := ⟨w.heap.size + 1, 1, none⟩) (Nat.le_succ _) _).setCell (p := ⟨w.heap.size + 1, 2, none⟩) (Nat.le_succ _) _).setCell (p := ⟨w.heap.size + 1 + 1, 0, none⟩) (by simp; omega) _).setCell (p := ⟨w.heap.size + 1 + 1 + 1, 0, none⟩) (by simp; omega) _⟩
end Go.Proofs.YtchoelgkcnnnkaaGreatDoor
