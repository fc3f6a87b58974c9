/- WALK: formula.Value's closure that finds a value, whole. Printed by genvb.py. · WALK: what formula.Value defers. · LAWS: the names of a formula are apart and are all there; the map from names to values. -/
import Derived.Test.YtchoelgkcnnnkaaGreatDoorValC
import Derived.Test.YtchoelgkcnnnkaaGreatDoorValD
import Derived.Test.YtchoelgkcnnnkaaGreatDoorValE
import Derived.Test.YtchoelgkcnnnkaaGreatDoorValF
import Derived.Test.YtchoelgkcnnnkaaGreatDoorPrintH
import Derived.Test.YtchoelgkcnnnkaaGreatDoorTypeE
set_option linter.all false
namespace Go.Proofs.YtchoelgkcnnnkaaGreatDoor
open Go.RowKit
theorem fd_all (q mb sb fb ob m o d off c : Nat) (ts : List Tm) (es : Array MapEntry) (clk : Nat) (env : ByteArray → Tm) (hl : ts.length ≤ 60) : ∀ f : Fm, f.wf → Fd q mb sb fb ob m o d off c ts es clk env f
  | .lf t, h => by
    rcases (k_cases t.k).1 h.2 with hk | hk | hk | hk
    · exact fd_leaf1 q mb sb fb ob m o d off c ts es clk env hl t hk
    · exact fd_leaf2 q mb sb fb ob m o d off c ts es clk env hl t hk
    · exact fd_leaf3 q mb sb fb ob m o d off c ts es clk env hl t hk
    · exact fd_leaf4 q mb sb fb ob m o d off c ts es clk env hl t hk
  | .un t a, h => by
    have ia := fd_all q mb sb fb ob m o d off c ts es clk env hl a h.2.2
    rcases (k_cases t.k).2.1 h.2.1 with hk | hk | hk
    · exact fd_un5 q mb sb fb ob m o d off c ts es clk env hl t a hk ia
    · exact fd_un6 q mb sb fb ob m o d off c ts es clk env hl t a hk ia
    · exact fd_un7 q mb sb fb ob m o d off c ts es clk env hl t a hk ia
  | .bi t a b, h => by
    have ia := fd_all q mb sb fb ob m o d off c ts es clk env hl a h.2.2.1
    have ib := fd_all q mb sb fb ob m o d off c ts es clk env hl b h.2.2.2
    rcases (k_cases t.k).2.2.1 h.2.1 with hk | hk | hk | hk | hk | hk | hk | hk | hk
    · exact fd_bi8 q mb sb fb ob m o d off c ts es clk env hl t a b hk ia ib
    · exact fd_bi9 q mb sb fb ob m o d off c ts es clk env hl t a b hk ia ib
    · exact fd_bi10 q mb sb fb ob m o d off c ts es clk env hl t a b hk ia ib
    · exact fd_bi11 q mb sb fb ob m o d off c ts es clk env hl t a b hk ia ib
    · exact fd_bi12 q mb sb fb ob m o d off c ts es clk env hl t a b hk ia ib
    · exact fd_bi13 q mb sb fb ob m o d off c ts es clk env hl t a b hk ia ib
    · exact fd_bi14 q mb sb fb ob m o d off c ts es clk env hl t a b hk ia ib
    · exact fd_bi15 q mb sb fb ob m o d off c ts es clk env hl t a b hk ia ib
    · exact fd_bi16 q mb sb fb ob m o d off c ts es clk env hl t a b hk ia ib
  | .tr t a b g, h => fd_tr q mb sb fb ob m o d off c ts es clk env hl t a b g ((k_cases t.k).2.2.2 h.2.1) (fd_all q mb sb fb ob m o d off c ts es clk env hl a h.2.2.1) (fd_all q mb sb fb ob m o d off c ts es clk env hl b h.2.2.2.1) (fd_all q mb sb fb ob m o d off c ts es clk env hl g h.2.2.2.2)
end Go.Proofs.YtchoelgkcnnnkaaGreatDoor
namespace Go.Proofs.YtchoelgkcnnnkaaGreatDoor
open Go.RowKit
theorem ta103 (w : World) : (Instr.typeAssert (.iface 103 (.agg #[])) 20 103 true).run Tryz.prog w = .ok (.tuple #[.agg #[], .bool true]) w := by kernel_rfl
set_option maxRecDepth 100000 in
set_option maxHeartbeats 1000000 in
theorem vcatch_bad (a b c : Nat) (x0 x1 x2 : Value) (z : Int) (y1 : Bool) (w : World) (h0 : w.cell? ⟨a, 0, none⟩ = some x0) (h1 : w.cell? ⟨a, 1, none⟩ = some x1) (h2 : w.cell? ⟨a, 2, none⟩ = some x2) (h3 : w.cell? ⟨b, 0, none⟩ = some (.bool y1)) (h4 : w.cell? ⟨c, 0, none⟩ = some (.int .i64 z))
    (f0 : w.frozen? ⟨a, 0, none⟩ = false) (f1 : w.frozen? ⟨a, 1, none⟩ = false) (f2 : w.frozen? ⟨a, 2, none⟩ = false) (f3 : w.frozen? ⟨b, 0, none⟩ = false) (f4 : w.frozen? ⟨c, 0, none⟩ = false) (ha : a < w.heap.size) (hb : b < w.heap.size) (hc : c < w.heap.size) (hab : a ≠ b) (hac : a ≠ c) (hbc : b ≠ c) :
    CallsD Tryz.prog 62 #[.pointer (some ⟨a, 0, none⟩), .pointer (some ⟨b, 0, none⟩), .pointer (some ⟨c, 0, none⟩)] (.panicking ({ v := .iface 103 (.agg #[]), recovered := false } :: [])) w fun e u' w' =>
      e = .returned (.tuple #[]) ∧ u' = .panicking ({ v := .iface 103 (.agg #[]), recovered := true } :: []) ∧ w' = (((((w.setCell ⟨a, 0, none⟩ (.int .i64 0)).setCell ⟨a, 1, none⟩ (.int .i64 0)).setCell ⟨a, 2, none⟩ (.string ⟨#[]⟩)).setCell ⟨b, 0, none⟩ (.bool false)).setCell ⟨c, 0, none⟩ (.int .i64 0)).alloc (.cells #[] 103) := by
  have hta := ta103 w
  refine callsD_of_wpS Tryz.func62 rfl fun c₀ cs hu => ?_
  apply wpS_seq
  apply wpS_region
  simp [wpOpsS, go_sem, recoverD, hu, Tryz.ntmps62, Exit.thenS]
  refine wpS_of_wp ?_
  obtain ⟨c1, hc1⟩ : ∃ c1 : Frame, c1 = ({ fn := c₀.fn, tmps := c₀.tmps, todo := c₀.todo, defers := c₀.defers, mode := FrameMode.panicking [{ v := Value.iface 103 (.agg #[]), recovered := true }], kind := c₀.kind, roundOf := c₀.roundOf } : Frame) := ⟨_, rfl⟩
  rw [← hc1]
  have HC1 := Lib.hid hc1
  clear hc1
  have ht : (#[Value.pointer (some ⟨a, 0, none⟩), Value.pointer (some ⟨b, 0, none⟩), Value.pointer (some ⟨c, 0, none⟩)] ++ ((Array.replicate 15 undef).setIfInBounds 3 (Value.iface 103 (.agg #[]))).setIfInBounds 0 (Value.iface 103 (.agg #[]))) = #[Value.pointer (some ⟨a, 0, none⟩), Value.pointer (some ⟨b, 0, none⟩), Value.pointer (some ⟨c, 0, none⟩), Value.iface 103 (.agg #[]), undef, undef, Value.iface 103 (.agg #[]), undef, undef, undef, undef, undef, undef, undef, undef, undef, undef, undef] := by rfl
  rw [ht]
  clear ht
  go_wp2
  exact ⟨rfl, _, by rw [HC1.out], _, by simp [results, Tryz.results62, go_sem], rfl, rfl, rfl⟩
set_option maxRecDepth 100000 in
set_option maxHeartbeats 1000000 in
theorem vcatch_idle (a b c : Nat) (w : World) :
    CallsD Tryz.prog 62 #[.pointer (some ⟨a, 0, none⟩), .pointer (some ⟨b, 0, none⟩), .pointer (some ⟨c, 0, none⟩)] .returning w fun e u' w' => e = .returned (.tuple #[]) ∧ u' = .returning ∧ w' = w := by
  refine callsD_of_wpS Tryz.func62 rfl fun c₀ cs hu => ?_
  apply wpS_seq
  apply wpS_region
  simp [wpOpsS, go_sem, recoverD, hu, Tryz.ntmps62, Exit.thenS]
  refine wpS_of_wp ?_
  have ht : (#[Value.pointer (some ⟨a, 0, none⟩), Value.pointer (some ⟨b, 0, none⟩), Value.pointer (some ⟨c, 0, none⟩)] ++ ((Array.replicate 15 undef).setIfInBounds 3 Value.nilIface).setIfInBounds 0 Value.nilIface) = #[Value.pointer (some ⟨a, 0, none⟩), Value.pointer (some ⟨b, 0, none⟩), Value.pointer (some ⟨c, 0, none⟩), Value.nilIface, undef, undef, Value.nilIface, undef, undef, undef, undef, undef, undef, undef, undef, undef, undef, undef] := by rfl
  rw [ht]
  clear ht
  have HU := Lib.hid hu
  clear hu
  go_wp2
  exact ⟨rfl, _, by have := HU.out; cases c₀; simp_all, _, by simp [results, Tryz.results62, go_sem], rfl, rfl, rfl⟩
end Go.Proofs.YtchoelgkcnnnkaaGreatDoor
namespace Go.Proofs.YtchoelgkcnnnkaaGreatDoor
open Go.RowKit
namespace Pl
theorem contains_iff (l : List ByteArray) (s : ByteArray) : Lib.containsS l s = true ↔ s ∈ l := by
  rw [Lib.containsS, decide_eq_true_eq, Lib.idxOfS_nonneg_iff]
theorem step_nodup {acc : List ByteArray} {t : Tm} (h : acc.Nodup) : (nameStep acc t).Nodup := by
  unfold nameStep
  split
  · rename_i hc
    rw [List.nodup_append]
    refine ⟨h, by simp, ?_⟩
    intro a ha b hb
    simp at hb
    subst hb
    intro e
    subst e
    have := (contains_iff acc t.s).2 ha
    rw [hc.2] at this
    cases this
  · exact h
theorem foldl_nodup (ts : List Tm) : ∀ acc : List ByteArray, acc.Nodup → (ts.foldl nameStep acc).Nodup := by
  induction ts with
  | nil => intro acc h; exact h
  | cons t r ih => intro acc h; exact ih _ (step_nodup h)
theorem namesOf_nodup (ts : List Tm) : (namesOf ts).Nodup := foldl_nodup ts [] List.nodup_nil
theorem step_mono {acc : List ByteArray} {t : Tm} {s : ByteArray} (h : s ∈ acc) : s ∈ nameStep acc t := by
  unfold nameStep
  split
  · exact List.mem_append_left _ h
  · exact h
theorem foldl_mono (ts : List Tm) : ∀ (acc : List ByteArray) (s : ByteArray), s ∈ acc → s ∈ ts.foldl nameStep acc := by
  induction ts with
  | nil => intro acc s h; exact h
  | cons t r ih => intro acc s h; exact ih _ s (step_mono h)
theorem step_mem {acc : List ByteArray} {t : Tm} (h : t.k = 4) : t.s ∈ nameStep acc t := by
  unfold nameStep
  by_cases hc : Lib.containsS acc t.s = false
  · rw [if_pos ⟨h, hc⟩]; simp
  · rw [if_neg (fun x => hc x.2)]
    exact (contains_iff _ _).1 (by simpa using hc)
theorem foldl_mem (ts : List Tm) : ∀ (acc : List ByteArray) (t : Tm), t ∈ ts → t.k = 4 → t.s ∈ ts.foldl nameStep acc := by
  induction ts with
  | nil => intro acc t h; simp at h
  | cons u r ih =>
    intro acc t h h4
    rcases List.mem_cons.1 h with rfl | h
    · exact foldl_mono r _ _ (step_mem h4)
    · exact ih _ t h h4
theorem namesOf_mem {ts : List Tm} {t : Tm} (h : t ∈ ts) (h4 : t.k = 4) : t.s ∈ namesOf ts := foldl_mem ts [] t h h4
theorem step_size {acc : List ByteArray} {t : Tm} {n : ByteArray} (h : n ∈ nameStep acc t) : n ∈ acc ∨ n = t.s := by
  unfold nameStep at h
  split at h
  · simpa using h
  · exact .inl h
theorem foldl_from (ts : List Tm) : ∀ (acc : List ByteArray) (n : ByteArray), n ∈ ts.foldl nameStep acc → n ∈ acc ∨ ∃ t ∈ ts, n = t.s := by
  induction ts with
  | nil => intro acc n h; exact .inl h
  | cons u r ih =>
    intro acc n h
    rcases ih _ n h with h | ⟨t, ht, rfl⟩
    · rcases step_size h with h | rfl
      · exact .inl h
      · exact .inr ⟨u, by simp, rfl⟩
    · exact .inr ⟨t, by simp [ht], rfl⟩
theorem namesOf_from {ts : List Tm} {n : ByteArray} (h : n ∈ namesOf ts) : ∃ t ∈ ts, n = t.s := by
  rcases foldl_from ts [] n h with h | h
  · simp at h
  · exact h
/-- The value of a name. -/
def envOf : List ByteArray → List Tm → ByteArray → Tm
  | n :: ns, v :: vs, s => if n = s then v else envOf ns vs s
  | _, _, _ => zeroV
end Pl
theorem beq_ne {a b : ByteArray} (h : a ≠ b) : (a == b) = false := by
  cases e : (a == b) with
  | false => rfl
  | true => exact absurd ((MapKept.bytes_beq a b).1 e) h
def ents : Nat → List ByteArray → List Tm → List MapEntry
  | c, n :: ns, v :: vs => ⟨.string n, v.agg, c⟩ :: ents (c + 1) ns vs
  | _, _, _ => []
theorem ents_snoc : ∀ (c : Nat) (ns : List ByteArray) (vs : List Tm) (n : ByteArray) (v : Tm), ns.length = vs.length → ents c (ns ++ [n]) (vs ++ [v]) = ents c ns vs ++ [⟨.string n, v.agg, c + ns.length⟩]
  | c, [], [], n, v, _ => rfl
  | c, m :: ns, u :: vs, n, v, h => by
    have := ents_snoc (c + 1) ns vs n v (by simpa using h)
    simp only [List.cons_append, ents, this, List.length_cons]
    rw [show c + 1 + ns.length = c + (ns.length + 1) by omega]
theorem ents_none : ∀ (c i : Nat) (ns : List ByteArray) (vs : List Tm) (s : ByteArray), s ∉ ns → Instr.findNow .string (.string s) (ents c ns vs) i = some none
  | c, i, [], vs, s, _ => by cases vs <;> rfl
  | c, i, m :: ns, [], s, _ => rfl
  | c, i, m :: ns, u :: vs, s, h => by
    simp only [List.mem_cons, not_or] at h
    have ih := ents_none (c + 1) (i + 1) ns vs s h.2
    have e : (s == m) = false := beq_ne h.1
    simp only [ents, Instr.findNow, Instr.sameNow, e]
    exact ih
theorem ents_some : ∀ (c i : Nat) (ns : List ByteArray) (vs : List Tm) (s : ByteArray), ns.length = vs.length → s ∈ ns → ∃ j, Instr.findNow .string (.string s) (ents c ns vs) i = some (some (j, (Pl.envOf ns vs s).agg))
  | c, i, [], vs, s, _, h => by simp at h
  | c, i, m :: ns, [], s, hl, h => by simp at hl
  | c, i, m :: ns, u :: vs, s, hl, h => by
    by_cases e : m = s
    · subst e
      refine ⟨i, ?_⟩
      have e2 : (m == m) = true := (MapKept.bytes_beq m m).2 rfl
      simp only [ents, Instr.findNow, Instr.sameNow, e2, Pl.envOf, if_true]
    · have h' : s ∈ ns := by
        rcases List.mem_cons.1 h with h | h
        · exact absurd h.symm e
        · exact h
      obtain ⟨j, ih⟩ := ents_some (c + 1) (i + 1) ns vs s (by simpa using hl) h'
      refine ⟨j, ?_⟩
      have e2 : (s == m) = false := beq_ne fun x => e x.symm
      simp only [ents, Instr.findNow, Instr.sameNow, e2, Pl.envOf, if_neg e]
      exact ih
theorem envOf_get : ∀ (ns : List ByteArray) (vs : List Tm) (s : ByteArray), ns.length = vs.length → s ∈ ns → ∃ i : Nat, ns[i]? = some s ∧ vs[i]? = some (Pl.envOf ns vs s)
  | [], vs, s, _, h => by simp at h
  | m :: ns, [], s, hl, h => by simp at hl
  | m :: ns, u :: vs, s, hl, h => by
    by_cases e : m = s
    · exact ⟨0, by simp [e], by simp [Pl.envOf, e]⟩
    · have h' : s ∈ ns := by
        rcases List.mem_cons.1 h with h | h
        · exact absurd h.symm e
        · exact h
      obtain ⟨i, h1, h2⟩ := envOf_get ns vs s (by simpa using hl) h'
      exact ⟨i + 1, by simpa using h1, by simpa [Pl.envOf, e] using h2⟩
end Go.Proofs.YtchoelgkcnnnkaaGreatDoor
