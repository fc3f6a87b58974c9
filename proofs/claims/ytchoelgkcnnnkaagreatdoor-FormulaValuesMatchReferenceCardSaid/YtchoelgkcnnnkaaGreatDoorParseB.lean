/- WALKS: formula.Parse, and what it defers. · LAWS: the terms that a reader owns read as a list of terms; what the reader reads is no longer than the text. -/
import Derived.Test.YtchoelgkcnnnkaaGreatDoorRdM
import Derived.Test.YtchoelgkcnnnkaaGreatDoorTmMem
import Derived.Defers
import Derived.Recover
set_option linter.all false
namespace Go.Proofs.YtchoelgkcnnnkaaGreatDoor
open Go.RowKit
theorem ta94 (q : Int) (w : World) : (Instr.typeAssert (.iface 94 (.int .i64 q)) 20 94 true).run Tryz.prog w = .ok (.tuple #[.int .i64 q, .bool true]) w := by kernel_rfl
set_option maxRecDepth 100000 in
set_option maxHeartbeats 1000000 in
theorem catch_bad (a b c : Nat) (q : Int) (x : Value) (y z : Int) (w : World) (h0 : w.cell? ⟨a, 0, none⟩ = some x) (h1 : w.cell? ⟨b, 0, none⟩ = some (.int .i64 y)) (h2 : w.cell? ⟨c, 0, none⟩ = some (.int .i64 z)) (f0 : w.frozen? ⟨a, 0, none⟩ = false) (f1 : w.frozen? ⟨b, 0, none⟩ = false) (f2 : w.frozen? ⟨c, 0, none⟩ = false) (hab : a ≠ b) (hac : a ≠ c) (hbc : b ≠ c) :
    CallsD Tryz.prog 55 #[.pointer (some ⟨a, 0, none⟩), .pointer (some ⟨b, 0, none⟩), .pointer (some ⟨c, 0, none⟩)] (.panicking ({ v := .iface 94 (.int .i64 q), recovered := false } :: [])) w fun e u' w' =>
      e = .returned (.tuple #[]) ∧ u' = .panicking ({ v := .iface 94 (.int .i64 q), recovered := true } :: []) ∧ w' = ((w.setCell ⟨a, 0, none⟩ (.slice none 0 0)).setCell ⟨b, 0, none⟩ (.int .i64 q)).setCell ⟨c, 0, none⟩ (.int .i64 150) := by
  have hta := ta94 q w
  refine callsD_of_wpS Tryz.func55 rfl fun c₀ cs hu => ?_
  apply wpS_seq
  apply wpS_region
  simp [wpOpsS, go_sem, recoverD, hu, Tryz.ntmps55, Exit.thenS]
  refine wpS_of_wp ?_
  trace "1"
  obtain ⟨c1, hc1⟩ : ∃ c1 : Frame, c1 = ({ fn := c₀.fn, tmps := c₀.tmps, todo := c₀.todo, defers := c₀.defers, mode := FrameMode.panicking [{ v := Value.iface 94 (Value.int IntKind.i64 q), recovered := true }], kind := c₀.kind, roundOf := c₀.roundOf } : Frame) := ⟨_, rfl⟩
  rw [← hc1]
  have HC1 := Lib.hid hc1
  clear hc1
  have ht : (#[Value.pointer (some ⟨a, 0, none⟩), Value.pointer (some ⟨b, 0, none⟩), Value.pointer (some ⟨c, 0, none⟩)] ++ ((Array.replicate 15 undef).setIfInBounds 3 (Value.iface 94 (Value.int IntKind.i64 q))).setIfInBounds 0 (Value.iface 94 (Value.int IntKind.i64 q))) = #[Value.pointer (some ⟨a, 0, none⟩), Value.pointer (some ⟨b, 0, none⟩), Value.pointer (some ⟨c, 0, none⟩), Value.iface 94 (Value.int IntKind.i64 q), undef, undef, Value.iface 94 (Value.int IntKind.i64 q), undef, undef, undef, undef, undef, undef, undef, undef, undef, undef, undef] := by rfl
  rw [ht]
  clear ht
  go_wp2
  exact ⟨rfl, _, by rw [HC1.out], _, by simp [results, Tryz.results55, go_sem], rfl, rfl, rfl⟩
set_option maxRecDepth 100000 in
set_option maxHeartbeats 1000000 in
theorem catch_idle (a b c : Nat) (w : World) :
    CallsD Tryz.prog 55 #[.pointer (some ⟨a, 0, none⟩), .pointer (some ⟨b, 0, none⟩), .pointer (some ⟨c, 0, none⟩)] .returning w fun e u' w' => e = .returned (.tuple #[]) ∧ u' = .returning ∧ w' = w := by
  refine callsD_of_wpS Tryz.func55 rfl fun c₀ cs hu => ?_
  apply wpS_seq
  apply wpS_region
  simp [wpOpsS, go_sem, recoverD, hu, Tryz.ntmps55, Exit.thenS]
  refine wpS_of_wp ?_
  have ht : (#[Value.pointer (some ⟨a, 0, none⟩), Value.pointer (some ⟨b, 0, none⟩), Value.pointer (some ⟨c, 0, none⟩)] ++ ((Array.replicate 15 undef).setIfInBounds 3 Value.nilIface).setIfInBounds 0 Value.nilIface) = #[Value.pointer (some ⟨a, 0, none⟩), Value.pointer (some ⟨b, 0, none⟩), Value.pointer (some ⟨c, 0, none⟩), Value.nilIface, undef, undef, Value.nilIface, undef, undef, undef, undef, undef, undef, undef, undef, undef, undef, undef] := by rfl
  rw [ht]
  clear ht
  have HU := Lib.hid hu
  clear hu
  go_wp2
  exact ⟨rfl, _, by have := HU.out; cases c₀; simp_all, _, by simp [results, Tryz.results55, go_sem], rfl, rfl, rfl⟩
end Go.Proofs.YtchoelgkcnnnkaaGreatDoor
namespace Go.Proofs.YtchoelgkcnnnkaaGreatDoor
open Go.RowKit
namespace Pl
/-- Every text is at most so long. -/
def Fits (s : ByteArray) (f : Fm) : Prop := ∀ t ∈ f.flat, t.s.size ≤ s.size
theorem fits_lf {s : ByteArray} {t : Tm} (h : t.s.size ≤ s.size) : Fits s (.lf t) := fun u hu => by simp [Fm.flat] at hu; subst hu; exact h
theorem extract_le (s : ByteArray) (i j : Nat) : (s.extract i j).size ≤ s.size := by
  rw [ByteArray.size_extract]; omega
theorem rd_fits (s : ByteArray) : ∀ (n p : Nat), (rd s n p).sat (fun f _ => Fits s f) (fun _ => True)
  | 0, p => trivial
  | n + 1, p => by
    have ih := rd_fits s n
    have un : ∀ k, Rd.sat ((rd s n (p + 1)).then fun a q => .ok (.un (mk0 k) a) q) (fun f _ => Fits s f) (fun _ => True) := by
      intro k
      refine Rd.sat_then (ih (p + 1)) (fun _ _ => trivial) fun a q ha => ?_
      intro t ht
      simp only [Fm.flat, List.mem_cons] at ht
      rcases ht with rfl | ht
      · exact Nat.zero_le _
      · exact ha t ht
    have itr : ∀ {c : Prop} [Decidable c] {a b : Rd}, (c → a.sat (fun f _ => Fits s f) (fun _ => True)) → (¬ c → b.sat (fun f _ => Fits s f) (fun _ => True)) → (if c then a else b).sat (fun f _ => Fits s f) (fun _ => True) := by
      intro c _ a b h1 h2
      by_cases h : c
      · rw [if_pos h]; exact h1 h
      · rw [if_neg h]; exact h2 h
    unfold rd
    refine itr (fun _ => trivial) fun _ => ?_
    refine itr (fun _ => fits_lf (Nat.zero_le _)) fun _ => ?_
    refine itr (fun _ => sat_word (fun _ => fits_lf (Nat.zero_le _)) fun _ _ => trivial) fun _ => ?_
    refine itr (fun _ => fits_lf (Nat.zero_le _)) fun _ => ?_
    refine itr (fun _ => fits_lf (extract_le _ _ _)) fun _ => ?_
    refine itr (fun _ => sat_word (fun _ => fits_lf (extract_le _ _ _)) fun _ _ => trivial) fun _ => ?_
    refine itr (fun _ => un _) fun _ => ?_
    refine itr (fun _ => un _) fun _ => ?_
    refine itr (fun _ => un _) fun _ => ?_
    refine itr (fun _ => ?_) fun _ => ?_
    · refine Rd.sat_then (ih (p + 1)) (fun _ _ => trivial) fun a q ha => ?_
      refine itr (fun _ => trivial) fun _ => ?_
      refine Rd.sat_then (ih (q + 1)) (fun _ _ => trivial) fun b q2 hb => ?_
      refine sat_word (fun _ => ?_) fun _ _ => trivial
      intro t ht
      simp only [Fm.flat, List.mem_cons, List.mem_append] at ht
      rcases ht with rfl | ht | ht
      · exact Nat.zero_le _
      · exact ha t ht
      · exact hb t ht
    refine itr (fun _ => ?_) fun _ => trivial
    refine sat_word (fun _ => ?_) fun _ _ => trivial
    refine Rd.sat_then (ih (p + 2)) (fun _ _ => trivial) fun a q ha => ?_
    refine sat_word (fun _ => ?_) fun _ _ => trivial
    refine Rd.sat_then (ih (q + 1)) (fun _ _ => trivial) fun b q2 hb => ?_
    refine sat_word (fun _ => ?_) fun _ _ => trivial
    refine Rd.sat_then (ih (q2 + 1)) (fun _ _ => trivial) fun c q3 hc => ?_
    refine sat_word (fun _ => ?_) fun _ _ => trivial
    intro t ht
    simp only [Fm.flat, List.mem_cons, List.mem_append] at ht
    rcases ht with rfl | ht | ht | ht
    · exact Nat.zero_le _
    · exact ha t ht
    · exact hb t ht
    · exact hc t ht
end Pl
end Go.Proofs.YtchoelgkcnnnkaaGreatDoor
