/- WHAT LIES IN MEMORY: rows of terms that a call owns, or has made, read as lists of terms. -/
import Derived.Test.YtchoelgkcnnnkaaGreatDoorRdC
import Derived.Laws.OwnMore
set_option linter.all false
namespace Go.Proofs.YtchoelgkcnnnkaaGreatDoor
open Go.RowKit
theorem tmCells_at : ∀ (ts : List Tm) (i : Nat) (t : Tm), ts[i]? = some t → (tmCells ts)[i * 3]? = some (.int .i64 t.k) ∧ (tmCells ts)[i * 3 + 1]? = some (.int .i64 t.n) ∧ (tmCells ts)[i * 3 + 2]? = some (.string t.s)
  | [], i, t, h => by simp at h
  | u :: r, 0, t, h => by simp at h; subst h; exact ⟨rfl, rfl, rfl⟩
  | u :: r, i + 1, t, h => by
    have ih := tmCells_at r i t (by simpa using h)
    have e : tmCells (u :: r) = Value.int .i64 u.k :: Value.int .i64 u.n :: Value.string u.s :: tmCells r := rfl
    rw [e, show (i + 1) * 3 = i * 3 + 1 + 1 + 1 by omega]
    simpa using ih
theorem own_terms {w : World} {B : Nat} {v : Value} {ts : List Tm} (h : OwnTms w B v ts) (hs : ∀ t ∈ ts, t.s.size ≤ 9223372036854775807) : TermsIn w v ts := by
  have h' := h
  rcases h.2 with ⟨h1, h2⟩ | ⟨g, cap, cur, h1, _, _, hn, _⟩
  · refine ⟨none, 0, by rw [h1, h2], by omega, by simp, fun hne => ?_⟩
    exact absurd (List.length_eq_zero_iff.1 h2) hne
  · refine ⟨some ⟨g, 0, none⟩, cap, h1, hn, by rintro p ⟨⟩; rfl, fun _ => ⟨g, 0, rfl, fun i t ht => ?_⟩⟩
    subst h1
    have hi := (List.getElem?_eq_some_iff.1 ht).1
    obtain ⟨a1, a2, a3⟩ := tmCells_at ts i t ht
    refine ⟨?_, ?_, ?_, hs t (List.mem_of_getElem? ht)⟩
    · rw [Nat.zero_add, World.ownsRow.cellAt h' _ (by omega)]; exact a1
    · rw [Nat.zero_add, World.ownsRow.cellAt h' _ (by omega)]; exact a2
    · rw [Nat.zero_add, World.ownsRow.cellAt h' _ (by omega)]; exact a3
theorem rowIn_block {w : World} {d : Nat} {ts : List Tm} {T : TypeId} {cs : Array Value} (hc : cs = (tmCells ts).toArray) (h : w.heap[d]? = some (.cells cs T (0, 0))) (hs : ∀ t ∈ ts, t.s.size ≤ 9223372036854775807) : RowIn w d 0 ts := by
  intro i t ht
  obtain ⟨a1, a2, a3⟩ := tmCells_at ts i t ht
  subst hc
  refine ⟨?_, ?_, ?_, hs t (List.mem_of_getElem? ht)⟩
  · rw [Nat.zero_add, Lib.cell_of_heap h]; simpa using a1
  · rw [Nat.zero_add, Lib.cell_of_heap h]; simpa using a2
  · rw [Nat.zero_add, Lib.cell_of_heap h]; simpa using a3
theorem terms_new {w : World} {ts : List Tm} {n : Nat} {cs : Array Value} {T : TypeId} (hn : n = ts.length) (hc : cs = (tmCells ts).toArray) (hs : ∀ t ∈ ts, t.s.size ≤ 9223372036854775807) : TermsIn (w.alloc (.cells cs T)) (.slice (some ⟨w.heap.size, 0, none⟩) n n) ts := by
  subst hn
  exact ⟨_, _, rfl, Nat.le_refl _, by rintro p ⟨⟩; rfl, fun _ => ⟨_, _, rfl, rowIn_block hc (MapKept.heap_alloc w _).1 hs⟩⟩
theorem small_terms {ts : List Tm} (h : ts.all (fun t => decide (t.s.size ≤ 9223372036854775807)) = true) : ∀ t ∈ ts, t.s.size ≤ 9223372036854775807 := fun t ht => by
  have := List.all_eq_true.1 h t ht
  simpa using this
theorem terms_take {w : World} {b : Nat} {ts : List Tm} {n c k : Nat} (h : TermsIn w (.slice (some ⟨b, 0, none⟩) n c) ts) (hk : k ≤ ts.length) : TermsIn w (.slice (some ⟨b, 0, none⟩) k c) (ts.take k) := by
  obtain ⟨a, c', h1, h2, h3, h4⟩ := h
  simp only [Value.slice.injEq] at h1
  obtain ⟨rfl, rfl, rfl⟩ := h1
  refine ⟨_, _, by rw [List.length_take, Nat.min_eq_left hk], by rw [List.length_take]; omega, h3, fun hne => ?_⟩
  obtain ⟨b', o, h5, h6⟩ := h4 (by intro e; rw [e] at hne; simp at hne)
  refine ⟨b', o, h5, fun i t ht => h6 i t ?_⟩
  rw [List.getElem?_take] at ht
  split at ht
  · exact ht
  · cases ht
end Go.Proofs.YtchoelgkcnnnkaaGreatDoor
