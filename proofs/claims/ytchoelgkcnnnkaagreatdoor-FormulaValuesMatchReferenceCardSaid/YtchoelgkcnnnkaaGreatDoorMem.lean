/- WHAT LIES IN MEMORY: a slice of terms (or of values) that reads as a list; it still does where memory has grown. -/
import Derived.Test.YtchoelgkcnnnkaaGreatDoorFnD
import Derived.Test.YtchoelgkcnnnkaaGreatDoorPlH
namespace Go.Proofs.YtchoelgkcnnnkaaGreatDoor
open Go.RowKit

/-- Three cells from an address on hold a term. -/
def TmAt (w : World) (b off : Nat) (t : Tm) : Prop :=
  w.cell? ⟨b, off, none⟩ = some (.int .i64 t.k) ∧ w.cell? ⟨b, off + 1, none⟩ = some (.int .i64 t.n) ∧ w.cell? ⟨b, off + 2, none⟩ = some (.string t.s) ∧ t.s.size ≤ 9223372036854775807
/-- A row of terms from an address on. -/
def RowIn (w : World) (b off : Nat) (ts : List Tm) : Prop := ∀ i t, ts[i]? = some t → TmAt w b (off + i * 3) t
/-- A slice that reads as a list of terms. -/
def TermsIn (w : World) (v : Value) (ts : List Tm) : Prop :=
  ∃ a c, v = .slice a ts.length c ∧ ts.length ≤ c ∧ (∀ p, a = some p → p.spot = p.spot) ∧ (ts ≠ [] → ∃ b off, a = some ⟨b, off, none⟩ ∧ RowIn w b off ts)

theorem lt_of_cell {w : World} {b o : Nat} {v : Value} (h : w.cell? ⟨b, o, none⟩ = some v) : b < w.heap.size := by
  rcases Nat.lt_or_ge b w.heap.size with h' | h'
  · exact h'
  · simp [World.cell?, Array.getElem?_eq_none h'] at h
theorem TmAt.below {B : Nat} {w w' : World} {b off : Nat} {t : Tm} (h : TmAt w b off t) (hb : Below B w w') (hB : b < B) : TmAt w' b off t :=
  ⟨(hb.cell (p := ⟨b, off, none⟩) hB).trans h.1, (hb.cell (p := ⟨b, off + 1, none⟩) hB).trans h.2.1, (hb.cell (p := ⟨b, off + 2, none⟩) hB).trans h.2.2.1, h.2.2.2⟩
theorem RowIn.below {B : Nat} {w w' : World} {b off : Nat} {ts : List Tm} (h : RowIn w b off ts) (hb : Below B w w') (hB : b < B) : RowIn w' b off ts :=
  fun i t ht => (h i t ht).below hb hB
theorem RowIn.lt {w : World} {b off : Nat} {ts : List Tm} (h : RowIn w b off ts) (hn : ts ≠ []) : b < w.heap.size := by
  match ts, hn with
  | t :: r, _ => exact lt_of_cell (h 0 t rfl).1
theorem TermsIn.below {w w' : World} {v : Value} {ts : List Tm} (h : TermsIn w v ts) (hb : Below w.heap.size w w') : TermsIn w' v ts := by
  obtain ⟨a, c, rfl, hc, hs, hr⟩ := h
  refine ⟨a, c, rfl, hc, hs, fun hn => ?_⟩
  obtain ⟨b, off, rfl, hrow⟩ := hr hn
  exact ⟨b, off, rfl, hrow.below hb (hrow.lt hn)⟩
theorem getElem?_of_drop {α : Type} {l r : List α} {i : Nat} {x : α} (h : l.drop i = x :: r) : l[i]? = some x := by
  have := congrArg List.head? h
  simpa [List.head?_drop] using this
theorem drop_succ_of {α : Type} {l r : List α} {i : Nat} {x : α} (h : l.drop i = x :: r) : l.drop (i + 1) = r := by
  rw [← List.drop_drop, h]; rfl
theorem lt_of_drop {α : Type} {l r : List α} {i : Nat} {x : α} (h : l.drop i = x :: r) : i < l.length := by
  have := congrArg List.length h
  simp at this
  omega
end Go.Proofs.YtchoelgkcnnnkaaGreatDoor
