/- WHAT STANDS IN THE PACKAGE'S VARIABLES that calls of the library read. -/
import Derived.Test.YtchoelgkcnnnkaaGreatDoorFnD
import Derived.Test.YtchoelgkcnnnkaaGreatDoorPlH
import Derived.WalkSmall
namespace Go.Proofs.YtchoelgkcnnnkaaGreatDoor
open Go.RowKit

structure Glob (w : World) : Prop where
  tab : Lib.TabIs Tryz.prog w "internal/strconv.uint64pow10" .u64 Lib.pow10Tab
  range : ∃ tp p, w.var? Tryz.prog "strconv.ErrRange" = some #[.iface tp p]
  size : 8 ≤ w.heap.size
theorem Glob.below {B : Nat} {w w' : World} (h : Glob w) (hb : Below B w w') (hB : 8 ≤ B) : Glob w' := by
  obtain ⟨h1, ⟨tp, p, h2⟩, h3⟩ := h
  refine ⟨var?_below (g := 1) hb (by kernel_rfl) (by omega) h1, ⟨tp, p, ?_⟩, Nat.le_trans h3 hb.size⟩
  exact var?_below (g := 5) hb (by kernel_rfl) (by omega) h2

theorem KeptB.refl (b : Nat) (w : World) : KeptB b w w := ⟨Below.refl _ _, Lib.OthersKept.refl _ _ _⟩
theorem KeptB.trans {b : Nat} {w1 w2 w3 : World} (h : KeptB b w1 w2) (k : KeptB b w2 w3) : KeptB b w1 w3 := ⟨h.1.trans k.1, h.2.trans k.2⟩
theorem KeptB.below {b : Nat} {w w' : World} (h : Below w.heap.size w w') (hb : b ≤ w.heap.size) : KeptB b w w' :=
  ⟨h.mono hb, fun k o hk _ _ => by
    have hlt : k < w.heap.size := (Array.getElem?_eq_some_iff.1 hk).1
    rw [h.block k hlt]; exact hk⟩
theorem KeptB.block {b : Nat} {w w' : World} (h : KeptB b w w') {k : Nat} {c : Array Value} {T : TypeId} {fz : Nat × Nat} (hk : w.heap[k]? = some (.cells c T fz)) (hT : T ≠ 5) (hkb : k ≠ b) : w'.heap[k]? = some (.cells c T fz) :=
  h.2 k _ hk (by simpa using hkb) (by rintro c' fz' h; cases h; exact hT rfl)
theorem ownsRowF_below {W w1 : World} {base : Nat} {e : TypeId} {size : Nat} {v : Value} {k : Nat} {xs : List Value} (h : W.ownsRowF base e size v k xs) (hb : Below W.heap.size W w1) : w1.ownsRowF base e size v k xs :=
  h.kept (row := none) ⟨hb.os, hb.tape, hb.output, hb.size, fun j hj _ => hb.block j hj⟩ (by cases hv : v.ownBlock <;> simp)
theorem HoldsB.below {b : Nat} {w w' : World} {l : List UInt8} (h : HoldsB w b l) (hb : Below w.heap.size w w') : HoldsB w' b l := by
  rcases h with h | h
  · refine .inl ?_
    have hlt := h.lt
    obtain ⟨hB, v, hbk, hown, hne⟩ := h
    exact ⟨hB, v, by rw [hb.block b hlt]; exact hbk, ownsRowF_below hown hb, hne⟩
  · refine .inr ?_
    have hlt := h.lt
    obtain ⟨hB, v, hbk, hown, hne⟩ := h
    exact ⟨hB, v, by rw [hb.block b hlt]; exact hbk, ownsRowF_below hown hb, hne⟩
end Go.Proofs.YtchoelgkcnnnkaaGreatDoor
