/- LAWS: what stands in a region that makes two slices, calls a function on them, and stores what it gives into a new box. -/
import Derived.Test.YtchoelgkcnnnkaaGreatDoorRgA
import Derived.Test.YtchoelgkcnnnkaaGreatDoorLawS
set_option linter.all false
namespace Go.Proofs.YtchoelgkcnnnkaaGreatDoor
open Go.RowKit
structure JJ (w0 : World) (bx : List (Nat × Value × Value × Value)) (iA iB iC iD iE : Nat) (cA cB : Array Value) (v0 v1 v2 : Value) (l : Nat → Bool) (ds : Nat → Nat) (X : World) : Prop where
  s : SB bx X
  b : Below w0.heap.size w0 X
  hA : l iA = true → l iC = false → X.heap[ds iA]? = some (.cells cA 24 (0, 0))
  hB : l iB = true → l iC = false → X.heap[ds iB]? = some (.cells cB 48 (0, 0))
  hg : l iD = true → w0.heap.size ≤ ds iD
  hD : l iD = true → l iE = false → Box3 X (ds iD) (.int .i64 0) (.int .i64 0) (.string ⟨#[]⟩) 48
  hE : l iE = true → Box3 X (ds iD) v0 v1 v2 48
  hk : l iE = true → l iD = true
section
variable {w0 : World} {bx : List (Nat × Value × Value × Value)} {iA iB iC iD iE : Nat} {cA cB : Array Value} {v0 v1 v2 : Value} {l : Nat → Bool} {ds : Nat → Nat} {X Y : World}
theorem upd_ne {α : Type} {f : Nat → α} {j i : Nat} {v : α} (h : i ≠ j) : upd f j v i = f i := by simp [upd, h]
theorem upd_eq {α : Type} {f : Nat → α} {j : Nat} {v : α} : upd f j v j = v := by simp [upd]
theorem JJ.start (hs : SB bx w0.drew) : JJ w0 bx iA iB iC iD iE cA cB v0 v1 v2 (fun _ => false) (fun _ => 0) w0.drew :=
  { s := hs, b := below_drewN' (Below.refl _ _) 1, hA := (by intro h; cases h), hB := (by intro h; cases h), hg := (by intro h; cases h), hD := (by intro h; cases h), hE := (by intro h; cases h), hk := (by intro h; cases h) }
/-- Memory has grown, and an operation has come up that makes none of these. -/
theorem JJ.grow (h : JJ w0 bx iA iB iC iD iE cA cB v0 v1 v2 l ds X) (hb : Below X.heap.size X Y) (j d : Nat) (h1 : iA ≠ j) (h2 : iB ≠ j) (h4 : iD ≠ j) (h5 : iE ≠ j) : JJ w0 bx iA iB iC iD iE cA cB v0 v1 v2 (upd l j true) (upd ds j d) Y := by
  have hc : upd l j true iC = false → l iC = false := by
    by_cases e : iC = j
    · rw [e, upd_eq]; intro h; cases h
    · rw [upd_ne e]; exact id
  refine { s := h.s.below hb, b := h.b.trans (hb.mono h.b.size), hA := ?_, hB := ?_, hg := ?_, hD := ?_, hE := ?_, hk := ?_ }
  · rw [upd_ne h1, upd_ne h1]; exact fun a b => heap_keep (h.hA a (hc b)) hb
  · rw [upd_ne h2, upd_ne h2]; exact fun a b => heap_keep (h.hB a (hc b)) hb
  · rw [upd_ne h4, upd_ne h4]; exact h.hg
  · rw [upd_ne h4, upd_ne h4, upd_ne h5]; exact fun a b => (h.hD a b).keep hb
  · rw [upd_ne h4, upd_ne h5]; exact fun a => (h.hE a).keep hb
  · rw [upd_ne h4, upd_ne h5]; exact h.hk
theorem JJ.pure (h : JJ w0 bx iA iB iC iD iE cA cB v0 v1 v2 l ds X) (j d : Nat) (h1 : iA ≠ j) (h2 : iB ≠ j) (h4 : iD ≠ j) (h5 : iE ≠ j) : JJ w0 bx iA iB iC iD iE cA cB v0 v1 v2 (upd l j true) (upd ds j d) X := h.grow (Below.refl _ _) j d h1 h2 h4 h5
theorem JJ.allocA (h : JJ w0 bx iA iB iC iD iE cA cB v0 v1 v2 l ds X) (h2 : iB ≠ iA) (h3 : iC ≠ iA) (h4 : iD ≠ iA) (h5 : iE ≠ iA) : JJ w0 bx iA iB iC iD iE cA cB v0 v1 v2 (upd l iA true) (upd ds iA X.heap.size) (X.alloc (.cells cA 24)) := by
  have hb := below1 X (.cells cA 24)
  refine { s := h.s.below hb, b := h.b.trans (hb.mono h.b.size), hA := ?_, hB := ?_, hg := ?_, hD := ?_, hE := ?_, hk := ?_ }
  · rw [upd_eq, upd_eq]; exact fun _ _ => (MapKept.heap_alloc _ _).1
  · rw [upd_ne h2, upd_ne h2, upd_ne h3]; exact fun a b => heap_keep (h.hB a b) hb
  · rw [upd_ne h4, upd_ne h4]; exact h.hg
  · rw [upd_ne h4, upd_ne h4, upd_ne h5]; exact fun a b => (h.hD a b).keep hb
  · rw [upd_ne h4, upd_ne h5]; exact fun a => (h.hE a).keep hb
  · rw [upd_ne h4, upd_ne h5]; exact h.hk
theorem JJ.allocB (h : JJ w0 bx iA iB iC iD iE cA cB v0 v1 v2 l ds X) (h2 : iA ≠ iB) (h3 : iC ≠ iB) (h4 : iD ≠ iB) (h5 : iE ≠ iB) : JJ w0 bx iA iB iC iD iE cA cB v0 v1 v2 (upd l iB true) (upd ds iB X.heap.size) (X.alloc (.cells cB 48)) := by
  have hb := below1 X (.cells cB 48)
  refine { s := h.s.below hb, b := h.b.trans (hb.mono h.b.size), hA := ?_, hB := ?_, hg := ?_, hD := ?_, hE := ?_, hk := ?_ }
  · rw [upd_ne h2, upd_ne h2, upd_ne h3]; exact fun a b => heap_keep (h.hA a b) hb
  · rw [upd_eq, upd_eq]; exact fun _ _ => (MapKept.heap_alloc _ _).1
  · rw [upd_ne h4, upd_ne h4]; exact h.hg
  · rw [upd_ne h4, upd_ne h4, upd_ne h5]; exact fun a b => (h.hD a b).keep hb
  · rw [upd_ne h4, upd_ne h5]; exact fun a => (h.hE a).keep hb
  · rw [upd_ne h4, upd_ne h5]; exact h.hk
theorem JJ.allocD (h : JJ w0 bx iA iB iC iD iE cA cB v0 v1 v2 l ds X) (h1 : iA ≠ iD) (h2 : iB ≠ iD) (h3 : iC ≠ iD) (h5 : iE ≠ iD) (hd' : l iD = false) : JJ w0 bx iA iB iC iD iE cA cB v0 v1 v2 (upd l iD true) (upd ds iD X.heap.size) (X.alloc (.cells #[.int .i64 0, .int .i64 0, .string ⟨#[]⟩] 48)) := by
  have hb := below1 X (.cells #[.int .i64 0, .int .i64 0, .string ⟨#[]⟩] 48)
  have hd : l iE = false := by
    cases e : l iE with
    | false => rfl
    | true => rw [h.hk e] at hd'; cases hd'
  refine { s := h.s.below hb, b := h.b.trans (hb.mono h.b.size), hA := ?_, hB := ?_, hg := ?_, hD := ?_, hE := ?_, hk := ?_ }
  · rw [upd_ne h1, upd_ne h1, upd_ne h3]; exact fun a b => heap_keep (h.hA a b) hb
  · rw [upd_ne h2, upd_ne h2, upd_ne h3]; exact fun a b => heap_keep (h.hB a b) hb
  · rw [upd_eq, upd_eq]; exact fun _ => h.b.size
  · rw [upd_eq, upd_eq]; exact fun _ _ => Box3.new X _ _ _ 48
  · rw [upd_ne h5, hd]; intro x; cases x
  · rw [upd_eq]; exact fun _ => rfl
theorem JJ.store (h : JJ w0 bx iA iB iC iD iE cA cB v0 v1 v2 l ds X) (d : Nat) (h3 : iC ≠ iE) (h4 : iD ≠ iE) (hc : l iC = true) (hd : l iD = true) (he : l iE = false) (hl : ∀ p ∈ bx, p.1 < w0.heap.size) :
    JJ w0 bx iA iB iC iD iE cA cB v0 v1 v2 (upd l iE true) (upd ds iE d) (((X.setCell ⟨ds iD, 0, none⟩ v0).setCell ⟨ds iD, 1, none⟩ v1).setCell ⟨ds iD, 2, none⟩ v2) := by
  have hg := h.hg hd
  refine { s := h.s.set hl hg _ _ _, b := ((h.b.setCell (p := ⟨ds iD, 0, none⟩) hg v0).setCell (p := ⟨ds iD, 1, none⟩) hg v1).setCell (p := ⟨ds iD, 2, none⟩) hg v2, hA := ?_, hB := ?_, hg := ?_, hD := ?_, hE := ?_, hk := ?_ }
  · rw [upd_ne h3, hc]; intro _ x; cases x
  · rw [upd_ne h3, hc]; intro _ x; cases x
  · rw [upd_ne h4, upd_ne h4]; exact h.hg
  · rw [upd_eq]; intro _ x; cases x
  · rw [upd_ne h4]; exact fun _ => (h.hD hd he).set v0 v1 v2
  · rw [upd_ne h4]; exact fun _ => hd
end
end Go.Proofs.YtchoelgkcnnnkaaGreatDoor
