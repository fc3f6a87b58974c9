/- CONTRACT: what formula.Parse gives for any text, in one piece; plain laws of it. -/
import Derived.Test.YtchoelgkcnnnkaaGreatDoorParseC
import Derived.Test.YtchoelgkcnnnkaaGreatDoorPlK
set_option linter.all false
namespace Go.Proofs.YtchoelgkcnnnkaaGreatDoor
open Go.RowKit
namespace Pl
/-- What a text is read as: a valid formula, or none; and the place that is come to. -/
def par (n : Nat) (s : ByteArray) : Option Fm × Nat :=
  match rd s n 0 with
  | .bad q => (none, q)
  | .ok f q => if q < s.size then (none, q) else if validB f.flat = true then (some f, q) else (none, q)
theorem par_pl (n : Nat) (s : ByteArray) : (par n s).2 = (rd s n 0).pl := by
  unfold par
  cases rd s n 0 with
  | bad q => rfl
  | ok f q =>
    dsimp only
    by_cases h1 : q < s.size
    · rw [if_pos h1]; rfl
    · rw [if_neg h1]
      by_cases h2 : validB f.flat = true
      · rw [if_pos h2]; rfl
      · rw [if_neg h2]; rfl
theorem par_le (n : Nat) (s : ByteArray) : (par n s).2 ≤ s.size := by
  rw [par_pl]
  have := rd_bounds s n 0 (Nat.zero_le _)
  cases h : rd s n 0 with
  | bad q => rw [h] at this; exact this.2
  | ok f q => rw [h] at this; exact this.2.1
theorem par_some {n : Nat} {s : ByteArray} {f : Fm} (h : (par n s).1 = some f) : f.wf ∧ f.depth ≤ 12 ∧ f.flat.length ≤ 60 ∧ text f = s.data.toList ∧ (par n s).2 = s.size := by
  have hp := par_le n s
  unfold par at h hp ⊢
  cases hr : rd s n 0 with
  | bad q => rw [hr] at h; cases h
  | ok g q =>
    rw [hr] at h hp
    dsimp only at h hp ⊢
    by_cases h1 : q < s.size
    · rw [if_pos h1] at h; cases h
    · rw [if_neg h1] at h hp ⊢
      by_cases h2 : validB g.flat = true
      · rw [if_pos h2] at h hp ⊢
        cases h
        obtain ⟨a, b, c⟩ := rd_wf hr h2
        have hq : q = s.size := by dsimp only at hp; omega
        subst hq
        exact ⟨a, b, c, back f n a s hr, rfl⟩
      · rw [if_neg h2] at h; cases h
theorem par_text {n : Nat} {f : Fm} (hw : f.wf) (hd : f.depth ≤ 12) (hl : f.flat.length ≤ 60) (hn : 12 ≤ n) {s : ByteArray} (hs : s.data.toList = text f) : par n s = (some f, s.size) := by
  unfold par
  rw [there f n hw (by omega) s hs]
  dsimp only
  rw [if_neg (Nat.lt_irrefl _), if_pos (valid_of hw hd hl)]
end Pl
def ParsePost (r : Option Fm × Nat) (w : World) (e : Ending) (w' : World) : Prop :=
  (match r.1 with
    | none => e = .returned (.tuple #[.slice none 0 0, .int .i64 (r.2 : Int), .int .i64 150])
    | some f => ∃ v, e = .returned (.tuple #[v, .int .i64 (r.2 : Int), .int .i64 0]) ∧ TermsIn w' v f.flat) ∧ Below w.heap.size w w'
theorem parse_par (s : ByteArray) (hs : s.size ≤ 100000000) (n : Nat) (hn : s.size < n) (w : World) (hG : Glob w) : Calls Tryz.prog 22 #[.string s] w (ParsePost (Pl.par n s) w) := by
  unfold Pl.par
  cases hr : Pl.rd s n 0 with
  | bad q => exact (parse_bad s hs n hn w hG q hr).mono fun e w' h => h
  | ok f q =>
    dsimp only
    by_cases h1 : q < s.size
    · rw [if_pos h1]; exact (parse_part s hs n hn w hG f q h1 hr).mono fun e w' h => h
    · rw [if_neg h1]
      by_cases h2 : Pl.validB f.flat = true
      · rw [if_pos h2]; exact (parse_ok s hs n hn w hG f q (by omega) h2.symm hr).mono fun e w' ⟨v, h3, h4, h5⟩ => ⟨⟨v, h3, h4⟩, h5⟩
      · rw [if_neg h2]; exact (parse_inv s hs n hn w hG f q (by omega) ((Bool.not_eq_true _).mp h2).symm hr).mono fun e w' h => h
/-- A text that is none of a formula. -/
theorem parse_none (s : ByteArray) (hs : s.size ≤ 100000000) (n q : Nat) (hn : s.size < n) (w : World) (hG : Glob w) (h : Hid (Pl.par n s = (none, q))) :
    Calls Tryz.prog 22 #[.string s] w fun e w' => e = .returned (.tuple #[.slice none 0 0, .int .i64 (q : Int), .int .i64 150]) ∧ Below w.heap.size w w' := by
  have := parse_par s hs n hn w hG
  rw [h.out] at this
  exact this
/-- The text of a formula. -/
theorem parse_some (s : ByteArray) (hs : s.size ≤ 100000000) (n q : Nat) (f : Fm) (hn : s.size < n) (w : World) (hG : Glob w) (h : Hid (Pl.par n s = (some f, q))) :
    Calls Tryz.prog 22 #[.string s] w fun e w' => ∃ v, e = .returned (.tuple #[v, .int .i64 (q : Int), .int .i64 0]) ∧ TermsIn w' v f.flat ∧ Below w.heap.size w w' := by
  have := parse_par s hs n hn w hG
  rw [h.out] at this
  exact this.mono fun e w' ⟨⟨v, h1, h2⟩, h3⟩ => ⟨v, h1, h2, h3⟩
end Go.Proofs.YtchoelgkcnnnkaaGreatDoor
