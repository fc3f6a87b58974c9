/- PLAIN LAWS: where a text is no longer the beginning of that of a formula: FormulaFirstWrong without its program. -/
import Derived.Test.YtchoelgkcnnnkaaGreatDoorParseD
set_option linter.all false
namespace Go.Proofs.YtchoelgkcnnnkaaGreatDoor
open Go.RowKit
namespace Pl
theorem peek_list (s : ByteArray) (p : Nat) : peekB s p = (s.data.toList[p]?).getD 0 := by
  unfold peekB
  by_cases h : p < s.size
  · rw [dif_pos h, List.getElem?_eq_getElem (by simpa using h)]; rfl
  · rw [dif_neg h, List.getElem?_eq_none (by simpa using h)]; rfl
theorem Agree.symm {a b : ByteArray} {k : Nat} (h : Agree a b k) : Agree b a k := ⟨h.2.1, h.1, fun i hi => (h.2.2 i hi).symm⟩
theorem Agree.trans {a b c : ByteArray} {k : Nat} (h : Agree a b k) (g : Agree b c k) : Agree a c k := ⟨h.1, g.2.1, fun i hi => (g.2.2 i hi).trans (h.2.2 i hi)⟩
theorem Agree.mono {a b : ByteArray} {k m : Nat} (h : Agree a b k) (hm : m ≤ k) : Agree a b m := ⟨Nat.le_trans hm h.1, Nat.le_trans hm h.2.1, fun i hi => h.2.2 i (by omega)⟩
theorem agree_ext {s : ByteArray} {k : Nat} (hk : k ≤ s.size) : Agree s (s.extract 0 k) k := by
  refine ⟨hk, by rw [ByteArray.size_extract]; omega, fun i hi => ?_⟩
  have h := ext_get (s := s) (p := 0) (q := k) i (by omega) hk
  rw [peek_list, h]
  simp
theorem agree_app (a b : ByteArray) : Agree a (a ++ b) a.size := by
  refine ⟨Nat.le_refl _, by rw [ByteArray.size_append]; omega, fun i hi => ?_⟩
  rw [peek_list, peek_list, ByteArray.data_append, Array.toList_append, List.getElem?_append_left (by simpa using hi)]
/-- The text with another byte. -/
def bent (T : ByteArray) (A : Nat) (c : UInt8) : ByteArray := T.extract 0 A ++ ⟨#[c]⟩ ++ T.extract (A + 1) T.size
theorem bent_size (T : ByteArray) (A : Nat) (c : UInt8) (h : A < T.size) : (bent T A c).size = T.size := by
  unfold bent
  rw [ByteArray.size_append, ByteArray.size_append, ByteArray.size_extract, ByteArray.size_extract]
  show min A T.size - 0 + 1 + (min T.size T.size - (A + 1)) = T.size
  omega
theorem bent_agree (T : ByteArray) (A : Nat) (c : UInt8) (h : A < T.size) : Agree T (bent T A c) A := by
  have h1 := agree_ext (s := T) (k := A) (by omega)
  have h2 := agree_app (T.extract 0 A) ⟨#[c]⟩
  have h3 := agree_app (T.extract 0 A ++ ⟨#[c]⟩) (T.extract (A + 1) T.size)
  have e : (T.extract 0 A).size = A := by rw [ByteArray.size_extract]; omega
  rw [e] at h2
  exact (h1.trans h2).trans (h3.mono (by rw [ByteArray.size_append, e]; show A ≤ A + 1; omega))
theorem wrong_at {T : ByteArray} {f : Fm} {n A k : Nat} {c : UInt8} {o : Option Fm} (hT : par n T = (some f, T.size)) (hA : A < T.size) (hz : par n (bent T A c) = (none, k)) : A ≤ k ∧ k ≤ (bent T A c).size := by
  have hk : k = (rd (bent T A c) n 0).pl := by rw [← par_pl, hz]
  have hle := par_le n (bent T A c)
  rw [hz] at hle
  refine ⟨?_, hle⟩
  rcases Nat.lt_or_ge k A with h | h
  · have h1 := rd_agree (bent_agree T A c hA).symm n 0 (by rw [← hk]; exact h)
    have h2 : (rd T n 0).pl = T.size := by rw [← par_pl, hT]
    rw [h1, ← hk] at h2
    omega
  · exact h
theorem wrong_cut {z : ByteArray} {n k q : Nat} {o : Option Fm} (hz : par n z = (o, k)) (hy : par n (z.extract 0 k) = (none, q)) : q = k := by
  have hk : k = (rd z n 0).pl := by rw [← par_pl, hz]
  have hle : k ≤ z.size := by have := par_le n z; rw [hz] at this; exact this
  have hq : q = (rd (z.extract 0 k) n 0).pl := by rw [← par_pl, hy]
  have hql := par_le n (z.extract 0 k)
  rw [hy, ByteArray.size_extract] at hql
  dsimp only at hql
  rcases Nat.lt_or_ge q k with h | h
  · have h1 := rd_agree (agree_ext hle).symm n 0 (by rw [← hq]; exact h)
    rw [← h1, ← hk] at hq
    exact hq
  · omega
theorem wrong_more {z u : ByteArray} {n k : Nat} (hz : par n z = (none, k)) (hk : k < z.size) : par n (z.extract 0 (k + 1) ++ u) = (none, k) := by
  have hp : (rd z n 0).pl = k := by rw [← par_pl, hz]
  have e : (z.extract 0 (k + 1)).size = k + 1 := by rw [ByteArray.size_extract]; omega
  have ha : Agree z (z.extract 0 (k + 1) ++ u) (k + 1) := by
    have := agree_app (z.extract 0 (k + 1)) u
    rw [e] at this
    exact (agree_ext (by omega)).trans this
  have hr := rd_agree ha n 0 (by rw [hp]; omega)
  unfold par
  rw [hr]
  cases hx : rd z n 0 with
  | bad q => rw [hx] at hp; dsimp only [Rd.pl] at hp ⊢; rw [hp]
  | ok f q =>
    rw [hx] at hp
    dsimp only [Rd.pl] at hp ⊢
    subst hp
    rw [if_pos (by rw [ByteArray.size_append, e]; omega)]
end Pl
end Go.Proofs.YtchoelgkcnnnkaaGreatDoor
