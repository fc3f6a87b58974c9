/- WALKS: the reader's name with two digits; at every name. · WALKS: the reader's want in plain words; the reader's text; what a reading call leaves. · WALKS: what the reader's formula calls at its head. -/
import Derived.Test.YtchoelgkcnnnkaaGreatDoorRdE
import Derived.Test.YtchoelgkcnnnkaaGreatDoorRdG
import Derived.Test.YtchoelgkcnnnkaaGreatDoorPlH
set_option linter.all false
namespace Go.Proofs.YtchoelgkcnnnkaaGreatDoor
open Go.RowKit
set_option maxRecDepth 100000 in
set_option maxHeartbeats 1000000 in
theorem name2 (R B : Nat) (s : ByteArray) (p : Nat) (v : Value) (ts : List Tm) (w : World) (H : RdAt w R s p v) (hO : OwnTms w B v ts) (hB : B ≤ w.heap.size) (hR : R < B) (hl : ts.length ≤ 1000000000) (hp : p + 3 ≤ s.size) (h1 : Hid (true = Pl.digAt 49 s (p + 1))) (h2 : Hid (true = Pl.digAt 48 s (p + 2))) :
    Calls Tryz.prog 85 #[.pointer (some ⟨R, 0, none⟩)] w fun e w' => e = .returned (.tuple #[]) ∧ (∃ v', RdAt w' R s (p + 3) v' ∧ OwnTms w' B v' (ts ++ [⟨4, 0, s.extract p (p + 3)⟩])) ∧ KeptR R w w' := by
  obtain ⟨c0, c1, c2, f1, f2⟩ := H.cells
  have hs := H.size
  have HH := Lib.hid H
  have HO := Lib.hid hO
  have HM := Lib.hid (rd_move' H (p + 1) ((p : Int) + 1) (by simp))
  clear H hO
  go_enter Tryz.func85, Tryz.ntmps85
  go_wp2_with fail
  refine (isDigit_any R s (p + 1) v 49 true _ HM.out h1).mono ?_
  rintro e wa ⟨rfl, hb⟩
  have H1a := Lib.hid (HM.out.below hb)
  have Hba := Lib.hid hb
  clear hb
  obtain ⟨da0, da1, da2, ga1, ga2⟩ := H1a.out.cells
  have HMa := Lib.hid (rd_move' H1a.out (p + 2) ((p : Int) + 1 + 1) (by simp; omega))
  go_wp2_with fail
  refine (isDigit_any R s (p + 2) v 48 true _ HMa.out h2).mono ?_
  rintro e wb ⟨rfl, hb⟩
  have H1 := Lib.hid (HMa.out.below hb)
  have Hb := Lib.hid hb
  clear hb
  obtain ⟨db0, db1, db2, gb1, gb2⟩ := H1.out.cells
  obtain ⟨y, hy⟩ : ∃ y, y = p + 2 := ⟨_, rfl⟩
  rw [← hy] at db1
  have HMb := Lib.hid (rd_move' H1.out (y + 1) ((y : Int) + 1) (by omega))
  have x1 : (p : Int) ≤ (y : Int) + 1 := by omega
  have x2 : (y : Int) + 1 ≤ s.size := by omega
  have x3 : p ≤ y + 1 := by omega
  have x4 : y + 1 ≤ s.size := by omega
  have x5 : (0 : Int) ≤ (y : Int) + 1 := by omega
  have HY := Lib.hid hy
  clear hy
  go_wp2_with fail
  have hq := HMb.out
  have G1 := grown_trans' (grown_trans' (grown_trans' (grownBy_set2 w R 1 (.int .i64 ((p : Int) + 1))) (grown_of_below Hba.out _)) (grown_trans' (grownBy_set2 wa R 1 (.int .i64 ((p : Int) + 1 + 1))) (grown_of_below Hb.out _))) (grownBy_set2 wb R 1 (.int .i64 ((y : Int) + 1)))
  clear HMb
  generalize (wb.setCell ⟨R, 1, none⟩ (.int .i64 ((y : Int) + 1))) = wc at hq G1 ⊢
  have H2 : Hid (RdAt wc.drew R s (y + 1) v) := Lib.hid ⟨hq.h, hs⟩
  have G2 : Hid (w.grownBy wc.drew (some R)) := Lib.hid (grown_trans' G1 (grown_drewN' _ 1 _))
  obtain ⟨d0, d1, _, _, _⟩ := hq.cells
  clear G1 hq
  go_still_tail 12, (by kernel_rfl)
  change wpList _ _ _ _ _ wc.drew
  go_wp2_with fail
  refine (put_any R B s (y + 1) v ts ⟨4, 0, s.extract p (y + 1)⟩ _ H2.out (own_grown HO.out hR G2.out) (by have := G2.out.size; omega) hR hl).mono ?_
  rintro e w2 ⟨rfl, hq, hb2⟩
  have HQ := Lib.hid hq
  have HB2 := Lib.hid hb2
  clear hq hb2
  go_wp2
  go_end0
  refine ⟨rfl, ?_, (kept_of_grown G2.out (by have := (Array.getElem?_eq_some_iff.1 HH.out.h).1; omega)).trans HB2.out⟩
  have := HQ.out; rw [HY.out] at this; exact this
/-- The reader's name, whatever its length. -/
theorem name_walk (R B : Nat) (s : ByteArray) (p E : Nat) (v : Value) (ts : List Tm) (w : World) (H : RdAt w R s p v) (hO : OwnTms w B v ts) (hB : B ≤ w.heap.size) (hR : R < B) (hl : ts.length ≤ 1000000000) (hp : p < s.size) (HE : Hid (E = Pl.nameEnd s p)) :
    Calls Tryz.prog 85 #[.pointer (some ⟨R, 0, none⟩)] w fun e w' => e = .returned (.tuple #[]) ∧ (∃ v', RdAt w' R s E v' ∧ OwnTms w' B v' (ts ++ [⟨4, 0, s.extract p E⟩])) ∧ KeptR R w w' := by
  have he := HE.out
  have hb := Pl.nameEnd_bounds s p hp
  unfold Pl.nameEnd at he hb
  cases h1 : Pl.digAt 49 s (p + 1) with
  | true =>
    rw [h1] at he hb
    cases h2 : Pl.digAt 48 s (p + 2) with
    | true =>
      rw [h2] at he hb
      simp only [if_true] at he hb
      subst he
      exact name2 R B s p v ts w H hO hB hR hl hb.2.1 (Lib.hid h1.symm) (Lib.hid h2.symm)
    | false =>
      rw [h2] at he hb
      simp only [if_true, Bool.false_eq_true, if_false] at he hb
      subst he
      exact name1 R B s p v ts w H hO hB hR hl hb.2.1 (Lib.hid h1.symm) (Lib.hid h2.symm)
  | false =>
    rw [h1] at he hb
    simp only [Bool.false_eq_true, if_false] at he hb
    subst he
    exact name0 R B s p v ts w H hO hB hR hl hp (Lib.hid h1.symm)
end Go.Proofs.YtchoelgkcnnnkaaGreatDoor
namespace Go.Proofs.YtchoelgkcnnnkaaGreatDoor
open Go.RowKit
namespace Pl
theorem wantFail_none_at {s : ByteArray} : ∀ {l : List UInt8} {p : Nat}, wantFail s l p = none → ∀ (j : Nat) (hj : j < l.length), p + j < s.size ∧ peekB s (p + j) = l[j]
  | [], _, _, j, hj => by simp at hj
  | c :: r, p, h, j, hj => by
    unfold wantFail at h
    split at h
    · rename_i hc
      cases j with
      | zero => exact hc
      | succ j =>
        have := wantFail_none_at h j (by simpa using hj)
        rw [show p + (j + 1) = p + 1 + j by omega]
        simpa using this
    · cases h
theorem wantFail_some_at {s : ByteArray} : ∀ {l : List UInt8} {p q : Nat}, wantFail s l p = some q → ∃ (j0 : Nat) (hj0 : j0 < l.length), q = p + j0 ∧ (∀ (j : Nat) (hj : j < j0), p + j < s.size ∧ peekB s (p + j) = l[j]'(by omega)) ∧ (s.size ≤ p + j0 ∨ (p + j0 < s.size ∧ peekB s (p + j0) ≠ l[j0]))
  | [], p, q, h => by simp [wantFail] at h
  | c :: r, p, q, h => by
    unfold wantFail at h
    split at h
    · rename_i hc
      obtain ⟨j0, hj0, h1, h2, h3⟩ := wantFail_some_at h
      refine ⟨j0 + 1, by simpa using hj0, by omega, fun j hj => ?_, ?_⟩
      · cases j with
        | zero => exact hc
        | succ j =>
          have := h2 j (by omega)
          rw [show p + (j + 1) = p + 1 + j by omega]
          simpa using this
      · rw [show p + (j0 + 1) = p + 1 + j0 by omega]
        simpa using h3
    · rename_i hc
      cases h
      refine ⟨0, by simp, rfl, fun j hj => by omega, ?_⟩
      simp only [Nat.add_zero, List.getElem_cons_zero]
      rcases Nat.lt_or_ge p s.size with h' | h'
      · exact .inr ⟨h', fun e => hc ⟨h', e⟩⟩
      · exact .inl h'
theorem peek_get {s : ByteArray} {p : Nat} (h : p < s.size) : s[p] = peekB s p := by unfold peekB; rw [dif_pos h]
end Pl
theorem toList_size (T : ByteArray) : T.data.toList.length = T.size := rfl
theorem want_there (R : Nat) (s T : ByteArray) (p : Nat) (v : Value) (w : World) (H : RdAt w R s p v) (hT : T.size ≤ 100) (h : Hid (Pl.wantFail s T.data.toList p = none)) :
    Calls Tryz.prog 83 #[.pointer (some ⟨R, 0, none⟩), .string T] w fun e w' => e = .returned (.tuple #[]) ∧ RdAt w' R s (p + T.size) v ∧ w.grownBy w' (some R) :=
  want_ok R s T p v w H hT fun j hj => by
    obtain ⟨h1, h2⟩ := Pl.wantFail_none_at h.out j hj
    exact ⟨h1, by rw [Pl.peek_get h1, h2]; rfl⟩
theorem want_not (R : Nat) (s T : ByteArray) (p q : Nat) (v : Value) (w : World) (H : RdAt w R s p v) (hT : T.size ≤ 100) (h : Hid (Pl.wantFail s T.data.toList p = some q)) :
    Calls Tryz.prog 83 #[.pointer (some ⟨R, 0, none⟩), .string T] w fun e w' => e = .panicked [{ v := .iface 94 (.int .i64 (q : Int)), recovered := false }] ∧ Below R w w' := by
  obtain ⟨j0, hj0, rfl, h2, h3⟩ := Pl.wantFail_some_at h.out
  refine want_bad R s T p v w H hT j0 hj0 (fun j hj => ?_) ?_
  · obtain ⟨g1, g2⟩ := h2 j hj
    exact ⟨g1, by rw [Pl.peek_get g1, g2]; rfl⟩
  · rcases h3 with h3 | ⟨g1, g2⟩
    · exact .inl h3
    · exact .inr ⟨g1, fun e => g2 (by rw [← Pl.peek_get g1, e]; rfl)⟩
/-- What a reading call leaves. -/
def RdPost (R B : Nat) (s : ByteArray) (ts : List Tm) (r : Pl.Rd) (w : World) (e : Ending) (w' : World) : Prop :=
  match r with
  | .ok f q => e = .returned (.tuple #[]) ∧ (∃ v', RdAt w' R s q v' ∧ OwnTms w' B v' (ts ++ f.flat)) ∧ KeptR R w w'
  | .bad q => e = .panicked [{ v := .iface 94 (.int .i64 (q : Int)), recovered := false }] ∧ Below R w w'
theorem RdPost.split {R B : Nat} {s : ByteArray} {ts : List Tm} {r : Pl.Rd} {w : World} {e : Ending} {w' : World} (h : RdPost R B s ts r w e w') :
    (∃ f q v', r = .ok f q ∧ e = .returned (.tuple #[]) ∧ RdAt w' R s q v' ∧ OwnTms w' B v' (ts ++ f.flat) ∧ KeptR R w w') ∨ (∃ q, r = .bad q ∧ e = .panicked [{ v := .iface 94 (.int .i64 (q : Int)), recovered := false }] ∧ Below R w w') := by
  cases r with
  | ok f q =>
    obtain ⟨h1, ⟨v', h2, h3⟩, h4⟩ := h
    exact .inl ⟨f, q, v', rfl, h1, h2, h3, h4⟩
  | bad q => exact .inr ⟨q, rfl, h⟩
namespace Pl
theorem textEnd_step {s : ByteArray} {j : Nat} (h : j < s.size) (hp : plainB (peekB s j) = true) : textEnd s s.size j = textEnd s s.size (j + 1) := by
  obtain ⟨m, hm⟩ : ∃ m, s.size = m + 1 := ⟨s.size - 1, by omega⟩
  have e : textEnd s s.size j = textEnd s m (j + 1) := by
    rw [hm]
    conv => lhs; unfold textEnd
    rw [if_pos ⟨h, hp⟩]
  rw [e]
  exact textEnd_fuel s _ _ _ (by omega) (by omega)
theorem textEnd_stop {s : ByteArray} {j : Nat} (h : s.size ≤ j ∨ plainB (peekB s j) = false) (n : Nat) : textEnd s n j = j := by
  cases n with
  | zero => rfl
  | succ n =>
    unfold textEnd
    rw [if_neg]
    rintro ⟨h1, h2⟩
    rcases h with h | h
    · omega
    · rw [h] at h2; cases h2
end Pl
theorem wrap32_byte (c : UInt8) : wrap32 (c.toNat : Int) = (c.toNat : Int) := by
  have := c.toNat_lt
  unfold wrap32; omega
theorem isPlain_is (c : UInt8) (b : Bool) (w : World) (h : Hid (b = Pl.plainR c.toNat)) :
    Calls Tryz.prog 125 #[.int .i32 (wrap32 (c.toNat : Int))] w fun e w' => e = .returned (.bool b) ∧ w' = w := by
  rw [wrap32_byte]
  exact (isPlain_any c.toNat w).mono fun _ _ ⟨h1, h2⟩ => ⟨by rw [h1, h.out], h2.symm⟩
set_option maxRecDepth 100000 in
set_option maxHeartbeats 2000000 in
theorem text_ok (R B : Nat) (s : ByteArray) (p E : Nat) (v : Value) (ts : List Tm) (w : World) (H : RdAt w R s p v) (hO : OwnTms w B v ts) (hB : B ≤ w.heap.size) (hR : R < B) (hl : ts.length ≤ 1000000000) (hp : p < s.size) (HE : Hid (E = Pl.textEnd s s.size (p + 1))) (HW : Hid (Pl.wantFail s [39] E = none)) :
    Calls Tryz.prog 86 #[.pointer (some ⟨R, 0, none⟩)] w fun e w' => e = .returned (.tuple #[]) ∧ (∃ v', RdAt w' R s (E + 1) v' ∧ OwnTms w' B v' (ts ++ [⟨3, 0, s.extract (p + 1) E⟩])) ∧ KeptR R w w' := by
  obtain ⟨c0, c1, c2, f1, f2⟩ := H.cells
  have hs := H.size
  have HO := Lib.hid hO
  have HM := Lib.hid (rd_move' H (p + 1) ((p : Int) + 1) (by simp))
  have HRl := Lib.hid (Array.getElem?_eq_some_iff.1 H.h).1
  clear H hO
  go_enter Tryz.func86, Tryz.ntmps86
  go_wp2_with fail
  go_loopg [37, 15] (s.size + 1) (fun gk _ _ wr => ∃ j : Nat, p + 1 ≤ j ∧ j ≤ s.size ∧ s.size < j + gk ∧ Pl.textEnd s s.size (p + 1) = Pl.textEnd s s.size j ∧ RdAt wr R s j v ∧ w.grownBy wr (some R))
  case atStart => exact ⟨p + 1, Nat.le_refl _, hp, by omega, rfl, HM.out, grownBy_set2 _ R 1 _⟩
  case round =>
    obtain ⟨j, hj1, hj2, hj3, hE, hr, hg⟩ := hrel
    obtain ⟨c0, c1, c2, f1, f2⟩ := hr.cells
    have HR := Lib.hid hr
    have HE3 := Lib.hid hE
    clear hr hE
    by_cases hjl : j < s.size
    · have e1 : decide (j < s.size) = true := by simpa using hjl
      have HPK := Lib.hid (Pl.peek_get hjl)
      obtain ⟨b, hb⟩ : ∃ b, b = Pl.plainR (s[j]'hjl).toNat := ⟨_, rfl⟩
      have HBQ := Lib.hid hb
      clear hb
      cases b with
      | true =>
        have hgk : 0 < gk := by omega
        have HG1 := Lib.hid hg
        clear hg
        go_wp2_with fail
        go_quiet ((go_at_call 125; exact Calls.quiet_of_same (isPlain_is _ true _ HBQ)))
        have H1 : Hid (RdAt (wr.drewN nq) R s j v) := Lib.hid ⟨HR.out.h, hs⟩
        go_wp2
        go_roundg (gk - 1)
        case measure => exact Nat.sub_lt hgk Nat.one_pos
        case rel => exact ⟨j + 1, by omega, by omega, by omega, by rw [HE3.out]; exact Pl.textEnd_step hjl (by rw [← HPK.out]; exact HBQ.out.symm), rd_move' H1.out _ _ (by omega), grown_trans' (grown_trans' HG1.out (grown_drewN' _ _ _)) (grownBy_set2 _ R 1 _)⟩
      | false =>
        go_wp2_with fail
        go_quiet ((go_at_call 125; exact Calls.quiet_of_same (isPlain_is _ false _ HBQ)))
        have HEX : Hid (E = j) := Lib.hid (by rw [HE.out, HE3.out]; exact Pl.textEnd_stop (.inr (by rw [← HPK.out]; exact HBQ.out.symm)) _)
        have HR1 : Hid (∀ n, RdAt (wr.drewN n) R s j v) := Lib.hid fun n => ⟨HR.out.h, hs⟩
        have HG1 : Hid (∀ n, w.grownBy (wr.drewN n) (some R)) := Lib.hid fun n => grown_trans' hg (grown_drewN' _ n _)
        clear hg
        have x1 : (p : Int) + 1 ≤ j := by omega
        have x2 : (j : Int) ≤ s.size := by omega
        have x3 : p + 1 ≤ j := by omega
        go_wp2_with fail
        go_quiet (fail)
        go_wp2_with fail
        have HW2 := Lib.hid (show Pl.wantFail s [39] j = none by rw [← HEX.out]; exact HW.out)
        refine (want_there R s ⟨#[39]⟩ j v _ (HR1.out _) (by decide) HW2).mono ?_
        rintro e w2 ⟨rfl, h2, hg2⟩
        have H2 := Lib.hid h2
        have HG2 := Lib.hid (grown_trans' (HG1.out _) hg2)
        clear h2 hg2
        go_wp2_with fail
        refine (put_any R B s (j + 1) v ts ⟨3, 0, s.extract (p + 1) j⟩ _ H2.out (own_grown HO.out hR HG2.out) (by have := HG2.out.size; omega) hR hl).mono ?_
        rintro e w3 ⟨rfl, hq, hb3⟩
        have HQ := Lib.hid hq
        have HB3 := Lib.hid hb3
        clear hq hb3
        go_wp2
        go_end0
        refine ⟨rfl, ?_, (kept_of_grown HG2.out (by have := HRl.out; omega)).trans HB3.out⟩
        have := HQ.out
        rw [HEX.out]
        exact this
    · have e1 : decide (j < s.size) = false := by simpa using hjl
      go_wp2_with fail
      go_quiet (fail)
      have HEX : Hid (E = j) := Lib.hid (by rw [HE.out, HE3.out]; exact Pl.textEnd_stop (.inl (by omega)) _)
      have HR1 : Hid (∀ n, RdAt (wr.drewN n) R s j v) := Lib.hid fun n => ⟨HR.out.h, hs⟩
      have HG1 : Hid (∀ n, w.grownBy (wr.drewN n) (some R)) := Lib.hid fun n => grown_trans' hg (grown_drewN' _ n _)
      clear hg
      have x1 : (p : Int) + 1 ≤ j := by omega
      have x2 : (j : Int) ≤ s.size := by omega
      have x3 : p + 1 ≤ j := by omega
      go_wp2_with fail
      go_quiet (fail)
      go_wp2_with fail
      have HW2 := Lib.hid (show Pl.wantFail s [39] j = none by rw [← HEX.out]; exact HW.out)
      refine (want_there R s ⟨#[39]⟩ j v _ (HR1.out _) (by decide) HW2).mono ?_
      rintro e w2 ⟨rfl, h2, hg2⟩
      have H2 := Lib.hid h2
      have HG2 := Lib.hid (grown_trans' (HG1.out _) hg2)
      clear h2 hg2
      go_wp2_with fail
      refine (put_any R B s (j + 1) v ts ⟨3, 0, s.extract (p + 1) j⟩ _ H2.out (own_grown HO.out hR HG2.out) (by have := HG2.out.size; omega) hR hl).mono ?_
      rintro e w3 ⟨rfl, hq, hb3⟩
      have HQ := Lib.hid hq
      have HB3 := Lib.hid hb3
      clear hq hb3
      go_wp2
      go_end0
      refine ⟨rfl, ?_, (kept_of_grown HG2.out (by have := HRl.out; omega)).trans HB3.out⟩
      have := HQ.out
      rw [HEX.out]
      exact this
set_option maxRecDepth 100000 in
set_option maxHeartbeats 2000000 in
theorem text_bad (R : Nat) (s : ByteArray) (p E q : Nat) (v : Value) (w : World) (H : RdAt w R s p v) (hp : p < s.size) (HE : Hid (E = Pl.textEnd s s.size (p + 1))) (HW : Hid (Pl.wantFail s [39] E = some q)) :
    Calls Tryz.prog 86 #[.pointer (some ⟨R, 0, none⟩)] w fun e w' => e = .panicked [{ v := .iface 94 (.int .i64 (q : Int)), recovered := false }] ∧ Below R w w' := by
  obtain ⟨c0, c1, c2, f1, f2⟩ := H.cells
  have hs := H.size
  have HM := Lib.hid (rd_move' H (p + 1) ((p : Int) + 1) (by simp))
  have HRl := Lib.hid (Array.getElem?_eq_some_iff.1 H.h).1
  clear H
  go_enter Tryz.func86, Tryz.ntmps86
  go_wp2_with fail
  go_loopg [37, 15] (s.size + 1) (fun gk _ _ wr => ∃ j : Nat, p + 1 ≤ j ∧ j ≤ s.size ∧ s.size < j + gk ∧ Pl.textEnd s s.size (p + 1) = Pl.textEnd s s.size j ∧ RdAt wr R s j v ∧ w.grownBy wr (some R))
  case atStart => exact ⟨p + 1, Nat.le_refl _, hp, by omega, rfl, HM.out, grownBy_set2 _ R 1 _⟩
  case round =>
    obtain ⟨j, hj1, hj2, hj3, hE, hr, hg⟩ := hrel
    obtain ⟨c0, c1, c2, f1, f2⟩ := hr.cells
    have HR := Lib.hid hr
    have HE3 := Lib.hid hE
    clear hr hE
    by_cases hjl : j < s.size
    · have e1 : decide (j < s.size) = true := by simpa using hjl
      have HPK := Lib.hid (Pl.peek_get hjl)
      obtain ⟨b, hb⟩ : ∃ b, b = Pl.plainR (s[j]'hjl).toNat := ⟨_, rfl⟩
      have HBQ := Lib.hid hb
      clear hb
      cases b with
      | true =>
        have hgk : 0 < gk := by omega
        have HG1 := Lib.hid hg
        clear hg
        go_wp2_with fail
        go_quiet ((go_at_call 125; exact Calls.quiet_of_same (isPlain_is _ true _ HBQ)))
        have H1 : Hid (RdAt (wr.drewN nq) R s j v) := Lib.hid ⟨HR.out.h, hs⟩
        go_wp2
        go_roundg (gk - 1)
        case measure => exact Nat.sub_lt hgk Nat.one_pos
        case rel => exact ⟨j + 1, by omega, by omega, by omega, by rw [HE3.out]; exact Pl.textEnd_step hjl (by rw [← HPK.out]; exact HBQ.out.symm), rd_move' H1.out _ _ (by omega), grown_trans' (grown_trans' HG1.out (grown_drewN' _ _ _)) (grownBy_set2 _ R 1 _)⟩
      | false =>
        go_wp2_with fail
        go_quiet ((go_at_call 125; exact Calls.quiet_of_same (isPlain_is _ false _ HBQ)))
        have HEX : Hid (E = j) := Lib.hid (by rw [HE.out, HE3.out]; exact Pl.textEnd_stop (.inr (by rw [← HPK.out]; exact HBQ.out.symm)) _)
        have HR1 : Hid (∀ n, RdAt (wr.drewN n) R s j v) := Lib.hid fun n => ⟨HR.out.h, hs⟩
        have HG1 : Hid (∀ n, w.grownBy (wr.drewN n) (some R)) := Lib.hid fun n => grown_trans' hg (grown_drewN' _ n _)
        clear hg
        have x1 : (p : Int) + 1 ≤ j := by omega
        have x2 : (j : Int) ≤ s.size := by omega
        have x3 : p + 1 ≤ j := by omega
        go_wp2_with fail
        go_quiet (fail)
        go_wp2_with fail
        have HW2 := Lib.hid (show Pl.wantFail s [39] j = some q by rw [← HEX.out]; exact HW.out)
        refine (want_not R s ⟨#[39]⟩ j q v _ (HR1.out _) (by decide) HW2).mono ?_
        rintro e w2 ⟨rfl, hb2⟩
        have HB2 := Lib.hid hb2
        clear hb2
        go_wp2
        exact ⟨rfl, rfl, (below_of_grown (HG1.out _) (by have := HRl.out; omega)).trans HB2.out⟩
    · have e1 : decide (j < s.size) = false := by simpa using hjl
      go_wp2_with fail
      go_quiet (fail)
      have HEX : Hid (E = j) := Lib.hid (by rw [HE.out, HE3.out]; exact Pl.textEnd_stop (.inl (by omega)) _)
      have HR1 : Hid (∀ n, RdAt (wr.drewN n) R s j v) := Lib.hid fun n => ⟨HR.out.h, hs⟩
      have HG1 : Hid (∀ n, w.grownBy (wr.drewN n) (some R)) := Lib.hid fun n => grown_trans' hg (grown_drewN' _ n _)
      clear hg
      have x1 : (p : Int) + 1 ≤ j := by omega
      have x2 : (j : Int) ≤ s.size := by omega
      have x3 : p + 1 ≤ j := by omega
      go_wp2_with fail
      go_quiet (fail)
      go_wp2_with fail
      have HW2 := Lib.hid (show Pl.wantFail s [39] j = some q by rw [← HEX.out]; exact HW.out)
      refine (want_not R s ⟨#[39]⟩ j q v _ (HR1.out _) (by decide) HW2).mono ?_
      rintro e w2 ⟨rfl, hb2⟩
      have HB2 := Lib.hid hb2
      clear hb2
      go_wp2
      exact ⟨rfl, rfl, (below_of_grown (HG1.out _) (by have := HRl.out; omega)).trans HB2.out⟩
end Go.Proofs.YtchoelgkcnnnkaaGreatDoor
namespace Go.Proofs.YtchoelgkcnnnkaaGreatDoor
open Go.RowKit
namespace Pl
theorem pre_cons (a b : UInt8) (l : List UInt8) : Lib.hasPrefix (a :: b :: l) [110, 111] = ((110 == a) && (111 == b)) := by
  unfold Lib.hasPrefix
  simp [List.isPrefixOf]
theorem has_no (s : ByteArray) (p : Nat) : Lib.hasPrefix (s.extract p s.size).data.toList [110, 111] = (decide ((peekB s p).toNat = 110) && decide ((peekB s (p + 1)).toNat = 111)) := by
  have hl : (s.extract p s.size).data.toList.length = s.size - p := extract_len (Nat.le_refl _)
  have hg : ∀ (m : Nat) (hm : m < (s.extract p s.size).data.toList.length), (s.extract p s.size).data.toList[m] = peekB s (p + m) := fun m hm => (peek_extract hm).2
  generalize (s.extract p s.size).data.toList = l at hl hg
  match l, hl, hg with
  | [], hl, _ =>
    have h0 : peekB s p = 0 := by unfold peekB; rw [dif_neg (by simp at hl; omega)]
    rw [h0]; rfl
  | [a], hl, hg =>
    have h1 : peekB s (p + 1) = 0 := by unfold peekB; rw [dif_neg (by simp at hl; omega)]
    rw [h1]
    unfold Lib.hasPrefix
    simp [List.isPrefixOf]
  | a :: b :: l, hl, hg =>
    have h0 := hg 0 (by simp)
    have h1 := hg 1 (by simp)
    simp at h0 h1
    rw [pre_cons, h0, h1]
    have e1 : ∀ (k : UInt8) (c : UInt8), (k == c) = decide (c.toNat = k.toNat) := by
      intro k c
      rw [Bool.eq_iff_iff]
      simp only [beq_iff_eq, decide_eq_true_eq]
      exact ⟨fun e => by rw [e], fun e => (UInt8.toNat_inj.1 e).symm⟩
    rw [e1, e1]; rfl
end Pl
theorem peek_is (R : Nat) (s : ByteArray) (p : Nat) (v : Value) (k : Int) (w : World) (H : RdAt w R s p v) (HK : Hid (k = ((Pl.peekB s p).toNat : Int))) :
    Calls Tryz.prog 78 #[.pointer (some ⟨R, 0, none⟩)] w fun e w' => e = .returned (.int .u8 k) ∧ Below w.heap.size w w' := by
  rw [HK.out]
  exact peek_any R s p v _ w H (Lib.hid rfl)
theorem hasNo (s : ByteArray) (p : Nat) (b : Bool) (w : World) (HB : Hid (b = (decide ((Pl.peekB s p).toNat = 110) && decide ((Pl.peekB s (p + 1)).toNat = 111)))) :
    Calls Tryz.prog 79 #[.string (s.extract p s.size), .string ⟨#[110, 111]⟩] w fun e w' => e = .returned (.bool b) ∧ w' = w :=
  (Tryz.strings_HasPrefix _ _ w).mono fun _ _ ⟨h1, h2⟩ => ⟨by rw [h1, HB.out, ← Pl.has_no s p], h2⟩
theorem single_is (k r : Int) (w : World) (HR : Hid (r = Lib.indexByte [45, 33, 35] k.toNat.toUInt8)) :
    Calls Tryz.prog 87 #[.string ⟨#[45, 33, 35]⟩, .int .u8 k] w fun e w' => e = .returned (.int .i64 r) ∧ w = w' :=
  (Tryz.strings_IndexByte _ k w).mono fun _ _ ⟨h1, h2⟩ => ⟨by rw [h1, HR.out], h2.symm⟩
theorem double_is (k r : Int) (w : World) (HR : Hid (r = Lib.indexByte [43, 45, 42, 47, 37, 61, 60, 38, 124] k.toNat.toUInt8)) :
    Calls Tryz.prog 87 #[.string ⟨#[43, 45, 42, 47, 37, 61, 60, 38, 124]⟩, .int .u8 k] w fun e w' => e = .returned (.int .i64 r) ∧ w = w' :=
  (Tryz.strings_IndexByte _ k w).mono fun _ _ ⟨h1, h2⟩ => ⟨by rw [h1, HR.out], h2.symm⟩
end Go.Proofs.YtchoelgkcnnnkaaGreatDoor
