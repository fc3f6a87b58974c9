/- WALKS: the reader's formula, second part: an operator between two formulas. Printed by genfm.py. -/
import Derived.Test.YtchoelgkcnnnkaaGreatDoorRdJ
import Derived.Laws.OwnMore
set_option linter.all false
namespace Go.Proofs.YtchoelgkcnnnkaaGreatDoor
open Go.RowKit
namespace Pl
theorem double_fin : ∀ i : Fin 256, Lib.indexByte [43, 45, 42, 47, 37, 61, 60, 38, 124] (UInt8.ofNat i.val) = if kindOf (UInt8.ofNat i.val) = 0 then -1 else kindOf (UInt8.ofNat i.val) - 8 := by decide +kernel
theorem double_kind (c : UInt8) : Lib.indexByte [43, 45, 42, 47, 37, 61, 60, 38, 124] c = if kindOf c = 0 then -1 else kindOf c - 8 := by
  have h := double_fin ⟨c.toNat, c.toNat_lt⟩
  rwa [UInt8.ofNat_toNat] at h
theorem kind_fin : ∀ i : Fin 256, kindOf (UInt8.ofNat i.val) = 0 ∨ (8 ≤ kindOf (UInt8.ofNat i.val) ∧ kindOf (UInt8.ofNat i.val) ≤ 16) := by decide +kernel
theorem kind_range (c : UInt8) : kindOf c = 0 ∨ (8 ≤ kindOf c ∧ kindOf c ≤ 16) := by
  have h := kind_fin ⟨c.toNat, c.toNat_lt⟩
  rwa [UInt8.ofNat_toNat] at h
theorem byte_back (c : UInt8) : ((c.toNat : Int)).toNat.toUInt8 = c := by
  rw [Int.toNat_natCast]
  exact UInt8.toNat_inj.1 (by rw [Nat.toUInt8_eq, UInt8.toNat_ofNat']; have := c.toNat_lt; omega)
end Pl
theorem tmCells_len : ∀ ts : List Tm, (tmCells ts).length = ts.length * 3
  | [] => rfl
  | t :: r => by simp only [tmCells, List.flatMap_cons, List.length_append, List.length_cons, List.length_nil]; have := tmCells_len r; simp only [tmCells] at this; omega
theorem tmCells_app (a b : List Tm) : tmCells (a ++ b) = tmCells a ++ tmCells b := by unfold tmCells; rw [List.flatMap_append]
theorem tmCells_set (ts us : List Tm) (t : Tm) (k : Int) : (tmCells (ts ++ t :: us)).set (ts.length * 3) (.int .i64 k) = tmCells (ts ++ ⟨k, t.n, t.s⟩ :: us) := by
  rw [tmCells_app, tmCells_app, ← tmCells_len ts]
  rw [List.set_append_right _ _ (Nat.le_refl _), Nat.sub_self]
  rfl
theorem own_kind {W : World} {B g cap : Nat} {ts us : List Tm} {t : Tm} {L : List Tm} (hL : L = ts ++ t :: us) (h : OwnTms W B (.slice (some ⟨g, 0, none⟩) L.length cap) L) (k : Int) :
    OwnTms (W.setCell ⟨g, ts.length * 3, none⟩ (.int .i64 k)) B (.slice (some ⟨g, 0, none⟩) L.length cap) (ts ++ ⟨k, t.n, t.s⟩ :: us) ∧ W.grownBy (W.setCell ⟨g, ts.length * 3, none⟩ (.int .i64 k)) (some g) := by
  obtain ⟨h1, h2⟩ := World.ownsRow.stored h (ts.length * 3) (.int .i64 k)
  refine ⟨?_, h2⟩
  rw [hL, tmCells_set] at h1
  unfold OwnTms
  rw [hL]
  simpa using h1
theorem own_cell {W : World} {B g cap : Nat} {ts us : List Tm} {t : Tm} {L : List Tm} (hL : L = ts ++ t :: us) (h : OwnTms W B (.slice (some ⟨g, 0, none⟩) L.length cap) L) :
    W.cell? ⟨g, ts.length * 3, none⟩ = some (.int .i64 t.k) ∧ W.frozen? ⟨g, ts.length * 3, none⟩ = false ∧ B ≤ g ∧ g < W.heap.size := by
  refine ⟨?_, World.ownsRow.frozenAt h _, (World.ownsRow.lt h g rfl).1, (World.ownsRow.lt h g rfl).2⟩
  rw [World.ownsRow.cellAt h _ (by rw [hL]; simp), hL, tmCells_app, ← tmCells_len ts, List.getElem?_append_right (Nat.le_refl _), Nat.sub_self]
  rfl
theorem kept_store {W : World} {B R g n cap : Nat} {xs : List Value} (h : W.ownsRow B 24 3 (.slice (some ⟨g, 0, none⟩) n cap) n xs) (hR : R < B) (j : Nat) (u : Value) : KeptR R W (W.setCell ⟨g, j, none⟩ u) := by
  have hl := World.ownsRow.lt h g rfl
  have hg := (World.ownsRow.stored h j u).2
  exact ⟨⟨hg.os, hg.tape, hg.output, hg.size, fun k hk => hg.block k (by omega) (by simp; omega)⟩, (Lib.OthersKept.refl _ _ _).grown hg (Lib.ownsRow_kind h)⟩
set_option maxRecDepth 100000 in
set_option maxHeartbeats 2000000 in
theorem fm_bi (R B : Nat) (s : ByteArray) (p : Nat) (v : Value) (ts : List Tm) (w : World) (H : RdAt w R s p v) (hO : OwnTms w B v ts) (hB : B ≤ w.heap.size) (hR : R < B) (hl : ts.length + (s.size - p) ≤ 1000000000) (hp : p < s.size) (hc : Hid ((40 : Int) = ((Pl.peekB s p).toNat : Int))) (n : Nat) (hG : Glob w) (h8 : 8 ≤ R) (hn : s.size < p + 1 + n) (ih : FmAt R B s n) :
    Calls Tryz.prog 56 #[.pointer (some ⟨R, 0, none⟩)] w (RdPost R B s ts ((Pl.rd s n (p + 1)).then fun a q => if Pl.kindOf (Pl.peekB s q) = 0 then .bad q else (Pl.rd s n (q + 1)).then fun b q2 => Pl.word s [41] q2 (.ok (.bi (Pl.mk0 (Pl.kindOf (Pl.peekB s q))) a b) (q2 + 1))) w) := by
  obtain ⟨c0, c1, _, _, _⟩ := H.cells
  have hs := H.size
  have HRl := (Array.getElem?_eq_some_iff.1 H.h).1
  have HH := Lib.hid H
  have HO := Lib.hid hO
  have uu := And.intro hB (And.intro hR hl)
  clear uu
  have HD : Hid (false = Pl.digAt 48 s p) := Lib.hid (by have := hc.out; unfold Pl.digAt; rw [decide_eq_false (by omega)]; rfl)
  have HG := Lib.hid hG
  have IH := Lib.hid ih
  clear hG ih
  have HNO : Hid (false = (decide ((Pl.peekB s p).toNat = 110) && decide ((Pl.peekB s (p + 1)).toNat = 111))) := Lib.hid (by have := hc.out; rw [decide_eq_false (by omega)]; rfl)
  have e1 : decide (s.size ≤ p) = false := by simp; omega
  have e2 : (p : Int) ≤ s.size := by omega
  have hmin : min (p : Int) (s.size : Int) = (p : Int) := by omega
  clear H hO
  go_enter Tryz.func56, Tryz.ntmps56
  go_wp2_with fail
  refine (peek_is R s p v 40 _ HH.out hc).mono ?_
  rintro e w1 ⟨rfl, b1⟩
  have H1 := Lib.hid (HH.out.below b1)
  have B1 := Lib.hid b1
  clear b1
  obtain ⟨d0, d1, _, _, _⟩ := H1.out.cells
  go_wp2_with fail
  go_quiet ((go_at_call 79; exact Calls.quiet_of_same (hasNo s p false _ HNO)))
  go_wp2_with fail
  clear hmin
  go_quiet (fail)
  have H2 : Hid (∀ n, RdAt (w1.drewN n) R s p v) := Lib.hid fun n => ⟨H1.out.h, hs⟩
  have G1 : Hid (∀ n, w.grownBy (w1.drewN n) (some R)) := Lib.hid fun n => grown_trans' (grown_of_below B1.out _) (grown_drewN' w1 _ _)
  go_wp2_with fail
  refine (isDigit_any R s p v 48 false _ (H2.out _) HD).mono ?_
  rintro e w2 ⟨rfl, b2⟩
  have H3 := Lib.hid ((H2.out _).below b2)
  obtain ⟨f0, f1, _, g1, g2⟩ := H3.out.cells
  have G2 : Hid (w.grownBy w2 (some R)) := Lib.hid (grown_trans' (G1.out _) (grown_of_below b2 _))
  have O3 := Lib.hid (own_grown HO.out hR G2.out)
  have K3 := Lib.hid (kept_of_grown G2.out (Nat.le_of_lt HRl))
  clear b2
  go_wp2_with (go_at_call 87; refine (single_is 40 (-1) _ (Lib.hid rfl)).mono ?_; rintro e w3 ⟨rfl, rfl⟩)
  have H4 := Lib.hid (rd_move' H3.out (p + 1) ((p : Int) + 1) (by omega))
  have O4 := Lib.hid (show OwnTms (w2.setCell ⟨R, 1, none⟩ (.int .i64 ((p : Int) + 1))) B v ts from own_set O3.out hR 1)
  have K4 := Lib.hid (K3.out.trans (kept_of_grown (grownBy_set2 w2 R 1 (.int .i64 ((p : Int) + 1))) (by have := K3.out.1.size; omega)))
  refine (put_any R B s (p + 1) v (ts) ⟨0, 0, ⟨#[]⟩⟩ _ H4.out O4.out (by have := K4.out.1.size; omega) hR (by omega)).mono ?_
  rintro e w5 ⟨rfl, ⟨v5, h5, o5⟩, k5⟩
  have H5 := Lib.hid h5
  have O5 := Lib.hid o5
  have KP5 := Lib.hid k5
  clear h5 o5 k5
  have K5 := Lib.hid (K4.out.trans KP5.out)
  clear f0 f1 d0 d1 c0 c1 g1 g2
  go_wp2_with fail
  refine (IH.out (p + 1) v5 _ _ H5.out O5.out (by have := K5.out.1.size; omega) (HG.out.below K5.out.1 h8) (by omega) (by omega) (by simp; omega)).mono ?_
  intro e w6 h6
  rcases h6.split with ⟨a, q, v6, hr, rfl, h6', o6, k6⟩ | ⟨q, hr, rfl, b6⟩
  · have hbd := Pl.rd_bounds s n (p + 1) (by omega)
    rw [hr] at hbd
    obtain ⟨bd1, bd2, bd3⟩ := hbd
    have HR := Lib.hid hr
    have H6 := Lib.hid h6'
    have K6 := Lib.hid (K5.out.trans k6)
    obtain ⟨L, hL⟩ : ∃ L, L = ts ++ (⟨0, 0, ⟨#[]⟩⟩ : Tm) :: a.flat := ⟨_, rfl⟩
    have o6' : OwnTms w6 B v6 L := by rw [hL]; simpa using o6
    have hLt : ts.length < L.length := by rw [hL]; simp
    have hLn : L.length ≤ ts.length + 1 + a.flat.length := Nat.le_of_eq (by rw [hL]; simp; omega)
    have HLL := Lib.hid hL
    clear hr h6' k6 h6 o6 hL
    obtain ⟨d0, d1, d2, g1, g2⟩ := H6.out.cells
    go_wp2_with fail
    obtain ⟨k2, hk2⟩ : ∃ k2 : Int, k2 = ((Pl.peekB s q).toNat : Int) := ⟨_, rfl⟩
    have HK2 := Lib.hid hk2
    clear hk2
    refine (peek_is R s q v6 k2 _ H6.out HK2).mono ?_
    rintro e w7 ⟨rfl, b7⟩
    have H7 := Lib.hid (H6.out.below b7)
    have o7 : OwnTms w7 B v6 L := own_grown o6' hR (grown_of_below b7 (some R))
    have K7 := Lib.hid (K6.out.trans (kept_of_below b7 (by have := K6.out.1.size; omega)))
    clear b7 o6' d0 d1 d2 g1 g2
    obtain ⟨f0, f1, f2, g1, g2⟩ := H7.out.cells
    go_wp2_with fail
    obtain ⟨x, hx⟩ : ∃ x : Int, x = Lib.indexByte [43, 45, 42, 47, 37, 61, 60, 38, 124] k2.toNat.toUInt8 := ⟨_, rfl⟩
    have HX := Lib.hid hx
    have hx2 := hx
    rw [HK2.out, Pl.byte_back, Pl.double_kind] at hx2
    clear hx
    refine (double_is k2 x _ HX).mono ?_
    rintro e w8 ⟨rfl, rfl⟩
    have hkr := Pl.kind_range (Pl.peekB s q)
    obtain ⟨kk, hkk⟩ : ∃ kk : Int, kk = Pl.kindOf (Pl.peekB s q) := ⟨_, rfl⟩
    rw [← hkk] at hx2 hkr
    have HKK := Lib.hid hkk
    clear hkk
    have H7d : Hid (∀ n, RdAt (w7.drewN n) R s q v6) := Lib.hid fun n => ⟨H7.out.h, hs⟩
    have K7d : Hid (∀ n, KeptR R w (w7.drewN n)) := Lib.hid fun n => K7.out.trans (kept_of_grown (grown_drewN' w7 n _) (by have := K7.out.1.size; omega))
    by_cases hq : s.size ≤ q
    · have t1 : decide (s.size ≤ q) = true := by simp; omega
      have HZ : Hid (kk = 0) := Lib.hid (by rw [HKK.out]; unfold Pl.peekB; rw [dif_neg (by omega)]; rfl)
      clear hx2 hkr
      go_wp2_with fail
      go_quiet (fail)
      go_wp2_with fail
      refine (fail_any R s q v6 _ (H7d.out _)).mono ?_
      rintro e w8 ⟨rfl, rfl⟩
      go_wp2
      rw [HR.out]
      refine ⟨rfl, ?_⟩
      simp only [Pl.Rd.then]
      rw [if_pos (by rw [← HKK.out]; exact HZ.out)]
      exact ⟨rfl, (K7d.out _).1⟩
    · have t1 : decide (s.size ≤ q) = false := by simp; omega
      by_cases hz : kk = 0
      · rw [if_pos hz] at hx2
        have t2 : decide (x < 0) = true := by simp; omega
        have HZ := Lib.hid hz
        clear hx2 hkr hz
        go_wp2_with fail
        go_quiet (fail)
        go_wp2_with fail
        refine (fail_any R s q v6 _ (H7d.out _)).mono ?_
        rintro e w8 ⟨rfl, rfl⟩
        go_wp2
        rw [HR.out]
        refine ⟨rfl, ?_⟩
        simp only [Pl.Rd.then]
        rw [if_pos (by rw [← HKK.out]; exact HZ.out)]
        exact ⟨rfl, (K7d.out _).1⟩
      · rw [if_neg hz] at hx2
        have t2 : decide (x < 0) = false := by simp; omega
        have x0 : 0 ≤ x := by omega
        have x8 : x ≤ 8 := by omega
        have HXK : Hid (8 + x = kk) := Lib.hid (by omega)
        have HZ := Lib.hid hz
        obtain ⟨gb, cap, rfl⟩ := Joins.ownsRow_form o7 (by omega)
        have hcl := own_cell HLL.out o7
        obtain ⟨q1, q2, q3, q4⟩ := hcl
        have hne : gb ≠ R := by omega
        have hne2 : R ≠ gb := by omega
        have O7 := Lib.hid o7
        have lb : (ts.length : Int) < L.length := by omega
        clear hx2 hkr hz o7
        go_wp2_with fail
        go_quiet (fail)
        go_wp2_with fail
        have o7d : OwnTms (w7.drewN nq) B (.slice (some ⟨gb, 0, none⟩) L.length cap) L := own_grown O7.out hR (grown_drewN' w7 nq (some R))
        have H8 : Hid (RdAt ((w7.drewN nq).setCell ⟨gb, ts.length * 3, none⟩ (.int .i64 (8 + x))) R s q (.slice (some ⟨gb, 0, none⟩) L.length cap)) :=
          Lib.hid ⟨by rw [Below.heap_setCell _ _ _ _ (fun e => hne2 e)]; exact H7.out.h, hs⟩
        have H9 := Lib.hid (rd_move' H8.out (q + 1) ((q : Int) + 1) (by omega))
        have k8 := (K7d.out nq).trans (kept_store o7d hR (ts.length * 3) (.int .i64 (8 + x)))
        have K9 := Lib.hid (k8.trans (kept_of_grown (grownBy_set2 _ R 1 (.int .i64 ((q : Int) + 1))) (by have := k8.1.size; omega)))
        have O9 := Lib.hid (show OwnTms (((w7.drewN nq).setCell ⟨gb, ts.length * 3, none⟩ (.int .i64 (8 + x))).setCell ⟨R, 1, none⟩ (.int .i64 ((q : Int) + 1))) B (.slice (some ⟨gb, 0, none⟩) L.length cap) (ts ++ ⟨8 + x, 0, ⟨#[]⟩⟩ :: a.flat) from own_set (own_kind HLL.out o7d (8 + x)).1 hR 1)
        clear o7d k8 f0 f1 f2 g1 g2 q1 q2
        refine (IH.out (q + 1) _ _ _ H9.out O9.out (by have := K9.out.1.size; omega) (HG.out.below K9.out.1 h8) (by omega) (by omega) (by simp; omega)).mono ?_
        intro e w10 h10
        rcases h10.split with ⟨b, q2, v10, hr2, rfl, h10', o10, k10⟩ | ⟨q2, hr2, rfl, b10⟩
        · have HR2 := Lib.hid hr2
          have H10 := Lib.hid h10'
          have O10 := Lib.hid (show OwnTms w10 B v10 (ts ++ (Fm.bi (Pl.mk0 (8 + x)) a b).flat) by simpa [Fm.flat, Pl.mk0] using o10)
          have K10 := Lib.hid (K9.out.trans k10)
          clear hr2 h10' o10 k10 h10
          obtain ⟨wf, hwf⟩ : ∃ wf, wf = Pl.wantFail s [41] q2 := ⟨_, rfl⟩
          cases wf with
          | none =>
            have HW := Lib.hid hwf.symm
            clear hwf
            go_wp2_with fail
            refine (want_there R s ⟨#[41]⟩ q2 v10 _ H10.out (by decide) HW).mono ?_
            rintro e w11 ⟨rfl, h11, hg11⟩
            have H11 := Lib.hid h11
            have O11 := Lib.hid (own_grown O10.out hR hg11)
            have K11 := Lib.hid (K10.out.trans (kept_of_grown hg11 (by have := K10.out.1.size; omega)))
            clear h11 hg11
            go_wp2
            go_end0
            rw [HR.out]
            simp only [Pl.Rd.then]
            rw [if_neg (by rw [← HKK.out]; exact HZ.out), HR2.out]
            simp only [Pl.word, HW.out]
            rw [← HKK.out, ← HXK.out]
            exact ⟨rfl, ⟨v10, H11.out, O11.out⟩, K11.out⟩
          | some q3 =>
            have HW := Lib.hid hwf.symm
            clear hwf
            go_wp2_with fail
            refine (want_not R s ⟨#[41]⟩ q2 q3 v10 _ H10.out (by decide) HW).mono ?_
            rintro e w11 ⟨rfl, b11⟩
            have B11 := Lib.hid b11
            clear b11
            go_wp2
            rw [HR.out]
            refine ⟨rfl, ?_⟩
            simp only [Pl.Rd.then]
            rw [if_neg (by rw [← HKK.out]; exact HZ.out), HR2.out]
            simp only [Pl.word, HW.out]
            exact ⟨rfl, K10.out.1.trans B11.out⟩
        · have HR2 := Lib.hid hr2
          have B10 := Lib.hid b10
          clear hr2 b10 h10
          go_wp2
          rw [HR.out]
          refine ⟨rfl, ?_⟩
          simp only [Pl.Rd.then]
          rw [if_neg (by rw [← HKK.out]; exact HZ.out), HR2.out]
          exact ⟨rfl, K9.out.1.trans B10.out⟩
  · have HR := Lib.hid hr
    have B6 := Lib.hid b6
    clear hr b6 h6
    go_wp2
    rw [HR.out]
    exact ⟨rfl, rfl, K5.out.1.trans B6.out⟩
end Go.Proofs.YtchoelgkcnnnkaaGreatDoor
