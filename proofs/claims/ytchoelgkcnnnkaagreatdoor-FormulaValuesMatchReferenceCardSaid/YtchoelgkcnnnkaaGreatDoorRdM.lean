/- WALKS: the reader's formula, third part: a choice of three formulas. Printed by genfm.py. · WALKS: the reader's formula, whole. -/
import Derived.Test.YtchoelgkcnnnkaaGreatDoorRdK
set_option linter.all false
namespace Go.Proofs.YtchoelgkcnnnkaaGreatDoor
open Go.RowKit
set_option maxRecDepth 100000 in
set_option maxHeartbeats 2000000 in
theorem fm_tr (R B : Nat) (s : ByteArray) (p : Nat) (v : Value) (ts : List Tm) (w : World) (H : RdAt w R s p v) (hO : OwnTms w B v ts) (hB : B ≤ w.heap.size) (hR : R < B) (hl : ts.length + (s.size - p) ≤ 1000000000) (hp : p < s.size) (hc : Hid ((63 : Int) = ((Pl.peekB s p).toNat : Int))) (n : Nat) (hG : Glob w) (h8 : 8 ≤ R) (hn : s.size < p + 1 + n) (ih : FmAt R B s n) :
    Calls Tryz.prog 56 #[.pointer (some ⟨R, 0, none⟩)] w (RdPost R B s ts (Pl.word s [63, 40] p ((Pl.rd s n (p + 2)).then fun a q => Pl.word s [44] q ((Pl.rd s n (q + 1)).then fun b q2 => Pl.word s [44] q2 ((Pl.rd s n (q2 + 1)).then fun c q3 => Pl.word s [41] q3 (.ok (.tr (Pl.mk0 17) a b c) (q3 + 1)))))) w) := by
  obtain ⟨c0, c1, _, _, _⟩ := H.cells
  have hs := H.size
  have HRl := (Array.getElem?_eq_some_iff.1 H.h).1
  have HH := Lib.hid H
  have HO := Lib.hid hO
  have uu := And.intro hB (And.intro hR hl)
  clear uu
  have HD : Hid (false = Pl.digAt 48 s p) := Lib.hid (by have := hc.out; unfold Pl.digAt; rw [decide_eq_false (p := ((Pl.peekB s p).toNat : Int) ≤ 57) (by omega), Bool.and_false])
  have HG := Lib.hid hG
  have IH := Lib.hid ih
  clear hG ih
  have HNO : Hid (false = (decide ((Pl.peekB s p).toNat = 110) && decide ((Pl.peekB s (p + 1)).toNat = 111))) := Lib.hid (by have := hc.out; rw [decide_eq_false (by omega)]; rfl)
  have e1 : decide (s.size ≤ p) = false := by simp; omega
  have e2 : (p : Int) ≤ s.size := by omega
  have hmin : min (p : Int) (s.size : Int) = (p : Int) := by omega
  clear H hO
  go_enter Tryz.func56, Tryz.ntmps56
  go_wp2_with fail
  refine (peek_is R s p v 63 _ HH.out hc).mono ?_
  rintro e w1 ⟨rfl, b1⟩
  have H1 := Lib.hid (HH.out.below b1)
  have B1 := Lib.hid b1
  clear b1
  obtain ⟨d0, d1, _, _, _⟩ := H1.out.cells
  go_wp2_with fail
  go_quiet ((go_at_call 79; exact Calls.quiet_of_same (hasNo s p false _ HNO)))
  go_wp2_with fail
  clear hmin
  go_quiet (fail)
  have H2 : Hid (∀ n, RdAt (w1.drewN n) R s p v) := Lib.hid fun n => ⟨H1.out.h, hs⟩
  have G1 : Hid (∀ n, w.grownBy (w1.drewN n) (some R)) := Lib.hid fun n => grown_trans' (grown_of_below B1.out _) (grown_drewN' w1 _ _)
  go_wp2_with fail
  refine (isDigit_any R s p v 48 false _ (H2.out _) HD).mono ?_
  rintro e w2 ⟨rfl, b2⟩
  have H3 := Lib.hid ((H2.out _).below b2)
  obtain ⟨f0, f1, _, g1, g2⟩ := H3.out.cells
  have G2 : Hid (w.grownBy w2 (some R)) := Lib.hid (grown_trans' (G1.out _) (grown_of_below b2 _))
  have O3 := Lib.hid (own_grown HO.out hR G2.out)
  have K3 := Lib.hid (kept_of_grown G2.out (Nat.le_of_lt HRl))
  clear b2
  go_wp2_with (go_at_call 87; refine (single_is 63 (-1) _ (Lib.hid rfl)).mono ?_; rintro e w3 ⟨rfl, rfl⟩)
  refine (put_any R B s (p) v (ts) ⟨17, 0, ⟨#[]⟩⟩ _ H3.out O3.out (by have := K3.out.1.size; omega) hR (by omega)).mono ?_
  rintro e w5 ⟨rfl, ⟨v5, h5, o5⟩, k5⟩
  have H5 := Lib.hid h5
  have O5 := Lib.hid o5
  have KP5 := Lib.hid k5
  clear h5 o5 k5
  have K5 := Lib.hid (K3.out.trans KP5.out)
  clear f0 f1 d0 d1 c0 c1 g1 g2
  go_wp2_with fail
  have HSB : Hid ((w5.alloc (.cells #[.string ⟨#[63, 40]⟩, .string ⟨#[44]⟩, .string ⟨#[44]⟩] 9)).heap[w5.heap.size]? = some (.cells #[.string ⟨#[63, 40]⟩, .string ⟨#[44]⟩, .string ⟨#[44]⟩] 9 (0, 0))) :=
    Lib.hid (by show (w5.heap.push _)[w5.heap.size]? = _; rw [Array.getElem?_push, if_pos rfl])
  have hSR : w5.heap.size ≠ R := by have := K5.out.1.size; omega
  have H6 := Lib.hid (H5.out.below (below1 w5 (.cells #[.string ⟨#[63, 40]⟩, .string ⟨#[44]⟩, .string ⟨#[44]⟩] 9)))
  have O6 := Lib.hid (show OwnTms (w5.alloc (.cells #[.string ⟨#[63, 40]⟩, .string ⟨#[44]⟩, .string ⟨#[44]⟩] 9)) B v5 (ts ++ [⟨17, 0, ⟨#[]⟩⟩]) from World.ownsRow.alloc O5.out _)
  have K6 := Lib.hid (K5.out.trans (kept_of_below (below1 w5 (.cells #[.string ⟨#[63, 40]⟩, .string ⟨#[44]⟩, .string ⟨#[44]⟩] 9)) (by have := K5.out.1.size; omega)))
  obtain ⟨SB, hSBe⟩ : ∃ SB, SB = w5.heap.size := ⟨_, rfl⟩
  generalize (w5.alloc (.cells #[.string ⟨#[63, 40]⟩, .string ⟨#[44]⟩, .string ⟨#[44]⟩] 9)) = w6 at HSB H6 O6 K6 ⊢
  rw [← hSBe] at HSB hSR ⊢
  clear hSBe
  obtain ⟨v6, hv6⟩ : ∃ v6, v6 = v5 := ⟨_, rfl⟩
  rw [← hv6] at H6 O6
  clear hv6
  refine wp_loop_rounds 4 ?_
  have HSB6 := HSB
  clear HSB
  have sb6 : w6.cell? ⟨SB, 0, none⟩ = some (.string ⟨#[63, 40]⟩) := by rw [Lib.cell_of_heap HSB6.out]; rfl
  have sc6 : w6.cell? ⟨SB, 1, none⟩ = some (.string ⟨#[44]⟩) := by rw [Lib.cell_of_heap HSB6.out]; rfl
  have sd6 : w6.cell? ⟨SB, 2, none⟩ = some (.string ⟨#[44]⟩) := by rw [Lib.cell_of_heap HSB6.out]; rfl
  rw [rounds_succ]
  go_wp2_with fail
  obtain ⟨wf0, hwf⟩ : ∃ wf, wf = Pl.wantFail s [63, 40] (p) := ⟨_, rfl⟩
  cases wf0 with
  | some q9 =>
    have HW0 := Lib.hid hwf.symm
    clear hwf
    refine (want_not R s ⟨#[63, 40]⟩ (p) q9 v6 _ H6.out (by decide) HW0).mono ?_
    rintro e wz ⟨rfl, bz⟩
    have BZ := Lib.hid bz
    clear bz
    go_wp2
    refine ⟨rfl, ?_⟩
    simp only [Pl.word, HW0.out]
    exact ⟨rfl, K6.out.1.trans BZ.out⟩
  | none =>
    have HW0 := Lib.hid hwf.symm
    have hwb0 := Pl.wantFail_none hwf.symm (by omega)
    simp only [List.length_cons, List.length_nil] at hwb0
    clear hwf
    refine (want_there R s ⟨#[63, 40]⟩ (p) v6 _ H6.out (by decide) HW0).mono ?_
    rintro e w7 ⟨rfl, h7, hg7⟩
    have H7 := Lib.hid h7
    have O7 := Lib.hid (own_grown O6.out hR hg7)
    have kk7 := kept_of_grown hg7 (show R ≤ w6.heap.size by have := K6.out.1.size; omega)
    have K7 := Lib.hid (K6.out.trans kk7)
    have HSB7 := Lib.hid (kk7.block HSB6.out (by decide) hSR)
    clear h7 hg7 kk7 sb6 sc6 sd6
    have sb7 : w7.cell? ⟨SB, 0, none⟩ = some (.string ⟨#[63, 40]⟩) := by rw [Lib.cell_of_heap HSB7.out]; rfl
    have sc7 : w7.cell? ⟨SB, 1, none⟩ = some (.string ⟨#[44]⟩) := by rw [Lib.cell_of_heap HSB7.out]; rfl
    have sd7 : w7.cell? ⟨SB, 2, none⟩ = some (.string ⟨#[44]⟩) := by rw [Lib.cell_of_heap HSB7.out]; rfl
    go_wp2_with fail
    refine (IH.out (p + 2) v6 _ _ H7.out O7.out (by have := K7.out.1.size; omega) (HG.out.below K7.out.1 h8) (by omega) (by omega) (by simp; omega)).mono ?_
    intro e w8 h8
    rcases h8.split with ⟨a, q0, v8, hr, rfl, h8', o8, k8⟩ | ⟨q0, hr, rfl, bz⟩
    · have hbd := Pl.rd_bounds s n (p + 2) (by omega)
      rw [hr] at hbd
      obtain ⟨bd01, bd02, bd03⟩ := hbd
      have HR0 := Lib.hid hr
      have H8 := Lib.hid h8'
      have O8 := Lib.hid o8
      have K8 := Lib.hid (K7.out.trans k8)
      have HSB8 := Lib.hid (k8.block HSB7.out (by decide) hSR)
      clear hr h8' o8 k8 h8 sb7 sc7 sd7
      go_wp2_with fail
      have sb8 : w8.cell? ⟨SB, 0, none⟩ = some (.string ⟨#[63, 40]⟩) := by rw [Lib.cell_of_heap HSB8.out]; rfl
      have sc8 : w8.cell? ⟨SB, 1, none⟩ = some (.string ⟨#[44]⟩) := by rw [Lib.cell_of_heap HSB8.out]; rfl
      have sd8 : w8.cell? ⟨SB, 2, none⟩ = some (.string ⟨#[44]⟩) := by rw [Lib.cell_of_heap HSB8.out]; rfl
      rw [rounds_succ]
      go_wp2_with fail
      obtain ⟨wf1, hwf⟩ : ∃ wf, wf = Pl.wantFail s [44] (q0) := ⟨_, rfl⟩
      cases wf1 with
      | some q9 =>
        have HW1 := Lib.hid hwf.symm
        clear hwf
        refine (want_not R s ⟨#[44]⟩ (q0) q9 v8 _ H8.out (by decide) HW1).mono ?_
        rintro e wz ⟨rfl, bz⟩
        have BZ := Lib.hid bz
        clear bz
        go_wp2
        refine ⟨rfl, ?_⟩
        simp only [Pl.word, HW0.out, HR0.out, Pl.Rd.then, HW1.out]
        exact ⟨rfl, K8.out.1.trans BZ.out⟩
      | none =>
        have HW1 := Lib.hid hwf.symm
        have hwb1 := Pl.wantFail_none hwf.symm (by omega)
        simp only [List.length_cons, List.length_nil] at hwb1
        clear hwf
        refine (want_there R s ⟨#[44]⟩ (q0) v8 _ H8.out (by decide) HW1).mono ?_
        rintro e w9 ⟨rfl, h9, hg9⟩
        have H9 := Lib.hid h9
        have O9 := Lib.hid (own_grown O8.out hR hg9)
        have kk9 := kept_of_grown hg9 (show R ≤ w8.heap.size by have := K8.out.1.size; omega)
        have K9 := Lib.hid (K8.out.trans kk9)
        have HSB9 := Lib.hid (kk9.block HSB8.out (by decide) hSR)
        clear h9 hg9 kk9 sb8 sc8 sd8
        have sb9 : w9.cell? ⟨SB, 0, none⟩ = some (.string ⟨#[63, 40]⟩) := by rw [Lib.cell_of_heap HSB9.out]; rfl
        have sc9 : w9.cell? ⟨SB, 1, none⟩ = some (.string ⟨#[44]⟩) := by rw [Lib.cell_of_heap HSB9.out]; rfl
        have sd9 : w9.cell? ⟨SB, 2, none⟩ = some (.string ⟨#[44]⟩) := by rw [Lib.cell_of_heap HSB9.out]; rfl
        go_wp2_with fail
        refine (IH.out (q0 + 1) v8 _ _ H9.out O9.out (by have := K9.out.1.size; omega) (HG.out.below K9.out.1 h8) (by omega) (by omega) (by simp; omega)).mono ?_
        intro e w10 h10
        rcases h10.split with ⟨b, q1, v10, hr, rfl, h10', o10, k10⟩ | ⟨q1, hr, rfl, bz⟩
        · have hbd := Pl.rd_bounds s n (q0 + 1) (by omega)
          rw [hr] at hbd
          obtain ⟨bd11, bd12, bd13⟩ := hbd
          have HR1 := Lib.hid hr
          have H10 := Lib.hid h10'
          have O10 := Lib.hid o10
          have K10 := Lib.hid (K9.out.trans k10)
          have HSB10 := Lib.hid (k10.block HSB9.out (by decide) hSR)
          clear hr h10' o10 k10 h10 sb9 sc9 sd9
          go_wp2_with fail
          have sb10 : w10.cell? ⟨SB, 0, none⟩ = some (.string ⟨#[63, 40]⟩) := by rw [Lib.cell_of_heap HSB10.out]; rfl
          have sc10 : w10.cell? ⟨SB, 1, none⟩ = some (.string ⟨#[44]⟩) := by rw [Lib.cell_of_heap HSB10.out]; rfl
          have sd10 : w10.cell? ⟨SB, 2, none⟩ = some (.string ⟨#[44]⟩) := by rw [Lib.cell_of_heap HSB10.out]; rfl
          rw [rounds_succ]
          go_wp2_with fail
          obtain ⟨wf2, hwf⟩ : ∃ wf, wf = Pl.wantFail s [44] (q1) := ⟨_, rfl⟩
          cases wf2 with
          | some q9 =>
            have HW2 := Lib.hid hwf.symm
            clear hwf
            refine (want_not R s ⟨#[44]⟩ (q1) q9 v10 _ H10.out (by decide) HW2).mono ?_
            rintro e wz ⟨rfl, bz⟩
            have BZ := Lib.hid bz
            clear bz
            go_wp2
            refine ⟨rfl, ?_⟩
            simp only [Pl.word, HW0.out, HR0.out, Pl.Rd.then, HW1.out, HR1.out, HW2.out]
            exact ⟨rfl, K10.out.1.trans BZ.out⟩
          | none =>
            have HW2 := Lib.hid hwf.symm
            have hwb2 := Pl.wantFail_none hwf.symm (by omega)
            simp only [List.length_cons, List.length_nil] at hwb2
            clear hwf
            refine (want_there R s ⟨#[44]⟩ (q1) v10 _ H10.out (by decide) HW2).mono ?_
            rintro e w11 ⟨rfl, h11, hg11⟩
            have H11 := Lib.hid h11
            have O11 := Lib.hid (own_grown O10.out hR hg11)
            have kk11 := kept_of_grown hg11 (show R ≤ w10.heap.size by have := K10.out.1.size; omega)
            have K11 := Lib.hid (K10.out.trans kk11)
            have HSB11 := Lib.hid (kk11.block HSB10.out (by decide) hSR)
            clear h11 hg11 kk11 sb10 sc10 sd10
            have sb11 : w11.cell? ⟨SB, 0, none⟩ = some (.string ⟨#[63, 40]⟩) := by rw [Lib.cell_of_heap HSB11.out]; rfl
            have sc11 : w11.cell? ⟨SB, 1, none⟩ = some (.string ⟨#[44]⟩) := by rw [Lib.cell_of_heap HSB11.out]; rfl
            have sd11 : w11.cell? ⟨SB, 2, none⟩ = some (.string ⟨#[44]⟩) := by rw [Lib.cell_of_heap HSB11.out]; rfl
            go_wp2_with fail
            refine (IH.out (q1 + 1) v10 _ _ H11.out O11.out (by have := K11.out.1.size; omega) (HG.out.below K11.out.1 h8) (by omega) (by omega) (by simp; omega)).mono ?_
            intro e w12 h12
            rcases h12.split with ⟨c, q2, v12, hr, rfl, h12', o12, k12⟩ | ⟨q2, hr, rfl, bz⟩
            · have hbd := Pl.rd_bounds s n (q1 + 1) (by omega)
              rw [hr] at hbd
              obtain ⟨bd21, bd22, bd23⟩ := hbd
              have HR2 := Lib.hid hr
              have H12 := Lib.hid h12'
              have O12 := Lib.hid o12
              have K12 := Lib.hid (K11.out.trans k12)
              have HSB12 := Lib.hid (k12.block HSB11.out (by decide) hSR)
              clear hr h12' o12 k12 h12 sb11 sc11 sd11
              go_wp2_with fail
              rw [rounds_succ]
              go_wp2_with fail
              obtain ⟨wf3, hwf⟩ : ∃ wf, wf = Pl.wantFail s [41] (q2) := ⟨_, rfl⟩
              cases wf3 with
              | some q9 =>
                have HW3 := Lib.hid hwf.symm
                clear hwf
                refine (want_not R s ⟨#[41]⟩ (q2) q9 v12 _ H12.out (by decide) HW3).mono ?_
                rintro e wz ⟨rfl, bz⟩
                have BZ := Lib.hid bz
                clear bz
                go_wp2
                refine ⟨rfl, ?_⟩
                simp only [Pl.word, HW0.out, HR0.out, Pl.Rd.then, HW1.out, HR1.out, HW2.out, HR2.out, HW3.out]
                exact ⟨rfl, K12.out.1.trans BZ.out⟩
              | none =>
                have HW3 := Lib.hid hwf.symm
                have hwb3 := Pl.wantFail_none hwf.symm (by omega)
                simp only [List.length_cons, List.length_nil] at hwb3
                clear hwf
                refine (want_there R s ⟨#[41]⟩ (q2) v12 _ H12.out (by decide) HW3).mono ?_
                rintro e w13 ⟨rfl, h13, hg13⟩
                have H13 := Lib.hid h13
                have O13 := Lib.hid (own_grown O12.out hR hg13)
                have kk13 := kept_of_grown hg13 (show R ≤ w12.heap.size by have := K12.out.1.size; omega)
                have K13 := Lib.hid (K12.out.trans kk13)
                clear h13 hg13 kk13
                go_wp2
                go_end0
                simp only [Pl.word, HW0.out, HR0.out, Pl.Rd.then, HW1.out, HR1.out, HW2.out, HR2.out, HW3.out]
                exact ⟨rfl, ⟨v12, H13.out, by have := O13.out; simpa [Fm.flat, Pl.mk0] using this⟩, K13.out⟩
            · have HR2 := Lib.hid hr
              have BZ := Lib.hid bz
              clear hr bz h12
              go_wp2
              refine ⟨rfl, ?_⟩
              simp only [Pl.word, Pl.Rd.then, HW0.out, HR0.out, HW1.out, HR1.out, HW2.out, HR2.out]
              exact ⟨rfl, K11.out.1.trans BZ.out⟩
        · have HR1 := Lib.hid hr
          have BZ := Lib.hid bz
          clear hr bz h10
          go_wp2
          refine ⟨rfl, ?_⟩
          simp only [Pl.word, Pl.Rd.then, HW0.out, HR0.out, HW1.out, HR1.out]
          exact ⟨rfl, K9.out.1.trans BZ.out⟩
    · have HR0 := Lib.hid hr
      have BZ := Lib.hid bz
      clear hr bz h8
      go_wp2
      refine ⟨rfl, ?_⟩
      simp only [Pl.word, Pl.Rd.then, HW0.out, HR0.out]
      exact ⟨rfl, K7.out.1.trans BZ.out⟩
end Go.Proofs.YtchoelgkcnnnkaaGreatDoor
namespace Go.Proofs.YtchoelgkcnnnkaaGreatDoor
open Go.RowKit
namespace Pl
theorem single_fin : ∀ i : Fin 256, i.val ≠ 45 → i.val ≠ 33 → i.val ≠ 35 → -1 = Lib.indexByte [45, 33, 35] (UInt8.ofNat i.val) := by decide +kernel
theorem single_no (c : UInt8) (h1 : c.toNat ≠ 45) (h2 : c.toNat ≠ 33) (h3 : c.toNat ≠ 35) : -1 = Lib.indexByte [45, 33, 35] c := by
  have h := single_fin ⟨c.toNat, c.toNat_lt⟩ h1 h2 h3
  rwa [UInt8.ofNat_toNat] at h
end Pl
theorem fm_all (R B : Nat) (s : ByteArray) (hR : R < B) (h8 : 8 ≤ R) : ∀ n, FmAt R B s n
  | 0 => fun p v ts w _ _ _ _ hp hn _ => by omega
  | n + 1 => fun p v ts w H hO hB hG hp hn hl => by
    have ih := fm_all R B s hR h8 n
    unfold Pl.rd
    by_cases h1 : s.size ≤ p
    · rw [if_pos h1]
      exact fm_eof R B s p v ts w H hO hB hR hl h1 hp (Lib.hid (by unfold Pl.peekB; rw [dif_neg (by omega)]; rfl))
    rw [if_neg h1]
    have hps : p < s.size := by omega
    by_cases h2 : Pl.digAt 48 s p = true
    · rw [if_pos h2]
      exact fm_digit R B s p v ts w H hO hB hR hl hps _ (Lib.hid rfl) (Lib.hid h2) hG h8 _ (Lib.hid rfl)
    rw [if_neg h2]
    by_cases h3 : (Pl.peekB s p).toNat = 121
    · rw [if_pos h3]
      unfold Pl.word
      cases hw : Pl.wantFail s [121, 101, 115] p with
      | none => exact fm_yes R B s p v ts w H hO hB hR hl hps (Lib.hid (by omega)) (Lib.hid hw)
      | some q => exact fm_yes_bad R B s p v ts w H hO hB hR hl hps (Lib.hid (by omega)) q (Lib.hid hw)
    rw [if_neg h3]
    by_cases h4 : (Pl.peekB s p).toNat = 110 ∧ (Pl.peekB s (p + 1)).toNat = 111
    · rw [if_pos h4]
      exact fm_no R B s p v ts w H hO hB hR hl hps (Lib.hid (by omega)) (Lib.hid h4.2)
    rw [if_neg h4]
    by_cases h5 : (Pl.peekB s p).toNat = 110 ∨ (Pl.peekB s p).toNat = 116 ∨ (Pl.peekB s p).toNat = 115
    · rw [if_pos h5]
      rcases h5 with h5 | h5 | h5
      · exact fm_name110 R B s p v ts w H hO hB hR hl hps (Lib.hid (by omega)) (Lib.hid (decide_eq_false fun h => h4 ⟨h5, h⟩)) _ (Lib.hid rfl)
      · exact fm_name116 R B s p v ts w H hO hB hR hl hps (Lib.hid (by omega)) _ (Lib.hid rfl)
      · exact fm_name115 R B s p v ts w H hO hB hR hl hps (Lib.hid (by omega)) _ (Lib.hid rfl)
    rw [if_neg h5]
    by_cases h6 : (Pl.peekB s p).toNat = 39
    · rw [if_pos h6]
      unfold Pl.word
      cases hw : Pl.wantFail s [39] (Pl.textEnd s s.size (p + 1)) with
      | none => exact fm_text R B s p v ts w H hO hB hR hl hps (Lib.hid (by omega)) _ (Lib.hid rfl) (Lib.hid hw)
      | some q => exact fm_text_bad R B s p v ts w H hO hB hR hl hps (Lib.hid (by omega)) _ q (Lib.hid rfl) (Lib.hid hw)
    rw [if_neg h6]
    by_cases h7 : (Pl.peekB s p).toNat = 45
    · rw [if_pos h7]
      exact fm_un5 R B s p v ts w H hO hB hR hl hps (Lib.hid (by omega)) n hG h8 (by omega) ih
    rw [if_neg h7]
    by_cases h8' : (Pl.peekB s p).toNat = 33
    · rw [if_pos h8']
      exact fm_un6 R B s p v ts w H hO hB hR hl hps (Lib.hid (by omega)) n hG h8 (by omega) ih
    rw [if_neg h8']
    by_cases h9 : (Pl.peekB s p).toNat = 35
    · rw [if_pos h9]
      exact fm_un7 R B s p v ts w H hO hB hR hl hps (Lib.hid (by omega)) n hG h8 (by omega) ih
    rw [if_neg h9]
    by_cases h10 : (Pl.peekB s p).toNat = 40
    · rw [if_pos h10]
      exact fm_bi R B s p v ts w H hO hB hR hl hps (Lib.hid (by omega)) n hG h8 (by omega) ih
    rw [if_neg h10]
    by_cases h11 : (Pl.peekB s p).toNat = 63
    · rw [if_pos h11]
      exact fm_tr R B s p v ts w H hO hB hR hl hps (Lib.hid (by omega)) n hG h8 (by omega) ih
    rw [if_neg h11]
    refine fm_else R B s p v ts w H hO hB hR hl hps _ (Lib.hid rfl) (Lib.hid (by simpa using h2)) ?_ ?_ ?_ ?_ ?_ ?_ ?_ (Lib.hid (by rw [Pl.byte_back]; exact Pl.single_no _ h7 h8' h9))
    all_goals (rw [beq_eq_false_iff_ne]; omega)
end Go.Proofs.YtchoelgkcnnnkaaGreatDoor
