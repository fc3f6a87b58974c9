/- WALKS: the reader's number. -/
import Derived.Test.YtchoelgkcnnnkaaGreatDoorRdE
import Derived.Test.YtchoelgkcnnnkaaGreatDoorPlH
import Derived.Test.YtchoelgkcnnnkaaGreatDoorGlob
import Derived.Lib.SmallJoins
import Derived.Deep.LoopGhost
import Derived.Deep.RegionHeld3
set_option linter.all false
namespace Go.Proofs.YtchoelgkcnnnkaaGreatDoor
open Go.RowKit
namespace Pl
theorem numEnd_fuel' (s : ByteArray) : ∀ (n m p : Nat), s.size ≤ p + n → s.size ≤ p + m → numEnd s n p = numEnd s m p
  | 0, 0, _, _, _ => rfl
  | 0, m + 1, p, h, _ => by
    unfold numEnd
    rw [if_neg fun hd => by have := dig_lt hd (by omega); omega]
  | n + 1, 0, p, _, h => by
    unfold numEnd
    rw [if_neg fun hd => by have := dig_lt hd (by omega); omega]
  | n + 1, m + 1, p, h, h' => by
    unfold numEnd
    split
    · exact numEnd_fuel' s n m (p + 1) (by omega) (by omega)
    · rfl
theorem numEnd_step {s : ByteArray} {j : Nat} (h : digAt 48 s j = true) : numEnd s s.size j = numEnd s s.size (j + 1) := by
  have hj := dig_lt h (by omega)
  obtain ⟨m, hm⟩ : ∃ m, s.size = m + 1 := ⟨s.size - 1, by omega⟩
  have e : numEnd s s.size j = numEnd s m (j + 1) := by
    rw [hm]
    conv => lhs; unfold numEnd
    rw [if_pos h]
  rw [e]
  exact numEnd_fuel' s _ _ _ (by omega) (by omega)
theorem numEnd_stop {s : ByteArray} {j : Nat} (h : digAt 48 s j = false) (n : Nat) : numEnd s n j = j := by
  cases n with
  | zero => rfl
  | succ n => unfold numEnd; rw [if_neg (by rw [h]; decide)]
theorem digAt_digs {s : ByteArray} {j : Nat} (h : digAt 48 s j = true) : 48 ≤ (peekB s j).toNat ∧ (peekB s j).toNat ≤ 57 := by
  unfold digAt at h
  simp only [Bool.and_eq_true, decide_eq_true_eq] at h
  omega
theorem numEnd_digAt (s : ByteArray) : ∀ (n p i : Nat), p ≤ i → i < numEnd s n p → digAt 48 s i = true
  | 0, p, i, h, h' => by simp only [numEnd] at h'; omega
  | n + 1, p, i, h, h' => by
    unfold numEnd at h'
    split at h'
    · rename_i hd
      by_cases e : i = p
      · rw [e]; exact hd
      · exact numEnd_digAt s n (p + 1) i (by omega) h'
    · omega
theorem peek_extract {s : ByteArray} {i j m : Nat} (hm : m < (s.extract i j).data.toList.length) : i + m < s.size ∧ (s.extract i j).data.toList[m] = peekB s (i + m) := by
  simp only [ByteArray.data_extract, Array.length_toList, Array.size_extract] at hm
  have hs : i + m < s.size := by change m < min j s.size - i at hm; omega
  refine ⟨hs, ?_⟩
  unfold peekB
  rw [dif_pos hs]
  simp only [ByteArray.data_extract, Array.getElem_toList, Array.getElem_extract]
  rfl
theorem extract_len {s : ByteArray} {i j : Nat} (hj : j ≤ s.size) : (s.extract i j).data.toList.length = j - i := by
  simp only [ByteArray.data_extract, Array.length_toList, Array.size_extract]
  show min j s.size - i = j - i
  omega
/-- What a number's text consists of. -/
theorem number_digs {s : ByteArray} {p : Nat} (h : digAt 48 s p = true) : Digs (s.extract p (numEndOf s p)).data.toList ∧ (s.extract p (numEndOf s p)).data.toList ≠ [] := by
  have hp := dig_lt h (by omega)
  have hb := numEndOf_bounds s p hp
  refine ⟨fun c hc => ?_, fun e => ?_⟩
  · obtain ⟨m, hm, rfl⟩ := List.mem_iff_getElem.1 hc
    have hl := hm
    rw [extract_len hb.2] at hl
    rw [(peek_extract hm).2]
    by_cases h0 : m = 0
    · subst h0; exact digAt_digs h
    · refine digAt_digs ?_
      unfold numEndOf at hl
      split at hl
      · omega
      · exact numEnd_digAt s s.size (p + 1) (p + m) (by omega) (by omega)
  · have := extract_len (i := p) hb.2
    rw [e] at this
    simp at this
    omega
end Pl
/-- strconv.Atoi at digits: the number, or an error where it is too great; numVal tells it. -/
theorem atoi_num (x : ByteArray) (w : World) (hx : x.size ≤ 140737488355328) (hne : x.data.toList ≠ []) (hd : Pl.Digs x.data.toList) (hG : Glob w) :
    Calls Tryz.prog 128 #[.string x] w fun e w' => ∃ (n : Int) (er : Value), e = .returned (.tuple #[.int .i64 n, er]) ∧ ((er = .nilIface ∧ n = Pl.numVal x.data.toList) ∨ ((∃ N : Nat, er = .iface 177 (.pointer (some ⟨N, 0, none⟩))) ∧ 1000000000001 = Pl.numVal x.data.toList)) ∧ Below w.heap.size w w' := by
  have ha := Pl.atoi_digits _ hne hd
  by_cases hb : Pl.valFrom 0 x.data.toList < 9223372036854775808
  · rw [if_pos hb] at ha
    refine (Tryz.strconv_Atoi_ok x (by omega) _ ha w).mono ?_
    rintro e w' ⟨rfl, hw⟩
    refine ⟨_, _, rfl, .inl ⟨rfl, ?_⟩, ?_⟩
    · unfold Pl.numVal; rw [ha]
    · rcases hw with rfl | ⟨t, rfl⟩
      · exact Below.refl _ _
      · exact Joins.below_bytesWorld _ _ _ _ (Nat.le_refl _)
  · rw [if_neg hb] at ha
    obtain ⟨tp, pv, hvar⟩ := hG.range
    refine (Tryz.strconv_Atoi_range_var x (by omega) ha tp pv w hvar).mono ?_
    rintro e w' ⟨N, rfl, _, _, hbl⟩
    refine ⟨_, _, rfl, .inr ⟨⟨N, rfl⟩, ?_⟩, hbl⟩
    unfold Pl.numVal; rw [ha]

theorem own_grown {W W' : World} {B R : Nat} {v : Value} {ts : List Tm} (h : OwnTms W B v ts) (hR : R < B) (hg : W.grownBy W' (some R)) : OwnTms W' B v ts :=
  World.ownsRow.kept h hg (by
    cases hv : v.ownBlock with
    | none => simp
    | some g => have := (World.ownsRow.lt h g hv).1; right; simp; omega)
set_option maxRecDepth 100000 in
set_option maxHeartbeats 2000000 in
theorem number_walk (R B : Nat) (s : ByteArray) (p E : Nat) (v : Value) (ts : List Tm) (w : World) (H : RdAt w R s p v) (hO : OwnTms w B v ts) (hB : B ≤ w.heap.size) (hR : R < B) (hl : ts.length ≤ 1000000000) (hd : Hid (Pl.digAt 48 s p = true)) (hG : Glob w) (h8 : 8 ≤ R) (HE : Hid (E = Pl.numEndOf s p)) :
    Calls Tryz.prog 82 #[.pointer (some ⟨R, 0, none⟩)] w fun e w' => e = .returned (.tuple #[]) ∧ (∃ v', RdAt w' R s E v' ∧ OwnTms w' B v' (ts ++ [⟨1, Pl.numVal (s.extract p E).data.toList, ⟨#[]⟩⟩])) ∧ KeptR R w w' := by
  have hp := Pl.dig_lt hd.out (by omega)
  obtain ⟨c0, c1, c2, f1, f2⟩ := H.cells
  have hs := H.size
  have HO := Lib.hid hO
  have HM := Lib.hid (rd_move' H (p + 1) ((p : Int) + 1) (by simp))
  have HG := Lib.hid hG
  have HRl := Lib.hid (Array.getElem?_eq_some_iff.1 H.h).1
  have HP : Hid (Pl.peekB s p = s[p]'hp) := Lib.hid (by unfold Pl.peekB; rw [dif_pos hp])
  clear H hO hG
  go_enter Tryz.func82, Tryz.ntmps82
  go_wp2_with fail
  go_loopg [16, 27] (s.size + 1) (fun gk _ _ wr => ∃ j : Nat, p + 1 ≤ j ∧ j ≤ s.size ∧ s.size < j + gk ∧ (Pl.peekB s p = 48 → j = p + 1) ∧ (Pl.peekB s p ≠ 48 → Pl.numEnd s s.size (p + 1) = Pl.numEnd s s.size j) ∧ RdAt wr R s j v ∧ w.grownBy wr (some R))
  case atStart => exact ⟨p + 1, Nat.le_refl _, hp, by omega, fun _ => rfl, fun _ => rfl, HM.out, grownBy_set2 _ R 1 _⟩
  case round =>
    obtain ⟨j, hj1, hj2, hj3, h48, hE, hr, hg⟩ := hrel
    obtain ⟨c0, c1, c2, f1, f2⟩ := hr.cells
    by_cases c48 : Pl.peekB s p = 48
    · have t1 : (((s[p]'hp).toNat : Int) != 48) = false := by rw [← HP.out, c48]; rfl
      obtain ⟨x, hx⟩ : ∃ x, x = j := ⟨_, rfl⟩
      rw [← hx] at c1
      have HRX : RdAt wr R s x v := by rw [hx]; exact hr
      have hjx := h48 c48
      have C48 := Lib.hid c48
      clear hr c48
      have HX := Lib.hid hx
      have x1 : (p : Int) ≤ x := by omega
      have x2 : (x : Int) ≤ s.size := by omega
      have x3 : p ≤ x := by omega
      have x4 : x ≤ s.size := by omega
      have H2 := Lib.hid HRX
      obtain ⟨d0, d1, d2, g1, g2⟩ := HRX.cells
      have HEX : Hid (x = E) := Lib.hid (by rw [HE.out]; unfold Pl.numEndOf; rw [if_pos C48.out]; exact HX.out.trans hjx)
      have HGR := Lib.hid hg
      clear HRX hg hE h48 hj1 hj3 hx
      go_wp2_with fail
      have hdg := Pl.number_digs hd.out
      rw [← HE.out, ← HEX.out] at hdg
      have HAT := Lib.hid (atoi_num (s.extract p x) wr.drew (by rw [ByteArray.size_extract]; omega) hdg.2 hdg.1 (HG.out.below ((below_of_grown HGR.out (by have := HRl.out; omega)).trans (below_drewN' (Below.refl _ _) 1)) h8))
      clear hdg
      go_region_held3 (fun w' => w'.cell? ⟨R, 0, none⟩ = some (.string s) ∧ w'.cell? ⟨R, 1, none⟩ = some (.int .i64 x)) (first | exact ⟨d0, d1⟩ | exact ⟨e0, e1⟩) (first | (go_at_call 128; refine HAT.out.mono ?_; rintro e w2 ⟨num, er, rfl, hcase, hb2⟩; have HB2 := Lib.hid hb2; have H3 : Hid (RdAt w2 R s x v) := Lib.hid ((show RdAt wr.drew R s x v from ⟨H2.out.h, hs⟩).below hb2); obtain ⟨e0, e1, _, _, _⟩ := H3.out.cells; have HO1 : Hid (OwnTms w2 B v ts) := Lib.hid (own_grown (own_grown HO.out hR HGR.out) hR (grown_trans' (grown_drewN' wr 1 _) (grown_of_below hb2 _))); have HC := Lib.hid hcase; clear hcase hb2))
      have HBS := Lib.hid (show B ≤ w2.heap.size by have := HGR.out.size; have := HB2.out.size; have e : wr.drew.heap.size = wr.heap.size := rfl; omega)
      have HBR := Lib.hid (kept_of_grown (grown_trans' (grown_trans' HGR.out (grown_drewN' wr 1 _)) (grown_of_below HB2.out _)) (by have := HRl.out; omega))
      have hcase := HC.out
      rcases hcase with ⟨rfl, hv⟩ | ⟨⟨N, rfl⟩, hv⟩
      · have HV := Lib.hid hv
        clear hv
        go_wp2_with fail
        refine (put_any R B s x v ts ⟨1, num, ⟨#[]⟩⟩ _ H3.out HO1.out HBS.out hR hl).mono ?_
        rintro e w3 ⟨rfl, hq, hb3⟩
        have HQ := Lib.hid hq
        have HB3 := Lib.hid hb3
        clear hq hb3
        go_wp2
        go_end0
        refine ⟨rfl, ?_, HBR.out.trans HB3.out⟩
        have := HQ.out
        rw [HV.out, HEX.out] at this
        exact this
      · have HV := Lib.hid hv
        clear hv
        go_wp2_with fail
        refine (put_any R B s x v ts ⟨1, 1000000000001, ⟨#[]⟩⟩ _ H3.out HO1.out HBS.out hR hl).mono ?_
        rintro e w3 ⟨rfl, hq, hb3⟩
        have HQ := Lib.hid hq
        have HB3 := Lib.hid hb3
        clear hq hb3
        go_wp2
        go_end0
        refine ⟨rfl, ?_, HBR.out.trans HB3.out⟩
        have := HQ.out
        rw [HV.out, HEX.out] at this
        exact this
    · have t1 : (((s[p]'hp).toNat : Int) != 48) = true := by
        rw [← HP.out]
        simp only [bne_iff_ne, ne_eq]
        intro h
        exact c48 (UInt8.toNat_inj.1 (Int.ofNat_inj.1 h))
      obtain ⟨b, hb⟩ : ∃ b, b = Pl.digAt 48 s j := ⟨_, rfl⟩
      have HJ := Lib.hid hb
      have HR := Lib.hid hr
      have C48 := Lib.hid c48
      have HE3 := Lib.hid (hE c48)
      clear hr c48 h48 hE
      cases b with
      | true =>
        have hjl := Pl.dig_lt hb.symm (by omega)
        clear hb
        go_wp2_with fail
        refine (isDigit_any R s j v 48 true _ HR.out HJ).mono ?_
        rintro e w1 ⟨rfl, hb1⟩
        have H1 := Lib.hid (HR.out.below hb1)
        have HB1 := Lib.hid hb1
        clear hb1
        obtain ⟨d0, d1, d2, g1, g2⟩ := H1.out.cells
        have HG1 := Lib.hid hg
        have hgk : 0 < gk := by omega
        clear hg
        go_wp2
        go_roundg (gk - 1)
        case measure => exact Nat.sub_lt hgk Nat.one_pos
        case rel => exact ⟨j + 1, by omega, by omega, by omega, fun h => absurd h C48.out, fun _ => by rw [HE3.out]; exact Pl.numEnd_step HJ.out.symm, rd_move' H1.out _ _ (by omega), grown_trans' (grown_trans' HG1.out (grown_of_below HB1.out _)) (grownBy_set2 _ R 1 _)⟩
      | false =>
        clear hb
        go_wp2_with fail
        refine (isDigit_any R s j v 48 false _ HR.out HJ).mono ?_
        rintro e w1 ⟨rfl, hb1⟩
        obtain ⟨x, hx⟩ : ∃ x, x = j := ⟨_, rfl⟩
        have HRX : RdAt w1 R s x v := by rw [hx]; exact HR.out.below hb1
        have hg1 := grown_trans' hg (grown_of_below hb1 (some R))
        clear hb1 hg
        have hg := hg1
        clear hg1
        have hE := trivial
        have h48 := trivial
        have hjx := trivial
        have HX := Lib.hid hx
        have x1 : (p : Int) ≤ x := by omega
        have x2 : (x : Int) ≤ s.size := by omega
        have x3 : p ≤ x := by omega
        have x4 : x ≤ s.size := by omega
        have H2 := Lib.hid HRX
        obtain ⟨d0, d1, d2, g1, g2⟩ := HRX.cells
        have HEX : Hid (x = E) := Lib.hid (by rw [HE.out]; unfold Pl.numEndOf; rw [if_neg C48.out, HE3.out, Pl.numEnd_stop HJ.out.symm]; exact HX.out)
        have HGR := Lib.hid hg
        clear HRX hg hE h48 hj1 hj3 hx
        go_wp2_with fail
        have hdg := Pl.number_digs hd.out
        rw [← HE.out, ← HEX.out] at hdg
        have HAT := Lib.hid (atoi_num (s.extract p x) w1.drew (by rw [ByteArray.size_extract]; omega) hdg.2 hdg.1 (HG.out.below ((below_of_grown HGR.out (by have := HRl.out; omega)).trans (below_drewN' (Below.refl _ _) 1)) h8))
        clear hdg
        go_region_held3 (fun w' => w'.cell? ⟨R, 0, none⟩ = some (.string s) ∧ w'.cell? ⟨R, 1, none⟩ = some (.int .i64 x)) (first | exact ⟨d0, d1⟩ | exact ⟨e0, e1⟩) (first | (go_at_call 128; refine HAT.out.mono ?_; rintro e w2 ⟨num, er, rfl, hcase, hb2⟩; have HB2 := Lib.hid hb2; have H3 : Hid (RdAt w2 R s x v) := Lib.hid ((show RdAt w1.drew R s x v from ⟨H2.out.h, hs⟩).below hb2); obtain ⟨e0, e1, _, _, _⟩ := H3.out.cells; have HO1 : Hid (OwnTms w2 B v ts) := Lib.hid (own_grown (own_grown HO.out hR HGR.out) hR (grown_trans' (grown_drewN' w1 1 _) (grown_of_below hb2 _))); have HC := Lib.hid hcase; clear hcase hb2))
        have HBS := Lib.hid (show B ≤ w2.heap.size by have := HGR.out.size; have := HB2.out.size; have e : w1.drew.heap.size = w1.heap.size := rfl; omega)
        have HBR := Lib.hid (kept_of_grown (grown_trans' (grown_trans' HGR.out (grown_drewN' w1 1 _)) (grown_of_below HB2.out _)) (by have := HRl.out; omega))
        have hcase := HC.out
        rcases hcase with ⟨rfl, hv⟩ | ⟨⟨N, rfl⟩, hv⟩
        · have HV := Lib.hid hv
          clear hv
          go_wp2_with fail
          refine (put_any R B s x v ts ⟨1, num, ⟨#[]⟩⟩ _ H3.out HO1.out HBS.out hR hl).mono ?_
          rintro e w3 ⟨rfl, hq, hb3⟩
          have HQ := Lib.hid hq
          have HB3 := Lib.hid hb3
          clear hq hb3
          go_wp2
          go_end0
          refine ⟨rfl, ?_, HBR.out.trans HB3.out⟩
          have := HQ.out
          rw [HV.out, HEX.out] at this
          exact this
        · have HV := Lib.hid hv
          clear hv
          go_wp2_with fail
          refine (put_any R B s x v ts ⟨1, 1000000000001, ⟨#[]⟩⟩ _ H3.out HO1.out HBS.out hR hl).mono ?_
          rintro e w3 ⟨rfl, hq, hb3⟩
          have HQ := Lib.hid hq
          have HB3 := Lib.hid hb3
          clear hq hb3
          go_wp2
          go_end0
          refine ⟨rfl, ?_, HBR.out.trans HB3.out⟩
          have := HQ.out
          rw [HV.out, HEX.out] at this
          exact this
end Go.Proofs.YtchoelgkcnnnkaaGreatDoor
