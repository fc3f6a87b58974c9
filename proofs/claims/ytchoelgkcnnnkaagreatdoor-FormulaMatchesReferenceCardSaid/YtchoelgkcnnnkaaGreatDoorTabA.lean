/- WALK: FormulaThereAndBack. -/
import Derived.Test.YtchoelgkcnnnkaaGreatDoorGrE
import Derived.Test.YtchoelgkcnnnkaaGreatDoorParseD
import Derived.Test.YtchoelgkcnnnkaaGreatDoorSaneB
import Derived.RegionTactic
import Derived.Deep.CutRange
set_option linter.all false
namespace Go.Proofs.YtchoelgkcnnnkaaGreatDoor
open Go.RowKit
/-- A list of texts in a block. -/
def StrsBlk (w : World) (g : Nat) (ns : List ByteArray) : Prop := g < w.heap.size ∧ ∀ j x, ns[j]? = some x → w.cell? ⟨g, j, none⟩ = some (.string x)
theorem StrsBlk.below {B : Nat} {w w' : World} {g : Nat} {ns : List ByteArray} (h : StrsBlk w g ns) (hb : Below B w w') (hB : g < B) : StrsBlk w' g ns :=
  ⟨Nat.lt_of_lt_of_le h.1 hb.size, fun j x hj => (hb.cell (p := ⟨g, j, none⟩) hB).trans (h.2 j x hj)⟩
theorem StrsBlk.new {w : World} {ns : List ByteArray} {cs : Array Value} {T : TypeId} {g : Nat} (hc : cs = (ns.map Value.string).toArray) (hg : g = w.heap.size) : StrsBlk ((w.alloc (.cells cs T)).drew) g ns := by
  subst hg hc
  refine ⟨by show _ < (w.alloc _).heap.size; simp, fun j x hj => ?_⟩
  show (w.alloc _).cell? _ = _
  rw [Lib.cell_of_heap (MapKept.heap_alloc w _).1]
  simp [hj]
theorem mkS_text_of {s : ByteArray} {f : Fm} (h : Pl.text f = s.data.toList) : mkS (Pl.text f) = s := by rw [h]; exact (eq_mkS s).symm
set_option maxRecDepth 100000 in
set_option maxHeartbeats 8000000 in
theorem tab_any (t wh : Int) (vx : Value) (xs : List (Int × Int)) (s : ByteArray) (c : UInt8) (w : World) (ht : -9223372036854775808 ≤ t ∧ t ≤ 9223372036854775807) (hw : -9223372036854775808 ≤ wh ∧ wh ≤ 9223372036854775807)
    (hs : s.size ≤ 9223372036854775807) (hx : PairsIn w vx xs) (hxl : xs.length ≤ 9223372036854775807) (hG : Glob w) :
    Calls Tryz.prog 5 #[.int .i64 t, vx, .string s, .int .i64 wh, .int .u8 c.toNat] w fun e w' => e = .returned (.bool true) ∧ Below w.heap.size w w' := by
  obtain ⟨n, hn⟩ : ∃ n : Nat, 100000013 < n := ⟨_, Nat.lt_succ_self _⟩
  have HX := Lib.hid hx
  have HG := Lib.hid hG
  have HTB := Lib.hid ht
  have HWB := Lib.hid hw
  have HN := Lib.hid hn
  obtain ⟨a, ca, rfl, _⟩ := hx
  clear hG ht hw hn
  go_enter Tryz.func5, Tryz.ntmps5
  go_wp2_with fail
  refine (sane_any _ HG.out).mono ?_
  rintro e w1 ⟨rfl, hb1⟩
  have B1 := Lib.hid hb1
  clear hb1
  go_wp2_with fail
  refine (formula_any t _ xs _ HTB.out (HX.out.below B1.out) hxl).mono ?_
  rintro e w2 ⟨f, v, rfl, hg, hT, hb2⟩
  have B2 := Lib.hid (B1.out.trans (hb2.mono B1.out.size))
  have HGR := Lib.hid hg
  have hlen := hg.len
  have hdep := hg.depth
  have hl60 : f.flat.length ≤ 60 := by omega
  have hd12 : f.depth ≤ 12 := by omega
  have htl := Pl.text_len f hg.wf
  have htn : (Pl.text f).length ≠ 0 := by intro e; exact Pl.text_ne f hg.wf (List.length_eq_zero_iff.1 e)
  obtain ⟨T, hTx⟩ : ∃ T, T = mkS (Pl.text f) := ⟨_, rfl⟩
  have hTs : T.size = (Pl.text f).length := by rw [hTx]; rfl
  have hT1 : 1 ≤ T.size := by omega
  have hT2 : T.size ≤ 2700 := by omega
  have hT0 : ((T.size : Int) == 0) = false := by rw [beq_eq_false_iff_ne]; omega
  have HTX := Lib.hid hTx
  have HTF := Lib.hid hT
  clear hg hT hb2 htl htn hTs hTx hlen hdep
  go_wp2_with fail
  refine (print_ok v f _ HTF.out (HG.out.below B2.out (HG.out.size)) HGR.out.wf hl60 hd12).mono ?_
  rintro e w3 ⟨rfl, hb3⟩
  rw [← HTX.out]
  have HTF3 := Lib.hid (HTF.out.below hb3)
  have B3 := Lib.hid (B2.out.trans (hb3.mono B2.out.size))
  clear hb3 HTF
  have HP : Hid (Pl.par n T = (some f, T.size)) := Lib.hid (Pl.par_text HGR.out.wf hd12 hl60 (by have := HN.out; omega) (by rw [HTX.out]; rfl))
  go_wp2_with fail
  refine (parse_some T (by omega) n _ f (by have := HN.out; omega) _ (HG.out.below B3.out HG.out.size) HP).mono ?_
  rintro e w4 ⟨v4, rfl, hT4, hb4⟩
  have HTF4 := Lib.hid (HTF3.out.below hb4)
  have HT4 := Lib.hid hT4
  have B4 := Lib.hid (B3.out.trans (hb4.mono B3.out.size))
  clear hT4 hb4 HTF3
  go_wp2_with fail
  refine (same_true v v4 f.flat _ HTF4.out HT4.out (by omega)).mono ?_
  rintro e w5 ⟨rfl, hb5⟩
  have B5 := Lib.hid (B4.out.trans (hb5.mono B4.out.size))
  clear hb5 HTF4 HT4
  go_wp2_with fail
  obtain ⟨A, hA⟩ : ∃ A : Nat, (A : Int) = Pl.pickOf wh T.size := ⟨(Pl.pickOf wh T.size).toNat, by have := Pl.pickOf_range wh T.size (by omega); omega⟩
  have hAr := Pl.pickOf_range wh T.size (by omega)
  rw [← hA] at hAr
  have HA := Lib.hid hA
  clear hA
  refine (pick_any wh T.size _ HWB.out.1 HWB.out.2 (by omega) (by omega)).mono ?_
  rintro e w6 ⟨rfl, rfl⟩
  rw [← HA.out]
  obtain ⟨M, hM⟩ : ∃ M : Nat, M = min s.size 200 := ⟨_, rfl⟩
  have hm1 : min (s.size : Int) 200 = (M : Int) := by omega
  have hm2 : M ≤ s.size := by omega
  have HMM := Lib.hid hM
  clear hM
  have hA1 : A ≤ T.size := by omega
  have hA2 : A + 1 ≤ T.size := by omega
  have hwr : IntKind.i64.wrap ((A : Int) + 1) = (A : Int) + 1 := by rw [IntKind.wrap_i64]; omega
  have htn : ((A : Int) + 1).toNat = A + 1 := by omega
  have k1 : (convert 40 9 (.slice (some ⟨w5.heap.size, 0, none⟩) 1 1)).run Tryz.prog (w5.alloc (.cells #[.int .u8 c.toNat] 5)).drew = .ok (.string ⟨#[c]⟩) (w5.alloc (.cells #[.int .u8 c.toNat] 5)).drew := one_byte w5.drew c.toNat c rfl
  go_upto_region 9 with fail
  go_cut [85, 86, 87] from 68 to 87 (fun s85 s86 s87 wx => ∃ g, s85 = .slice (some ⟨g, 0, none⟩) 2 2 ∧ s86 = .int .i64 2 ∧ s87 = .int .i64 0 ∧ StrsBlk wx g [s.extract 0 M, Pl.bent T A c] ∧ Below w.heap.size w wx)
  case first =>
    go_region
    all_goals
      go_wp2_with fail
      go_meet
      case rel => exact ⟨_, rfl, rfl, rfl, StrsBlk.new rfl (by simp), below_drewN' (bel_alloc (bel_alloc B5.out _) _) 1⟩
  case rest =>
  obtain ⟨g, rfl, rfl, rfl, hS, hB⟩ := hcut
  have HSB := Lib.hid hS
  have HB := Lib.hid hB
  obtain ⟨W, hW⟩ : ∃ W, W = wc := ⟨_, rfl⟩
  rw [← hW] at HSB HB ⊢
  clear hS hB hW k1 hm1 hm2 hwr htn
  have hZ : Hid (∀ (j : Nat) (z : ByteArray), ([s.extract 0 M, Pl.bent T A c] : List ByteArray)[j]? = some z → z.size ≤ 3000) := by
    refine Lib.hid ?_
    intro j z hz
    match j, hz with
    | 0, hz => simp at hz; subst hz; rw [ByteArray.size_extract]; have := HMM.out; omega
    | 1, hz => simp at hz; subst hz; rw [Pl.bent_size T A c (by omega)]; omega
    | j + 2, hz => simp at hz
  obtain ⟨zs, hzs⟩ : ∃ zs : List ByteArray, zs = [s.extract 0 M, Pl.bent T A c] := ⟨_, rfl⟩
  have hzl : zs.length = 2 := by rw [hzs]; rfl
  rw [← hzs] at HSB hZ
  have HZL := Lib.hid hzl
  clear hzs hzl
  go_wp2_with fail
  go_loopw [87] (fun si wr => ∃ i : Nat, i ≤ 2 ∧ si = .int .i64 i ∧ Below W.heap.size W wr) (fun si _ => 2 - (intOf si).toNat)
  case atStart => exact ⟨0, by decide, rfl, Below.refl _ _⟩
  case round =>
    obtain ⟨i, hi, rfl, hbr⟩ := hrel
    have HBR := Lib.hid hbr
    clear hbr
    by_cases hlt : i < 2
    · obtain ⟨z, hz⟩ : ∃ z, zs[i]? = some z := ⟨zs[i]'(by rw [HZL.out]; exact hlt), by simp⟩
      have hzs := hZ.out i z hz
      have hcl := (HSB.out.below HBR.out HSB.out.1).2 i z hz
      obtain ⟨o, q, hp⟩ : ∃ o q, Pl.par n z = (o, q) := ⟨_, _, rfl⟩
      have hpl := Pl.par_le n z
      rw [hp] at hpl
      dsimp only at hpl
      have HGR := Lib.hid (HG.out.below (HB.out.trans (HBR.out.mono HB.out.size)) HG.out.size)
      clear hz
      cases o with
      | none =>
        have HP := Lib.hid hp
        clear hp
        go_wp2_with fail
        refine (parse_none z (by omega) n q (by have := HN.out; omega) _ HGR.out HP).mono ?_
        rintro e w7 ⟨rfl, hb7⟩
        have HB7 := Lib.hid (HBR.out.trans (hb7.mono HBR.out.size))
        clear hb7
        go_wp2_with fail
        go_roundw
        case rel => exact ⟨i + 1, by omega, by go_num, HB7.out⟩
        case measure => simp [intOf]; omega
      | some h =>
        obtain ⟨p1, p2, p3, p4, p5⟩ := Pl.par_some (by rw [hp])
        rw [hp] at p5
        dsimp only at p5
        subst p5
        have HP := Lib.hid hp
        have HW := Lib.hid p1
        have HX4 := Lib.hid p4
        clear hp p4 p1
        go_wp2_with fail
        refine (parse_some z (by omega) n _ h (by have := HN.out; omega) _ HGR.out HP).mono ?_
        rintro e w7 ⟨v7, rfl, hT7, hb7⟩
        have HB7 := Lib.hid (HBR.out.trans (hb7.mono HBR.out.size))
        have HT7 := Lib.hid hT7
        clear hb7 hT7
        go_wp2_with fail
        refine (print_ok v7 h _ HT7.out (HG.out.below (HB.out.trans (HB7.out.mono HB.out.size)) HG.out.size) HW.out p3 p2).mono ?_
        rintro e w8 ⟨rfl, hb8⟩
        rw [mkS_text_of HX4.out]
        have HT8 := Lib.hid (HT7.out.below hb8)
        have HB8 := Lib.hid (HB7.out.trans (hb8.mono HB7.out.size))
        clear hb8 HT7
        go_wp2_with fail
        refine (valid_any v7 h.flat true _ HT8.out (by omega) (Lib.hid (Pl.valid_of HW.out p2 p3).symm)).mono ?_
        rintro e w9 ⟨rfl, hb9⟩
        have HB9 := Lib.hid (HB8.out.trans (hb9.mono HB8.out.size))
        clear hb9 HT8
        go_wp2_with fail
        go_roundw
        case rel => exact ⟨i + 1, by omega, by go_num, HB9.out⟩
        case measure => simp [intOf]; omega
    · obtain rfl : i = 2 := by omega
      go_wp2_with fail
      go_ret
      exact ⟨rfl, HB.out.trans (HBR.out.mono HB.out.size)⟩
end Go.Proofs.YtchoelgkcnnnkaaGreatDoor
