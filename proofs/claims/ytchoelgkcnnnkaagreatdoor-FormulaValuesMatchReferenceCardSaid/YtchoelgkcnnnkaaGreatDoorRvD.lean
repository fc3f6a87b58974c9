/- WALK of the reference: Value, at values that fit. · WALK of the reference: Value, where it refuses. -/
import Derived.Test.YtchoelgkcnnnkaaGreatDoorRvB
import Derived.Test.YtchoelgkcnnnkaaGreatDoorRefT
import Derived.Deep.RegionHeld3
set_option linter.all false
namespace Go.Proofs.YtchoelgkcnnnkaaGreatDoor
open Go.RowKit
theorem validValueR_is (v : Tm) (r : Bool) (w : World) (HR : Hid (r = Pl.validV v)) : Calls Tryz.prog 31 #[v.agg] w fun e w' => e = .returned (.bool r) ∧ Below w.heap.size w w' := by
  rw [HR.out]; exact validValueR_any v w
theorem typeOfR_is (s : ByteArray) (r : Int) (w : World) (hs : s.size ≤ 9223372036854775807) (h : Hid (r = Pl.typeOf s.data.toList)) : Calls Tryz.prog 26 #[.string s] w fun e w' => e = .returned (.int .i64 r) ∧ w' = w := by
  rw [h.out]
  exact (typeOfR_any s w hs).mono fun e w' ⟨h1, h2⟩ => ⟨h1, h2.symm⟩
/-- The result's box. -/
structure ResAt (w wr : World) : Prop where
  box : wr.heap[w.heap.size]? = some (.cells #[.int .i64 0, .int .i64 0, .string ⟨#[]⟩] 48 (0, 0))
  bel : Below w.heap.size w wr
theorem ResAt.keep {w w1 w2 : World} (h : ResAt w w1) (hb : Below w1.heap.size w1 w2) : ResAt w w2 := ⟨kept_box h.box hb, h.bel.trans (hb.mono h.bel.size)⟩
theorem env_ok {ns : List ByteArray} {vs : List Tm} {f : Fm} (hns : ns = Pl.namesOf f.flat) (hl : vs.length = ns.length) (hok : ∀ (i : Nat) n x, ns[i]? = some n → vs[i]? = some x → Pl.validV x = true ∧ x.k = Pl.typeOf n.data.toList) : Pl.EnvOk (Pl.envOf ns vs) f ∧ Pl.EnvTy (Pl.envOf ns vs) f := by
  refine ⟨fun t ht h4 => ?_, fun t ht h4 => ?_⟩
  all_goals obtain ⟨i, h1, h2⟩ := envOf_get ns vs t.s hl.symm (by rw [hns]; exact Pl.namesOf_mem ht h4)
  · exact (hok i _ _ h1 h2).1
  · exact (hok i _ _ h1 h2).2
theorem names_small {f : Fm} {w : World} {d off : Nat} (hrow : RowIn w d off f.flat) {n : ByteArray} {k : Nat} (hn : (Pl.namesOf f.flat)[k]? = some n) : n.size ≤ 9223372036854775807 := by
  obtain ⟨t, ht, rfl⟩ := Pl.namesOf_from (List.mem_of_getElem? hn)
  obtain ⟨j, hj, rfl⟩ := List.mem_iff_getElem.1 ht
  exact (hrow j f.flat[j] (by simp)).2.2.2
set_option maxRecDepth 100000 in
set_option maxHeartbeats 8000000 in
theorem valueR_ok (u : Value) (f : Fm) (vs : List Tm) (d off c : Nat) (w : World) (hcap : f.flat.length ≤ c) (hrow : RowIn w d off f.flat) (hU : TermsIn w u vs) (hwf : f.wf) (hl : f.flat.length ≤ 60) (hd : f.depth ≤ 12) (hty : Pl.ty f ≠ 0)
    (hlen : vs.length = (Pl.namesOf f.flat).length) (hok : ∀ (i : Nat) n x, (Pl.namesOf f.flat)[i]? = some n → vs[i]? = some x → Pl.validV x = true ∧ x.k = Pl.typeOf n.data.toList) :
    Calls Tryz.prog 29 #[.slice (some ⟨d, off, none⟩) f.flat.length c, u] w (ValPost (Pl.val (Pl.envOf (Pl.namesOf f.flat) vs) f) w) := by
  have hT := hU
  obtain ⟨ua, uc, rfl, huc, _, hur⟩ := hU
  have HV : Hid (true = Pl.validB f.flat) := Lib.hid ((Pl.validB_iff f.flat).2 ⟨hl, f, hwf, hd, rfl⟩).symm
  have hd0 := hrow.lt f.flat_ne
  have HR := Lib.hid hrow
  have HU := Lib.hid hT
  have HW := Lib.hid hwf
  have HLN := Lib.hid hlen
  have HOK := Lib.hid hok
  obtain ⟨tf, htf⟩ : ∃ tf, tf = Pl.ty f := ⟨_, rfl⟩
  rw [← htf] at hty
  have hty1 : (tf == 0) = false := by simpa using hty
  have HTF := Lib.hid htf
  have hnl := Pl.namesOf_len f.flat
  have hv60 : vs.length ≤ 60 := by omega
  have hfn := f.flat_ne
  have HFN := Lib.hid hfn
  obtain ⟨ns, hns⟩ : ∃ ns, ns = Pl.namesOf f.flat := ⟨_, rfl⟩
  have HNS := Lib.hid hns
  obtain ⟨vo, hvo⟩ : ∃ vo, vo = Pl.val (Pl.envOf ns vs) f := ⟨_, rfl⟩
  have HVO : Hid (vo = if (Pl.valR (Pl.envOf ns vs) f).2 = true then some (Pl.valR (Pl.envOf ns vs) f).1 else none) := Lib.hid (by
    rw [hvo]
    obtain ⟨h1, h2⟩ := env_ok hns (by rw [hns]; exact hlen) (by rw [hns]; exact hok)
    exact Pl.val_valR f hwf h1 h2 (by rw [← htf]; exact hty))
  rw [← hns] at HLN HOK hnl ⊢
  rw [← hvo]
  have R0 : Hid (ResAt w (w.alloc (.cells #[.int .i64 0, .int .i64 0, .string ⟨#[]⟩] 48))) := Lib.hid ⟨(MapKept.heap_alloc w _).1, below1 w _⟩
  clear hrow hT hur hwf hlen hok htf hty hfn hns hvo
  go_enter Tryz.func29, Tryz.ntmps29
  go_wp2_with fail
  refine (typeR_ok f d off c _ hcap (HR.out.below R0.out.bel hd0) HW.out hl hd).mono ?_
  rintro e w1 ⟨rfl, hb⟩
  rw [← HTF.out]
  have R1 := Lib.hid (R0.out.keep hb)
  clear hb
  go_wp2_with fail
  refine (namesR_ok f.flat d off c _ hcap (HR.out.below R1.out.bel hd0) hl HFN.out HV).mono ?_
  rintro e w2 ⟨vn, rfl, hst, hb⟩
  rw [← HNS.out] at hst
  have R2 := Lib.hid (R1.out.keep hb)
  have HST := Lib.hid (strs_of_at hst)
  obtain ⟨na, nc, rfl, hnc, hng⟩ := names_shape hst
  have HNG := Lib.hid hng
  have hln2 : ((vs.length : Int) != (ns.length : Int)) = false := by have := HLN.out; simp; omega
  have HRW := Lib.hid (HR.out.below R2.out.bel hd0)
  have hd2 : d < w2.heap.size := Nat.lt_of_lt_of_le hd0 R2.out.bel.size
  have HUW := Lib.hid (HU.out.below R2.out.bel)
  clear hst hb hng
  go_wp2_with fail
  go_loopw [12] (fun i wr => ∃ k : Nat, k ≤ ns.length ∧ i = .int .i64 k ∧ Below w2.heap.size w2 wr) (fun i _ => ns.length - (intOf i).toNat)
  case atStart => exact ⟨0, Nat.zero_le _, rfl, Below.refl _ _⟩
  case round =>
    obtain ⟨k, hk, rfl, hbr⟩ := hrel
    have HBR := Lib.hid hbr
    clear hbr
    have hlv := HLN.out
    by_cases hkl : k < ns.length
    · obtain ⟨n, hn⟩ : ∃ n, ns[k]? = some n := ⟨ns[k], by simp⟩
      have hkv : k < vs.length := by omega
      obtain ⟨x, hx⟩ : ∃ x, vs[k]? = some x := ⟨vs[k], by simp⟩
      obtain ⟨g, rfl, hgl, hgc⟩ := HNG.out (by intro h; rw [h] at hkl; simp at hkl)
      obtain ⟨a', c', e', _, _, hur⟩ := HUW.out
      simp only [Value.slice.injEq] at e'
      obtain ⟨rfl, _, rfl⟩ := e'
      obtain ⟨ub, uoff, rfl, hurow⟩ := hur (by intro h; rw [h] at hkv; simp at hkv)
      have hgcell := (HBR.out.cell (p := ⟨g, k, none⟩) hgl).trans (hgc k n hn)
      have hub0 := hurow.lt (by intro h; rw [h] at hkv; simp at hkv)
      obtain ⟨x0, x1, x2, _⟩ := (hurow.below HBR.out hub0) k x hx
      obtain ⟨hvx, hxk⟩ := HOK.out k n x hn hx
      have hns9 : n.size ≤ 9223372036854775807 := names_small HR.out (by rw [← HNS.out]; exact hn)
      obtain ⟨xk, xn, xs⟩ := x
      dsimp only at hxk x0 x1 x2
      have HVX : Hid (true = Pl.validV ⟨xk, xn, xs⟩) := Lib.hid hvx.symm
      have HTY : Hid (xk = Pl.typeOf n.data.toList) := Lib.hid hxk
      clear hgc hurow hvx hxk hn hx hur hlv
      have hubl := lt_of_cell x0
      have hgl2 := lt_of_cell hgcell
      go_wp2_with fail
      go_region_held3 (fun w' => w'.cell? ⟨ub, uoff + k * 3, none⟩ = some (.int .i64 xk) ∧ w'.cell? ⟨ub, uoff + k * 3 + 1, none⟩ = some (.int .i64 xn) ∧ w'.cell? ⟨ub, uoff + k * 3 + 2, none⟩ = some (.string xs) ∧ w'.cell? ⟨g, k, none⟩ = some (.string n)) (first | exact ⟨x0, x1, x2, hgcell⟩ | exact ⟨y0, y1, y2, y3⟩) (first | (go_at_call 31; refine (validValueR_is ⟨xk, xn, xs⟩ true _ HVX).mono ?_; rintro e wa ⟨rfl, hba⟩; have HBA := Lib.hid hba; obtain ⟨y0, y1, y2, y3⟩ : wa.cell? ⟨ub, uoff + k * 3, none⟩ = some (.int .i64 xk) ∧ wa.cell? ⟨ub, uoff + k * 3 + 1, none⟩ = some (.int .i64 xn) ∧ wa.cell? ⟨ub, uoff + k * 3 + 2, none⟩ = some (.string xs) ∧ wa.cell? ⟨g, k, none⟩ = some (.string n) := ⟨(hba.cell (p := ⟨ub, uoff + k * 3, none⟩) hubl).trans x0, (hba.cell (p := ⟨ub, uoff + k * 3 + 1, none⟩) hubl).trans x1, (hba.cell (p := ⟨ub, uoff + k * 3 + 2, none⟩) hubl).trans x2, (hba.cell (p := ⟨g, k, none⟩) hgl2).trans hgcell⟩; clear hba) | (go_at_call 26; refine (typeOfR_is n xk _ hns9 HTY).mono ?_; rintro e wb ⟨rfl, rfl⟩))
      all_goals
        go_wp2_with fail
        go_roundw
        case rel => exact ⟨k + 1, by omega, by go_num, HBR.out.drew.trans (HBA.out.mono HBR.out.size)⟩
        case measure => simp [intOf]; omega
    · obtain rfl : k = ns.length := by omega
      obtain ⟨h1, h2⟩ := env_ok HNS.out HLN.out HOK.out
      have HE1 := Lib.hid h1
      have R3 := Lib.hid (R2.out.keep HBR.out)
      have HVE : Hid (VEnv wr (.slice na ns.length nc) (.slice ua vs.length uc) ns vs) := Lib.hid ⟨HST.out.below HBR.out, HUW.out.below HBR.out, HLN.out, by rw [HNS.out]; exact Pl.namesOf_nodup _, by omega⟩
      have HIN : Hid (∀ t ∈ f.flat, t.k = 4 → t.s ∈ ns) := Lib.hid (fun t ht h4 => by rw [HNS.out]; exact Pl.namesOf_mem ht h4)
      obtain ⟨V, hV⟩ : ∃ V, V = (Pl.valR (Pl.envOf ns vs) f).1 := ⟨_, rfl⟩
      obtain ⟨b, hb⟩ : ∃ b, b = (Pl.valR (Pl.envOf ns vs) f).2 := ⟨_, rfl⟩
      have HRV := Lib.hid (rv_all d off c f.flat hl hcap (.slice na ns.length nc) (.slice ua vs.length uc) ns vs f [] [] 0 wr HW.out (by simp) rfl (HRW.out.below HBR.out hd2) (Nat.lt_of_lt_of_le hd2 HBR.out.size) HVE.out HIN.out HE1.out)
      rw [← hV, ← hb] at HRV HVO
      obtain ⟨vk, vm, vt⟩ := V
      unfold Tm.agg at HRV
      dsimp only at HRV
      have hs0 : w.heap.size < wr.heap.size := (Array.getElem?_eq_some_iff.1 R3.out.box).1
      have hge : ¬ ns.length < vs.length := by omega
      clear h1 h2 hV hb hlv
      cases b with
      | false =>
        have HN : Hid (vo = none) := Lib.hid (by rw [HVO.out]; rfl)
        go_wp2_with fail
        refine HRV.out.mono ?_
        rintro e w3 ⟨rfl, hb⟩
        have R4 := Lib.hid (R3.out.keep hb)
        obtain ⟨z0, z1, z2⟩ := box_cells R4.out.box
        have q0 := Lib.frozen_of_heap R4.out.box 0
        have q1 := Lib.frozen_of_heap R4.out.box 1
        have q2 := Lib.frozen_of_heap R4.out.box 2
        have hs4 : w.heap.size < w3.heap.size := (Array.getElem?_eq_some_iff.1 R4.out.box).1
        clear hb
        go_wp2_with fail
        obtain ⟨o0, o1, o2⟩ := box_cells (kept_box (put_same R4.out.box (.int .i64 0) (.int .i64 0) (.string ⟨#[]⟩)) (below1 _ (.cells #[.int .i64 vk, .int .i64 vm, .string vt] 48)))
        refine bodyPost_ret (v := .tuple #[.agg #[.int .i64 0, .int .i64 0, .string ⟨#[]⟩], .bool false, .int .i64 0]) (by simp [results, Tryz.results29, go_sem, o0, o1, o2]) rfl ?_
        rw [HN.out]
        exact ⟨rfl, (put_below R4.out.bel (Nat.le_refl _) _ _ _).alloc (put_below R4.out.bel (Nat.le_refl _) _ _ _).size _⟩
      | true =>
        have HN : Hid (vo = some ⟨vk, vm, vt⟩) := Lib.hid (by rw [HVO.out]; rfl)
        go_wp2_with fail
        refine HRV.out.mono ?_
        rintro e w3 ⟨rfl, hb⟩
        have R4 := Lib.hid (R3.out.keep hb)
        obtain ⟨z0, z1, z2⟩ := box_cells R4.out.box
        have q0 := Lib.frozen_of_heap R4.out.box 0
        have q1 := Lib.frozen_of_heap R4.out.box 1
        have q2 := Lib.frozen_of_heap R4.out.box 2
        have hs4 : w.heap.size < w3.heap.size := (Array.getElem?_eq_some_iff.1 R4.out.box).1
        clear hb
        go_wp2_with fail
        obtain ⟨o0, o1, o2⟩ := box_cells (kept_box (put_same R4.out.box (.int .i64 vk) (.int .i64 vm) (.string vt)) (below1 _ (.cells #[.int .i64 vk, .int .i64 vm, .string vt] 48)))
        refine bodyPost_ret (v := .tuple #[.agg #[.int .i64 vk, .int .i64 vm, .string vt], .bool true, .int .i64 0]) (by simp [results, Tryz.results29, go_sem, o0, o1, o2]) rfl ?_
        rw [HN.out]
        exact ⟨rfl, (put_below R4.out.bel (Nat.le_refl _) _ _ _).alloc (put_below R4.out.bel (Nat.le_refl _) _ _ _).size _⟩
end Go.Proofs.YtchoelgkcnnnkaaGreatDoor
namespace Go.Proofs.YtchoelgkcnnnkaaGreatDoor
open Go.RowKit
def NoPost (w : World) (e : Ending) (w' : World) : Prop := e = .returned (.tuple #[.agg #[.int .i64 0, .int .i64 0, .string ⟨#[]⟩], .bool false, .int .i64 150]) ∧ Below w.heap.size w w'
set_option maxRecDepth 100000 in
set_option maxHeartbeats 8000000 in
theorem valueR_inv (v : Value) (ts : List Tm) (ua : Option Addr) (un uc : Nat) (w : World) (hT : TermsIn w v ts) (hl : ts.length ≤ 9223372036854775807) (HV : Hid (false = Pl.validB ts)) :
    Calls Tryz.prog 29 #[v, .slice ua un uc] w (NoPost w) := by
  have HT := Lib.hid hT
  obtain ⟨a, c, rfl, _⟩ := hT
  have R0 : Hid (ResAt w (w.alloc (.cells #[.int .i64 0, .int .i64 0, .string ⟨#[]⟩] 48))) := Lib.hid ⟨(MapKept.heap_alloc w _).1, below1 w _⟩
  go_enter Tryz.func29, Tryz.ntmps29
  go_wp2_with fail
  refine (typeR_bad _ ts _ (HT.out.below R0.out.bel) hl HV).mono ?_
  rintro e w1 ⟨rfl, hb⟩
  have R1 := Lib.hid (R0.out.keep hb)
  clear hb
  go_wp2_with fail
  refine (namesR_bad _ ts _ (HT.out.below R1.out.bel) hl HV).mono ?_
  rintro e w2 ⟨rfl, hb⟩
  have R2 := Lib.hid (R1.out.keep hb)
  clear hb
  obtain ⟨z0, z1, z2⟩ := box_cells R2.out.box
  have q0 := Lib.frozen_of_heap R2.out.box 0
  have q1 := Lib.frozen_of_heap R2.out.box 1
  have q2 := Lib.frozen_of_heap R2.out.box 2
  go_wp2_with fail
  obtain ⟨o0, o1, o2⟩ := box_cells (put_same R2.out.box (.int .i64 0) (.int .i64 0) (.string ⟨#[]⟩))
  exact bodyPost_ret (v := .tuple #[.agg #[.int .i64 0, .int .i64 0, .string ⟨#[]⟩], .bool false, .int .i64 150]) (by simp [results, Tryz.results29, go_sem, o0, o1, o2]) rfl ⟨rfl, put_below R2.out.bel (Nat.le_refl _) _ _ _⟩
set_option maxRecDepth 100000 in
set_option maxHeartbeats 8000000 in
theorem valueR_ty (f : Fm) (d off c : Nat) (w : World) (hcap : f.flat.length ≤ c) (hrow : RowIn w d off f.flat) (hwf : f.wf) (hl : f.flat.length ≤ 60) (hd : f.depth ≤ 12) (ua : Option Addr) (un uc : Nat) (hty : Pl.ty f = 0) :
    Calls Tryz.prog 29 #[.slice (some ⟨d, off, none⟩) f.flat.length c, .slice ua un uc] w (NoPost w) := by
  have HV : Hid (true = Pl.validB f.flat) := Lib.hid ((Pl.validB_iff f.flat).2 ⟨hl, f, hwf, hd, rfl⟩).symm
  have hd0 := hrow.lt f.flat_ne
  have HR := Lib.hid hrow
  have HW := Lib.hid hwf
  have HFN := Lib.hid f.flat_ne
  obtain ⟨tf, htf⟩ : ∃ tf, tf = Pl.ty f := ⟨_, rfl⟩
  rw [← htf] at hty
  have HTF := Lib.hid htf
  subst hty
  have R0 : Hid (ResAt w (w.alloc (.cells #[.int .i64 0, .int .i64 0, .string ⟨#[]⟩] 48))) := Lib.hid ⟨(MapKept.heap_alloc w _).1, below1 w _⟩
  obtain ⟨ns, hns⟩ : ∃ ns, ns = Pl.namesOf f.flat := ⟨_, rfl⟩
  have HNS := Lib.hid hns
  clear hrow hwf htf hns
  go_enter Tryz.func29, Tryz.ntmps29
  go_wp2_with fail
  refine (typeR_ok f d off c _ hcap (HR.out.below R0.out.bel hd0) HW.out hl hd).mono ?_
  rintro e w1 ⟨rfl, hb⟩
  rw [← HTF.out]
  have R1 := Lib.hid (R0.out.keep hb)
  clear hb
  go_wp2_with fail
  refine (namesR_ok f.flat d off c _ hcap (HR.out.below R1.out.bel hd0) hl HFN.out HV).mono ?_
  rintro e w2 ⟨vn, rfl, hst, hb⟩
  rw [← HNS.out] at hst
  have R2 := Lib.hid (R1.out.keep hb)
  obtain ⟨na, nc, rfl, hnc, hng⟩ := names_shape hst
  clear hst hb hng
  obtain ⟨z0, z1, z2⟩ := box_cells R2.out.box
  have q0 := Lib.frozen_of_heap R2.out.box 0
  have q1 := Lib.frozen_of_heap R2.out.box 1
  have q2 := Lib.frozen_of_heap R2.out.box 2
  go_wp2_with fail
  obtain ⟨o0, o1, o2⟩ := box_cells (put_same R2.out.box (.int .i64 0) (.int .i64 0) (.string ⟨#[]⟩))
  exact bodyPost_ret (v := .tuple #[.agg #[.int .i64 0, .int .i64 0, .string ⟨#[]⟩], .bool false, .int .i64 150]) (by simp [results, Tryz.results29, go_sem, o0, o1, o2]) rfl ⟨rfl, put_below R2.out.bel (Nat.le_refl _) _ _ _⟩
set_option maxRecDepth 100000 in
set_option maxHeartbeats 8000000 in
theorem valueR_len (f : Fm) (d off c : Nat) (w : World) (hcap : f.flat.length ≤ c) (hrow : RowIn w d off f.flat) (hwf : f.wf) (hl : f.flat.length ≤ 60) (hd : f.depth ≤ 12) (ua : Option Addr) (un uc : Nat) (hty : Pl.ty f ≠ 0) (hne : un ≠ (Pl.namesOf f.flat).length) :
    Calls Tryz.prog 29 #[.slice (some ⟨d, off, none⟩) f.flat.length c, .slice ua un uc] w (NoPost w) := by
  have HV : Hid (true = Pl.validB f.flat) := Lib.hid ((Pl.validB_iff f.flat).2 ⟨hl, f, hwf, hd, rfl⟩).symm
  have hd0 := hrow.lt f.flat_ne
  have HR := Lib.hid hrow
  have HW := Lib.hid hwf
  have HFN := Lib.hid f.flat_ne
  obtain ⟨tf, htf⟩ : ∃ tf, tf = Pl.ty f := ⟨_, rfl⟩
  rw [← htf] at hty
  have HTF := Lib.hid htf
  have hty1 : (tf == 0) = false := by simpa using hty
  have R0 : Hid (ResAt w (w.alloc (.cells #[.int .i64 0, .int .i64 0, .string ⟨#[]⟩] 48))) := Lib.hid ⟨(MapKept.heap_alloc w _).1, below1 w _⟩
  obtain ⟨ns, hns⟩ : ∃ ns, ns = Pl.namesOf f.flat := ⟨_, rfl⟩
  have HNS := Lib.hid hns
  have hln : ((un : Int) != (ns.length : Int)) = true := by rw [bne_iff_ne]; intro e; apply hne; rw [← hns]; omega
  clear hrow hwf htf hns
  go_enter Tryz.func29, Tryz.ntmps29
  go_wp2_with fail
  refine (typeR_ok f d off c _ hcap (HR.out.below R0.out.bel hd0) HW.out hl hd).mono ?_
  rintro e w1 ⟨rfl, hb⟩
  rw [← HTF.out]
  have R1 := Lib.hid (R0.out.keep hb)
  clear hb
  go_wp2_with fail
  refine (namesR_ok f.flat d off c _ hcap (HR.out.below R1.out.bel hd0) hl HFN.out HV).mono ?_
  rintro e w2 ⟨vn, rfl, hst, hb⟩
  rw [← HNS.out] at hst
  have R2 := Lib.hid (R1.out.keep hb)
  obtain ⟨na, nc, rfl, hnc, hng⟩ := names_shape hst
  clear hst hb hng hty hne
  obtain ⟨z0, z1, z2⟩ := box_cells R2.out.box
  have q0 := Lib.frozen_of_heap R2.out.box 0
  have q1 := Lib.frozen_of_heap R2.out.box 1
  have q2 := Lib.frozen_of_heap R2.out.box 2
  go_wp2_with fail
  obtain ⟨o0, o1, o2⟩ := box_cells (put_same R2.out.box (.int .i64 0) (.int .i64 0) (.string ⟨#[]⟩))
  exact bodyPost_ret (v := .tuple #[.agg #[.int .i64 0, .int .i64 0, .string ⟨#[]⟩], .bool false, .int .i64 150]) (by simp [results, Tryz.results29, go_sem, o0, o1, o2]) rfl ⟨rfl, put_below R2.out.bel (Nat.le_refl _) _ _ _⟩
set_option maxRecDepth 100000 in
set_option maxHeartbeats 8000000 in
theorem valueR_val (f : Fm) (d off c : Nat) (w : World) (hcap : f.flat.length ≤ c) (hrow : RowIn w d off f.flat) (hwf : f.wf) (hl : f.flat.length ≤ 60) (hd : f.depth ≤ 12) (u : Value) (vs : List Tm) (hU : TermsIn w u vs) (hty : Pl.ty f ≠ 0) (hlen : vs.length = (Pl.namesOf f.flat).length) (j0 : Nat) (hj0 : j0 < vs.length)
    (hok : ∀ (i : Nat) n x, i < j0 → (Pl.namesOf f.flat)[i]? = some n → vs[i]? = some x → Pl.validV x = true ∧ x.k = Pl.typeOf n.data.toList)
    (hbad : ∀ n x, (Pl.namesOf f.flat)[j0]? = some n → vs[j0]? = some x → Pl.validV x = false ∨ x.k ≠ Pl.typeOf n.data.toList) :
    Calls Tryz.prog 29 #[.slice (some ⟨d, off, none⟩) f.flat.length c, u] w (NoPost w) := by
  have hT := hU
  obtain ⟨ua, uc, rfl, huc, _, hur⟩ := hU
  have HU := Lib.hid hT
  have hnl := Pl.namesOf_len f.flat
  have HV : Hid (true = Pl.validB f.flat) := Lib.hid ((Pl.validB_iff f.flat).2 ⟨hl, f, hwf, hd, rfl⟩).symm
  have hd0 := hrow.lt f.flat_ne
  have HR := Lib.hid hrow
  have HW := Lib.hid hwf
  have HFN := Lib.hid f.flat_ne
  obtain ⟨tf, htf⟩ : ∃ tf, tf = Pl.ty f := ⟨_, rfl⟩
  rw [← htf] at hty
  have HTF := Lib.hid htf
  have hty1 : (tf == 0) = false := by simpa using hty
  have R0 : Hid (ResAt w (w.alloc (.cells #[.int .i64 0, .int .i64 0, .string ⟨#[]⟩] 48))) := Lib.hid ⟨(MapKept.heap_alloc w _).1, below1 w _⟩
  obtain ⟨ns, hns⟩ : ∃ ns, ns = Pl.namesOf f.flat := ⟨_, rfl⟩
  have HNS := Lib.hid hns
  rw [← hns] at hlen hok hbad hnl
  have HLN := Lib.hid hlen
  have HOK := Lib.hid hok
  have HBD := Lib.hid hbad
  have hln2 : ((vs.length : Int) != (ns.length : Int)) = false := by simp; omega
  clear hT hur hlen hok hbad
  clear hrow hwf htf hns
  go_enter Tryz.func29, Tryz.ntmps29
  go_wp2_with fail
  refine (typeR_ok f d off c _ hcap (HR.out.below R0.out.bel hd0) HW.out hl hd).mono ?_
  rintro e w1 ⟨rfl, hb⟩
  rw [← HTF.out]
  have R1 := Lib.hid (R0.out.keep hb)
  clear hb
  go_wp2_with fail
  refine (namesR_ok f.flat d off c _ hcap (HR.out.below R1.out.bel hd0) hl HFN.out HV).mono ?_
  rintro e w2 ⟨vn, rfl, hst, hb⟩
  rw [← HNS.out] at hst
  have R2 := Lib.hid (R1.out.keep hb)
  obtain ⟨na, nc, rfl, hnc, hng⟩ := names_shape hst
  have HNG := Lib.hid hng
  have HUW := Lib.hid (HU.out.below R2.out.bel)
  clear hst hb hng hty
  go_wp2_with fail
  go_loopw [12] (fun i wr => ∃ k : Nat, k ≤ j0 ∧ i = .int .i64 k ∧ Below w2.heap.size w2 wr) (fun i _ => j0 - (intOf i).toNat)
  case atStart => exact ⟨0, Nat.zero_le _, rfl, Below.refl _ _⟩
  case round =>
    obtain ⟨k, hk, rfl, hbr⟩ := hrel
    have HBR := Lib.hid hbr
    clear hbr
    have hlv := HLN.out
    have hkv : k < vs.length := by omega
    have hkl : k < ns.length := by omega
    obtain ⟨n, hn⟩ : ∃ n, ns[k]? = some n := ⟨ns[k], by simp⟩
    obtain ⟨x, hx⟩ : ∃ x, vs[k]? = some x := ⟨vs[k], by simp⟩
    obtain ⟨g, rfl, hgl, hgc⟩ := HNG.out (by intro h; rw [h] at hkl; simp at hkl)
    obtain ⟨a', c', e', _, _, hur⟩ := HUW.out
    simp only [Value.slice.injEq] at e'
    obtain ⟨rfl, _, rfl⟩ := e'
    obtain ⟨ub, uoff, rfl, hurow⟩ := hur (by intro h; rw [h] at hkv; simp at hkv)
    have hgcell := (HBR.out.cell (p := ⟨g, k, none⟩) hgl).trans (hgc k n hn)
    have hub0 := hurow.lt (by intro h; rw [h] at hkv; simp at hkv)
    obtain ⟨x0, x1, x2, _⟩ := (hurow.below HBR.out hub0) k x hx
    have hns9 : n.size ≤ 9223372036854775807 := names_small HR.out (by rw [← HNS.out]; exact hn)
    have HOX : Hid (k < j0 → Pl.validV x = true ∧ x.k = Pl.typeOf n.data.toList) := Lib.hid fun h => HOK.out k n x h hn hx
    have HBX : Hid (k = j0 → Pl.validV x = false ∨ x.k ≠ Pl.typeOf n.data.toList) := Lib.hid fun h => by subst h; exact HBD.out n x hn hx
    obtain ⟨xk, xn, xs⟩ := x
    dsimp only at HOX HBX x0 x1 x2
    have R3 := Lib.hid (R2.out.keep HBR.out.drew)
    clear hgc hurow hn hx hur hlv
    have hubl := lt_of_cell x0
    have hgl2 := lt_of_cell hgcell
    by_cases hkj : k < j0
    · obtain ⟨hvx, hxk⟩ := HOX.out hkj
      have HVX : Hid (true = Pl.validV ⟨xk, xn, xs⟩) := Lib.hid hvx.symm
      have HTY : Hid (xk = Pl.typeOf n.data.toList) := Lib.hid hxk
      clear hvx hxk
      go_wp2_with fail
      go_region_held3 (fun w' => w'.cell? ⟨ub, uoff + k * 3, none⟩ = some (.int .i64 xk) ∧ w'.cell? ⟨ub, uoff + k * 3 + 1, none⟩ = some (.int .i64 xn) ∧ w'.cell? ⟨ub, uoff + k * 3 + 2, none⟩ = some (.string xs) ∧ w'.cell? ⟨g, k, none⟩ = some (.string n)) (first | exact ⟨x0, x1, x2, hgcell⟩ | exact ⟨y0, y1, y2, y3⟩) (first | (go_at_call 31; refine (validValueR_is ⟨xk, xn, xs⟩ true _ HVX).mono ?_; rintro e wa ⟨rfl, hba⟩; have HBA := Lib.hid hba; obtain ⟨y0, y1, y2, y3⟩ : wa.cell? ⟨ub, uoff + k * 3, none⟩ = some (.int .i64 xk) ∧ wa.cell? ⟨ub, uoff + k * 3 + 1, none⟩ = some (.int .i64 xn) ∧ wa.cell? ⟨ub, uoff + k * 3 + 2, none⟩ = some (.string xs) ∧ wa.cell? ⟨g, k, none⟩ = some (.string n) := ⟨(hba.cell (p := ⟨ub, uoff + k * 3, none⟩) hubl).trans x0, (hba.cell (p := ⟨ub, uoff + k * 3 + 1, none⟩) hubl).trans x1, (hba.cell (p := ⟨ub, uoff + k * 3 + 2, none⟩) hubl).trans x2, (hba.cell (p := ⟨g, k, none⟩) hgl2).trans hgcell⟩; clear hba) | (go_at_call 26; refine (typeOfR_is n xk _ hns9 HTY).mono ?_; rintro e wb ⟨rfl, rfl⟩))
      all_goals
        go_wp2_with fail
        go_roundw
        case rel => exact ⟨k + 1, by omega, by go_num, HBR.out.drew.trans (HBA.out.mono HBR.out.size)⟩
        case measure => simp [intOf]; omega
    · obtain rfl : k = j0 := by omega
      have hb := HBX.out rfl
      cases hv : Pl.validV ⟨xk, xn, xs⟩ with
      | false =>
        have HVX : Hid (false = Pl.validV ⟨xk, xn, xs⟩) := Lib.hid hv.symm
        clear hv hb
        go_wp2_with fail
        refine wp_region_held_drew (S := fun w' => w'.cell? ⟨ub, uoff + k * 3, none⟩ = some (.int .i64 xk) ∧ w'.cell? ⟨ub, uoff + k * 3 + 1, none⟩ = some (.int .i64 xn) ∧ w'.cell? ⟨ub, uoff + k * 3 + 2, none⟩ = some (.string xs)) (by kernel_rfl) ⟨x0, x1, x2⟩ (fun hHeld => ?_)
        refine wpAnyH_take (i := 0) (v := ?v0) rfl (by kernel_rfl) (by kernel_rfl) (by kernel_rfl) (fun _ _ _ h => h) (Or.inl ⟨by rfl, ?h0⟩) (by assumption) ?r0
        case h0 => (intro w hSw; (try dsimp only at hSw); go_simp; try (with_reducible rfl))
        try simp only [List.getElem_toArray, List.getElem_cons_succ, List.getElem_cons_zero, Act.put, List.setIfInBounds_toArray, List.set_cons_zero, List.set_cons_succ]
        refine wpAnyH_take (i := 1) (v := ?v1) rfl (by kernel_rfl) (by kernel_rfl) (by kernel_rfl) (fun _ _ _ h => h) (Or.inl ⟨by rfl, ?h1⟩) (by assumption) ?r1
        case h1 => (intro w hSw; (try dsimp only at hSw); go_simp; try (with_reducible rfl))
        try simp only [List.getElem_toArray, List.getElem_cons_succ, List.getElem_cons_zero, Act.put, List.setIfInBounds_toArray, List.set_cons_zero, List.set_cons_succ]
        refine wpAnyH_take (i := 2) (v := ?v2) rfl (by kernel_rfl) (by kernel_rfl) (by kernel_rfl) (fun _ _ _ h => h) (Or.inl ⟨by rfl, ?h2⟩) (by assumption) ?r2
        case h2 => (intro w hSw; (try dsimp only at hSw); go_simp; try (with_reducible rfl))
        try simp only [List.getElem_toArray, List.getElem_cons_succ, List.getElem_cons_zero, Act.put, List.setIfInBounds_toArray, List.set_cons_zero, List.set_cons_succ]
        refine wpAnyH_take (i := 3) (v := ?v3) rfl (by kernel_rfl) (by kernel_rfl) (by kernel_rfl) (fun _ _ _ h => h) (Or.inl ⟨by rfl, ?h3⟩) (by assumption) ?r3
        case h3 => (intro w hSw; (try dsimp only at hSw); go_simp; try (with_reducible rfl))
        try simp only [List.getElem_toArray, List.getElem_cons_succ, List.getElem_cons_zero, Act.put, List.setIfInBounds_toArray, List.set_cons_zero, List.set_cons_succ]
        refine wpAnyH_ready (rs := [4]) (by kernel_rfl) (by simp) ?_
        refine AllReadyH.cons (o := _) rfl (fun K hK => ?_) AllReadyH.nil
        go_simp
        go_at_call 31
        refine (validValueR_is ⟨xk, xn, xs⟩ false _ HVX).mono ?_
        rintro e wa ⟨rfl, hba⟩
        have HBA := Lib.hid hba
        obtain ⟨y0, y1, y2⟩ : wa.cell? ⟨ub, uoff + k * 3, none⟩ = some (.int .i64 xk) ∧ wa.cell? ⟨ub, uoff + k * 3 + 1, none⟩ = some (.int .i64 xn) ∧ wa.cell? ⟨ub, uoff + k * 3 + 2, none⟩ = some (.string xs) := ⟨(hba.cell (p := ⟨ub, uoff + k * 3, none⟩) hubl).trans x0, (hba.cell (p := ⟨ub, uoff + k * 3 + 1, none⟩) hubl).trans x1, (hba.cell (p := ⟨ub, uoff + k * 3 + 2, none⟩) hubl).trans x2⟩
        clear hba
        refine hK.out _ _ ⟨y0, y1, y2⟩ (fun hHeld2 => ?_)
        clear hK K
        try simp only [List.getElem_toArray, List.getElem_cons_succ, List.getElem_cons_zero, Act.put, List.setIfInBounds_toArray, List.set_cons_zero, List.set_cons_succ]
        refine wpAnyH_take (i := 5) (v := ?v5) rfl (by kernel_rfl) (by kernel_rfl) (by kernel_rfl) (fun _ _ _ h => h) (Or.inl ⟨by rfl, ?h5⟩) (by assumption) ?r5
        case h5 => (intro w hSw; (try dsimp only at hSw); go_simp; try (with_reducible rfl))
        try simp only [List.getElem_toArray, List.getElem_cons_succ, List.getElem_cons_zero, Act.put, List.setIfInBounds_toArray, List.set_cons_zero, List.set_cons_succ]
        refine wpAnyH_take (i := 6) (v := ?v6) rfl (by kernel_rfl) (by kernel_rfl) (by kernel_rfl) (fun _ _ _ h => h) (Or.inl ⟨by rfl, ?h6⟩) (by assumption) ?r6
        case h6 => (intro w hSw; (try dsimp only at hSw); go_simp; try (with_reducible rfl))
        try simp only [List.getElem_toArray, List.getElem_cons_succ, List.getElem_cons_zero, Act.put, List.setIfInBounds_toArray, List.set_cons_zero, List.set_cons_succ]
        refine wpAnyH_take (i := 7) (v := undef) rfl (by kernel_rfl) (by kernel_rfl) (by kernel_rfl) (fun _ _ _ h => h) (Or.inr ⟨by rfl, rfl⟩) (by assumption) ?_
        try simp only [List.getElem_toArray, List.getElem_cons_succ, List.getElem_cons_zero, Act.put, List.setIfInBounds_toArray, List.set_cons_zero, List.set_cons_succ]
        refine wpAnyH_take (i := 8) (v := undef) rfl (by kernel_rfl) (by kernel_rfl) (by kernel_rfl) (fun _ _ _ h => h) (Or.inr ⟨by rfl, rfl⟩) (by assumption) ?_
        try simp only [List.getElem_toArray, List.getElem_cons_succ, List.getElem_cons_zero, Act.put, List.setIfInBounds_toArray, List.set_cons_zero, List.set_cons_succ]
        refine wpAnyH_take (i := 9) (v := undef) rfl (by kernel_rfl) (by kernel_rfl) (by kernel_rfl) (fun _ _ _ h => h) (Or.inr ⟨by rfl, rfl⟩) (by assumption) ?_
        try simp only [List.getElem_toArray, List.getElem_cons_succ, List.getElem_cons_zero, Act.put, List.setIfInBounds_toArray, List.set_cons_zero, List.set_cons_succ]
        refine wpAnyH_take (i := 10) (v := undef) rfl (by kernel_rfl) (by kernel_rfl) (by kernel_rfl) (fun _ _ _ h => h) (Or.inr ⟨by rfl, rfl⟩) (by assumption) ?_
        try simp only [List.getElem_toArray, List.getElem_cons_succ, List.getElem_cons_zero, Act.put, List.setIfInBounds_toArray, List.set_cons_zero, List.set_cons_succ]
        refine wpAnyH_take (i := 11) (v := undef) rfl (by kernel_rfl) (by kernel_rfl) (by kernel_rfl) (fun _ _ _ h => h) (Or.inr ⟨by rfl, rfl⟩) (by assumption) ?_
        try simp only [List.getElem_toArray, List.getElem_cons_succ, List.getElem_cons_zero, Act.put, List.setIfInBounds_toArray, List.set_cons_zero, List.set_cons_succ]
        refine wpAnyH_take (i := 12) (v := undef) rfl (by kernel_rfl) (by kernel_rfl) (by kernel_rfl) (fun _ _ _ h => h) (Or.inr ⟨by rfl, rfl⟩) (by assumption) ?_
        try simp only [List.getElem_toArray, List.getElem_cons_succ, List.getElem_cons_zero, Act.put, List.setIfInBounds_toArray, List.set_cons_zero, List.set_cons_succ]
        refine wpAnyH_take (i := 13) (v := undef) rfl (by kernel_rfl) (by kernel_rfl) (by kernel_rfl) (fun _ _ _ h => h) (Or.inr ⟨by rfl, rfl⟩) (by assumption) ?_
        try simp only [List.getElem_toArray, List.getElem_cons_succ, List.getElem_cons_zero, Act.put, List.setIfInBounds_toArray, List.set_cons_zero, List.set_cons_succ]
        refine wpAnyH_take (i := 14) (v := undef) rfl (by kernel_rfl) (by kernel_rfl) (by kernel_rfl) (fun _ _ _ h => h) (Or.inr ⟨by rfl, rfl⟩) (by assumption) ?_
        try simp only [List.getElem_toArray, List.getElem_cons_succ, List.getElem_cons_zero, Act.put, List.setIfInBounds_toArray, List.set_cons_zero, List.set_cons_succ]
        refine wpAnyH_take (i := 15) (v := undef) rfl (by kernel_rfl) (by kernel_rfl) (by kernel_rfl) (fun _ _ _ h => h) (Or.inr ⟨by rfl, rfl⟩) (by assumption) ?_
        try simp only [List.getElem_toArray, List.getElem_cons_succ, List.getElem_cons_zero, Act.put, List.setIfInBounds_toArray, List.set_cons_zero, List.set_cons_succ]
        refine wpAnyH_take (i := 16) (v := undef) rfl (by kernel_rfl) (by kernel_rfl) (by kernel_rfl) (fun _ _ _ h => h) (Or.inr ⟨by rfl, rfl⟩) (by assumption) ?_
        try simp only [List.getElem_toArray, List.getElem_cons_succ, List.getElem_cons_zero, Act.put, List.setIfInBounds_toArray, List.set_cons_zero, List.set_cons_succ]
        refine wpAnyH_take (i := 17) (v := undef) rfl (by kernel_rfl) (by kernel_rfl) (by kernel_rfl) (fun _ _ _ h => h) (Or.inr ⟨by rfl, rfl⟩) (by assumption) ?_
        try simp only [List.getElem_toArray, List.getElem_cons_succ, List.getElem_cons_zero, Act.put, List.setIfInBounds_toArray, List.set_cons_zero, List.set_cons_succ]
        refine wpAnyH_take (i := 18) (v := ?v18) rfl (by kernel_rfl) (by kernel_rfl) (by kernel_rfl) (fun _ _ _ h => h) (Or.inl ⟨by rfl, ?h18⟩) (by assumption) ?r18
        case h18 => (intro w hSw; (try dsimp only at hSw); go_simp; try (with_reducible rfl))
        try simp only [List.getElem_toArray, List.getElem_cons_succ, List.getElem_cons_zero, Act.put, List.setIfInBounds_toArray, List.set_cons_zero, List.set_cons_succ]
        refine wpAnyH_done (by kernel_rfl) ?_ _
        all_goals
          have R4 := Lib.hid (R3.out.keep HBA.out)
          obtain ⟨z0, z1, z2⟩ := box_cells R4.out.box
          have q0 := Lib.frozen_of_heap R4.out.box 0
          have q1 := Lib.frozen_of_heap R4.out.box 1
          have q2 := Lib.frozen_of_heap R4.out.box 2
          go_wp2_with fail
          obtain ⟨o0, o1, o2⟩ := box_cells (put_same R4.out.box (.int .i64 0) (.int .i64 0) (.string ⟨#[]⟩))
          exact bodyPost_ret (v := .tuple #[.agg #[.int .i64 0, .int .i64 0, .string ⟨#[]⟩], .bool false, .int .i64 150]) (by simp [results, Tryz.results29, go_sem, o0, o1, o2]) rfl ⟨rfl, put_below R4.out.bel (Nat.le_refl _) _ _ _⟩
      | true =>
        have HVX : Hid (true = Pl.validV ⟨xk, xn, xs⟩) := Lib.hid hv.symm
        obtain ⟨ty, hty⟩ : ∃ ty, ty = Pl.typeOf n.data.toList := ⟨_, rfl⟩
        have HTY := Lib.hid hty
        have hne : (xk != ty) = true := by
          rw [bne_iff_ne]
          rcases hb with h | h
          · rw [hv] at h; cases h
          · rw [hty]; exact h
        clear hv hb hty
        go_wp2_with fail
        go_region_held3 (fun w' => w'.cell? ⟨ub, uoff + k * 3, none⟩ = some (.int .i64 xk) ∧ w'.cell? ⟨ub, uoff + k * 3 + 1, none⟩ = some (.int .i64 xn) ∧ w'.cell? ⟨ub, uoff + k * 3 + 2, none⟩ = some (.string xs) ∧ w'.cell? ⟨g, k, none⟩ = some (.string n)) (first | exact ⟨x0, x1, x2, hgcell⟩ | exact ⟨y0, y1, y2, y3⟩) (first | (go_at_call 31; refine (validValueR_is ⟨xk, xn, xs⟩ true _ HVX).mono ?_; rintro e wa ⟨rfl, hba⟩; have HBA := Lib.hid hba; obtain ⟨y0, y1, y2, y3⟩ : wa.cell? ⟨ub, uoff + k * 3, none⟩ = some (.int .i64 xk) ∧ wa.cell? ⟨ub, uoff + k * 3 + 1, none⟩ = some (.int .i64 xn) ∧ wa.cell? ⟨ub, uoff + k * 3 + 2, none⟩ = some (.string xs) ∧ wa.cell? ⟨g, k, none⟩ = some (.string n) := ⟨(hba.cell (p := ⟨ub, uoff + k * 3, none⟩) hubl).trans x0, (hba.cell (p := ⟨ub, uoff + k * 3 + 1, none⟩) hubl).trans x1, (hba.cell (p := ⟨ub, uoff + k * 3 + 2, none⟩) hubl).trans x2, (hba.cell (p := ⟨g, k, none⟩) hgl2).trans hgcell⟩; clear hba) | (go_at_call 26; refine (typeOfR_is n ty _ hns9 HTY).mono ?_; rintro e wb ⟨rfl, rfl⟩))
        all_goals
          have R4 := Lib.hid (R3.out.keep HBA.out)
          obtain ⟨z0, z1, z2⟩ := box_cells R4.out.box
          have q0 := Lib.frozen_of_heap R4.out.box 0
          have q1 := Lib.frozen_of_heap R4.out.box 1
          have q2 := Lib.frozen_of_heap R4.out.box 2
          go_wp2_with fail
          obtain ⟨o0, o1, o2⟩ := box_cells (put_same R4.out.box (.int .i64 0) (.int .i64 0) (.string ⟨#[]⟩))
          exact bodyPost_ret (v := .tuple #[.agg #[.int .i64 0, .int .i64 0, .string ⟨#[]⟩], .bool false, .int .i64 150]) (by simp [results, Tryz.results29, go_sem, o0, o1, o2]) rfl ⟨rfl, put_below R4.out.bel (Nat.le_refl _) _ _ _⟩
end Go.Proofs.YtchoelgkcnnnkaaGreatDoor
