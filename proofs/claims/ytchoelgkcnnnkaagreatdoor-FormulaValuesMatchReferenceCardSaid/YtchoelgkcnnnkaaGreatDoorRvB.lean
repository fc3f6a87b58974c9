/- WALK of the reference: the value of a formula (value). -/
import Derived.Test.YtchoelgkcnnnkaaGreatDoorRvA
set_option linter.all false
namespace Go.Proofs.YtchoelgkcnnnkaaGreatDoor
open Go.RowKit
/-- Names and their values, in memory. -/
structure VEnv (w : World) (vn vi : Value) (ns : List ByteArray) (vs : List Tm) : Prop where
  names : StrsIn w vn ns
  vals : TermsIn w vi vs
  len : vs.length = ns.length
  nodup : ns.Nodup
  small : ns.length ≤ 60
theorem VEnv.below {w w' : World} {vn vi : Value} {ns : List ByteArray} {vs : List Tm} (h : VEnv w vn vi ns vs) (hb : Below w.heap.size w w') : VEnv w' vn vi ns vs :=
  ⟨h.names.below hb, h.vals.below hb, h.len, h.nodup, h.small⟩
theorem VEnv.belowB {B : Nat} {w w' : World} {vn vi : Value} {ns : List ByteArray} {vs : List Tm} (h : VEnv w vn vi ns vs) (hb : Below w.heap.size w w') : VEnv w' vn vi ns vs := h.below hb
/-- The value of the name that is found. -/
theorem found_value {ns : List ByteArray} {vs : List Tm} {s : ByteArray} {x : Int} (hl : vs.length = ns.length) (hd : ns.Nodup) (hs : s ∈ ns) (h : Pl.FindIs ns s x) : ∃ i : Nat, x = i ∧ i < vs.length ∧ vs[i]? = some (Pl.envOf ns vs s) := by
  obtain ⟨j, h1, h2⟩ := envOf_get ns vs s hl.symm hs
  rcases h with ⟨_, h⟩ | ⟨i, hi, h3⟩
  · exact absurd hs h
  · have hil := (List.getElem?_eq_some_iff.1 h3).1
    have : i = j := (List.getElem?_inj hil hd).1 (h3.trans h1.symm)
    subst this
    exact ⟨i, hi, by omega, h2⟩
theorem new2 (w : World) (o1 o2 : Obj) : ((w.alloc o1).alloc o2).heap[w.heap.size + 1]? = some o2 ∧ ((w.alloc o1).alloc o2).heap[w.heap.size]? = some o1 ∧ Below w.heap.size w ((w.alloc o1).alloc o2) ∧ ((w.alloc o1).alloc o2).heap.size = w.heap.size + 1 + 1 := by
  refine ⟨?_, ?_, (below1 w o1).alloc (by simp) _, by simp⟩
  · show ((w.heap.push _).push _)[w.heap.size + 1]? = _
    rw [Array.getElem?_push, if_pos (by simp)]
  · show ((w.heap.push _).push _)[w.heap.size]? = _
    rw [Array.getElem?_push, if_neg (by simp), Array.getElem?_push, if_pos rfl]
def RvAt (d off c : Nat) (ts : List Tm) (vn vi : Value) (ns : List ByteArray) (vs : List Tm) (f : Fm) : Prop :=
  ∀ (pre post : List Tm) (i : Int) (w : World), f.wf → ts = pre ++ (f.flat ++ post) → i = (pre.length : Int) → RowIn w d off ts → d < w.heap.size → VEnv w vn vi ns vs → (∀ t ∈ f.flat, t.k = 4 → t.s ∈ ns) → Pl.EnvOk (Pl.envOf ns vs) f →
    Calls Tryz.prog 66 #[.slice (some ⟨d, off, none⟩) ts.length c, .int .i64 i, vn, vi] w fun e w' => e = .returned (.tuple #[(Pl.valR (Pl.envOf ns vs) f).1.agg, .int .i64 (i + f.flat.length), .bool (Pl.valR (Pl.envOf ns vs) f).2]) ∧ Below w.heap.size w w'
set_option maxRecDepth 100000 in
set_option maxHeartbeats 8000000 in
theorem rv_lf (d off c : Nat) (ts : List Tm) (hl : ts.length ≤ 60) (hc : ts.length ≤ c) (vn vi : Value) (ns : List ByteArray) (vs : List Tm) (t : Tm) : RvAt d off c ts vn vi ns vs (.lf t) := by
  intro pre post i w hwf hts hi hrow hd he hin hok
  have hget := mid_get' (t := t) (post := post) (by simpa [Fm.flat] using hts)
  have hlt : pre.length < ts.length := (List.getElem?_eq_some_iff.1 hget).1
  obtain ⟨m0, m1, m2, m3⟩ := hrow pre.length t hget
  subst hi
  have hlen : (pre.length : Int) + 1 ≤ 60 := by omega
  have e1 : ((pre.length : Int) + ((Fm.lf t).flat.length : Nat)) = (pre.length : Int) + 1 := rfl
  rw [e1]
  have hint := hin t (by simp [Fm.flat])
  have hres : Pl.valR (Pl.envOf ns vs) (.lf t) = (if t.k = 4 then Pl.envOf ns vs t.s else t, true) := rfl
  rw [hres]
  have HR := Lib.hid hrow
  have HE := Lib.hid he
  clear hts hget hrow e1 hres hin hok he
  rcases Pl.leaf_cases hwf.1 hwf.2 with ⟨n, rfl, h1, h2⟩ | rfl | rfl | ⟨s, rfl, h1, h2⟩ | ⟨s, rfl, h1⟩
  · rw [if_neg (show ¬ (Tm.k ⟨1, n, ⟨#[]⟩⟩ = 4) from by show ¬ ((1 : Int) = 4); decide)]
    obtain ⟨nw1, nw0, nwB, nwS⟩ := new2 w (.cells #[.int .i64 0, .int .i64 0, .string ⟨#[]⟩] 48) (.cells #[.int .i64 1, .int .i64 n, .string ⟨#[]⟩] 24)
    have NW0 := Lib.hid nw0
    have NWB := Lib.hid nwB
    unfold Tm.agg
    dsimp only at *
    clear hwf hint nw1 nw0 nwB nwS
    go_enter Tryz.func66, Tryz.ntmps66
    go_wp2_with fail
    refine (count_is n _).mono ?_
    rintro e w1 ⟨rfl, hb⟩
    have HZ1 := Lib.hid (kept_box NW0.out hb)
    have HB1 := Lib.hid (NWB.out.trans (hb.mono NWB.out.size))
    obtain ⟨z0, z1, z2⟩ := box_cells HZ1.out
    have q0 := Lib.frozen_of_heap HZ1.out 0
    have q1 := Lib.frozen_of_heap HZ1.out 1
    have q2 := Lib.frozen_of_heap HZ1.out 2
    clear hb
    go_wp2_with fail
    obtain ⟨o0, o1, o2⟩ := box_cells (put_same HZ1.out (.int .i64 1) (.int .i64 n) (.string ⟨#[]⟩))
    exact bodyPost_ret (v := .tuple #[.agg #[.int .i64 1, .int .i64 n, .string ⟨#[]⟩], .int .i64 ((pre.length : Int) + 1), .bool true]) (by simp [results, Tryz.results66, go_sem, o0, o1, o2]) rfl ⟨rfl, put_below HB1.out (Nat.le_refl _) _ _ _⟩
  · rw [if_neg (by decide)]
    obtain ⟨nw1, nw0, nwB, nwS⟩ := new2 w (.cells #[.int .i64 0, .int .i64 0, .string ⟨#[]⟩] 48) (.cells #[.int .i64 2, .int .i64 0, .string ⟨#[]⟩] 24)
    have NW0 := Lib.hid nw0
    have NWB := Lib.hid nwB
    unfold Tm.agg
    dsimp only at *
    clear hwf hint nw1 nw0 nwB nwS
    go_enter Tryz.func66, Tryz.ntmps66
    go_wp2_with fail
    refine (truth3 false 0 _ (Lib.hid rfl)).mono ?_
    rintro e w1 ⟨rfl, hb⟩
    have HZ1 := Lib.hid (kept_box NW0.out hb)
    have HB1 := Lib.hid (NWB.out.trans (hb.mono NWB.out.size))
    obtain ⟨z0, z1, z2⟩ := box_cells HZ1.out
    have q0 := Lib.frozen_of_heap HZ1.out 0
    have q1 := Lib.frozen_of_heap HZ1.out 1
    have q2 := Lib.frozen_of_heap HZ1.out 2
    clear hb
    go_wp2_with fail
    obtain ⟨o0, o1, o2⟩ := box_cells (put_same HZ1.out (.int .i64 2) (.int .i64 0) (.string ⟨#[]⟩))
    exact bodyPost_ret (v := .tuple #[.agg #[.int .i64 2, .int .i64 0, .string ⟨#[]⟩], .int .i64 ((pre.length : Int) + 1), .bool true]) (by simp [results, Tryz.results66, go_sem, o0, o1, o2]) rfl ⟨rfl, put_below HB1.out (Nat.le_refl _) _ _ _⟩
  · rw [if_neg (by decide)]
    obtain ⟨nw1, nw0, nwB, nwS⟩ := new2 w (.cells #[.int .i64 0, .int .i64 0, .string ⟨#[]⟩] 48) (.cells #[.int .i64 2, .int .i64 1, .string ⟨#[]⟩] 24)
    have NW0 := Lib.hid nw0
    have NWB := Lib.hid nwB
    unfold Tm.agg
    dsimp only at *
    clear hwf hint nw1 nw0 nwB nwS
    go_enter Tryz.func66, Tryz.ntmps66
    go_wp2_with fail
    refine (truth3 true 1 _ (Lib.hid rfl)).mono ?_
    rintro e w1 ⟨rfl, hb⟩
    have HZ1 := Lib.hid (kept_box NW0.out hb)
    have HB1 := Lib.hid (NWB.out.trans (hb.mono NWB.out.size))
    obtain ⟨z0, z1, z2⟩ := box_cells HZ1.out
    have q0 := Lib.frozen_of_heap HZ1.out 0
    have q1 := Lib.frozen_of_heap HZ1.out 1
    have q2 := Lib.frozen_of_heap HZ1.out 2
    clear hb
    go_wp2_with fail
    obtain ⟨o0, o1, o2⟩ := box_cells (put_same HZ1.out (.int .i64 2) (.int .i64 1) (.string ⟨#[]⟩))
    exact bodyPost_ret (v := .tuple #[.agg #[.int .i64 2, .int .i64 1, .string ⟨#[]⟩], .int .i64 ((pre.length : Int) + 1), .bool true]) (by simp [results, Tryz.results66, go_sem, o0, o1, o2]) rfl ⟨rfl, put_below HB1.out (Nat.le_refl _) _ _ _⟩
  · rw [if_neg (show ¬ (Tm.k ⟨3, 0, s⟩ = 4) from by show ¬ ((3 : Int) = 4); decide)]
    unfold Tm.agg
    dsimp only at *
    clear hwf hint
    go_enter Tryz.func66, Tryz.ntmps66
    go_wp2_with fail
    exact bodyPost_ret (v := .tuple #[.agg #[.int .i64 3, .int .i64 0, .string s], .int .i64 ((pre.length : Int) + 1), .bool true]) (by simp [results, Tryz.results66, go_sem]) rfl ⟨rfl, (below1 w _).alloc (by simp) _⟩
  · rw [if_pos (show Tm.k ⟨4, 0, s⟩ = 4 from rfl)]
    have hs : s ∈ ns := hint rfl
    dsimp only at *
    obtain ⟨ua, uc, rfl, huc, _, hur⟩ := HE.out.vals
    have hvl := HE.out.len
    have hnl := HE.out.small
    have hne : vs ≠ [] := by intro e; rw [e] at hvl; have := List.length_pos_of_mem hs; simp at hvl; omega
    obtain ⟨ub, uoff, rfl, hurow⟩ := hur hne
    have hub := hurow.lt hne
    have HUR := Lib.hid hurow
    obtain ⟨U, hU⟩ : ∃ U, U = Pl.envOf ns vs s := ⟨_, rfl⟩
    rw [← hU]
    have HU := Lib.hid hU
    have HS := Lib.hid hs
    obtain ⟨uk, um, ut⟩ := U
    unfold Tm.agg
    dsimp only
    obtain ⟨nw1, nw0, nwB, nwS⟩ := new2 w (.cells #[.int .i64 0, .int .i64 0, .string ⟨#[]⟩] 48) (.cells #[.int .i64 4, .int .i64 0, .string s] 24)
    have NWB := Lib.hid nwB
    clear hwf hint hur hurow hU hs nw1 nw0 nwB nwS hne
    go_enter Tryz.func66, Tryz.ntmps66
    go_wp2_with fail
    refine (find_any vn ns s _ (HE.out.names.below NWB.out) (by omega)).mono ?_
    rintro e w1 ⟨x, rfl, hx, rfl⟩
    obtain ⟨j, rfl, hj, hvj⟩ := found_value hvl HE.out.nodup HS.out hx
    rw [← HU.out] at hvj
    obtain ⟨u0, u1, u2, _⟩ := (HUR.out.below NWB.out hub) j _ hvj
    dsimp only at u0 u1 u2
    clear hx hvj
    go_wp2_with fail
    exact bodyPost_ret (v := .tuple #[.agg #[.int .i64 uk, .int .i64 um, .string ut], .int .i64 ((pre.length : Int) + 1), .bool true]) (by simp [results, Tryz.results66, go_sem]) rfl ⟨rfl, (below1 w _).alloc (by simp) _⟩
set_option maxRecDepth 100000 in
set_option maxHeartbeats 8000000 in
theorem rv_un (d off c : Nat) (ts : List Tm) (hl : ts.length ≤ 60) (hc : ts.length ≤ c) (vn vi : Value) (ns : List ByteArray) (vs : List Tm) (t : Tm) (a : Fm) (iha : RvAt d off c ts vn vi ns vs a) : RvAt d off c ts vn vi ns vs (.un t a) := by
  intro pre post i w hwf hts hi hrow hd he hin hok
  have hget := mid_get' (t := t) (post := a.flat ++ post) (by simpa [Fm.flat] using hts)
  have hlt : pre.length < ts.length := (List.getElem?_eq_some_iff.1 hget).1
  obtain ⟨m0, m1, m2, m3⟩ := hrow pre.length t hget
  subst hi
  have hlen : (pre.length : Int) + 1 + (a.flat.length : Int) ≤ 60 := by have := congrArg List.length hts; simp [Fm.flat] at this; omega
  have e1 : (pre.length : Int) + ((Fm.un t a).flat.length : Nat) = (pre.length : Int) + 1 + (a.flat.length : Nat) := by simp [Fm.flat]; omega
  rw [e1]
  have hoka : Pl.EnvOk (Pl.envOf ns vs) a := fun u hu => hok u (by simp [Fm.flat, hu])
  have HA := Lib.hid (fun (W : World) (hb : Below w.heap.size w W) => iha (pre ++ [t]) post ((pre.length : Int) + 1) W hwf.2.2 (by rw [hts]; simp [Fm.flat]) (by simp) (hrow.below hb hd) (Nat.lt_of_lt_of_le hd hb.size) (he.below hb) (fun u hu => hin u (by simp [Fm.flat, hu])) hoka)
  have hmid := (Pl.valR_mid a hwf.2.2 hoka).mono (show a.flat.length ≤ 60 by omega)
  have hk := Pl.kinds1 hwf.2.1
  obtain ⟨la, hla⟩ : ∃ la, la = a.flat.length := ⟨_, rfl⟩
  rw [← hla] at HA hlen ⊢
  obtain ⟨V, hV⟩ : ∃ V, V = (Pl.valR (Pl.envOf ns vs) a).1 := ⟨_, rfl⟩
  obtain ⟨b, hb⟩ : ∃ b, b = (Pl.valR (Pl.envOf ns vs) a).2 := ⟨_, rfl⟩
  obtain ⟨U, hU⟩ : ∃ U, U = Pl.apR t.k V Pl.zeroV := ⟨_, rfl⟩
  obtain ⟨r, hr⟩ : ∃ r, r = Pl.validV U := ⟨_, rfl⟩
  have hres : Pl.valR (Pl.envOf ns vs) (.un t a) = (U, b && r) := by rw [hr, hU, hV, hb]; rfl
  rw [← hV, ← hb] at HA
  rw [← hV] at hmid
  have HAP := Lib.hid (fun W : World => apply_all t.k (by omega) V Pl.zeroV W hmid (Pl.mid_zero 60))
  rw [← hU] at HAP
  unfold ApPost at HAP
  rw [← hr] at HAP
  rw [hres]
  obtain ⟨k, n, s⟩ := t
  obtain ⟨vk, vm, vt⟩ := V
  obtain ⟨uk, um, ut⟩ := U
  obtain ⟨nw1, nw0, nwB, nwS⟩ := new2 w (.cells #[.int .i64 0, .int .i64 0, .string ⟨#[]⟩] 48) (.cells #[.int .i64 k, .int .i64 n, .string s] 24)
  have NW1 := Lib.hid nw1
  have NW0 := Lib.hid nw0
  have NWB := Lib.hid nwB
  unfold Tm.agg Pl.zeroV at HAP
  unfold Tm.agg at HA ⊢
  dsimp only at *
  clear hts hget hrow e1 hwf iha hres hV hb hU hr he hin hok hoka hmid hla nw1 nw0 nwB nwS
  go_enter Tryz.func66, Tryz.ntmps66
  go_wp2_with fail
  refine (HA.out _ NWB.out).mono ?_
  rintro e w1 ⟨rfl, hb⟩
  have HT1 := Lib.hid (kept_box NW1.out hb)
  have HZ1 := Lib.hid (kept_box NW0.out hb)
  have HB1 := Lib.hid (NWB.out.trans (hb.mono NWB.out.size))
  obtain ⟨t0, t1, t2⟩ := box_cells HT1.out
  have hs1 : w.heap.size + 1 < w1.heap.size := (Array.getElem?_eq_some_iff.1 HT1.out).1
  clear hb
  go_wp2_with fail
  refine (HAP.out _).mono ?_
  rintro e w2 ⟨rfl, hb⟩
  have hb2 := (below1 w1 (.cells #[.int .i64 vk, .int .i64 vm, .string vt] 48)).trans (hb.mono (by simp))
  have HZ2 := Lib.hid (kept_box HZ1.out hb2)
  have HB2 := Lib.hid (HB1.out.trans (hb2.mono HB1.out.size))
  obtain ⟨z0, z1, z2⟩ := box_cells HZ2.out
  have q0 := Lib.frozen_of_heap HZ2.out 0
  have q1 := Lib.frozen_of_heap HZ2.out 1
  have q2 := Lib.frozen_of_heap HZ2.out 2
  have hs2 : w.heap.size < w2.heap.size := (Array.getElem?_eq_some_iff.1 HZ2.out).1
  clear hb hb2
  cases b
  all_goals
    go_wp2_with fail
    obtain ⟨o0, o1, o2⟩ := box_cells (kept_box (put_same HZ2.out (.int .i64 uk) (.int .i64 um) (.string ut)) (below1 _ (.cells #[.int .i64 uk, .int .i64 um, .string ut] 48)))
    exact bodyPost_ret (v := .tuple #[.agg #[.int .i64 uk, .int .i64 um, .string ut], .int .i64 ((pre.length : Int) + 1 + (la : Int)), .bool _]) (by simp [results, Tryz.results66, go_sem, o0, o1, o2]) rfl ⟨rfl, (put_below HB2.out (Nat.le_refl _) _ _ _).alloc (put_below HB2.out (Nat.le_refl _) _ _ _).size _⟩
set_option maxRecDepth 100000 in
set_option maxHeartbeats 8000000 in
theorem rv_bi (d off c : Nat) (ts : List Tm) (hl : ts.length ≤ 60) (hc : ts.length ≤ c) (vn vi : Value) (ns : List ByteArray) (vs : List Tm) (t : Tm) (a b : Fm) (iha : RvAt d off c ts vn vi ns vs a) (ihb : RvAt d off c ts vn vi ns vs b) : RvAt d off c ts vn vi ns vs (.bi t a b) := by
  intro pre post i w hwf hts hi hrow hd he hin hok
  have hget := mid_get' (t := t) (post := a.flat ++ (b.flat ++ post)) (by simpa [Fm.flat] using hts)
  have hlt : pre.length < ts.length := (List.getElem?_eq_some_iff.1 hget).1
  obtain ⟨m0, m1, m2, m3⟩ := hrow pre.length t hget
  subst hi
  have hlen : (pre.length : Int) + 1 + (a.flat.length : Int) + (b.flat.length : Int) ≤ 60 := by have := congrArg List.length hts; simp [Fm.flat] at this; omega
  have e1 : (pre.length : Int) + ((Fm.bi t a b).flat.length : Nat) = (pre.length : Int) + 1 + (a.flat.length : Nat) + (b.flat.length : Nat) := by simp [Fm.flat]; omega
  rw [e1]
  have hoka : Pl.EnvOk (Pl.envOf ns vs) a := fun u hu => hok u (by simp [Fm.flat, hu])
  have hokb : Pl.EnvOk (Pl.envOf ns vs) b := fun u hu => hok u (by simp [Fm.flat, hu])
  have HA := Lib.hid (fun (W : World) (hb : Below w.heap.size w W) => iha (pre ++ [t]) (b.flat ++ post) ((pre.length : Int) + 1) W hwf.2.2.1 (by rw [hts]; simp [Fm.flat]) (by simp <;> omega) (hrow.below hb hd) (Nat.lt_of_lt_of_le hd hb.size) (he.below hb) (fun u hu => hin u (by simp [Fm.flat, hu])) hoka)
  have HBB := Lib.hid (fun (W : World) (hb : Below w.heap.size w W) => ihb (pre ++ [t] ++ a.flat) (post) ((pre.length : Int) + 1 + (a.flat.length : Nat)) W hwf.2.2.2 (by rw [hts]; simp [Fm.flat]) (by simp <;> omega) (hrow.below hb hd) (Nat.lt_of_lt_of_le hd hb.size) (he.below hb) (fun u hu => hin u (by simp [Fm.flat, hu])) hokb)
  have hmid := (Pl.valR_mid a hwf.2.2.1 hoka).mono (show a.flat.length ≤ 60 by omega)
  have hmid2 := (Pl.valR_mid b hwf.2.2.2 hokb).mono (show b.flat.length ≤ 60 by omega)
  have hk := Pl.kinds2 hwf.2.1
  obtain ⟨la, hla⟩ : ∃ la, la = a.flat.length := ⟨_, rfl⟩
  obtain ⟨lb, hlb⟩ : ∃ lb, lb = b.flat.length := ⟨_, rfl⟩
  rw [← hla] at HA HBB hlen ⊢
  rw [← hlb] at HBB hlen ⊢
  obtain ⟨V, hV⟩ : ∃ V, V = (Pl.valR (Pl.envOf ns vs) a).1 := ⟨_, rfl⟩
  obtain ⟨g, hg⟩ : ∃ g, g = (Pl.valR (Pl.envOf ns vs) a).2 := ⟨_, rfl⟩
  obtain ⟨Y, hY⟩ : ∃ Y, Y = (Pl.valR (Pl.envOf ns vs) b).1 := ⟨_, rfl⟩
  obtain ⟨g2, hg2⟩ : ∃ g2, g2 = (Pl.valR (Pl.envOf ns vs) b).2 := ⟨_, rfl⟩
  obtain ⟨U, hU⟩ : ∃ U, U = Pl.apR t.k V Y := ⟨_, rfl⟩
  obtain ⟨r, hr⟩ : ∃ r, r = Pl.validV U := ⟨_, rfl⟩
  have hres : Pl.valR (Pl.envOf ns vs) (.bi t a b) = (U, (g && g2) && r) := by rw [hr, hU, hV, hY, hg, hg2]; rfl
  rw [← hV, ← hg] at HA
  rw [← hY, ← hg2] at HBB
  rw [← hV] at hmid
  rw [← hY] at hmid2
  have HAP := Lib.hid (fun W : World => apply_all t.k (by omega) V Y W hmid hmid2)
  rw [← hU] at HAP
  unfold ApPost at HAP
  rw [← hr] at HAP
  rw [hres]
  obtain ⟨k, n, s⟩ := t
  obtain ⟨vk, vm, vt⟩ := V
  obtain ⟨yk, ym, yt⟩ := Y
  obtain ⟨uk, um, ut⟩ := U
  obtain ⟨nw1, nw0, nwB, nwS⟩ := new2 w (.cells #[.int .i64 0, .int .i64 0, .string ⟨#[]⟩] 48) (.cells #[.int .i64 k, .int .i64 n, .string s] 24)
  have NW1 := Lib.hid nw1
  have NW0 := Lib.hid nw0
  have NWB := Lib.hid nwB
  unfold Tm.agg at HAP HA HBB ⊢
  dsimp only at *
  clear hts hget hrow e1 hwf iha ihb hres hV hY hg hg2 hU hr he hin hok hoka hokb hmid hmid2 hla hlb nw1 nw0 nwB nwS
  go_enter Tryz.func66, Tryz.ntmps66
  go_wp2_with fail
  refine (HA.out _ NWB.out).mono ?_
  rintro e w1 ⟨rfl, hb⟩
  have HT1 := Lib.hid (kept_box NW1.out hb)
  have HZ1 := Lib.hid (kept_box NW0.out hb)
  have HB1 := Lib.hid (NWB.out.trans (hb.mono NWB.out.size))
  obtain ⟨t0, t1, t2⟩ := box_cells HT1.out
  have hs1 : w.heap.size + 1 < w1.heap.size := (Array.getElem?_eq_some_iff.1 HT1.out).1
  clear hb
  go_wp2_with fail
  refine (HBB.out _ (HB1.out.alloc HB1.out.size _)).mono ?_
  rintro e w2 ⟨rfl, hb⟩
  have hb2 := (below1 w1 (.cells #[.int .i64 vk, .int .i64 vm, .string vt] 48)).trans (hb.mono (by simp))
  have HT2 := Lib.hid (kept_box HT1.out hb2)
  have HZ2 := Lib.hid (kept_box HZ1.out hb2)
  have HX2 := Lib.hid (kept_box (MapKept.heap_alloc w1 (.cells #[.int .i64 vk, .int .i64 vm, .string vt] 48)).1 hb)
  have HB2 := Lib.hid (HB1.out.trans (hb2.mono HB1.out.size))
  obtain ⟨p0, p1, p2⟩ := box_cells HT2.out
  obtain ⟨x0, x1, x2⟩ := box_cells HX2.out
  have hs2 : w.heap.size + 1 < w2.heap.size := (Array.getElem?_eq_some_iff.1 HT2.out).1
  have hs3 : w1.heap.size < w2.heap.size := (Array.getElem?_eq_some_iff.1 HX2.out).1
  clear hb hb2 t0 t1 t2
  go_wp2_with fail
  refine (HAP.out _).mono ?_
  rintro e w3 ⟨rfl, hb⟩
  have hb2 := (below1 w2 (.cells #[.int .i64 yk, .int .i64 ym, .string yt] 48)).trans (hb.mono (by simp))
  have HZ3 := Lib.hid (kept_box HZ2.out hb2)
  have HB3 := Lib.hid (HB2.out.trans (hb2.mono HB2.out.size))
  obtain ⟨z0, z1, z2⟩ := box_cells HZ3.out
  have q0 := Lib.frozen_of_heap HZ3.out 0
  have q1 := Lib.frozen_of_heap HZ3.out 1
  have q2 := Lib.frozen_of_heap HZ3.out 2
  have hs4 : w.heap.size < w3.heap.size := (Array.getElem?_eq_some_iff.1 HZ3.out).1
  clear hb hb2 p0 p1 p2 x0 x1 x2
  cases g <;> cases g2
  all_goals
    go_wp2_with fail
    obtain ⟨o0, o1, o2⟩ := box_cells (kept_box (put_same HZ3.out (.int .i64 uk) (.int .i64 um) (.string ut)) (below1 _ (.cells #[.int .i64 uk, .int .i64 um, .string ut] 48)))
    exact bodyPost_ret (v := .tuple #[.agg #[.int .i64 uk, .int .i64 um, .string ut], .int .i64 ((pre.length : Int) + 1 + (la : Int) + (lb : Int)), .bool _]) (by simp [results, Tryz.results66, go_sem, o0, o1, o2]) rfl ⟨rfl, (put_below HB3.out (Nat.le_refl _) _ _ _).alloc (put_below HB3.out (Nat.le_refl _) _ _ _).size _⟩
set_option maxRecDepth 100000 in
set_option maxHeartbeats 8000000 in
theorem rv_tr (d off c : Nat) (ts : List Tm) (hl : ts.length ≤ 60) (hc : ts.length ≤ c) (vn vi : Value) (ns : List ByteArray) (vs : List Tm) (t : Tm) (a b e3 : Fm) (iha : RvAt d off c ts vn vi ns vs a) (ihb : RvAt d off c ts vn vi ns vs b) (ihc : RvAt d off c ts vn vi ns vs e3) : RvAt d off c ts vn vi ns vs (.tr t a b e3) := by
  intro pre post i w hwf hts hi hrow hd he hin hok
  have hget := mid_get' (t := t) (post := a.flat ++ (b.flat ++ (e3.flat ++ post))) (by simpa [Fm.flat] using hts)
  have hlt : pre.length < ts.length := (List.getElem?_eq_some_iff.1 hget).1
  obtain ⟨m0, m1, m2, m3⟩ := hrow pre.length t hget
  subst hi
  have hlen : (pre.length : Int) + 1 + (a.flat.length : Int) + (b.flat.length : Int) + (e3.flat.length : Int) ≤ 60 := by have := congrArg List.length hts; simp [Fm.flat] at this; omega
  have e1 : (pre.length : Int) + ((Fm.tr t a b e3).flat.length : Nat) = (pre.length : Int) + 1 + (a.flat.length : Nat) + (b.flat.length : Nat) + (e3.flat.length : Nat) := by simp [Fm.flat]; omega
  rw [e1]
  have hoka : Pl.EnvOk (Pl.envOf ns vs) a := fun u hu => hok u (by simp [Fm.flat, hu])
  have hokb : Pl.EnvOk (Pl.envOf ns vs) b := fun u hu => hok u (by simp [Fm.flat, hu])
  have hokc : Pl.EnvOk (Pl.envOf ns vs) e3 := fun u hu => hok u (by simp [Fm.flat, hu])
  have HA := Lib.hid (fun (W : World) (hb : Below w.heap.size w W) => iha (pre ++ [t]) (b.flat ++ (e3.flat ++ post)) ((pre.length : Int) + 1) W hwf.2.2.1 (by rw [hts]; simp [Fm.flat]) (by simp <;> omega) (hrow.below hb hd) (Nat.lt_of_lt_of_le hd hb.size) (he.below hb) (fun u hu => hin u (by simp [Fm.flat, hu])) hoka)
  have HBB := Lib.hid (fun (W : World) (hb : Below w.heap.size w W) => ihb (pre ++ [t] ++ a.flat) (e3.flat ++ post) ((pre.length : Int) + 1 + (a.flat.length : Nat)) W hwf.2.2.2.1 (by rw [hts]; simp [Fm.flat]) (by simp <;> omega) (hrow.below hb hd) (Nat.lt_of_lt_of_le hd hb.size) (he.below hb) (fun u hu => hin u (by simp [Fm.flat, hu])) hokb)
  have HCC := Lib.hid (fun (W : World) (hb : Below w.heap.size w W) => ihc (pre ++ [t] ++ a.flat ++ b.flat) (post) ((pre.length : Int) + 1 + (a.flat.length : Nat) + (b.flat.length : Nat)) W hwf.2.2.2.2 (by rw [hts]; simp [Fm.flat]) (by simp <;> omega) (hrow.below hb hd) (Nat.lt_of_lt_of_le hd hb.size) (he.below hb) (fun u hu => hin u (by simp [Fm.flat, hu])) hokc)
  have hk := Pl.kinds3 hwf.2.1
  obtain ⟨la, hla⟩ : ∃ la, la = a.flat.length := ⟨_, rfl⟩
  obtain ⟨lb, hlb⟩ : ∃ lb, lb = b.flat.length := ⟨_, rfl⟩
  obtain ⟨lc, hlc⟩ : ∃ lc, lc = e3.flat.length := ⟨_, rfl⟩
  rw [← hla] at HA HBB HCC hlen ⊢
  rw [← hlb] at HBB HCC hlen ⊢
  rw [← hlc] at HCC hlen ⊢
  obtain ⟨V, hV⟩ : ∃ V, V = (Pl.valR (Pl.envOf ns vs) a).1 := ⟨_, rfl⟩
  obtain ⟨g, hg⟩ : ∃ g, g = (Pl.valR (Pl.envOf ns vs) a).2 := ⟨_, rfl⟩
  obtain ⟨Y, hY⟩ : ∃ Y, Y = (Pl.valR (Pl.envOf ns vs) b).1 := ⟨_, rfl⟩
  obtain ⟨g2, hg2⟩ : ∃ g2, g2 = (Pl.valR (Pl.envOf ns vs) b).2 := ⟨_, rfl⟩
  obtain ⟨Z, hZ⟩ : ∃ Z, Z = (Pl.valR (Pl.envOf ns vs) e3).1 := ⟨_, rfl⟩
  obtain ⟨g3, hg3⟩ : ∃ g3, g3 = (Pl.valR (Pl.envOf ns vs) e3).2 := ⟨_, rfl⟩
  have hres : Pl.valR (Pl.envOf ns vs) (.tr t a b e3) = if g = false then (Pl.zeroV, false) else if V.n = 1 then (Y, g2) else (Z, g3) := by rw [hV, hY, hZ, hg, hg2, hg3]; rfl
  rw [← hV, ← hg] at HA
  rw [← hY, ← hg2] at HBB
  rw [← hZ, ← hg3] at HCC
  rw [hres]
  obtain ⟨k, n, s⟩ := t
  obtain ⟨vk, vm, vt⟩ := V
  obtain ⟨yk, ym, yt⟩ := Y
  obtain ⟨zk, zm, zt⟩ := Z
  obtain ⟨nw1, nw0, nwB, nwS⟩ := new2 w (.cells #[.int .i64 0, .int .i64 0, .string ⟨#[]⟩] 48) (.cells #[.int .i64 k, .int .i64 n, .string s] 24)
  have NW1 := Lib.hid nw1
  have NW0 := Lib.hid nw0
  have NWB := Lib.hid nwB
  unfold Tm.agg at HA HBB HCC
  dsimp only at *
  clear hts hget hrow e1 hwf iha ihb ihc hres hV hY hZ hg hg2 hg3 he hin hok hoka hokb hokc hla hlb hlc nw1 nw0 nwB nwS
  subst hk
  cases g with
  | false =>
    rw [if_pos rfl]
    unfold Tm.agg Pl.zeroV
    dsimp only
    go_enter Tryz.func66, Tryz.ntmps66
    go_wp2_with fail
    refine (HA.out _ NWB.out).mono ?_
    rintro e w1 ⟨rfl, hb⟩
    have HT1 := Lib.hid (kept_box NW1.out hb)
    have HZ1 := Lib.hid (kept_box NW0.out hb)
    have HB1 := Lib.hid (NWB.out.trans (hb.mono NWB.out.size))
    obtain ⟨t0, t1, t2⟩ := box_cells HT1.out
    have hs1 : w.heap.size + 1 < w1.heap.size := (Array.getElem?_eq_some_iff.1 HT1.out).1
    clear hb
    go_wp2_with fail
    refine (HBB.out _ (HB1.out.alloc HB1.out.size _)).mono ?_
    rintro e w2 ⟨rfl, hb⟩
    have hb2 := (below1 w1 (.cells #[.int .i64 vk, .int .i64 vm, .string vt] 48)).trans (hb.mono (by simp))
    have HT2 := Lib.hid (kept_box HT1.out hb2)
    have HZ2 := Lib.hid (kept_box HZ1.out hb2)
    have HX2 := Lib.hid (kept_box (MapKept.heap_alloc w1 (.cells #[.int .i64 vk, .int .i64 vm, .string vt] 48)).1 hb)
    have HB2 := Lib.hid (HB1.out.trans (hb2.mono HB1.out.size))
    obtain ⟨p0, p1, p2⟩ := box_cells HT2.out
    have hs2 : w.heap.size + 1 < w2.heap.size := (Array.getElem?_eq_some_iff.1 HT2.out).1
    have hs3 : w1.heap.size < w2.heap.size := (Array.getElem?_eq_some_iff.1 HX2.out).1
    clear hb hb2 t0 t1 t2
    go_wp2_with fail
    refine (HCC.out _ (HB2.out.alloc HB2.out.size _)).mono ?_
    rintro e w3 ⟨rfl, hb⟩
    have hb2 := (below1 w2 (.cells #[.int .i64 yk, .int .i64 ym, .string yt] 48)).trans (hb.mono (by simp))
    have HZ3 := Lib.hid (kept_box HZ2.out hb2)
    have HX3 := Lib.hid (kept_box HX2.out hb2)
    have HY3 := Lib.hid (kept_box (MapKept.heap_alloc w2 (.cells #[.int .i64 yk, .int .i64 ym, .string yt] 48)).1 hb)
    have HB3 := Lib.hid (HB2.out.trans (hb2.mono HB2.out.size))
    obtain ⟨z0, z1, z2⟩ := box_cells HZ3.out
    have q0 := Lib.frozen_of_heap HZ3.out 0
    have q1 := Lib.frozen_of_heap HZ3.out 1
    have q2 := Lib.frozen_of_heap HZ3.out 2
    obtain ⟨x0, x1, x2⟩ := box_cells HX3.out
    obtain ⟨v0, v1, v2⟩ := box_cells HY3.out
    have hs4 : w.heap.size < w3.heap.size := (Array.getElem?_eq_some_iff.1 HZ3.out).1
    have hs5 : w1.heap.size < w3.heap.size := (Array.getElem?_eq_some_iff.1 HX3.out).1
    have hs6 : w2.heap.size < w3.heap.size := (Array.getElem?_eq_some_iff.1 HY3.out).1
    clear hb hb2 p0 p1 p2
    go_wp2_with fail
    obtain ⟨o0, o1, o2⟩ := box_cells (kept_box (put_same HZ3.out (.int .i64 0) (.int .i64 0) (.string ⟨#[]⟩)) (below1 _ (.cells #[.int .i64 zk, .int .i64 zm, .string zt] 48)))
    exact bodyPost_ret (v := .tuple #[.agg #[.int .i64 0, .int .i64 0, .string ⟨#[]⟩], .int .i64 ((pre.length : Int) + 1 + (la : Int) + (lb : Int) + (lc : Int)), .bool false]) (by simp [results, Tryz.results66, go_sem, o0, o1, o2]) rfl ⟨rfl, (put_below HB3.out (Nat.le_refl _) _ _ _).alloc (put_below HB3.out (Nat.le_refl _) _ _ _).size _⟩
  | true =>
    rw [if_neg (by decide)]
    by_cases hv : vm = 1
    · rw [if_pos hv]
      subst hv
      unfold Tm.agg
      dsimp only
      go_enter Tryz.func66, Tryz.ntmps66
      go_wp2_with fail
      refine (HA.out _ NWB.out).mono ?_
      rintro e w1 ⟨rfl, hb⟩
      have HT1 := Lib.hid (kept_box NW1.out hb)
      have HZ1 := Lib.hid (kept_box NW0.out hb)
      have HB1 := Lib.hid (NWB.out.trans (hb.mono NWB.out.size))
      obtain ⟨t0, t1, t2⟩ := box_cells HT1.out
      have hs1 : w.heap.size + 1 < w1.heap.size := (Array.getElem?_eq_some_iff.1 HT1.out).1
      clear hb
      go_wp2_with fail
      refine (HBB.out _ (HB1.out.alloc HB1.out.size _)).mono ?_
      rintro e w2 ⟨rfl, hb⟩
      have hb2 := (below1 w1 (.cells #[.int .i64 vk, .int .i64 1, .string vt] 48)).trans (hb.mono (by simp))
      have HT2 := Lib.hid (kept_box HT1.out hb2)
      have HZ2 := Lib.hid (kept_box HZ1.out hb2)
      have HX2 := Lib.hid (kept_box (MapKept.heap_alloc w1 (.cells #[.int .i64 vk, .int .i64 1, .string vt] 48)).1 hb)
      have HB2 := Lib.hid (HB1.out.trans (hb2.mono HB1.out.size))
      obtain ⟨p0, p1, p2⟩ := box_cells HT2.out
      have hs2 : w.heap.size + 1 < w2.heap.size := (Array.getElem?_eq_some_iff.1 HT2.out).1
      have hs3 : w1.heap.size < w2.heap.size := (Array.getElem?_eq_some_iff.1 HX2.out).1
      clear hb hb2 t0 t1 t2
      go_wp2_with fail
      refine (HCC.out _ (HB2.out.alloc HB2.out.size _)).mono ?_
      rintro e w3 ⟨rfl, hb⟩
      have hb2 := (below1 w2 (.cells #[.int .i64 yk, .int .i64 ym, .string yt] 48)).trans (hb.mono (by simp))
      have HZ3 := Lib.hid (kept_box HZ2.out hb2)
      have HX3 := Lib.hid (kept_box HX2.out hb2)
      have HY3 := Lib.hid (kept_box (MapKept.heap_alloc w2 (.cells #[.int .i64 yk, .int .i64 ym, .string yt] 48)).1 hb)
      have HB3 := Lib.hid (HB2.out.trans (hb2.mono HB2.out.size))
      obtain ⟨z0, z1, z2⟩ := box_cells HZ3.out
      have q0 := Lib.frozen_of_heap HZ3.out 0
      have q1 := Lib.frozen_of_heap HZ3.out 1
      have q2 := Lib.frozen_of_heap HZ3.out 2
      obtain ⟨x0, x1, x2⟩ := box_cells HX3.out
      obtain ⟨v0, v1, v2⟩ := box_cells HY3.out
      have hs4 : w.heap.size < w3.heap.size := (Array.getElem?_eq_some_iff.1 HZ3.out).1
      have hs5 : w1.heap.size < w3.heap.size := (Array.getElem?_eq_some_iff.1 HX3.out).1
      have hs6 : w2.heap.size < w3.heap.size := (Array.getElem?_eq_some_iff.1 HY3.out).1
      clear hb hb2 p0 p1 p2
      go_wp2_with fail
      obtain ⟨o0, o1, o2⟩ := box_cells (kept_box (put_same HZ3.out (.int .i64 yk) (.int .i64 ym) (.string yt)) (below1 _ (.cells #[.int .i64 zk, .int .i64 zm, .string zt] 48)))
      exact bodyPost_ret (v := .tuple #[.agg #[.int .i64 yk, .int .i64 ym, .string yt], .int .i64 ((pre.length : Int) + 1 + (la : Int) + (lb : Int) + (lc : Int)), .bool g2]) (by simp [results, Tryz.results66, go_sem, o0, o1, o2]) rfl ⟨rfl, (put_below HB3.out (Nat.le_refl _) _ _ _).alloc (put_below HB3.out (Nat.le_refl _) _ _ _).size _⟩
    · rw [if_neg hv]
      have hv1 : (vm == 1) = false := by simpa using hv
      unfold Tm.agg
      dsimp only
      go_enter Tryz.func66, Tryz.ntmps66
      go_wp2_with fail
      refine (HA.out _ NWB.out).mono ?_
      rintro e w1 ⟨rfl, hb⟩
      have HT1 := Lib.hid (kept_box NW1.out hb)
      have HZ1 := Lib.hid (kept_box NW0.out hb)
      have HB1 := Lib.hid (NWB.out.trans (hb.mono NWB.out.size))
      obtain ⟨t0, t1, t2⟩ := box_cells HT1.out
      have hs1 : w.heap.size + 1 < w1.heap.size := (Array.getElem?_eq_some_iff.1 HT1.out).1
      clear hb
      go_wp2_with fail
      refine (HBB.out _ (HB1.out.alloc HB1.out.size _)).mono ?_
      rintro e w2 ⟨rfl, hb⟩
      have hb2 := (below1 w1 (.cells #[.int .i64 vk, .int .i64 vm, .string vt] 48)).trans (hb.mono (by simp))
      have HT2 := Lib.hid (kept_box HT1.out hb2)
      have HZ2 := Lib.hid (kept_box HZ1.out hb2)
      have HX2 := Lib.hid (kept_box (MapKept.heap_alloc w1 (.cells #[.int .i64 vk, .int .i64 vm, .string vt] 48)).1 hb)
      have HB2 := Lib.hid (HB1.out.trans (hb2.mono HB1.out.size))
      obtain ⟨p0, p1, p2⟩ := box_cells HT2.out
      have hs2 : w.heap.size + 1 < w2.heap.size := (Array.getElem?_eq_some_iff.1 HT2.out).1
      have hs3 : w1.heap.size < w2.heap.size := (Array.getElem?_eq_some_iff.1 HX2.out).1
      clear hb hb2 t0 t1 t2
      go_wp2_with fail
      refine (HCC.out _ (HB2.out.alloc HB2.out.size _)).mono ?_
      rintro e w3 ⟨rfl, hb⟩
      have hb2 := (below1 w2 (.cells #[.int .i64 yk, .int .i64 ym, .string yt] 48)).trans (hb.mono (by simp))
      have HZ3 := Lib.hid (kept_box HZ2.out hb2)
      have HX3 := Lib.hid (kept_box HX2.out hb2)
      have HY3 := Lib.hid (kept_box (MapKept.heap_alloc w2 (.cells #[.int .i64 yk, .int .i64 ym, .string yt] 48)).1 hb)
      have HB3 := Lib.hid (HB2.out.trans (hb2.mono HB2.out.size))
      obtain ⟨z0, z1, z2⟩ := box_cells HZ3.out
      have q0 := Lib.frozen_of_heap HZ3.out 0
      have q1 := Lib.frozen_of_heap HZ3.out 1
      have q2 := Lib.frozen_of_heap HZ3.out 2
      obtain ⟨x0, x1, x2⟩ := box_cells HX3.out
      obtain ⟨v0, v1, v2⟩ := box_cells HY3.out
      have hs4 : w.heap.size < w3.heap.size := (Array.getElem?_eq_some_iff.1 HZ3.out).1
      have hs5 : w1.heap.size < w3.heap.size := (Array.getElem?_eq_some_iff.1 HX3.out).1
      have hs6 : w2.heap.size < w3.heap.size := (Array.getElem?_eq_some_iff.1 HY3.out).1
      clear hb hb2 p0 p1 p2
      go_wp2_with fail
      obtain ⟨o0, o1, o2⟩ := box_cells (kept_box (put_same HZ3.out (.int .i64 zk) (.int .i64 zm) (.string zt)) (below1 _ (.cells #[.int .i64 zk, .int .i64 zm, .string zt] 48)))
      exact bodyPost_ret (v := .tuple #[.agg #[.int .i64 zk, .int .i64 zm, .string zt], .int .i64 ((pre.length : Int) + 1 + (la : Int) + (lb : Int) + (lc : Int)), .bool g3]) (by simp [results, Tryz.results66, go_sem, o0, o1, o2]) rfl ⟨rfl, (put_below HB3.out (Nat.le_refl _) _ _ _).alloc (put_below HB3.out (Nat.le_refl _) _ _ _).size _⟩
theorem rv_all (d off c : Nat) (ts : List Tm) (hl : ts.length ≤ 60) (hc : ts.length ≤ c) (vn vi : Value) (ns : List ByteArray) (vs : List Tm) : ∀ f : Fm, RvAt d off c ts vn vi ns vs f
  | .lf t => rv_lf d off c ts hl hc vn vi ns vs t
  | .un t a => rv_un d off c ts hl hc vn vi ns vs t a (rv_all d off c ts hl hc vn vi ns vs a)
  | .bi t a b => rv_bi d off c ts hl hc vn vi ns vs t a b (rv_all d off c ts hl hc vn vi ns vs a) (rv_all d off c ts hl hc vn vi ns vs b)
  | .tr t a b e => rv_tr d off c ts hl hc vn vi ns vs t a b e (rv_all d off c ts hl hc vn vi ns vs a) (rv_all d off c ts hl hc vn vi ns vs b) (rv_all d off c ts hl hc vn vi ns vs e)
end Go.Proofs.YtchoelgkcnnnkaaGreatDoor
