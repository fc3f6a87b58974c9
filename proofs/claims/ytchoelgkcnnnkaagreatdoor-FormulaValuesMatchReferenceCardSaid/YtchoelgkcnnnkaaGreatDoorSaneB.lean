/- WALKS: the reference's comparing of lists, where they are equal; values of an operator (has, of). · WALKS: a formula of one operator and its value (has). · PLAIN FACTS: the chapter's examples, reckoned. · WALK: the chapter's examples (sane). -/
import Derived.Test.YtchoelgkcnnnkaaGreatDoorValJ
set_option linter.all false
namespace Go.Proofs.YtchoelgkcnnnkaaGreatDoor
open Go.RowKit
set_option maxRecDepth 100000 in
set_option maxHeartbeats 2000000 in
theorem same_true (v u : Value) (ts : List Tm) (w : World) (hT : TermsIn w v ts) (hU : TermsIn w u ts) (hl : ts.length ≤ 1000000000) :
    Calls Tryz.prog 24 #[v, u] w fun e w' => e = .returned (.bool true) ∧ Below w.heap.size w w' := by
  obtain ⟨a, c, rfl, hc, _, hr⟩ := hT
  obtain ⟨a2, c2, rfl, hc2, _, hr2⟩ := hU
  have HR := Lib.hid hr
  have HR2 := Lib.hid hr2
  clear hr hr2
  go_enter Tryz.func24, Tryz.ntmps24
  go_wp2
  go_loopw [5] (fun i wr => ∃ k : Nat, k ≤ ts.length ∧ i = .int .i64 k ∧ Below w.heap.size w wr) (fun i _ => ts.length - (intOf i).toNat)
  case atStart => exact ⟨0, Nat.zero_le _, rfl, Below.refl _ _⟩
  case round =>
    obtain ⟨k, hk, rfl, hb⟩ := hrel
    by_cases hkl : k < ts.length
    · have hne : ts ≠ [] := by intro h; rw [h] at hkl; simp at hkl
      obtain ⟨b, off, rfl, hrow⟩ := HR.out hne
      obtain ⟨b2, off2, rfl, hrow2⟩ := HR2.out hne
      obtain ⟨t, ht⟩ : ∃ t, ts[k]? = some t := ⟨ts[k], by simp⟩
      obtain ⟨x0, x1, x2, _⟩ := (hrow.below hb (hrow.lt hne)) k t ht
      obtain ⟨y0, y1, y2, _⟩ := (hrow2.below hb (hrow2.lt hne)) k t ht
      obtain ⟨tk, tn, tss⟩ := t
      have HB := Lib.hid hb
      clear ht hrow hrow2 hb hne
      go_wp2_with fail
      go_quiet (fail)
      go_wp2
      go_roundw
      case rel => exact ⟨k + 1, by omega, by go_num, below_drewN HB.out _⟩
      case measure => simp [intOf]; omega
    · obtain rfl : k = ts.length := by omega
      go_wp2
      go_ret
      exact ⟨rfl, hb⟩
/-- A slice that reads as a list of texts. -/
def StrsIn (w : World) (v : Value) (ns : List ByteArray) : Prop :=
  ∃ a c, v = .slice a ns.length c ∧ ns.length ≤ c ∧ (ns ≠ [] → ∃ g, a = some ⟨g, 0, none⟩ ∧ g < w.heap.size ∧ ∀ j x, ns[j]? = some x → w.cell? ⟨g, j, none⟩ = some (.string x))
theorem StrsIn.below {w w' : World} {v : Value} {ns : List ByteArray} (h : StrsIn w v ns) (hb : Below w.heap.size w w') : StrsIn w' v ns := by
  obtain ⟨a, c, h1, h2, h3⟩ := h
  refine ⟨a, c, h1, h2, fun hne => ?_⟩
  obtain ⟨g, h4, h5, h6⟩ := h3 hne
  exact ⟨g, h4, Nat.lt_of_lt_of_le h5 hb.size, fun j x hx => (hb.cell (p := ⟨g, j, none⟩) h5).trans (h6 j x hx)⟩
set_option maxRecDepth 100000 in
set_option maxHeartbeats 2000000 in
theorem strings_true (v u : Value) (ns : List ByteArray) (w : World) (hT : StrsIn w v ns) (hU : StrsIn w u ns) (hl : ns.length ≤ 1000000000) :
    Calls Tryz.prog 19 #[v, u] w fun e w' => e = .returned (.bool true) ∧ Below w.heap.size w w' := by
  obtain ⟨a, c, rfl, hc, hr⟩ := hT
  obtain ⟨a2, c2, rfl, hc2, hr2⟩ := hU
  have HR := Lib.hid hr
  have HR2 := Lib.hid hr2
  clear hr hr2
  go_enter Tryz.func19, Tryz.ntmps19
  go_wp2
  go_loopw [5] (fun i wr => ∃ k : Nat, k ≤ ns.length ∧ i = .int .i64 k ∧ Below w.heap.size w wr) (fun i _ => ns.length - (intOf i).toNat)
  case atStart => exact ⟨0, Nat.zero_le _, rfl, Below.refl _ _⟩
  case round =>
    obtain ⟨k, hk, rfl, hb⟩ := hrel
    by_cases hkl : k < ns.length
    · have hne : ns ≠ [] := by intro h; rw [h] at hkl; simp at hkl
      obtain ⟨g, rfl, hg, hgc⟩ := HR.out hne
      obtain ⟨g2, rfl, hg2, hgc2⟩ := HR2.out hne
      obtain ⟨x, hx⟩ : ∃ x, ns[k]? = some x := ⟨ns[k], by simp⟩
      have x0 := (hb.cell (p := ⟨g, k, none⟩) hg).trans (hgc k x hx)
      have y0 := (hb.cell (p := ⟨g2, k, none⟩) hg2).trans (hgc2 k x hx)
      have HB := Lib.hid hb
      clear hx hgc hgc2 hb hne
      go_wp2_with fail
      go_quiet (fail)
      go_wp2
      go_roundw
      case rel => exact ⟨k + 1, by omega, by go_num, below_drewN HB.out _⟩
      case measure => simp [intOf]; omega
    · obtain rfl : k = ns.length := by omega
      go_wp2
      go_ret
      exact ⟨rfl, hb⟩
end Go.Proofs.YtchoelgkcnnnkaaGreatDoor
namespace Go.Proofs.YtchoelgkcnnnkaaGreatDoor
open Go.RowKit
theorem number_is (n : Int) (w : World) :
    Calls Tryz.prog 34 #[.int .i64 n] w fun e w' => e = .returned (.agg #[.int .i64 1, .int .i64 n, .string ⟨#[]⟩]) ∧ Below w.heap.size w w' := number_any n w
theorem digit_is (n : Int) (w : World) :
    Calls Tryz.prog 36 #[.int .i64 n] w fun e w' => e = .returned (.agg #[.int .i64 1, .int .i64 n, .string ⟨#[]⟩]) ∧ Below w.heap.size w w' := digit_any n w
theorem name_is (s : ByteArray) (w : World) :
    Calls Tryz.prog 33 #[.string s] w fun e w' => e = .returned (.agg #[.int .i64 4, .int .i64 0, .string s]) ∧ Below w.heap.size w w' := nameT_any s w
theorem value_use (f : Fm) (ts : List Tm) (hts : ts = f.flat) (vs : List Tm) (ns : List ByteArray) (hns : ns = Pl.namesOf ts) (d off n c d2 off2 n2 c2 : Nat) (hn : n = ts.length) (hn2 : n2 = vs.length) (w : World) (hrow : RowIn w d off ts) (hcap : n ≤ c) (hrow2 : RowIn w d2 off2 vs) (hcap2 : n2 ≤ c2) (hwf : f.wf) (hl : n ≤ 60) (hd : f.depth ≤ 12) (hty : Pl.ty f ≠ 0)
    (hlen : vs.length = ns.length) (hok : ∀ (i : Nat) m x, ns[i]? = some m → vs[i]? = some x → Pl.validV x = true ∧ x.k = Pl.typeOf m.data.toList) (r : Option Tm) (HR : Hid (r = Pl.val (Pl.envOf ns vs) f)) :
    Calls Tryz.prog 28 #[.slice (some ⟨d, off, none⟩) n c, .slice (some ⟨d2, off2, none⟩) n2 c2] w (ValPost r w) := by
  subst hts hns hn hn2
  rw [HR.out]
  exact value_ok _ f vs d off c w hcap hrow ⟨_, _, rfl, hcap2, by rintro p ⟨⟩; rfl, fun _ => ⟨_, _, rfl, hrow2⟩⟩ hwf hl hd hty hlen hok
def fmHas (kind byn : Int) : Fm := .bi ⟨kind, 0, ⟨#[]⟩⟩ (.lf ⟨4, 0, ⟨#[110]⟩⟩) (.lf ⟨1, byn, ⟨#[]⟩⟩)
theorem has_wf (kind byn : Int) (hk : kind = 11 ∨ kind = 12) (hb : 0 ≤ byn ∧ byn ≤ 1000000000000) : (fmHas kind byn).wf := by
  have h4 : Pl.formed ⟨4, 0, ⟨#[110]⟩⟩ = true := by decide +kernel
  have h1 : Pl.formed ⟨1, byn, ⟨#[]⟩⟩ = true := by
    simp only [Pl.formed, if_true, decide_eq_true hb.1, decide_eq_true hb.2, Bool.true_and]
    decide +kernel
  rcases hk with rfl | rfl
  · exact ⟨by decide +kernel, by decide, ⟨h4, by decide⟩, ⟨h1, rfl⟩⟩
  · exact ⟨by decide +kernel, by decide, ⟨h4, by decide⟩, ⟨h1, rfl⟩⟩
theorem has_names (kind byn : Int) (hk : kind = 11 ∨ kind = 12) : [⟨#[110]⟩] = Pl.namesOf [⟨kind, 0, ⟨#[]⟩⟩, ⟨4, 0, ⟨#[110]⟩⟩, ⟨1, byn, ⟨#[]⟩⟩] := by
  rcases hk with rfl | rfl <;> rfl
theorem validV_num (n : Int) (h0 : -1000000000000 ≤ n) (h1 : n ≤ 1000000000000) : Pl.validV ⟨1, n, ⟨#[]⟩⟩ = true := by
  simp only [Pl.validV, if_true, decide_eq_true h0, decide_eq_true h1, Bool.true_and]
  decide +kernel
set_option maxRecDepth 100000 in
set_option maxHeartbeats 2000000 in
theorem has_any (kind n byn want : Int) (isb : Bool) (w : World) (hk : kind = 11 ∨ kind = 12) (hn : -1000000000000 ≤ n ∧ n ≤ 1000000000000) (hb : 0 ≤ byn ∧ byn ≤ 1000000000000)
    (hval : Hid ((if isb then some (numV want) else none) = Pl.val (Pl.envOf [⟨#[110]⟩] [⟨1, n, ⟨#[]⟩⟩]) (fmHas kind byn))) :
    Calls Tryz.prog 37 #[.int .i64 kind, .int .i64 n, .int .i64 byn, .int .i64 want, .bool isb] w fun e w' => e = .returned (.bool true) ∧ Below w.heap.size w w' := by
  have hwf := Lib.hid (has_wf kind byn hk hb)
  have hnm := Lib.hid (has_names kind byn hk)
  have hty : Hid (Pl.ty (fmHas kind byn) ≠ 0) := Lib.hid (by rcases hk with rfl | rfl <;> (intro h; cases (show (1 : Int) = 0 from h)))
  have HN := Lib.hid hn
  have HK := Lib.hid hk
  clear hk hn hb
  go_enter Tryz.func37, Tryz.ntmps37
  go_wp2_with (first | (go_at_call 33; refine (name_is _ _).mono ?_; rintro e w1 ⟨rfl, hb1⟩; have HB1 := Lib.hid hb1; clear hb1) | (go_at_call 36; refine (digit_is _ _).mono ?_; rintro e w2 ⟨rfl, hb2⟩; have HB2 := Lib.hid hb2; clear hb2) | (go_at_call 34; refine (number_is _ _).mono ?_; rintro e w3 ⟨rfl, hb3⟩; have HB3 := Lib.hid hb3; clear hb3))
  have hblk : w3.heap[w2.heap.size]? = some (.cells #[.int .i64 kind, .int .i64 0, .string ⟨#[]⟩, .int .i64 4, .int .i64 0, .string ⟨#[110]⟩, .int .i64 1, .int .i64 byn, .string ⟨#[]⟩] 24 (0, 0)) := by
    rw [HB3.out.block _ (by simp)]
    exact (MapKept.heap_alloc w2 _).1
  have hbel : Below w.heap.size w w3 := (HB1.out.trans (HB2.out.mono HB1.out.size)).trans (((below1 w2 _).trans (HB3.out.mono (by simp))).mono (Nat.le_trans HB1.out.size HB2.out.size))
  have hr1 : RowIn (w3.alloc (.cells #[.int .i64 1, .int .i64 n, .string ⟨#[]⟩] 48)) w2.heap.size 0 [⟨kind, 0, ⟨#[]⟩⟩, ⟨4, 0, ⟨#[110]⟩⟩, ⟨1, byn, ⟨#[]⟩⟩] :=
    (rowIn_block rfl hblk (by intro t ht; simp at ht; rcases ht with rfl | rfl | rfl <;> first | exact Nat.zero_le _ | decide)).below (below1 w3 _) (Array.getElem?_eq_some_iff.1 hblk).1
  have hr2 : RowIn (w3.alloc (.cells #[.int .i64 1, .int .i64 n, .string ⟨#[]⟩] 48)) w3.heap.size 0 [⟨1, n, ⟨#[]⟩⟩] :=
    rowIn_block rfl (MapKept.heap_alloc w3 _).1 (by intro t ht; simp at ht; subst ht; exact Nat.zero_le _)
  have HBL := Lib.hid (hbel.trans ((below1 w3 (.cells #[.int .i64 1, .int .i64 n, .string ⟨#[]⟩] 48)).mono hbel.size))
  clear hblk hbel
  refine (value_use (fmHas kind byn) _ rfl [⟨1, n, ⟨#[]⟩⟩] [⟨#[110]⟩] hnm.out w2.heap.size 0 3 3 w3.heap.size 0 1 1 rfl rfl _ hr1 (by omega) hr2 (by omega) hwf.out (by omega) (by simp [fmHas, Fm.depth]) hty.out rfl (by
    intro i m x hm hx
    match i, hm, hx with
    | 0, hm, hx =>
      simp at hm hx
      subst hm hx
      exact ⟨validV_num n HN.out.1 HN.out.2, rfl⟩
    | i + 1, hm, _ => simp at hm) _ hval).mono ?_
  rintro e w5 ⟨hr, hb5⟩
  have HB5 := Lib.hid (HBL.out.trans (hb5.mono HBL.out.size))
  clear hr1 hr2 hb5
  cases isb with
  | false =>
    obtain rfl : e = .returned (.tuple #[Pl.zeroV.agg, .bool false, .int .i64 0]) := hr
    unfold Pl.zeroV Tm.agg
    go_wp2_with fail
    go_quiet (fail)
    go_wp2_with fail
    go_ret
    exact ⟨rfl, HB5.out.trans (((below1 w5 _).trans (below_drewN' (Below.refl _ _) _)).mono HB5.out.size)⟩
  | true =>
    obtain rfl : e = .returned (.tuple #[(numV want).agg, .bool true, .int .i64 0]) := hr
    rw [num_agg]
    go_wp2_with fail
    have bx := Box3.new w5 (.int .i64 1) (.int .i64 want) (.string ⟨#[]⟩) 48
    have HB6 := Lib.hid (HB5.out.trans ((below1 w5 (.cells #[.int .i64 1, .int .i64 want, .string ⟨#[]⟩] 48)).mono HB5.out.size))
    generalize (w5.alloc (.cells #[.int .i64 1, .int .i64 want, .string ⟨#[]⟩] 48)) = w6 at bx HB6 ⊢
    obtain ⟨d0, d1, d2, _, _, _⟩ := bx.cells
    have BX := Lib.hid bx
    clear bx
    go_region_held3 (fun w' => w'.cell? ⟨w5.heap.size, 0, none⟩ = some (.int .i64 1) ∧ w'.cell? ⟨w5.heap.size, 1, none⟩ = some (.int .i64 want) ∧ w'.cell? ⟨w5.heap.size, 2, none⟩ = some (.string ⟨#[]⟩)) (first | exact ⟨d0, d1, d2⟩ | exact ⟨e0, e1, e2⟩) (first | (go_at_call 34; refine (number_is want _).mono ?_; rintro e w7 ⟨rfl, hb7⟩; have HB7 := Lib.hid hb7; obtain ⟨e0, e1, e2, _, _, _⟩ := ((show Box3 w6.drew w5.heap.size (.int .i64 1) (.int .i64 want) (.string ⟨#[]⟩) 48 from BX.out).keep hb7).cells; clear hb7))
    go_wp2_with fail
    go_ret
    exact ⟨rfl, (HB6.out.trans (below_drewN' (Below.refl _ _) 1)).trans (HB7.out.mono HB6.out.size)⟩
end Go.Proofs.YtchoelgkcnnnkaaGreatDoor
set_option linter.all false
namespace Go.Proofs.YtchoelgkcnnnkaaGreatDoor
open Go.RowKit
namespace Ex
def s15 : ByteArray := ⟨#[63, 40, 116, 44, 40, 110, 49, 47, 50, 41, 44, 45, 110, 50, 41]⟩
def s4 : ByteArray := ⟨#[40, 49, 43, 41]⟩
/-- (1+n) -/
def f1 : Fm := .bi ⟨8, 0, ⟨#[]⟩⟩ (.lf ⟨1, 1, ⟨#[]⟩⟩) (.lf ⟨4, 0, ⟨#[110]⟩⟩)
/-- (1+'a') -/
def f2 : Fm := .bi ⟨8, 0, ⟨#[]⟩⟩ (.lf ⟨1, 1, ⟨#[]⟩⟩) (.lf ⟨3, 0, ⟨#[97]⟩⟩)
/-- ?(t,(n1/2),-n2) -/
def f3 : Fm := .tr (Pl.mk0 17) (.lf ⟨4, 0, ⟨#[116]⟩⟩) (.bi (Pl.mk0 11) (.lf ⟨4, 0, ⟨#[110, 49]⟩⟩) (.lf ⟨1, 2, ⟨#[]⟩⟩)) (.un (Pl.mk0 5) (.lf ⟨4, 0, ⟨#[110, 50]⟩⟩))
theorem wf1 : f1.wf := ⟨by decide +kernel, by decide, ⟨by decide +kernel, by decide⟩, ⟨by decide +kernel, by decide⟩⟩
theorem wf2 : f2.wf := ⟨by decide +kernel, by decide, ⟨by decide +kernel, by decide⟩, ⟨by decide +kernel, by decide⟩⟩
theorem wf3 : f3.wf := ⟨by decide +kernel, by decide, ⟨by decide +kernel, by decide⟩, ⟨by decide +kernel, by decide, ⟨by decide +kernel, by decide⟩, ⟨by decide +kernel, by decide⟩⟩, ⟨by decide +kernel, by decide, ⟨by decide +kernel, by decide⟩⟩⟩
theorem text1 : mkS (Pl.text f1) = ⟨#[40, 49, 43, 110, 41]⟩ := by kernel_rfl
theorem rd3 : Pl.rd s15 20 0 = .ok f3 15 := by kernel_rfl
theorem rd4 : Pl.rd s4 20 0 = .bad 3 := by kernel_rfl
theorem ty2 : Pl.ty f2 = 0 ∧ Pl.wrongAt f2 0 (-1) = 0 := ⟨by kernel_rfl, by kernel_rfl⟩
theorem ty3 : Pl.ty f3 = 1 ∧ Pl.wrongAt f3 0 (-1) = -1 := ⟨by kernel_rfl, by kernel_rfl⟩
theorem names3 : Pl.namesOf f3.flat = [⟨#[116]⟩, ⟨#[110, 49]⟩, ⟨#[110, 50]⟩] := by kernel_rfl
theorem valid2 : true = Pl.validB f2.flat := ((Pl.validB_iff f2.flat).2 ⟨by decide, f2, wf2, by decide, rfl⟩).symm
theorem valid3 : true = Pl.validB f3.flat := ((Pl.validB_iff f3.flat).2 ⟨by decide, f3, wf3, by decide, rfl⟩).symm
theorem notvalid2 : false = Pl.validB [⟨8, 0, ⟨#[]⟩⟩, ⟨1, 1, ⟨#[]⟩⟩] := by kernel_rfl
theorem notvalid0 : false = Pl.validB [] := by kernel_rfl
theorem has1 : (if true then some (numV (-4)) else none) = Pl.val (Pl.envOf [⟨#[110]⟩] [⟨1, -7, ⟨#[]⟩⟩]) (fmHas 11 2) := by kernel_rfl
theorem has2 : (if true then some (numV 1) else none) = Pl.val (Pl.envOf [⟨#[110]⟩] [⟨1, -7, ⟨#[]⟩⟩]) (fmHas 12 2) := by kernel_rfl
theorem has3 : (if false then some (numV 0) else none) = Pl.val (Pl.envOf [⟨#[110]⟩] [⟨1, 3, ⟨#[]⟩⟩]) (fmHas 11 0) := by kernel_rfl
theorem types : 1 = Pl.typeOf [110, 49] ∧ 2 = Pl.typeOf [116] ∧ 3 = Pl.typeOf [115, 57, 57] ∧ 0 = Pl.typeOf [110, 48, 49] := ⟨by decide +kernel, by decide +kernel, by decide +kernel, by decide +kernel⟩
theorem vv : true = Pl.validV ⟨1, 5, ⟨#[]⟩⟩ ∧ false = Pl.validV ⟨0, 0, ⟨#[]⟩⟩ := ⟨by decide +kernel, by decide +kernel⟩
end Ex
end Go.Proofs.YtchoelgkcnnnkaaGreatDoor
namespace Go.Proofs.YtchoelgkcnnnkaaGreatDoor
open Go.RowKit
theorem strs_new {w : World} {ns : List ByteArray} {n : Nat} {cs : Array Value} {T : TypeId} (hn : n = ns.length) (hc : cs = (ns.map Value.string).toArray) : StrsIn (w.alloc (.cells cs T)) (.slice (some ⟨w.heap.size, 0, none⟩) n n) ns := by
  subst hn hc
  refine ⟨_, _, rfl, Nat.le_refl _, fun _ => ⟨_, rfl, by simp, fun j x hx => ?_⟩⟩
  rw [Lib.cell_of_heap (MapKept.heap_alloc w _).1]
  simp [hx]
set_option maxRecDepth 100000 in
set_option maxHeartbeats 4000000 in
theorem sane_any (w : World) (hG : Glob w) : Calls Tryz.prog 10 #[] w fun e w' => e = .returned (.bool true) ∧ Below w.heap.size w w' := by
  have HG := Lib.hid hG
  have h8 := hG.size
  clear hG
  go_enter Tryz.func10, Tryz.ntmps10
  go_wp2_with fail
  refine (digit_is 1 _).mono ?_
  rintro e w1 ⟨rfl, hb1⟩
  have HB1 := Lib.hid hb1
  clear hb1
  go_wp2_with fail
  refine (name_is _ _).mono ?_
  rintro e w2 ⟨rfl, hb2⟩
  have HB2 := Lib.hid (HB1.out.trans (hb2.mono HB1.out.size))
  clear hb2
  go_wp2_with fail
  have hT1 := terms_new (w := w2) (ts := Ex.f1.flat) (T := 24) (n := 3) rfl rfl (small_terms (by decide))
  have HB3 := Lib.hid (HB2.out.trans ((below1 w2 (.cells (tmCells Ex.f1.flat).toArray 24)).mono HB2.out.size))
  refine (print_ok _ Ex.f1 _ hT1 (HG.out.below HB3.out h8) Ex.wf1 (by decide) (by decide)).mono ?_
  rintro e w4 ⟨rfl, hb4⟩
  rw [Ex.text1]
  have HB4 := Lib.hid (HB3.out.trans (hb4.mono HB3.out.size))
  clear hb4 hT1
  go_wp2_with fail
  refine (parse_ok Ex.s15 (by decide) 20 (by decide) _ (HG.out.below HB4.out h8) Ex.f3 15 (by decide) (Lib.hid Ex.valid3) (Lib.hid Ex.rd3)).mono ?_
  rintro e w5 ⟨vf, rfl, hTf, hb5⟩
  have HB5 := Lib.hid (HB4.out.trans (hb5.mono HB4.out.size))
  obtain ⟨fa, fc, rfl, hfc, hfsp, hfr⟩ := hTf
  obtain ⟨fd, foff, rfl, hfrow⟩ := hfr Ex.f3.flat_ne
  have HTF : Hid (TermsIn w5 (.slice (some ⟨fd, foff, none⟩) Ex.f3.flat.length fc) Ex.f3.flat) := Lib.hid ⟨_, _, rfl, hfc, hfsp, fun _ => ⟨_, _, rfl, hfrow⟩⟩
  have hfl : Ex.f3.flat.length = 7 := rfl
  have HFL := Lib.hid hfl
  clear hb5 hfr hfrow hfsp hfl
  go_wp2_with fail
  refine (parse_bad Ex.s4 (by decide) 20 (by decide) _ (HG.out.below HB5.out h8) 3 (Lib.hid Ex.rd4)).mono ?_
  rintro e w6 ⟨rfl, hb6⟩
  have HB6 := Lib.hid (HB5.out.trans (hb6.mono HB5.out.size))
  have HTF6 := Lib.hid (HTF.out.below hb6)
  clear hb6
  go_wp2_with fail
  refine (digit_is 1 _).mono ?_
  rintro e w7 ⟨rfl, hb7⟩
  have HB7 := Lib.hid (HB6.out.trans (hb7.mono HB6.out.size))
  have HTF7 := Lib.hid (HTF6.out.below hb7)
  clear hb7
  go_wp2_with fail
  have hT2 := terms_new (w := w7) (ts := Ex.f2.flat) (T := 24) (n := 3) rfl rfl (small_terms (by decide))
  have HTF7a := Lib.hid (HTF7.out.below (below1 w7 (.cells (tmCells Ex.f2.flat).toArray 24)))
  have HB7a := Lib.hid (HB7.out.trans ((below1 w7 (.cells (tmCells Ex.f2.flat).toArray 24)).mono HB7.out.size))
  refine (type_ok _ Ex.f2 _ hT2 Ex.wf2 (by decide) (by decide)).mono ?_
  rintro e w8 ⟨rfl, hb8⟩
  rw [Ex.ty2.1, Ex.ty2.2]
  have HB8 := Lib.hid (HB7a.out.trans (hb8.mono HB7a.out.size))
  have HTF8 := Lib.hid (HTF7a.out.below hb8)
  have HT28 := Lib.hid (hT2.below hb8)
  clear hb8 hT2
  go_wp2_with fail
  refine (type_ok _ Ex.f3 _ HTF8.out Ex.wf3 (by decide) (by decide)).mono ?_
  rintro e w9 ⟨rfl, hb9⟩
  rw [Ex.ty3.1, Ex.ty3.2]
  have HB9 := Lib.hid (HB8.out.trans (hb9.mono HB8.out.size))
  have HTF9 := Lib.hid (HTF8.out.below hb9)
  have HT29 := Lib.hid (HT28.out.below hb9)
  clear hb9
  go_wp2_with fail
  have hrow9 : RowIn w9 fd foff Ex.f3.flat := by
    obtain ⟨a, c, h1, _, _, h4⟩ := HTF9.out
    obtain ⟨b, o, h5, h6⟩ := h4 Ex.f3.flat_ne
    simp only [Value.slice.injEq] at h1
    obtain ⟨h7, _, _⟩ := h1
    rw [h5] at h7
    simp at h7
    obtain ⟨rfl, rfl⟩ := h7
    exact h6
  refine (names_ok Ex.f3.flat fd foff fc _ hfc hrow9 (by decide) Ex.f3.flat_ne (Lib.hid Ex.valid3)).mono ?_
  rintro e w10 ⟨vn, rfl, hst, hb10⟩
  have hNS : StrsIn w10 vn [⟨#[116]⟩, ⟨#[110, 49]⟩, ⟨#[110, 50]⟩] := by rw [← Ex.names3]; exact names_shape hst
  have HNS := Lib.hid hNS
  have HB10 := Lib.hid (HB9.out.trans (hb10.mono HB9.out.size))
  have HTF10 := Lib.hid (HTF9.out.below hb10)
  have HT210 := Lib.hid (HT29.out.below hb10)
  clear hb10 hst hNS hrow9
  go_wp2_with fail
  refine (print_bad (.slice none 0 0) [] _ ⟨none, 0, rfl, Nat.le_refl _, by simp, fun h => absurd rfl h⟩ (by decide) (Lib.hid Ex.notvalid0)).mono ?_
  rintro e w11 ⟨rfl, hb11⟩
  have HB11 := Lib.hid (HB10.out.trans (hb11.mono HB10.out.size))
  have HTF11 := Lib.hid (HTF10.out.below hb11)
  have HT211 := Lib.hid (HT210.out.below hb11)
  have HNS11 := Lib.hid (HNS.out.below hb11)
  clear hb11
  go_wp2_with fail
  refine (name_is _ _).mono ?_
  rintro e w12 ⟨rfl, hb12⟩
  have HB12 := Lib.hid (HB11.out.trans (hb12.mono HB11.out.size))
  have HTF12 := Lib.hid (HTF11.out.below hb12)
  have HT212 := Lib.hid (HT211.out.below hb12)
  have HNS12 := Lib.hid (HNS11.out.below hb12)
  clear hb12
  go_wp2_with fail
  refine (name_is _ _).mono ?_
  rintro e w13 ⟨rfl, hb13⟩
  have HB13 := Lib.hid (HB12.out.trans (hb13.mono HB12.out.size))
  have HTF13 := Lib.hid (HTF12.out.below hb13)
  have HT213 := Lib.hid (HT212.out.below hb13)
  have HNS13 := Lib.hid (HNS12.out.below hb13)
  clear hb13
  go_wp2_with fail
  refine (digit_is 2 _).mono ?_
  rintro e w14 ⟨rfl, hb14⟩
  have HB14 := Lib.hid (HB13.out.trans (hb14.mono HB13.out.size))
  have HTF14 := Lib.hid (HTF13.out.below hb14)
  have HT214 := Lib.hid (HT213.out.below hb14)
  have HNS14 := Lib.hid (HNS13.out.below hb14)
  clear hb14
  go_wp2_with fail
  refine (name_is _ _).mono ?_
  rintro e w15 ⟨rfl, hb15⟩
  have HB15 := Lib.hid (HB14.out.trans (hb15.mono HB14.out.size))
  have HTF15 := Lib.hid (HTF14.out.below hb15)
  have HT215 := Lib.hid (HT214.out.below hb15)
  have HNS15 := Lib.hid (HNS14.out.below hb15)
  clear hb15
  go_wp2_with fail
  have HW16 := Lib.hid (terms_new (w := w15) (ts := Ex.f3.flat) (T := 24) (n := 7) rfl rfl (small_terms (by decide)))
  have HB16 := Lib.hid (HB15.out.trans ((below1 w15 (.cells (tmCells Ex.f3.flat).toArray 24)).mono HB15.out.size))
  have HTF16 := Lib.hid (HTF15.out.below (below1 w15 (.cells (tmCells Ex.f3.flat).toArray 24)))
  have HT216 := Lib.hid (HT215.out.below (below1 w15 (.cells (tmCells Ex.f3.flat).toArray 24)))
  have HNS16 := Lib.hid (HNS15.out.below (below1 w15 (.cells (tmCells Ex.f3.flat).toArray 24)))
  refine (same_true _ _ Ex.f3.flat _ HTF16.out HW16.out (by decide)).mono ?_
  rintro e w17 ⟨rfl, hb17⟩
  have HB17 := Lib.hid (HB16.out.trans (hb17.mono HB16.out.size))
  have HT217 := Lib.hid (HT216.out.below hb17)
  have HNS17 := Lib.hid (HNS16.out.below hb17)
  clear hb17
  go_wp2_with fail
  have HW18 := Lib.hid (strs_new (w := w17) (ns := [⟨#[116]⟩, ⟨#[110, 49]⟩, ⟨#[110, 50]⟩]) (T := 9) (n := 3) rfl rfl)
  have HB18 := Lib.hid (HB17.out.trans ((below1 w17 (.cells (([⟨#[116]⟩, ⟨#[110, 49]⟩, ⟨#[110, 50]⟩] : List ByteArray).map Value.string).toArray 9)).mono HB17.out.size))
  have HT218 := Lib.hid (HT217.out.below (below1 w17 (.cells (([⟨#[116]⟩, ⟨#[110, 49]⟩, ⟨#[110, 50]⟩] : List ByteArray).map Value.string).toArray 9)))
  have HNS18 := Lib.hid (HNS17.out.below (below1 w17 (.cells (([⟨#[116]⟩, ⟨#[110, 49]⟩, ⟨#[110, 50]⟩] : List ByteArray).map Value.string).toArray 9)))
  refine (strings_true _ _ _ _ HNS18.out HW18.out (by decide)).mono ?_
  rintro e w19 ⟨rfl, hb19⟩
  have HB19 := Lib.hid (HB18.out.trans (hb19.mono HB18.out.size))
  have HT219 := Lib.hid (HT218.out.below hb19)
  clear hb19
  go_wp2_with fail
  refine (typeOf_is _ 1 _ (by decide) (Lib.hid Ex.types.1)).mono ?_
  rintro e w20 ⟨rfl, hb20⟩
  have HB20 := Lib.hid (HB19.out.trans (hb20.mono HB19.out.size))
  have HT220 := Lib.hid (HT219.out.below hb20)
  clear hb20
  go_wp2_with fail
  refine (typeOf_is _ 2 _ (by decide) (Lib.hid Ex.types.2.1)).mono ?_
  rintro e w21 ⟨rfl, hb21⟩
  have HB21 := Lib.hid (HB20.out.trans (hb21.mono HB20.out.size))
  have HT221 := Lib.hid (HT220.out.below hb21)
  clear hb21
  go_wp2_with fail
  refine (typeOf_is _ 3 _ (by decide) (Lib.hid Ex.types.2.2.1)).mono ?_
  rintro e w22 ⟨rfl, hb22⟩
  have HB22 := Lib.hid (HB21.out.trans (hb22.mono HB21.out.size))
  have HT222 := Lib.hid (HT221.out.below hb22)
  clear hb22
  go_wp2_with fail
  refine (typeOf_is _ 0 _ (by decide) (Lib.hid Ex.types.2.2.2)).mono ?_
  rintro e w23 ⟨rfl, hb23⟩
  have HB23 := Lib.hid (HB22.out.trans (hb23.mono HB22.out.size))
  have HT223 := Lib.hid (HT222.out.below hb23)
  clear hb23
  go_wp2_with fail
  refine (valid_any _ Ex.f2.flat true _ HT223.out (by decide) (Lib.hid Ex.valid2)).mono ?_
  rintro e w24 ⟨rfl, hb24⟩
  have HB24 := Lib.hid (HB23.out.trans (hb24.mono HB23.out.size))
  have HT224 := Lib.hid (HT223.out.below hb24)
  clear hb24
  go_wp2_with fail
  refine (valid_any _ (Ex.f2.flat.take 2) false _ (terms_take HT224.out (by decide)) (by decide) (Lib.hid Ex.notvalid2)).mono ?_
  rintro e w25 ⟨rfl, hb25⟩
  have HB25 := Lib.hid (HB24.out.trans (hb25.mono HB24.out.size))
  clear hb25
  go_wp2_with fail
  refine (has_any 11 (-7) 2 (-4) true _ (.inl rfl) (by decide) (by decide) (Lib.hid Ex.has1)).mono ?_
  rintro e w26 ⟨rfl, hb26⟩
  have HB26 := Lib.hid (HB25.out.trans (hb26.mono HB25.out.size))
  clear hb26
  go_wp2_with fail
  refine (has_any 12 (-7) 2 1 true _ (.inr rfl) (by decide) (by decide) (Lib.hid Ex.has2)).mono ?_
  rintro e w27 ⟨rfl, hb27⟩
  have HB27 := Lib.hid (HB26.out.trans (hb27.mono HB26.out.size))
  clear hb27
  go_wp2_with fail
  refine (has_any 11 3 0 0 false _ (.inl rfl) (by decide) (by decide) (Lib.hid Ex.has3)).mono ?_
  rintro e w28 ⟨rfl, hb28⟩
  have HB28 := Lib.hid (HB27.out.trans (hb28.mono HB27.out.size))
  clear hb28
  go_wp2_with fail
  refine (number_is 5 _).mono ?_
  rintro e w29 ⟨rfl, hb29⟩
  have HB29 := Lib.hid (HB28.out.trans (hb29.mono HB28.out.size))
  clear hb29
  go_wp2_with fail
  refine (validValue_is ⟨1, 5, ⟨#[]⟩⟩ true _ (Lib.hid Ex.vv.1)).mono ?_
  rintro e w30 ⟨rfl, hb30⟩
  have HB30 := Lib.hid (HB29.out.trans (hb30.mono HB29.out.size))
  clear hb30
  go_wp2_with fail
  refine (validValue_is ⟨0, 0, ⟨#[]⟩⟩ false _ (Lib.hid Ex.vv.2)).mono ?_
  rintro e w31 ⟨rfl, hb31⟩
  have HB31 := Lib.hid (HB30.out.trans (hb31.mono HB30.out.size))
  clear hb31
  go_wp2_with fail
  go_ret
  exact ⟨rfl, HB31.out⟩
end Go.Proofs.YtchoelgkcnnnkaaGreatDoor
