/- WALKS: the reference's comparing of lists, where they are equal; values of an operator (has, of). · WALKS: a formula of one operator and its value (has). -/
import Derived.Test.YtchoelgkcnnnkaaGreatDoorValJ
set_option linter.all false
namespace Go.Proofs.YtchoelgkcnnnkaaGreatDoor
open Go.RowKit
set_option maxRecDepth 100000 in
set_option maxHeartbeats 2000000 in
theorem same_true (v u : Value) (ts : List Tm) (w : World) (hT : TermsIn w v ts) (hU : TermsIn w u ts) (hl : ts.length ≤ 1000000000) :
    Calls Tryz.prog 24 #[v, u] w fun e w' => e = .returned (.bool true) ∧ Below w.heap.size w w' := by
  obtain ⟨a, c, rfl, hc, _, hr⟩ := hT
  obtain ⟨a2, c2, rfl, hc2, _, hr2⟩ := hU
  have HR := Lib.hid hr
  have HR2 := Lib.hid hr2
  clear hr hr2
  go_enter Tryz.func24, Tryz.ntmps24
  go_wp2
  go_loopw [5] (fun i wr => ∃ k : Nat, k ≤ ts.length ∧ i = .int .i64 k ∧ Below w.heap.size w wr) (fun i _ => ts.length - (intOf i).toNat)
  case atStart => exact ⟨0, Nat.zero_le _, rfl, Below.refl _ _⟩
  case round =>
    obtain ⟨k, hk, rfl, hb⟩ := hrel
    by_cases hkl : k < ts.length
    · have hne : ts ≠ [] := by intro h; rw [h] at hkl; simp at hkl
      obtain ⟨b, off, rfl, hrow⟩ := HR.out hne
      obtain ⟨b2, off2, rfl, hrow2⟩ := HR2.out hne
      obtain ⟨t, ht⟩ : ∃ t, ts[k]? = some t := ⟨ts[k], by simp⟩
      obtain ⟨x0, x1, x2, _⟩ := (hrow.below hb (hrow.lt hne)) k t ht
      obtain ⟨y0, y1, y2, _⟩ := (hrow2.below hb (hrow2.lt hne)) k t ht
      obtain ⟨tk, tn, tss⟩ := t
      have HB := Lib.hid hb
      clear ht hrow hrow2 hb hne
      go_wp2_with fail
      go_quiet (fail)
      go_wp2
      go_roundw
      case rel => exact ⟨k + 1, by omega, by go_num, below_drewN HB.out _⟩
      case measure => simp [intOf]; omega
    · obtain rfl : k = ts.length := by omega
      go_wp2
      go_ret
      exact ⟨rfl, hb⟩
/-- A slice that reads as a list of texts. -/
def StrsIn (w : World) (v : Value) (ns : List ByteArray) : Prop :=
  ∃ a c, v = .slice a ns.length c ∧ ns.length ≤ c ∧ (ns ≠ [] → ∃ g, a = some ⟨g, 0, none⟩ ∧ g < w.heap.size ∧ ∀ j x, ns[j]? = some x → w.cell? ⟨g, j, none⟩ = some (.string x))
theorem StrsIn.below {w w' : World} {v : Value} {ns : List ByteArray} (h : StrsIn w v ns) (hb : Below w.heap.size w w') : StrsIn w' v ns := by
  obtain ⟨a, c, h1, h2, h3⟩ := h
  refine ⟨a, c, h1, h2, fun hne => ?_⟩
  obtain ⟨g, h4, h5, h6⟩ := h3 hne
  exact ⟨g, h4, Nat.lt_of_lt_of_le h5 hb.size, fun j x hx => (hb.cell (p := ⟨g, j, none⟩) h5).trans (h6 j x hx)⟩
set_option maxRecDepth 100000 in
set_option maxHeartbeats 2000000 in
theorem strings_true (v u : Value) (ns : List ByteArray) (w : World) (hT : StrsIn w v ns) (hU : StrsIn w u ns) (hl : ns.length ≤ 1000000000) :
    Calls Tryz.prog 19 #[v, u] w fun e w' => e = .returned (.bool true) ∧ Below w.heap.size w w' := by
  obtain ⟨a, c, rfl, hc, hr⟩ := hT
  obtain ⟨a2, c2, rfl, hc2, hr2⟩ := hU
  have HR := Lib.hid hr
  have HR2 := Lib.hid hr2
  clear hr hr2
  go_enter Tryz.func19, Tryz.ntmps19
  go_wp2
  go_loopw [5] (fun i wr => ∃ k : Nat, k ≤ ns.length ∧ i = .int .i64 k ∧ Below w.heap.size w wr) (fun i _ => ns.length - (intOf i).toNat)
  case atStart => exact ⟨0, Nat.zero_le _, rfl, Below.refl _ _⟩
  case round =>
    obtain ⟨k, hk, rfl, hb⟩ := hrel
    by_cases hkl : k < ns.length
    · have hne : ns ≠ [] := by intro h; rw [h] at hkl; simp at hkl
      obtain ⟨g, rfl, hg, hgc⟩ := HR.out hne
      obtain ⟨g2, rfl, hg2, hgc2⟩ := HR2.out hne
      obtain ⟨x, hx⟩ : ∃ x, ns[k]? = some x := ⟨ns[k], by simp⟩
      have x0 := (hb.cell (p := ⟨g, k, none⟩) hg).trans (hgc k x hx)
      have y0 := (hb.cell (p := ⟨g2, k, none⟩) hg2).trans (hgc2 k x hx)
      have HB := Lib.hid hb
      clear hx hgc hgc2 hb hne
      go_wp2_with fail
      go_quiet (fail)
      go_wp2
      go_roundw
      case rel => exact ⟨k + 1, by omega, by go_num, below_drewN HB.out _⟩
      case measure => simp [intOf]; omega
    · obtain rfl : k = ns.length := by omega
      go_wp2
      go_ret
      exact ⟨rfl, hb⟩
end Go.Proofs.YtchoelgkcnnnkaaGreatDoor
namespace Go.Proofs.YtchoelgkcnnnkaaGreatDoor
open Go.RowKit
theorem number_is (n : Int) (w : World) :
    Calls Tryz.prog 34 #[.int .i64 n] w fun e w' => e = .returned (.agg #[.int .i64 1, .int .i64 n, .string ⟨#[]⟩]) ∧ Below w.heap.size w w' := number_any n w
theorem digit_is (n : Int) (w : World) :
    Calls Tryz.prog 36 #[.int .i64 n] w fun e w' => e = .returned (.agg #[.int .i64 1, .int .i64 n, .string ⟨#[]⟩]) ∧ Below w.heap.size w w' := digit_any n w
theorem name_is (s : ByteArray) (w : World) :
    Calls Tryz.prog 33 #[.string s] w fun e w' => e = .returned (.agg #[.int .i64 4, .int .i64 0, .string s]) ∧ Below w.heap.size w w' := nameT_any s w
theorem value_use (f : Fm) (ts : List Tm) (hts : ts = f.flat) (vs : List Tm) (ns : List ByteArray) (hns : ns = Pl.namesOf ts) (d off n c d2 off2 n2 c2 : Nat) (hn : n = ts.length) (hn2 : n2 = vs.length) (w : World) (hrow : RowIn w d off ts) (hcap : n ≤ c) (hrow2 : RowIn w d2 off2 vs) (hcap2 : n2 ≤ c2) (hwf : f.wf) (hl : n ≤ 60) (hd : f.depth ≤ 12) (hty : Pl.ty f ≠ 0)
    (hlen : vs.length = ns.length) (hok : ∀ (i : Nat) m x, ns[i]? = some m → vs[i]? = some x → Pl.validV x = true ∧ x.k = Pl.typeOf m.data.toList) (r : Option Tm) (HR : Hid (r = Pl.val (Pl.envOf ns vs) f)) :
    Calls Tryz.prog 28 #[.slice (some ⟨d, off, none⟩) n c, .slice (some ⟨d2, off2, none⟩) n2 c2] w (ValPost r w) := by
  subst hts hns hn hn2
  rw [HR.out]
  exact value_ok _ f vs d off c w hcap hrow ⟨_, _, rfl, hcap2, by rintro p ⟨⟩; rfl, fun _ => ⟨_, _, rfl, hrow2⟩⟩ hwf hl hd hty hlen hok
def fmHas (kind byn : Int) : Fm := .bi ⟨kind, 0, ⟨#[]⟩⟩ (.lf ⟨4, 0, ⟨#[110]⟩⟩) (.lf ⟨1, byn, ⟨#[]⟩⟩)
theorem has_wf (kind byn : Int) (hk : kind = 11 ∨ kind = 12) (hb : 0 ≤ byn ∧ byn ≤ 1000000000000) : (fmHas kind byn).wf := by
  have h4 : Pl.formed ⟨4, 0, ⟨#[110]⟩⟩ = true := by decide +kernel
  have h1 : Pl.formed ⟨1, byn, ⟨#[]⟩⟩ = true := by
    simp only [Pl.formed, if_true, decide_eq_true hb.1, decide_eq_true hb.2, Bool.true_and]
    decide +kernel
  rcases hk with rfl | rfl
  · exact ⟨by decide +kernel, by decide, ⟨h4, by decide⟩, ⟨h1, rfl⟩⟩
  · exact ⟨by decide +kernel, by decide, ⟨h4, by decide⟩, ⟨h1, rfl⟩⟩
theorem has_names (kind byn : Int) (hk : kind = 11 ∨ kind = 12) : [⟨#[110]⟩] = Pl.namesOf [⟨kind, 0, ⟨#[]⟩⟩, ⟨4, 0, ⟨#[110]⟩⟩, ⟨1, byn, ⟨#[]⟩⟩] := by
  rcases hk with rfl | rfl <;> rfl
theorem validV_num (n : Int) (h0 : -1000000000000 ≤ n) (h1 : n ≤ 1000000000000) : Pl.validV ⟨1, n, ⟨#[]⟩⟩ = true := by
  simp only [Pl.validV, if_true, decide_eq_true h0, decide_eq_true h1, Bool.true_and]
  decide +kernel
set_option maxRecDepth 100000 in
set_option maxHeartbeats 2000000 in
theorem has_any (kind n byn want : Int) (isb : Bool) (w : World) (hk : kind = 11 ∨ kind = 12) (hn : -1000000000000 ≤ n ∧ n ≤ 1000000000000) (hb : 0 ≤ byn ∧ byn ≤ 1000000000000)
    (hval : Hid ((if isb then some (numV want) else none) = Pl.val (Pl.envOf [⟨#[110]⟩] [⟨1, n, ⟨#[]⟩⟩]) (fmHas kind byn))) :
    Calls Tryz.prog 37 #[.int .i64 kind, .int .i64 n, .int .i64 byn, .int .i64 want, .bool isb] w fun e w' => e = .returned (.bool true) ∧ Below w.heap.size w w' := by
  have hwf := Lib.hid (has_wf kind byn hk hb)
  have hnm := Lib.hid (has_names kind byn hk)
  have hty : Hid (Pl.ty (fmHas kind byn) ≠ 0) := Lib.hid (by rcases hk with rfl | rfl <;> (intro h; cases (show (1 : Int) = 0 from h)))
  have HN := Lib.hid hn
  have HK := Lib.hid hk
  clear hk hn hb
  go_enter Tryz.func37, Tryz.ntmps37
  go_wp2_with (first | (go_at_call 33; refine (name_is _ _).mono ?_; rintro e w1 ⟨rfl, hb1⟩; have HB1 := Lib.hid hb1; clear hb1) | (go_at_call 36; refine (digit_is _ _).mono ?_; rintro e w2 ⟨rfl, hb2⟩; have HB2 := Lib.hid hb2; clear hb2) | (go_at_call 34; refine (number_is _ _).mono ?_; rintro e w3 ⟨rfl, hb3⟩; have HB3 := Lib.hid hb3; clear hb3))
  have hblk : w3.heap[w2.heap.size]? = some (.cells #[.int .i64 kind, .int .i64 0, .string ⟨#[]⟩, .int .i64 4, .int .i64 0, .string ⟨#[110]⟩, .int .i64 1, .int .i64 byn, .string ⟨#[]⟩] 24 (0, 0)) := by
    rw [HB3.out.block _ (by simp)]
    exact (MapKept.heap_alloc w2 _).1
  have hbel : Below w.heap.size w w3 := (HB1.out.trans (HB2.out.mono HB1.out.size)).trans (((below1 w2 _).trans (HB3.out.mono (by simp))).mono (Nat.le_trans HB1.out.size HB2.out.size))
  have hr1 : RowIn (w3.alloc (.cells #[.int .i64 1, .int .i64 n, .string ⟨#[]⟩] 48)) w2.heap.size 0 [⟨kind, 0, ⟨#[]⟩⟩, ⟨4, 0, ⟨#[110]⟩⟩, ⟨1, byn, ⟨#[]⟩⟩] :=
    (rowIn_block rfl hblk (by intro t ht; simp at ht; rcases ht with rfl | rfl | rfl <;> first | exact Nat.zero_le _ | decide)).below (below1 w3 _) (Array.getElem?_eq_some_iff.1 hblk).1
  have hr2 : RowIn (w3.alloc (.cells #[.int .i64 1, .int .i64 n, .string ⟨#[]⟩] 48)) w3.heap.size 0 [⟨1, n, ⟨#[]⟩⟩] :=
    rowIn_block rfl (MapKept.heap_alloc w3 _).1 (by intro t ht; simp at ht; subst ht; exact Nat.zero_le _)
  have HBL := Lib.hid (hbel.trans ((below1 w3 (.cells #[.int .i64 1, .int .i64 n, .string ⟨#[]⟩] 48)).mono hbel.size))
  clear hblk hbel
  refine (value_use (fmHas kind byn) _ rfl [⟨1, n, ⟨#[]⟩⟩] [⟨#[110]⟩] hnm.out w2.heap.size 0 3 3 w3.heap.size 0 1 1 rfl rfl _ hr1 (by omega) hr2 (by omega) hwf.out (by omega) (by simp [fmHas, Fm.depth]) hty.out rfl (by
    intro i m x hm hx
    match i, hm, hx with
    | 0, hm, hx =>
      simp at hm hx
      subst hm hx
      exact ⟨validV_num n HN.out.1 HN.out.2, rfl⟩
    | i + 1, hm, _ => simp at hm) _ hval).mono ?_
  rintro e w5 ⟨hr, hb5⟩
  have HB5 := Lib.hid (HBL.out.trans (hb5.mono HBL.out.size))
  clear hr1 hr2 hb5
  cases isb with
  | false =>
    obtain rfl : e = .returned (.tuple #[Pl.zeroV.agg, .bool false, .int .i64 0]) := hr
    unfold Pl.zeroV Tm.agg
    go_wp2_with fail
    go_quiet (fail)
    go_wp2_with fail
    go_ret
    exact ⟨rfl, HB5.out.trans (((below1 w5 _).trans (below_drewN' (Below.refl _ _) _)).mono HB5.out.size)⟩
  | true =>
    obtain rfl : e = .returned (.tuple #[(numV want).agg, .bool true, .int .i64 0]) := hr
    rw [num_agg]
    go_wp2_with fail
    have bx := Box3.new w5 (.int .i64 1) (.int .i64 want) (.string ⟨#[]⟩) 48
    have HB6 := Lib.hid (HB5.out.trans ((below1 w5 (.cells #[.int .i64 1, .int .i64 want, .string ⟨#[]⟩] 48)).mono HB5.out.size))
    generalize (w5.alloc (.cells #[.int .i64 1, .int .i64 want, .string ⟨#[]⟩] 48)) = w6 at bx HB6 ⊢
    obtain ⟨d0, d1, d2, _, _, _⟩ := bx.cells
    have BX := Lib.hid bx
    clear bx
    go_region_held3 (fun w' => w'.cell? ⟨w5.heap.size, 0, none⟩ = some (.int .i64 1) ∧ w'.cell? ⟨w5.heap.size, 1, none⟩ = some (.int .i64 want) ∧ w'.cell? ⟨w5.heap.size, 2, none⟩ = some (.string ⟨#[]⟩)) (first | exact ⟨d0, d1, d2⟩ | exact ⟨e0, e1, e2⟩) (first | (go_at_call 34; refine (number_is want _).mono ?_; rintro e w7 ⟨rfl, hb7⟩; have HB7 := Lib.hid hb7; obtain ⟨e0, e1, e2, _, _, _⟩ := ((show Box3 w6.drew w5.heap.size (.int .i64 1) (.int .i64 want) (.string ⟨#[]⟩) 48 from BX.out).keep hb7).cells; clear hb7))
    go_wp2_with fail
    go_ret
    exact ⟨rfl, (HB6.out.trans (below_drewN' (Below.refl _ _) 1)).trans (HB7.out.mono HB6.out.size)⟩
end Go.Proofs.YtchoelgkcnnnkaaGreatDoor
