/- WALK: the formulas that integers determine: a term with operands; grow and Formula. -/
import Derived.Test.YtchoelgkcnnnkaaGreatDoorGrC
import Derived.Deep.CutRange
set_option linter.all false
namespace Go.Proofs.YtchoelgkcnnnkaaGreatDoor
open Go.RowKit
theorem row_cells {w : World} {b : Nat} : ∀ (ts : List Tm) (off : Nat), RowIn w b off ts → ∀ j u, (tmCells ts)[j]? = some u → w.cell? ⟨b, off + j, none⟩ = some u
  | [], off, h, j, u, hj => by simp [tmCells] at hj
  | t :: r, off, h, j, u, hj => by
    have e : tmCells (t :: r) = Value.int .i64 t.k :: Value.int .i64 t.n :: Value.string t.s :: tmCells r := rfl
    rw [e] at hj
    obtain ⟨h0, h1, h2, _⟩ := h 0 t rfl
    match j, hj with
    | 0, hj => simp at hj; subst hj; simpa using h0
    | 1, hj => simp at hj; subst hj; simpa using h1
    | 2, hj => simp at hj; subst hj; simpa using h2
    | j + 3, hj =>
      have hr : RowIn w b (off + 3) r := fun i u hu => by
        have := h (i + 1) u (by simpa using hu)
        rwa [show off + (i + 1) * 3 = off + 3 + i * 3 by omega] at this
      have := row_cells r (off + 3) hr j u (by simpa using hj)
      rwa [show off + 3 + j = off + (j + 3) by omega] at this
theorem add_plain (b off j : Nat) : (⟨b, off, none⟩ : Addr).add j = ⟨b, off + j, none⟩ := by
  unfold Addr.add
  by_cases h : j = 0
  · subst h; simp
  · simp [h]
theorem tmCells_append (a b : List Tm) : tmCells (a ++ b) = tmCells a ++ tmCells b := by simp [tmCells]
theorem tmCells_one (ts : List Tm) : ∀ u ∈ tmCells ts, u.oneCell' = true := by
  intro u hu
  simp only [tmCells, List.mem_flatMap, List.mem_cons, List.not_mem_nil, or_false] at hu
  obtain ⟨t, _, h | h | h⟩ := hu <;> subst h <;> rfl
theorem tmCells_size3 (ts : List Tm) : (tmCells ts).length = ts.length * 3 := by
  induction ts with
  | nil => rfl
  | cons t r ih =>
    have e : tmCells (t :: r) = Value.int .i64 t.k :: Value.int .i64 t.n :: Value.string t.s :: tmCells r := rfl
    rw [e]; simp [ih]; omega
/-- A block of ints that reads as a list. -/
def IntsAt (w : World) (b : Nat) (l : List Int) : Prop := b < w.heap.size ∧ ∀ j x, l[j]? = some x → w.cell? ⟨b, j, none⟩ = some (.int .i64 x)
theorem IntsAt.below {B : Nat} {w w' : World} {b : Nat} {l : List Int} (h : IntsAt w b l) (hb : Below B w w') (hB : b < B) : IntsAt w' b l :=
  ⟨Nat.lt_of_lt_of_le h.1 hb.size, fun j x hj => (hb.cell (p := ⟨b, j, none⟩) hB).trans (h.2 j x hj)⟩
theorem PairsIn.belowB {B : Nat} {w w' : World} {b off : Nat} {xs : List (Int × Int)} (h : ∀ i p, xs[i]? = some p → w.cell? ⟨b, off + i * 2, none⟩ = some (.int .i64 p.1) ∧ w.cell? ⟨b, off + i * 2 + 1, none⟩ = some (.int .i64 p.2)) (hb : Below B w w') (hB : b < B) :
    ∀ i p, xs[i]? = some p → w'.cell? ⟨b, off + i * 2, none⟩ = some (.int .i64 p.1) ∧ w'.cell? ⟨b, off + i * 2 + 1, none⟩ = some (.int .i64 p.2) :=
  fun i p hp => ⟨(hb.cell (p := ⟨b, _, none⟩) hB).trans (h i p hp).1, (hb.cell (p := ⟨b, _, none⟩) hB).trans (h i p hp).2⟩
theorem take_snocG {α : Type} {l : List α} {k : Nat} {x : α} (h : l[k]? = some x) : l.take (k + 1) = l.take k ++ [x] := by rw [List.take_add_one, h]; rfl
/-- What is chosen up to the first, the second, the third test. -/
def sel1 (t k : Int) : Int × List Int := if t = 1 ∧ k < 7 then (Pl.kind9 t k, Pl.types9 t k) else (17, [2, t, t])
def sel2 (t k : Int) : Int × List Int := if t = 2 ∧ k < 8 then (Pl.kind9 t k, Pl.types9 t k) else sel1 t k
def sel3 (t k : Int) : Int × List Int := if t = 3 ∧ k < 6 then (Pl.kind9 t k, Pl.types9 t k) else sel2 t k
theorem sel3_eq (t k : Int) (ht : t = 1 ∨ t = 2 ∨ t = 3) (hk : 0 ≤ k ∧ k < 9) : sel3 t k = (Pl.kind9 t k, Pl.types9 t k) := by
  have hk' : k = 0 ∨ k = 1 ∨ k = 2 ∨ k = 3 ∨ k = 4 ∨ k = 5 ∨ k = 6 ∨ k = 7 ∨ k = 8 := by omega
  rcases ht with rfl | rfl | rfl <;> rcases hk' with rfl | rfl | rfl | rfl | rfl | rfl | rfl | rfl | rfl <;> rfl
theorem IntsAt.alloc {w : World} {b : Nat} {l : List Int} (h : IntsAt w b l) (o : Obj) : IntsAt (w.alloc o) b l := h.below (below1 w o) h.1
theorem IntsAt.new {w : World} {l : List Int} {cs : Array Value} {T : TypeId} {b : Nat} (hc : cs = (l.map (Value.int .i64)).toArray) (hb : b = w.heap.size) : IntsAt (w.alloc (.cells cs T)) b l := by
  subst hb hc
  refine ⟨by simp, fun j x hj => ?_⟩
  rw [Lib.cell_of_heap (MapKept.heap_alloc w _).1]
  simp [hj]
theorem bel_alloc {w W : World} (h : Below w.heap.size w W) (o : Obj) : Below w.heap.size w (W.alloc o) := h.alloc h.size o
def SelRel (w wx : World) (r : Int × List Int) (s11 s12 : Value) : Prop := ∃ tb, s11 = .int .i64 r.1 ∧ s12 = .slice (some ⟨tb, 0, none⟩) r.2.length r.2.length ∧ IntsAt wx tb r.2 ∧ Below w.heap.size w wx
/-- What grow gives at so many levels. -/
def GrowAt (deep : Nat) : Prop :=
  ∀ (t : Int) (v : Value) (xs : List (Int × Int)) (at' : Nat) (z : Int) (w : World), (t = 1 ∨ t = 2 ∨ t = 3) → PairsIn w v xs → at' ≤ 12 → xs.length ≤ 12 → z = (deep : Int) →
    Calls Tryz.prog 38 #[.int .i64 t, v, .int .i64 at', .int .i64 z] w (GrowPost t deep at' xs.length w)
structure LoopAt (W wr : World) (so : Value) (tys : List Int) (kd : Int) (deep at' n i next : Nat) (fs : List Fm) : Prop where
  own : OwnTms wr W.heap.size so (Pl.mk0 kd :: Pl.flats fs)
  grown : Pl.GrownL (tys.take i) deep (next - (at' + 1)) fs
  lo : at' + 1 ≤ next
  hi : next ≤ max (at' + 1) n
  bel : Below W.heap.size W wr
def LoopRel (W wr : World) (so : Value) (tys : List Int) (kd : Int) (deep at' n i next : Nat) : Prop := ∃ fs, LoopAt W wr so tys kd deep at' n i next fs
set_option maxRecDepth 100000 in
set_option maxHeartbeats 8000000 in
theorem grow_node_at (deep : Nat) (hd : 1 ≤ deep) (hd2 : deep ≤ 5) (ih : GrowAt deep) (t : Int) (ht : t = 1 ∨ t = 2 ∨ t = 3) (v : Value) (xs : List (Int × Int)) (at' : Nat) (z : Int) (w : World) (hx : PairsIn w v xs) (hle : at' ≤ 12) (hl : xs.length ≤ 12) (hz : z = (deep : Int) + 1)
    (hat : at' < xs.length) (y : Int × Int) (hy : xs[at']? = some y) (hp : Pl.pickOf y.1 4 ≠ 0) :
    Calls Tryz.prog 38 #[.int .i64 t, v, .int .i64 at', .int .i64 z] w (GrowPost t (deep + 1) at' xs.length w) := by
  obtain ⟨a, c, rfl, hc, hbd, hcell⟩ := hx
  obtain ⟨b, off, rfl, hb, hcell⟩ := hcell (by intro e; rw [e] at hy; simp at hy)
  obtain ⟨c0, c1⟩ := hcell at' y hy
  obtain ⟨⟨b0, b1⟩, ⟨b2, b3⟩⟩ := hbd y (List.mem_of_getElem? hy)
  obtain ⟨y0, y1⟩ := y
  dsimp only at *
  have HX : Hid (∀ i p, xs[i]? = some p → w.cell? ⟨b, off + i * 2, none⟩ = some (.int .i64 p.1) ∧ w.cell? ⟨b, off + i * 2 + 1, none⟩ = some (.int .i64 p.2)) := Lib.hid hcell
  have HBD := Lib.hid hbd
  have HZ := Lib.hid hz
  have z1 : 1 < z := by omega
  have z2 : z ≤ 6 := by omega
  have p4 := Pl.pickOf_range y0 4 (by decide)
  obtain ⟨P, hP⟩ : ∃ P, P = Pl.pickOf y0 4 := ⟨_, rfl⟩
  rw [← hP] at p4 hp
  have p0 : (P == 0) = false := by simpa using hp
  have HP := Lib.hid hP
  have k9 := Pl.pickOf_range y1 9 (by decide)
  obtain ⟨k, hk⟩ : ∃ k, k = Pl.pickOf y1 9 := ⟨_, rfl⟩
  rw [← hk] at k9
  have HK := Lib.hid hk
  have HT := Lib.hid ht
  obtain ⟨i0, hi0, hz0, hz1, hz2⟩ := info_parts info24
  obtain ⟨kd, hkd⟩ : ∃ kd, kd = Pl.kind9 t k := ⟨_, rfl⟩
  obtain ⟨tys, htys⟩ : ∃ tys, tys = Pl.types9 t k := ⟨_, rfl⟩
  have HKD := Lib.hid hkd
  have HTY := Lib.hid htys
  have HIH := Lib.hid ih
  clear hz hk hP hcell hbd hy ht hp ih hkd htys
  go_enter Tryz.func38, Tryz.ntmps38
  go_wp2_with fail
  refine (pickR_any y0 4 _ (by assumption) (by assumption) (by decide) (by decide)).mono ?_
  rintro e w' ⟨rfl, rfl⟩
  rw [← HP.out]
  go_wp2_with fail
  refine (pickR_any y1 9 _ (by assumption) (by assumption) (by decide) (by decide)).mono ?_
  rintro e w' ⟨rfl, rfl⟩
  rw [← HK.out]
  obtain ⟨W0, hW0⟩ : ∃ W0, W0 = (w.alloc (.cells #[.int .i64 y0, .int .i64 y1] 112)).alloc (.cells #[.int .i64 2, .int .i64 t, .int .i64 t] 3) := ⟨_, rfl⟩
  have S0 : Hid (SelRel w W0 (17, [2, t, t]) (.int .i64 17) (.slice (some ⟨w.heap.size + 1, 0, none⟩) 3 3)) := by
    refine Lib.hid ⟨_, rfl, rfl, ?_, ?_⟩
    · rw [hW0]; exact IntsAt.new rfl (by simp)
    · rw [hW0]; exact bel_alloc (bel_alloc (Below.refl _ _) _) _
  have HB : Hid (Below w.heap.size w W0) := Lib.hid (by rw [hW0]; exact bel_alloc (bel_alloc (Below.refl _ _) _) _)
  go_upto_region 9 with fail
  rw [← hW0]
  clear hW0
  go_cut [62] from 57 to 62 (fun s wx => s = .bool (decide (t = 1 ∧ k < 7)) ∧ wx = W0)
  case first =>
    rcases HT.out with rfl | rfl | rfl <;> by_cases hk7 : k < 7
    all_goals
      go_wp2_with fail
      go_meet
      case rel => exact ⟨by simp [hk7], rfl⟩
  case rest =>
  obtain ⟨rfl, rfl⟩ := hcut
  go_upto_if 62 with fail
  go_cut [11, 12] from 57 to 76 (fun s11 s12 wx => SelRel w wx (sel1 t k) s11 s12)
  case first =>
    by_cases hs : t = 1 ∧ k < 7
    · obtain ⟨rfl, h7⟩ := hs
      clear S0
      have hk7 : k = 0 ∨ k = 1 ∨ k = 2 ∨ k = 3 ∨ k = 4 ∨ k = 5 ∨ k = 6 := by omega
      rcases hk7 with rfl | rfl | rfl | rfl | rfl | rfl | rfl
      all_goals
        go_wp2_with fail
        go_meet
        case rel =>
          refine ⟨_, rfl, rfl, ?_, ?_⟩
          · exact IntsAt.new rfl (by simp)
          · repeat (first | exact HB.out | refine bel_alloc ?_ _)
    · have hs' : decide (t = 1 ∧ k < 7) = false := decide_eq_false hs
      go_wp2_with fail
      go_meet
      case rel => rw [sel1, if_neg hs]; exact S0.out
  case rest =>
  have S1 := Lib.hid hcut
  clear hcut S0 HB
  obtain ⟨W1, hW1⟩ : ∃ W1, W1 = wc := ⟨_, rfl⟩
  rw [← hW1] at S1 ⊢
  clear hW1
  go_upto_region 16 with fail
  go_cut [82] from 77 to 82 (fun s wx => s = .bool (decide (t = 2 ∧ k < 8)) ∧ wx = W1)
  case first =>
    rcases HT.out with rfl | rfl | rfl <;> by_cases hk7 : k < 8
    all_goals
      go_wp2_with fail
      go_meet
      case rel => exact ⟨by simp [hk7], rfl⟩
  case rest =>
  obtain ⟨rfl, rfl⟩ := hcut
  go_upto_if 82 with fail
  go_cut [11, 12] from 77 to 105 (fun s11 s12 wx => SelRel w wx (sel2 t k) s11 s12)
  case first =>
    by_cases hs : t = 2 ∧ k < 8
    · obtain ⟨rfl, h7⟩ := hs
      have HB : Hid (Below w.heap.size w wc) := by obtain ⟨_, _, _, _, h⟩ := S1.out; exact Lib.hid h
      clear S1
      have hk7 : k = 0 ∨ k = 1 ∨ k = 2 ∨ k = 3 ∨ k = 4 ∨ k = 5 ∨ k = 6 ∨ k = 7 := by omega
      rcases hk7 with rfl | rfl | rfl | rfl | rfl | rfl | rfl | rfl
      all_goals
        go_wp2_with fail
        go_meet
        case rel =>
          refine ⟨_, rfl, rfl, ?_, ?_⟩
          · repeat (first | (refine IntsAt.new rfl ?_; simp; done) | refine IntsAt.alloc ?_ _)
          · repeat (first | exact HB.out | refine bel_alloc ?_ _)
    · have hs' : decide (t = 2 ∧ k < 8) = false := decide_eq_false hs
      go_wp2_with fail
      go_meet
      case rel => rw [sel2, if_neg hs]; exact S1.out
  case rest =>
  have S2 := Lib.hid hcut
  clear hcut S1
  obtain ⟨W2, hW2⟩ : ∃ W2, W2 = wc := ⟨_, rfl⟩
  rw [← hW2] at S2 ⊢
  clear hW2
  go_upto_region 19 with fail
  go_cut [111] from 106 to 111 (fun s wx => s = .bool (decide (t = 3 ∧ k < 6)) ∧ wx = W2)
  case first =>
    rcases HT.out with rfl | rfl | rfl <;> by_cases hk7 : k < 6
    all_goals
      go_wp2_with fail
      go_meet
      case rel => exact ⟨by simp [hk7], rfl⟩
  case rest =>
  obtain ⟨rfl, rfl⟩ := hcut
  go_upto_if 111 with fail
  go_cut [11, 12] from 106 to 114 (fun s11 s12 wx => SelRel w wx (sel3 t k) s11 s12)
  case first =>
    by_cases hs : t = 3 ∧ k < 6
    · have HB : Hid (Below w.heap.size w wc) := by obtain ⟨_, _, _, _, h⟩ := S2.out; exact Lib.hid h
      clear S2
      have HSP := Lib.hid hs
      have HS3 : Hid (sel3 t k = (8, [t, t])) := by
        refine Lib.hid ?_
        rw [sel3, if_pos hs, hs.1]
        simp [Pl.kind9, Pl.types9, hs.2]
      clear hs
      go_wp2_with fail
      all_goals first
        | exact absurd HSP.out ‹¬ (t = 3 ∧ k < 6)›
        | (go_meet
           case rel =>
             rw [HS3.out]
             refine ⟨_, rfl, rfl, ?_, ?_⟩
             · exact IntsAt.new (by simp [HSP.out.1]) (by simp)
             · repeat (first | exact HB.out | refine bel_alloc ?_ _))
    · have hs' : decide (t = 3 ∧ k < 6) = false := decide_eq_false hs
      go_wp2_with fail
      go_meet
      case rel => rw [sel3, if_neg hs]; exact S2.out
  case rest =>
  rw [sel3_eq t k HT.out k9, ← HKD.out, ← HTY.out] at hcut
  obtain ⟨tb, h11, h12, hI, hB⟩ := hcut
  dsimp only at h11 h12 hI
  subst h11 h12
  have HI := Lib.hid hI
  have HB := Lib.hid hB
  clear hI hB S2
  obtain ⟨W, hW⟩ : ∃ W, W = wc := ⟨_, rfl⟩
  rw [← hW] at HI HB ⊢
  clear hW
  have HBX := Lib.hid (show ∀ wr, Below W.heap.size W wr → PairsIn wr (.slice (some ⟨b, off, none⟩) xs.length c) xs from fun wr h => (show PairsIn w _ xs from ⟨_, _, rfl, hc, HBD.out, fun _ => ⟨_, _, rfl, hb, HX.out⟩⟩).below (HB.out.trans (h.mono HB.out.size)))
  have HTL : Hid (tys.length ≤ 3) := Lib.hid (by rw [HTY.out]; exact Pl.types9_len t k)
  have HTR : Hid (∀ x ∈ tys, x = 1 ∨ x = 2 ∨ x = 3) := Lib.hid (by rw [HTY.out]; exact Pl.types9_range t k HT.out)
  have HTQ : Hid (tys.length ≤ 9223372036854775807) := Lib.hid (by have := HTL.out; omega)
  have hTQ := HTL.out
  clear hcell hb c0 c1
  go_wp2_with fail
  go_loopw [14, 15, 16] (fun so sn si wr => ∃ i next : Nat, i ≤ tys.length ∧ si = .int .i64 i ∧ sn = .int .i64 next ∧ LoopRel W wr so tys kd deep at' xs.length i next) (fun _ _ si _ => tys.length - (intOf si).toNat)
  case atStart =>
    refine ⟨0, at' + 1, Nat.zero_le _, rfl, by go_num, [], ?_⟩
    exact ⟨World.ownsRow_lit _ _ _ (Nat.le_refl _) (by decide) rfl, by rw [Nat.sub_self]; exact Pl.GrownL.nil deep, Nat.le_refl _, Nat.le_max_left _ _, below1 _ _⟩
  case round =>
    obtain ⟨i, next, hi, rfl, rfl, fs, hL⟩ := hrel
    have hlo := hL.lo
    have hhi := hL.hi
    have hn12 : next ≤ 13 := by omega
    have HL := Lib.hid hL
    clear hL
    by_cases hlt : i < tys.length
    · obtain ⟨ty, hty⟩ : ∃ ty, tys[i]? = some ty := ⟨tys[i], by simp⟩
      have hcl := (HI.out.below HL.out.bel HI.out.1).2 i ty hty
      have HTT := Lib.hid hty
      clear hty
      go_wp2_with fail
      refine (HIH.out ty _ xs next _ _ (HTR.out ty (List.mem_of_getElem? HTT.out)) (HBX.out _ HL.out.bel) (by omega) hl (by have := HZ.out; omega)).mono ?_
      rintro e w2 ⟨f, nx, vf, rfl, h1, h2, hg, hT, hb2⟩
      obtain ⟨fa, fc, rfl, hfc, _, hrow⟩ := hT
      obtain ⟨fb, fo, rfl, hrow2⟩ := hrow (Fm.flat_ne f)
      have HOW := Lib.hid (show OwnTms w2 W.heap.size _ (Pl.mk0 kd :: Pl.flats fs) from ownsRow_below HL.out.own hb2)
      have HRC := Lib.hid (show ∀ j u, (tmCells f.flat)[j]? = some u → w2.cell? ((⟨fb, fo, none⟩ : Addr).add j) = some u from fun j u hj => by rw [add_plain]; exact row_cells f.flat fo hrow2 j u hj)
      have hlf := hg.len
      have hls := HL.out.grown.len
      have hlq : fs.length ≤ 3 := by
        have e1 := congrArg List.length HL.out.grown.ty
        rw [List.length_map, List.length_take] at e1
        omega
      have n1 : (Pl.flats fs).length ≤ 100 := by omega
      have n2 : f.flat.length ≤ 100 := by omega
      have HG := Lib.hid hg
      have HB2 := Lib.hid (HL.out.bel.trans (hb2.mono HL.out.bel.size))
      have n3 := HB2.out.size
      clear hlf hls hlq hg hb2 hrow hrow2
      go_wp2_with (at_builtin; go_loud (refine wpList_append_own _ rfl _ _ 25 rfl W.heap.size 24 i0 (.agg #[.int .i64 0, .int .i64 0, .string ByteArray.empty]) 3 32 Tryz.underlying25 hi0 hz0 hz1 hz2 rfl (by decide) _ _ _ rfl HOW.out ⟨fb, fo, none⟩ f.flat.length fc (tmCells f.flat) rfl (tmCells_size3 _) HRC.out (tmCells_one _) (by simp [maxLen]; omega) (by simp; omega) n3 ?_))
      intro v' w3 hown hgrow _
      have HOW3 : Hid (OwnTms w3 W.heap.size v' (Pl.mk0 kd :: Pl.flats (fs ++ [f]))) := by
        refine Lib.hid ?_
        unfold OwnTms
        rw [Pl.flats_snoc, ← List.cons_append, tmCells_append, List.length_append]
        exact hown
      have HB3 := Lib.hid (HB2.out.grown hgrow n3 fun j hj => (World.ownsRow.lt HOW.out j hj).1)
      have HTK : Hid (tys.take (i + 1) = tys.take i ++ [ty]) := Lib.hid (take_snocG HTT.out)
      clear hown hgrow
      go_wp2_with fail
      go_roundw
      case rel =>
        refine ⟨i + 1, nx, by omega, by go_num, rfl, fs ++ [f], ?_⟩
        exact ⟨HOW3.out, by rw [HTK.out, show nx - (at' + 1) = (next - (at' + 1)) + (nx - next) by omega]; exact HL.out.grown.snoc HG.out, by omega, by omega, HB3.out⟩
      case measure => simp [intOf]; omega
    · obtain rfl : i = tys.length := by omega
      go_wp2_with fail
      go_ret2
      have hgr := HL.out.grown
      rw [List.take_length, HTY.out] at hgr
      obtain ⟨g1, g2⟩ := Pl.grown_node t k HT.out k9 hgr
      refine ⟨Pl.node (Pl.kind9 t k) fs, next, _, rfl, by omega, by omega, by rw [show next - at' = next - (at' + 1) + 1 by omega]; exact g1, ?_, HB.out.trans (HL.out.bel.mono HB.out.size)⟩
      have how := HL.out.own
      rw [HKD.out, ← g2] at how
      exact own_terms how fun u hu => Nat.le_trans (g1.small u hu) (by decide)
end Go.Proofs.YtchoelgkcnnnkaaGreatDoor
