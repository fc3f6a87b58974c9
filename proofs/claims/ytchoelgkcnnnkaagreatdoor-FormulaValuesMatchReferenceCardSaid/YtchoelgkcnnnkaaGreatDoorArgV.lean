/- WHAT ALL ROWS SHARE: what the listed variables give; a world in which they lie. Printed by genrow.py. · ROWS: arguments that are slices: opened for a walk; and what all rows of this seat end with: true, and the arguments as they were. · ROWS: an argument that is a slice of integers: opened for a walk. · ROWS: an argument that is a term or a value, and one that is a slice of them: opened for a walk. -/
import Derived.Test.YtchoelgkcnnnkaaGreatDoorCards
import Derived.Test.YtchoelgkcnnnkaaGreatDoorTie
import Derived.Test.YtchoelgkcnnnkaaGreatDoorGlob
import Derived.WalkKit
import Derived.ProofKit
import Derived.OpenShut
import Derived.Deep.DeepHandedRow
import Derived.Lib.LaidTab
import Derived.Stop.LaidErr
import Derived.Test.YtchoelgkcnnnkaaGreatDoorGrC
import Derived.Deep.Slices
import Derived.WideKeyArgs
import Derived.Test.YtchoelgkcnnnkaaGreatDoorInA
import Derived.Test.YtchoelgkcnnnkaaGreatDoorTmMem
import Derived.Deep.Strs
set_option linter.all false
namespace Go.Proofs.YtchoelgkcnnnkaaGreatDoor
open Go.ChangeShapes Go.WideShapes Go.ChangeAt Go.RowKit
theorem row_own : ownKnob Tryz.prog.godebug = none := by kernel_rfl
theorem g1 : Tryz.prog.globalNamed "internal/strconv.uint64pow10" = some 1 := by kernel_rfl
theorem g1t : (Tryz.prog.globals[1]?).map (·.type) = some 170 := by kernel_rfl
theorem g5 : Tryz.prog.globalNamed "strconv.ErrRange" = some 5 := by kernel_rfl
theorem g5t : (Tryz.prog.globals[5]?).map (·.type) = some 74 := by kernel_rfl
theorem g7 : Tryz.prog.globalNamed "math/bits.deBruijn64tab" = some 7 := by kernel_rfl
theorem c158 : Tryz.prog.cellsOf 158 = 1 := by kernel_rfl
theorem c170 : Tryz.prog.cellsOf 170 = 20 := by kernel_rfl
theorem c196 : Tryz.prog.cellsOf 196 = 1 := by kernel_rfl
theorem c9 : Tryz.prog.cellsOf 9 = 1 := by kernel_rfl
theorem star : "*" ++ "errors.errorString" = "*errors.errorString" := by decide
theorem row194 (u : TypeId) (h : Tryz.prog.typeName? 3 u = some "*errors.errorString") : u = 194 :=
  typeName_ptr_named (nm := "errors.errorString") (by rw [star]; kernel_rfl) (by kernel_rfl) (by decide) u (by rw [star]; exact h)
theorem var_lt {P : Program} {W : World} {n : String} {g : Nat} {cs : Array Value} (hg : P.globalNamed n = some g) (h : W.var? P n = some cs) : g < W.heap.size := by
  unfold World.var? at h
  rw [hg] at h
  simp only [Option.bind_some] at h
  rcases Nat.lt_or_ge g W.heap.size with h' | h'
  · exact h'
  · simp [Array.getElem?_eq_none h'] at h
/-- What the condition on the listed variables gives. -/
theorem glob_of {W : World} (h : laidMetH Tryz.prog Rows.formulaLawsRow.laid W) : Glob W := by
  have h0 : laidMet Tryz.prog Rows.formulaLawsRow.laid W := h
  have h1 : laidMet Tryz.prog Rows.formulaLawsRow.laid.tail W := laidMet.tail (x := ("math/bits.deBruijn32tab", Rows.laid_math_bits_deBruijn32tab)) h0
  have h2 : laidMet Tryz.prog Rows.formulaLawsRow.laid.tail.tail W := laidMet.tail (x := ("math/bits.deBruijn64tab", Rows.laid_math_bits_deBruijn64tab)) h1
  have h3 : laidMet Tryz.prog Rows.formulaLawsRow.laid.tail.tail.tail W := laidMet.tail (x := ("internal/strconv.uint64pow10", Rows.laid_internal_strconv_uint64pow10)) h2
  have h4 : laidMet Tryz.prog Rows.formulaLawsRow.laid.tail.tail.tail.tail W := laidMet.tail (x := ("unicode/utf8.acceptRanges", Rows.laid_unicode_utf8_acceptRanges)) h3
  refine ⟨?_, ?_, ?_⟩
  · have e : (Rows.laid_internal_strconv_uint64pow10 : DataW Unit) = Lib.tabData .u64 Lib.pow10Tab := by kernel_rfl
    have h2' : laidMet Tryz.prog (("internal/strconv.uint64pow10", Lib.tabData .u64 Lib.pow10Tab) :: Rows.formulaLawsRow.laid.tail.tail.tail) W := by rw [← e]; exact h2
    exact Lib.tabIs_of_head (k := .u64) (zs := Lib.pow10Tab) g1 g1t Tryz.underlying170 Tryz.underlying158 c158 c170 h2'
  · obtain ⟨a, s, hv, _⟩ := laid_sentinel h4 g5 g5t Tryz.underlying74 row194 Tryz.underlying194 Tryz.underlying196 rfl rfl Tryz.underlying9 c196 c9
    exact ⟨_, _, hv⟩
  · obtain ⟨ps, ⟨q0, t0, cs0, f0, p0, r0, hq0, ht0, hv0, _⟩, _⟩ := h1
    exact var_lt g7 hv0
def rangeS : ByteArray := ⟨#[118, 97, 108, 117, 101, 32, 111, 117, 116, 32, 111, 102, 32, 114, 97, 110, 103, 101]⟩
def syntaxS : ByteArray := ⟨#[105, 110, 118, 97, 108, 105, 100, 32, 115, 121, 110, 116, 97, 120]⟩
def putCells (cs : Array Value) : Obj → Obj
  | .cells _ t frozen => .cells cs t frozen
  | o => o
/-- A world for the witness: the settled one, the listed variables as their initialisers lay them. -/
noncomputable def laidWorld (os : Os) : World :=
  let w0 := World.holding Tryz.prog os ⟨#[.cells #[.string rangeS] 196, .cells #[.string syntaxS] 196], #[], []⟩
  { w0 with heap := (((((((w0.heap.modify 1 (putCells #[.int .u64 1, .int .u64 10, .int .u64 100, .int .u64 1000, .int .u64 10000, .int .u64 100000, .int .u64 1000000, .int .u64 10000000, .int .u64 100000000, .int .u64 1000000000, .int .u64 10000000000, .int .u64 100000000000, .int .u64 1000000000000, .int .u64 10000000000000, .int .u64 100000000000000, .int .u64 1000000000000000, .int .u64 10000000000000000, .int .u64 100000000000000000, .int .u64 1000000000000000000, .int .u64 10000000000000000000])).modify 2 (putCells (Go.Pinned.utf8FirstZ.map fun n => Value.int .u8 (n : Nat)).toArray)).modify 3 (putCells #[.int .u8 128, .int .u8 191, .int .u8 160, .int .u8 191, .int .u8 128, .int .u8 159, .int .u8 144, .int .u8 191, .int .u8 128, .int .u8 143, .int .u8 0, .int .u8 0, .int .u8 0, .int .u8 0, .int .u8 0, .int .u8 0, .int .u8 0, .int .u8 0, .int .u8 0, .int .u8 0, .int .u8 0, .int .u8 0, .int .u8 0, .int .u8 0, .int .u8 0, .int .u8 0, .int .u8 0, .int .u8 0, .int .u8 0, .int .u8 0, .int .u8 0, .int .u8 0])).modify 4 (putCells #[.iface 194 (.pointer (some ⟨(World.settled Tryz.prog os).heap.size + 1, 0, none⟩))])).modify 5 (putCells #[.iface 194 (.pointer (some ⟨(World.settled Tryz.prog os).heap.size, 0, none⟩))])).modify 6 (putCells #[.int .u8 0, .int .u8 1, .int .u8 28, .int .u8 2, .int .u8 29, .int .u8 14, .int .u8 24, .int .u8 3, .int .u8 30, .int .u8 22, .int .u8 20, .int .u8 15, .int .u8 25, .int .u8 17, .int .u8 4, .int .u8 8, .int .u8 31, .int .u8 27, .int .u8 13, .int .u8 23, .int .u8 21, .int .u8 19, .int .u8 16, .int .u8 7, .int .u8 26, .int .u8 12, .int .u8 18, .int .u8 6, .int .u8 11, .int .u8 5, .int .u8 10, .int .u8 9])).modify 7 (putCells #[.int .u8 0, .int .u8 1, .int .u8 56, .int .u8 2, .int .u8 57, .int .u8 49, .int .u8 28, .int .u8 3, .int .u8 61, .int .u8 58, .int .u8 42, .int .u8 50, .int .u8 38, .int .u8 29, .int .u8 17, .int .u8 4, .int .u8 62, .int .u8 47, .int .u8 59, .int .u8 36, .int .u8 45, .int .u8 43, .int .u8 51, .int .u8 22, .int .u8 53, .int .u8 39, .int .u8 33, .int .u8 30, .int .u8 24, .int .u8 18, .int .u8 12, .int .u8 5, .int .u8 63, .int .u8 55, .int .u8 48, .int .u8 27, .int .u8 60, .int .u8 41, .int .u8 37, .int .u8 16, .int .u8 46, .int .u8 35, .int .u8 44, .int .u8 21, .int .u8 52, .int .u8 32, .int .u8 23, .int .u8 11, .int .u8 54, .int .u8 26, .int .u8 40, .int .u8 15, .int .u8 34, .int .u8 20, .int .u8 31, .int .u8 10, .int .u8 25, .int .u8 14, .int .u8 19, .int .u8 9, .int .u8 13, .int .u8 8, .int .u8 7, .int .u8 6])) }
theorem laid_met (os : Os) (args : Array Value) : laidMet Tryz.prog Rows.formulaLawsRow.laid ((laidWorld os).forCall (fun _ _ => 0) ⟨#[], args, []⟩).memory :=
  laidMet_of_run' 8 (by kernel_rfl) (by kernel_rfl)
end Go.Proofs.YtchoelgkcnnnkaaGreatDoor
namespace Go.Proofs.YtchoelgkcnnnkaaGreatDoor
open Go.ChangeShapes Go.WideShapes Go.ChangeAt Go.RowKit Go.Deep
theorem laidOut' : laidOutB Tryz.prog = true := by kernel_rfl
/-- Types whose values can be read, as a list of numbers. -/
def Rowed (ts : List TypeId) : Prop := ∀ t ∈ ts, Tryz.prog.readableRec t = true ∧ t < Tryz.prog.types.size
theorem Rowed.nil : Rowed [] := fun _ h => by cases h
theorem Rowed.cons {t : TypeId} {ts : List TypeId} (h1 : Tryz.prog.readableRec t = true) (h2 : decide (t < Tryz.prog.types.size) = true) (h : Rowed ts) : Rowed (t :: ts) := fun u hu => by
  rcases List.mem_cons.1 hu with rfl | hu
  · exact ⟨h1, of_decide_eq_true h2⟩
  · exact h u hu
set_option maxRecDepth 100000 in
theorem args_stay {H : Type} {enc : TypeId × Value → H} {W W' : World} {sp : Nat → Bool} : ∀ {ts : List TypeId} {vs : List Value} {ds : List (DataW H)} {ps : List MemPlace}, Rowed ts →
    DataW.TrodAll enc Tryz.prog W 0 (fun _ => true) true ts vs ds ps → Below W.heap.size W W' → (∀ p ∈ ps, p.block < W.heap.size) → (∀ p ∈ ps, sp p.block = true) → DataW.TrodAll enc Tryz.prog W' 0 sp true ts vs ds ps
  | [], [], [], _, _, h, _, _, _ => h
  | t :: ts, v :: vs, d :: ds, ps, hr, ⟨p, q, h1, h2, e⟩, hb, hl, hs => by
    obtain ⟨r1, r2⟩ := hr t (by simp)
    refine ⟨p, q, WideElems.Trod_stays laidOut' r1 r2 h1 (fun x hx => hb.same (hl x (by rw [e]; simp [hx]))) (fun x hx => hs x (by rw [e]; simp [hx])), ?_, e⟩
    exact args_stay (fun u hu => hr u (by simp [hu])) h2 hb (fun x hx => hl x (by rw [e]; simp [hx])) (fun x hx => hs x (by rw [e]; simp [hx]))
set_option maxRecDepth 100000 in
/-- A slice of pairs that came in. -/
theorem open_pairs {H : Type} {enc : TypeId × Value → H} {W : World} {v : Value} {d : DataW H} {p : List MemPlace} {r : Reach} {b0 : Nat} (hv : Value.okWide Tryz.prog W r b0 22 v) (h : DataW.Trod enc Tryz.prog W 0 (fun _ => true) true 22 v d p) :
    ∃ xs, PairsIn W v xs ∧ xs.length ≤ 9223372036854775807 := by
  obtain ⟨a, len, cap, rfl⟩ := okWide_slice Tryz.underlying22 hv
  obtain ⟨fuel, hf⟩ := h
  rcases open_slice Tryz.underlying22 hf with ⟨h0, _⟩ | ⟨a', len', cap', m, n, D, Pl, hcs, hb, hl, hm, hmm, hx, hi⟩
  · have h0' : Value.slice a len cap = .slice none 0 0 := by simpa [Value.cells] using h0
    rw [h0']
    exact ⟨[], ⟨none, 0, rfl, Nat.le_refl _, by simp, by simp⟩, by decide⟩
  · have h0' : Value.slice a len cap = .slice (some a') len' cap' := by simpa [Value.cells] using hcs
    rw [h0']
    simp only [if_true] at hmm
    subst hmm
    have each : ∀ i, i < m → ∃ y : Int × Int, ((-9223372036854775808 ≤ y.1 ∧ y.1 ≤ 9223372036854775807) ∧ (-9223372036854775808 ≤ y.2 ∧ y.2 ≤ 9223372036854775807)) ∧ W.cell? (a'.add (i * 2)) = some (.int .i64 y.1) ∧ W.cell? (a'.add (i * 2 + 1)) = some (.int .i64 y.2) := by
      intro i hi'
      obtain ⟨cs', h1, h2⟩ := hi i hi'
      have hc2 : Tryz.prog.cellsOf 112 = 2 := by kernel_rfl
      have hc1 : Tryz.prog.cellsOf 3 = 1 := by kernel_rfl
      rw [hc2] at h1
      obtain ⟨_, hlen, hcell⟩ := World.cells?_some h1
      obtain ⟨xs, mm, _, _, _, hxl, hxe⟩ := DataW.trod_array (n := 2) (e := 3) Tryz.underlying112 h2
      match cs', hlen with
      | [u0, u1], _ =>
        have g0 := hxe 0 (by decide)
        have g1 := hxe 1 (by decide)
        rw [hc1] at g0 g1
        have k0 := hcell 0 (by decide)
        have k1 := hcell 1 (by decide)
        match xs, hxl with
        | [y0, y1], _ =>
          obtain ⟨n0, e0, _, w0⟩ := DataW.trod_int Tryz.underlying3 (show DataW.trod enc Tryz.prog W 0 (fun _ => true) true mm 3 [u0] = some y0 from g0)
          obtain ⟨n1, e1, _, w1⟩ := DataW.trod_int Tryz.underlying3 (show DataW.trod enc Tryz.prog W 0 (fun _ => true) true mm 3 [u1] = some y1 from g1)
          simp only [List.cons.injEq, and_true] at e0 e1
          subst e0 e1
          refine ⟨(n0, n1), ⟨bounds_i64 w0, bounds_i64 w1⟩, ?_, ?_⟩
          · simpa [Addr.add] using k0
          · rw [← Go.Deep.add_add]; exact k1
    obtain ⟨Y, hY⟩ := choose_lt each
    refine ⟨(List.range len').map Y, ⟨some a', m, by simp, by simpa using hl, ?_, ?_⟩, by simp; exact Nat.le_trans hl (Nat.le_trans hm (by decide))⟩
    · intro p hp
      obtain ⟨i, hi1, rfl⟩ := List.mem_map.1 hp
      exact (hY i (Nat.lt_of_lt_of_le (List.mem_range.1 hi1) hl)).1
    · intro hne
      have hpos : 0 < m := by
        rcases Nat.eq_zero_or_pos len' with e | e
        · subst e; simp at hne
        · omega
      obtain ⟨_, hc0, _⟩ := hY 0 hpos
      obtain ⟨bb, oo, sp⟩ := a'
      have hsp : sp = none := by
        simp only [Nat.zero_mul, Addr.add, if_true, World.cell?] at hc0
        split at hc0
        · cases sp with
          | none => rfl
          | some _ => simp at hc0
        · cases hc0
      subst hsp
      have hblt : bb < W.heap.size := by
        have := hc0
        simp only [Nat.zero_mul, Addr.add, if_true] at this
        exact lt_of_cell this
      refine ⟨bb, oo, rfl, hblt, fun i p hp => ?_⟩
      rw [List.getElem?_map] at hp
      have hil : i < len' := by
        rcases Nat.lt_or_ge i len' with h | h
        · exact h
        · rw [List.getElem?_eq_none (by simpa using h)] at hp; simp at hp
      rw [List.getElem?_range hil] at hp
      simp only [Option.map_some, Option.some.injEq] at hp
      subst hp
      obtain ⟨_, k0, k1⟩ := hY i (by omega)
      have ap : ∀ j, (⟨bb, oo, none⟩ : Addr).add j = ⟨bb, oo + j, none⟩ := fun j => by
        unfold Addr.add
        by_cases h : j = 0
        · subst h; simp
        · simp [h]
      rw [ap] at k0 k1
      exact ⟨k0, k1⟩
set_option maxRecDepth 100000 in
/-- Where a call gives true, and memory has only grown, the row holds. -/
theorem post_true {H : Type} {enc : TypeId × Value → H} {f : Func} {s : ChangeSpec} {W W' : World} {args : Array Value} {ds : List (DataW H)} {before : List MemPlace}
    (hvars : s.vars = []) (hrt : f.resultTypes = #[4]) (hW : DataW.Whole enc Tryz.prog f.params.toList s.vars false W args.toList ds [] before) (hr : Rowed f.params.toList)
    (hres : (s.fn H (ds ++ [])).results = [.lit (.bool true)]) (harg : (s.fn H (ds ++ [])).args = ds) (hv : (s.fn H (ds ++ [])).vars = []) (hb : Below W.heap.size W W') :
    s.post enc Tryz.prog f false true false false W args (.bool true) W' := by
  have hW' := hW
  have hlt : ∀ p ∈ before, p.block < W.heap.size := fun p hp => hW.lt p hp
  obtain ⟨p, q, hA, hV, rfl, hfz, hnd⟩ := hW
  rw [hvars] at hV
  obtain ⟨_, rfl⟩ := trodVars_none hV
  rw [List.append_nil] at hlt
  refine ⟨ds, [], p ++ [], [], p, [], hW', ?_, ?_, ?_, ?_, fun h => by cases h⟩
  · rw [hres, hrt]
    exact trodAll_cons_mk (shut_bool Tryz.underlying4 _) trodAll_mk0
  · rw [harg]
    exact args_stay hr hA hb hlt (fun x hx => by simpa using hlt x hx)
  · rw [hv, hvars]; rfl
  · exact hb.frame _
end Go.Proofs.YtchoelgkcnnnkaaGreatDoor
namespace Go.Proofs.YtchoelgkcnnnkaaGreatDoor
open Go.ChangeShapes Go.WideShapes Go.ChangeAt Go.RowKit Go.Deep
set_option maxRecDepth 100000 in
/-- A slice of integers that came in. -/
theorem open_intsin {H : Type} {enc : TypeId × Value → H} {W : World} {v : Value} {d : DataW H} {p : List MemPlace} {r : Reach} {b0 : Nat} (hv : Value.okWide Tryz.prog W r b0 46 v) (h : DataW.Trod enc Tryz.prog W 0 (fun _ => true) true 46 v d p) :
    ∃ ys, IntsArg W v ys ∧ ys.length ≤ 9223372036854775807 := by
  obtain ⟨a, len, cap, rfl⟩ := okWide_slice Tryz.underlying46 hv
  obtain ⟨fuel, hf⟩ := h
  have hc1 : Tryz.prog.cellsOf 3 = 1 := by kernel_rfl
  rcases open_ints Tryz.underlying46 Tryz.underlying3 hc1 hf with ⟨h0, _⟩ | ⟨a', len', cap', zs, hcs, hb, hl, hm, hz, hx, hcell, hwf⟩
  · have h0' : Value.slice a len cap = .slice none 0 0 := by simpa [Value.cells] using h0
    rw [h0']
    exact ⟨[], ⟨none, 0, rfl, Nat.le_refl _, by simp, by simp⟩, by decide⟩
  · have h0' : Value.slice a len cap = .slice (some a') len' cap' := by simpa [Value.cells] using hcs
    rw [h0']
    simp only [if_true] at hz
    have hlt : (zs.take len').length = len' := by rw [List.length_take]; omega
    refine ⟨zs.take len', ⟨some a', cap', by rw [hlt], by rw [hlt]; exact hl, fun y hy => bounds_i64 (hwf y (List.mem_of_mem_take hy)), fun hne => ?_⟩, by rw [hlt]; exact Nat.le_trans hl (Nat.le_trans hm (by decide))⟩
    have hpos : 0 < zs.length := by
      rcases Nat.eq_zero_or_pos len' with e | e
      · subst e; simp at hne
      · omega
    have hc0 := hcell 0 hpos
    obtain ⟨bb, oo, sp⟩ := a'
    have hsp : sp = none := by
      simp only [Addr.add, if_true, World.cell?] at hc0
      split at hc0
      · cases sp with
        | none => rfl
        | some _ => simp at hc0
      · cases hc0
    subst hsp
    have hblt : bb < W.heap.size := by
      have := hc0
      simp only [Addr.add, if_true] at this
      exact lt_of_cell this
    refine ⟨bb, oo, rfl, hblt, fun i y hy => ?_⟩
    rw [List.getElem?_take] at hy
    split at hy
    · have hi := (List.getElem?_eq_some_iff.1 hy).1
      have k0 := hcell i hi
      rw [add_plain] at k0
      rw [k0]
      simp [hy]
    · cases hy
end Go.Proofs.YtchoelgkcnnnkaaGreatDoor
namespace Go.Proofs.YtchoelgkcnnnkaaGreatDoor
open Go.ChangeShapes Go.WideShapes Go.ChangeAt Go.RowKit Go.Deep
/-- The types Term and Value: two integers and a text. -/
structure IsTm (t : TypeId) (f0 f1 f2 : Field) : Prop where
  und : Tryz.prog.underlying t = some (.struct #[f0, f1, f2])
  t0 : f0.type = 3
  o0 : f0.offset = 0
  t1 : f1.type = 3
  o1 : f1.offset = 1
  t2 : f2.type = 9
  o2 : f2.offset = 2
  cells : Tryz.prog.cellsOf t = 3
theorem isTm24 : ∃ f0 f1 f2, IsTm 24 f0 f1 f2 := ⟨_, _, _, Tryz.underlying24, rfl, rfl, rfl, rfl, rfl, rfl, by kernel_rfl⟩
theorem isTm48 : ∃ f0 f1 f2, IsTm 48 f0 f1 f2 := ⟨_, _, _, Tryz.underlying48, rfl, rfl, rfl, rfl, rfl, rfl, by kernel_rfl⟩
/-- The integers of a term that came in are in their range, and its text is no longer than a text can be. -/
def TmOk (t : Tm) : Prop := (-9223372036854775808 ≤ t.k ∧ t.k ≤ 9223372036854775807) ∧ (-9223372036854775808 ≤ t.n ∧ t.n ≤ 9223372036854775807) ∧ t.s.size ≤ 9223372036854775807
theorem tm_cells {H : Type} {enc : TypeId × Value → H} {W : World} {t : TypeId} {f0 f1 f2 : Field} (T : IsTm t f0 f1 f2) {fuel : Nat} {cs : List Value} {x : DataW H × List MemPlace} (h : DataW.trod enc Tryz.prog W 0 (fun _ => true) true fuel t cs = some x) :
    ∃ u : Tm, cs = u.vals ∧ TmOk u := by
  obtain ⟨y0, y1, y2, n, _, hl, g0, g1, g2⟩ := trod_struct3 T.und h
  have hc3 : Tryz.prog.cellsOf 3 = 1 := by kernel_rfl
  have hc9 : Tryz.prog.cellsOf 9 = 1 := by kernel_rfl
  rw [T.cells] at hl
  rw [T.t0, T.o0, hc3] at g0
  rw [T.t1, T.o1, hc3] at g1
  rw [T.t2, T.o2, hc9] at g2
  match cs, hl with
  | [u0, u1, u2], _ =>
    obtain ⟨n0, e0, _, w0⟩ := DataW.trod_int Tryz.underlying3 (show DataW.trod enc Tryz.prog W 0 (fun _ => true) true n 3 [u0] = some y0 from g0)
    obtain ⟨n1, e1, _, w1⟩ := DataW.trod_int Tryz.underlying3 (show DataW.trod enc Tryz.prog W 0 (fun _ => true) true n 3 [u1] = some y1 from g1)
    obtain ⟨s2, e2, _, w2⟩ := DataW.trod_string Tryz.underlying9 (show DataW.trod enc Tryz.prog W 0 (fun _ => true) true n 9 [u2] = some y2 from g2)
    simp only [List.cons.injEq, and_true] at e0 e1 e2
    subst e0 e1 e2
    exact ⟨⟨n0, n1, s2⟩, rfl, bounds_i64 w0, bounds_i64 w1, Nat.le_trans w2 (by decide)⟩
set_option maxRecDepth 100000 in
/-- A term or a value that came in. -/
theorem open_tm {H : Type} {enc : TypeId × Value → H} {W : World} {t : TypeId} {f0 f1 f2 : Field} (T : IsTm t f0 f1 f2) {v : Value} {d : DataW H} {p : List MemPlace} {r : Reach} {b0 : Nat} (hv : Value.okWide Tryz.prog W r b0 t v) (h : DataW.Trod enc Tryz.prog W 0 (fun _ => true) true t v d p) :
    ∃ u : Tm, v = u.agg ∧ TmOk u := by
  obtain ⟨cs, rfl, _⟩ := okWide_struct T.und hv
  obtain ⟨fuel, hf⟩ := h
  obtain ⟨u, hu, ok⟩ := tm_cells T hf
  refine ⟨u, ?_, ok⟩
  have : cs.toList = u.vals := by simpa [Value.cells] using hu
  unfold Tm.agg
  congr 1
  rw [← Array.toList_inj, this]; rfl
set_option maxRecDepth 100000 in
/-- A slice of terms, or of values, that came in. -/
theorem open_terms {H : Type} {enc : TypeId × Value → H} {W : World} {t e : TypeId} {f0 f1 f2 : Field} (T : IsTm e f0 f1 f2) (ht : Tryz.prog.underlying t = some (.slice e)) {v : Value} {d : DataW H} {p : List MemPlace} {r : Reach} {b0 : Nat} (hv : Value.okWide Tryz.prog W r b0 t v) (h : DataW.Trod enc Tryz.prog W 0 (fun _ => true) true t v d p) :
    ∃ xs, TermsIn W v xs ∧ xs.length ≤ 9223372036854775807 ∧ ∀ x ∈ xs, TmOk x := by
  obtain ⟨a, len, cap, rfl⟩ := okWide_slice ht hv
  obtain ⟨fuel, hf⟩ := h
  rcases open_slice ht hf with ⟨h0, _⟩ | ⟨a', len', cap', m, n, D, Pl, hcs, hb, hl, hm, hmm, hx, hi⟩
  · have h0' : Value.slice a len cap = .slice none 0 0 := by simpa [Value.cells] using h0
    rw [h0']
    exact ⟨[], ⟨none, 0, rfl, Nat.le_refl _, fun _ _ => rfl, by simp⟩, by decide, by simp⟩
  · have h0' : Value.slice a len cap = .slice (some a') len' cap' := by simpa [Value.cells] using hcs
    rw [h0']
    simp only [if_true] at hmm
    subst hmm
    have each : ∀ i, i < m → ∃ y : Tm, TmOk y ∧ W.cell? (a'.add (i * 3)) = some (.int .i64 y.k) ∧ W.cell? (a'.add (i * 3 + 1)) = some (.int .i64 y.n) ∧ W.cell? (a'.add (i * 3 + 2)) = some (.string y.s) := by
      intro i hi'
      obtain ⟨cs', h1, h2⟩ := hi i hi'
      rw [T.cells] at h1
      obtain ⟨u, hu, ok⟩ := tm_cells T h2
      obtain ⟨_, hlen, hcell⟩ := World.cells?_some h1
      subst hu
      have k0 := hcell 0 (by decide)
      have k1 := hcell 1 (by decide)
      have k2 := hcell 2 (by decide)
      refine ⟨u, ok, ?_, ?_, ?_⟩
      · simpa [Addr.add, Tm.vals] using k0
      · rw [← Go.Deep.add_add]; exact k1
      · rw [← Go.Deep.add_add]; exact k2
    haveI : Inhabited Tm := ⟨tm0⟩
    obtain ⟨Y, hY⟩ := choose_lt each
    refine ⟨(List.range len').map Y, ⟨some a', m, by simp, by simpa using hl, fun _ _ => rfl, ?_⟩, by simp; exact Nat.le_trans hl (Nat.le_trans hm (by decide)), ?_⟩
    · intro hne
      have hpos : 0 < m := by
        rcases Nat.eq_zero_or_pos len' with e | e
        · subst e; simp at hne
        · omega
      obtain ⟨_, hc0, _⟩ := hY 0 hpos
      obtain ⟨bb, oo, sp⟩ := a'
      have hsp : sp = none := by
        simp only [Nat.zero_mul, Addr.add, if_true, World.cell?] at hc0
        split at hc0
        · cases sp with
          | none => rfl
          | some _ => simp at hc0
        · cases hc0
      subst hsp
      refine ⟨bb, oo, rfl, fun i p hp => ?_⟩
      rw [List.getElem?_map] at hp
      have hil : i < len' := by
        rcases Nat.lt_or_ge i len' with h | h
        · exact h
        · rw [List.getElem?_eq_none (by simpa using h)] at hp; simp at hp
      rw [List.getElem?_range hil] at hp
      simp only [Option.map_some, Option.some.injEq] at hp
      subst hp
      obtain ⟨ok, k0, k1, k2⟩ := hY i (by omega)
      have ap : ∀ j, (⟨bb, oo, none⟩ : Addr).add j = ⟨bb, oo + j, none⟩ := fun j => by
        unfold Addr.add
        by_cases h : j = 0
        · subst h; simp
        · simp [h]
      rw [ap] at k0 k1 k2
      exact ⟨k0, k1, k2, ok.2.2⟩
    · intro x hx'
      obtain ⟨i, hi1, rfl⟩ := List.mem_map.1 hx'
      exact (hY i (Nat.lt_of_lt_of_le (List.mem_range.1 hi1) hl)).1
end Go.Proofs.YtchoelgkcnnnkaaGreatDoor
