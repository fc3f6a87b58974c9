/- WHAT ALL ROWS SHARE: what the listed variables give; a world in which they lie. Printed by genrow.py. -/
import Derived.Test.YtchoelgkcnnnkaaGreatDoorCards
import Derived.Test.YtchoelgkcnnnkaaGreatDoorTie
import Derived.Test.YtchoelgkcnnnkaaGreatDoorGlob
import Derived.WalkKit
import Derived.ProofKit
import Derived.OpenShut
import Derived.Deep.DeepHandedRow
import Derived.Lib.LaidTab
import Derived.Stop.LaidErr
set_option linter.all false
namespace Go.Proofs.YtchoelgkcnnnkaaGreatDoor
open Go.ChangeShapes Go.WideShapes Go.ChangeAt Go.RowKit
theorem row_own : ownKnob Tryz.prog.godebug = none := by kernel_rfl
theorem g1 : Tryz.prog.globalNamed "internal/strconv.uint64pow10" = some 1 := by kernel_rfl
theorem g1t : (Tryz.prog.globals[1]?).map (·.type) = some 170 := by kernel_rfl
theorem g5 : Tryz.prog.globalNamed "strconv.ErrRange" = some 5 := by kernel_rfl
theorem g5t : (Tryz.prog.globals[5]?).map (·.type) = some 74 := by kernel_rfl
theorem g7 : Tryz.prog.globalNamed "math/bits.deBruijn64tab" = some 7 := by kernel_rfl
theorem c158 : Tryz.prog.cellsOf 158 = 1 := by kernel_rfl
theorem c170 : Tryz.prog.cellsOf 170 = 20 := by kernel_rfl
theorem c196 : Tryz.prog.cellsOf 196 = 1 := by kernel_rfl
theorem c9 : Tryz.prog.cellsOf 9 = 1 := by kernel_rfl
theorem star : "*" ++ "errors.errorString" = "*errors.errorString" := by decide
theorem row194 (u : TypeId) (h : Tryz.prog.typeName? 3 u = some "*errors.errorString") : u = 194 :=
  typeName_ptr_named (nm := "errors.errorString") (by rw [star]; kernel_rfl) (by kernel_rfl) (by decide) u (by rw [star]; exact h)
theorem var_lt {P : Program} {W : World} {n : String} {g : Nat} {cs : Array Value} (hg : P.globalNamed n = some g) (h : W.var? P n = some cs) : g < W.heap.size := by
  unfold World.var? at h
  rw [hg] at h
  simp only [Option.bind_some] at h
  rcases Nat.lt_or_ge g W.heap.size with h' | h'
  · exact h'
  · simp [Array.getElem?_eq_none h'] at h
/-- What the condition on the listed variables gives. -/
theorem glob_of {W : World} (h : laidMetH Tryz.prog Rows.formulaLawsRow.laid W) : Glob W := by
  have h0 : laidMet Tryz.prog Rows.formulaLawsRow.laid W := h
  have h1 : laidMet Tryz.prog Rows.formulaLawsRow.laid.tail W := laidMet.tail (x := ("math/bits.deBruijn32tab", Rows.laid_math_bits_deBruijn32tab)) h0
  have h2 : laidMet Tryz.prog Rows.formulaLawsRow.laid.tail.tail W := laidMet.tail (x := ("math/bits.deBruijn64tab", Rows.laid_math_bits_deBruijn64tab)) h1
  have h3 : laidMet Tryz.prog Rows.formulaLawsRow.laid.tail.tail.tail W := laidMet.tail (x := ("internal/strconv.uint64pow10", Rows.laid_internal_strconv_uint64pow10)) h2
  have h4 : laidMet Tryz.prog Rows.formulaLawsRow.laid.tail.tail.tail.tail W := laidMet.tail (x := ("unicode/utf8.acceptRanges", Rows.laid_unicode_utf8_acceptRanges)) h3
  refine ⟨?_, ?_, ?_⟩
  · have e : (Rows.laid_internal_strconv_uint64pow10 : DataW Unit) = Lib.tabData .u64 Lib.pow10Tab := by kernel_rfl
    have h2' : laidMet Tryz.prog (("internal/strconv.uint64pow10", Lib.tabData .u64 Lib.pow10Tab) :: Rows.formulaLawsRow.laid.tail.tail.tail) W := by rw [← e]; exact h2
    exact Lib.tabIs_of_head (k := .u64) (zs := Lib.pow10Tab) g1 g1t Tryz.underlying170 Tryz.underlying158 c158 c170 h2'
  · obtain ⟨a, s, hv, _⟩ := laid_sentinel h4 g5 g5t Tryz.underlying74 row194 Tryz.underlying194 Tryz.underlying196 rfl rfl Tryz.underlying9 c196 c9
    exact ⟨_, _, hv⟩
  · obtain ⟨ps, ⟨q0, t0, cs0, f0, p0, r0, hq0, ht0, hv0, _⟩, _⟩ := h1
    exact var_lt g7 hv0
def rangeS : ByteArray := ⟨#[118, 97, 108, 117, 101, 32, 111, 117, 116, 32, 111, 102, 32, 114, 97, 110, 103, 101]⟩
def syntaxS : ByteArray := ⟨#[105, 110, 118, 97, 108, 105, 100, 32, 115, 121, 110, 116, 97, 120]⟩
def putCells (cs : Array Value) : Obj → Obj
  | .cells _ t frozen => .cells cs t frozen
  | o => o
/-- A world for the witness: the settled one, the listed variables as their initialisers lay them. -/
noncomputable def laidWorld (os : Os) : World :=
  let w0 := World.holding Tryz.prog os ⟨#[.cells #[.string rangeS] 196, .cells #[.string syntaxS] 196], #[], []⟩
  { w0 with heap := (((((((w0.heap.modify 1 (putCells #[.int .u64 1, .int .u64 10, .int .u64 100, .int .u64 1000, .int .u64 10000, .int .u64 100000, .int .u64 1000000, .int .u64 10000000, .int .u64 100000000, .int .u64 1000000000, .int .u64 10000000000, .int .u64 100000000000, .int .u64 1000000000000, .int .u64 10000000000000, .int .u64 100000000000000, .int .u64 1000000000000000, .int .u64 10000000000000000, .int .u64 100000000000000000, .int .u64 1000000000000000000, .int .u64 10000000000000000000])).modify 2 (putCells (Go.Pinned.utf8FirstZ.map fun n => Value.int .u8 (n : Nat)).toArray)).modify 3 (putCells #[.int .u8 128, .int .u8 191, .int .u8 160, .int .u8 191, .int .u8 128, .int .u8 159, .int .u8 144, .int .u8 191, .int .u8 128, .int .u8 143, .int .u8 0, .int .u8 0, .int .u8 0, .int .u8 0, .int .u8 0, .int .u8 0, .int .u8 0, .int .u8 0, .int .u8 0, .int .u8 0, .int .u8 0, .int .u8 0, .int .u8 0, .int .u8 0, .int .u8 0, .int .u8 0, .int .u8 0, .int .u8 0, .int .u8 0, .int .u8 0, .int .u8 0, .int .u8 0])).modify 4 (putCells #[.iface 194 (.pointer (some ⟨(World.settled Tryz.prog os).heap.size + 1, 0, none⟩))])).modify 5 (putCells #[.iface 194 (.pointer (some ⟨(World.settled Tryz.prog os).heap.size, 0, none⟩))])).modify 6 (putCells #[.int .u8 0, .int .u8 1, .int .u8 28, .int .u8 2, .int .u8 29, .int .u8 14, .int .u8 24, .int .u8 3, .int .u8 30, .int .u8 22, .int .u8 20, .int .u8 15, .int .u8 25, .int .u8 17, .int .u8 4, .int .u8 8, .int .u8 31, .int .u8 27, .int .u8 13, .int .u8 23, .int .u8 21, .int .u8 19, .int .u8 16, .int .u8 7, .int .u8 26, .int .u8 12, .int .u8 18, .int .u8 6, .int .u8 11, .int .u8 5, .int .u8 10, .int .u8 9])).modify 7 (putCells #[.int .u8 0, .int .u8 1, .int .u8 56, .int .u8 2, .int .u8 57, .int .u8 49, .int .u8 28, .int .u8 3, .int .u8 61, .int .u8 58, .int .u8 42, .int .u8 50, .int .u8 38, .int .u8 29, .int .u8 17, .int .u8 4, .int .u8 62, .int .u8 47, .int .u8 59, .int .u8 36, .int .u8 45, .int .u8 43, .int .u8 51, .int .u8 22, .int .u8 53, .int .u8 39, .int .u8 33, .int .u8 30, .int .u8 24, .int .u8 18, .int .u8 12, .int .u8 5, .int .u8 63, .int .u8 55, .int .u8 48, .int .u8 27, .int .u8 60, .int .u8 41, .int .u8 37, .int .u8 16, .int .u8 46, .int .u8 35, .int .u8 44, .int .u8 21, .int .u8 52, .int .u8 32, .int .u8 23, .int .u8 11, .int .u8 54, .int .u8 26, .int .u8 40, .int .u8 15, .int .u8 34, .int .u8 20, .int .u8 31, .int .u8 10, .int .u8 25, .int .u8 14, .int .u8 19, .int .u8 9, .int .u8 13, .int .u8 8, .int .u8 7, .int .u8 6])) }
theorem laid_met (os : Os) (args : Array Value) : laidMet Tryz.prog Rows.formulaLawsRow.laid ((laidWorld os).forCall (fun _ _ => 0) ⟨#[], args, []⟩).memory :=
  laidMet_of_run' 8 (by kernel_rfl) (by kernel_rfl)
end Go.Proofs.YtchoelgkcnnnkaaGreatDoor
