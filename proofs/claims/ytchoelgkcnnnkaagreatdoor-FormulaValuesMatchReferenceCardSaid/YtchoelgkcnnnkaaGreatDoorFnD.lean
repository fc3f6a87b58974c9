/- WALKS: the type of a name (formula.TypeOf). · WALK: strings.Builder's copyCheck, WriteString, WriteByte (at this program: the shelf's body has the panic's statement, which this loader refuses). · WALKS: whether the fields of a term are right (formula.isFormed). -/
import Derived.Test.YtchoelgkcnnnkaaGreatDoorPlB
import Derived.Test.YtchoelgkcnnnkaaGreatDoorFnB
import Derived.Test.YtchoelgkcnnnkaaGreatDoorShelf
import Derived.Shelf.Strings.BuilderK
namespace Go.Proofs.YtchoelgkcnnnkaaGreatDoor
open Go.RowKit

/-- A string from its bytes. -/
def mkS (l : List UInt8) : ByteArray := ⟨l.toArray⟩
theorem mkS_l (l : List UInt8) : (mkS l).data.toList = l := rfl
theorem eq_mkS (s : ByteArray) : s = mkS s.data.toList := by obtain ⟨⟨l⟩⟩ := s; rfl
theorem bytes_ext {s t : ByteArray} (h : s.data.toList = t.data.toList) : s = t := by rw [eq_mkS s, eq_mkS t, h]
theorem mkS_size (l : List UInt8) : (mkS l).size = l.length := rfl

namespace Pl
def digs : List UInt8 := [48, 49, 50, 51, 52, 53, 54, 55, 56, 57]
theorem digs_contains (b : UInt8) : digs.contains b = isDig b := by
  have h : ∀ n : Fin 256, digs.contains (UInt8.ofNat n.val) = isDig (UInt8.ofNat n.val) := by decide +kernel
  have := h ⟨b.toNat, b.toNat_lt⟩
  simpa using this
theorem dropWhile_isEmpty {α : Type} (p : α → Bool) (l : List α) : (l.dropWhile p).isEmpty = l.all p := by
  induction l with
  | nil => rfl
  | cons a t ih =>
    by_cases h : p a
    · simp [h, ← ih]
    · simp [h]
/-- Are all bytes digits? -/
def allDig (s : ByteArray) : Bool := s.data.toList.all isDig
theorem trimS_isEmpty (l cs : List UInt8) : (Lib.trimS l cs).isEmpty = l.all (cs.contains ·) := by
  unfold Lib.trimS Lib.trimLeftS
  rw [dropWhile_isEmpty]
  unfold Lib.trimRightS
  rw [List.all_reverse]
  have key : ∀ m : List UInt8, (m.dropWhile (cs.contains ·)).all (cs.contains ·) = m.all (cs.contains ·) := by
    intro m
    induction m with
    | nil => rfl
    | cons a t ih =>
      by_cases h : cs.contains a = true
      · rw [List.dropWhile_cons_of_pos (by exact h), List.all_cons, ih]
        simp only [h, Bool.true_and]
      · rw [List.dropWhile_cons_of_neg (by exact h)]
  rw [key, List.all_reverse]
theorem indexByte_nts (c : UInt8) : Lib.indexByte [110, 116, 115] c = letterT c - 1 := by
  have h : ∀ n : Fin 256, Lib.indexByte [110, 116, 115] (UInt8.ofNat n.val) = letterT (UInt8.ofNat n.val) - 1 := by decide +kernel
  have := h ⟨c.toNat, c.toNat_lt⟩
  simpa using this
end Pl

theorem trim_calls (s cutset : ByteArray) (w : World) (hs : s.size ≤ 9223372036854775807) (hcs : cutset.size < 4294967281) (hascii : ∀ (j : Nat) b, cutset.data.toList[j]? = some b → b.toNat < 128) :
    Calls Tryz.prog 59 #[.string s, .string cutset] w fun e w' => e = .returned (.string ⟨(Lib.trimS s.data.toList cutset.data.toList).toArray⟩) ∧ Below w.heap.size w w' := Any.strings_Trim_laid Tryz.lays160 (by kernel_rfl) s cutset w hs hcs hascii

/-- strings.Trim of digits: what is left is empty exactly if all are digits. -/
theorem trim_digits (s : ByteArray) (w : World) (hs : s.size ≤ 9223372036854775807) :
    Calls Tryz.prog 59 #[.string s, .string ⟨#[48, 49, 50, 51, 52, 53, 54, 55, 56, 57]⟩] w fun e w' => ∃ T : ByteArray, e = .returned (.string T) ∧ T.toList.isEmpty = Pl.allDig s ∧ Below w.heap.size w w' := by
  refine (trim_calls s _ w hs (by decide) (ascii_of_all (by decide))).mono ?_
  rintro e w' ⟨rfl, hb⟩
  refine ⟨_, rfl, ?_, hb⟩
  rw [Lib.toList_data]
  show (Lib.trimS s.data.toList Pl.digs).isEmpty = _
  rw [Pl.trimS_isEmpty]
  unfold Pl.allDig
  congr 1
  funext b
  exact Pl.digs_contains b

theorem index_nts (c : UInt8) (w : World) :
    Calls Tryz.prog 58 #[.string ⟨#[110, 116, 115]⟩, .string ⟨#[c]⟩] w fun e w' => e = .returned (.int .i64 (Pl.letterT c - 1)) ∧ w = w' := by
  refine (Tryz.strings_Index_one ⟨#[110, 116, 115]⟩ c w).mono ?_
  rintro e w' ⟨rfl, rfl⟩
  exact ⟨ret_int (Pl.indexByte_nts c), rfl⟩

set_option maxHeartbeats 800000 in
theorem typeOf_empty (w : World) :
    Calls Tryz.prog 25 #[.string ⟨#[]⟩] w fun e w' => e = .returned (.int .i64 0) ∧ w = w' := by
  go_enter Tryz.func25, Tryz.ntmps25
  go_wp2
  go_ret
  exact ⟨rfl, rfl⟩

set_option maxHeartbeats 800000 in
theorem typeOf_one (c : UInt8) (w : World) :
    Calls Tryz.prog 25 #[.string ⟨#[c]⟩] w fun e w' => e = .returned (.int .i64 (Pl.letterT c)) ∧ w = w' := by
  obtain ⟨h1, h2⟩ := Pl.letterT_range c
  go_enter Tryz.func25, Tryz.ntmps25
  go_wp2_with (go_at_call 58; refine (index_nts _ _).mono ?_; rintro e w' ⟨rfl, rfl⟩)
  all_goals (go_ret; refine ⟨ret_int ?_, rfl⟩)
  · rename_i h; simp at h; exact h.symm
  · rfl

set_option maxHeartbeats 800000 in
theorem typeOf_more (s R : ByteArray) (c : UInt8) (r : Int) (w : World) (hs : s.size ≤ 9223372036854775807) (h2 : (1 : Int) < s.size) (hx : s.extract 0 1 = ⟨#[c]⟩) (hR : s.extract 1 s.size = R)
    (hRn : R.toList.isEmpty = false) (hRs : (0 : Int) < R.size) (hRl : R.size ≤ 9223372036854775807)
    (HR : Hid (r = if (R.size : Int) ≤ 2 ∧ Pl.allDig R = true ∧ 49 ≤ ((R[0]'(by omega)).toNat : Int) then Pl.letterT c else 0)) :
    Calls Tryz.prog 25 #[.string s] w fun e w' => e = .returned (.int .i64 r) ∧ Below w.heap.size w w' := by
  obtain ⟨g1, g2⟩ := Pl.letterT_range c
  have hRn' : ¬ R.toList = [] := by simpa using hRn
  have hR0 : 0 < R.size := by omega
  by_cases hz : Pl.letterT c = 0
  · have hz' : (Pl.letterT c == 0) = true := by simpa using hz
    have HZ := Lib.hid hz
    clear hz
    go_enter Tryz.func25, Tryz.ntmps25
    go_wp2_with fail
    go_quiet (fail)
    go_wp2_with (go_at_call 58; refine (index_nts _ _).mono ?_; rintro e w' ⟨rfl, rfl⟩)
    go_ret
    refine ⟨ret_int ?_, below_drewN' (Below.refl _ _) _⟩
    rw [HR.out, HZ.out]; simp
  · have hz' : (Pl.letterT c == 0) = false := by simpa using hz
    clear hz
    by_cases hl : (2 : Int) < R.size
    · go_enter Tryz.func25, Tryz.ntmps25
      go_wp2_with fail
      go_quiet (fail)
      go_wp2_with (go_at_call 58; refine (index_nts _ _).mono ?_; rintro e w' ⟨rfl, rfl⟩)
      go_ret
      refine ⟨ret_int ?_, below_drewN' (Below.refl _ _) _⟩
      rw [HR.out, if_neg (by omega)]
    · by_cases hd : ((R[0]'(by omega)).toNat : Int) < 49
      · go_enter Tryz.func25, Tryz.ntmps25
        go_wp2_with fail
        go_quiet (fail)
        go_wp2_with (go_at_call 58; refine (index_nts _ _).mono ?_; rintro e w' ⟨rfl, rfl⟩)
        go_ret
        refine ⟨ret_int ?_, below_drewN' (Below.refl _ _) _⟩
        rw [HR.out, if_neg (by omega)]
      · go_enter Tryz.func25, Tryz.ntmps25
        go_wp2_with fail
        go_quiet (fail)
        go_wp2_with (first | (go_at_call 58; refine (index_nts _ _).mono ?_; rintro e w' ⟨rfl, rfl⟩) | (go_at_call 59; refine (trim_digits R _ hRl).mono ?_; rintro e w' ⟨T, rfl, hT, hb⟩))
        all_goals
          go_ret
          refine ⟨ret_int ?_, (below_drewN' (Below.refl _ _) _).trans hb⟩
          rename_i h
          rw [HR.out]
        · rw [if_neg]
          intro hh
          rcases h with h | h
          · omega
          · simp [hh.2.1] at h
        · rw [if_pos ⟨h.1.1, by simpa using h.2, h.1.2⟩]

theorem Pl.typeOf_two (c d : UInt8) (t : List UInt8) : typeOf (c :: d :: t) = if ((d :: t).length : Int) ≤ 2 ∧ (d :: t).all isDig = true ∧ 49 ≤ (d.toNat : Int) then letterT c else 0 := by
  have hd : isDig1 d = (isDig d && decide (49 ≤ (d.toNat : Int))) := by
    unfold isDig isDig1
    rw [Bool.eq_iff_iff]
    simp
    omega
  match t with
  | [] => simp only [typeOf, hd, List.length_cons, List.length_nil, List.all_cons, List.all_nil]; congr 1; simp only [Bool.and_eq_true, decide_eq_true_eq, Bool.and_true, eq_iff_iff]; constructor <;> (intro h; simp_all)
  | [e] => simp only [typeOf, hd, List.length_cons, List.length_nil, List.all_cons, List.all_nil]; congr 1; simp only [Bool.and_eq_true, decide_eq_true_eq, Bool.and_true, eq_iff_iff]; constructor <;> (intro h; simp_all)
  | e :: f :: t => simp [typeOf]; omega

/-- formula.TypeOf at every name. -/
theorem typeOf_any (s : ByteArray) (w : World) (hs : s.size ≤ 9223372036854775807) :
    Calls Tryz.prog 25 #[.string s] w fun e w' => e = .returned (.int .i64 (Pl.typeOf s.data.toList)) ∧ Below w.heap.size w w' := by
  obtain ⟨⟨l⟩⟩ := s
  match l with
  | [] => exact (typeOf_empty w).mono fun e w' ⟨h, hw⟩ => ⟨h, hw ▸ Below.refl _ _⟩
  | [c] => exact (typeOf_one c w).mono fun e w' ⟨h, hw⟩ => ⟨h, hw ▸ Below.refl _ _⟩
  | c :: d :: t =>
    have hx : (⟨(c :: d :: t).toArray⟩ : ByteArray).extract 0 1 = ⟨#[c]⟩ := bytes_ext (by rw [Lib.extract_data]; rfl)
    have hR : (⟨(c :: d :: t).toArray⟩ : ByteArray).extract 1 (⟨(c :: d :: t).toArray⟩ : ByteArray).size = mkS (d :: t) := bytes_ext (by rw [Lib.extract_to_end]; rfl)
    have hsz : (⟨(c :: d :: t).toArray⟩ : ByteArray).size = t.length + 2 := rfl
    have hs' : t.length + 2 ≤ 9223372036854775807 := hs
    refine typeOf_more _ (mkS (d :: t)) c _ w hs (by rw [hsz]; omega) hx hR (by rw [Lib.toList_data]; rfl) (by rw [mkS_size, List.length_cons]; omega) (by rw [mkS_size, List.length_cons]; omega) ?_
    exact Pl.typeOf_two c d t
end Go.Proofs.YtchoelgkcnnnkaaGreatDoor
namespace Go.Proofs.YtchoelgkcnnnkaaGreatDoor
open Go.RowKit

/-- The builder in block b holds the bytes l. -/
def HoldsB (w : World) (b : Nat) (l : List UInt8) : Prop := Lib.IsBuilderF 72 5 b b (Lib.byteCells l) w
/-- What a writing call keeps. -/
def KeptB (b : Nat) (w w' : World) : Prop := Below b w w' ∧ Lib.OthersKept 5 (some b) w w'

set_option maxRecDepth 100000 in
set_option maxHeartbeats 1000000 in
theorem copyCheck_used (b : Nat) (w : World) (h0 : w.cell? ⟨b, 0, none⟩ = some (.pointer (some ⟨b, 0, none⟩))) :
    Calls Tryz.prog 68 #[.pointer (some ⟨b, 0, none⟩)] w fun e w' => e = .returned (.tuple #[]) ∧ w' = w := by
  obtain ⟨j, hj, _⟩ := Option.map_eq_some_iff.1 Tryz.Builder_Extra_169.sizeBuilder
  go_enter Tryz.func68, Tryz.ntmps68
  go_wp2
  rw [Lib.run_neq_ptr_same w _ Tryz.underlying70 hj]
  go_wp2
  go_end0
  exact ⟨rfl, rfl⟩

set_option maxRecDepth 100000 in
set_option maxHeartbeats 1000000 in
theorem copyCheck_fresh (b : Nat) (w : World) (h0 : w.cell? ⟨b, 0, none⟩ = some (.pointer none)) (hsh : w.shape? b = some (72, 2)) (hfz : w.frozen? ⟨b, 0, none⟩ = false) :
    Calls Tryz.prog 68 #[.pointer (some ⟨b, 0, none⟩)] w fun e w' => e = .returned (.tuple #[]) ∧ w' = w.setCell ⟨b, 0, none⟩ (.pointer (some ⟨b, 0, none⟩)) := by
  obtain ⟨j, hj, hjs⟩ := Option.map_eq_some_iff.1 Tryz.Builder_Extra_169.sizeBuilder
  have lies := Tryz.Builder_Extra_169.liesBuilder
  go_enter Tryz.func68, Tryz.ntmps68
  go_wp2
  rw [Lib.run_to_unsafe w ⟨b, 0, none⟩ Tryz.underlying70 Tryz.underlying146 hj (by rw [hjs]; decide) hsh (Nat.zero_lt_succ 1)]
  simp only [Result.andThen]
  rw [Oper.upon_value]
  go_wp2
  rw [run_callFunc_extern Tryz.func120 (by kernel_rfl) (by kernel_rfl) (by kernel_rfl) (e := Extern.AbiNoEscape.same) (by kernel_rfl)]
  rw [Lib.run_noEscape]
  simp only [Result.andThen]
  rw [Oper.upon_value]
  go_wp2
  rw [Lib.run_from_unsafe w ⟨b, 0, none⟩ Tryz.underlying146 Tryz.underlying70 hj hsh lies]
  simp only [Result.andThen]
  rw [Oper.upon_value]
  go_wp2
  go_end0
  exact ⟨rfl, rfl⟩

theorem copyCheck_any (b : Nat) (bs : List Value) (w : World) (h : Lib.IsBuilderF 72 5 b b bs w) :
    Calls Tryz.prog 68 #[.pointer (some ⟨b, 0, none⟩)] w fun e w' => e = .returned (.tuple #[]) ∧ Lib.BuilderAtF 72 5 b b (.pointer (some ⟨b, 0, none⟩)) bs w' ∧ KeptB b w w' := by
  rcases h with h | h
  · refine (copyCheck_fresh b w h.cell0 h.shape h.frozen0).mono ?_
    rintro e w' ⟨rfl, rfl⟩
    exact ⟨rfl, h.used _, (Below.refl b w).setCell (p := ⟨b, 0, none⟩) h.1 _, (Lib.OthersKept.refl _ _ w).setCell ⟨b, 0, none⟩ rfl _⟩
  · refine (copyCheck_used b w h.cell0).mono ?_
    rintro e w' ⟨rfl, rfl⟩
    exact ⟨rfl, h, Below.refl b _, Lib.OthersKept.refl _ _ _⟩

set_option maxHeartbeats 2000000 in
set_option maxRecDepth 100000 in
theorem writeByte_cells (b : Nat) (bs : List Value) (c : Int) (w : World) (h : Lib.IsBuilderF 72 5 b b bs w) (hlen : bs.length + 1 ≤ 140737488355328) (hBw : b ≤ w.heap.size) :
    Calls Tryz.prog 43 #[.pointer (some ⟨b, 0, none⟩), .int .u8 c] w fun e w' => e = .returned .nilIface ∧ (Lib.BuilderAtF 72 5 b b (.pointer (some ⟨b, 0, none⟩)) (bs ++ [.int .u8 c]) w' ∧ KeptB b w w') := by
  obtain ⟨i0, hi, hz0, hz1, hz2⟩ := info_parts Tryz.Builder_Extra_169.infoByte
  go_enter Tryz.func43, Tryz.ntmps43
  go_wp2_with (go_at_call 68; refine (copyCheck_any b bs _ h).mono ?_)
  rintro e w1 ⟨rfl, h1, hb1, hk1⟩
  obtain ⟨hB, v, hbk, hown, hne⟩ := h1
  have c0 : w1.cell? ⟨b, 0, none⟩ = some (.pointer (some ⟨b, 0, none⟩)) := by rw [Lib.cell_of_heap hbk]; rfl
  have c1 : w1.cell? ⟨b, 1, none⟩ = some v := by rw [Lib.cell_of_heap hbk]; rfl
  go_wp2_with (at_builtin; refine wpList_append_ownF _ rfl _ _ 40 rfl b 5 i0 (.int .u8 0) 1 1 Tryz.underlying40 hi hz0 hz1 hz2 rfl (by decide) _ _ _ rfl (hown.alloc _) ⟨w1.heap.size, 0, none⟩ 1 1 [.int .u8 c] rfl rfl ?c1 ?c2 ?c3 ?c4 ?c5 ?_)
  case c1 =>
    intro j u hj
    match j, hj with
    | 0, hj => simp at hj; subst hj; simp [Addr.add]
  case c2 => intro u hu; simp at hu; subst hu; rfl
  case c3 => unfold maxLen; omega
  case c4 => omega
  case c5 => have := hb1.size; simp; omega
  intro v' w2 hown' hgrow _
  have hlt : b < w1.heap.size := by
    rcases Nat.lt_or_ge b w1.heap.size with h' | h'
    · exact h'
    · simp [Array.getElem?_eq_none h'] at hbk
  have hb2 : w2.heap[b]? = some (.cells #[.pointer (some ⟨b, 0, none⟩), v] 72 (0, 0)) := by
    rw [hgrow.block b (by simp; omega) (fun e => hne e.symm), Lib.alloc_old w1 _ b hlt]
    exact hbk
  have d0 : w2.cell? ⟨b, 0, none⟩ = some (.pointer (some ⟨b, 0, none⟩)) := by rw [Lib.cell_of_heap hb2]; rfl
  have d1 : w2.cell? ⟨b, 1, none⟩ = some v := by rw [Lib.cell_of_heap hb2]; rfl
  have f1 : w2.frozen? ⟨b, 1, none⟩ = false := Lib.frozen_of_heap hb2 1
  obtain ⟨g, cap, rfl⟩ : ∃ g cap, v' = .slice (some ⟨g, 0, none⟩) (bs.length + 1) cap := by
    rcases hown'.2 with ⟨_, h0⟩ | ⟨g, cap, cur, fz, hv, _⟩
    · omega
    · exact ⟨g, cap, hv⟩
  go_wp2
  go_ret
  refine ⟨rfl, ?_, ?_, ((hk1.alloc _).grown hgrow (Lib.ownsRowF_kind (hown.alloc _))).setCell ⟨b, 1, none⟩ rfl _⟩
  · exact Lib.BuilderAtF.put (T := 72) (e := 5) hB hb2 (bs' := bs ++ [.int .u8 c]) (by simpa using hown') (by decide)
  · exact ((hb1.alloc (by have := hb1.size; omega) _).grown hgrow (by have := hb1.size; simp; omega) (fun k hk => (hown.lt k hk).1)).setCell (p := ⟨b, 1, none⟩) hB _

set_option maxHeartbeats 2000000 in
set_option maxRecDepth 100000 in
theorem writeString_cells (b : Nat) (bs : List Value) (s : ByteArray) (w : World) (h : Lib.IsBuilderF 72 5 b b bs w) (hlen : bs.length + s.size ≤ 140737488355328) (hBw : b ≤ w.heap.size) :
    Calls Tryz.prog 41 #[.pointer (some ⟨b, 0, none⟩), .string s] w fun e w' => e = .returned (.tuple #[.int .i64 s.size, .nilIface]) ∧ (Lib.BuilderAtF 72 5 b b (.pointer (some ⟨b, 0, none⟩)) (bs ++ Lib.strCells s) w' ∧ KeptB b w w') := by
  obtain ⟨i0, hi, hz0, hz1, hz2⟩ := info_parts Tryz.Builder_Extra_169.infoByte
  go_enter Tryz.func41, Tryz.ntmps41
  go_wp2_with (go_at_call 68; refine (copyCheck_any b bs _ h).mono ?_)
  rintro e w1 ⟨rfl, h1, hb1, hk1⟩
  obtain ⟨hB, v, hbk, hown, hne⟩ := h1
  have c0 : w1.cell? ⟨b, 0, none⟩ = some (.pointer (some ⟨b, 0, none⟩)) := by rw [Lib.cell_of_heap hbk]; rfl
  have c1 : w1.cell? ⟨b, 1, none⟩ = some v := by rw [Lib.cell_of_heap hbk]; rfl
  go_wp2_with (at_builtin; refine Lib.wpList_append_own_stringF _ rfl _ _ 40 9 rfl b 5 i0 Tryz.underlying40 Tryz.underlying9 hi hz0 hz1 hz2 _ _ _ rfl hown s rfl ?c3 ?c4 ?c5 ?_)
  case c3 => unfold maxLen; omega
  case c4 => omega
  case c5 => have := hb1.size; omega
  intro v' w2 hown' hgrow _
  have hlt : b < w1.heap.size := by
    rcases Nat.lt_or_ge b w1.heap.size with h' | h'
    · exact h'
    · simp [Array.getElem?_eq_none h'] at hbk
  have hb2 : w2.heap[b]? = some (.cells #[.pointer (some ⟨b, 0, none⟩), v] 72 (0, 0)) := by
    rw [hgrow.block b hlt (fun e => hne e.symm)]
    exact hbk
  have d0 : w2.cell? ⟨b, 0, none⟩ = some (.pointer (some ⟨b, 0, none⟩)) := by rw [Lib.cell_of_heap hb2]; rfl
  have d1 : w2.cell? ⟨b, 1, none⟩ = some v := by rw [Lib.cell_of_heap hb2]; rfl
  have f1 : w2.frozen? ⟨b, 1, none⟩ = false := Lib.frozen_of_heap hb2 1
  obtain ⟨ao, n', cap, rfl⟩ : ∃ ao n' cap, v' = .slice ao n' cap := by
    rcases hown'.2 with ⟨hv, _⟩ | ⟨g, cap, cur, fz, hv, _⟩
    · exact ⟨_, _, _, hv⟩
    · exact ⟨_, _, _, hv⟩
  go_wp2
  go_ret2
  refine ⟨rfl, ?_, ?_, (hk1.grown hgrow (Lib.ownsRowF_kind hown)).setCell ⟨b, 1, none⟩ rfl _⟩
  · exact Lib.BuilderAtF.put (T := 72) (e := 5) hB hb2 (bs' := bs ++ Lib.strCells s) (by simpa [Lib.strCells_length] using hown') (by decide)
  · exact (hb1.grown hgrow (by have := hb1.size; omega) (fun k hk => (hown.lt k hk).1)).setCell (p := ⟨b, 1, none⟩) hB _

theorem HoldsB.lt {w : World} {b : Nat} {l : List UInt8} (h : HoldsB w b l) : b < w.heap.size := by
  rcases h with h | h
  · exact h.lt
  · exact h.lt

/-- WriteByte in bytes. -/
theorem writeByte_any (b : Nat) (l : List UInt8) (c : Int) (x : UInt8) (hx : c = x.toNat) (w : World) (h : HoldsB w b l) (hlen : l.length + 1 ≤ 140737488355328) :
    Calls Tryz.prog 43 #[.pointer (some ⟨b, 0, none⟩), .int .u8 c] w fun e w' => e = .returned .nilIface ∧ HoldsB w' b (l ++ [x]) ∧ KeptB b w w' := by
  subst hx
  refine (writeByte_cells b _ _ w h (by rw [Lib.byteCells_length]; exact hlen) (Nat.le_of_lt h.lt)).mono ?_
  rintro e w' ⟨rfl, hb, hk⟩
  refine ⟨rfl, .inr ?_, hk⟩
  have : Lib.byteCells (l ++ [x]) = Lib.byteCells l ++ [.int .u8 x.toNat] := by simp [Lib.byteCells]
  rw [this]; exact hb

/-- WriteString in bytes. -/
theorem writeString_any (b : Nat) (l m : List UInt8) (s : ByteArray) (hs : s = mkS m) (w : World) (h : HoldsB w b l) (hlen : l.length + m.length ≤ 140737488355328) :
    Calls Tryz.prog 41 #[.pointer (some ⟨b, 0, none⟩), .string s] w fun e w' => e = .returned (.tuple #[.int .i64 s.size, .nilIface]) ∧ HoldsB w' b (l ++ m) ∧ KeptB b w w' := by
  subst hs
  refine (writeString_cells b _ (mkS m) w h (by rw [Lib.byteCells_length]; simpa [mkS, ByteArray.size] using hlen) (Nat.le_of_lt h.lt)).mono ?_
  rintro e w' ⟨rfl, hb, hk⟩
  refine ⟨rfl, .inr ?_, hk⟩
  have : Lib.byteCells (l ++ m) = Lib.byteCells l ++ Lib.strCells (mkS m) := by simp [Lib.byteCells, Lib.strCells, mkS]
  rw [this]; exact hb

/-- String in bytes. -/
theorem builderString_any (b : Nat) (l : List UInt8) (w : World) (h : HoldsB w b l) :
    Calls Tryz.prog 44 #[.pointer (some ⟨b, 0, none⟩)] w fun e w' => e = .returned (.string (mkS l)) ∧ KeptB b w w' := by
  refine (Tryz.Builder_String_any_k b b l w h (Nat.le_of_lt h.lt)).mono ?_
  rintro e w' ⟨rfl, _, hb, hk⟩
  exact ⟨rfl, hb, hk⟩
end Go.Proofs.YtchoelgkcnnnkaaGreatDoor
namespace Go.Proofs.YtchoelgkcnnnkaaGreatDoor
open Go.RowKit
namespace Pl
theorem plainR_high (r : Nat) (h : 127 ≤ r) : plainR r = false := by simp [plainR]; omega
theorem idx_plain (s : ByteArray) : ∀ (f pos : Nat), s.size ≤ pos + f →
    decide (0 ≤ Lib.idxFuncFrom (fun r => !plainR r) true s f pos) = !(s.data.toList.drop pos).all plainB := by
  intro f
  induction f with
  | zero =>
    intro pos h
    rw [List.drop_of_length_le (by rw [← Lib.size_eq]; omega)]
    rfl
  | succ f ih =>
    intro pos h
    unfold Lib.idxFuncFrom
    by_cases hp : pos < s.size
    · rw [if_pos hp]
      have hl : pos < s.data.toList.length := by rw [← Lib.size_eq]; exact hp
      have hb : s.data.toList[pos] = s[pos] := rfl
      rw [List.drop_eq_getElem_cons hl, List.all_cons, hb]
      by_cases hlow : (s[pos]'hp).toNat < 128
      · rw [decode_ascii s pos hp hlow]
        by_cases hpl : plainR (s[pos]'hp).toNat = true
        · rw [if_neg (by simp [hpl]), ih (pos + 1) (by omega)]
          simp [plainB, hpl]
        · rw [if_pos (by simp [hpl])]
          simp [plainB, hpl]
      · have hh := (decode_high s pos hp (by omega)).1
        rw [if_pos (by simp [plainR_high _ (by omega : 127 ≤ (Utf8.decode s pos).1)])]
        simp [plainB, plainR_high _ (by omega : 127 ≤ (s[pos]'hp).toNat)]
    · rw [if_neg hp, List.drop_of_length_le (by rw [← Lib.size_eq]; omega)]
      rfl
theorem idx_allPlain (s : ByteArray) : decide (0 ≤ Lib.idxFunc (fun r => !plainR r) true s) = !allPlain s := by
  unfold Lib.idxFunc allPlain
  rw [idx_plain s s.size 0 (by omega), List.drop_zero]
end Pl

theorem contains_calls (s : ByteArray) (w : World) :
    Calls Tryz.prog 123 #[.string s, .func (.func 124) #[] #[]] w fun e w' => e = .returned (.bool (!Pl.allPlain s)) ∧ Below w.heap.size w w' := by
  refine (Tryz.strings_ContainsFunc 124 #[] (enters_of Tryz.func124 (by kernel_rfl) rfl) _ s w (isFormed1_pred w)).mono ?_
  rintro e w' ⟨rfl, hb⟩
  exact ⟨ret_bool (Pl.idx_allPlain s), hb⟩

theorem bcell {W w1 : World} (hb : Below W.heap.size W w1) : (∀ b o, b < W.heap.size → w1.cell? ⟨b, o, none⟩ = W.cell? ⟨b, o, none⟩) ∧ (∀ b o, b < W.heap.size → w1.frozen? ⟨b, o, none⟩ = W.frozen? ⟨b, o, none⟩) :=
  ⟨fun b o h => hb.cell (p := ⟨b, o, none⟩) h, fun b o h => hb.frozen (p := ⟨b, o, none⟩) h⟩

set_option maxHeartbeats 800000 in
theorem isFormed_any (t : Tm) (r : Bool) (w : World) (hs : t.s.size ≤ 9223372036854775807) (HR : Hid (r = Pl.formed t)) :
    Calls Tryz.prog 76 #[t.agg] w fun e w' => e = .returned (.bool r) ∧ Below w.heap.size w w' := by
  obtain ⟨k, n, s⟩ := t
  unfold Tm.agg
  dsimp only at hs ⊢
  by_cases h1 : k = 1
  · subst h1
    go_enter Tryz.func76, Tryz.ntmps76
    go_wp2
    all_goals (go_ret; refine ⟨ret_bool ?_, below1 _ _⟩; rw [HR.out]; simp [Pl.formed, *] <;> omega)
  · by_cases h2 : k = 2
    · subst h2
      go_enter Tryz.func76, Tryz.ntmps76
      go_wp2
      all_goals (go_ret; refine ⟨ret_bool ?_, below1 _ _⟩; rw [HR.out])
      · have : n = 0 ∨ n = 1 := by omega
        simp [Pl.formed, this]
      · have : ¬ (n = 0 ∨ n = 1) := by omega
        simp [Pl.formed, this]
    · by_cases h3 : k = 3
      · subst h3
        go_enter Tryz.func76, Tryz.ntmps76
        go_wp2_with (go_at_call 123; refine (contains_calls _ _).mono ?_; rintro e w' ⟨rfl, hb⟩; obtain ⟨hc, hf⟩ := bcell hb)
        all_goals (go_ret; refine ⟨ret_bool ?_, (below1 _ _).trans (hb.mono (by simp))⟩; rw [HR.out]; simp [Pl.formed, *] <;> omega)
      · by_cases h4 : k = 4
        · subst h4
          go_enter Tryz.func76, Tryz.ntmps76
          go_wp2_with (go_at_call 25; refine (typeOf_any _ _ hs).mono ?_; rintro e w' ⟨rfl, hb⟩; obtain ⟨hc, hf⟩ := bcell hb)
          all_goals (go_ret; refine ⟨ret_bool ?_, by first | exact (below1 _ _).trans (hb.mono (by simp)) | exact below1 _ _⟩; rw [HR.out]; simp [Pl.formed, *])
        · go_enter Tryz.func76, Tryz.ntmps76
          go_wp2_with (go_at_call 49; refine (operands_any _ _).mono ?_; rintro e w' ⟨rfl, rfl⟩)
          all_goals (go_ret; refine ⟨ret_bool ?_, below1 _ _⟩; rw [HR.out]; simp [Pl.formed, *] <;> omega)
end Go.Proofs.YtchoelgkcnnnkaaGreatDoor
