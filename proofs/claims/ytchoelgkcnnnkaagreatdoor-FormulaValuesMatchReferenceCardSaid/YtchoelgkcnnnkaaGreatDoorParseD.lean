/- PLAIN LAWS: the text of a formula, there and back: the reader reads the text of a formula as this formula, and what it reads, if it is formed, has this text. · PLAIN LAWS: the text of a formula, there and back: the reader reads the text of a formula as this formula, and what it reads, if it is formed, has this text. · PLAIN LAWS: a text that is read to its end, as a valid formula, is that of the formula; the text of a formula is not empty. · CONTRACT: what formula.Parse gives for any text, in one piece; plain laws of it. · PLAIN LAWS: where a text is no longer the beginning of that of a formula: FormulaFirstWrong without its program. -/
import Derived.Test.YtchoelgkcnnnkaaGreatDoorPlH
import Derived.Lib.Strings
import Derived.Test.YtchoelgkcnnnkaaGreatDoorParseC
set_option linter.all false
namespace Go.Proofs.YtchoelgkcnnnkaaGreatDoor
namespace Pl
/-- These bytes lie from a place on. -/
def At (s : ByteArray) : Nat → List UInt8 → Prop
  | _, [] => True
  | p, c :: l => (p < s.size ∧ peekB s p = c) ∧ At s (p + 1) l
theorem At_append (s : ByteArray) : ∀ (a b : List UInt8) (p : Nat), At s p (a ++ b) ↔ At s p a ∧ At s (p + a.length) b
  | [], b, p => by simp [At]
  | c :: a, b, p => by
    have ih := At_append s a b (p + 1)
    have e : p + (c :: a).length = p + 1 + a.length := by simp; omega
    rw [e]
    show (_ ∧ At s (p + 1) (a ++ b)) ↔ (_ ∧ At s (p + 1) a) ∧ _
    rw [ih]
    exact and_assoc.symm
theorem At_le {s : ByteArray} : ∀ {l : List UInt8} {p : Nat}, At s p l → p ≤ s.size → p + l.length ≤ s.size
  | [], p, _, hp => by simpa using hp
  | c :: l, p, h, _ => by have := At_le h.2 h.1.1; simp; omega
theorem At_get {s : ByteArray} : ∀ {l : List UInt8} {p : Nat}, At s p l → ∀ (i : Nat) (c : UInt8), l[i]? = some c → p + i < s.size ∧ peekB s (p + i) = c
  | [], _, _, i, c, hc => by simp at hc
  | d :: l, p, h, 0, c, hc => by simp at hc; subst hc; exact h.1
  | d :: l, p, h, i + 1, c, hc => by
    have := At_get h.2 i c (by simpa using hc)
    rw [show p + (i + 1) = p + 1 + i by omega]; exact this
theorem At_of_get {s : ByteArray} : ∀ {l : List UInt8} {p : Nat}, (∀ (i : Nat) (c : UInt8), l[i]? = some c → p + i < s.size ∧ peekB s (p + i) = c) → At s p l
  | [], _, _ => trivial
  | d :: l, p, h => ⟨h 0 d rfl, At_of_get fun i c hc => by
    have := h (i + 1) c (by simpa using hc)
    rw [show p + 1 + i = p + (i + 1) by omega]; exact this⟩
theorem size_toList (s : ByteArray) : s.data.toList.length = s.size := rfl
theorem ext_get {s : ByteArray} {p q : Nat} (i : Nat) (hi : i < q - p) (hq : q ≤ s.size) : (s.extract p q).data.toList[i]? = some (peekB s (p + i)) := by
  have hlt : p + i < s.size := by omega
  have hx := getElem_peek hlt
  rw [← hx]
  have e : (s.extract p q).data = s.data.extract p q := ByteArray.data_extract ..
  rw [e]
  have hlt' : p + i < s.data.size := hlt
  rw [Array.getElem?_toList, Array.getElem?_extract, if_pos (by have : q ≤ s.data.size := hq; omega), Array.getElem?_eq_getElem hlt']
  rfl
theorem ext_len {s : ByteArray} {p q : Nat} (hq : q ≤ s.size) : (s.extract p q).data.toList.length = q - p := by
  rw [size_toList, ByteArray.size_extract]; omega
theorem At_ext {s : ByteArray} {p q : Nat} (hq : q ≤ s.size) : At s p (s.extract p q).data.toList := At_of_get fun i c hc => by
  have hi : i < q - p := by
    have := (List.getElem?_eq_some_iff.1 hc).1
    rw [ext_len hq] at this; exact this
  rw [ext_get i hi hq] at hc
  simp only [Option.some.injEq] at hc
  exact ⟨by omega, hc⟩
theorem ext_of_At {s : ByteArray} {p q : Nat} {l : List UInt8} (h : At s p l) (hl : q = p + l.length) (hq : q ≤ s.size) : (s.extract p q).data.toList = l := by
  refine List.ext_getElem? fun i => ?_
  by_cases hi : i < q - p
  · rw [ext_get i hi hq]
    obtain ⟨c, hc⟩ : ∃ c, l[i]? = some c := ⟨l[i]'(by omega), List.getElem?_eq_getElem (by omega)⟩
    rw [hc, (At_get h i c hc).2]
  · rw [List.getElem?_eq_none (by rw [ext_len hq]; omega), List.getElem?_eq_none (by omega)]
theorem ba_ext {a b : ByteArray} (h : a.data.toList = b.data.toList) : a = b := by
  cases a; cases b; simp only at h; rw [Array.toList_inj] at h; rw [h]
theorem ext_eq {s t : ByteArray} {p q : Nat} (h : At s p t.data.toList) (hl : q = p + t.size) (hq : q ≤ s.size) : s.extract p q = t :=
  ba_ext (ext_of_At h hl hq)
/-- Behind a formula: no digit, and no 'o'. -/
def Follow (s : ByteArray) (p : Nat) : Prop := ¬ (48 ≤ (peekB s p).toNat ∧ (peekB s p).toNat ≤ 57) ∧ (peekB s p).toNat ≠ 111
theorem dig_iff (c : Nat) (s : ByteArray) (p : Nat) : digAt (c : Int) s p = true ↔ c ≤ (peekB s p).toNat ∧ (peekB s p).toNat ≤ 57 := by
  unfold digAt
  rw [Bool.and_eq_true, decide_eq_true_eq, decide_eq_true_eq]
  omega
theorem dig48 (s : ByteArray) (p : Nat) : digAt 48 s p = true ↔ 48 ≤ (peekB s p).toNat ∧ (peekB s p).toNat ≤ 57 := dig_iff 48 s p
theorem dig49 (s : ByteArray) (p : Nat) : digAt 49 s p = true ↔ 49 ≤ (peekB s p).toNat ∧ (peekB s p).toNat ≤ 57 := dig_iff 49 s p
theorem numEnd_at {s : ByteArray} : ∀ (l : List UInt8) (n p : Nat), At s p l → Digs l → Follow s (p + l.length) → l.length ≤ n → numEnd s n p = p + l.length
  | [], 0, p, _, _, _, _ => rfl
  | [], n + 1, p, _, _, hf, _ => by
    unfold numEnd
    rw [if_neg (fun h => hf.1 ((dig48 s _).1 (by simpa using h)))]; rfl
  | c :: l, 0, p, _, _, _, hn => by simp at hn
  | c :: l, n + 1, p, h, hd, hf, hn => by
    have hc := hd c (by simp)
    unfold numEnd
    rw [if_pos ((dig48 s p).2 (by rw [h.1.2]; exact hc))]
    have e : p + 1 + l.length = p + (c :: l).length := by simp; omega
    rw [numEnd_at l n (p + 1) h.2 (fun d hd' => hd d (by simp [hd'])) (by rw [e]; exact hf) (by simpa using hn), e]
theorem textEnd_at {s : ByteArray} : ∀ (l : List UInt8) (n p : Nat), At s p l → l.all plainB = true → plainB (peekB s (p + l.length)) = false → l.length ≤ n → textEnd s n p = p + l.length
  | [], 0, p, _, _, _, _ => rfl
  | [], n + 1, p, _, _, hf, _ => by
    unfold textEnd
    rw [if_neg (fun h => by have := h.2; rw [show p + ([] : List UInt8).length = p from rfl] at hf; rw [hf] at this; cases this)]; rfl
  | c :: l, 0, p, _, _, _, hn => by simp at hn
  | c :: l, n + 1, p, h, hd, hf, hn => by
    rw [List.all_cons, Bool.and_eq_true] at hd
    unfold textEnd
    rw [if_pos ⟨h.1.1, by rw [h.1.2]; exact hd.1⟩]
    have e : p + 1 + l.length = p + (c :: l).length := by simp; omega
    rw [textEnd_at l n (p + 1) h.2 hd.2 (by rw [e]; exact hf) (by simpa using hn), e]
theorem want_at {s : ByteArray} : ∀ {l : List UInt8} {p : Nat}, At s p l → wantFail s l p = none
  | [], _, _ => rfl
  | c :: l, p, h => by unfold wantFail; rw [if_pos h.1]; exact want_at h.2
theorem at_want {s : ByteArray} : ∀ {l : List UInt8} {p : Nat}, wantFail s l p = none → At s p l
  | [], _, _ => trivial
  | c :: l, p, h => by
    unfold wantFail at h
    split at h
    · rename_i hc; exact ⟨hc, at_want h⟩
    · cases h
theorem numVal_dec (u : Nat) (hu : u < 9223372036854775808) : numVal (Lib.decDigits u) = u := by
  unfold numVal
  rw [atoi_digits _ (decDigits_ne u) (decDigits_digs u), decDigits_val, if_pos hu]
theorem letter_of {c : UInt8} (h : 0 < letterT c) : c.toNat = 110 ∨ c.toNat = 116 ∨ c.toNat = 115 := by
  unfold letterT at h
  split at h
  · omega
  · split at h
    · omega
    · split at h
      · omega
      · omega
theorem isDig_iff (b : UInt8) : isDig b = true ↔ 48 ≤ b.toNat ∧ b.toNat ≤ 57 := by
  unfold isDig; rw [Bool.and_eq_true, decide_eq_true_eq, decide_eq_true_eq]; omega
theorem isDig1_iff (b : UInt8) : isDig1 b = true ↔ 49 ≤ b.toNat ∧ b.toNat ≤ 57 := by
  unfold isDig1; rw [Bool.and_eq_true, decide_eq_true_eq, decide_eq_true_eq]; omega
/-- The reader at a name. -/
theorem rd_name {s : ByteArray} {p n : Nat} {t : ByteArray} (h : At s p t.data.toList) (ht : 0 < typeOf t.data.toList) (hf : Follow s (p + t.size)) : rd s (n + 1) p = .ok (.lf ⟨4, 0, t⟩) (p + t.size) := by
  have hsz : t.data.toList.length = t.size := rfl
  have hle : p ≤ s.size → p + t.size ≤ s.size := fun hp => by have := At_le h hp; rwa [hsz] at this
  have key : ∀ c : UInt8, (p < s.size ∧ peekB s p = c) → 0 < letterT c → (c.toNat = 110 → (peekB s (p + 1)).toNat ≠ 111) → nameEnd s p = p + t.size → rd s (n + 1) p = .ok (.lf ⟨4, 0, t⟩) (p + t.size) := by
    intro c hc hl h1 hn
    have hk := letter_of hl
    unfold rd
    rw [if_neg (by omega), if_neg (fun h => by have := (dig48 s p).1 h; rw [hc.2] at this; omega), if_neg (by rw [hc.2]; omega), if_neg (by rw [hc.2]; intro h; exact h1 h.1 h.2), if_pos (by rw [hc.2]; exact hk), hn,
      ext_eq h rfl (hle (by omega))]
  match hl : t.data.toList, h, ht with
  | [], _, ht => simp [typeOf] at ht
  | [c], h, ht =>
    have hs : t.size = 1 := by rw [← hsz, hl]; rfl
    rw [hs] at hf
    refine key c h.1 ht (fun _ => hf.2) ?_
    unfold nameEnd
    rw [if_neg (fun h => hf.1 (by have := (dig49 s _).1 h; omega)), hs]
  | [c, d], h, ht =>
    have hs : t.size = 2 := by rw [← hsz, hl]; rfl
    rw [hs] at hf
    simp only [typeOf] at ht
    split at ht
    · rename_i hd
      have hd := (isDig1_iff d).1 hd
      have h2 := h.2.1.2
      refine key c h.1 ht (fun _ => by rw [h2]; omega) ?_
      unfold nameEnd
      rw [if_pos ((dig49 s _).2 (by rw [h2]; exact hd)), if_neg (fun h => hf.1 ((dig48 s _).1 h)), hs]
    · omega
  | [c, d, e], h, ht =>
    have hs : t.size = 3 := by rw [← hsz, hl]; rfl
    simp only [typeOf] at ht
    split at ht
    · rename_i hd
      rw [Bool.and_eq_true] at hd
      have hd1 := (isDig1_iff d).1 hd.1
      have hd2 := (isDig_iff e).1 hd.2
      have h2 := h.2.1.2
      have h3 : peekB s (p + 2) = e := h.2.2.1.2
      refine key c h.1 ht (fun _ => by rw [h2]; omega) ?_
      unfold nameEnd
      rw [if_pos ((dig49 s _).2 (by rw [h2]; exact hd1)), if_pos ((dig48 s _).2 (by rw [h3]; exact hd2)), hs]
    · omega
  | _ :: _ :: _ :: _ :: _, _, ht => simp [typeOf] at ht
theorem empty_of {s : ByteArray} (h : s.toList.isEmpty = true) : s = ⟨#[]⟩ := by
  rw [Lib.toList_data, List.isEmpty_iff] at h
  exact ba_ext h
/-- A leaf, by its kind. -/
theorem leaf_cases {t : Tm} (h : formed t = true) (h0 : operandsOf t.k = 0) :
    (∃ n : Int, t = ⟨1, n, ⟨#[]⟩⟩ ∧ 0 ≤ n ∧ n ≤ 1000000000000) ∨ t = ⟨2, 0, ⟨#[]⟩⟩ ∨ t = ⟨2, 1, ⟨#[]⟩⟩ ∨ (∃ s : ByteArray, t = ⟨3, 0, s⟩ ∧ s.size ≤ 40 ∧ allPlain s = true) ∨ (∃ s : ByteArray, t = ⟨4, 0, s⟩ ∧ 0 < typeOf s.data.toList) := by
  obtain ⟨k, n, s⟩ := t
  have hk : k = 1 ∨ k = 2 ∨ k = 3 ∨ k = 4 := by
    unfold operandsOf at h0
    simp only at h0
    split at h0
    · omega
    · split at h0
      · omega
      · split at h0
        · omega
        · split at h0 <;> omega
  rcases hk with rfl | rfl | rfl | rfl <;> simp [formed] at h
  · obtain ⟨⟨h1, h2⟩, h3⟩ := h
    obtain rfl := empty_of (s := s) (by simpa using h3)
    exact .inl ⟨n, rfl, h1, h2⟩
  · obtain ⟨h1, h3⟩ := h
    obtain rfl := empty_of (s := s) (by simpa using h3)
    rcases h1 with rfl | rfl
    · exact .inr (.inl rfl)
    · exact .inr (.inr (.inl rfl))
  · obtain ⟨⟨rfl, h2⟩, h3⟩ := h
    exact .inr (.inr (.inr (.inl ⟨s, rfl, by omega, h3⟩)))
  · obtain ⟨rfl, h2⟩ := h
    exact .inr (.inr (.inr (.inr ⟨s, rfl, h2⟩)))
theorem node_form {t : Tm} (h : formed t = true) (h0 : 0 < operandsOf t.k) : t = mk0 t.k := by
  obtain ⟨k, n, s⟩ := t
  have hk : ¬ k = 1 ∧ ¬ k = 2 ∧ ¬ k = 3 ∧ ¬ k = 4 := by
    unfold operandsOf at h0
    simp only at h0
    split at h0
    · omega
    · split at h0 <;> omega
  simp [formed, hk] at h
  obtain ⟨⟨_, rfl⟩, h3⟩ := h
  obtain rfl := empty_of (s := s) (by simpa using h3)
  rfl
theorem itoa_nat (n : Int) (h : 0 ≤ n) : Lib.itoa n = Lib.decDigits n.toNat := by
  unfold Lib.itoa; rw [if_neg (by omega)]
theorem plain39 : plainB 39 = false := by decide
theorem rd_leaf {s : ByteArray} {p n : Nat} {t : Tm} (hw : formed t = true) (h0 : operandsOf t.k = 0) (h : At s p (leafText t)) (hf : Follow s (p + (leafText t).length)) : rd s (n + 1) p = .ok (.lf t) (p + (leafText t).length) := by
  rcases leaf_cases hw h0 with ⟨m, rfl, h1, h2⟩ | rfl | rfl | ⟨x, rfl, h1, h2⟩ | ⟨x, rfl, h1⟩
  · have e : leafText ⟨1, m, ⟨#[]⟩⟩ = Lib.decDigits m.toNat := itoa_nat m h1
    rw [e] at h hf ⊢
    have hne := decDigits_ne m.toNat
    have hd := decDigits_digs m.toNat
    have hval : numVal (Lib.decDigits m.toNat) = m := by rw [numVal_dec _ (by omega)]; omega
    have hlen := At_le h
    obtain ⟨c, r, hcr⟩ : ∃ c r, Lib.decDigits m.toNat = c :: r := by
      match hx : Lib.decDigits m.toNat, hne with
      | c :: r, _ => exact ⟨c, r, rfl⟩
    have hend : numEndOf s p = p + (Lib.decDigits m.toNat).length := by
      unfold numEndOf
      by_cases hz : m.toNat = 0
      · have hx : Lib.decDigits 0 = [48] := by rw [Lib.decDigits, dif_pos (by omega)]; rfl
        rw [hz, hx] at h ⊢
        rw [if_pos h.1.2]; rfl
      · obtain ⟨c', r', hc', hc0⟩ := decDigits_head m.toNat hz
        rw [hc'] at h hf hd ⊢
        rw [if_neg (by rw [h.1.2]; intro e; rw [e] at hc0; exact hc0 rfl)]
        have e1 : p + 1 + r'.length = p + (c' :: r').length := by simp; omega
        rw [numEnd_at r' s.size (p + 1) h.2 (fun d hd' => hd d (by simp [hd'])) (by rw [e1]; exact hf) (by have := At_le h.2 h.1.1; omega), e1]
    have hp : p < s.size ∧ peekB s p = c := by rw [hcr] at h; exact h.1
    have hcd := hd c (by rw [hcr]; simp)
    unfold rd
    rw [if_neg (by omega), if_pos ((dig48 s p).2 (by rw [hp.2]; exact hcd)), hend, ext_of_At h rfl (hlen (by omega)), hval]
  · have h' : At s p [110, 111] := h
    have h1 : (peekB s p).toNat = 110 := by rw [h'.1.2]; rfl
    have h2 : (peekB s (p + 1)).toNat = 111 := by rw [h'.2.1.2]; rfl
    unfold rd
    rw [if_neg (by have := h'.1.1; omega), if_neg (fun h => by have := (dig48 s p).1 h; omega), if_neg (by omega), if_pos ⟨h1, h2⟩]
    rfl
  · have h' : At s p [121, 101, 115] := h
    have h1 : (peekB s p).toNat = 121 := by rw [h'.1.2]; rfl
    unfold rd
    rw [if_neg (by have := h'.1.1; omega), if_neg (fun h => by have := (dig48 s p).1 h; omega), if_pos h1, word, want_at h']
    rfl
  · have e : leafText ⟨3, 0, x⟩ = 39 :: (x.data.toList ++ [39]) := rfl
    rw [e] at h hf ⊢
    have hx : At s (p + 1) x.data.toList ∧ At s (p + 1 + x.data.toList.length) [39] := (At_append s _ _ _).1 h.2
    have h1 : (peekB s p).toNat = 39 := by rw [h.1.2]; rfl
    have hq := hx.2.1
    have hend : textEnd s s.size (p + 1) = p + 1 + x.data.toList.length :=
      textEnd_at _ _ _ hx.1 h2 (by rw [hq.2]; exact plain39) (by omega)
    unfold rd
    rw [if_neg (by have := h.1.1; omega), if_neg (fun h => by have := (dig48 s p).1 h; omega), if_neg (by omega), if_neg (by omega), if_neg (by omega), if_pos h1, hend, word, want_at hx.2, show x.data.toList.length = x.size from rfl, ext_eq hx.1 rfl (by have := hq.1; rw [size_toList] at this; omega)]
    simp; omega
  · exact rd_name h h1 hf
end Pl
end Go.Proofs.YtchoelgkcnnnkaaGreatDoor
namespace Go.Proofs.YtchoelgkcnnnkaaGreatDoor
namespace Pl
theorem kinds1 {k : Int} (h : operandsOf k = 1) : k = 5 ∨ k = 6 ∨ k = 7 := by
  unfold operandsOf at h
  split at h
  · omega
  · split at h
    · omega
    · split at h
      · omega
      · split at h <;> omega
theorem kinds2 {k : Int} (h : operandsOf k = 2) : k = 8 ∨ k = 9 ∨ k = 10 ∨ k = 11 ∨ k = 12 ∨ k = 13 ∨ k = 14 ∨ k = 15 ∨ k = 16 := by
  unfold operandsOf at h
  split at h
  · omega
  · split at h
    · omega
    · split at h
      · omega
      · split at h <;> omega
theorem kinds3 {k : Int} (h : operandsOf k = 3) : k = 17 := by
  unfold operandsOf at h
  split at h
  · omega
  · split at h
    · omega
    · split at h
      · omega
      · split at h <;> omega
theorem rd_low {s : ByteArray} {p n b : Nat} (hp : p < s.size) (h : (peekB s p).toNat = b) (h1 : ¬ (48 ≤ b ∧ b ≤ 57)) (h2 : b ≠ 121) (h3 : b ≠ 110) (h4 : b ≠ 116) (h5 : b ≠ 115) (h6 : b ≠ 39) :
    rd s (n + 1) p = if (peekB s p).toNat = 45 then (rd s n (p + 1)).then fun a q => .ok (.un (mk0 5) a) q
    else if (peekB s p).toNat = 33 then (rd s n (p + 1)).then fun a q => .ok (.un (mk0 6) a) q
    else if (peekB s p).toNat = 35 then (rd s n (p + 1)).then fun a q => .ok (.un (mk0 7) a) q
    else if (peekB s p).toNat = 40 then (rd s n (p + 1)).then fun a q =>
      if kindOf (peekB s q) = 0 then .bad q
      else (rd s n (q + 1)).then fun b q2 => word s [41] q2 (.ok (.bi (mk0 (kindOf (peekB s q))) a b) (q2 + 1))
    else if (peekB s p).toNat = 63 then word s [63, 40] p ((rd s n (p + 2)).then fun a q => word s [44] q ((rd s n (q + 1)).then fun b q2 => word s [44] q2 ((rd s n (q2 + 1)).then fun c q3 =>
      word s [41] q3 (.ok (.tr (mk0 17) a b c) (q3 + 1)))))
    else .bad p := by
  rw [rd]
  rw [if_neg (by omega), if_neg (fun h => by have := (dig48 s p).1 h; omega), if_neg (by omega), if_neg (by omega), if_neg (by omega), if_neg (by omega)]
theorem follow_of {s : ByteArray} {p b : Nat} (h : (peekB s p).toNat = b) (h1 : ¬ (48 ≤ b ∧ b ≤ 57)) (h2 : b ≠ 111) : Follow s p := ⟨by omega, by omega⟩
theorem opByte1 {k : Int} (h : operandsOf k = 1) : (k = 5 ∧ opByte k = 45) ∨ (k = 6 ∧ opByte k = 33) ∨ (k = 7 ∧ opByte k = 35) := by
  rcases kinds1 h with rfl | rfl | rfl <;> simp [opByte]
theorem opByte2 {k : Int} (h : operandsOf k = 2) : kindOf (opByte k) = k ∧ ¬ (48 ≤ (opByte k).toNat ∧ (opByte k).toNat ≤ 57) ∧ (opByte k).toNat ≠ 111 := by
  rcases kinds2 h with rfl | rfl | rfl | rfl | rfl | rfl | rfl | rfl | rfl <;> refine ⟨by decide, by decide, by decide⟩
theorem kindOf_op {c : UInt8} (h : kindOf c ≠ 0) : opByte (kindOf c) = c := by
  have hc : c.toNat = 43 ∨ c.toNat = 45 ∨ c.toNat = 42 ∨ c.toNat = 47 ∨ c.toNat = 37 ∨ c.toNat = 61 ∨ c.toNat = 60 ∨ c.toNat = 38 ∨ c.toNat = 124 := by
    unfold kindOf at h
    by_cases h1 : c.toNat = 43 <;> by_cases h2 : c.toNat = 45 <;> by_cases h3 : c.toNat = 42 <;> by_cases h4 : c.toNat = 47 <;> by_cases h5 : c.toNat = 37 <;> by_cases h6 : c.toNat = 61 <;> by_cases h7 : c.toNat = 60 <;> by_cases h8 : c.toNat = 38 <;> by_cases h9 : c.toNat = 124 <;> simp_all
  have e : ∀ k : Nat, k < 256 → c.toNat = k → c = UInt8.ofNat k := fun k hk hck => by rw [← hck]; simp
  rcases hc with h | h | h | h | h | h | h | h | h <;> (have := e _ (by omega) h; subst this; decide)
/-- The reader reads the text of a formula as this formula. -/
theorem rd_of_text {s : ByteArray} : ∀ (f : Fm) (n p : Nat), f.wf → f.depth ≤ n → At s p (text f) → Follow s (p + (text f).length) → rd s n p = .ok f (p + (text f).length)
  | .lf t, n, p, hw, hd, h, hf => by
    obtain ⟨m, rfl⟩ : ∃ m, n = m + 1 := ⟨n - 1, by simp [Fm.depth] at hd; omega⟩
    exact rd_leaf hw.1 hw.2 h hf
  | .un t a, n, p, hw, hd, h, hf => by
    obtain ⟨m, rfl⟩ : ∃ m, n = m + 1 := ⟨n - 1, by simp [Fm.depth] at hd; omega⟩
    have hm : a.depth ≤ m := by simp [Fm.depth] at hd; omega
    have h' : (p < s.size ∧ peekB s p = opByte t.k) ∧ At s (p + 1) (text a) := h
    have el : p + (text (.un t a)).length = p + 1 + (text a).length := by simp [text]; omega
    rw [el] at hf ⊢
    have ih := rd_of_text a m (p + 1) hw.2.2 hm h'.2 hf
    have ht := node_form hw.1 (by rw [hw.2.1]; decide)
    rcases opByte1 hw.2.1 with ⟨hk, hb⟩ | ⟨hk, hb⟩ | ⟨hk, hb⟩
    · have hp : (peekB s p).toNat = 45 := by rw [h'.1.2, hb]; rfl
      rw [rd_low h'.1.1 hp (by omega) (by omega) (by omega) (by omega) (by omega) (by omega), if_pos hp, ih, ht, hk]; rfl
    · have hp : (peekB s p).toNat = 33 := by rw [h'.1.2, hb]; rfl
      rw [rd_low h'.1.1 hp (by omega) (by omega) (by omega) (by omega) (by omega) (by omega), if_neg (by omega), if_pos hp, ih, ht, hk]; rfl
    · have hp : (peekB s p).toNat = 35 := by rw [h'.1.2, hb]; rfl
      rw [rd_low h'.1.1 hp (by omega) (by omega) (by omega) (by omega) (by omega) (by omega), if_neg (by omega), if_neg (by omega), if_pos hp, ih, ht, hk]; rfl
  | .bi t a b, n, p, hw, hd, h, hf => by
    obtain ⟨m, rfl⟩ : ∃ m, n = m + 1 := ⟨n - 1, by simp [Fm.depth] at hd; omega⟩
    have hma : a.depth ≤ m := by simp [Fm.depth] at hd; omega
    have hmb : b.depth ≤ m := by simp [Fm.depth] at hd; omega
    obtain ⟨h0, h1⟩ : (p < s.size ∧ peekB s p = 40) ∧ At s (p + 1) (text a ++ (opByte t.k :: (text b ++ [41]))) := h
    obtain ⟨h2, h3, h4⟩ : At s (p + 1) (text a) ∧ (p + 1 + (text a).length < s.size ∧ peekB s (p + 1 + (text a).length) = opByte t.k) ∧ At s (p + 1 + (text a).length + 1) (text b ++ [41]) := (At_append s _ _ _).1 h1
    obtain ⟨h5, h6, _⟩ : At s (p + 1 + (text a).length + 1) (text b) ∧ (p + 1 + (text a).length + 1 + (text b).length < s.size ∧ peekB s (p + 1 + (text a).length + 1 + (text b).length) = 41) ∧ True := (At_append s _ _ _).1 h4
    have ho := opByte2 hw.2.1
    have ia := rd_of_text a m (p + 1) hw.2.2.1 hma h2 (follow_of (by rw [h3.2]) ho.2.1 ho.2.2)
    have ib := rd_of_text b m _ hw.2.2.2 hmb h5 (follow_of (b := 41) (by rw [h6.2]; rfl) (by omega) (by omega))
    have ht := node_form hw.1 (by rw [hw.2.1]; decide)
    have hp : (peekB s p).toNat = 40 := by rw [h0.2]; rfl
    have el : p + (text (.bi t a b)).length = p + 1 + (text a).length + 1 + (text b).length + 1 := by simp [text]; omega
    have hk0 : t.k ≠ 0 := by rcases kinds2 hw.2.1 with h | h | h | h | h | h | h | h | h <;> omega
    rw [el, rd_low h0.1 hp (by omega) (by omega) (by omega) (by omega) (by omega) (by omega), if_neg (by omega), if_neg (by omega), if_neg (by omega), if_pos hp, ia]
    show (if kindOf (peekB s (p + 1 + (text a).length)) = 0 then _ else _) = _
    rw [h3.2, ho.1, if_neg hk0, ib]
    show word s [41] _ _ = _
    rw [word, want_at (l := [41]) ⟨h6, trivial⟩, ← ht]
  | .tr t a b c, n, p, hw, hd, h, hf => by
    obtain ⟨m, rfl⟩ : ∃ m, n = m + 1 := ⟨n - 1, by simp [Fm.depth] at hd; omega⟩
    have hma : a.depth ≤ m := by simp [Fm.depth] at hd; omega
    have hmb : b.depth ≤ m := by simp [Fm.depth] at hd; omega
    have hmc : c.depth ≤ m := by simp [Fm.depth] at hd; omega
    obtain ⟨h0, h00, h1⟩ : (p < s.size ∧ peekB s p = 63) ∧ (p + 1 < s.size ∧ peekB s (p + 1) = 40) ∧ At s (p + 2) (text a ++ (44 :: (text b ++ (44 :: (text c ++ [41]))))) := h
    obtain ⟨h2, h3, h4⟩ : At s (p + 2) (text a) ∧ (p + 2 + (text a).length < s.size ∧ peekB s (p + 2 + (text a).length) = 44) ∧ At s (p + 2 + (text a).length + 1) (text b ++ (44 :: (text c ++ [41]))) := (At_append s _ _ _).1 h1
    obtain ⟨h5, h6, h7⟩ : At s (p + 2 + (text a).length + 1) (text b) ∧ (p + 2 + (text a).length + 1 + (text b).length < s.size ∧ peekB s (p + 2 + (text a).length + 1 + (text b).length) = 44) ∧ At s (p + 2 + (text a).length + 1 + (text b).length + 1) (text c ++ [41]) := (At_append s _ _ _).1 h4
    obtain ⟨h8, h9, _⟩ : At s (p + 2 + (text a).length + 1 + (text b).length + 1) (text c) ∧ (p + 2 + (text a).length + 1 + (text b).length + 1 + (text c).length < s.size ∧ peekB s (p + 2 + (text a).length + 1 + (text b).length + 1 + (text c).length) = 41) ∧ True := (At_append s _ _ _).1 h7
    have ia := rd_of_text a m (p + 2) hw.2.2.1 hma h2 (follow_of (b := 44) (by rw [h3.2]; rfl) (by omega) (by omega))
    have ib := rd_of_text b m _ hw.2.2.2.1 hmb h5 (follow_of (b := 44) (by rw [h6.2]; rfl) (by omega) (by omega))
    have ic := rd_of_text c m _ hw.2.2.2.2 hmc h8 (follow_of (b := 41) (by rw [h9.2]; rfl) (by omega) (by omega))
    have ht := node_form hw.1 (by rw [hw.2.1]; decide)
    have hp : (peekB s p).toNat = 63 := by rw [h0.2]; rfl
    have el : p + (text (.tr t a b c)).length = p + 2 + (text a).length + 1 + (text b).length + 1 + (text c).length + 1 := by simp [text]; omega
    rw [el, rd_low h0.1 hp (by omega) (by omega) (by omega) (by omega) (by omega) (by omega), if_neg (by omega), if_neg (by omega), if_neg (by omega), if_neg (by omega), if_pos hp, word, want_at (l := [63, 40]) ⟨h0, h00, trivial⟩, ia]
    show word s [44] _ _ = _
    rw [word, want_at (l := [44]) ⟨h3, trivial⟩, ib]
    show word s [44] _ _ = _
    rw [word, want_at (l := [44]) ⟨h6, trivial⟩, ic]
    show word s [41] _ _ = _
    rw [word, want_at (l := [41]) ⟨h9, trivial⟩, ht, kinds3 hw.2.1]
theorem sat_low {s : ByteArray} {l : List UInt8} {p : Nat} {r : Rd} {P : Fm → Nat → Prop} (h : At s p l → r.sat P (fun _ => True)) : (word s l p r).sat P (fun _ => True) :=
  sat_word (fun e => h (at_want e)) fun _ _ => trivial
theorem numEnd_digs {s : ByteArray} : ∀ (n p : Nat), p ≤ s.size → Digs (s.extract p (numEnd s n p)).data.toList
  | 0, p, hp => by
    have : (s.extract p p).data.toList = [] := List.length_eq_zero_iff.1 (by rw [ext_len hp]; omega)
    show Digs (s.extract p p).data.toList
    rw [this]; intro c hc; simp at hc
  | n + 1, p, hp => by
    unfold numEnd
    split
    · rename_i hd
      have hlt := dig_lt hd (by omega)
      have hb := numEnd_bounds s n (p + 1) hlt
      have e : (s.extract p (numEnd s n (p + 1))).data.toList = peekB s p :: (s.extract (p + 1) (numEnd s n (p + 1))).data.toList :=
        ext_of_At (l := peekB s p :: (s.extract (p + 1) (numEnd s n (p + 1))).data.toList) ⟨⟨hlt, rfl⟩, At_ext hb.2⟩ (by simp only [List.length_cons, ext_len hb.2]; omega) hb.2
      rw [e]
      intro c hc
      rcases List.mem_cons.1 hc with rfl | hc
      · exact (dig48 s p).1 hd
      · exact numEnd_digs n (p + 1) hlt c hc
    · have : (s.extract p p).data.toList = [] := List.length_eq_zero_iff.1 (by rw [ext_len hp]; omega)
      rw [this]; intro c hc; simp at hc
/-- What is read as a number, if it is not too great, is its numeral. -/
theorem num_text {s : ByteArray} {p : Nat} (hp : p < s.size) (hd : digAt 48 s p = true) (hv : numVal (s.extract p (numEndOf s p)).data.toList ≤ 1000000000000) :
    Lib.itoa (numVal (s.extract p (numEndOf s p)).data.toList) = (s.extract p (numEndOf s p)).data.toList := by
  have hb := numEndOf_bounds s p hp
  generalize hl : (s.extract p (numEndOf s p)).data.toList = l at hv ⊢
  have hlen : l.length = numEndOf s p - p := by rw [← hl]; exact ext_len hb.2
  have hne : l ≠ [] := by intro e; rw [e] at hlen; simp at hlen; omega
  have hdg : Digs l ∧ (∀ c r, l = c :: r → r ≠ [] → c.toNat ≠ 48) := by
    unfold numEndOf at hl hlen hb
    split at hl
    · rename_i h48
      rw [if_pos h48] at hlen hb
      have e : (s.extract p (p + 1)).data.toList = [peekB s p] := ext_of_At (l := [peekB s p]) ⟨⟨hp, rfl⟩, trivial⟩ rfl hb.2
      rw [e] at hl
      subst hl
      refine ⟨fun c hc => ?_, fun c r h hr => ?_⟩
      · simp at hc; subst hc; exact (dig48 s p).1 hd
      · simp only [List.cons.injEq] at h; exact absurd h.2.symm hr
    · rename_i h48
      rw [if_neg h48] at hlen hb
      have e : (s.extract p (numEnd s s.size (p + 1))).data.toList = peekB s p :: (s.extract (p + 1) (numEnd s s.size (p + 1))).data.toList :=
        ext_of_At (l := peekB s p :: (s.extract (p + 1) (numEnd s s.size (p + 1))).data.toList) ⟨⟨hp, rfl⟩, At_ext hb.2⟩ (by simp only [List.length_cons, ext_len hb.2]; have := numEnd_bounds s s.size (p + 1) hp; omega) hb.2
      rw [e] at hl
      subst hl
      refine ⟨fun c hc => ?_, fun c r h _ h0 => ?_⟩
      · rcases List.mem_cons.1 hc with rfl | hc
        · exact (dig48 s p).1 hd
        · exact numEnd_digs _ _ hp c hc
      · simp only [List.cons.injEq] at h
        exact h48 (by rw [h.1]; exact UInt8.toNat_inj.1 (by rw [h0]; rfl))
  have hval : numVal l = if valFrom 0 l < 9223372036854775808 then (valFrom 0 l : Int) else 1000000000001 := by
    unfold numVal
    rw [atoi_digits l hne hdg.1]
    by_cases h1 : valFrom 0 l < 9223372036854775808
    · rw [if_pos h1, if_pos h1]
    · rw [if_neg h1, if_neg h1]
  rw [hval] at hv ⊢
  split at hv
  · rename_i h1
    rw [if_pos h1, itoa_nat _ (by omega), Int.toNat_natCast]
    exact decDigits_of _ l rfl hne hdg.1 hdg.2
  · omega
/-- What is read, if it is formed, has the text that was read. -/
theorem text_of_rd (s : ByteArray) : ∀ (n p : Nat), p ≤ s.size → (rd s n p).sat (fun f q => f.wf → At s p (text f) ∧ q = p + (text f).length) (fun _ => True)
  | 0, p, _ => trivial
  | n + 1, p, h => by
    have un : ∀ k, operandsOf k = 1 → p < s.size → peekB s p = opByte k → Rd.sat ((rd s n (p + 1)).then fun a q => .ok (.un (mk0 k) a) q) (fun f q => f.wf → At s p (text f) ∧ q = p + (text f).length) (fun _ => True) := by
      intro k hk hp hb
      refine Rd.sat_then (text_of_rd s n (p + 1) hp) (fun _ _ => trivial) fun a q ha hw => ?_
      have := ha hw.2.2
      refine ⟨⟨⟨hp, hb⟩, this.1⟩, ?_⟩
      rw [this.2]; simp [text]; omega
    rw [rd]
    by_cases h1 : s.size ≤ p
    · rw [if_pos h1]; trivial
    · rw [if_neg h1]
      have hp : p < s.size := by omega
      have pk : ∀ (b : Nat) (c : UInt8), (peekB s p).toNat = b → c.toNat = b → peekB s p = c := fun b c h1 h2 => UInt8.toNat_inj.1 (by rw [h1, h2])
      by_cases h2 : digAt 48 s p = true
      · rw [if_pos h2]
        intro hw
        have hf : formed ⟨1, numVal (s.extract p (numEndOf s p)).data.toList, ⟨#[]⟩⟩ = true := hw.1
        simp only [formed, if_true, Bool.and_eq_true, decide_eq_true_eq] at hf
        have ht := num_text hp h2 hf.1.2
        have hb := numEndOf_bounds s p hp
        have e : text (.lf ⟨1, numVal (s.extract p (numEndOf s p)).data.toList, ⟨#[]⟩⟩) = (s.extract p (numEndOf s p)).data.toList := ht
        rw [e]
        exact ⟨At_ext hb.2, by rw [ext_len hb.2]; omega⟩
      · rw [if_neg h2]
        by_cases h3 : (peekB s p).toNat = 121
        · rw [if_pos h3]
          exact sat_low fun e _ => ⟨e, rfl⟩
        · rw [if_neg h3]
          by_cases h4 : (peekB s p).toNat = 110 ∧ (peekB s (p + 1)).toNat = 111
          · rw [if_pos h4]
            exact fun _ => ⟨⟨⟨hp, pk 110 110 h4.1 rfl⟩, ⟨⟨peek_lt' h4.2 (by omega), UInt8.toNat_inj.1 (by rw [h4.2]; rfl)⟩, trivial⟩⟩, rfl⟩
          · rw [if_neg h4]
            by_cases h5 : (peekB s p).toNat = 110 ∨ (peekB s p).toNat = 116 ∨ (peekB s p).toNat = 115
            · rw [if_pos h5]
              have hb := nameEnd_bounds s p hp
              refine fun _ => ⟨At_ext hb.2.1, ?_⟩
              show nameEnd s p = p + (s.extract p (nameEnd s p)).data.toList.length
              rw [ext_len hb.2.1]; omega
            · rw [if_neg h5]
              by_cases h6 : (peekB s p).toNat = 39
              · rw [if_pos h6]
                have hb := textEnd_bounds s s.size (p + 1) hp
                refine sat_low fun e _ => ?_
                have el : (s.extract (p + 1) (textEnd s s.size (p + 1))).data.toList.length = textEnd s s.size (p + 1) - (p + 1) := ext_len hb.2
                refine ⟨⟨⟨hp, pk 39 39 h6 rfl⟩, (At_append s _ _ _).2 ⟨At_ext hb.2, ?_⟩⟩, ?_⟩
                · rw [el, show p + 1 + (textEnd s s.size (p + 1) - (p + 1)) = textEnd s s.size (p + 1) by omega]; exact e
                · have e2 : (text (.lf ⟨3, 0, s.extract (p + 1) (textEnd s s.size (p + 1))⟩)).length = (s.extract (p + 1) (textEnd s s.size (p + 1))).data.toList.length + 2 := by simp [text, leafText]
                  rw [e2, el]; omega
              · rw [if_neg h6]
                by_cases h7 : (peekB s p).toNat = 45
                · rw [if_pos h7]; exact un 5 rfl hp (pk 45 _ h7 rfl)
                · rw [if_neg h7]
                  by_cases h8 : (peekB s p).toNat = 33
                  · rw [if_pos h8]; exact un 6 rfl hp (pk 33 _ h8 rfl)
                  · rw [if_neg h8]
                    by_cases h9 : (peekB s p).toNat = 35
                    · rw [if_pos h9]; exact un 7 rfl hp (pk 35 _ h9 rfl)
                    · rw [if_neg h9]
                      by_cases h10 : (peekB s p).toNat = 40
                      · rw [if_pos h10]
                        have ba := rd_bounds s n (p + 1) hp
                        have ta := text_of_rd s n (p + 1) hp
                        cases ea : rd s n (p + 1) with
                        | bad q => trivial
                        | ok a q =>
                          rw [ea] at ba ta
                          show Rd.sat (if kindOf (peekB s q) = 0 then _ else _) _ _
                          by_cases hk : kindOf (peekB s q) = 0
                          · rw [if_pos hk]; trivial
                          · rw [if_neg hk]
                            have hq : q < s.size := peek_lt fun e => hk (by rw [e]; rfl)
                            have tb := text_of_rd s n (q + 1) hq
                            refine Rd.sat_then tb (fun _ _ => trivial) fun b q2 hb => ?_
                            refine sat_low fun e hw => ?_
                            have xa := ta hw.2.2.1
                            have xb := hb hw.2.2.2
                            have ha2 := xa.2
                            have hb2 := xb.2
                            subst ha2
                            subst hb2
                            refine ⟨⟨⟨hp, pk 40 40 h10 rfl⟩, (At_append s _ _ _).2 ⟨xa.1, ⟨hq, ?_⟩, (At_append s _ _ _).2 ⟨xb.1, e⟩⟩⟩, ?_⟩
                            · exact (kindOf_op hk).symm
                            · simp [text]; omega
                      · rw [if_neg h10]
                        by_cases h11 : (peekB s p).toNat = 63
                        · rw [if_pos h11]
                          refine sat_low fun e1 => ?_
                          have hp2 : p + 2 ≤ s.size := e1.2.1.1
                          have ba := rd_bounds s n (p + 2) hp2
                          have ta := text_of_rd s n (p + 2) hp2
                          cases ea : rd s n (p + 2) with
                          | bad q => trivial
                          | ok a q =>
                            rw [ea] at ba ta
                            refine sat_low fun e2 => ?_
                            have tb := text_of_rd s n (q + 1) e2.1.1
                            cases eb : rd s n (q + 1) with
                            | bad q => trivial
                            | ok b q2 =>
                              rw [eb] at tb
                              refine sat_low fun e3 => ?_
                              have tc := text_of_rd s n (q2 + 1) e3.1.1
                              refine Rd.sat_then tc (fun _ _ => trivial) fun c q3 hc => ?_
                              refine sat_low fun e4 hw => ?_
                              have xa := ta hw.2.2.1
                              have xb := tb hw.2.2.2.1
                              have xc := hc hw.2.2.2.2
                              have ha2 := xa.2
                              have hb2 := xb.2
                              have hc2 := xc.2
                              subst ha2
                              subst hb2
                              subst hc2
                              refine ⟨(At_append s [63, 40] _ _).2 ⟨e1, (At_append s _ _ _).2 ⟨xa.1, e2.1, (At_append s _ _ _).2 ⟨xb.1, e3.1, (At_append s _ _ _).2 ⟨xc.1, e4⟩⟩⟩⟩, ?_⟩
                              simp [text]; omega
                        · rw [if_neg h11]; trivial
/-- There: the text of a formula, whole, is read as this formula. -/
theorem there (f : Fm) (n : Nat) (hw : f.wf) (hd : f.depth ≤ n) (s : ByteArray) (hs : s.data.toList = text f) : rd s n 0 = .ok f s.size := by
  have hl : (text f).length = s.size := by rw [← hs]; rfl
  have hat : At s 0 (text f) := At_of_get fun i c hc => by
    have hi : i < s.size := by rw [← hl]; exact (List.getElem?_eq_some_iff.1 hc).1
    rw [Nat.zero_add]
    refine ⟨hi, ?_⟩
    rw [← hs] at hc
    rw [← getElem_peek hi]
    exact (List.getElem?_eq_some_iff.1 hc).2
  have hz : peekB s (0 + (text f).length) = 0 := by unfold peekB; rw [dif_neg (by omega)]
  have := rd_of_text f n 0 hw hd hat (follow_of (b := 0) (by rw [hz]; rfl) (by omega) (by omega))
  rw [this, hl, Nat.zero_add]
/-- Back: what is read to the end, if it is formed, has this text. -/
theorem back (f : Fm) (n : Nat) (hw : f.wf) (s : ByteArray) (h : rd s n 0 = .ok f s.size) : text f = s.data.toList := by
  have := text_of_rd s n 0 (Nat.zero_le _)
  rw [h] at this
  obtain ⟨h1, h2⟩ := this hw
  have := ext_of_At h1 h2 (Nat.le_refl _)
  rw [← this]
  congr 1
  rw [ByteArray.data_extract]
  exact Array.extract_size ..
end Pl
end Go.Proofs.YtchoelgkcnnnkaaGreatDoor
namespace Go.Proofs.YtchoelgkcnnnkaaGreatDoor
open Go.RowKit
namespace Pl
/-- Each term has as many operands as its kind says. -/
def Shape : Fm → Prop
  | .lf t => operandsOf t.k = 0
  | .un t a => operandsOf t.k = 1 ∧ Shape a
  | .bi t a b => operandsOf t.k = 2 ∧ Shape a ∧ Shape b
  | .tr t a b c => operandsOf t.k = 3 ∧ Shape a ∧ Shape b ∧ Shape c
theorem wf_shape : ∀ f : Fm, f.wf → Shape f
  | .lf _, h => h.2
  | .un _ a, h => ⟨h.2.1, wf_shape a h.2.2⟩
  | .bi _ a b, h => ⟨h.2.1, wf_shape a h.2.2.1, wf_shape b h.2.2.2⟩
  | .tr _ a b c, h => ⟨h.2.1, wf_shape a h.2.2.1, wf_shape b h.2.2.2.1, wf_shape c h.2.2.2.2⟩
theorem wf_formed : ∀ f : Fm, f.wf → ∀ t ∈ f.flat, formed t = true
  | .lf _, h, t, ht => by simp [Fm.flat] at ht; subst ht; exact h.1
  | .un _ a, h, t, ht => by
    simp [Fm.flat] at ht
    rcases ht with rfl | ht
    · exact h.1
    · exact wf_formed a h.2.2 t ht
  | .bi _ a b, h, t, ht => by
    simp [Fm.flat] at ht
    rcases ht with rfl | ht | ht
    · exact h.1
    · exact wf_formed a h.2.2.1 t ht
    · exact wf_formed b h.2.2.2 t ht
  | .tr _ a b c, h, t, ht => by
    simp [Fm.flat] at ht
    rcases ht with rfl | ht | ht | ht
    · exact h.1
    · exact wf_formed a h.2.2.1 t ht
    · exact wf_formed b h.2.2.2.1 t ht
    · exact wf_formed c h.2.2.2.2 t ht
theorem wf_of : ∀ f : Fm, Shape f → (∀ t ∈ f.flat, formed t = true) → f.wf
  | .lf t, h, k => ⟨k t (by simp [Fm.flat]), h⟩
  | .un t a, h, k => ⟨k t (by simp [Fm.flat]), h.1, wf_of a h.2 fun u hu => k u (by simp [Fm.flat, hu])⟩
  | .bi t a b, h, k => ⟨k t (by simp [Fm.flat]), h.1, wf_of a h.2.1 fun u hu => k u (by simp [Fm.flat, hu]), wf_of b h.2.2 fun u hu => k u (by simp [Fm.flat, hu])⟩
  | .tr t a b c, h, k => ⟨k t (by simp [Fm.flat]), h.1, wf_of a h.2.1 fun u hu => k u (by simp [Fm.flat, hu]), wf_of b h.2.2.1 fun u hu => k u (by simp [Fm.flat, hu]), wf_of c h.2.2.2 fun u hu => k u (by simp [Fm.flat, hu])⟩
/-- Two formulas, each followed by something, whose terms are the same, are the same. -/
theorem flat_inj : ∀ (f g : Fm) (r q : List Tm), Shape f → Shape g → f.flat ++ r = g.flat ++ q → f = g ∧ r = q
  | .lf t, g, r, q, hf, hg, h => by
    cases g with
    | lf u => simp only [Fm.flat, List.cons_append, List.nil_append, List.cons.injEq] at h; obtain ⟨rfl, h⟩ := h; exact ⟨rfl, h⟩
    | un u a => simp only [Fm.flat, List.cons_append, List.nil_append, List.cons.injEq] at h; obtain ⟨rfl, _⟩ := h; have := hf.symm.trans hg.1; omega
    | bi u a b => simp only [Fm.flat, List.cons_append, List.nil_append, List.cons.injEq] at h; obtain ⟨rfl, _⟩ := h; have := hf.symm.trans hg.1; omega
    | tr u a b c => simp only [Fm.flat, List.cons_append, List.nil_append, List.cons.injEq] at h; obtain ⟨rfl, _⟩ := h; have := hf.symm.trans hg.1; omega
  | .un t a, g, r, q, hf, hg, h => by
    cases g with
    | lf u => simp only [Fm.flat, List.cons_append, List.nil_append, List.cons.injEq] at h; obtain ⟨rfl, _⟩ := h; have := hf.1.symm.trans hg; omega
    | un u a' =>
      simp only [Fm.flat, List.cons_append, List.cons.injEq] at h
      obtain ⟨rfl, h⟩ := h
      obtain ⟨rfl, h2⟩ := flat_inj a a' r q hf.2 hg.2 h
      exact ⟨rfl, h2⟩
    | bi u a b => simp only [Fm.flat, List.cons_append, List.cons.injEq] at h; obtain ⟨rfl, _⟩ := h; have := hf.1.symm.trans hg.1; omega
    | tr u a b c => simp only [Fm.flat, List.cons_append, List.cons.injEq] at h; obtain ⟨rfl, _⟩ := h; have := hf.1.symm.trans hg.1; omega
  | .bi t a b, g, r, q, hf, hg, h => by
    cases g with
    | lf u => simp only [Fm.flat, List.cons_append, List.nil_append, List.cons.injEq] at h; obtain ⟨rfl, _⟩ := h; have := hf.1.symm.trans hg; omega
    | un u a' => simp only [Fm.flat, List.cons_append, List.cons.injEq] at h; obtain ⟨rfl, _⟩ := h; have := hf.1.symm.trans hg.1; omega
    | bi u a' b' =>
      simp only [Fm.flat, List.cons_append, List.cons.injEq, List.append_assoc] at h
      obtain ⟨rfl, h⟩ := h
      obtain ⟨rfl, h2⟩ := flat_inj a a' _ _ hf.2.1 hg.2.1 h
      obtain ⟨rfl, h3⟩ := flat_inj b b' _ _ hf.2.2 hg.2.2 h2
      exact ⟨rfl, h3⟩
    | tr u a b c => simp only [Fm.flat, List.cons_append, List.cons.injEq] at h; obtain ⟨rfl, _⟩ := h; have := hf.1.symm.trans hg.1; omega
  | .tr t a b c, g, r, q, hf, hg, h => by
    cases g with
    | lf u => simp only [Fm.flat, List.cons_append, List.nil_append, List.cons.injEq] at h; obtain ⟨rfl, _⟩ := h; have := hf.1.symm.trans hg; omega
    | un u a' => simp only [Fm.flat, List.cons_append, List.cons.injEq] at h; obtain ⟨rfl, _⟩ := h; have := hf.1.symm.trans hg.1; omega
    | bi u a' b' => simp only [Fm.flat, List.cons_append, List.cons.injEq] at h; obtain ⟨rfl, _⟩ := h; have := hf.1.symm.trans hg.1; omega
    | tr u a' b' c' =>
      simp only [Fm.flat, List.cons_append, List.cons.injEq, List.append_assoc] at h
      obtain ⟨rfl, h⟩ := h
      obtain ⟨rfl, h2⟩ := flat_inj a a' _ _ hf.2.1 hg.2.1 h
      obtain ⟨rfl, h3⟩ := flat_inj b b' _ _ hf.2.2.1 hg.2.2.1 h2
      obtain ⟨rfl, h4⟩ := flat_inj c c' _ _ hf.2.2.2 hg.2.2.2 h3
      exact ⟨rfl, h4⟩
theorem flat_eq {f g : Fm} (hf : Shape f) (hg : Shape g) (h : f.flat = g.flat) : f = g := (flat_inj f g [] [] hf hg (by simpa using h)).1
theorem kindOf_two (c : UInt8) (h : kindOf c ≠ 0) : operandsOf (kindOf c) = 2 := by
  have key : ∀ n : Fin 256, kindOf (UInt8.ofNat n.val) ≠ 0 → operandsOf (kindOf (UInt8.ofNat n.val)) = 2 := by decide +kernel
  have := key ⟨c.toNat, c.toNat_lt⟩
  simp only [UInt8.ofNat_toNat] at this
  exact this h
/-- What is read has the right shape. -/
theorem itr' {c : Prop} [Decidable c] {a b : Rd} {P : Fm → Nat → Prop} {B : Nat → Prop} (h1 : c → a.sat P B) (h2 : ¬ c → b.sat P B) : (if c then a else b).sat P B := by
  by_cases h : c
  · rw [if_pos h]; exact h1 h
  · rw [if_neg h]; exact h2 h
theorem rd_shape (s : ByteArray) : ∀ (n p : Nat), (rd s n p).sat (fun f _ => Shape f) (fun _ => True)
  | 0, p => trivial
  | n + 1, p => by
    have ih := rd_shape s n
    have un : ∀ k, operandsOf k = 1 → Rd.sat ((rd s n (p + 1)).then fun a q => .ok (.un (mk0 k) a) q) (fun f _ => Shape f) (fun _ => True) := by
      intro k hk
      exact Rd.sat_then (ih (p + 1)) (fun _ _ => trivial) fun a q ha => ⟨hk, ha⟩
    unfold rd
    refine itr' (fun _ => trivial) fun _ => ?_
    refine itr' (fun _ => rfl) fun _ => ?_
    refine itr' (fun _ => sat_word (fun _ => rfl) fun _ _ => trivial) fun _ => ?_
    refine itr' (fun _ => rfl) fun _ => ?_
    refine itr' (fun _ => rfl) fun _ => ?_
    refine itr' (fun _ => sat_word (fun _ => rfl) fun _ _ => trivial) fun _ => ?_
    refine itr' (fun _ => un _ rfl) fun _ => ?_
    refine itr' (fun _ => un _ rfl) fun _ => ?_
    refine itr' (fun _ => un _ rfl) fun _ => ?_
    refine itr' (fun _ => ?_) fun _ => ?_
    · refine Rd.sat_then (ih (p + 1)) (fun _ _ => trivial) fun a q ha => ?_
      refine itr' (fun _ => trivial) fun hk => ?_
      refine Rd.sat_then (ih (q + 1)) (fun _ _ => trivial) fun b q2 hb => ?_
      exact sat_word (fun _ => ⟨kindOf_two _ hk, ha, hb⟩) fun _ _ => trivial
    refine itr' (fun _ => ?_) fun _ => trivial
    refine sat_word (fun _ => ?_) fun _ _ => trivial
    refine Rd.sat_then (ih (p + 2)) (fun _ _ => trivial) fun a q ha => ?_
    refine sat_word (fun _ => ?_) fun _ _ => trivial
    refine Rd.sat_then (ih (q + 1)) (fun _ _ => trivial) fun b q2 hb => ?_
    refine sat_word (fun _ => ?_) fun _ _ => trivial
    refine Rd.sat_then (ih (q2 + 1)) (fun _ _ => trivial) fun c q3 hc => ?_
    exact sat_word (fun _ => ⟨rfl, ha, hb, hc⟩) fun _ _ => trivial
/-- What is read as a valid formula is one. -/
theorem rd_wf {s : ByteArray} {n p q : Nat} {f : Fm} (h : rd s n p = .ok f q) (hv : validB f.flat = true) : f.wf ∧ f.depth ≤ 12 ∧ f.flat.length ≤ 60 := by
  have hs : Shape f := by have := rd_shape s n p; rw [h] at this; exact this
  obtain ⟨hl, g, hg, hd, he⟩ := (validB_iff _).1 hv
  obtain rfl := flat_eq hs (wf_shape g hg) he
  exact ⟨hg, hd, hl⟩
theorem valid_of {f : Fm} (hw : f.wf) (hd : f.depth ≤ 12) (hl : f.flat.length ≤ 60) : validB f.flat = true := (validB_iff _).2 ⟨hl, f, hw, hd, rfl⟩
theorem leafText_ne {t : Tm} (h : formed t = true) (h0 : operandsOf t.k = 0) : leafText t ≠ [] := by
  rcases leaf_cases h h0 with ⟨n, rfl, h1, h2⟩ | rfl | rfl | ⟨s, rfl, _, _⟩ | ⟨s, rfl, h1⟩
  · show Lib.itoa n ≠ []
    rw [itoa_nat n h1]; exact decDigits_ne _
  · decide
  · decide
  · show 39 :: (s.data.toList ++ [39]) ≠ []
    simp
  · show s.data.toList ≠ []
    intro e; rw [e] at h1; exact absurd h1 (by decide)
theorem text_ne : ∀ f : Fm, f.wf → text f ≠ []
  | .lf _, h => leafText_ne h.1 h.2
  | .un _ _, _ => by simp [text]
  | .bi _ _ _, _ => by simp [text]
  | .tr _ _ _ _, _ => by simp [text]
end Pl
end Go.Proofs.YtchoelgkcnnnkaaGreatDoor
namespace Go.Proofs.YtchoelgkcnnnkaaGreatDoor
open Go.RowKit
namespace Pl
/-- What a text is read as: a valid formula, or none; and the place that is come to. -/
def par (n : Nat) (s : ByteArray) : Option Fm × Nat :=
  match rd s n 0 with
  | .bad q => (none, q)
  | .ok f q => if q < s.size then (none, q) else if validB f.flat = true then (some f, q) else (none, q)
theorem par_pl (n : Nat) (s : ByteArray) : (par n s).2 = (rd s n 0).pl := by
  unfold par
  cases rd s n 0 with
  | bad q => rfl
  | ok f q =>
    dsimp only
    by_cases h1 : q < s.size
    · rw [if_pos h1]; rfl
    · rw [if_neg h1]
      by_cases h2 : validB f.flat = true
      · rw [if_pos h2]; rfl
      · rw [if_neg h2]; rfl
theorem par_le (n : Nat) (s : ByteArray) : (par n s).2 ≤ s.size := by
  rw [par_pl]
  have := rd_bounds s n 0 (Nat.zero_le _)
  cases h : rd s n 0 with
  | bad q => rw [h] at this; exact this.2
  | ok f q => rw [h] at this; exact this.2.1
theorem par_some {n : Nat} {s : ByteArray} {f : Fm} (h : (par n s).1 = some f) : f.wf ∧ f.depth ≤ 12 ∧ f.flat.length ≤ 60 ∧ text f = s.data.toList ∧ (par n s).2 = s.size := by
  have hp := par_le n s
  unfold par at h hp ⊢
  cases hr : rd s n 0 with
  | bad q => rw [hr] at h; cases h
  | ok g q =>
    rw [hr] at h hp
    dsimp only at h hp ⊢
    by_cases h1 : q < s.size
    · rw [if_pos h1] at h; cases h
    · rw [if_neg h1] at h hp ⊢
      by_cases h2 : validB g.flat = true
      · rw [if_pos h2] at h hp ⊢
        cases h
        obtain ⟨a, b, c⟩ := rd_wf hr h2
        have hq : q = s.size := by dsimp only at hp; omega
        subst hq
        exact ⟨a, b, c, back f n a s hr, rfl⟩
      · rw [if_neg h2] at h; cases h
theorem par_text {n : Nat} {f : Fm} (hw : f.wf) (hd : f.depth ≤ 12) (hl : f.flat.length ≤ 60) (hn : 12 ≤ n) {s : ByteArray} (hs : s.data.toList = text f) : par n s = (some f, s.size) := by
  unfold par
  rw [there f n hw (by omega) s hs]
  dsimp only
  rw [if_neg (Nat.lt_irrefl _), if_pos (valid_of hw hd hl)]
end Pl
def ParsePost (r : Option Fm × Nat) (w : World) (e : Ending) (w' : World) : Prop :=
  (match r.1 with
    | none => e = .returned (.tuple #[.slice none 0 0, .int .i64 (r.2 : Int), .int .i64 150])
    | some f => ∃ v, e = .returned (.tuple #[v, .int .i64 (r.2 : Int), .int .i64 0]) ∧ TermsIn w' v f.flat) ∧ Below w.heap.size w w'
theorem parse_par (s : ByteArray) (hs : s.size ≤ 100000000) (n : Nat) (hn : s.size < n) (w : World) (hG : Glob w) : Calls Tryz.prog 22 #[.string s] w (ParsePost (Pl.par n s) w) := by
  unfold Pl.par
  cases hr : Pl.rd s n 0 with
  | bad q => exact (parse_bad s hs n hn w hG q hr).mono fun e w' h => h
  | ok f q =>
    dsimp only
    by_cases h1 : q < s.size
    · rw [if_pos h1]; exact (parse_part s hs n hn w hG f q h1 hr).mono fun e w' h => h
    · rw [if_neg h1]
      by_cases h2 : Pl.validB f.flat = true
      · rw [if_pos h2]; exact (parse_ok s hs n hn w hG f q (by omega) h2.symm hr).mono fun e w' ⟨v, h3, h4, h5⟩ => ⟨⟨v, h3, h4⟩, h5⟩
      · rw [if_neg h2]; exact (parse_inv s hs n hn w hG f q (by omega) ((Bool.not_eq_true _).mp h2).symm hr).mono fun e w' h => h
/-- A text that is none of a formula. -/
theorem parse_none (s : ByteArray) (hs : s.size ≤ 100000000) (n q : Nat) (hn : s.size < n) (w : World) (hG : Glob w) (h : Hid (Pl.par n s = (none, q))) :
    Calls Tryz.prog 22 #[.string s] w fun e w' => e = .returned (.tuple #[.slice none 0 0, .int .i64 (q : Int), .int .i64 150]) ∧ Below w.heap.size w w' := by
  have := parse_par s hs n hn w hG
  rw [h.out] at this
  exact this
/-- The text of a formula. -/
theorem parse_some (s : ByteArray) (hs : s.size ≤ 100000000) (n q : Nat) (f : Fm) (hn : s.size < n) (w : World) (hG : Glob w) (h : Hid (Pl.par n s = (some f, q))) :
    Calls Tryz.prog 22 #[.string s] w fun e w' => ∃ v, e = .returned (.tuple #[v, .int .i64 (q : Int), .int .i64 0]) ∧ TermsIn w' v f.flat ∧ Below w.heap.size w w' := by
  have := parse_par s hs n hn w hG
  rw [h.out] at this
  exact this.mono fun e w' ⟨⟨v, h1, h2⟩, h3⟩ => ⟨v, h1, h2, h3⟩
end Go.Proofs.YtchoelgkcnnnkaaGreatDoor
namespace Go.Proofs.YtchoelgkcnnnkaaGreatDoor
open Go.RowKit
namespace Pl
theorem peek_list (s : ByteArray) (p : Nat) : peekB s p = (s.data.toList[p]?).getD 0 := by
  unfold peekB
  by_cases h : p < s.size
  · rw [dif_pos h, List.getElem?_eq_getElem (by simpa using h)]; rfl
  · rw [dif_neg h, List.getElem?_eq_none (by simpa using h)]; rfl
theorem Agree.symm {a b : ByteArray} {k : Nat} (h : Agree a b k) : Agree b a k := ⟨h.2.1, h.1, fun i hi => (h.2.2 i hi).symm⟩
theorem Agree.trans {a b c : ByteArray} {k : Nat} (h : Agree a b k) (g : Agree b c k) : Agree a c k := ⟨h.1, g.2.1, fun i hi => (g.2.2 i hi).trans (h.2.2 i hi)⟩
theorem Agree.mono {a b : ByteArray} {k m : Nat} (h : Agree a b k) (hm : m ≤ k) : Agree a b m := ⟨Nat.le_trans hm h.1, Nat.le_trans hm h.2.1, fun i hi => h.2.2 i (by omega)⟩
theorem agree_ext {s : ByteArray} {k : Nat} (hk : k ≤ s.size) : Agree s (s.extract 0 k) k := by
  refine ⟨hk, by rw [ByteArray.size_extract]; omega, fun i hi => ?_⟩
  have h := ext_get (s := s) (p := 0) (q := k) i (by omega) hk
  rw [peek_list, h]
  simp
theorem agree_app (a b : ByteArray) : Agree a (a ++ b) a.size := by
  refine ⟨Nat.le_refl _, by rw [ByteArray.size_append]; omega, fun i hi => ?_⟩
  rw [peek_list, peek_list, ByteArray.data_append, Array.toList_append, List.getElem?_append_left (by simpa using hi)]
/-- The text with another byte. -/
def bent (T : ByteArray) (A : Nat) (c : UInt8) : ByteArray := T.extract 0 A ++ ⟨#[c]⟩ ++ T.extract (A + 1) T.size
theorem bent_size (T : ByteArray) (A : Nat) (c : UInt8) (h : A < T.size) : (bent T A c).size = T.size := by
  unfold bent
  rw [ByteArray.size_append, ByteArray.size_append, ByteArray.size_extract, ByteArray.size_extract]
  show min A T.size - 0 + 1 + (min T.size T.size - (A + 1)) = T.size
  omega
theorem bent_agree (T : ByteArray) (A : Nat) (c : UInt8) (h : A < T.size) : Agree T (bent T A c) A := by
  have h1 := agree_ext (s := T) (k := A) (by omega)
  have h2 := agree_app (T.extract 0 A) ⟨#[c]⟩
  have h3 := agree_app (T.extract 0 A ++ ⟨#[c]⟩) (T.extract (A + 1) T.size)
  have e : (T.extract 0 A).size = A := by rw [ByteArray.size_extract]; omega
  rw [e] at h2
  exact (h1.trans h2).trans (h3.mono (by rw [ByteArray.size_append, e]; show A ≤ A + 1; omega))
theorem wrong_at {T : ByteArray} {f : Fm} {n A k : Nat} {c : UInt8} {o : Option Fm} (hT : par n T = (some f, T.size)) (hA : A < T.size) (hz : par n (bent T A c) = (none, k)) : A ≤ k ∧ k ≤ (bent T A c).size := by
  have hk : k = (rd (bent T A c) n 0).pl := by rw [← par_pl, hz]
  have hle := par_le n (bent T A c)
  rw [hz] at hle
  refine ⟨?_, hle⟩
  rcases Nat.lt_or_ge k A with h | h
  · have h1 := rd_agree (bent_agree T A c hA).symm n 0 (by rw [← hk]; exact h)
    have h2 : (rd T n 0).pl = T.size := by rw [← par_pl, hT]
    rw [h1, ← hk] at h2
    omega
  · exact h
theorem wrong_cut {z : ByteArray} {n k q : Nat} {o : Option Fm} (hz : par n z = (o, k)) (hy : par n (z.extract 0 k) = (none, q)) : q = k := by
  have hk : k = (rd z n 0).pl := by rw [← par_pl, hz]
  have hle : k ≤ z.size := by have := par_le n z; rw [hz] at this; exact this
  have hq : q = (rd (z.extract 0 k) n 0).pl := by rw [← par_pl, hy]
  have hql := par_le n (z.extract 0 k)
  rw [hy, ByteArray.size_extract] at hql
  dsimp only at hql
  rcases Nat.lt_or_ge q k with h | h
  · have h1 := rd_agree (agree_ext hle).symm n 0 (by rw [← hq]; exact h)
    rw [← h1, ← hk] at hq
    exact hq
  · omega
theorem wrong_more {z u : ByteArray} {n k : Nat} (hz : par n z = (none, k)) (hk : k < z.size) : par n (z.extract 0 (k + 1) ++ u) = (none, k) := by
  have hp : (rd z n 0).pl = k := by rw [← par_pl, hz]
  have e : (z.extract 0 (k + 1)).size = k + 1 := by rw [ByteArray.size_extract]; omega
  have ha : Agree z (z.extract 0 (k + 1) ++ u) (k + 1) := by
    have := agree_app (z.extract 0 (k + 1)) u
    rw [e] at this
    exact (agree_ext (by omega)).trans this
  have hr := rd_agree ha n 0 (by rw [hp]; omega)
  unfold par
  rw [hr]
  cases hx : rd z n 0 with
  | bad q => rw [hx] at hp; dsimp only [Rd.pl] at hp ⊢; rw [hp]
  | ok f q =>
    rw [hx] at hp
    dsimp only [Rd.pl] at hp ⊢
    subst hp
    rw [if_pos (by rw [ByteArray.size_append, e]; omega)]
end Pl
end Go.Proofs.YtchoelgkcnnnkaaGreatDoor
