/- The externs of the printed walks, in the form in which the printed walks call them: '<name>.f' says what is answered, '<name>.calls' that it is. -/
import Derived.Test.YtcmpmciadacapaaDoorExtA
import Derived.Test.YtcmpmciadacapaaDoorWWords
import Derived.Shelf.Strings.SlTrimAscii
namespace Go.Proofs.YtcmpmciadacapaaDoor.X
open Go.RowKit Go.Proofs.YtcmpmciadacapaaDoorW.PrintWords

/-- for the walks: two letters and one more are no string that is too long -/
@[go_sem] theorem lim_min_one (n : Nat) : (9223372036854775807 < 2 + min 1 n) = False := by
  rw [eq_iff_iff, iff_false]
  omega
theorem lim_false {a b : Nat} (h : a ≤ b) : (b < a) = False := eq_false (Nat.not_lt.2 h)
theorem min_lit5 {n : Int} (h : n ≤ 5) : min n.toNat (⟨#[32, 32, 32, 32, 32]⟩ : ByteArray).size = n.toNat := Nat.min_eq_left (show n.toNat ≤ 5 by omega)
theorem GL.drawn {w w' : World} (h : GL w) (hd : Drawn0 w w') : GL w' := h.below hd.below
theorem ascii_list {s : ByteArray} (h : isAscii s = true) : ∀ (j : Nat) b, s.data.toList[j]? = some b → b.toNat < 128 := by
  intro j b hj
  have := List.all_eq_true.1 h b (List.mem_of_getElem? hj)
  simpa using this
theorem among_contains (set : ByteArray) (b : UInt8) : among set (b.toNat : Int) set.size = set.data.toList.contains b := by
  unfold among
  rw [List.take_of_length_le (by rw [Lib.size_eq]; exact Nat.le_refl _), List.contains_eq_any_beq]
  congr 1
  funext x
  by_cases e : b = x
  · subst e; simp
  · have : b.toNat ≠ x.toNat := fun h => e (UInt8.toNat_inj.1 h)
    rw [beq_eq_false_iff_ne.2 e, decide_eq_false (by omega)]

def strings_IndexByte.f (a0 : ByteArray) (a1 : Int) : Option Int := some (Lib.indexByte a0.data.toList a1.toNat.toUInt8)
theorem strings_IndexByte.calls (a0 : ByteArray) (a1 : Int) (r : Int) (w : World) (h : strings_IndexByte.f a0 a1 = some r) : Calls Tryd.prog 12 #[.string a0, .int .u8 a1] w fun e w' => e = .returned (.int .i64 r) ∧ Drawn0 w w' :=
  (Tryd.strings_IndexByte a0 a1 w).mono fun e w' ⟨h1, h2⟩ => ⟨by rw [h1]; congr 2; exact Option.some.inj h, h2 ▸ Drawn0.refl _⟩

def strings_Count.f (a0 a1 : ByteArray) : Option Int := if a1.size = 1 then some (Lib.countByte a0.data.toList (a1.data.toList.getD 0 0) : Nat) else none
theorem strings_Count.calls (a0 a1 : ByteArray) (r : Int) (w : World) (h : strings_Count.f a0 a1 = some r) : Calls Tryd.prog 13 #[.string a0, .string a1] w fun e w' => e = .returned (.int .i64 r) ∧ Drawn0 w w' := by
  unfold strings_Count.f at h
  split at h
  · rename_i h1
    obtain ⟨c, hc⟩ : ∃ c, a1 = ⟨#[c]⟩ := by
      have hlen : a1.data.toList.length = 1 := by rw [← Lib.size_eq]; exact h1
      match hh : a1.data.toList, hlen with
      | [c], _ => exact ⟨c, by rw [← Lib.mk_data a1, hh]⟩
    subst hc
    exact (Tryd.strings_Count_one a0 c w).mono fun e w' ⟨h1, h2⟩ => ⟨by rw [h1]; congr 2; exact Option.some.inj h, h2 ▸ Drawn0.refl _⟩
  · cases h

def trimOk (s set : ByteArray) : Bool := decide (s.size ≤ 9223372036854775807) && decide (set.size < 4294967281) && isAscii set
theorem trimOk_1 {s set : ByteArray} (h : trimOk s set = true) : s.size ≤ 9223372036854775807 := by simp [trimOk] at h; exact h.1.1
theorem trimOk_2 {s set : ByteArray} (h : trimOk s set = true) : set.size < 4294967281 := by simp [trimOk] at h; exact h.1.2
theorem trimOk_3 {s set : ByteArray} (h : trimOk s set = true) : isAscii set = true := by simp [trimOk] at h; exact h.2
def strings_Trim.f (a0 a1 : ByteArray) : Option ByteArray := if trimOk a0 a1 = true then some ⟨(Lib.trimS a0.data.toList a1.data.toList).toArray⟩ else none
theorem strings_Trim.calls (a0 a1 r : ByteArray) (w : World) (h : strings_Trim.f a0 a1 = some r) : Calls Tryd.prog 30 #[.string a0, .string a1] w fun e w' => e = .returned (.string r) ∧ Below w.heap.size w w' := by
  unfold strings_Trim.f at h
  split at h
  · rename_i hk
    rw [← Option.some.inj h]
    exact Any.strings_Trim_laid Tryd.lays160 (by kernel_rfl) a0 a1 w (trimOk_1 hk) (trimOk_2 hk) (ascii_list (trimOk_3 hk))
  · cases h
def strings_TrimRight.f (a0 a1 : ByteArray) : Option ByteArray := if trimOk a0 a1 = true then some ⟨(Lib.trimRightS a0.data.toList a1.data.toList).toArray⟩ else none
theorem strings_TrimRight.calls (a0 a1 r : ByteArray) (w : World) (h : strings_TrimRight.f a0 a1 = some r) : Calls Tryd.prog 20 #[.string a0, .string a1] w fun e w' => e = .returned (.string r) ∧ Below w.heap.size w w' := by
  unfold strings_TrimRight.f at h
  split at h
  · rename_i hk
    rw [← Option.some.inj h]
    exact Any.strings_TrimRight_laid Tryd.lays162 (by kernel_rfl) a0 a1 w (trimOk_1 hk) (trimOk_2 hk) (ascii_list (trimOk_3 hk))
  · cases h

def leaf_cutLeft.f (a0 a1 : ByteArray) : Option ByteArray := if isAscii a1 = true then some ⟨(Lib.trimLeftS a0.data.toList a1.data.toList).toArray⟩ else none
theorem leaf_cutLeft.calls (a0 a1 r : ByteArray) (w : World) (h : leaf_cutLeft.f a0 a1 = some r) : Calls Tryd.prog 15 #[.string a0, .string a1] w fun e w' => e = .returned (.string r) ∧ Below w.heap.size w w' := by
  unfold leaf_cutLeft.f at h
  split at h
  · rename_i hk
    rw [← Option.some.inj h]
    refine (leaf_cutLeft_any a0 a1 w hk).mono ?_
    rintro e w' ⟨⟨i, hi, h1, h2, rfl⟩, hb⟩
    refine ⟨?_, hb⟩
    rw [Lib.trimLeftS_drop a0.data.toList a1.data.toList i (by have := Lib.size_eq a0; omega) ?_ ?_]
    · rw [← Lib.extract_to_end, Lib.mk_data]
    · intro j b hj hb
      obtain ⟨hlt, rfl⟩ := List.getElem?_eq_some_iff.1 hb
      have hlt' : j < a0.size := by have := Lib.size_eq a0; omega
      rw [← among_contains]
      exact h1 j hlt' hj
    · intro b hb
      obtain ⟨hlt, rfl⟩ := List.getElem?_eq_some_iff.1 hb
      have hlt' : i < a0.size := by have := Lib.size_eq a0; omega
      rw [← among_contains]
      exact h2 hlt'
  · cases h
def leaf_cutRight.f (a0 a1 : ByteArray) : Option ByteArray := if trimOk a0 a1 = true then some ⟨(Lib.trimRightS a0.data.toList a1.data.toList).toArray⟩ else none
theorem leaf_cutRight.calls (a0 a1 r : ByteArray) (w : World) (hG : GL w) (h : leaf_cutRight.f a0 a1 = some r) : Calls Tryd.prog 14 #[.string a0, .string a1] w fun e w' => e = .returned (.string r) ∧ Below w.heap.size w w' := by
  unfold leaf_cutRight.f at h
  split at h
  · rename_i hk
    rw [← Option.some.inj h]
    refine (leaf_cutRight_any a0 a1 w hG (trimOk_1 hk) (trimOk_3 hk)).mono ?_
    rintro e w' ⟨⟨i, hi, h1, h2, rfl⟩, hb⟩
    refine ⟨?_, hb⟩
    rw [Lib.trimRightS_take a0.data.toList a1.data.toList i (by have := Lib.size_eq a0; omega) ?_ ?_]
    · congr 2
      apply ByteArray.ext
      apply Array.ext'
      simp
    · intro j b hj hb
      obtain ⟨hlt, rfl⟩ := List.getElem?_eq_some_iff.1 hb
      have hlt' : j < a0.size := by have := Lib.size_eq a0; omega
      rw [← among_contains]
      exact h1 j hlt' hj
    · intro b h0 hb
      obtain ⟨hlt, rfl⟩ := List.getElem?_eq_some_iff.1 hb
      have hlt' : i - 1 < a0.size := by have := Lib.size_eq a0; omega
      rw [← among_contains]
      exact h2 hlt' h0
  · cases h
end Go.Proofs.YtcmpmciadacapaaDoor.X
