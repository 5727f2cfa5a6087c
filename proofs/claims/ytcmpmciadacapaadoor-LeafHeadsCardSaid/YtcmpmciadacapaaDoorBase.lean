/- Plain words for pure texts: strings as lists of bytes. No program is in sight here. -/
import Derived.Test.YtcmpmciadacapaaDoorWWords
import Derived.Lib.SlTrimSet
import Derived.Lib.Bytealg
import Derived.Lib.IndexBytes
namespace Go.Proofs.YtcmpmciadacapaaDoor.X
open Go.RowKit Go.Proofs.YtcmpmciadacapaaDoorW.PrintWords

/-- A list of bytes as a string. -/
def S (l : List UInt8) : ByteArray := ⟨l.toArray⟩
theorem S_eta (s : ByteArray) : s = S s.data.toList := rfl
theorem S_data (l : List UInt8) : (S l).data.toList = l := rfl
theorem S_size (l : List UInt8) : (S l).size = l.length := by rw [Lib.size_eq]; rfl
theorem S_inj {a b : List UInt8} (h : S a = S b) : a = b := congrArg (fun s : ByteArray => s.data.toList) h
theorem S_extract (l : List UInt8) (a b : Nat) : (S l).extract a b = S ((l.drop a).take (b - a)) := by
  apply ByteArray.ext
  apply Array.ext'
  rw [ByteArray.data_extract, Array.toList_extract]
  rfl
theorem S_drop (l : List UInt8) (a : Nat) : (S l).extract a (S l).size = S (l.drop a) := by
  rw [S_extract, S_size, List.take_of_length_le (by simp)]
theorem S_take (l : List UInt8) (b : Nat) : (S l).extract 0 b = S (l.take b) := by
  rw [S_extract, List.drop_zero, Nat.sub_zero]
theorem S_append (a b : List UInt8) : S a ++ S b = S (a ++ b) := by
  apply ByteArray.ext
  apply Array.ext'
  simp [S]
theorem S_toList (l : List UInt8) : (S l).toList = l := by
  have h := Lib.extract_toList (S l) 0 (S l).size
  rw [ByteArray.extract_zero_size] at h
  rw [h, S_data, List.drop_zero, Nat.sub_zero, S_size, List.take_length]
theorem S_bt (l : List UInt8) (i : Int) (h0 : 0 ≤ i) (h : i < (l.length : Int)) : bt (S l) i = ((l[i.toNat]'(by omega)).toNat : Int) := by
  unfold bt
  rw [dif_pos (by rw [S_size]; omega)]
  rfl
theorem S_bt0 (c : UInt8) (t : List UInt8) : bt (S (c :: t)) 0 = (c.toNat : Int) := by
  rw [S_bt _ _ (Int.le_refl _) (by simp)]
  rfl
theorem byte_back (c : UInt8) : ((c.toNat : Int).toNat).toUInt8 = c := by
  simp
theorem byte_of_int {n : Int} (h0 : 0 ≤ n) (h : n ≤ 255) : ((n.toNat.toUInt8).toNat : Int) = n := by
  have : n.toNat.toUInt8.toNat = n.toNat % 256 := by simp
  rw [this]
  omega
theorem strOfNums_one (c : UInt8) : strOfNums [(c.toNat : Int)] = S [c] := by
  unfold strOfNums S
  simp
theorem byte_eq {a b : UInt8} : ((a.toNat : Int) = (b.toNat : Int)) ↔ a = b := by
  constructor
  · intro h; exact UInt8.toNat_inj.1 (by omega)
  · intro h; rw [h]
theorem wrap_id {i : Int} (h0 : -9223372036854775808 ≤ i) (h : i ≤ 9223372036854775807) : wrap64 i = i := by
  unfold wrap64
  omega
theorem indexByte_dec (l : List UInt8) (c : UInt8) : decide (Lib.indexByte l c < 0) = !(l.contains c) := by
  induction l with
  | nil => rfl
  | cons b l ih =>
    unfold Lib.indexByte
    rw [List.contains_cons]
    by_cases e : b = c
    · subst e; simp
    · have e' : (b == c) = false := beq_eq_false_iff_ne.2 e
      have e'' : (c == b) = false := beq_eq_false_iff_ne.2 (Ne.symm e)
      rw [e', e'']
      by_cases h : Lib.indexByte l c = -1
      · rw [Bool.false_or, ← ih, h]; rfl
      · have h2 : (Lib.indexByte l c == -1) = false := beq_eq_false_iff_ne.2 h
        have h3 := Lib.indexByte_ge l c
        rw [Bool.false_or, ← ih, h2]
        simp only [Bool.false_eq_true, if_false]
        congr 1
        apply propext
        omega
theorem indexByte_lt (l : List UInt8) (c : UInt8) : Lib.indexByte l c < 0 ↔ l.contains c = false := by
  have := indexByte_dec l c
  constructor
  · intro h
    rw [decide_eq_true h] at this
    simpa using this.symm
  · intro h
    rw [h] at this
    simpa using this
theorem indexByte_nn (l : List UInt8) (c : UInt8) : 0 ≤ Lib.indexByte l c ↔ l.contains c = true := by
  have := indexByte_lt l c
  cases hc : l.contains c
  · rw [hc] at this
    simp at this
    simp; omega
  · rw [hc] at this
    simp at this
    simp; omega

/-- how many bytes at the begin are c -/
def runB (c : UInt8) (l : List UInt8) : Nat := (l.takeWhile (· == c)).length
theorem runB_cons_eq (c : UInt8) (l : List UInt8) : runB c (c :: l) = runB c l + 1 := by simp [runB]
theorem runB_cons_ne {c b : UInt8} (l : List UInt8) (h : b ≠ c) : runB c (b :: l) = 0 := by simp [runB, h]
theorem runB_le (c : UInt8) (l : List UInt8) : runB c l ≤ l.length := List.Sublist.length_le (List.takeWhile_sublist _)
theorem drop_cons {α : Type} {l : List α} {i : Nat} (h : i < l.length) : l.drop i = l[i] :: l.drop (i + 1) := (List.getElem_cons_drop h).symm
end Go.Proofs.YtcmpmciadacapaaDoor.X
