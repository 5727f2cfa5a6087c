/- The plain law of LeafRules. -/
import Derived.Test.YtcmpmciadacapaaDoorPureLeaf
import Derived.Test.YtcmpmciadacapaaDoorPLeaf3
import Derived.Laws.Bits128
import Derived.OpenShut
namespace Go.Proofs.YtcmpmciadacapaaDoor.Pure
open Go.RowKit Go.Proofs.YtcmpmciadacapaaDoor.PLeaf Go.Proofs.YtcmpmciadacapaaDoorW.PrintWords Go.Proofs.YtcmpmciadacapaaDoor.X

theorem known_ok (k : Nat) (hk : 20 ≤ k) : rubricatorlaw18_known.f k = some true := by
  unfold rubricatorlaw18_known.f
  rw [show (⟨#[35, 35, 32, 97, 32, 35, 98, 32, 35, 35]⟩ : ByteArray) = S [35, 35, 32, 97, 32, 35, 98, 32, 35, 35] from rfl, leaf_Heading_eq _ (by decide) k (by show 10 < k; omega), marker_known k hk]
  have e : headingL [35, 35, 32, 97, 32, 35, 98, 32, 35, 35] = (2, [97, 32, 35, 98]) := by decide
  rw [e]
  simp only [Option.bind_some]
  rw [S_toList]
  rfl
theorem and3 (n : Int) : bits .and .i64 n 3 = n % 4 := by
  have h3 : (BitVec.ofInt 64 3).toNat = 2 ^ 2 - 1 := by decide
  have key : (BitVec.ofInt 64 n &&& BitVec.ofInt 64 3).toNat = (n % ((2 ^ 64 : Nat) : Int)).toNat % 2 ^ 2 := by
    rw [BitVec.toNat_and, BitVec.toNat_ofInt, h3, Nat.and_two_pow_sub_one_eq_mod]
  show IntKind.i64.wrap ((BitVec.ofInt 64 n &&& BitVec.ofInt 64 3).toNat : Nat) = n % 4
  rw [key, IntKind.wrap_i64]
  omega
theorem and1023 (n : Int) : bits .and .i64 n 1023 = n % 1024 := by
  have h3 : (BitVec.ofInt 64 1023).toNat = 2 ^ 10 - 1 := by decide
  have key : (BitVec.ofInt 64 n &&& BitVec.ofInt 64 1023).toNat = (n % ((2 ^ 64 : Nat) : Int)).toNat % 2 ^ 10 := by
    rw [BitVec.toNat_and, BitVec.toNat_ofInt, h3, Nat.and_two_pow_sub_one_eq_mod]
  show IntKind.i64.wrap ((BitVec.ofInt 64 n &&& BitVec.ofInt 64 1023).toNat : Nat) = n % 1024
  rw [key, IntKind.wrap_i64]
  omega
def gapsL (c : UInt8) : List Int → List UInt8
  | [] => []
  | g :: t => c :: (List.replicate (g % 4).toNat 32 ++ gapsL c t)
theorem gapsL_len (c : UInt8) : ∀ l : List Int, (gapsL c l).length ≤ 4 * l.length
  | [] => by simp [gapsL]
  | g :: t => by
    have := gapsL_len c t
    simp only [gapsL, List.length_cons, List.length_append, List.length_replicate]
    omega
theorem gapsL_all (c : UInt8) : ∀ l : List Int, (gapsL c l).all (fun b => ([32, 9, c] : List UInt8).contains b) = true
  | [] => rfl
  | g :: t => by
    have := gapsL_all c t
    simp only [gapsL, List.all_cons, List.all_append, this, Bool.and_true]
    simp
theorem gapsL_count (c : UInt8) (hc : c ≠ 32) : ∀ l : List Int, (gapsL c l).count c = l.length
  | [] => rfl
  | g :: t => by
    have := gapsL_count c hc t
    simp only [gapsL, List.count_cons_self, List.count_append, this, List.length_cons]
    rw [List.count_replicate, if_neg (by simpa using Ne.symm hc)]
    omega
theorem gapsL_append (c : UInt8) : ∀ (a b : List Int), gapsL c (a ++ b) = gapsL c a ++ gapsL c b
  | [], b => rfl
  | g :: t, b => by simp [gapsL, gapsL_append c t b]
theorem sign_of {c : UInt8} (h : ([42, 45, 95] : List UInt8).contains c = true) : c ≠ 32 := by
  have hm := List.contains_iff_mem.1 h
  simp only [List.mem_cons, List.mem_nil_iff, or_false] at hm
  rcases hm with rfl | rfl | rfl <;> decide
theorem ruleL_cons (c : UInt8) (t : List UInt8) : ruleL (c :: t) = (([42, 45, 95] : List UInt8).contains c && decide (3 ≤ (c :: t).count c) && (c :: t).all (fun b => ([32, 9, c] : List UInt8).contains b)) := rfl
theorem rule_gaps (c : UInt8) (hc : ([42, 45, 95] : List UInt8).contains c = true) (l : List Int) : ruleL (gapsL c l) = decide (3 ≤ l.length) := by
  have h1 := gapsL_all c l
  have h2 := gapsL_count c (sign_of hc) l
  cases l with
  | nil => rfl
  | cons g t =>
    simp only [gapsL] at h1 h2 ⊢
    rw [ruleL_cons, h1, hc]
    simp only [h2, Bool.true_and, Bool.and_true]
theorem rule_more (c : UInt8) (l : List Int) (m : UInt8) (h1 : m ≠ c) (h2 : m ≠ 32) (h3 : m ≠ 9) : ruleL (gapsL c l ++ [m]) = false := by
  cases l with
  | nil =>
    show ruleL [m] = false
    rw [ruleL_cons]
    simp
  | cons g t =>
    show ruleL (c :: ((List.replicate (g % 4).toNat 32 ++ gapsL c t) ++ [m])) = false
    rw [ruleL_cons]
    have : ([32, 9, c] : List UInt8).contains m = false := by
      simp only [List.contains_cons, List.contains_nil, Bool.or_false]
      simp [h1, h2, h3]
    simp only [List.all_cons, List.all_append, List.all_nil, this, Bool.and_true, Bool.and_false]
theorem replicate_take (n : Nat) (h : n ≤ 5) : (⟨#[32, 32, 32, 32, 32]⟩ : ByteArray).extract 0 n = S (List.replicate n 32) := by
  have : n = 0 ∨ n = 1 ∨ n = 2 ∨ n = 3 ∨ n = 4 ∨ n = 5 := by omega
  rcases this with rfl | rfl | rfl | rfl | rfl | rfl <;> rfl
theorem rd_get (l : List Int) (i : Nat) (h : i < l.length) : rd l (i : Int) = l[i] := by
  unfold rd
  rw [Int.toNat_natCast, List.getD_eq_getElem?_getD, List.getElem?_eq_getElem h]
  rfl

theorem rules_loop (l : List Int) (m : UInt8) (c : UInt8) (hc : ([42, 45, 95] : List UInt8).contains c = true) (hl : l.length ≤ 60) (d : Nat) : ∀ (k i : Nat), i ≤ l.length → l.length - i = d → d + 21 ≤ k →
    rubricatorlaw18_LeafRules.l0 k l (m.toNat : Int) (c.toNat : Int) (S (gapsL c (l.take i))) (i : Int) = some true := by
  induction d with
  | zero =>
    intro k i h1 hd hk
    obtain ⟨k, rfl⟩ : ∃ n, k = n + 2 := ⟨k - 2, by omega⟩
    have hlen := gapsL_len c l
    have e : l.take i = l := List.take_of_length_le (by omega)
    simp only [rubricatorlaw18_LeafRules.l0]
    rw [if_neg (by omega), e, leaf_Rule_eq _ (by omega), rule_gaps c hc, known_ok _ (by omega)]
    have e3 : (decide (3 ≤ l.length) == decide ((l.length : Int) ≥ 3)) = true := by
      rw [beq_iff_eq]
      congr 1
      apply propext
      omega
    simp only [Option.bind_some, e3, if_true]
    by_cases hm1 : m = c
    · rw [if_pos (byte_eq.2 hm1)]
    rw [if_neg (fun h => hm1 (byte_eq.1 h))]
    by_cases hm2 : m = 32
    · rw [if_pos (by rw [hm2]; rfl)]
    rw [if_neg (show ¬ ((m.toNat : Int) = 32) from fun h => hm2 ((byte_eq (a := m) (b := 32)).1 h))]
    by_cases hm3 : m = 9
    · rw [if_pos (by rw [hm3]; rfl)]
    rw [if_neg (show ¬ ((m.toNat : Int) = 9) from fun h => hm3 ((byte_eq (a := m) (b := 9)).1 h)), strOfNums_one, S_append, if_pos (by rw [S_size, S_size]; simp; omega), leaf_Rule_eq _ (by simp; omega), rule_more c l m hm1 hm2 hm3]
    rfl
  | succ d ih =>
    intro k i h1 hd hk
    obtain ⟨k, rfl⟩ : ∃ n, k = n + 1 := ⟨k - 1, by omega⟩
    have hlt : i < l.length := by omega
    have hlen := gapsL_len c (l.take i)
    have hlen2 : (l.take i).length ≤ 60 := by rw [List.length_take]; omega
    simp only [rubricatorlaw18_LeafRules.l0]
    rw [if_pos (by omega)]
    simp only [Option.bind_some]
    rw [strOfNums_one, S_append, if_pos (by rw [S_size, S_size]; simp; omega), if_pos (by omega), rd_get l i hlt, and3, if_pos (by omega), if_pos (by omega), replicate_take _ (by omega), S_append, if_pos (by rw [S_size, S_size]; simp; omega), wrap_id (by omega) (by omega)]
    have e : (gapsL c (l.take i) ++ [c]) ++ List.replicate (l[i] % 4).toNat 32 = gapsL c (l.take (i + 1)) := by
      rw [List.take_succ_eq_append_getElem hlt, gapsL_append]
      simp [gapsL]
    rw [e, show (i : Int) + 1 = ((i + 1 : Nat) : Int) by omega]
    exact ih k (i + 1) (by omega) (by omega) (by omega)

theorem LeafRules : rubricatorlaw18_LeafRules.Pure := by
  intro a0 l1 a2 _ _ _ _ h2
  refine ⟨100, ?_⟩
  unfold rubricatorlaw18_LeafRules.f
  by_cases h60 : (l1.length : Int) > 60
  · rw [if_pos h60]
  have hb := bounds_u8 h2
  rw [if_neg h60, and1023, Int.tmod_eq_emod_of_nonneg (by omega), if_pos (by omega), if_pos (by omega)]
  obtain ⟨m, rfl⟩ : ∃ m : UInt8, a2 = (m.toNat : Int) := ⟨a2.toNat.toUInt8, (byte_of_int (by omega) (by omega)).symm⟩
  obtain ⟨c, hc, hcs⟩ : ∃ c : UInt8, bt (⟨#[42, 45, 95]⟩ : ByteArray) (a0 % 1024 % 3) = (c.toNat : Int) ∧ ([42, 45, 95] : List UInt8).contains c = true := by
    have : a0 % 1024 % 3 = 0 ∨ a0 % 1024 % 3 = 1 ∨ a0 % 1024 % 3 = 2 := by omega
    rcases this with h | h | h <;> rw [h]
    · exact ⟨42, by decide, by decide⟩
    · exact ⟨45, by decide, by decide⟩
    · exact ⟨95, by decide, by decide⟩
  rw [hc]
  exact rules_loop l1 m c hcs (by omega) l1.length 100 0 (by omega) (by omega) (by omega)
end Go.Proofs.YtcmpmciadacapaaDoor.Pure
