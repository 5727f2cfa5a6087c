/- A merged text (wip/mkclaim.py). -/
import Derived.Test.YtpimcdkhjingjaaGreatDoorRCQ
import Derived.Test.YtpimcdkhjingjaaGreatDoorRCR
import Derived.Test.YtpimcdkhjingjaaGreatDoorRCS
set_option linter.unusedVariables false
set_option linter.unusedSimpArgs false
set_option linter.unusedSectionVars false
set_option linter.unusedVariables false
namespace Go.Proofs.YtpimcdkhjingjaaGreatDoor.X
open Go.RowKit Go.Proofs.YtpimcdkhjingjaaGreatDoorW.PrintWords Go.Proofs.YtpimcdkhjingjaaGreatDoor.PBlk
theorem tree_doc (s : St) (h : (s.get 0).kind = 1) (f : Nat) : s.tree (f + 1) 0 = ⟨1, 0, false, false, ⟨#[]⟩, ⟨#[]⟩, ⟨#[]⟩, (s.get 0).kids.map (s.tree f)⟩ := by
  rw [St.tree, h]
  have e1 : (s.get 0).num = 0 := by unfold Blk.num; rw [if_neg (by rw [h]; decide)]
  have e2 : (s.get 0).text = [] := by unfold Blk.text; rw [if_neg (by rw [h]; decide), if_neg (by rw [h]; decide), if_neg (by rw [h]; decide)]
  rw [e1, e2]
  rfl
end Go.Proofs.YtpimcdkhjingjaaGreatDoor.X
set_option linter.unusedVariables false
namespace Go.Proofs.YtpimcdkhjingjaaGreatDoor.Pure
open Go.RowKit Go.Proofs.YtpimcdkhjingjaaGreatDoor.PBlk Go.Proofs.YtpimcdkhjingjaaGreatDoorW.PrintWords Go.Proofs.YtpimcdkhjingjaaGreatDoor.X
set_option maxRecDepth 100000 in
theorem known_yes : rubricatorlaw19_known.f = some true := by decide +kernel
theorem parse_of (xs : List ByteArray) (h : tot (lns xs) ≤ 4000000) : block_Parse.f xs = some (tupT (parseT F0 (lns xs))) := by
  unfold block_Parse.f
  rw [if_pos h]
def wsum : List ByteArray → Nat
  | [] => 0
  | x :: t => 1 + x.size + wsum t
theorem tot_wsum : ∀ xs : List ByteArray, tot (lns xs) ≤ 2 * wsum xs
  | [] => Nat.le_refl _
  | x :: t => by
    have := tot_wsum t
    show x.data.toList.length + 2 + tot (lns t) ≤ 2 * (1 + x.size + wsum t)
    rw [← Lib.size_eq]
    omega
theorem wsum_len : ∀ xs : List ByteArray, xs.length ≤ wsum xs
  | [] => Nat.le_refl _
  | x :: t => by have := wsum_len t; rw [List.length_cons, wsum]; omega
theorem wsum_drop (xs : List ByteArray) (i : Nat) (h : i < xs.length) : wsum (xs.drop i) = 1 + xs[i].size + wsum (xs.drop (i + 1)) := by
  rw [List.drop_eq_getElem_cons h, wsum]
theorem rd_at (xs : List ByteArray) (i : Nat) (h : i < xs.length) : rdOf ByteArray.empty xs (i : Int) = xs[i] := by
  unfold rdOf
  rw [Int.toNat_natCast, List.getD_eq_getElem?_getD, List.getElem?_eq_getElem h]
  rfl
theorem heavy_at (xs : List ByteArray) (hs : ∀ x ∈ xs, x.size ≤ 140737488351232) (hl : xs.length ≤ 140737488351232) : ∀ (d k i n : Nat), i + d = xs.length → n ≤ 1500 → d + 1 ≤ k →
    (rubricatorlaw19_heavy.l0 k xs (n : Int) (i : Int) = some true) ∨ (rubricatorlaw19_heavy.l0 k xs (n : Int) (i : Int) = some false ∧ n + wsum (xs.drop i) ≤ 1500) := by
  intro d
  induction d with
  | zero =>
    intro k i n hi hn hk
    obtain ⟨k, rfl⟩ : ∃ m, k = m + 1 := ⟨k - 1, by omega⟩
    right
    rw [rubricatorlaw19_heavy.l0, if_neg (by omega), List.drop_eq_nil_of_le (by omega)]
    exact ⟨rfl, by rw [wsum]; exact hn⟩
  | succ d ih =>
    intro k i n hi hn hk
    obtain ⟨k, rfl⟩ : ∃ m, k = m + 1 := ⟨k - 1, by omega⟩
    have hlt : i < xs.length := by omega
    have hsz := hs _ (List.getElem_mem hlt)
    rw [rubricatorlaw19_heavy.l0, if_pos (by omega), if_pos (by omega), rd_at xs i hlt, wrap_id (i := (n : Int) + 1) (by omega) (by omega), wrap_id (i := (n : Int) + 1 + (xs[i].size : Int)) (by omega) (by omega), wrap_id (i := (i : Int) + 1) (by omega) (by omega)]
    by_cases hgt : (n : Int) + 1 + (xs[i].size : Int) > 1500
    · left; rw [if_pos hgt]
    · rw [if_neg hgt, wsum_drop xs i hlt]
      have := ih k (i + 1) (n + 1 + xs[i].size) (by omega) (by omega) (by omega)
      rw [show ((i + 1 : Nat) : Int) = (i : Int) + 1 by omega, show ((n + 1 + xs[i].size : Nat) : Int) = (n : Int) + 1 + (xs[i].size : Int) by omega] at this
      rcases this with h | ⟨h1, h2⟩
      · exact .inl h
      · exact .inr ⟨h1, by omega⟩
theorem heavy_is (xs : List ByteArray) (hs : ∀ x ∈ xs, x.size ≤ 140737488351232) (hl : xs.length ≤ 140737488351232) (k : Nat) (hk : xs.length + 1 ≤ k) :
    (rubricatorlaw19_heavy.f k xs = some true) ∨ (rubricatorlaw19_heavy.f k xs = some false ∧ wsum xs ≤ 1500) := by
  unfold rubricatorlaw19_heavy.f
  have := heavy_at xs hs hl xs.length k 0 0 (by omega) (by omega) hk
  rw [List.drop_zero, Nat.zero_add] at this
  exact this
theorem tot_app : ∀ a b : List (List UInt8), tot (a ++ b) = tot a + tot b
  | [], b => by rw [List.nil_append, tot, Nat.zero_add]
  | x :: a, b => by rw [List.cons_append, tot, tot, tot_app a b]; omega
theorem lns_app (a b : List ByteArray) : lns (a ++ b) = lns a ++ lns b := List.map_append
end Go.Proofs.YtpimcdkhjingjaaGreatDoor.Pure
