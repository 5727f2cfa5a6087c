/- A merged text (wip/mkclaim.py). -/
import Derived.Test.YtpimcdkhjingjaaGreatDoorRAPar2
import Derived.Test.YtpimcdkhjingjaaGreatDoorRAPLQu1
set_option linter.unusedVariables false
set_option linter.unusedSimpArgs false
set_option linter.unusedSectionVars false
set_option linter.unusedVariables false
namespace Go.Proofs.YtpimcdkhjingjaaGreatDoor.Pure
open Go.RowKit Go.Proofs.YtpimcdkhjingjaaGreatDoor.PBlk Go.Proofs.YtpimcdkhjingjaaGreatDoorW.PrintWords Go.Proofs.YtpimcdkhjingjaaGreatDoor.X Go.Proofs.YtpimcdkhjingjaaGreatDoor.PLQu
def quoB : ByteArray := ⟨#[62, 32]⟩
theorem bt_byte (x : ByteArray) (j : Nat) (h : j < x.size) : bt x (j : Int) = ((x.data.toList[j]'(by rw [← Lib.size_eq]; exact h)).toNat : Int) := by
  have := S_bt x.data.toList (j : Int) (by omega) (by rw [← Lib.size_eq]; omega)
  rw [← S_eta] at this
  rw [this]
  congr 2
theorem quotes_l1 (xs : List ByteArray) (acc : List ByteArray) (i : Nat) (hi : i < xs.length) (hs : xs[i].size ≤ 140737488351232) (hb : xs.length ≤ 1500) (k : Nat) : ∀ (d j : Nat), j + d = xs[i].size →
    rubricatorlaw19_BlockQuotes.l1 (k + d + 1) xs acc (i : Int) (j : Int) = some true ∨ (rubricatorlaw19_BlockQuotes.l1 (k + d + 1) xs acc (i : Int) (j : Int) = rubricatorlaw19_BlockQuotes.l0 k xs acc ((i + 1 : Nat) : Int) ∧ (9 : UInt8) ∉ xs[i].data.toList.drop j) := by
  intro d
  induction d with
  | zero =>
    intro j hj
    right
    rw [Nat.add_zero, rubricatorlaw19_BlockQuotes.l1, if_pos (by omega), if_pos (by omega), rd_at xs i hi, if_neg (by omega), wrap_id (by omega) (by omega), List.drop_eq_nil_of_le (by rw [← Lib.size_eq]; omega)]
    exact ⟨rfl, List.not_mem_nil⟩
  | succ d ih =>
    intro j hj
    have hlt : j < xs[i].size := by omega
    have hlt2 : j < xs[i].data.toList.length := by rw [← Lib.size_eq]; exact hlt
    have e : k + (d + 1) + 1 = (k + d + 1) + 1 := by omega
    rw [e, rubricatorlaw19_BlockQuotes.l1, if_pos (by omega), if_pos (by omega), rd_at xs i hi, if_pos (by omega), if_pos (by omega), bt_byte _ _ hlt, wrap_id (by omega) (by omega), List.drop_eq_getElem_cons hlt2]
    by_cases h9 : ((xs[i].data.toList[j].toNat : Nat) : Int) = 9
    · left
      rw [if_pos h9, known_yes]
      rfl
    · rw [if_neg h9]
      have := ih (j + 1) (by omega)
      rw [show ((j + 1 : Nat) : Int) = (j : Int) + 1 by omega] at this
      rcases this with h | ⟨h1, h2⟩
      · exact .inl h
      · refine .inr ⟨h1, fun hm => ?_⟩
        rcases List.mem_cons.1 hm with hm | hm
        · exact h9 (by rw [← hm]; rfl)
        · exact h2 hm
theorem quotes_l0 (xs : List ByteArray) (hs : ∀ x ∈ xs, x.size ≤ 140737488351232) (hl : xs.length ≤ 1500) (Q : Nat)
    (hT : (∀ x ∈ xs, (9 : UInt8) ∉ x.data.toList) → ∀ k, Q ≤ k → rubricatorlaw19_BlockQuotes.l0 k xs (xs.map (quoB ++ ·)) (xs.length : Int) = some true) :
    ∀ (d i : Nat), i + d = xs.length → (∀ x ∈ xs.take i, (9 : UInt8) ∉ x.data.toList) → ∃ K, ∀ k, K ≤ k → rubricatorlaw19_BlockQuotes.l0 k xs ((xs.take i).map (quoB ++ ·)) (i : Int) = some true := by
  intro d
  induction d with
  | zero =>
    intro i hi h9
    have e : i = xs.length := by omega
    subst e
    rw [List.take_length] at h9 ⊢
    exact ⟨Q, hT h9⟩
  | succ d ih =>
    intro i hi h9
    have hlt : i < xs.length := by omega
    have hsz := hs _ (List.getElem_mem hlt)
    have hq : quoB.size = 2 := rfl
    have hal : ((xs.take i).map (quoB ++ ·)).length = i := by rw [List.length_map, List.length_take]; omega
    have hacc : ((xs.take i).map (quoB ++ ·)) ++ [quoB ++ xs[i]] = (xs.take (i + 1)).map (quoB ++ ·) := by
      rw [List.take_succ_eq_append_getElem hlt, List.map_append, List.map_singleton]
    by_cases hn : (9 : UInt8) ∈ xs[i].data.toList
    · refine ⟨xs[i].size + 2, fun k hk => ?_⟩
      obtain ⟨m, rfl⟩ : ∃ m, k = (m + xs[i].size + 1) + 1 := ⟨k - xs[i].size - 2, by omega⟩
      rw [rubricatorlaw19_BlockQuotes.l0, if_pos (by omega), if_pos (by omega), rd_at xs i hlt, if_pos (by omega), if_pos (by rw [hal]; omega)]
      rcases quotes_l1 xs (((xs.take i).map (quoB ++ ·)) ++ [quoB ++ xs[i]]) i hlt hsz hl m xs[i].size 0 (by omega) with h | ⟨_, h⟩
      · exact h
      · exact absurd hn h
    · obtain ⟨K, hK⟩ := ih (i + 1) (by omega) (fun x hx => by
        rw [List.take_succ_eq_append_getElem hlt] at hx
        rcases List.mem_append.1 hx with hx | hx
        · exact h9 x hx
        · rw [List.mem_singleton.1 hx]; exact hn)
      refine ⟨K + xs[i].size + 2, fun k hk => ?_⟩
      obtain ⟨m, rfl⟩ : ∃ m, k = (m + xs[i].size + 1) + 1 := ⟨k - xs[i].size - 2, by omega⟩
      rw [rubricatorlaw19_BlockQuotes.l0, if_pos (by omega), if_pos (by omega), rd_at xs i hlt, if_pos (by omega), if_pos (by rw [hal]; omega)]
      rcases quotes_l1 xs (((xs.take i).map (quoB ++ ·)) ++ [quoB ++ xs[i]]) i hlt hsz hl m xs[i].size 0 (by omega) with h | ⟨h, _⟩
      · exact h
      · refine h.trans ?_
        rw [hacc]
        exact hK m (by omega)
theorem lns_quo (xs : List ByteArray) : lns (xs.map (quoB ++ ·)) = (lns xs).map (fun l => 62 :: 32 :: l) := by
  unfold lns
  rw [List.map_map, List.map_map]
  refine List.map_congr_left fun x _ => ?_
  show (quoB ++ x).data.toList = 62 :: 32 :: x.data.toList
  have e1 : x = S x.data.toList := rfl
  have e2 : quoB = S [62, 32] := rfl
  rw [e2]
  conv => lhs; rw [e1]
  rw [S_append]
  rfl
theorem tot_quo (ys : List ByteArray) : tot ((lns ys).map (fun l => 62 :: 32 :: l)) ≤ 4 * wsum ys := by
  induction ys with
  | nil => exact Nat.le_refl _
  | cons y ys ih =>
    show (62 :: 32 :: y.data.toList).length + 2 + tot ((lns ys).map (fun l => 62 :: 32 :: l)) ≤ 4 * (1 + y.size + wsum ys)
    rw [List.length_cons, List.length_cons, ← Lib.size_eq]
    omega
theorem BlockQuotes (xs : List ByteArray) (hs : ∀ x ∈ xs, x.size ≤ 140737488351232) (hl : xs.length * 16 ≤ 140737488351232) : ∃ k, rubricatorlaw19_BlockQuotes.f k xs = some true := by
  have hj : ∀ k, 0 < k → rubricatorlaw19_BlockQuotes.j0 k xs true = some true := fun k hk => by
    obtain ⟨k, rfl⟩ : ∃ m, k = m + 1 := ⟨k - 1, by omega⟩
    rw [rubricatorlaw19_BlockQuotes.j0, if_pos rfl]
  by_cases hw : wsum xs ≤ 1500
  · cases hx : xs with
    | nil =>
      refine ⟨2, ?_⟩
      unfold rubricatorlaw19_BlockQuotes.f
      rw [hx] at hj
      rcases heavy_is ([] : List ByteArray) (fun x hx => by cases hx) (Nat.zero_le _) 2 (by decide) with h | ⟨h, _⟩
      · rw [h, Option.bind_some, if_pos rfl]; exact hj 2 (by decide)
      · rw [h, Option.bind_some, if_neg (by simp)]; exact hj 2 (by decide)
    | cons x t =>
      rw [← hx]
      have hlen := wsum_len xs
      have htot := tot_wsum xs
      have htq := tot_quo xs
      have hT : ∃ Q, (∀ x ∈ xs, (9 : UInt8) ∉ x.data.toList) → ∀ k, Q ≤ k → rubricatorlaw19_BlockQuotes.l0 k xs (xs.map (quoB ++ ·)) (xs.length : Int) = some true := by
        by_cases h9 : ∀ x ∈ xs, (9 : UInt8) ∉ x.data.toList
        · obtain ⟨X, p1, p2, p3, K, hK⟩ := parse_quote x.data.toList (lns t) (fun y hy => by
            have hy' : y ∈ lns (x :: t) := hy
            rw [← hx] at hy'
            unfold lns at hy'
            obtain ⟨z, hz, rfl⟩ := List.mem_map.1 hy'
            exact h9 z hz) (by
            show tot (lns (x :: t)) ≤ _
            rw [← hx]; omega)
          change parseT F0 (lns (x :: t)) = _ at p1
          change parseT F0 ((lns (x :: t)).map _) = _ at p2
          rw [← hx] at p1 p2
          refine ⟨K + 1, fun _ k hk => ?_⟩
          obtain ⟨k, rfl⟩ : ∃ m, k = m + 1 := ⟨k - 1, by omega⟩
          have hS := hK k (by omega)
          unfold SameAt at hS
          rw [rubricatorlaw19_BlockQuotes.l0, if_neg (by omega), parse_of _ (by rw [lns_quo]; omega), lns_quo, p2, Option.bind_some, parse_of xs (by omega), p1, Option.bind_some]
          refine (if_pos (by rfl)).trans ((if_pos (by exact Int.ofNat_lt.2 (Nat.succ_pos 0))).trans ((if_pos (by rfl)).trans ((if_pos (by rfl)).trans ?_)))
          refine (congrArg (fun z => Option.bind z _) (hS : _ = some true)).trans ?_
          rw [Option.bind_some, if_pos rfl, known_yes]
          rfl
        · exact ⟨0, fun h => absurd h h9⟩
      obtain ⟨Q, hQ⟩ := hT
      obtain ⟨K, hK⟩ := quotes_l0 xs hs (by omega) Q hQ xs.length 0 (by omega) (fun x hx => by rw [List.take_zero] at hx; cases hx)
      refine ⟨K + xs.length + 2, ?_⟩
      unfold rubricatorlaw19_BlockQuotes.f
      rcases heavy_is xs hs (by omega) (K + xs.length + 2) (by omega) with h | ⟨h, _⟩
      · rw [h, Option.bind_some, if_pos rfl]; exact hj _ (by omega)
      · have hne : ((xs.length : Int) == 0) = false := beq_eq_false_iff_ne.2 (by rw [hx, List.length_cons]; omega)
        rw [h, Option.bind_some, if_neg (by simp), hne, rubricatorlaw19_BlockQuotes.j0, if_neg (by simp)]
        exact hK (K + xs.length + 1) (by omega)
  · refine ⟨xs.length + 1, ?_⟩
    unfold rubricatorlaw19_BlockQuotes.f
    rcases heavy_is xs hs (by omega) (xs.length + 1) (by omega) with h | ⟨_, h⟩
    · rw [h, Option.bind_some, if_pos rfl]
      exact hj _ (by omega)
    · exact absurd h hw
end Go.Proofs.YtpimcdkhjingjaaGreatDoor.Pure
